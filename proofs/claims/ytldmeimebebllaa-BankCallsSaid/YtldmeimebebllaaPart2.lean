/-
  A part of the proof: predicate transformers over the model, and a separation logic over them; what functions of the program do.
-/
import Derived.Test.YtldmeimebebllaaPart1
set_option linter.unusedSimpArgs false
namespace Go.Proofs.Ytldmeimebebllaa
open Go.Mo
set_option linter.unusedVariables false
variable {g : Fr} {cv : CV}
def isC (R : Rk) (i : Nat) : Bool := ((R.dk (i / R.ns)).cached ((i % R.ns : Nat) : Int)).isSome
def rank (R : Rk) (i : Nat) : Nat := ((List.range i).filter (isC R)).length
def keepB (ks : List Int) (n : Nat) : Bool := if ks.length = 0 then false else bAnd .i64 (ks.getD (n % ks.length) 0) 1 == 1
def Dk.restored (R : Rk) (ks : List Int) (j : Nat) : Dk := ((R.dk j).flushed fun k => keepB ks (rank R (j * R.ns + k.toNat)) && !(R.dk j).failed).clean
def Rk.restTo (R : Rk) (ks : List Int) (n : Nat) : Rk := { R with off := false, count := -1, dk := fun j => if j < n then Dk.restored R ks j else R.dk j }
def Rk.restore (R : Rk) (ks : List Int) : Rk := { R with off := false, count := -1, dk := fun j => Dk.restored R ks j }
def Dk.keysN (D : Dk) (m : Nat) : List Nat := (List.range m).filter fun k : Nat => (D.cached (k : Int)).isSome
theorem filter_rank {p : Nat → Bool} : ∀ {n t k : Nat}, ((List.range n).filter p)[t]? = some k → ((List.range k).filter p).length = t ∧ k < n ∧ p k = true
  | 0, t, k, h => by simp at h
  | n + 1, t, k, h => by
    rw [List.range_succ, List.filter_append] at h
    by_cases ht : t < ((List.range n).filter p).length
    · rw [List.getElem?_append_left ht] at h
      have := filter_rank h
      exact ⟨this.1, by omega, this.2.2⟩
    · rw [List.getElem?_append_right (by omega)] at h
      by_cases hp : p n = true
      · rw [List.filter_cons, if_pos hp] at h
        have h0 : t - ((List.range n).filter p).length = 0 := by
          have := (List.getElem?_eq_some_iff.1 h).1
          simp at this; omega
        rw [h0] at h
        simp at h
        subst h
        exact ⟨by omega, by omega, hp⟩
      · rw [List.filter_cons, if_neg hp] at h
        simp at h
theorem range_split (a k : Nat) : List.range (a + k) = List.range a ++ (List.range k).map (a + ·) := List.range_add
theorem rank_add (R : Rk) (j k : Nat) (hk : k ≤ R.ns) : rank R (j * R.ns + k) = rank R (j * R.ns) + ((R.dk j).keysN k).length := by
  unfold rank Dk.keysN
  rw [range_split, List.filter_append, List.length_append, List.filter_map, List.length_map]
  congr 2
  apply List.filter_congr
  intro i hi
  simp only [List.mem_range] at hi
  show isC R (j * R.ns + i) = _
  unfold isC
  have h0 : 0 < R.ns := by omega
  have h1 : (j * R.ns + i) / R.ns = j := by
    rw [Nat.mul_comm, Nat.mul_add_div h0, Nat.div_eq_of_lt (by omega)]; omega
  have h2 : (j * R.ns + i) % R.ns = i := by
    rw [Nat.mul_comm, Nat.mul_add_mod, Nat.mod_eq_of_lt (by omega)]
  rw [h1, h2]
theorem keysN_get {D : Dk} {m t k : Nat} (h : (D.keysN m)[t]? = some k) : (D.keysN k).length = t ∧ k < m ∧ (D.cached (k : Int)).isSome = true := filter_rank h
theorem rank_succ (R : Rk) (j : Nat) : rank R ((j + 1) * R.ns) = rank R (j * R.ns) + ((R.dk j).keysN R.ns).length := by
  rw [Nat.add_mul, Nat.one_mul]; exact rank_add R j R.ns (Nat.le_refl _)
theorem keysN_le (D : Dk) (m : Nat) : (D.keysN m).length ≤ m := by
  have := List.length_filter_le (fun k : Nat => (D.cached (k : Int)).isSome) (List.range m)
  rw [List.length_range] at this
  exact this
theorem rank_le (R : Rk) (i : Nat) : rank R i ≤ i := by
  have := List.length_filter_le (isC R) (List.range i)
  rw [List.length_range] at this
  exact this
def Dk.keysI (D : Dk) (m : Nat) : List Int := (D.keysN m).map fun k : Nat => (k : Int)
theorem keysI_asc (D : Dk) (m : Nat) : (D.keysI m).Pairwise (· < ·) := by
  unfold Dk.keysI Dk.keysN
  rw [List.pairwise_map]
  refine List.Pairwise.filter _ ?_
  exact (List.pairwise_lt_range (n := m)).imp fun h => by omega
theorem keysI_mem {D : Dk} {ns : Nat} (h : D.ok ns) (sc : Int → Slc) (y : Int) : y ∈ D.keysI ns ↔ ((fun j => (D.cached j).map fun _ => vS (sc j)) y).isSome = true := by
  unfold Dk.keysI Dk.keysN
  simp only [List.mem_map, List.mem_filter, List.mem_range, Option.isSome_map]
  constructor
  · rintro ⟨k, ⟨_, hk⟩, rfl⟩; exact hk
  · intro hy
    obtain ⟨b, hb⟩ := Option.isSome_iff_exists.1 hy
    have := h.2 y b hb
    refine ⟨y.toNat, ⟨by omega, ?_⟩, by omega⟩
    rw [show ((y.toNat : Nat) : Int) = y by omega]; exact hy
theorem nodup_le {α : Type} [BEq α] [LawfulBEq α] : ∀ {s l : List α}, s.Nodup → (∀ y ∈ s, y ∈ l) → s.length ≤ l.length
  | [], l, _, _ => by simp
  | a :: s, l, hn, hs => by
    rw [List.nodup_cons] at hn
    have ha : a ∈ l := hs a (by simp)
    have ih := nodup_le (l := l.erase a) hn.2 fun y hy => (List.mem_erase_of_ne (fun (e : y = a) => hn.1 (e ▸ hy))).2 (hs y (by simp [hy]))
    have hl := List.length_erase_of_mem ha
    have hp := List.length_pos_of_mem ha
    simp only [List.length_cons]; omega
theorem few_keys {D : Dk} {ns : Nat} (h : D.ok ns) (sc : Int → Slc) (s : List Int) (hn : s.Nodup) (hs : ∀ y ∈ s, ((fun j => (D.cached j).map fun _ => vS (sc j)) y).isSome = true) : s.length ≤ ns := by
  have h1 := nodup_le hn fun y hy => (keysI_mem h sc y).2 (hs y hy)
  have h2 := keysN_le D ns
  simp only [Dk.keysI, List.length_map] at h1
  omega
theorem wps_imapP {α : Type} {m : Nat} {f : Int → Option Value} {H H' : HP} {k : M α} {Q : α → HP} [hp : PickM m H f H'] (h : ∀ es clock, MapOk es.toList clock f → wps g (H' * po m (.map es clock)) k Q) : wps g H k Q := by
  rw [hp.eq]
  unfold imap
  refine wps_exr fun es => wps_exr fun clock => ?_
  rw [star_left_comm]
  exact wps_pr fun hm => h es clock hm
theorem imap_mk {m clock : Nat} {es : Array MapEntry} {f : Int → Option Value} (hm : MapOk es.toList clock f) : Ent (po m (.map es clock)) (imap m f) := ent_ex es (ent_ex clock (ent_prr hm (Ent.refl _)))
theorem flushed_eq {D : Dk} {p q : Int → Bool} {i : Nat} (h : ∀ b, D.cached (i : Int) = some b → p i = q i) : (D.flushed p).lasts i = (D.flushed q).lasts i := by
  simp only [Dk.flushed]
  cases hc : D.cached (i : Int) with
  | none => rfl
  | some b => simp only [h b hc]
theorem device_Rack_Restore_spec (hcv : KeysOk cv) {H : HP} (rb : Nat) (R : Rk) (ds : Slc) (ps : List Nat) (x : Slc) (ks : List Int) (hx : Ent H (intsP x ks)) :
    wps g (H * rackP rb R ds ps) (device_Rack_Restore cv (ptr rb) x) (fun _ => H * rackP rb (R.restore ks) ds ps) := by
  unfold device_Rack_Restore
  have hp : Ent (rackP rb R ds ps) (pr (ps.length = R.n ∧ ds.len = R.n ∧ R.n ≤ 17 ∧ R.ns ≤ 4096)) := Ent.trans (ent_left _ _) (Ent.trans (ent_left _ _) (ent_left _ _))
  refine wps_fact (Ent.trans (ent_right _ _) hp) fun ⟨h1, h2, h17, hns⟩ => ?_
  refine wps_fact (Ent.trans (ent_left _ _) (ilen_of hx)) fun hl => ?_
  unfold rackP
  simp only [← star_assoc]
  repeat (first
    | (with_reducible refine wps_bindpure ?_)
    | (with_reducible refine wps_assoc ?_)
    | (with_reducible refine wps_nil ?_)
    | (with_reducible refine wps_stepAlloc fun _ => ?_)
    | (with_reducible refine wps_alloc fun _ => ?_)
    | (with_reducible refine wps_newO fun _ => ?_)
    | (refine wps_ld _ (by rfl) ?_)
    | (refine wps_ldG _ _ _ (by rfl) ?_)
    | (refine wps_ldA _ (by rfl) ?_)
    | (refine wps_ldI _ (by rfl) ?_)
    | (refine wps_ldGI _ _ _ (by rfl) ?_)
    | (refine wps_ldAI _ (by rfl) ?_)
    | (refine wps_st (by simp) ?_)
    | (refine wps_stA (by simp) (by simp [Value.oneCell']) ?_)
    | ((with_reducible apply wps_val); apply val_ite; rotate_left; refine fun (_ : ¬ _) => ?_; rotate_right; refine fun (_ : _ = true) => ?_)
    | ((with_reducible apply val_ite); rotate_left; refine fun (_ : ¬ _) => ?_; rotate_right; refine fun (_ : _ = true) => ?_)
    | (with_reducible refine wps_regionH ?_)
    | ((with_reducible apply wps_bindV); apply val_iteL; rotate_left; refine fun (_ : ¬ _) => ?_; rotate_right; refine fun (_ : _ = true) => ?_)
    | ((with_reducible apply val_iteL); rotate_left; refine fun (_ : ¬ _) => ?_; rotate_right; refine fun (_ : _ = true) => ?_)
    | (with_reducible exact wps_pure (ent_val rfl)))
  refine wps_loop (fun s => ex fun n : Nat => pr (s.2 = (n : Int) ∧ n ≤ R.n ∧ s.1 = ((rank R (n * R.ns) : Nat) : Int)) * H * rackP rb (R.restTo ks n) ds ps) (fun s => (R.n - s.2).toNat) ?_ fun s => ?_
  · refine ent_ex 0 ?_
    have h0 : rank R (0 * R.ns) = 0 := by simp [rank]
    rw [h0]
    unfold rackP
    simp only [← star_assoc, Rk.restTo]
    have hb : bst R.n (rackF R.ns (fun j => if j < 0 then Dk.restored R ks j else R.dk j) ps) = bst R.n (rackF R.ns R.dk ps) := bst_congr fun i _ => by simp [rackF]
    rw [hb]
    repeat (first
      | (with_reducible exact ent_drop)
      | (with_reducible refine ent_pick ?_)
      | (refine ent_pickC (by rfl) ?_)
      | (refine ent_pickS (by rfl) ?_)
      | (refine ent_pickM (by rfl) ?_)
      | (refine ent_prx ?_ ?_; rotate_left)
      | (refine ent_prq ?_))
    all_goals first | exact ⟨rfl, by omega, rfl⟩ | exact ⟨h1, h2, h17, hns⟩ | trivial
  · refine wps_ex fun n => ?_
    simp only [star_assoc]
    refine wps_pr fun ⟨hi, hn, hs1⟩ => ?_
    refine wps_ite (fun hc => ?_) (fun hc => ?_)
    · have hlt : n < R.n := by simp only [decide_eq_true_eq] at hc; omega
      have hrn : (R.restTo ks n).n = R.n := rfl
      have hdn : (R.restTo ks n).dk n = R.dk n := by simp [Rk.restTo]
      have hrl : rank R (n * R.ns) ≤ 69632 := Nat.le_trans (rank_le R _) (show n * R.ns ≤ 17 * 4096 from Nat.mul_le_mul (by omega) hns)
      rw [rackP_focus rb (R.restTo ks n) ds ps (j := n) hlt, hdn]
      simp only [← star_assoc]
      refine wps_rdS n (ptr (ps.getD n 0)) hi (pv_get (by omega)) ?_
      have hnext : R.restTo ks (n + 1) = (R.restTo ks n).setD n (Dk.restored R ks n) := by
        simp only [Rk.restTo, Rk.setD, Rk.mk.injEq, true_and, and_true]
        funext j
        by_cases hj : j = n
        · subst hj; simp
        · have : j < n + 1 ↔ j < n := by omega
          simp [hj, this]
      refine wps_tail (F := pr (ps.length = (R.restTo ks n).n ∧ ds.len = (R.restTo ks n).n ∧ (R.restTo ks n).n ≤ 17 ∧ (R.restTo ks n).ns ≤ 4096) * bst (R.restTo ks n).n (hole n (rackF (R.restTo ks n).ns (R.restTo ks n).dk ps)) * own 1 ds (ps.map pv) * pc rb [vS ds, .int .i64 (R.restTo ks n).ns, .int .i64 (R.restTo ks n).count, .bool (R.restTo ks n).off])
        (A := H * dskAt R.ns (ps.getD n 0) (R.dk n)) (Q' := fun r => pr (r = .inl (((rank R ((n + 1) * R.ns) : Nat) : Int), w64 (s.2 + 1))) * H * dskAt R.ns (ps.getD n 0) (Dk.restored R ks n)) (fun g => ?_) (Ent.of_eq (by simp only [star_assoc]; ac_rfl)) (fun r => ?_)
      rotate_left
      · refine Ent.trans (B := pr (r = .inl (((rank R ((n + 1) * R.ns) : Nat) : Int), w64 (s.2 + 1))) * (H * rackP rb (R.restTo ks (n + 1)) ds ps)) (Ent.of_eq ?_) (pr_ent fun hr => ?_)
        · rw [hnext, ← rackP_set (R := R.restTo ks n) _ hlt]
          simp only [star_assoc]
          ac_rfl
        · subst hr
          refine ent_prr (by (try dsimp only); rw [range_add1 hi (by omega)]; omega) (ent_ex (n + 1) ?_)
          rw [star_assoc]
          exact ent_prr ⟨range_add1 hi (by omega), by omega, rfl⟩ (Ent.refl _)
      generalize ps.getD n 0 = p
      unfold dskAt dskX
      simp only [← star_assoc]
      refine wps_exP fun ls => wps_exP fun mb => wps_exP fun sl => wps_exP fun sc => ?_
      simp only [← star_assoc]
      refine wps_prP fun hd => ?_
      have hD : (R.dk n).ok R.ns := hd.2.2
      repeat (first
        | (with_reducible refine wps_bindpure ?_)
        | (with_reducible refine wps_assoc ?_)
        | (with_reducible refine wps_nil ?_)
        | (with_reducible refine wps_stepAlloc fun _ => ?_)
        | (with_reducible refine wps_alloc fun _ => ?_)
        | (with_reducible refine wps_newO fun _ => ?_)
        | (refine wps_ld _ (by rfl) ?_)
        | (refine wps_ldG _ _ _ (by rfl) ?_)
        | (refine wps_ldA _ (by rfl) ?_)
        | (refine wps_ldI _ (by rfl) ?_)
        | (refine wps_ldGI _ _ _ (by rfl) ?_)
        | (refine wps_ldAI _ (by rfl) ?_)
        | (refine wps_st (by simp) ?_)
        | (refine wps_stA (by simp) (by simp [Value.oneCell']) ?_)
        | ((with_reducible apply wps_val); apply val_ite; rotate_left; refine fun (_ : ¬ _) => ?_; rotate_right; refine fun (_ : _ = true) => ?_)
        | ((with_reducible apply val_ite); rotate_left; refine fun (_ : ¬ _) => ?_; rotate_right; refine fun (_ : _ = true) => ?_)
        | (with_reducible refine wps_regionH ?_)
        | ((with_reducible apply wps_bindV); apply val_iteL; rotate_left; refine fun (_ : ¬ _) => ?_; rotate_right; refine fun (_ : _ = true) => ?_)
        | ((with_reducible apply val_iteL); rotate_left; refine fun (_ : ¬ _) => ?_; rotate_right; refine fun (_ : _ = true) => ?_)
        | (with_reducible exact wps_pure (ent_val rfl)))
      unfold maps_Keys_m
      repeat (first
        | (with_reducible refine wps_bindpure ?_)
        | (with_reducible refine wps_assoc ?_)
        | (with_reducible refine wps_nil ?_)
        | (with_reducible refine wps_stepAlloc fun _ => ?_)
        | (with_reducible refine wps_alloc fun _ => ?_)
        | (with_reducible refine wps_newO fun _ => ?_)
        | (refine wps_ld _ (by rfl) ?_)
        | (refine wps_ldG _ _ _ (by rfl) ?_)
        | (refine wps_ldA _ (by rfl) ?_)
        | (refine wps_ldI _ (by rfl) ?_)
        | (refine wps_ldGI _ _ _ (by rfl) ?_)
        | (refine wps_ldAI _ (by rfl) ?_)
        | (refine wps_st (by simp) ?_)
        | (refine wps_stA (by simp) (by simp [Value.oneCell']) ?_)
        | ((with_reducible apply wps_val); apply val_ite; rotate_left; refine fun (_ : ¬ _) => ?_; rotate_right; refine fun (_ : _ = true) => ?_)
        | ((with_reducible apply val_ite); rotate_left; refine fun (_ : ¬ _) => ?_; rotate_right; refine fun (_ : _ = true) => ?_)
        | (with_reducible refine wps_regionH ?_)
        | ((with_reducible apply wps_bindV); apply val_iteL; rotate_left; refine fun (_ : ¬ _) => ?_; rotate_right; refine fun (_ : _ = true) => ?_)
        | ((with_reducible apply val_iteL); rotate_left; refine fun (_ : ¬ _) => ?_; rotate_right; refine fun (_ : _ = true) => ?_)
        | (with_reducible exact wps_pure (ent_val rfl)))
      rename_i c
      refine wps_imapP (m := mb) fun es clock hm => ?_
      refine wps_call (fun _ => slices_Sorted_spec (N := R.ns) hcv (c := c) (mb := mb) hm (fun j v hj => ?_) (few_keys hD sc) (by omega) (keysI_asc _ _) (keysI_mem hD sc)) (F := H * seqp sl (R.dk n).lasts * cachep sc (R.dk n).cached * own 1 ls (sl.map vS) * pc p [vS ls, .map (some mb), .bool (R.dk n).failed, .int .i64 (R.dk n).count]) (Ent.of_eq (by ac_rfl)) fun kt => ?_
      · obtain ⟨b, _, hb⟩ := Option.map_eq_some_iff.1 hj
        exact ⟨_, hb.symm⟩
      simp only [← star_assoc]
      refine wps_swap (imap_mk (m := mb) hm) ?_
      refine wps_fact (Ent.trans (ent_pick1 (A := own 1 kt (((R.dk n).keysI R.ns).map (Value.int .i64)))) (own_len _ _ _)) fun ⟨hkl, _⟩ => ?_
      have hkl' : kt.len = ((R.dk n).keysN R.ns).length := by simpa [Dk.keysI] using hkl.symm
      generalize hpp : (fun k : Int => keepB ks (rank R (n * R.ns + k.toNat)) && !(R.dk n).failed) = pp
      have hkn := keysN_le (R.dk n) R.ns
      refine wps_loop (fun s2 => ex fun t : Nat => ex fun sl' : List Slc => pr (s2.2 = (t : Int) ∧ t ≤ ((R.dk n).keysN R.ns).length ∧ s2.1 = ((rank R (n * R.ns) + t : Nat) : Int) ∧ sl'.length = R.ns) * H
        * seqp sl' ((R.dk n).flushed fun q => pp q && (((R.dk n).keysI R.ns).take t).contains q).lasts * cachep sc (R.dk n).cached * imap mb (fun j => Option.map (fun _ => vS (sc j)) ((R.dk n).cached j)) * own 1 ls (sl'.map vS)
        * own 1 kt (((R.dk n).keysI R.ns).map (Value.int .i64)) * pc p [vS ls, .map (some mb), .bool (R.dk n).failed, .int .i64 (R.dk n).count]) (fun s2 => (((R.dk n).keysN R.ns).length - s2.2).toNat) ?_ fun s2 => ?_
      · refine ent_ex 0 (ent_ex sl ?_)
        refine ent_swap (A := seqp sl (R.dk n).lasts) (seqp_ext (f' := ((R.dk n).flushed fun k => pp k && (((R.dk n).keysI R.ns).take 0).contains k).lasts) fun i _ => ?_) ?_
        · simp only [Dk.flushed]
          cases (R.dk n).cached i <;> simp
        · repeat (first
            | (with_reducible exact ent_drop)
            | (with_reducible refine ent_pick ?_)
            | (refine ent_pickC (by rfl) ?_)
            | (refine ent_pickS (by rfl) ?_)
            | (refine ent_pickM (by rfl) ?_)
            | (refine ent_prx ?_ ?_; rotate_left)
            | (refine ent_prq ?_))
          all_goals first | exact ⟨rfl, by omega, hs1, hd.1⟩ | trivial
      · refine wps_ex fun t => wps_ex fun sl' => ?_
        refine wps_prP fun ⟨hi2, ht, hs2, hsl'⟩ => ?_
        refine wps_ite (fun hc2 => ?_) (fun hc2 => ?_)
        · have htl : t < ((R.dk n).keysN R.ns).length := by simp only [decide_eq_true_eq] at hc2; omega
          obtain ⟨k, hkg⟩ : ∃ k, ((R.dk n).keysN R.ns)[t]? = some k := ⟨_, List.getElem?_eq_getElem htl⟩
          obtain ⟨hkt, hkns, hkc⟩ := keysN_get hkg
          obtain ⟨b, hb⟩ := Option.isSome_iff_exists.1 hkc
          have hrk : rank R (n * R.ns + k) = rank R (n * R.ns) + t := by rw [rank_add R n k (by omega), hkt]
          have hkI : ((R.dk n).keysI R.ns)[t]? = some (k : Int) := by simp [Dk.keysI, hkg]
          refine wps_rdS t (k : Int) hi2 (by rw [List.getElem?_map, hkI]; rfl) ?_
          generalize hN : rank R (n * R.ns) + t = N at *
          have hppk : pp (k : Int) = (keepB ks N && !(R.dk n).failed) := by
            rw [← hpp]
            show (keepB ks (rank R (n * R.ns + ((k : Int)).toNat)) && !(R.dk n).failed) = _
            rw [show ((k : Int)).toNat = k by omega, hrk]
          refine wps_val (v := keepB ks N) ?_ ?_
          · refine wps_ite (fun hx0 => ?_) (fun hx0 => ?_)
            · have hx0' : 0 < x.len := by simp only [decide_eq_true_eq] at hx0; omega
              refine wps_assert (by omega) ?_
              have hlt2 : N % ks.length < ks.length := Nat.mod_lt _ (by omega)
              have hmod : Int.tmod s2.1 (x.len : Int) = ((N % ks.length : Nat) : Int) := by
                rw [hs2, ← hl]; rfl
              refine wps_rd (N % ks.length) (ks.getD (N % ks.length) 0) (Ent.trans (ent_drop (B := H)) hx) hmod ?_ ?_
              · simp [zv, List.getD_eq_getElem?_getD, List.getElem?_eq_getElem hlt2]
              · refine wps_pure (ent_val ?_)
                rw [keepB, if_neg (by omega)]
            · have hx0' : x.len = 0 := by simp only [decide_eq_true_eq] at hx0; omega
              refine wps_pure (ent_val ?_)
              rw [keepB, if_pos (by omega)]
          refine wps_val (v := pp (k : Int)) ?_ ?_
          · rw [hppk]
            apply val_eq
            · repeat (first
                | (with_reducible refine wps_bindpure ?_)
                | (with_reducible refine wps_assoc ?_)
                | (with_reducible refine wps_nil ?_)
                | (with_reducible refine wps_stepAlloc fun _ => ?_)
                | (with_reducible refine wps_alloc fun _ => ?_)
                | (with_reducible refine wps_newO fun _ => ?_)
                | (refine wps_ld _ (by rfl) ?_)
                | (refine wps_ldG _ _ _ (by rfl) ?_)
                | (refine wps_ldA _ (by rfl) ?_)
                | (refine wps_ldI _ (by rfl) ?_)
                | (refine wps_ldGI _ _ _ (by rfl) ?_)
                | (refine wps_ldAI _ (by rfl) ?_)
                | (refine wps_st (by simp) ?_)
                | (refine wps_stA (by simp) (by simp [Value.oneCell']) ?_)
                | ((with_reducible apply wps_val); apply val_ite; rotate_left; refine fun (_ : ¬ _) => ?_; rotate_right; refine fun (_ : _ = true) => ?_)
                | ((with_reducible apply val_ite); rotate_left; refine fun (_ : ¬ _) => ?_; rotate_right; refine fun (_ : _ = true) => ?_)
                | (with_reducible refine wps_regionH ?_)
                | ((with_reducible apply wps_bindV); apply val_iteL; rotate_left; refine fun (_ : ¬ _) => ?_; rotate_right; refine fun (_ : _ = true) => ?_)
                | ((with_reducible apply val_iteL); rotate_left; refine fun (_ : ¬ _) => ?_; rotate_right; refine fun (_ : _ = true) => ?_)
                | (with_reducible exact wps_pure (ent_val rfl)))
            · cases keepB ks N <;> simp
          have hnxt : ∀ i : Nat, ((R.dk n).flushed fun q => pp q && (((R.dk n).keysI R.ns).take (t + 1)).contains q).lasts i = if i = k ∧ pp (k : Int) = true then b else ((R.dk n).flushed fun q => pp q && (((R.dk n).keysI R.ns).take t).contains q).lasts i := by
            intro i
            rw [List.take_add_one, hkI]
            by_cases hik : i = k
            · subst hik
              simp only [Dk.flushed, hb, Option.toList, List.contains_append]
              by_cases hpk : pp (i : Int) = true
              · simp [hpk]
              · simp [hpk]
            · rw [if_neg (fun e => hik e.1)]
              refine flushed_eq fun b' _ => ?_
              have : ¬ (i : Int) = (k : Int) := by omega
              simp [Option.toList, this]
          refine wps_ite (fun hpk => ?_) (fun hpk => ?_)
          · refine wps_regionH ?_
            repeat (first
              | (with_reducible refine wps_bindpure ?_)
              | (with_reducible refine wps_assoc ?_)
              | (with_reducible refine wps_nil ?_)
              | (with_reducible refine wps_stepAlloc fun _ => ?_)
              | (with_reducible refine wps_alloc fun _ => ?_)
              | (with_reducible refine wps_newO fun _ => ?_)
              | (refine wps_ld _ (by rfl) ?_)
              | (refine wps_ldG _ _ _ (by rfl) ?_)
              | (refine wps_ldA _ (by rfl) ?_)
              | (refine wps_ldI _ (by rfl) ?_)
              | (refine wps_ldGI _ _ _ (by rfl) ?_)
              | (refine wps_ldAI _ (by rfl) ?_)
              | (refine wps_st (by simp) ?_)
              | (refine wps_stA (by simp) (by simp [Value.oneCell']) ?_)
              | ((with_reducible apply wps_val); apply val_ite; rotate_left; refine fun (_ : ¬ _) => ?_; rotate_right; refine fun (_ : _ = true) => ?_)
              | ((with_reducible apply val_ite); rotate_left; refine fun (_ : ¬ _) => ?_; rotate_right; refine fun (_ : _ = true) => ?_)
              | (with_reducible refine wps_regionH ?_)
              | ((with_reducible apply wps_bindV); apply val_iteL; rotate_left; refine fun (_ : ¬ _) => ?_; rotate_right; refine fun (_ : _ = true) => ?_)
              | ((with_reducible apply val_iteL); rotate_left; refine fun (_ : ¬ _) => ?_; rotate_right; refine fun (_ : _ = true) => ?_)
              | (with_reducible exact wps_pure (ent_val rfl)))
            refine wps_stepV (val_lookS (some (sc (k : Int))) (by rw [hb]; rfl)) ?_
            repeat (first
              | (with_reducible refine wps_bindpure ?_)
              | (with_reducible refine wps_assoc ?_)
              | (with_reducible refine wps_nil ?_)
              | (with_reducible refine wps_stepAlloc fun _ => ?_)
              | (with_reducible refine wps_alloc fun _ => ?_)
              | (with_reducible refine wps_newO fun _ => ?_)
              | (refine wps_ld _ (by rfl) ?_)
              | (refine wps_ldG _ _ _ (by rfl) ?_)
              | (refine wps_ldA _ (by rfl) ?_)
              | (refine wps_ldI _ (by rfl) ?_)
              | (refine wps_ldGI _ _ _ (by rfl) ?_)
              | (refine wps_ldAI _ (by rfl) ?_)
              | (refine wps_st (by simp) ?_)
              | (refine wps_stA (by simp) (by simp [Value.oneCell']) ?_)
              | ((with_reducible apply wps_val); apply val_ite; rotate_left; refine fun (_ : ¬ _) => ?_; rotate_right; refine fun (_ : _ = true) => ?_)
              | ((with_reducible apply val_ite); rotate_left; refine fun (_ : ¬ _) => ?_; rotate_right; refine fun (_ : _ = true) => ?_)
              | (with_reducible refine wps_regionH ?_)
              | ((with_reducible apply wps_bindV); apply val_iteL; rotate_left; refine fun (_ : ¬ _) => ?_; rotate_right; refine fun (_ : _ = true) => ?_)
              | ((with_reducible apply val_iteL); rotate_left; refine fun (_ : ¬ _) => ?_; rotate_right; refine fun (_ : _ = true) => ?_)
              | (with_reducible exact wps_pure (ent_val rfl)))
            refine wps_wrS k rfl (by omega) ?_
            refine wps_pure (ent_prr (by (try dsimp only); rw [range_add1 hi2 (by omega)]; omega) (ent_ex (t + 1) (ent_ex (sl'.set k (sc (k : Int))) ?_)))
            refine ent_pick (ent_pick (ent_pickS (by rw [List.map_set]; rfl) (ent_pick ?_)))
            rw [star_right_comm]
            refine Ent.trans (B := H * (seqp sl' ((R.dk n).flushed fun q => pp q && (((R.dk n).keysI R.ns).take t).contains q).lasts * cachep sc (R.dk n).cached)) (Ent.of_eq (by simp only [← star_assoc, emp_star]; try ac_rfl)) ?_
            refine Ent.trans (Ent.starr (ent_and (B := seqp (sl'.set k (sc (k : Int))) ((R.dk n).flushed fun q => pp q && (((R.dk n).keysI R.ns).take (t + 1)).contains q).lasts) (C := cachep sc (R.dk n).cached) ?_ (ent_right _ _))) ?_
            · refine Ent.trans (seqp_set (k := k) (b := b) (ent_left _ _) (Ent.trans (ent_right _ _) (cachep_get hb))) (seqp_ext fun i _ => ?_)
              rw [hnxt i]
              by_cases hik : i = k <;> simp [hik, hpk]
            · simp only [← star_assoc]
              repeat (first
                | (with_reducible exact ent_drop)
                | (with_reducible refine ent_pick ?_)
                | (refine ent_pickC (by rfl) ?_)
                | (refine ent_pickS (by rfl) ?_)
                | (refine ent_pickM (by rfl) ?_)
                | (refine ent_prx ?_ ?_; rotate_left)
                | (refine ent_prq ?_))
              all_goals first | exact ⟨range_add1 hi2 (by omega), by omega, by rw [range_add1 hs2 (by omega)]; omega, by simpa using hsl'⟩ | trivial
          · refine wps_pure (ent_prr (by (try dsimp only); rw [range_add1 hi2 (by omega)]; omega) (ent_ex (t + 1) (ent_ex sl' ?_)))
            have hq : Ent (seqp sl' ((R.dk n).flushed fun q => pp q && (((R.dk n).keysI R.ns).take t).contains q).lasts) (seqp sl' ((R.dk n).flushed fun q => pp q && (((R.dk n).keysI R.ns).take (t + 1)).contains q).lasts) := seqp_ext fun i _ => by
              rw [hnxt i, if_neg (fun e => hpk e.2)]
            refine ent_swap (A := seqp sl' ((R.dk n).flushed fun q => pp q && (((R.dk n).keysI R.ns).take t).contains q).lasts) hq ?_
            repeat (first
              | (with_reducible exact ent_drop)
              | (with_reducible refine ent_pick ?_)
              | (refine ent_pickC (by rfl) ?_)
              | (refine ent_pickS (by rfl) ?_)
              | (refine ent_pickM (by rfl) ?_)
              | (refine ent_prx ?_ ?_; rotate_left)
              | (refine ent_prq ?_))
            all_goals first | exact ⟨range_add1 hi2 (by omega), by omega, by rw [range_add1 hs2 (by omega)]; omega, hsl'⟩ | trivial
        · have hte : t = ((R.dk n).keysN R.ns).length := by simp only [decide_eq_true_eq] at hc2; omega
          refine wps_mapR ?_
          repeat (first
            | (with_reducible refine wps_bindpure ?_)
            | (with_reducible refine wps_assoc ?_)
            | (with_reducible refine wps_nil ?_)
            | (with_reducible refine wps_stepAlloc fun _ => ?_)
            | (with_reducible refine wps_alloc fun _ => ?_)
            | (with_reducible refine wps_newO fun _ => ?_)
            | (refine wps_ld _ (by rfl) ?_)
            | (refine wps_ldG _ _ _ (by rfl) ?_)
            | (refine wps_ldA _ (by rfl) ?_)
            | (refine wps_ldI _ (by rfl) ?_)
            | (refine wps_ldGI _ _ _ (by rfl) ?_)
            | (refine wps_ldAI _ (by rfl) ?_)
            | (refine wps_st (by simp) ?_)
            | (refine wps_stA (by simp) (by simp [Value.oneCell']) ?_)
            | ((with_reducible apply wps_val); apply val_ite; rotate_left; refine fun (_ : ¬ _) => ?_; rotate_right; refine fun (_ : _ = true) => ?_)
            | ((with_reducible apply val_ite); rotate_left; refine fun (_ : ¬ _) => ?_; rotate_right; refine fun (_ : _ = true) => ?_)
            | (with_reducible refine wps_regionH ?_)
            | ((with_reducible apply wps_bindV); apply val_iteL; rotate_left; refine fun (_ : ¬ _) => ?_; rotate_right; refine fun (_ : _ = true) => ?_)
            | ((with_reducible apply val_iteL); rotate_left; refine fun (_ : ¬ _) => ?_; rotate_right; refine fun (_ : _ = true) => ?_)
            | (with_reducible exact wps_pure (ent_val rfl)))
          refine wps_clearS (wps_pure ?_)
          have hs2' : s2.1 = ((rank R ((n + 1) * R.ns) : Nat) : Int) := by rw [hs2, rank_succ, hte]
          rw [hs2']
          show Ent _ (pr _ * H * ex _)
          refine ent_exr ls ?_
          refine ent_exr mb ?_
          refine ent_exr sl' ?_
          refine ent_exr sc ?_
          simp only [← star_assoc]
          refine ent_pickC (by rfl) (ent_pick (ent_pickM (by rfl) (ent_pers ?_ (cachep_nil _ _))))
          have hq : Ent (seqp sl' ((R.dk n).flushed fun q => pp q && (((R.dk n).keysI R.ns).take t).contains q).lasts) (seqp sl' (Dk.restored R ks n).lasts) := seqp_ext fun i hi => by
            show _ = ((R.dk n).flushed fun k => keepB ks (rank R (n * R.ns + k.toNat)) && !(R.dk n).failed).lasts i
            rw [hpp]
            refine flushed_eq fun b hb => ?_
            have hmem : (i : Int) ∈ (R.dk n).keysI R.ns := (keysI_mem hD sc (i : Int)).2 (by simp [hb])
            have hlen : ((R.dk n).keysI R.ns).length = t := by rw [hte]; simp [Dk.keysI]
            rw [List.take_of_length_le (by omega)]
            simp [hmem]
          refine ent_swap (A := seqp sl' ((R.dk n).flushed fun q => pp q && (((R.dk n).keysI R.ns).take t).contains q).lasts) hq ?_
          have hok : (Dk.restored R ks n).ok R.ns := ⟨(Dk.ok_flushed hD fun k => keepB ks (rank R (n * R.ns + k.toNat)) && !(R.dk n).failed).1, fun j b h => by cases h⟩
          repeat (first
            | (with_reducible exact ent_drop)
            | (with_reducible refine ent_pick ?_)
            | (refine ent_pickC (by rfl) ?_)
            | (refine ent_pickS (by rfl) ?_)
            | (refine ent_pickM (by rfl) ?_)
            | (refine ent_prx ?_ ?_; rotate_left)
            | (refine ent_prq ?_))
          all_goals first | exact ⟨hsl', hd.2.1, hok⟩ | rfl | trivial
    · have hne : n = R.n := by simp only [decide_eq_true_eq] at hc; omega
      subst hne
      refine wps_mapR (wps_pure (Ent.starr (Ent.of_eq ?_)))
      unfold rackP
      simp only [Rk.restTo, Rk.restore]
      rw [bst_congr (F := rackF R.ns (fun j => if j < R.n then Dk.restored R ks j else R.dk j) ps) (F' := rackF R.ns (fun j => Dk.restored R ks j) ps) fun j hj => by simp [rackF, hj]]
      simp only [star_assoc]
end Go.Proofs.Ytldmeimebebllaa
namespace Go.Proofs.Ytldmeimebebllaa
open Go.Mo
set_option linter.unusedVariables false
variable {g : Fr} {cv : CV}
def flushL : List Int → Rk → Rk × Int
  | [], R => (R, 0)
  | d :: ds, R => if R.gate d 0 64 = 12 then (R.flush d, 12) else flushL ds (R.flush d)
theorem bank_Flush_spec (hcv : DisksOk cv) (bb rb : Nat) (q m : G3) (hq : q.1 ≤ 16) (R : Rk) (ds : Slc) (ps : List Nat) :
    wps g (bnk bb rb q m * rackP rb R ds ps) (bank_Bank_Flush cv (ptr bb)) (fun e => pr (e = (flushL (disksL q m) R).2) * bnk bb rb q m * rackP rb (flushL (disksL q m) R).1 ds ps) := by
  unfold bank_Bank_Flush
  repeat (first
    | (with_reducible refine wps_bindpure ?_)
    | (with_reducible refine wps_assoc ?_)
    | (with_reducible refine wps_nil ?_)
    | (with_reducible refine wps_stepAlloc fun _ => ?_)
    | (with_reducible refine wps_alloc fun _ => ?_)
    | (with_reducible refine wps_newO fun _ => ?_)
    | (refine wps_ld _ (by rfl) ?_)
    | (refine wps_ldG _ _ _ (by rfl) ?_)
    | (refine wps_ldA _ (by rfl) ?_)
    | (refine wps_ldI _ (by rfl) ?_)
    | (refine wps_ldGI _ _ _ (by rfl) ?_)
    | (refine wps_ldAI _ (by rfl) ?_)
    | (refine wps_st (by simp) ?_)
    | (refine wps_stA (by simp) (by simp [Value.oneCell']) ?_)
    | ((with_reducible apply wps_val); apply val_ite; rotate_left; refine fun (_ : ¬ _) => ?_; rotate_right; refine fun (_ : _ = true) => ?_)
    | ((with_reducible apply val_ite); rotate_left; refine fun (_ : ¬ _) => ?_; rotate_right; refine fun (_ : _ = true) => ?_)
    | (with_reducible refine wps_regionH ?_)
    | ((with_reducible apply wps_bindV); apply val_iteL; rotate_left; refine fun (_ : ¬ _) => ?_; rotate_right; refine fun (_ : _ = true) => ?_)
    | ((with_reducible apply val_iteL); rotate_left; refine fun (_ : ¬ _) => ?_; rotate_right; refine fun (_ : _ = true) => ?_)
    | (with_reducible exact wps_pure (ent_val rfl)))
  rename_i x1 x2
  refine wps_rangeF (F := emp)
    (fun i => ex fun R' : Rk => pr (flushL (disksL q m) R = flushL ((disksL q m).drop i) R') * rackP rb R' ds ps * pc x1 [.pointer (ptr bb)] * pc x2 [.int .i64 0])
    (fun j => match j with | .ret => ex fun R' : Rk => pr (flushL (disksL q m) R = (R', 12)) * rackP rb R' ds ps * pc x2 [.int .i64 12] | .exit _ => pr False)
    (fun i d t => pr (t = d) * (bnk bb rb q m * ex fun R' : Rk => pr (flushL (disksL q m) R = flushL ((disksL q m).drop i) R') * rackP rb R' ds ps * pc x1 [.pointer (ptr bb)] * pc x2 [.int .i64 0]))
    (disks_iter hcv bb rb q m hq) ?_ ?_ ?_ ?_ ?_ ?_
  · rw [emp_star]
    refine Ent.trans ?_ (Ent.starr (ent_ex R (Ent.refl _)))
    simp only [← star_assoc]
    exact ent_pickC (by rfl) (ent_pickC (by rfl) (ent_pick (ent_prx rfl ent_drop)))
  · intro i d hd g
    exact wps_pure (ent_prr rfl (Ent.refl _))
  · intro i d hd t g
    refine wps_pr fun ht => ?_
    subst ht
    refine wps_exP fun R' => ?_
    simp only [← star_assoc]
    refine wps_prP fun hR => ?_
    rw [drop_cons hd, flushL] at hR
    repeat (first
      | (with_reducible refine wps_bindpure ?_)
      | (with_reducible refine wps_assoc ?_)
      | (with_reducible refine wps_nil ?_)
      | (with_reducible refine wps_stepAlloc fun _ => ?_)
      | (with_reducible refine wps_alloc fun _ => ?_)
      | (with_reducible refine wps_newO fun _ => ?_)
      | (refine wps_ld _ (by rfl) ?_)
      | (refine wps_ldG _ _ _ (by rfl) ?_)
      | (refine wps_ldA _ (by rfl) ?_)
      | (refine wps_ldI _ (by rfl) ?_)
      | (refine wps_ldGI _ _ _ (by rfl) ?_)
      | (refine wps_ldAI _ (by rfl) ?_)
      | (refine wps_st (by simp) ?_)
      | (refine wps_stA (by simp) (by simp [Value.oneCell']) ?_)
      | ((with_reducible apply wps_val); apply val_ite; rotate_left; refine fun (_ : ¬ _) => ?_; rotate_right; refine fun (_ : _ = true) => ?_)
      | ((with_reducible apply val_ite); rotate_left; refine fun (_ : ¬ _) => ?_; rotate_right; refine fun (_ : _ = true) => ?_)
      | (with_reducible refine wps_regionH ?_)
      | ((with_reducible apply wps_bindV); apply val_iteL; rotate_left; refine fun (_ : ¬ _) => ?_; rotate_right; refine fun (_ : _ = true) => ?_)
      | ((with_reducible apply val_iteL); rotate_left; refine fun (_ : ¬ _) => ?_; rotate_right; refine fun (_ : _ = true) => ?_)
      | (with_reducible exact wps_pure (ent_val rfl)))
    refine wps_callH (fun _ => device_Rack_Flush_spec rb R' ds ps t) fun e => ?_
    simp only [← star_assoc]
    refine wps_prP fun he => ?_
    subst he
    refine wps_ite (fun h12 => ?_) (fun h12 => ?_)
    · have h12' : R'.gate t 0 64 = 12 := by simpa using h12
      rw [if_pos h12'] at hR
      repeat (first
        | (with_reducible refine wps_bindpure ?_)
        | (with_reducible refine wps_assoc ?_)
        | (with_reducible refine wps_nil ?_)
        | (with_reducible refine wps_stepAlloc fun _ => ?_)
        | (with_reducible refine wps_alloc fun _ => ?_)
        | (with_reducible refine wps_newO fun _ => ?_)
        | (refine wps_ld _ (by rfl) ?_)
        | (refine wps_ldG _ _ _ (by rfl) ?_)
        | (refine wps_ldA _ (by rfl) ?_)
        | (refine wps_ldI _ (by rfl) ?_)
        | (refine wps_ldGI _ _ _ (by rfl) ?_)
        | (refine wps_ldAI _ (by rfl) ?_)
        | (refine wps_st (by simp) ?_)
        | (refine wps_stA (by simp) (by simp [Value.oneCell']) ?_)
        | ((with_reducible apply wps_val); apply val_ite; rotate_left; refine fun (_ : ¬ _) => ?_; rotate_right; refine fun (_ : _ = true) => ?_)
        | ((with_reducible apply val_ite); rotate_left; refine fun (_ : ¬ _) => ?_; rotate_right; refine fun (_ : _ = true) => ?_)
        | (with_reducible refine wps_regionH ?_)
        | ((with_reducible apply wps_bindV); apply val_iteL; rotate_left; refine fun (_ : ¬ _) => ?_; rotate_right; refine fun (_ : _ = true) => ?_)
        | ((with_reducible apply val_iteL); rotate_left; refine fun (_ : ¬ _) => ?_; rotate_right; refine fun (_ : _ = true) => ?_)
        | (with_reducible exact wps_pure (ent_val rfl)))
      refine wps_pure ?_
      refine Ent.trans ?_ (Ent.starr (ent_ex (R'.flush t) (Ent.refl _)))
      simp only [← star_assoc]
      exact ent_pickC (by rw [h12']; rfl) (ent_pick (ent_prx hR ent_drop))
    · have h12' : ¬ R'.gate t 0 64 = 12 := by simpa using h12
      rw [if_neg h12'] at hR
      refine wps_pure ?_
      refine Ent.trans ?_ (Ent.starr (ent_ex (R'.flush t) (Ent.refl _)))
      simp only [← star_assoc]
      exact ent_pick (ent_pick (ent_pick (ent_prx hR ent_drop)))
  · intro D
    refine wps_exP fun R' => ?_
    simp only [← star_assoc]
    refine wps_prP fun hR => ?_
    rw [List.drop_length, flushL] at hR
    repeat (first
      | (with_reducible refine wps_bindpure ?_)
      | (with_reducible refine wps_assoc ?_)
      | (with_reducible refine wps_nil ?_)
      | (with_reducible refine wps_stepAlloc fun _ => ?_)
      | (with_reducible refine wps_alloc fun _ => ?_)
      | (with_reducible refine wps_newO fun _ => ?_)
      | (refine wps_ld _ (by rfl) ?_)
      | (refine wps_ldG _ _ _ (by rfl) ?_)
      | (refine wps_ldA _ (by rfl) ?_)
      | (refine wps_ldI _ (by rfl) ?_)
      | (refine wps_ldGI _ _ _ (by rfl) ?_)
      | (refine wps_ldAI _ (by rfl) ?_)
      | (refine wps_st (by simp) ?_)
      | (refine wps_stA (by simp) (by simp [Value.oneCell']) ?_)
      | ((with_reducible apply wps_val); apply val_ite; rotate_left; refine fun (_ : ¬ _) => ?_; rotate_right; refine fun (_ : _ = true) => ?_)
      | ((with_reducible apply val_ite); rotate_left; refine fun (_ : ¬ _) => ?_; rotate_right; refine fun (_ : _ = true) => ?_)
      | (with_reducible refine wps_regionH ?_)
      | ((with_reducible apply wps_bindV); apply val_iteL; rotate_left; refine fun (_ : ¬ _) => ?_; rotate_right; refine fun (_ : _ = true) => ?_)
      | ((with_reducible apply val_iteL); rotate_left; refine fun (_ : ¬ _) => ?_; rotate_right; refine fun (_ : _ = true) => ?_)
      | (with_reducible exact wps_pure (ent_val rfl)))
    refine wps_take ?_
    repeat (first
      | (with_reducible refine wps_bindpure ?_)
      | (with_reducible refine wps_assoc ?_)
      | (with_reducible refine wps_nil ?_)
      | (with_reducible refine wps_stepAlloc fun _ => ?_)
      | (with_reducible refine wps_alloc fun _ => ?_)
      | (with_reducible refine wps_newO fun _ => ?_)
      | (refine wps_ld _ (by rfl) ?_)
      | (refine wps_ldG _ _ _ (by rfl) ?_)
      | (refine wps_ldA _ (by rfl) ?_)
      | (refine wps_ldI _ (by rfl) ?_)
      | (refine wps_ldGI _ _ _ (by rfl) ?_)
      | (refine wps_ldAI _ (by rfl) ?_)
      | (refine wps_st (by simp) ?_)
      | (refine wps_stA (by simp) (by simp [Value.oneCell']) ?_)
      | ((with_reducible apply wps_val); apply val_ite; rotate_left; refine fun (_ : ¬ _) => ?_; rotate_right; refine fun (_ : _ = true) => ?_)
      | ((with_reducible apply val_ite); rotate_left; refine fun (_ : ¬ _) => ?_; rotate_right; refine fun (_ : _ = true) => ?_)
      | (with_reducible refine wps_regionH ?_)
      | ((with_reducible apply wps_bindV); apply val_iteL; rotate_left; refine fun (_ : ¬ _) => ?_; rotate_right; refine fun (_ : _ = true) => ?_)
      | ((with_reducible apply val_iteL); rotate_left; refine fun (_ : ¬ _) => ?_; rotate_right; refine fun (_ : _ = true) => ?_)
      | (with_reducible exact wps_pure (ent_val rfl)))
    refine wps_pure ?_
    rw [hR]
    exact ent_pick (ent_pick (ent_prq rfl))
  · intro D
    refine wps_exP fun R' => ?_
    simp only [← star_assoc]
    refine wps_prP fun hR => ?_
    refine wps_take ?_
    repeat (first
      | (with_reducible refine wps_bindpure ?_)
      | (with_reducible refine wps_assoc ?_)
      | (with_reducible refine wps_nil ?_)
      | (with_reducible refine wps_stepAlloc fun _ => ?_)
      | (with_reducible refine wps_alloc fun _ => ?_)
      | (with_reducible refine wps_newO fun _ => ?_)
      | (refine wps_ld _ (by rfl) ?_)
      | (refine wps_ldG _ _ _ (by rfl) ?_)
      | (refine wps_ldA _ (by rfl) ?_)
      | (refine wps_ldI _ (by rfl) ?_)
      | (refine wps_ldGI _ _ _ (by rfl) ?_)
      | (refine wps_ldAI _ (by rfl) ?_)
      | (refine wps_st (by simp) ?_)
      | (refine wps_stA (by simp) (by simp [Value.oneCell']) ?_)
      | ((with_reducible apply wps_val); apply val_ite; rotate_left; refine fun (_ : ¬ _) => ?_; rotate_right; refine fun (_ : _ = true) => ?_)
      | ((with_reducible apply val_ite); rotate_left; refine fun (_ : ¬ _) => ?_; rotate_right; refine fun (_ : _ = true) => ?_)
      | (with_reducible refine wps_regionH ?_)
      | ((with_reducible apply wps_bindV); apply val_iteL; rotate_left; refine fun (_ : ¬ _) => ?_; rotate_right; refine fun (_ : _ = true) => ?_)
      | ((with_reducible apply val_iteL); rotate_left; refine fun (_ : ¬ _) => ?_; rotate_right; refine fun (_ : _ = true) => ?_)
      | (with_reducible exact wps_pure (ent_val rfl)))
    refine wps_pure ?_
    rw [hR]
    exact ent_pick (ent_pick (ent_prq rfl))
  · intro D id
    exact wps_false (fun o ho => by
      have := ent_right _ _ o (ent_left _ _ o ho)
      exact ent_right _ _ o this)
theorem bank_SpareFailed_val (bb rb : Nat) (q m : G3) (R : Rk) (ds : Slc) (ps : List Nat) : Val g (bnk bb rb q m * rackP rb R ds ps) (bank_Bank_SpareFailed (ptr bb)) (R.failedB q.1) := by
  unfold bank_Bank_SpareFailed
  repeat (first
    | (with_reducible refine wps_bindpure ?_)
    | (with_reducible refine wps_assoc ?_)
    | (with_reducible refine wps_nil ?_)
    | (with_reducible refine wps_stepAlloc fun _ => ?_)
    | (with_reducible refine wps_alloc fun _ => ?_)
    | (with_reducible refine wps_newO fun _ => ?_)
    | (refine wps_ld _ (by rfl) ?_)
    | (refine wps_ldG _ _ _ (by rfl) ?_)
    | (refine wps_ldA _ (by rfl) ?_)
    | (refine wps_ldI _ (by rfl) ?_)
    | (refine wps_ldGI _ _ _ (by rfl) ?_)
    | (refine wps_ldAI _ (by rfl) ?_)
    | (refine wps_st (by simp) ?_)
    | (refine wps_stA (by simp) (by simp [Value.oneCell']) ?_)
    | ((with_reducible apply wps_val); apply val_ite; rotate_left; refine fun (_ : ¬ _) => ?_; rotate_right; refine fun (_ : _ = true) => ?_)
    | ((with_reducible apply val_ite); rotate_left; refine fun (_ : ¬ _) => ?_; rotate_right; refine fun (_ : _ = true) => ?_)
    | (with_reducible refine wps_regionH ?_)
    | ((with_reducible apply wps_bindV); apply val_iteL; rotate_left; refine fun (_ : ¬ _) => ?_; rotate_right; refine fun (_ : _ = true) => ?_)
    | ((with_reducible apply val_iteL); rotate_left; refine fun (_ : ¬ _) => ?_; rotate_right; refine fun (_ : _ = true) => ?_)
    | (with_reducible exact wps_pure (ent_val rfl)))
  refine wps_valH (fun _ => device_Rack_Failed_val rb R ds ps q.1) ?_
  repeat (first
    | (with_reducible refine wps_bindpure ?_)
    | (with_reducible refine wps_assoc ?_)
    | (with_reducible refine wps_nil ?_)
    | (with_reducible refine wps_stepAlloc fun _ => ?_)
    | (with_reducible refine wps_alloc fun _ => ?_)
    | (with_reducible refine wps_newO fun _ => ?_)
    | (refine wps_ld _ (by rfl) ?_)
    | (refine wps_ldG _ _ _ (by rfl) ?_)
    | (refine wps_ldA _ (by rfl) ?_)
    | (refine wps_ldI _ (by rfl) ?_)
    | (refine wps_ldGI _ _ _ (by rfl) ?_)
    | (refine wps_ldAI _ (by rfl) ?_)
    | (refine wps_st (by simp) ?_)
    | (refine wps_stA (by simp) (by simp [Value.oneCell']) ?_)
    | ((with_reducible apply wps_val); apply val_ite; rotate_left; refine fun (_ : ¬ _) => ?_; rotate_right; refine fun (_ : _ = true) => ?_)
    | ((with_reducible apply val_ite); rotate_left; refine fun (_ : ¬ _) => ?_; rotate_right; refine fun (_ : _ = true) => ?_)
    | (with_reducible refine wps_regionH ?_)
    | ((with_reducible apply wps_bindV); apply val_iteL; rotate_left; refine fun (_ : ¬ _) => ?_; rotate_right; refine fun (_ : _ = true) => ?_)
    | ((with_reducible apply val_iteL); rotate_left; refine fun (_ : ¬ _) => ?_; rotate_right; refine fun (_ : _ = true) => ?_)
    | (with_reducible exact wps_pure (ent_val rfl)))
theorem bank_Read_spec (bb rb : Nat) (q m : G3) (R : Rk) (ds : Slc) (ps : List Nat) (slot s : Int) :
    wps g (bnk bb rb q m * rackP rb R ds ps) (bank_Bank_Read (ptr bb) slot s) (fun x =>
      pr (x.2 = if (slotV q m slot).2 then R.rdErr (slotV q m slot).1 s else 11) * bnk bb rb q m * rackP rb R ds ps * own 1 x.1 (bv (if (slotV q m slot).2 then R.rd (slotV q m slot).1 s else []))) := by
  unfold bank_Bank_Read
  refine wps_valH (fun _ => bank_disk_val bb rb q m slot) ?_
  by_cases hv : (slotV q m slot).2 = true
  · simp only [hv, if_true]
    refine wps_ite (fun h => absurd h (by simp)) (fun _ => ?_)
    repeat (first
      | (with_reducible refine wps_bindpure ?_)
      | (with_reducible refine wps_assoc ?_)
      | (with_reducible refine wps_nil ?_)
      | (with_reducible refine wps_stepAlloc fun _ => ?_)
      | (with_reducible refine wps_alloc fun _ => ?_)
      | (with_reducible refine wps_newO fun _ => ?_)
      | (refine wps_ld _ (by rfl) ?_)
      | (refine wps_ldG _ _ _ (by rfl) ?_)
      | (refine wps_ldA _ (by rfl) ?_)
      | (refine wps_ldI _ (by rfl) ?_)
      | (refine wps_ldGI _ _ _ (by rfl) ?_)
      | (refine wps_ldAI _ (by rfl) ?_)
      | (refine wps_st (by simp) ?_)
      | (refine wps_stA (by simp) (by simp [Value.oneCell']) ?_)
      | ((with_reducible apply wps_val); apply val_ite; rotate_left; refine fun (_ : ¬ _) => ?_; rotate_right; refine fun (_ : _ = true) => ?_)
      | ((with_reducible apply val_ite); rotate_left; refine fun (_ : ¬ _) => ?_; rotate_right; refine fun (_ : _ = true) => ?_)
      | (with_reducible refine wps_regionH ?_)
      | ((with_reducible apply wps_bindV); apply val_iteL; rotate_left; refine fun (_ : ¬ _) => ?_; rotate_right; refine fun (_ : _ = true) => ?_)
      | ((with_reducible apply val_iteL); rotate_left; refine fun (_ : ¬ _) => ?_; rotate_right; refine fun (_ : _ = true) => ?_)
      | (with_reducible exact wps_pure (ent_val rfl)))
    refine wps_callH (fun _ => device_Rack_Read_spec rb R ds ps (slotV q m slot).1 s) fun x => wps_pure ?_
    simp only [← star_assoc]
    exact ent_pick (ent_pick (ent_pick ent_drop))
  · simp only [hv, if_false, Bool.false_eq_true]
    refine wps_ite (fun _ => wps_pure ?_) (fun h => absurd rfl h)
    exact ent_own0 (ent_pick (ent_pick (ent_prq rfl)))
def Rk.doom (R : Rk) (k c : Int) : Rk := if k < 0 ∨ k ≥ R.n then R else R.setD k.toNat { R.dk k.toNat with count := maxI c (-1) }
theorem device_Rack_Doom_spec (rb : Nat) (R : Rk) (ds : Slc) (ps : List Nat) (k c : Int) :
    wps g (rackP rb R ds ps) (device_Rack_Doom (ptr rb) k c) (fun e => pr (e = if k < 0 ∨ k ≥ R.n then 11 else 0) * rackP rb (R.doom k c) ds ps) := by
  unfold device_Rack_Doom
  have hp : Ent (rackP rb R ds ps) (pr (ps.length = R.n ∧ ds.len = R.n ∧ R.n ≤ 17 ∧ R.ns ≤ 4096)) := Ent.trans (ent_left _ _) (Ent.trans (ent_left _ _) (ent_left _ _))
  refine wps_fact hp fun ⟨h1, h2, h17, hns⟩ => ?_
  by_cases hk : k < 0 ∨ k ≥ R.n
  · rw [if_pos hk, Rk.doom, if_pos hk]
    refine wps_val (v := true) ?_ (wps_ite (fun _ => wps_pure (ent_prr rfl (Ent.refl _))) (fun h => absurd rfl h))
    unfold rackP
    apply val_eq
    · repeat (first
        | (with_reducible refine wps_bindpure ?_)
        | (with_reducible refine wps_assoc ?_)
        | (with_reducible refine wps_nil ?_)
        | (with_reducible refine wps_stepAlloc fun _ => ?_)
        | (with_reducible refine wps_alloc fun _ => ?_)
        | (with_reducible refine wps_newO fun _ => ?_)
        | (refine wps_ld _ (by rfl) ?_)
        | (refine wps_ldG _ _ _ (by rfl) ?_)
        | (refine wps_ldA _ (by rfl) ?_)
        | (refine wps_ldI _ (by rfl) ?_)
        | (refine wps_ldGI _ _ _ (by rfl) ?_)
        | (refine wps_ldAI _ (by rfl) ?_)
        | (refine wps_st (by simp) ?_)
        | (refine wps_stA (by simp) (by simp [Value.oneCell']) ?_)
        | ((with_reducible apply wps_val); apply val_ite; rotate_left; refine fun (_ : ¬ _) => ?_; rotate_right; refine fun (_ : _ = true) => ?_)
        | ((with_reducible apply val_ite); rotate_left; refine fun (_ : ¬ _) => ?_; rotate_right; refine fun (_ : _ = true) => ?_)
        | (with_reducible refine wps_regionH ?_)
        | ((with_reducible apply wps_bindV); apply val_iteL; rotate_left; refine fun (_ : ¬ _) => ?_; rotate_right; refine fun (_ : _ = true) => ?_)
        | ((with_reducible apply val_iteL); rotate_left; refine fun (_ : ¬ _) => ?_; rotate_right; refine fun (_ : _ = true) => ?_)
        | (with_reducible exact wps_pure (ent_val rfl)))
    · rw [h2]
      by_cases h : k < 0
      · simp [h]
      · have : k ≥ R.n := by omega
        simp [h, this]
  · rw [if_neg hk, Rk.doom, if_neg hk]
    have hlt : k.toNat < R.n := by omega
    refine wps_val (v := false) ?_ (wps_ite (fun h => absurd h (by simp)) (fun _ => ?_))
    · unfold rackP
      apply val_eq
      · repeat (first
          | (with_reducible refine wps_bindpure ?_)
          | (with_reducible refine wps_assoc ?_)
          | (with_reducible refine wps_nil ?_)
          | (with_reducible refine wps_stepAlloc fun _ => ?_)
          | (with_reducible refine wps_alloc fun _ => ?_)
          | (with_reducible refine wps_newO fun _ => ?_)
          | (refine wps_ld _ (by rfl) ?_)
          | (refine wps_ldG _ _ _ (by rfl) ?_)
          | (refine wps_ldA _ (by rfl) ?_)
          | (refine wps_ldI _ (by rfl) ?_)
          | (refine wps_ldGI _ _ _ (by rfl) ?_)
          | (refine wps_ldAI _ (by rfl) ?_)
          | (refine wps_st (by simp) ?_)
          | (refine wps_stA (by simp) (by simp [Value.oneCell']) ?_)
          | ((with_reducible apply wps_val); apply val_ite; rotate_left; refine fun (_ : ¬ _) => ?_; rotate_right; refine fun (_ : _ = true) => ?_)
          | ((with_reducible apply val_ite); rotate_left; refine fun (_ : ¬ _) => ?_; rotate_right; refine fun (_ : _ = true) => ?_)
          | (with_reducible refine wps_regionH ?_)
          | ((with_reducible apply wps_bindV); apply val_iteL; rotate_left; refine fun (_ : ¬ _) => ?_; rotate_right; refine fun (_ : _ = true) => ?_)
          | ((with_reducible apply val_iteL); rotate_left; refine fun (_ : ¬ _) => ?_; rotate_right; refine fun (_ : _ = true) => ?_)
          | (with_reducible exact wps_pure (ent_val rfl)))
      · rw [h2]
        have a : ¬ k < 0 := by omega
        have b : ¬ k ≥ R.n := by omega
        simp [a]; omega
    · rw [← rackP_set _ hlt, rackP_focus rb R ds ps hlt]
      repeat (first
        | (with_reducible refine wps_bindpure ?_)
        | (with_reducible refine wps_assoc ?_)
        | (with_reducible refine wps_nil ?_)
        | (with_reducible refine wps_stepAlloc fun _ => ?_)
        | (with_reducible refine wps_alloc fun _ => ?_)
        | (with_reducible refine wps_newO fun _ => ?_)
        | (refine wps_ld _ (by rfl) ?_)
        | (refine wps_ldG _ _ _ (by rfl) ?_)
        | (refine wps_ldA _ (by rfl) ?_)
        | (refine wps_ldI _ (by rfl) ?_)
        | (refine wps_ldGI _ _ _ (by rfl) ?_)
        | (refine wps_ldAI _ (by rfl) ?_)
        | (refine wps_st (by simp) ?_)
        | (refine wps_stA (by simp) (by simp [Value.oneCell']) ?_)
        | ((with_reducible apply wps_val); apply val_ite; rotate_left; refine fun (_ : ¬ _) => ?_; rotate_right; refine fun (_ : _ = true) => ?_)
        | ((with_reducible apply val_ite); rotate_left; refine fun (_ : ¬ _) => ?_; rotate_right; refine fun (_ : _ = true) => ?_)
        | (with_reducible refine wps_regionH ?_)
        | ((with_reducible apply wps_bindV); apply val_iteL; rotate_left; refine fun (_ : ¬ _) => ?_; rotate_right; refine fun (_ : _ = true) => ?_)
        | ((with_reducible apply val_iteL); rotate_left; refine fun (_ : ¬ _) => ?_; rotate_right; refine fun (_ : _ = true) => ?_)
        | (with_reducible exact wps_pure (ent_val rfl)))
      refine wps_rdS k.toNat (ptr (ps.getD k.toNat 0)) (by omega) (pv_get (by omega)) ?_
      simp only [dskAt, dskX]
      refine wps_exP fun ls => wps_exP fun mb => wps_exP fun sl => wps_exP fun sc => ?_
      simp only [← star_assoc]
      refine wps_prP fun hd => ?_
      repeat (first
        | (with_reducible refine wps_bindpure ?_)
        | (with_reducible refine wps_assoc ?_)
        | (with_reducible refine wps_nil ?_)
        | (with_reducible refine wps_stepAlloc fun _ => ?_)
        | (with_reducible refine wps_alloc fun _ => ?_)
        | (with_reducible refine wps_newO fun _ => ?_)
        | (refine wps_ld _ (by rfl) ?_)
        | (refine wps_ldG _ _ _ (by rfl) ?_)
        | (refine wps_ldA _ (by rfl) ?_)
        | (refine wps_ldI _ (by rfl) ?_)
        | (refine wps_ldGI _ _ _ (by rfl) ?_)
        | (refine wps_ldAI _ (by rfl) ?_)
        | (refine wps_st (by simp) ?_)
        | (refine wps_stA (by simp) (by simp [Value.oneCell']) ?_)
        | ((with_reducible apply wps_val); apply val_ite; rotate_left; refine fun (_ : ¬ _) => ?_; rotate_right; refine fun (_ : _ = true) => ?_)
        | ((with_reducible apply val_ite); rotate_left; refine fun (_ : ¬ _) => ?_; rotate_right; refine fun (_ : _ = true) => ?_)
        | (with_reducible refine wps_regionH ?_)
        | ((with_reducible apply wps_bindV); apply val_iteL; rotate_left; refine fun (_ : ¬ _) => ?_; rotate_right; refine fun (_ : _ = true) => ?_)
        | ((with_reducible apply val_iteL); rotate_left; refine fun (_ : ¬ _) => ?_; rotate_right; refine fun (_ : _ = true) => ?_)
        | (with_reducible exact wps_pure (ent_val rfl)))
      refine wps_pure ?_
      refine ent_exr ls ?_
      refine ent_exr mb ?_
      refine ent_exr sl ?_
      refine ent_exr sc ?_
      simp only [← star_assoc]
      exact ent_pickC (by rfl) (ent_pick (ent_pick (ent_pick (ent_pick (ent_prx hd (ent_pick (ent_pick (ent_pick (ent_pick (ent_prq trivial))))))))))
end Go.Proofs.Ytldmeimebebllaa
namespace Go.Proofs.Ytldmeimebebllaa
open Go.Mo
set_option linter.unusedVariables false
structure Settled (R : Rk) (f : Nat → Bool) : Prop where
  off : R.off = false
  count : R.count = -1
  failed : ∀ j, (R.dk j).failed = f j
  counts : ∀ j, (R.dk j).count = -1
theorem tickD {D : Dk} (h : D.count = -1) : D.tick = D := by
  obtain ⟨l, c, fl, k⟩ := D
  simp only at h
  subst h
  have hm : maxI (w64 (-1 - 1)) (-1) = -1 := by rw [w64m2]; rfl
  simp only [Dk.tick, hm]
  cases fl <;> rfl
theorem Settled.tick {R : Rk} {f : Nat → Bool} (h : Settled R f) : R.ticked = R := by
  have hdk : (fun j => (R.dk j).tick) = R.dk := by
    funext j; exact tickD (h.counts j)
  have hm : maxI (w64 (R.count - 1)) (-1) = R.count := by rw [h.count, w64m2]; rfl
  have hc : ¬ R.count = 0 := by rw [h.count]; omega
  simp only [Rk.ticked, if_neg hc, hdk, hm]
theorem Settled.gate {R : Rk} {f : Nat → Bool} (h : Settled R f) {k s : Int} (hk : 0 ≤ k ∧ k < R.n) (hs : 0 ≤ s ∧ s < R.ns) : R.gate k s 64 = if f k.toNat then 13 else 0 := by
  unfold Rk.gate
  have hr : ¬ (k < 0 ∨ k ≥ R.n ∨ s < 0 ∨ s ≥ R.ns) := by omega
  rw [if_neg (by simp [h.off]), if_neg hr, if_neg (by omega), if_neg (by rw [h.count]; omega), h.tick, h.failed]
theorem Settled.setD {R : Rk} {f : Nat → Bool} (h : Settled R f) {k : Nat} {D : Dk} (hf : D.failed = f k) (hc : D.count = -1) : Settled (R.setD k D) f := by
  refine ⟨h.off, h.count, fun j => ?_, fun j => ?_⟩
  · simp only [Rk.setD]; split
    · rename_i e; rw [e]; exact hf
    · exact h.failed j
  · simp only [Rk.setD]; split
    · exact hc
    · exact h.counts j
theorem gated_in {R : Rk} (ho : R.off = false) {k s : Int} (hk : 0 ≤ k ∧ k < R.n) (hs : 0 ≤ s ∧ s < R.ns) : R.gated k s 64 = R.ticked := by
  rw [Rk.gated, if_neg]
  rintro (h | h | h)
  · rw [ho] at h; cases h
  · omega
  · exact h rfl
theorem Settled.flush {R R1 : Rk} {f : Nat → Bool} {k : Int} (h : Settled R1 f) (hg : R.gated k 0 64 = R1) : Settled (R.flush k) f := by
  unfold Rk.flush
  rw [hg]
  split
  · exact h.setD (h.failed _) (h.counts _)
  · exact h
theorem flush_n {R : Rk} (k : Int) : (R.flush k).n = R.n ∧ (R.flush k).ns = R.ns := by
  have hg : (R.gated k 0 64).n = R.n ∧ (R.gated k 0 64).ns = R.ns := by
    unfold Rk.gated Rk.ticked
    split
    · exact ⟨rfl, rfl⟩
    · split <;> exact ⟨rfl, rfl⟩
  unfold Rk.flush
  split
  · exact hg
  · exact hg
theorem Settled.flushL {f : Nat → Bool} : ∀ {xs : List Int} {R : Rk}, Settled R f → (∀ d ∈ xs, 0 ≤ d ∧ d < R.n) → 0 < R.ns →
    (flushL xs R).2 = 0 ∧ Settled (flushL xs R).1 f ∧ (flushL xs R).1.n = R.n ∧ (flushL xs R).1.ns = R.ns
  | [], R, h, _, _ => ⟨rfl, h, rfl, rfl⟩
  | d :: xs, R, h, hx, hs => by
    have hd := hx d (by simp)
    have hg := h.gate hd (s := 0) (by omega)
    have h12 : ¬ R.gate d 0 64 = 12 := by rw [hg]; split <;> omega
    simp only [Proofs.Ytldmeimebebllaa.flushL, if_neg h12]
    have hf := h.flush (R := R) (k := d) (by rw [gated_in h.off hd (by omega), h.tick])
    have hn := flush_n (R := R) d
    have ih := Settled.flushL (xs := xs) hf (by rw [hn.1]; exact fun d' hd' => hx d' (by simp [hd'])) (by rw [hn.2]; exact hs)
    rw [hn.1, hn.2] at ih
    exact ih
structure Armed (R : Rk) (f : Nat → Bool) : Prop where
  off : R.off = false
  count : R.count = -1
  failed : ∀ j, (R.dk j).failed = false
  counts : ∀ j, (R.dk j).count = if f j then 0 else -1
theorem Armed.tick {R : Rk} {f : Nat → Bool} (h : Armed R f) : Settled R.ticked f := by
  have hc : ¬ R.count = 0 := by rw [h.count]; omega
  have hm : maxI (w64 (R.count - 1)) (-1) = -1 := by rw [h.count, w64m2]; rfl
  simp only [Rk.ticked, if_neg hc, hm]
  refine ⟨h.off, rfl, fun j => ?_, fun j => ?_⟩
  · simp only [h.failed, h.counts]
    cases f j <;> rfl
  · simp only [h.counts]
    have e1 : w64 (-1 - 1) = -2 := w64m2
    have e2 : w64 (0 - 1) = -1 := w64_id (by omega) (by omega)
    cases f j
    · show maxI (w64 (-1 - 1)) (-1) = -1
      rw [e1]; rfl
    · show maxI (w64 (0 - 1)) (-1) = -1
      rw [e2]; rfl
theorem Armed.flushL {f : Nat → Bool} {d : Int} {xs : List Int} {R : Rk} (h : Armed R f) (hx : ∀ d' ∈ d :: xs, 0 ≤ d' ∧ d' < R.n) (hs : 0 < R.ns) :
    (flushL (d :: xs) R).2 = 0 ∧ Settled (flushL (d :: xs) R).1 f ∧ (flushL (d :: xs) R).1.n = R.n ∧ (flushL (d :: xs) R).1.ns = R.ns := by
  have hd := hx d (by simp)
  have hgd := gated_in h.off hd (s := 0) (by omega)
  have h12 : ¬ R.gate d 0 64 = 12 := by
    unfold Rk.gate
    have hr : ¬ (d < 0 ∨ d ≥ R.n ∨ (0 : Int) < 0 ∨ (0 : Int) ≥ R.ns) := by omega
    rw [if_neg (by simp [h.off]), if_neg hr, if_neg (by omega), if_neg (by rw [h.count]; omega)]
    split <;> omega
  simp only [Proofs.Ytldmeimebebllaa.flushL, if_neg h12]
  have hf := h.tick.flush (R := R) (k := d) hgd
  have hn := flush_n (R := R) d
  have ih := Settled.flushL (xs := xs) hf (by rw [hn.1]; exact fun d' hd' => hx d' (by simp [hd'])) (by rw [hn.2]; exact hs)
  rw [hn.1, hn.2] at ih
  exact ih
end Go.Proofs.Ytldmeimebebllaa
namespace Go.Proofs.Ytldmeimebebllaa
open Go.Mo
set_option linter.unusedVariables false
variable {g : Fr} {cv : CV}
theorem ref00_CopyBytes_spec {H : HP} {s : Slc} {b : List Int} (hx : Ent H (byt s b)) (hb : b.length ≤ 1099511627776) : wps g H (ref00_CopyBytes s) (fun s' => H * own 1 s' (bv b)) := by
  unfold ref00_CopyBytes
  refine wps_fact (len_of hx) fun hl => ?_
  repeat (first
    | (with_reducible refine wps_bindpure ?_)
    | (with_reducible refine wps_assoc ?_)
    | (with_reducible refine wps_nil ?_)
    | (with_reducible refine wps_stepAlloc fun _ => ?_)
    | (with_reducible refine wps_alloc fun _ => ?_)
    | (with_reducible refine wps_newO fun _ => ?_)
    | (refine wps_ld _ (by rfl) ?_)
    | (refine wps_ldG _ _ _ (by rfl) ?_)
    | (refine wps_ldA _ (by rfl) ?_)
    | (refine wps_ldI _ (by rfl) ?_)
    | (refine wps_ldGI _ _ _ (by rfl) ?_)
    | (refine wps_ldAI _ (by rfl) ?_)
    | (refine wps_st (by simp) ?_)
    | (refine wps_stA (by simp) (by simp [Value.oneCell']) ?_)
    | ((with_reducible apply wps_val); apply val_ite; rotate_left; refine fun (_ : ¬ _) => ?_; rotate_right; refine fun (_ : _ = true) => ?_)
    | ((with_reducible apply val_ite); rotate_left; refine fun (_ : ¬ _) => ?_; rotate_right; refine fun (_ : _ = true) => ?_)
    | (with_reducible refine wps_regionH ?_)
    | ((with_reducible apply wps_bindV); apply val_iteL; rotate_left; refine fun (_ : ¬ _) => ?_; rotate_right; refine fun (_ : _ = true) => ?_)
    | ((with_reducible apply val_iteL); rotate_left; refine fun (_ : ¬ _) => ?_; rotate_right; refine fun (_ : _ = true) => ?_)
    | (with_reducible exact wps_pure (ent_val rfl)))
  rename_i c
  refine wps_swap (A := pc c []) (B := own 1 ⟨some ⟨c, 0, none⟩, 0, 0⟩ []) (pc_own (n := 0) (z := 1) rfl) ?_
  refine wps_app 1 (bv b) rfl (by decide) (Ent.trans (ent_left _ _) hx) (bv_one b) (by (try dsimp only); omega) fun s' hs' => ?_
  exact wps_pure (Ent.of_eq (by simp))
structure Rk.cok (R : Rk) : Prop where
  pow : -1 ≤ R.count ∧ R.count < 9223372036854775808
  dks : ∀ j, -1 ≤ (R.dk j).count ∧ (R.dk j).count < 9223372036854775808
structure RQ (R : Rk) (l1 l2 l3 l4 : Slc) (sl cl : List Slc) (cs : List Int) : Prop where
  hsl : sl.length = R.n * R.ns
  hcl : cl.length = R.n * R.ns
  hcs : cs.length = R.n
  n17 : R.n ≤ 17
  ns4 : R.ns ≤ 4096
  hl1 : l1.len = R.n * R.ns
  hl2 : l2.len = R.n * R.ns
  hl3 : l3.len = R.n
  hl4 : l4.len = R.n
  ok : ∀ j, j < R.n → (R.dk j).ok R.ns
  cnt : ∀ j, j < R.n → (R.dk j).failed = false → cs[j]? = some (R.dk j).count
  cok : R.cok
def refX4 (mb : Nat) (R : Rk) (l1 l2 l3 l4 : Slc) (sl cl : List Slc) (cs : List Int) : HP :=
  pr (RQ R l1 l2 l3 l4 sl cl cs) * seqp sl (rlast R) * seqp cl (rcach R) * own 1 l1 (sl.map vS) * own 1 l2 (cl.map vS) * own 1 l3 (bads R) * own 1 l4 (zv cs) * pc mb [.int .i64 R.n, .int .i64 R.ns, vS l1, vS l2, vS l3, vS l4, .int .i64 R.count, .bool R.off]
def refQ (mb : Nat) (R : Rk) (l1 l2 l3 l4 : Slc) : HP := ex fun sl : List Slc => ex fun cl : List Slc => ex fun cs : List Int => refX4 mb R l1 l2 l3 l4 sl cl cs
theorem ok_new (s : Nat) : Dk.new.ok s := ⟨fun _ _ => by simp [Dk.new, noughts], fun _ _ h => by cases h⟩
theorem cok_new (n s : Nat) : (Rk.new n s).cok := ⟨by simp [Rk.new], fun j => by simp [Rk.new, Dk.new]⟩
theorem refQ_new {mb : Nat} {v : RefT} {n s : Nat} : Ent (refV v (Rk.new n s) * pc mb (refC v)) (refQ mb (Rk.new n s) v.2.2.1 v.2.2.2.1 v.2.2.2.2.1 v.2.2.2.2.2.1) := by
  unfold refV refX
  rw [ex_star]
  refine ex_ent fun sl => ?_
  rw [ex_star]
  refine ex_ent fun cl => ?_
  simp only [star_assoc]
  refine pr_ent fun h => ?_
  simp only [← star_assoc]
  refine ent_ex sl (ent_ex cl (ent_ex (List.replicate n (-1)) ?_))
  unfold refX4
  have h1 := h.n; have h2 := h.ns; have h3 := h.count; have h4 := h.off
  refine ent_pickC (by simp only [refC]; rw [h1, h2, h3, h4]) (ent_pickS ?_ ?_)
  · simp only [cnts, zv, List.map_replicate]
    rw [show (fun j => Value.int .i64 ((Rk.new n s).dk j).count) = fun _ => Value.int .i64 (-1) from rfl]
    rw [List.map_const']; simp [Rk.new]
  · repeat (first
      | (with_reducible exact ent_drop)
      | (with_reducible refine ent_pick ?_)
      | (refine ent_pickC (by rfl) ?_)
      | (refine ent_pickS (by rfl) ?_)
      | (refine ent_pickM (by rfl) ?_)
      | (refine ent_prx ?_ ?_; rotate_left)
      | (refine ent_prq ?_))
    refine ⟨h.sl, h.cl, by simp [Rk.new], h.n17, h.ns4, h.l1, h.l2, h.l3, h.l4, fun j _ => ok_new _, fun j hj _ => ?_, cok_new n s⟩
    have : j < n := hj
    simp [Rk.new, Dk.new, this]
theorem flat_div {k s ns : Nat} (h : s < ns) : (k * ns + s) / ns = k ∧ (k * ns + s) % ns = s := by
  have h0 : 0 < ns := by omega
  rw [Nat.mul_comm]
  refine ⟨?_, ?_⟩
  · rw [Nat.mul_add_div h0, Nat.div_eq_of_lt h]; omega
  · rw [Nat.mul_add_mod, Nat.mod_eq_of_lt h]
theorem flat_lt {k s n ns : Nat} (hk : k < n) (hs : s < ns) : k * ns + s < n * ns := by
  have : (k + 1) * ns ≤ n * ns := Nat.mul_le_mul_right _ hk
  rw [Nat.add_mul] at this; omega
theorem flat_w {k s : Int} {n ns : Nat} (hk : 0 ≤ k ∧ k < n) (hs : 0 ≤ s ∧ s < ns) (h17 : n ≤ 17) (h4 : ns ≤ 4096) : w64 (w64 (k * (ns : Int)) + s) = ((k.toNat * ns + s.toNat : Nat) : Int) := by
  obtain ⟨K, rfl⟩ : ∃ K : Nat, k = (K : Int) := ⟨k.toNat, by omega⟩
  obtain ⟨S, rfl⟩ : ∃ S : Nat, s = (S : Int) := ⟨s.toNat, by omega⟩
  have h1 : K * ns ≤ 17 * 4096 := Nat.mul_le_mul (by omega) h4
  rw [← Int.natCast_mul, w64_id (n := ((K * ns : Nat) : Int)) (by omega) (by omega), w64_id] <;> (try simp only [Int.toNat_natCast]) <;> omega
def thereB (R : Rk) (k s : Int) : Bool := decide (0 ≤ k ∧ k < R.n ∧ 0 ≤ s ∧ s < R.ns)
theorem ref02_there_val (mb : Nat) (R : Rk) (l1 l2 l3 l4 : Slc) (k s : Int) : Val g (refQ mb R l1 l2 l3 l4) (ref02_Rack_there (ptr mb) k s) (thereB R k s) := by
  unfold ref02_Rack_there refQ refX4
  refine wps_ex fun sl => wps_ex fun cl => wps_ex fun cs => ?_
  refine wps_conseq (H' := pr (RQ R l1 l2 l3 l4 sl cl cs) * seqp sl (rlast R) * seqp cl (rcach R) * own 1 l1 (sl.map vS) * own 1 l2 (cl.map vS) * own 1 l3 (bads R) * own 1 l4 (zv cs) * pc mb [.int .i64 R.n, .int .i64 R.ns, vS l1, vS l2, vS l3, vS l4, .int .i64 R.count, .bool R.off]) (Q' := fun x => pr (x = thereB R k s) * (pr (RQ R l1 l2 l3 l4 sl cl cs) * seqp sl (rlast R) * seqp cl (rcach R) * own 1 l1 (sl.map vS) * own 1 l2 (cl.map vS) * own 1 l3 (bads R) * own 1 l4 (zv cs) * pc mb [.int .i64 R.n, .int .i64 R.ns, vS l1, vS l2, vS l3, vS l4, .int .i64 R.count, .bool R.off])) ?_ (Ent.refl _) (fun x => Ent.starr (ent_ex sl (ent_ex cl (ent_ex cs (Ent.refl _)))))
  apply val_eq
  · repeat (first
      | (with_reducible refine wps_bindpure ?_)
      | (with_reducible refine wps_assoc ?_)
      | (with_reducible refine wps_nil ?_)
      | (with_reducible refine wps_stepAlloc fun _ => ?_)
      | (with_reducible refine wps_alloc fun _ => ?_)
      | (with_reducible refine wps_newO fun _ => ?_)
      | (refine wps_ld _ (by rfl) ?_)
      | (refine wps_ldG _ _ _ (by rfl) ?_)
      | (refine wps_ldA _ (by rfl) ?_)
      | (refine wps_ldI _ (by rfl) ?_)
      | (refine wps_ldGI _ _ _ (by rfl) ?_)
      | (refine wps_ldAI _ (by rfl) ?_)
      | (refine wps_st (by simp) ?_)
      | (refine wps_stA (by simp) (by simp [Value.oneCell']) ?_)
      | ((with_reducible apply wps_val); apply val_ite; rotate_left; refine fun (_ : ¬ _) => ?_; rotate_right; refine fun (_ : _ = true) => ?_)
      | ((with_reducible apply val_ite); rotate_left; refine fun (_ : ¬ _) => ?_; rotate_right; refine fun (_ : _ = true) => ?_)
      | (with_reducible refine wps_regionH ?_)
      | ((with_reducible apply wps_bindV); apply val_iteL; rotate_left; refine fun (_ : ¬ _) => ?_; rotate_right; refine fun (_ : _ = true) => ?_)
      | ((with_reducible apply val_iteL); rotate_left; refine fun (_ : ¬ _) => ?_; rotate_right; refine fun (_ : _ = true) => ?_)
      | (with_reducible exact wps_pure (ent_val rfl)))
  · unfold thereB
    by_cases a : 0 ≤ k <;> by_cases b : k < (R.n : Int) <;> by_cases c : 0 ≤ s <;> by_cases d : s < (R.ns : Int) <;> simp [a, b, c, d]
theorem ref02_Failed_val (mb : Nat) (R : Rk) (l1 l2 l3 l4 : Slc) (k : Int) : Val g (refQ mb R l1 l2 l3 l4) (ref02_Rack_Failed (ptr mb) k) (R.failedB k) := by
  unfold ref02_Rack_Failed refQ refX4
  refine wps_ex fun sl => wps_ex fun cl => wps_ex fun cs => ?_
  refine wps_factP fun hq => ?_
  refine wps_conseq (H' := pr (RQ R l1 l2 l3 l4 sl cl cs) * seqp sl (rlast R) * seqp cl (rcach R) * own 1 l1 (sl.map vS) * own 1 l2 (cl.map vS) * own 1 l3 (bads R) * own 1 l4 (zv cs) * pc mb [.int .i64 R.n, .int .i64 R.ns, vS l1, vS l2, vS l3, vS l4, .int .i64 R.count, .bool R.off]) (Q' := fun x => pr (x = R.failedB k) * (pr (RQ R l1 l2 l3 l4 sl cl cs) * seqp sl (rlast R) * seqp cl (rcach R) * own 1 l1 (sl.map vS) * own 1 l2 (cl.map vS) * own 1 l3 (bads R) * own 1 l4 (zv cs) * pc mb [.int .i64 R.n, .int .i64 R.ns, vS l1, vS l2, vS l3, vS l4, .int .i64 R.count, .bool R.off])) ?_ (Ent.refl _) (fun x => Ent.starr (ent_ex sl (ent_ex cl (ent_ex cs (Ent.refl _)))))
  refine wps_val (v := decide (0 ≤ k ∧ k < R.n)) ?_ ?_
  · apply val_eq
    · repeat (first
        | (with_reducible refine wps_bindpure ?_)
        | (with_reducible refine wps_assoc ?_)
        | (with_reducible refine wps_nil ?_)
        | (with_reducible refine wps_stepAlloc fun _ => ?_)
        | (with_reducible refine wps_alloc fun _ => ?_)
        | (with_reducible refine wps_newO fun _ => ?_)
        | (refine wps_ld _ (by rfl) ?_)
        | (refine wps_ldG _ _ _ (by rfl) ?_)
        | (refine wps_ldA _ (by rfl) ?_)
        | (refine wps_ldI _ (by rfl) ?_)
        | (refine wps_ldGI _ _ _ (by rfl) ?_)
        | (refine wps_ldAI _ (by rfl) ?_)
        | (refine wps_st (by simp) ?_)
        | (refine wps_stA (by simp) (by simp [Value.oneCell']) ?_)
        | ((with_reducible apply wps_val); apply val_ite; rotate_left; refine fun (_ : ¬ _) => ?_; rotate_right; refine fun (_ : _ = true) => ?_)
        | ((with_reducible apply val_ite); rotate_left; refine fun (_ : ¬ _) => ?_; rotate_right; refine fun (_ : _ = true) => ?_)
        | (with_reducible refine wps_regionH ?_)
        | ((with_reducible apply wps_bindV); apply val_iteL; rotate_left; refine fun (_ : ¬ _) => ?_; rotate_right; refine fun (_ : _ = true) => ?_)
        | ((with_reducible apply val_iteL); rotate_left; refine fun (_ : ¬ _) => ?_; rotate_right; refine fun (_ : _ = true) => ?_)
        | (with_reducible exact wps_pure (ent_val rfl)))
    · by_cases h : 0 ≤ k <;> simp [h]
  · by_cases hk : 0 ≤ k ∧ k < R.n
    · simp only [hk, and_self, decide_true, if_true, Rk.failedB, bindM_assoc]
      repeat (first
        | (with_reducible refine wps_bindpure ?_)
        | (with_reducible refine wps_assoc ?_)
        | (with_reducible refine wps_nil ?_)
        | (with_reducible refine wps_stepAlloc fun _ => ?_)
        | (with_reducible refine wps_alloc fun _ => ?_)
        | (with_reducible refine wps_newO fun _ => ?_)
        | (refine wps_ld _ (by rfl) ?_)
        | (refine wps_ldG _ _ _ (by rfl) ?_)
        | (refine wps_ldA _ (by rfl) ?_)
        | (refine wps_ldI _ (by rfl) ?_)
        | (refine wps_ldGI _ _ _ (by rfl) ?_)
        | (refine wps_ldAI _ (by rfl) ?_)
        | (refine wps_st (by simp) ?_)
        | (refine wps_stA (by simp) (by simp [Value.oneCell']) ?_)
        | ((with_reducible apply wps_val); apply val_ite; rotate_left; refine fun (_ : ¬ _) => ?_; rotate_right; refine fun (_ : _ = true) => ?_)
        | ((with_reducible apply val_ite); rotate_left; refine fun (_ : ¬ _) => ?_; rotate_right; refine fun (_ : _ = true) => ?_)
        | (with_reducible refine wps_regionH ?_)
        | ((with_reducible apply wps_bindV); apply val_iteL; rotate_left; refine fun (_ : ¬ _) => ?_; rotate_right; refine fun (_ : _ = true) => ?_)
        | ((with_reducible apply val_iteL); rotate_left; refine fun (_ : ¬ _) => ?_; rotate_right; refine fun (_ : _ = true) => ?_)
        | (with_reducible exact wps_pure (ent_val rfl)))
      refine wps_rdS k.toNat (R.dk k.toNat).failed (by omega) ?_ ?_
      · rw [bads, List.getElem?_map, List.getElem?_range (by omega)]; rfl
      · repeat (first
          | (with_reducible refine wps_bindpure ?_)
          | (with_reducible refine wps_assoc ?_)
          | (with_reducible refine wps_nil ?_)
          | (with_reducible refine wps_stepAlloc fun _ => ?_)
          | (with_reducible refine wps_alloc fun _ => ?_)
          | (with_reducible refine wps_newO fun _ => ?_)
          | (refine wps_ld _ (by rfl) ?_)
          | (refine wps_ldG _ _ _ (by rfl) ?_)
          | (refine wps_ldA _ (by rfl) ?_)
          | (refine wps_ldI _ (by rfl) ?_)
          | (refine wps_ldGI _ _ _ (by rfl) ?_)
          | (refine wps_ldAI _ (by rfl) ?_)
          | (refine wps_st (by simp) ?_)
          | (refine wps_stA (by simp) (by simp [Value.oneCell']) ?_)
          | ((with_reducible apply wps_val); apply val_ite; rotate_left; refine fun (_ : ¬ _) => ?_; rotate_right; refine fun (_ : _ = true) => ?_)
          | ((with_reducible apply val_ite); rotate_left; refine fun (_ : ¬ _) => ?_; rotate_right; refine fun (_ : _ = true) => ?_)
          | (with_reducible refine wps_regionH ?_)
          | ((with_reducible apply wps_bindV); apply val_iteL; rotate_left; refine fun (_ : ¬ _) => ?_; rotate_right; refine fun (_ : _ = true) => ?_)
          | ((with_reducible apply val_iteL); rotate_left; refine fun (_ : ¬ _) => ?_; rotate_right; refine fun (_ : _ = true) => ?_)
          | (with_reducible exact wps_pure (ent_val rfl)))
    · simp only [hk, decide_false, Rk.failedB, if_false, Bool.false_eq_true]
      repeat (first
        | (with_reducible refine wps_bindpure ?_)
        | (with_reducible refine wps_assoc ?_)
        | (with_reducible refine wps_nil ?_)
        | (with_reducible refine wps_stepAlloc fun _ => ?_)
        | (with_reducible refine wps_alloc fun _ => ?_)
        | (with_reducible refine wps_newO fun _ => ?_)
        | (refine wps_ld _ (by rfl) ?_)
        | (refine wps_ldG _ _ _ (by rfl) ?_)
        | (refine wps_ldA _ (by rfl) ?_)
        | (refine wps_ldI _ (by rfl) ?_)
        | (refine wps_ldGI _ _ _ (by rfl) ?_)
        | (refine wps_ldAI _ (by rfl) ?_)
        | (refine wps_st (by simp) ?_)
        | (refine wps_stA (by simp) (by simp [Value.oneCell']) ?_)
        | ((with_reducible apply wps_val); apply val_ite; rotate_left; refine fun (_ : ¬ _) => ?_; rotate_right; refine fun (_ : _ = true) => ?_)
        | ((with_reducible apply val_ite); rotate_left; refine fun (_ : ¬ _) => ?_; rotate_right; refine fun (_ : _ = true) => ?_)
        | (with_reducible refine wps_regionH ?_)
        | ((with_reducible apply wps_bindV); apply val_iteL; rotate_left; refine fun (_ : ¬ _) => ?_; rotate_right; refine fun (_ : _ = true) => ?_)
        | ((with_reducible apply val_iteL); rotate_left; refine fun (_ : ¬ _) => ?_; rotate_right; refine fun (_ : _ = true) => ?_)
        | (with_reducible exact wps_pure (ent_val rfl)))
end Go.Proofs.Ytldmeimebebllaa
namespace Go.Proofs.Ytldmeimebebllaa
open Go.Mo
set_option linter.unusedVariables false
variable {g : Fr} {cv : CV}
theorem there_true {R : Rk} {k s : Int} (h : thereB R k s = true) : (0 ≤ k ∧ k < R.n) ∧ (0 ≤ s ∧ s < R.ns) := by
  simp only [thereB, decide_eq_true_eq] at h; omega
theorem there_or {R : Rk} {k s : Int} : thereB R k s = true ↔ ¬ (k < 0 ∨ k ≥ R.n ∨ s < 0 ∨ s ≥ R.ns) := by
  simp only [thereB, decide_eq_true_eq]; omega
theorem RQ.at {R : Rk} {l1 l2 l3 l4 : Slc} {sl cl : List Slc} {cs : List Int} (h : RQ R l1 l2 l3 l4 sl cl cs) {k s : Int} (ht : thereB R k s = true) :
    ∃ i : Nat, i < R.n * R.ns ∧ i = k.toNat * R.ns + s.toNat ∧ w64 (w64 (k * (R.ns : Int)) + s) = (i : Int) ∧ rlast R i = (R.dk k.toNat).lasts s.toNat ∧ rcach R i = ((R.dk k.toNat).cached s).getD [] ∧ k.toNat < R.n ∧ s.toNat < R.ns := by
  obtain ⟨hk, hs⟩ := there_true ht
  have hd := flat_div (k := k.toNat) (s := s.toNat) (ns := R.ns) (by omega)
  refine ⟨k.toNat * R.ns + s.toNat, flat_lt (by omega) (by omega), rfl, flat_w hk hs h.n17 h.ns4, ?_, ?_, by omega, by omega⟩
  · rw [rlast, hd.1, hd.2]
  · rw [rcach, hd.1, hd.2, show ((s.toNat : Nat) : Int) = s by omega]
theorem ref02_Read_spec (mb : Nat) (R : Rk) (l1 l2 l3 l4 : Slc) (k s : Int) :
    wps g (refQ mb R l1 l2 l3 l4) (ref02_Rack_Read (ptr mb) k s) (fun x => pr (x.2 = R.rdErr k s) * refQ mb R l1 l2 l3 l4 * own 1 x.1 (bv (R.rd k s))) := by
  unfold ref02_Rack_Read
  have hoff : ∀ {α : Type} {K : Bool → M α} {Q : α → HP}, wps g (refQ mb R l1 l2 l3 l4) (K R.off) Q → wps g (refQ mb R l1 l2 l3 l4) (bindM (ld Value.bool ⟨mb, 7, none⟩) K) Q := by
    intro α K Q h
    refine wps_val (v := R.off) ?_ h
    show wps g _ (bindM (ld Value.bool ⟨mb, 7, none⟩) pureM) _
    unfold refQ refX4
    refine wps_ex fun sl => wps_ex fun cl => wps_ex fun cs => ?_
    repeat (first
      | (with_reducible refine wps_bindpure ?_)
      | (with_reducible refine wps_assoc ?_)
      | (with_reducible refine wps_nil ?_)
      | (with_reducible refine wps_stepAlloc fun _ => ?_)
      | (with_reducible refine wps_alloc fun _ => ?_)
      | (with_reducible refine wps_newO fun _ => ?_)
      | (refine wps_ld _ (by rfl) ?_)
      | (refine wps_ldG _ _ _ (by rfl) ?_)
      | (refine wps_ldA _ (by rfl) ?_)
      | (refine wps_ldI _ (by rfl) ?_)
      | (refine wps_ldGI _ _ _ (by rfl) ?_)
      | (refine wps_ldAI _ (by rfl) ?_)
      | (refine wps_st (by simp) ?_)
      | (refine wps_stA (by simp) (by simp [Value.oneCell']) ?_)
      | ((with_reducible apply wps_val); apply val_ite; rotate_left; refine fun (_ : ¬ _) => ?_; rotate_right; refine fun (_ : _ = true) => ?_)
      | ((with_reducible apply val_ite); rotate_left; refine fun (_ : ¬ _) => ?_; rotate_right; refine fun (_ : _ = true) => ?_)
      | (with_reducible refine wps_regionH ?_)
      | ((with_reducible apply wps_bindV); apply val_iteL; rotate_left; refine fun (_ : ¬ _) => ?_; rotate_right; refine fun (_ : _ = true) => ?_)
      | ((with_reducible apply val_iteL); rotate_left; refine fun (_ : ¬ _) => ?_; rotate_right; refine fun (_ : _ = true) => ?_)
      | (with_reducible exact wps_pure (ent_val rfl)))
    exact wps_pure (ent_prr rfl (ent_ex sl (ent_ex cl (ent_ex cs (Ent.refl _)))))
  repeat (first
    | (with_reducible refine wps_bindpure ?_)
    | (with_reducible refine wps_assoc ?_)
    | (with_reducible refine wps_nil ?_)
    | (with_reducible refine wps_stepAlloc fun _ => ?_)
    | (with_reducible refine wps_alloc fun _ => ?_)
    | (with_reducible refine wps_newO fun _ => ?_)
    | (refine wps_ld _ (by rfl) ?_)
    | (refine wps_ldG _ _ _ (by rfl) ?_)
    | (refine wps_ldA _ (by rfl) ?_)
    | (refine wps_ldI _ (by rfl) ?_)
    | (refine wps_ldGI _ _ _ (by rfl) ?_)
    | (refine wps_ldAI _ (by rfl) ?_)
    | (refine wps_st (by simp) ?_)
    | (refine wps_stA (by simp) (by simp [Value.oneCell']) ?_)
    | ((with_reducible apply wps_val); apply val_ite; rotate_left; refine fun (_ : ¬ _) => ?_; rotate_right; refine fun (_ : _ = true) => ?_)
    | ((with_reducible apply val_ite); rotate_left; refine fun (_ : ¬ _) => ?_; rotate_right; refine fun (_ : _ = true) => ?_)
    | (with_reducible refine wps_regionH ?_)
    | ((with_reducible apply wps_bindV); apply val_iteL; rotate_left; refine fun (_ : ¬ _) => ?_; rotate_right; refine fun (_ : _ = true) => ?_)
    | ((with_reducible apply val_iteL); rotate_left; refine fun (_ : ¬ _) => ?_; rotate_right; refine fun (_ : _ = true) => ?_)
    | (with_reducible exact wps_pure (ent_val rfl)))
  refine hoff ?_
  by_cases ho : R.off = true
  · have he : R.rdErr k s = 12 := by simp [Rk.rdErr, ho]
    rw [if_pos ho]
    refine wps_pure ?_
    simp only [Rk.rd, he]
    exact ent_own0 (ent_prr (by simp) (Ent.refl _))
  rw [if_neg ho]
  refine wps_val (ref02_there_val mb R l1 l2 l3 l4 k s) ?_
  by_cases ht : thereB R k s = true
  · have hn := there_or.1 ht
    rw [ht]
    refine wps_ite (fun h => absurd h (by decide)) (fun _ => ?_)
    unfold refQ
    refine wps_exP fun sl => wps_exP fun cl => wps_exP fun cs => ?_
    unfold refX4
    simp only [← star_assoc]
    refine wps_factP fun hq => ?_
    obtain ⟨i, hi, _, hw, hl, hc, hk, hs⟩ := hq.at ht
    obtain ⟨hk2, hs2⟩ := there_true ht
    repeat (first
      | (with_reducible refine wps_bindpure ?_)
      | (with_reducible refine wps_assoc ?_)
      | (with_reducible refine wps_nil ?_)
      | (with_reducible refine wps_stepAlloc fun _ => ?_)
      | (with_reducible refine wps_alloc fun _ => ?_)
      | (with_reducible refine wps_newO fun _ => ?_)
      | (refine wps_ld _ (by rfl) ?_)
      | (refine wps_ldG _ _ _ (by rfl) ?_)
      | (refine wps_ldA _ (by rfl) ?_)
      | (refine wps_ldI _ (by rfl) ?_)
      | (refine wps_ldGI _ _ _ (by rfl) ?_)
      | (refine wps_ldAI _ (by rfl) ?_)
      | (refine wps_st (by simp) ?_)
      | (refine wps_stA (by simp) (by simp [Value.oneCell']) ?_)
      | ((with_reducible apply wps_val); apply val_ite; rotate_left; refine fun (_ : ¬ _) => ?_; rotate_right; refine fun (_ : _ = true) => ?_)
      | ((with_reducible apply val_ite); rotate_left; refine fun (_ : ¬ _) => ?_; rotate_right; refine fun (_ : _ = true) => ?_)
      | (with_reducible refine wps_regionH ?_)
      | ((with_reducible apply wps_bindV); apply val_iteL; rotate_left; refine fun (_ : ¬ _) => ?_; rotate_right; refine fun (_ : _ = true) => ?_)
      | ((with_reducible apply val_iteL); rotate_left; refine fun (_ : ¬ _) => ?_; rotate_right; refine fun (_ : _ = true) => ?_)
      | (with_reducible exact wps_pure (ent_val rfl)))
    refine wps_rdS k.toNat (R.dk k.toNat).failed (by omega) (by rw [bads, List.getElem?_map, List.getElem?_range hk]; rfl) ?_
    refine wps_ite (fun hf => wps_pure ?_) (fun hf => ?_)
    · have he : R.rdErr k s = 13 := by simp only [Rk.rdErr, if_neg ho, if_neg hn, if_pos hf]
      simp only [Rk.rd, he]
      refine ent_own0 (ent_exr sl (ent_exr cl (ent_exr cs ?_)))
      simp only [← star_assoc]
      repeat (first
        | (with_reducible exact ent_drop)
        | (with_reducible refine ent_pick ?_)
        | (refine ent_pickC (by rfl) ?_)
        | (refine ent_pickS (by rfl) ?_)
        | (refine ent_pickM (by rfl) ?_)
        | (refine ent_prx ?_ ?_; rotate_left)
        | (refine ent_prq ?_))
      all_goals first | exact hq | rfl | trivial
    · have he : R.rdErr k s = 0 := by simp only [Rk.rdErr, if_neg ho, if_neg hn, if_neg hf]
      simp only [Rk.rd, he, if_true]
      repeat (first
        | (with_reducible refine wps_bindpure ?_)
        | (with_reducible refine wps_assoc ?_)
        | (with_reducible refine wps_nil ?_)
        | (with_reducible refine wps_stepAlloc fun _ => ?_)
        | (with_reducible refine wps_alloc fun _ => ?_)
        | (with_reducible refine wps_newO fun _ => ?_)
        | (refine wps_ld _ (by rfl) ?_)
        | (refine wps_ldG _ _ _ (by rfl) ?_)
        | (refine wps_ldA _ (by rfl) ?_)
        | (refine wps_ldI _ (by rfl) ?_)
        | (refine wps_ldGI _ _ _ (by rfl) ?_)
        | (refine wps_ldAI _ (by rfl) ?_)
        | (refine wps_st (by simp) ?_)
        | (refine wps_stA (by simp) (by simp [Value.oneCell']) ?_)
        | ((with_reducible apply wps_val); apply val_ite; rotate_left; refine fun (_ : ¬ _) => ?_; rotate_right; refine fun (_ : _ = true) => ?_)
        | ((with_reducible apply val_ite); rotate_left; refine fun (_ : ¬ _) => ?_; rotate_right; refine fun (_ : _ = true) => ?_)
        | (with_reducible refine wps_regionH ?_)
        | ((with_reducible apply wps_bindV); apply val_iteL; rotate_left; refine fun (_ : ¬ _) => ?_; rotate_right; refine fun (_ : _ = true) => ?_)
        | ((with_reducible apply val_iteL); rotate_left; refine fun (_ : ¬ _) => ?_; rotate_right; refine fun (_ : _ = true) => ?_)
        | (with_reducible exact wps_pure (ent_val rfl)))
      rw [hw]
      have hil : i < sl.length := by rw [hq.hsl]; exact hi
      have hic : i < cl.length := by rw [hq.hcl]; exact hi
      have close : ∀ s', Ent (emp * pr (RQ R l1 l2 l3 l4 sl cl cs) * seqp sl (rlast R) * seqp cl (rcach R) * own 1 l1 (sl.map vS) * own 1 l2 (cl.map vS) * own 1 l3 (bads R) * own 1 l4 (zv cs) * pc mb [.int .i64 R.n, .int .i64 R.ns, vS l1, vS l2, vS l3, vS l4, .int .i64 R.count, .bool R.off] * own 1 s' (bv ((R.dk k.toNat).sec s)))
          (pr (((s', 0) : Slc × Int).2 = 0) * (ex fun sl : List Slc => ex fun cl : List Slc => ex fun cs : List Int => pr (RQ R l1 l2 l3 l4 sl cl cs) * seqp sl (rlast R) * seqp cl (rcach R) * own 1 l1 (sl.map vS) * own 1 l2 (cl.map vS) * own 1 l3 (bads R) * own 1 l4 (zv cs) * pc mb [.int .i64 R.n, .int .i64 R.ns, vS l1, vS l2, vS l3, vS l4, .int .i64 R.count, .bool R.off]) * own 1 s' (bv ((R.dk k.toNat).sec s))) := by
        intro s'
        refine ent_pick ?_
        refine ent_exr sl ?_
        refine ent_exr cl ?_
        refine ent_exr cs ?_
        simp only [← star_assoc]
        repeat (first
          | (with_reducible exact ent_drop)
          | (with_reducible refine ent_pick ?_)
          | (refine ent_pickC (by rfl) ?_)
          | (refine ent_pickS (by rfl) ?_)
          | (refine ent_pickM (by rfl) ?_)
          | (refine ent_prx ?_ ?_; rotate_left)
          | (refine ent_prq ?_))
        all_goals first | exact hq | rfl | trivial
      refine wps_rdS i cl[i] rfl (by rw [List.getElem?_map, List.getElem?_eq_getElem hic]; rfl) ?_
      have hcb : Ent (seqp cl (rcach R)) (byt cl[i] (rcach R i)) := seqp_get (List.getElem?_eq_getElem hic)
      refine wps_fact (len_of (Ent.trans (ent_drop (B := seqp cl (rcach R))) hcb)) fun hcl => ?_
      cases hcs : (R.dk k.toNat).cached s with
      | some b =>
        have hb : rcach R i = b := by rw [hc, hcs]; rfl
        have hbl := ((hq.ok _ hk).2 s b hcs).1
        have hsec : (R.dk k.toNat).sec s = rcach R i := by rw [hb]; simp [Dk.sec, hcs]
        refine wps_ite (fun _ => ?_) (fun h => ?_)
        · repeat (first
            | (with_reducible refine wps_bindpure ?_)
            | (with_reducible refine wps_assoc ?_)
            | (with_reducible refine wps_nil ?_)
            | (with_reducible refine wps_stepAlloc fun _ => ?_)
            | (with_reducible refine wps_alloc fun _ => ?_)
            | (with_reducible refine wps_newO fun _ => ?_)
            | (refine wps_ld _ (by rfl) ?_)
            | (refine wps_ldG _ _ _ (by rfl) ?_)
            | (refine wps_ldA _ (by rfl) ?_)
            | (refine wps_ldI _ (by rfl) ?_)
            | (refine wps_ldGI _ _ _ (by rfl) ?_)
            | (refine wps_ldAI _ (by rfl) ?_)
            | (refine wps_st (by simp) ?_)
            | (refine wps_stA (by simp) (by simp [Value.oneCell']) ?_)
            | ((with_reducible apply wps_val); apply val_ite; rotate_left; refine fun (_ : ¬ _) => ?_; rotate_right; refine fun (_ : _ = true) => ?_)
            | ((with_reducible apply val_ite); rotate_left; refine fun (_ : ¬ _) => ?_; rotate_right; refine fun (_ : _ = true) => ?_)
            | (with_reducible refine wps_regionH ?_)
            | ((with_reducible apply wps_bindV); apply val_iteL; rotate_left; refine fun (_ : ¬ _) => ?_; rotate_right; refine fun (_ : _ = true) => ?_)
            | ((with_reducible apply val_iteL); rotate_left; refine fun (_ : ¬ _) => ?_; rotate_right; refine fun (_ : _ = true) => ?_)
            | (with_reducible exact wps_pure (ent_val rfl)))
          refine wps_rdS i cl[i] rfl (by rw [List.getElem?_map, List.getElem?_eq_getElem hic]; rfl) ?_
          refine wps_bind1 (ref00_CopyBytes_spec (b := (R.dk k.toNat).sec s) (Ent.trans (ent_drop (B := seqp cl (rcach R))) (by rw [hsec]; exact hcb)) (by rw [hsec, hb]; omega)) fun s' => wps_pure ?_
          exact Ent.trans (Ent.of_eq (by simp only [emp_star])) (close s')
        · exfalso
          rw [hb] at hcl
          simp only [decide_eq_true_eq] at h; omega
      | none =>
        have hb : rcach R i = [] := by rw [hc, hcs]; rfl
        have hsec : (R.dk k.toNat).sec s = rlast R i := by rw [hl]; simp [Dk.sec, hcs]
        have hlen : (rlast R i).length = 64 := by rw [hl]; exact (hq.ok _ hk).1 _ hs
        refine wps_ite (fun h => ?_) (fun h => ?_)
        · exfalso
          rw [hb] at hcl
          simp only [decide_eq_true_eq, List.length_nil] at h hcl; omega
        · repeat (first
            | (with_reducible refine wps_bindpure ?_)
            | (with_reducible refine wps_assoc ?_)
            | (with_reducible refine wps_nil ?_)
            | (with_reducible refine wps_stepAlloc fun _ => ?_)
            | (with_reducible refine wps_alloc fun _ => ?_)
            | (with_reducible refine wps_newO fun _ => ?_)
            | (refine wps_ld _ (by rfl) ?_)
            | (refine wps_ldG _ _ _ (by rfl) ?_)
            | (refine wps_ldA _ (by rfl) ?_)
            | (refine wps_ldI _ (by rfl) ?_)
            | (refine wps_ldGI _ _ _ (by rfl) ?_)
            | (refine wps_ldAI _ (by rfl) ?_)
            | (refine wps_st (by simp) ?_)
            | (refine wps_stA (by simp) (by simp [Value.oneCell']) ?_)
            | ((with_reducible apply wps_val); apply val_ite; rotate_left; refine fun (_ : ¬ _) => ?_; rotate_right; refine fun (_ : _ = true) => ?_)
            | ((with_reducible apply val_ite); rotate_left; refine fun (_ : ¬ _) => ?_; rotate_right; refine fun (_ : _ = true) => ?_)
            | (with_reducible refine wps_regionH ?_)
            | ((with_reducible apply wps_bindV); apply val_iteL; rotate_left; refine fun (_ : ¬ _) => ?_; rotate_right; refine fun (_ : _ = true) => ?_)
            | ((with_reducible apply val_iteL); rotate_left; refine fun (_ : ¬ _) => ?_; rotate_right; refine fun (_ : _ = true) => ?_)
            | (with_reducible exact wps_pure (ent_val rfl)))
          refine wps_rdS i sl[i] rfl (by rw [List.getElem?_map, List.getElem?_eq_getElem hil]; rfl) ?_
          refine wps_bind1 (ref00_CopyBytes_spec (b := (R.dk k.toNat).sec s) (Ent.trans (ent_drop (B := seqp sl (rlast R))) (by rw [hsec]; exact seqp_get (List.getElem?_eq_getElem hil))) (by rw [hsec, hlen]; omega)) fun s' => wps_pure ?_
          exact Ent.trans (Ent.of_eq (by simp only [emp_star])) (close s')
  · have hn : (k < 0 ∨ k ≥ R.n ∨ s < 0 ∨ s ≥ R.ns) := Classical.byContradiction fun h => ht (there_or.2 h)
    have he : R.rdErr k s = 11 := by simp only [Rk.rdErr, if_neg ho, if_pos hn]
    rw [show thereB R k s = false by simpa using ht]
    refine wps_ite (fun _ => wps_pure ?_) (fun h => absurd rfl h)
    simp only [Rk.rd, he]
    exact ent_own0 (ent_prr (by simp) (Ent.refl _))
end Go.Proofs.Ytldmeimebebllaa
namespace Go.Proofs.Ytldmeimebebllaa
open Go.Mo
set_option linter.unusedVariables false
variable {g : Fr} {cv : CV}
theorem maxI_bnd {c : Int} (h : c < 9223372036854775808) : -1 ≤ maxI c (-1) ∧ maxI c (-1) < 9223372036854775808 := by
  rw [maxI]; split <;> omega
theorem cnt_tick {c : Int} (h : -1 ≤ c ∧ c < 9223372036854775808) : -1 ≤ maxI (w64 (c - 1)) (-1) ∧ maxI (w64 (c - 1)) (-1) < 9223372036854775808 := by
  rw [w64_id (by omega) (by omega), maxI]; split <;> omega
theorem Rk.cok.arm {R : Rk} (h : R.cok) {c : Int} (hc : c < 9223372036854775808) : (R.arm c).cok := ⟨maxI_bnd hc, h.dks⟩
theorem Rk.cok.setD {R : Rk} (h : R.cok) {k : Nat} {D : Dk} (hD : -1 ≤ D.count ∧ D.count < 9223372036854775808) : (R.setD k D).cok := ⟨h.pow, fun j => by
  simp only [Rk.setD]; split
  · exact hD
  · exact h.dks j⟩
theorem Rk.cok.doom {R : Rk} (h : R.cok) {k c : Int} (hc : c < 9223372036854775808) : (R.doom k c).cok := by
  rw [Rk.doom]; split
  · exact h
  · exact h.setD (maxI_bnd hc)
theorem Rk.cok.ticked {R : Rk} (h : R.cok) : R.ticked.cok := by
  rw [Rk.ticked]; split
  · exact ⟨h.pow, h.dks⟩
  · exact ⟨cnt_tick h.pow, fun j => cnt_tick (h.dks j)⟩
theorem ref02_Arm_spec (mb : Nat) (R : Rk) (l1 l2 l3 l4 : Slc) (c : Int) (hc : c < 9223372036854775808) : wps g (refQ mb R l1 l2 l3 l4) (ref02_Rack_Arm (ptr mb) c) (fun _ => refQ mb (R.arm c) l1 l2 l3 l4) := by
  unfold ref02_Rack_Arm refQ refX4
  refine wps_ex fun sl => wps_ex fun cl => wps_ex fun cs => ?_
  refine wps_prP fun hq => ?_
  repeat (first
    | (with_reducible refine wps_bindpure ?_)
    | (with_reducible refine wps_assoc ?_)
    | (with_reducible refine wps_nil ?_)
    | (with_reducible refine wps_stepAlloc fun _ => ?_)
    | (with_reducible refine wps_alloc fun _ => ?_)
    | (with_reducible refine wps_newO fun _ => ?_)
    | (refine wps_ld _ (by rfl) ?_)
    | (refine wps_ldG _ _ _ (by rfl) ?_)
    | (refine wps_ldA _ (by rfl) ?_)
    | (refine wps_ldI _ (by rfl) ?_)
    | (refine wps_ldGI _ _ _ (by rfl) ?_)
    | (refine wps_ldAI _ (by rfl) ?_)
    | (refine wps_st (by simp) ?_)
    | (refine wps_stA (by simp) (by simp [Value.oneCell']) ?_)
    | ((with_reducible apply wps_val); apply val_ite; rotate_left; refine fun (_ : ¬ _) => ?_; rotate_right; refine fun (_ : _ = true) => ?_)
    | ((with_reducible apply val_ite); rotate_left; refine fun (_ : ¬ _) => ?_; rotate_right; refine fun (_ : _ = true) => ?_)
    | (with_reducible refine wps_regionH ?_)
    | ((with_reducible apply wps_bindV); apply val_iteL; rotate_left; refine fun (_ : ¬ _) => ?_; rotate_right; refine fun (_ : _ = true) => ?_)
    | ((with_reducible apply val_iteL); rotate_left; refine fun (_ : ¬ _) => ?_; rotate_right; refine fun (_ : _ = true) => ?_)
    | (with_reducible exact wps_pure (ent_val rfl)))
  refine wps_pure ?_
  refine ent_ex sl (ent_ex cl (ent_ex cs ?_))
  refine ent_pickC (by rfl) ?_
  have e1 : rlast (R.arm c) = rlast R := rfl
  have e2 : rcach (R.arm c) = rcach R := rfl
  have e3 : bads (R.arm c) = bads R := rfl
  rw [e1, e2, e3]
  repeat (first
    | (with_reducible exact ent_drop)
    | (with_reducible refine ent_pick ?_)
    | (refine ent_pickC (by rfl) ?_)
    | (refine ent_pickS (by rfl) ?_)
    | (refine ent_pickM (by rfl) ?_)
    | (refine ent_prx ?_ ?_; rotate_left)
    | (refine ent_prq ?_))
  exact ⟨hq.hsl, hq.hcl, hq.hcs, hq.n17, hq.ns4, hq.hl1, hq.hl2, hq.hl3, hq.hl4, hq.ok, hq.cnt, hq.cok.arm hc⟩
theorem ref02_Doom_spec (mb : Nat) (R : Rk) (l1 l2 l3 l4 : Slc) (k c : Int) (hc : c < 9223372036854775808) :
    wps g (refQ mb R l1 l2 l3 l4) (ref02_Rack_Doom (ptr mb) k c) (fun e => pr (e = if k < 0 ∨ k ≥ R.n then 11 else 0) * refQ mb (R.doom k c) l1 l2 l3 l4) := by
  unfold ref02_Rack_Doom refQ refX4
  refine wps_ex fun sl => wps_ex fun cl => wps_ex fun cs => ?_
  refine wps_factP fun hq => ?_
  refine wps_val (v := decide (k < 0 ∨ k ≥ R.n)) ?_ ?_
  · apply val_eq
    · repeat (first
        | (with_reducible refine wps_bindpure ?_)
        | (with_reducible refine wps_assoc ?_)
        | (with_reducible refine wps_nil ?_)
        | (with_reducible refine wps_stepAlloc fun _ => ?_)
        | (with_reducible refine wps_alloc fun _ => ?_)
        | (with_reducible refine wps_newO fun _ => ?_)
        | (refine wps_ld _ (by rfl) ?_)
        | (refine wps_ldG _ _ _ (by rfl) ?_)
        | (refine wps_ldA _ (by rfl) ?_)
        | (refine wps_ldI _ (by rfl) ?_)
        | (refine wps_ldGI _ _ _ (by rfl) ?_)
        | (refine wps_ldAI _ (by rfl) ?_)
        | (refine wps_st (by simp) ?_)
        | (refine wps_stA (by simp) (by simp [Value.oneCell']) ?_)
        | ((with_reducible apply wps_val); apply val_ite; rotate_left; refine fun (_ : ¬ _) => ?_; rotate_right; refine fun (_ : _ = true) => ?_)
        | ((with_reducible apply val_ite); rotate_left; refine fun (_ : ¬ _) => ?_; rotate_right; refine fun (_ : _ = true) => ?_)
        | (with_reducible refine wps_regionH ?_)
        | ((with_reducible apply wps_bindV); apply val_iteL; rotate_left; refine fun (_ : ¬ _) => ?_; rotate_right; refine fun (_ : _ = true) => ?_)
        | ((with_reducible apply val_iteL); rotate_left; refine fun (_ : ¬ _) => ?_; rotate_right; refine fun (_ : _ = true) => ?_)
        | (with_reducible exact wps_pure (ent_val rfl)))
    · by_cases h : k < 0 <;> by_cases h' : k ≥ (R.n : Int) <;> simp [h, h']
  by_cases hk : k < 0 ∨ k ≥ R.n
  · rw [if_pos hk, Rk.doom, if_pos hk]
    refine wps_ite (fun _ => wps_pure ?_) (fun h => absurd (by simpa using hk) h)
    exact ent_prr rfl (ent_ex sl (ent_ex cl (ent_ex cs (Ent.refl _))))
  · rw [if_neg hk, Rk.doom, if_neg hk]
    refine wps_ite (fun h => absurd (by simpa using h) hk) (fun _ => ?_)
    have hlt : k.toNat < R.n := by omega
    repeat (first
      | (with_reducible refine wps_bindpure ?_)
      | (with_reducible refine wps_assoc ?_)
      | (with_reducible refine wps_nil ?_)
      | (with_reducible refine wps_stepAlloc fun _ => ?_)
      | (with_reducible refine wps_alloc fun _ => ?_)
      | (with_reducible refine wps_newO fun _ => ?_)
      | (refine wps_ld _ (by rfl) ?_)
      | (refine wps_ldG _ _ _ (by rfl) ?_)
      | (refine wps_ldA _ (by rfl) ?_)
      | (refine wps_ldI _ (by rfl) ?_)
      | (refine wps_ldGI _ _ _ (by rfl) ?_)
      | (refine wps_ldAI _ (by rfl) ?_)
      | (refine wps_st (by simp) ?_)
      | (refine wps_stA (by simp) (by simp [Value.oneCell']) ?_)
      | ((with_reducible apply wps_val); apply val_ite; rotate_left; refine fun (_ : ¬ _) => ?_; rotate_right; refine fun (_ : _ = true) => ?_)
      | ((with_reducible apply val_ite); rotate_left; refine fun (_ : ¬ _) => ?_; rotate_right; refine fun (_ : _ = true) => ?_)
      | (with_reducible refine wps_regionH ?_)
      | ((with_reducible apply wps_bindV); apply val_iteL; rotate_left; refine fun (_ : ¬ _) => ?_; rotate_right; refine fun (_ : _ = true) => ?_)
      | ((with_reducible apply val_iteL); rotate_left; refine fun (_ : ¬ _) => ?_; rotate_right; refine fun (_ : _ = true) => ?_)
      | (with_reducible exact wps_pure (ent_val rfl)))
    refine wps_wrS k.toNat (by omega) (by rw [hq.hl4]; exact hlt) (wps_pure ?_)
    refine ent_prr rfl (ent_ex sl (ent_ex cl (ent_ex (cs.set k.toNat (maxI c (-1))) ?_)))
    refine ent_pickC (by rfl) (ent_pickS (cs' := zv (cs.set k.toNat (maxI c (-1)))) (by simp [zv, List.map_set]) ?_)
    have hdk : ∀ j, ((R.setD k.toNat { R.dk k.toNat with count := maxI c (-1) }).dk j).lasts = (R.dk j).lasts ∧ ((R.setD k.toNat { R.dk k.toNat with count := maxI c (-1) }).dk j).cached = (R.dk j).cached ∧ ((R.setD k.toNat { R.dk k.toNat with count := maxI c (-1) }).dk j).failed = (R.dk j).failed := by
      intro j
      simp only [Rk.setD]
      by_cases hj : j = k.toNat
      · subst hj; simp
      · simp [hj]
    have e1 : rlast (R.setD k.toNat { R.dk k.toNat with count := maxI c (-1) }) = rlast R := by
      funext i; simp only [rlast, (hdk _).1]; rfl
    have e2 : rcach (R.setD k.toNat { R.dk k.toNat with count := maxI c (-1) }) = rcach R := by
      funext i; simp only [rcach, (hdk _).2.1]; rfl
    have e3 : bads (R.setD k.toNat { R.dk k.toNat with count := maxI c (-1) }) = bads R := by
      simp only [bads, (hdk _).2.2]; rfl
    rw [e1, e2, e3]
    repeat (first
      | (with_reducible exact ent_drop)
      | (with_reducible refine ent_pick ?_)
      | (refine ent_pickC (by rfl) ?_)
      | (refine ent_pickS (by rfl) ?_)
      | (refine ent_pickM (by rfl) ?_)
      | (refine ent_prx ?_ ?_; rotate_left)
      | (refine ent_prq ?_))
    all_goals first | trivial | skip
    refine ⟨hq.hsl, hq.hcl, by rw [List.length_set]; exact hq.hcs, hq.n17, hq.ns4, hq.hl1, hq.hl2, hq.hl3, hq.hl4, fun j hj => ?_, fun j hj hf => ?_, hq.cok.setD (maxI_bnd hc)⟩
    · have := hq.ok j hj
      exact ⟨fun q hq' => by rw [(hdk j).1]; exact this.1 q hq', fun q b hb => by rw [(hdk j).2.1] at hb; exact this.2 q b hb⟩
    · by_cases hjk : j = k.toNat
      · subst hjk
        rw [List.getElem?_set_self (by rw [hq.hcs]; exact hlt)]
        simp [Rk.setD]
      · rw [List.getElem?_set_ne (fun e => hjk e.symm)]
        rw [(hdk j).2.2] at hf
        rw [hq.cnt j hj hf]
        simp [Rk.setD, hjk]
def badsT (R : Rk) (i : Nat) : List Value := (List.range R.n).map fun j => .bool (R.part i j).failed
theorem bads_set {n i : Nat} (hi : i < n) {f f' : Nat → Bool} {v : Bool} (hv : f' i = v) (h : ∀ j, j < n → j ≠ i → f' j = f j) : ((List.range n).map fun j => Value.bool (f j)).set i (.bool v) = (List.range n).map fun j => Value.bool (f' j) := by
  apply List.ext_getElem?
  intro q
  rw [List.getElem?_set]
  simp only [List.getElem?_map, List.length_map, List.length_range]
  by_cases hq : q < n
  · rw [List.getElem?_range hq]
    by_cases e : i = q
    · subst e; simp [hv, hq]
    · have e' : q ≠ i := fun h => e h.symm
      simp [e, h q hq e']
  · rw [List.getElem?_eq_none (by simpa using hq)]
    have : ¬ i = q := by omega
    simp [this]
theorem bads_same {n : Nat} {f f' : Nat → Bool} (h : ∀ j, j < n → f' j = f j) : ((List.range n).map fun j => Value.bool (f j)) = (List.range n).map fun j => Value.bool (f' j) := by
  apply List.map_congr_left
  intro j hj
  rw [h j (List.mem_range.1 hj)]
theorem ref02_call_spec (mb : Nat) (R : Rk) (l1 l2 l3 l4 : Slc) : wps g (refQ mb R l1 l2 l3 l4) (ref02_Rack_call (ptr mb)) (fun e => pr (e = if R.count = 0 then 12 else 0) * refQ mb R.ticked l1 l2 l3 l4) := by
  unfold ref02_Rack_call refQ refX4
  refine wps_ex fun sl => wps_ex fun cl => wps_ex fun cs => ?_
  refine wps_prP fun hq => ?_
  repeat (first
    | (with_reducible refine wps_bindpure ?_)
    | (with_reducible refine wps_assoc ?_)
    | (with_reducible refine wps_nil ?_)
    | (with_reducible refine wps_stepAlloc fun _ => ?_)
    | (with_reducible refine wps_alloc fun _ => ?_)
    | (with_reducible refine wps_newO fun _ => ?_)
    | (refine wps_ld _ (by rfl) ?_)
    | (refine wps_ldG _ _ _ (by rfl) ?_)
    | (refine wps_ldA _ (by rfl) ?_)
    | (refine wps_ldI _ (by rfl) ?_)
    | (refine wps_ldGI _ _ _ (by rfl) ?_)
    | (refine wps_ldAI _ (by rfl) ?_)
    | (refine wps_st (by simp) ?_)
    | (refine wps_stA (by simp) (by simp [Value.oneCell']) ?_)
    | ((with_reducible apply wps_val); apply val_ite; rotate_left; refine fun (_ : ¬ _) => ?_; rotate_right; refine fun (_ : _ = true) => ?_)
    | ((with_reducible apply val_ite); rotate_left; refine fun (_ : ¬ _) => ?_; rotate_right; refine fun (_ : _ = true) => ?_)
    | (with_reducible refine wps_regionH ?_)
    | ((with_reducible apply wps_bindV); apply val_iteL; rotate_left; refine fun (_ : ¬ _) => ?_; rotate_right; refine fun (_ : _ = true) => ?_)
    | ((with_reducible apply val_iteL); rotate_left; refine fun (_ : ¬ _) => ?_; rotate_right; refine fun (_ : _ = true) => ?_)
    | (with_reducible exact wps_pure (ent_val rfl)))
  refine wps_ite (fun ho => ?_) (fun ho => ?_)
  · have ho' : R.count = 0 := by simpa using ho
    repeat (first
      | (with_reducible refine wps_bindpure ?_)
      | (with_reducible refine wps_assoc ?_)
      | (with_reducible refine wps_nil ?_)
      | (with_reducible refine wps_stepAlloc fun _ => ?_)
      | (with_reducible refine wps_alloc fun _ => ?_)
      | (with_reducible refine wps_newO fun _ => ?_)
      | (refine wps_ld _ (by rfl) ?_)
      | (refine wps_ldG _ _ _ (by rfl) ?_)
      | (refine wps_ldA _ (by rfl) ?_)
      | (refine wps_ldI _ (by rfl) ?_)
      | (refine wps_ldGI _ _ _ (by rfl) ?_)
      | (refine wps_ldAI _ (by rfl) ?_)
      | (refine wps_st (by simp) ?_)
      | (refine wps_stA (by simp) (by simp [Value.oneCell']) ?_)
      | ((with_reducible apply wps_val); apply val_ite; rotate_left; refine fun (_ : ¬ _) => ?_; rotate_right; refine fun (_ : _ = true) => ?_)
      | ((with_reducible apply val_ite); rotate_left; refine fun (_ : ¬ _) => ?_; rotate_right; refine fun (_ : _ = true) => ?_)
      | (with_reducible refine wps_regionH ?_)
      | ((with_reducible apply wps_bindV); apply val_iteL; rotate_left; refine fun (_ : ¬ _) => ?_; rotate_right; refine fun (_ : _ = true) => ?_)
      | ((with_reducible apply val_iteL); rotate_left; refine fun (_ : ¬ _) => ?_; rotate_right; refine fun (_ : _ = true) => ?_)
      | (with_reducible exact wps_pure (ent_val rfl)))
    refine wps_pure (ent_prr (by rw [if_pos ho']) (ent_ex sl (ent_ex cl (ent_ex cs ?_))))
    have ht : R.ticked = { R with off := true } := by rw [Rk.ticked, if_pos ho']
    rw [ht]
    refine ent_pickC (by rfl) ?_
    have e1 : rlast { R with off := true } = rlast R := rfl
    have e2 : rcach { R with off := true } = rcach R := rfl
    have e3 : bads { R with off := true } = bads R := rfl
    rw [e1, e2, e3]
    repeat (first
      | (with_reducible exact ent_drop)
      | (with_reducible refine ent_pick ?_)
      | (refine ent_pickC (by rfl) ?_)
      | (refine ent_pickS (by rfl) ?_)
      | (refine ent_pickM (by rfl) ?_)
      | (refine ent_prx ?_ ?_; rotate_left)
      | (refine ent_prq ?_))
    exact ⟨hq.hsl, hq.hcl, hq.hcs, hq.n17, hq.ns4, hq.hl1, hq.hl2, hq.hl3, hq.hl4, hq.ok, hq.cnt, ⟨hq.cok.pow, hq.cok.dks⟩⟩
  · have ho' : ¬ R.count = 0 := by simpa using ho
    have ht : R.ticked = { R with count := maxI (w64 (R.count - 1)) (-1), dk := fun j => (R.dk j).tick } := by rw [Rk.ticked, if_neg ho']
    have hpw := hq.cok.pow
    generalize hP : maxI (w64 (R.count - 1)) (-1) = P at *
    repeat (first
      | (with_reducible refine wps_bindpure ?_)
      | (with_reducible refine wps_assoc ?_)
      | (with_reducible refine wps_nil ?_)
      | (with_reducible refine wps_stepAlloc fun _ => ?_)
      | (with_reducible refine wps_alloc fun _ => ?_)
      | (with_reducible refine wps_newO fun _ => ?_)
      | (refine wps_ld _ (by rfl) ?_)
      | (refine wps_ldG _ _ _ (by rfl) ?_)
      | (refine wps_ldA _ (by rfl) ?_)
      | (refine wps_ldI _ (by rfl) ?_)
      | (refine wps_ldGI _ _ _ (by rfl) ?_)
      | (refine wps_ldAI _ (by rfl) ?_)
      | (refine wps_st (by simp) ?_)
      | (refine wps_stA (by simp) (by simp [Value.oneCell']) ?_)
      | (with_reducible refine wps_regionH ?_)
      | (with_reducible exact wps_pure (ent_val rfl)))
    refine wps_bindS (R := fun _ => seqp sl (rlast R) * seqp cl (rcach R) * own 1 l1 (sl.map vS) * own 1 l2 (cl.map vS) * own 1 l3 (bads R) * own 1 l4 (zv cs) * pc mb [.int .i64 R.n, .int .i64 R.ns, vS l1, vS l2, vS l3, vS l4, .int .i64 P, .bool R.off]) ?_ fun _ => ?_
    · refine wps_ite (fun hc => ?_) (fun hc => ?_)
      · have hc' : R.count > 0 := by simpa using hc
        repeat (first
          | (with_reducible refine wps_bindpure ?_)
          | (with_reducible refine wps_assoc ?_)
          | (with_reducible refine wps_nil ?_)
          | (with_reducible refine wps_stepAlloc fun _ => ?_)
          | (with_reducible refine wps_alloc fun _ => ?_)
          | (with_reducible refine wps_newO fun _ => ?_)
          | (refine wps_ld _ (by rfl) ?_)
          | (refine wps_ldG _ _ _ (by rfl) ?_)
          | (refine wps_ldA _ (by rfl) ?_)
          | (refine wps_ldI _ (by rfl) ?_)
          | (refine wps_ldGI _ _ _ (by rfl) ?_)
          | (refine wps_ldAI _ (by rfl) ?_)
          | (refine wps_st (by simp) ?_)
          | (refine wps_stA (by simp) (by simp [Value.oneCell']) ?_)
          | ((with_reducible apply wps_val); apply val_ite; rotate_left; refine fun (_ : ¬ _) => ?_; rotate_right; refine fun (_ : _ = true) => ?_)
          | ((with_reducible apply val_ite); rotate_left; refine fun (_ : ¬ _) => ?_; rotate_right; refine fun (_ : _ = true) => ?_)
          | (with_reducible refine wps_regionH ?_)
          | ((with_reducible apply wps_bindV); apply val_iteL; rotate_left; refine fun (_ : ¬ _) => ?_; rotate_right; refine fun (_ : _ = true) => ?_)
          | ((with_reducible apply val_iteL); rotate_left; refine fun (_ : ¬ _) => ?_; rotate_right; refine fun (_ : _ = true) => ?_)
          | (with_reducible exact wps_pure (ent_val rfl)))
        refine wps_pure ?_
        have : P = w64 (R.count - 1) := by
          rw [← hP, maxI, w64_id (by omega) (by omega), if_neg (by omega)]
        refine ent_pickC (by rw [this]; rfl) ?_
        repeat (first
          | (with_reducible exact ent_drop)
          | (with_reducible refine ent_pick ?_)
          | (refine ent_pickC (by rfl) ?_)
          | (refine ent_pickS (by rfl) ?_)
          | (refine ent_pickM (by rfl) ?_)
          | (refine ent_prx ?_ ?_; rotate_left)
          | (refine ent_prq ?_))
      · have hc' : ¬ R.count > 0 := by simpa using hc
        refine wps_pure ?_
        have : P = R.count := by
          have : R.count = -1 := by omega
          rw [← hP, maxI, this, w64_id (by omega) (by omega), if_pos (by omega)]
        rw [this]
        show Ent _ (_ * _)
        repeat (first
          | (with_reducible exact ent_drop)
          | (with_reducible refine ent_pick ?_)
          | (refine ent_pickC (by rfl) ?_)
          | (refine ent_pickS (by rfl) ?_)
          | (refine ent_pickM (by rfl) ?_)
          | (refine ent_prx ?_ ?_; rotate_left)
          | (refine ent_prq ?_))
    · refine wps_loop (fun i => ex fun n : Nat => ex fun cs : List Int => pr (i = (n : Int) ∧ n ≤ R.n ∧ cs.length = R.n ∧ ∀ j, j < R.n → (R.part n j).failed = false → cs[j]? = some (R.part n j).count) * seqp sl (rlast R) * seqp cl (rcach R) * own 1 l1 (sl.map vS) * own 1 l2 (cl.map vS) * own 1 l3 (badsT R n) * own 1 l4 (zv cs) * pc mb [.int .i64 R.n, .int .i64 R.ns, vS l1, vS l2, vS l3, vS l4, .int .i64 P, .bool R.off]) (fun i => (R.n - i).toNat) ?_ fun i => ?_
      · refine ent_ex 0 (ent_ex cs ?_)
        have hb : badsT R 0 = bads R := by simp [badsT, bads, Rk.part]
        rw [hb]
        repeat (first
          | (with_reducible exact ent_drop)
          | (with_reducible refine ent_pick ?_)
          | (refine ent_pickC (by rfl) ?_)
          | (refine ent_pickS (by rfl) ?_)
          | (refine ent_pickM (by rfl) ?_)
          | (refine ent_prx ?_ ?_; rotate_left)
          | (refine ent_prq ?_))
        refine ⟨rfl, by omega, hq.hcs, fun j hj hf => ?_⟩
        simp only [Rk.part, Nat.not_lt_zero, if_false] at hf ⊢
        exact hq.cnt j hj hf
      · refine wps_ex fun n => wps_ex fun cs => wps_prP fun ⟨hi, hn, hcl, hcnt⟩ => ?_
        repeat (first
          | (with_reducible refine wps_bindpure ?_)
          | (with_reducible refine wps_assoc ?_)
          | (with_reducible refine wps_nil ?_)
          | (with_reducible refine wps_stepAlloc fun _ => ?_)
          | (with_reducible refine wps_alloc fun _ => ?_)
          | (with_reducible refine wps_newO fun _ => ?_)
          | (refine wps_ld _ (by rfl) ?_)
          | (refine wps_ldG _ _ _ (by rfl) ?_)
          | (refine wps_ldA _ (by rfl) ?_)
          | (refine wps_ldI _ (by rfl) ?_)
          | (refine wps_ldGI _ _ _ (by rfl) ?_)
          | (refine wps_ldAI _ (by rfl) ?_)
          | (refine wps_st (by simp) ?_)
          | (refine wps_stA (by simp) (by simp [Value.oneCell']) ?_)
          | ((with_reducible apply wps_val); apply val_ite; rotate_left; refine fun (_ : ¬ _) => ?_; rotate_right; refine fun (_ : _ = true) => ?_)
          | ((with_reducible apply val_ite); rotate_left; refine fun (_ : ¬ _) => ?_; rotate_right; refine fun (_ : _ = true) => ?_)
          | (with_reducible refine wps_regionH ?_)
          | ((with_reducible apply wps_bindV); apply val_iteL; rotate_left; refine fun (_ : ¬ _) => ?_; rotate_right; refine fun (_ : _ = true) => ?_)
          | ((with_reducible apply val_iteL); rotate_left; refine fun (_ : ¬ _) => ?_; rotate_right; refine fun (_ : _ = true) => ?_)
          | (with_reducible exact wps_pure (ent_val rfl)))
        refine wps_ite (fun hc => ?_) (fun hc => ?_)
        · have hlt : n < R.n := by simp only [decide_eq_true_eq] at hc; omega
          have hn17 := hq.n17
          repeat (first
            | (with_reducible refine wps_bindpure ?_)
            | (with_reducible refine wps_assoc ?_)
            | (with_reducible refine wps_nil ?_)
            | (with_reducible refine wps_stepAlloc fun _ => ?_)
            | (with_reducible refine wps_alloc fun _ => ?_)
            | (with_reducible refine wps_newO fun _ => ?_)
            | (refine wps_ld _ (by rfl) ?_)
            | (refine wps_ldG _ _ _ (by rfl) ?_)
            | (refine wps_ldA _ (by rfl) ?_)
            | (refine wps_ldI _ (by rfl) ?_)
            | (refine wps_ldGI _ _ _ (by rfl) ?_)
            | (refine wps_ldAI _ (by rfl) ?_)
            | (refine wps_st (by simp) ?_)
            | (refine wps_stA (by simp) (by simp [Value.oneCell']) ?_)
            | ((with_reducible apply wps_val); apply val_ite; rotate_left; refine fun (_ : ¬ _) => ?_; rotate_right; refine fun (_ : _ = true) => ?_)
            | ((with_reducible apply val_ite); rotate_left; refine fun (_ : ¬ _) => ?_; rotate_right; refine fun (_ : _ = true) => ?_)
            | (with_reducible refine wps_regionH ?_)
            | ((with_reducible apply wps_bindV); apply val_iteL; rotate_left; refine fun (_ : ¬ _) => ?_; rotate_right; refine fun (_ : _ = true) => ?_)
            | ((with_reducible apply val_iteL); rotate_left; refine fun (_ : ¬ _) => ?_; rotate_right; refine fun (_ : _ = true) => ?_)
            | (with_reducible exact wps_pure (ent_val rfl)))
          have hpn : R.part n n = R.dk n := by simp [Rk.part]
          have hps : R.part (n + 1) n = (R.dk n).tick := by simp [Rk.part]
          have hpo : ∀ j, j ≠ n → R.part (n + 1) j = R.part n j := by
            intro j hj
            have : j < n + 1 ↔ j < n := by omega
            simp only [Rk.part, this]
          refine wps_rdS n (R.dk n).failed hi (by rw [badsT, List.getElem?_map, List.getElem?_range hlt, ← hpn]; rfl) ?_
          refine wps_ite (fun hf => ?_) (fun hf => ?_)
          · refine wps_pure ?_
            refine ent_prr (by rw [range_add1 hi (by omega)]; omega) (ent_ex (n + 1) (ent_ex cs ?_))
            have hb : badsT R n = badsT R (n + 1) := bads_same fun j hj => by
              by_cases hjn : j = n
              · subst hjn; rw [hps, hpn]; simp [hf]
              · rw [hpo j hjn]
            rw [hb]
            repeat (first
              | (with_reducible exact ent_drop)
              | (with_reducible refine ent_pick ?_)
              | (refine ent_pickC (by rfl) ?_)
              | (refine ent_pickS (by rfl) ?_)
              | (refine ent_pickM (by rfl) ?_)
              | (refine ent_prx ?_ ?_; rotate_left)
              | (refine ent_prq ?_))
            refine ⟨range_add1 hi (by omega), by omega, hcl, fun j hj hff => ?_⟩
            by_cases hjn : j = n
            · subst hjn; rw [hps] at hff; simp [hf] at hff
            · rw [hpo j hjn] at hff ⊢; exact hcnt j hj hff
          · have hff : (R.dk n).failed = false := by simpa using hf
            have hcn : cs[n]? = some (R.dk n).count := by rw [← hpn]; exact hcnt n hlt (by rw [hpn]; exact hff)
            have hdc := hq.cok.dks n
            repeat (first
              | (with_reducible refine wps_bindpure ?_)
              | (with_reducible refine wps_assoc ?_)
              | (with_reducible refine wps_nil ?_)
              | (with_reducible refine wps_stepAlloc fun _ => ?_)
              | (with_reducible refine wps_alloc fun _ => ?_)
              | (with_reducible refine wps_newO fun _ => ?_)
              | (refine wps_ld _ (by rfl) ?_)
              | (refine wps_ldG _ _ _ (by rfl) ?_)
              | (refine wps_ldA _ (by rfl) ?_)
              | (refine wps_ldI _ (by rfl) ?_)
              | (refine wps_ldGI _ _ _ (by rfl) ?_)
              | (refine wps_ldAI _ (by rfl) ?_)
              | (refine wps_st (by simp) ?_)
              | (refine wps_stA (by simp) (by simp [Value.oneCell']) ?_)
              | (with_reducible refine wps_regionH ?_)
              | (with_reducible exact wps_pure (ent_val rfl)))
            refine wps_rdS n (R.dk n).count hi (by simp [zv, hcn]) ?_
            refine wps_bindS (R := fun _ => seqp sl (rlast R) * seqp cl (rcach R) * own 1 l1 (sl.map vS) * own 1 l2 (cl.map vS) * own 1 l3 (badsT R (n + 1)) * own 1 l4 (zv cs) * pc mb [.int .i64 R.n, .int .i64 R.ns, vS l1, vS l2, vS l3, vS l4, .int .i64 P, .bool R.off]) ?_ fun _ => ?_
            · refine wps_ite (fun h0 => ?_) (fun h0 => ?_)
              · have h0' : (R.dk n).count = 0 := by simpa using h0
                repeat (first
                  | (with_reducible refine wps_bindpure ?_)
                  | (with_reducible refine wps_assoc ?_)
                  | (with_reducible refine wps_nil ?_)
                  | (with_reducible refine wps_stepAlloc fun _ => ?_)
                  | (with_reducible refine wps_alloc fun _ => ?_)
                  | (with_reducible refine wps_newO fun _ => ?_)
                  | (refine wps_ld _ (by rfl) ?_)
                  | (refine wps_ldG _ _ _ (by rfl) ?_)
                  | (refine wps_ldA _ (by rfl) ?_)
                  | (refine wps_ldI _ (by rfl) ?_)
                  | (refine wps_ldGI _ _ _ (by rfl) ?_)
                  | (refine wps_ldAI _ (by rfl) ?_)
                  | (refine wps_st (by simp) ?_)
                  | (refine wps_stA (by simp) (by simp [Value.oneCell']) ?_)
                  | ((with_reducible apply wps_val); apply val_ite; rotate_left; refine fun (_ : ¬ _) => ?_; rotate_right; refine fun (_ : _ = true) => ?_)
                  | ((with_reducible apply val_ite); rotate_left; refine fun (_ : ¬ _) => ?_; rotate_right; refine fun (_ : _ = true) => ?_)
                  | (with_reducible refine wps_regionH ?_)
                  | ((with_reducible apply wps_bindV); apply val_iteL; rotate_left; refine fun (_ : ¬ _) => ?_; rotate_right; refine fun (_ : _ = true) => ?_)
                  | ((with_reducible apply val_iteL); rotate_left; refine fun (_ : ¬ _) => ?_; rotate_right; refine fun (_ : _ = true) => ?_)
                  | (with_reducible exact wps_pure (ent_val rfl)))
                refine wps_wrS n hi (by rw [hq.hl3]; exact hlt) (wps_pure ?_)
                refine ent_pick (ent_pick (ent_pickS ?_ ?_))
                · exact bads_set hlt (by rw [hps]; simp [hff, h0']) fun j hj hjn => by rw [hpo j hjn]
                · repeat (first
                    | (with_reducible exact ent_drop)
                    | (with_reducible refine ent_pick ?_)
                    | (refine ent_pickC (by rfl) ?_)
                    | (refine ent_pickS (by rfl) ?_)
                    | (refine ent_pickM (by rfl) ?_)
                    | (refine ent_prx ?_ ?_; rotate_left)
                    | (refine ent_prq ?_))
              · have h0' : ¬ (R.dk n).count = 0 := by simpa using h0
                have hb : badsT R n = badsT R (n + 1) := bads_same fun j hj => by
                  by_cases hjn : j = n
                  · subst hjn; rw [hps, hpn]; simp [hff, h0']
                  · rw [hpo j hjn]
                rw [hb]
                refine wps_pure ?_
                show Ent _ (_ * _)
                repeat (first
                  | (with_reducible exact ent_drop)
                  | (with_reducible refine ent_pick ?_)
                  | (refine ent_pickC (by rfl) ?_)
                  | (refine ent_pickS (by rfl) ?_)
                  | (refine ent_pickM (by rfl) ?_)
                  | (refine ent_prx ?_ ?_; rotate_left)
                  | (refine ent_prq ?_))
            · repeat (first
                | (with_reducible refine wps_bindpure ?_)
                | (with_reducible refine wps_assoc ?_)
                | (with_reducible refine wps_nil ?_)
                | (with_reducible refine wps_stepAlloc fun _ => ?_)
                | (with_reducible refine wps_alloc fun _ => ?_)
                | (with_reducible refine wps_newO fun _ => ?_)
                | (refine wps_ld _ (by rfl) ?_)
                | (refine wps_ldG _ _ _ (by rfl) ?_)
                | (refine wps_ldA _ (by rfl) ?_)
                | (refine wps_ldI _ (by rfl) ?_)
                | (refine wps_ldGI _ _ _ (by rfl) ?_)
                | (refine wps_ldAI _ (by rfl) ?_)
                | (refine wps_st (by simp) ?_)
                | (refine wps_stA (by simp) (by simp [Value.oneCell']) ?_)
                | ((with_reducible apply wps_val); apply val_ite; rotate_left; refine fun (_ : ¬ _) => ?_; rotate_right; refine fun (_ : _ = true) => ?_)
                | ((with_reducible apply val_ite); rotate_left; refine fun (_ : ¬ _) => ?_; rotate_right; refine fun (_ : _ = true) => ?_)
                | (with_reducible refine wps_regionH ?_)
                | ((with_reducible apply wps_bindV); apply val_iteL; rotate_left; refine fun (_ : ¬ _) => ?_; rotate_right; refine fun (_ : _ = true) => ?_)
                | ((with_reducible apply val_iteL); rotate_left; refine fun (_ : ¬ _) => ?_; rotate_right; refine fun (_ : _ = true) => ?_)
                | (with_reducible exact wps_pure (ent_val rfl)))
              refine wps_rdS n (R.dk n).count hi (by simp [zv, hcn]) ?_
              have hgoal : ∀ cs' : List Int, cs'.length = R.n → (∀ j, j < R.n → j ≠ n → cs'[j]? = cs[j]?) → ((R.dk n).count ≠ 0 → cs'[n]? = some (maxI (w64 ((R.dk n).count - 1)) (-1))) →
                  (∀ j, j < R.n → (R.part (n + 1) j).failed = false → cs'[j]? = some (R.part (n + 1) j).count) := by
                intro cs' h1 h2 h3 j hj hfj
                by_cases hjn : j = n
                · subst hjn
                  rw [hps] at hfj ⊢
                  refine h3 fun h0 => ?_
                  simp [hff, h0] at hfj
                · rw [h2 j hj hjn]
                  rw [hpo j hjn] at hfj ⊢
                  exact hcnt j hj hfj
              refine wps_ite (fun hp => ?_) (fun hp => ?_)
              · have hp' : (R.dk n).count > 0 := by simpa using hp
                repeat (first
                  | (with_reducible refine wps_bindpure ?_)
                  | (with_reducible refine wps_assoc ?_)
                  | (with_reducible refine wps_nil ?_)
                  | (with_reducible refine wps_stepAlloc fun _ => ?_)
                  | (with_reducible refine wps_alloc fun _ => ?_)
                  | (with_reducible refine wps_newO fun _ => ?_)
                  | (refine wps_ld _ (by rfl) ?_)
                  | (refine wps_ldG _ _ _ (by rfl) ?_)
                  | (refine wps_ldA _ (by rfl) ?_)
                  | (refine wps_ldI _ (by rfl) ?_)
                  | (refine wps_ldGI _ _ _ (by rfl) ?_)
                  | (refine wps_ldAI _ (by rfl) ?_)
                  | (refine wps_st (by simp) ?_)
                  | (refine wps_stA (by simp) (by simp [Value.oneCell']) ?_)
                  | ((with_reducible apply wps_val); apply val_ite; rotate_left; refine fun (_ : ¬ _) => ?_; rotate_right; refine fun (_ : _ = true) => ?_)
                  | ((with_reducible apply val_ite); rotate_left; refine fun (_ : ¬ _) => ?_; rotate_right; refine fun (_ : _ = true) => ?_)
                  | (with_reducible refine wps_regionH ?_)
                  | ((with_reducible apply wps_bindV); apply val_iteL; rotate_left; refine fun (_ : ¬ _) => ?_; rotate_right; refine fun (_ : _ = true) => ?_)
                  | ((with_reducible apply val_iteL); rotate_left; refine fun (_ : ¬ _) => ?_; rotate_right; refine fun (_ : _ = true) => ?_)
                  | (with_reducible exact wps_pure (ent_val rfl)))
                refine wps_rdS n (R.dk n).count hi (by simp [zv, hcn]) ?_
                refine wps_wrS n hi (by rw [hq.hl4]; exact hlt) (wps_pure ?_)
                refine ent_prr (by rw [range_add1 hi (by omega)]; omega) (ent_ex (n + 1) (ent_ex (cs.set n (w64 ((R.dk n).count - 1))) ?_))
                refine ent_pick (ent_pickS (by simp [zv, List.map_set]) ?_)
                repeat (first
                  | (with_reducible exact ent_drop)
                  | (with_reducible refine ent_pick ?_)
                  | (refine ent_pickC (by rfl) ?_)
                  | (refine ent_pickS (by rfl) ?_)
                  | (refine ent_pickM (by rfl) ?_)
                  | (refine ent_prx ?_ ?_; rotate_left)
                  | (refine ent_prq ?_))
                refine ⟨range_add1 hi (by omega), by omega, by simpa using hcl, hgoal _ (by simpa using hcl) (fun j _ hjn => by rw [List.getElem?_set_ne (fun e => hjn e.symm)]) fun _ => ?_⟩
                rw [List.getElem?_set_self (by omega)]
                rw [maxI, w64_id (by omega) (by omega), if_neg (by omega)]
              · have hp' : ¬ (R.dk n).count > 0 := by simpa using hp
                refine wps_pure ?_
                refine ent_prr (by rw [range_add1 hi (by omega)]; omega) (ent_ex (n + 1) (ent_ex cs ?_))
                repeat (first
                  | (with_reducible exact ent_drop)
                  | (with_reducible refine ent_pick ?_)
                  | (refine ent_pickC (by rfl) ?_)
                  | (refine ent_pickS (by rfl) ?_)
                  | (refine ent_pickM (by rfl) ?_)
                  | (refine ent_prx ?_ ?_; rotate_left)
                  | (refine ent_prq ?_))
                refine ⟨range_add1 hi (by omega), by omega, hcl, hgoal _ hcl (fun j _ _ => rfl) fun h0 => ?_⟩
                have : (R.dk n).count = -1 := by omega
                rw [hcn, maxI, this, w64_id (by omega) (by omega), if_pos (by omega)]
        · have hne : n = R.n := by simp only [decide_eq_true_eq] at hc; omega
          subst hne
          refine wps_mapR (wps_pure ?_)
          refine ent_prr (by rw [if_neg ho']) (ent_ex sl (ent_ex cl (ent_ex cs ?_)))
          have e1 : rlast R.ticked = rlast R := by rw [ht]; rfl
          have e2 : rcach R.ticked = rcach R := by rw [ht]; rfl
          have e3 : bads R.ticked = badsT R R.n := by
            rw [ht]
            exact bads_same fun j hj => by simp [Rk.part, hj]
          have e4 : R.ticked.n = R.n := by rw [ht]
          have e5 : R.ticked.ns = R.ns := by rw [ht]
          have e6 : R.ticked.count = P := by rw [ht]
          have e7 : R.ticked.off = R.off := by rw [ht]
          have hdt : ∀ j, R.ticked.dk j = (R.dk j).tick := fun j => by rw [ht]
          rw [e1, e2, e3, e4, e5, e6, e7]
          repeat (first
            | (with_reducible exact ent_drop)
            | (with_reducible refine ent_pick ?_)
            | (refine ent_pickC (by rfl) ?_)
            | (refine ent_pickS (by rfl) ?_)
            | (refine ent_pickM (by rfl) ?_)
            | (refine ent_prx ?_ ?_; rotate_left)
            | (refine ent_prq ?_))
          have hq' : RQ R.ticked l1 l2 l3 l4 sl cl cs := by
            refine ⟨by rw [e4, e5]; exact hq.hsl, by rw [e4, e5]; exact hq.hcl, by rw [e4]; exact hcl, by rw [e4]; exact hq.n17, by rw [e5]; exact hq.ns4, by rw [e4, e5]; exact hq.hl1, by rw [e4, e5]; exact hq.hl2, by rw [e4]; exact hq.hl3, by rw [e4]; exact hq.hl4, fun j hj => ?_, fun j hj hf => ?_, hq.cok.ticked⟩
            · rw [e4] at hj; rw [hdt, e5]; exact hq.ok j hj
            · rw [e4] at hj
              rw [hdt] at hf ⊢
              have := hcnt j hj
              simp only [Rk.part, hj, if_true] at this
              exact this hf
          exact hq'
end Go.Proofs.Ytldmeimebebllaa
namespace Go.Proofs.Ytldmeimebebllaa
open Go.Mo
set_option linter.unusedVariables false
variable {g : Fr} {cv : CV}
theorem ref02_off {mb : Nat} {R : Rk} {l1 l2 l3 l4 : Slc} {α : Type} {F : HP} {K : Bool → M α} {Q : α → HP} (h : wps g (F * refQ mb R l1 l2 l3 l4) (K R.off) Q) : wps g (F * refQ mb R l1 l2 l3 l4) (bindM (ld Value.bool ⟨mb, 7, none⟩) K) Q := by
  refine wps_val (v := R.off) ?_ h
  show wps g _ (bindM (ld Value.bool ⟨mb, 7, none⟩) pureM) _
  unfold refQ refX4
  refine wps_exr fun sl => wps_exr fun cl => wps_exr fun cs => ?_
  repeat (first
    | (with_reducible refine wps_bindpure ?_)
    | (with_reducible refine wps_assoc ?_)
    | (with_reducible refine wps_nil ?_)
    | (with_reducible refine wps_stepAlloc fun _ => ?_)
    | (with_reducible refine wps_alloc fun _ => ?_)
    | (with_reducible refine wps_newO fun _ => ?_)
    | (refine wps_ld _ (by rfl) ?_)
    | (refine wps_ldG _ _ _ (by rfl) ?_)
    | (refine wps_ldA _ (by rfl) ?_)
    | (refine wps_ldI _ (by rfl) ?_)
    | (refine wps_ldGI _ _ _ (by rfl) ?_)
    | (refine wps_ldAI _ (by rfl) ?_)
    | (refine wps_st (by simp) ?_)
    | (refine wps_stA (by simp) (by simp [Value.oneCell']) ?_)
    | ((with_reducible apply wps_val); apply val_ite; rotate_left; refine fun (_ : ¬ _) => ?_; rotate_right; refine fun (_ : _ = true) => ?_)
    | ((with_reducible apply val_ite); rotate_left; refine fun (_ : ¬ _) => ?_; rotate_right; refine fun (_ : _ = true) => ?_)
    | (with_reducible refine wps_regionH ?_)
    | ((with_reducible apply wps_bindV); apply val_iteL; rotate_left; refine fun (_ : ¬ _) => ?_; rotate_right; refine fun (_ : _ = true) => ?_)
    | ((with_reducible apply val_iteL); rotate_left; refine fun (_ : ¬ _) => ?_; rotate_right; refine fun (_ : _ = true) => ?_)
    | (with_reducible exact wps_pure (ent_val rfl)))
  exact wps_pure (ent_prr rfl (Ent.starr (ent_ex sl (ent_ex cl (ent_ex cs (Ent.refl _))))))
def mix {α : Type} (m : Nat) (f f' : Nat → α) : Nat → α := fun i => if i < m then f i else f' i
theorem seqp_mix {A : HP} {sl : List Slc} {m : Nat} {f f' : Nat → List Int} {s : Slc} (h : Ent A (seqp sl (mix m f f'))) (hs : Ent A (byt s (f m))) : Ent A (seqp (sl.set m s) (mix (m + 1) f f')) :=
  Ent.trans (seqp_set (k := m) h hs) (seqp_ext fun i _ => by
    simp only [mix]
    by_cases hi : i = m
    · subst hi; simp
    · have : i < m + 1 ↔ i < m := by omega
      simp [hi, this])
theorem seqp_mixs {sl : List Slc} {m : Nat} {f f' : Nat → List Int} (h : f m = f' m) : Ent (seqp sl (mix m f f')) (seqp sl (mix (m + 1) f f')) := seqp_ext fun i _ => by
  simp only [mix]
  by_cases hi : i = m
  · subst hi; simp [h]
  · have : i < m + 1 ↔ i < m := by omega
    simp [this]
theorem flat_eq {k s j t ns : Nat} (hs : s < ns) (ht : t < ns) : k * ns + s = j * ns + t ↔ k = j ∧ s = t := by
  constructor
  · intro h
    have h1 := flat_div (k := k) hs
    have h2 := flat_div (k := j) ht
    rw [h] at h1
    exact ⟨h1.1.symm.trans h2.1, h1.2.symm.trans h2.2⟩
  · rintro ⟨rfl, rfl⟩; rfl
theorem put_rcach {R : Rk} {k s : Int} {b : List Int} {i : Nat} (hk : 0 ≤ k) (hs : 0 ≤ s ∧ s < R.ns) (i' : Nat) (hi : i = k.toNat * R.ns + s.toNat) : rcach (R.put k s b) i' = if i' = i then b else rcach R i' := by
  subst hi
  have h0 : 0 < R.ns := by omega
  have hd : i' = (i' / R.ns) * R.ns + i' % R.ns := by rw [Nat.mul_comm]; exact (Nat.div_add_mod i' R.ns).symm
  have hm : i' % R.ns < R.ns := Nat.mod_lt _ h0
  have hiff : i' = k.toNat * R.ns + s.toNat ↔ i' / R.ns = k.toNat ∧ i' % R.ns = s.toNat := by
    have := flat_eq (k := i' / R.ns) (s := i' % R.ns) (j := k.toNat) (t := s.toNat) hm (by omega)
    rw [← hd] at this
    exact this
  show (((R.put k s b).dk (i' / R.ns)).cached ((i' % R.ns : Nat) : Int)).getD [] = _
  simp only [Rk.put]
  by_cases h1 : i' / R.ns = k.toNat
  · rw [if_pos h1]
    by_cases h2 : i' % R.ns = s.toNat
    · rw [if_pos (hiff.2 ⟨h1, h2⟩)]
      simp only
      rw [if_pos (by omega)]; rfl
    · rw [if_neg (fun e => h2 (hiff.1 e).2)]
      simp only
      rw [if_neg (by omega)]; rfl
  · rw [if_neg h1, if_neg (fun e => h1 (hiff.1 e).1)]; rfl
theorem Rk.cok.put {R : Rk} (h : R.cok) (k s : Int) (b : List Int) : (R.put k s b).cok := ⟨h.pow, fun j => by
  simp only [Rk.put]; split
  · exact h.dks j
  · exact h.dks j⟩
theorem ticked_n (R : Rk) : R.ticked.n = R.n ∧ R.ticked.ns = R.ns := by
  unfold Rk.ticked; split <;> exact ⟨rfl, rfl⟩
theorem ref02_Write_spec {H : HP} (mb : Nat) (R : Rk) (l1 l2 l3 l4 : Slc) (k s : Int) (x : Slc) (b : List Int) (hx : Ent H (byt x b)) (hb : b.length ≤ 1099511627776) :
    wps g (H * refQ mb R l1 l2 l3 l4) (ref02_Rack_Write (ptr mb) k s x) (fun e => pr (e = R.gate k s b.length) * H * refQ mb (R.write k s b) l1 l2 l3 l4) := by
  unfold ref02_Rack_Write
  refine wps_fact (Ent.trans (ent_left _ _) (len_of hx)) fun hl => ?_
  have fin : ∀ e, e = R.gate k s b.length → e ≠ 0 → ∀ R', R' = R.gated k s b.length → Ent (H * refQ mb R' l1 l2 l3 l4) (pr (e = R.gate k s b.length) * H * refQ mb (R.write k s b) l1 l2 l3 l4) := by
    intro e he h0 R' hR'
    rw [Rk.write, if_neg (by omega), ← hR', star_assoc]
    exact ent_prr he (Ent.refl _)
  repeat (first
    | (with_reducible refine wps_bindpure ?_)
    | (with_reducible refine wps_assoc ?_)
    | (with_reducible refine wps_nil ?_)
    | (with_reducible refine wps_stepAlloc fun _ => ?_)
    | (with_reducible refine wps_alloc fun _ => ?_)
    | (with_reducible refine wps_newO fun _ => ?_)
    | (refine wps_ld _ (by rfl) ?_)
    | (refine wps_ldG _ _ _ (by rfl) ?_)
    | (refine wps_ldA _ (by rfl) ?_)
    | (refine wps_ldI _ (by rfl) ?_)
    | (refine wps_ldGI _ _ _ (by rfl) ?_)
    | (refine wps_ldAI _ (by rfl) ?_)
    | (refine wps_st (by simp) ?_)
    | (refine wps_stA (by simp) (by simp [Value.oneCell']) ?_)
    | ((with_reducible apply wps_val); apply val_ite; rotate_left; refine fun (_ : ¬ _) => ?_; rotate_right; refine fun (_ : _ = true) => ?_)
    | ((with_reducible apply val_ite); rotate_left; refine fun (_ : ¬ _) => ?_; rotate_right; refine fun (_ : _ = true) => ?_)
    | (with_reducible refine wps_regionH ?_)
    | ((with_reducible apply wps_bindV); apply val_iteL; rotate_left; refine fun (_ : ¬ _) => ?_; rotate_right; refine fun (_ : _ = true) => ?_)
    | ((with_reducible apply val_iteL); rotate_left; refine fun (_ : ¬ _) => ?_; rotate_right; refine fun (_ : _ = true) => ?_)
    | (with_reducible exact wps_pure (ent_val rfl)))
  refine ref02_off ?_
  by_cases ho : R.off = true
  · rw [if_pos ho]
    exact wps_pure (fin _ (by simp [Rk.gate, ho]) (by omega) _ (by simp [Rk.gated, ho]))
  rw [if_neg ho]
  refine wps_val (val_frame (F := H) (fun _ => ref02_there_val mb R l1 l2 l3 l4 k s) rfl) ?_
  by_cases ht : thereB R k s = true
  rotate_left
  · have hn : (k < 0 ∨ k ≥ R.n ∨ s < 0 ∨ s ≥ R.ns) := Classical.byContradiction fun h => ht (there_or.2 h)
    rw [show thereB R k s = false by simpa using ht]
    refine wps_val (v := true) (wps_ite (fun _ => wps_pure (ent_val rfl)) (fun h => absurd rfl h)) ?_
    refine wps_ite (fun _ => ?_) (fun h => absurd rfl h)
    exact wps_pure (fin _ (by simp only [Rk.gate, if_neg ho, if_pos hn]) (by omega) _ (by rw [Rk.gated, if_pos (.inr (.inl hn))]))
  have hn := there_or.1 ht
  rw [ht]
  by_cases hs : ((b.length : Nat) : Int) ≠ 64
  · refine wps_val (v := true) (wps_ite (fun h => absurd h (by decide)) (fun _ => wps_pure (ent_val (by rw [← hl]; simpa using hs)))) ?_
    refine wps_ite (fun _ => ?_) (fun h => absurd rfl h)
    exact wps_pure (fin _ (by simp only [Rk.gate, if_neg ho, if_neg hn, if_pos hs]) (by omega) _ (by rw [Rk.gated, if_pos (.inr (.inr hs))]))
  have hs' : ((b.length : Nat) : Int) = 64 := by omega
  refine wps_val (v := false) (wps_ite (fun h => absurd h (by decide)) (fun _ => wps_pure (ent_val (by rw [← hl]; simpa using hs')))) ?_
  refine wps_ite (fun h => absurd h (by decide)) (fun _ => ?_)
  have hgd : R.gated k s b.length = R.ticked := by
    rw [Rk.gated, if_neg]
    rintro (h | h | h)
    · exact ho h
    · exact hn h
    · exact hs h
  refine wps_call (F := H) (fun _ => ref02_call_spec mb R l1 l2 l3 l4) (Ent.refl _) fun e => ?_
  rw [star_left_comm]
  refine wps_pr fun he => ?_
  by_cases hc : R.count = 0
  · rw [if_pos hc] at he
    subst he
    refine wps_ite (fun _ => ?_) (fun h => absurd rfl h)
    exact wps_pure (fin _ (by simp only [Rk.gate, if_neg ho, if_neg hn, if_neg hs, if_pos hc]) (by omega) _ hgd.symm)
  rw [if_neg hc] at he
  subst he
  refine wps_ite (fun h => absurd h (by decide)) (fun _ => ?_)
  obtain ⟨hk2, hs2⟩ := there_true ht
  have htn := ticked_n R
  have ht' : thereB R.ticked k s = true := by simp only [thereB, htn.1, htn.2]; exact ht
  unfold refQ
  refine wps_exr fun sl => wps_exr fun cl => wps_exr fun cs => ?_
  unfold refX4
  simp only [← star_assoc]
  refine wps_factP fun hq => ?_
  obtain ⟨i, hi, hie, hw, hlst, hcst, hk, hss⟩ := hq.at ht'
  repeat (first
    | (with_reducible refine wps_bindpure ?_)
    | (with_reducible refine wps_assoc ?_)
    | (with_reducible refine wps_nil ?_)
    | (with_reducible refine wps_stepAlloc fun _ => ?_)
    | (with_reducible refine wps_alloc fun _ => ?_)
    | (with_reducible refine wps_newO fun _ => ?_)
    | (refine wps_ld _ (by rfl) ?_)
    | (refine wps_ldG _ _ _ (by rfl) ?_)
    | (refine wps_ldA _ (by rfl) ?_)
    | (refine wps_ldI _ (by rfl) ?_)
    | (refine wps_ldGI _ _ _ (by rfl) ?_)
    | (refine wps_ldAI _ (by rfl) ?_)
    | (refine wps_st (by simp) ?_)
    | (refine wps_stA (by simp) (by simp [Value.oneCell']) ?_)
    | ((with_reducible apply wps_val); apply val_ite; rotate_left; refine fun (_ : ¬ _) => ?_; rotate_right; refine fun (_ : _ = true) => ?_)
    | ((with_reducible apply val_ite); rotate_left; refine fun (_ : ¬ _) => ?_; rotate_right; refine fun (_ : _ = true) => ?_)
    | (with_reducible refine wps_regionH ?_)
    | ((with_reducible apply wps_bindV); apply val_iteL; rotate_left; refine fun (_ : ¬ _) => ?_; rotate_right; refine fun (_ : _ = true) => ?_)
    | ((with_reducible apply val_iteL); rotate_left; refine fun (_ : ¬ _) => ?_; rotate_right; refine fun (_ : _ = true) => ?_)
    | (with_reducible exact wps_pure (ent_val rfl)))
  refine wps_rdS k.toNat (R.ticked.dk k.toNat).failed (by omega) (by rw [bads, List.getElem?_map, List.getElem?_range hk]; rfl) ?_
  refine wps_ite (fun hf => ?_) (fun hf => ?_)
  · have hg : R.gate k s b.length = 13 := by simp only [Rk.gate, if_neg ho, if_neg hn, if_neg hs, if_neg hc, if_pos hf]
    refine wps_pure ?_
    have := fin 13 hg.symm (by omega) _ hgd.symm
    unfold refQ refX4 at this
    refine Ent.trans ?_ this
    refine Ent.trans ?_ (Ent.starr (ent_ex sl (ent_ex cl (ent_ex cs (Ent.refl _)))))
    simp only [← star_assoc]
    exact Ent.refl _
  · have hg : R.gate k s b.length = 0 := by simp only [Rk.gate, if_neg ho, if_neg hn, if_neg hs, if_neg hc, if_neg hf]
    have hwr : R.write k s b = R.ticked.put k s b := by rw [Rk.write, if_pos hg, hgd]
    rw [hwr, hg]
    refine wps_regionH ?_
    repeat (first
      | (with_reducible refine wps_bindpure ?_)
      | (with_reducible refine wps_assoc ?_)
      | (with_reducible refine wps_nil ?_)
      | (with_reducible refine wps_stepAlloc fun _ => ?_)
      | (with_reducible refine wps_alloc fun _ => ?_)
      | (with_reducible refine wps_newO fun _ => ?_)
      | (refine wps_ld _ (by rfl) ?_)
      | (refine wps_ldG _ _ _ (by rfl) ?_)
      | (refine wps_ldA _ (by rfl) ?_)
      | (refine wps_ldI _ (by rfl) ?_)
      | (refine wps_ldGI _ _ _ (by rfl) ?_)
      | (refine wps_ldAI _ (by rfl) ?_)
      | (refine wps_st (by simp) ?_)
      | (refine wps_stA (by simp) (by simp [Value.oneCell']) ?_)
      | ((with_reducible apply wps_val); apply val_ite; rotate_left; refine fun (_ : ¬ _) => ?_; rotate_right; refine fun (_ : _ = true) => ?_)
      | ((with_reducible apply val_ite); rotate_left; refine fun (_ : ¬ _) => ?_; rotate_right; refine fun (_ : _ = true) => ?_)
      | (with_reducible refine wps_regionH ?_)
      | ((with_reducible apply wps_bindV); apply val_iteL; rotate_left; refine fun (_ : ¬ _) => ?_; rotate_right; refine fun (_ : _ = true) => ?_)
      | ((with_reducible apply val_iteL); rotate_left; refine fun (_ : ¬ _) => ?_; rotate_right; refine fun (_ : _ = true) => ?_)
      | (with_reducible exact wps_pure (ent_val rfl)))
    rw [hw]
    refine wps_step1 (ref00_CopyBytes_spec (b := b) (Ent.trans (ent_drop (B := H)) hx) hb) fun s' => ?_
    refine wps_wrS i rfl (by rw [hq.hl2]; exact hi) (wps_pure ?_)
    refine Ent.trans ?_ (Ent.starr (ent_ex sl (ent_ex (cl.set i s') (ent_ex cs (Ent.refl _)))))
    have e1 : rlast (R.ticked.put k s b) = rlast R.ticked := by
      funext j
      show ((R.ticked.put k s b).dk _).lasts _ = _
      simp only [Rk.put]
      split <;> rfl
    have e3 : bads (R.ticked.put k s b) = bads R.ticked := by
      refine (bads_same fun j _ => ?_).symm
      simp only [Rk.put]
      split <;> rfl
    rw [e1, e3]
    simp only [← star_assoc]
    refine ent_pickC (by rfl) (ent_pick (ent_pick (ent_pickS (by rw [List.map_set]; rfl) (ent_pick ?_))))
    refine ent_swap (A := own 1 s' (bv b)) (B := byt s' b) (own_rsl _ _ _) ?_
    refine ent_join (A := seqp cl (rcach R.ticked)) (B := byt s' b) (C := seqp (cl.set i s') (rcach (R.ticked.put k s b))) (Ent.trans (seqp_set (k := i) (b := b) (ent_left _ _) (ent_right _ _)) (seqp_ext fun j _ => ?_)) ?_
    · exact (put_rcach (R := R.ticked) (i := i) hk2.1 (by rw [htn.2]; exact hs2) j hie).symm
    · repeat (first
        | (with_reducible exact ent_drop)
        | (with_reducible refine ent_pick ?_)
        | (refine ent_pickC (by rfl) ?_)
        | (refine ent_pickS (by rfl) ?_)
        | (refine ent_pickM (by rfl) ?_)
        | (refine ent_prx ?_ ?_; rotate_left)
        | (refine ent_prq ?_))
      all_goals first | trivial | skip
      refine ⟨hq.hsl, by rw [List.length_set]; exact hq.hcl, hq.hcs, hq.n17, hq.ns4, hq.hl1, hq.hl2, hq.hl3, hq.hl4, fun j hj => ?_, fun j hj hff => ?_, hq.cok.put _ _ _⟩
      · have hok := hq.ok j hj
        simp only [Rk.put]
        split
        · refine ⟨hok.1, fun q b' hb' => ?_⟩
          simp only at hb'
          by_cases hqs : q = s
          · rw [if_pos hqs] at hb'
            cases hb'
            rw [hqs]
            have := hs2.2
            exact ⟨by omega, hs2.1, by omega⟩
          · rw [if_neg hqs] at hb'
            exact hok.2 q b' hb'
        · exact hok
      · have := hq.cnt j hj
        simp only [Rk.put] at hff ⊢
        by_cases hjk : j = k.toNat
        · rw [if_pos hjk] at hff ⊢
          exact this hff
        · rw [if_neg hjk] at hff ⊢
          exact this hff
end Go.Proofs.Ytldmeimebebllaa
namespace Go.Proofs.Ytldmeimebebllaa
open Go.Mo
set_option linter.unusedVariables false
variable {g : Fr} {cv : CV}
theorem setD_other {R : Rk} {k : Nat} {D : Dk} {i : Nat} (h : i / R.ns ≠ k) : rlast (R.setD k D) i = rlast R i ∧ rcach (R.setD k D) i = rcach R i := by
  constructor
  · show ((R.setD k D).dk (i / R.ns)).lasts _ = _
    simp only [Rk.setD, if_neg h]; rfl
  · show (((R.setD k D).dk (i / R.ns)).cached _).getD [] = _
    simp only [Rk.setD, if_neg h]; rfl
theorem setD_at {R : Rk} {k : Nat} {D : Dk} {t : Nat} (h : t < R.ns) : rlast (R.setD k D) (k * R.ns + t) = D.lasts t ∧ rcach (R.setD k D) (k * R.ns + t) = (D.cached (t : Int)).getD [] := by
  have hd := flat_div (k := k) h
  constructor
  · show ((R.setD k D).dk ((k * R.ns + t) / R.ns)).lasts ((k * R.ns + t) % R.ns) = _
    rw [hd.1, hd.2]; simp [Rk.setD]
  · show (((R.setD k D).dk ((k * R.ns + t) / R.ns)).cached (((k * R.ns + t) % R.ns : Nat) : Int)).getD [] = _
    rw [hd.1, hd.2]; simp [Rk.setD]
theorem ref_at {R : Rk} {k t : Nat} (h : t < R.ns) : rlast R (k * R.ns + t) = (R.dk k).lasts t ∧ rcach R (k * R.ns + t) = ((R.dk k).cached (t : Int)).getD [] := by
  have hd := flat_div (k := k) h
  exact ⟨by rw [rlast, hd.1, hd.2], by rw [rcach, hd.1, hd.2]⟩
theorem before_k {ns i k : Nat} (h : i < k * ns) : i / ns ≠ k := by
  intro e
  have : i < k * ns := h
  have h0 : 0 < ns := Nat.pos_of_ne_zero fun h0 => by rw [h0] at this; omega
  have := (Nat.div_lt_iff_lt_mul h0).2 this
  omega
theorem after_k {ns i k : Nat} (h : (k + 1) * ns ≤ i) (h0 : 0 < ns) : i / ns ≠ k := by
  intro e
  have := (Nat.le_div_iff_mul_le h0).2 h
  omega
theorem RQ.flat {R : Rk} {l1 l2 l3 l4 : Slc} {sl cl : List Slc} {cs : List Int} (h : RQ R l1 l2 l3 l4 sl cl cs) {k : Int} (hk : 0 ≤ k ∧ k < R.n) : w64 (k * (R.ns : Int)) = ((k.toNat * R.ns : Nat) : Int) ∧ w64 (w64 (k + 1) * (R.ns : Int)) = (((k.toNat + 1) * R.ns : Nat) : Int) ∧ (k.toNat + 1) * R.ns ≤ R.n * R.ns ∧ (k.toNat + 1) * R.ns ≤ 69632 := by
  obtain ⟨K, rfl⟩ : ∃ K : Nat, k = (K : Int) := ⟨k.toNat, by omega⟩
  have h17 := h.n17
  have h1 : (K + 1) * R.ns ≤ R.n * R.ns := Nat.mul_le_mul_right _ (by omega)
  have h2 : R.n * R.ns ≤ 17 * 4096 := Nat.mul_le_mul h17 h.ns4
  have h3 : K * R.ns ≤ (K + 1) * R.ns := Nat.mul_le_mul_right _ (by omega)
  simp only [Int.toNat_natCast]
  refine ⟨?_, ?_, h1, by omega⟩
  · rw [← Int.natCast_mul, w64_id] <;> omega
  · rw [w64_id (n := (K : Int) + 1) (by omega) (by omega), show (K : Int) + 1 = ((K + 1 : Nat) : Int) by omega, ← Int.natCast_mul, w64_id] <;> omega
theorem RQ.setD {R : Rk} {l1 l2 l3 l4 : Slc} {sl cl sl' cl' : List Slc} {cs : List Int} (h : RQ R l1 l2 l3 l4 sl cl cs) {k : Nat} {D : Dk} (hok : k < R.n → D.ok R.ns) (hf : D.failed = (R.dk k).failed) (hc : D.count = (R.dk k).count) (h1 : sl'.length = R.n * R.ns) (h2 : cl'.length = R.n * R.ns) : RQ (R.setD k D) l1 l2 l3 l4 sl' cl' cs := by
  refine ⟨h1, h2, h.hcs, h.n17, h.ns4, h.hl1, h.hl2, h.hl3, h.hl4, fun j hj => ?_, fun j hj hff => ?_, h.cok.setD (by rw [hc]; exact h.cok.dks k)⟩
  · simp only [Rk.setD]
    split
    · rename_i e; subst e; exact hok hj
    · exact h.ok j hj
  · simp only [Rk.setD] at hff ⊢
    by_cases e : j = k
    · subst e
      rw [if_pos rfl] at hff ⊢
      rw [hc]; exact h.cnt j hj (by rw [← hf]; exact hff)
    · rw [if_neg e] at hff ⊢
      exact h.cnt j hj hff
theorem bads_setD {R : Rk} {k : Nat} {D : Dk} (hf : D.failed = (R.dk k).failed) : bads (R.setD k D) = bads R := by
  refine (bads_same fun j _ => ?_).symm
  simp only [Rk.setD]
  split
  · rename_i e; subst e; exact hf
  · rfl
theorem ref02_Flush_spec (mb : Nat) (R : Rk) (l1 l2 l3 l4 : Slc) (k : Int) :
    wps g (refQ mb R l1 l2 l3 l4) (ref02_Rack_Flush (ptr mb) k) (fun e => pr (e = R.gate k 0 64) * refQ mb (R.flush k) l1 l2 l3 l4) := by
  unfold ref02_Rack_Flush
  have fin : ∀ e, e = R.gate k 0 64 → e ≠ 0 → ∀ R', R' = R.gated k 0 64 → Ent (refQ mb R' l1 l2 l3 l4) (pr (e = R.gate k 0 64) * refQ mb (R.flush k) l1 l2 l3 l4) := by
    intro e he h0 R' hR'
    rw [Rk.flush, if_neg (by omega), ← hR']
    exact ent_prr he (Ent.refl _)
  repeat (first
    | (with_reducible refine wps_bindpure ?_)
    | (with_reducible refine wps_assoc ?_)
    | (with_reducible refine wps_nil ?_)
    | (with_reducible refine wps_stepAlloc fun _ => ?_)
    | (with_reducible refine wps_alloc fun _ => ?_)
    | (with_reducible refine wps_newO fun _ => ?_)
    | (refine wps_ld _ (by rfl) ?_)
    | (refine wps_ldG _ _ _ (by rfl) ?_)
    | (refine wps_ldA _ (by rfl) ?_)
    | (refine wps_ldI _ (by rfl) ?_)
    | (refine wps_ldGI _ _ _ (by rfl) ?_)
    | (refine wps_ldAI _ (by rfl) ?_)
    | (refine wps_st (by simp) ?_)
    | (refine wps_stA (by simp) (by simp [Value.oneCell']) ?_)
    | ((with_reducible apply wps_val); apply val_ite; rotate_left; refine fun (_ : ¬ _) => ?_; rotate_right; refine fun (_ : _ = true) => ?_)
    | ((with_reducible apply val_ite); rotate_left; refine fun (_ : ¬ _) => ?_; rotate_right; refine fun (_ : _ = true) => ?_)
    | (with_reducible refine wps_regionH ?_)
    | ((with_reducible apply wps_bindV); apply val_iteL; rotate_left; refine fun (_ : ¬ _) => ?_; rotate_right; refine fun (_ : _ = true) => ?_)
    | ((with_reducible apply val_iteL); rotate_left; refine fun (_ : ¬ _) => ?_; rotate_right; refine fun (_ : _ = true) => ?_)
    | (with_reducible exact wps_pure (ent_val rfl)))
  rw [← emp_star (refQ mb R l1 l2 l3 l4)]
  refine ref02_off ?_
  rw [emp_star]
  by_cases ho : R.off = true
  · rw [if_pos ho]
    exact wps_pure (fin _ (by simp [Rk.gate, ho]) (by omega) _ (by simp [Rk.gated, ho]))
  rw [if_neg ho]
  refine wps_val (ref02_there_val mb R l1 l2 l3 l4 k 0) ?_
  by_cases ht : thereB R k 0 = true
  rotate_left
  · have hn : (k < 0 ∨ k ≥ R.n ∨ (0 : Int) < 0 ∨ (0 : Int) ≥ R.ns) := Classical.byContradiction fun h => ht (there_or.2 h)
    rw [show thereB R k 0 = false by simpa using ht]
    refine wps_ite (fun _ => ?_) (fun h => absurd rfl h)
    exact wps_pure (fin _ (by simp only [Rk.gate, if_neg ho, if_pos hn]) (by omega) _ (by rw [Rk.gated, if_pos (.inr (.inl hn))]))
  have hn := there_or.1 ht
  rw [ht]
  refine wps_ite (fun h => absurd h (by decide)) (fun _ => ?_)
  have hs : ¬ (64 : Int) ≠ 64 := by omega
  have hgd : R.gated k 0 64 = R.ticked := by
    rw [Rk.gated, if_neg]
    rintro (h | h | h)
    · exact ho h
    · exact hn h
    · exact hs h
  refine wps_bind (ref02_call_spec mb R l1 l2 l3 l4) fun e => ?_
  refine wps_pr fun he => ?_
  by_cases hc : R.count = 0
  · rw [if_pos hc] at he
    subst he
    refine wps_ite (fun _ => ?_) (fun h => absurd rfl h)
    exact wps_pure (fin _ (by simp only [Rk.gate, if_neg ho, if_neg hn, if_neg hs, if_pos hc]) (by omega) _ hgd.symm)
  rw [if_neg hc] at he
  subst he
  refine wps_ite (fun h => absurd h (by decide)) (fun _ => ?_)
  obtain ⟨hk2, hs2⟩ := there_true ht
  have htn := ticked_n R
  rw [← htn.1] at hk2
  rw [← htn.2] at hs2
  unfold refQ
  refine wps_exP fun sl => wps_exP fun cl => wps_exP fun cs => ?_
  unfold refX4
  simp only [← star_assoc]
  refine wps_factP fun hq => ?_
  have hkl : k.toNat < R.ticked.n := by omega
  repeat (first
    | (with_reducible refine wps_bindpure ?_)
    | (with_reducible refine wps_assoc ?_)
    | (with_reducible refine wps_nil ?_)
    | (with_reducible refine wps_stepAlloc fun _ => ?_)
    | (with_reducible refine wps_alloc fun _ => ?_)
    | (with_reducible refine wps_newO fun _ => ?_)
    | (refine wps_ld _ (by rfl) ?_)
    | (refine wps_ldG _ _ _ (by rfl) ?_)
    | (refine wps_ldA _ (by rfl) ?_)
    | (refine wps_ldI _ (by rfl) ?_)
    | (refine wps_ldGI _ _ _ (by rfl) ?_)
    | (refine wps_ldAI _ (by rfl) ?_)
    | (refine wps_st (by simp) ?_)
    | (refine wps_stA (by simp) (by simp [Value.oneCell']) ?_)
    | ((with_reducible apply wps_val); apply val_ite; rotate_left; refine fun (_ : ¬ _) => ?_; rotate_right; refine fun (_ : _ = true) => ?_)
    | ((with_reducible apply val_ite); rotate_left; refine fun (_ : ¬ _) => ?_; rotate_right; refine fun (_ : _ = true) => ?_)
    | (with_reducible refine wps_regionH ?_)
    | ((with_reducible apply wps_bindV); apply val_iteL; rotate_left; refine fun (_ : ¬ _) => ?_; rotate_right; refine fun (_ : _ = true) => ?_)
    | ((with_reducible apply val_iteL); rotate_left; refine fun (_ : ¬ _) => ?_; rotate_right; refine fun (_ : _ = true) => ?_)
    | (with_reducible exact wps_pure (ent_val rfl)))
  refine wps_rdS k.toNat (R.ticked.dk k.toNat).failed (by omega) (by rw [bads, List.getElem?_map, List.getElem?_range hkl]; rfl) ?_
  refine wps_ite (fun hf => ?_) (fun hf => ?_)
  · have hg : R.gate k 0 64 = 13 := by simp only [Rk.gate, if_neg ho, if_neg hn, if_neg hs, if_neg hc, if_pos hf]
    refine wps_pure ?_
    have := fin 13 hg.symm (by omega) _ hgd.symm
    unfold refQ refX4 at this
    refine Ent.trans ?_ this
    refine Ent.trans ?_ (ent_ex sl (ent_ex cl (ent_ex cs (Ent.refl _))))
    exact Ent.of_eq (by simp only [emp_star])
  · have hg : R.gate k 0 64 = 0 := by simp only [Rk.gate, if_neg ho, if_neg hn, if_neg hs, if_neg hc, if_neg hf]
    have hfl : R.flush k = R.ticked.setD k.toNat ((R.ticked.dk k.toNat).flushed fun _ => true).clean := by rw [Rk.flush, if_pos hg, hgd]
    rw [hfl, hg]
    generalize R.ticked = R1 at *
    obtain ⟨w1, w2, w3, w4⟩ := hq.flat hk2
    generalize k.toNat = K at *
    generalize hD : ((R1.dk K).flushed fun _ => true).clean = D at *
    repeat (first
      | (with_reducible refine wps_bindpure ?_)
      | (with_reducible refine wps_assoc ?_)
      | (with_reducible refine wps_nil ?_)
      | (with_reducible refine wps_stepAlloc fun _ => ?_)
      | (with_reducible refine wps_alloc fun _ => ?_)
      | (with_reducible refine wps_newO fun _ => ?_)
      | (refine wps_ld _ (by rfl) ?_)
      | (refine wps_ldG _ _ _ (by rfl) ?_)
      | (refine wps_ldA _ (by rfl) ?_)
      | (refine wps_ldI _ (by rfl) ?_)
      | (refine wps_ldGI _ _ _ (by rfl) ?_)
      | (refine wps_ldAI _ (by rfl) ?_)
      | (refine wps_st (by simp) ?_)
      | (refine wps_stA (by simp) (by simp [Value.oneCell']) ?_)
      | ((with_reducible apply wps_val); apply val_ite; rotate_left; refine fun (_ : ¬ _) => ?_; rotate_right; refine fun (_ : _ = true) => ?_)
      | ((with_reducible apply val_ite); rotate_left; refine fun (_ : ¬ _) => ?_; rotate_right; refine fun (_ : _ = true) => ?_)
      | (with_reducible refine wps_regionH ?_)
      | ((with_reducible apply wps_bindV); apply val_iteL; rotate_left; refine fun (_ : ¬ _) => ?_; rotate_right; refine fun (_ : _ = true) => ?_)
      | ((with_reducible apply val_iteL); rotate_left; refine fun (_ : ¬ _) => ?_; rotate_right; refine fun (_ : _ = true) => ?_)
      | (with_reducible exact wps_pure (ent_val rfl)))
    rw [w1]
    refine wps_loop (fun s => ex fun m : Nat => ex fun sl : List Slc => ex fun cl : List Slc => pr (s = (m : Int) ∧ K * R1.ns ≤ m ∧ m ≤ (K + 1) * R1.ns ∧ sl.length = R1.n * R1.ns ∧ cl.length = R1.n * R1.ns) * seqp sl (mix m (rlast (R1.setD K D)) (rlast R1)) * seqp cl (mix m (rcach (R1.setD K D)) (rcach R1)) * own 1 l1 (sl.map vS) * own 1 l2 (cl.map vS) * own 1 l3 (bads R1) * own 1 l4 (zv cs) * pc mb [.int .i64 R1.n, .int .i64 R1.ns, vS l1, vS l2, vS l3, vS l4, .int .i64 R1.count, .bool R1.off]) (fun s => ((((K + 1) * R1.ns : Nat) : Int) - s).toNat) ?_ fun s => ?_
    · refine ent_ex (K * R1.ns) (ent_ex sl (ent_ex cl ?_))
      refine ent_swap (A := seqp sl (rlast R1)) (B := seqp sl (mix (K * R1.ns) (rlast (R1.setD K D)) (rlast R1))) (seqp_ext fun i _ => ?_) ?_
      · simp only [mix]; split
        · rename_i h; exact ((setD_other (before_k h)).1).symm
        · rfl
      refine ent_swap (A := seqp cl (rcach R1)) (B := seqp cl (mix (K * R1.ns) (rcach (R1.setD K D)) (rcach R1))) (seqp_ext fun i _ => ?_) ?_
      · simp only [mix]; split
        · rename_i h; exact ((setD_other (before_k h)).2).symm
        · rfl
      repeat (first
        | (with_reducible exact ent_drop)
        | (with_reducible refine ent_pick ?_)
        | (refine ent_pickC (by rfl) ?_)
        | (refine ent_pickS (by rfl) ?_)
        | (refine ent_pickM (by rfl) ?_)
        | (refine ent_prx ?_ ?_; rotate_left)
        | (refine ent_prq ?_))
      exact ⟨rfl, Nat.le_refl _, Nat.mul_le_mul_right _ (by omega), hq.hsl, hq.hcl⟩
    · refine wps_ex fun m => wps_ex fun sl => wps_ex fun cl => wps_prP fun ⟨hm, hm1, hm2, hsl, hcl⟩ => ?_
      repeat (first
        | (with_reducible refine wps_bindpure ?_)
        | (with_reducible refine wps_assoc ?_)
        | (with_reducible refine wps_nil ?_)
        | (with_reducible refine wps_stepAlloc fun _ => ?_)
        | (with_reducible refine wps_alloc fun _ => ?_)
        | (with_reducible refine wps_newO fun _ => ?_)
        | (refine wps_ld _ (by rfl) ?_)
        | (refine wps_ldG _ _ _ (by rfl) ?_)
        | (refine wps_ldA _ (by rfl) ?_)
        | (refine wps_ldI _ (by rfl) ?_)
        | (refine wps_ldGI _ _ _ (by rfl) ?_)
        | (refine wps_ldAI _ (by rfl) ?_)
        | (refine wps_st (by simp) ?_)
        | (refine wps_stA (by simp) (by simp [Value.oneCell']) ?_)
        | ((with_reducible apply wps_val); apply val_ite; rotate_left; refine fun (_ : ¬ _) => ?_; rotate_right; refine fun (_ : _ = true) => ?_)
        | ((with_reducible apply val_ite); rotate_left; refine fun (_ : ¬ _) => ?_; rotate_right; refine fun (_ : _ = true) => ?_)
        | (with_reducible refine wps_regionH ?_)
        | ((with_reducible apply wps_bindV); apply val_iteL; rotate_left; refine fun (_ : ¬ _) => ?_; rotate_right; refine fun (_ : _ = true) => ?_)
        | ((with_reducible apply val_iteL); rotate_left; refine fun (_ : ¬ _) => ?_; rotate_right; refine fun (_ : _ = true) => ?_)
        | (with_reducible exact wps_pure (ent_val rfl)))
      rw [w2]
      refine wps_ite (fun hlt0 => ?_) (fun hlt0 => ?_)
      · have hlt : m < (K + 1) * R1.ns := by simp only [decide_eq_true_eq] at hlt0; omega
        obtain ⟨t, rfl⟩ : ∃ t, m = K * R1.ns + t := ⟨m - K * R1.ns, by omega⟩
        have htn' : t < R1.ns := by rw [Nat.add_mul] at hlt; omega
        have hset := setD_at (R := R1) (k := K) (D := D) htn'
        have hat := ref_at (R := R1) (k := K) htn'
        generalize hmm : K * R1.ns + t = m at *
        have hmr : m < R1.n * R1.ns := by omega
        repeat (first
          | (with_reducible refine wps_bindpure ?_)
          | (with_reducible refine wps_assoc ?_)
          | (with_reducible refine wps_nil ?_)
          | (with_reducible refine wps_stepAlloc fun _ => ?_)
          | (with_reducible refine wps_alloc fun _ => ?_)
          | (with_reducible refine wps_newO fun _ => ?_)
          | (refine wps_ld _ (by rfl) ?_)
          | (refine wps_ldG _ _ _ (by rfl) ?_)
          | (refine wps_ldA _ (by rfl) ?_)
          | (refine wps_ldI _ (by rfl) ?_)
          | (refine wps_ldGI _ _ _ (by rfl) ?_)
          | (refine wps_ldAI _ (by rfl) ?_)
          | (refine wps_st (by simp) ?_)
          | (refine wps_stA (by simp) (by simp [Value.oneCell']) ?_)
          | ((with_reducible apply wps_val); apply val_ite; rotate_left; refine fun (_ : ¬ _) => ?_; rotate_right; refine fun (_ : _ = true) => ?_)
          | ((with_reducible apply val_ite); rotate_left; refine fun (_ : ¬ _) => ?_; rotate_right; refine fun (_ : _ = true) => ?_)
          | (with_reducible refine wps_regionH ?_)
          | ((with_reducible apply wps_bindV); apply val_iteL; rotate_left; refine fun (_ : ¬ _) => ?_; rotate_right; refine fun (_ : _ = true) => ?_)
          | ((with_reducible apply val_iteL); rotate_left; refine fun (_ : ¬ _) => ?_; rotate_right; refine fun (_ : _ = true) => ?_)
          | (with_reducible exact wps_pure (ent_val rfl)))
        have hic : m < cl.length := by omega
        refine wps_rdS m cl[m] hm (by rw [List.getElem?_map, List.getElem?_eq_getElem hic]; rfl) ?_
        have hcb : Ent (seqp cl (mix m (rcach (R1.setD K D)) (rcach R1))) (byt cl[m] (rcach R1 m)) := Ent.trans (seqp_get (List.getElem?_eq_getElem hic)) (Ent.of_eq (by simp [mix]))
        refine wps_fact (len_of (Ent.trans (ent_drop (B := seqp cl (mix m (rcach (R1.setD K D)) (rcach R1)))) hcb)) fun hclen => ?_
        have hDc : rcach (R1.setD K D) m = [] := by rw [hset.2, ← hD]; rfl
        have hDl : rlast (R1.setD K D) m = match (R1.dk K).cached (t : Int) with | some b => b | none => (R1.dk K).lasts t := by
          rw [hset.1, ← hD]
          simp only [Dk.clean, Dk.flushed]
          cases (R1.dk K).cached (t : Int) <;> rfl
        have hok := hq.ok K hkl
        refine wps_ite (fun hpos => ?_) (fun hpos => ?_)
        · have hpos' : 0 < cl[m].len := by simpa using hpos
          obtain ⟨b, hb⟩ : ∃ b, (R1.dk K).cached (t : Int) = some b := by
            cases hcc : (R1.dk K).cached (t : Int) with
            | some b => exact ⟨b, rfl⟩
            | none =>
              rw [hat.2, hcc] at hclen
              simp at hclen; omega
          have hDl' : rlast (R1.setD K D) m = rcach R1 m := by rw [hDl, hat.2, hb]; rfl
          refine wps_regionH ?_
          repeat (first
            | (with_reducible refine wps_bindpure ?_)
            | (with_reducible refine wps_assoc ?_)
            | (with_reducible refine wps_nil ?_)
            | (with_reducible refine wps_stepAlloc fun _ => ?_)
            | (with_reducible refine wps_alloc fun _ => ?_)
            | (with_reducible refine wps_newO fun _ => ?_)
            | (refine wps_ld _ (by rfl) ?_)
            | (refine wps_ldG _ _ _ (by rfl) ?_)
            | (refine wps_ldA _ (by rfl) ?_)
            | (refine wps_ldI _ (by rfl) ?_)
            | (refine wps_ldGI _ _ _ (by rfl) ?_)
            | (refine wps_ldAI _ (by rfl) ?_)
            | (refine wps_st (by simp) ?_)
            | (refine wps_stA (by simp) (by simp [Value.oneCell']) ?_)
            | ((with_reducible apply wps_val); apply val_ite; rotate_left; refine fun (_ : ¬ _) => ?_; rotate_right; refine fun (_ : _ = true) => ?_)
            | ((with_reducible apply val_ite); rotate_left; refine fun (_ : ¬ _) => ?_; rotate_right; refine fun (_ : _ = true) => ?_)
            | (with_reducible refine wps_regionH ?_)
            | ((with_reducible apply wps_bindV); apply val_iteL; rotate_left; refine fun (_ : ¬ _) => ?_; rotate_right; refine fun (_ : _ = true) => ?_)
            | ((with_reducible apply val_iteL); rotate_left; refine fun (_ : ¬ _) => ?_; rotate_right; refine fun (_ : _ = true) => ?_)
            | (with_reducible exact wps_pure (ent_val rfl)))
          refine wps_rdI m cl[m] (Ent.trans (ent_pick1 (A := own 1 l2 (cl.map vS))) (own_rsl _ _ _)) (Ent.refl _) hm (by rw [List.getElem?_map, List.getElem?_eq_getElem hic]; rfl) ?_
          refine wps_wrS m hm (by rw [hq.hl1]; exact hmr) ?_
          repeat (first
            | (with_reducible refine wps_bindpure ?_)
            | (with_reducible refine wps_assoc ?_)
            | (with_reducible refine wps_nil ?_)
            | (with_reducible refine wps_stepAlloc fun _ => ?_)
            | (with_reducible refine wps_alloc fun _ => ?_)
            | (with_reducible refine wps_newO fun _ => ?_)
            | (refine wps_ld _ (by rfl) ?_)
            | (refine wps_ldG _ _ _ (by rfl) ?_)
            | (refine wps_ldA _ (by rfl) ?_)
            | (refine wps_ldI _ (by rfl) ?_)
            | (refine wps_ldGI _ _ _ (by rfl) ?_)
            | (refine wps_ldAI _ (by rfl) ?_)
            | (refine wps_st (by simp) ?_)
            | (refine wps_stA (by simp) (by simp [Value.oneCell']) ?_)
            | ((with_reducible apply wps_val); apply val_ite; rotate_left; refine fun (_ : ¬ _) => ?_; rotate_right; refine fun (_ : _ = true) => ?_)
            | ((with_reducible apply val_ite); rotate_left; refine fun (_ : ¬ _) => ?_; rotate_right; refine fun (_ : _ = true) => ?_)
            | (with_reducible refine wps_regionH ?_)
            | ((with_reducible apply wps_bindV); apply val_iteL; rotate_left; refine fun (_ : ¬ _) => ?_; rotate_right; refine fun (_ : _ = true) => ?_)
            | ((with_reducible apply val_iteL); rotate_left; refine fun (_ : ¬ _) => ?_; rotate_right; refine fun (_ : _ = true) => ?_)
            | (with_reducible exact wps_pure (ent_val rfl)))
          refine wps_wrS m hm (by rw [hq.hl2]; exact hmr) (wps_pure ?_)
          refine ent_prr (by rw [range_add1 hm (by omega)]; omega) (ent_ex (m + 1) (ent_ex (sl.set m cl[m]) (ent_ex (cl.set m nilS) ?_)))
          refine ent_pick (ent_pick (ent_pick (ent_pickS (by rw [List.map_set]; rfl) (ent_pickS (by rw [List.map_set]; rfl) ?_))))
          refine Ent.trans (B := seqp sl (mix m (rlast (R1.setD K D)) (rlast R1)) * seqp cl (mix m (rcach (R1.setD K D)) (rcach R1))) (by exact ent_pick (ent_pick (ent_emp _)) |> fun h => by rw [emp_star] at h; exact h) ?_
          refine ent_and ?_ ?_
          · refine ent_prr ⟨range_add1 hm (by omega), by omega, by omega, by simpa using hsl, by simpa using hcl⟩ (seqp_mix (ent_left _ _) (Ent.trans (ent_right _ _) (Ent.trans hcb (Ent.of_eq (by rw [hDl'])))))
          · exact seqp_mix (ent_right _ _) (Ent.trans (ent_emp _) (by rw [hDc]; exact rsl_nil 1))
        · have hpos' : cl[m].len = 0 := by
            have : ¬ 0 < cl[m].len := by simpa using hpos
            omega
          have hnone : (R1.dk K).cached (t : Int) = none := by
            cases hcc : (R1.dk K).cached (t : Int) with
            | none => rfl
            | some b =>
              rw [hat.2, hcc] at hclen
              have := (hok.2 _ b hcc).1
              simp at hclen; omega
          refine wps_pure ?_
          refine ent_prr (by rw [range_add1 hm (by omega)]; omega) (ent_ex (m + 1) (ent_ex sl (ent_ex cl ?_)))
          refine ent_swap (A := seqp sl (mix m (rlast (R1.setD K D)) (rlast R1))) (seqp_mixs (by rw [hDl, hnone, hat.1])) ?_
          refine ent_swap (A := seqp cl (mix m (rcach (R1.setD K D)) (rcach R1))) (seqp_mixs (by rw [hDc, hat.2, hnone]; rfl)) ?_
          repeat (first
            | (with_reducible exact ent_drop)
            | (with_reducible refine ent_pick ?_)
            | (refine ent_pickC (by rfl) ?_)
            | (refine ent_pickS (by rfl) ?_)
            | (refine ent_pickM (by rfl) ?_)
            | (refine ent_prx ?_ ?_; rotate_left)
            | (refine ent_prq ?_))
          exact ⟨range_add1 hm (by omega), by omega, by omega, hsl, hcl⟩
      · have hme : m = (K + 1) * R1.ns := by simp only [decide_eq_true_eq] at hlt0; omega
        refine wps_mapR (wps_pure ?_)
        refine ent_exr sl ?_
        refine ent_exr cl ?_
        refine ent_exr cs ?_
        simp only [← star_assoc]
        have hns0 : 0 < R1.ns := by omega
        have hfd : D.failed = (R1.dk K).failed := by rw [← hD]; rfl
        rw [bads_setD hfd]
        refine ent_swap (A := seqp sl (mix m (rlast (R1.setD K D)) (rlast R1))) (B := seqp sl (rlast (R1.setD K D))) (seqp_ext fun i _ => ?_) ?_
        · simp only [mix]; split
          · rfl
          · rename_i h; exact ((setD_other (after_k (by omega) hns0)).1).symm
        refine ent_swap (A := seqp cl (mix m (rcach (R1.setD K D)) (rcach R1))) (B := seqp cl (rcach (R1.setD K D))) (seqp_ext fun i _ => ?_) ?_
        · simp only [mix]; split
          · rfl
          · rename_i h; exact ((setD_other (after_k (by omega) hns0)).2).symm
        refine ent_pickC (by rfl) ?_
        repeat (first
          | (with_reducible exact ent_drop)
          | (with_reducible refine ent_pick ?_)
          | (refine ent_pickC (by rfl) ?_)
          | (refine ent_pickS (by rfl) ?_)
          | (refine ent_pickM (by rfl) ?_)
          | (refine ent_prx ?_ ?_; rotate_left)
          | (refine ent_prq ?_))
        all_goals first | trivial | skip
        refine hq.setD (fun _ => ?_) hfd (by rw [← hD]; rfl) hsl hcl
        rw [← hD]
        exact ⟨(Dk.ok_flushed (hq.ok K hkl) fun _ => true).1, fun j b h => by cases h⟩
end Go.Proofs.Ytldmeimebebllaa
namespace Go.Proofs.Ytldmeimebebllaa
open Go.Mo
set_option linter.unusedVariables false
variable {g : Fr} {cv : CV}
theorem flat_split {i ns : Nat} : i = i / ns * ns + i % ns := by rw [Nat.mul_comm]; exact (Nat.div_add_mod i ns).symm
theorem restore_rlast (R : Rk) (ks : List Int) (i : Nat) : rlast (R.restore ks) i = (match (R.dk (i / R.ns)).cached ((i % R.ns : Nat) : Int) with | some b => if (keepB ks (rank R i) && !(R.dk (i / R.ns)).failed) = true then b else rlast R i | none => rlast R i) := by
  show (Dk.restored R ks (i / R.ns)).lasts (i % R.ns) = _
  simp only [Dk.restored, Dk.clean, Dk.flushed]
  cases (R.dk (i / R.ns)).cached ((i % R.ns : Nat) : Int) with
  | none => rfl
  | some b =>
    simp only [Int.toNat_natCast]
    simp only [(flat_split (i := i) (ns := R.ns)).symm]; rfl
theorem restore_rcach (R : Rk) (ks : List Int) (i : Nat) : rcach (R.restore ks) i = [] := rfl
theorem rank_next (R : Rk) (i : Nat) : rank R (i + 1) = rank R i + if isC R i = true then 1 else 0 := by
  unfold rank
  rw [List.range_succ, List.filter_append, List.length_append, List.filter_cons]
  split <;> simp
theorem ref02_Restore_spec {H : HP} (mb : Nat) (R : Rk) (l1 l2 l3 l4 : Slc) (x : Slc) (ks : List Int) (hx : Ent H (intsP x ks)) :
    wps g (H * refQ mb R l1 l2 l3 l4) (ref02_Rack_Restore (ptr mb) x) (fun _ => H * refQ mb (R.restore ks) l1 l2 l3 l4) := by
  unfold ref02_Rack_Restore
  refine wps_fact (Ent.trans (ent_left _ _) (ilen_of hx)) fun hl => ?_
  unfold refQ
  refine wps_exr fun sl => wps_exr fun cl => wps_exr fun cs => ?_
  unfold refX4
  simp only [← star_assoc]
  refine wps_factP fun hq => ?_
  have hNS : R.n * R.ns ≤ 17 * 4096 := Nat.mul_le_mul hq.n17 hq.ns4
  repeat (first
    | (with_reducible refine wps_bindpure ?_)
    | (with_reducible refine wps_assoc ?_)
    | (with_reducible refine wps_nil ?_)
    | (with_reducible refine wps_stepAlloc fun _ => ?_)
    | (with_reducible refine wps_alloc fun _ => ?_)
    | (with_reducible refine wps_newO fun _ => ?_)
    | (refine wps_ld _ (by rfl) ?_)
    | (refine wps_ldG _ _ _ (by rfl) ?_)
    | (refine wps_ldA _ (by rfl) ?_)
    | (refine wps_ldI _ (by rfl) ?_)
    | (refine wps_ldGI _ _ _ (by rfl) ?_)
    | (refine wps_ldAI _ (by rfl) ?_)
    | (refine wps_st (by simp) ?_)
    | (refine wps_stA (by simp) (by simp [Value.oneCell']) ?_)
    | ((with_reducible apply wps_val); apply val_ite; rotate_left; refine fun (_ : ¬ _) => ?_; rotate_right; refine fun (_ : _ = true) => ?_)
    | ((with_reducible apply val_ite); rotate_left; refine fun (_ : ¬ _) => ?_; rotate_right; refine fun (_ : _ = true) => ?_)
    | (with_reducible refine wps_regionH ?_)
    | ((with_reducible apply wps_bindV); apply val_iteL; rotate_left; refine fun (_ : ¬ _) => ?_; rotate_right; refine fun (_ : _ = true) => ?_)
    | ((with_reducible apply val_iteL); rotate_left; refine fun (_ : ¬ _) => ?_; rotate_right; refine fun (_ : _ = true) => ?_)
    | (with_reducible exact wps_pure (ent_val rfl)))
  refine wps_loop (fun s => ex fun m : Nat => ex fun sl : List Slc => ex fun cl : List Slc => pr (s.2 = (m : Int) ∧ m ≤ R.n * R.ns ∧ s.1 = ((rank R m : Nat) : Int) ∧ sl.length = R.n * R.ns ∧ cl.length = R.n * R.ns) * H * seqp sl (mix m (rlast (R.restore ks)) (rlast R)) * seqp cl (mix m (rcach (R.restore ks)) (rcach R)) * own 1 l1 (sl.map vS) * own 1 l2 (cl.map vS) * own 1 l3 (bads R) * own 1 l4 (zv cs) * pc mb [.int .i64 R.n, .int .i64 R.ns, vS l1, vS l2, vS l3, vS l4, .int .i64 (-1), .bool false]) (fun s => ((R.n * R.ns : Nat) - s.2).toNat) ?_ fun s => ?_
  · refine ent_ex 0 (ent_ex sl (ent_ex cl ?_))
    have e1 : mix 0 (rlast (R.restore ks)) (rlast R) = rlast R := by funext i; simp [mix]
    have e2 : mix 0 (rcach (R.restore ks)) (rcach R) = rcach R := by funext i; simp [mix]
    rw [e1, e2]
    refine ent_pickC (by rfl) ?_
    repeat (first
      | (with_reducible exact ent_drop)
      | (with_reducible refine ent_pick ?_)
      | (refine ent_pickC (by rfl) ?_)
      | (refine ent_pickS (by rfl) ?_)
      | (refine ent_pickM (by rfl) ?_)
      | (refine ent_prx ?_ ?_; rotate_left)
      | (refine ent_prq ?_))
    all_goals first | exact ⟨rfl, by omega, by simp [rank], hq.hsl, hq.hcl⟩ | trivial
  · refine wps_ex fun m => wps_ex fun sl => wps_ex fun cl => wps_prP fun ⟨hm, hmn, hs1, hsl, hcl⟩ => ?_
    repeat (first
      | (with_reducible refine wps_bindpure ?_)
      | (with_reducible refine wps_assoc ?_)
      | (with_reducible refine wps_nil ?_)
      | (with_reducible refine wps_stepAlloc fun _ => ?_)
      | (with_reducible refine wps_alloc fun _ => ?_)
      | (with_reducible refine wps_newO fun _ => ?_)
      | (refine wps_ld _ (by rfl) ?_)
      | (refine wps_ldG _ _ _ (by rfl) ?_)
      | (refine wps_ldA _ (by rfl) ?_)
      | (refine wps_ldI _ (by rfl) ?_)
      | (refine wps_ldGI _ _ _ (by rfl) ?_)
      | (refine wps_ldAI _ (by rfl) ?_)
      | (refine wps_st (by simp) ?_)
      | (refine wps_stA (by simp) (by simp [Value.oneCell']) ?_)
      | ((with_reducible apply wps_val); apply val_ite; rotate_left; refine fun (_ : ¬ _) => ?_; rotate_right; refine fun (_ : _ = true) => ?_)
      | ((with_reducible apply val_ite); rotate_left; refine fun (_ : ¬ _) => ?_; rotate_right; refine fun (_ : _ = true) => ?_)
      | (with_reducible refine wps_regionH ?_)
      | ((with_reducible apply wps_bindV); apply val_iteL; rotate_left; refine fun (_ : ¬ _) => ?_; rotate_right; refine fun (_ : _ = true) => ?_)
      | ((with_reducible apply val_iteL); rotate_left; refine fun (_ : ¬ _) => ?_; rotate_right; refine fun (_ : _ = true) => ?_)
      | (with_reducible exact wps_pure (ent_val rfl)))
    refine wps_ite (fun hc => ?_) (fun hc => ?_)
    · have hlt : m < R.n * R.ns := by
        have := hq.hl2
        simp only [decide_eq_true_eq] at hc; omega
      have hns0 : 0 < R.ns := Nat.pos_of_ne_zero fun h0 => by rw [h0] at hlt; omega
      have hkn : m / R.ns < R.n := (Nat.div_lt_iff_lt_mul hns0).2 hlt
      have htn : m % R.ns < R.ns := Nat.mod_lt _ hns0
      have hrk := rank_le R m
      have hok := hq.ok _ hkn
      repeat (first
        | (with_reducible refine wps_bindpure ?_)
        | (with_reducible refine wps_assoc ?_)
        | (with_reducible refine wps_nil ?_)
        | (with_reducible refine wps_stepAlloc fun _ => ?_)
        | (with_reducible refine wps_alloc fun _ => ?_)
        | (with_reducible refine wps_newO fun _ => ?_)
        | (refine wps_ld _ (by rfl) ?_)
        | (refine wps_ldG _ _ _ (by rfl) ?_)
        | (refine wps_ldA _ (by rfl) ?_)
        | (refine wps_ldI _ (by rfl) ?_)
        | (refine wps_ldGI _ _ _ (by rfl) ?_)
        | (refine wps_ldAI _ (by rfl) ?_)
        | (refine wps_st (by simp) ?_)
        | (refine wps_stA (by simp) (by simp [Value.oneCell']) ?_)
        | (with_reducible refine wps_regionH ?_)
        | (with_reducible exact wps_pure (ent_val rfl)))
      have hic : m < cl.length := by omega
      refine wps_rdS m cl[m] hm (by rw [List.getElem?_map, List.getElem?_eq_getElem hic]; rfl) ?_
      have hcb : Ent (seqp cl (mix m (rcach (R.restore ks)) (rcach R))) (byt cl[m] (rcach R m)) := Ent.trans (seqp_get (List.getElem?_eq_getElem hic)) (Ent.of_eq (by simp [mix]))
      refine wps_fact (len_of (Ent.trans (ent_drop (B := seqp cl (mix m (rcach (R.restore ks)) (rcach R)))) hcb)) fun hclen => ?_
      have hDl := restore_rlast R ks m
      have hnext := rank_next R m
      have hrc : rcach R m = ((R.dk (m / R.ns)).cached ((m % R.ns : Nat) : Int)).getD [] := rfl
      refine wps_ite (fun hz => ?_) (fun hz => ?_)
      · have hz' : cl[m].len = 0 := by
          have : ((cl[m].len : Nat) : Int) = 0 := by simpa using hz
          omega
        have hnone : (R.dk (m / R.ns)).cached ((m % R.ns : Nat) : Int) = none := by
          cases hcc : (R.dk (m / R.ns)).cached ((m % R.ns : Nat) : Int) with
          | none => rfl
          | some b =>
            rw [hrc, hcc] at hclen
            have := (hok.2 _ b hcc).1
            simp at hclen; omega
        have hnc : isC R m = false := by rw [isC, hnone]; rfl
        rw [hnc] at hnext
        refine wps_pure ?_
        refine ent_prr (by (try dsimp only); rw [range_add1 hm (by omega)]; omega) (ent_ex (m + 1) (ent_ex sl (ent_ex cl ?_)))
        refine ent_swap (A := seqp sl (mix m (rlast (R.restore ks)) (rlast R))) (seqp_mixs (by rw [hDl, hnone])) ?_
        refine ent_swap (A := seqp cl (mix m (rcach (R.restore ks)) (rcach R))) (seqp_mixs (by rw [restore_rcach, hrc, hnone]; rfl)) ?_
        repeat (first
          | (with_reducible exact ent_drop)
          | (with_reducible refine ent_pick ?_)
          | (refine ent_pickC (by rfl) ?_)
          | (refine ent_pickS (by rfl) ?_)
          | (refine ent_pickM (by rfl) ?_)
          | (refine ent_prx ?_ ?_; rotate_left)
          | (refine ent_prq ?_))
        all_goals first | exact ⟨range_add1 hm (by omega), by omega, by rw [hnext]; exact hs1, hsl, hcl⟩ | trivial
      · have hz' : 0 < cl[m].len := by
          have : ¬ ((cl[m].len : Nat) : Int) = 0 := by simpa using hz
          omega
        obtain ⟨b, hb⟩ : ∃ b, (R.dk (m / R.ns)).cached ((m % R.ns : Nat) : Int) = some b := by
          cases hcc : (R.dk (m / R.ns)).cached ((m % R.ns : Nat) : Int) with
          | some b => exact ⟨b, rfl⟩
          | none =>
            rw [hrc, hcc] at hclen
            simp at hclen; omega
        have hnc : isC R m = true := by rw [isC, hb]; rfl
        rw [hnc] at hnext
        have hrcb : rcach R m = b := by rw [hrc, hb]; rfl
        rw [hb] at hDl
        simp only at hDl
        generalize hN : rank R m = N at *
        refine wps_bindV (u := keepB ks N && !(R.dk (m / R.ns)).failed) ?_ ?_
        · refine wps_regionH ?_
          refine wps_ite (fun hx0 => ?_) (fun hx0 => ?_)
          · have hx0' : 0 < x.len := by simp only [decide_eq_true_eq] at hx0; omega
            refine wps_assert (by omega) ?_
            have hlt2 : N % ks.length < ks.length := Nat.mod_lt _ (by omega)
            have hmod : Int.tmod s.1 (x.len : Int) = ((N % ks.length : Nat) : Int) := by
              rw [hs1, ← hl]; rfl
            refine wps_rdI (N % ks.length) (ks.getD (N % ks.length) 0) (Ent.trans (ent_drop (B := H)) hx) (Ent.refl _) hmod ?_ ?_
            · simp [zv, List.getD_eq_getElem?_getD, List.getElem?_eq_getElem hlt2]
            have hkb : keepB ks N = (bAnd .i64 (ks.getD (N % ks.length) 0) 1 == 1) := by rw [keepB, if_neg (by omega)]
            refine wps_ite (fun hk => ?_) (fun hk => wps_pure (ent_val ?_))
            · repeat (first
                | (with_reducible refine wps_bindpure ?_)
                | (with_reducible refine wps_assoc ?_)
                | (with_reducible refine wps_nil ?_)
                | (with_reducible refine wps_stepAlloc fun _ => ?_)
                | (with_reducible refine wps_alloc fun _ => ?_)
                | (with_reducible refine wps_newO fun _ => ?_)
                | (refine wps_ld _ (by rfl) ?_)
                | (refine wps_ldG _ _ _ (by rfl) ?_)
                | (refine wps_ldA _ (by rfl) ?_)
                | (refine wps_ldI _ (by rfl) ?_)
                | (refine wps_ldGI _ _ _ (by rfl) ?_)
                | (refine wps_ldAI _ (by rfl) ?_)
                | (refine wps_st (by simp) ?_)
                | (refine wps_stA (by simp) (by simp [Value.oneCell']) ?_)
                | (with_reducible refine wps_regionH ?_)
                | (with_reducible exact wps_pure (ent_val rfl)))
              refine wps_assert (by omega) ?_
              have hdiv : w64 (Int.tdiv s.2 (R.ns : Int)) = ((m / R.ns : Nat) : Int) := by
                have h1 : ∀ q : Nat, q ≤ m → w64 (q : Int) = (q : Int) := fun q h => w64_id (by omega) (by omega)
                rw [hm, show Int.tdiv (m : Int) (R.ns : Int) = ((m / R.ns : Nat) : Int) from rfl]
                exact h1 _ (Nat.div_le_self _ _)
              refine wps_rdI (m / R.ns) (R.dk (m / R.ns)).failed (Ent.trans (ent_pick1 (A := own 1 l3 (bads R))) (own_rsl _ _ _)) (Ent.refl _) hdiv (by rw [bads, List.getElem?_map, List.getElem?_range hkn]; rfl) ?_
              exact wps_pure (ent_val (by rw [hkb, hk]; simp))
            · rw [hkb]; simp only [Bool.not_eq_true] at hk; rw [hk]; rfl
          · have hx0' : x.len = 0 := by simp only [decide_eq_true_eq] at hx0; omega
            refine wps_pure (ent_val ?_)
            rw [keepB, if_pos (by omega)]; rfl
        · refine wps_bindS (R := fun _ => ex fun sl' : List Slc => pr (sl'.length = R.n * R.ns) * H * seqp sl' (mix (m + 1) (rlast (R.restore ks)) (rlast R)) * seqp cl (mix m (rcach (R.restore ks)) (rcach R)) * own 1 l1 (sl'.map vS) * own 1 l2 (cl.map vS) * own 1 l3 (bads R) * own 1 l4 (zv cs) * pc mb [.int .i64 R.n, .int .i64 R.ns, vS l1, vS l2, vS l3, vS l4, .int .i64 (-1), .bool false]) ?_ fun _ => ?_
          · refine wps_ite (fun hk => ?_) (fun hk => ?_)
            · refine wps_regionH ?_
              repeat (first
                | (with_reducible refine wps_bindpure ?_)
                | (with_reducible refine wps_assoc ?_)
                | (with_reducible refine wps_nil ?_)
                | (with_reducible refine wps_stepAlloc fun _ => ?_)
                | (with_reducible refine wps_alloc fun _ => ?_)
                | (with_reducible refine wps_newO fun _ => ?_)
                | (refine wps_ld _ (by rfl) ?_)
                | (refine wps_ldG _ _ _ (by rfl) ?_)
                | (refine wps_ldA _ (by rfl) ?_)
                | (refine wps_ldI _ (by rfl) ?_)
                | (refine wps_ldGI _ _ _ (by rfl) ?_)
                | (refine wps_ldAI _ (by rfl) ?_)
                | (refine wps_st (by simp) ?_)
                | (refine wps_stA (by simp) (by simp [Value.oneCell']) ?_)
                | (with_reducible refine wps_regionH ?_)
                | (with_reducible exact wps_pure (ent_val rfl)))
              refine wps_rdI m cl[m] (Ent.trans (ent_pick1 (A := own 1 l2 (cl.map vS))) (own_rsl _ _ _)) (Ent.refl _) hm (by rw [List.getElem?_map, List.getElem?_eq_getElem hic]; rfl) ?_
              refine wps_wrS m hm (by rw [hq.hl1]; exact hlt) (wps_pure ?_)
              rw [if_pos hk] at hDl
              refine ent_ex (sl.set m cl[m]) ?_
              refine ent_pick (ent_pick (ent_pick (ent_pick (ent_pickS (by rw [List.map_set]; rfl) ?_))))
              refine Ent.trans (B := H * (seqp sl (mix m (rlast (R.restore ks)) (rlast R)) * seqp cl (mix m (rcach (R.restore ks)) (rcach R)))) (Ent.of_eq (by simp only [← star_assoc, emp_star])) ?_
              refine Ent.trans (Ent.starr (ent_and (B := seqp (sl.set m cl[m]) (mix (m + 1) (rlast (R.restore ks)) (rlast R))) (C := seqp cl (mix m (rcach (R.restore ks)) (rcach R))) (seqp_mix (ent_left _ _) (Ent.trans (ent_right _ _) (Ent.trans hcb (Ent.of_eq (by rw [hDl, hrcb]))))) (ent_right _ _))) ?_
              simp only [← star_assoc]
              repeat (first
                | (with_reducible exact ent_drop)
                | (with_reducible refine ent_pick ?_)
                | (refine ent_pickC (by rfl) ?_)
                | (refine ent_pickS (by rfl) ?_)
                | (refine ent_pickM (by rfl) ?_)
                | (refine ent_prx ?_ ?_; rotate_left)
                | (refine ent_prq ?_))
              all_goals first | simpa using hsl | trivial
            · rw [if_neg hk] at hDl
              refine wps_pure (ent_ex sl ?_)
              refine ent_swap (A := seqp sl (mix m (rlast (R.restore ks)) (rlast R))) (seqp_mixs hDl) ?_
              repeat (first
                | (with_reducible exact ent_drop)
                | (with_reducible refine ent_pick ?_)
                | (refine ent_pickC (by rfl) ?_)
                | (refine ent_pickS (by rfl) ?_)
                | (refine ent_pickM (by rfl) ?_)
                | (refine ent_prx ?_ ?_; rotate_left)
                | (refine ent_prq ?_))
              all_goals first | exact hsl | trivial
          · refine wps_ex fun sl' => wps_prP fun hsl' => ?_
            repeat (first
              | (with_reducible refine wps_bindpure ?_)
              | (with_reducible refine wps_assoc ?_)
              | (with_reducible refine wps_nil ?_)
              | (with_reducible refine wps_stepAlloc fun _ => ?_)
              | (with_reducible refine wps_alloc fun _ => ?_)
              | (with_reducible refine wps_newO fun _ => ?_)
              | (refine wps_ld _ (by rfl) ?_)
              | (refine wps_ldG _ _ _ (by rfl) ?_)
              | (refine wps_ldA _ (by rfl) ?_)
              | (refine wps_ldI _ (by rfl) ?_)
              | (refine wps_ldGI _ _ _ (by rfl) ?_)
              | (refine wps_ldAI _ (by rfl) ?_)
              | (refine wps_st (by simp) ?_)
              | (refine wps_stA (by simp) (by simp [Value.oneCell']) ?_)
              | (with_reducible refine wps_regionH ?_)
              | (with_reducible exact wps_pure (ent_val rfl)))
            refine wps_wrS m hm (by rw [hq.hl2]; exact hlt) (wps_pure ?_)
            refine ent_prr (by (try dsimp only); rw [range_add1 hm (by omega)]; omega) (ent_ex (m + 1) (ent_ex sl' (ent_ex (cl.set m nilS) ?_)))
            refine ent_pick (ent_pick (ent_pick (ent_pickS (by rw [List.map_set]; rfl) (ent_pick ?_))))
            refine ent_swap (A := seqp cl (mix m (rcach (R.restore ks)) (rcach R))) (B := seqp (cl.set m nilS) (mix (m + 1) (rcach (R.restore ks)) (rcach R))) (seqp_mix (Ent.refl _) (Ent.trans (ent_emp _) (by rw [restore_rcach]; exact rsl_nil 1))) ?_
            repeat (first
              | (with_reducible exact ent_drop)
              | (with_reducible refine ent_pick ?_)
              | (refine ent_pickC (by rfl) ?_)
              | (refine ent_pickS (by rfl) ?_)
              | (refine ent_pickM (by rfl) ?_)
              | (refine ent_prx ?_ ?_; rotate_left)
              | (refine ent_prq ?_))
            all_goals first | exact ⟨range_add1 hm (by omega), by omega, by rw [hnext]; exact range_add1 hs1 (by omega), hsl', by simpa using hcl⟩ | trivial
    · have hme : m = R.n * R.ns := by
        have := hq.hl2
        simp only [decide_eq_true_eq] at hc; omega
      refine wps_mapR (wps_pure ?_)
      refine ent_exr sl ?_
      refine ent_exr cl ?_
      refine ent_exr cs ?_
      simp only [← star_assoc]
      have e1 : Ent (seqp sl (mix m (rlast (R.restore ks)) (rlast R))) (seqp sl (rlast (R.restore ks))) := seqp_ext fun i hi => by
        simp only [mix]; rw [if_pos (by omega)]
      have e2 : Ent (seqp cl (mix m (rcach (R.restore ks)) (rcach R))) (seqp cl (rcach (R.restore ks))) := seqp_ext fun i hi => by
        simp only [mix]; rw [if_pos (by omega)]
      refine ent_swap (A := seqp sl (mix m (rlast (R.restore ks)) (rlast R))) e1 ?_
      refine ent_swap (A := seqp cl (mix m (rcach (R.restore ks)) (rcach R))) e2 ?_
      have e3 : bads (R.restore ks) = bads R := rfl
      rw [e3]
      refine ent_pickC (by rfl) ?_
      repeat (first
        | (with_reducible exact ent_drop)
        | (with_reducible refine ent_pick ?_)
        | (refine ent_pickC (by rfl) ?_)
        | (refine ent_pickS (by rfl) ?_)
        | (refine ent_pickM (by rfl) ?_)
        | (refine ent_prx ?_ ?_; rotate_left)
        | (refine ent_prq ?_))
      all_goals first | trivial | skip
      exact ⟨hsl, hcl, hq.hcs, hq.n17, hq.ns4, hq.hl1, hq.hl2, hq.hl3, hq.hl4, fun j hj => ⟨(Dk.ok_flushed (hq.ok j hj) fun k => keepB ks (rank R (j * R.ns + k.toNat)) && !(R.dk j).failed).1, fun q b h => by cases h⟩, hq.cnt, ⟨by show -1 ≤ (-1 : Int) ∧ (-1 : Int) < _; omega, hq.cok.dks⟩⟩
end Go.Proofs.Ytldmeimebebllaa

namespace Go.Proofs.Ytldmeimebebllaa
open Go.Mo
set_option linter.unusedVariables false
variable {g : Fr} {cv : CV}
def one (v : Int) : List Int := v :: List.replicate 63 0
theorem one_len (v : Int) : (one v).length = 64 := by simp [one]
end Go.Proofs.Ytldmeimebebllaa
namespace Go.Proofs.Ytldmeimebebllaa
open Go.Mo
set_option linter.unusedVariables false
variable {g : Fr} {cv : CV}
structure Wr (R : Rk) (sure : Nat → Int) (last : Nat → Option Int) : Prop where
  calm : Calm R
  n : R.n = 2
  ns : R.ns = 4
  lasts : ∀ j k : Nat, j < 2 → k < 4 → (R.dk j).lasts k = one (sure (j * 4 + k))
  cached : ∀ j k : Nat, j < 2 → k < 4 → (R.dk j).cached (k : Int) = (last (j * 4 + k)).map one
theorem Wr.new : Wr (Rk.new 2 4) (fun _ => 0) (fun _ => none) := ⟨Calm.new 2 4, rfl, rfl, fun _ _ _ _ => rfl, fun _ _ _ _ => rfl⟩
theorem Wr.put {R : Rk} {sure : Nat → Int} {last : Nat → Option Int} (h : Wr R sure last) {i : Nat} (hi : i < 8) (v : Int) :
    R.gate ((i / 4 : Nat) : Int) ((i % 4 : Nat) : Int) (one v).length = 0 ∧ Wr (R.write ((i / 4 : Nat) : Int) ((i % 4 : Nat) : Int) (one v)) sure (fun q => if q = i then some v else last q) := by
  have hw := h.calm.write (k := ((i / 4 : Nat) : Int)) (s := ((i % 4 : Nat) : Int)) (b := one v) (by rw [h.n]; omega) (by rw [h.ns]; omega) (one_len v)
  refine ⟨hw.1, ?_⟩
  rw [hw.2]
  refine ⟨h.calm.put _ _ _, h.n, h.ns, fun j k hj hk => ?_, fun j k hj hk => ?_⟩
  · simp only [Rk.put]
    split
    · exact h.lasts j k hj hk
    · exact h.lasts j k hj hk
  · simp only [Rk.put]
    by_cases hji : j = i / 4
    · rw [if_pos (by omega)]
      by_cases hki : k = i % 4
      · simp only [show (k : Int) = ((i % 4 : Nat) : Int) by omega, if_true]
        rw [if_pos (by omega)]; rfl
      · simp only [show ¬ (k : Int) = ((i % 4 : Nat) : Int) by omega, if_false]
        rw [if_neg (by omega)]
        exact h.cached j k hj hk
    · rw [if_neg (by omega), if_neg (by omega)]
      exact h.cached j k hj hk
theorem Wr.restore {R : Rk} {sure : Nat → Int} {last : Nat → Option Int} (h : Wr R sure last) (ks : List Int) {i : Nat} (hi : i < 8) :
    (R.restore ks).lst ((i / 4 : Nat) : Int) ((i % 4 : Nat) : Int) = one (if keepB ks (rank R i) = true then (last i).getD (sure i) else sure i) ∧ (R.restore ks).lErr ((i / 4 : Nat) : Int) ((i % 4 : Nat) : Int) = 0 := by
  have he : (R.restore ks).lErr ((i / 4 : Nat) : Int) ((i % 4 : Nat) : Int) = 0 := by
    rw [Rk.lErr, if_neg]
    show ¬ (_ ∨ _ ≥ (R.n : Int) ∨ _ ∨ _ ≥ (R.ns : Int))
    rw [h.n, h.ns]; omega
  refine ⟨?_, he⟩
  rw [Rk.lst, if_pos he]
  show (Dk.restored R ks ((i / 4 : Nat) : Int).toNat).lasts ((i % 4 : Nat) : Int).toNat = _
  rw [show ((i / 4 : Nat) : Int).toNat = i / 4 by omega, show ((i % 4 : Nat) : Int).toNat = i % 4 by omega]
  simp only [Dk.restored, Dk.clean, Dk.flushed, h.cached (i / 4) (i % 4) (by omega) (by omega), h.lasts (i / 4) (i % 4) (by omega) (by omega), h.calm.failed, h.ns]
  have h1 : i / 4 * 4 + i % 4 = i := by omega
  have h2 : ((i % 4 : Nat) : Int).toNat = i % 4 := by omega
  rw [h1, h2, h1]
  cases last i with
  | none => simp
  | some v => cases keepB ks (rank R i) <;> simp
end Go.Proofs.Ytldmeimebebllaa
namespace Go.Proofs.Ytldmeimebebllaa
open Go.Mo
set_option linter.unusedVariables false
variable {g : Fr} {cv : CV}
theorem Calm.setD {R : Rk} (h : Calm R) {k : Nat} {D : Dk} (hf : D.failed = false) (hc : D.count = -1) : Calm (R.setD k D) := by
  refine ⟨h.off, h.count, fun j => ?_, fun j => ?_⟩
  · simp only [Rk.setD]; split
    · exact hf
    · exact h.failed j
  · simp only [Rk.setD]; split
    · exact hc
    · exact h.counts j
theorem Calm.flush {R : Rk} (h : Calm R) {k : Int} (hk : 0 ≤ k ∧ k < R.n) (hs : 0 < R.ns) : R.gate k 0 64 = 0 ∧ R.flush k = R.setD k.toNat (((R.dk k.toNat).flushed fun _ => true).clean) ∧ Calm (R.flush k) := by
  have hg := h.gate hk (s := 0) (by omega)
  obtain ⟨_, _, _, _, hgd⟩ := gate_ok hg
  have he : R.flush k = R.setD k.toNat (((R.dk k.toNat).flushed fun _ => true).clean) := by rw [Rk.flush, if_pos hg, hgd, h.tick]
  refine ⟨hg, he, ?_⟩
  rw [he]
  exact h.setD (h.failed _) (h.counts _)
theorem Wr.flush {R : Rk} {sure : Nat → Int} {last : Nat → Option Int} (h : Wr R sure last) :
    R.gate 0 0 64 = 0 ∧ (R.flush 0).gate 1 0 64 = 0 ∧ Wr ((R.flush 0).flush 1) (fun q => (last q).getD (sure q)) (fun _ => none) := by
  have h1 := h.calm.flush (k := 0) (by rw [h.n]; omega) (by rw [h.ns]; omega)
  have hn1 := flush_n (R := R) 0
  have h2 := h1.2.2.flush (k := 1) (by rw [hn1.1, h.n]; omega) (by rw [hn1.2, h.ns]; omega)
  have hn2 := flush_n (R := R.flush 0) 1
  refine ⟨h1.1, h2.1, h2.2.2, by rw [hn2.1, hn1.1, h.n], by rw [hn2.2, hn1.2, h.ns], fun j k hj hk => ?_, fun j k hj hk => ?_⟩
  · rw [h2.2.1, h1.2.1]
    have hjj : j = 0 ∨ j = 1 := by omega
    rcases hjj with e | e <;> subst e
    · have hc := h.cached 0 k (by omega) hk
      have hl := h.lasts 0 k (by omega) hk
      simp only [Rk.setD, Dk.flushed, Dk.clean, Int.toNat_zero, show Int.toNat 1 = 1 from rfl, show ¬ (0 : Nat) = 1 by omega, if_false, if_true, hc, hl]
      cases last (0 * 4 + k) <;> rfl
    · have hc := h.cached 1 k (by omega) hk
      have hl := h.lasts 1 k (by omega) hk
      simp only [Rk.setD, Dk.flushed, Dk.clean, Int.toNat_zero, show Int.toNat 1 = 1 from rfl, show ¬ (1 : Nat) = 0 by omega, if_false, if_true, hc, hl]
      cases last (1 * 4 + k) <;> rfl
  · rw [h2.2.1, h1.2.1]
    have hjj : j = 0 ∨ j = 1 := by omega
    rcases hjj with e | e <;> subst e <;> simp [Rk.setD, Dk.clean]
theorem Wr.reads {R : Rk} {sure : Nat → Int} {last : Nat → Option Int} (h : Wr R sure last) (ks : List Int) {i : Nat} (hi : i < 8) :
    (R.restore ks).rd ((i / 4 : Nat) : Int) ((i % 4 : Nat) : Int) = one (if keepB ks (rank R i) = true then (last i).getD (sure i) else sure i) ∧ (R.restore ks).rdErr ((i / 4 : Nat) : Int) ((i % 4 : Nat) : Int) = 0 := by
  have h1 := h.restore ks hi
  have hr : ¬ (((i / 4 : Nat) : Int) < 0 ∨ ((i / 4 : Nat) : Int) ≥ ((R.restore ks).n : Int) ∨ ((i % 4 : Nat) : Int) < 0 ∨ ((i % 4 : Nat) : Int) ≥ ((R.restore ks).ns : Int)) := by
    show ¬ (_ ∨ _ ≥ (R.n : Int) ∨ _ ∨ _ ≥ (R.ns : Int))
    rw [h.n, h.ns]; omega
  have he : (R.restore ks).rdErr ((i / 4 : Nat) : Int) ((i % 4 : Nat) : Int) = 0 := by
    rw [Rk.rdErr, if_neg (by simp [Rk.restore]), if_neg hr, if_neg]
    show ¬ (R.dk _).failed = true
    simp [h.calm.failed]
  refine ⟨?_, he⟩
  rw [← h1.1, Rk.rd, if_pos he, Rk.lst, if_pos h1.2]
  rfl
end Go.Proofs.Ytldmeimebebllaa
namespace Go.Proofs.Ytldmeimebebllaa
open Go.Mo
set_option linter.unusedVariables false
variable {g : Fr} {cv : CV}
structure Pw (R : Rk) (N : Int) (i : Nat) : Prop where
  n : R.n = 1
  ns : R.ns = 2
  failed : (R.dk 0).failed = false
  count : (R.dk 0).count = -1
  on : (i : Int) ≤ N → R.off = false ∧ R.count = N - i
  off : N < i → R.off = true
theorem Pw.new {N : Int} (h : 0 ≤ N) : Pw ((Rk.new 1 2).arm N) N 0 := ⟨rfl, rfl, rfl, rfl, fun _ => ⟨rfl, by show maxI N (-1) = _; rw [maxI, if_neg (by omega)]; simp⟩, fun h' => by omega⟩
theorem Pw.step {R : Rk} {N : Int} {i : Nat} (h : Pw R N i) (hi : i < 1000) (hN : N < 9223372036854775808) {s : Int} (hs : 0 ≤ s ∧ s < 2) :
    R.gate 0 s 64 = (if (i : Int) < N then 0 else 12) ∧ Pw (R.gated 0 s 64) N (i + 1) := by
  have hr : ¬ ((0 : Int) < 0 ∨ (0 : Int) ≥ R.n ∨ s < 0 ∨ s ≥ R.ns) := by rw [h.n, h.ns]; omega
  by_cases h1 : (i : Int) ≤ N
  · obtain ⟨ho, hc⟩ := h.on h1
    have hgd : R.gated 0 s 64 = R.ticked := gated_in ho (by rw [h.n]; omega) (by rw [h.ns]; omega)
    have ho' : ¬ R.off = true := by simp [ho]
    rw [hgd]
    by_cases h2 : (i : Int) = N
    · have hc0 : R.count = 0 := by omega
      refine ⟨?_, ?_⟩
      · rw [Rk.gate, if_neg ho', if_neg hr, if_neg (by omega), if_pos hc0, if_neg (by omega)]
      · rw [Rk.ticked, if_pos hc0]
        exact ⟨h.n, h.ns, h.failed, h.count, fun h' => by omega, fun _ => rfl⟩
    · have hc0 : ¬ R.count = 0 := by omega
      have ht : R.ticked = { R with count := maxI (w64 (R.count - 1)) (-1), dk := fun j => (R.dk j).tick } := by rw [Rk.ticked, if_neg hc0]
      have hd : (R.dk 0).tick = R.dk 0 := tickD h.count
      refine ⟨?_, ?_⟩
      · rw [Rk.gate, if_neg ho', if_neg hr, if_neg (by omega), if_neg hc0, ht]
        show (if ((R.dk 0).tick).failed = true then (13 : Int) else 0) = _
        rw [hd, h.failed, if_neg (by simp), if_pos (by omega)]
      · rw [ht]
        refine ⟨h.n, h.ns, ?_, ?_, fun h' => ⟨ho, ?_⟩, fun h' => by omega⟩
        · show ((R.dk 0).tick).failed = false
          rw [hd, h.failed]
        · show ((R.dk 0).tick).count = -1
          rw [hd, h.count]
        · show maxI (w64 (R.count - 1)) (-1) = _
          rw [hc, w64_id (by omega) (by omega), maxI, if_neg (by omega)]; omega
  · have ho := h.off (by omega)
    refine ⟨?_, ?_⟩
    · rw [Rk.gate, if_pos ho, if_neg (by omega)]
    · rw [Rk.gated, if_pos (.inl ho)]
      exact ⟨h.n, h.ns, h.failed, h.count, fun h' => by omega, fun _ => ho⟩
theorem Pw.write {R : Rk} {N : Int} {i : Nat} (h : Pw R N i) (hi : i < 1000) (hN : N < 9223372036854775808) {s : Int} (hs : 0 ≤ s ∧ s < 2) {b : List Int} (hb : b.length = 64) :
    R.gate 0 s b.length = (if (i : Int) < N then 0 else 12) ∧ Pw (R.write 0 s b) N (i + 1) := by
  have hp := h.step hi hN hs
  rw [hb]
  refine ⟨hp.1, ?_⟩
  rw [Rk.write, hb]
  split
  · obtain ⟨a1, a2, a3, a4, a5, a6⟩ := hp.2
    refine ⟨a1, a2, ?_, ?_, a5, a6⟩
    · exact a3
    · exact a4
  · exact hp.2
theorem Pw.flush {R : Rk} {N : Int} {i : Nat} (h : Pw R N i) (hi : i < 1000) (hN : N < 9223372036854775808) :
    R.gate 0 0 64 = (if (i : Int) < N then 0 else 12) ∧ Pw (R.flush 0) N (i + 1) := by
  have hp := h.step hi hN (s := 0) (by omega)
  refine ⟨hp.1, ?_⟩
  rw [Rk.flush]
  split
  · obtain ⟨a1, a2, a3, a4, a5, a6⟩ := hp.2
    exact ⟨a1, a2, a3, a4, a5, a6⟩
  · exact hp.2
end Go.Proofs.Ytldmeimebebllaa

namespace Go.Proofs.Ytldmeimebebllaa
open Go.Mo
set_option linter.unusedVariables false
variable {g : Fr} {cv : CV}
def rdisk (q m : G3) (slot : Int) : Int := if m.2.2 ≠ 0 ∧ m.2.1 = slot then q.1 else slot
theorem rdisk_slot {q m : G3} {slot : Int} (h : 0 ≤ slot ∧ slot < q.1) : slotV q m slot = (rdisk q m slot, true) := by
  simp only [slotV, rdisk]
  rw [if_neg (by omega)]
  split <;> rfl
theorem ref06_disk_val (yb mb : Nat) (q m : G3) (slot : Int) : Val g (bnk yb mb q m) (ref06_Bank_disk (ptr yb) slot) (rdisk q m slot) := by
  unfold ref06_Bank_disk
  simp only [Addr.add_add, Nat.reduceAdd]
  apply val_eq
  · repeat (first
      | (with_reducible refine wps_bindpure ?_)
      | (with_reducible refine wps_assoc ?_)
      | (with_reducible refine wps_nil ?_)
      | (with_reducible refine wps_stepAlloc fun _ => ?_)
      | (with_reducible refine wps_alloc fun _ => ?_)
      | (with_reducible refine wps_newO fun _ => ?_)
      | (refine wps_ld _ (by rfl) ?_)
      | (refine wps_ldG _ _ _ (by rfl) ?_)
      | (refine wps_ldA _ (by rfl) ?_)
      | (refine wps_ldI _ (by rfl) ?_)
      | (refine wps_ldGI _ _ _ (by rfl) ?_)
      | (refine wps_ldAI _ (by rfl) ?_)
      | (refine wps_st (by simp) ?_)
      | (refine wps_stA (by simp) (by simp [Value.oneCell']) ?_)
      | ((with_reducible apply wps_val); apply val_ite; rotate_left; refine fun (_ : ¬ _) => ?_; rotate_right; refine fun (_ : _ = true) => ?_)
      | ((with_reducible apply val_ite); rotate_left; refine fun (_ : ¬ _) => ?_; rotate_right; refine fun (_ : _ = true) => ?_)
      | (with_reducible refine wps_regionH ?_)
      | ((with_reducible apply wps_bindV); apply val_iteL; rotate_left; refine fun (_ : ¬ _) => ?_; rotate_right; refine fun (_ : _ = true) => ?_)
      | ((with_reducible apply val_iteL); rotate_left; refine fun (_ : ¬ _) => ?_; rotate_right; refine fun (_ : _ = true) => ?_)
      | (with_reducible exact wps_pure (ent_val rfl)))
  · simp only [rdisk]
    by_cases h3 : m.2.2 = 0
    · simp [h3]
    · by_cases h4 : m.2.1 = slot
      · simp [h3, h4]
      · simp [h3, h4]
theorem ref06_Read_spec (yb mb : Nat) (q m : G3) (R : Rk) (l1 l2 l3 l4 : Slc) (slot s : Int) :
    wps g (bnk yb mb q m * refQ mb R l1 l2 l3 l4) (ref06_Bank_Read (ptr yb) slot s) (fun x =>
      pr (x.2 = if (slotV q m slot).2 then R.rdErr (slotV q m slot).1 s else 11) * bnk yb mb q m * refQ mb R l1 l2 l3 l4 * own 1 x.1 (bv (if (slotV q m slot).2 then R.rd (slotV q m slot).1 s else []))) := by
  unfold ref06_Bank_Read
  refine wps_val (v := decide (slot < 0 ∨ slot ≥ q.1)) ?_ ?_
  · apply val_eq
    · repeat (first
        | (with_reducible refine wps_bindpure ?_)
        | (with_reducible refine wps_assoc ?_)
        | (with_reducible refine wps_nil ?_)
        | (with_reducible refine wps_stepAlloc fun _ => ?_)
        | (with_reducible refine wps_alloc fun _ => ?_)
        | (with_reducible refine wps_newO fun _ => ?_)
        | (refine wps_ld _ (by rfl) ?_)
        | (refine wps_ldG _ _ _ (by rfl) ?_)
        | (refine wps_ldA _ (by rfl) ?_)
        | (refine wps_ldI _ (by rfl) ?_)
        | (refine wps_ldGI _ _ _ (by rfl) ?_)
        | (refine wps_ldAI _ (by rfl) ?_)
        | (refine wps_st (by simp) ?_)
        | (refine wps_stA (by simp) (by simp [Value.oneCell']) ?_)
        | ((with_reducible apply wps_val); apply val_ite; rotate_left; refine fun (_ : ¬ _) => ?_; rotate_right; refine fun (_ : _ = true) => ?_)
        | ((with_reducible apply val_ite); rotate_left; refine fun (_ : ¬ _) => ?_; rotate_right; refine fun (_ : _ = true) => ?_)
        | (with_reducible refine wps_regionH ?_)
        | ((with_reducible apply wps_bindV); apply val_iteL; rotate_left; refine fun (_ : ¬ _) => ?_; rotate_right; refine fun (_ : _ = true) => ?_)
        | ((with_reducible apply val_iteL); rotate_left; refine fun (_ : ¬ _) => ?_; rotate_right; refine fun (_ : _ = true) => ?_)
        | (with_reducible exact wps_pure (ent_val rfl)))
    · by_cases h : slot < 0 <;> simp [h]
  refine wps_ite (fun h => ?_) (fun h => ?_)
  · have hv : slotV q m slot = (0, false) := by simp only [decide_eq_true_eq] at h; simp only [slotV, if_pos h]
    rw [hv]
    simp only [Bool.false_eq_true, if_false]
    refine wps_pure ?_
    exact ent_own0 (ent_pick (ent_pick (ent_prq rfl)))
  · have hv := rdisk_slot (q := q) (m := m) (slot := slot) (by simp only [decide_eq_true_eq] at h; omega)
    rw [hv]
    simp only [if_true]
    refine wps_region (bnk yb mb q m) ent_pick1 ?_
    repeat (first
      | (with_reducible refine wps_bindpure ?_)
      | (with_reducible refine wps_assoc ?_)
      | (with_reducible refine wps_nil ?_)
      | (with_reducible refine wps_stepAlloc fun _ => ?_)
      | (with_reducible refine wps_alloc fun _ => ?_)
      | (with_reducible refine wps_newO fun _ => ?_)
      | (refine wps_ld _ (by rfl) ?_)
      | (refine wps_ldG _ _ _ (by rfl) ?_)
      | (refine wps_ldA _ (by rfl) ?_)
      | (refine wps_ldI _ (by rfl) ?_)
      | (refine wps_ldGI _ _ _ (by rfl) ?_)
      | (refine wps_ldAI _ (by rfl) ?_)
      | (refine wps_st (by simp) ?_)
      | (refine wps_stA (by simp) (by simp [Value.oneCell']) ?_)
      | ((with_reducible apply wps_val); apply val_ite; rotate_left; refine fun (_ : ¬ _) => ?_; rotate_right; refine fun (_ : _ = true) => ?_)
      | ((with_reducible apply val_ite); rotate_left; refine fun (_ : ¬ _) => ?_; rotate_right; refine fun (_ : _ = true) => ?_)
      | (with_reducible refine wps_regionH ?_)
      | ((with_reducible apply wps_bindV); apply val_iteL; rotate_left; refine fun (_ : ¬ _) => ?_; rotate_right; refine fun (_ : _ = true) => ?_)
      | ((with_reducible apply val_iteL); rotate_left; refine fun (_ : ¬ _) => ?_; rotate_right; refine fun (_ : _ = true) => ?_)
      | (with_reducible exact wps_pure (ent_val rfl)))
    refine wps_stepVH (fun _ => ref06_disk_val yb mb q m slot) ?_
    refine wps_callH (fun _ => ref02_Read_spec mb R l1 l2 l3 l4 (rdisk q m slot) s) fun x => wps_pure ?_
    simp only [← star_assoc]
    exact ent_pick (ent_pick (ent_pick ent_drop))
theorem ref06_Write_spec {H : HP} (yb mb : Nat) (q m : G3) (R : Rk) (l1 l2 l3 l4 : Slc) (slot s : Int) (x : Slc) (b : List Int) (hx : Ent H (byt x b)) (hb : b.length ≤ 1099511627776) :
    wps g (H * bnk yb mb q m * refQ mb R l1 l2 l3 l4) (ref06_Bank_Write (ptr yb) slot s x) (fun e =>
      pr (e = if (slotV q m slot).2 then R.gate (slotV q m slot).1 s b.length else 11) * H * bnk yb mb q m * refQ mb (if (slotV q m slot).2 then R.write (slotV q m slot).1 s b else R) l1 l2 l3 l4) := by
  unfold ref06_Bank_Write
  refine wps_val (v := decide (slot < 0 ∨ slot ≥ q.1)) ?_ ?_
  · apply val_eq
    · repeat (first
        | (with_reducible refine wps_bindpure ?_)
        | (with_reducible refine wps_assoc ?_)
        | (with_reducible refine wps_nil ?_)
        | (with_reducible refine wps_stepAlloc fun _ => ?_)
        | (with_reducible refine wps_alloc fun _ => ?_)
        | (with_reducible refine wps_newO fun _ => ?_)
        | (refine wps_ld _ (by rfl) ?_)
        | (refine wps_ldG _ _ _ (by rfl) ?_)
        | (refine wps_ldA _ (by rfl) ?_)
        | (refine wps_ldI _ (by rfl) ?_)
        | (refine wps_ldGI _ _ _ (by rfl) ?_)
        | (refine wps_ldAI _ (by rfl) ?_)
        | (refine wps_st (by simp) ?_)
        | (refine wps_stA (by simp) (by simp [Value.oneCell']) ?_)
        | ((with_reducible apply wps_val); apply val_ite; rotate_left; refine fun (_ : ¬ _) => ?_; rotate_right; refine fun (_ : _ = true) => ?_)
        | ((with_reducible apply val_ite); rotate_left; refine fun (_ : ¬ _) => ?_; rotate_right; refine fun (_ : _ = true) => ?_)
        | (with_reducible refine wps_regionH ?_)
        | ((with_reducible apply wps_bindV); apply val_iteL; rotate_left; refine fun (_ : ¬ _) => ?_; rotate_right; refine fun (_ : _ = true) => ?_)
        | ((with_reducible apply val_iteL); rotate_left; refine fun (_ : ¬ _) => ?_; rotate_right; refine fun (_ : _ = true) => ?_)
        | (with_reducible exact wps_pure (ent_val rfl)))
    · by_cases h : slot < 0 <;> simp [h]
  refine wps_ite (fun h => ?_) (fun h => ?_)
  · have hv : slotV q m slot = (0, false) := by simp only [decide_eq_true_eq] at h; simp only [slotV, if_pos h]
    rw [hv]
    simp only [Bool.false_eq_true, if_false]
    refine wps_pure ?_
    exact ent_pick (ent_pick (ent_prr rfl (Ent.refl _)))
  · have hv := rdisk_slot (q := q) (m := m) (slot := slot) (by simp only [decide_eq_true_eq] at h; omega)
    rw [hv]
    simp only [if_true]
    refine wps_region (bnk yb mb q m) ent_pick1 ?_
    repeat (first
      | (with_reducible refine wps_bindpure ?_)
      | (with_reducible refine wps_assoc ?_)
      | (with_reducible refine wps_nil ?_)
      | (with_reducible refine wps_stepAlloc fun _ => ?_)
      | (with_reducible refine wps_alloc fun _ => ?_)
      | (with_reducible refine wps_newO fun _ => ?_)
      | (refine wps_ld _ (by rfl) ?_)
      | (refine wps_ldG _ _ _ (by rfl) ?_)
      | (refine wps_ldA _ (by rfl) ?_)
      | (refine wps_ldI _ (by rfl) ?_)
      | (refine wps_ldGI _ _ _ (by rfl) ?_)
      | (refine wps_ldAI _ (by rfl) ?_)
      | (refine wps_st (by simp) ?_)
      | (refine wps_stA (by simp) (by simp [Value.oneCell']) ?_)
      | ((with_reducible apply wps_val); apply val_ite; rotate_left; refine fun (_ : ¬ _) => ?_; rotate_right; refine fun (_ : _ = true) => ?_)
      | ((with_reducible apply val_ite); rotate_left; refine fun (_ : ¬ _) => ?_; rotate_right; refine fun (_ : _ = true) => ?_)
      | (with_reducible refine wps_regionH ?_)
      | ((with_reducible apply wps_bindV); apply val_iteL; rotate_left; refine fun (_ : ¬ _) => ?_; rotate_right; refine fun (_ : _ = true) => ?_)
      | ((with_reducible apply val_iteL); rotate_left; refine fun (_ : ¬ _) => ?_; rotate_right; refine fun (_ : _ = true) => ?_)
      | (with_reducible exact wps_pure (ent_val rfl)))
    refine wps_stepVH (fun _ => ref06_disk_val yb mb q m slot) ?_
    refine wps_call (F := bnk yb mb q m) (fun _ => ref02_Write_spec mb R l1 l2 l3 l4 (rdisk q m slot) s x b hx hb) ?_ fun e => wps_pure ?_
    · refine Ent.of_eq ?_
      ac_rfl
    · refine Ent.of_eq ?_
      ac_rfl
theorem ref06_disks_spec (yb mb : Nat) (q m : G3) (hq : q.1 ≤ 16) :
    wps g (bnk yb mb q m) (ref06_Bank_disks (ptr yb)) (fun s => bnk yb mb q m * own 1 s (zv (disksL q m))) := by
  unfold ref06_Bank_disks
  simp only [Addr.add_add, Nat.reduceAdd]
  refine wps_alloc fun c => ?_
  refine wps_swap (A := pc c []) (B := own 1 ⟨some ⟨c, 0, none⟩, 0, 0⟩ []) (pc_own (n := 0) (z := 1) rfl) ?_
  refine wps_loop (fun t => ex fun n : Nat => pr (t.2 = (n : Int) ∧ (n : Int) ≤ max 0 q.1 ∧ t.1.len = n) * bnk yb mb q m * own 1 t.1 (zv ((List.range n).map fun i : Nat => (slotV q m i).1))) (fun t => (q.1 - t.2).toNat) ?_ fun t => ?_
  · refine ent_ex 0 ?_
    refine ent_pickS (by rfl) ?_
    repeat (first
      | (with_reducible exact ent_drop)
      | (with_reducible refine ent_pick ?_)
      | (refine ent_pickC (by rfl) ?_)
      | (refine ent_pickS (by rfl) ?_)
      | (refine ent_pickM (by rfl) ?_)
      | (refine ent_prx ?_ ?_; rotate_left)
      | (refine ent_prq ?_))
    all_goals first | exact ⟨rfl, by omega, rfl⟩ | trivial
  · refine wps_ex fun n => wps_prP fun ⟨ht, hn, hl⟩ => ?_
    repeat (first
      | (with_reducible refine wps_bindpure ?_)
      | (with_reducible refine wps_assoc ?_)
      | (with_reducible refine wps_nil ?_)
      | (with_reducible refine wps_stepAlloc fun _ => ?_)
      | (with_reducible refine wps_alloc fun _ => ?_)
      | (with_reducible refine wps_newO fun _ => ?_)
      | (refine wps_ld _ (by rfl) ?_)
      | (refine wps_ldG _ _ _ (by rfl) ?_)
      | (refine wps_ldA _ (by rfl) ?_)
      | (refine wps_ldI _ (by rfl) ?_)
      | (refine wps_ldGI _ _ _ (by rfl) ?_)
      | (refine wps_ldAI _ (by rfl) ?_)
      | (refine wps_st (by simp) ?_)
      | (refine wps_stA (by simp) (by simp [Value.oneCell']) ?_)
      | ((with_reducible apply wps_val); apply val_ite; rotate_left; refine fun (_ : ¬ _) => ?_; rotate_right; refine fun (_ : _ = true) => ?_)
      | ((with_reducible apply val_ite); rotate_left; refine fun (_ : ¬ _) => ?_; rotate_right; refine fun (_ : _ = true) => ?_)
      | (with_reducible refine wps_regionH ?_)
      | ((with_reducible apply wps_bindV); apply val_iteL; rotate_left; refine fun (_ : ¬ _) => ?_; rotate_right; refine fun (_ : _ = true) => ?_)
      | ((with_reducible apply val_iteL); rotate_left; refine fun (_ : ¬ _) => ?_; rotate_right; refine fun (_ : _ = true) => ?_)
      | (with_reducible exact wps_pure (ent_val rfl)))
    refine wps_ite (fun hc => ?_) (fun hc => ?_)
    · have hc' : t.2 < q.1 := by simpa using hc
      have hv := rdisk_slot (q := q) (m := m) (slot := t.2) (by omega)
      have hv' : slotV q m (n : Int) = (rdisk q m t.2, true) := by rw [← ht]; exact hv
      refine wps_valH (fun _ => ref06_disk_val yb mb q m t.2) ?_
      refine wps_alloc fun x => ?_
      refine wps_app 1 [Value.int .i64 (rdisk q m t.2)] rfl (by decide) (rsl_pc rfl) (by simp [Value.oneCell']) (by (try dsimp only); omega) fun s' hs' => wps_pure ?_
      refine ent_prr (by rw [range_add1 ht (by omega)]; (try dsimp only); omega) (ent_ex (n + 1) ?_)
      have hs2 : s'.len = t.1.len + 1 := hs'
      refine ent_pickS (by rw [List.range_succ, List.map_append]; simp [zv, hv']) (ent_pick ?_)
      exact ent_prq ⟨range_add1 ht (by omega), by omega, by (try dsimp only); omega⟩
    · have hne : n = q.1.toNat := by simp only [decide_eq_true_eq] at hc; omega
      refine wps_mapR ?_
      repeat (first
        | (with_reducible refine wps_bindpure ?_)
        | (with_reducible refine wps_assoc ?_)
        | (with_reducible refine wps_nil ?_)
        | (with_reducible refine wps_stepAlloc fun _ => ?_)
        | (with_reducible refine wps_alloc fun _ => ?_)
        | (with_reducible refine wps_newO fun _ => ?_)
        | (refine wps_ld _ (by rfl) ?_)
        | (refine wps_ldG _ _ _ (by rfl) ?_)
        | (refine wps_ldA _ (by rfl) ?_)
        | (refine wps_ldI _ (by rfl) ?_)
        | (refine wps_ldGI _ _ _ (by rfl) ?_)
        | (refine wps_ldAI _ (by rfl) ?_)
        | (refine wps_st (by simp) ?_)
        | (refine wps_stA (by simp) (by simp [Value.oneCell']) ?_)
        | ((with_reducible apply wps_val); apply val_ite; rotate_left; refine fun (_ : ¬ _) => ?_; rotate_right; refine fun (_ : _ = true) => ?_)
        | ((with_reducible apply val_ite); rotate_left; refine fun (_ : ¬ _) => ?_; rotate_right; refine fun (_ : _ = true) => ?_)
        | (with_reducible refine wps_regionH ?_)
        | ((with_reducible apply wps_bindV); apply val_iteL; rotate_left; refine fun (_ : ¬ _) => ?_; rotate_right; refine fun (_ : _ = true) => ?_)
        | ((with_reducible apply val_iteL); rotate_left; refine fun (_ : ¬ _) => ?_; rotate_right; refine fun (_ : _ = true) => ?_)
        | (with_reducible exact wps_pure (ent_val rfl)))
      refine wps_ite (fun h0 => ?_) (fun h0 => ?_)
      · have h0' : m.2.2 = 0 := by simpa using h0
        repeat (first
          | (with_reducible refine wps_bindpure ?_)
          | (with_reducible refine wps_assoc ?_)
          | (with_reducible refine wps_nil ?_)
          | (with_reducible refine wps_stepAlloc fun _ => ?_)
          | (with_reducible refine wps_alloc fun _ => ?_)
          | (with_reducible refine wps_newO fun _ => ?_)
          | (refine wps_ld _ (by rfl) ?_)
          | (refine wps_ldG _ _ _ (by rfl) ?_)
          | (refine wps_ldA _ (by rfl) ?_)
          | (refine wps_ldI _ (by rfl) ?_)
          | (refine wps_ldGI _ _ _ (by rfl) ?_)
          | (refine wps_ldAI _ (by rfl) ?_)
          | (refine wps_st (by simp) ?_)
          | (refine wps_stA (by simp) (by simp [Value.oneCell']) ?_)
          | ((with_reducible apply wps_val); apply val_ite; rotate_left; refine fun (_ : ¬ _) => ?_; rotate_right; refine fun (_ : _ = true) => ?_)
          | ((with_reducible apply val_ite); rotate_left; refine fun (_ : ¬ _) => ?_; rotate_right; refine fun (_ : _ = true) => ?_)
          | (with_reducible refine wps_regionH ?_)
          | ((with_reducible apply wps_bindV); apply val_iteL; rotate_left; refine fun (_ : ¬ _) => ?_; rotate_right; refine fun (_ : _ = true) => ?_)
          | ((with_reducible apply val_iteL); rotate_left; refine fun (_ : ¬ _) => ?_; rotate_right; refine fun (_ : _ = true) => ?_)
          | (with_reducible exact wps_pure (ent_val rfl)))
        rename_i x
        refine wps_app 1 [Value.int .i64 q.1] rfl (by decide) (rsl_pc rfl) (by simp [Value.oneCell']) (by (try dsimp only); omega) fun s' hs' => wps_pure ?_
        refine ent_pickS (by unfold disksL; rw [if_pos h0', hne]; simp [zv]) ?_
        exact ent_drop
      · have h0' : ¬ m.2.2 = 0 := by simpa using h0
        refine wps_pure ?_
        refine ent_pickS (by unfold disksL; rw [if_neg h0', hne]; simp) ent_drop
theorem ref06_Join_spec (yb mb : Nat) (q m k : G3) : wps g (bnk yb mb q m) (ref06_Bank_Join (ptr yb) k) (fun _ => bnk yb mb q (if FitsB q k then k else m)) := by
  unfold ref06_Bank_Join
  repeat (first
    | (with_reducible refine wps_val (ref06_Fits_val _ _) ?_)
    | (with_reducible refine wps_stepV (ref06_Fits_val _ _) ?_)
    | (with_reducible refine wps_bindpure ?_)
    | (with_reducible refine wps_assoc ?_)
    | (with_reducible refine wps_nil ?_)
    | (with_reducible refine wps_stepAlloc fun _ => ?_)
    | (with_reducible refine wps_alloc fun _ => ?_)
    | (with_reducible refine wps_newO fun _ => ?_)
    | (refine wps_ld _ (by rfl) ?_)
    | (refine wps_ldG _ _ _ (by rfl) ?_)
    | (refine wps_ldA _ (by rfl) ?_)
    | (refine wps_ldI _ (by rfl) ?_)
    | (refine wps_ldGI _ _ _ (by rfl) ?_)
    | (refine wps_ldAI _ (by rfl) ?_)
    | (refine wps_st (by simp) ?_)
    | (refine wps_stA (by simp) (by simp [Value.oneCell']) ?_)
    | ((with_reducible apply wps_val); apply val_ite; rotate_left; refine fun (_ : ¬ _) => ?_; rotate_right; refine fun (_ : _ = true) => ?_)
    | ((with_reducible apply val_ite); rotate_left; refine fun (_ : ¬ _) => ?_; rotate_right; refine fun (_ : _ = true) => ?_)
    | (with_reducible refine wps_regionH ?_)
    | ((with_reducible apply wps_bindV); apply val_iteL; rotate_left; refine fun (_ : ¬ _) => ?_; rotate_right; refine fun (_ : _ = true) => ?_)
    | ((with_reducible apply val_iteL); rotate_left; refine fun (_ : ¬ _) => ?_; rotate_right; refine fun (_ : _ = true) => ?_)
    | (with_reducible exact wps_pure (ent_val rfl)))
  by_cases h : FitsB q k = true
  · simp only [h, if_true]
    repeat (first
      | (with_reducible refine wps_bindpure ?_)
      | (with_reducible refine wps_assoc ?_)
      | (with_reducible refine wps_nil ?_)
      | (with_reducible refine wps_stepAlloc fun _ => ?_)
      | (with_reducible refine wps_alloc fun _ => ?_)
      | (with_reducible refine wps_newO fun _ => ?_)
      | (refine wps_ld _ (by rfl) ?_)
      | (refine wps_ldG _ _ _ (by rfl) ?_)
      | (refine wps_ldA _ (by rfl) ?_)
      | (refine wps_ldI _ (by rfl) ?_)
      | (refine wps_ldGI _ _ _ (by rfl) ?_)
      | (refine wps_ldAI _ (by rfl) ?_)
      | (refine wps_st (by simp) ?_)
      | (refine wps_stA (by simp) (by simp [Value.oneCell']) ?_)
      | ((with_reducible apply wps_val); apply val_ite; rotate_left; refine fun (_ : ¬ _) => ?_; rotate_right; refine fun (_ : _ = true) => ?_)
      | ((with_reducible apply val_ite); rotate_left; refine fun (_ : ¬ _) => ?_; rotate_right; refine fun (_ : _ = true) => ?_)
      | (with_reducible refine wps_regionH ?_)
      | ((with_reducible apply wps_bindV); apply val_iteL; rotate_left; refine fun (_ : ¬ _) => ?_; rotate_right; refine fun (_ : _ = true) => ?_)
      | ((with_reducible apply val_iteL); rotate_left; refine fun (_ : ¬ _) => ?_; rotate_right; refine fun (_ : _ = true) => ?_)
      | (with_reducible exact wps_pure (ent_val rfl)))
    exact wps_pure (Ent.trans (ent_right _ _) (Ent.of_eq rfl))
  · simp only [h, if_false, Bool.false_eq_true]
    exact wps_pure ent_drop
theorem ref06_Flush_spec (yb mb : Nat) (q m : G3) (hq : q.1 ≤ 16) (R : Rk) (l1 l2 l3 l4 : Slc) :
    wps g (bnk yb mb q m * refQ mb R l1 l2 l3 l4) (ref06_Bank_Flush (ptr yb)) (fun e => pr (e = (flushL (disksL q m) R).2) * bnk yb mb q m * refQ mb (flushL (disksL q m) R).1 l1 l2 l3 l4) := by
  unfold ref06_Bank_Flush
  refine wps_callH (fun _ => ref06_disks_spec yb mb q m hq) fun d => ?_
  simp only [← star_assoc]
  have h17 := disksL_len q m hq
  refine wps_fact (Ent.trans (ent_pick1 (A := own 1 d (zv (disksL q m)))) (own_len _ _ _)) fun ⟨hl, _⟩ => ?_
  have hl2 : d.len = (disksL q m).length := by simp [zv] at hl; omega
  refine wps_loop (fun st => ex fun i : Nat => ex fun R' : Rk => pr (st = (i : Int) ∧ i ≤ (disksL q m).length ∧ flushL (disksL q m) R = flushL ((disksL q m).drop i) R') * bnk yb mb q m * own 1 d (zv (disksL q m)) * refQ mb R' l1 l2 l3 l4) (fun st => (17 - st).toNat) ?_ fun st => ?_
  · refine ent_ex 0 (ent_ex R ?_)
    repeat (first
      | (with_reducible exact ent_drop)
      | (with_reducible refine ent_pick ?_)
      | (refine ent_pickC (by rfl) ?_)
      | (refine ent_pickS (by rfl) ?_)
      | (refine ent_pickM (by rfl) ?_)
      | (refine ent_prx ?_ ?_; rotate_left)
      | (refine ent_prq ?_))
    all_goals first | exact ⟨rfl, by omega, rfl⟩ | trivial
  · refine wps_ex fun i => wps_ex fun R' => wps_prP fun ⟨hi, hn, hR⟩ => ?_
    refine wps_ite (fun hc => ?_) (fun hc => ?_)
    · have hlt : i < (disksL q m).length := by simp only [decide_eq_true_eq] at hc; omega
      have hget : (disksL q m)[i]? = some (disksL q m)[i] := List.getElem?_eq_getElem hlt
      refine wps_region (bnk yb mb q m * own 1 d (zv (disksL q m))) (ent_pick ent_pick1) ?_
      refine wps_nil ?_
      refine wps_ldI (ptr mb) (by rfl) ?_
      refine wps_rdI i (disksL q m)[i] (Ent.trans (ent_right _ _) (own_rsl _ _ _)) (ent_pick ent_pick1) hi (by simp [zv, hget]) ?_
      rw [drop_cons hget, flushL] at hR
      refine wps_callH (fun _ => ref02_Flush_spec mb R' l1 l2 l3 l4 (disksL q m)[i]) fun e => ?_
      simp only [← star_assoc]
      refine wps_prP fun he => ?_
      subst he
      refine wps_ite (fun h12 => ?_) (fun h12 => ?_)
      · have h12' : R'.gate (disksL q m)[i] 0 64 = 12 := by simpa using h12
        rw [if_pos h12'] at hR
        refine wps_mapR (wps_pure ?_)
        rw [hR]
        refine ent_pick (ent_pick (ent_prq rfl))
      · have h12' : ¬ R'.gate (disksL q m)[i] 0 64 = 12 := by simpa using h12
        rw [if_neg h12'] at hR
        refine wps_pure (ent_prr (by rw [range_add1 hi (by omega)]; omega) (ent_ex (i + 1) (ent_ex (R'.flush (disksL q m)[i]) ?_)))
        repeat (first
          | (with_reducible exact ent_drop)
          | (with_reducible refine ent_pick ?_)
          | (refine ent_pickC (by rfl) ?_)
          | (refine ent_pickS (by rfl) ?_)
          | (refine ent_pickM (by rfl) ?_)
          | (refine ent_prx ?_ ?_; rotate_left)
          | (refine ent_prq ?_))
        all_goals first | exact ⟨range_add1 hi (by omega), by omega, hR⟩ | trivial
    · have hie : i = (disksL q m).length := by simp only [decide_eq_true_eq] at hc; omega
      rw [hie, List.drop_length, flushL] at hR
      refine wps_mapR (wps_pure ?_)
      rw [hR]
      refine ent_pick (ent_pick (ent_prq rfl))
theorem ref06_Everywhere_spec {H : HP} (yb mb : Nat) (q m : G3) (hq : q.1 ≤ 16) (R : Rk) (l1 l2 l3 l4 : Slc) (s : Int) (x : Slc) (b : List Int) (hx : Ent H (byt x b)) (hb : b.length ≤ 1099511627776) :
    wps g (H * bnk yb mb q m * refQ mb R l1 l2 l3 l4) (ref06_Bank_Everywhere (ptr yb) s x) (fun e =>
      pr (e = (everyL s b (disksL q m) R 0).2) * H * bnk yb mb q m * refQ mb (everyL s b (disksL q m) R 0).1 l1 l2 l3 l4) := by
  unfold ref06_Bank_Everywhere
  refine wps_callH (fun _ => ref06_disks_spec yb mb q m hq) fun d => ?_
  simp only [← star_assoc]
  have h17 := disksL_len q m hq
  refine wps_fact (Ent.trans (ent_pick1 (A := own 1 d (zv (disksL q m)))) (own_len _ _ _)) fun ⟨hl, _⟩ => ?_
  have hl2 : d.len = (disksL q m).length := by simp [zv] at hl; omega
  refine wps_loop (fun st => ex fun i : Nat => ex fun R' : Rk => pr (st.2 = (i : Int) ∧ i ≤ (disksL q m).length ∧ everyL s b (disksL q m) R 0 = everyL s b ((disksL q m).drop i) R' st.1) * H * bnk yb mb q m * own 1 d (zv (disksL q m)) * refQ mb R' l1 l2 l3 l4) (fun st => (17 - st.2).toNat) ?_ fun st => ?_
  · refine ent_ex 0 (ent_ex R ?_)
    repeat (first
      | (with_reducible exact ent_drop)
      | (with_reducible refine ent_pick ?_)
      | (refine ent_pickC (by rfl) ?_)
      | (refine ent_pickS (by rfl) ?_)
      | (refine ent_pickM (by rfl) ?_)
      | (refine ent_prx ?_ ?_; rotate_left)
      | (refine ent_prq ?_))
    all_goals first | exact ⟨rfl, by omega, rfl⟩ | trivial
  · refine wps_ex fun i => wps_ex fun R' => wps_prP fun ⟨hi, hn, hR⟩ => ?_
    refine wps_ite (fun hc => ?_) (fun hc => ?_)
    · have hlt : i < (disksL q m).length := by simp only [decide_eq_true_eq] at hc; omega
      have hget : (disksL q m)[i]? = some (disksL q m)[i] := List.getElem?_eq_getElem hlt
      refine wps_region (bnk yb mb q m * own 1 d (zv (disksL q m))) (ent_pick ent_pick1) ?_
      refine wps_nil ?_
      refine wps_ldI (ptr mb) (by rfl) ?_
      refine wps_rdI i (disksL q m)[i] (Ent.trans (ent_right _ _) (own_rsl _ _ _)) (ent_pick ent_pick1) hi (by simp [zv, hget]) ?_
      rw [drop_cons hget, everyL] at hR
      refine wps_call2 (fun _ => ref02_Write_spec (H := H) mb R' l1 l2 l3 l4 (disksL q m)[i] s x b hx hb) fun e => ?_
      simp only [← star_assoc]
      refine wps_prP fun he => ?_
      subst he
      refine wps_ite (fun h12 => ?_) (fun h12 => ?_)
      · have h12' : R'.gate (disksL q m)[i] s b.length = 12 := by simpa using h12
        rw [if_pos h12'] at hR
        refine wps_mapR (wps_pure ?_)
        rw [hR, h12']
        refine ent_pick (ent_pick (ent_pick (ent_prq rfl)))
      · have h12' : ¬ R'.gate (disksL q m)[i] s b.length = 12 := by simpa using h12
        rw [if_neg h12'] at hR
        refine wps_ite (fun h11 => ?_) (fun h11 => ?_)
        · have h11' : R'.gate (disksL q m)[i] s b.length = 11 := by simpa using h11
          rw [if_pos h11'] at hR
          refine wps_pure (ent_prr (by rw [range_add1 hi (by omega)]; (try dsimp only); omega) (ent_ex (i + 1) (ent_ex (R'.write (disksL q m)[i] s b) ?_)))
          repeat (first
            | (with_reducible exact ent_drop)
            | (with_reducible refine ent_pick ?_)
            | (refine ent_pickC (by rfl) ?_)
            | (refine ent_pickS (by rfl) ?_)
            | (refine ent_pickM (by rfl) ?_)
            | (refine ent_prx ?_ ?_; rotate_left)
            | (refine ent_prq ?_))
          all_goals first | exact ⟨range_add1 hi (by omega), by omega, by rw [h11']; exact hR⟩ | trivial
        · have h11' : ¬ R'.gate (disksL q m)[i] s b.length = 11 := by simpa using h11
          rw [if_neg h11'] at hR
          refine wps_pure (ent_prr (by rw [range_add1 hi (by omega)]; (try dsimp only); omega) (ent_ex (i + 1) (ent_ex (R'.write (disksL q m)[i] s b) ?_)))
          repeat (first
            | (with_reducible exact ent_drop)
            | (with_reducible refine ent_pick ?_)
            | (refine ent_pickC (by rfl) ?_)
            | (refine ent_pickS (by rfl) ?_)
            | (refine ent_pickM (by rfl) ?_)
            | (refine ent_prx ?_ ?_; rotate_left)
            | (refine ent_prq ?_))
          all_goals first | exact ⟨range_add1 hi (by omega), by omega, hR⟩ | trivial
    · have hie : i = (disksL q m).length := by simp only [decide_eq_true_eq] at hc; omega
      rw [hie, List.drop_length, everyL] at hR
      refine wps_mapR (wps_pure ?_)
      rw [hR]
      refine ent_pick (ent_pick (ent_pick (ent_prq rfl)))
theorem allL_snoc (s : Int) (xs : List Int) (x : Int) (R : Rk) : allL s (xs ++ [x]) R = allL s xs R ++ if R.rdErr x s = 0 then [R.rd x s] else [] := by
  by_cases h : R.rdErr x s = 0 <;> simp [allL, h]
theorem ref06_All_spec (yb mb : Nat) (q m : G3) (hq : q.1 ≤ 16) (R : Rk) (l1 l2 l3 l4 : Slc) (s : Int) :
    wps g (bnk yb mb q m * refQ mb R l1 l2 l3 l4) (ref06_Bank_All (ptr yb) s) (fun t => bnk yb mb q m * refQ mb R l1 l2 l3 l4 * rows t (allL s (disksL q m) R)) := by
  unfold ref06_Bank_All
  refine wps_alloc fun c => ?_
  refine wps_swap (A := pc c []) (B := own 1 ⟨some ⟨c, 0, none⟩, 0, 0⟩ []) (pc_own (n := 0) (z := 1) rfl) ?_
  refine wps_callH (fun _ => ref06_disks_spec yb mb q m hq) fun d => ?_
  simp only [← star_assoc]
  have h17 := disksL_len q m hq
  refine wps_fact (Ent.trans (ent_pick1 (A := own 1 d (zv (disksL q m)))) (own_len _ _ _)) fun ⟨hl, _⟩ => ?_
  have hl2 : d.len = (disksL q m).length := by simp [zv] at hl; omega
  have hal : ∀ i, (allL s ((disksL q m).take i) R).length ≤ 17 := fun i => by
    simp only [allL, List.length_map]
    have h1 := List.length_filter_le (fun d => R.rdErr d s == 0) ((disksL q m).take i)
    rw [List.length_take] at h1
    omega
  refine wps_loop (fun st => ex fun i : Nat => ex fun sl : List Slc => pr (st.2 = (i : Int) ∧ i ≤ (disksL q m).length ∧ sl.length = (allL s ((disksL q m).take i) R).length ∧ st.1.len = sl.length) * bnk yb mb q m * own 1 d (zv (disksL q m)) * refQ mb R l1 l2 l3 l4 * seqp sl (fun j => (allL s ((disksL q m).take i) R).getD j []) * own 1 st.1 (sl.map vS)) (fun st => (17 - st.2).toNat) ?_ fun st => ?_
  · refine ent_ex 0 (ent_ex [] ?_)
    refine ent_pickS (by rfl) (ent_pers ?_ (seqp_nil _ _))
    repeat (first
      | (with_reducible exact ent_drop)
      | (with_reducible refine ent_pick ?_)
      | (refine ent_pickC (by rfl) ?_)
      | (refine ent_pickS (by rfl) ?_)
      | (refine ent_pickM (by rfl) ?_)
      | (refine ent_prx ?_ ?_; rotate_left)
      | (refine ent_prq ?_))
    all_goals first | exact ⟨rfl, by omega, by simp [allL], rfl⟩ | trivial
  · refine wps_ex fun i => wps_ex fun sl => wps_prP fun ⟨hi, hn, hsl, htl⟩ => ?_
    have hal1 := hal i
    refine wps_ite (fun hc => ?_) (fun hc => ?_)
    · have hlt : i < (disksL q m).length := by simp only [decide_eq_true_eq] at hc; omega
      have hget : (disksL q m)[i]? = some (disksL q m)[i] := List.getElem?_eq_getElem hlt
      have htake : (disksL q m).take (i + 1) = (disksL q m).take i ++ [(disksL q m)[i]] := by rw [List.take_add_one, hget]; rfl
      refine wps_region (bnk yb mb q m * own 1 d (zv (disksL q m))) (ent_pick ent_pick1) ?_
      refine wps_nil ?_
      refine wps_ldI (ptr mb) (by rfl) ?_
      refine wps_rdI i (disksL q m)[i] (Ent.trans (ent_right _ _) (own_rsl _ _ _)) (ent_pick ent_pick1) hi (by simp [zv, hget]) ?_
      refine wps_callH (fun _ => ref02_Read_spec mb R l1 l2 l3 l4 (disksL q m)[i] s) fun e => ?_
      simp only [← star_assoc]
      refine wps_prP fun he => ?_
      refine wps_ite (fun h0 => ?_) (fun h0 => ?_)
      · have h0' : R.rdErr (disksL q m)[i] s = 0 := by rw [← he]; simpa using h0
        have hall : allL s ((disksL q m).take (i + 1)) R = allL s ((disksL q m).take i) R ++ [R.rd (disksL q m)[i] s] := by
          rw [htake, allL_snoc]; simp [h0']
        refine wps_alloc fun x => ?_
        refine wps_app 1 [vS e.1] rfl (by decide) (rsl_pc rfl) (by simp [Value.oneCell', vS]) (by (try dsimp only); omega) fun t2 ht2 => wps_pure ?_
        have ht3 : t2.len = st.1.len + 1 := ht2
        refine ent_prr (by rw [range_add1 hi (by omega)]; (try dsimp only); omega) (ent_ex (i + 1) (ent_ex (sl ++ [e.1]) ?_))
        rw [hall]
        refine ent_pickS (by simp) ?_
        refine ent_swap (A := own 1 e.1 (bv (R.rd (disksL q m)[i] s))) (B := byt e.1 (R.rd (disksL q m)[i] s)) (own_rsl _ _ _) ?_
        refine ent_join (A := seqp sl fun j => (allL s ((disksL q m).take i) R).getD j []) (B := byt e.1 (R.rd (disksL q m)[i] s)) (seqp_snocL hsl) ?_
        repeat (first
          | (with_reducible exact ent_drop)
          | (with_reducible refine ent_pick ?_)
          | (refine ent_pickC (by rfl) ?_)
          | (refine ent_pickS (by rfl) ?_)
          | (refine ent_pickM (by rfl) ?_)
          | (refine ent_prx ?_ ?_; rotate_left)
          | (refine ent_prq ?_))
        all_goals first | exact ⟨range_add1 hi (by omega), by omega, by simp [hsl], by simp [ht3, htl]⟩ | trivial
      · have h0' : ¬ R.rdErr (disksL q m)[i] s = 0 := by rw [← he]; simpa using h0
        have hall : allL s ((disksL q m).take (i + 1)) R = allL s ((disksL q m).take i) R := by
          rw [htake, allL_snoc]; simp [h0']
        refine wps_pure (ent_prr (by rw [range_add1 hi (by omega)]; (try dsimp only); omega) (ent_ex (i + 1) (ent_ex sl ?_)))
        rw [hall]
        repeat (first
          | (with_reducible exact ent_drop)
          | (with_reducible refine ent_pick ?_)
          | (refine ent_pickC (by rfl) ?_)
          | (refine ent_pickS (by rfl) ?_)
          | (refine ent_pickM (by rfl) ?_)
          | (refine ent_prx ?_ ?_; rotate_left)
          | (refine ent_prq ?_))
        all_goals first | exact ⟨range_add1 hi (by omega), by omega, hsl, htl⟩ | trivial
    · have hie : i = (disksL q m).length := by simp only [decide_eq_true_eq] at hc; omega
      rw [hie, List.take_length] at hsl ⊢
      refine wps_mapR (wps_pure ?_)
      refine ent_exr sl ?_
      simp only [← star_assoc]
      refine ent_pickS (by rfl) (ent_pick (ent_prx ⟨hsl, by omega⟩ ?_))
      repeat (first
        | (with_reducible exact ent_drop)
        | (with_reducible refine ent_pick ?_)
        | (refine ent_pickC (by rfl) ?_)
        | (refine ent_pickS (by rfl) ?_)
        | (refine ent_pickM (by rfl) ?_)
        | (refine ent_prx ?_ ?_; rotate_left)
        | (refine ent_prq ?_))
theorem ref06_Bad_spec (yb mb : Nat) (q m : G3) (hq : q.1 ≤ 16) (R : Rk) (l1 l2 l3 l4 : Slc) :
    wps g (bnk yb mb q m * refQ mb R l1 l2 l3 l4) (ref06_Bank_Bad (ptr yb)) (fun s => bnk yb mb q m * refQ mb R l1 l2 l3 l4 * own 1 s (iv (badL q m R))) := by
  unfold ref06_Bank_Bad
  simp only [Addr.add_add, Nat.reduceAdd]
  refine wps_alloc fun c => ?_
  refine wps_swap (A := pc c []) (B := own 1 ⟨some ⟨c, 0, none⟩, 0, 0⟩ []) (pc_own (n := 0) (z := 1) rfl) ?_
  refine wps_loop (fun t => ex fun n : Nat => pr (t.2 = (n : Int) ∧ (n : Int) ≤ max 0 q.1) * bnk yb mb q m * refQ mb R l1 l2 l3 l4 * own 1 t.1 (iv ((List.range n).filter (isBad q m R)))) (fun t => (q.1 - t.2).toNat) ?_ fun t => ?_
  · refine ent_ex 0 (ent_pickS (by rfl) ?_)
    repeat (first
      | (with_reducible exact ent_drop)
      | (with_reducible refine ent_pick ?_)
      | (refine ent_pickC (by rfl) ?_)
      | (refine ent_pickS (by rfl) ?_)
      | (refine ent_pickM (by rfl) ?_)
      | (refine ent_prx ?_ ?_; rotate_left)
      | (refine ent_prq ?_))
    all_goals first | exact ⟨rfl, by omega⟩ | trivial
  · refine wps_ex fun n => wps_prP fun ⟨ht, hn⟩ => ?_
    repeat (first
      | (with_reducible refine wps_bindpure ?_)
      | (with_reducible refine wps_assoc ?_)
      | (with_reducible refine wps_nil ?_)
      | (with_reducible refine wps_stepAlloc fun _ => ?_)
      | (with_reducible refine wps_alloc fun _ => ?_)
      | (with_reducible refine wps_newO fun _ => ?_)
      | (refine wps_ld _ (by rfl) ?_)
      | (refine wps_ldG _ _ _ (by rfl) ?_)
      | (refine wps_ldA _ (by rfl) ?_)
      | (refine wps_ldI _ (by rfl) ?_)
      | (refine wps_ldGI _ _ _ (by rfl) ?_)
      | (refine wps_ldAI _ (by rfl) ?_)
      | (refine wps_st (by simp) ?_)
      | (refine wps_stA (by simp) (by simp [Value.oneCell']) ?_)
      | ((with_reducible apply wps_val); apply val_ite; rotate_left; refine fun (_ : ¬ _) => ?_; rotate_right; refine fun (_ : _ = true) => ?_)
      | ((with_reducible apply val_ite); rotate_left; refine fun (_ : ¬ _) => ?_; rotate_right; refine fun (_ : _ = true) => ?_)
      | (with_reducible refine wps_regionH ?_)
      | ((with_reducible apply wps_bindV); apply val_iteL; rotate_left; refine fun (_ : ¬ _) => ?_; rotate_right; refine fun (_ : _ = true) => ?_)
      | ((with_reducible apply val_iteL); rotate_left; refine fun (_ : ¬ _) => ?_; rotate_right; refine fun (_ : _ = true) => ?_)
      | (with_reducible exact wps_pure (ent_val rfl)))
    refine wps_ite (fun hc => ?_) (fun hc => ?_)
    · have hc' : t.2 < q.1 := by simpa using hc
      have hv := rdisk_slot (q := q) (m := m) (slot := t.2) (by omega)
      have hf : (List.range (n + 1)).filter (isBad q m R) = (List.range n).filter (isBad q m R) ++ if isBad q m R n then [n] else [] := by
        rw [List.range_succ, List.filter_append]
        by_cases h : isBad q m R n = true <;> simp [h]
      have hib : isBad q m R n = (R.failedB (rdisk q m t.2) || (m.2.2 == 1 && m.2.1 == t.2)) := by
        unfold isBad; rw [← ht, hv]
      refine wps_bindV (u := isBad q m R n) ?_ ?_
      · refine wps_region (bnk yb mb q m) ent_pick1 ?_
        refine wps_nil ?_
        refine wps_ldI (ptr mb) (by rfl) ?_
        refine wps_stepVH (fun _ => ref06_disk_val yb mb q m t.2) ?_
        refine wps_stepVH (fun _ => ref02_Failed_val mb R l1 l2 l3 l4 (rdisk q m t.2)) ?_
        rw [hib]
        by_cases h1 : R.failedB (rdisk q m t.2) = true
        · rw [if_pos h1]
          exact wps_pure (ent_prr (by simp [h1]) (Ent.refl _))
        · rw [if_neg h1]
          refine wps_nil ?_
          refine wps_ldI m.2.2 (by rfl) ?_
          by_cases h2 : m.2.2 = 1
          · rw [if_pos (by simpa using h2)]
            refine wps_nil ?_
            refine wps_ldI m.2.1 (by rfl) ?_
            exact wps_pure (ent_prr (by simp [h1, h2]) (Ent.refl _))
          · rw [if_neg (by simpa using h2)]
            exact wps_pure (ent_prr (by simp [h1, h2]) (Ent.refl _))
      · refine wps_ite (fun hb => ?_) (fun hb => ?_)
        · refine wps_fact (Ent.trans (ent_pick1 (A := own 1 t.1 (iv ((List.range n).filter (isBad q m R))))) (own_len _ _ _)) fun ⟨hl, _⟩ => ?_
          have hl2 : t.1.len ≤ n := by
            have := List.length_filter_le (isBad q m R) (List.range n)
            simp only [iv, List.length_map, List.length_range] at hl this
            omega
          refine wps_alloc fun c => ?_
          refine wps_app 1 [Value.int .i64 t.2] rfl (by decide) (rsl_pc rfl) (by simp [Value.oneCell']) (by (try dsimp only); omega) fun s' hs' => wps_pure ?_
          refine ent_prr (by rw [range_add1 ht (by omega)]; (try dsimp only); omega) (ent_ex (n + 1) ?_)
          refine ent_pickS (by rw [hf, if_pos hb, ht]; simp [iv]) (ent_pick (ent_pick ?_))
          exact ent_prq ⟨range_add1 ht (by omega), by omega⟩
        · refine wps_pure ?_
          refine ent_prr (by rw [range_add1 ht (by omega)]; (try dsimp only); omega) (ent_ex (n + 1) ?_)
          refine ent_pickS (by rw [hf, if_neg hb]; simp [iv]) (ent_pick (ent_pick ?_))
          exact ent_prq ⟨range_add1 ht (by omega), by omega⟩
    · have hc' : ¬ t.2 < q.1 := by simpa using hc
      have hnq : (List.range n).filter (isBad q m R) = badL q m R := by
        unfold badL; congr 2; omega
      rw [hnq]
      refine wps_mapR (wps_pure ?_)
      exact ent_pick (ent_pick ent_drop)
theorem ref00_SameInts_spec {x y : Slc} {l : List Int} (hl : l.length ≤ 1099511627776) : wps g (own 1 x (zv l) * own 1 y (zv l)) (ref00_SameInts x y) (fun b => pr (b = true)) := by
  unfold ref00_SameInts
  refine wps_fact (Ent.trans (ent_left _ _) (own_len _ _ _)) fun ⟨h1, _⟩ => ?_
  refine wps_fact (Ent.trans (ent_right _ _) (own_len _ _ _)) fun ⟨h2, _⟩ => ?_
  have h1' : l.length = x.len := by simp [zv] at h1; omega
  have h2' : l.length = y.len := by simp [zv] at h2; omega
  refine wps_ite (fun h => absurd h (by simp; omega)) (fun _ => ?_)
  refine wps_loop (fun st => ex fun i : Nat => pr (st = (i : Int) ∧ i ≤ l.length) * own 1 x (zv l) * own 1 y (zv l)) (fun st => (l.length - st).toNat) ?_ fun st => ?_
  · refine ent_ex 0 ?_
    repeat (first
      | (with_reducible exact ent_drop)
      | (with_reducible refine ent_pick ?_)
      | (refine ent_pickC (by rfl) ?_)
      | (refine ent_pickS (by rfl) ?_)
      | (refine ent_pickM (by rfl) ?_)
      | (refine ent_prx ?_ ?_; rotate_left)
      | (refine ent_prq ?_))
    all_goals first | exact ⟨rfl, by omega⟩ | trivial
  · refine wps_ex fun i => wps_prP fun ⟨hi, hn⟩ => ?_
    refine wps_ite (fun hc => ?_) (fun hc => wps_mapR (wps_pure (ent_prq rfl)))
    have hlt : i < l.length := by simp only [decide_eq_true_eq] at hc; omega
    have hget : l[i]? = some l[i] := List.getElem?_eq_getElem hlt
    refine wps_regionH ?_
    refine wps_rdI i l[i] (Ent.trans (ent_pick1 (A := own 1 x (zv l))) (own_rsl _ _ _)) (Ent.refl _) hi (by simp [zv, hget]) ?_
    refine wps_rdI i l[i] (Ent.trans (ent_pick1 (A := own 1 y (zv l))) (own_rsl _ _ _)) (Ent.refl _) hi (by simp [zv, hget]) ?_
    refine wps_ite (fun h => absurd h (by simp)) (fun _ => wps_pure ?_)
    refine ent_prr (by rw [range_add1 hi (by omega)]; omega) (ent_ex (i + 1) ?_)
    repeat (first
      | (with_reducible exact ent_drop)
      | (with_reducible refine ent_pick ?_)
      | (refine ent_pickC (by rfl) ?_)
      | (refine ent_pickS (by rfl) ?_)
      | (refine ent_pickM (by rfl) ?_)
      | (refine ent_prx ?_ ?_; rotate_left)
      | (refine ent_prq ?_))
    all_goals first | exact ⟨range_add1 hi (by omega), by omega⟩ | trivial
theorem ref00_SameRows_spec {x y : Slc} {l : List (List Int)} (hl : l.length ≤ 1099511627776) (hb : ∀ b ∈ l, b.length ≤ 1099511627776) : wps g (rows x l * rows y l) (ref00_SameRows x y) (fun b => pr (b = true)) := by
  unfold ref00_SameRows rows
  refine wps_exP fun sm => wps_exP fun sl => ?_
  simp only [← star_assoc]
  refine wps_prP fun ⟨h1, h2⟩ => wps_prP fun ⟨h3, h4⟩ => ?_
  refine wps_ite (fun h => absurd h (by simp; omega)) (fun _ => ?_)
  refine wps_loop (fun st => ex fun i : Nat => pr (st = (i : Int) ∧ i ≤ l.length) * seqp sl (fun i => l.getD i []) * own 1 x (sl.map vS) * seqp sm (fun i => l.getD i []) * own 1 y (sm.map vS)) (fun st => (l.length - st).toNat) ?_ fun st => ?_
  · refine ent_ex 0 ?_
    repeat (first
      | (with_reducible exact ent_drop)
      | (with_reducible refine ent_pick ?_)
      | (refine ent_pickC (by rfl) ?_)
      | (refine ent_pickS (by rfl) ?_)
      | (refine ent_pickM (by rfl) ?_)
      | (refine ent_prx ?_ ?_; rotate_left)
      | (refine ent_prq ?_))
    all_goals first | exact ⟨rfl, by omega⟩ | trivial
  · refine wps_ex fun i => wps_prP fun ⟨hi, hn⟩ => ?_
    refine wps_ite (fun hc => ?_) (fun hc => wps_mapR (wps_pure (ent_prq rfl)))
    have hlt : i < l.length := by simp only [decide_eq_true_eq] at hc; omega
    have hgl : sl[i]? = some sl[i] := List.getElem?_eq_getElem (by omega)
    have hgm : sm[i]? = some sm[i] := List.getElem?_eq_getElem (by omega)
    have hgb : l.getD i [] = l[i] := by simp [List.getD_eq_getElem?_getD, List.getElem?_eq_getElem hlt]
    have hbl := hb l[i] (List.getElem_mem hlt)
    refine wps_regionH ?_
    refine wps_rdI i sl[i] (Ent.trans (ent_pick1 (A := own 1 x (sl.map vS))) (own_rsl _ _ _)) (Ent.refl _) hi (by simp [hgl]) ?_
    refine wps_rdI i sm[i] (Ent.trans (ent_pick1 (A := own 1 y (sm.map vS))) (own_rsl _ _ _)) (Ent.refl _) hi (by simp [hgm]) ?_
    refine wps_val (ref00_SameBytes_val (x := l[i]) (y := l[i]) (Ent.trans (ent_pick1 (A := seqp sl fun i => l.getD i [])) (fun o ho => by have : (byt sl[i] (l.getD i [])).p o := ho i _ hgl; rw [hgb] at this; exact this)) (Ent.trans (ent_pick1 (A := seqp sm fun i => l.getD i [])) (fun o ho => by have : (byt sm[i] (l.getD i [])).p o := ho i _ hgm; rw [hgb] at this; exact this)) (by omega)) ?_
    refine wps_ite (fun h => absurd h (by simp)) (fun _ => wps_pure ?_)
    refine ent_prr (by rw [range_add1 hi (by omega)]; omega) (ent_ex (i + 1) ?_)
    repeat (first
      | (with_reducible exact ent_drop)
      | (with_reducible refine ent_pick ?_)
      | (refine ent_pickC (by rfl) ?_)
      | (refine ent_pickS (by rfl) ?_)
      | (refine ent_pickM (by rfl) ?_)
      | (refine ent_prx ?_ ?_; rotate_left)
      | (refine ent_prq ?_))
    all_goals first | exact ⟨range_add1 hi (by omega), by omega⟩ | trivial
end Go.Proofs.Ytldmeimebebllaa
namespace Go.Proofs.Ytldmeimebebllaa
open Go.Mo
set_option linter.unusedVariables false
variable {g : Fr} {cv : CV}
structure CallA where
  what : Int
  disk : Int
  n : Int
  ds : Slc
  data : List Int
  ks : Slc
  keeps : List Int
def CallA.cells (c : CallA) : List Value := [.int .i64 c.what, .int .i64 c.disk, .int .i64 c.n, .slice c.ds.base c.ds.len c.ds.cap, .slice c.ks.base c.ks.len c.ks.cap]
def CallA.t (c : CallA) : Int × Int × Int × Slc × Slc := (c.what, c.disk, c.n, c.ds, c.ks)
structure CallA.ok (c : CallA) : Prop where
  n : c.n < 9223372036854775808
  data : c.data.length ≤ 140737488355328
  keeps : c.keeps.length ≤ 140737488355328
instance (mb : Nat) (R : Rk) (l1 l2 l3 l4 : Slc) : RdC mb (refQ mb R l1 l2 l3 l4) [.int .i64 R.n, .int .i64 R.ns, vS l1, vS l2, vS l3, vS l4, .int .i64 R.count, .bool R.off] :=
  ⟨ex_ent fun sl => ex_ent fun cl => ex_ent fun cs => Ent.trans (ent_right _ _) (pc_ro _ _)⟩
end Go.Proofs.Ytldmeimebebllaa
namespace Go.Proofs.Ytldmeimebebllaa
open Go.Mo
set_option linter.unusedVariables false
variable {g : Fr} {cv : CV}
structure Rk.good (R : Rk) : Prop where
  ok : ∀ j, j < R.n → (R.dk j).ok R.ns
theorem dskAt_ok {ns p : Nat} {D : Dk} : Ent (dskAt ns p D) (pr (D.ok ns)) := ex_ent fun ls => ex_ent fun mb => ex_ent fun sl => ex_ent fun sc => fun o ho => by
  have := ent_left _ _ o (ent_left _ _ o (ent_left _ _ o (ent_left _ _ o ho)))
  exact this.2.2
theorem rackP_good {rb : Nat} {R : Rk} {ds : Slc} {ps : List Nat} : Ent (rackP rb R ds ps) (pr R.good) := fun o ho => ⟨fun j hj => by
  rw [rackP_focus rb R ds ps hj] at ho
  exact dskAt_ok o (ent_right _ _ o ho)⟩
theorem Rk.good.rd {R : Rk} (h : R.good) (k s : Int) : (R.rd k s).length ≤ 64 := by
  rw [Rk.rd]
  split
  · rename_i he
    have hx : ¬ R.off = true ∧ ¬ (k < 0 ∨ k ≥ R.n ∨ s < 0 ∨ s ≥ R.ns) := by
      unfold Rk.rdErr at he
      by_cases ho : R.off = true
      · rw [if_pos ho] at he; cases he
      · rw [if_neg ho] at he
        refine ⟨ho, fun hr => ?_⟩
        rw [if_pos hr] at he; cases he
    have hok := h.ok k.toNat (by omega)
    unfold Dk.sec
    cases hc : (R.dk k.toNat).cached s with
    | some b => have := (hok.2 s b hc).1; simp only; omega
    | none => have := hok.1 s.toNat (by omega); simp only; omega
  · simp
theorem Rk.good.lst {R : Rk} (h : R.good) (k s : Int) : (R.lst k s).length ≤ 64 := by
  rw [Rk.lst]
  split
  · rename_i he
    have hx : ¬ (k < 0 ∨ k ≥ R.n ∨ s < 0 ∨ s ≥ R.ns) := by
      intro hr
      rw [Rk.lErr, if_pos hr] at he; cases he
    have := (h.ok k.toNat (by omega)).1 s.toNat (by omega)
    omega
  · simp
end Go.Proofs.Ytldmeimebebllaa
