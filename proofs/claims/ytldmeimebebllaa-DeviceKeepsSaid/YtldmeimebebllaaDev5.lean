/-
  a part of the proof: what functions of the program do, in a separation logic.
-/
import Derived.Test.YtldmeimebebllaaDev4
namespace Go.Proofs.Ytldmeimebebllaa
open Go.Mo
set_option linter.unusedVariables false
variable {g : Fr} {cv : CV}
/-! Restore: what is cached is numbered by the disks, then by the sectors -/
def isC (R : Rk) (i : Nat) : Bool := ((R.dk (i / R.ns)).cached ((i % R.ns : Nat) : Int)).isSome
def rank (R : Rk) (i : Nat) : Nat := ((List.range i).filter (isC R)).length
def keepB (ks : List Int) (n : Nat) : Bool := if ks.length = 0 then false else bAnd .i64 (ks.getD (n % ks.length) 0) 1 == 1
def Dk.restored (R : Rk) (ks : List Int) (j : Nat) : Dk := ((R.dk j).flushed fun k => keepB ks (rank R (j * R.ns + k.toNat)) && !(R.dk j).failed).clean
def Rk.restTo (R : Rk) (ks : List Int) (n : Nat) : Rk := { R with off := false, count := -1, dk := fun j => if j < n then Dk.restored R ks j else R.dk j }
def Rk.restore (R : Rk) (ks : List Int) : Rk := { R with off := false, count := -1, dk := fun j => Dk.restored R ks j }
def Dk.keysN (D : Dk) (m : Nat) : List Nat := (List.range m).filter fun k : Nat => (D.cached (k : Int)).isSome
theorem filter_rank {p : Nat → Bool} : ∀ {n t k : Nat}, ((List.range n).filter p)[t]? = some k → ((List.range k).filter p).length = t ∧ k < n ∧ p k = true
  | 0, t, k, h => by simp at h
  | n + 1, t, k, h => by
    rw [List.range_succ, List.filter_append] at h
    by_cases ht : t < ((List.range n).filter p).length
    · rw [List.getElem?_append_left ht] at h
      have := filter_rank h
      exact ⟨this.1, by omega, this.2.2⟩
    · rw [List.getElem?_append_right (by omega)] at h
      by_cases hp : p n = true
      · rw [List.filter_cons, if_pos hp] at h
        have h0 : t - ((List.range n).filter p).length = 0 := by
          have := (List.getElem?_eq_some_iff.1 h).1
          simp at this; omega
        rw [h0] at h
        simp at h
        subst h
        exact ⟨by omega, by omega, hp⟩
      · rw [List.filter_cons, if_neg hp] at h
        simp at h
theorem range_split (a k : Nat) : List.range (a + k) = List.range a ++ (List.range k).map (a + ·) := List.range_add
theorem rank_add (R : Rk) (j k : Nat) (hk : k ≤ R.ns) : rank R (j * R.ns + k) = rank R (j * R.ns) + ((R.dk j).keysN k).length := by
  unfold rank Dk.keysN
  rw [range_split, List.filter_append, List.length_append, List.filter_map, List.length_map]
  congr 2
  apply List.filter_congr
  intro i hi
  simp only [List.mem_range] at hi
  show isC R (j * R.ns + i) = _
  unfold isC
  have h0 : 0 < R.ns := by omega
  have h1 : (j * R.ns + i) / R.ns = j := by
    rw [Nat.mul_comm, Nat.mul_add_div h0, Nat.div_eq_of_lt (by omega)]; omega
  have h2 : (j * R.ns + i) % R.ns = i := by
    rw [Nat.mul_comm, Nat.mul_add_mod, Nat.mod_eq_of_lt (by omega)]
  rw [h1, h2]
theorem keysN_get {D : Dk} {m t k : Nat} (h : (D.keysN m)[t]? = some k) : (D.keysN k).length = t ∧ k < m ∧ (D.cached (k : Int)).isSome = true := filter_rank h
theorem rank_succ (R : Rk) (j : Nat) : rank R ((j + 1) * R.ns) = rank R (j * R.ns) + ((R.dk j).keysN R.ns).length := by
  rw [Nat.add_mul, Nat.one_mul]; exact rank_add R j R.ns (Nat.le_refl _)
theorem keysN_le (D : Dk) (m : Nat) : (D.keysN m).length ≤ m := by
  have := List.length_filter_le (fun k : Nat => (D.cached (k : Int)).isSome) (List.range m)
  rw [List.length_range] at this
  exact this
theorem rank_le (R : Rk) (i : Nat) : rank R i ≤ i := by
  have := List.length_filter_le (isC R) (List.range i)
  rw [List.length_range] at this
  exact this
/-- the keys of what is cached, ascending -/
def Dk.keysI (D : Dk) (m : Nat) : List Int := (D.keysN m).map fun k : Nat => (k : Int)
theorem keysI_asc (D : Dk) (m : Nat) : (D.keysI m).Pairwise (· < ·) := by
  unfold Dk.keysI Dk.keysN
  rw [List.pairwise_map]
  refine List.Pairwise.filter _ ?_
  exact (List.pairwise_lt_range (n := m)).imp fun h => by omega
theorem keysI_mem {D : Dk} {ns : Nat} (h : D.ok ns) (sc : Int → Slc) (y : Int) : y ∈ D.keysI ns ↔ ((fun j => (D.cached j).map fun _ => vS (sc j)) y).isSome = true := by
  unfold Dk.keysI Dk.keysN
  simp only [List.mem_map, List.mem_filter, List.mem_range, Option.isSome_map]
  constructor
  · rintro ⟨k, ⟨_, hk⟩, rfl⟩; exact hk
  · intro hy
    obtain ⟨b, hb⟩ := Option.isSome_iff_exists.1 hy
    have := h.2 y b hb
    refine ⟨y.toNat, ⟨by omega, ?_⟩, by omega⟩
    rw [show ((y.toNat : Nat) : Int) = y by omega]; exact hy
theorem nodup_le {α : Type} [BEq α] [LawfulBEq α] : ∀ {s l : List α}, s.Nodup → (∀ y ∈ s, y ∈ l) → s.length ≤ l.length
  | [], l, _, _ => by simp
  | a :: s, l, hn, hs => by
    rw [List.nodup_cons] at hn
    have ha : a ∈ l := hs a (by simp)
    have ih := nodup_le (l := l.erase a) hn.2 fun y hy => (List.mem_erase_of_ne (fun (e : y = a) => hn.1 (e ▸ hy))).2 (hs y (by simp [hy]))
    have hl := List.length_erase_of_mem ha
    have hp := List.length_pos_of_mem ha
    simp only [List.length_cons]; omega
theorem few_keys {D : Dk} {ns : Nat} (h : D.ok ns) (sc : Int → Slc) (s : List Int) (hn : s.Nodup) (hs : ∀ y ∈ s, ((fun j => (D.cached j).map fun _ => vS (sc j)) y).isSome = true) : s.length ≤ ns := by
  have h1 := nodup_le hn fun y hy => (keysI_mem h sc y).2 (hs y hy)
  have h2 := keysN_le D ns
  simp only [Dk.keysI, List.length_map] at h1
  omega
theorem wps_imapP {α : Type} {m : Nat} {f : Int → Option Value} {H H' : HP} {k : M α} {Q : α → HP} [hp : PickM m H f H'] (h : ∀ es clock, MapOk es.toList clock f → wps g (H' * po m (.map es clock)) k Q) : wps g H k Q := by
  rw [hp.eq]
  unfold imap
  refine wps_exr fun es => wps_exr fun clock => ?_
  rw [star_left_comm]
  exact wps_pr fun hm => h es clock hm
theorem imap_mk {m clock : Nat} {es : Array MapEntry} {f : Int → Option Value} (hm : MapOk es.toList clock f) : Ent (po m (.map es clock)) (imap m f) := ent_ex es (ent_ex clock (ent_prr hm (Ent.refl _)))
theorem flushed_eq {D : Dk} {p q : Int → Bool} {i : Nat} (h : ∀ b, D.cached (i : Int) = some b → p i = q i) : (D.flushed p).lasts i = (D.flushed q).lasts i := by
  simp only [Dk.flushed]
  cases hc : D.cached (i : Int) with
  | none => rfl
  | some b => simp only [h b hc]
theorem device_Rack_Restore_spec (hcv : KeysOk cv) {H : HP} (rb : Nat) (R : Rk) (ds : Slc) (ps : List Nat) (x : Slc) (ks : List Int) (hx : Ent H (intsP x ks)) :
    wps g (H * rackP rb R ds ps) (device_Rack_Restore cv (ptr rb) x) (fun _ => H * rackP rb (R.restore ks) ds ps) := by
  unfold device_Rack_Restore
  have hp : Ent (rackP rb R ds ps) (pr (ps.length = R.n ∧ ds.len = R.n ∧ R.n ≤ 17 ∧ R.ns ≤ 4096)) := Ent.trans (ent_left _ _) (Ent.trans (ent_left _ _) (ent_left _ _))
  refine wps_fact (Ent.trans (ent_right _ _) hp) fun ⟨h1, h2, h17, hns⟩ => ?_
  refine wps_fact (Ent.trans (ent_left _ _) (ilen_of hx)) fun hl => ?_
  unfold rackP
  simp only [← star_assoc]
  repeat (first
    | (with_reducible refine wps_bindpure ?_)
    | (with_reducible refine wps_assoc ?_)
    | (with_reducible refine wps_nil ?_)
    | (with_reducible refine wps_stepAlloc fun _ => ?_)
    | (with_reducible refine wps_alloc fun _ => ?_)
    | (with_reducible refine wps_newO fun _ => ?_)
    | (refine wps_ld _ (by rfl) ?_)
    | (refine wps_ldG _ _ _ (by rfl) ?_)
    | (refine wps_ldA _ (by rfl) ?_)
    | (refine wps_ldI _ (by rfl) ?_)
    | (refine wps_ldGI _ _ _ (by rfl) ?_)
    | (refine wps_ldAI _ (by rfl) ?_)
    | (refine wps_st (by simp) ?_)
    | (refine wps_stA (by simp) (by simp [Value.oneCell']) ?_)
    | ((with_reducible apply wps_val); apply val_ite; rotate_left; refine fun (_ : ¬ _) => ?_; rotate_right; refine fun (_ : _ = true) => ?_)
    | ((with_reducible apply val_ite); rotate_left; refine fun (_ : ¬ _) => ?_; rotate_right; refine fun (_ : _ = true) => ?_)
    | (with_reducible refine wps_regionH ?_)
    | ((with_reducible apply wps_bindV); apply val_iteL; rotate_left; refine fun (_ : ¬ _) => ?_; rotate_right; refine fun (_ : _ = true) => ?_)
    | ((with_reducible apply val_iteL); rotate_left; refine fun (_ : ¬ _) => ?_; rotate_right; refine fun (_ : _ = true) => ?_)
    | (with_reducible exact wps_pure (ent_val rfl)))
  refine wps_loop (fun s => ex fun n : Nat => pr (s.2 = (n : Int) ∧ n ≤ R.n ∧ s.1 = ((rank R (n * R.ns) : Nat) : Int)) * H * rackP rb (R.restTo ks n) ds ps) (fun s => (R.n - s.2).toNat) ?_ fun s => ?_
  · refine ent_ex 0 ?_
    have h0 : rank R (0 * R.ns) = 0 := by simp [rank]
    rw [h0]
    unfold rackP
    simp only [← star_assoc, Rk.restTo]
    have hb : bst R.n (rackF R.ns (fun j => if j < 0 then Dk.restored R ks j else R.dk j) ps) = bst R.n (rackF R.ns R.dk ps) := bst_congr fun i _ => by simp [rackF]
    rw [hb]
    repeat (first
      | (with_reducible exact ent_drop)
      | (with_reducible refine ent_pick ?_)
      | (refine ent_pickC (by rfl) ?_)
      | (refine ent_pickS (by rfl) ?_)
      | (refine ent_pickM (by rfl) ?_)
      | (refine ent_prx ?_ ?_; rotate_left)
      | (refine ent_prq ?_))
    all_goals first | exact ⟨rfl, by omega, rfl⟩ | exact ⟨h1, h2, h17, hns⟩ | trivial
  · refine wps_ex fun n => ?_
    simp only [star_assoc]
    refine wps_pr fun ⟨hi, hn, hs1⟩ => ?_
    refine wps_ite (fun hc => ?_) (fun hc => ?_)
    · have hlt : n < R.n := by simp only [decide_eq_true_eq] at hc; omega
      have hrn : (R.restTo ks n).n = R.n := rfl
      have hdn : (R.restTo ks n).dk n = R.dk n := by simp [Rk.restTo]
      have hrl : rank R (n * R.ns) ≤ 69632 := Nat.le_trans (rank_le R _) (show n * R.ns ≤ 17 * 4096 from Nat.mul_le_mul (by omega) hns)
      rw [rackP_focus rb (R.restTo ks n) ds ps (j := n) hlt, hdn]
      simp only [← star_assoc]
      refine wps_rdS n (ptr (ps.getD n 0)) hi (pv_get (by omega)) ?_
      have hnext : R.restTo ks (n + 1) = (R.restTo ks n).setD n (Dk.restored R ks n) := by
        simp only [Rk.restTo, Rk.setD, Rk.mk.injEq, true_and, and_true]
        funext j
        by_cases hj : j = n
        · subst hj; simp
        · have : j < n + 1 ↔ j < n := by omega
          simp [hj, this]
      refine wps_tail (F := pr (ps.length = (R.restTo ks n).n ∧ ds.len = (R.restTo ks n).n ∧ (R.restTo ks n).n ≤ 17 ∧ (R.restTo ks n).ns ≤ 4096) * bst (R.restTo ks n).n (hole n (rackF (R.restTo ks n).ns (R.restTo ks n).dk ps)) * own 1 ds (ps.map pv) * pc rb [vS ds, .int .i64 (R.restTo ks n).ns, .int .i64 (R.restTo ks n).count, .bool (R.restTo ks n).off])
        (A := H * dskAt R.ns (ps.getD n 0) (R.dk n)) (Q' := fun r => pr (r = .inl (((rank R ((n + 1) * R.ns) : Nat) : Int), w64 (s.2 + 1))) * H * dskAt R.ns (ps.getD n 0) (Dk.restored R ks n)) (fun g => ?_) (Ent.of_eq (by simp only [star_assoc]; ac_rfl)) (fun r => ?_)
      rotate_left
      · refine Ent.trans (B := pr (r = .inl (((rank R ((n + 1) * R.ns) : Nat) : Int), w64 (s.2 + 1))) * (H * rackP rb (R.restTo ks (n + 1)) ds ps)) (Ent.of_eq ?_) (pr_ent fun hr => ?_)
        · rw [hnext, ← rackP_set (R := R.restTo ks n) _ hlt]
          simp only [star_assoc]
          ac_rfl
        · subst hr
          refine ent_prr (by (try dsimp only); rw [range_add1 hi (by omega)]; omega) (ent_ex (n + 1) ?_)
          rw [star_assoc]
          exact ent_prr ⟨range_add1 hi (by omega), by omega, rfl⟩ (Ent.refl _)
      generalize ps.getD n 0 = p
      unfold dskAt dskX
      simp only [← star_assoc]
      refine wps_exP fun ls => wps_exP fun mb => wps_exP fun sl => wps_exP fun sc => ?_
      simp only [← star_assoc]
      refine wps_prP fun hd => ?_
      have hD : (R.dk n).ok R.ns := hd.2.2
      repeat (first
        | (with_reducible refine wps_bindpure ?_)
        | (with_reducible refine wps_assoc ?_)
        | (with_reducible refine wps_nil ?_)
        | (with_reducible refine wps_stepAlloc fun _ => ?_)
        | (with_reducible refine wps_alloc fun _ => ?_)
        | (with_reducible refine wps_newO fun _ => ?_)
        | (refine wps_ld _ (by rfl) ?_)
        | (refine wps_ldG _ _ _ (by rfl) ?_)
        | (refine wps_ldA _ (by rfl) ?_)
        | (refine wps_ldI _ (by rfl) ?_)
        | (refine wps_ldGI _ _ _ (by rfl) ?_)
        | (refine wps_ldAI _ (by rfl) ?_)
        | (refine wps_st (by simp) ?_)
        | (refine wps_stA (by simp) (by simp [Value.oneCell']) ?_)
        | ((with_reducible apply wps_val); apply val_ite; rotate_left; refine fun (_ : ¬ _) => ?_; rotate_right; refine fun (_ : _ = true) => ?_)
        | ((with_reducible apply val_ite); rotate_left; refine fun (_ : ¬ _) => ?_; rotate_right; refine fun (_ : _ = true) => ?_)
        | (with_reducible refine wps_regionH ?_)
        | ((with_reducible apply wps_bindV); apply val_iteL; rotate_left; refine fun (_ : ¬ _) => ?_; rotate_right; refine fun (_ : _ = true) => ?_)
        | ((with_reducible apply val_iteL); rotate_left; refine fun (_ : ¬ _) => ?_; rotate_right; refine fun (_ : _ = true) => ?_)
        | (with_reducible exact wps_pure (ent_val rfl)))
      unfold maps_Keys_m
      repeat (first
        | (with_reducible refine wps_bindpure ?_)
        | (with_reducible refine wps_assoc ?_)
        | (with_reducible refine wps_nil ?_)
        | (with_reducible refine wps_stepAlloc fun _ => ?_)
        | (with_reducible refine wps_alloc fun _ => ?_)
        | (with_reducible refine wps_newO fun _ => ?_)
        | (refine wps_ld _ (by rfl) ?_)
        | (refine wps_ldG _ _ _ (by rfl) ?_)
        | (refine wps_ldA _ (by rfl) ?_)
        | (refine wps_ldI _ (by rfl) ?_)
        | (refine wps_ldGI _ _ _ (by rfl) ?_)
        | (refine wps_ldAI _ (by rfl) ?_)
        | (refine wps_st (by simp) ?_)
        | (refine wps_stA (by simp) (by simp [Value.oneCell']) ?_)
        | ((with_reducible apply wps_val); apply val_ite; rotate_left; refine fun (_ : ¬ _) => ?_; rotate_right; refine fun (_ : _ = true) => ?_)
        | ((with_reducible apply val_ite); rotate_left; refine fun (_ : ¬ _) => ?_; rotate_right; refine fun (_ : _ = true) => ?_)
        | (with_reducible refine wps_regionH ?_)
        | ((with_reducible apply wps_bindV); apply val_iteL; rotate_left; refine fun (_ : ¬ _) => ?_; rotate_right; refine fun (_ : _ = true) => ?_)
        | ((with_reducible apply val_iteL); rotate_left; refine fun (_ : ¬ _) => ?_; rotate_right; refine fun (_ : _ = true) => ?_)
        | (with_reducible exact wps_pure (ent_val rfl)))
      rename_i c
      refine wps_imapP (m := mb) fun es clock hm => ?_
      refine wps_call (fun _ => slices_Sorted_spec (N := R.ns) hcv (c := c) (mb := mb) hm (fun j v hj => ?_) (few_keys hD sc) (by omega) (keysI_asc _ _) (keysI_mem hD sc)) (F := H * seqp sl (R.dk n).lasts * cachep sc (R.dk n).cached * own 1 ls (sl.map vS) * pc p [vS ls, .map (some mb), .bool (R.dk n).failed, .int .i64 (R.dk n).count]) (Ent.of_eq (by ac_rfl)) fun kt => ?_
      · obtain ⟨b, _, hb⟩ := Option.map_eq_some_iff.1 hj
        exact ⟨_, hb.symm⟩
      simp only [← star_assoc]
      refine wps_swap (imap_mk (m := mb) hm) ?_
      refine wps_fact (Ent.trans (ent_pick1 (A := own 1 kt (((R.dk n).keysI R.ns).map (Value.int .i64)))) (own_len _ _ _)) fun ⟨hkl, _⟩ => ?_
      have hkl' : kt.len = ((R.dk n).keysN R.ns).length := by simpa [Dk.keysI] using hkl.symm
      generalize hpp : (fun k : Int => keepB ks (rank R (n * R.ns + k.toNat)) && !(R.dk n).failed) = pp
      have hkn := keysN_le (R.dk n) R.ns
      refine wps_loop (fun s2 => ex fun t : Nat => ex fun sl' : List Slc => pr (s2.2 = (t : Int) ∧ t ≤ ((R.dk n).keysN R.ns).length ∧ s2.1 = ((rank R (n * R.ns) + t : Nat) : Int) ∧ sl'.length = R.ns) * H
        * seqp sl' ((R.dk n).flushed fun q => pp q && (((R.dk n).keysI R.ns).take t).contains q).lasts * cachep sc (R.dk n).cached * imap mb (fun j => Option.map (fun _ => vS (sc j)) ((R.dk n).cached j)) * own 1 ls (sl'.map vS)
        * own 1 kt (((R.dk n).keysI R.ns).map (Value.int .i64)) * pc p [vS ls, .map (some mb), .bool (R.dk n).failed, .int .i64 (R.dk n).count]) (fun s2 => (((R.dk n).keysN R.ns).length - s2.2).toNat) ?_ fun s2 => ?_
      · refine ent_ex 0 (ent_ex sl ?_)
        refine ent_swap (A := seqp sl (R.dk n).lasts) (seqp_ext (f' := ((R.dk n).flushed fun k => pp k && (((R.dk n).keysI R.ns).take 0).contains k).lasts) fun i _ => ?_) ?_
        · simp only [Dk.flushed]
          cases (R.dk n).cached i <;> simp
        · repeat (first
            | (with_reducible exact ent_drop)
            | (with_reducible refine ent_pick ?_)
            | (refine ent_pickC (by rfl) ?_)
            | (refine ent_pickS (by rfl) ?_)
            | (refine ent_pickM (by rfl) ?_)
            | (refine ent_prx ?_ ?_; rotate_left)
            | (refine ent_prq ?_))
          all_goals first | exact ⟨rfl, by omega, hs1, hd.1⟩ | trivial
      · refine wps_ex fun t => wps_ex fun sl' => ?_
        refine wps_prP fun ⟨hi2, ht, hs2, hsl'⟩ => ?_
        refine wps_ite (fun hc2 => ?_) (fun hc2 => ?_)
        · have htl : t < ((R.dk n).keysN R.ns).length := by simp only [decide_eq_true_eq] at hc2; omega
          obtain ⟨k, hkg⟩ : ∃ k, ((R.dk n).keysN R.ns)[t]? = some k := ⟨_, List.getElem?_eq_getElem htl⟩
          obtain ⟨hkt, hkns, hkc⟩ := keysN_get hkg
          obtain ⟨b, hb⟩ := Option.isSome_iff_exists.1 hkc
          have hrk : rank R (n * R.ns + k) = rank R (n * R.ns) + t := by rw [rank_add R n k (by omega), hkt]
          have hkI : ((R.dk n).keysI R.ns)[t]? = some (k : Int) := by simp [Dk.keysI, hkg]
          refine wps_rdS t (k : Int) hi2 (by rw [List.getElem?_map, hkI]; rfl) ?_
          generalize hN : rank R (n * R.ns) + t = N at *
          have hppk : pp (k : Int) = (keepB ks N && !(R.dk n).failed) := by
            rw [← hpp]
            show (keepB ks (rank R (n * R.ns + ((k : Int)).toNat)) && !(R.dk n).failed) = _
            rw [show ((k : Int)).toNat = k by omega, hrk]
          refine wps_val (v := keepB ks N) ?_ ?_
          · refine wps_ite (fun hx0 => ?_) (fun hx0 => ?_)
            · have hx0' : 0 < x.len := by simp only [decide_eq_true_eq] at hx0; omega
              refine wps_assert (by omega) ?_
              have hlt2 : N % ks.length < ks.length := Nat.mod_lt _ (by omega)
              have hmod : Int.tmod s2.1 (x.len : Int) = ((N % ks.length : Nat) : Int) := by
                rw [hs2, ← hl]; rfl
              refine wps_rd (N % ks.length) (ks.getD (N % ks.length) 0) (Ent.trans (ent_drop (B := H)) hx) hmod ?_ ?_
              · simp [zv, List.getD_eq_getElem?_getD, List.getElem?_eq_getElem hlt2]
              · refine wps_pure (ent_val ?_)
                rw [keepB, if_neg (by omega)]
            · have hx0' : x.len = 0 := by simp only [decide_eq_true_eq] at hx0; omega
              refine wps_pure (ent_val ?_)
              rw [keepB, if_pos (by omega)]
          refine wps_val (v := pp (k : Int)) ?_ ?_
          · rw [hppk]
            apply val_eq
            · repeat (first
                | (with_reducible refine wps_bindpure ?_)
                | (with_reducible refine wps_assoc ?_)
                | (with_reducible refine wps_nil ?_)
                | (with_reducible refine wps_stepAlloc fun _ => ?_)
                | (with_reducible refine wps_alloc fun _ => ?_)
                | (with_reducible refine wps_newO fun _ => ?_)
                | (refine wps_ld _ (by rfl) ?_)
                | (refine wps_ldG _ _ _ (by rfl) ?_)
                | (refine wps_ldA _ (by rfl) ?_)
                | (refine wps_ldI _ (by rfl) ?_)
                | (refine wps_ldGI _ _ _ (by rfl) ?_)
                | (refine wps_ldAI _ (by rfl) ?_)
                | (refine wps_st (by simp) ?_)
                | (refine wps_stA (by simp) (by simp [Value.oneCell']) ?_)
                | ((with_reducible apply wps_val); apply val_ite; rotate_left; refine fun (_ : ¬ _) => ?_; rotate_right; refine fun (_ : _ = true) => ?_)
                | ((with_reducible apply val_ite); rotate_left; refine fun (_ : ¬ _) => ?_; rotate_right; refine fun (_ : _ = true) => ?_)
                | (with_reducible refine wps_regionH ?_)
                | ((with_reducible apply wps_bindV); apply val_iteL; rotate_left; refine fun (_ : ¬ _) => ?_; rotate_right; refine fun (_ : _ = true) => ?_)
                | ((with_reducible apply val_iteL); rotate_left; refine fun (_ : ¬ _) => ?_; rotate_right; refine fun (_ : _ = true) => ?_)
                | (with_reducible exact wps_pure (ent_val rfl)))
            · cases keepB ks N <;> simp
          have hnxt : ∀ i : Nat, ((R.dk n).flushed fun q => pp q && (((R.dk n).keysI R.ns).take (t + 1)).contains q).lasts i = if i = k ∧ pp (k : Int) = true then b else ((R.dk n).flushed fun q => pp q && (((R.dk n).keysI R.ns).take t).contains q).lasts i := by
            intro i
            rw [List.take_add_one, hkI]
            by_cases hik : i = k
            · subst hik
              simp only [Dk.flushed, hb, Option.toList, List.contains_append]
              by_cases hpk : pp (i : Int) = true
              · simp [hpk]
              · simp [hpk]
            · rw [if_neg (fun e => hik e.1)]
              refine flushed_eq fun b' _ => ?_
              have : ¬ (i : Int) = (k : Int) := by omega
              simp [Option.toList, this]
          refine wps_ite (fun hpk => ?_) (fun hpk => ?_)
          · refine wps_regionH ?_
            repeat (first
              | (with_reducible refine wps_bindpure ?_)
              | (with_reducible refine wps_assoc ?_)
              | (with_reducible refine wps_nil ?_)
              | (with_reducible refine wps_stepAlloc fun _ => ?_)
              | (with_reducible refine wps_alloc fun _ => ?_)
              | (with_reducible refine wps_newO fun _ => ?_)
              | (refine wps_ld _ (by rfl) ?_)
              | (refine wps_ldG _ _ _ (by rfl) ?_)
              | (refine wps_ldA _ (by rfl) ?_)
              | (refine wps_ldI _ (by rfl) ?_)
              | (refine wps_ldGI _ _ _ (by rfl) ?_)
              | (refine wps_ldAI _ (by rfl) ?_)
              | (refine wps_st (by simp) ?_)
              | (refine wps_stA (by simp) (by simp [Value.oneCell']) ?_)
              | ((with_reducible apply wps_val); apply val_ite; rotate_left; refine fun (_ : ¬ _) => ?_; rotate_right; refine fun (_ : _ = true) => ?_)
              | ((with_reducible apply val_ite); rotate_left; refine fun (_ : ¬ _) => ?_; rotate_right; refine fun (_ : _ = true) => ?_)
              | (with_reducible refine wps_regionH ?_)
              | ((with_reducible apply wps_bindV); apply val_iteL; rotate_left; refine fun (_ : ¬ _) => ?_; rotate_right; refine fun (_ : _ = true) => ?_)
              | ((with_reducible apply val_iteL); rotate_left; refine fun (_ : ¬ _) => ?_; rotate_right; refine fun (_ : _ = true) => ?_)
              | (with_reducible exact wps_pure (ent_val rfl)))
            refine wps_stepV (val_lookS (some (sc (k : Int))) (by rw [hb]; rfl)) ?_
            repeat (first
              | (with_reducible refine wps_bindpure ?_)
              | (with_reducible refine wps_assoc ?_)
              | (with_reducible refine wps_nil ?_)
              | (with_reducible refine wps_stepAlloc fun _ => ?_)
              | (with_reducible refine wps_alloc fun _ => ?_)
              | (with_reducible refine wps_newO fun _ => ?_)
              | (refine wps_ld _ (by rfl) ?_)
              | (refine wps_ldG _ _ _ (by rfl) ?_)
              | (refine wps_ldA _ (by rfl) ?_)
              | (refine wps_ldI _ (by rfl) ?_)
              | (refine wps_ldGI _ _ _ (by rfl) ?_)
              | (refine wps_ldAI _ (by rfl) ?_)
              | (refine wps_st (by simp) ?_)
              | (refine wps_stA (by simp) (by simp [Value.oneCell']) ?_)
              | ((with_reducible apply wps_val); apply val_ite; rotate_left; refine fun (_ : ¬ _) => ?_; rotate_right; refine fun (_ : _ = true) => ?_)
              | ((with_reducible apply val_ite); rotate_left; refine fun (_ : ¬ _) => ?_; rotate_right; refine fun (_ : _ = true) => ?_)
              | (with_reducible refine wps_regionH ?_)
              | ((with_reducible apply wps_bindV); apply val_iteL; rotate_left; refine fun (_ : ¬ _) => ?_; rotate_right; refine fun (_ : _ = true) => ?_)
              | ((with_reducible apply val_iteL); rotate_left; refine fun (_ : ¬ _) => ?_; rotate_right; refine fun (_ : _ = true) => ?_)
              | (with_reducible exact wps_pure (ent_val rfl)))
            refine wps_wrS k rfl (by omega) ?_
            refine wps_pure (ent_prr (by (try dsimp only); rw [range_add1 hi2 (by omega)]; omega) (ent_ex (t + 1) (ent_ex (sl'.set k (sc (k : Int))) ?_)))
            refine ent_pick (ent_pick (ent_pickS (by rw [List.map_set]; rfl) (ent_pick ?_)))
            rw [star_right_comm]
            refine Ent.trans (B := H * (seqp sl' ((R.dk n).flushed fun q => pp q && (((R.dk n).keysI R.ns).take t).contains q).lasts * cachep sc (R.dk n).cached)) (Ent.of_eq (by simp only [← star_assoc, emp_star]; try ac_rfl)) ?_
            refine Ent.trans (Ent.starr (ent_and (B := seqp (sl'.set k (sc (k : Int))) ((R.dk n).flushed fun q => pp q && (((R.dk n).keysI R.ns).take (t + 1)).contains q).lasts) (C := cachep sc (R.dk n).cached) ?_ (ent_right _ _))) ?_
            · refine Ent.trans (seqp_set (k := k) (b := b) (ent_left _ _) (Ent.trans (ent_right _ _) (cachep_get hb))) (seqp_ext fun i _ => ?_)
              rw [hnxt i]
              by_cases hik : i = k <;> simp [hik, hpk]
            · simp only [← star_assoc]
              repeat (first
                | (with_reducible exact ent_drop)
                | (with_reducible refine ent_pick ?_)
                | (refine ent_pickC (by rfl) ?_)
                | (refine ent_pickS (by rfl) ?_)
                | (refine ent_pickM (by rfl) ?_)
                | (refine ent_prx ?_ ?_; rotate_left)
                | (refine ent_prq ?_))
              all_goals first | exact ⟨range_add1 hi2 (by omega), by omega, by rw [range_add1 hs2 (by omega)]; omega, by simpa using hsl'⟩ | trivial
          · refine wps_pure (ent_prr (by (try dsimp only); rw [range_add1 hi2 (by omega)]; omega) (ent_ex (t + 1) (ent_ex sl' ?_)))
            have hq : Ent (seqp sl' ((R.dk n).flushed fun q => pp q && (((R.dk n).keysI R.ns).take t).contains q).lasts) (seqp sl' ((R.dk n).flushed fun q => pp q && (((R.dk n).keysI R.ns).take (t + 1)).contains q).lasts) := seqp_ext fun i _ => by
              rw [hnxt i, if_neg (fun e => hpk e.2)]
            refine ent_swap (A := seqp sl' ((R.dk n).flushed fun q => pp q && (((R.dk n).keysI R.ns).take t).contains q).lasts) hq ?_
            repeat (first
              | (with_reducible exact ent_drop)
              | (with_reducible refine ent_pick ?_)
              | (refine ent_pickC (by rfl) ?_)
              | (refine ent_pickS (by rfl) ?_)
              | (refine ent_pickM (by rfl) ?_)
              | (refine ent_prx ?_ ?_; rotate_left)
              | (refine ent_prq ?_))
            all_goals first | exact ⟨range_add1 hi2 (by omega), by omega, by rw [range_add1 hs2 (by omega)]; omega, hsl'⟩ | trivial
        · have hte : t = ((R.dk n).keysN R.ns).length := by simp only [decide_eq_true_eq] at hc2; omega
          refine wps_mapR ?_
          repeat (first
            | (with_reducible refine wps_bindpure ?_)
            | (with_reducible refine wps_assoc ?_)
            | (with_reducible refine wps_nil ?_)
            | (with_reducible refine wps_stepAlloc fun _ => ?_)
            | (with_reducible refine wps_alloc fun _ => ?_)
            | (with_reducible refine wps_newO fun _ => ?_)
            | (refine wps_ld _ (by rfl) ?_)
            | (refine wps_ldG _ _ _ (by rfl) ?_)
            | (refine wps_ldA _ (by rfl) ?_)
            | (refine wps_ldI _ (by rfl) ?_)
            | (refine wps_ldGI _ _ _ (by rfl) ?_)
            | (refine wps_ldAI _ (by rfl) ?_)
            | (refine wps_st (by simp) ?_)
            | (refine wps_stA (by simp) (by simp [Value.oneCell']) ?_)
            | ((with_reducible apply wps_val); apply val_ite; rotate_left; refine fun (_ : ¬ _) => ?_; rotate_right; refine fun (_ : _ = true) => ?_)
            | ((with_reducible apply val_ite); rotate_left; refine fun (_ : ¬ _) => ?_; rotate_right; refine fun (_ : _ = true) => ?_)
            | (with_reducible refine wps_regionH ?_)
            | ((with_reducible apply wps_bindV); apply val_iteL; rotate_left; refine fun (_ : ¬ _) => ?_; rotate_right; refine fun (_ : _ = true) => ?_)
            | ((with_reducible apply val_iteL); rotate_left; refine fun (_ : ¬ _) => ?_; rotate_right; refine fun (_ : _ = true) => ?_)
            | (with_reducible exact wps_pure (ent_val rfl)))
          refine wps_clearS (wps_pure ?_)
          have hs2' : s2.1 = ((rank R ((n + 1) * R.ns) : Nat) : Int) := by rw [hs2, rank_succ, hte]
          rw [hs2']
          show Ent _ (pr _ * H * ex _)
          refine ent_exr ls ?_
          refine ent_exr mb ?_
          refine ent_exr sl' ?_
          refine ent_exr sc ?_
          simp only [← star_assoc]
          refine ent_pickC (by rfl) (ent_pick (ent_pickM (by rfl) (ent_pers ?_ (cachep_nil _ _))))
          have hq : Ent (seqp sl' ((R.dk n).flushed fun q => pp q && (((R.dk n).keysI R.ns).take t).contains q).lasts) (seqp sl' (Dk.restored R ks n).lasts) := seqp_ext fun i hi => by
            show _ = ((R.dk n).flushed fun k => keepB ks (rank R (n * R.ns + k.toNat)) && !(R.dk n).failed).lasts i
            rw [hpp]
            refine flushed_eq fun b hb => ?_
            have hmem : (i : Int) ∈ (R.dk n).keysI R.ns := (keysI_mem hD sc (i : Int)).2 (by simp [hb])
            have hlen : ((R.dk n).keysI R.ns).length = t := by rw [hte]; simp [Dk.keysI]
            rw [List.take_of_length_le (by omega)]
            simp [hmem]
          refine ent_swap (A := seqp sl' ((R.dk n).flushed fun q => pp q && (((R.dk n).keysI R.ns).take t).contains q).lasts) hq ?_
          have hok : (Dk.restored R ks n).ok R.ns := ⟨(Dk.ok_flushed hD fun k => keepB ks (rank R (n * R.ns + k.toNat)) && !(R.dk n).failed).1, fun j b h => by cases h⟩
          repeat (first
            | (with_reducible exact ent_drop)
            | (with_reducible refine ent_pick ?_)
            | (refine ent_pickC (by rfl) ?_)
            | (refine ent_pickS (by rfl) ?_)
            | (refine ent_pickM (by rfl) ?_)
            | (refine ent_prx ?_ ?_; rotate_left)
            | (refine ent_prq ?_))
          all_goals first | exact ⟨hsl', hd.2.1, hok⟩ | rfl | trivial
    · have hne : n = R.n := by simp only [decide_eq_true_eq] at hc; omega
      subst hne
      refine wps_mapR (wps_pure (Ent.starr (Ent.of_eq ?_)))
      unfold rackP
      simp only [Rk.restTo, Rk.restore]
      rw [bst_congr (F := rackF R.ns (fun j => if j < R.n then Dk.restored R ks j else R.dk j) ps) (F' := rackF R.ns (fun j => Dk.restored R ks j) ps) fun j hj => by simp [rackF, hj]]
      simp only [star_assoc]
end Go.Proofs.Ytldmeimebebllaa
