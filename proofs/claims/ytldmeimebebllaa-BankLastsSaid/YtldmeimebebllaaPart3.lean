/-
  A part of the proof: predicate transformers over the model, and a separation logic over them; what functions of the program do.
-/
import Derived.Test.YtldmeimebebllaaPart2
import Derived.ChangeReads
import Derived.ReadAgain
import Derived.Deep.Frames
import Derived.RowKit3
import Derived.ChangeSame
import Derived.ChangeSlices
set_option linter.unusedSimpArgs false
namespace Go.Proofs.Ytldmeimebebllaa
open Go.Mo
set_option linter.unusedVariables false
variable {g : Fr} {cv : CV}
/-! Restore: what is cached is numbered by the disks, then by the sectors -/
def isC (R : Rk) (i : Nat) : Bool := ((R.dk (i / R.ns)).cached ((i % R.ns : Nat) : Int)).isSome
def rank (R : Rk) (i : Nat) : Nat := ((List.range i).filter (isC R)).length
def keepB (ks : List Int) (n : Nat) : Bool := if ks.length = 0 then false else bAnd .i64 (ks.getD (n % ks.length) 0) 1 == 1
def Dk.restored (R : Rk) (ks : List Int) (j : Nat) : Dk := ((R.dk j).flushed fun k => keepB ks (rank R (j * R.ns + k.toNat)) && !(R.dk j).failed).clean
def Rk.restTo (R : Rk) (ks : List Int) (n : Nat) : Rk := { R with off := false, count := -1, dk := fun j => if j < n then Dk.restored R ks j else R.dk j }
def Rk.restore (R : Rk) (ks : List Int) : Rk := { R with off := false, count := -1, dk := fun j => Dk.restored R ks j }
def Dk.keysN (D : Dk) (m : Nat) : List Nat := (List.range m).filter fun k : Nat => (D.cached (k : Int)).isSome
theorem filter_rank {p : Nat → Bool} : ∀ {n t k : Nat}, ((List.range n).filter p)[t]? = some k → ((List.range k).filter p).length = t ∧ k < n ∧ p k = true
  | 0, t, k, h => by simp at h
  | n + 1, t, k, h => by
    rw [List.range_succ, List.filter_append] at h
    by_cases ht : t < ((List.range n).filter p).length
    · rw [List.getElem?_append_left ht] at h
      have := filter_rank h
      exact ⟨this.1, by omega, this.2.2⟩
    · rw [List.getElem?_append_right (by omega)] at h
      by_cases hp : p n = true
      · rw [List.filter_cons, if_pos hp] at h
        have h0 : t - ((List.range n).filter p).length = 0 := by
          have := (List.getElem?_eq_some_iff.1 h).1
          simp at this; omega
        rw [h0] at h
        simp at h
        subst h
        exact ⟨by omega, by omega, hp⟩
      · rw [List.filter_cons, if_neg hp] at h
        simp at h
theorem range_split (a k : Nat) : List.range (a + k) = List.range a ++ (List.range k).map (a + ·) := List.range_add
theorem rank_add (R : Rk) (j k : Nat) (hk : k ≤ R.ns) : rank R (j * R.ns + k) = rank R (j * R.ns) + ((R.dk j).keysN k).length := by
  unfold rank Dk.keysN
  rw [range_split, List.filter_append, List.length_append, List.filter_map, List.length_map]
  congr 2
  apply List.filter_congr
  intro i hi
  simp only [List.mem_range] at hi
  show isC R (j * R.ns + i) = _
  unfold isC
  have h0 : 0 < R.ns := by omega
  have h1 : (j * R.ns + i) / R.ns = j := by
    rw [Nat.mul_comm, Nat.mul_add_div h0, Nat.div_eq_of_lt (by omega)]; omega
  have h2 : (j * R.ns + i) % R.ns = i := by
    rw [Nat.mul_comm, Nat.mul_add_mod, Nat.mod_eq_of_lt (by omega)]
  rw [h1, h2]
theorem keysN_get {D : Dk} {m t k : Nat} (h : (D.keysN m)[t]? = some k) : (D.keysN k).length = t ∧ k < m ∧ (D.cached (k : Int)).isSome = true := filter_rank h
theorem rank_succ (R : Rk) (j : Nat) : rank R ((j + 1) * R.ns) = rank R (j * R.ns) + ((R.dk j).keysN R.ns).length := by
  rw [Nat.add_mul, Nat.one_mul]; exact rank_add R j R.ns (Nat.le_refl _)
theorem keysN_le (D : Dk) (m : Nat) : (D.keysN m).length ≤ m := by
  have := List.length_filter_le (fun k : Nat => (D.cached (k : Int)).isSome) (List.range m)
  rw [List.length_range] at this
  exact this
theorem rank_le (R : Rk) (i : Nat) : rank R i ≤ i := by
  have := List.length_filter_le (isC R) (List.range i)
  rw [List.length_range] at this
  exact this
/-- the keys of what is cached, ascending -/
def Dk.keysI (D : Dk) (m : Nat) : List Int := (D.keysN m).map fun k : Nat => (k : Int)
theorem keysI_asc (D : Dk) (m : Nat) : (D.keysI m).Pairwise (· < ·) := by
  unfold Dk.keysI Dk.keysN
  rw [List.pairwise_map]
  refine List.Pairwise.filter _ ?_
  exact (List.pairwise_lt_range (n := m)).imp fun h => by omega
theorem keysI_mem {D : Dk} {ns : Nat} (h : D.ok ns) (sc : Int → Slc) (y : Int) : y ∈ D.keysI ns ↔ ((fun j => (D.cached j).map fun _ => vS (sc j)) y).isSome = true := by
  unfold Dk.keysI Dk.keysN
  simp only [List.mem_map, List.mem_filter, List.mem_range, Option.isSome_map]
  constructor
  · rintro ⟨k, ⟨_, hk⟩, rfl⟩; exact hk
  · intro hy
    obtain ⟨b, hb⟩ := Option.isSome_iff_exists.1 hy
    have := h.2 y b hb
    refine ⟨y.toNat, ⟨by omega, ?_⟩, by omega⟩
    rw [show ((y.toNat : Nat) : Int) = y by omega]; exact hy
theorem nodup_le {α : Type} [BEq α] [LawfulBEq α] : ∀ {s l : List α}, s.Nodup → (∀ y ∈ s, y ∈ l) → s.length ≤ l.length
  | [], l, _, _ => by simp
  | a :: s, l, hn, hs => by
    rw [List.nodup_cons] at hn
    have ha : a ∈ l := hs a (by simp)
    have ih := nodup_le (l := l.erase a) hn.2 fun y hy => (List.mem_erase_of_ne (fun (e : y = a) => hn.1 (e ▸ hy))).2 (hs y (by simp [hy]))
    have hl := List.length_erase_of_mem ha
    have hp := List.length_pos_of_mem ha
    simp only [List.length_cons]; omega
theorem few_keys {D : Dk} {ns : Nat} (h : D.ok ns) (sc : Int → Slc) (s : List Int) (hn : s.Nodup) (hs : ∀ y ∈ s, ((fun j => (D.cached j).map fun _ => vS (sc j)) y).isSome = true) : s.length ≤ ns := by
  have h1 := nodup_le hn fun y hy => (keysI_mem h sc y).2 (hs y hy)
  have h2 := keysN_le D ns
  simp only [Dk.keysI, List.length_map] at h1
  omega
theorem wps_imapP {α : Type} {m : Nat} {f : Int → Option Value} {H H' : HP} {k : M α} {Q : α → HP} [hp : PickM m H f H'] (h : ∀ es clock, MapOk es.toList clock f → wps g (H' * po m (.map es clock)) k Q) : wps g H k Q := by
  rw [hp.eq]
  unfold imap
  refine wps_exr fun es => wps_exr fun clock => ?_
  rw [star_left_comm]
  exact wps_pr fun hm => h es clock hm
theorem imap_mk {m clock : Nat} {es : Array MapEntry} {f : Int → Option Value} (hm : MapOk es.toList clock f) : Ent (po m (.map es clock)) (imap m f) := ent_ex es (ent_ex clock (ent_prr hm (Ent.refl _)))
theorem flushed_eq {D : Dk} {p q : Int → Bool} {i : Nat} (h : ∀ b, D.cached (i : Int) = some b → p i = q i) : (D.flushed p).lasts i = (D.flushed q).lasts i := by
  simp only [Dk.flushed]
  cases hc : D.cached (i : Int) with
  | none => rfl
  | some b => simp only [h b hc]
theorem device_Rack_Restore_spec (hcv : KeysOk cv) {H : HP} (rb : Nat) (R : Rk) (ds : Slc) (ps : List Nat) (x : Slc) (ks : List Int) (hx : Ent H (intsP x ks)) :
    wps g (H * rackP rb R ds ps) (device_Rack_Restore cv (ptr rb) x) (fun _ => H * rackP rb (R.restore ks) ds ps) := by
  unfold device_Rack_Restore
  have hp : Ent (rackP rb R ds ps) (pr (ps.length = R.n ∧ ds.len = R.n ∧ R.n ≤ 17 ∧ R.ns ≤ 4096)) := Ent.trans (ent_left _ _) (Ent.trans (ent_left _ _) (ent_left _ _))
  refine wps_fact (Ent.trans (ent_right _ _) hp) fun ⟨h1, h2, h17, hns⟩ => ?_
  refine wps_fact (Ent.trans (ent_left _ _) (ilen_of hx)) fun hl => ?_
  unfold rackP
  simp only [← star_assoc]
  repeat (first
    | (with_reducible refine wps_bindpure ?_)
    | (with_reducible refine wps_assoc ?_)
    | (with_reducible refine wps_nil ?_)
    | (with_reducible refine wps_stepAlloc fun _ => ?_)
    | (with_reducible refine wps_alloc fun _ => ?_)
    | (with_reducible refine wps_newO fun _ => ?_)
    | (refine wps_ld _ (by rfl) ?_)
    | (refine wps_ldG _ _ _ (by rfl) ?_)
    | (refine wps_ldA _ (by rfl) ?_)
    | (refine wps_ldI _ (by rfl) ?_)
    | (refine wps_ldGI _ _ _ (by rfl) ?_)
    | (refine wps_ldAI _ (by rfl) ?_)
    | (refine wps_st (by simp) ?_)
    | (refine wps_stA (by simp) (by simp [Value.oneCell']) ?_)
    | ((with_reducible apply wps_val); apply val_ite; rotate_left; refine fun (_ : ¬ _) => ?_; rotate_right; refine fun (_ : _ = true) => ?_)
    | ((with_reducible apply val_ite); rotate_left; refine fun (_ : ¬ _) => ?_; rotate_right; refine fun (_ : _ = true) => ?_)
    | (with_reducible refine wps_regionH ?_)
    | ((with_reducible apply wps_bindV); apply val_iteL; rotate_left; refine fun (_ : ¬ _) => ?_; rotate_right; refine fun (_ : _ = true) => ?_)
    | ((with_reducible apply val_iteL); rotate_left; refine fun (_ : ¬ _) => ?_; rotate_right; refine fun (_ : _ = true) => ?_)
    | (with_reducible exact wps_pure (ent_val rfl)))
  refine wps_loop (fun s => ex fun n : Nat => pr (s.2 = (n : Int) ∧ n ≤ R.n ∧ s.1 = ((rank R (n * R.ns) : Nat) : Int)) * H * rackP rb (R.restTo ks n) ds ps) (fun s => (R.n - s.2).toNat) ?_ fun s => ?_
  · refine ent_ex 0 ?_
    have h0 : rank R (0 * R.ns) = 0 := by simp [rank]
    rw [h0]
    unfold rackP
    simp only [← star_assoc, Rk.restTo]
    have hb : bst R.n (rackF R.ns (fun j => if j < 0 then Dk.restored R ks j else R.dk j) ps) = bst R.n (rackF R.ns R.dk ps) := bst_congr fun i _ => by simp [rackF]
    rw [hb]
    repeat (first
      | (with_reducible exact ent_drop)
      | (with_reducible refine ent_pick ?_)
      | (refine ent_pickC (by rfl) ?_)
      | (refine ent_pickS (by rfl) ?_)
      | (refine ent_pickM (by rfl) ?_)
      | (refine ent_prx ?_ ?_; rotate_left)
      | (refine ent_prq ?_))
    all_goals first | exact ⟨rfl, by omega, rfl⟩ | exact ⟨h1, h2, h17, hns⟩ | trivial
  · refine wps_ex fun n => ?_
    simp only [star_assoc]
    refine wps_pr fun ⟨hi, hn, hs1⟩ => ?_
    refine wps_ite (fun hc => ?_) (fun hc => ?_)
    · have hlt : n < R.n := by simp only [decide_eq_true_eq] at hc; omega
      have hrn : (R.restTo ks n).n = R.n := rfl
      have hdn : (R.restTo ks n).dk n = R.dk n := by simp [Rk.restTo]
      have hrl : rank R (n * R.ns) ≤ 69632 := Nat.le_trans (rank_le R _) (show n * R.ns ≤ 17 * 4096 from Nat.mul_le_mul (by omega) hns)
      rw [rackP_focus rb (R.restTo ks n) ds ps (j := n) hlt, hdn]
      simp only [← star_assoc]
      refine wps_rdS n (ptr (ps.getD n 0)) hi (pv_get (by omega)) ?_
      have hnext : R.restTo ks (n + 1) = (R.restTo ks n).setD n (Dk.restored R ks n) := by
        simp only [Rk.restTo, Rk.setD, Rk.mk.injEq, true_and, and_true]
        funext j
        by_cases hj : j = n
        · subst hj; simp
        · have : j < n + 1 ↔ j < n := by omega
          simp [hj, this]
      refine wps_tail (F := pr (ps.length = (R.restTo ks n).n ∧ ds.len = (R.restTo ks n).n ∧ (R.restTo ks n).n ≤ 17 ∧ (R.restTo ks n).ns ≤ 4096) * bst (R.restTo ks n).n (hole n (rackF (R.restTo ks n).ns (R.restTo ks n).dk ps)) * own 1 ds (ps.map pv) * pc rb [vS ds, .int .i64 (R.restTo ks n).ns, .int .i64 (R.restTo ks n).count, .bool (R.restTo ks n).off])
        (A := H * dskAt R.ns (ps.getD n 0) (R.dk n)) (Q' := fun r => pr (r = .inl (((rank R ((n + 1) * R.ns) : Nat) : Int), w64 (s.2 + 1))) * H * dskAt R.ns (ps.getD n 0) (Dk.restored R ks n)) (fun g => ?_) (Ent.of_eq (by simp only [star_assoc]; ac_rfl)) (fun r => ?_)
      rotate_left
      · refine Ent.trans (B := pr (r = .inl (((rank R ((n + 1) * R.ns) : Nat) : Int), w64 (s.2 + 1))) * (H * rackP rb (R.restTo ks (n + 1)) ds ps)) (Ent.of_eq ?_) (pr_ent fun hr => ?_)
        · rw [hnext, ← rackP_set (R := R.restTo ks n) _ hlt]
          simp only [star_assoc]
          ac_rfl
        · subst hr
          refine ent_prr (by (try dsimp only); rw [range_add1 hi (by omega)]; omega) (ent_ex (n + 1) ?_)
          rw [star_assoc]
          exact ent_prr ⟨range_add1 hi (by omega), by omega, rfl⟩ (Ent.refl _)
      generalize ps.getD n 0 = p
      unfold dskAt dskX
      simp only [← star_assoc]
      refine wps_exP fun ls => wps_exP fun mb => wps_exP fun sl => wps_exP fun sc => ?_
      simp only [← star_assoc]
      refine wps_prP fun hd => ?_
      have hD : (R.dk n).ok R.ns := hd.2.2
      repeat (first
        | (with_reducible refine wps_bindpure ?_)
        | (with_reducible refine wps_assoc ?_)
        | (with_reducible refine wps_nil ?_)
        | (with_reducible refine wps_stepAlloc fun _ => ?_)
        | (with_reducible refine wps_alloc fun _ => ?_)
        | (with_reducible refine wps_newO fun _ => ?_)
        | (refine wps_ld _ (by rfl) ?_)
        | (refine wps_ldG _ _ _ (by rfl) ?_)
        | (refine wps_ldA _ (by rfl) ?_)
        | (refine wps_ldI _ (by rfl) ?_)
        | (refine wps_ldGI _ _ _ (by rfl) ?_)
        | (refine wps_ldAI _ (by rfl) ?_)
        | (refine wps_st (by simp) ?_)
        | (refine wps_stA (by simp) (by simp [Value.oneCell']) ?_)
        | ((with_reducible apply wps_val); apply val_ite; rotate_left; refine fun (_ : ¬ _) => ?_; rotate_right; refine fun (_ : _ = true) => ?_)
        | ((with_reducible apply val_ite); rotate_left; refine fun (_ : ¬ _) => ?_; rotate_right; refine fun (_ : _ = true) => ?_)
        | (with_reducible refine wps_regionH ?_)
        | ((with_reducible apply wps_bindV); apply val_iteL; rotate_left; refine fun (_ : ¬ _) => ?_; rotate_right; refine fun (_ : _ = true) => ?_)
        | ((with_reducible apply val_iteL); rotate_left; refine fun (_ : ¬ _) => ?_; rotate_right; refine fun (_ : _ = true) => ?_)
        | (with_reducible exact wps_pure (ent_val rfl)))
      unfold maps_Keys_m
      repeat (first
        | (with_reducible refine wps_bindpure ?_)
        | (with_reducible refine wps_assoc ?_)
        | (with_reducible refine wps_nil ?_)
        | (with_reducible refine wps_stepAlloc fun _ => ?_)
        | (with_reducible refine wps_alloc fun _ => ?_)
        | (with_reducible refine wps_newO fun _ => ?_)
        | (refine wps_ld _ (by rfl) ?_)
        | (refine wps_ldG _ _ _ (by rfl) ?_)
        | (refine wps_ldA _ (by rfl) ?_)
        | (refine wps_ldI _ (by rfl) ?_)
        | (refine wps_ldGI _ _ _ (by rfl) ?_)
        | (refine wps_ldAI _ (by rfl) ?_)
        | (refine wps_st (by simp) ?_)
        | (refine wps_stA (by simp) (by simp [Value.oneCell']) ?_)
        | ((with_reducible apply wps_val); apply val_ite; rotate_left; refine fun (_ : ¬ _) => ?_; rotate_right; refine fun (_ : _ = true) => ?_)
        | ((with_reducible apply val_ite); rotate_left; refine fun (_ : ¬ _) => ?_; rotate_right; refine fun (_ : _ = true) => ?_)
        | (with_reducible refine wps_regionH ?_)
        | ((with_reducible apply wps_bindV); apply val_iteL; rotate_left; refine fun (_ : ¬ _) => ?_; rotate_right; refine fun (_ : _ = true) => ?_)
        | ((with_reducible apply val_iteL); rotate_left; refine fun (_ : ¬ _) => ?_; rotate_right; refine fun (_ : _ = true) => ?_)
        | (with_reducible exact wps_pure (ent_val rfl)))
      rename_i c
      refine wps_imapP (m := mb) fun es clock hm => ?_
      refine wps_call (fun _ => slices_Sorted_spec (N := R.ns) hcv (c := c) (mb := mb) hm (fun j v hj => ?_) (few_keys hD sc) (by omega) (keysI_asc _ _) (keysI_mem hD sc)) (F := H * seqp sl (R.dk n).lasts * cachep sc (R.dk n).cached * own 1 ls (sl.map vS) * pc p [vS ls, .map (some mb), .bool (R.dk n).failed, .int .i64 (R.dk n).count]) (Ent.of_eq (by ac_rfl)) fun kt => ?_
      · obtain ⟨b, _, hb⟩ := Option.map_eq_some_iff.1 hj
        exact ⟨_, hb.symm⟩
      simp only [← star_assoc]
      refine wps_swap (imap_mk (m := mb) hm) ?_
      refine wps_fact (Ent.trans (ent_pick1 (A := own 1 kt (((R.dk n).keysI R.ns).map (Value.int .i64)))) (own_len _ _ _)) fun ⟨hkl, _⟩ => ?_
      have hkl' : kt.len = ((R.dk n).keysN R.ns).length := by simpa [Dk.keysI] using hkl.symm
      generalize hpp : (fun k : Int => keepB ks (rank R (n * R.ns + k.toNat)) && !(R.dk n).failed) = pp
      have hkn := keysN_le (R.dk n) R.ns
      refine wps_loop (fun s2 => ex fun t : Nat => ex fun sl' : List Slc => pr (s2.2 = (t : Int) ∧ t ≤ ((R.dk n).keysN R.ns).length ∧ s2.1 = ((rank R (n * R.ns) + t : Nat) : Int) ∧ sl'.length = R.ns) * H
        * seqp sl' ((R.dk n).flushed fun q => pp q && (((R.dk n).keysI R.ns).take t).contains q).lasts * cachep sc (R.dk n).cached * imap mb (fun j => Option.map (fun _ => vS (sc j)) ((R.dk n).cached j)) * own 1 ls (sl'.map vS)
        * own 1 kt (((R.dk n).keysI R.ns).map (Value.int .i64)) * pc p [vS ls, .map (some mb), .bool (R.dk n).failed, .int .i64 (R.dk n).count]) (fun s2 => (((R.dk n).keysN R.ns).length - s2.2).toNat) ?_ fun s2 => ?_
      · refine ent_ex 0 (ent_ex sl ?_)
        refine ent_swap (A := seqp sl (R.dk n).lasts) (seqp_ext (f' := ((R.dk n).flushed fun k => pp k && (((R.dk n).keysI R.ns).take 0).contains k).lasts) fun i _ => ?_) ?_
        · simp only [Dk.flushed]
          cases (R.dk n).cached i <;> simp
        · repeat (first
            | (with_reducible exact ent_drop)
            | (with_reducible refine ent_pick ?_)
            | (refine ent_pickC (by rfl) ?_)
            | (refine ent_pickS (by rfl) ?_)
            | (refine ent_pickM (by rfl) ?_)
            | (refine ent_prx ?_ ?_; rotate_left)
            | (refine ent_prq ?_))
          all_goals first | exact ⟨rfl, by omega, hs1, hd.1⟩ | trivial
      · refine wps_ex fun t => wps_ex fun sl' => ?_
        refine wps_prP fun ⟨hi2, ht, hs2, hsl'⟩ => ?_
        refine wps_ite (fun hc2 => ?_) (fun hc2 => ?_)
        · have htl : t < ((R.dk n).keysN R.ns).length := by simp only [decide_eq_true_eq] at hc2; omega
          obtain ⟨k, hkg⟩ : ∃ k, ((R.dk n).keysN R.ns)[t]? = some k := ⟨_, List.getElem?_eq_getElem htl⟩
          obtain ⟨hkt, hkns, hkc⟩ := keysN_get hkg
          obtain ⟨b, hb⟩ := Option.isSome_iff_exists.1 hkc
          have hrk : rank R (n * R.ns + k) = rank R (n * R.ns) + t := by rw [rank_add R n k (by omega), hkt]
          have hkI : ((R.dk n).keysI R.ns)[t]? = some (k : Int) := by simp [Dk.keysI, hkg]
          refine wps_rdS t (k : Int) hi2 (by rw [List.getElem?_map, hkI]; rfl) ?_
          generalize hN : rank R (n * R.ns) + t = N at *
          have hppk : pp (k : Int) = (keepB ks N && !(R.dk n).failed) := by
            rw [← hpp]
            show (keepB ks (rank R (n * R.ns + ((k : Int)).toNat)) && !(R.dk n).failed) = _
            rw [show ((k : Int)).toNat = k by omega, hrk]
          refine wps_val (v := keepB ks N) ?_ ?_
          · refine wps_ite (fun hx0 => ?_) (fun hx0 => ?_)
            · have hx0' : 0 < x.len := by simp only [decide_eq_true_eq] at hx0; omega
              refine wps_assert (by omega) ?_
              have hlt2 : N % ks.length < ks.length := Nat.mod_lt _ (by omega)
              have hmod : Int.tmod s2.1 (x.len : Int) = ((N % ks.length : Nat) : Int) := by
                rw [hs2, ← hl]; rfl
              refine wps_rd (N % ks.length) (ks.getD (N % ks.length) 0) (Ent.trans (ent_drop (B := H)) hx) hmod ?_ ?_
              · simp [zv, List.getD_eq_getElem?_getD, List.getElem?_eq_getElem hlt2]
              · refine wps_pure (ent_val ?_)
                rw [keepB, if_neg (by omega)]
            · have hx0' : x.len = 0 := by simp only [decide_eq_true_eq] at hx0; omega
              refine wps_pure (ent_val ?_)
              rw [keepB, if_pos (by omega)]
          refine wps_val (v := pp (k : Int)) ?_ ?_
          · rw [hppk]
            apply val_eq
            · repeat (first
                | (with_reducible refine wps_bindpure ?_)
                | (with_reducible refine wps_assoc ?_)
                | (with_reducible refine wps_nil ?_)
                | (with_reducible refine wps_stepAlloc fun _ => ?_)
                | (with_reducible refine wps_alloc fun _ => ?_)
                | (with_reducible refine wps_newO fun _ => ?_)
                | (refine wps_ld _ (by rfl) ?_)
                | (refine wps_ldG _ _ _ (by rfl) ?_)
                | (refine wps_ldA _ (by rfl) ?_)
                | (refine wps_ldI _ (by rfl) ?_)
                | (refine wps_ldGI _ _ _ (by rfl) ?_)
                | (refine wps_ldAI _ (by rfl) ?_)
                | (refine wps_st (by simp) ?_)
                | (refine wps_stA (by simp) (by simp [Value.oneCell']) ?_)
                | ((with_reducible apply wps_val); apply val_ite; rotate_left; refine fun (_ : ¬ _) => ?_; rotate_right; refine fun (_ : _ = true) => ?_)
                | ((with_reducible apply val_ite); rotate_left; refine fun (_ : ¬ _) => ?_; rotate_right; refine fun (_ : _ = true) => ?_)
                | (with_reducible refine wps_regionH ?_)
                | ((with_reducible apply wps_bindV); apply val_iteL; rotate_left; refine fun (_ : ¬ _) => ?_; rotate_right; refine fun (_ : _ = true) => ?_)
                | ((with_reducible apply val_iteL); rotate_left; refine fun (_ : ¬ _) => ?_; rotate_right; refine fun (_ : _ = true) => ?_)
                | (with_reducible exact wps_pure (ent_val rfl)))
            · cases keepB ks N <;> simp
          have hnxt : ∀ i : Nat, ((R.dk n).flushed fun q => pp q && (((R.dk n).keysI R.ns).take (t + 1)).contains q).lasts i = if i = k ∧ pp (k : Int) = true then b else ((R.dk n).flushed fun q => pp q && (((R.dk n).keysI R.ns).take t).contains q).lasts i := by
            intro i
            rw [List.take_add_one, hkI]
            by_cases hik : i = k
            · subst hik
              simp only [Dk.flushed, hb, Option.toList, List.contains_append]
              by_cases hpk : pp (i : Int) = true
              · simp [hpk]
              · simp [hpk]
            · rw [if_neg (fun e => hik e.1)]
              refine flushed_eq fun b' _ => ?_
              have : ¬ (i : Int) = (k : Int) := by omega
              simp [Option.toList, this]
          refine wps_ite (fun hpk => ?_) (fun hpk => ?_)
          · refine wps_regionH ?_
            repeat (first
              | (with_reducible refine wps_bindpure ?_)
              | (with_reducible refine wps_assoc ?_)
              | (with_reducible refine wps_nil ?_)
              | (with_reducible refine wps_stepAlloc fun _ => ?_)
              | (with_reducible refine wps_alloc fun _ => ?_)
              | (with_reducible refine wps_newO fun _ => ?_)
              | (refine wps_ld _ (by rfl) ?_)
              | (refine wps_ldG _ _ _ (by rfl) ?_)
              | (refine wps_ldA _ (by rfl) ?_)
              | (refine wps_ldI _ (by rfl) ?_)
              | (refine wps_ldGI _ _ _ (by rfl) ?_)
              | (refine wps_ldAI _ (by rfl) ?_)
              | (refine wps_st (by simp) ?_)
              | (refine wps_stA (by simp) (by simp [Value.oneCell']) ?_)
              | ((with_reducible apply wps_val); apply val_ite; rotate_left; refine fun (_ : ¬ _) => ?_; rotate_right; refine fun (_ : _ = true) => ?_)
              | ((with_reducible apply val_ite); rotate_left; refine fun (_ : ¬ _) => ?_; rotate_right; refine fun (_ : _ = true) => ?_)
              | (with_reducible refine wps_regionH ?_)
              | ((with_reducible apply wps_bindV); apply val_iteL; rotate_left; refine fun (_ : ¬ _) => ?_; rotate_right; refine fun (_ : _ = true) => ?_)
              | ((with_reducible apply val_iteL); rotate_left; refine fun (_ : ¬ _) => ?_; rotate_right; refine fun (_ : _ = true) => ?_)
              | (with_reducible exact wps_pure (ent_val rfl)))
            refine wps_stepV (val_lookS (some (sc (k : Int))) (by rw [hb]; rfl)) ?_
            repeat (first
              | (with_reducible refine wps_bindpure ?_)
              | (with_reducible refine wps_assoc ?_)
              | (with_reducible refine wps_nil ?_)
              | (with_reducible refine wps_stepAlloc fun _ => ?_)
              | (with_reducible refine wps_alloc fun _ => ?_)
              | (with_reducible refine wps_newO fun _ => ?_)
              | (refine wps_ld _ (by rfl) ?_)
              | (refine wps_ldG _ _ _ (by rfl) ?_)
              | (refine wps_ldA _ (by rfl) ?_)
              | (refine wps_ldI _ (by rfl) ?_)
              | (refine wps_ldGI _ _ _ (by rfl) ?_)
              | (refine wps_ldAI _ (by rfl) ?_)
              | (refine wps_st (by simp) ?_)
              | (refine wps_stA (by simp) (by simp [Value.oneCell']) ?_)
              | ((with_reducible apply wps_val); apply val_ite; rotate_left; refine fun (_ : ¬ _) => ?_; rotate_right; refine fun (_ : _ = true) => ?_)
              | ((with_reducible apply val_ite); rotate_left; refine fun (_ : ¬ _) => ?_; rotate_right; refine fun (_ : _ = true) => ?_)
              | (with_reducible refine wps_regionH ?_)
              | ((with_reducible apply wps_bindV); apply val_iteL; rotate_left; refine fun (_ : ¬ _) => ?_; rotate_right; refine fun (_ : _ = true) => ?_)
              | ((with_reducible apply val_iteL); rotate_left; refine fun (_ : ¬ _) => ?_; rotate_right; refine fun (_ : _ = true) => ?_)
              | (with_reducible exact wps_pure (ent_val rfl)))
            refine wps_wrS k rfl (by omega) ?_
            refine wps_pure (ent_prr (by (try dsimp only); rw [range_add1 hi2 (by omega)]; omega) (ent_ex (t + 1) (ent_ex (sl'.set k (sc (k : Int))) ?_)))
            refine ent_pick (ent_pick (ent_pickS (by rw [List.map_set]; rfl) (ent_pick ?_)))
            rw [star_right_comm]
            refine Ent.trans (B := H * (seqp sl' ((R.dk n).flushed fun q => pp q && (((R.dk n).keysI R.ns).take t).contains q).lasts * cachep sc (R.dk n).cached)) (Ent.of_eq (by simp only [← star_assoc, emp_star]; try ac_rfl)) ?_
            refine Ent.trans (Ent.starr (ent_and (B := seqp (sl'.set k (sc (k : Int))) ((R.dk n).flushed fun q => pp q && (((R.dk n).keysI R.ns).take (t + 1)).contains q).lasts) (C := cachep sc (R.dk n).cached) ?_ (ent_right _ _))) ?_
            · refine Ent.trans (seqp_set (k := k) (b := b) (ent_left _ _) (Ent.trans (ent_right _ _) (cachep_get hb))) (seqp_ext fun i _ => ?_)
              rw [hnxt i]
              by_cases hik : i = k <;> simp [hik, hpk]
            · simp only [← star_assoc]
              repeat (first
                | (with_reducible exact ent_drop)
                | (with_reducible refine ent_pick ?_)
                | (refine ent_pickC (by rfl) ?_)
                | (refine ent_pickS (by rfl) ?_)
                | (refine ent_pickM (by rfl) ?_)
                | (refine ent_prx ?_ ?_; rotate_left)
                | (refine ent_prq ?_))
              all_goals first | exact ⟨range_add1 hi2 (by omega), by omega, by rw [range_add1 hs2 (by omega)]; omega, by simpa using hsl'⟩ | trivial
          · refine wps_pure (ent_prr (by (try dsimp only); rw [range_add1 hi2 (by omega)]; omega) (ent_ex (t + 1) (ent_ex sl' ?_)))
            have hq : Ent (seqp sl' ((R.dk n).flushed fun q => pp q && (((R.dk n).keysI R.ns).take t).contains q).lasts) (seqp sl' ((R.dk n).flushed fun q => pp q && (((R.dk n).keysI R.ns).take (t + 1)).contains q).lasts) := seqp_ext fun i _ => by
              rw [hnxt i, if_neg (fun e => hpk e.2)]
            refine ent_swap (A := seqp sl' ((R.dk n).flushed fun q => pp q && (((R.dk n).keysI R.ns).take t).contains q).lasts) hq ?_
            repeat (first
              | (with_reducible exact ent_drop)
              | (with_reducible refine ent_pick ?_)
              | (refine ent_pickC (by rfl) ?_)
              | (refine ent_pickS (by rfl) ?_)
              | (refine ent_pickM (by rfl) ?_)
              | (refine ent_prx ?_ ?_; rotate_left)
              | (refine ent_prq ?_))
            all_goals first | exact ⟨range_add1 hi2 (by omega), by omega, by rw [range_add1 hs2 (by omega)]; omega, hsl'⟩ | trivial
        · have hte : t = ((R.dk n).keysN R.ns).length := by simp only [decide_eq_true_eq] at hc2; omega
          refine wps_mapR ?_
          repeat (first
            | (with_reducible refine wps_bindpure ?_)
            | (with_reducible refine wps_assoc ?_)
            | (with_reducible refine wps_nil ?_)
            | (with_reducible refine wps_stepAlloc fun _ => ?_)
            | (with_reducible refine wps_alloc fun _ => ?_)
            | (with_reducible refine wps_newO fun _ => ?_)
            | (refine wps_ld _ (by rfl) ?_)
            | (refine wps_ldG _ _ _ (by rfl) ?_)
            | (refine wps_ldA _ (by rfl) ?_)
            | (refine wps_ldI _ (by rfl) ?_)
            | (refine wps_ldGI _ _ _ (by rfl) ?_)
            | (refine wps_ldAI _ (by rfl) ?_)
            | (refine wps_st (by simp) ?_)
            | (refine wps_stA (by simp) (by simp [Value.oneCell']) ?_)
            | ((with_reducible apply wps_val); apply val_ite; rotate_left; refine fun (_ : ¬ _) => ?_; rotate_right; refine fun (_ : _ = true) => ?_)
            | ((with_reducible apply val_ite); rotate_left; refine fun (_ : ¬ _) => ?_; rotate_right; refine fun (_ : _ = true) => ?_)
            | (with_reducible refine wps_regionH ?_)
            | ((with_reducible apply wps_bindV); apply val_iteL; rotate_left; refine fun (_ : ¬ _) => ?_; rotate_right; refine fun (_ : _ = true) => ?_)
            | ((with_reducible apply val_iteL); rotate_left; refine fun (_ : ¬ _) => ?_; rotate_right; refine fun (_ : _ = true) => ?_)
            | (with_reducible exact wps_pure (ent_val rfl)))
          refine wps_clearS (wps_pure ?_)
          have hs2' : s2.1 = ((rank R ((n + 1) * R.ns) : Nat) : Int) := by rw [hs2, rank_succ, hte]
          rw [hs2']
          show Ent _ (pr _ * H * ex _)
          refine ent_exr ls ?_
          refine ent_exr mb ?_
          refine ent_exr sl' ?_
          refine ent_exr sc ?_
          simp only [← star_assoc]
          refine ent_pickC (by rfl) (ent_pick (ent_pickM (by rfl) (ent_pers ?_ (cachep_nil _ _))))
          have hq : Ent (seqp sl' ((R.dk n).flushed fun q => pp q && (((R.dk n).keysI R.ns).take t).contains q).lasts) (seqp sl' (Dk.restored R ks n).lasts) := seqp_ext fun i hi => by
            show _ = ((R.dk n).flushed fun k => keepB ks (rank R (n * R.ns + k.toNat)) && !(R.dk n).failed).lasts i
            rw [hpp]
            refine flushed_eq fun b hb => ?_
            have hmem : (i : Int) ∈ (R.dk n).keysI R.ns := (keysI_mem hD sc (i : Int)).2 (by simp [hb])
            have hlen : ((R.dk n).keysI R.ns).length = t := by rw [hte]; simp [Dk.keysI]
            rw [List.take_of_length_le (by omega)]
            simp [hmem]
          refine ent_swap (A := seqp sl' ((R.dk n).flushed fun q => pp q && (((R.dk n).keysI R.ns).take t).contains q).lasts) hq ?_
          have hok : (Dk.restored R ks n).ok R.ns := ⟨(Dk.ok_flushed hD fun k => keepB ks (rank R (n * R.ns + k.toNat)) && !(R.dk n).failed).1, fun j b h => by cases h⟩
          repeat (first
            | (with_reducible exact ent_drop)
            | (with_reducible refine ent_pick ?_)
            | (refine ent_pickC (by rfl) ?_)
            | (refine ent_pickS (by rfl) ?_)
            | (refine ent_pickM (by rfl) ?_)
            | (refine ent_prx ?_ ?_; rotate_left)
            | (refine ent_prq ?_))
          all_goals first | exact ⟨hsl', hd.2.1, hok⟩ | rfl | trivial
    · have hne : n = R.n := by simp only [decide_eq_true_eq] at hc; omega
      subst hne
      refine wps_mapR (wps_pure (Ent.starr (Ent.of_eq ?_)))
      unfold rackP
      simp only [Rk.restTo, Rk.restore]
      rw [bst_congr (F := rackF R.ns (fun j => if j < R.n then Dk.restored R ks j else R.dk j) ps) (F' := rackF R.ns (fun j => Dk.restored R ks j) ps) fun j hj => by simp [rackF, hj]]
      simp only [star_assoc]
end Go.Proofs.Ytldmeimebebllaa
namespace Go.Proofs.Ytldmeimebebllaa
open Go.Mo
set_option linter.unusedVariables false
variable {g : Fr} {cv : CV}
theorem bAnd_le (x : Int) (m : Nat) (hm : m < 4611686018427387904) : 0 ≤ bAnd .i64 x m ∧ bAnd .i64 x m ≤ m := by
  unfold bAnd
  have h : (BitVec.ofInt IntKind.i64.bits x &&& BitVec.ofInt IntKind.i64.bits (m : Int)).toNat ≤ m := by
    rw [BitVec.toNat_and]
    refine Nat.le_trans Nat.and_le_right ?_
    rw [BitVec.toNat_ofInt]
    show ((m : Int) % (2 ^ 64 : Nat)).toNat ≤ m
    omega
  generalize (BitVec.ofInt IntKind.i64.bits x &&& BitVec.ofInt IntKind.i64.bits (m : Int)).toNat = n at h
  have : IntKind.i64.wrap (n : Int) = (n : Int) := w64_id (by omega) (by omega)
  rw [this]; omega
/-- 64 bytes, of which the first one is v -/
def one (v : Int) : List Int := v :: List.replicate 63 0
theorem one_len (v : Int) : (one v).length = 64 := by simp [one]
theorem pc_one {b : Nat} (v : Int) : Ent (pc b ((List.replicate 64 (Value.int .u8 0)).set (0 + 0 * 1) (.int .u8 v))) (byt ⟨some ⟨b, 0, none⟩, 64, 64⟩ (one v)) :=
  Ent.trans (Ent.trans (pc_own (n := 64) (z := 1) (by simp)) (own_rsl _ _ _)) (Ent.of_eq rfl)
theorem law02_alive_spec (hcv : KeysOk cv) : wps g emp (law02_alive cv) (fun b => pr (b = true)) := by
  unfold law02_alive
  refine wps_callE (fun _ => device_New_spec 2 3) fun x => ?_
  rw [if_neg (by decide), show Rk.new (Int.toNat 2) (Int.toNat 3) = Rk.new 2 3 from rfl]
  refine wps_exP fun rb => ?_
  rw [← star_assoc]
  refine wps_prP fun hx => ?_
  subst hx
  unfold rack
  refine wps_exP fun ds => wps_exP fun ps => ?_
  repeat (first
    | (with_reducible refine wps_bindpure ?_)
    | (with_reducible refine wps_assoc ?_)
    | (with_reducible refine wps_nil ?_)
    | (with_reducible refine wps_stepAlloc fun _ => ?_)
    | (with_reducible refine wps_alloc fun _ => ?_)
    | (with_reducible refine wps_newO fun _ => ?_)
    | (refine wps_ld _ (by rfl) ?_)
    | (refine wps_ldG _ _ _ (by rfl) ?_)
    | (refine wps_ldA _ (by rfl) ?_)
    | (refine wps_ldI _ (by rfl) ?_)
    | (refine wps_ldGI _ _ _ (by rfl) ?_)
    | (refine wps_ldAI _ (by rfl) ?_)
    | (refine wps_st (by simp) ?_)
    | (refine wps_stA (by simp) (by simp [Value.oneCell']) ?_)
    | ((with_reducible apply wps_val); apply val_ite; rotate_left; refine fun (_ : ¬ _) => ?_; rotate_right; refine fun (_ : _ = true) => ?_)
    | ((with_reducible apply val_ite); rotate_left; refine fun (_ : ¬ _) => ?_; rotate_right; refine fun (_ : _ = true) => ?_)
    | (with_reducible refine wps_regionH ?_)
    | ((with_reducible apply wps_bindV); apply val_iteL; rotate_left; refine fun (_ : ¬ _) => ?_; rotate_right; refine fun (_ : _ = true) => ?_)
    | ((with_reducible apply val_iteL); rotate_left; refine fun (_ : ¬ _) => ?_; rotate_right; refine fun (_ : _ = true) => ?_)
    | (with_reducible exact wps_pure (ent_val rfl)))
  refine wps_ite (fun h => absurd h (by simp)) (fun _ => ?_)
  repeat (first
    | (with_reducible refine wps_bindpure ?_)
    | (with_reducible refine wps_assoc ?_)
    | (with_reducible refine wps_nil ?_)
    | (with_reducible refine wps_stepAlloc fun _ => ?_)
    | (with_reducible refine wps_alloc fun _ => ?_)
    | (with_reducible refine wps_newO fun _ => ?_)
    | (refine wps_ld _ (by rfl) ?_)
    | (refine wps_ldG _ _ _ (by rfl) ?_)
    | (refine wps_ldA _ (by rfl) ?_)
    | (refine wps_ldI _ (by rfl) ?_)
    | (refine wps_ldGI _ _ _ (by rfl) ?_)
    | (refine wps_ldAI _ (by rfl) ?_)
    | (refine wps_st (by simp) ?_)
    | (refine wps_stA (by simp) (by simp [Value.oneCell']) ?_)
    | ((with_reducible apply wps_val); apply val_ite; rotate_left; refine fun (_ : ¬ _) => ?_; rotate_right; refine fun (_ : _ = true) => ?_)
    | ((with_reducible apply val_ite); rotate_left; refine fun (_ : ¬ _) => ?_; rotate_right; refine fun (_ : _ = true) => ?_)
    | (with_reducible refine wps_regionH ?_)
    | ((with_reducible apply wps_bindV); apply val_iteL; rotate_left; refine fun (_ : ¬ _) => ?_; rotate_right; refine fun (_ : _ = true) => ?_)
    | ((with_reducible apply val_iteL); rotate_left; refine fun (_ : ¬ _) => ?_; rotate_right; refine fun (_ : _ = true) => ?_)
    | (with_reducible exact wps_pure (ent_val rfl)))
  rename_i c
  refine wps_idx 0 rfl rfl (by (try dsimp only); omega) ?_
  repeat (first
    | (with_reducible refine wps_bindpure ?_)
    | (with_reducible refine wps_assoc ?_)
    | (with_reducible refine wps_nil ?_)
    | (with_reducible refine wps_stepAlloc fun _ => ?_)
    | (with_reducible refine wps_alloc fun _ => ?_)
    | (with_reducible refine wps_newO fun _ => ?_)
    | (refine wps_ld _ (by rfl) ?_)
    | (refine wps_ldG _ _ _ (by rfl) ?_)
    | (refine wps_ldA _ (by rfl) ?_)
    | (refine wps_ldI _ (by rfl) ?_)
    | (refine wps_ldGI _ _ _ (by rfl) ?_)
    | (refine wps_ldAI _ (by rfl) ?_)
    | (refine wps_st (by simp) ?_)
    | (refine wps_stA (by simp) (by simp [Value.oneCell']) ?_)
    | ((with_reducible apply wps_val); apply val_ite; rotate_left; refine fun (_ : ¬ _) => ?_; rotate_right; refine fun (_ : _ = true) => ?_)
    | ((with_reducible apply val_ite); rotate_left; refine fun (_ : ¬ _) => ?_; rotate_right; refine fun (_ : _ = true) => ?_)
    | (with_reducible refine wps_regionH ?_)
    | ((with_reducible apply wps_bindV); apply val_iteL; rotate_left; refine fun (_ : ¬ _) => ?_; rotate_right; refine fun (_ : _ = true) => ?_)
    | ((with_reducible apply val_iteL); rotate_left; refine fun (_ : ¬ _) => ?_; rotate_right; refine fun (_ : _ = true) => ?_)
    | (with_reducible exact wps_pure (ent_val rfl)))
  refine wps_swap (pc_one (b := c) 7) ?_
  refine wps_callH (fun _ => device_Rack_Arm_spec rb (Rk.new 2 3) ds ps 1) fun _ => ?_
  refine wps_call2 (fun _ => device_Rack_Write_spec (H := byt ⟨some ⟨c, 0, none⟩, 64, 64⟩ (one 7)) rb ((Rk.new 2 3).arm 1) ds ps 1 2 _ (one 7) (Ent.refl _) (by decide)) fun e1 => ?_
  simp only [← star_assoc]
  refine wps_prP fun he1 => ?_
  refine wps_call2 (fun _ => device_Rack_Write_spec (H := byt ⟨some ⟨c, 0, none⟩, 64, 64⟩ (one 7)) rb (((Rk.new 2 3).arm 1).write 1 2 (one 7)) ds ps 1 1 _ (one 7) (Ent.refl _) (by decide)) fun e2 => ?_
  simp only [← star_assoc]
  refine wps_prP fun he2 => ?_
  generalize hR : (((Rk.new 2 3).arm 1).write 1 2 (one 7)).write 1 1 (one 7) = R
  refine wps_valH (fun _ => device_Rack_Off_val rb R ds ps) ?_
  repeat (first
    | (with_reducible refine wps_bindpure ?_)
    | (with_reducible refine wps_assoc ?_)
    | (with_reducible refine wps_nil ?_)
    | (with_reducible refine wps_stepAlloc fun _ => ?_)
    | (with_reducible refine wps_alloc fun _ => ?_)
    | (with_reducible refine wps_newO fun _ => ?_)
    | (refine wps_ld _ (by rfl) ?_)
    | (refine wps_ldG _ _ _ (by rfl) ?_)
    | (refine wps_ldA _ (by rfl) ?_)
    | (refine wps_ldI _ (by rfl) ?_)
    | (refine wps_ldGI _ _ _ (by rfl) ?_)
    | (refine wps_ldAI _ (by rfl) ?_)
    | (refine wps_st (by simp) ?_)
    | (refine wps_stA (by simp) (by simp [Value.oneCell']) ?_)
    | ((with_reducible apply wps_val); apply val_ite; rotate_left; refine fun (_ : ¬ _) => ?_; rotate_right; refine fun (_ : _ = true) => ?_)
    | ((with_reducible apply val_ite); rotate_left; refine fun (_ : ¬ _) => ?_; rotate_right; refine fun (_ : _ = true) => ?_)
    | (with_reducible refine wps_regionH ?_)
    | ((with_reducible apply wps_bindV); apply val_iteL; rotate_left; refine fun (_ : ¬ _) => ?_; rotate_right; refine fun (_ : _ = true) => ?_)
    | ((with_reducible apply val_iteL); rotate_left; refine fun (_ : ¬ _) => ?_; rotate_right; refine fun (_ : _ = true) => ?_)
    | (with_reducible exact wps_pure (ent_val rfl)))
  rename_i c2
  refine wps_swap (A := pc c2 [Value.int .i64 1]) (B := intsP ⟨some ⟨c2, 0, none⟩, 1, 1⟩ [1]) (Ent.trans (pc_own (n := 1) (z := 1) (by simp)) (own_rsl _ _ _)) ?_
  refine wps_call2 (fun _ => device_Rack_Restore_spec (H := intsP ⟨some ⟨c2, 0, none⟩, 1, 1⟩ [1]) hcv rb R ds ps _ [1] (Ent.refl _)) fun _ => ?_
  simp only [← star_assoc]
  refine wps_callH (fun _ => device_Rack_Lasting_spec rb (R.restore [1]) ds ps 1 2) fun y => ?_
  simp only [← star_assoc]
  refine wps_prP fun hy => ?_
  have hl : (R.restore [1]).lst 1 2 = one 7 := by subst hR; decide
  rw [hl]
  refine wps_fact (Ent.trans (ent_right _ _) (own_len _ _ _)) fun ⟨hl1, _⟩ => ?_
  have hl1' : y.1.len = 64 := by simpa [bv, one] using hl1.symm
  have g1 : e1 = 0 := by rw [he1]; decide
  have g2 : e2 = 12 := by rw [he2]; decide
  have g3 : R.off = true := by subst hR; decide
  subst g1 g2
  rw [g3]
  refine wps_val (v := true) (wps_ite (fun _ => wps_pure (ent_val rfl)) (fun h => absurd rfl h)) ?_
  refine wps_val (v := true) (wps_ite (fun _ => wps_pure (ent_val rfl)) (fun h => absurd rfl h)) ?_
  refine wps_val (v := true) ?_ ?_
  · refine wps_ite (fun _ => ?_) (fun h => absurd (by decide) h)
    refine wps_val (val_frame (F := emp * byt ⟨some ⟨c, 0, none⟩, 64, 64⟩ (one 7) * intsP ⟨some ⟨c2, 0, none⟩, 1, 1⟩ [1] * own 1 y.1 (bv (one 7))) (fun _ => device_Rack_Off_val rb (R.restore [1]) ds ps) (by ac_rfl)) ?_
    exact wps_pure (ent_val rfl)
  refine wps_val (v := true) (wps_ite (fun _ => wps_pure (ent_val (by simp [hl1']))) (fun h => absurd rfl h)) ?_
  refine wps_val (v := true) (wps_ite (fun _ => ?_) (fun h => absurd rfl h)) ?_
  · refine wps_rdS 0 7 rfl rfl ?_
    exact wps_pure (ent_val rfl)
  exact wps_pure (ent_prq rfl)
end Go.Proofs.Ytldmeimebebllaa
namespace Go.Proofs.Ytldmeimebebllaa
open Go.Mo
set_option linter.unusedVariables false
variable {g : Fr} {cv : CV}
/-- a calm rack of two disks of four sectors, each of which has one byte at its head -/
structure Wr (R : Rk) (sure : Nat → Int) (last : Nat → Option Int) : Prop where
  calm : Calm R
  n : R.n = 2
  ns : R.ns = 4
  lasts : ∀ j k : Nat, j < 2 → k < 4 → (R.dk j).lasts k = one (sure (j * 4 + k))
  cached : ∀ j k : Nat, j < 2 → k < 4 → (R.dk j).cached (k : Int) = (last (j * 4 + k)).map one
theorem noughts_one : noughts = one 0 := rfl
theorem Wr.new : Wr (Rk.new 2 4) (fun _ => 0) (fun _ => none) := ⟨Calm.new 2 4, rfl, rfl, fun _ _ _ _ => rfl, fun _ _ _ _ => rfl⟩
theorem Wr.put {R : Rk} {sure : Nat → Int} {last : Nat → Option Int} (h : Wr R sure last) {i : Nat} (hi : i < 8) (v : Int) :
    R.gate ((i / 4 : Nat) : Int) ((i % 4 : Nat) : Int) (one v).length = 0 ∧ Wr (R.write ((i / 4 : Nat) : Int) ((i % 4 : Nat) : Int) (one v)) sure (fun q => if q = i then some v else last q) := by
  have hw := h.calm.write (k := ((i / 4 : Nat) : Int)) (s := ((i % 4 : Nat) : Int)) (b := one v) (by rw [h.n]; omega) (by rw [h.ns]; omega) (one_len v)
  refine ⟨hw.1, ?_⟩
  rw [hw.2]
  refine ⟨h.calm.put _ _ _, h.n, h.ns, fun j k hj hk => ?_, fun j k hj hk => ?_⟩
  · simp only [Rk.put]
    split
    · exact h.lasts j k hj hk
    · exact h.lasts j k hj hk
  · simp only [Rk.put]
    by_cases hji : j = i / 4
    · rw [if_pos (by omega)]
      by_cases hki : k = i % 4
      · simp only [show (k : Int) = ((i % 4 : Nat) : Int) by omega, if_true]
        rw [if_pos (by omega)]; rfl
      · simp only [show ¬ (k : Int) = ((i % 4 : Nat) : Int) by omega, if_false]
        rw [if_neg (by omega)]
        exact h.cached j k hj hk
    · rw [if_neg (by omega), if_neg (by omega)]
      exact h.cached j k hj hk
theorem Wr.restore {R : Rk} {sure : Nat → Int} {last : Nat → Option Int} (h : Wr R sure last) (ks : List Int) {i : Nat} (hi : i < 8) :
    (R.restore ks).lst ((i / 4 : Nat) : Int) ((i % 4 : Nat) : Int) = one (if keepB ks (rank R i) = true then (last i).getD (sure i) else sure i) ∧ (R.restore ks).lErr ((i / 4 : Nat) : Int) ((i % 4 : Nat) : Int) = 0 := by
  have he : (R.restore ks).lErr ((i / 4 : Nat) : Int) ((i % 4 : Nat) : Int) = 0 := by
    rw [Rk.lErr, if_neg]
    show ¬ (_ ∨ _ ≥ (R.n : Int) ∨ _ ∨ _ ≥ (R.ns : Int))
    rw [h.n, h.ns]; omega
  refine ⟨?_, he⟩
  rw [Rk.lst, if_pos he]
  show (Dk.restored R ks ((i / 4 : Nat) : Int).toNat).lasts ((i % 4 : Nat) : Int).toNat = _
  rw [show ((i / 4 : Nat) : Int).toNat = i / 4 by omega, show ((i % 4 : Nat) : Int).toNat = i % 4 by omega]
  simp only [Dk.restored, Dk.clean, Dk.flushed, h.cached (i / 4) (i % 4) (by omega) (by omega), h.lasts (i / 4) (i % 4) (by omega) (by omega), h.calm.failed, h.ns]
  have h1 : i / 4 * 4 + i % 4 = i := by omega
  have h2 : ((i % 4 : Nat) : Int).toNat = i % 4 := by omega
  rw [h1, h2, h1]
  cases last i with
  | none => simp
  | some v => cases keepB ks (rank R i) <;> simp
theorem keep3 (n : Nat) : keepB [3] n = true := by
  rw [keepB, if_neg (by decide), show n % [(3 : Int)].length = 0 from Nat.mod_one n]; decide
theorem keep0 (n : Nat) : keepB [] n = false := rfl
theorem idx7 (x : Int) : ∃ i : Nat, i < 8 ∧ bAnd .i64 x 7 = (i : Int) ∧ w64 (Int.tdiv (bAnd .i64 x 7) 4) = ((i / 4 : Nat) : Int) ∧ Int.tmod (bAnd .i64 x 7) 4 = ((i % 4 : Nat) : Int) := by
  have h := bAnd_le x 7 (by omega)
  have h' : ((7 : Nat) : Int) = 7 := rfl
  rw [h'] at h
  obtain ⟨i, hi⟩ : ∃ i : Nat, bAnd .i64 x 7 = (i : Int) := ⟨(bAnd .i64 x 7).toNat, by omega⟩
  refine ⟨i, by omega, hi, ?_, ?_⟩
  · rw [hi, show Int.tdiv (i : Int) 4 = ((i / 4 : Nat) : Int) from rfl, w64_id] <;> omega
  · rw [hi]; rfl
theorem idx8 {s : Int} {i : Nat} (h : s = (i : Int)) (hi : i < 8) : w64 (Int.tdiv s 4) = ((i / 4 : Nat) : Int) ∧ Int.tmod s 4 = ((i % 4 : Nat) : Int) := by
  subst h
  refine ⟨?_, rfl⟩
  rw [show Int.tdiv (i : Int) 4 = ((i / 4 : Nat) : Int) from rfl, w64_id] <;> omega
/-- eight bytes -/
def eight (f : Nat → Int) : List Value := (List.range 8).map fun i => .int .u8 (f i)
theorem eight_set (f : Nat → Int) {i : Nat} (hi : i < 8) (v : Int) : (eight f).set (0 + i * 1) (.int .u8 v) = eight fun q => if q = i then v else f q := by
  apply List.ext_getElem?
  intro q
  rw [Nat.zero_add, Nat.mul_one, List.getElem?_set]
  unfold eight
  simp only [List.getElem?_map, List.length_map, List.length_range]
  by_cases hq : q < 8
  · rw [List.getElem?_range hq]
    by_cases h : i = q
    · subst h; simp [hq]
    · have : ¬ q = i := fun e => h e.symm
      simp [h, this]
  · rw [List.getElem?_eq_none (by simpa using hq)]
    have : ¬ i = q := by omega
    simp [this]
theorem eight_get (f : Nat → Int) {i : Nat} (hi : i < 8) : (eight f)[0 + i * 1]? = some (.int .u8 (f i)) := by
  rw [Nat.zero_add, Nat.mul_one]
  unfold eight
  rw [List.getElem?_map, List.getElem?_range hi]; rfl
def keepW (all : Bool) (last : Nat → Option Int) (i : Nat) : Int := if all = true then (last i).getD 0 else 0
theorem law02_DeviceKeeps_spec (hcv : KeysOk cv) (x : Slc) (xs : List Int) (all : Bool) : wps g (intsP x xs) (law02_DeviceKeeps cv x all) (fun b => pr (b = true)) := by
  unfold law02_DeviceKeeps
  refine wps_callE (fun _ => law02_alive_spec hcv) fun a => ?_
  refine wps_prP fun ha => ?_
  subst ha
  refine wps_fact (ilen_of (H := intsP x xs) (Ent.refl _)) fun hl => ?_
  refine wps_ite (fun h => absurd h (by decide)) (fun _ => ?_)
  refine wps_ite (fun _ => wps_pure (ent_prq rfl)) (fun hle => ?_)
  have hle' : xs.length ≤ 100 := by simp only [decide_eq_true_eq] at hle; omega
  refine wps_callE (fun _ => device_New_spec 2 4) fun y => ?_
  rw [if_neg (by decide), show Rk.new (Int.toNat 2) (Int.toNat 4) = Rk.new 2 4 from rfl]
  refine wps_exP fun rb => ?_
  simp only [← star_assoc]
  refine wps_prP fun hy => ?_
  subst hy
  unfold rack
  refine wps_exP fun ds => wps_exP fun ps => ?_
  repeat (first
    | (with_reducible refine wps_bindpure ?_)
    | (with_reducible refine wps_assoc ?_)
    | (with_reducible refine wps_nil ?_)
    | (with_reducible refine wps_stepAlloc fun _ => ?_)
    | (with_reducible refine wps_alloc fun _ => ?_)
    | (with_reducible refine wps_newO fun _ => ?_)
    | (refine wps_ld _ (by rfl) ?_)
    | (refine wps_ldG _ _ _ (by rfl) ?_)
    | (refine wps_ldA _ (by rfl) ?_)
    | (refine wps_ldI _ (by rfl) ?_)
    | (refine wps_ldGI _ _ _ (by rfl) ?_)
    | (refine wps_ldAI _ (by rfl) ?_)
    | (refine wps_st (by simp) ?_)
    | (refine wps_stA (by simp) (by simp [Value.oneCell']) ?_)
    | ((with_reducible apply wps_val); apply val_ite; rotate_left; refine fun (_ : ¬ _) => ?_; rotate_right; refine fun (_ : _ = true) => ?_)
    | ((with_reducible apply val_ite); rotate_left; refine fun (_ : ¬ _) => ?_; rotate_right; refine fun (_ : _ = true) => ?_)
    | (with_reducible refine wps_regionH ?_)
    | ((with_reducible apply wps_bindV); apply val_iteL; rotate_left; refine fun (_ : ¬ _) => ?_; rotate_right; refine fun (_ : _ = true) => ?_)
    | ((with_reducible apply val_iteL); rotate_left; refine fun (_ : ¬ _) => ?_; rotate_right; refine fun (_ : _ = true) => ?_)
    | (with_reducible exact wps_pure (ent_val rfl)))
  refine wps_ite (fun h => absurd h (by simp)) (fun _ => ?_)
  repeat (first
    | (with_reducible refine wps_bindpure ?_)
    | (with_reducible refine wps_assoc ?_)
    | (with_reducible refine wps_nil ?_)
    | (with_reducible refine wps_stepAlloc fun _ => ?_)
    | (with_reducible refine wps_alloc fun _ => ?_)
    | (with_reducible refine wps_newO fun _ => ?_)
    | (refine wps_ld _ (by rfl) ?_)
    | (refine wps_ldG _ _ _ (by rfl) ?_)
    | (refine wps_ldA _ (by rfl) ?_)
    | (refine wps_ldI _ (by rfl) ?_)
    | (refine wps_ldGI _ _ _ (by rfl) ?_)
    | (refine wps_ldAI _ (by rfl) ?_)
    | (refine wps_st (by simp) ?_)
    | (refine wps_stA (by simp) (by simp [Value.oneCell']) ?_)
    | ((with_reducible apply wps_val); apply val_ite; rotate_left; refine fun (_ : ¬ _) => ?_; rotate_right; refine fun (_ : _ = true) => ?_)
    | ((with_reducible apply val_ite); rotate_left; refine fun (_ : ¬ _) => ?_; rotate_right; refine fun (_ : _ = true) => ?_)
    | (with_reducible refine wps_regionH ?_)
    | ((with_reducible apply wps_bindV); apply val_iteL; rotate_left; refine fun (_ : ¬ _) => ?_; rotate_right; refine fun (_ : _ = true) => ?_)
    | ((with_reducible apply val_iteL); rotate_left; refine fun (_ : ¬ _) => ?_; rotate_right; refine fun (_ : _ = true) => ?_)
    | (with_reducible exact wps_pure (ent_val rfl)))
  rename_i c7
  refine wps_loop (fun s => ex fun n : Nat => ex fun last : Nat → Option Int => ex fun R : Rk => pr (s = (n : Int) ∧ n ≤ xs.length ∧ Wr R (fun _ => 0) last) * intsP x xs * rackP rb R ds ps * pc c7 (eight (keepW all last))) (fun s => (xs.length - s).toNat) ?_ fun s => ?_
  · refine ent_ex 0 (ent_ex (fun _ => none) (ent_ex (Rk.new 2 4) ?_))
    refine ent_pickC ?_ ?_
    · show _ = eight _
      cases all <;> rfl
    · repeat (first
        | (with_reducible exact ent_drop)
        | (with_reducible refine ent_pick ?_)
        | (refine ent_pickC (by rfl) ?_)
        | (refine ent_pickS (by rfl) ?_)
        | (refine ent_pickM (by rfl) ?_)
        | (refine ent_prx ?_ ?_; rotate_left)
        | (refine ent_prq ?_))
      all_goals first | exact ⟨rfl, by omega, Wr.new⟩ | trivial
  · refine wps_ex fun n => wps_ex fun last => wps_ex fun R => wps_prP fun ⟨hs, hn, hW⟩ => ?_
    refine wps_ite (fun hc => ?_) (fun hc => ?_)
    · have hlt : n < xs.length := by simp only [decide_eq_true_eq] at hc; omega
      refine wps_rdS n xs[n] hs (by simp [zv]) ?_
      obtain ⟨i, hi, e1, e2, e3⟩ := idx7 xs[n]
      rw [e2, e3, e1]
      generalize IntKind.wrap .u8 (w64 (s + 1)) = v
      repeat (first
        | (with_reducible refine wps_bindpure ?_)
        | (with_reducible refine wps_assoc ?_)
        | (with_reducible refine wps_nil ?_)
        | (with_reducible refine wps_stepAlloc fun _ => ?_)
        | (with_reducible refine wps_alloc fun _ => ?_)
        | (with_reducible refine wps_newO fun _ => ?_)
        | (refine wps_ld _ (by rfl) ?_)
        | (refine wps_ldG _ _ _ (by rfl) ?_)
        | (refine wps_ldA _ (by rfl) ?_)
        | (refine wps_ldI _ (by rfl) ?_)
        | (refine wps_ldGI _ _ _ (by rfl) ?_)
        | (refine wps_ldAI _ (by rfl) ?_)
        | (refine wps_st (by simp) ?_)
        | (refine wps_stA (by simp) (by simp [Value.oneCell']) ?_)
        | ((with_reducible apply wps_val); apply val_ite; rotate_left; refine fun (_ : ¬ _) => ?_; rotate_right; refine fun (_ : _ = true) => ?_)
        | ((with_reducible apply val_ite); rotate_left; refine fun (_ : ¬ _) => ?_; rotate_right; refine fun (_ : _ = true) => ?_)
        | (with_reducible refine wps_regionH ?_)
        | ((with_reducible apply wps_bindV); apply val_iteL; rotate_left; refine fun (_ : ¬ _) => ?_; rotate_right; refine fun (_ : _ = true) => ?_)
        | ((with_reducible apply val_iteL); rotate_left; refine fun (_ : ¬ _) => ?_; rotate_right; refine fun (_ : _ = true) => ?_)
        | (with_reducible exact wps_pure (ent_val rfl)))
      rename_i b
      refine wps_idx 0 rfl rfl (by (try dsimp only); omega) ?_
      repeat (first
        | (with_reducible refine wps_bindpure ?_)
        | (with_reducible refine wps_assoc ?_)
        | (with_reducible refine wps_nil ?_)
        | (with_reducible refine wps_stepAlloc fun _ => ?_)
        | (with_reducible refine wps_alloc fun _ => ?_)
        | (with_reducible refine wps_newO fun _ => ?_)
        | (refine wps_ld _ (by rfl) ?_)
        | (refine wps_ldG _ _ _ (by rfl) ?_)
        | (refine wps_ldA _ (by rfl) ?_)
        | (refine wps_ldI _ (by rfl) ?_)
        | (refine wps_ldGI _ _ _ (by rfl) ?_)
        | (refine wps_ldAI _ (by rfl) ?_)
        | (refine wps_st (by simp) ?_)
        | (refine wps_stA (by simp) (by simp [Value.oneCell']) ?_)
        | ((with_reducible apply wps_val); apply val_ite; rotate_left; refine fun (_ : ¬ _) => ?_; rotate_right; refine fun (_ : _ = true) => ?_)
        | ((with_reducible apply val_ite); rotate_left; refine fun (_ : ¬ _) => ?_; rotate_right; refine fun (_ : _ = true) => ?_)
        | (with_reducible refine wps_regionH ?_)
        | ((with_reducible apply wps_bindV); apply val_iteL; rotate_left; refine fun (_ : ¬ _) => ?_; rotate_right; refine fun (_ : _ = true) => ?_)
        | ((with_reducible apply val_iteL); rotate_left; refine fun (_ : ¬ _) => ?_; rotate_right; refine fun (_ : _ = true) => ?_)
        | (with_reducible exact wps_pure (ent_val rfl)))
      refine wps_swap (pc_one (b := b) v) ?_
      have hp := hW.put hi v
      refine wps_call2 (fun _ => device_Rack_Write_spec (H := byt ⟨some ⟨b, 0, none⟩, 64, 64⟩ (one v)) rb R ds ps _ _ _ (one v) (Ent.refl _) (by rw [one_len]; omega)) fun e => ?_
      simp only [← star_assoc]
      refine wps_prP fun he => ?_
      rw [hp.1] at he
      subst he
      refine wps_ite (fun h => absurd h (by decide)) (fun _ => ?_)
      have hend : ∀ W, W = eight (keepW all fun q => if q = i then some v else last q) → Ent (emp * intsP x xs * pc c7 W * byt ⟨some ⟨b, 0, none⟩, 64, 64⟩ (one v) * rackP rb (R.write ((i / 4 : Nat) : Int) ((i % 4 : Nat) : Int) (one v)) ds ps)
          (pr ((xs.length - w64 (s + 1)).toNat < (xs.length - s).toNat) * ex fun n : Nat => ex fun last : Nat → Option Int => ex fun R : Rk => pr (w64 (s + 1) = (n : Int) ∧ n ≤ xs.length ∧ Wr R (fun _ => 0) last) * intsP x xs * rackP rb R ds ps * pc c7 (eight (keepW all last))) := by
        intro W hW'
        refine ent_prr (by rw [range_add1 hs (by omega)]; omega) (ent_ex (n + 1) (ent_ex (fun q => if q = i then some v else last q) (ent_ex (R.write ((i / 4 : Nat) : Int) ((i % 4 : Nat) : Int) (one v)) ?_)))
        refine ent_pickC hW' (ent_pick ?_)
        repeat (first
          | (with_reducible exact ent_drop)
          | (with_reducible refine ent_pick ?_)
          | (refine ent_pickC (by rfl) ?_)
          | (refine ent_pickS (by rfl) ?_)
          | (refine ent_pickM (by rfl) ?_)
          | (refine ent_prx ?_ ?_; rotate_left)
          | (refine ent_prq ?_))
        all_goals first | exact ⟨range_add1 hs (by omega), by omega, hp.2⟩ | trivial
      refine wps_ite (fun hall => ?_) (fun hall => ?_)
      · refine wps_idxA i rfl hi ?_
        refine wps_st (by simp [eight]; omega) (wps_pure ?_)
        refine Ent.trans (Ent.of_eq ?_) (hend _ rfl)
        rw [eight_set _ hi]
        have : (fun q => if q = i then v else keepW all last q) = keepW all fun q => if q = i then some v else last q := by
          funext q; by_cases hq : q = i <;> simp [keepW, hall, hq]
        rw [this]
        ac_rfl
      · refine wps_pure (Ent.trans (Ent.of_eq ?_) (hend _ rfl))
        have : keepW all last = keepW all fun q => if q = i then some v else last q := by
          funext q; simp [keepW, hall]
        rw [this]
    · refine wps_mapR ?_
      refine wps_alloc fun k => ?_
      refine wps_bindS (R := fun b => intsP x xs * rackP rb R ds ps * pc c7 (eight (keepW all last)) * intsP b (if all = true then [3] else [])) ?_ fun b => ?_
      · refine wps_swap (A := pc k []) (B := own 1 ⟨some ⟨k, 0, none⟩, 0, 0⟩ []) (pc_own (n := 0) (z := 1) rfl) ?_
        refine wps_ite (fun hall => ?_) (fun hall => ?_)
        · repeat (first
            | (with_reducible refine wps_bindpure ?_)
            | (with_reducible refine wps_assoc ?_)
            | (with_reducible refine wps_nil ?_)
            | (with_reducible refine wps_stepAlloc fun _ => ?_)
            | (with_reducible refine wps_alloc fun _ => ?_)
            | (with_reducible refine wps_newO fun _ => ?_)
            | (refine wps_ld _ (by rfl) ?_)
            | (refine wps_ldG _ _ _ (by rfl) ?_)
            | (refine wps_ldA _ (by rfl) ?_)
            | (refine wps_ldI _ (by rfl) ?_)
            | (refine wps_ldGI _ _ _ (by rfl) ?_)
            | (refine wps_ldAI _ (by rfl) ?_)
            | (refine wps_st (by simp) ?_)
            | (refine wps_stA (by simp) (by simp [Value.oneCell']) ?_)
            | ((with_reducible apply wps_val); apply val_ite; rotate_left; refine fun (_ : ¬ _) => ?_; rotate_right; refine fun (_ : _ = true) => ?_)
            | ((with_reducible apply val_ite); rotate_left; refine fun (_ : ¬ _) => ?_; rotate_right; refine fun (_ : _ = true) => ?_)
            | (with_reducible refine wps_regionH ?_)
            | ((with_reducible apply wps_bindV); apply val_iteL; rotate_left; refine fun (_ : ¬ _) => ?_; rotate_right; refine fun (_ : _ = true) => ?_)
            | ((with_reducible apply val_iteL); rotate_left; refine fun (_ : ¬ _) => ?_; rotate_right; refine fun (_ : _ = true) => ?_)
            | (with_reducible exact wps_pure (ent_val rfl)))
          refine wps_app 1 [Value.int .i64 3] rfl (by decide) (rsl_pc rfl) (by simp [Value.oneCell']) (by (try dsimp only); omega) fun u hu => ?_
          refine wps_pure ?_
          show Ent _ (_ * intsP u _)
          rw [if_pos hall]
          refine ent_swap (A := own 1 u ([] ++ [Value.int .i64 3])) (B := intsP u [3]) (own_rsl _ _ _) ?_
          repeat (first
            | (with_reducible exact ent_drop)
            | (with_reducible refine ent_pick ?_)
            | (refine ent_pickC (by rfl) ?_)
            | (refine ent_pickS (by rfl) ?_)
            | (refine ent_pickM (by rfl) ?_)
            | (refine ent_prx ?_ ?_; rotate_left)
            | (refine ent_prq ?_))
        · refine wps_pure ?_
          show Ent _ (_ * intsP _ _)
          rw [if_neg hall]
          refine ent_swap (A := own 1 ⟨some ⟨k, 0, none⟩, 0, 0⟩ []) (B := intsP ⟨some ⟨k, 0, none⟩, 0, 0⟩ []) (own_rsl _ _ _) ?_
          repeat (first
            | (with_reducible exact ent_drop)
            | (with_reducible refine ent_pick ?_)
            | (refine ent_pickC (by rfl) ?_)
            | (refine ent_pickS (by rfl) ?_)
            | (refine ent_pickM (by rfl) ?_)
            | (refine ent_prx ?_ ?_; rotate_left)
            | (refine ent_prq ?_))
      · refine wps_call2 (fun _ => device_Rack_Restore_spec (H := intsP b (if all = true then [3] else [])) hcv rb R ds ps b _ (Ent.refl _)) fun _ => ?_
        simp only [← star_assoc]
        refine wps_loop (fun s => ex fun n : Nat => pr (s = (n : Int) ∧ n ≤ 8) * pc c7 (eight (keepW all last)) * rackP rb (R.restore (if all = true then [3] else [])) ds ps) (fun s => (8 - s).toNat) ?_ fun s => ?_
        · refine ent_ex 0 ?_
          repeat (first
            | (with_reducible exact ent_drop)
            | (with_reducible refine ent_pick ?_)
            | (refine ent_pickC (by rfl) ?_)
            | (refine ent_pickS (by rfl) ?_)
            | (refine ent_pickM (by rfl) ?_)
            | (refine ent_prx ?_ ?_; rotate_left)
            | (refine ent_prq ?_))
          all_goals first | exact ⟨rfl, by omega⟩ | trivial
        · refine wps_ex fun n => wps_prP fun ⟨hs, hn⟩ => ?_
          refine wps_ite (fun hc => ?_) (fun hc => ?_)
          · have hlt : n < 8 := by simp only [decide_eq_true_eq] at hc; omega
            obtain ⟨e2, e3⟩ := idx8 hs hlt
            rw [e2, e3]
            obtain ⟨r1, r2⟩ := hW.restore (if all = true then [3] else []) hlt
            refine wps_callH (fun _ => device_Rack_Lasting_spec rb (R.restore (if all = true then [3] else [])) ds ps _ _) fun y => ?_
            rw [r1, r2]
            have hv : (if keepB (if all = true then [3] else []) (rank R n) = true then (last n).getD 0 else 0) = keepW all last n := by
              cases all
              · simp [keep0, keepW]
              · simp [keep3, keepW]
            rw [hv]
            simp only [← star_assoc]
            refine wps_prP fun hy => ?_
            rw [hy]
            refine wps_fact (Ent.trans (ent_right _ _) (own_len _ _ _)) fun ⟨hl1, _⟩ => ?_
            have hl1' : y.1.len = 64 := by simpa [bv, one] using hl1.symm
            refine wps_regionH ?_
            refine wps_ite (fun h => absurd h (by decide)) (fun _ => ?_)
            refine wps_ite (fun h => absurd h (by simp [hl1'])) (fun _ => ?_)
            refine wps_rdI 0 (keepW all last n) (Ent.trans (ent_right _ _) (own_rsl _ _ _)) (Ent.refl _) rfl rfl ?_
            refine wps_idxA n hs hlt ?_
            refine wps_ldI (keepW all last n) (eight_get _ hlt) ?_
            refine wps_ite (fun h => absurd h (by simp)) (fun _ => wps_pure ?_)
            refine ent_prr (by rw [range_add1 hs (by omega)]; omega) (ent_ex (n + 1) ?_)
            repeat (first
              | (with_reducible exact ent_drop)
              | (with_reducible refine ent_pick ?_)
              | (refine ent_pickC (by rfl) ?_)
              | (refine ent_pickS (by rfl) ?_)
              | (refine ent_pickM (by rfl) ?_)
              | (refine ent_prx ?_ ?_; rotate_left)
              | (refine ent_prq ?_))
            all_goals first | exact ⟨range_add1 hs (by omega), by omega⟩ | trivial
          · exact wps_mapR (wps_pure (ent_prq rfl))
end Go.Proofs.Ytldmeimebebllaa
namespace Go.Proofs.Ytldmeimebebllaa
open Go.Mo
set_option linter.unusedVariables false
variable {g : Fr} {cv : CV}
theorem Calm.setD {R : Rk} (h : Calm R) {k : Nat} {D : Dk} (hf : D.failed = false) (hc : D.count = -1) : Calm (R.setD k D) := by
  refine ⟨h.off, h.count, fun j => ?_, fun j => ?_⟩
  · simp only [Rk.setD]; split
    · exact hf
    · exact h.failed j
  · simp only [Rk.setD]; split
    · exact hc
    · exact h.counts j
theorem Calm.flush {R : Rk} (h : Calm R) {k : Int} (hk : 0 ≤ k ∧ k < R.n) (hs : 0 < R.ns) : R.gate k 0 64 = 0 ∧ R.flush k = R.setD k.toNat (((R.dk k.toNat).flushed fun _ => true).clean) ∧ Calm (R.flush k) := by
  have hg := h.gate hk (s := 0) (by omega)
  obtain ⟨_, _, _, _, hgd⟩ := gate_ok hg
  have he : R.flush k = R.setD k.toNat (((R.dk k.toNat).flushed fun _ => true).clean) := by rw [Rk.flush, if_pos hg, hgd, h.tick]
  refine ⟨hg, he, ?_⟩
  rw [he]
  exact h.setD (h.failed _) (h.counts _)
theorem Wr.flush {R : Rk} {sure : Nat → Int} {last : Nat → Option Int} (h : Wr R sure last) :
    R.gate 0 0 64 = 0 ∧ (R.flush 0).gate 1 0 64 = 0 ∧ Wr ((R.flush 0).flush 1) (fun q => (last q).getD (sure q)) (fun _ => none) := by
  have h1 := h.calm.flush (k := 0) (by rw [h.n]; omega) (by rw [h.ns]; omega)
  have hn1 := flush_n (R := R) 0
  have h2 := h1.2.2.flush (k := 1) (by rw [hn1.1, h.n]; omega) (by rw [hn1.2, h.ns]; omega)
  have hn2 := flush_n (R := R.flush 0) 1
  refine ⟨h1.1, h2.1, h2.2.2, by rw [hn2.1, hn1.1, h.n], by rw [hn2.2, hn1.2, h.ns], fun j k hj hk => ?_, fun j k hj hk => ?_⟩
  · rw [h2.2.1, h1.2.1]
    have hjj : j = 0 ∨ j = 1 := by omega
    rcases hjj with e | e <;> subst e
    · have hc := h.cached 0 k (by omega) hk
      have hl := h.lasts 0 k (by omega) hk
      simp only [Rk.setD, Dk.flushed, Dk.clean, Int.toNat_zero, show Int.toNat 1 = 1 from rfl, show ¬ (0 : Nat) = 1 by omega, if_false, if_true, hc, hl]
      cases last (0 * 4 + k) <;> rfl
    · have hc := h.cached 1 k (by omega) hk
      have hl := h.lasts 1 k (by omega) hk
      simp only [Rk.setD, Dk.flushed, Dk.clean, Int.toNat_zero, show Int.toNat 1 = 1 from rfl, show ¬ (1 : Nat) = 0 by omega, if_false, if_true, hc, hl]
      cases last (1 * 4 + k) <;> rfl
  · rw [h2.2.1, h1.2.1]
    have hjj : j = 0 ∨ j = 1 := by omega
    rcases hjj with e | e <;> subst e <;> simp [Rk.setD, Dk.clean]
theorem Wr.reads {R : Rk} {sure : Nat → Int} {last : Nat → Option Int} (h : Wr R sure last) (ks : List Int) {i : Nat} (hi : i < 8) :
    (R.restore ks).rd ((i / 4 : Nat) : Int) ((i % 4 : Nat) : Int) = one (if keepB ks (rank R i) = true then (last i).getD (sure i) else sure i) ∧ (R.restore ks).rdErr ((i / 4 : Nat) : Int) ((i % 4 : Nat) : Int) = 0 := by
  have h1 := h.restore ks hi
  have hr : ¬ (((i / 4 : Nat) : Int) < 0 ∨ ((i / 4 : Nat) : Int) ≥ ((R.restore ks).n : Int) ∨ ((i % 4 : Nat) : Int) < 0 ∨ ((i % 4 : Nat) : Int) ≥ ((R.restore ks).ns : Int)) := by
    show ¬ (_ ∨ _ ≥ (R.n : Int) ∨ _ ∨ _ ≥ (R.ns : Int))
    rw [h.n, h.ns]; omega
  have he : (R.restore ks).rdErr ((i / 4 : Nat) : Int) ((i % 4 : Nat) : Int) = 0 := by
    rw [Rk.rdErr, if_neg (by simp [Rk.restore]), if_neg hr, if_neg]
    show ¬ (R.dk _).failed = true
    simp [h.calm.failed]
  refine ⟨?_, he⟩
  rw [← h1.1, Rk.rd, if_pos he, Rk.lst, if_pos h1.2]
  rfl
theorem law02_DeviceLasts_spec (hcv : KeysOk cv) (x : Slc) (xs : List Int) (fl : Int) (y : Slc) (ks : List Int) : wps g (intsP x xs * intsP y ks) (law02_DeviceLasts cv x fl y) (fun b => pr (b = true)) := by
  unfold law02_DeviceLasts
  refine wps_callE (fun _ => law02_alive_spec hcv) fun a => ?_
  refine wps_prP fun ha => ?_
  subst ha
  refine wps_fact (ilen_of (H := intsP x xs * intsP y ks) (s := x) (b := xs) (ent_left _ _)) fun hl => ?_
  refine wps_ite (fun h => absurd h (by decide)) (fun _ => ?_)
  repeat (first
    | (with_reducible refine wps_bindpure ?_)
    | (with_reducible refine wps_assoc ?_)
    | (with_reducible refine wps_nil ?_)
    | (with_reducible refine wps_stepAlloc fun _ => ?_)
    | (with_reducible refine wps_alloc fun _ => ?_)
    | (with_reducible refine wps_newO fun _ => ?_)
    | (refine wps_ld _ (by rfl) ?_)
    | (refine wps_ldG _ _ _ (by rfl) ?_)
    | (refine wps_ldA _ (by rfl) ?_)
    | (refine wps_ldI _ (by rfl) ?_)
    | (refine wps_ldGI _ _ _ (by rfl) ?_)
    | (refine wps_ldAI _ (by rfl) ?_)
    | (refine wps_st (by simp) ?_)
    | (refine wps_stA (by simp) (by simp [Value.oneCell']) ?_)
    | ((with_reducible apply wps_val); apply val_ite; rotate_left; refine fun (_ : ¬ _) => ?_; rotate_right; refine fun (_ : _ = true) => ?_)
    | ((with_reducible apply val_ite); rotate_left; refine fun (_ : ¬ _) => ?_; rotate_right; refine fun (_ : _ = true) => ?_)
    | (with_reducible refine wps_regionH ?_)
    | ((with_reducible apply wps_bindV); apply val_iteL; rotate_left; refine fun (_ : ¬ _) => ?_; rotate_right; refine fun (_ : _ = true) => ?_)
    | ((with_reducible apply val_iteL); rotate_left; refine fun (_ : ¬ _) => ?_; rotate_right; refine fun (_ : _ = true) => ?_)
    | (with_reducible exact wps_pure (ent_val rfl)))
  refine wps_ite (fun _ => wps_pure (ent_prq rfl)) (fun hle => ?_)
  have hle' : xs.length ≤ 200 := by
    by_cases h : (x.len : Int) > 200
    · simp [h] at hle
    · omega
  refine wps_callE (fun _ => device_New_spec 2 4) fun z => ?_
  rw [if_neg (by decide), show Rk.new (Int.toNat 2) (Int.toNat 4) = Rk.new 2 4 from rfl]
  refine wps_exP fun rb => ?_
  simp only [← star_assoc]
  refine wps_prP fun hz => ?_
  subst hz
  unfold rack
  refine wps_exP fun ds => wps_exP fun ps => ?_
  repeat (first
    | (with_reducible refine wps_bindpure ?_)
    | (with_reducible refine wps_assoc ?_)
    | (with_reducible refine wps_nil ?_)
    | (with_reducible refine wps_stepAlloc fun _ => ?_)
    | (with_reducible refine wps_alloc fun _ => ?_)
    | (with_reducible refine wps_newO fun _ => ?_)
    | (refine wps_ld _ (by rfl) ?_)
    | (refine wps_ldG _ _ _ (by rfl) ?_)
    | (refine wps_ldA _ (by rfl) ?_)
    | (refine wps_ldI _ (by rfl) ?_)
    | (refine wps_ldGI _ _ _ (by rfl) ?_)
    | (refine wps_ldAI _ (by rfl) ?_)
    | (refine wps_st (by simp) ?_)
    | (refine wps_stA (by simp) (by simp [Value.oneCell']) ?_)
    | ((with_reducible apply wps_val); apply val_ite; rotate_left; refine fun (_ : ¬ _) => ?_; rotate_right; refine fun (_ : _ = true) => ?_)
    | ((with_reducible apply val_ite); rotate_left; refine fun (_ : ¬ _) => ?_; rotate_right; refine fun (_ : _ = true) => ?_)
    | (with_reducible refine wps_regionH ?_)
    | ((with_reducible apply wps_bindV); apply val_iteL; rotate_left; refine fun (_ : ¬ _) => ?_; rotate_right; refine fun (_ : _ = true) => ?_)
    | ((with_reducible apply val_iteL); rotate_left; refine fun (_ : ¬ _) => ?_; rotate_right; refine fun (_ : _ = true) => ?_)
    | (with_reducible exact wps_pure (ent_val rfl)))
  refine wps_ite (fun h => absurd h (by simp)) (fun _ => ?_)
  repeat (first
    | (with_reducible refine wps_bindpure ?_)
    | (with_reducible refine wps_assoc ?_)
    | (with_reducible refine wps_nil ?_)
    | (with_reducible refine wps_stepAlloc fun _ => ?_)
    | (with_reducible refine wps_alloc fun _ => ?_)
    | (with_reducible refine wps_newO fun _ => ?_)
    | (refine wps_ld _ (by rfl) ?_)
    | (refine wps_ldG _ _ _ (by rfl) ?_)
    | (refine wps_ldA _ (by rfl) ?_)
    | (refine wps_ldI _ (by rfl) ?_)
    | (refine wps_ldGI _ _ _ (by rfl) ?_)
    | (refine wps_ldAI _ (by rfl) ?_)
    | (refine wps_st (by simp) ?_)
    | (refine wps_stA (by simp) (by simp [Value.oneCell']) ?_)
    | ((with_reducible apply wps_val); apply val_ite; rotate_left; refine fun (_ : ¬ _) => ?_; rotate_right; refine fun (_ : _ = true) => ?_)
    | ((with_reducible apply val_ite); rotate_left; refine fun (_ : ¬ _) => ?_; rotate_right; refine fun (_ : _ = true) => ?_)
    | (with_reducible refine wps_regionH ?_)
    | ((with_reducible apply wps_bindV); apply val_iteL; rotate_left; refine fun (_ : ¬ _) => ?_; rotate_right; refine fun (_ : _ = true) => ?_)
    | ((with_reducible apply val_iteL); rotate_left; refine fun (_ : ¬ _) => ?_; rotate_right; refine fun (_ : _ = true) => ?_)
    | (with_reducible exact wps_pure (ent_val rfl)))
  rename_i c9 c10
  refine wps_loop (fun s => ex fun n : Nat => ex fun sure : Nat → Int => ex fun last : Nat → Option Int => ex fun R : Rk => pr (s = (n : Int) ∧ n ≤ xs.length ∧ Wr R sure last) * intsP x xs * intsP y ks * rackP rb R ds ps * pc c9 (eight sure) * pc c10 (eight fun q => (last q).getD (sure q))) (fun s => (xs.length - s).toNat) ?_ fun s => ?_
  · refine ent_ex 0 (ent_ex (fun _ => 0) (ent_ex (fun _ => none) (ent_ex (Rk.new 2 4) ?_)))
    refine ent_pickC (by rfl) (ent_pickC (by rfl) ?_)
    repeat (first
      | (with_reducible exact ent_drop)
      | (with_reducible refine ent_pick ?_)
      | (refine ent_pickC (by rfl) ?_)
      | (refine ent_pickS (by rfl) ?_)
      | (refine ent_pickM (by rfl) ?_)
      | (refine ent_prx ?_ ?_; rotate_left)
      | (refine ent_prq ?_))
    all_goals first | exact ⟨rfl, by omega, Wr.new⟩ | trivial
  · refine wps_ex fun n => wps_ex fun sure => wps_ex fun last => wps_ex fun R => wps_prP fun ⟨hs, hn, hW⟩ => ?_
    refine wps_ite (fun hc => ?_) (fun hc => ?_)
    · have hlt : n < xs.length := by simp only [decide_eq_true_eq] at hc; omega
      refine wps_rdS n xs[n] hs (by simp [zv]) ?_
      obtain ⟨i, hi, e1, e2, e3⟩ := idx7 xs[n]
      rw [e2, e3, e1]
      generalize IntKind.wrap .u8 (w64 (s + 1)) = v
      repeat (first
        | (with_reducible refine wps_bindpure ?_)
        | (with_reducible refine wps_assoc ?_)
        | (with_reducible refine wps_nil ?_)
        | (with_reducible refine wps_stepAlloc fun _ => ?_)
        | (with_reducible refine wps_alloc fun _ => ?_)
        | (with_reducible refine wps_newO fun _ => ?_)
        | (refine wps_ld _ (by rfl) ?_)
        | (refine wps_ldG _ _ _ (by rfl) ?_)
        | (refine wps_ldA _ (by rfl) ?_)
        | (refine wps_ldI _ (by rfl) ?_)
        | (refine wps_ldGI _ _ _ (by rfl) ?_)
        | (refine wps_ldAI _ (by rfl) ?_)
        | (refine wps_st (by simp) ?_)
        | (refine wps_stA (by simp) (by simp [Value.oneCell']) ?_)
        | ((with_reducible apply wps_val); apply val_ite; rotate_left; refine fun (_ : ¬ _) => ?_; rotate_right; refine fun (_ : _ = true) => ?_)
        | ((with_reducible apply val_ite); rotate_left; refine fun (_ : ¬ _) => ?_; rotate_right; refine fun (_ : _ = true) => ?_)
        | (with_reducible refine wps_regionH ?_)
        | ((with_reducible apply wps_bindV); apply val_iteL; rotate_left; refine fun (_ : ¬ _) => ?_; rotate_right; refine fun (_ : _ = true) => ?_)
        | ((with_reducible apply val_iteL); rotate_left; refine fun (_ : ¬ _) => ?_; rotate_right; refine fun (_ : _ = true) => ?_)
        | (with_reducible exact wps_pure (ent_val rfl)))
      rename_i b
      refine wps_idx 0 rfl rfl (by (try dsimp only); omega) ?_
      repeat (first
        | (with_reducible refine wps_bindpure ?_)
        | (with_reducible refine wps_assoc ?_)
        | (with_reducible refine wps_nil ?_)
        | (with_reducible refine wps_stepAlloc fun _ => ?_)
        | (with_reducible refine wps_alloc fun _ => ?_)
        | (with_reducible refine wps_newO fun _ => ?_)
        | (refine wps_ld _ (by rfl) ?_)
        | (refine wps_ldG _ _ _ (by rfl) ?_)
        | (refine wps_ldA _ (by rfl) ?_)
        | (refine wps_ldI _ (by rfl) ?_)
        | (refine wps_ldGI _ _ _ (by rfl) ?_)
        | (refine wps_ldAI _ (by rfl) ?_)
        | (refine wps_st (by simp) ?_)
        | (refine wps_stA (by simp) (by simp [Value.oneCell']) ?_)
        | ((with_reducible apply wps_val); apply val_ite; rotate_left; refine fun (_ : ¬ _) => ?_; rotate_right; refine fun (_ : _ = true) => ?_)
        | ((with_reducible apply val_ite); rotate_left; refine fun (_ : ¬ _) => ?_; rotate_right; refine fun (_ : _ = true) => ?_)
        | (with_reducible refine wps_regionH ?_)
        | ((with_reducible apply wps_bindV); apply val_iteL; rotate_left; refine fun (_ : ¬ _) => ?_; rotate_right; refine fun (_ : _ = true) => ?_)
        | ((with_reducible apply val_iteL); rotate_left; refine fun (_ : ¬ _) => ?_; rotate_right; refine fun (_ : _ = true) => ?_)
        | (with_reducible exact wps_pure (ent_val rfl)))
      refine wps_swap (pc_one (b := b) v) ?_
      have hp := hW.put hi v
      refine wps_call2 (fun _ => device_Rack_Write_spec (H := byt ⟨some ⟨b, 0, none⟩, 64, 64⟩ (one v)) rb R ds ps _ _ _ (one v) (Ent.refl _) (by rw [one_len]; omega)) fun e => ?_
      simp only [← star_assoc]
      refine wps_prP fun he => ?_
      rw [hp.1] at he
      subst he
      refine wps_ite (fun h => absurd h (by decide)) (fun _ => ?_)
      refine wps_idxA i rfl hi ?_
      refine wps_st (by simp [eight]; omega) ?_
      rw [eight_set _ hi]
      have hW1 := hp.2
      obtain ⟨last1, hl1⟩ : ∃ l : Nat → Option Int, l = fun q => if q = i then some v else last q := ⟨_, rfl⟩
      have hcell : (fun q => if q = i then v else (last q).getD (sure q)) = fun q => (last1 q).getD (sure q) := by
        funext q; by_cases hq : q = i <;> simp [hq, hl1]
      rw [hcell]
      rw [← hl1] at hW1
      generalize R.write ((i / 4 : Nat) : Int) ((i % 4 : Nat) : Int) (one v) = R1 at *
      refine wps_ite (fun hf => ?_) (fun hf => ?_)
      · have hfl := hW1.flush
        refine wps_callH (fun _ => device_Rack_Flush_spec rb R1 ds ps 0) fun e => ?_
        simp only [← star_assoc]
        refine wps_prP fun he => ?_
        rw [hfl.1] at he
        subst he
        refine wps_bite (fun h => absurd h (by decide)) (fun _ => ?_)
        refine wps_assoc ?_
        refine wps_callH (fun _ => device_Rack_Flush_spec rb (R1.flush 0) ds ps 1) fun e => ?_
        simp only [← star_assoc]
        refine wps_prP fun he => ?_
        rw [hfl.2.1] at he
        subst he
        refine wps_bindpure ?_
        refine wps_ite (fun h => absurd h (by decide)) (fun _ => ?_)
        have hfl2 := hfl.2.2
        generalize hq : (fun q => (last1 q).getD (sure q)) = lv at *
        refine wps_ldA (lv 0, lv 1, lv 2, lv 3, lv 4, lv 5, lv 6, lv 7) (by rfl) ?_
        refine wps_stA (by simp [eight]) (by simp [Value.oneCell']) (wps_pure ?_)
        refine ent_prr (by rw [range_add1 hs (by omega)]; omega) (ent_ex (n + 1) (ent_ex lv (ent_ex (fun _ => none) (ent_ex ((R1.flush 0).flush 1) ?_))))
        refine ent_pickC (by rfl) (ent_pickC (by rfl) ?_)
        repeat (first
          | (with_reducible exact ent_drop)
          | (with_reducible refine ent_pick ?_)
          | (refine ent_pickC (by rfl) ?_)
          | (refine ent_pickS (by rfl) ?_)
          | (refine ent_pickM (by rfl) ?_)
          | (refine ent_prx ?_ ?_; rotate_left)
          | (refine ent_prq ?_))
        all_goals first | exact ⟨range_add1 hs (by omega), by omega, hfl2⟩ | trivial
      · refine wps_pure ?_
        refine ent_prr (by rw [range_add1 hs (by omega)]; omega) (ent_ex (n + 1) (ent_ex sure (ent_ex last1 (ent_ex R1 ?_))))
        repeat (first
          | (with_reducible exact ent_drop)
          | (with_reducible refine ent_pick ?_)
          | (refine ent_pickC (by rfl) ?_)
          | (refine ent_pickS (by rfl) ?_)
          | (refine ent_pickM (by rfl) ?_)
          | (refine ent_prx ?_ ?_; rotate_left)
          | (refine ent_prq ?_))
        all_goals first | exact ⟨range_add1 hs (by omega), by omega, hW1⟩ | trivial
    · refine wps_mapR ?_
      refine wps_call2 (fun _ => device_Rack_Restore_spec (H := intsP y ks) hcv rb R ds ps y ks (Ent.refl _)) fun _ => ?_
      simp only [← star_assoc]
      refine wps_loop (fun s => ex fun n : Nat => pr (s = (n : Int) ∧ n ≤ 8) * pc c9 (eight sure) * pc c10 (eight fun q => (last q).getD (sure q)) * rackP rb (R.restore ks) ds ps) (fun s => (8 - s).toNat) ?_ fun s => ?_
      · refine ent_ex 0 ?_
        repeat (first
          | (with_reducible exact ent_drop)
          | (with_reducible refine ent_pick ?_)
          | (refine ent_pickC (by rfl) ?_)
          | (refine ent_pickS (by rfl) ?_)
          | (refine ent_pickM (by rfl) ?_)
          | (refine ent_prx ?_ ?_; rotate_left)
          | (refine ent_prq ?_))
        all_goals first | exact ⟨rfl, by omega⟩ | trivial
      · refine wps_ex fun n => wps_prP fun ⟨hs, hn⟩ => ?_
        refine wps_ite (fun hc => ?_) (fun hc => ?_)
        · have hlt : n < 8 := by simp only [decide_eq_true_eq] at hc; omega
          obtain ⟨e2, e3⟩ := idx8 hs hlt
          rw [e2, e3]
          obtain ⟨r1, r2⟩ := hW.reads ks hlt
          refine wps_callH (fun _ => device_Rack_Read_spec rb (R.restore ks) ds ps _ _) fun z => ?_
          rw [r1, r2]
          simp only [← star_assoc]
          refine wps_prP fun hz => ?_
          rw [hz]
          generalize hv : (if keepB ks (rank R n) = true then (last n).getD (sure n) else sure n) = v
          refine wps_fact (Ent.trans (ent_right _ _) (own_len _ _ _)) fun ⟨hl1, _⟩ => ?_
          have hl1' : z.1.len = 64 := by simpa [bv, one] using hl1.symm
          have hgo : ∀ g, wps g (emp * pc c9 (eight sure) * pc c10 (eight fun q => (last q).getD (sure q)) * rackP rb (R.restore ks) ds ps * own 1 z.1 (bv (one v))) (pureM (.inl (w64 (s + 1))) : M (Int ⊕ Bool)) (sumPost (fun s' => pr ((8 - s').toNat < (8 - s).toNat) * ex fun n : Nat => pr (s' = (n : Int) ∧ n ≤ 8) * pc c9 (eight sure) * pc c10 (eight fun q => (last q).getD (sure q)) * rackP rb (R.restore ks) ds ps) fun b => pr (b = true)) := by
            intro g
            refine wps_pure ?_
            refine ent_prr (by rw [range_add1 hs (by omega)]; omega) (ent_ex (n + 1) ?_)
            repeat (first
              | (with_reducible exact ent_drop)
              | (with_reducible refine ent_pick ?_)
              | (refine ent_pickC (by rfl) ?_)
              | (refine ent_pickS (by rfl) ?_)
              | (refine ent_pickM (by rfl) ?_)
              | (refine ent_prx ?_ ?_; rotate_left)
              | (refine ent_prq ?_))
            all_goals first | exact ⟨range_add1 hs (by omega), by omega⟩ | trivial
          refine wps_regionH ?_
          refine wps_ite (fun h => absurd h (by decide)) (fun _ => ?_)
          refine wps_ite (fun h => absurd h (by simp [hl1'])) (fun _ => ?_)
          refine wps_rdI 0 v (Ent.trans (ent_right _ _) (own_rsl _ _ _)) (Ent.refl _) rfl rfl ?_
          refine wps_idxA n hs hlt ?_
          refine wps_ldI (sure n) (eight_get _ hlt) ?_
          refine wps_ite (fun h1 => ?_) (fun _ => hgo _)
          refine wps_rdI 0 v (Ent.trans (ent_right _ _) (own_rsl _ _ _)) (Ent.refl _) rfl rfl ?_
          refine wps_idxA n hs hlt ?_
          refine wps_ldI ((last n).getD (sure n)) (eight_get _ hlt) ?_
          refine wps_ite (fun h2 => ?_) (fun _ => hgo _)
          rw [← hv] at h1 h2
          by_cases hk : keepB ks (rank R n) = true
          · rw [if_pos hk] at h2; simp at h2
          · rw [if_neg hk] at h1; simp at h1
        · exact wps_mapR (wps_pure (ent_prq rfl))
end Go.Proofs.Ytldmeimebebllaa
namespace Go.Proofs.Ytldmeimebebllaa
open Go.Mo
set_option linter.unusedVariables false
variable {g : Fr} {cv : CV}
theorem ref00_CopyBytes_spec {H : HP} {s : Slc} {b : List Int} (hx : Ent H (byt s b)) (hb : b.length ≤ 1099511627776) : wps g H (ref00_CopyBytes s) (fun s' => H * own 1 s' (bv b)) := by
  unfold ref00_CopyBytes
  refine wps_fact (len_of hx) fun hl => ?_
  repeat (first
    | (with_reducible refine wps_bindpure ?_)
    | (with_reducible refine wps_assoc ?_)
    | (with_reducible refine wps_nil ?_)
    | (with_reducible refine wps_stepAlloc fun _ => ?_)
    | (with_reducible refine wps_alloc fun _ => ?_)
    | (with_reducible refine wps_newO fun _ => ?_)
    | (refine wps_ld _ (by rfl) ?_)
    | (refine wps_ldG _ _ _ (by rfl) ?_)
    | (refine wps_ldA _ (by rfl) ?_)
    | (refine wps_ldI _ (by rfl) ?_)
    | (refine wps_ldGI _ _ _ (by rfl) ?_)
    | (refine wps_ldAI _ (by rfl) ?_)
    | (refine wps_st (by simp) ?_)
    | (refine wps_stA (by simp) (by simp [Value.oneCell']) ?_)
    | ((with_reducible apply wps_val); apply val_ite; rotate_left; refine fun (_ : ¬ _) => ?_; rotate_right; refine fun (_ : _ = true) => ?_)
    | ((with_reducible apply val_ite); rotate_left; refine fun (_ : ¬ _) => ?_; rotate_right; refine fun (_ : _ = true) => ?_)
    | (with_reducible refine wps_regionH ?_)
    | ((with_reducible apply wps_bindV); apply val_iteL; rotate_left; refine fun (_ : ¬ _) => ?_; rotate_right; refine fun (_ : _ = true) => ?_)
    | ((with_reducible apply val_iteL); rotate_left; refine fun (_ : ¬ _) => ?_; rotate_right; refine fun (_ : _ = true) => ?_)
    | (with_reducible exact wps_pure (ent_val rfl)))
  rename_i c
  refine wps_swap (A := pc c []) (B := own 1 ⟨some ⟨c, 0, none⟩, 0, 0⟩ []) (pc_own (n := 0) (z := 1) rfl) ?_
  refine wps_app 1 (bv b) rfl (by decide) (Ent.trans (ent_left _ _) hx) (bv_one b) (by (try dsimp only); omega) fun s' hs' => ?_
  exact wps_pure (Ent.of_eq (by simp))
theorem ref00_CopyInts_spec {H : HP} {s : Slc} {b : List Int} (hx : Ent H (intsP s b)) (hb : b.length ≤ 1073741824) : wps g H (ref00_CopyInts s) (fun s' => H * own 1 s' (zv b)) := by
  unfold ref00_CopyInts
  refine wps_fact (ilen_of hx) fun hl => ?_
  repeat (first
    | (with_reducible refine wps_bindpure ?_)
    | (with_reducible refine wps_assoc ?_)
    | (with_reducible refine wps_nil ?_)
    | (with_reducible refine wps_stepAlloc fun _ => ?_)
    | (with_reducible refine wps_alloc fun _ => ?_)
    | (with_reducible refine wps_newO fun _ => ?_)
    | (refine wps_ld _ (by rfl) ?_)
    | (refine wps_ldG _ _ _ (by rfl) ?_)
    | (refine wps_ldA _ (by rfl) ?_)
    | (refine wps_ldI _ (by rfl) ?_)
    | (refine wps_ldGI _ _ _ (by rfl) ?_)
    | (refine wps_ldAI _ (by rfl) ?_)
    | (refine wps_st (by simp) ?_)
    | (refine wps_stA (by simp) (by simp [Value.oneCell']) ?_)
    | ((with_reducible apply wps_val); apply val_ite; rotate_left; refine fun (_ : ¬ _) => ?_; rotate_right; refine fun (_ : _ = true) => ?_)
    | ((with_reducible apply val_ite); rotate_left; refine fun (_ : ¬ _) => ?_; rotate_right; refine fun (_ : _ = true) => ?_)
    | (with_reducible refine wps_regionH ?_)
    | ((with_reducible apply wps_bindV); apply val_iteL; rotate_left; refine fun (_ : ¬ _) => ?_; rotate_right; refine fun (_ : _ = true) => ?_)
    | ((with_reducible apply val_iteL); rotate_left; refine fun (_ : ¬ _) => ?_; rotate_right; refine fun (_ : _ = true) => ?_)
    | (with_reducible exact wps_pure (ent_val rfl)))
  rename_i c
  refine wps_swap (A := pc c []) (B := own 1 ⟨some ⟨c, 0, none⟩, 0, 0⟩ []) (pc_own (n := 0) (z := 1) rfl) ?_
  refine wps_app 1 (zv b) rfl (by decide) (Ent.trans (ent_left _ _) hx) (zv_one b) (by (try dsimp only); omega) fun s' hs' => ?_
  exact wps_pure (Ent.of_eq (by simp))
/-- counters are numbers from -1 on -/
structure Rk.cok (R : Rk) : Prop where
  pow : -1 ≤ R.count ∧ R.count < 9223372036854775808
  dks : ∀ j, -1 ≤ (R.dk j).count ∧ (R.dk j).count < 9223372036854775808
structure RQ (R : Rk) (l1 l2 l3 l4 : Slc) (sl cl : List Slc) (cs : List Int) : Prop where
  hsl : sl.length = R.n * R.ns
  hcl : cl.length = R.n * R.ns
  hcs : cs.length = R.n
  n17 : R.n ≤ 17
  ns4 : R.ns ≤ 4096
  hl1 : l1.len = R.n * R.ns
  hl2 : l2.len = R.n * R.ns
  hl3 : l3.len = R.n
  hl4 : l4.len = R.n
  ok : ∀ j, j < R.n → (R.dk j).ok R.ns
  cnt : ∀ j, j < R.n → (R.dk j).failed = false → cs[j]? = some (R.dk j).count
  cok : R.cok
def refC4 (R : Rk) (l1 l2 l3 l4 : Slc) : List Value := [.int .i64 R.n, .int .i64 R.ns, vS l1, vS l2, vS l3, vS l4, .int .i64 R.count, .bool R.off]
def refX4 (mb : Nat) (R : Rk) (l1 l2 l3 l4 : Slc) (sl cl : List Slc) (cs : List Int) : HP :=
  pr (RQ R l1 l2 l3 l4 sl cl cs) * seqp sl (rlast R) * seqp cl (rcach R) * own 1 l1 (sl.map vS) * own 1 l2 (cl.map vS) * own 1 l3 (bads R) * own 1 l4 (zv cs) * pc mb [.int .i64 R.n, .int .i64 R.ns, vS l1, vS l2, vS l3, vS l4, .int .i64 R.count, .bool R.off]
def refQ (mb : Nat) (R : Rk) (l1 l2 l3 l4 : Slc) : HP := ex fun sl : List Slc => ex fun cl : List Slc => ex fun cs : List Int => refX4 mb R l1 l2 l3 l4 sl cl cs
theorem ok_new (s : Nat) : Dk.new.ok s := ⟨fun _ _ => by simp [Dk.new, noughts], fun _ _ h => by cases h⟩
theorem cok_new (n s : Nat) : (Rk.new n s).cok := ⟨by simp [Rk.new], fun j => by simp [Rk.new, Dk.new]⟩
theorem refQ_new {mb : Nat} {v : RefT} {n s : Nat} : Ent (refV v (Rk.new n s) * pc mb (refC v)) (refQ mb (Rk.new n s) v.2.2.1 v.2.2.2.1 v.2.2.2.2.1 v.2.2.2.2.2.1) := by
  unfold refV refX
  rw [ex_star]
  refine ex_ent fun sl => ?_
  rw [ex_star]
  refine ex_ent fun cl => ?_
  simp only [star_assoc]
  refine pr_ent fun h => ?_
  simp only [← star_assoc]
  refine ent_ex sl (ent_ex cl (ent_ex (List.replicate n (-1)) ?_))
  unfold refX4
  have h1 := h.n; have h2 := h.ns; have h3 := h.count; have h4 := h.off
  refine ent_pickC (by simp only [refC]; rw [h1, h2, h3, h4]) (ent_pickS ?_ ?_)
  · simp only [cnts, zv, List.map_replicate]
    rw [show (fun j => Value.int .i64 ((Rk.new n s).dk j).count) = fun _ => Value.int .i64 (-1) from rfl]
    rw [List.map_const']; simp [Rk.new]
  · repeat (first
      | (with_reducible exact ent_drop)
      | (with_reducible refine ent_pick ?_)
      | (refine ent_pickC (by rfl) ?_)
      | (refine ent_pickS (by rfl) ?_)
      | (refine ent_pickM (by rfl) ?_)
      | (refine ent_prx ?_ ?_; rotate_left)
      | (refine ent_prq ?_))
    refine ⟨h.sl, h.cl, by simp [Rk.new], h.n17, h.ns4, h.l1, h.l2, h.l3, h.l4, fun j _ => ok_new _, fun j hj _ => ?_, cok_new n s⟩
    have : j < n := hj
    simp [Rk.new, Dk.new, this]
theorem flat_div {k s ns : Nat} (h : s < ns) : (k * ns + s) / ns = k ∧ (k * ns + s) % ns = s := by
  have h0 : 0 < ns := by omega
  rw [Nat.mul_comm]
  refine ⟨?_, ?_⟩
  · rw [Nat.mul_add_div h0, Nat.div_eq_of_lt h]; omega
  · rw [Nat.mul_add_mod, Nat.mod_eq_of_lt h]
theorem flat_lt {k s n ns : Nat} (hk : k < n) (hs : s < ns) : k * ns + s < n * ns := by
  have : (k + 1) * ns ≤ n * ns := Nat.mul_le_mul_right _ hk
  rw [Nat.add_mul] at this; omega
theorem flat_w {k s : Int} {n ns : Nat} (hk : 0 ≤ k ∧ k < n) (hs : 0 ≤ s ∧ s < ns) (h17 : n ≤ 17) (h4 : ns ≤ 4096) : w64 (w64 (k * (ns : Int)) + s) = ((k.toNat * ns + s.toNat : Nat) : Int) := by
  obtain ⟨K, rfl⟩ : ∃ K : Nat, k = (K : Int) := ⟨k.toNat, by omega⟩
  obtain ⟨S, rfl⟩ : ∃ S : Nat, s = (S : Int) := ⟨s.toNat, by omega⟩
  have h1 : K * ns ≤ 17 * 4096 := Nat.mul_le_mul (by omega) h4
  rw [← Int.natCast_mul, w64_id (n := ((K * ns : Nat) : Int)) (by omega) (by omega), w64_id] <;> (try simp only [Int.toNat_natCast]) <;> omega
def thereB (R : Rk) (k s : Int) : Bool := decide (0 ≤ k ∧ k < R.n ∧ 0 ≤ s ∧ s < R.ns)
theorem ref02_there_val (mb : Nat) (R : Rk) (l1 l2 l3 l4 : Slc) (k s : Int) : Val g (refQ mb R l1 l2 l3 l4) (ref02_Rack_there (ptr mb) k s) (thereB R k s) := by
  unfold ref02_Rack_there refQ refX4
  refine wps_ex fun sl => wps_ex fun cl => wps_ex fun cs => ?_
  refine wps_conseq (H' := pr (RQ R l1 l2 l3 l4 sl cl cs) * seqp sl (rlast R) * seqp cl (rcach R) * own 1 l1 (sl.map vS) * own 1 l2 (cl.map vS) * own 1 l3 (bads R) * own 1 l4 (zv cs) * pc mb [.int .i64 R.n, .int .i64 R.ns, vS l1, vS l2, vS l3, vS l4, .int .i64 R.count, .bool R.off]) (Q' := fun x => pr (x = thereB R k s) * (pr (RQ R l1 l2 l3 l4 sl cl cs) * seqp sl (rlast R) * seqp cl (rcach R) * own 1 l1 (sl.map vS) * own 1 l2 (cl.map vS) * own 1 l3 (bads R) * own 1 l4 (zv cs) * pc mb [.int .i64 R.n, .int .i64 R.ns, vS l1, vS l2, vS l3, vS l4, .int .i64 R.count, .bool R.off])) ?_ (Ent.refl _) (fun x => Ent.starr (ent_ex sl (ent_ex cl (ent_ex cs (Ent.refl _)))))
  apply val_eq
  · repeat (first
      | (with_reducible refine wps_bindpure ?_)
      | (with_reducible refine wps_assoc ?_)
      | (with_reducible refine wps_nil ?_)
      | (with_reducible refine wps_stepAlloc fun _ => ?_)
      | (with_reducible refine wps_alloc fun _ => ?_)
      | (with_reducible refine wps_newO fun _ => ?_)
      | (refine wps_ld _ (by rfl) ?_)
      | (refine wps_ldG _ _ _ (by rfl) ?_)
      | (refine wps_ldA _ (by rfl) ?_)
      | (refine wps_ldI _ (by rfl) ?_)
      | (refine wps_ldGI _ _ _ (by rfl) ?_)
      | (refine wps_ldAI _ (by rfl) ?_)
      | (refine wps_st (by simp) ?_)
      | (refine wps_stA (by simp) (by simp [Value.oneCell']) ?_)
      | ((with_reducible apply wps_val); apply val_ite; rotate_left; refine fun (_ : ¬ _) => ?_; rotate_right; refine fun (_ : _ = true) => ?_)
      | ((with_reducible apply val_ite); rotate_left; refine fun (_ : ¬ _) => ?_; rotate_right; refine fun (_ : _ = true) => ?_)
      | (with_reducible refine wps_regionH ?_)
      | ((with_reducible apply wps_bindV); apply val_iteL; rotate_left; refine fun (_ : ¬ _) => ?_; rotate_right; refine fun (_ : _ = true) => ?_)
      | ((with_reducible apply val_iteL); rotate_left; refine fun (_ : ¬ _) => ?_; rotate_right; refine fun (_ : _ = true) => ?_)
      | (with_reducible exact wps_pure (ent_val rfl)))
  · unfold thereB
    by_cases a : 0 ≤ k <;> by_cases b : k < (R.n : Int) <;> by_cases c : 0 ≤ s <;> by_cases d : s < (R.ns : Int) <;> simp [a, b, c, d]
theorem ref02_Failed_val (mb : Nat) (R : Rk) (l1 l2 l3 l4 : Slc) (k : Int) : Val g (refQ mb R l1 l2 l3 l4) (ref02_Rack_Failed (ptr mb) k) (R.failedB k) := by
  unfold ref02_Rack_Failed refQ refX4
  refine wps_ex fun sl => wps_ex fun cl => wps_ex fun cs => ?_
  refine wps_factP fun hq => ?_
  refine wps_conseq (H' := pr (RQ R l1 l2 l3 l4 sl cl cs) * seqp sl (rlast R) * seqp cl (rcach R) * own 1 l1 (sl.map vS) * own 1 l2 (cl.map vS) * own 1 l3 (bads R) * own 1 l4 (zv cs) * pc mb [.int .i64 R.n, .int .i64 R.ns, vS l1, vS l2, vS l3, vS l4, .int .i64 R.count, .bool R.off]) (Q' := fun x => pr (x = R.failedB k) * (pr (RQ R l1 l2 l3 l4 sl cl cs) * seqp sl (rlast R) * seqp cl (rcach R) * own 1 l1 (sl.map vS) * own 1 l2 (cl.map vS) * own 1 l3 (bads R) * own 1 l4 (zv cs) * pc mb [.int .i64 R.n, .int .i64 R.ns, vS l1, vS l2, vS l3, vS l4, .int .i64 R.count, .bool R.off])) ?_ (Ent.refl _) (fun x => Ent.starr (ent_ex sl (ent_ex cl (ent_ex cs (Ent.refl _)))))
  refine wps_val (v := decide (0 ≤ k ∧ k < R.n)) ?_ ?_
  · apply val_eq
    · repeat (first
        | (with_reducible refine wps_bindpure ?_)
        | (with_reducible refine wps_assoc ?_)
        | (with_reducible refine wps_nil ?_)
        | (with_reducible refine wps_stepAlloc fun _ => ?_)
        | (with_reducible refine wps_alloc fun _ => ?_)
        | (with_reducible refine wps_newO fun _ => ?_)
        | (refine wps_ld _ (by rfl) ?_)
        | (refine wps_ldG _ _ _ (by rfl) ?_)
        | (refine wps_ldA _ (by rfl) ?_)
        | (refine wps_ldI _ (by rfl) ?_)
        | (refine wps_ldGI _ _ _ (by rfl) ?_)
        | (refine wps_ldAI _ (by rfl) ?_)
        | (refine wps_st (by simp) ?_)
        | (refine wps_stA (by simp) (by simp [Value.oneCell']) ?_)
        | ((with_reducible apply wps_val); apply val_ite; rotate_left; refine fun (_ : ¬ _) => ?_; rotate_right; refine fun (_ : _ = true) => ?_)
        | ((with_reducible apply val_ite); rotate_left; refine fun (_ : ¬ _) => ?_; rotate_right; refine fun (_ : _ = true) => ?_)
        | (with_reducible refine wps_regionH ?_)
        | ((with_reducible apply wps_bindV); apply val_iteL; rotate_left; refine fun (_ : ¬ _) => ?_; rotate_right; refine fun (_ : _ = true) => ?_)
        | ((with_reducible apply val_iteL); rotate_left; refine fun (_ : ¬ _) => ?_; rotate_right; refine fun (_ : _ = true) => ?_)
        | (with_reducible exact wps_pure (ent_val rfl)))
    · by_cases h : 0 ≤ k <;> simp [h]
  · by_cases hk : 0 ≤ k ∧ k < R.n
    · simp only [hk, and_self, decide_true, if_true, Rk.failedB, bindM_assoc]
      repeat (first
        | (with_reducible refine wps_bindpure ?_)
        | (with_reducible refine wps_assoc ?_)
        | (with_reducible refine wps_nil ?_)
        | (with_reducible refine wps_stepAlloc fun _ => ?_)
        | (with_reducible refine wps_alloc fun _ => ?_)
        | (with_reducible refine wps_newO fun _ => ?_)
        | (refine wps_ld _ (by rfl) ?_)
        | (refine wps_ldG _ _ _ (by rfl) ?_)
        | (refine wps_ldA _ (by rfl) ?_)
        | (refine wps_ldI _ (by rfl) ?_)
        | (refine wps_ldGI _ _ _ (by rfl) ?_)
        | (refine wps_ldAI _ (by rfl) ?_)
        | (refine wps_st (by simp) ?_)
        | (refine wps_stA (by simp) (by simp [Value.oneCell']) ?_)
        | ((with_reducible apply wps_val); apply val_ite; rotate_left; refine fun (_ : ¬ _) => ?_; rotate_right; refine fun (_ : _ = true) => ?_)
        | ((with_reducible apply val_ite); rotate_left; refine fun (_ : ¬ _) => ?_; rotate_right; refine fun (_ : _ = true) => ?_)
        | (with_reducible refine wps_regionH ?_)
        | ((with_reducible apply wps_bindV); apply val_iteL; rotate_left; refine fun (_ : ¬ _) => ?_; rotate_right; refine fun (_ : _ = true) => ?_)
        | ((with_reducible apply val_iteL); rotate_left; refine fun (_ : ¬ _) => ?_; rotate_right; refine fun (_ : _ = true) => ?_)
        | (with_reducible exact wps_pure (ent_val rfl)))
      refine wps_rdS k.toNat (R.dk k.toNat).failed (by omega) ?_ ?_
      · rw [bads, List.getElem?_map, List.getElem?_range (by omega)]; rfl
      · repeat (first
          | (with_reducible refine wps_bindpure ?_)
          | (with_reducible refine wps_assoc ?_)
          | (with_reducible refine wps_nil ?_)
          | (with_reducible refine wps_stepAlloc fun _ => ?_)
          | (with_reducible refine wps_alloc fun _ => ?_)
          | (with_reducible refine wps_newO fun _ => ?_)
          | (refine wps_ld _ (by rfl) ?_)
          | (refine wps_ldG _ _ _ (by rfl) ?_)
          | (refine wps_ldA _ (by rfl) ?_)
          | (refine wps_ldI _ (by rfl) ?_)
          | (refine wps_ldGI _ _ _ (by rfl) ?_)
          | (refine wps_ldAI _ (by rfl) ?_)
          | (refine wps_st (by simp) ?_)
          | (refine wps_stA (by simp) (by simp [Value.oneCell']) ?_)
          | ((with_reducible apply wps_val); apply val_ite; rotate_left; refine fun (_ : ¬ _) => ?_; rotate_right; refine fun (_ : _ = true) => ?_)
          | ((with_reducible apply val_ite); rotate_left; refine fun (_ : ¬ _) => ?_; rotate_right; refine fun (_ : _ = true) => ?_)
          | (with_reducible refine wps_regionH ?_)
          | ((with_reducible apply wps_bindV); apply val_iteL; rotate_left; refine fun (_ : ¬ _) => ?_; rotate_right; refine fun (_ : _ = true) => ?_)
          | ((with_reducible apply val_iteL); rotate_left; refine fun (_ : ¬ _) => ?_; rotate_right; refine fun (_ : _ = true) => ?_)
          | (with_reducible exact wps_pure (ent_val rfl)))
    · simp only [hk, decide_false, Rk.failedB, if_false, Bool.false_eq_true]
      repeat (first
        | (with_reducible refine wps_bindpure ?_)
        | (with_reducible refine wps_assoc ?_)
        | (with_reducible refine wps_nil ?_)
        | (with_reducible refine wps_stepAlloc fun _ => ?_)
        | (with_reducible refine wps_alloc fun _ => ?_)
        | (with_reducible refine wps_newO fun _ => ?_)
        | (refine wps_ld _ (by rfl) ?_)
        | (refine wps_ldG _ _ _ (by rfl) ?_)
        | (refine wps_ldA _ (by rfl) ?_)
        | (refine wps_ldI _ (by rfl) ?_)
        | (refine wps_ldGI _ _ _ (by rfl) ?_)
        | (refine wps_ldAI _ (by rfl) ?_)
        | (refine wps_st (by simp) ?_)
        | (refine wps_stA (by simp) (by simp [Value.oneCell']) ?_)
        | ((with_reducible apply wps_val); apply val_ite; rotate_left; refine fun (_ : ¬ _) => ?_; rotate_right; refine fun (_ : _ = true) => ?_)
        | ((with_reducible apply val_ite); rotate_left; refine fun (_ : ¬ _) => ?_; rotate_right; refine fun (_ : _ = true) => ?_)
        | (with_reducible refine wps_regionH ?_)
        | ((with_reducible apply wps_bindV); apply val_iteL; rotate_left; refine fun (_ : ¬ _) => ?_; rotate_right; refine fun (_ : _ = true) => ?_)
        | ((with_reducible apply val_iteL); rotate_left; refine fun (_ : ¬ _) => ?_; rotate_right; refine fun (_ : _ = true) => ?_)
        | (with_reducible exact wps_pure (ent_val rfl)))
end Go.Proofs.Ytldmeimebebllaa
namespace Go.Proofs.Ytldmeimebebllaa
open Go.Mo
set_option linter.unusedVariables false
variable {g : Fr} {cv : CV}
theorem there_true {R : Rk} {k s : Int} (h : thereB R k s = true) : (0 ≤ k ∧ k < R.n) ∧ (0 ≤ s ∧ s < R.ns) := by
  simp only [thereB, decide_eq_true_eq] at h; omega
theorem there_or {R : Rk} {k s : Int} : thereB R k s = true ↔ ¬ (k < 0 ∨ k ≥ R.n ∨ s < 0 ∨ s ≥ R.ns) := by
  simp only [thereB, decide_eq_true_eq]; omega
theorem RQ.at {R : Rk} {l1 l2 l3 l4 : Slc} {sl cl : List Slc} {cs : List Int} (h : RQ R l1 l2 l3 l4 sl cl cs) {k s : Int} (ht : thereB R k s = true) :
    ∃ i : Nat, i < R.n * R.ns ∧ i = k.toNat * R.ns + s.toNat ∧ w64 (w64 (k * (R.ns : Int)) + s) = (i : Int) ∧ rlast R i = (R.dk k.toNat).lasts s.toNat ∧ rcach R i = ((R.dk k.toNat).cached s).getD [] ∧ k.toNat < R.n ∧ s.toNat < R.ns := by
  obtain ⟨hk, hs⟩ := there_true ht
  have hd := flat_div (k := k.toNat) (s := s.toNat) (ns := R.ns) (by omega)
  refine ⟨k.toNat * R.ns + s.toNat, flat_lt (by omega) (by omega), rfl, flat_w hk hs h.n17 h.ns4, ?_, ?_, by omega, by omega⟩
  · rw [rlast, hd.1, hd.2]
  · rw [rcach, hd.1, hd.2, show ((s.toNat : Nat) : Int) = s by omega]
theorem ref02_Lasting_spec (mb : Nat) (R : Rk) (l1 l2 l3 l4 : Slc) (k s : Int) :
    wps g (refQ mb R l1 l2 l3 l4) (ref02_Rack_Lasting (ptr mb) k s) (fun x => pr (x.2 = R.lErr k s) * refQ mb R l1 l2 l3 l4 * own 1 x.1 (bv (R.lst k s))) := by
  unfold ref02_Rack_Lasting
  refine wps_val (ref02_there_val mb R l1 l2 l3 l4 k s) ?_
  by_cases ht : thereB R k s = true
  · have hn := there_or.1 ht
    have he : R.lErr k s = 0 := by rw [Rk.lErr, if_neg hn]
    rw [ht]
    refine wps_ite (fun h => absurd h (by decide)) (fun _ => ?_)
    simp only [Rk.lst, he, if_true]
    unfold refQ
    refine wps_exP fun sl => wps_exP fun cl => wps_exP fun cs => ?_
    unfold refX4
    simp only [← star_assoc]
    refine wps_factP fun hq => ?_
    obtain ⟨i, hi, _, hw, hl, _, hk, hs⟩ := hq.at ht
    rw [← hl]
    have hlen : (rlast R i).length = 64 := by rw [hl]; exact (hq.ok _ hk).1 _ hs
    have hil : i < sl.length := by rw [hq.hsl]; exact hi
    refine wps_regionH ?_
    repeat (first
      | (with_reducible refine wps_bindpure ?_)
      | (with_reducible refine wps_assoc ?_)
      | (with_reducible refine wps_nil ?_)
      | (with_reducible refine wps_stepAlloc fun _ => ?_)
      | (with_reducible refine wps_alloc fun _ => ?_)
      | (with_reducible refine wps_newO fun _ => ?_)
      | (refine wps_ld _ (by rfl) ?_)
      | (refine wps_ldG _ _ _ (by rfl) ?_)
      | (refine wps_ldA _ (by rfl) ?_)
      | (refine wps_ldI _ (by rfl) ?_)
      | (refine wps_ldGI _ _ _ (by rfl) ?_)
      | (refine wps_ldAI _ (by rfl) ?_)
      | (refine wps_st (by simp) ?_)
      | (refine wps_stA (by simp) (by simp [Value.oneCell']) ?_)
      | ((with_reducible apply wps_val); apply val_ite; rotate_left; refine fun (_ : ¬ _) => ?_; rotate_right; refine fun (_ : _ = true) => ?_)
      | ((with_reducible apply val_ite); rotate_left; refine fun (_ : ¬ _) => ?_; rotate_right; refine fun (_ : _ = true) => ?_)
      | (with_reducible refine wps_regionH ?_)
      | ((with_reducible apply wps_bindV); apply val_iteL; rotate_left; refine fun (_ : ¬ _) => ?_; rotate_right; refine fun (_ : _ = true) => ?_)
      | ((with_reducible apply val_iteL); rotate_left; refine fun (_ : ¬ _) => ?_; rotate_right; refine fun (_ : _ = true) => ?_)
      | (with_reducible exact wps_pure (ent_val rfl)))
    rw [hw]
    refine wps_rdI i sl[i] (Ent.trans (ent_pick1 (A := own 1 l1 (sl.map vS))) (own_rsl _ _ _)) (Ent.refl _) rfl (by rw [List.getElem?_map, List.getElem?_eq_getElem hil]; rfl) ?_
    refine wps_step1 (ref00_CopyBytes_spec (b := rlast R i) (Ent.trans (ent_drop (B := seqp sl (rlast R))) (seqp_get (List.getElem?_eq_getElem hil))) (by omega)) fun s' => wps_pure ?_
    refine ent_pick ?_
    refine ent_exr sl ?_
    refine ent_exr cl ?_
    refine ent_exr cs ?_
    simp only [← star_assoc]
    repeat (first
      | (with_reducible exact ent_drop)
      | (with_reducible refine ent_pick ?_)
      | (refine ent_pickC (by rfl) ?_)
      | (refine ent_pickS (by rfl) ?_)
      | (refine ent_pickM (by rfl) ?_)
      | (refine ent_prx ?_ ?_; rotate_left)
      | (refine ent_prq ?_))
    all_goals first | exact hq | rfl | trivial
  · have hn : (k < 0 ∨ k ≥ R.n ∨ s < 0 ∨ s ≥ R.ns) := Classical.byContradiction fun h => ht (there_or.2 h)
    have he : R.lErr k s = 11 := by rw [Rk.lErr, if_pos hn]
    rw [show thereB R k s = false by simpa using ht]
    refine wps_ite (fun _ => wps_pure ?_) (fun h => absurd rfl h)
    simp only [Rk.lst, he]
    exact ent_own0 (ent_prr (by simp) (Ent.refl _))
theorem ref02_Read_spec (mb : Nat) (R : Rk) (l1 l2 l3 l4 : Slc) (k s : Int) :
    wps g (refQ mb R l1 l2 l3 l4) (ref02_Rack_Read (ptr mb) k s) (fun x => pr (x.2 = R.rdErr k s) * refQ mb R l1 l2 l3 l4 * own 1 x.1 (bv (R.rd k s))) := by
  unfold ref02_Rack_Read
  have hoff : ∀ {α : Type} {K : Bool → M α} {Q : α → HP}, wps g (refQ mb R l1 l2 l3 l4) (K R.off) Q → wps g (refQ mb R l1 l2 l3 l4) (bindM (ld Value.bool ⟨mb, 7, none⟩) K) Q := by
    intro α K Q h
    refine wps_val (v := R.off) ?_ h
    show wps g _ (bindM (ld Value.bool ⟨mb, 7, none⟩) pureM) _
    unfold refQ refX4
    refine wps_ex fun sl => wps_ex fun cl => wps_ex fun cs => ?_
    repeat (first
      | (with_reducible refine wps_bindpure ?_)
      | (with_reducible refine wps_assoc ?_)
      | (with_reducible refine wps_nil ?_)
      | (with_reducible refine wps_stepAlloc fun _ => ?_)
      | (with_reducible refine wps_alloc fun _ => ?_)
      | (with_reducible refine wps_newO fun _ => ?_)
      | (refine wps_ld _ (by rfl) ?_)
      | (refine wps_ldG _ _ _ (by rfl) ?_)
      | (refine wps_ldA _ (by rfl) ?_)
      | (refine wps_ldI _ (by rfl) ?_)
      | (refine wps_ldGI _ _ _ (by rfl) ?_)
      | (refine wps_ldAI _ (by rfl) ?_)
      | (refine wps_st (by simp) ?_)
      | (refine wps_stA (by simp) (by simp [Value.oneCell']) ?_)
      | ((with_reducible apply wps_val); apply val_ite; rotate_left; refine fun (_ : ¬ _) => ?_; rotate_right; refine fun (_ : _ = true) => ?_)
      | ((with_reducible apply val_ite); rotate_left; refine fun (_ : ¬ _) => ?_; rotate_right; refine fun (_ : _ = true) => ?_)
      | (with_reducible refine wps_regionH ?_)
      | ((with_reducible apply wps_bindV); apply val_iteL; rotate_left; refine fun (_ : ¬ _) => ?_; rotate_right; refine fun (_ : _ = true) => ?_)
      | ((with_reducible apply val_iteL); rotate_left; refine fun (_ : ¬ _) => ?_; rotate_right; refine fun (_ : _ = true) => ?_)
      | (with_reducible exact wps_pure (ent_val rfl)))
    exact wps_pure (ent_prr rfl (ent_ex sl (ent_ex cl (ent_ex cs (Ent.refl _)))))
  repeat (first
    | (with_reducible refine wps_bindpure ?_)
    | (with_reducible refine wps_assoc ?_)
    | (with_reducible refine wps_nil ?_)
    | (with_reducible refine wps_stepAlloc fun _ => ?_)
    | (with_reducible refine wps_alloc fun _ => ?_)
    | (with_reducible refine wps_newO fun _ => ?_)
    | (refine wps_ld _ (by rfl) ?_)
    | (refine wps_ldG _ _ _ (by rfl) ?_)
    | (refine wps_ldA _ (by rfl) ?_)
    | (refine wps_ldI _ (by rfl) ?_)
    | (refine wps_ldGI _ _ _ (by rfl) ?_)
    | (refine wps_ldAI _ (by rfl) ?_)
    | (refine wps_st (by simp) ?_)
    | (refine wps_stA (by simp) (by simp [Value.oneCell']) ?_)
    | ((with_reducible apply wps_val); apply val_ite; rotate_left; refine fun (_ : ¬ _) => ?_; rotate_right; refine fun (_ : _ = true) => ?_)
    | ((with_reducible apply val_ite); rotate_left; refine fun (_ : ¬ _) => ?_; rotate_right; refine fun (_ : _ = true) => ?_)
    | (with_reducible refine wps_regionH ?_)
    | ((with_reducible apply wps_bindV); apply val_iteL; rotate_left; refine fun (_ : ¬ _) => ?_; rotate_right; refine fun (_ : _ = true) => ?_)
    | ((with_reducible apply val_iteL); rotate_left; refine fun (_ : ¬ _) => ?_; rotate_right; refine fun (_ : _ = true) => ?_)
    | (with_reducible exact wps_pure (ent_val rfl)))
  refine hoff ?_
  by_cases ho : R.off = true
  · have he : R.rdErr k s = 12 := by simp [Rk.rdErr, ho]
    rw [if_pos ho]
    refine wps_pure ?_
    simp only [Rk.rd, he]
    exact ent_own0 (ent_prr (by simp) (Ent.refl _))
  rw [if_neg ho]
  refine wps_val (ref02_there_val mb R l1 l2 l3 l4 k s) ?_
  by_cases ht : thereB R k s = true
  · have hn := there_or.1 ht
    rw [ht]
    refine wps_ite (fun h => absurd h (by decide)) (fun _ => ?_)
    unfold refQ
    refine wps_exP fun sl => wps_exP fun cl => wps_exP fun cs => ?_
    unfold refX4
    simp only [← star_assoc]
    refine wps_factP fun hq => ?_
    obtain ⟨i, hi, _, hw, hl, hc, hk, hs⟩ := hq.at ht
    obtain ⟨hk2, hs2⟩ := there_true ht
    repeat (first
      | (with_reducible refine wps_bindpure ?_)
      | (with_reducible refine wps_assoc ?_)
      | (with_reducible refine wps_nil ?_)
      | (with_reducible refine wps_stepAlloc fun _ => ?_)
      | (with_reducible refine wps_alloc fun _ => ?_)
      | (with_reducible refine wps_newO fun _ => ?_)
      | (refine wps_ld _ (by rfl) ?_)
      | (refine wps_ldG _ _ _ (by rfl) ?_)
      | (refine wps_ldA _ (by rfl) ?_)
      | (refine wps_ldI _ (by rfl) ?_)
      | (refine wps_ldGI _ _ _ (by rfl) ?_)
      | (refine wps_ldAI _ (by rfl) ?_)
      | (refine wps_st (by simp) ?_)
      | (refine wps_stA (by simp) (by simp [Value.oneCell']) ?_)
      | ((with_reducible apply wps_val); apply val_ite; rotate_left; refine fun (_ : ¬ _) => ?_; rotate_right; refine fun (_ : _ = true) => ?_)
      | ((with_reducible apply val_ite); rotate_left; refine fun (_ : ¬ _) => ?_; rotate_right; refine fun (_ : _ = true) => ?_)
      | (with_reducible refine wps_regionH ?_)
      | ((with_reducible apply wps_bindV); apply val_iteL; rotate_left; refine fun (_ : ¬ _) => ?_; rotate_right; refine fun (_ : _ = true) => ?_)
      | ((with_reducible apply val_iteL); rotate_left; refine fun (_ : ¬ _) => ?_; rotate_right; refine fun (_ : _ = true) => ?_)
      | (with_reducible exact wps_pure (ent_val rfl)))
    refine wps_rdS k.toNat (R.dk k.toNat).failed (by omega) (by rw [bads, List.getElem?_map, List.getElem?_range hk]; rfl) ?_
    refine wps_ite (fun hf => wps_pure ?_) (fun hf => ?_)
    · have he : R.rdErr k s = 13 := by simp only [Rk.rdErr, if_neg ho, if_neg hn, if_pos hf]
      simp only [Rk.rd, he]
      refine ent_own0 (ent_exr sl (ent_exr cl (ent_exr cs ?_)))
      simp only [← star_assoc]
      repeat (first
        | (with_reducible exact ent_drop)
        | (with_reducible refine ent_pick ?_)
        | (refine ent_pickC (by rfl) ?_)
        | (refine ent_pickS (by rfl) ?_)
        | (refine ent_pickM (by rfl) ?_)
        | (refine ent_prx ?_ ?_; rotate_left)
        | (refine ent_prq ?_))
      all_goals first | exact hq | rfl | trivial
    · have he : R.rdErr k s = 0 := by simp only [Rk.rdErr, if_neg ho, if_neg hn, if_neg hf]
      simp only [Rk.rd, he, if_true]
      repeat (first
        | (with_reducible refine wps_bindpure ?_)
        | (with_reducible refine wps_assoc ?_)
        | (with_reducible refine wps_nil ?_)
        | (with_reducible refine wps_stepAlloc fun _ => ?_)
        | (with_reducible refine wps_alloc fun _ => ?_)
        | (with_reducible refine wps_newO fun _ => ?_)
        | (refine wps_ld _ (by rfl) ?_)
        | (refine wps_ldG _ _ _ (by rfl) ?_)
        | (refine wps_ldA _ (by rfl) ?_)
        | (refine wps_ldI _ (by rfl) ?_)
        | (refine wps_ldGI _ _ _ (by rfl) ?_)
        | (refine wps_ldAI _ (by rfl) ?_)
        | (refine wps_st (by simp) ?_)
        | (refine wps_stA (by simp) (by simp [Value.oneCell']) ?_)
        | ((with_reducible apply wps_val); apply val_ite; rotate_left; refine fun (_ : ¬ _) => ?_; rotate_right; refine fun (_ : _ = true) => ?_)
        | ((with_reducible apply val_ite); rotate_left; refine fun (_ : ¬ _) => ?_; rotate_right; refine fun (_ : _ = true) => ?_)
        | (with_reducible refine wps_regionH ?_)
        | ((with_reducible apply wps_bindV); apply val_iteL; rotate_left; refine fun (_ : ¬ _) => ?_; rotate_right; refine fun (_ : _ = true) => ?_)
        | ((with_reducible apply val_iteL); rotate_left; refine fun (_ : ¬ _) => ?_; rotate_right; refine fun (_ : _ = true) => ?_)
        | (with_reducible exact wps_pure (ent_val rfl)))
      rw [hw]
      have hil : i < sl.length := by rw [hq.hsl]; exact hi
      have hic : i < cl.length := by rw [hq.hcl]; exact hi
      have close : ∀ s', Ent (emp * pr (RQ R l1 l2 l3 l4 sl cl cs) * seqp sl (rlast R) * seqp cl (rcach R) * own 1 l1 (sl.map vS) * own 1 l2 (cl.map vS) * own 1 l3 (bads R) * own 1 l4 (zv cs) * pc mb [.int .i64 R.n, .int .i64 R.ns, vS l1, vS l2, vS l3, vS l4, .int .i64 R.count, .bool R.off] * own 1 s' (bv ((R.dk k.toNat).sec s)))
          (pr (((s', 0) : Slc × Int).2 = 0) * (ex fun sl : List Slc => ex fun cl : List Slc => ex fun cs : List Int => pr (RQ R l1 l2 l3 l4 sl cl cs) * seqp sl (rlast R) * seqp cl (rcach R) * own 1 l1 (sl.map vS) * own 1 l2 (cl.map vS) * own 1 l3 (bads R) * own 1 l4 (zv cs) * pc mb [.int .i64 R.n, .int .i64 R.ns, vS l1, vS l2, vS l3, vS l4, .int .i64 R.count, .bool R.off]) * own 1 s' (bv ((R.dk k.toNat).sec s))) := by
        intro s'
        refine ent_pick ?_
        refine ent_exr sl ?_
        refine ent_exr cl ?_
        refine ent_exr cs ?_
        simp only [← star_assoc]
        repeat (first
          | (with_reducible exact ent_drop)
          | (with_reducible refine ent_pick ?_)
          | (refine ent_pickC (by rfl) ?_)
          | (refine ent_pickS (by rfl) ?_)
          | (refine ent_pickM (by rfl) ?_)
          | (refine ent_prx ?_ ?_; rotate_left)
          | (refine ent_prq ?_))
        all_goals first | exact hq | rfl | trivial
      refine wps_rdS i cl[i] rfl (by rw [List.getElem?_map, List.getElem?_eq_getElem hic]; rfl) ?_
      have hcb : Ent (seqp cl (rcach R)) (byt cl[i] (rcach R i)) := seqp_get (List.getElem?_eq_getElem hic)
      refine wps_fact (len_of (Ent.trans (ent_drop (B := seqp cl (rcach R))) hcb)) fun hcl => ?_
      cases hcs : (R.dk k.toNat).cached s with
      | some b =>
        have hb : rcach R i = b := by rw [hc, hcs]; rfl
        have hbl := ((hq.ok _ hk).2 s b hcs).1
        have hsec : (R.dk k.toNat).sec s = rcach R i := by rw [hb]; simp [Dk.sec, hcs]
        refine wps_ite (fun _ => ?_) (fun h => ?_)
        · repeat (first
            | (with_reducible refine wps_bindpure ?_)
            | (with_reducible refine wps_assoc ?_)
            | (with_reducible refine wps_nil ?_)
            | (with_reducible refine wps_stepAlloc fun _ => ?_)
            | (with_reducible refine wps_alloc fun _ => ?_)
            | (with_reducible refine wps_newO fun _ => ?_)
            | (refine wps_ld _ (by rfl) ?_)
            | (refine wps_ldG _ _ _ (by rfl) ?_)
            | (refine wps_ldA _ (by rfl) ?_)
            | (refine wps_ldI _ (by rfl) ?_)
            | (refine wps_ldGI _ _ _ (by rfl) ?_)
            | (refine wps_ldAI _ (by rfl) ?_)
            | (refine wps_st (by simp) ?_)
            | (refine wps_stA (by simp) (by simp [Value.oneCell']) ?_)
            | ((with_reducible apply wps_val); apply val_ite; rotate_left; refine fun (_ : ¬ _) => ?_; rotate_right; refine fun (_ : _ = true) => ?_)
            | ((with_reducible apply val_ite); rotate_left; refine fun (_ : ¬ _) => ?_; rotate_right; refine fun (_ : _ = true) => ?_)
            | (with_reducible refine wps_regionH ?_)
            | ((with_reducible apply wps_bindV); apply val_iteL; rotate_left; refine fun (_ : ¬ _) => ?_; rotate_right; refine fun (_ : _ = true) => ?_)
            | ((with_reducible apply val_iteL); rotate_left; refine fun (_ : ¬ _) => ?_; rotate_right; refine fun (_ : _ = true) => ?_)
            | (with_reducible exact wps_pure (ent_val rfl)))
          refine wps_rdS i cl[i] rfl (by rw [List.getElem?_map, List.getElem?_eq_getElem hic]; rfl) ?_
          refine wps_bind1 (ref00_CopyBytes_spec (b := (R.dk k.toNat).sec s) (Ent.trans (ent_drop (B := seqp cl (rcach R))) (by rw [hsec]; exact hcb)) (by rw [hsec, hb]; omega)) fun s' => wps_pure ?_
          exact Ent.trans (Ent.of_eq (by simp only [emp_star])) (close s')
        · exfalso
          rw [hb] at hcl
          simp only [decide_eq_true_eq] at h; omega
      | none =>
        have hb : rcach R i = [] := by rw [hc, hcs]; rfl
        have hsec : (R.dk k.toNat).sec s = rlast R i := by rw [hl]; simp [Dk.sec, hcs]
        have hlen : (rlast R i).length = 64 := by rw [hl]; exact (hq.ok _ hk).1 _ hs
        refine wps_ite (fun h => ?_) (fun h => ?_)
        · exfalso
          rw [hb] at hcl
          simp only [decide_eq_true_eq, List.length_nil] at h hcl; omega
        · repeat (first
            | (with_reducible refine wps_bindpure ?_)
            | (with_reducible refine wps_assoc ?_)
            | (with_reducible refine wps_nil ?_)
            | (with_reducible refine wps_stepAlloc fun _ => ?_)
            | (with_reducible refine wps_alloc fun _ => ?_)
            | (with_reducible refine wps_newO fun _ => ?_)
            | (refine wps_ld _ (by rfl) ?_)
            | (refine wps_ldG _ _ _ (by rfl) ?_)
            | (refine wps_ldA _ (by rfl) ?_)
            | (refine wps_ldI _ (by rfl) ?_)
            | (refine wps_ldGI _ _ _ (by rfl) ?_)
            | (refine wps_ldAI _ (by rfl) ?_)
            | (refine wps_st (by simp) ?_)
            | (refine wps_stA (by simp) (by simp [Value.oneCell']) ?_)
            | ((with_reducible apply wps_val); apply val_ite; rotate_left; refine fun (_ : ¬ _) => ?_; rotate_right; refine fun (_ : _ = true) => ?_)
            | ((with_reducible apply val_ite); rotate_left; refine fun (_ : ¬ _) => ?_; rotate_right; refine fun (_ : _ = true) => ?_)
            | (with_reducible refine wps_regionH ?_)
            | ((with_reducible apply wps_bindV); apply val_iteL; rotate_left; refine fun (_ : ¬ _) => ?_; rotate_right; refine fun (_ : _ = true) => ?_)
            | ((with_reducible apply val_iteL); rotate_left; refine fun (_ : ¬ _) => ?_; rotate_right; refine fun (_ : _ = true) => ?_)
            | (with_reducible exact wps_pure (ent_val rfl)))
          refine wps_rdS i sl[i] rfl (by rw [List.getElem?_map, List.getElem?_eq_getElem hil]; rfl) ?_
          refine wps_bind1 (ref00_CopyBytes_spec (b := (R.dk k.toNat).sec s) (Ent.trans (ent_drop (B := seqp sl (rlast R))) (by rw [hsec]; exact seqp_get (List.getElem?_eq_getElem hil))) (by rw [hsec, hlen]; omega)) fun s' => wps_pure ?_
          exact Ent.trans (Ent.of_eq (by simp only [emp_star])) (close s')
  · have hn : (k < 0 ∨ k ≥ R.n ∨ s < 0 ∨ s ≥ R.ns) := Classical.byContradiction fun h => ht (there_or.2 h)
    have he : R.rdErr k s = 11 := by simp only [Rk.rdErr, if_neg ho, if_pos hn]
    rw [show thereB R k s = false by simpa using ht]
    refine wps_ite (fun _ => wps_pure ?_) (fun h => absurd rfl h)
    simp only [Rk.rd, he]
    exact ent_own0 (ent_prr (by simp) (Ent.refl _))
end Go.Proofs.Ytldmeimebebllaa
namespace Go.Proofs.Ytldmeimebebllaa
open Go.Mo
set_option linter.unusedVariables false
variable {g : Fr} {cv : CV}
theorem maxI_bnd {c : Int} (h : c < 9223372036854775808) : -1 ≤ maxI c (-1) ∧ maxI c (-1) < 9223372036854775808 := by
  rw [maxI]; split <;> omega
theorem cnt_tick {c : Int} (h : -1 ≤ c ∧ c < 9223372036854775808) : -1 ≤ maxI (w64 (c - 1)) (-1) ∧ maxI (w64 (c - 1)) (-1) < 9223372036854775808 := by
  rw [w64_id (by omega) (by omega), maxI]; split <;> omega
theorem Rk.cok.arm {R : Rk} (h : R.cok) {c : Int} (hc : c < 9223372036854775808) : (R.arm c).cok := ⟨maxI_bnd hc, h.dks⟩
theorem Rk.cok.setD {R : Rk} (h : R.cok) {k : Nat} {D : Dk} (hD : -1 ≤ D.count ∧ D.count < 9223372036854775808) : (R.setD k D).cok := ⟨h.pow, fun j => by
  simp only [Rk.setD]; split
  · exact hD
  · exact h.dks j⟩
theorem Rk.cok.doom {R : Rk} (h : R.cok) {k c : Int} (hc : c < 9223372036854775808) : (R.doom k c).cok := by
  rw [Rk.doom]; split
  · exact h
  · exact h.setD (maxI_bnd hc)
theorem Rk.cok.ticked {R : Rk} (h : R.cok) : R.ticked.cok := by
  rw [Rk.ticked]; split
  · exact ⟨h.pow, h.dks⟩
  · exact ⟨cnt_tick h.pow, fun j => cnt_tick (h.dks j)⟩
theorem ref02_Arm_spec (mb : Nat) (R : Rk) (l1 l2 l3 l4 : Slc) (c : Int) (hc : c < 9223372036854775808) : wps g (refQ mb R l1 l2 l3 l4) (ref02_Rack_Arm (ptr mb) c) (fun _ => refQ mb (R.arm c) l1 l2 l3 l4) := by
  unfold ref02_Rack_Arm refQ refX4
  refine wps_ex fun sl => wps_ex fun cl => wps_ex fun cs => ?_
  refine wps_prP fun hq => ?_
  repeat (first
    | (with_reducible refine wps_bindpure ?_)
    | (with_reducible refine wps_assoc ?_)
    | (with_reducible refine wps_nil ?_)
    | (with_reducible refine wps_stepAlloc fun _ => ?_)
    | (with_reducible refine wps_alloc fun _ => ?_)
    | (with_reducible refine wps_newO fun _ => ?_)
    | (refine wps_ld _ (by rfl) ?_)
    | (refine wps_ldG _ _ _ (by rfl) ?_)
    | (refine wps_ldA _ (by rfl) ?_)
    | (refine wps_ldI _ (by rfl) ?_)
    | (refine wps_ldGI _ _ _ (by rfl) ?_)
    | (refine wps_ldAI _ (by rfl) ?_)
    | (refine wps_st (by simp) ?_)
    | (refine wps_stA (by simp) (by simp [Value.oneCell']) ?_)
    | ((with_reducible apply wps_val); apply val_ite; rotate_left; refine fun (_ : ¬ _) => ?_; rotate_right; refine fun (_ : _ = true) => ?_)
    | ((with_reducible apply val_ite); rotate_left; refine fun (_ : ¬ _) => ?_; rotate_right; refine fun (_ : _ = true) => ?_)
    | (with_reducible refine wps_regionH ?_)
    | ((with_reducible apply wps_bindV); apply val_iteL; rotate_left; refine fun (_ : ¬ _) => ?_; rotate_right; refine fun (_ : _ = true) => ?_)
    | ((with_reducible apply val_iteL); rotate_left; refine fun (_ : ¬ _) => ?_; rotate_right; refine fun (_ : _ = true) => ?_)
    | (with_reducible exact wps_pure (ent_val rfl)))
  refine wps_pure ?_
  refine ent_ex sl (ent_ex cl (ent_ex cs ?_))
  refine ent_pickC (by rfl) ?_
  have e1 : rlast (R.arm c) = rlast R := rfl
  have e2 : rcach (R.arm c) = rcach R := rfl
  have e3 : bads (R.arm c) = bads R := rfl
  rw [e1, e2, e3]
  repeat (first
    | (with_reducible exact ent_drop)
    | (with_reducible refine ent_pick ?_)
    | (refine ent_pickC (by rfl) ?_)
    | (refine ent_pickS (by rfl) ?_)
    | (refine ent_pickM (by rfl) ?_)
    | (refine ent_prx ?_ ?_; rotate_left)
    | (refine ent_prq ?_))
  exact ⟨hq.hsl, hq.hcl, hq.hcs, hq.n17, hq.ns4, hq.hl1, hq.hl2, hq.hl3, hq.hl4, hq.ok, hq.cnt, hq.cok.arm hc⟩
theorem ref02_Doom_spec (mb : Nat) (R : Rk) (l1 l2 l3 l4 : Slc) (k c : Int) (hc : c < 9223372036854775808) :
    wps g (refQ mb R l1 l2 l3 l4) (ref02_Rack_Doom (ptr mb) k c) (fun e => pr (e = if k < 0 ∨ k ≥ R.n then 11 else 0) * refQ mb (R.doom k c) l1 l2 l3 l4) := by
  unfold ref02_Rack_Doom refQ refX4
  refine wps_ex fun sl => wps_ex fun cl => wps_ex fun cs => ?_
  refine wps_factP fun hq => ?_
  refine wps_val (v := decide (k < 0 ∨ k ≥ R.n)) ?_ ?_
  · apply val_eq
    · repeat (first
        | (with_reducible refine wps_bindpure ?_)
        | (with_reducible refine wps_assoc ?_)
        | (with_reducible refine wps_nil ?_)
        | (with_reducible refine wps_stepAlloc fun _ => ?_)
        | (with_reducible refine wps_alloc fun _ => ?_)
        | (with_reducible refine wps_newO fun _ => ?_)
        | (refine wps_ld _ (by rfl) ?_)
        | (refine wps_ldG _ _ _ (by rfl) ?_)
        | (refine wps_ldA _ (by rfl) ?_)
        | (refine wps_ldI _ (by rfl) ?_)
        | (refine wps_ldGI _ _ _ (by rfl) ?_)
        | (refine wps_ldAI _ (by rfl) ?_)
        | (refine wps_st (by simp) ?_)
        | (refine wps_stA (by simp) (by simp [Value.oneCell']) ?_)
        | ((with_reducible apply wps_val); apply val_ite; rotate_left; refine fun (_ : ¬ _) => ?_; rotate_right; refine fun (_ : _ = true) => ?_)
        | ((with_reducible apply val_ite); rotate_left; refine fun (_ : ¬ _) => ?_; rotate_right; refine fun (_ : _ = true) => ?_)
        | (with_reducible refine wps_regionH ?_)
        | ((with_reducible apply wps_bindV); apply val_iteL; rotate_left; refine fun (_ : ¬ _) => ?_; rotate_right; refine fun (_ : _ = true) => ?_)
        | ((with_reducible apply val_iteL); rotate_left; refine fun (_ : ¬ _) => ?_; rotate_right; refine fun (_ : _ = true) => ?_)
        | (with_reducible exact wps_pure (ent_val rfl)))
    · by_cases h : k < 0 <;> by_cases h' : k ≥ (R.n : Int) <;> simp [h, h']
  by_cases hk : k < 0 ∨ k ≥ R.n
  · rw [if_pos hk, Rk.doom, if_pos hk]
    refine wps_ite (fun _ => wps_pure ?_) (fun h => absurd (by simpa using hk) h)
    exact ent_prr rfl (ent_ex sl (ent_ex cl (ent_ex cs (Ent.refl _))))
  · rw [if_neg hk, Rk.doom, if_neg hk]
    refine wps_ite (fun h => absurd (by simpa using h) hk) (fun _ => ?_)
    have hlt : k.toNat < R.n := by omega
    repeat (first
      | (with_reducible refine wps_bindpure ?_)
      | (with_reducible refine wps_assoc ?_)
      | (with_reducible refine wps_nil ?_)
      | (with_reducible refine wps_stepAlloc fun _ => ?_)
      | (with_reducible refine wps_alloc fun _ => ?_)
      | (with_reducible refine wps_newO fun _ => ?_)
      | (refine wps_ld _ (by rfl) ?_)
      | (refine wps_ldG _ _ _ (by rfl) ?_)
      | (refine wps_ldA _ (by rfl) ?_)
      | (refine wps_ldI _ (by rfl) ?_)
      | (refine wps_ldGI _ _ _ (by rfl) ?_)
      | (refine wps_ldAI _ (by rfl) ?_)
      | (refine wps_st (by simp) ?_)
      | (refine wps_stA (by simp) (by simp [Value.oneCell']) ?_)
      | ((with_reducible apply wps_val); apply val_ite; rotate_left; refine fun (_ : ¬ _) => ?_; rotate_right; refine fun (_ : _ = true) => ?_)
      | ((with_reducible apply val_ite); rotate_left; refine fun (_ : ¬ _) => ?_; rotate_right; refine fun (_ : _ = true) => ?_)
      | (with_reducible refine wps_regionH ?_)
      | ((with_reducible apply wps_bindV); apply val_iteL; rotate_left; refine fun (_ : ¬ _) => ?_; rotate_right; refine fun (_ : _ = true) => ?_)
      | ((with_reducible apply val_iteL); rotate_left; refine fun (_ : ¬ _) => ?_; rotate_right; refine fun (_ : _ = true) => ?_)
      | (with_reducible exact wps_pure (ent_val rfl)))
    refine wps_wrS k.toNat (by omega) (by rw [hq.hl4]; exact hlt) (wps_pure ?_)
    refine ent_prr rfl (ent_ex sl (ent_ex cl (ent_ex (cs.set k.toNat (maxI c (-1))) ?_)))
    refine ent_pickC (by rfl) (ent_pickS (cs' := zv (cs.set k.toNat (maxI c (-1)))) (by simp [zv, List.map_set]) ?_)
    have hdk : ∀ j, ((R.setD k.toNat { R.dk k.toNat with count := maxI c (-1) }).dk j).lasts = (R.dk j).lasts ∧ ((R.setD k.toNat { R.dk k.toNat with count := maxI c (-1) }).dk j).cached = (R.dk j).cached ∧ ((R.setD k.toNat { R.dk k.toNat with count := maxI c (-1) }).dk j).failed = (R.dk j).failed := by
      intro j
      simp only [Rk.setD]
      by_cases hj : j = k.toNat
      · subst hj; simp
      · simp [hj]
    have e1 : rlast (R.setD k.toNat { R.dk k.toNat with count := maxI c (-1) }) = rlast R := by
      funext i; simp only [rlast, (hdk _).1]; rfl
    have e2 : rcach (R.setD k.toNat { R.dk k.toNat with count := maxI c (-1) }) = rcach R := by
      funext i; simp only [rcach, (hdk _).2.1]; rfl
    have e3 : bads (R.setD k.toNat { R.dk k.toNat with count := maxI c (-1) }) = bads R := by
      simp only [bads, (hdk _).2.2]; rfl
    rw [e1, e2, e3]
    repeat (first
      | (with_reducible exact ent_drop)
      | (with_reducible refine ent_pick ?_)
      | (refine ent_pickC (by rfl) ?_)
      | (refine ent_pickS (by rfl) ?_)
      | (refine ent_pickM (by rfl) ?_)
      | (refine ent_prx ?_ ?_; rotate_left)
      | (refine ent_prq ?_))
    all_goals first | trivial | skip
    refine ⟨hq.hsl, hq.hcl, by rw [List.length_set]; exact hq.hcs, hq.n17, hq.ns4, hq.hl1, hq.hl2, hq.hl3, hq.hl4, fun j hj => ?_, fun j hj hf => ?_, hq.cok.setD (maxI_bnd hc)⟩
    · have := hq.ok j hj
      exact ⟨fun q hq' => by rw [(hdk j).1]; exact this.1 q hq', fun q b hb => by rw [(hdk j).2.1] at hb; exact this.2 q b hb⟩
    · by_cases hjk : j = k.toNat
      · subst hjk
        rw [List.getElem?_set_self (by rw [hq.hcs]; exact hlt)]
        simp [Rk.setD]
      · rw [List.getElem?_set_ne (fun e => hjk e.symm)]
        rw [(hdk j).2.2] at hf
        rw [hq.cnt j hj hf]
        simp [Rk.setD, hjk]
def badsT (R : Rk) (i : Nat) : List Value := (List.range R.n).map fun j => .bool (R.part i j).failed
theorem bads_set {n i : Nat} (hi : i < n) {f f' : Nat → Bool} {v : Bool} (hv : f' i = v) (h : ∀ j, j < n → j ≠ i → f' j = f j) : ((List.range n).map fun j => Value.bool (f j)).set i (.bool v) = (List.range n).map fun j => Value.bool (f' j) := by
  apply List.ext_getElem?
  intro q
  rw [List.getElem?_set]
  simp only [List.getElem?_map, List.length_map, List.length_range]
  by_cases hq : q < n
  · rw [List.getElem?_range hq]
    by_cases e : i = q
    · subst e; simp [hv, hq]
    · have e' : q ≠ i := fun h => e h.symm
      simp [e, h q hq e']
  · rw [List.getElem?_eq_none (by simpa using hq)]
    have : ¬ i = q := by omega
    simp [this]
theorem bads_same {n : Nat} {f f' : Nat → Bool} (h : ∀ j, j < n → f' j = f j) : ((List.range n).map fun j => Value.bool (f j)) = (List.range n).map fun j => Value.bool (f' j) := by
  apply List.map_congr_left
  intro j hj
  rw [h j (List.mem_range.1 hj)]
theorem ref02_call_spec (mb : Nat) (R : Rk) (l1 l2 l3 l4 : Slc) : wps g (refQ mb R l1 l2 l3 l4) (ref02_Rack_call (ptr mb)) (fun e => pr (e = if R.count = 0 then 12 else 0) * refQ mb R.ticked l1 l2 l3 l4) := by
  unfold ref02_Rack_call refQ refX4
  refine wps_ex fun sl => wps_ex fun cl => wps_ex fun cs => ?_
  refine wps_prP fun hq => ?_
  repeat (first
    | (with_reducible refine wps_bindpure ?_)
    | (with_reducible refine wps_assoc ?_)
    | (with_reducible refine wps_nil ?_)
    | (with_reducible refine wps_stepAlloc fun _ => ?_)
    | (with_reducible refine wps_alloc fun _ => ?_)
    | (with_reducible refine wps_newO fun _ => ?_)
    | (refine wps_ld _ (by rfl) ?_)
    | (refine wps_ldG _ _ _ (by rfl) ?_)
    | (refine wps_ldA _ (by rfl) ?_)
    | (refine wps_ldI _ (by rfl) ?_)
    | (refine wps_ldGI _ _ _ (by rfl) ?_)
    | (refine wps_ldAI _ (by rfl) ?_)
    | (refine wps_st (by simp) ?_)
    | (refine wps_stA (by simp) (by simp [Value.oneCell']) ?_)
    | ((with_reducible apply wps_val); apply val_ite; rotate_left; refine fun (_ : ¬ _) => ?_; rotate_right; refine fun (_ : _ = true) => ?_)
    | ((with_reducible apply val_ite); rotate_left; refine fun (_ : ¬ _) => ?_; rotate_right; refine fun (_ : _ = true) => ?_)
    | (with_reducible refine wps_regionH ?_)
    | ((with_reducible apply wps_bindV); apply val_iteL; rotate_left; refine fun (_ : ¬ _) => ?_; rotate_right; refine fun (_ : _ = true) => ?_)
    | ((with_reducible apply val_iteL); rotate_left; refine fun (_ : ¬ _) => ?_; rotate_right; refine fun (_ : _ = true) => ?_)
    | (with_reducible exact wps_pure (ent_val rfl)))
  refine wps_ite (fun ho => ?_) (fun ho => ?_)
  · have ho' : R.count = 0 := by simpa using ho
    repeat (first
      | (with_reducible refine wps_bindpure ?_)
      | (with_reducible refine wps_assoc ?_)
      | (with_reducible refine wps_nil ?_)
      | (with_reducible refine wps_stepAlloc fun _ => ?_)
      | (with_reducible refine wps_alloc fun _ => ?_)
      | (with_reducible refine wps_newO fun _ => ?_)
      | (refine wps_ld _ (by rfl) ?_)
      | (refine wps_ldG _ _ _ (by rfl) ?_)
      | (refine wps_ldA _ (by rfl) ?_)
      | (refine wps_ldI _ (by rfl) ?_)
      | (refine wps_ldGI _ _ _ (by rfl) ?_)
      | (refine wps_ldAI _ (by rfl) ?_)
      | (refine wps_st (by simp) ?_)
      | (refine wps_stA (by simp) (by simp [Value.oneCell']) ?_)
      | ((with_reducible apply wps_val); apply val_ite; rotate_left; refine fun (_ : ¬ _) => ?_; rotate_right; refine fun (_ : _ = true) => ?_)
      | ((with_reducible apply val_ite); rotate_left; refine fun (_ : ¬ _) => ?_; rotate_right; refine fun (_ : _ = true) => ?_)
      | (with_reducible refine wps_regionH ?_)
      | ((with_reducible apply wps_bindV); apply val_iteL; rotate_left; refine fun (_ : ¬ _) => ?_; rotate_right; refine fun (_ : _ = true) => ?_)
      | ((with_reducible apply val_iteL); rotate_left; refine fun (_ : ¬ _) => ?_; rotate_right; refine fun (_ : _ = true) => ?_)
      | (with_reducible exact wps_pure (ent_val rfl)))
    refine wps_pure (ent_prr (by rw [if_pos ho']) (ent_ex sl (ent_ex cl (ent_ex cs ?_))))
    have ht : R.ticked = { R with off := true } := by rw [Rk.ticked, if_pos ho']
    rw [ht]
    refine ent_pickC (by rfl) ?_
    have e1 : rlast { R with off := true } = rlast R := rfl
    have e2 : rcach { R with off := true } = rcach R := rfl
    have e3 : bads { R with off := true } = bads R := rfl
    rw [e1, e2, e3]
    repeat (first
      | (with_reducible exact ent_drop)
      | (with_reducible refine ent_pick ?_)
      | (refine ent_pickC (by rfl) ?_)
      | (refine ent_pickS (by rfl) ?_)
      | (refine ent_pickM (by rfl) ?_)
      | (refine ent_prx ?_ ?_; rotate_left)
      | (refine ent_prq ?_))
    exact ⟨hq.hsl, hq.hcl, hq.hcs, hq.n17, hq.ns4, hq.hl1, hq.hl2, hq.hl3, hq.hl4, hq.ok, hq.cnt, ⟨hq.cok.pow, hq.cok.dks⟩⟩
  · have ho' : ¬ R.count = 0 := by simpa using ho
    have ht : R.ticked = { R with count := maxI (w64 (R.count - 1)) (-1), dk := fun j => (R.dk j).tick } := by rw [Rk.ticked, if_neg ho']
    have hpw := hq.cok.pow
    generalize hP : maxI (w64 (R.count - 1)) (-1) = P at *
    repeat (first
      | (with_reducible refine wps_bindpure ?_)
      | (with_reducible refine wps_assoc ?_)
      | (with_reducible refine wps_nil ?_)
      | (with_reducible refine wps_stepAlloc fun _ => ?_)
      | (with_reducible refine wps_alloc fun _ => ?_)
      | (with_reducible refine wps_newO fun _ => ?_)
      | (refine wps_ld _ (by rfl) ?_)
      | (refine wps_ldG _ _ _ (by rfl) ?_)
      | (refine wps_ldA _ (by rfl) ?_)
      | (refine wps_ldI _ (by rfl) ?_)
      | (refine wps_ldGI _ _ _ (by rfl) ?_)
      | (refine wps_ldAI _ (by rfl) ?_)
      | (refine wps_st (by simp) ?_)
      | (refine wps_stA (by simp) (by simp [Value.oneCell']) ?_)
      | (with_reducible refine wps_regionH ?_)
      | (with_reducible exact wps_pure (ent_val rfl)))
    refine wps_bindS (R := fun _ => seqp sl (rlast R) * seqp cl (rcach R) * own 1 l1 (sl.map vS) * own 1 l2 (cl.map vS) * own 1 l3 (bads R) * own 1 l4 (zv cs) * pc mb [.int .i64 R.n, .int .i64 R.ns, vS l1, vS l2, vS l3, vS l4, .int .i64 P, .bool R.off]) ?_ fun _ => ?_
    · refine wps_ite (fun hc => ?_) (fun hc => ?_)
      · have hc' : R.count > 0 := by simpa using hc
        repeat (first
          | (with_reducible refine wps_bindpure ?_)
          | (with_reducible refine wps_assoc ?_)
          | (with_reducible refine wps_nil ?_)
          | (with_reducible refine wps_stepAlloc fun _ => ?_)
          | (with_reducible refine wps_alloc fun _ => ?_)
          | (with_reducible refine wps_newO fun _ => ?_)
          | (refine wps_ld _ (by rfl) ?_)
          | (refine wps_ldG _ _ _ (by rfl) ?_)
          | (refine wps_ldA _ (by rfl) ?_)
          | (refine wps_ldI _ (by rfl) ?_)
          | (refine wps_ldGI _ _ _ (by rfl) ?_)
          | (refine wps_ldAI _ (by rfl) ?_)
          | (refine wps_st (by simp) ?_)
          | (refine wps_stA (by simp) (by simp [Value.oneCell']) ?_)
          | ((with_reducible apply wps_val); apply val_ite; rotate_left; refine fun (_ : ¬ _) => ?_; rotate_right; refine fun (_ : _ = true) => ?_)
          | ((with_reducible apply val_ite); rotate_left; refine fun (_ : ¬ _) => ?_; rotate_right; refine fun (_ : _ = true) => ?_)
          | (with_reducible refine wps_regionH ?_)
          | ((with_reducible apply wps_bindV); apply val_iteL; rotate_left; refine fun (_ : ¬ _) => ?_; rotate_right; refine fun (_ : _ = true) => ?_)
          | ((with_reducible apply val_iteL); rotate_left; refine fun (_ : ¬ _) => ?_; rotate_right; refine fun (_ : _ = true) => ?_)
          | (with_reducible exact wps_pure (ent_val rfl)))
        refine wps_pure ?_
        have : P = w64 (R.count - 1) := by
          rw [← hP, maxI, w64_id (by omega) (by omega), if_neg (by omega)]
        refine ent_pickC (by rw [this]; rfl) ?_
        repeat (first
          | (with_reducible exact ent_drop)
          | (with_reducible refine ent_pick ?_)
          | (refine ent_pickC (by rfl) ?_)
          | (refine ent_pickS (by rfl) ?_)
          | (refine ent_pickM (by rfl) ?_)
          | (refine ent_prx ?_ ?_; rotate_left)
          | (refine ent_prq ?_))
      · have hc' : ¬ R.count > 0 := by simpa using hc
        refine wps_pure ?_
        have : P = R.count := by
          have : R.count = -1 := by omega
          rw [← hP, maxI, this, w64_id (by omega) (by omega), if_pos (by omega)]
        rw [this]
        show Ent _ (_ * _)
        repeat (first
          | (with_reducible exact ent_drop)
          | (with_reducible refine ent_pick ?_)
          | (refine ent_pickC (by rfl) ?_)
          | (refine ent_pickS (by rfl) ?_)
          | (refine ent_pickM (by rfl) ?_)
          | (refine ent_prx ?_ ?_; rotate_left)
          | (refine ent_prq ?_))
    · refine wps_loop (fun i => ex fun n : Nat => ex fun cs : List Int => pr (i = (n : Int) ∧ n ≤ R.n ∧ cs.length = R.n ∧ ∀ j, j < R.n → (R.part n j).failed = false → cs[j]? = some (R.part n j).count) * seqp sl (rlast R) * seqp cl (rcach R) * own 1 l1 (sl.map vS) * own 1 l2 (cl.map vS) * own 1 l3 (badsT R n) * own 1 l4 (zv cs) * pc mb [.int .i64 R.n, .int .i64 R.ns, vS l1, vS l2, vS l3, vS l4, .int .i64 P, .bool R.off]) (fun i => (R.n - i).toNat) ?_ fun i => ?_
      · refine ent_ex 0 (ent_ex cs ?_)
        have hb : badsT R 0 = bads R := by simp [badsT, bads, Rk.part]
        rw [hb]
        repeat (first
          | (with_reducible exact ent_drop)
          | (with_reducible refine ent_pick ?_)
          | (refine ent_pickC (by rfl) ?_)
          | (refine ent_pickS (by rfl) ?_)
          | (refine ent_pickM (by rfl) ?_)
          | (refine ent_prx ?_ ?_; rotate_left)
          | (refine ent_prq ?_))
        refine ⟨rfl, by omega, hq.hcs, fun j hj hf => ?_⟩
        simp only [Rk.part, Nat.not_lt_zero, if_false] at hf ⊢
        exact hq.cnt j hj hf
      · refine wps_ex fun n => wps_ex fun cs => wps_prP fun ⟨hi, hn, hcl, hcnt⟩ => ?_
        repeat (first
          | (with_reducible refine wps_bindpure ?_)
          | (with_reducible refine wps_assoc ?_)
          | (with_reducible refine wps_nil ?_)
          | (with_reducible refine wps_stepAlloc fun _ => ?_)
          | (with_reducible refine wps_alloc fun _ => ?_)
          | (with_reducible refine wps_newO fun _ => ?_)
          | (refine wps_ld _ (by rfl) ?_)
          | (refine wps_ldG _ _ _ (by rfl) ?_)
          | (refine wps_ldA _ (by rfl) ?_)
          | (refine wps_ldI _ (by rfl) ?_)
          | (refine wps_ldGI _ _ _ (by rfl) ?_)
          | (refine wps_ldAI _ (by rfl) ?_)
          | (refine wps_st (by simp) ?_)
          | (refine wps_stA (by simp) (by simp [Value.oneCell']) ?_)
          | ((with_reducible apply wps_val); apply val_ite; rotate_left; refine fun (_ : ¬ _) => ?_; rotate_right; refine fun (_ : _ = true) => ?_)
          | ((with_reducible apply val_ite); rotate_left; refine fun (_ : ¬ _) => ?_; rotate_right; refine fun (_ : _ = true) => ?_)
          | (with_reducible refine wps_regionH ?_)
          | ((with_reducible apply wps_bindV); apply val_iteL; rotate_left; refine fun (_ : ¬ _) => ?_; rotate_right; refine fun (_ : _ = true) => ?_)
          | ((with_reducible apply val_iteL); rotate_left; refine fun (_ : ¬ _) => ?_; rotate_right; refine fun (_ : _ = true) => ?_)
          | (with_reducible exact wps_pure (ent_val rfl)))
        refine wps_ite (fun hc => ?_) (fun hc => ?_)
        · have hlt : n < R.n := by simp only [decide_eq_true_eq] at hc; omega
          have hn17 := hq.n17
          repeat (first
            | (with_reducible refine wps_bindpure ?_)
            | (with_reducible refine wps_assoc ?_)
            | (with_reducible refine wps_nil ?_)
            | (with_reducible refine wps_stepAlloc fun _ => ?_)
            | (with_reducible refine wps_alloc fun _ => ?_)
            | (with_reducible refine wps_newO fun _ => ?_)
            | (refine wps_ld _ (by rfl) ?_)
            | (refine wps_ldG _ _ _ (by rfl) ?_)
            | (refine wps_ldA _ (by rfl) ?_)
            | (refine wps_ldI _ (by rfl) ?_)
            | (refine wps_ldGI _ _ _ (by rfl) ?_)
            | (refine wps_ldAI _ (by rfl) ?_)
            | (refine wps_st (by simp) ?_)
            | (refine wps_stA (by simp) (by simp [Value.oneCell']) ?_)
            | ((with_reducible apply wps_val); apply val_ite; rotate_left; refine fun (_ : ¬ _) => ?_; rotate_right; refine fun (_ : _ = true) => ?_)
            | ((with_reducible apply val_ite); rotate_left; refine fun (_ : ¬ _) => ?_; rotate_right; refine fun (_ : _ = true) => ?_)
            | (with_reducible refine wps_regionH ?_)
            | ((with_reducible apply wps_bindV); apply val_iteL; rotate_left; refine fun (_ : ¬ _) => ?_; rotate_right; refine fun (_ : _ = true) => ?_)
            | ((with_reducible apply val_iteL); rotate_left; refine fun (_ : ¬ _) => ?_; rotate_right; refine fun (_ : _ = true) => ?_)
            | (with_reducible exact wps_pure (ent_val rfl)))
          have hpn : R.part n n = R.dk n := by simp [Rk.part]
          have hps : R.part (n + 1) n = (R.dk n).tick := by simp [Rk.part]
          have hpo : ∀ j, j ≠ n → R.part (n + 1) j = R.part n j := by
            intro j hj
            have : j < n + 1 ↔ j < n := by omega
            simp only [Rk.part, this]
          refine wps_rdS n (R.dk n).failed hi (by rw [badsT, List.getElem?_map, List.getElem?_range hlt, ← hpn]; rfl) ?_
          refine wps_ite (fun hf => ?_) (fun hf => ?_)
          · refine wps_pure ?_
            refine ent_prr (by rw [range_add1 hi (by omega)]; omega) (ent_ex (n + 1) (ent_ex cs ?_))
            have hb : badsT R n = badsT R (n + 1) := bads_same fun j hj => by
              by_cases hjn : j = n
              · subst hjn; rw [hps, hpn]; simp [hf]
              · rw [hpo j hjn]
            rw [hb]
            repeat (first
              | (with_reducible exact ent_drop)
              | (with_reducible refine ent_pick ?_)
              | (refine ent_pickC (by rfl) ?_)
              | (refine ent_pickS (by rfl) ?_)
              | (refine ent_pickM (by rfl) ?_)
              | (refine ent_prx ?_ ?_; rotate_left)
              | (refine ent_prq ?_))
            refine ⟨range_add1 hi (by omega), by omega, hcl, fun j hj hff => ?_⟩
            by_cases hjn : j = n
            · subst hjn; rw [hps] at hff; simp [hf] at hff
            · rw [hpo j hjn] at hff ⊢; exact hcnt j hj hff
          · have hff : (R.dk n).failed = false := by simpa using hf
            have hcn : cs[n]? = some (R.dk n).count := by rw [← hpn]; exact hcnt n hlt (by rw [hpn]; exact hff)
            have hdc := hq.cok.dks n
            repeat (first
              | (with_reducible refine wps_bindpure ?_)
              | (with_reducible refine wps_assoc ?_)
              | (with_reducible refine wps_nil ?_)
              | (with_reducible refine wps_stepAlloc fun _ => ?_)
              | (with_reducible refine wps_alloc fun _ => ?_)
              | (with_reducible refine wps_newO fun _ => ?_)
              | (refine wps_ld _ (by rfl) ?_)
              | (refine wps_ldG _ _ _ (by rfl) ?_)
              | (refine wps_ldA _ (by rfl) ?_)
              | (refine wps_ldI _ (by rfl) ?_)
              | (refine wps_ldGI _ _ _ (by rfl) ?_)
              | (refine wps_ldAI _ (by rfl) ?_)
              | (refine wps_st (by simp) ?_)
              | (refine wps_stA (by simp) (by simp [Value.oneCell']) ?_)
              | (with_reducible refine wps_regionH ?_)
              | (with_reducible exact wps_pure (ent_val rfl)))
            refine wps_rdS n (R.dk n).count hi (by simp [zv, hcn]) ?_
            refine wps_bindS (R := fun _ => seqp sl (rlast R) * seqp cl (rcach R) * own 1 l1 (sl.map vS) * own 1 l2 (cl.map vS) * own 1 l3 (badsT R (n + 1)) * own 1 l4 (zv cs) * pc mb [.int .i64 R.n, .int .i64 R.ns, vS l1, vS l2, vS l3, vS l4, .int .i64 P, .bool R.off]) ?_ fun _ => ?_
            · refine wps_ite (fun h0 => ?_) (fun h0 => ?_)
              · have h0' : (R.dk n).count = 0 := by simpa using h0
                repeat (first
                  | (with_reducible refine wps_bindpure ?_)
                  | (with_reducible refine wps_assoc ?_)
                  | (with_reducible refine wps_nil ?_)
                  | (with_reducible refine wps_stepAlloc fun _ => ?_)
                  | (with_reducible refine wps_alloc fun _ => ?_)
                  | (with_reducible refine wps_newO fun _ => ?_)
                  | (refine wps_ld _ (by rfl) ?_)
                  | (refine wps_ldG _ _ _ (by rfl) ?_)
                  | (refine wps_ldA _ (by rfl) ?_)
                  | (refine wps_ldI _ (by rfl) ?_)
                  | (refine wps_ldGI _ _ _ (by rfl) ?_)
                  | (refine wps_ldAI _ (by rfl) ?_)
                  | (refine wps_st (by simp) ?_)
                  | (refine wps_stA (by simp) (by simp [Value.oneCell']) ?_)
                  | ((with_reducible apply wps_val); apply val_ite; rotate_left; refine fun (_ : ¬ _) => ?_; rotate_right; refine fun (_ : _ = true) => ?_)
                  | ((with_reducible apply val_ite); rotate_left; refine fun (_ : ¬ _) => ?_; rotate_right; refine fun (_ : _ = true) => ?_)
                  | (with_reducible refine wps_regionH ?_)
                  | ((with_reducible apply wps_bindV); apply val_iteL; rotate_left; refine fun (_ : ¬ _) => ?_; rotate_right; refine fun (_ : _ = true) => ?_)
                  | ((with_reducible apply val_iteL); rotate_left; refine fun (_ : ¬ _) => ?_; rotate_right; refine fun (_ : _ = true) => ?_)
                  | (with_reducible exact wps_pure (ent_val rfl)))
                refine wps_wrS n hi (by rw [hq.hl3]; exact hlt) (wps_pure ?_)
                refine ent_pick (ent_pick (ent_pickS ?_ ?_))
                · exact bads_set hlt (by rw [hps]; simp [hff, h0']) fun j hj hjn => by rw [hpo j hjn]
                · repeat (first
                    | (with_reducible exact ent_drop)
                    | (with_reducible refine ent_pick ?_)
                    | (refine ent_pickC (by rfl) ?_)
                    | (refine ent_pickS (by rfl) ?_)
                    | (refine ent_pickM (by rfl) ?_)
                    | (refine ent_prx ?_ ?_; rotate_left)
                    | (refine ent_prq ?_))
              · have h0' : ¬ (R.dk n).count = 0 := by simpa using h0
                have hb : badsT R n = badsT R (n + 1) := bads_same fun j hj => by
                  by_cases hjn : j = n
                  · subst hjn; rw [hps, hpn]; simp [hff, h0']
                  · rw [hpo j hjn]
                rw [hb]
                refine wps_pure ?_
                show Ent _ (_ * _)
                repeat (first
                  | (with_reducible exact ent_drop)
                  | (with_reducible refine ent_pick ?_)
                  | (refine ent_pickC (by rfl) ?_)
                  | (refine ent_pickS (by rfl) ?_)
                  | (refine ent_pickM (by rfl) ?_)
                  | (refine ent_prx ?_ ?_; rotate_left)
                  | (refine ent_prq ?_))
            · repeat (first
                | (with_reducible refine wps_bindpure ?_)
                | (with_reducible refine wps_assoc ?_)
                | (with_reducible refine wps_nil ?_)
                | (with_reducible refine wps_stepAlloc fun _ => ?_)
                | (with_reducible refine wps_alloc fun _ => ?_)
                | (with_reducible refine wps_newO fun _ => ?_)
                | (refine wps_ld _ (by rfl) ?_)
                | (refine wps_ldG _ _ _ (by rfl) ?_)
                | (refine wps_ldA _ (by rfl) ?_)
                | (refine wps_ldI _ (by rfl) ?_)
                | (refine wps_ldGI _ _ _ (by rfl) ?_)
                | (refine wps_ldAI _ (by rfl) ?_)
                | (refine wps_st (by simp) ?_)
                | (refine wps_stA (by simp) (by simp [Value.oneCell']) ?_)
                | ((with_reducible apply wps_val); apply val_ite; rotate_left; refine fun (_ : ¬ _) => ?_; rotate_right; refine fun (_ : _ = true) => ?_)
                | ((with_reducible apply val_ite); rotate_left; refine fun (_ : ¬ _) => ?_; rotate_right; refine fun (_ : _ = true) => ?_)
                | (with_reducible refine wps_regionH ?_)
                | ((with_reducible apply wps_bindV); apply val_iteL; rotate_left; refine fun (_ : ¬ _) => ?_; rotate_right; refine fun (_ : _ = true) => ?_)
                | ((with_reducible apply val_iteL); rotate_left; refine fun (_ : ¬ _) => ?_; rotate_right; refine fun (_ : _ = true) => ?_)
                | (with_reducible exact wps_pure (ent_val rfl)))
              refine wps_rdS n (R.dk n).count hi (by simp [zv, hcn]) ?_
              have hgoal : ∀ cs' : List Int, cs'.length = R.n → (∀ j, j < R.n → j ≠ n → cs'[j]? = cs[j]?) → ((R.dk n).count ≠ 0 → cs'[n]? = some (maxI (w64 ((R.dk n).count - 1)) (-1))) →
                  (∀ j, j < R.n → (R.part (n + 1) j).failed = false → cs'[j]? = some (R.part (n + 1) j).count) := by
                intro cs' h1 h2 h3 j hj hfj
                by_cases hjn : j = n
                · subst hjn
                  rw [hps] at hfj ⊢
                  refine h3 fun h0 => ?_
                  simp [hff, h0] at hfj
                · rw [h2 j hj hjn]
                  rw [hpo j hjn] at hfj ⊢
                  exact hcnt j hj hfj
              refine wps_ite (fun hp => ?_) (fun hp => ?_)
              · have hp' : (R.dk n).count > 0 := by simpa using hp
                repeat (first
                  | (with_reducible refine wps_bindpure ?_)
                  | (with_reducible refine wps_assoc ?_)
                  | (with_reducible refine wps_nil ?_)
                  | (with_reducible refine wps_stepAlloc fun _ => ?_)
                  | (with_reducible refine wps_alloc fun _ => ?_)
                  | (with_reducible refine wps_newO fun _ => ?_)
                  | (refine wps_ld _ (by rfl) ?_)
                  | (refine wps_ldG _ _ _ (by rfl) ?_)
                  | (refine wps_ldA _ (by rfl) ?_)
                  | (refine wps_ldI _ (by rfl) ?_)
                  | (refine wps_ldGI _ _ _ (by rfl) ?_)
                  | (refine wps_ldAI _ (by rfl) ?_)
                  | (refine wps_st (by simp) ?_)
                  | (refine wps_stA (by simp) (by simp [Value.oneCell']) ?_)
                  | ((with_reducible apply wps_val); apply val_ite; rotate_left; refine fun (_ : ¬ _) => ?_; rotate_right; refine fun (_ : _ = true) => ?_)
                  | ((with_reducible apply val_ite); rotate_left; refine fun (_ : ¬ _) => ?_; rotate_right; refine fun (_ : _ = true) => ?_)
                  | (with_reducible refine wps_regionH ?_)
                  | ((with_reducible apply wps_bindV); apply val_iteL; rotate_left; refine fun (_ : ¬ _) => ?_; rotate_right; refine fun (_ : _ = true) => ?_)
                  | ((with_reducible apply val_iteL); rotate_left; refine fun (_ : ¬ _) => ?_; rotate_right; refine fun (_ : _ = true) => ?_)
                  | (with_reducible exact wps_pure (ent_val rfl)))
                refine wps_rdS n (R.dk n).count hi (by simp [zv, hcn]) ?_
                refine wps_wrS n hi (by rw [hq.hl4]; exact hlt) (wps_pure ?_)
                refine ent_prr (by rw [range_add1 hi (by omega)]; omega) (ent_ex (n + 1) (ent_ex (cs.set n (w64 ((R.dk n).count - 1))) ?_))
                refine ent_pick (ent_pickS (by simp [zv, List.map_set]) ?_)
                repeat (first
                  | (with_reducible exact ent_drop)
                  | (with_reducible refine ent_pick ?_)
                  | (refine ent_pickC (by rfl) ?_)
                  | (refine ent_pickS (by rfl) ?_)
                  | (refine ent_pickM (by rfl) ?_)
                  | (refine ent_prx ?_ ?_; rotate_left)
                  | (refine ent_prq ?_))
                refine ⟨range_add1 hi (by omega), by omega, by simpa using hcl, hgoal _ (by simpa using hcl) (fun j _ hjn => by rw [List.getElem?_set_ne (fun e => hjn e.symm)]) fun _ => ?_⟩
                rw [List.getElem?_set_self (by omega)]
                rw [maxI, w64_id (by omega) (by omega), if_neg (by omega)]
              · have hp' : ¬ (R.dk n).count > 0 := by simpa using hp
                refine wps_pure ?_
                refine ent_prr (by rw [range_add1 hi (by omega)]; omega) (ent_ex (n + 1) (ent_ex cs ?_))
                repeat (first
                  | (with_reducible exact ent_drop)
                  | (with_reducible refine ent_pick ?_)
                  | (refine ent_pickC (by rfl) ?_)
                  | (refine ent_pickS (by rfl) ?_)
                  | (refine ent_pickM (by rfl) ?_)
                  | (refine ent_prx ?_ ?_; rotate_left)
                  | (refine ent_prq ?_))
                refine ⟨range_add1 hi (by omega), by omega, hcl, hgoal _ hcl (fun j _ _ => rfl) fun h0 => ?_⟩
                have : (R.dk n).count = -1 := by omega
                rw [hcn, maxI, this, w64_id (by omega) (by omega), if_pos (by omega)]
        · have hne : n = R.n := by simp only [decide_eq_true_eq] at hc; omega
          subst hne
          refine wps_mapR (wps_pure ?_)
          refine ent_prr (by rw [if_neg ho']) (ent_ex sl (ent_ex cl (ent_ex cs ?_)))
          have e1 : rlast R.ticked = rlast R := by rw [ht]; rfl
          have e2 : rcach R.ticked = rcach R := by rw [ht]; rfl
          have e3 : bads R.ticked = badsT R R.n := by
            rw [ht]
            exact bads_same fun j hj => by simp [Rk.part, hj]
          have e4 : R.ticked.n = R.n := by rw [ht]
          have e5 : R.ticked.ns = R.ns := by rw [ht]
          have e6 : R.ticked.count = P := by rw [ht]
          have e7 : R.ticked.off = R.off := by rw [ht]
          have hdt : ∀ j, R.ticked.dk j = (R.dk j).tick := fun j => by rw [ht]
          rw [e1, e2, e3, e4, e5, e6, e7]
          repeat (first
            | (with_reducible exact ent_drop)
            | (with_reducible refine ent_pick ?_)
            | (refine ent_pickC (by rfl) ?_)
            | (refine ent_pickS (by rfl) ?_)
            | (refine ent_pickM (by rfl) ?_)
            | (refine ent_prx ?_ ?_; rotate_left)
            | (refine ent_prq ?_))
          have hq' : RQ R.ticked l1 l2 l3 l4 sl cl cs := by
            refine ⟨by rw [e4, e5]; exact hq.hsl, by rw [e4, e5]; exact hq.hcl, by rw [e4]; exact hcl, by rw [e4]; exact hq.n17, by rw [e5]; exact hq.ns4, by rw [e4, e5]; exact hq.hl1, by rw [e4, e5]; exact hq.hl2, by rw [e4]; exact hq.hl3, by rw [e4]; exact hq.hl4, fun j hj => ?_, fun j hj hf => ?_, hq.cok.ticked⟩
            · rw [e4] at hj; rw [hdt, e5]; exact hq.ok j hj
            · rw [e4] at hj
              rw [hdt] at hf ⊢
              have := hcnt j hj
              simp only [Rk.part, hj, if_true] at this
              exact this hf
          exact hq'
end Go.Proofs.Ytldmeimebebllaa
namespace Go.Proofs.Ytldmeimebebllaa
open Go.Mo
set_option linter.unusedVariables false
variable {g : Fr} {cv : CV}
theorem Calm.flushes : ∀ {xs : List Int} {R : Rk}, Calm R → (∀ d ∈ xs, 0 ≤ d ∧ d < R.n) → 0 < R.ns →
    (flushL xs R).2 = 0 ∧ Calm (flushL xs R).1 ∧ (flushL xs R).1.n = R.n ∧ (flushL xs R).1.ns = R.ns ∧ (∀ j (s : Nat), ((flushL xs R).1.dk j).sec (s : Int) = (R.dk j).sec (s : Int)) ∧
      ∀ j : Nat, ((j : Int) ∈ xs ∨ ∀ s : Int, (R.dk j).cached s = none) → ∀ s : Int, ((flushL xs R).1.dk j).cached s = none
  | [], R, h, _, _ => ⟨rfl, h, rfl, rfl, fun _ _ => rfl, fun j hj s => hj.elim (fun h => by simp at h) (fun h => h s)⟩
  | d :: xs, R, h, hx, hs => by
    have hd := hx d (by simp)
    have hf := h.flush (k := d) hd hs
    have hn := flush_n (R := R) d
    have ih := Calm.flushes (xs := xs) hf.2.2 (by rw [hn.1]; exact fun d' hd' => hx d' (by simp [hd'])) (by rw [hn.2]; exact hs)
    have h12 : ¬ R.gate d 0 64 = 12 := by rw [hf.1]; omega
    simp only [flushL, if_neg h12]
    refine ⟨ih.1, ih.2.1, by rw [ih.2.2.1, hn.1], by rw [ih.2.2.2.1, hn.2], fun j s => ?_, fun j hj s => ?_⟩
    · rw [ih.2.2.2.2.1, hf.2.1]
      simp only [Rk.setD]
      split
      · rename_i e
        subst e
        simp only [Dk.sec, Dk.clean, Dk.flushed, Int.toNat_natCast]
        cases (R.dk d.toNat).cached (s : Int) <;> rfl
      · rfl
    · refine ih.2.2.2.2.2 j ?_ s
      by_cases hjd : (j : Int) = d
      · right
        intro s
        rw [hf.2.1]
        simp only [Rk.setD]
        rw [if_pos (by omega)]; rfl
      · rcases hj with hj | hj
        · left
          simpa [hjd] using hj
        · right
          intro s
          rw [hf.2.1]
          simp only [Rk.setD]
          split
          · rfl
          · exact hj s
/-- what the slots have -/
structure Bl (R : Rk) (m : G3) (b : List Int) (done : Nat → Bool) : Prop where
  calm : Calm R
  n : R.n = 4
  ns : R.ns = 41
  sec : ∀ i s : Nat, i < 3 → s < 41 → (R.dk (slotV (3, 3, 12) m i).1.toNat).sec (s : Int) = if done (i * 41 + s) = true then b else noughts
theorem slot_inj (m : G3) {i j : Nat} (hi : i < 3) (hj : j < 3) (h : (slotV (3, 3, 12) m i).1 = (slotV (3, 3, 12) m j).1) : i = j := by
  rw [(slotV_in m i hi).2, (slotV_in m j hj).2] at h
  split at h <;> split at h <;> omega
theorem Bl.write {R : Rk} {m : G3} {b : List Int} {done : Nat → Bool} (h : Bl R m b done) (hb : b.length = 64) {q r : Nat} (hq : q < 3) (hr : r < 41) :
    R.gate (slotV (3, 3, 12) m q).1 r b.length = 0 ∧ Bl (R.write (slotV (3, 3, 12) m q).1 r b) m b (fun k => if k = q * 41 + r then true else done k) := by
  have hrg := slot_range m q hq
  have hw := h.calm.write (k := (slotV (3, 3, 12) m q).1) (s := r) (b := b) (by rw [h.n]; exact hrg) (by rw [h.ns]; omega) hb
  refine ⟨hw.1, ?_⟩
  rw [hw.2]
  refine ⟨h.calm.put _ _ _, h.n, h.ns, fun i s hi hs => ?_⟩
  rw [put_sec, h.sec i s hi hs]
  have hri := slot_range m i hi
  by_cases h1 : i = q
  · subst h1
    by_cases h2 : s = r
    · subst h2; simp
    · have h4 : ¬ (s : Int) = (r : Int) := by omega
      have h3 : ¬ i * 41 + s = i * 41 + r := by omega
      rw [if_neg (fun e => h4 e.2), if_neg h3]
  · have h2 : ¬ (slotV (3, 3, 12) m i).1.toNat = (slotV (3, 3, 12) m q).1.toNat := fun e => h1 (slot_inj m hi hq (by omega))
    have h3 : ¬ i * 41 + s = q * 41 + r := by omega
    simp [h2, h3]
theorem Bl.final {R : Rk} {m : G3} {b : List Int} {done : Nat → Bool} (h : Bl R m b done) {i s : Nat} (hi : i < 3) (hs : s < 41) :
    ((flushL (disksL (3, 3, 12) m) R).1.restore []).rdErr (slotV (3, 3, 12) m i).1 s = 0 ∧ ((flushL (disksL (3, 3, 12) m) R).1.restore []).rd (slotV (3, 3, 12) m i).1 s = if done (i * 41 + s) = true then b else noughts := by
  have hf := h.calm.flushes (xs := disksL (3, 3, 12) m) (by rw [h.n]; exact disks_range m) (by rw [h.ns]; omega)
  have hri := slot_range m i hi
  obtain ⟨hz, hC, hn, hns, hsec, hnone⟩ := hf
  generalize (flushL (disksL (3, 3, 12) m) R).1 = R1 at *
  have hmem : (((slotV (3, 3, 12) m i).1.toNat : Nat) : Int) ∈ disksL (3, 3, 12) m := by
    rw [show (((slotV (3, 3, 12) m i).1.toNat : Nat) : Int) = (slotV (3, 3, 12) m i).1 by omega]
    unfold disksL
    refine List.mem_append_left _ (List.mem_map.2 ⟨i, ?_, rfl⟩)
    simpa using hi
  have hcn := hnone _ (.inl hmem)
  have hr : ¬ ((slotV (3, 3, 12) m i).1 < 0 ∨ (slotV (3, 3, 12) m i).1 ≥ ((R1.restore []).n : Int) ∨ (s : Int) < 0 ∨ (s : Int) ≥ ((R1.restore []).ns : Int)) := by
    show ¬ (_ ∨ _ ≥ (R1.n : Int) ∨ _ ∨ _ ≥ (R1.ns : Int))
    rw [hn, hns, h.n, h.ns]; omega
  have he : (R1.restore []).rdErr (slotV (3, 3, 12) m i).1 s = 0 := by
    rw [Rk.rdErr, if_neg (by simp [Rk.restore]), if_neg hr, if_neg]
    show ¬ (R1.dk _).failed = true
    simp [hC.failed]
  refine ⟨he, ?_⟩
  rw [Rk.rd, if_pos he, ← h.sec i s hi hs, ← hsec]
  show (Dk.restored R1 [] (slotV (3, 3, 12) m i).1.toNat).sec (s : Int) = _
  simp only [Dk.restored, Dk.clean, Dk.flushed, Dk.sec, Int.toNat_natCast, hcn]
def flags (n : Nat) (f : Nat → Bool) : List Value := (List.range n).map fun i => .bool (f i)
theorem flags_set {n : Nat} (f : Nat → Bool) {i : Nat} (hi : i < n) : (flags n f).set (0 + i * 1) (.bool true) = flags n fun q => if q = i then true else f q := by
  rw [Nat.zero_add, Nat.mul_one]
  exact bads_set hi (by simp) fun j _ hj => by simp [hj]
theorem flags_get {n : Nat} (f : Nat → Bool) {i : Nat} (hi : i < n) : (flags n f)[0 + i * 1]? = some (.bool (f i)) := by
  rw [Nat.zero_add, Nat.mul_one, flags, List.getElem?_map, List.getElem?_range hi]; rfl
theorem idx123 (x : Int) : ∃ i : Nat, i < 123 ∧ Int.tmod (bAnd .i64 x 1023) 123 = (i : Int) ∧ w64 (Int.tdiv (i : Int) 41) = ((i / 41 : Nat) : Int) ∧ Int.tmod (i : Int) 41 = ((i % 41 : Nat) : Int) := by
  have h := bAnd_le x 1023 (by omega)
  have h' : ((1023 : Nat) : Int) = 1023 := rfl
  rw [h'] at h
  obtain ⟨k, hk⟩ : ∃ k : Nat, bAnd .i64 x 1023 = (k : Int) := ⟨(bAnd .i64 x 1023).toNat, by omega⟩
  refine ⟨k % 123, Nat.mod_lt _ (by omega), by rw [hk]; rfl, ?_, rfl⟩
  have : k % 123 < 123 := Nat.mod_lt _ (by omega)
  rw [show Int.tdiv ((k % 123 : Nat) : Int) 41 = ((k % 123 / 41 : Nat) : Int) from rfl, w64_id] <;> omega
set_option maxRecDepth 100000 in
theorem law06_BankLasts_spec (hcd : DisksOk cv) (hcv : KeysOk cv) (m : G3) (x : Slc) (xs : List Int) (y : Slc) (b : List Int) : wps g (intsP x xs * byt y b) (law06_BankLasts cv m x y) (fun r => pr (r = true)) := by
  unfold law06_BankLasts
  refine wps_alloc fun c3 => ?_
  refine wps_callE (fun _ => law06_alive_spec) fun a => ?_
  refine wps_prP fun ha => ?_
  subst ha
  refine wps_fact (ilen_of (s := x) (b := xs) (ent_pick1)) fun hl => ?_
  refine wps_fact (len_of (s := y) (b := b) (ent_pick1)) fun hlb => ?_
  refine wps_ite (fun h => absurd h (by decide)) (fun _ => ?_)
  refine wps_val (v := decide ((x.len : Int) > 100 ∨ (y.len : Int) ≠ 64)) ?_ ?_
  · apply val_eq
    · repeat (first
        | (with_reducible refine wps_bindpure ?_)
        | (with_reducible refine wps_assoc ?_)
        | (with_reducible refine wps_nil ?_)
        | (with_reducible refine wps_stepAlloc fun _ => ?_)
        | (with_reducible refine wps_alloc fun _ => ?_)
        | (with_reducible refine wps_newO fun _ => ?_)
        | (refine wps_ld _ (by rfl) ?_)
        | (refine wps_ldG _ _ _ (by rfl) ?_)
        | (refine wps_ldA _ (by rfl) ?_)
        | (refine wps_ldI _ (by rfl) ?_)
        | (refine wps_ldGI _ _ _ (by rfl) ?_)
        | (refine wps_ldAI _ (by rfl) ?_)
        | (refine wps_st (by simp) ?_)
        | (refine wps_stA (by simp) (by simp [Value.oneCell']) ?_)
        | ((with_reducible apply wps_val); apply val_ite; rotate_left; refine fun (_ : ¬ _) => ?_; rotate_right; refine fun (_ : _ = true) => ?_)
        | ((with_reducible apply val_ite); rotate_left; refine fun (_ : ¬ _) => ?_; rotate_right; refine fun (_ : _ = true) => ?_)
        | (with_reducible refine wps_regionH ?_)
        | ((with_reducible apply wps_bindV); apply val_iteL; rotate_left; refine fun (_ : ¬ _) => ?_; rotate_right; refine fun (_ : _ = true) => ?_)
        | ((with_reducible apply val_iteL); rotate_left; refine fun (_ : ¬ _) => ?_; rotate_right; refine fun (_ : _ = true) => ?_)
        | (with_reducible exact wps_pure (ent_val rfl)))
    · by_cases h : (x.len : Int) > 100 <;> simp [h]; rw [Bool.eq_iff_iff]; simp
  refine wps_ite (fun _ => wps_pure (ent_prq rfl)) (fun hle => ?_)
  have hle' : ¬ ((x.len : Int) > 100 ∨ (y.len : Int) ≠ 64) := by simpa using hle
  have hb64 : b.length = 64 := by omega
  have hxl : xs.length ≤ 100 := by omega
  repeat (first
    | (with_reducible refine wps_val (law06_Small_val) ?_)
    | (with_reducible refine wps_stepV (law06_Small_val) ?_)
    | (with_reducible refine wps_val (geo_Sectors_val _) ?_)
    | (with_reducible refine wps_stepV (geo_Sectors_val _) ?_)
    | (with_reducible refine wps_bindpure ?_)
    | (with_reducible refine wps_assoc ?_)
    | (with_reducible refine wps_nil ?_)
    | (with_reducible refine wps_stepAlloc fun _ => ?_)
    | (with_reducible refine wps_alloc fun _ => ?_)
    | (with_reducible refine wps_newO fun _ => ?_)
    | (refine wps_ld _ (by rfl) ?_)
    | (refine wps_ldG _ _ _ (by rfl) ?_)
    | (refine wps_ldA _ (by rfl) ?_)
    | (refine wps_ldI _ (by rfl) ?_)
    | (refine wps_ldGI _ _ _ (by rfl) ?_)
    | (refine wps_ldAI _ (by rfl) ?_)
    | (refine wps_st (by simp) ?_)
    | (refine wps_stA (by simp) (by simp [Value.oneCell']) ?_)
    | (with_reducible refine wps_regionH ?_)
    | (with_reducible exact wps_pure (ent_val rfl)))
  rw [Small_sect]
  refine wps_callE (fun _ => device_New_spec 4 41) fun z => ?_
  rw [if_neg (by decide), show Rk.new (Int.toNat 4) (Int.toNat 41) = Rk.new 4 41 from rfl]
  refine wps_exP fun rb => ?_
  simp only [← star_assoc]
  refine wps_prP fun hz => ?_
  subst hz
  unfold rack
  refine wps_exP fun ds => wps_exP fun ps => ?_
  refine wps_val (v := false) (wps_ite (fun h => absurd h (by simp)) (fun _ => wps_pure (ent_val rfl))) ?_
  refine wps_ite (fun h => absurd h (by decide)) (fun _ => ?_)
  refine wps_regionH ?_
  refine wps_ldGI m.1 m.2.1 m.2.2 (by rfl) ?_
  refine wps_stepV law06_Small_val ?_
  refine wps_callH (fun _ => bank_Open_spec rb (Rk.new 4 41) ds ps (3, 3, 12) m) fun z => ?_
  by_cases ho : OpenB (Rk.new 4 41).n (Rk.new 4 41).ns (3, 3, 12) m = true
  rotate_left
  · simp only [ho, if_false, Bool.false_eq_true]
    simp only [← star_assoc]
    refine wps_prP fun hx => ?_
    subst hx
    refine wps_val (v := true) (wps_ite (fun _ => wps_pure (ent_val rfl)) (fun h => absurd rfl h)) ?_
    exact wps_ite (fun _ => wps_pure (ent_prq rfl)) (fun h => absurd rfl h)
  simp only [ho, if_true]
  refine wps_exP fun bb => ?_
  simp only [← star_assoc]
  refine wps_prP fun hz => ?_
  subst hz
  refine wps_val (v := false) (wps_ite (fun h => absurd h (by simp)) (fun _ => wps_pure (ent_val rfl))) ?_
  refine wps_ite (fun h => absurd h (by decide)) (fun _ => ?_)
  refine wps_alloc fun c10 => ?_
  refine wps_stA (by decide) (by decide) ?_
  refine wps_pre (H' := intsP x xs * byt y b * rackP rb (Rk.new 4 41) ds ps * bnk bb rb (3, 3, 12) m * pc c10 (flags 123 fun _ => false)) ?_ ?_
  · refine ent_pickC (by rfl) ?_
    repeat (first
      | (with_reducible exact ent_drop)
      | (with_reducible refine ent_pick ?_)
      | (refine ent_pickC (by rfl) ?_)
      | (refine ent_pickS (by rfl) ?_)
      | (refine ent_pickM (by rfl) ?_)
      | (refine ent_prx ?_ ?_; rotate_left)
      | (refine ent_prq ?_))
  refine wps_loop (fun st => ex fun n : Nat => ex fun done : Nat → Bool => ex fun R : Rk => pr (st = (n : Int) ∧ n ≤ xs.length ∧ Bl R m b done) * intsP x xs * byt y b * rackP rb R ds ps * bnk bb rb (3, 3, 12) m * pc c10 (flags 123 done)) (fun st => (xs.length - st).toNat) ?_ fun st => ?_
  · refine ent_ex 0 (ent_ex (fun _ => false) (ent_ex (Rk.new 4 41) ?_))
    repeat (first
      | (with_reducible exact ent_drop)
      | (with_reducible refine ent_pick ?_)
      | (refine ent_pickC (by rfl) ?_)
      | (refine ent_pickS (by rfl) ?_)
      | (refine ent_pickM (by rfl) ?_)
      | (refine ent_prx ?_ ?_; rotate_left)
      | (refine ent_prq ?_))
    all_goals first | exact ⟨rfl, by omega, Calm.new 4 41, rfl, rfl, fun _ _ _ _ => rfl⟩ | trivial
  · refine wps_ex fun n => wps_ex fun done => wps_ex fun R => wps_prP fun ⟨hs, hn, hB⟩ => ?_
    refine wps_ite (fun hc => ?_) (fun hc => ?_)
    · have hlt : n < xs.length := by simp only [decide_eq_true_eq] at hc; omega
      refine wps_rdS n xs[n] hs (by simp [zv]) ?_
      obtain ⟨k, hk, e1, e2, e3⟩ := idx123 xs[n]
      rw [e1, e2, e3]
      have hq : k / 41 < 3 := by omega
      have hr : k % 41 < 41 := Nat.mod_lt _ (by omega)
      have hw := hB.write hb64 hq hr
      have hkk : k / 41 * 41 + k % 41 = k := by omega
      rw [hkk] at hw
      refine wps_call3 (fun _ => bank_Write_spec (H := byt y b) bb rb (3, 3, 12) m R ds ps ((k / 41 : Nat) : Int) ((k % 41 : Nat) : Int) y b (Ent.refl _) (by omega)) fun e => ?_
      rw [(slotV_in m (k / 41) hq).1]
      simp only [if_true, ← star_assoc]
      refine wps_prP fun he => ?_
      rw [hw.1] at he
      subst he
      refine wps_ite (fun h => absurd h (by decide)) (fun _ => ?_)
      refine wps_idxA k rfl hk ?_
      refine wps_st (by simp [flags]; omega) (wps_pure ?_)
      rw [flags_set _ hk]
      refine ent_prr (by rw [range_add1 hs (by omega)]; omega) (ent_ex (n + 1) (ent_ex (fun q => if q = k then true else done q) (ent_ex (R.write (slotV (3, 3, 12) m ((k / 41 : Nat) : Int)).1 ((k % 41 : Nat) : Int) b) ?_)))
      refine ent_pick ?_
      repeat (first
        | (with_reducible exact ent_drop)
        | (with_reducible refine ent_pick ?_)
        | (refine ent_pickC (by rfl) ?_)
        | (refine ent_pickS (by rfl) ?_)
        | (refine ent_pickM (by rfl) ?_)
        | (refine ent_prx ?_ ?_; rotate_left)
        | (refine ent_prq ?_))
      all_goals first | exact ⟨range_add1 hs (by omega), by omega, hw.2⟩ | trivial
    · refine wps_mapR ?_
      refine wps_call2 (fun _ => bank_Flush_spec hcd bb rb (3, 3, 12) m (by decide) R ds ps) fun e => ?_
      simp only [← star_assoc]
      refine wps_prP fun he => ?_
      have hf := hB.calm.flushes (xs := disksL (3, 3, 12) m) (by rw [hB.n]; exact disks_range m) (by rw [hB.ns]; omega)
      rw [hf.1] at he
      subst he
      refine wps_ite (fun h => absurd h (by decide)) (fun _ => ?_)
      refine wps_call (F := intsP x xs * byt y b * pc c10 (flags 123 done) * bnk bb rb (3, 3, 12) m) (fun _ => device_Rack_Restore_spec (H := emp) hcv rb (flushL (disksL (3, 3, 12) m) R).1 ds ps ⟨none, 0, 0⟩ [] (fun _ _ => .inl ⟨rfl, rfl⟩)) ?_ fun _ => ?_
      · rw [emp_star (rackP rb _ ds ps)]
        repeat (first
          | (with_reducible exact ent_drop)
          | (with_reducible refine ent_pick ?_)
          | (refine ent_pickC (by rfl) ?_)
          | (refine ent_pickS (by rfl) ?_)
          | (refine ent_pickM (by rfl) ?_)
          | (refine ent_prx ?_ ?_; rotate_left)
          | (refine ent_prq ?_))
      simp only [← star_assoc]
      have hfin : ∀ {i s : Nat}, i < 3 → s < 41 → _ := fun hi hs => hB.final hi hs
      generalize (flushL (disksL (3, 3, 12) m) R).1.restore [] = R2 at *
      refine wps_loop (fun st => ex fun n : Nat => pr (st = (n : Int) ∧ n ≤ 123) * byt y b * rackP rb R2 ds ps * bnk bb rb (3, 3, 12) m * pc c10 (flags 123 done)) (fun st => (123 - st).toNat) ?_ fun st => ?_
      · refine ent_ex 0 ?_
        repeat (first
          | (with_reducible exact ent_drop)
          | (with_reducible refine ent_pick ?_)
          | (refine ent_pickC (by rfl) ?_)
          | (refine ent_pickS (by rfl) ?_)
          | (refine ent_pickM (by rfl) ?_)
          | (refine ent_prx ?_ ?_; rotate_left)
          | (refine ent_prq ?_))
        all_goals first | exact ⟨rfl, by omega⟩ | trivial
      · refine wps_ex fun k => wps_prP fun ⟨hk, hkn⟩ => ?_
        refine wps_ite (fun hc2 => ?_) (fun hc2 => wps_mapR (wps_pure (ent_prq rfl)))
        have hk3 : k < 123 := by simp only [decide_eq_true_eq] at hc2; omega
        have hq : k / 41 < 3 := by omega
        have hr : k % 41 < 41 := Nat.mod_lt _ (by omega)
        have hkk : k / 41 * 41 + k % 41 = k := by omega
        obtain ⟨r1, r2⟩ := hfin hq hr
        rw [hkk] at r2
        have e2 : w64 (Int.tdiv st 41) = ((k / 41 : Nat) : Int) := by
          rw [hk, show Int.tdiv (k : Int) 41 = ((k / 41 : Nat) : Int) from rfl, w64_id] <;> omega
        have e3 : Int.tmod st 41 = ((k % 41 : Nat) : Int) := by rw [hk]; rfl
        rw [e2, e3]
        refine wps_call2 (fun _ => bank_Read_spec bb rb (3, 3, 12) m R2 ds ps ((k / 41 : Nat) : Int) ((k % 41 : Nat) : Int)) fun z => ?_
        rw [(slotV_in m (k / 41) hq).1]
        simp only [if_true, ← star_assoc]
        rw [r1, r2]
        refine wps_prP fun hz => ?_
        refine wps_alloc fun c => ?_
        refine wps_swap (A := pc c (List.replicate 64 (Value.int .u8 0))) (B := byt ⟨some ⟨c, 0, none⟩, 64, 64⟩ noughts) (Ent.trans (Ent.trans (pc_own (n := 64) (z := 1) (by simp)) (own_rsl _ _ _)) (Ent.of_eq (by rw [byt, bv_noughts]))) ?_
        refine wps_idxA k hk hk3 ?_
        refine wps_ld (done k) (flags_get _ hk3) ?_
        generalize hw : (if done k = true then b else noughts) = w
        refine wps_bindV (u := if done k = true then y else ⟨some ⟨c, 0, none⟩, 64, 64⟩) ?_ ?_
        · exact val_iteL (fun _ => wps_pure (ent_val rfl)) (fun _ => wps_pure (ent_val rfl))
        have hwl : w.length = 64 := by rw [← hw]; split <;> first | exact hb64 | rfl
        refine wps_val (v := false) ?_ ?_
        · refine wps_ite (fun h => ?_) (fun _ => ?_)
          · rw [hz] at h; simp at h
          · refine wps_val (ref00_SameBytes_val (x := w) (y := w) (Ent.trans (ent_pick1 (A := own 1 z.1 (bv w))) (own_rsl _ _ _)) ?_ (by omega)) ?_
            · rw [← hw]
              by_cases hd : done k = true
              · rw [if_pos hd, if_pos hd]; exact ent_pick1
              · rw [if_neg hd, if_neg hd]; exact ent_pick1
            · exact wps_pure (ent_val (by simp))
        refine wps_ite (fun h => absurd h (by decide)) (fun _ => wps_pure ?_)
        refine ent_prr (by rw [range_add1 hk (by omega)]; omega) (ent_ex (k + 1) ?_)
        repeat (first
          | (with_reducible exact ent_drop)
          | (with_reducible refine ent_pick ?_)
          | (refine ent_pickC (by rfl) ?_)
          | (refine ent_pickS (by rfl) ?_)
          | (refine ent_pickM (by rfl) ?_)
          | (refine ent_prx ?_ ?_; rotate_left)
          | (refine ent_prq ?_))
        all_goals first | exact ⟨range_add1 hk (by omega), by omega⟩ | trivial
end Go.Proofs.Ytldmeimebebllaa
namespace Go.Mo
open Go.RowKit
set_option linter.unusedVariables false

/-! ## The whole world, read only -/
def full (W : World) : Hp := fun i => (W.heap[i]?).map fun ob => (ob, true)
def fullF (W : World) : Fr := ⟨full W, W.os, W.output⟩
theorem full_own (W : World) : Own W (full W) (fullF W) := by
  have hok : Hp.ok (full W) W := fun x ob r h => by
    simp only [full, Option.map_eq_some_iff, Prod.mk.injEq] at h
    obtain ⟨ob', h, rfl, _⟩ := h
    exact h
  refine ⟨fun x => ?_, hok, hok, rfl, rfl⟩
  cases h : full W x with
  | none => exact .inl rfl
  | some p =>
    obtain ⟨ob, r⟩ := p
    right; right
    simp only [full, Option.map_eq_some_iff, Prod.mk.injEq] at h
    obtain ⟨ob', h, rfl, rfl⟩ := h
    exact ⟨ob', rfl, by simp [fullF, full, h]⟩
structure Kept (W w' : World) : Prop where
  frame : W.keptBut w' (fun _ => False)
  block : ∀ (i : Nat) ob, W.heap[i]? = some ob → w'.heap[i]? = some ob
theorem kept_of_own {W w' : World} {a : Hp} (h : Own w' a (fullF W)) : Kept W w' := by
  have hh : ∀ (i : Nat) ob, W.heap[i]? = some ob → w'.heap[i]? = some ob := fun i ob hi => h.2.2.1 i ob true (by simp [fullF, full, hi])
  refine ⟨⟨h.2.2.2.os, h.2.2.2.out, fun i hi => ?_⟩, hh⟩
  rw [hh i _ (Array.getElem?_eq_getElem hi), Array.getElem?_eq_getElem hi]
  cases W.heap[i] with
  | cells c t fr => exact ⟨rfl, rfl, rfl, fun _ _ => rfl⟩
  | map es clock => exact .inr ⟨rfl, rfl⟩
  | _ => rfl
theorem Kept.same {W w' : World} (h : Kept W w') {b : Nat} (hb : b < W.heap.size) : w'.heap[b]? = W.heap[b]? :=
  (h.block b _ (Array.getElem?_eq_getElem hb)).trans (Array.getElem?_eq_getElem hb).symm
open Go.ChangeShapes Go.WideShapes in
theorem post_of_kept {H : Type} {enc : TypeId × Value → H} {P : Program} {f : Func} {s : ChangeSpec} {apart fresh handsOn again : Bool} {W W' : World} {args : Array Value} {v : Value} {ds gs : List (DataW H)} {before pa pv : List MemPlace}
    (hW : DataW.Whole enc P f.params.toList s.vars apart W args.toList ds gs before)
    (hres : ∀ (b : Nat) (sp : Nat → Bool) (hd : Bool), DataW.TrodAll enc P W' b sp hd f.resultTypes.toList (v.resultList f.resultTypes.size) (s.fn H (ds ++ gs)).results [])
    (hargs : ∀ sp : Nat → Bool, (∀ p ∈ before, sp p.block = true) → DataW.TrodAll enc P W' 0 sp true f.params.toList args.toList (s.fn H (ds ++ gs)).args pa)
    (hvars : ∀ sp : Nat → Bool, (∀ p ∈ before, sp p.block = true) → DataW.TrodVars enc P W' sp s.vars (s.fn H (ds ++ gs)).vars pv)
    (hps : before = pa ++ pv) (hk : Kept W W')
    (hok : ∀ (j : Nat) (t : TypeId) (r : Value), f.resultTypes[j]? = some t → (v.resultList f.resultTypes.size)[j]? = some r → Value.okWide P W' .any 0 t r) :
    s.post enc P f apart fresh handsOn again W args v W' := by
  have hold : ∀ p ∈ before, (fun b => decide (b < W.heap.size)) p.block = true := fun p hp => by simpa using hW.lt p hp
  refine ⟨ds, gs, before, [], pa, pv, hW, hres _ _ _, hargs _ hold, hvars _ hold, World.keptBut_mono (fun p hp => hp.elim) hk.frame, fun _ => ?_⟩
  have hlt := hW.lt
  obtain ⟨_, _, _, _, _, hz, hn⟩ := hW
  refine ⟨hok, _, _, ([] ++ pa) ++ pv, ⟨[] ++ pa, pv, trodAll_append (hargs _ (fun _ _ => rfl)) (hres _ _ _), hvars _ (fun _ _ => rfl), rfl, ?_, ?_⟩, ?_⟩
  · intro b off hp
    have hp' : MemPlace.cell b off ∈ before := by rw [hps]; simpa using hp
    have hb : b < W.heap.size := hlt _ hp'
    have := hz b off hp'
    unfold World.frozen? at this ⊢
    rw [show W'.heap[(⟨b, off, none⟩ : Addr).block]? = W.heap[(⟨b, off, none⟩ : Addr).block]? from hk.same hb]
    exact this
  · intro ha
    have := hn ha
    rw [hps] at this
    simpa using this
  · intro p hp _
    rw [hps]
    simpa using hp
theorem wps_run {m : M Bool} {H : HP} (h : ∀ g, wps g H m fun b => pr (b = true)) (W : World) (hH : H.p (full W)) : m (fun b w' => b = true ∧ Kept W w') W :=
  h (fullF W) W (full W) _ (full_own W) hH fun x w' a' ho hb => ⟨hb, kept_of_own ho⟩
theorem calls_law {P : Program} {f : FuncId} {args : Array Value} {W : World} (h : Calls P f args W (RetPost Value.bool fun b w' => b = true ∧ Kept W w')) : Calls P f args W fun e w' => e = .returned (.bool true) ∧ Kept W w' :=
  h.mono fun e w' he => by
    cases e with
    | returned v =>
      obtain ⟨b, rfl, rfl, hg⟩ := he
      exact ⟨rfl, hg⟩
    | panicked c => exact he.elim
    | outgrown => exact he.elim

/-! ## The arguments read as they did -/
theorem trodAll_carry {H : Type} {enc : TypeId × Value → H} {P : Program} {w w' : World} {base : Nat} {spare : Nat → Bool} {held : Bool} : ∀ {ts : List TypeId} {vs : List Value} {ds : List (DataW H)} {ps : List MemPlace},
    DataW.TrodAll enc P w base spare held ts vs ds ps → (∀ p ∈ ps, w.sameAt w' p) → DataW.TrodAll enc P w' base spare held ts vs ds ps
  | [], [], [], _, h, _ => h
  | _ :: _, _ :: _, _ :: _, _, ⟨p, q, ⟨n, h1⟩, h2, e⟩, hs => ⟨p, q, ⟨n, DataW.trod_carry n _ _ _ h1 fun x hx => hs x (by rw [e]; exact List.mem_append_left _ hx)⟩,
      trodAll_carry h2 (fun x hx => hs x (by rw [e]; exact List.mem_append_right _ hx)), e⟩
theorem args_again {H : Type} {enc : TypeId × Value → H} {P : Program} {W W' : World} (hg : Kept W W') (kids : Kids P (· < P.types.size)) (fulls : ∀ t e, t < P.types.size → P.underlying t = some (.slice e) → 0 < P.cellsOf e)
    {ts : List TypeId} (hts : ∀ t ∈ ts, t < P.types.size) {vs : List Value} {ds : List (DataW H)} {ps : List MemPlace} (h : DataW.TrodAll enc P W 0 (fun _ => true) true ts vs ds ps) {sp : Nat → Bool} (hs : ∀ p ∈ ps, sp p.block = true) (hlt : ∀ p ∈ ps, p.block < W.heap.size) :
    DataW.TrodAll enc P W' 0 sp true ts vs ds ps :=
  trodAll_carry (DataW.TrodAll.respare kids fulls hts h hs) fun p hp => by
    have hb := hlt p hp
    have he := hg.same hb
    cases p with
    | cell b o => simp only [World.sameAt, World.cell?]; rw [show W'.heap[b]? = W.heap[b]? from he]
    | map b => exact he
end Go.Mo
namespace Go.Proofs.Ytldmeimebebllaa
open Go.Mo
set_option linter.unusedVariables false
/-- a row of cells of the world, as a slice that is read -/
theorem rsl_full {W : World} {a : Addr} {len cap : Nat} {cs : List Value} (hl : len ≤ cap) (hz : cs.length = len) (hc : ∀ i, i < len → W.cell? (a.add i) = cs[i]?) : (rsl 1 ⟨some a, len, cap⟩ cs).p (full W) := by
  by_cases h0 : len = 0
  · left
    exact ⟨h0, List.eq_nil_of_length_eq_zero (by omega)⟩
  · right
    have hc0 := hc 0 (by omega)
    have ha0 : a.add 0 = a := by simp [Addr.add]
    rw [ha0, List.getElem?_eq_getElem (by omega)] at hc0
    have hsp := World.cell?_spot hc0
    obtain ⟨b, off, sp⟩ := a
    simp only at hsp
    subst hsp
    unfold World.cell? at hc0
    cases hb : W.heap[b]? with
    | none => simp [hb] at hc0
    | some ob =>
      cases ob with
      | cells c e f =>
        refine ⟨⟨b, off, none⟩, c.toList, ent_prr (A := ro b c.toList) (B := ro b c.toList) ⟨rfl, by simpa using hz, hl, ?_⟩ (Ent.refl _) _ ⟨e, f, true, by simp [full, hb]⟩⟩
        apply List.ext_getElem?
        intro i
        simp only [Nat.mul_one]
        rw [List.getElem?_take]
        by_cases hi : i < len
        · rw [if_pos hi, List.getElem?_drop, ← hc i hi, Addr.add_mk]
          simp [World.cell?, hb]
        · rw [if_neg hi, List.getElem?_eq_none (by omega)]
      | _ => simp [hb] at hc0
theorem byt_full {W : World} {a : Addr} {len cap : Nat} {zs : List Int} (hl : len ≤ cap) (hz : zs.length = cap) (hc : ∀ i, i < zs.length → W.cell? (a.add i) = some (.int .u8 (zs.getD i 0))) : (byt ⟨some a, len, cap⟩ (zs.take len)).p (full W) := by
  refine rsl_full hl (by simp [bv]; omega) fun i hi => ?_
  rw [hc i (by omega), bv, List.getElem?_map, List.getElem?_take, if_pos hi, List.getElem?_eq_getElem (by omega)]
  simp [List.getD_eq_getElem?_getD, List.getElem?_eq_getElem (show i < zs.length by omega)]
theorem byt_full_nil (W : World) : (byt ⟨none, 0, 0⟩ []).p (full W) := .inl ⟨rfl, rfl⟩
end Go.Proofs.Ytldmeimebebllaa
namespace Go.Proofs.Ytldmeimebebllaa
open Go.Mo
set_option linter.unusedVariables false
theorem ints_full {W : World} {a : Addr} {len cap : Nat} {zs : List Int} (hl : len ≤ cap) (hz : zs.length = cap) (hc : ∀ i, i < zs.length → W.cell? (a.add i) = some (.int .i64 (zs.getD i 0))) : (intsP ⟨some a, len, cap⟩ (zs.take len)).p (full W) := by
  refine rsl_full hl (by simp [zv]; omega) fun i hi => ?_
  rw [hc i (by omega), zv, List.getElem?_map, List.getElem?_take, if_pos hi, List.getElem?_eq_getElem (by omega)]
  simp [List.getD_eq_getElem?_getD, List.getElem?_eq_getElem (show i < zs.length by omega)]
theorem wf_i64 {n : Int} (h : (Lit.int .i64 n).wf = true) : -9223372036854775808 ≤ n ∧ n < 9223372036854775808 := by
  simp only [Lit.wf, Bool.and_eq_true, decide_eq_true_eq] at h
  have h1 : IntKind.i64.min = -9223372036854775808 := rfl
  have h2 : IntKind.i64.max = 9223372036854775807 := rfl
  omega
theorem wf_u8 {n : Int} (h : (Lit.int .u8 n).wf = true) : 0 ≤ n ∧ n < 256 := by
  simp only [Lit.wf, Bool.and_eq_true, decide_eq_true_eq] at h
  have h1 : IntKind.u8.min = 0 := rfl
  have h2 : IntKind.u8.max = 255 := rfl
  omega
theorem ints_full_nil (W : World) : (intsP ⟨none, 0, 0⟩ []).p (full W) := .inl ⟨rfl, rfl⟩
theorem full_both {W : World} {A B : HP} (ha : A.p (full W)) (hb : B.p (full W)) : (A * B).p (full W) := by
  refine ⟨full W, full W, fun x => ?_, ?_, ha, hb⟩
  · cases h : full W x with
    | none => exact .inl rfl
    | some p =>
      right; right
      simp only [full, Option.map_eq_some_iff] at h
      obtain ⟨ob, _, rfl⟩ := h
      exact ⟨ob, rfl, rfl⟩
  · rw [Hp.un_self]; exact Hp.le_refl _
end Go.Proofs.Ytldmeimebebllaa
