/-
  a part of the proof: what functions of the program do, in a separation logic.
-/
import Derived.Test.YtldmeimebebllaaDev1
namespace Go.Proofs.Ytldmeimebebllaa
open Go.Mo
set_option linter.unusedVariables false
def diskV (R : Rk) (ps : List Nat) (k s : Int) : Option Addr × Int :=
  if R.off then (none, 12) else if k < 0 ∨ k ≥ R.n ∨ s < 0 ∨ s ≥ R.ns then (none, 11) else (ptr (ps.getD k.toNat 0), 0)
variable {g : Fr}
theorem or_tree {a b c d : Prop} [Decidable a] [Decidable b] [Decidable c] [Decidable d] :
    ((if (if (if decide a = true then true else decide b) = true then true else decide c) = true then true else decide d) = true) = (a ∨ b ∨ c ∨ d) := by
  by_cases ha : a <;> by_cases hb : b <;> by_cases hc : c <;> by_cases hd : d <;> simp [ha, hb, hc, hd]
theorem device_Rack_disk_val (rb : Nat) (R : Rk) (ds : Slc) (ps : List Nat) (k s : Int) : Val g (rackP rb R ds ps) (device_Rack_disk (ptr rb) k s) (diskV R ps k s) := by
  unfold device_Rack_disk rackP
  refine wps_factP fun ⟨h1, h2, h17, hns⟩ => ?_
  repeat (first
    | (with_reducible refine wps_bindpure ?_)
    | (with_reducible refine wps_assoc ?_)
    | (with_reducible refine wps_nil ?_)
    | (with_reducible refine wps_stepAlloc fun _ => ?_)
    | (with_reducible refine wps_alloc fun _ => ?_)
    | (with_reducible refine wps_newO fun _ => ?_)
    | (refine wps_ld _ (by rfl) ?_)
    | (refine wps_ldG _ _ _ (by rfl) ?_)
    | (refine wps_ldA _ (by rfl) ?_)
    | (refine wps_ldI _ (by rfl) ?_)
    | (refine wps_ldGI _ _ _ (by rfl) ?_)
    | (refine wps_ldAI _ (by rfl) ?_)
    | (refine wps_st (by simp) ?_)
    | (refine wps_stA (by simp) (by simp [Value.oneCell']) ?_)
    | ((with_reducible apply wps_val); apply val_ite; rotate_left; refine fun (_ : ¬ _) => ?_; rotate_right; refine fun (_ : _ = true) => ?_)
    | ((with_reducible apply val_ite); rotate_left; refine fun (_ : ¬ _) => ?_; rotate_right; refine fun (_ : _ = true) => ?_)
    | (with_reducible refine wps_regionH ?_)
    | ((with_reducible apply wps_bindV); apply val_iteL; rotate_left; refine fun (_ : ¬ _) => ?_; rotate_right; refine fun (_ : _ = true) => ?_)
    | ((with_reducible apply val_iteL); rotate_left; refine fun (_ : ¬ _) => ?_; rotate_right; refine fun (_ : _ = true) => ?_)
    | (with_reducible exact wps_pure (ent_val rfl)))
  refine wps_ite (fun ho => wps_pure (ent_val ?_)) (fun ho => ?_)
  · simp [diskV, ho]
  · repeat (first
      | (with_reducible refine wps_bindpure ?_)
      | (with_reducible refine wps_assoc ?_)
      | (with_reducible refine wps_nil ?_)
      | (with_reducible refine wps_stepAlloc fun _ => ?_)
      | (with_reducible refine wps_alloc fun _ => ?_)
      | (with_reducible refine wps_newO fun _ => ?_)
      | (refine wps_ld _ (by rfl) ?_)
      | (refine wps_ldG _ _ _ (by rfl) ?_)
      | (refine wps_ldA _ (by rfl) ?_)
      | (refine wps_ldI _ (by rfl) ?_)
      | (refine wps_ldGI _ _ _ (by rfl) ?_)
      | (refine wps_ldAI _ (by rfl) ?_)
      | (refine wps_st (by simp) ?_)
      | (refine wps_stA (by simp) (by simp [Value.oneCell']) ?_)
      | ((with_reducible apply wps_val); apply val_ite; rotate_left; refine fun (_ : ¬ _) => ?_; rotate_right; refine fun (_ : _ = true) => ?_)
      | ((with_reducible apply val_ite); rotate_left; refine fun (_ : ¬ _) => ?_; rotate_right; refine fun (_ : _ = true) => ?_)
      | (with_reducible refine wps_regionH ?_)
      | ((with_reducible apply wps_bindV); apply val_iteL; rotate_left; refine fun (_ : ¬ _) => ?_; rotate_right; refine fun (_ : _ = true) => ?_)
      | ((with_reducible apply val_iteL); rotate_left; refine fun (_ : ¬ _) => ?_; rotate_right; refine fun (_ : _ = true) => ?_)
      | (with_reducible exact wps_pure (ent_val rfl)))
    refine wps_ite (fun hx => wps_pure (ent_val ?_)) (fun hx => ?_)
    · rw [or_tree, h2] at hx
      simp only [diskV, if_neg ho, if_pos hx]
    · rw [or_tree, h2] at hx
      repeat (first
        | (with_reducible refine wps_bindpure ?_)
        | (with_reducible refine wps_assoc ?_)
        | (with_reducible refine wps_nil ?_)
        | (with_reducible refine wps_stepAlloc fun _ => ?_)
        | (with_reducible refine wps_alloc fun _ => ?_)
        | (with_reducible refine wps_newO fun _ => ?_)
        | (refine wps_ld _ (by rfl) ?_)
        | (refine wps_ldG _ _ _ (by rfl) ?_)
        | (refine wps_ldA _ (by rfl) ?_)
        | (refine wps_ldI _ (by rfl) ?_)
        | (refine wps_ldGI _ _ _ (by rfl) ?_)
        | (refine wps_ldAI _ (by rfl) ?_)
        | (refine wps_st (by simp) ?_)
        | (refine wps_stA (by simp) (by simp [Value.oneCell']) ?_)
        | ((with_reducible apply wps_val); apply val_ite; rotate_left; refine fun (_ : ¬ _) => ?_; rotate_right; refine fun (_ : _ = true) => ?_)
        | ((with_reducible apply val_ite); rotate_left; refine fun (_ : ¬ _) => ?_; rotate_right; refine fun (_ : _ = true) => ?_)
        | (with_reducible refine wps_regionH ?_)
        | ((with_reducible apply wps_bindV); apply val_iteL; rotate_left; refine fun (_ : ¬ _) => ?_; rotate_right; refine fun (_ : _ = true) => ?_)
        | ((with_reducible apply val_iteL); rotate_left; refine fun (_ : ¬ _) => ?_; rotate_right; refine fun (_ : _ = true) => ?_)
        | (with_reducible exact wps_pure (ent_val rfl)))
      have hk : k.toNat < R.n := by omega
      refine wps_rdS k.toNat (ptr (ps.getD k.toNat 0)) (by omega) ?_ ?_
      · rw [List.getElem?_map, List.getElem?_eq_getElem (by omega)]
        simp [pv, List.getD_eq_getElem?_getD, List.getElem?_eq_getElem (show k.toNat < ps.length by omega)]
      · refine wps_pure (ent_val ?_)
        simp only [diskV, if_neg ho, if_neg hx]
abbrev Dk.tick (D : Dk) : Dk := { D with failed := if D.failed = true then true else D.count == 0, count := maxI (w64 (D.count - 1)) (-1) }
def Rk.ticked (R : Rk) : Rk := if R.count = 0 then { R with off := true } else { R with count := maxI (w64 (R.count - 1)) (-1), dk := fun j => (R.dk j).tick }
def Rk.part (R : Rk) (i : Nat) : Nat → Dk := fun j => if j < i then (R.dk j).tick else R.dk j
theorem device_Rack_call_spec (rb : Nat) (R : Rk) (ds : Slc) (ps : List Nat) : wps g (rackP rb R ds ps) (device_Rack_call (ptr rb)) (fun b => pr (b = (R.count != 0)) * rackP rb R.ticked ds ps) := by
  unfold device_Rack_call rackP
  refine wps_prP fun ⟨h1, h2, h17, hns⟩ => ?_
  repeat (first
    | (with_reducible refine wps_bindpure ?_)
    | (with_reducible refine wps_assoc ?_)
    | (with_reducible refine wps_nil ?_)
    | (with_reducible refine wps_stepAlloc fun _ => ?_)
    | (with_reducible refine wps_alloc fun _ => ?_)
    | (with_reducible refine wps_newO fun _ => ?_)
    | (refine wps_ld _ (by rfl) ?_)
    | (refine wps_ldG _ _ _ (by rfl) ?_)
    | (refine wps_ldA _ (by rfl) ?_)
    | (refine wps_ldI _ (by rfl) ?_)
    | (refine wps_ldGI _ _ _ (by rfl) ?_)
    | (refine wps_ldAI _ (by rfl) ?_)
    | (refine wps_st (by simp) ?_)
    | (refine wps_stA (by simp) (by simp [Value.oneCell']) ?_)
    | ((with_reducible apply wps_val); apply val_ite; rotate_left; refine fun (_ : ¬ _) => ?_; rotate_right; refine fun (_ : _ = true) => ?_)
    | ((with_reducible apply val_ite); rotate_left; refine fun (_ : ¬ _) => ?_; rotate_right; refine fun (_ : _ = true) => ?_)
    | (with_reducible refine wps_regionH ?_)
    | ((with_reducible apply wps_bindV); apply val_iteL; rotate_left; refine fun (_ : ¬ _) => ?_; rotate_right; refine fun (_ : _ = true) => ?_)
    | ((with_reducible apply val_iteL); rotate_left; refine fun (_ : ¬ _) => ?_; rotate_right; refine fun (_ : _ = true) => ?_)
    | (with_reducible exact wps_pure (ent_val rfl)))
  refine wps_ite (fun ho => ?_) (fun ho => ?_)
  · repeat (first
      | (with_reducible refine wps_bindpure ?_)
      | (with_reducible refine wps_assoc ?_)
      | (with_reducible refine wps_nil ?_)
      | (with_reducible refine wps_stepAlloc fun _ => ?_)
      | (with_reducible refine wps_alloc fun _ => ?_)
      | (with_reducible refine wps_newO fun _ => ?_)
      | (refine wps_ld _ (by rfl) ?_)
      | (refine wps_ldG _ _ _ (by rfl) ?_)
      | (refine wps_ldA _ (by rfl) ?_)
      | (refine wps_ldI _ (by rfl) ?_)
      | (refine wps_ldGI _ _ _ (by rfl) ?_)
      | (refine wps_ldAI _ (by rfl) ?_)
      | (refine wps_st (by simp) ?_)
      | (refine wps_stA (by simp) (by simp [Value.oneCell']) ?_)
      | ((with_reducible apply wps_val); apply val_ite; rotate_left; refine fun (_ : ¬ _) => ?_; rotate_right; refine fun (_ : _ = true) => ?_)
      | ((with_reducible apply val_ite); rotate_left; refine fun (_ : ¬ _) => ?_; rotate_right; refine fun (_ : _ = true) => ?_)
      | (with_reducible refine wps_regionH ?_)
      | ((with_reducible apply wps_bindV); apply val_iteL; rotate_left; refine fun (_ : ¬ _) => ?_; rotate_right; refine fun (_ : _ = true) => ?_)
      | ((with_reducible apply val_iteL); rotate_left; refine fun (_ : ¬ _) => ?_; rotate_right; refine fun (_ : _ = true) => ?_)
      | (with_reducible exact wps_pure (ent_val rfl)))
    have ho' : R.count = 0 := by simpa using ho
    refine wps_pure (ent_prr (by simp [ho']) ?_)
    simp only [Rk.ticked, if_pos ho']
    refine ent_pickC (by simp [ho']) (ent_pick (ent_pick (ent_prq ⟨h1, h2, h17, hns⟩)))
  · repeat (first
      | (with_reducible refine wps_bindpure ?_)
      | (with_reducible refine wps_assoc ?_)
      | (with_reducible refine wps_nil ?_)
      | (with_reducible refine wps_stepAlloc fun _ => ?_)
      | (with_reducible refine wps_alloc fun _ => ?_)
      | (with_reducible refine wps_newO fun _ => ?_)
      | (refine wps_ld _ (by rfl) ?_)
      | (refine wps_ldG _ _ _ (by rfl) ?_)
      | (refine wps_ldA _ (by rfl) ?_)
      | (refine wps_ldI _ (by rfl) ?_)
      | (refine wps_ldGI _ _ _ (by rfl) ?_)
      | (refine wps_ldAI _ (by rfl) ?_)
      | (refine wps_st (by simp) ?_)
      | (refine wps_stA (by simp) (by simp [Value.oneCell']) ?_)
      | ((with_reducible apply wps_val); apply val_ite; rotate_left; refine fun (_ : ¬ _) => ?_; rotate_right; refine fun (_ : _ = true) => ?_)
      | ((with_reducible apply val_ite); rotate_left; refine fun (_ : ¬ _) => ?_; rotate_right; refine fun (_ : _ = true) => ?_)
      | (with_reducible refine wps_regionH ?_)
      | ((with_reducible apply wps_bindV); apply val_iteL; rotate_left; refine fun (_ : ¬ _) => ?_; rotate_right; refine fun (_ : _ = true) => ?_)
      | ((with_reducible apply val_iteL); rotate_left; refine fun (_ : ¬ _) => ?_; rotate_right; refine fun (_ : _ = true) => ?_)
      | (with_reducible exact wps_pure (ent_val rfl)))
    have ho' : R.count ≠ 0 := by simpa using ho
    refine wps_loop (fun i => ex fun n : Nat => pr (i = (n : Int) ∧ n ≤ R.n) * bst R.n (rackF R.ns (R.part n) ps) * own 1 ds (ps.map pv) * pc rb [vS ds, .int .i64 R.ns, .int .i64 (maxI (w64 (R.count - 1)) (-1)), .bool R.off]) (fun i => (R.n - i).toNat) ?_ fun i => ?_
    · refine ent_ex 0 (ent_pickC (by rfl) (ent_pick ?_))
      refine ent_prr ⟨rfl, by omega⟩ ?_
      exact Ent.trans (ent_drop (B := bst R.n (rackF R.ns R.dk ps))) (Ent.of_eq (bst_congr fun j _ => by simp [rackF, Rk.part]))
    · refine wps_ex fun n => wps_prP fun ⟨hi, hle⟩ => ?_
      refine wps_ite (fun hc => ?_) (fun hc => ?_)
      · have hlt : n < R.n := by simp only [decide_eq_true_eq, h2] at hc; omega
        refine wps_rdS n (ptr (ps.getD n 0)) (by omega) ?_ ?_
        · rw [List.getElem?_map, List.getElem?_eq_getElem (by omega)]
          simp [pv, List.getD_eq_getElem?_getD, List.getElem?_eq_getElem (show n < ps.length by omega)]
        · rw [bst_focus _ hlt]
          simp only [rackF, dskAt, dskX]
          refine wps_exP fun ls => wps_exP fun mb => wps_exP fun sl => wps_exP fun sc => wps_prP fun hd => ?_
          repeat (first
            | (with_reducible refine wps_bindpure ?_)
            | (with_reducible refine wps_assoc ?_)
            | (with_reducible refine wps_nil ?_)
            | (with_reducible refine wps_stepAlloc fun _ => ?_)
            | (with_reducible refine wps_alloc fun _ => ?_)
            | (with_reducible refine wps_newO fun _ => ?_)
            | (refine wps_ld _ (by rfl) ?_)
            | (refine wps_ldG _ _ _ (by rfl) ?_)
            | (refine wps_ldA _ (by rfl) ?_)
            | (refine wps_ldI _ (by rfl) ?_)
            | (refine wps_ldGI _ _ _ (by rfl) ?_)
            | (refine wps_ldAI _ (by rfl) ?_)
            | (refine wps_st (by simp) ?_)
            | (refine wps_stA (by simp) (by simp [Value.oneCell']) ?_)
            | ((with_reducible apply wps_val); apply val_ite; rotate_left; refine fun (_ : ¬ _) => ?_; rotate_right; refine fun (_ : _ = true) => ?_)
            | ((with_reducible apply val_ite); rotate_left; refine fun (_ : ¬ _) => ?_; rotate_right; refine fun (_ : _ = true) => ?_)
            | (with_reducible refine wps_regionH ?_)
            | ((with_reducible apply wps_bindV); apply val_iteL; rotate_left; refine fun (_ : ¬ _) => ?_; rotate_right; refine fun (_ : _ = true) => ?_)
            | ((with_reducible apply val_iteL); rotate_left; refine fun (_ : ¬ _) => ?_; rotate_right; refine fun (_ : _ = true) => ?_)
            | (with_reducible exact wps_pure (ent_val rfl)))
          refine wps_pure (ent_prr (by rw [range_add1 hi (by omega)]; omega) (ent_ex (n + 1) (ent_pickC (by rfl) (ent_pick ?_))))
          have hpart : ∀ i, i < R.n → i ≠ n → rackF R.ns (R.part n) ps i = rackF R.ns (R.part (n + 1)) ps i := by
            intro i _ hne
            have : i < n + 1 ↔ i < n := by omega
            simp only [rackF, Rk.part, this]
          refine ent_bst hlt hpart ?_
          have hpn : R.part (n + 1) n = (R.part n n).tick := by simp [Rk.part]
          simp only [rackF, hpn, dskAt]
          refine ent_exr ls ?_
          refine ent_exr mb ?_
          refine ent_exr sl ?_
          refine ent_exr sc ?_
          simp only [dskX, ← star_assoc]
          exact ent_pickC (by rfl) (ent_pick (ent_pick (ent_pick (ent_pick (ent_prx hd (ent_pick (ent_prq ⟨range_add1 hi (by omega), by omega⟩)))))))
      · have hne : n = R.n := by simp only [decide_eq_true_eq, h2] at hc; omega
        refine wps_mapR (wps_pure ?_)
        refine ent_prr (by simp [ho']) ?_
        simp only [Rk.ticked, if_neg ho']
        refine ent_pickC (by rfl) (ent_pick ?_)
        rw [bst_congr (F := rackF R.ns (fun j => (R.dk j).tick) ps) (F' := rackF R.ns (R.part n) ps) fun j hj => by simp [rackF, Rk.part, hne, hj]]
        exact ent_pick (ent_prq ⟨h1, h2, h17, hns⟩)

theorem rackP_focus (rb : Nat) (R : Rk) (ds : Slc) (ps : List Nat) {j : Nat} (hj : j < R.n) : rackP rb R ds ps =
    pr (ps.length = R.n ∧ ds.len = R.n ∧ R.n ≤ 17 ∧ R.ns ≤ 4096) * bst R.n (hole j (rackF R.ns R.dk ps)) * own 1 ds (ps.map pv) * pc rb [vS ds, .int .i64 R.ns, .int .i64 R.count, .bool R.off] * dskAt R.ns (ps.getD j 0) (R.dk j) := by
  unfold rackP
  rw [bst_focus _ hj]
  simp only [← star_assoc]
  rw [star_right_comm _ (rackF R.ns R.dk ps j), star_right_comm _ (rackF R.ns R.dk ps j)]
  rfl
theorem rackP_val {α : Type} {rb : Nat} {R : Rk} {ds : Slc} {ps : List Nat} {j : Nat} {m : M α} {v : α} (hj : j < R.n) (h : ∀ g', Val g' (dskAt R.ns (ps.getD j 0) (R.dk j)) m v) : Val g (rackP rb R ds ps) m v :=
  val_frame h (rackP_focus rb R ds ps hj)
theorem pv_get {ps : List Nat} {j : Nat} (h : j < ps.length) : (ps.map pv)[j]? = some (Value.pointer (ptr (ps.getD j 0))) := by
  rw [List.getElem?_map, List.getElem?_eq_getElem h]
  simp [pv, List.getD_eq_getElem?_getD, List.getElem?_eq_getElem h]
theorem dsk_failed {ns p : Nat} {D : Dk} : Val g (dskAt ns p D) (ld Value.bool ⟨p, 2, none⟩) D.failed := by
  show wps g _ (bindM (ld Value.bool ⟨p, 2, none⟩) pureM) _
  unfold dskAt dskX
  refine wps_ex fun ls => wps_ex fun mb => wps_ex fun sl => wps_ex fun sc => ?_
  repeat (first
    | (with_reducible refine wps_bindpure ?_)
    | (with_reducible refine wps_assoc ?_)
    | (with_reducible refine wps_nil ?_)
    | (with_reducible refine wps_stepAlloc fun _ => ?_)
    | (with_reducible refine wps_alloc fun _ => ?_)
    | (with_reducible refine wps_newO fun _ => ?_)
    | (refine wps_ld _ (by rfl) ?_)
    | (refine wps_ldG _ _ _ (by rfl) ?_)
    | (refine wps_ldA _ (by rfl) ?_)
    | (refine wps_ldI _ (by rfl) ?_)
    | (refine wps_ldGI _ _ _ (by rfl) ?_)
    | (refine wps_ldAI _ (by rfl) ?_)
    | (refine wps_st (by simp) ?_)
    | (refine wps_stA (by simp) (by simp [Value.oneCell']) ?_)
    | ((with_reducible apply wps_val); apply val_ite; rotate_left; refine fun (_ : ¬ _) => ?_; rotate_right; refine fun (_ : _ = true) => ?_)
    | ((with_reducible apply val_ite); rotate_left; refine fun (_ : ¬ _) => ?_; rotate_right; refine fun (_ : _ = true) => ?_)
    | (with_reducible refine wps_regionH ?_)
    | ((with_reducible apply wps_bindV); apply val_iteL; rotate_left; refine fun (_ : ¬ _) => ?_; rotate_right; refine fun (_ : _ = true) => ?_)
    | ((with_reducible apply val_iteL); rotate_left; refine fun (_ : ¬ _) => ?_; rotate_right; refine fun (_ : _ = true) => ?_)
    | (with_reducible exact wps_pure (ent_val rfl)))
  exact wps_pure (ent_prr rfl (ent_ex ls (ent_ex mb (ent_ex sl (ent_ex sc (Ent.refl _))))))
theorem len_of {H : HP} {s : Slc} {b : List Int} (h : Ent H (byt s b)) : Ent H (pr (b.length = s.len)) := Ent.trans h (Ent.trans (rsl_len 1 s (bv b)) fun o ho => by
  have : (bv b).length = s.len * 1 := ho
  show b.length = s.len
  simpa [bv] using this)
theorem slices_Clone_b_spec {H : HP} {s : Slc} {b : List Int} (hx : Ent H (byt s b)) (hb : b.length ≤ 1099511627776) : wps g H (slices_Clone_b s) (fun s' => H * own 1 s' (bv b)) := by
  unfold slices_Clone_b
  refine wps_fact (len_of hx) fun hl => ?_
  refine wps_ite (fun hn => ?_) (fun hn => ?_)
  · refine wps_pure ?_
    obtain ⟨base, len, cap⟩ := s
    have : base = none := by simpa using hn
    subst this
    refine Ent.trans (Ent.of_eq (star_emp H).symm) ?_
    have hb0 : Ent H (pr (b = [])) := Ent.trans hx fun o ho => by
      rcases ho with ho | ⟨ad, all, ho⟩
      · have : bv b = [] := ho.2
        simpa [bv, pr] using this
      · have := (ent_left _ _ o ho).1
        cases this
    refine ent_pure (p := b = []) (Ent.trans (ent_left _ _) hb0) fun e => ?_
    subst e
    exact Ent.starr (own_nil 1)
  · repeat (first
      | (with_reducible refine wps_bindpure ?_)
      | (with_reducible refine wps_assoc ?_)
      | (with_reducible refine wps_nil ?_)
      | (with_reducible refine wps_stepAlloc fun _ => ?_)
      | (with_reducible refine wps_alloc fun _ => ?_)
      | (with_reducible refine wps_newO fun _ => ?_)
      | (refine wps_ld _ (by rfl) ?_)
      | (refine wps_ldG _ _ _ (by rfl) ?_)
      | (refine wps_ldA _ (by rfl) ?_)
      | (refine wps_ldI _ (by rfl) ?_)
      | (refine wps_ldGI _ _ _ (by rfl) ?_)
      | (refine wps_ldAI _ (by rfl) ?_)
      | (refine wps_st (by simp) ?_)
      | (refine wps_stA (by simp) (by simp [Value.oneCell']) ?_)
      | ((with_reducible apply wps_val); apply val_ite; rotate_left; refine fun (_ : ¬ _) => ?_; rotate_right; refine fun (_ : _ = true) => ?_)
      | ((with_reducible apply val_ite); rotate_left; refine fun (_ : ¬ _) => ?_; rotate_right; refine fun (_ : _ = true) => ?_)
      | (with_reducible refine wps_regionH ?_)
      | ((with_reducible apply wps_bindV); apply val_iteL; rotate_left; refine fun (_ : ¬ _) => ?_; rotate_right; refine fun (_ : _ = true) => ?_)
      | ((with_reducible apply val_iteL); rotate_left; refine fun (_ : ¬ _) => ?_; rotate_right; refine fun (_ : _ = true) => ?_)
      | (with_reducible exact wps_pure (ent_val rfl)))
    rename_i c
    refine wps_swap (A := pc c []) (B := own 1 ⟨some ⟨c, 0, none⟩, 0, 0⟩ []) (pc_own (n := 0) (z := 1) rfl) ?_
    refine wps_app 1 (bv b) rfl (by decide) (Ent.trans (ent_left _ _) hx) (bv_one b) (by (try dsimp only); omega) fun s' hs' => ?_
    exact wps_pure (Ent.of_eq (by simp))
def Rk.gate (R : Rk) (k s size : Int) : Int :=
  if R.off then 12 else if k < 0 ∨ k ≥ R.n ∨ s < 0 ∨ s ≥ R.ns then 11 else if size ≠ 64 then 11 else if R.count = 0 then 12 else if (R.ticked.dk k.toNat).failed then 13 else 0
def Rk.gated (R : Rk) (k s size : Int) : Rk := if R.off = true ∨ (k < 0 ∨ k ≥ R.n ∨ s < 0 ∨ s ≥ R.ns) ∨ size ≠ 64 then R else R.ticked
def gateV (R : Rk) (ps : List Nat) (k s size : Int) : Option Addr × Int := (if R.gate k s size = 0 then ptr (ps.getD k.toNat 0) else none, R.gate k s size)
theorem device_Rack_counted_spec (rb : Nat) (R : Rk) (ds : Slc) (ps : List Nat) (k s size : Int) : wps g (rackP rb R ds ps) (device_Rack_counted (ptr rb) k s size)
    (fun x => pr (x = gateV R ps k s size) * rackP rb (R.gated k s size) ds ps) := by
  unfold device_Rack_counted
  refine wps_val (device_Rack_disk_val _ _ _ _ _ _) ?_
  by_cases ho : R.off = true
  · have hd : diskV R ps k s = (none, 12) := by simp [diskV, ho]
    rw [hd]
    refine wps_ite (fun _ => wps_pure (ent_prr ?_ (Ent.of_eq ?_))) (fun h => absurd rfl h)
    · simp [gateV, Rk.gate, ho]
    · simp [Rk.gated, ho]
  by_cases hr : k < 0 ∨ k ≥ R.n ∨ s < 0 ∨ s ≥ R.ns
  · have hd : diskV R ps k s = (none, 11) := by simp only [diskV, if_neg ho, if_pos hr]
    rw [hd]
    refine wps_ite (fun _ => wps_pure (ent_prr ?_ (Ent.of_eq ?_))) (fun h => absurd rfl h)
    · simp only [gateV, Rk.gate, if_neg ho, if_pos hr]; rfl
    · simp only [Rk.gated, hr, true_or, or_true, if_true]
  have hd : diskV R ps k s = (ptr (ps.getD k.toNat 0), 0) := by simp only [diskV, if_neg ho, if_neg hr]
  rw [hd]
  refine wps_ite (fun h => absurd h (by simp)) (fun _ => ?_)
  refine wps_ite (fun hs => wps_pure (ent_prr ?_ (Ent.of_eq ?_))) (fun hs => ?_)
  · have hs' : size ≠ 64 := by simpa using hs
    simp only [gateV, Rk.gate, if_neg ho, if_neg hr, if_pos hs']; rfl
  · have hs' : size ≠ 64 := by simpa using hs
    simp only [Rk.gated, hs', ne_eq, not_false_eq_true, or_true, if_true]
  have hs' : ¬ size ≠ 64 := by simpa using hs
  have hgd : R.gated k s size = R.ticked := by
    rw [Rk.gated, if_neg]
    rintro (h | h | h)
    · exact ho h
    · exact hr h
    · exact hs' h
  rw [hgd]
  refine wps_bind (device_Rack_call_spec _ _ _ _) fun b => wps_pr fun hb => ?_
  subst hb
  refine wps_ite (fun hc => wps_pure (ent_prr ?_ (Ent.refl _))) (fun hc => ?_)
  · have hc' : R.count = 0 := by simpa using hc
    simp only [gateV, Rk.gate, if_neg ho, if_neg hr, if_neg hs', if_pos hc']; rfl
  have hc' : ¬ R.count = 0 := by simpa using hc
  have htn : R.ticked.n = R.n := by simp [Rk.ticked, hc']
  have hlt : k.toNat < R.ticked.n := by omega
  repeat (first
    | (with_reducible refine wps_bindpure ?_)
    | (with_reducible refine wps_assoc ?_)
    | (with_reducible refine wps_nil ?_)
    | (with_reducible refine wps_stepAlloc fun _ => ?_)
    | (with_reducible refine wps_alloc fun _ => ?_)
    | (with_reducible refine wps_newO fun _ => ?_)
    | (refine wps_ld _ (by rfl) ?_)
    | (refine wps_ldG _ _ _ (by rfl) ?_)
    | (refine wps_ldA _ (by rfl) ?_)
    | (refine wps_ldI _ (by rfl) ?_)
    | (refine wps_ldGI _ _ _ (by rfl) ?_)
    | (refine wps_ldAI _ (by rfl) ?_)
    | (refine wps_st (by simp) ?_)
    | (refine wps_stA (by simp) (by simp [Value.oneCell']) ?_)
    | ((with_reducible apply wps_val); apply val_ite; rotate_left; refine fun (_ : ¬ _) => ?_; rotate_right; refine fun (_ : _ = true) => ?_)
    | ((with_reducible apply val_ite); rotate_left; refine fun (_ : ¬ _) => ?_; rotate_right; refine fun (_ : _ = true) => ?_)
    | (with_reducible refine wps_regionH ?_)
    | ((with_reducible apply wps_bindV); apply val_iteL; rotate_left; refine fun (_ : ¬ _) => ?_; rotate_right; refine fun (_ : _ = true) => ?_)
    | ((with_reducible apply val_iteL); rotate_left; refine fun (_ : ¬ _) => ?_; rotate_right; refine fun (_ : _ = true) => ?_)
    | (with_reducible exact wps_pure (ent_val rfl)))
  refine wps_val (rackP_val (j := k.toNat) hlt fun g' => dsk_failed) ?_
  refine wps_ite (fun hf => wps_pure (ent_prr ?_ (Ent.refl _))) (fun hf => wps_pure (ent_prr ?_ (Ent.refl _)))
  · simp only [gateV, Rk.gate, if_neg ho, if_neg hr, if_neg hs', if_neg hc', if_pos hf]; rfl
  · simp only [gateV, Rk.gate, if_neg ho, if_neg hr, if_neg hs', if_neg hc', if_neg hf]; rfl
def Rk.put (R : Rk) (k s : Int) (b : List Int) : Rk := { R with dk := fun j => if j = k.toNat then { R.dk j with cached := fun i => if i = s then some b else (R.dk j).cached i } else R.dk j }
def Rk.write (R : Rk) (k s : Int) (b : List Int) : Rk := if R.gate k s b.length = 0 then (R.gated k s b.length).put k s b else R.gated k s b.length
theorem gate_ok {R : Rk} {k s size : Int} (h : R.gate k s size = 0) : ¬ R.off = true ∧ ¬ (k < 0 ∨ k ≥ R.n ∨ s < 0 ∨ s ≥ R.ns) ∧ size = 64 ∧ R.count ≠ 0 ∧ R.gated k s size = R.ticked := by
  unfold Rk.gate at h
  by_cases ho : R.off = true
  · rw [if_pos ho] at h; cases h
  rw [if_neg ho] at h
  by_cases hr : k < 0 ∨ k ≥ R.n ∨ s < 0 ∨ s ≥ R.ns
  · rw [if_pos hr] at h; cases h
  rw [if_neg hr] at h
  by_cases hs : size ≠ 64
  · rw [if_pos hs] at h; cases h
  rw [if_neg hs] at h
  by_cases hc : R.count = 0
  · rw [if_pos hc] at h; cases h
  refine ⟨ho, hr, by simpa using hs, hc, ?_⟩
  rw [Rk.gated, if_neg]
  rintro (h | h | h)
  · exact ho h
  · exact hr h
  · exact hs h
theorem device_Rack_Write_spec {H : HP} (rb : Nat) (R : Rk) (ds : Slc) (ps : List Nat) (k s : Int) (x : Slc) (b : List Int) (hx : Ent H (byt x b)) (hb : b.length ≤ 1099511627776) :
    wps g (H * rackP rb R ds ps) (device_Rack_Write (ptr rb) k s x) (fun e => pr (e = R.gate k s b.length) * H * rackP rb (R.write k s b) ds ps) := by
  unfold device_Rack_Write
  refine wps_fact (Ent.trans (ent_left _ _) (len_of hx)) fun hl => ?_
  rw [← hl]
  refine wps_call (fun _ => device_Rack_counted_spec rb R ds ps k s b.length) (Ent.refl _) fun x => ?_
  rw [← star_assoc]
  refine wps_prP fun he => ?_
  subst he
  by_cases h0 : R.gate k s b.length = 0
  · obtain ⟨ho, hr, hs, hc, hgd⟩ := gate_ok h0
    refine wps_ite (fun _ => ?_) (fun h => absurd (by simp [gateV, h0]) h)
    have htn : R.ticked.n = R.n := by simp [Rk.ticked, hc]
    have hlt : k.toNat < R.ticked.n := by omega
    rw [hgd, rackP_focus rb R.ticked ds ps hlt]
    unfold dskAt dskX
    refine wps_exP fun ls => wps_exP fun mb => wps_exP fun sl => wps_exP fun sc => wps_prP fun hd => ?_
    have hgv : (gateV R ps k s b.length).1 = ptr (ps.getD k.toNat 0) := by simp [gateV, h0]
    rw [hgv]
    repeat (first
      | (with_reducible refine wps_bindpure ?_)
      | (with_reducible refine wps_assoc ?_)
      | (with_reducible refine wps_nil ?_)
      | (with_reducible refine wps_stepAlloc fun _ => ?_)
      | (with_reducible refine wps_alloc fun _ => ?_)
      | (with_reducible refine wps_newO fun _ => ?_)
      | (refine wps_ld _ (by rfl) ?_)
      | (refine wps_ldG _ _ _ (by rfl) ?_)
      | (refine wps_ldA _ (by rfl) ?_)
      | (refine wps_ldI _ (by rfl) ?_)
      | (refine wps_ldGI _ _ _ (by rfl) ?_)
      | (refine wps_ldAI _ (by rfl) ?_)
      | (refine wps_st (by simp) ?_)
      | (refine wps_stA (by simp) (by simp [Value.oneCell']) ?_)
      | ((with_reducible apply wps_val); apply val_ite; rotate_left; refine fun (_ : ¬ _) => ?_; rotate_right; refine fun (_ : _ = true) => ?_)
      | ((with_reducible apply val_ite); rotate_left; refine fun (_ : ¬ _) => ?_; rotate_right; refine fun (_ : _ = true) => ?_)
      | (with_reducible refine wps_regionH ?_)
      | ((with_reducible apply wps_bindV); apply val_iteL; rotate_left; refine fun (_ : ¬ _) => ?_; rotate_right; refine fun (_ : _ = true) => ?_)
      | ((with_reducible apply val_iteL); rotate_left; refine fun (_ : ¬ _) => ?_; rotate_right; refine fun (_ : _ = true) => ?_)
      | (with_reducible exact wps_pure (ent_val rfl)))
    refine wps_step1 (slices_Clone_b_spec (Ent.trans (ent_drop (B := H)) hx) hb) fun s' => ?_
    refine wps_updS (wps_pure ?_)
    have hw : R.write k s b = R.ticked.put k s b := by simp only [Rk.write, if_pos h0, hgd]
    have hgv2 : (gateV R ps k s b.length).2 = R.gate k s b.length := rfl
    rw [hw, hgv2, rackP_focus rb (R.ticked.put k s b) ds ps hlt]
    have hho : bst R.ticked.n (hole k.toNat (rackF R.ticked.ns R.ticked.dk ps)) = bst R.ticked.n (hole k.toNat (rackF R.ticked.ns (R.ticked.put k s b).dk ps)) := hole_congr fun i _ hne => by
      simp only [rackF, Rk.put, if_neg hne]
    rw [hho]
    have hdk : (R.ticked.put k s b).dk k.toNat = { R.ticked.dk k.toNat with cached := fun i => if i = s then some b else (R.ticked.dk k.toNat).cached i } := by simp [Rk.put]
    rw [hdk]
    generalize R.ticked.dk k.toNat = D at *
    simp only [dskAt, ← star_assoc]
    refine ent_exr ls ?_
    refine ent_exr mb ?_
    refine ent_exr sl ?_
    refine ent_exr (fun j => if j = s then s' else sc j) ?_
    simp only [dskX, ← star_assoc, Rk.put]
    have him : (fun i => if i = s then some (Value.slice s'.base s'.len s'.cap) else Option.map (fun _ => vS (sc i)) (D.cached i)) = fun j => Option.map (fun _ => vS (if j = s then s' else sc j)) (if j = s then some b else D.cached j) := by
      funext i
      by_cases hi : i = s <;> simp [hi, vS]
    refine ent_pickC (by rfl) (ent_pick (ent_pickM him ?_))
    refine ent_swap (A := own 1 s' (bv b)) (own_rsl _ _ _) ?_
    refine ent_join (A := cachep sc D.cached) (B := rsl 1 s' (bv b)) (cachep_put (ent_left _ _) (ent_right _ _)) ?_
    refine ent_pick (ent_prx ⟨hd.1, hd.2.1, hd.2.2.1, fun j b' hj => ?_⟩ ?_)
    · by_cases hjs : j = s
      · subst hjs; have : R.ticked.ns = R.ns := by simp [Rk.ticked, hc]
        simp only [if_true, Option.some.injEq] at hj
        subst hj
        rw [this]; omega
      · simp only [if_neg hjs] at hj; exact hd.2.2.2 j b' hj
    · refine ent_pickC (by rfl) (ent_pick (ent_pick (ent_pick ?_)))
      exact ent_pick (ent_prq trivial)
  · refine wps_ite (fun h => absurd (by simpa [gateV] using h) h0) (fun _ => wps_pure ?_)
    simp only [Rk.write, if_neg h0]
    exact ent_pick (ent_prr rfl ent_drop)
def Rk.failedB (R : Rk) (k : Int) : Bool := if 0 ≤ k ∧ k < R.n then (R.dk k.toNat).failed else false
theorem device_Rack_Failed_val (rb : Nat) (R : Rk) (ds : Slc) (ps : List Nat) (k : Int) : Val g (rackP rb R ds ps) (device_Rack_Failed (ptr rb) k) (R.failedB k) := by
  unfold device_Rack_Failed rackP
  refine wps_factP fun ⟨h1, h2, h17, hns⟩ => ?_
  refine wps_val (v := decide (0 ≤ k ∧ k < R.n)) ?_ ?_
  · apply val_eq
    · repeat (first
        | (with_reducible refine wps_bindpure ?_)
        | (with_reducible refine wps_assoc ?_)
        | (with_reducible refine wps_nil ?_)
        | (with_reducible refine wps_stepAlloc fun _ => ?_)
        | (with_reducible refine wps_alloc fun _ => ?_)
        | (with_reducible refine wps_newO fun _ => ?_)
        | (refine wps_ld _ (by rfl) ?_)
        | (refine wps_ldG _ _ _ (by rfl) ?_)
        | (refine wps_ldA _ (by rfl) ?_)
        | (refine wps_ldI _ (by rfl) ?_)
        | (refine wps_ldGI _ _ _ (by rfl) ?_)
        | (refine wps_ldAI _ (by rfl) ?_)
        | (refine wps_st (by simp) ?_)
        | (refine wps_stA (by simp) (by simp [Value.oneCell']) ?_)
        | ((with_reducible apply wps_val); apply val_ite; rotate_left; refine fun (_ : ¬ _) => ?_; rotate_right; refine fun (_ : _ = true) => ?_)
        | ((with_reducible apply val_ite); rotate_left; refine fun (_ : ¬ _) => ?_; rotate_right; refine fun (_ : _ = true) => ?_)
        | (with_reducible refine wps_regionH ?_)
        | ((with_reducible apply wps_bindV); apply val_iteL; rotate_left; refine fun (_ : ¬ _) => ?_; rotate_right; refine fun (_ : _ = true) => ?_)
        | ((with_reducible apply val_iteL); rotate_left; refine fun (_ : ¬ _) => ?_; rotate_right; refine fun (_ : _ = true) => ?_)
        | (with_reducible exact wps_pure (ent_val rfl)))
    · rw [h2]; by_cases h : 0 ≤ k <;> simp [h]
  · by_cases hk : 0 ≤ k ∧ k < R.n
    · simp only [hk, and_self, decide_true, if_true, Rk.failedB, bindM_assoc]
      repeat (first
        | (with_reducible refine wps_bindpure ?_)
        | (with_reducible refine wps_assoc ?_)
        | (with_reducible refine wps_nil ?_)
        | (with_reducible refine wps_stepAlloc fun _ => ?_)
        | (with_reducible refine wps_alloc fun _ => ?_)
        | (with_reducible refine wps_newO fun _ => ?_)
        | (refine wps_ld _ (by rfl) ?_)
        | (refine wps_ldG _ _ _ (by rfl) ?_)
        | (refine wps_ldA _ (by rfl) ?_)
        | (refine wps_ldI _ (by rfl) ?_)
        | (refine wps_ldGI _ _ _ (by rfl) ?_)
        | (refine wps_ldAI _ (by rfl) ?_)
        | (refine wps_st (by simp) ?_)
        | (refine wps_stA (by simp) (by simp [Value.oneCell']) ?_)
        | ((with_reducible apply wps_val); apply val_ite; rotate_left; refine fun (_ : ¬ _) => ?_; rotate_right; refine fun (_ : _ = true) => ?_)
        | ((with_reducible apply val_ite); rotate_left; refine fun (_ : ¬ _) => ?_; rotate_right; refine fun (_ : _ = true) => ?_)
        | (with_reducible refine wps_regionH ?_)
        | ((with_reducible apply wps_bindV); apply val_iteL; rotate_left; refine fun (_ : ¬ _) => ?_; rotate_right; refine fun (_ : _ = true) => ?_)
        | ((with_reducible apply val_iteL); rotate_left; refine fun (_ : ¬ _) => ?_; rotate_right; refine fun (_ : _ = true) => ?_)
        | (with_reducible exact wps_pure (ent_val rfl)))
      refine wps_rdS k.toNat (ptr (ps.getD k.toNat 0)) (by omega) (pv_get (by omega)) ?_
      repeat (first
        | (with_reducible refine wps_bindpure ?_)
        | (with_reducible refine wps_assoc ?_)
        | (with_reducible refine wps_nil ?_)
        | (with_reducible refine wps_stepAlloc fun _ => ?_)
        | (with_reducible refine wps_alloc fun _ => ?_)
        | (with_reducible refine wps_newO fun _ => ?_)
        | (refine wps_ld _ (by rfl) ?_)
        | (refine wps_ldG _ _ _ (by rfl) ?_)
        | (refine wps_ldA _ (by rfl) ?_)
        | (refine wps_ldI _ (by rfl) ?_)
        | (refine wps_ldGI _ _ _ (by rfl) ?_)
        | (refine wps_ldAI _ (by rfl) ?_)
        | (refine wps_st (by simp) ?_)
        | (refine wps_stA (by simp) (by simp [Value.oneCell']) ?_)
        | ((with_reducible apply wps_val); apply val_ite; rotate_left; refine fun (_ : ¬ _) => ?_; rotate_right; refine fun (_ : _ = true) => ?_)
        | ((with_reducible apply val_ite); rotate_left; refine fun (_ : ¬ _) => ?_; rotate_right; refine fun (_ : _ = true) => ?_)
        | (with_reducible refine wps_regionH ?_)
        | ((with_reducible apply wps_bindV); apply val_iteL; rotate_left; refine fun (_ : ¬ _) => ?_; rotate_right; refine fun (_ : _ = true) => ?_)
        | ((with_reducible apply val_iteL); rotate_left; refine fun (_ : ¬ _) => ?_; rotate_right; refine fun (_ : _ = true) => ?_)
        | (with_reducible exact wps_pure (ent_val rfl)))
      refine wps_val (rackP_val (rb := rb) (ds := ds) (j := k.toNat) (by omega) fun g' => dsk_failed) ?_
      repeat (first
        | (with_reducible refine wps_bindpure ?_)
        | (with_reducible refine wps_assoc ?_)
        | (with_reducible refine wps_nil ?_)
        | (with_reducible refine wps_stepAlloc fun _ => ?_)
        | (with_reducible refine wps_alloc fun _ => ?_)
        | (with_reducible refine wps_newO fun _ => ?_)
        | (refine wps_ld _ (by rfl) ?_)
        | (refine wps_ldG _ _ _ (by rfl) ?_)
        | (refine wps_ldA _ (by rfl) ?_)
        | (refine wps_ldI _ (by rfl) ?_)
        | (refine wps_ldGI _ _ _ (by rfl) ?_)
        | (refine wps_ldAI _ (by rfl) ?_)
        | (refine wps_st (by simp) ?_)
        | (refine wps_stA (by simp) (by simp [Value.oneCell']) ?_)
        | ((with_reducible apply wps_val); apply val_ite; rotate_left; refine fun (_ : ¬ _) => ?_; rotate_right; refine fun (_ : _ = true) => ?_)
        | ((with_reducible apply val_ite); rotate_left; refine fun (_ : ¬ _) => ?_; rotate_right; refine fun (_ : _ = true) => ?_)
        | (with_reducible refine wps_regionH ?_)
        | ((with_reducible apply wps_bindV); apply val_iteL; rotate_left; refine fun (_ : ¬ _) => ?_; rotate_right; refine fun (_ : _ = true) => ?_)
        | ((with_reducible apply val_iteL); rotate_left; refine fun (_ : ¬ _) => ?_; rotate_right; refine fun (_ : _ = true) => ?_)
        | (with_reducible exact wps_pure (ent_val rfl)))
    · simp only [hk, decide_false, Rk.failedB, if_false, Bool.false_eq_true]
      repeat (first
        | (with_reducible refine wps_bindpure ?_)
        | (with_reducible refine wps_assoc ?_)
        | (with_reducible refine wps_nil ?_)
        | (with_reducible refine wps_stepAlloc fun _ => ?_)
        | (with_reducible refine wps_alloc fun _ => ?_)
        | (with_reducible refine wps_newO fun _ => ?_)
        | (refine wps_ld _ (by rfl) ?_)
        | (refine wps_ldG _ _ _ (by rfl) ?_)
        | (refine wps_ldA _ (by rfl) ?_)
        | (refine wps_ldI _ (by rfl) ?_)
        | (refine wps_ldGI _ _ _ (by rfl) ?_)
        | (refine wps_ldAI _ (by rfl) ?_)
        | (refine wps_st (by simp) ?_)
        | (refine wps_stA (by simp) (by simp [Value.oneCell']) ?_)
        | ((with_reducible apply wps_val); apply val_ite; rotate_left; refine fun (_ : ¬ _) => ?_; rotate_right; refine fun (_ : _ = true) => ?_)
        | ((with_reducible apply val_ite); rotate_left; refine fun (_ : ¬ _) => ?_; rotate_right; refine fun (_ : _ = true) => ?_)
        | (with_reducible refine wps_regionH ?_)
        | ((with_reducible apply wps_bindV); apply val_iteL; rotate_left; refine fun (_ : ¬ _) => ?_; rotate_right; refine fun (_ : _ = true) => ?_)
        | ((with_reducible apply val_iteL); rotate_left; refine fun (_ : ¬ _) => ?_; rotate_right; refine fun (_ : _ = true) => ?_)
        | (with_reducible exact wps_pure (ent_val rfl)))
theorem device_Rack_Size_val (rb : Nat) (R : Rk) (ds : Slc) (ps : List Nat) : Val g (rackP rb R ds ps) (device_Rack_Size (ptr rb)) ((R.n : Int), (R.ns : Int)) := by
  unfold device_Rack_Size rackP
  refine wps_factP fun ⟨h1, h2, h17, hns⟩ => ?_
  repeat (first
    | (with_reducible refine wps_bindpure ?_)
    | (with_reducible refine wps_assoc ?_)
    | (with_reducible refine wps_nil ?_)
    | (with_reducible refine wps_stepAlloc fun _ => ?_)
    | (with_reducible refine wps_alloc fun _ => ?_)
    | (with_reducible refine wps_newO fun _ => ?_)
    | (refine wps_ld _ (by rfl) ?_)
    | (refine wps_ldG _ _ _ (by rfl) ?_)
    | (refine wps_ldA _ (by rfl) ?_)
    | (refine wps_ldI _ (by rfl) ?_)
    | (refine wps_ldGI _ _ _ (by rfl) ?_)
    | (refine wps_ldAI _ (by rfl) ?_)
    | (refine wps_st (by simp) ?_)
    | (refine wps_stA (by simp) (by simp [Value.oneCell']) ?_)
    | ((with_reducible apply wps_val); apply val_ite; rotate_left; refine fun (_ : ¬ _) => ?_; rotate_right; refine fun (_ : _ = true) => ?_)
    | ((with_reducible apply val_ite); rotate_left; refine fun (_ : ¬ _) => ?_; rotate_right; refine fun (_ : _ = true) => ?_)
    | (with_reducible refine wps_regionH ?_)
    | ((with_reducible apply wps_bindV); apply val_iteL; rotate_left; refine fun (_ : ¬ _) => ?_; rotate_right; refine fun (_ : _ = true) => ?_)
    | ((with_reducible apply val_iteL); rotate_left; refine fun (_ : ¬ _) => ?_; rotate_right; refine fun (_ : _ = true) => ?_)
    | (with_reducible exact wps_pure (ent_val rfl)))
  exact wps_pure (ent_val (by rw [h2]))
def Rk.rdErr (R : Rk) (k s : Int) : Int := if R.off then 12 else if k < 0 ∨ k ≥ R.n ∨ s < 0 ∨ s ≥ R.ns then 11 else if (R.dk k.toNat).failed then 13 else 0
def Dk.sec (D : Dk) (s : Int) : List Int := match D.cached s with | some b => b | none => D.lasts s.toNat
def Rk.rd (R : Rk) (k s : Int) : List Int := if R.rdErr k s = 0 then (R.dk k.toNat).sec s else []
theorem device_Rack_Read_spec (rb : Nat) (R : Rk) (ds : Slc) (ps : List Nat) (k s : Int) :
    wps g (rackP rb R ds ps) (device_Rack_Read (ptr rb) k s) (fun x => pr (x.2 = R.rdErr k s) * rackP rb R ds ps * own 1 x.1 (bv (R.rd k s))) := by
  unfold device_Rack_Read
  refine wps_val (device_Rack_disk_val _ _ _ _ _ _) ?_
  by_cases ho : R.off = true
  · have hd : diskV R ps k s = (none, 12) := by simp [diskV, ho]
    have he : R.rdErr k s = 12 := by simp [Rk.rdErr, ho]
    rw [hd]
    refine wps_ite (fun _ => wps_pure ?_) (fun h => absurd rfl h)
    simp only [Rk.rd, he]
    exact ent_own0 (ent_prr (by simp) (Ent.refl _))
  by_cases hr : k < 0 ∨ k ≥ R.n ∨ s < 0 ∨ s ≥ R.ns
  · have hd : diskV R ps k s = (none, 11) := by simp only [diskV, if_neg ho, if_pos hr]
    have he : R.rdErr k s = 11 := by simp only [Rk.rdErr, if_neg ho, if_pos hr]
    rw [hd]
    refine wps_ite (fun _ => wps_pure ?_) (fun h => absurd rfl h)
    simp only [Rk.rd, he]
    exact ent_own0 (ent_prr (by simp) (Ent.refl _))
  have hd : diskV R ps k s = (ptr (ps.getD k.toNat 0), 0) := by simp only [diskV, if_neg ho, if_neg hr]
  rw [hd]
  have hlt : k.toNat < R.n := by omega
  refine wps_ite (fun h => absurd h (by simp)) (fun _ => ?_)
  repeat (first
    | (with_reducible refine wps_bindpure ?_)
    | (with_reducible refine wps_assoc ?_)
    | (with_reducible refine wps_nil ?_)
    | (with_reducible refine wps_stepAlloc fun _ => ?_)
    | (with_reducible refine wps_alloc fun _ => ?_)
    | (with_reducible refine wps_newO fun _ => ?_)
    | (refine wps_ld _ (by rfl) ?_)
    | (refine wps_ldG _ _ _ (by rfl) ?_)
    | (refine wps_ldA _ (by rfl) ?_)
    | (refine wps_ldI _ (by rfl) ?_)
    | (refine wps_ldGI _ _ _ (by rfl) ?_)
    | (refine wps_ldAI _ (by rfl) ?_)
    | (refine wps_st (by simp) ?_)
    | (refine wps_stA (by simp) (by simp [Value.oneCell']) ?_)
    | ((with_reducible apply wps_val); apply val_ite; rotate_left; refine fun (_ : ¬ _) => ?_; rotate_right; refine fun (_ : _ = true) => ?_)
    | ((with_reducible apply val_ite); rotate_left; refine fun (_ : ¬ _) => ?_; rotate_right; refine fun (_ : _ = true) => ?_)
    | (with_reducible refine wps_regionH ?_)
    | ((with_reducible apply wps_bindV); apply val_iteL; rotate_left; refine fun (_ : ¬ _) => ?_; rotate_right; refine fun (_ : _ = true) => ?_)
    | ((with_reducible apply val_iteL); rotate_left; refine fun (_ : ¬ _) => ?_; rotate_right; refine fun (_ : _ = true) => ?_)
    | (with_reducible exact wps_pure (ent_val rfl)))
  refine wps_val (rackP_val (rb := rb) (ds := ds) hlt fun g' => dsk_failed) ?_
  refine wps_ite (fun hf => wps_pure ?_) (fun hf => ?_)
  · have he : R.rdErr k s = 13 := by simp only [Rk.rdErr, if_neg ho, if_neg hr, if_pos hf]
    simp only [Rk.rd, he]
    exact ent_own0 (ent_prr (by simp) (Ent.refl _))
  have he : R.rdErr k s = 0 := by simp only [Rk.rdErr, if_neg ho, if_neg hr, if_neg hf]
  simp only [Rk.rd, he, if_true]
  rw [rackP_focus rb R ds ps hlt]
  generalize R.dk k.toNat = D at *
  unfold dskAt dskX
  refine wps_exP fun ls => wps_exP fun mb => wps_exP fun sl => wps_exP fun sc => ?_
  simp only [← star_assoc]
  refine wps_prP fun hd => ?_
  refine wps_prP fun hd2 => ?_
  repeat (first
    | (with_reducible refine wps_bindpure ?_)
    | (with_reducible refine wps_assoc ?_)
    | (with_reducible refine wps_nil ?_)
    | (with_reducible refine wps_stepAlloc fun _ => ?_)
    | (with_reducible refine wps_alloc fun _ => ?_)
    | (with_reducible refine wps_newO fun _ => ?_)
    | (refine wps_ld _ (by rfl) ?_)
    | (refine wps_ldG _ _ _ (by rfl) ?_)
    | (refine wps_ldA _ (by rfl) ?_)
    | (refine wps_ldI _ (by rfl) ?_)
    | (refine wps_ldGI _ _ _ (by rfl) ?_)
    | (refine wps_ldAI _ (by rfl) ?_)
    | (refine wps_st (by simp) ?_)
    | (refine wps_stA (by simp) (by simp [Value.oneCell']) ?_)
    | ((with_reducible apply wps_val); apply val_ite; rotate_left; refine fun (_ : ¬ _) => ?_; rotate_right; refine fun (_ : _ = true) => ?_)
    | ((with_reducible apply val_ite); rotate_left; refine fun (_ : ¬ _) => ?_; rotate_right; refine fun (_ : _ = true) => ?_)
    | (with_reducible refine wps_regionH ?_)
    | ((with_reducible apply wps_bindV); apply val_iteL; rotate_left; refine fun (_ : ¬ _) => ?_; rotate_right; refine fun (_ : _ = true) => ?_)
    | ((with_reducible apply val_iteL); rotate_left; refine fun (_ : ¬ _) => ?_; rotate_right; refine fun (_ : _ = true) => ?_)
    | (with_reducible exact wps_pure (ent_val rfl)))
  have close : ∀ (s' : Slc), Ent
      (emp * bst R.n (hole k.toNat (rackF R.ns R.dk ps)) * own 1 ds (ps.map pv) * pc rb [vS ds, Value.int IntKind.i64 R.ns, Value.int IntKind.i64 R.count, Value.bool R.off] *
        seqp sl D.lasts * cachep sc D.cached * imap mb (fun j => Option.map (fun _ => vS (sc j)) (D.cached j)) * own 1 ls (sl.map vS) *
        pc (ps.getD k.toNat 0) [vS ls, Value.map (some mb), Value.bool D.failed, Value.int IntKind.i64 D.count] * own 1 s' (bv (D.sec s)))
      (pr (((s', 0) : Slc × Int).2 = 0) * pr (ps.length = R.n ∧ ds.len = R.n ∧ R.n ≤ 17 ∧ R.ns ≤ 4096) * bst R.n (hole k.toNat (rackF R.ns R.dk ps)) * own 1 ds (ps.map pv) *
            pc rb [vS ds, Value.int IntKind.i64 R.ns, Value.int IntKind.i64 R.count, Value.bool R.off] *
          (ex fun ls => ex fun mb => ex fun sl => ex fun sc =>
                  pr (sl.length = R.ns ∧ ls.len = R.ns ∧ D.ok R.ns) * seqp sl D.lasts * cachep sc D.cached *
                        imap mb (fun j => Option.map (fun _ => vS (sc j)) (D.cached j)) *
                      own 1 ls (sl.map vS) *
                    pc (ps.getD k.toNat 0)
                      [vS ls, Value.map (some mb), Value.bool D.failed, Value.int IntKind.i64 D.count]) *
        own 1 s' (bv (D.sec s))) := by
    intro s'
    refine ent_pick ?_
    refine ent_exr ls ?_
    refine ent_exr mb ?_
    refine ent_exr sl ?_
    refine ent_exr sc ?_
    simp only [← star_assoc]
    exact ent_pick (ent_pick (ent_pick (ent_pick (ent_pick (ent_prx hd (ent_pick (ent_pick (ent_pick (ent_prx hd2 (ent_prq (by simp)))))))))))
  cases hcs : D.cached s with
  | some b =>
    refine wps_lookS (some (sc s)) (by rw [hcs]; rfl) ?_
    have hsec : D.sec s = b := by simp [Dk.sec, hcs]
    have hlen := (hd.2.2.2 s b hcs).1
    refine wps_ite (fun _ => ?_) (fun h => absurd rfl h)
    refine wps_bind1 (slices_Clone_b_spec (b := D.sec s) (Ent.trans (ent_drop (B := cachep sc D.cached)) (by rw [hsec]; exact cachep_get hcs)) (by rw [hsec]; omega)) fun s' => wps_pure ?_
    exact close s'
  | none =>
    refine wps_lookS none (by rw [hcs]; rfl) ?_
    have hsec : D.sec s = D.lasts s.toNat := by simp [Dk.sec, hcs]
    have hlen := hd.2.2.1 s.toNat (by omega)
    refine wps_ite (fun h => absurd h (by simp)) (fun _ => ?_)
    repeat (first
      | (with_reducible refine wps_bindpure ?_)
      | (with_reducible refine wps_assoc ?_)
      | (with_reducible refine wps_nil ?_)
      | (with_reducible refine wps_stepAlloc fun _ => ?_)
      | (with_reducible refine wps_alloc fun _ => ?_)
      | (with_reducible refine wps_newO fun _ => ?_)
      | (refine wps_ld _ (by rfl) ?_)
      | (refine wps_ldG _ _ _ (by rfl) ?_)
      | (refine wps_ldA _ (by rfl) ?_)
      | (refine wps_ldI _ (by rfl) ?_)
      | (refine wps_ldGI _ _ _ (by rfl) ?_)
      | (refine wps_ldAI _ (by rfl) ?_)
      | (refine wps_st (by simp) ?_)
      | (refine wps_stA (by simp) (by simp [Value.oneCell']) ?_)
      | ((with_reducible apply wps_val); apply val_ite; rotate_left; refine fun (_ : ¬ _) => ?_; rotate_right; refine fun (_ : _ = true) => ?_)
      | ((with_reducible apply val_ite); rotate_left; refine fun (_ : ¬ _) => ?_; rotate_right; refine fun (_ : _ = true) => ?_)
      | (with_reducible refine wps_regionH ?_)
      | ((with_reducible apply wps_bindV); apply val_iteL; rotate_left; refine fun (_ : ¬ _) => ?_; rotate_right; refine fun (_ : _ = true) => ?_)
      | ((with_reducible apply val_iteL); rotate_left; refine fun (_ : ¬ _) => ?_; rotate_right; refine fun (_ : _ = true) => ?_)
      | (with_reducible exact wps_pure (ent_val rfl)))
    have hsl : s.toNat < sl.length := by omega
    refine wps_rdS s.toNat sl[s.toNat] (by omega) (by rw [List.getElem?_map, List.getElem?_eq_getElem hsl]; rfl) ?_
    refine wps_bind1 (slices_Clone_b_spec (b := D.sec s) (Ent.trans (ent_drop (B := seqp sl D.lasts)) (by rw [hsec]; exact seqp_get (List.getElem?_eq_getElem hsl))) (by rw [hsec]; omega)) fun s' => wps_pure ?_
    exact close s'
end Go.Proofs.Ytldmeimebebllaa
