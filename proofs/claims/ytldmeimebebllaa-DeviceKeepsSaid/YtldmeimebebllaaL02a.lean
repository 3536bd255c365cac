/-
  a part of the proof: what functions of the program do, in a separation logic.
-/
import Derived.Test.YtldmeimebebllaaDev5
import Derived.Test.YtldmeimebebllaaCalm
namespace Go.Proofs.Ytldmeimebebllaa
open Go.Mo
set_option linter.unusedVariables false
variable {g : Fr} {cv : CV}
theorem bAnd_le (x : Int) (m : Nat) (hm : m < 4611686018427387904) : 0 ≤ bAnd .i64 x m ∧ bAnd .i64 x m ≤ m := by
  unfold bAnd
  have h : (BitVec.ofInt IntKind.i64.bits x &&& BitVec.ofInt IntKind.i64.bits (m : Int)).toNat ≤ m := by
    rw [BitVec.toNat_and]
    refine Nat.le_trans Nat.and_le_right ?_
    rw [BitVec.toNat_ofInt]
    show ((m : Int) % (2 ^ 64 : Nat)).toNat ≤ m
    omega
  generalize (BitVec.ofInt IntKind.i64.bits x &&& BitVec.ofInt IntKind.i64.bits (m : Int)).toNat = n at h
  have : IntKind.i64.wrap (n : Int) = (n : Int) := w64_id (by omega) (by omega)
  rw [this]; omega
/-- 64 bytes, of which the first one is v -/
def one (v : Int) : List Int := v :: List.replicate 63 0
theorem one_len (v : Int) : (one v).length = 64 := by simp [one]
theorem pc_one {b : Nat} (v : Int) : Ent (pc b ((List.replicate 64 (Value.int .u8 0)).set (0 + 0 * 1) (.int .u8 v))) (byt ⟨some ⟨b, 0, none⟩, 64, 64⟩ (one v)) :=
  Ent.trans (Ent.trans (pc_own (n := 64) (z := 1) (by simp)) (own_rsl _ _ _)) (Ent.of_eq rfl)
theorem law02_alive_spec (hcv : KeysOk cv) : wps g emp (law02_alive cv) (fun b => pr (b = true)) := by
  unfold law02_alive
  refine wps_callE (fun _ => device_New_spec 2 3) fun x => ?_
  rw [if_neg (by decide), show Rk.new (Int.toNat 2) (Int.toNat 3) = Rk.new 2 3 from rfl]
  refine wps_exP fun rb => ?_
  rw [← star_assoc]
  refine wps_prP fun hx => ?_
  subst hx
  unfold rack
  refine wps_exP fun ds => wps_exP fun ps => ?_
  repeat (first
    | (with_reducible refine wps_bindpure ?_)
    | (with_reducible refine wps_assoc ?_)
    | (with_reducible refine wps_nil ?_)
    | (with_reducible refine wps_stepAlloc fun _ => ?_)
    | (with_reducible refine wps_alloc fun _ => ?_)
    | (with_reducible refine wps_newO fun _ => ?_)
    | (refine wps_ld _ (by rfl) ?_)
    | (refine wps_ldG _ _ _ (by rfl) ?_)
    | (refine wps_ldA _ (by rfl) ?_)
    | (refine wps_ldI _ (by rfl) ?_)
    | (refine wps_ldGI _ _ _ (by rfl) ?_)
    | (refine wps_ldAI _ (by rfl) ?_)
    | (refine wps_st (by simp) ?_)
    | (refine wps_stA (by simp) (by simp [Value.oneCell']) ?_)
    | ((with_reducible apply wps_val); apply val_ite; rotate_left; refine fun (_ : ¬ _) => ?_; rotate_right; refine fun (_ : _ = true) => ?_)
    | ((with_reducible apply val_ite); rotate_left; refine fun (_ : ¬ _) => ?_; rotate_right; refine fun (_ : _ = true) => ?_)
    | (with_reducible refine wps_regionH ?_)
    | ((with_reducible apply wps_bindV); apply val_iteL; rotate_left; refine fun (_ : ¬ _) => ?_; rotate_right; refine fun (_ : _ = true) => ?_)
    | ((with_reducible apply val_iteL); rotate_left; refine fun (_ : ¬ _) => ?_; rotate_right; refine fun (_ : _ = true) => ?_)
    | (with_reducible exact wps_pure (ent_val rfl)))
  refine wps_ite (fun h => absurd h (by simp)) (fun _ => ?_)
  repeat (first
    | (with_reducible refine wps_bindpure ?_)
    | (with_reducible refine wps_assoc ?_)
    | (with_reducible refine wps_nil ?_)
    | (with_reducible refine wps_stepAlloc fun _ => ?_)
    | (with_reducible refine wps_alloc fun _ => ?_)
    | (with_reducible refine wps_newO fun _ => ?_)
    | (refine wps_ld _ (by rfl) ?_)
    | (refine wps_ldG _ _ _ (by rfl) ?_)
    | (refine wps_ldA _ (by rfl) ?_)
    | (refine wps_ldI _ (by rfl) ?_)
    | (refine wps_ldGI _ _ _ (by rfl) ?_)
    | (refine wps_ldAI _ (by rfl) ?_)
    | (refine wps_st (by simp) ?_)
    | (refine wps_stA (by simp) (by simp [Value.oneCell']) ?_)
    | ((with_reducible apply wps_val); apply val_ite; rotate_left; refine fun (_ : ¬ _) => ?_; rotate_right; refine fun (_ : _ = true) => ?_)
    | ((with_reducible apply val_ite); rotate_left; refine fun (_ : ¬ _) => ?_; rotate_right; refine fun (_ : _ = true) => ?_)
    | (with_reducible refine wps_regionH ?_)
    | ((with_reducible apply wps_bindV); apply val_iteL; rotate_left; refine fun (_ : ¬ _) => ?_; rotate_right; refine fun (_ : _ = true) => ?_)
    | ((with_reducible apply val_iteL); rotate_left; refine fun (_ : ¬ _) => ?_; rotate_right; refine fun (_ : _ = true) => ?_)
    | (with_reducible exact wps_pure (ent_val rfl)))
  rename_i c
  refine wps_idx 0 rfl rfl (by (try dsimp only); omega) ?_
  repeat (first
    | (with_reducible refine wps_bindpure ?_)
    | (with_reducible refine wps_assoc ?_)
    | (with_reducible refine wps_nil ?_)
    | (with_reducible refine wps_stepAlloc fun _ => ?_)
    | (with_reducible refine wps_alloc fun _ => ?_)
    | (with_reducible refine wps_newO fun _ => ?_)
    | (refine wps_ld _ (by rfl) ?_)
    | (refine wps_ldG _ _ _ (by rfl) ?_)
    | (refine wps_ldA _ (by rfl) ?_)
    | (refine wps_ldI _ (by rfl) ?_)
    | (refine wps_ldGI _ _ _ (by rfl) ?_)
    | (refine wps_ldAI _ (by rfl) ?_)
    | (refine wps_st (by simp) ?_)
    | (refine wps_stA (by simp) (by simp [Value.oneCell']) ?_)
    | ((with_reducible apply wps_val); apply val_ite; rotate_left; refine fun (_ : ¬ _) => ?_; rotate_right; refine fun (_ : _ = true) => ?_)
    | ((with_reducible apply val_ite); rotate_left; refine fun (_ : ¬ _) => ?_; rotate_right; refine fun (_ : _ = true) => ?_)
    | (with_reducible refine wps_regionH ?_)
    | ((with_reducible apply wps_bindV); apply val_iteL; rotate_left; refine fun (_ : ¬ _) => ?_; rotate_right; refine fun (_ : _ = true) => ?_)
    | ((with_reducible apply val_iteL); rotate_left; refine fun (_ : ¬ _) => ?_; rotate_right; refine fun (_ : _ = true) => ?_)
    | (with_reducible exact wps_pure (ent_val rfl)))
  refine wps_swap (pc_one (b := c) 7) ?_
  refine wps_callH (fun _ => device_Rack_Arm_spec rb (Rk.new 2 3) ds ps 1) fun _ => ?_
  refine wps_call2 (fun _ => device_Rack_Write_spec (H := byt ⟨some ⟨c, 0, none⟩, 64, 64⟩ (one 7)) rb ((Rk.new 2 3).arm 1) ds ps 1 2 _ (one 7) (Ent.refl _) (by decide)) fun e1 => ?_
  simp only [← star_assoc]
  refine wps_prP fun he1 => ?_
  refine wps_call2 (fun _ => device_Rack_Write_spec (H := byt ⟨some ⟨c, 0, none⟩, 64, 64⟩ (one 7)) rb (((Rk.new 2 3).arm 1).write 1 2 (one 7)) ds ps 1 1 _ (one 7) (Ent.refl _) (by decide)) fun e2 => ?_
  simp only [← star_assoc]
  refine wps_prP fun he2 => ?_
  generalize hR : (((Rk.new 2 3).arm 1).write 1 2 (one 7)).write 1 1 (one 7) = R
  refine wps_valH (fun _ => device_Rack_Off_val rb R ds ps) ?_
  repeat (first
    | (with_reducible refine wps_bindpure ?_)
    | (with_reducible refine wps_assoc ?_)
    | (with_reducible refine wps_nil ?_)
    | (with_reducible refine wps_stepAlloc fun _ => ?_)
    | (with_reducible refine wps_alloc fun _ => ?_)
    | (with_reducible refine wps_newO fun _ => ?_)
    | (refine wps_ld _ (by rfl) ?_)
    | (refine wps_ldG _ _ _ (by rfl) ?_)
    | (refine wps_ldA _ (by rfl) ?_)
    | (refine wps_ldI _ (by rfl) ?_)
    | (refine wps_ldGI _ _ _ (by rfl) ?_)
    | (refine wps_ldAI _ (by rfl) ?_)
    | (refine wps_st (by simp) ?_)
    | (refine wps_stA (by simp) (by simp [Value.oneCell']) ?_)
    | ((with_reducible apply wps_val); apply val_ite; rotate_left; refine fun (_ : ¬ _) => ?_; rotate_right; refine fun (_ : _ = true) => ?_)
    | ((with_reducible apply val_ite); rotate_left; refine fun (_ : ¬ _) => ?_; rotate_right; refine fun (_ : _ = true) => ?_)
    | (with_reducible refine wps_regionH ?_)
    | ((with_reducible apply wps_bindV); apply val_iteL; rotate_left; refine fun (_ : ¬ _) => ?_; rotate_right; refine fun (_ : _ = true) => ?_)
    | ((with_reducible apply val_iteL); rotate_left; refine fun (_ : ¬ _) => ?_; rotate_right; refine fun (_ : _ = true) => ?_)
    | (with_reducible exact wps_pure (ent_val rfl)))
  rename_i c2
  refine wps_swap (A := pc c2 [Value.int .i64 1]) (B := intsP ⟨some ⟨c2, 0, none⟩, 1, 1⟩ [1]) (Ent.trans (pc_own (n := 1) (z := 1) (by simp)) (own_rsl _ _ _)) ?_
  refine wps_call2 (fun _ => device_Rack_Restore_spec (H := intsP ⟨some ⟨c2, 0, none⟩, 1, 1⟩ [1]) hcv rb R ds ps _ [1] (Ent.refl _)) fun _ => ?_
  simp only [← star_assoc]
  refine wps_callH (fun _ => device_Rack_Lasting_spec rb (R.restore [1]) ds ps 1 2) fun y => ?_
  simp only [← star_assoc]
  refine wps_prP fun hy => ?_
  have hl : (R.restore [1]).lst 1 2 = one 7 := by subst hR; decide
  rw [hl]
  refine wps_fact (Ent.trans (ent_right _ _) (own_len _ _ _)) fun ⟨hl1, _⟩ => ?_
  have hl1' : y.1.len = 64 := by simpa [bv, one] using hl1.symm
  have g1 : e1 = 0 := by rw [he1]; decide
  have g2 : e2 = 12 := by rw [he2]; decide
  have g3 : R.off = true := by subst hR; decide
  subst g1 g2
  rw [g3]
  refine wps_val (v := true) (wps_ite (fun _ => wps_pure (ent_val rfl)) (fun h => absurd rfl h)) ?_
  refine wps_val (v := true) (wps_ite (fun _ => wps_pure (ent_val rfl)) (fun h => absurd rfl h)) ?_
  refine wps_val (v := true) ?_ ?_
  · refine wps_ite (fun _ => ?_) (fun h => absurd (by decide) h)
    refine wps_val (val_frame (F := emp * byt ⟨some ⟨c, 0, none⟩, 64, 64⟩ (one 7) * intsP ⟨some ⟨c2, 0, none⟩, 1, 1⟩ [1] * own 1 y.1 (bv (one 7))) (fun _ => device_Rack_Off_val rb (R.restore [1]) ds ps) (by ac_rfl)) ?_
    exact wps_pure (ent_val rfl)
  refine wps_val (v := true) (wps_ite (fun _ => wps_pure (ent_val (by simp [hl1']))) (fun h => absurd rfl h)) ?_
  refine wps_val (v := true) (wps_ite (fun _ => ?_) (fun h => absurd rfl h)) ?_
  · refine wps_rdS 0 7 rfl rfl ?_
    exact wps_pure (ent_val rfl)
  exact wps_pure (ent_prq rfl)
end Go.Proofs.Ytldmeimebebllaa
