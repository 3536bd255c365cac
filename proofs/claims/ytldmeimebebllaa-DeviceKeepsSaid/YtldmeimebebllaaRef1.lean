/-
  a part of the proof: what functions of the program do, in a separation logic.
-/
import Derived.Test.YtldmeimebebllaaBnk
namespace Go.Proofs.Ytldmeimebebllaa
open Go.Mo
set_option linter.unusedVariables false
variable {g : Fr}
abbrev RefT := Int × Int × Slc × Slc × Slc × Slc × Int × Bool
def rlast (R : Rk) (i : Nat) : List Int := (R.dk (i / R.ns)).lasts (i % R.ns)
def rcach (R : Rk) (i : Nat) : List Int := ((R.dk (i / R.ns)).cached ((i % R.ns : Nat) : Int)).getD []
def bads (R : Rk) : List Value := (List.range R.n).map fun j => .bool (R.dk j).failed
def cnts (R : Rk) : List Value := (List.range R.n).map fun j => .int .i64 (R.dk j).count
structure RefOk (v : RefT) (R : Rk) (sl cl : List Slc) : Prop where
  n : v.1 = R.n
  ns : v.2.1 = R.ns
  count : v.2.2.2.2.2.2.1 = R.count
  off : v.2.2.2.2.2.2.2 = R.off
  sl : sl.length = R.n * R.ns
  cl : cl.length = R.n * R.ns
  n17 : R.n ≤ 17
  ns4 : R.ns ≤ 4096
  l1 : v.2.2.1.len = R.n * R.ns
  l2 : v.2.2.2.1.len = R.n * R.ns
  l3 : v.2.2.2.2.1.len = R.n
  l4 : v.2.2.2.2.2.1.len = R.n
def refX (v : RefT) (R : Rk) (sl cl : List Slc) : HP :=
  pr (RefOk v R sl cl) * seqp sl (rlast R) * seqp cl (rcach R) * own 1 v.2.2.1 (sl.map vS) * own 1 v.2.2.2.1 (cl.map vS) * own 1 v.2.2.2.2.1 (bads R) * own 1 v.2.2.2.2.2.1 (cnts R)
def refV (v : RefT) (R : Rk) : HP := ex fun sl : List Slc => ex fun cl : List Slc => refX v R sl cl
abbrev refC (v : RefT) : List Value := [.int .i64 v.1, .int .i64 v.2.1, vS v.2.2.1, vS v.2.2.2.1, vS v.2.2.2.2.1, vS v.2.2.2.2.2.1, .int .i64 v.2.2.2.2.2.2.1, .bool v.2.2.2.2.2.2.2]
def refZ : RefT := (0, 0, nilS, nilS, nilS, nilS, 0, false)
def rn1 (N S a x : Nat) : Int → HP := fun i => ex fun sl : List Slc => ex fun cl : List Slc => ex fun l1 : Slc => ex fun l2 : Slc =>
  pr (i = (sl.length : Int) ∧ sl.length ≤ N * S ∧ cl.length = sl.length ∧ l1.len = sl.length ∧ l2.len = sl.length) * seqp sl (fun _ => noughts) * seqp cl (fun _ => []) * own 1 l1 (sl.map vS) * own 1 l2 (cl.map vS) *
    pc a (refC refZ) * pc x (refC (N, S, l1, l2, nilS, nilS, -1, false))
def rn2 (N S a x : Nat) (F : HP) (l1 l2 : Slc) : Int → HP := fun i => ex fun k : Nat => ex fun l3 : Slc => ex fun l4 : Slc =>
  pr (i = (k : Int) ∧ k ≤ N ∧ l3.len = k ∧ l4.len = k) * F * own 1 l3 ((List.range k).map fun _ => .bool false) * own 1 l4 ((List.range k).map fun _ => .int .i64 (-1)) *
    pc a (refC refZ) * pc x (refC (N, S, l1, l2, l3, l4, -1, false))
theorem ref02_New_spec (n s : Int) : wps g emp (ref02_New n s) (fun x =>
    if n < 1 ∨ n > 17 ∨ s < 1 ∨ s > 4096 then pr (x.2 = 10) else pr (x.2 = 0) * refV x.1 (Rk.new n.toNat s.toNat)) := by
  unfold ref02_New
  repeat (first
    | (with_reducible refine wps_bindpure ?_)
    | (with_reducible refine wps_assoc ?_)
    | (with_reducible refine wps_nil ?_)
    | (with_reducible refine wps_stepAlloc fun _ => ?_)
    | (with_reducible refine wps_alloc fun _ => ?_)
    | (with_reducible refine wps_newO fun _ => ?_)
    | (refine wps_ld _ (by rfl) ?_)
    | (refine wps_ldG _ _ _ (by rfl) ?_)
    | (refine wps_ldA _ (by rfl) ?_)
    | (refine wps_ldI _ (by rfl) ?_)
    | (refine wps_ldGI _ _ _ (by rfl) ?_)
    | (refine wps_ldAI _ (by rfl) ?_)
    | (refine wps_st (by simp) ?_)
    | (refine wps_stA (by simp) (by simp [Value.oneCell']) ?_)
    | ((with_reducible apply wps_val); apply val_ite; rotate_left; refine fun (_ : ¬ _) => ?_; rotate_right; refine fun (_ : _ = true) => ?_)
    | ((with_reducible apply val_ite); rotate_left; refine fun (_ : ¬ _) => ?_; rotate_right; refine fun (_ : _ = true) => ?_)
    | (with_reducible refine wps_regionH ?_)
    | ((with_reducible apply wps_bindV); apply val_iteL; rotate_left; refine fun (_ : ¬ _) => ?_; rotate_right; refine fun (_ : _ = true) => ?_)
    | ((with_reducible apply val_iteL); rotate_left; refine fun (_ : ¬ _) => ?_; rotate_right; refine fun (_ : _ = true) => ?_)
    | (with_reducible exact wps_pure (ent_val rfl)))
  refine wps_ite (fun h1 => ?_) (fun h1 => ?_)
  · rw [or_tree] at h1
    simp only [if_pos h1]
    repeat (first
      | (with_reducible refine wps_bindpure ?_)
      | (with_reducible refine wps_assoc ?_)
      | (with_reducible refine wps_nil ?_)
      | (with_reducible refine wps_stepAlloc fun _ => ?_)
      | (with_reducible refine wps_alloc fun _ => ?_)
      | (with_reducible refine wps_newO fun _ => ?_)
      | (refine wps_ld _ (by rfl) ?_)
      | (refine wps_ldG _ _ _ (by rfl) ?_)
      | (refine wps_ldA _ (by rfl) ?_)
      | (refine wps_ldI _ (by rfl) ?_)
      | (refine wps_ldGI _ _ _ (by rfl) ?_)
      | (refine wps_ldAI _ (by rfl) ?_)
      | (refine wps_st (by simp) ?_)
      | (refine wps_stA (by simp) (by simp [Value.oneCell']) ?_)
      | ((with_reducible apply wps_val); apply val_ite; rotate_left; refine fun (_ : ¬ _) => ?_; rotate_right; refine fun (_ : _ = true) => ?_)
      | ((with_reducible apply val_ite); rotate_left; refine fun (_ : ¬ _) => ?_; rotate_right; refine fun (_ : _ = true) => ?_)
      | (with_reducible refine wps_regionH ?_)
      | ((with_reducible apply wps_bindV); apply val_iteL; rotate_left; refine fun (_ : ¬ _) => ?_; rotate_right; refine fun (_ : _ = true) => ?_)
      | ((with_reducible apply val_iteL); rotate_left; refine fun (_ : ¬ _) => ?_; rotate_right; refine fun (_ : _ = true) => ?_)
      | (with_reducible exact wps_pure (ent_val rfl)))
    refine wps_ldA refZ (by rfl) ?_
    exact wps_pure (ent_prq rfl)
  · rw [or_tree] at h1
    simp only [if_neg h1]
    repeat (first
      | (with_reducible refine wps_bindpure ?_)
      | (with_reducible refine wps_assoc ?_)
      | (with_reducible refine wps_nil ?_)
      | (with_reducible refine wps_stepAlloc fun _ => ?_)
      | (with_reducible refine wps_alloc fun _ => ?_)
      | (with_reducible refine wps_newO fun _ => ?_)
      | (refine wps_ld _ (by rfl) ?_)
      | (refine wps_ldG _ _ _ (by rfl) ?_)
      | (refine wps_ldA _ (by rfl) ?_)
      | (refine wps_ldI _ (by rfl) ?_)
      | (refine wps_ldGI _ _ _ (by rfl) ?_)
      | (refine wps_ldAI _ (by rfl) ?_)
      | (refine wps_st (by simp) ?_)
      | (refine wps_stA (by simp) (by simp [Value.oneCell']) ?_)
      | ((with_reducible apply wps_val); apply val_ite; rotate_left; refine fun (_ : ¬ _) => ?_; rotate_right; refine fun (_ : _ = true) => ?_)
      | ((with_reducible apply val_ite); rotate_left; refine fun (_ : ¬ _) => ?_; rotate_right; refine fun (_ : _ = true) => ?_)
      | (with_reducible refine wps_regionH ?_)
      | ((with_reducible apply wps_bindV); apply val_iteL; rotate_left; refine fun (_ : ¬ _) => ?_; rotate_right; refine fun (_ : _ = true) => ?_)
      | ((with_reducible apply val_iteL); rotate_left; refine fun (_ : ¬ _) => ?_; rotate_right; refine fun (_ : _ = true) => ?_)
      | (with_reducible exact wps_pure (ent_val rfl)))
    rename_i a x
    obtain ⟨N, rfl⟩ : ∃ N : Nat, n = (N : Int) := ⟨n.toNat, by omega⟩
    obtain ⟨S, rfl⟩ : ∃ S : Nat, s = (S : Int) := ⟨s.toNat, by omega⟩
    have hN : N ≤ 17 := by omega
    have hS : S ≤ 4096 := by omega
    have hNS : N * S ≤ 69632 := Nat.mul_le_mul hN hS
    have hm : w64 ((N : Int) * (S : Int)) = ((N * S : Nat) : Int) := by rw [← Int.natCast_mul, w64_id] <;> omega
    rw [hm]
    refine wps_loop (rn1 N S a x) (fun i => ((N * S : Nat) - i).toNat) ?_ fun i => ?_
    · refine ent_ex [] (ent_ex [] (ent_ex nilS (ent_ex nilS (ent_pickC (by rfl) (ent_pickC (by rfl) (ent_own0 (ent_own0 (ent_pers (ent_pers ?_ (seqp_nil _ _)) (seqp_nil _ _)))))))))
      exact ent_prq (by simp [nilS])
    · unfold rn1
      refine wps_ex fun sl => wps_ex fun cl => wps_ex fun l1 => wps_ex fun l2 => wps_prP fun ⟨hi, hle, hcl, h1l, h2l⟩ => ?_
      refine wps_ite (fun h2 => ?_) (fun h2 => ?_)
      · have hlt : sl.length < N * S := by simp only [decide_eq_true_eq] at h2; omega
        repeat (first
          | (with_reducible refine wps_bindpure ?_)
          | (with_reducible refine wps_assoc ?_)
          | (with_reducible refine wps_nil ?_)
          | (with_reducible refine wps_stepAlloc fun _ => ?_)
          | (with_reducible refine wps_alloc fun _ => ?_)
          | (with_reducible refine wps_newO fun _ => ?_)
          | (refine wps_ld _ (by rfl) ?_)
          | (refine wps_ldG _ _ _ (by rfl) ?_)
          | (refine wps_ldA _ (by rfl) ?_)
          | (refine wps_ldI _ (by rfl) ?_)
          | (refine wps_ldGI _ _ _ (by rfl) ?_)
          | (refine wps_ldAI _ (by rfl) ?_)
          | (refine wps_st (by simp) ?_)
          | (refine wps_stA (by simp) (by simp [Value.oneCell']) ?_)
          | ((with_reducible apply wps_val); apply val_ite; rotate_left; refine fun (_ : ¬ _) => ?_; rotate_right; refine fun (_ : _ = true) => ?_)
          | ((with_reducible apply val_ite); rotate_left; refine fun (_ : ¬ _) => ?_; rotate_right; refine fun (_ : _ = true) => ?_)
          | (with_reducible refine wps_regionH ?_)
          | ((with_reducible apply wps_bindV); apply val_iteL; rotate_left; refine fun (_ : ¬ _) => ?_; rotate_right; refine fun (_ : _ = true) => ?_)
          | ((with_reducible apply val_iteL); rotate_left; refine fun (_ : ¬ _) => ?_; rotate_right; refine fun (_ : _ = true) => ?_)
          | (with_reducible exact wps_pure (ent_val rfl)))
        rename_i y c
        refine wps_app 1 [Value.slice (some ⟨y, 0, none⟩) 64 64] rfl (by decide) (rsl_pc rfl) (by simp [Value.oneCell']) (by (try dsimp only); omega) fun l1' hl1 => ?_
        repeat (first
          | (with_reducible refine wps_bindpure ?_)
          | (with_reducible refine wps_assoc ?_)
          | (with_reducible refine wps_nil ?_)
          | (with_reducible refine wps_stepAlloc fun _ => ?_)
          | (with_reducible refine wps_alloc fun _ => ?_)
          | (with_reducible refine wps_newO fun _ => ?_)
          | (refine wps_ld _ (by rfl) ?_)
          | (refine wps_ldG _ _ _ (by rfl) ?_)
          | (refine wps_ldA _ (by rfl) ?_)
          | (refine wps_ldI _ (by rfl) ?_)
          | (refine wps_ldGI _ _ _ (by rfl) ?_)
          | (refine wps_ldAI _ (by rfl) ?_)
          | (refine wps_st (by simp) ?_)
          | (refine wps_stA (by simp) (by simp [Value.oneCell']) ?_)
          | ((with_reducible apply wps_val); apply val_ite; rotate_left; refine fun (_ : ¬ _) => ?_; rotate_right; refine fun (_ : _ = true) => ?_)
          | ((with_reducible apply val_ite); rotate_left; refine fun (_ : ¬ _) => ?_; rotate_right; refine fun (_ : _ = true) => ?_)
          | (with_reducible refine wps_regionH ?_)
          | ((with_reducible apply wps_bindV); apply val_iteL; rotate_left; refine fun (_ : ¬ _) => ?_; rotate_right; refine fun (_ : _ = true) => ?_)
          | ((with_reducible apply val_iteL); rotate_left; refine fun (_ : ¬ _) => ?_; rotate_right; refine fun (_ : _ = true) => ?_)
          | (with_reducible exact wps_pure (ent_val rfl)))
        rename_i c2
        refine wps_app 1 [Value.slice none 0 0] rfl (by decide) (rsl_pc rfl) (by simp [Value.oneCell']) (by (try dsimp only); omega) fun l2' hl2 => ?_
        repeat (first
          | (with_reducible refine wps_bindpure ?_)
          | (with_reducible refine wps_assoc ?_)
          | (with_reducible refine wps_nil ?_)
          | (with_reducible refine wps_stepAlloc fun _ => ?_)
          | (with_reducible refine wps_alloc fun _ => ?_)
          | (with_reducible refine wps_newO fun _ => ?_)
          | (refine wps_ld _ (by rfl) ?_)
          | (refine wps_ldG _ _ _ (by rfl) ?_)
          | (refine wps_ldA _ (by rfl) ?_)
          | (refine wps_ldI _ (by rfl) ?_)
          | (refine wps_ldGI _ _ _ (by rfl) ?_)
          | (refine wps_ldAI _ (by rfl) ?_)
          | (refine wps_st (by simp) ?_)
          | (refine wps_stA (by simp) (by simp [Value.oneCell']) ?_)
          | ((with_reducible apply wps_val); apply val_ite; rotate_left; refine fun (_ : ¬ _) => ?_; rotate_right; refine fun (_ : _ = true) => ?_)
          | ((with_reducible apply val_ite); rotate_left; refine fun (_ : ¬ _) => ?_; rotate_right; refine fun (_ : _ = true) => ?_)
          | (with_reducible refine wps_regionH ?_)
          | ((with_reducible apply wps_bindV); apply val_iteL; rotate_left; refine fun (_ : ¬ _) => ?_; rotate_right; refine fun (_ : _ = true) => ?_)
          | ((with_reducible apply val_iteL); rotate_left; refine fun (_ : ¬ _) => ?_; rotate_right; refine fun (_ : _ = true) => ?_)
          | (with_reducible exact wps_pure (ent_val rfl)))
        refine wps_pure (ent_prr (by rw [range_add1 hi (by omega)]; omega) (ent_ex (sl ++ [⟨some ⟨y, 0, none⟩, 64, 64⟩]) (ent_ex (cl ++ [nilS]) (ent_ex l1' (ent_ex l2' (ent_pickC (by rfl) (ent_pick (ent_pickS (by simp [vS, nilS]) (ent_pickS (by simp [vS]) ?_)))))))))
        refine ent_swap (A := pc y (List.replicate 64 (Value.int .u8 0))) (B := byt ⟨some ⟨y, 0, none⟩, 64, 64⟩ noughts) (Ent.trans (Ent.trans (pc_own (n := 64) (z := 1) (by simp)) (own_rsl _ _ _)) (Ent.of_eq (by rw [byt, bv_noughts]))) ?_
        refine ent_add (A := byt nilS []) (rsl_nil 1) ?_
        refine ent_join (A := seqp cl fun _ => []) (B := byt nilS []) (seqp_snoc (ent_left _ _) (ent_right _ _)) ?_
        refine ent_join (A := seqp sl fun _ => noughts) (B := byt ⟨some ⟨y, 0, none⟩, 64, 64⟩ noughts) (seqp_snoc (ent_left _ _) (ent_right _ _)) ?_
        exact ent_prq ⟨by rw [range_add1 hi (by omega)]; simp, by simp; omega, by simp [hcl], by simp [hl1, h1l], by simp [hl2, h2l]⟩
      · have hse : sl.length = N * S := by simp only [decide_eq_true_eq] at h2; omega
        refine wps_mapR ?_
        refine wps_loop (rn2 N S a x (seqp sl (fun _ => noughts) * seqp cl (fun _ => []) * own 1 l1 (sl.map vS) * own 1 l2 (cl.map vS)) l1 l2) (fun i => (N - i).toNat) ?_ fun j => ?_
        · refine ent_ex 0 (ent_ex nilS (ent_ex nilS (ent_pick (ent_pick (ent_own0 (ent_own0 ?_))))))
          exact ent_prr (by simp [nilS]) (Ent.of_eq (by simp only [emp_star]))
        · unfold rn2
          refine wps_ex fun k => wps_ex fun l3 => wps_ex fun l4 => wps_prP fun ⟨hj, hk, h3l, h4l⟩ => ?_
          refine wps_ite (fun h3 => ?_) (fun h3 => ?_)
          · have hlt : k < N := by simp only [decide_eq_true_eq] at h3; omega
            repeat (first
              | (with_reducible refine wps_bindpure ?_)
              | (with_reducible refine wps_assoc ?_)
              | (with_reducible refine wps_nil ?_)
              | (with_reducible refine wps_stepAlloc fun _ => ?_)
              | (with_reducible refine wps_alloc fun _ => ?_)
              | (with_reducible refine wps_newO fun _ => ?_)
              | (refine wps_ld _ (by rfl) ?_)
              | (refine wps_ldG _ _ _ (by rfl) ?_)
              | (refine wps_ldA _ (by rfl) ?_)
              | (refine wps_ldI _ (by rfl) ?_)
              | (refine wps_ldGI _ _ _ (by rfl) ?_)
              | (refine wps_ldAI _ (by rfl) ?_)
              | (refine wps_st (by simp) ?_)
              | (refine wps_stA (by simp) (by simp [Value.oneCell']) ?_)
              | ((with_reducible apply wps_val); apply val_ite; rotate_left; refine fun (_ : ¬ _) => ?_; rotate_right; refine fun (_ : _ = true) => ?_)
              | ((with_reducible apply val_ite); rotate_left; refine fun (_ : ¬ _) => ?_; rotate_right; refine fun (_ : _ = true) => ?_)
              | (with_reducible refine wps_regionH ?_)
              | ((with_reducible apply wps_bindV); apply val_iteL; rotate_left; refine fun (_ : ¬ _) => ?_; rotate_right; refine fun (_ : _ = true) => ?_)
              | ((with_reducible apply val_iteL); rotate_left; refine fun (_ : ¬ _) => ?_; rotate_right; refine fun (_ : _ = true) => ?_)
              | (with_reducible exact wps_pure (ent_val rfl)))
            refine wps_app 1 [Value.bool false] rfl (by decide) (rsl_pc rfl) (by simp [Value.oneCell']) (by (try dsimp only); omega) fun l3' hl3 => ?_
            repeat (first
              | (with_reducible refine wps_bindpure ?_)
              | (with_reducible refine wps_assoc ?_)
              | (with_reducible refine wps_nil ?_)
              | (with_reducible refine wps_stepAlloc fun _ => ?_)
              | (with_reducible refine wps_alloc fun _ => ?_)
              | (with_reducible refine wps_newO fun _ => ?_)
              | (refine wps_ld _ (by rfl) ?_)
              | (refine wps_ldG _ _ _ (by rfl) ?_)
              | (refine wps_ldA _ (by rfl) ?_)
              | (refine wps_ldI _ (by rfl) ?_)
              | (refine wps_ldGI _ _ _ (by rfl) ?_)
              | (refine wps_ldAI _ (by rfl) ?_)
              | (refine wps_st (by simp) ?_)
              | (refine wps_stA (by simp) (by simp [Value.oneCell']) ?_)
              | ((with_reducible apply wps_val); apply val_ite; rotate_left; refine fun (_ : ¬ _) => ?_; rotate_right; refine fun (_ : _ = true) => ?_)
              | ((with_reducible apply val_ite); rotate_left; refine fun (_ : ¬ _) => ?_; rotate_right; refine fun (_ : _ = true) => ?_)
              | (with_reducible refine wps_regionH ?_)
              | ((with_reducible apply wps_bindV); apply val_iteL; rotate_left; refine fun (_ : ¬ _) => ?_; rotate_right; refine fun (_ : _ = true) => ?_)
              | ((with_reducible apply val_iteL); rotate_left; refine fun (_ : ¬ _) => ?_; rotate_right; refine fun (_ : _ = true) => ?_)
              | (with_reducible exact wps_pure (ent_val rfl)))
            refine wps_app 1 [Value.int .i64 (-1)] rfl (by decide) (rsl_pc rfl) (by simp [Value.oneCell']) (by (try dsimp only); omega) fun l4' hl4 => ?_
            repeat (first
              | (with_reducible refine wps_bindpure ?_)
              | (with_reducible refine wps_assoc ?_)
              | (with_reducible refine wps_nil ?_)
              | (with_reducible refine wps_stepAlloc fun _ => ?_)
              | (with_reducible refine wps_alloc fun _ => ?_)
              | (with_reducible refine wps_newO fun _ => ?_)
              | (refine wps_ld _ (by rfl) ?_)
              | (refine wps_ldG _ _ _ (by rfl) ?_)
              | (refine wps_ldA _ (by rfl) ?_)
              | (refine wps_ldI _ (by rfl) ?_)
              | (refine wps_ldGI _ _ _ (by rfl) ?_)
              | (refine wps_ldAI _ (by rfl) ?_)
              | (refine wps_st (by simp) ?_)
              | (refine wps_stA (by simp) (by simp [Value.oneCell']) ?_)
              | ((with_reducible apply wps_val); apply val_ite; rotate_left; refine fun (_ : ¬ _) => ?_; rotate_right; refine fun (_ : _ = true) => ?_)
              | ((with_reducible apply val_ite); rotate_left; refine fun (_ : ¬ _) => ?_; rotate_right; refine fun (_ : _ = true) => ?_)
              | (with_reducible refine wps_regionH ?_)
              | ((with_reducible apply wps_bindV); apply val_iteL; rotate_left; refine fun (_ : ¬ _) => ?_; rotate_right; refine fun (_ : _ = true) => ?_)
              | ((with_reducible apply val_iteL); rotate_left; refine fun (_ : ¬ _) => ?_; rotate_right; refine fun (_ : _ = true) => ?_)
              | (with_reducible exact wps_pure (ent_val rfl)))
            refine wps_pure (ent_prr (by rw [range_add1 hj (by omega)]; omega) (ent_ex (k + 1) (ent_ex l3' (ent_ex l4' (ent_pickC (by rfl) (ent_pick (ent_pickS (by simp [List.range_succ]) (ent_pickS (by simp [List.range_succ]) ?_))))))))
            exact ent_prr ⟨range_add1 hj (by omega), by omega, by simp [hl3, h3l], by simp [hl4, h4l]⟩ ent_drop
          · have hke : k = N := by simp only [decide_eq_true_eq] at h3; omega
            refine wps_mapR ?_
            refine wps_ldA (N, S, l1, l2, l3, l4, -1, false) (by rfl) ?_
            repeat (first
              | (with_reducible refine wps_bindpure ?_)
              | (with_reducible refine wps_assoc ?_)
              | (with_reducible refine wps_nil ?_)
              | (with_reducible refine wps_stepAlloc fun _ => ?_)
              | (with_reducible refine wps_alloc fun _ => ?_)
              | (with_reducible refine wps_newO fun _ => ?_)
              | (refine wps_ld _ (by rfl) ?_)
              | (refine wps_ldG _ _ _ (by rfl) ?_)
              | (refine wps_ldA _ (by rfl) ?_)
              | (refine wps_ldI _ (by rfl) ?_)
              | (refine wps_ldGI _ _ _ (by rfl) ?_)
              | (refine wps_ldAI _ (by rfl) ?_)
              | (refine wps_st (by simp) ?_)
              | (refine wps_stA (by simp) (by simp [Value.oneCell']) ?_)
              | ((with_reducible apply wps_val); apply val_ite; rotate_left; refine fun (_ : ¬ _) => ?_; rotate_right; refine fun (_ : _ = true) => ?_)
              | ((with_reducible apply val_ite); rotate_left; refine fun (_ : ¬ _) => ?_; rotate_right; refine fun (_ : _ = true) => ?_)
              | (with_reducible refine wps_regionH ?_)
              | ((with_reducible apply wps_bindV); apply val_iteL; rotate_left; refine fun (_ : ¬ _) => ?_; rotate_right; refine fun (_ : _ = true) => ?_)
              | ((with_reducible apply val_iteL); rotate_left; refine fun (_ : ¬ _) => ?_; rotate_right; refine fun (_ : _ = true) => ?_)
              | (with_reducible exact wps_pure (ent_val rfl)))
            refine wps_pure (ent_prr rfl (ent_ex sl (ent_ex cl ?_)))
            subst hke
            refine ent_pickS rfl (ent_pickS rfl (ent_pickS rfl (ent_pickS rfl ?_)))
            have e1 : rcach (Rk.new (k : Int).toNat (S : Int).toNat) = fun _ => [] := rfl
            have e2 : rlast (Rk.new (k : Int).toNat (S : Int).toNat) = fun _ => noughts := rfl
            rw [e1, e2]
            refine ent_pick (ent_pick (ent_prq ?_))
            exact ⟨rfl, rfl, rfl, rfl, hse, by rw [hcl, hse]; rfl, hN, hS, h1l.trans hse, h2l.trans hse, h3l, h4l⟩
end Go.Proofs.Ytldmeimebebllaa
