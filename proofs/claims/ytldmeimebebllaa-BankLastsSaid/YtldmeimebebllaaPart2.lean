/-
  A part of the proof: predicate transformers over the model, and a separation logic over them; what functions of the program do.
-/
import Derived.Test.YtldmeimebebllaaPart1
set_option linter.unusedSimpArgs false
namespace Go.Proofs.Ytldmeimebebllaa
open Go.Mo
set_option linter.unusedVariables false
variable {g : Fr}
abbrev RefT := Int × Int × Slc × Slc × Slc × Slc × Int × Bool
def rlast (R : Rk) (i : Nat) : List Int := (R.dk (i / R.ns)).lasts (i % R.ns)
def rcach (R : Rk) (i : Nat) : List Int := ((R.dk (i / R.ns)).cached ((i % R.ns : Nat) : Int)).getD []
def bads (R : Rk) : List Value := (List.range R.n).map fun j => .bool (R.dk j).failed
def cnts (R : Rk) : List Value := (List.range R.n).map fun j => .int .i64 (R.dk j).count
structure RefOk (v : RefT) (R : Rk) (sl cl : List Slc) : Prop where
  n : v.1 = R.n
  ns : v.2.1 = R.ns
  count : v.2.2.2.2.2.2.1 = R.count
  off : v.2.2.2.2.2.2.2 = R.off
  sl : sl.length = R.n * R.ns
  cl : cl.length = R.n * R.ns
  n17 : R.n ≤ 17
  ns4 : R.ns ≤ 4096
  l1 : v.2.2.1.len = R.n * R.ns
  l2 : v.2.2.2.1.len = R.n * R.ns
  l3 : v.2.2.2.2.1.len = R.n
  l4 : v.2.2.2.2.2.1.len = R.n
def refX (v : RefT) (R : Rk) (sl cl : List Slc) : HP :=
  pr (RefOk v R sl cl) * seqp sl (rlast R) * seqp cl (rcach R) * own 1 v.2.2.1 (sl.map vS) * own 1 v.2.2.2.1 (cl.map vS) * own 1 v.2.2.2.2.1 (bads R) * own 1 v.2.2.2.2.2.1 (cnts R)
def refV (v : RefT) (R : Rk) : HP := ex fun sl : List Slc => ex fun cl : List Slc => refX v R sl cl
abbrev refC (v : RefT) : List Value := [.int .i64 v.1, .int .i64 v.2.1, vS v.2.2.1, vS v.2.2.2.1, vS v.2.2.2.2.1, vS v.2.2.2.2.2.1, .int .i64 v.2.2.2.2.2.2.1, .bool v.2.2.2.2.2.2.2]
def refZ : RefT := (0, 0, nilS, nilS, nilS, nilS, 0, false)
def rn1 (N S a x : Nat) : Int → HP := fun i => ex fun sl : List Slc => ex fun cl : List Slc => ex fun l1 : Slc => ex fun l2 : Slc =>
  pr (i = (sl.length : Int) ∧ sl.length ≤ N * S ∧ cl.length = sl.length ∧ l1.len = sl.length ∧ l2.len = sl.length) * seqp sl (fun _ => noughts) * seqp cl (fun _ => []) * own 1 l1 (sl.map vS) * own 1 l2 (cl.map vS) *
    pc a (refC refZ) * pc x (refC (N, S, l1, l2, nilS, nilS, -1, false))
def rn2 (N S a x : Nat) (F : HP) (l1 l2 : Slc) : Int → HP := fun i => ex fun k : Nat => ex fun l3 : Slc => ex fun l4 : Slc =>
  pr (i = (k : Int) ∧ k ≤ N ∧ l3.len = k ∧ l4.len = k) * F * own 1 l3 ((List.range k).map fun _ => .bool false) * own 1 l4 ((List.range k).map fun _ => .int .i64 (-1)) *
    pc a (refC refZ) * pc x (refC (N, S, l1, l2, l3, l4, -1, false))
theorem ref02_New_spec (n s : Int) : wps g emp (ref02_New n s) (fun x =>
    if n < 1 ∨ n > 17 ∨ s < 1 ∨ s > 4096 then pr (x.2 = 10) else pr (x.2 = 0) * refV x.1 (Rk.new n.toNat s.toNat)) := by
  unfold ref02_New
  repeat (first
    | (with_reducible refine wps_bindpure ?_)
    | (with_reducible refine wps_assoc ?_)
    | (with_reducible refine wps_nil ?_)
    | (with_reducible refine wps_stepAlloc fun _ => ?_)
    | (with_reducible refine wps_alloc fun _ => ?_)
    | (with_reducible refine wps_newO fun _ => ?_)
    | (refine wps_ld _ (by rfl) ?_)
    | (refine wps_ldG _ _ _ (by rfl) ?_)
    | (refine wps_ldA _ (by rfl) ?_)
    | (refine wps_ldI _ (by rfl) ?_)
    | (refine wps_ldGI _ _ _ (by rfl) ?_)
    | (refine wps_ldAI _ (by rfl) ?_)
    | (refine wps_st (by simp) ?_)
    | (refine wps_stA (by simp) (by simp [Value.oneCell']) ?_)
    | ((with_reducible apply wps_val); apply val_ite; rotate_left; refine fun (_ : ¬ _) => ?_; rotate_right; refine fun (_ : _ = true) => ?_)
    | ((with_reducible apply val_ite); rotate_left; refine fun (_ : ¬ _) => ?_; rotate_right; refine fun (_ : _ = true) => ?_)
    | (with_reducible refine wps_regionH ?_)
    | ((with_reducible apply wps_bindV); apply val_iteL; rotate_left; refine fun (_ : ¬ _) => ?_; rotate_right; refine fun (_ : _ = true) => ?_)
    | ((with_reducible apply val_iteL); rotate_left; refine fun (_ : ¬ _) => ?_; rotate_right; refine fun (_ : _ = true) => ?_)
    | (with_reducible exact wps_pure (ent_val rfl)))
  refine wps_ite (fun h1 => ?_) (fun h1 => ?_)
  · rw [or_tree] at h1
    simp only [if_pos h1]
    repeat (first
      | (with_reducible refine wps_bindpure ?_)
      | (with_reducible refine wps_assoc ?_)
      | (with_reducible refine wps_nil ?_)
      | (with_reducible refine wps_stepAlloc fun _ => ?_)
      | (with_reducible refine wps_alloc fun _ => ?_)
      | (with_reducible refine wps_newO fun _ => ?_)
      | (refine wps_ld _ (by rfl) ?_)
      | (refine wps_ldG _ _ _ (by rfl) ?_)
      | (refine wps_ldA _ (by rfl) ?_)
      | (refine wps_ldI _ (by rfl) ?_)
      | (refine wps_ldGI _ _ _ (by rfl) ?_)
      | (refine wps_ldAI _ (by rfl) ?_)
      | (refine wps_st (by simp) ?_)
      | (refine wps_stA (by simp) (by simp [Value.oneCell']) ?_)
      | ((with_reducible apply wps_val); apply val_ite; rotate_left; refine fun (_ : ¬ _) => ?_; rotate_right; refine fun (_ : _ = true) => ?_)
      | ((with_reducible apply val_ite); rotate_left; refine fun (_ : ¬ _) => ?_; rotate_right; refine fun (_ : _ = true) => ?_)
      | (with_reducible refine wps_regionH ?_)
      | ((with_reducible apply wps_bindV); apply val_iteL; rotate_left; refine fun (_ : ¬ _) => ?_; rotate_right; refine fun (_ : _ = true) => ?_)
      | ((with_reducible apply val_iteL); rotate_left; refine fun (_ : ¬ _) => ?_; rotate_right; refine fun (_ : _ = true) => ?_)
      | (with_reducible exact wps_pure (ent_val rfl)))
    refine wps_ldA refZ (by rfl) ?_
    exact wps_pure (ent_prq rfl)
  · rw [or_tree] at h1
    simp only [if_neg h1]
    repeat (first
      | (with_reducible refine wps_bindpure ?_)
      | (with_reducible refine wps_assoc ?_)
      | (with_reducible refine wps_nil ?_)
      | (with_reducible refine wps_stepAlloc fun _ => ?_)
      | (with_reducible refine wps_alloc fun _ => ?_)
      | (with_reducible refine wps_newO fun _ => ?_)
      | (refine wps_ld _ (by rfl) ?_)
      | (refine wps_ldG _ _ _ (by rfl) ?_)
      | (refine wps_ldA _ (by rfl) ?_)
      | (refine wps_ldI _ (by rfl) ?_)
      | (refine wps_ldGI _ _ _ (by rfl) ?_)
      | (refine wps_ldAI _ (by rfl) ?_)
      | (refine wps_st (by simp) ?_)
      | (refine wps_stA (by simp) (by simp [Value.oneCell']) ?_)
      | ((with_reducible apply wps_val); apply val_ite; rotate_left; refine fun (_ : ¬ _) => ?_; rotate_right; refine fun (_ : _ = true) => ?_)
      | ((with_reducible apply val_ite); rotate_left; refine fun (_ : ¬ _) => ?_; rotate_right; refine fun (_ : _ = true) => ?_)
      | (with_reducible refine wps_regionH ?_)
      | ((with_reducible apply wps_bindV); apply val_iteL; rotate_left; refine fun (_ : ¬ _) => ?_; rotate_right; refine fun (_ : _ = true) => ?_)
      | ((with_reducible apply val_iteL); rotate_left; refine fun (_ : ¬ _) => ?_; rotate_right; refine fun (_ : _ = true) => ?_)
      | (with_reducible exact wps_pure (ent_val rfl)))
    rename_i a x
    obtain ⟨N, rfl⟩ : ∃ N : Nat, n = (N : Int) := ⟨n.toNat, by omega⟩
    obtain ⟨S, rfl⟩ : ∃ S : Nat, s = (S : Int) := ⟨s.toNat, by omega⟩
    have hN : N ≤ 17 := by omega
    have hS : S ≤ 4096 := by omega
    have hNS : N * S ≤ 69632 := Nat.mul_le_mul hN hS
    have hm : w64 ((N : Int) * (S : Int)) = ((N * S : Nat) : Int) := by rw [← Int.natCast_mul, w64_id] <;> omega
    rw [hm]
    refine wps_loop (rn1 N S a x) (fun i => ((N * S : Nat) - i).toNat) ?_ fun i => ?_
    · refine ent_ex [] (ent_ex [] (ent_ex nilS (ent_ex nilS (ent_pickC (by rfl) (ent_pickC (by rfl) (ent_own0 (ent_own0 (ent_pers (ent_pers ?_ (seqp_nil _ _)) (seqp_nil _ _)))))))))
      exact ent_prq (by simp [nilS])
    · unfold rn1
      refine wps_ex fun sl => wps_ex fun cl => wps_ex fun l1 => wps_ex fun l2 => wps_prP fun ⟨hi, hle, hcl, h1l, h2l⟩ => ?_
      refine wps_ite (fun h2 => ?_) (fun h2 => ?_)
      · have hlt : sl.length < N * S := by simp only [decide_eq_true_eq] at h2; omega
        repeat (first
          | (with_reducible refine wps_bindpure ?_)
          | (with_reducible refine wps_assoc ?_)
          | (with_reducible refine wps_nil ?_)
          | (with_reducible refine wps_stepAlloc fun _ => ?_)
          | (with_reducible refine wps_alloc fun _ => ?_)
          | (with_reducible refine wps_newO fun _ => ?_)
          | (refine wps_ld _ (by rfl) ?_)
          | (refine wps_ldG _ _ _ (by rfl) ?_)
          | (refine wps_ldA _ (by rfl) ?_)
          | (refine wps_ldI _ (by rfl) ?_)
          | (refine wps_ldGI _ _ _ (by rfl) ?_)
          | (refine wps_ldAI _ (by rfl) ?_)
          | (refine wps_st (by simp) ?_)
          | (refine wps_stA (by simp) (by simp [Value.oneCell']) ?_)
          | ((with_reducible apply wps_val); apply val_ite; rotate_left; refine fun (_ : ¬ _) => ?_; rotate_right; refine fun (_ : _ = true) => ?_)
          | ((with_reducible apply val_ite); rotate_left; refine fun (_ : ¬ _) => ?_; rotate_right; refine fun (_ : _ = true) => ?_)
          | (with_reducible refine wps_regionH ?_)
          | ((with_reducible apply wps_bindV); apply val_iteL; rotate_left; refine fun (_ : ¬ _) => ?_; rotate_right; refine fun (_ : _ = true) => ?_)
          | ((with_reducible apply val_iteL); rotate_left; refine fun (_ : ¬ _) => ?_; rotate_right; refine fun (_ : _ = true) => ?_)
          | (with_reducible exact wps_pure (ent_val rfl)))
        rename_i y c
        refine wps_app 1 [Value.slice (some ⟨y, 0, none⟩) 64 64] rfl (by decide) (rsl_pc rfl) (by simp [Value.oneCell']) (by (try dsimp only); omega) fun l1' hl1 => ?_
        repeat (first
          | (with_reducible refine wps_bindpure ?_)
          | (with_reducible refine wps_assoc ?_)
          | (with_reducible refine wps_nil ?_)
          | (with_reducible refine wps_stepAlloc fun _ => ?_)
          | (with_reducible refine wps_alloc fun _ => ?_)
          | (with_reducible refine wps_newO fun _ => ?_)
          | (refine wps_ld _ (by rfl) ?_)
          | (refine wps_ldG _ _ _ (by rfl) ?_)
          | (refine wps_ldA _ (by rfl) ?_)
          | (refine wps_ldI _ (by rfl) ?_)
          | (refine wps_ldGI _ _ _ (by rfl) ?_)
          | (refine wps_ldAI _ (by rfl) ?_)
          | (refine wps_st (by simp) ?_)
          | (refine wps_stA (by simp) (by simp [Value.oneCell']) ?_)
          | ((with_reducible apply wps_val); apply val_ite; rotate_left; refine fun (_ : ¬ _) => ?_; rotate_right; refine fun (_ : _ = true) => ?_)
          | ((with_reducible apply val_ite); rotate_left; refine fun (_ : ¬ _) => ?_; rotate_right; refine fun (_ : _ = true) => ?_)
          | (with_reducible refine wps_regionH ?_)
          | ((with_reducible apply wps_bindV); apply val_iteL; rotate_left; refine fun (_ : ¬ _) => ?_; rotate_right; refine fun (_ : _ = true) => ?_)
          | ((with_reducible apply val_iteL); rotate_left; refine fun (_ : ¬ _) => ?_; rotate_right; refine fun (_ : _ = true) => ?_)
          | (with_reducible exact wps_pure (ent_val rfl)))
        rename_i c2
        refine wps_app 1 [Value.slice none 0 0] rfl (by decide) (rsl_pc rfl) (by simp [Value.oneCell']) (by (try dsimp only); omega) fun l2' hl2 => ?_
        repeat (first
          | (with_reducible refine wps_bindpure ?_)
          | (with_reducible refine wps_assoc ?_)
          | (with_reducible refine wps_nil ?_)
          | (with_reducible refine wps_stepAlloc fun _ => ?_)
          | (with_reducible refine wps_alloc fun _ => ?_)
          | (with_reducible refine wps_newO fun _ => ?_)
          | (refine wps_ld _ (by rfl) ?_)
          | (refine wps_ldG _ _ _ (by rfl) ?_)
          | (refine wps_ldA _ (by rfl) ?_)
          | (refine wps_ldI _ (by rfl) ?_)
          | (refine wps_ldGI _ _ _ (by rfl) ?_)
          | (refine wps_ldAI _ (by rfl) ?_)
          | (refine wps_st (by simp) ?_)
          | (refine wps_stA (by simp) (by simp [Value.oneCell']) ?_)
          | ((with_reducible apply wps_val); apply val_ite; rotate_left; refine fun (_ : ¬ _) => ?_; rotate_right; refine fun (_ : _ = true) => ?_)
          | ((with_reducible apply val_ite); rotate_left; refine fun (_ : ¬ _) => ?_; rotate_right; refine fun (_ : _ = true) => ?_)
          | (with_reducible refine wps_regionH ?_)
          | ((with_reducible apply wps_bindV); apply val_iteL; rotate_left; refine fun (_ : ¬ _) => ?_; rotate_right; refine fun (_ : _ = true) => ?_)
          | ((with_reducible apply val_iteL); rotate_left; refine fun (_ : ¬ _) => ?_; rotate_right; refine fun (_ : _ = true) => ?_)
          | (with_reducible exact wps_pure (ent_val rfl)))
        refine wps_pure (ent_prr (by rw [range_add1 hi (by omega)]; omega) (ent_ex (sl ++ [⟨some ⟨y, 0, none⟩, 64, 64⟩]) (ent_ex (cl ++ [nilS]) (ent_ex l1' (ent_ex l2' (ent_pickC (by rfl) (ent_pick (ent_pickS (by simp [vS, nilS]) (ent_pickS (by simp [vS]) ?_)))))))))
        refine ent_swap (A := pc y (List.replicate 64 (Value.int .u8 0))) (B := byt ⟨some ⟨y, 0, none⟩, 64, 64⟩ noughts) (Ent.trans (Ent.trans (pc_own (n := 64) (z := 1) (by simp)) (own_rsl _ _ _)) (Ent.of_eq (by rw [byt, bv_noughts]))) ?_
        refine ent_add (A := byt nilS []) (rsl_nil 1) ?_
        refine ent_join (A := seqp cl fun _ => []) (B := byt nilS []) (seqp_snoc (ent_left _ _) (ent_right _ _)) ?_
        refine ent_join (A := seqp sl fun _ => noughts) (B := byt ⟨some ⟨y, 0, none⟩, 64, 64⟩ noughts) (seqp_snoc (ent_left _ _) (ent_right _ _)) ?_
        exact ent_prq ⟨by rw [range_add1 hi (by omega)]; simp, by simp; omega, by simp [hcl], by simp [hl1, h1l], by simp [hl2, h2l]⟩
      · have hse : sl.length = N * S := by simp only [decide_eq_true_eq] at h2; omega
        refine wps_mapR ?_
        refine wps_loop (rn2 N S a x (seqp sl (fun _ => noughts) * seqp cl (fun _ => []) * own 1 l1 (sl.map vS) * own 1 l2 (cl.map vS)) l1 l2) (fun i => (N - i).toNat) ?_ fun j => ?_
        · refine ent_ex 0 (ent_ex nilS (ent_ex nilS (ent_pick (ent_pick (ent_own0 (ent_own0 ?_))))))
          exact ent_prr (by simp [nilS]) (Ent.of_eq (by simp only [emp_star]))
        · unfold rn2
          refine wps_ex fun k => wps_ex fun l3 => wps_ex fun l4 => wps_prP fun ⟨hj, hk, h3l, h4l⟩ => ?_
          refine wps_ite (fun h3 => ?_) (fun h3 => ?_)
          · have hlt : k < N := by simp only [decide_eq_true_eq] at h3; omega
            repeat (first
              | (with_reducible refine wps_bindpure ?_)
              | (with_reducible refine wps_assoc ?_)
              | (with_reducible refine wps_nil ?_)
              | (with_reducible refine wps_stepAlloc fun _ => ?_)
              | (with_reducible refine wps_alloc fun _ => ?_)
              | (with_reducible refine wps_newO fun _ => ?_)
              | (refine wps_ld _ (by rfl) ?_)
              | (refine wps_ldG _ _ _ (by rfl) ?_)
              | (refine wps_ldA _ (by rfl) ?_)
              | (refine wps_ldI _ (by rfl) ?_)
              | (refine wps_ldGI _ _ _ (by rfl) ?_)
              | (refine wps_ldAI _ (by rfl) ?_)
              | (refine wps_st (by simp) ?_)
              | (refine wps_stA (by simp) (by simp [Value.oneCell']) ?_)
              | ((with_reducible apply wps_val); apply val_ite; rotate_left; refine fun (_ : ¬ _) => ?_; rotate_right; refine fun (_ : _ = true) => ?_)
              | ((with_reducible apply val_ite); rotate_left; refine fun (_ : ¬ _) => ?_; rotate_right; refine fun (_ : _ = true) => ?_)
              | (with_reducible refine wps_regionH ?_)
              | ((with_reducible apply wps_bindV); apply val_iteL; rotate_left; refine fun (_ : ¬ _) => ?_; rotate_right; refine fun (_ : _ = true) => ?_)
              | ((with_reducible apply val_iteL); rotate_left; refine fun (_ : ¬ _) => ?_; rotate_right; refine fun (_ : _ = true) => ?_)
              | (with_reducible exact wps_pure (ent_val rfl)))
            refine wps_app 1 [Value.bool false] rfl (by decide) (rsl_pc rfl) (by simp [Value.oneCell']) (by (try dsimp only); omega) fun l3' hl3 => ?_
            repeat (first
              | (with_reducible refine wps_bindpure ?_)
              | (with_reducible refine wps_assoc ?_)
              | (with_reducible refine wps_nil ?_)
              | (with_reducible refine wps_stepAlloc fun _ => ?_)
              | (with_reducible refine wps_alloc fun _ => ?_)
              | (with_reducible refine wps_newO fun _ => ?_)
              | (refine wps_ld _ (by rfl) ?_)
              | (refine wps_ldG _ _ _ (by rfl) ?_)
              | (refine wps_ldA _ (by rfl) ?_)
              | (refine wps_ldI _ (by rfl) ?_)
              | (refine wps_ldGI _ _ _ (by rfl) ?_)
              | (refine wps_ldAI _ (by rfl) ?_)
              | (refine wps_st (by simp) ?_)
              | (refine wps_stA (by simp) (by simp [Value.oneCell']) ?_)
              | ((with_reducible apply wps_val); apply val_ite; rotate_left; refine fun (_ : ¬ _) => ?_; rotate_right; refine fun (_ : _ = true) => ?_)
              | ((with_reducible apply val_ite); rotate_left; refine fun (_ : ¬ _) => ?_; rotate_right; refine fun (_ : _ = true) => ?_)
              | (with_reducible refine wps_regionH ?_)
              | ((with_reducible apply wps_bindV); apply val_iteL; rotate_left; refine fun (_ : ¬ _) => ?_; rotate_right; refine fun (_ : _ = true) => ?_)
              | ((with_reducible apply val_iteL); rotate_left; refine fun (_ : ¬ _) => ?_; rotate_right; refine fun (_ : _ = true) => ?_)
              | (with_reducible exact wps_pure (ent_val rfl)))
            refine wps_app 1 [Value.int .i64 (-1)] rfl (by decide) (rsl_pc rfl) (by simp [Value.oneCell']) (by (try dsimp only); omega) fun l4' hl4 => ?_
            repeat (first
              | (with_reducible refine wps_bindpure ?_)
              | (with_reducible refine wps_assoc ?_)
              | (with_reducible refine wps_nil ?_)
              | (with_reducible refine wps_stepAlloc fun _ => ?_)
              | (with_reducible refine wps_alloc fun _ => ?_)
              | (with_reducible refine wps_newO fun _ => ?_)
              | (refine wps_ld _ (by rfl) ?_)
              | (refine wps_ldG _ _ _ (by rfl) ?_)
              | (refine wps_ldA _ (by rfl) ?_)
              | (refine wps_ldI _ (by rfl) ?_)
              | (refine wps_ldGI _ _ _ (by rfl) ?_)
              | (refine wps_ldAI _ (by rfl) ?_)
              | (refine wps_st (by simp) ?_)
              | (refine wps_stA (by simp) (by simp [Value.oneCell']) ?_)
              | ((with_reducible apply wps_val); apply val_ite; rotate_left; refine fun (_ : ¬ _) => ?_; rotate_right; refine fun (_ : _ = true) => ?_)
              | ((with_reducible apply val_ite); rotate_left; refine fun (_ : ¬ _) => ?_; rotate_right; refine fun (_ : _ = true) => ?_)
              | (with_reducible refine wps_regionH ?_)
              | ((with_reducible apply wps_bindV); apply val_iteL; rotate_left; refine fun (_ : ¬ _) => ?_; rotate_right; refine fun (_ : _ = true) => ?_)
              | ((with_reducible apply val_iteL); rotate_left; refine fun (_ : ¬ _) => ?_; rotate_right; refine fun (_ : _ = true) => ?_)
              | (with_reducible exact wps_pure (ent_val rfl)))
            refine wps_pure (ent_prr (by rw [range_add1 hj (by omega)]; omega) (ent_ex (k + 1) (ent_ex l3' (ent_ex l4' (ent_pickC (by rfl) (ent_pick (ent_pickS (by simp [List.range_succ]) (ent_pickS (by simp [List.range_succ]) ?_))))))))
            exact ent_prr ⟨range_add1 hj (by omega), by omega, by simp [hl3, h3l], by simp [hl4, h4l]⟩ ent_drop
          · have hke : k = N := by simp only [decide_eq_true_eq] at h3; omega
            refine wps_mapR ?_
            refine wps_ldA (N, S, l1, l2, l3, l4, -1, false) (by rfl) ?_
            repeat (first
              | (with_reducible refine wps_bindpure ?_)
              | (with_reducible refine wps_assoc ?_)
              | (with_reducible refine wps_nil ?_)
              | (with_reducible refine wps_stepAlloc fun _ => ?_)
              | (with_reducible refine wps_alloc fun _ => ?_)
              | (with_reducible refine wps_newO fun _ => ?_)
              | (refine wps_ld _ (by rfl) ?_)
              | (refine wps_ldG _ _ _ (by rfl) ?_)
              | (refine wps_ldA _ (by rfl) ?_)
              | (refine wps_ldI _ (by rfl) ?_)
              | (refine wps_ldGI _ _ _ (by rfl) ?_)
              | (refine wps_ldAI _ (by rfl) ?_)
              | (refine wps_st (by simp) ?_)
              | (refine wps_stA (by simp) (by simp [Value.oneCell']) ?_)
              | ((with_reducible apply wps_val); apply val_ite; rotate_left; refine fun (_ : ¬ _) => ?_; rotate_right; refine fun (_ : _ = true) => ?_)
              | ((with_reducible apply val_ite); rotate_left; refine fun (_ : ¬ _) => ?_; rotate_right; refine fun (_ : _ = true) => ?_)
              | (with_reducible refine wps_regionH ?_)
              | ((with_reducible apply wps_bindV); apply val_iteL; rotate_left; refine fun (_ : ¬ _) => ?_; rotate_right; refine fun (_ : _ = true) => ?_)
              | ((with_reducible apply val_iteL); rotate_left; refine fun (_ : ¬ _) => ?_; rotate_right; refine fun (_ : _ = true) => ?_)
              | (with_reducible exact wps_pure (ent_val rfl)))
            refine wps_pure (ent_prr rfl (ent_ex sl (ent_ex cl ?_)))
            subst hke
            refine ent_pickS rfl (ent_pickS rfl (ent_pickS rfl (ent_pickS rfl ?_)))
            have e1 : rcach (Rk.new (k : Int).toNat (S : Int).toNat) = fun _ => [] := rfl
            have e2 : rlast (Rk.new (k : Int).toNat (S : Int).toNat) = fun _ => noughts := rfl
            rw [e1, e2]
            refine ent_pick (ent_pick (ent_prq ?_))
            exact ⟨rfl, rfl, rfl, rfl, hse, by rw [hcl, hse]; rfl, hN, hS, h1l.trans hse, h2l.trans hse, h3l, h4l⟩
end Go.Proofs.Ytldmeimebebllaa
namespace Go.Proofs.Ytldmeimebebllaa
open Go.Mo
set_option linter.unusedVariables false
variable {g : Fr}
def OpenB (n ns : Nat) (q m : G3) : Bool := RightB q && ((n : Int) == q.1 + 1 && ((ns : Int) == SectorsI q && FitsB q m))
theorem open_tree (n ns : Nat) (q m : G3) :
    (if (if (if (!RightB q) = true then true else ((n : Int) != w64 (q.1 + 1))) = true then true else ((ns : Int) != SectorsI q)) = true then true else !FitsB q m) = !OpenB n ns q m := by
  unfold OpenB
  by_cases h1 : RightB q = true
  · have h2 := (RightB.bnd h1).d16
    have h3 := (RightB.bnd h1).d3
    rw [w64_id (by omega) (by omega)]
    by_cases h4 : (n : Int) = q.1 + 1
    · by_cases h5 : (ns : Int) = SectorsI q
      · simp [h1, h4, h5]
      · simp [h1, h4, h5]
    · simp [h1, h4]
  · simp [h1]
theorem bank_Open_spec (rb : Nat) (R : Rk) (ds : Slc) (ps : List Nat) (q m : G3) : wps g (rackP rb R ds ps) (bank_Open (ptr rb) q m) (fun x =>
    if OpenB R.n R.ns q m then ex fun bb => pr (x = (ptr bb, 0)) * rackP rb R ds ps * bnk bb rb q m else pr (x = (none, 10)) * rackP rb R ds ps) := by
  unfold bank_Open
  repeat (first
    | (with_reducible refine wps_bindpure ?_)
    | (with_reducible refine wps_assoc ?_)
    | (with_reducible refine wps_nil ?_)
    | (with_reducible refine wps_stepAlloc fun _ => ?_)
    | (with_reducible refine wps_alloc fun _ => ?_)
    | (with_reducible refine wps_newO fun _ => ?_)
    | (refine wps_ld _ (by rfl) ?_)
    | (refine wps_ldG _ _ _ (by rfl) ?_)
    | (refine wps_ldA _ (by rfl) ?_)
    | (refine wps_ldI _ (by rfl) ?_)
    | (refine wps_ldGI _ _ _ (by rfl) ?_)
    | (refine wps_ldAI _ (by rfl) ?_)
    | (refine wps_st (by simp) ?_)
    | (refine wps_stA (by simp) (by simp [Value.oneCell']) ?_)
    | ((with_reducible apply wps_val); apply val_ite; rotate_left; refine fun (_ : ¬ _) => ?_; rotate_right; refine fun (_ : _ = true) => ?_)
    | ((with_reducible apply val_ite); rotate_left; refine fun (_ : ¬ _) => ?_; rotate_right; refine fun (_ : _ = true) => ?_)
    | (with_reducible refine wps_regionH ?_)
    | ((with_reducible apply wps_bindV); apply val_iteL; rotate_left; refine fun (_ : ¬ _) => ?_; rotate_right; refine fun (_ : _ = true) => ?_)
    | ((with_reducible apply val_iteL); rotate_left; refine fun (_ : ¬ _) => ?_; rotate_right; refine fun (_ : _ = true) => ?_)
    | (with_reducible exact wps_pure (ent_val rfl)))
  refine wps_valH (fun _ => device_Rack_Size_val rb R ds ps) ?_
  repeat (first
    | (with_reducible refine wps_val (geo_Right_val _) ?_)
    | (with_reducible refine wps_stepV (geo_Right_val _) ?_)
    | (with_reducible refine wps_val (geo_Sectors_val _) ?_)
    | (with_reducible refine wps_stepV (geo_Sectors_val _) ?_)
    | (with_reducible refine wps_val (bank_fits_val _ _) ?_)
    | (with_reducible refine wps_stepV (bank_fits_val _ _) ?_)
    | (with_reducible refine wps_bindpure ?_)
    | (with_reducible refine wps_assoc ?_)
    | (with_reducible refine wps_nil ?_)
    | (with_reducible refine wps_stepAlloc fun _ => ?_)
    | (with_reducible refine wps_alloc fun _ => ?_)
    | (with_reducible refine wps_newO fun _ => ?_)
    | (refine wps_ld _ (by rfl) ?_)
    | (refine wps_ldG _ _ _ (by rfl) ?_)
    | (refine wps_ldA _ (by rfl) ?_)
    | (refine wps_ldI _ (by rfl) ?_)
    | (refine wps_ldGI _ _ _ (by rfl) ?_)
    | (refine wps_ldAI _ (by rfl) ?_)
    | (refine wps_st (by simp) ?_)
    | (refine wps_stA (by simp) (by simp [Value.oneCell']) ?_)
    | ((with_reducible apply wps_val); apply val_ite; rotate_left; refine fun (_ : ¬ _) => ?_; rotate_right; refine fun (_ : _ = true) => ?_)
    | ((with_reducible apply val_ite); rotate_left; refine fun (_ : ¬ _) => ?_; rotate_right; refine fun (_ : _ = true) => ?_)
    | (with_reducible refine wps_regionH ?_)
    | ((with_reducible apply wps_bindV); apply val_iteL; rotate_left; refine fun (_ : ¬ _) => ?_; rotate_right; refine fun (_ : _ = true) => ?_)
    | ((with_reducible apply val_iteL); rotate_left; refine fun (_ : ¬ _) => ?_; rotate_right; refine fun (_ : _ = true) => ?_)
    | (with_reducible exact wps_pure (ent_val rfl)))
  rw [open_tree]
  by_cases h : OpenB R.n R.ns q m = true
  · simp only [h]
    refine wps_ite (fun h => absurd h (by simp)) (fun _ => ?_)
    repeat (first
      | (with_reducible refine wps_bindpure ?_)
      | (with_reducible refine wps_assoc ?_)
      | (with_reducible refine wps_nil ?_)
      | (with_reducible refine wps_stepAlloc fun _ => ?_)
      | (with_reducible refine wps_alloc fun _ => ?_)
      | (with_reducible refine wps_newO fun _ => ?_)
      | (refine wps_ld _ (by rfl) ?_)
      | (refine wps_ldG _ _ _ (by rfl) ?_)
      | (refine wps_ldA _ (by rfl) ?_)
      | (refine wps_ldI _ (by rfl) ?_)
      | (refine wps_ldGI _ _ _ (by rfl) ?_)
      | (refine wps_ldAI _ (by rfl) ?_)
      | (refine wps_st (by simp) ?_)
      | (refine wps_stA (by simp) (by simp [Value.oneCell']) ?_)
      | ((with_reducible apply wps_val); apply val_ite; rotate_left; refine fun (_ : ¬ _) => ?_; rotate_right; refine fun (_ : _ = true) => ?_)
      | ((with_reducible apply val_ite); rotate_left; refine fun (_ : ¬ _) => ?_; rotate_right; refine fun (_ : _ = true) => ?_)
      | (with_reducible refine wps_regionH ?_)
      | ((with_reducible apply wps_bindV); apply val_iteL; rotate_left; refine fun (_ : ¬ _) => ?_; rotate_right; refine fun (_ : _ = true) => ?_)
      | ((with_reducible apply val_iteL); rotate_left; refine fun (_ : ¬ _) => ?_; rotate_right; refine fun (_ : _ = true) => ?_)
      | (with_reducible exact wps_pure (ent_val rfl)))
    rename_i bb
    exact wps_pure (ent_ex bb (ent_pick (ent_prr rfl ent_drop)))
  · simp only [h]
    refine wps_ite (fun _ => wps_pure (ent_prr rfl ent_drop)) (fun h => absurd h (by simp))
theorem ref06_Open_spec {H : HP} (mb : Nat) (v : RefT) (n ns : Nat) (q m : G3) (hn : v.1 = n) (hns : v.2.1 = ns) : wps g (H * pc mb (refC v)) (ref06_Open (ptr mb) q m) (fun x =>
    if OpenB n ns q m then ex fun bb => pr (x = (ptr bb, 0)) * H * pc mb (refC v) * bnk bb mb q m else pr (x = (none, 10)) * H * pc mb (refC v)) := by
  unfold ref06_Open
  repeat (first
    | (with_reducible refine wps_bindpure ?_)
    | (with_reducible refine wps_assoc ?_)
    | (with_reducible refine wps_nil ?_)
    | (with_reducible refine wps_stepAlloc fun _ => ?_)
    | (with_reducible refine wps_alloc fun _ => ?_)
    | (with_reducible refine wps_newO fun _ => ?_)
    | (refine wps_ld _ (by rfl) ?_)
    | (refine wps_ldG _ _ _ (by rfl) ?_)
    | (refine wps_ldA _ (by rfl) ?_)
    | (refine wps_ldI _ (by rfl) ?_)
    | (refine wps_ldGI _ _ _ (by rfl) ?_)
    | (refine wps_ldAI _ (by rfl) ?_)
    | (refine wps_st (by simp) ?_)
    | (refine wps_stA (by simp) (by simp [Value.oneCell']) ?_)
    | ((with_reducible apply wps_val); apply val_ite; rotate_left; refine fun (_ : ¬ _) => ?_; rotate_right; refine fun (_ : _ = true) => ?_)
    | ((with_reducible apply val_ite); rotate_left; refine fun (_ : ¬ _) => ?_; rotate_right; refine fun (_ : _ = true) => ?_)
    | (with_reducible refine wps_regionH ?_)
    | ((with_reducible apply wps_bindV); apply val_iteL; rotate_left; refine fun (_ : ¬ _) => ?_; rotate_right; refine fun (_ : _ = true) => ?_)
    | ((with_reducible apply val_iteL); rotate_left; refine fun (_ : ¬ _) => ?_; rotate_right; refine fun (_ : _ = true) => ?_)
    | (with_reducible exact wps_pure (ent_val rfl)))
  refine wps_bindV (u := !OpenB n ns q m) ?_ ?_
  · apply inl_eq
    · repeat (first
        | (with_reducible refine wps_val (ref03_Right_val _) ?_)
        | (with_reducible refine wps_stepV (ref03_Right_val _) ?_)
        | (with_reducible refine wps_val (ref03_Sectors_val _) ?_)
        | (with_reducible refine wps_stepV (ref03_Sectors_val _) ?_)
        | (with_reducible refine wps_val (ref06_Fits_val _ _) ?_)
        | (with_reducible refine wps_stepV (ref06_Fits_val _ _) ?_)
        | (with_reducible refine wps_bindpure ?_)
        | (with_reducible refine wps_assoc ?_)
        | (with_reducible refine wps_nil ?_)
        | (with_reducible refine wps_stepAlloc fun _ => ?_)
        | (with_reducible refine wps_alloc fun _ => ?_)
        | (with_reducible refine wps_newO fun _ => ?_)
        | (refine wps_ld _ (by rfl) ?_)
        | (refine wps_ldG _ _ _ (by rfl) ?_)
        | (refine wps_ldA _ (by rfl) ?_)
        | (refine wps_ldI _ (by rfl) ?_)
        | (refine wps_ldGI _ _ _ (by rfl) ?_)
        | (refine wps_ldAI _ (by rfl) ?_)
        | (refine wps_st (by simp) ?_)
        | (refine wps_stA (by simp) (by simp [Value.oneCell']) ?_)
        | ((with_reducible apply wps_val); apply val_ite; rotate_left; refine fun (_ : ¬ _) => ?_; rotate_right; refine fun (_ : _ = true) => ?_)
        | ((with_reducible apply val_ite); rotate_left; refine fun (_ : ¬ _) => ?_; rotate_right; refine fun (_ : _ = true) => ?_)
        | (with_reducible refine wps_regionH ?_)
        | ((with_reducible apply wps_bindV); apply val_iteL; rotate_left; refine fun (_ : ¬ _) => ?_; rotate_right; refine fun (_ : _ = true) => ?_)
        | ((with_reducible apply val_iteL); rotate_left; refine fun (_ : ¬ _) => ?_; rotate_right; refine fun (_ : _ = true) => ?_)
        | (with_reducible exact wps_pure (ent_val rfl)))
    · rw [hn, hns, ← open_tree]
      by_cases h1 : RightB q = true
      · by_cases h2 : (n : Int) = w64 (q.1 + 1)
        · by_cases h3 : (ns : Int) = SectorsI q
          · simp [h1, h2, h3]
          · simp [h1, h2, h3]
        · simp [h1, h2]
      · simp [h1]
  by_cases h : OpenB n ns q m = true
  · simp only [h]
    refine wps_ite (fun h => absurd h (by simp)) (fun _ => ?_)
    repeat (first
      | (with_reducible refine wps_bindpure ?_)
      | (with_reducible refine wps_assoc ?_)
      | (with_reducible refine wps_nil ?_)
      | (with_reducible refine wps_stepAlloc fun _ => ?_)
      | (with_reducible refine wps_alloc fun _ => ?_)
      | (with_reducible refine wps_newO fun _ => ?_)
      | (refine wps_ld _ (by rfl) ?_)
      | (refine wps_ldG _ _ _ (by rfl) ?_)
      | (refine wps_ldA _ (by rfl) ?_)
      | (refine wps_ldI _ (by rfl) ?_)
      | (refine wps_ldGI _ _ _ (by rfl) ?_)
      | (refine wps_ldAI _ (by rfl) ?_)
      | (refine wps_st (by simp) ?_)
      | (refine wps_stA (by simp) (by simp [Value.oneCell']) ?_)
      | ((with_reducible apply wps_val); apply val_ite; rotate_left; refine fun (_ : ¬ _) => ?_; rotate_right; refine fun (_ : _ = true) => ?_)
      | ((with_reducible apply val_ite); rotate_left; refine fun (_ : ¬ _) => ?_; rotate_right; refine fun (_ : _ = true) => ?_)
      | (with_reducible refine wps_regionH ?_)
      | ((with_reducible apply wps_bindV); apply val_iteL; rotate_left; refine fun (_ : ¬ _) => ?_; rotate_right; refine fun (_ : _ = true) => ?_)
      | ((with_reducible apply val_iteL); rotate_left; refine fun (_ : ¬ _) => ?_; rotate_right; refine fun (_ : _ = true) => ?_)
      | (with_reducible exact wps_pure (ent_val rfl)))
    rename_i bb
    exact wps_pure (ent_ex bb (ent_pick (ent_pick (ent_prr rfl ent_drop))))
  · simp only [h]
    refine wps_ite (fun _ => wps_pure (ent_pick (ent_prr rfl ent_drop))) (fun h => absurd h (by simp))
theorem law06_Small_val {H : HP} : Val g H law06_Small (3, 3, 12) := by
  unfold law06_Small
  repeat (first
    | (with_reducible refine wps_bindpure ?_)
    | (with_reducible refine wps_assoc ?_)
    | (with_reducible refine wps_nil ?_)
    | (with_reducible refine wps_stepAlloc fun _ => ?_)
    | (with_reducible refine wps_alloc fun _ => ?_)
    | (with_reducible refine wps_newO fun _ => ?_)
    | (refine wps_ld _ (by rfl) ?_)
    | (refine wps_ldG _ _ _ (by rfl) ?_)
    | (refine wps_ldA _ (by rfl) ?_)
    | (refine wps_ldI _ (by rfl) ?_)
    | (refine wps_ldGI _ _ _ (by rfl) ?_)
    | (refine wps_ldAI _ (by rfl) ?_)
    | (refine wps_st (by simp) ?_)
    | (refine wps_stA (by simp) (by simp [Value.oneCell']) ?_)
    | ((with_reducible apply wps_val); apply val_ite; rotate_left; refine fun (_ : ¬ _) => ?_; rotate_right; refine fun (_ : _ = true) => ?_)
    | ((with_reducible apply val_ite); rotate_left; refine fun (_ : ¬ _) => ?_; rotate_right; refine fun (_ : _ = true) => ?_)
    | (with_reducible refine wps_regionH ?_)
    | ((with_reducible apply wps_bindV); apply val_iteL; rotate_left; refine fun (_ : ¬ _) => ?_; rotate_right; refine fun (_ : _ = true) => ?_)
    | ((with_reducible apply val_iteL); rotate_left; refine fun (_ : ¬ _) => ?_; rotate_right; refine fun (_ : _ = true) => ?_)
    | (with_reducible exact wps_pure (ent_val rfl)))
end Go.Proofs.Ytldmeimebebllaa
namespace Go.Proofs.Ytldmeimebebllaa
open Go.Mo
set_option linter.unusedVariables false
variable {g : Fr}
theorem Small_sect : SectorsI (3, 3, 12) = 41 := by decide
def five : List Int := 5 :: List.replicate 63 0
theorem law06_alive_spec : wps g emp law06_alive (fun b => pr (b = true)) := by
  unfold law06_alive
  repeat (first
    | (with_reducible refine wps_val (law06_Small_val) ?_)
    | (with_reducible refine wps_stepV (law06_Small_val) ?_)
    | (with_reducible refine wps_val (geo_Sectors_val _) ?_)
    | (with_reducible refine wps_stepV (geo_Sectors_val _) ?_)
    | (with_reducible refine wps_bindpure ?_)
    | (with_reducible refine wps_assoc ?_)
    | (with_reducible refine wps_nil ?_)
    | (with_reducible refine wps_stepAlloc fun _ => ?_)
    | (with_reducible refine wps_alloc fun _ => ?_)
    | (with_reducible refine wps_newO fun _ => ?_)
    | (refine wps_ld _ (by rfl) ?_)
    | (refine wps_ldG _ _ _ (by rfl) ?_)
    | (refine wps_ldA _ (by rfl) ?_)
    | (refine wps_ldI _ (by rfl) ?_)
    | (refine wps_ldGI _ _ _ (by rfl) ?_)
    | (refine wps_ldAI _ (by rfl) ?_)
    | (refine wps_st (by simp) ?_)
    | (refine wps_stA (by simp) (by simp [Value.oneCell']) ?_)
    | ((with_reducible apply wps_val); apply val_ite; rotate_left; refine fun (_ : ¬ _) => ?_; rotate_right; refine fun (_ : _ = true) => ?_)
    | ((with_reducible apply val_ite); rotate_left; refine fun (_ : ¬ _) => ?_; rotate_right; refine fun (_ : _ = true) => ?_)
    | (with_reducible refine wps_regionH ?_)
    | ((with_reducible apply wps_bindV); apply val_iteL; rotate_left; refine fun (_ : ¬ _) => ?_; rotate_right; refine fun (_ : _ = true) => ?_)
    | ((with_reducible apply val_iteL); rotate_left; refine fun (_ : ¬ _) => ?_; rotate_right; refine fun (_ : _ = true) => ?_)
    | (with_reducible exact wps_pure (ent_val rfl)))
  rw [Small_sect]
  refine wps_callE (fun _ => device_New_spec 4 41) fun x => ?_
  rw [if_neg (by decide)]
  rw [show Rk.new (Int.toNat 4) (Int.toNat 41) = Rk.new 4 41 from rfl]
  refine wps_exP fun rb => ?_
  rw [← star_assoc]
  refine wps_prP fun hx => ?_
  subst hx
  unfold rack
  refine wps_exP fun ds => wps_exP fun ps => ?_
  repeat (first
    | (with_reducible refine wps_bindpure ?_)
    | (with_reducible refine wps_assoc ?_)
    | (with_reducible refine wps_nil ?_)
    | (with_reducible refine wps_stepAlloc fun _ => ?_)
    | (with_reducible refine wps_alloc fun _ => ?_)
    | (with_reducible refine wps_newO fun _ => ?_)
    | (refine wps_ld _ (by rfl) ?_)
    | (refine wps_ldG _ _ _ (by rfl) ?_)
    | (refine wps_ldA _ (by rfl) ?_)
    | (refine wps_ldI _ (by rfl) ?_)
    | (refine wps_ldGI _ _ _ (by rfl) ?_)
    | (refine wps_ldAI _ (by rfl) ?_)
    | (refine wps_st (by simp) ?_)
    | (refine wps_stA (by simp) (by simp [Value.oneCell']) ?_)
    | ((with_reducible apply wps_val); apply val_ite; rotate_left; refine fun (_ : ¬ _) => ?_; rotate_right; refine fun (_ : _ = true) => ?_)
    | ((with_reducible apply val_ite); rotate_left; refine fun (_ : ¬ _) => ?_; rotate_right; refine fun (_ : _ = true) => ?_)
    | (with_reducible refine wps_regionH ?_)
    | ((with_reducible apply wps_bindV); apply val_iteL; rotate_left; refine fun (_ : ¬ _) => ?_; rotate_right; refine fun (_ : _ = true) => ?_)
    | ((with_reducible apply val_iteL); rotate_left; refine fun (_ : ¬ _) => ?_; rotate_right; refine fun (_ : _ = true) => ?_)
    | (with_reducible exact wps_pure (ent_val rfl)))
  refine wps_callH (fun _ => bank_Open_spec rb (Rk.new 4 41) ds ps (3, 3, 12) (0, 1, 2)) fun x => ?_
  rw [if_pos (by decide)]
  refine wps_exP fun bb => ?_
  simp only [← star_assoc]
  refine wps_prP fun hx => ?_
  subst hx
  refine wps_bindV (u := false) ?_ ?_
  · repeat (first
      | (with_reducible refine wps_bindpure ?_)
      | (with_reducible refine wps_assoc ?_)
      | (with_reducible refine wps_nil ?_)
      | (with_reducible refine wps_stepAlloc fun _ => ?_)
      | (with_reducible refine wps_alloc fun _ => ?_)
      | (with_reducible refine wps_newO fun _ => ?_)
      | (refine wps_ld _ (by rfl) ?_)
      | (refine wps_ldG _ _ _ (by rfl) ?_)
      | (refine wps_ldA _ (by rfl) ?_)
      | (refine wps_ldI _ (by rfl) ?_)
      | (refine wps_ldGI _ _ _ (by rfl) ?_)
      | (refine wps_ldAI _ (by rfl) ?_)
      | (refine wps_st (by simp) ?_)
      | (refine wps_stA (by simp) (by simp [Value.oneCell']) ?_)
      | ((with_reducible apply wps_val); apply val_ite; rotate_left; refine fun (_ : ¬ _) => ?_; rotate_right; refine fun (_ : _ = true) => ?_)
      | ((with_reducible apply val_ite); rotate_left; refine fun (_ : ¬ _) => ?_; rotate_right; refine fun (_ : _ = true) => ?_)
      | (with_reducible refine wps_regionH ?_)
      | ((with_reducible apply wps_bindV); apply val_iteL; rotate_left; refine fun (_ : ¬ _) => ?_; rotate_right; refine fun (_ : _ = true) => ?_)
      | ((with_reducible apply val_iteL); rotate_left; refine fun (_ : ¬ _) => ?_; rotate_right; refine fun (_ : _ = true) => ?_)
      | (with_reducible exact wps_pure (ent_val rfl)))
    refine wps_stepVH (fun _ => bank_Geo_val bb rb (3, 3, 12) (0, 1, 2)) ?_
    exact wps_pure (ent_val (by decide))
  · refine wps_ite (fun h => absurd h (by simp)) (fun _ => ?_)
    repeat (first
      | (with_reducible refine wps_bindpure ?_)
      | (with_reducible refine wps_assoc ?_)
      | (with_reducible refine wps_nil ?_)
      | (with_reducible refine wps_stepAlloc fun _ => ?_)
      | (with_reducible refine wps_alloc fun _ => ?_)
      | (with_reducible refine wps_newO fun _ => ?_)
      | (refine wps_ld _ (by rfl) ?_)
      | (refine wps_ldG _ _ _ (by rfl) ?_)
      | (refine wps_ldA _ (by rfl) ?_)
      | (refine wps_ldI _ (by rfl) ?_)
      | (refine wps_ldGI _ _ _ (by rfl) ?_)
      | (refine wps_ldAI _ (by rfl) ?_)
      | (refine wps_st (by simp) ?_)
      | (refine wps_stA (by simp) (by simp [Value.oneCell']) ?_)
      | ((with_reducible apply wps_val); apply val_ite; rotate_left; refine fun (_ : ¬ _) => ?_; rotate_right; refine fun (_ : _ = true) => ?_)
      | ((with_reducible apply val_ite); rotate_left; refine fun (_ : ¬ _) => ?_; rotate_right; refine fun (_ : _ = true) => ?_)
      | (with_reducible refine wps_regionH ?_)
      | ((with_reducible apply wps_bindV); apply val_iteL; rotate_left; refine fun (_ : ¬ _) => ?_; rotate_right; refine fun (_ : _ = true) => ?_)
      | ((with_reducible apply val_iteL); rotate_left; refine fun (_ : ¬ _) => ?_; rotate_right; refine fun (_ : _ = true) => ?_)
      | (with_reducible exact wps_pure (ent_val rfl)))
    rename_i c
    refine wps_idx 0 rfl rfl (by (try dsimp only); omega) ?_
    repeat (first
      | (with_reducible refine wps_bindpure ?_)
      | (with_reducible refine wps_assoc ?_)
      | (with_reducible refine wps_nil ?_)
      | (with_reducible refine wps_stepAlloc fun _ => ?_)
      | (with_reducible refine wps_alloc fun _ => ?_)
      | (with_reducible refine wps_newO fun _ => ?_)
      | (refine wps_ld _ (by rfl) ?_)
      | (refine wps_ldG _ _ _ (by rfl) ?_)
      | (refine wps_ldA _ (by rfl) ?_)
      | (refine wps_ldI _ (by rfl) ?_)
      | (refine wps_ldGI _ _ _ (by rfl) ?_)
      | (refine wps_ldAI _ (by rfl) ?_)
      | (refine wps_st (by simp) ?_)
      | (refine wps_stA (by simp) (by simp [Value.oneCell']) ?_)
      | ((with_reducible apply wps_val); apply val_ite; rotate_left; refine fun (_ : ¬ _) => ?_; rotate_right; refine fun (_ : _ = true) => ?_)
      | ((with_reducible apply val_ite); rotate_left; refine fun (_ : ¬ _) => ?_; rotate_right; refine fun (_ : _ = true) => ?_)
      | (with_reducible refine wps_regionH ?_)
      | ((with_reducible apply wps_bindV); apply val_iteL; rotate_left; refine fun (_ : ¬ _) => ?_; rotate_right; refine fun (_ : _ = true) => ?_)
      | ((with_reducible apply val_iteL); rotate_left; refine fun (_ : ¬ _) => ?_; rotate_right; refine fun (_ : _ = true) => ?_)
      | (with_reducible exact wps_pure (ent_val rfl)))
    have hs : slotV (3, 3, 12) (0, 1, 2) 1 = (3, true) := by decide
    refine wps_swap (A := pc c ((List.replicate 64 (Value.int .u8 0)).set (0 + 0 * 1) (.int .u8 5))) (B := byt ⟨some ⟨c, 0, none⟩, 64, 64⟩ five) (Ent.trans (Ent.trans (pc_own (n := 64) (z := 1) (by simp)) (own_rsl _ _ _)) (Ent.of_eq rfl)) ?_
    refine wps_call (bank_Write_spec (H := byt ⟨some ⟨c, 0, none⟩, 64, 64⟩ five) bb rb (3, 3, 12) (0, 1, 2) (Rk.new 4 41) ds ps 1 2 _ five (Ent.refl _) (by decide) (g := ·)) (by rw [← star_assoc, ← star_assoc]; exact ent_pick (ent_pick (ent_pick (Ent.refl _)))) fun e => ?_
    simp only [← star_assoc, hs, if_true]
    refine wps_prP fun he => ?_
    subst he
    refine wps_bind (wps_post (wps_pre (Ent.of_eq (Has.eq (A := rackP rb ((Rk.new 4 41).write 3 2 five) ds ps))) (wps_framel fun _ => device_Rack_Read_spec rb ((Rk.new 4 41).write 3 2 five) ds ps 3 2)) fun x => Ent.refl _) fun x51 => ?_
    simp only [← star_assoc]
    refine wps_prP fun h51 => ?_
    refine wps_callH (fun _ => device_Rack_Read_spec rb ((Rk.new 4 41).write 3 2 five) ds ps 1 2) fun x56 => ?_
    simp only [← star_assoc]
    refine wps_prP fun h56 => ?_
    have hr1 : ((Rk.new 4 41).write 3 2 five).rd 3 2 = five := by decide
    have hr2 : ((Rk.new 4 41).write 3 2 five).rd 1 2 = noughts := by decide
    have hg : (Rk.new 4 41).gate 3 2 five.length = 0 := by decide
    rw [hr1, hr2, hg]
    refine wps_fact (Ent.trans (ent_pick1 (A := own 1 x51.1 (bv five))) (own_len _ _ _)) fun ⟨hl1, _⟩ => ?_
    refine wps_fact (Ent.trans (ent_pick1 (A := own 1 x56.1 (bv noughts))) (own_len _ _ _)) fun ⟨hl2, _⟩ => ?_
    have hl1' : x51.1.len = 64 := by simpa [bv, five] using hl1.symm
    have hl2' : x56.1.len = 64 := by simpa [bv, noughts] using hl2.symm
    refine wps_val (v := true) (wps_ite (fun _ => wps_pure (ent_val (by simp [hl1']))) (fun h => absurd rfl h)) ?_
    refine wps_val (v := true) (wps_ite (fun _ => ?_) (fun h => absurd rfl h)) ?_
    · refine wps_rdS 0 5 rfl rfl ?_
      exact wps_pure (ent_val rfl)
    refine wps_val (v := true) (wps_ite (fun _ => wps_pure (ent_val (by simp [hl2']))) (fun h => absurd rfl h)) ?_
    refine wps_val (v := true) (wps_ite (fun _ => ?_) (fun h => absurd rfl h)) ?_
    · refine wps_rdS 0 0 rfl rfl ?_
      exact wps_pure (ent_val rfl)
    rw [if_pos rfl]
    refine wps_assoc (wps_call (fun _ => bank_Bad_spec bb rb (3, 3, 12) (0, 1, 2) ((Rk.new 4 41).write 3 2 five) ds ps (by decide)) (by rw [← star_assoc]; exact ent_pick (ent_pick (Ent.refl _))) fun x85 => ?_)
    have hbad : badL (3, 3, 12) (0, 1, 2) ((Rk.new 4 41).write 3 2 five) = [] := by decide
    rw [hbad, ← star_assoc]
    refine wps_fact (Ent.trans (ent_right _ _) (own_len _ _ _)) fun ⟨hl, _⟩ => ?_
    have hl' : x85.len = 0 := by simpa [iv] using hl.symm
    exact wps_pure (ent_prq (by simp [hl']))
/-- the law -/
theorem law06_BankOpens_spec (q m : G3) (d s : Int) : wps g emp (law06_BankOpens q m d s) (fun b => pr (b = true)) := by
  unfold law06_BankOpens
  repeat (first
    | (with_reducible refine wps_bindpure ?_)
    | (with_reducible refine wps_assoc ?_)
    | (with_reducible refine wps_nil ?_)
    | (with_reducible refine wps_stepAlloc fun _ => ?_)
    | (with_reducible refine wps_alloc fun _ => ?_)
    | (with_reducible refine wps_newO fun _ => ?_)
    | (refine wps_ld _ (by rfl) ?_)
    | (refine wps_ldG _ _ _ (by rfl) ?_)
    | (refine wps_ldA _ (by rfl) ?_)
    | (refine wps_ldI _ (by rfl) ?_)
    | (refine wps_ldGI _ _ _ (by rfl) ?_)
    | (refine wps_ldAI _ (by rfl) ?_)
    | (refine wps_st (by simp) ?_)
    | (refine wps_stA (by simp) (by simp [Value.oneCell']) ?_)
    | ((with_reducible apply wps_val); apply val_ite; rotate_left; refine fun (_ : ¬ _) => ?_; rotate_right; refine fun (_ : _ = true) => ?_)
    | ((with_reducible apply val_ite); rotate_left; refine fun (_ : ¬ _) => ?_; rotate_right; refine fun (_ : _ = true) => ?_)
    | (with_reducible refine wps_regionH ?_)
    | ((with_reducible apply wps_bindV); apply val_iteL; rotate_left; refine fun (_ : ¬ _) => ?_; rotate_right; refine fun (_ : _ = true) => ?_)
    | ((with_reducible apply val_iteL); rotate_left; refine fun (_ : ¬ _) => ?_; rotate_right; refine fun (_ : _ = true) => ?_)
    | (with_reducible exact wps_pure (ent_val rfl)))
  refine wps_callE (fun _ => law06_alive_spec) fun x => ?_
  refine wps_prP fun hx => ?_
  subst hx
  refine wps_ite (fun h => absurd h (by decide)) (fun _ => ?_)
  repeat (first
    | (with_reducible refine wps_bindpure ?_)
    | (with_reducible refine wps_assoc ?_)
    | (with_reducible refine wps_nil ?_)
    | (with_reducible refine wps_stepAlloc fun _ => ?_)
    | (with_reducible refine wps_alloc fun _ => ?_)
    | (with_reducible refine wps_newO fun _ => ?_)
    | (refine wps_ld _ (by rfl) ?_)
    | (refine wps_ldG _ _ _ (by rfl) ?_)
    | (refine wps_ldA _ (by rfl) ?_)
    | (refine wps_ldI _ (by rfl) ?_)
    | (refine wps_ldGI _ _ _ (by rfl) ?_)
    | (refine wps_ldAI _ (by rfl) ?_)
    | (refine wps_st (by simp) ?_)
    | (refine wps_stA (by simp) (by simp [Value.oneCell']) ?_)
    | ((with_reducible apply wps_val); apply val_ite; rotate_left; refine fun (_ : ¬ _) => ?_; rotate_right; refine fun (_ : _ = true) => ?_)
    | ((with_reducible apply val_ite); rotate_left; refine fun (_ : ¬ _) => ?_; rotate_right; refine fun (_ : _ = true) => ?_)
    | (with_reducible refine wps_regionH ?_)
    | ((with_reducible apply wps_bindV); apply val_iteL; rotate_left; refine fun (_ : ¬ _) => ?_; rotate_right; refine fun (_ : _ = true) => ?_)
    | ((with_reducible apply val_iteL); rotate_left; refine fun (_ : ¬ _) => ?_; rotate_right; refine fun (_ : _ = true) => ?_)
    | (with_reducible exact wps_pure (ent_val rfl)))
  refine wps_ite (fun _ => wps_pure (ent_prq rfl)) (fun hd => ?_)
  refine wps_callE (fun _ => device_New_spec d s) fun x => ?_
  refine wps_callE (fun _ => ref02_New_spec d s) fun y => ?_
  repeat (first
    | (with_reducible refine wps_bindpure ?_)
    | (with_reducible refine wps_assoc ?_)
    | (with_reducible refine wps_nil ?_)
    | (with_reducible refine wps_stepAlloc fun _ => ?_)
    | (with_reducible refine wps_alloc fun _ => ?_)
    | (with_reducible refine wps_newO fun _ => ?_)
    | (refine wps_ld _ (by rfl) ?_)
    | (refine wps_ldG _ _ _ (by rfl) ?_)
    | (refine wps_ldA _ (by rfl) ?_)
    | (refine wps_ldI _ (by rfl) ?_)
    | (refine wps_ldGI _ _ _ (by rfl) ?_)
    | (refine wps_ldAI _ (by rfl) ?_)
    | (refine wps_st (by simp) ?_)
    | (refine wps_stA (by simp) (by simp [Value.oneCell']) ?_)
    | ((with_reducible apply wps_val); apply val_ite; rotate_left; refine fun (_ : ¬ _) => ?_; rotate_right; refine fun (_ : _ = true) => ?_)
    | ((with_reducible apply val_ite); rotate_left; refine fun (_ : ¬ _) => ?_; rotate_right; refine fun (_ : _ = true) => ?_)
    | (with_reducible refine wps_regionH ?_)
    | ((with_reducible apply wps_bindV); apply val_iteL; rotate_left; refine fun (_ : ¬ _) => ?_; rotate_right; refine fun (_ : _ = true) => ?_)
    | ((with_reducible apply val_iteL); rotate_left; refine fun (_ : ¬ _) => ?_; rotate_right; refine fun (_ : _ = true) => ?_)
    | (with_reducible exact wps_pure (ent_val rfl)))
  rename_i a b c
  by_cases hb : d < 1 ∨ d > 17 ∨ s < 1 ∨ s > 4096
  · simp only [if_pos hb]
    refine wps_prP fun hy => wps_prP fun hx => ?_
    subst hx
    rw [hy]
    refine wps_ite (fun h => absurd h (by decide)) (fun _ => ?_)
    refine wps_val (v := true) (wps_ite (fun _ => wps_pure (ent_val rfl)) (fun h => absurd rfl h)) ?_
    exact wps_pure (ent_prq rfl)
  · simp only [if_neg hb]
    refine wps_exP fun rb => ?_
    simp only [← star_assoc]
    refine wps_prP fun hx => wps_prP fun hy => ?_
    subst hx
    rw [hy]
    refine wps_ite (fun h => absurd h (by simp)) (fun _ => ?_)
    refine wps_val (v := false) (wps_ite (fun h => absurd h (by simp)) (fun _ => wps_pure (ent_val (by simp)))) ?_
    refine wps_ite (fun h => absurd h (by simp)) (fun _ => ?_)
    repeat (first
      | (with_reducible refine wps_bindpure ?_)
      | (with_reducible refine wps_assoc ?_)
      | (with_reducible refine wps_nil ?_)
      | (with_reducible refine wps_stepAlloc fun _ => ?_)
      | (with_reducible refine wps_alloc fun _ => ?_)
      | (with_reducible refine wps_newO fun _ => ?_)
      | (refine wps_ld _ (by rfl) ?_)
      | (refine wps_ldG _ _ _ (by rfl) ?_)
      | (refine wps_ldA _ (by rfl) ?_)
      | (refine wps_ldI _ (by rfl) ?_)
      | (refine wps_ldGI _ _ _ (by rfl) ?_)
      | (refine wps_ldAI _ (by rfl) ?_)
      | (refine wps_st (by simp) ?_)
      | (refine wps_stA (by simp) (by simp [Value.oneCell']) ?_)
      | ((with_reducible apply wps_val); apply val_ite; rotate_left; refine fun (_ : ¬ _) => ?_; rotate_right; refine fun (_ : _ = true) => ?_)
      | ((with_reducible apply val_ite); rotate_left; refine fun (_ : ¬ _) => ?_; rotate_right; refine fun (_ : _ = true) => ?_)
      | (with_reducible refine wps_regionH ?_)
      | ((with_reducible apply wps_bindV); apply val_iteL; rotate_left; refine fun (_ : ¬ _) => ?_; rotate_right; refine fun (_ : _ = true) => ?_)
      | ((with_reducible apply val_iteL); rotate_left; refine fun (_ : ¬ _) => ?_; rotate_right; refine fun (_ : _ = true) => ?_)
      | (with_reducible exact wps_pure (ent_val rfl)))
    unfold rack
    refine wps_exP fun ds => wps_exP fun ps => ?_
    refine wps_callH (fun _ => bank_Open_spec rb (Rk.new d.toNat s.toNat) ds ps q m) fun x47 => ?_
    unfold refV refX
    refine wps_exP fun sl => wps_exP fun cl => ?_
    simp only [← star_assoc]
    refine wps_prP fun hok => ?_
    have hs1 : (Rk.new d.toNat s.toNat).n = d.toNat := rfl
    have hs2 : (Rk.new d.toNat s.toNat).ns = s.toNat := rfl
    repeat (first
      | (with_reducible refine wps_bindpure ?_)
      | (with_reducible refine wps_assoc ?_)
      | (with_reducible refine wps_nil ?_)
      | (with_reducible refine wps_stepAlloc fun _ => ?_)
      | (with_reducible refine wps_alloc fun _ => ?_)
      | (with_reducible refine wps_newO fun _ => ?_)
      | (refine wps_ld _ (by rfl) ?_)
      | (refine wps_ldG _ _ _ (by rfl) ?_)
      | (refine wps_ldA _ (by rfl) ?_)
      | (refine wps_ldI _ (by rfl) ?_)
      | (refine wps_ldGI _ _ _ (by rfl) ?_)
      | (refine wps_ldAI _ (by rfl) ?_)
      | (refine wps_st (by simp) ?_)
      | (refine wps_stA (by simp) (by simp [Value.oneCell']) ?_)
      | ((with_reducible apply wps_val); apply val_ite; rotate_left; refine fun (_ : ¬ _) => ?_; rotate_right; refine fun (_ : _ = true) => ?_)
      | ((with_reducible apply val_ite); rotate_left; refine fun (_ : ¬ _) => ?_; rotate_right; refine fun (_ : _ = true) => ?_)
      | (with_reducible refine wps_regionH ?_)
      | ((with_reducible apply wps_bindV); apply val_iteL; rotate_left; refine fun (_ : ¬ _) => ?_; rotate_right; refine fun (_ : _ = true) => ?_)
      | ((with_reducible apply val_iteL); rotate_left; refine fun (_ : ¬ _) => ?_; rotate_right; refine fun (_ : _ = true) => ?_)
      | (with_reducible exact wps_pure (ent_val rfl)))
    refine wps_call (fun _ => ref06_Open_spec (H := emp) c y.1 d.toNat s.toNat q m hok.n hok.ns) (A := emp * pc c (refC y.1)) (by rw [← star_assoc]; exact ent_pickC (by rfl) (Ent.of_eq (star_emp _).symm)) fun x53 => ?_
    rw [hs1, hs2]
    by_cases ho : OpenB d.toNat s.toNat q m = true
    · simp only [ho, if_true]
      refine wps_exP fun bb => wps_exP fun bb2 => ?_
      simp only [← star_assoc]
      refine wps_prP fun h1 => wps_prP fun h2 => ?_
      subst h1 h2
      exact wps_val (v := true) (wps_ite (fun _ => wps_pure (ent_val rfl)) (fun h => absurd rfl h)) (wps_pure (ent_prq rfl))
    · simp only [ho, if_false, Bool.false_eq_true]
      simp only [← star_assoc]
      refine wps_prP fun h1 => wps_prP fun h2 => ?_
      subst h1 h2
      exact wps_val (v := true) (wps_ite (fun _ => wps_pure (ent_val rfl)) (fun h => absurd rfl h)) (wps_pure (ent_prq rfl))
end Go.Proofs.Ytldmeimebebllaa
namespace Go.Proofs.Ytldmeimebebllaa
open Go.Mo
set_option linter.unusedVariables false
variable {g : Fr} {cv : CV}
def DisksOk (cv : CV) : Prop := ∀ (b : Option Addr) (yv : Value) (Q : Value → World → Prop) (w : World), bank_Bank_disks cv b yv (fun _ w' => Q (.tuple #[]) w') w → cv.enter (.func (.func fid_bank_Bank_disks) #[.pointer b] #[]) #[yv] Q w
theorem wps_enter {H : HP} {m : M Unit} {fv yv : Value} {Q : Value → HP} (hcv : ∀ (Q : Value → World → Prop) (w : World), m (fun _ w' => Q (.tuple #[]) w') w → cv.enter fv #[yv] Q w) (h : wps g H m fun _ => Q (.tuple #[])) : wps g H (cv.enter fv #[yv]) Q :=
  fun w a Qf ho ha hq => hcv Qf w (h w a (fun _ w' => Qf (.tuple #[]) w') ho ha fun x w' a' ho' hb => hq _ w' a' ho' hb)
def disksL (q m : G3) : List Int := (List.range q.1.toNat).map (fun i : Nat => (slotV q m i).1) ++ if m.2.2 = 0 then [q.1] else []
theorem disks_iter (hcv : DisksOk cv) (bb rb : Nat) (q m : G3) (hq : q.1 ≤ 16) : Iter cv (.func (.func fid_bank_Bank_disks) #[.pointer (ptr bb)] #[]) (fun x : Int => #[.int .i64 x]) (disksL q m) (bnk bb rb q m) := by
  intro yv I E hstep g
  refine wps_enter (m := bank_Bank_disks cv (ptr bb) yv) (fun Q w h => hcv _ _ _ _ h) ?_
  unfold bank_Bank_disks
  simp only [Addr.add_add, Nat.reduceAdd]
  repeat (first
    | (with_reducible refine wps_bindpure ?_)
    | (with_reducible refine wps_assoc ?_)
    | (with_reducible refine wps_nil ?_)
    | (with_reducible refine wps_stepAlloc fun _ => ?_)
    | (with_reducible refine wps_alloc fun _ => ?_)
    | (with_reducible refine wps_newO fun _ => ?_)
    | (refine wps_ld _ (by rfl) ?_)
    | (refine wps_ldG _ _ _ (by rfl) ?_)
    | (refine wps_ldA _ (by rfl) ?_)
    | (refine wps_ldI _ (by rfl) ?_)
    | (refine wps_ldGI _ _ _ (by rfl) ?_)
    | (refine wps_ldAI _ (by rfl) ?_)
    | (refine wps_st (by simp) ?_)
    | (refine wps_stA (by simp) (by simp [Value.oneCell']) ?_)
    | ((with_reducible apply wps_val); apply val_ite; rotate_left; refine fun (_ : ¬ _) => ?_; rotate_right; refine fun (_ : _ = true) => ?_)
    | ((with_reducible apply val_ite); rotate_left; refine fun (_ : ¬ _) => ?_; rotate_right; refine fun (_ : _ = true) => ?_)
    | (with_reducible refine wps_regionH ?_)
    | ((with_reducible apply wps_bindV); apply val_iteL; rotate_left; refine fun (_ : ¬ _) => ?_; rotate_right; refine fun (_ : _ = true) => ?_)
    | ((with_reducible apply val_iteL); rotate_left; refine fun (_ : ¬ _) => ?_; rotate_right; refine fun (_ : _ = true) => ?_)
    | (with_reducible exact wps_pure (ent_val rfl)))
  refine wps_loop (fun i => ex fun n : Nat => pr (i = (n : Int) ∧ (n : Int) ≤ max 0 q.1) * (bnk bb rb q m * I n)) (fun i => (q.1 - i).toNat) ?_ fun i => ?_
  · exact ent_ex 0 (ent_prr ⟨rfl, by omega⟩ (Ent.refl _))
  · refine wps_ex fun n => wps_pr fun ⟨hi, hn⟩ => ?_
    refine wps_ite (fun hc => ?_) (fun hc => ?_)
    · have hc' : i < q.1 := by simpa using hc
      refine wps_valH (fun _ => bank_disk_val bb rb q m i) ?_
      have hx : (disksL q m)[n]? = some (slotV q m i).1 := by
        unfold disksL
        rw [List.getElem?_append_left (by simp; omega), List.getElem?_map, List.getElem?_range (by omega)]
        simp [hi]
      refine wps_bind (wps_yield (hstep n _ hx g)) fun y => ?_
      cases y with
      | true =>
        refine wps_ite (fun h => absurd h (by simp)) (fun _ => wps_pure ?_)
        exact ent_prr (by rw [range_add1 hi (by omega)]; omega) (ent_ex (n + 1) (ent_prr ⟨range_add1 hi (by omega), by omega⟩ (Ent.refl _)))
      | false =>
        refine wps_ite (fun _ => wps_mapR (wps_pure ?_)) (fun h => absurd rfl h)
        exact Ent.starr (ent_orr (Ent.refl _))
    · have hc' : ¬ i < q.1 := by simpa using hc
      have hne : n = q.1.toNat := by omega
      refine wps_mapR ?_
      repeat (first
        | (with_reducible refine wps_bindpure ?_)
        | (with_reducible refine wps_assoc ?_)
        | (with_reducible refine wps_nil ?_)
        | (with_reducible refine wps_stepAlloc fun _ => ?_)
        | (with_reducible refine wps_alloc fun _ => ?_)
        | (with_reducible refine wps_newO fun _ => ?_)
        | (refine wps_ld _ (by rfl) ?_)
        | (refine wps_ldG _ _ _ (by rfl) ?_)
        | (refine wps_ldA _ (by rfl) ?_)
        | (refine wps_ldI _ (by rfl) ?_)
        | (refine wps_ldGI _ _ _ (by rfl) ?_)
        | (refine wps_ldAI _ (by rfl) ?_)
        | (refine wps_st (by simp) ?_)
        | (refine wps_stA (by simp) (by simp [Value.oneCell']) ?_)
        | ((with_reducible apply wps_val); apply val_ite; rotate_left; refine fun (_ : ¬ _) => ?_; rotate_right; refine fun (_ : _ = true) => ?_)
        | ((with_reducible apply val_ite); rotate_left; refine fun (_ : ¬ _) => ?_; rotate_right; refine fun (_ : _ = true) => ?_)
        | (with_reducible refine wps_regionH ?_)
        | ((with_reducible apply wps_bindV); apply val_iteL; rotate_left; refine fun (_ : ¬ _) => ?_; rotate_right; refine fun (_ : _ = true) => ?_)
        | ((with_reducible apply val_iteL); rotate_left; refine fun (_ : ¬ _) => ?_; rotate_right; refine fun (_ : _ = true) => ?_)
        | (with_reducible exact wps_pure (ent_val rfl)))
      refine wps_ite (fun h0 => ?_) (fun h0 => ?_)
      · have h0' : m.2.2 = 0 := by simpa using h0
        repeat (first
          | (with_reducible refine wps_bindpure ?_)
          | (with_reducible refine wps_assoc ?_)
          | (with_reducible refine wps_nil ?_)
          | (with_reducible refine wps_stepAlloc fun _ => ?_)
          | (with_reducible refine wps_alloc fun _ => ?_)
          | (with_reducible refine wps_newO fun _ => ?_)
          | (refine wps_ld _ (by rfl) ?_)
          | (refine wps_ldG _ _ _ (by rfl) ?_)
          | (refine wps_ldA _ (by rfl) ?_)
          | (refine wps_ldI _ (by rfl) ?_)
          | (refine wps_ldGI _ _ _ (by rfl) ?_)
          | (refine wps_ldAI _ (by rfl) ?_)
          | (refine wps_st (by simp) ?_)
          | (refine wps_stA (by simp) (by simp [Value.oneCell']) ?_)
          | ((with_reducible apply wps_val); apply val_ite; rotate_left; refine fun (_ : ¬ _) => ?_; rotate_right; refine fun (_ : _ = true) => ?_)
          | ((with_reducible apply val_ite); rotate_left; refine fun (_ : ¬ _) => ?_; rotate_right; refine fun (_ : _ = true) => ?_)
          | (with_reducible refine wps_regionH ?_)
          | ((with_reducible apply wps_bindV); apply val_iteL; rotate_left; refine fun (_ : ¬ _) => ?_; rotate_right; refine fun (_ : _ = true) => ?_)
          | ((with_reducible apply val_iteL); rotate_left; refine fun (_ : ¬ _) => ?_; rotate_right; refine fun (_ : _ = true) => ?_)
          | (with_reducible exact wps_pure (ent_val rfl)))
        have hx : (disksL q m)[n]? = some q.1 := by
          unfold disksL
          rw [List.getElem?_append_right (by simp; omega), if_pos h0']
          simp [hne]
        have hlen : (disksL q m).length = n + 1 := by simp [disksL, h0', hne]
        refine wps_bind (wps_yield (hstep n _ hx g)) fun y => wps_pure ?_
        rw [hlen]
        cases y with
        | true => exact Ent.starr (ent_orl (Ent.refl _))
        | false => exact Ent.starr (ent_orr (Ent.refl _))
      · have h0' : ¬ m.2.2 = 0 := by simpa using h0
        have hlen : (disksL q m).length = n := by simp [disksL, h0', hne]
        refine wps_pure ?_
        rw [hlen]
        exact Ent.starr (ent_orl (Ent.refl _))
end Go.Proofs.Ytldmeimebebllaa
namespace Go.Proofs.Ytldmeimebebllaa
open Go.Mo
set_option linter.unusedVariables false
variable {g : Fr}
theorem bv_len (b : List Int) : (bv b).length = b.length := by simp [bv]
theorem bv_get {b : List Int} {n : Nat} {v : Int} (h : b[n]? = some v) : (bv b)[n]? = some (Value.int .u8 v) := by simp [bv, h]
theorem ref00_SameBytes_val {H : HP} {a b : Slc} {x y : List Int} (ha : Ent H (byt a x)) (hb : Ent H (byt b y)) (hx : x.length < 4611686018427387904) : Val g H (ref00_SameBytes a b) (decide (x = y)) := by
  unfold ref00_SameBytes
  refine wps_fact (len_of ha) fun hla => wps_fact (len_of hb) fun hlb => ?_
  refine wps_ite (fun hne => ?_) (fun hne => ?_)
  · refine wps_pure (ent_val ?_)
    have hne' : ¬ a.len = b.len := by
      have : ¬ (a.len : Int) = b.len := by simpa using hne
      omega
    have : ¬ x = y := fun e => hne' (by rw [← hla, ← hlb, e])
    simp [this]
  · have heq : a.len = b.len := by
      have : (a.len : Int) = b.len := by simpa using hne
      omega
    refine wps_loop (fun i => ex fun n : Nat => pr (i = (n : Int) ∧ n ≤ x.length ∧ x.take n = y.take n) * H) (fun i => (x.length - i).toNat) ?_ fun i => ?_
    · exact ent_ex 0 (ent_prr ⟨rfl, by omega, by simp⟩ (Ent.refl _))
    · refine wps_ex fun n => wps_pr fun ⟨hi, hn, ht⟩ => ?_
      refine wps_ite (fun hc => ?_) (fun hc => ?_)
      · have hlt : n < x.length := by simp only [decide_eq_true_eq] at hc; omega
        have hlt2 : n < y.length := by omega
        refine wps_regionH ?_
        refine wps_rdI n x[n] ha (Ent.refl _) hi (bv_get (List.getElem?_eq_getElem hlt)) ?_
        refine wps_rdI n y[n] hb (Ent.refl _) hi (bv_get (List.getElem?_eq_getElem hlt2)) ?_
        refine wps_ite (fun hd => ?_) (fun hd => ?_)
        · have hd' : ¬ x[n] = y[n] := by simpa using hd
          refine wps_mapR (wps_pure (ent_prr ?_ (Ent.refl _)))
          have : ¬ x = y := fun e => hd' (by subst e; rfl)
          simp [this]
        · have hd' : x[n] = y[n] := by simpa using hd
          refine wps_pure (ent_prr (by rw [range_add1 hi (by omega)]; omega) (ent_ex (n + 1) (ent_prr ⟨range_add1 hi (by omega), by omega, ?_⟩ (Ent.refl _))))
          rw [List.take_add_one, List.take_add_one, ht, List.getElem?_eq_getElem hlt, List.getElem?_eq_getElem hlt2, hd']
      · have hne : n = x.length := by simp only [decide_eq_true_eq] at hc; omega
        refine wps_mapR (wps_pure (ent_prr ?_ (Ent.refl _)))
        have : x = y := by
          rw [hne, List.take_length] at ht
          rw [ht, List.take_of_length_le (by omega)]
        simp [this]
theorem bank_Join_spec (bb rb : Nat) (q m k : G3) : wps g (bnk bb rb q m) (bank_Bank_Join (ptr bb) k) (fun _ => bnk bb rb q (if FitsB q k then k else m)) := by
  unfold bank_Bank_Join
  repeat (first
    | (with_reducible refine wps_val (bank_fits_val _ _) ?_)
    | (with_reducible refine wps_stepV (bank_fits_val _ _) ?_)
    | (with_reducible refine wps_bindpure ?_)
    | (with_reducible refine wps_assoc ?_)
    | (with_reducible refine wps_nil ?_)
    | (with_reducible refine wps_stepAlloc fun _ => ?_)
    | (with_reducible refine wps_alloc fun _ => ?_)
    | (with_reducible refine wps_newO fun _ => ?_)
    | (refine wps_ld _ (by rfl) ?_)
    | (refine wps_ldG _ _ _ (by rfl) ?_)
    | (refine wps_ldA _ (by rfl) ?_)
    | (refine wps_ldI _ (by rfl) ?_)
    | (refine wps_ldGI _ _ _ (by rfl) ?_)
    | (refine wps_ldAI _ (by rfl) ?_)
    | (refine wps_st (by simp) ?_)
    | (refine wps_stA (by simp) (by simp [Value.oneCell']) ?_)
    | ((with_reducible apply wps_val); apply val_ite; rotate_left; refine fun (_ : ¬ _) => ?_; rotate_right; refine fun (_ : _ = true) => ?_)
    | ((with_reducible apply val_ite); rotate_left; refine fun (_ : ¬ _) => ?_; rotate_right; refine fun (_ : _ = true) => ?_)
    | (with_reducible refine wps_regionH ?_)
    | ((with_reducible apply wps_bindV); apply val_iteL; rotate_left; refine fun (_ : ¬ _) => ?_; rotate_right; refine fun (_ : _ = true) => ?_)
    | ((with_reducible apply val_iteL); rotate_left; refine fun (_ : ¬ _) => ?_; rotate_right; refine fun (_ : _ = true) => ?_)
    | (with_reducible exact wps_pure (ent_val rfl)))
  by_cases h : FitsB q k = true
  · simp only [h, if_true]
    repeat (first
      | (with_reducible refine wps_bindpure ?_)
      | (with_reducible refine wps_assoc ?_)
      | (with_reducible refine wps_nil ?_)
      | (with_reducible refine wps_stepAlloc fun _ => ?_)
      | (with_reducible refine wps_alloc fun _ => ?_)
      | (with_reducible refine wps_newO fun _ => ?_)
      | (refine wps_ld _ (by rfl) ?_)
      | (refine wps_ldG _ _ _ (by rfl) ?_)
      | (refine wps_ldA _ (by rfl) ?_)
      | (refine wps_ldI _ (by rfl) ?_)
      | (refine wps_ldGI _ _ _ (by rfl) ?_)
      | (refine wps_ldAI _ (by rfl) ?_)
      | (refine wps_st (by simp) ?_)
      | (refine wps_stA (by simp) (by simp [Value.oneCell']) ?_)
      | ((with_reducible apply wps_val); apply val_ite; rotate_left; refine fun (_ : ¬ _) => ?_; rotate_right; refine fun (_ : _ = true) => ?_)
      | ((with_reducible apply val_ite); rotate_left; refine fun (_ : ¬ _) => ?_; rotate_right; refine fun (_ : _ = true) => ?_)
      | (with_reducible refine wps_regionH ?_)
      | ((with_reducible apply wps_bindV); apply val_iteL; rotate_left; refine fun (_ : ¬ _) => ?_; rotate_right; refine fun (_ : _ = true) => ?_)
      | ((with_reducible apply val_iteL); rotate_left; refine fun (_ : ¬ _) => ?_; rotate_right; refine fun (_ : _ = true) => ?_)
      | (with_reducible exact wps_pure (ent_val rfl)))
    exact wps_pure (Ent.trans (ent_right _ _) (Ent.of_eq rfl))
  · simp only [h, if_false, Bool.false_eq_true]
    exact wps_pure ent_drop
end Go.Proofs.Ytldmeimebebllaa
namespace Go.Proofs.Ytldmeimebebllaa
open Go.Mo
set_option linter.unusedVariables false
variable {g : Fr} {cv : CV}
def everyL (s : Int) (b : List Int) : List Int → Rk → Int → Rk × Int
  | [], R, wr => (R, wr)
  | d :: ds, R, wr => if R.gate d s b.length = 12 then (R.write d s b, 12) else everyL s b ds (R.write d s b) (if R.gate d s b.length = 11 then 11 else wr)
theorem drop_cons {xs : List Int} {i : Nat} {x : Int} (h : xs[i]? = some x) : xs.drop i = x :: xs.drop (i + 1) := by
  obtain ⟨hlt, he⟩ := List.getElem?_eq_some_iff.1 h
  rw [List.drop_eq_getElem_cons hlt, he]
theorem bank_Everywhere_spec (hcv : DisksOk cv) {H : HP} (bb rb : Nat) (q m : G3) (hq : q.1 ≤ 16) (R : Rk) (ds : Slc) (ps : List Nat) (s : Int) (x : Slc) (b : List Int) (hx : Ent H (byt x b)) (hb : b.length ≤ 1099511627776) :
    wps g (H * bnk bb rb q m * rackP rb R ds ps) (bank_Bank_Everywhere cv (ptr bb) s x) (fun e =>
      pr (e = (everyL s b (disksL q m) R 0).2) * H * bnk bb rb q m * rackP rb (everyL s b (disksL q m) R 0).1 ds ps) := by
  unfold bank_Bank_Everywhere
  repeat (first
    | (with_reducible refine wps_bindpure ?_)
    | (with_reducible refine wps_assoc ?_)
    | (with_reducible refine wps_nil ?_)
    | (with_reducible refine wps_stepAlloc fun _ => ?_)
    | (with_reducible refine wps_alloc fun _ => ?_)
    | (with_reducible refine wps_newO fun _ => ?_)
    | (refine wps_ld _ (by rfl) ?_)
    | (refine wps_ldG _ _ _ (by rfl) ?_)
    | (refine wps_ldA _ (by rfl) ?_)
    | (refine wps_ldI _ (by rfl) ?_)
    | (refine wps_ldGI _ _ _ (by rfl) ?_)
    | (refine wps_ldAI _ (by rfl) ?_)
    | (refine wps_st (by simp) ?_)
    | (refine wps_stA (by simp) (by simp [Value.oneCell']) ?_)
    | ((with_reducible apply wps_val); apply val_ite; rotate_left; refine fun (_ : ¬ _) => ?_; rotate_right; refine fun (_ : _ = true) => ?_)
    | ((with_reducible apply val_ite); rotate_left; refine fun (_ : ¬ _) => ?_; rotate_right; refine fun (_ : _ = true) => ?_)
    | (with_reducible refine wps_regionH ?_)
    | ((with_reducible apply wps_bindV); apply val_iteL; rotate_left; refine fun (_ : ¬ _) => ?_; rotate_right; refine fun (_ : _ = true) => ?_)
    | ((with_reducible apply val_iteL); rotate_left; refine fun (_ : ¬ _) => ?_; rotate_right; refine fun (_ : _ = true) => ?_)
    | (with_reducible exact wps_pure (ent_val rfl)))
  rename_i x3 x4 x5 x6 x7
  refine wps_rangeF (F := emp)
    (fun i => ex fun R' : Rk => ex fun wr : Int => pr (everyL s b (disksL q m) R 0 = everyL s b ((disksL q m).drop i) R' wr) * H * rackP rb R' ds ps * pc x3 [.pointer (ptr bb)] * pc x4 [.int .i64 s] * pc x5 [vS x] * pc x6 [.int .i64 0] * pc x7 [.int .i64 wr])
    (fun j => match j with | .ret => ex fun R' : Rk => pr (everyL s b (disksL q m) R 0 = (R', 12)) * H * rackP rb R' ds ps * pc x6 [.int .i64 12] | .exit _ => pr False)
    (fun i d t => pr (t = d) * (bnk bb rb q m * ex fun R' : Rk => ex fun wr : Int => pr (everyL s b (disksL q m) R 0 = everyL s b ((disksL q m).drop i) R' wr) * H * rackP rb R' ds ps * pc x3 [.pointer (ptr bb)] * pc x4 [.int .i64 s] * pc x5 [vS x] * pc x6 [.int .i64 0] * pc x7 [.int .i64 wr]))
    (disks_iter hcv bb rb q m hq) ?_ ?_ ?_ ?_ ?_ ?_
  · rw [emp_star]
    refine Ent.trans ?_ (Ent.starr (ent_ex R (ent_ex 0 (Ent.refl _))))
    simp only [← star_assoc]
    exact ent_pickC (by rfl) (ent_pickC (by rfl) (ent_pickC (by rfl) (ent_pick (ent_pick (ent_pick (ent_pick (ent_prx rfl ent_drop)))))))
  · intro i d hd g
    exact wps_pure (ent_prr rfl (Ent.refl _))
  · intro i d hd t g
    refine wps_pr fun ht => ?_
    subst ht
    refine wps_exP fun R' => ?_
    refine wps_exP fun wr => ?_
    simp only [← star_assoc]
    refine wps_prP fun hR => ?_
    rw [drop_cons hd, everyL] at hR
    refine wps_region (bnk bb rb q m * pc x3 [.pointer (ptr bb)] * pc x4 [.int .i64 s] * pc x5 [vS x]) (ent_pick (ent_pick (ent_pick ent_drop))) ?_
    repeat (first
      | (with_reducible refine wps_bindpure ?_)
      | (with_reducible refine wps_assoc ?_)
      | (with_reducible refine wps_nil ?_)
      | (with_reducible refine wps_stepAlloc fun _ => ?_)
      | (with_reducible refine wps_alloc fun _ => ?_)
      | (with_reducible refine wps_newO fun _ => ?_)
      | (refine wps_ld _ (by rfl) ?_)
      | (refine wps_ldG _ _ _ (by rfl) ?_)
      | (refine wps_ldA _ (by rfl) ?_)
      | (refine wps_ldI _ (by rfl) ?_)
      | (refine wps_ldGI _ _ _ (by rfl) ?_)
      | (refine wps_ldAI _ (by rfl) ?_)
      | (refine wps_st (by simp) ?_)
      | (refine wps_stA (by simp) (by simp [Value.oneCell']) ?_)
      | ((with_reducible apply wps_val); apply val_ite; rotate_left; refine fun (_ : ¬ _) => ?_; rotate_right; refine fun (_ : _ = true) => ?_)
      | ((with_reducible apply val_ite); rotate_left; refine fun (_ : ¬ _) => ?_; rotate_right; refine fun (_ : _ = true) => ?_)
      | (with_reducible refine wps_regionH ?_)
      | ((with_reducible apply wps_bindV); apply val_iteL; rotate_left; refine fun (_ : ¬ _) => ?_; rotate_right; refine fun (_ : _ = true) => ?_)
      | ((with_reducible apply val_iteL); rotate_left; refine fun (_ : ¬ _) => ?_; rotate_right; refine fun (_ : _ = true) => ?_)
      | (with_reducible exact wps_pure (ent_val rfl)))
    refine wps_stepC (F := bnk bb rb q m * pc x3 [.pointer (ptr bb)] * pc x4 [.int .i64 s] * pc x5 [vS x] * pc x6 [.int .i64 0] * pc x7 [.int .i64 wr]) (A := H * rackP rb R' ds ps) (fun _ => device_Rack_Write_spec rb R' ds ps t s x b hx hb) ?_ ent_drop fun e => ?_
    · rw [← star_assoc]
      exact ent_pick (ent_pick (ent_pick (ent_pick (ent_pick (ent_pick (ent_pick (Ent.refl _)))))))
    · simp only [← star_assoc]
      refine wps_prP fun he => ?_
      subst he
      refine wps_ite (fun h12 => ?_) (fun h12 => ?_)
      · have h12' : R'.gate t s b.length = 12 := by simpa using h12
        rw [if_pos h12'] at hR
        repeat (first
          | (with_reducible refine wps_bindpure ?_)
          | (with_reducible refine wps_assoc ?_)
          | (with_reducible refine wps_nil ?_)
          | (with_reducible refine wps_stepAlloc fun _ => ?_)
          | (with_reducible refine wps_alloc fun _ => ?_)
          | (with_reducible refine wps_newO fun _ => ?_)
          | (refine wps_ld _ (by rfl) ?_)
          | (refine wps_ldG _ _ _ (by rfl) ?_)
          | (refine wps_ldA _ (by rfl) ?_)
          | (refine wps_ldI _ (by rfl) ?_)
          | (refine wps_ldGI _ _ _ (by rfl) ?_)
          | (refine wps_ldAI _ (by rfl) ?_)
          | (refine wps_st (by simp) ?_)
          | (refine wps_stA (by simp) (by simp [Value.oneCell']) ?_)
          | ((with_reducible apply wps_val); apply val_ite; rotate_left; refine fun (_ : ¬ _) => ?_; rotate_right; refine fun (_ : _ = true) => ?_)
          | ((with_reducible apply val_ite); rotate_left; refine fun (_ : ¬ _) => ?_; rotate_right; refine fun (_ : _ = true) => ?_)
          | (with_reducible refine wps_regionH ?_)
          | ((with_reducible apply wps_bindV); apply val_iteL; rotate_left; refine fun (_ : ¬ _) => ?_; rotate_right; refine fun (_ : _ = true) => ?_)
          | ((with_reducible apply val_iteL); rotate_left; refine fun (_ : ¬ _) => ?_; rotate_right; refine fun (_ : _ = true) => ?_)
          | (with_reducible exact wps_pure (ent_val rfl)))
        refine wps_pure ?_
        refine Ent.trans ?_ (Ent.starr (ent_ex (R'.write t s b) (Ent.refl _)))
        simp only [← star_assoc]
        exact ent_pickC (by rw [h12']; rfl) (ent_pick (ent_pick (ent_prx hR ent_drop)))
      · have h12' : ¬ R'.gate t s b.length = 12 := by simpa using h12
        rw [if_neg h12'] at hR
        refine wps_ite (fun h11 => ?_) (fun h11 => ?_)
        · have h11' : R'.gate t s b.length = 11 := by simpa using h11
          rw [if_pos h11'] at hR
          repeat (first
            | (with_reducible refine wps_bindpure ?_)
            | (with_reducible refine wps_assoc ?_)
            | (with_reducible refine wps_nil ?_)
            | (with_reducible refine wps_stepAlloc fun _ => ?_)
            | (with_reducible refine wps_alloc fun _ => ?_)
            | (with_reducible refine wps_newO fun _ => ?_)
            | (refine wps_ld _ (by rfl) ?_)
            | (refine wps_ldG _ _ _ (by rfl) ?_)
            | (refine wps_ldA _ (by rfl) ?_)
            | (refine wps_ldI _ (by rfl) ?_)
            | (refine wps_ldGI _ _ _ (by rfl) ?_)
            | (refine wps_ldAI _ (by rfl) ?_)
            | (refine wps_st (by simp) ?_)
            | (refine wps_stA (by simp) (by simp [Value.oneCell']) ?_)
            | ((with_reducible apply wps_val); apply val_ite; rotate_left; refine fun (_ : ¬ _) => ?_; rotate_right; refine fun (_ : _ = true) => ?_)
            | ((with_reducible apply val_ite); rotate_left; refine fun (_ : ¬ _) => ?_; rotate_right; refine fun (_ : _ = true) => ?_)
            | (with_reducible refine wps_regionH ?_)
            | ((with_reducible apply wps_bindV); apply val_iteL; rotate_left; refine fun (_ : ¬ _) => ?_; rotate_right; refine fun (_ : _ = true) => ?_)
            | ((with_reducible apply val_iteL); rotate_left; refine fun (_ : ¬ _) => ?_; rotate_right; refine fun (_ : _ = true) => ?_)
            | (with_reducible exact wps_pure (ent_val rfl)))
          refine wps_pure ?_
          refine Ent.trans ?_ (Ent.starr (ent_ex (R'.write t s b) (ent_ex 11 (Ent.refl _))))
          simp only [← star_assoc]
          exact ent_pickC (by rw [h11']; rfl) (ent_pick (ent_pick (ent_pick (ent_pick (ent_pick (ent_pick (ent_prx hR ent_drop)))))))
        · have h11' : ¬ R'.gate t s b.length = 11 := by simpa using h11
          rw [if_neg h11'] at hR
          refine wps_pure ?_
          refine Ent.trans ?_ (Ent.starr (ent_ex (R'.write t s b) (ent_ex wr (Ent.refl _))))
          simp only [← star_assoc]
          exact ent_pick (ent_pick (ent_pick (ent_pick (ent_pick (ent_pick (ent_pick (ent_prx hR ent_drop)))))))
  · intro D
    refine wps_exP fun R' => wps_exP fun wr => ?_
    simp only [← star_assoc]
    refine wps_prP fun hR => ?_
    rw [List.drop_length, everyL] at hR
    repeat (first
      | (with_reducible refine wps_bindpure ?_)
      | (with_reducible refine wps_assoc ?_)
      | (with_reducible refine wps_nil ?_)
      | (with_reducible refine wps_stepAlloc fun _ => ?_)
      | (with_reducible refine wps_alloc fun _ => ?_)
      | (with_reducible refine wps_newO fun _ => ?_)
      | (refine wps_ld _ (by rfl) ?_)
      | (refine wps_ldG _ _ _ (by rfl) ?_)
      | (refine wps_ldA _ (by rfl) ?_)
      | (refine wps_ldI _ (by rfl) ?_)
      | (refine wps_ldGI _ _ _ (by rfl) ?_)
      | (refine wps_ldAI _ (by rfl) ?_)
      | (refine wps_st (by simp) ?_)
      | (refine wps_stA (by simp) (by simp [Value.oneCell']) ?_)
      | ((with_reducible apply wps_val); apply val_ite; rotate_left; refine fun (_ : ¬ _) => ?_; rotate_right; refine fun (_ : _ = true) => ?_)
      | ((with_reducible apply val_ite); rotate_left; refine fun (_ : ¬ _) => ?_; rotate_right; refine fun (_ : _ = true) => ?_)
      | (with_reducible refine wps_regionH ?_)
      | ((with_reducible apply wps_bindV); apply val_iteL; rotate_left; refine fun (_ : ¬ _) => ?_; rotate_right; refine fun (_ : _ = true) => ?_)
      | ((with_reducible apply val_iteL); rotate_left; refine fun (_ : ¬ _) => ?_; rotate_right; refine fun (_ : _ = true) => ?_)
      | (with_reducible exact wps_pure (ent_val rfl)))
    refine wps_take ?_
    repeat (first
      | (with_reducible refine wps_bindpure ?_)
      | (with_reducible refine wps_assoc ?_)
      | (with_reducible refine wps_nil ?_)
      | (with_reducible refine wps_stepAlloc fun _ => ?_)
      | (with_reducible refine wps_alloc fun _ => ?_)
      | (with_reducible refine wps_newO fun _ => ?_)
      | (refine wps_ld _ (by rfl) ?_)
      | (refine wps_ldG _ _ _ (by rfl) ?_)
      | (refine wps_ldA _ (by rfl) ?_)
      | (refine wps_ldI _ (by rfl) ?_)
      | (refine wps_ldGI _ _ _ (by rfl) ?_)
      | (refine wps_ldAI _ (by rfl) ?_)
      | (refine wps_st (by simp) ?_)
      | (refine wps_stA (by simp) (by simp [Value.oneCell']) ?_)
      | ((with_reducible apply wps_val); apply val_ite; rotate_left; refine fun (_ : ¬ _) => ?_; rotate_right; refine fun (_ : _ = true) => ?_)
      | ((with_reducible apply val_ite); rotate_left; refine fun (_ : ¬ _) => ?_; rotate_right; refine fun (_ : _ = true) => ?_)
      | (with_reducible refine wps_regionH ?_)
      | ((with_reducible apply wps_bindV); apply val_iteL; rotate_left; refine fun (_ : ¬ _) => ?_; rotate_right; refine fun (_ : _ = true) => ?_)
      | ((with_reducible apply val_iteL); rotate_left; refine fun (_ : ¬ _) => ?_; rotate_right; refine fun (_ : _ = true) => ?_)
      | (with_reducible exact wps_pure (ent_val rfl)))
    refine wps_pure ?_
    rw [hR]
    exact ent_pick (ent_pick (ent_pick (ent_prq rfl)))
  · intro D
    refine wps_exP fun R' => ?_
    simp only [← star_assoc]
    refine wps_prP fun hR => ?_
    refine wps_take ?_
    repeat (first
      | (with_reducible refine wps_bindpure ?_)
      | (with_reducible refine wps_assoc ?_)
      | (with_reducible refine wps_nil ?_)
      | (with_reducible refine wps_stepAlloc fun _ => ?_)
      | (with_reducible refine wps_alloc fun _ => ?_)
      | (with_reducible refine wps_newO fun _ => ?_)
      | (refine wps_ld _ (by rfl) ?_)
      | (refine wps_ldG _ _ _ (by rfl) ?_)
      | (refine wps_ldA _ (by rfl) ?_)
      | (refine wps_ldI _ (by rfl) ?_)
      | (refine wps_ldGI _ _ _ (by rfl) ?_)
      | (refine wps_ldAI _ (by rfl) ?_)
      | (refine wps_st (by simp) ?_)
      | (refine wps_stA (by simp) (by simp [Value.oneCell']) ?_)
      | ((with_reducible apply wps_val); apply val_ite; rotate_left; refine fun (_ : ¬ _) => ?_; rotate_right; refine fun (_ : _ = true) => ?_)
      | ((with_reducible apply val_ite); rotate_left; refine fun (_ : ¬ _) => ?_; rotate_right; refine fun (_ : _ = true) => ?_)
      | (with_reducible refine wps_regionH ?_)
      | ((with_reducible apply wps_bindV); apply val_iteL; rotate_left; refine fun (_ : ¬ _) => ?_; rotate_right; refine fun (_ : _ = true) => ?_)
      | ((with_reducible apply val_iteL); rotate_left; refine fun (_ : ¬ _) => ?_; rotate_right; refine fun (_ : _ = true) => ?_)
      | (with_reducible exact wps_pure (ent_val rfl)))
    refine wps_pure ?_
    rw [hR]
    exact ent_pick (ent_pick (ent_pick (ent_prq rfl)))
  · intro D id
    exact wps_false (fun o ho => by
      have := ent_right _ _ o (ent_left _ _ o ho)
      exact ent_right _ _ o this)
end Go.Proofs.Ytldmeimebebllaa
namespace Go.Proofs.Ytldmeimebebllaa
open Go.Mo
set_option linter.unusedVariables false
variable {g : Fr} {cv : CV}
def allL (s : Int) (xs : List Int) (R : Rk) : List (List Int) := (xs.filter fun d => R.rdErr d s == 0).map fun d => R.rd d s
/-- rows of bytes in a slice -/
def rows (t : Slc) (l : List (List Int)) : HP := ex fun sl : List Slc => pr (sl.length = l.length ∧ t.len = l.length) * seqp sl (fun i => l.getD i []) * own 1 t (sl.map vS)
theorem seqp_ext {sl : List Slc} {f f' : Nat → List Int} (h : ∀ i, i < sl.length → f i = f' i) : Ent (seqp sl f) (seqp sl f') := fun o ho k s hk => by
  have hlt := (List.getElem?_eq_some_iff.1 hk).1
  rw [← h k hlt]
  exact ho k s hk
theorem seqp_snocL {sl : List Slc} {l : List (List Int)} {s : Slc} {b : List Int} (hl : sl.length = l.length) : Ent (seqp sl (fun i => l.getD i []) * byt s b) (seqp (sl ++ [s]) (fun i => (l ++ [b]).getD i [])) := by
  refine seqp_snoc (Ent.trans (ent_left _ _) (seqp_ext fun i hi => ?_)) (Ent.trans (ent_right _ _) (Ent.of_eq ?_))
  · simp [List.getD_eq_getElem?_getD, List.getElem?_append_left (show i < l.length by omega)]
  · simp [List.getD_eq_getElem?_getD, hl]
theorem rows_snoc {A : HP} {t : Slc} {sl : List Slc} {l : List (List Int)} {s : Slc} {b : List Int} (hl : sl.length = l.length) (ht : t.len = l.length + 1) :
    Ent (seqp sl (fun i => l.getD i []) * byt s b * own 1 t ((sl ++ [s]).map vS)) (rows t (l ++ [b])) := by
  refine ent_ex (sl ++ [s]) (ent_pick ?_)
  refine ent_prr ⟨by simp [hl], by simp [ht]⟩ ?_
  refine seqp_snoc (Ent.trans (ent_left _ _) (seqp_ext fun i hi => ?_)) (Ent.trans (ent_right _ _) (Ent.of_eq ?_))
  · simp [List.getD_eq_getElem?_getD, List.getElem?_append_left (show i < l.length by omega)]
  · simp [List.getD_eq_getElem?_getD, hl]
theorem disksL_len (q m : G3) (hq : q.1 ≤ 16) : (disksL q m).length ≤ 17 := by
  unfold disksL
  rw [List.length_append, List.length_map, List.length_range]
  split <;> simp <;> omega
theorem bank_All_spec (hcv : DisksOk cv) (bb rb : Nat) (q m : G3) (hq : q.1 ≤ 16) (R : Rk) (ds : Slc) (ps : List Nat) (s : Int) :
    wps g (bnk bb rb q m * rackP rb R ds ps) (bank_Bank_All cv (ptr bb) s) (fun t => bnk bb rb q m * rackP rb R ds ps * rows t (allL s (disksL q m) R)) := by
  unfold bank_Bank_All
  repeat (first
    | (with_reducible refine wps_bindpure ?_)
    | (with_reducible refine wps_assoc ?_)
    | (with_reducible refine wps_nil ?_)
    | (with_reducible refine wps_stepAlloc fun _ => ?_)
    | (with_reducible refine wps_alloc fun _ => ?_)
    | (with_reducible refine wps_newO fun _ => ?_)
    | (refine wps_ld _ (by rfl) ?_)
    | (refine wps_ldG _ _ _ (by rfl) ?_)
    | (refine wps_ldA _ (by rfl) ?_)
    | (refine wps_ldI _ (by rfl) ?_)
    | (refine wps_ldGI _ _ _ (by rfl) ?_)
    | (refine wps_ldAI _ (by rfl) ?_)
    | (refine wps_st (by simp) ?_)
    | (refine wps_stA (by simp) (by simp [Value.oneCell']) ?_)
    | ((with_reducible apply wps_val); apply val_ite; rotate_left; refine fun (_ : ¬ _) => ?_; rotate_right; refine fun (_ : _ = true) => ?_)
    | ((with_reducible apply val_ite); rotate_left; refine fun (_ : ¬ _) => ?_; rotate_right; refine fun (_ : _ = true) => ?_)
    | (with_reducible refine wps_regionH ?_)
    | ((with_reducible apply wps_bindV); apply val_iteL; rotate_left; refine fun (_ : ¬ _) => ?_; rotate_right; refine fun (_ : _ = true) => ?_)
    | ((with_reducible apply val_iteL); rotate_left; refine fun (_ : ¬ _) => ?_; rotate_right; refine fun (_ : _ = true) => ?_)
    | (with_reducible exact wps_pure (ent_val rfl)))
  rename_i x2 x3 x5
  refine wps_rangeF (F := emp)
    (fun i => ex fun t : Slc => ex fun sl : List Slc => pr (sl.length = (allL s ((disksL q m).take i) R).length ∧ t.len = sl.length) * seqp sl (fun j => (allL s ((disksL q m).take i) R).getD j []) * own 1 t (sl.map vS) * rackP rb R ds ps * pc x2 [.pointer (ptr bb)] * pc x3 [.int .i64 s] * pc x5 [vS t])
    (fun _ => pr False)
    (fun i d t' => pr (t' = d) * (bnk bb rb q m * ex fun t : Slc => ex fun sl : List Slc => pr (sl.length = (allL s ((disksL q m).take i) R).length ∧ t.len = sl.length) * seqp sl (fun j => (allL s ((disksL q m).take i) R).getD j []) * own 1 t (sl.map vS) * rackP rb R ds ps * pc x2 [.pointer (ptr bb)] * pc x3 [.int .i64 s] * pc x5 [vS t]))
    (disks_iter hcv bb rb q m hq) ?_ ?_ ?_ ?_ ?_ ?_
  · rw [emp_star]
    refine Ent.trans ?_ (Ent.starr (ent_ex nilS (ent_ex [] (Ent.refl _))))
    simp only [← star_assoc]
    refine ent_pickC (by rfl) (ent_pickC (by rfl) (ent_pickC (by rfl) (ent_pick (ent_own0 (ent_pers ?_ (seqp_nil _ _))))))
    exact ent_prx (by simp [allL, nilS]) ent_drop
  · intro i d hd g
    exact wps_pure (ent_prr rfl (Ent.refl _))
  · intro i d hd t' g
    refine wps_pr fun ht => ?_
    subst ht
    refine wps_exP fun t => ?_
    refine wps_exP fun sl => ?_
    simp only [← star_assoc]
    refine wps_prP fun ⟨hsl, htl⟩ => ?_
    have htake : (disksL q m).take (i + 1) = (disksL q m).take i ++ [t'] := by rw [List.take_add_one, hd]; rfl
    have hle : sl.length ≤ 17 := by
      rw [hsl]
      simp only [allL, List.length_map]
      have h1 := List.length_filter_le (fun d => R.rdErr d s == 0) ((disksL q m).take i)
      have h2 := disksL_len q m hq
      rw [List.length_take] at h1
      omega
    refine wps_region (bnk bb rb q m * pc x2 [.pointer (ptr bb)] * pc x3 [.int .i64 s]) (ent_pick (ent_pick ent_drop)) ?_
    repeat (first
      | (with_reducible refine wps_bindpure ?_)
      | (with_reducible refine wps_assoc ?_)
      | (with_reducible refine wps_nil ?_)
      | (with_reducible refine wps_stepAlloc fun _ => ?_)
      | (with_reducible refine wps_alloc fun _ => ?_)
      | (with_reducible refine wps_newO fun _ => ?_)
      | (refine wps_ld _ (by rfl) ?_)
      | (refine wps_ldG _ _ _ (by rfl) ?_)
      | (refine wps_ldA _ (by rfl) ?_)
      | (refine wps_ldI _ (by rfl) ?_)
      | (refine wps_ldGI _ _ _ (by rfl) ?_)
      | (refine wps_ldAI _ (by rfl) ?_)
      | (refine wps_st (by simp) ?_)
      | (refine wps_stA (by simp) (by simp [Value.oneCell']) ?_)
      | ((with_reducible apply wps_val); apply val_ite; rotate_left; refine fun (_ : ¬ _) => ?_; rotate_right; refine fun (_ : _ = true) => ?_)
      | ((with_reducible apply val_ite); rotate_left; refine fun (_ : ¬ _) => ?_; rotate_right; refine fun (_ : _ = true) => ?_)
      | (with_reducible refine wps_regionH ?_)
      | ((with_reducible apply wps_bindV); apply val_iteL; rotate_left; refine fun (_ : ¬ _) => ?_; rotate_right; refine fun (_ : _ = true) => ?_)
      | ((with_reducible apply val_iteL); rotate_left; refine fun (_ : ¬ _) => ?_; rotate_right; refine fun (_ : _ = true) => ?_)
      | (with_reducible exact wps_pure (ent_val rfl)))
    refine wps_stepC (F := bnk bb rb q m * pc x2 [.pointer (ptr bb)] * pc x3 [.int .i64 s] * seqp sl (fun j => (allL s ((disksL q m).take i) R).getD j []) * own 1 t (sl.map vS) * pc x5 [vS t]) (A := rackP rb R ds ps) (fun _ => device_Rack_Read_spec rb R ds ps t' s) ?_ ent_drop fun e => ?_
    · exact ent_pick (ent_pick (ent_pick (ent_pick (ent_pick (ent_pick ent_drop)))))
    · simp only [← star_assoc]
      refine wps_prP fun he => ?_
      refine wps_ite (fun h0 => ?_) (fun h0 => ?_)
      · have h0' : R.rdErr t' s = 0 := by rw [← he]; simpa using h0
        have hall : allL s ((disksL q m).take (i + 1)) R = allL s ((disksL q m).take i) R ++ [R.rd t' s] := by
          rw [htake]; simp [allL, h0']
        repeat (first
          | (with_reducible refine wps_bindpure ?_)
          | (with_reducible refine wps_assoc ?_)
          | (with_reducible refine wps_nil ?_)
          | (with_reducible refine wps_stepAlloc fun _ => ?_)
          | (with_reducible refine wps_alloc fun _ => ?_)
          | (with_reducible refine wps_newO fun _ => ?_)
          | (refine wps_ld _ (by rfl) ?_)
          | (refine wps_ldG _ _ _ (by rfl) ?_)
          | (refine wps_ldA _ (by rfl) ?_)
          | (refine wps_ldI _ (by rfl) ?_)
          | (refine wps_ldGI _ _ _ (by rfl) ?_)
          | (refine wps_ldAI _ (by rfl) ?_)
          | (refine wps_st (by simp) ?_)
          | (refine wps_stA (by simp) (by simp [Value.oneCell']) ?_)
          | ((with_reducible apply wps_val); apply val_ite; rotate_left; refine fun (_ : ¬ _) => ?_; rotate_right; refine fun (_ : _ = true) => ?_)
          | ((with_reducible apply val_ite); rotate_left; refine fun (_ : ¬ _) => ?_; rotate_right; refine fun (_ : _ = true) => ?_)
          | (with_reducible refine wps_regionH ?_)
          | ((with_reducible apply wps_bindV); apply val_iteL; rotate_left; refine fun (_ : ¬ _) => ?_; rotate_right; refine fun (_ : _ = true) => ?_)
          | ((with_reducible apply val_iteL); rotate_left; refine fun (_ : ¬ _) => ?_; rotate_right; refine fun (_ : _ = true) => ?_)
          | (with_reducible exact wps_pure (ent_val rfl)))
        refine wps_app 1 [vS e.1] rfl (by decide) (rsl_pc rfl) (by simp [Value.oneCell', vS]) (by (try dsimp only); omega) fun t2 ht2 => ?_
        repeat (first
          | (with_reducible refine wps_bindpure ?_)
          | (with_reducible refine wps_assoc ?_)
          | (with_reducible refine wps_nil ?_)
          | (with_reducible refine wps_stepAlloc fun _ => ?_)
          | (with_reducible refine wps_alloc fun _ => ?_)
          | (with_reducible refine wps_newO fun _ => ?_)
          | (refine wps_ld _ (by rfl) ?_)
          | (refine wps_ldG _ _ _ (by rfl) ?_)
          | (refine wps_ldA _ (by rfl) ?_)
          | (refine wps_ldI _ (by rfl) ?_)
          | (refine wps_ldGI _ _ _ (by rfl) ?_)
          | (refine wps_ldAI _ (by rfl) ?_)
          | (refine wps_st (by simp) ?_)
          | (refine wps_stA (by simp) (by simp [Value.oneCell']) ?_)
          | ((with_reducible apply wps_val); apply val_ite; rotate_left; refine fun (_ : ¬ _) => ?_; rotate_right; refine fun (_ : _ = true) => ?_)
          | ((with_reducible apply val_ite); rotate_left; refine fun (_ : ¬ _) => ?_; rotate_right; refine fun (_ : _ = true) => ?_)
          | (with_reducible refine wps_regionH ?_)
          | ((with_reducible apply wps_bindV); apply val_iteL; rotate_left; refine fun (_ : ¬ _) => ?_; rotate_right; refine fun (_ : _ = true) => ?_)
          | ((with_reducible apply val_iteL); rotate_left; refine fun (_ : ¬ _) => ?_; rotate_right; refine fun (_ : _ = true) => ?_)
          | (with_reducible exact wps_pure (ent_val rfl)))
        refine wps_pure ?_
        rw [hall]
        refine Ent.trans ?_ (Ent.starr (ent_ex t2 (ent_ex (sl ++ [e.1]) (Ent.refl _))))
        simp only [← star_assoc]
        refine ent_pickC (by rfl) (ent_pick (ent_pick (ent_pick (ent_pickS (by simp) ?_))))
        refine ent_swap (A := own 1 e.1 (bv (R.rd t' s))) (B := byt e.1 (R.rd t' s)) (own_rsl _ _ _) ?_
        refine ent_join (A := seqp sl fun j => (allL s ((disksL q m).take i) R).getD j []) (B := byt e.1 (R.rd t' s)) (seqp_snocL hsl) ?_
        exact ent_prx ⟨by simp [hsl], by simp [ht2, htl]⟩ ent_drop
      · have h0' : ¬ R.rdErr t' s = 0 := by rw [← he]; simpa using h0
        have hall : allL s ((disksL q m).take (i + 1)) R = allL s ((disksL q m).take i) R := by
          rw [htake]; simp [allL, h0']
        refine wps_pure ?_
        rw [hall]
        refine Ent.trans ?_ (Ent.starr (ent_ex t (ent_ex sl (Ent.refl _))))
        simp only [← star_assoc]
        exact ent_pick (ent_pick (ent_pick (ent_pick (ent_pick (ent_pick (ent_prx ⟨hsl, htl⟩ ent_drop))))))
  · intro D
    refine wps_exP fun t => wps_exP fun sl => ?_
    simp only [← star_assoc]
    refine wps_prP fun ⟨hsl, htl⟩ => ?_
    rw [List.take_length]
    rw [List.take_length] at hsl
    repeat (first
      | (with_reducible refine wps_bindpure ?_)
      | (with_reducible refine wps_assoc ?_)
      | (with_reducible refine wps_nil ?_)
      | (with_reducible refine wps_stepAlloc fun _ => ?_)
      | (with_reducible refine wps_alloc fun _ => ?_)
      | (with_reducible refine wps_newO fun _ => ?_)
      | (refine wps_ld _ (by rfl) ?_)
      | (refine wps_ldG _ _ _ (by rfl) ?_)
      | (refine wps_ldA _ (by rfl) ?_)
      | (refine wps_ldI _ (by rfl) ?_)
      | (refine wps_ldGI _ _ _ (by rfl) ?_)
      | (refine wps_ldAI _ (by rfl) ?_)
      | (refine wps_st (by simp) ?_)
      | (refine wps_stA (by simp) (by simp [Value.oneCell']) ?_)
      | ((with_reducible apply wps_val); apply val_ite; rotate_left; refine fun (_ : ¬ _) => ?_; rotate_right; refine fun (_ : _ = true) => ?_)
      | ((with_reducible apply val_ite); rotate_left; refine fun (_ : ¬ _) => ?_; rotate_right; refine fun (_ : _ = true) => ?_)
      | (with_reducible refine wps_regionH ?_)
      | ((with_reducible apply wps_bindV); apply val_iteL; rotate_left; refine fun (_ : ¬ _) => ?_; rotate_right; refine fun (_ : _ = true) => ?_)
      | ((with_reducible apply val_iteL); rotate_left; refine fun (_ : ¬ _) => ?_; rotate_right; refine fun (_ : _ = true) => ?_)
      | (with_reducible exact wps_pure (ent_val rfl)))
    refine wps_take (wps_pure ?_)
    refine ent_exr sl ?_
    simp only [← star_assoc]
    exact ent_pick (ent_pick (ent_prx ⟨hsl, by rw [htl, hsl]⟩ (ent_pick ent_drop)))
  · intro D
    exact wps_false (fun o ho => by
      have := ent_right _ _ o (ent_left _ _ o ho)
      exact ent_right _ _ o this)
  · intro D id
    exact wps_false (fun o ho => by
      have := ent_right _ _ o (ent_left _ _ o ho)
      exact ent_right _ _ o this)
end Go.Proofs.Ytldmeimebebllaa
namespace Go.Proofs.Ytldmeimebebllaa
open Go.Mo
set_option linter.unusedVariables false
/-- nothing is armed, nothing has failed -/
structure Calm (R : Rk) : Prop where
  off : R.off = false
  count : R.count = -1
  failed : ∀ j, (R.dk j).failed = false
  counts : ∀ j, (R.dk j).count = -1
theorem w64m2 : w64 (-1 - 1) = -2 := w64_id (by omega) (by omega)
theorem Calm.tick {R : Rk} (h : Calm R) : R.ticked = R := by
  obtain ⟨n, ns, dk, count, off⟩ := R
  obtain ⟨h1, h2, h3, h4⟩ := h
  simp only at h1 h2 h3 h4
  subst h1 h2
  have hm : maxI (w64 (-1 - 1)) (-1) = -1 := by rw [w64m2]; rfl
  have hdk : (fun j => (dk j).tick) = dk := by
    funext j
    have a := h3 j
    have b := h4 j
    cases hd : dk j with
    | mk l c f k =>
      rw [hd] at a b
      simp only at a b
      subst a b
      simp only [Dk.tick, hm]
      rfl
  simp only [Rk.ticked, hm, hdk]
  rfl
theorem Calm.new (n s : Nat) : Calm (Rk.new n s) := ⟨rfl, rfl, fun _ => rfl, fun _ => rfl⟩
theorem Calm.gate {R : Rk} (h : Calm R) {k s : Int} (hk : 0 ≤ k ∧ k < R.n) (hs : 0 ≤ s ∧ s < R.ns) : R.gate k s 64 = 0 := by
  unfold Rk.gate
  have hr : ¬ (k < 0 ∨ k ≥ R.n ∨ s < 0 ∨ s ≥ R.ns) := by omega
  rw [if_neg (by simp [h.off]), if_neg hr, if_neg (by omega), if_neg (by rw [h.count]; omega), h.tick, if_neg (by simp [h.failed])]
theorem Calm.put {R : Rk} (h : Calm R) (k s : Int) (b : List Int) : Calm (R.put k s b) := by
  refine ⟨h.off, h.count, fun j => ?_, fun j => ?_⟩
  · simp only [Rk.put]; split
    · exact h.failed j
    · exact h.failed j
  · simp only [Rk.put]; split
    · exact h.counts j
    · exact h.counts j
theorem Calm.write {R : Rk} (h : Calm R) {k s : Int} {b : List Int} (hk : 0 ≤ k ∧ k < R.n) (hs : 0 ≤ s ∧ s < R.ns) (hb : b.length = 64) : R.gate k s b.length = 0 ∧ R.write k s b = R.put k s b := by
  have hg : R.gate k s b.length = 0 := by rw [hb]; exact h.gate hk hs
  obtain ⟨_, _, _, _, hgd⟩ := gate_ok hg
  exact ⟨hg, by rw [Rk.write, if_pos hg, hgd, h.tick]⟩
theorem Calm.rdErr {R : Rk} (h : Calm R) {k s : Int} (hk : 0 ≤ k ∧ k < R.n) (hs : 0 ≤ s ∧ s < R.ns) : R.rdErr k s = 0 := by
  unfold Rk.rdErr
  have hr : ¬ (k < 0 ∨ k ≥ R.n ∨ s < 0 ∨ s ≥ R.ns) := by omega
  rw [if_neg (by simp [h.off]), if_neg hr, if_neg (by simp [h.failed])]
theorem Calm.rd {R : Rk} (h : Calm R) {k s : Int} (hk : 0 ≤ k ∧ k < R.n) (hs : 0 ≤ s ∧ s < R.ns) : R.rd k s = (R.dk k.toNat).sec s := by
  rw [Rk.rd, if_pos (h.rdErr hk hs)]
theorem put_sec (R : Rk) (k s : Int) (b : List Int) (j : Nat) (i : Int) : ((R.put k s b).dk j).sec i = if j = k.toNat ∧ i = s then b else (R.dk j).sec i := by
  simp only [Rk.put]
  by_cases hj : j = k.toNat
  · by_cases hi : i = s
    · simp [hj, hi, Dk.sec]
    · simp [hj, hi, Dk.sec]
  · simp [hj]
theorem Calm.failedB {R : Rk} (h : Calm R) (k : Int) : R.failedB k = false := by
  unfold Rk.failedB; split
  · exact h.failed _
  · rfl
theorem Calm.every {s : Int} {b : List Int} : ∀ {xs : List Int} {R : Rk}, Calm R → (∀ d ∈ xs, 0 ≤ d ∧ d < R.n) → 0 ≤ s ∧ s < R.ns → b.length = 64 → everyL s b xs R 0 = (xs.foldl (fun R d => R.put d s b) R, 0)
  | [], R, _, _, _, _ => rfl
  | d :: xs, R, h, hx, hs, hb => by
    have hw := h.write (hx d (by simp)) hs hb
    simp only [everyL, hw.1, hw.2]
    rw [if_neg (by omega), if_neg (by omega)]
    exact Calm.every (h.put d s b) (fun d' hd' => hx d' (by simp [hd'])) hs hb
theorem Calm.all_len {R : Rk} (h : Calm R) {s : Int} {xs : List Int} (hx : ∀ d ∈ xs, 0 ≤ d ∧ d < R.n) (hs : 0 ≤ s ∧ s < R.ns) : (allL s xs R).length = xs.length := by
  simp only [allL, List.length_map]
  rw [List.filter_eq_self.2 fun d hd => by simp [h.rdErr (hx d hd) hs]]
end Go.Proofs.Ytldmeimebebllaa
namespace Go.Proofs.Ytldmeimebebllaa
open Go.Mo
set_option linter.unusedVariables false
variable {g : Fr} {cv : CV}
theorem rows_len (t : Slc) (l : List (List Int)) : Ent (rows t l) (pr (t.len = l.length)) := ex_ent fun sl o ho => (ent_left _ _ o (ent_left _ _ o ho)).2
theorem spare_pure {slot s : Int} {b : List Int} (h0 : 0 ≤ slot ∧ slot ≤ 2) : True := trivial
theorem law06_BankSpare_spec (hcv : DisksOk cv) (slot s : Int) (d : Slc) (b : List Int) (state : Int) : wps g (byt d b) (law06_BankSpare cv slot s d state) (fun r => pr (r = true)) := by
  unfold law06_BankSpare
  refine wps_callE (fun _ => law06_alive_spec) fun x => ?_
  refine wps_prP fun hx => ?_
  subst hx
  refine wps_fact (len_of (H := byt d b) (Ent.refl _)) fun hlen => ?_
  refine wps_ite (fun h => absurd h (by decide)) (fun _ => ?_)
  repeat (first
    | (with_reducible refine wps_bindpure ?_)
    | (with_reducible refine wps_assoc ?_)
    | (with_reducible refine wps_nil ?_)
    | (with_reducible refine wps_stepAlloc fun _ => ?_)
    | (with_reducible refine wps_alloc fun _ => ?_)
    | (with_reducible refine wps_newO fun _ => ?_)
    | (refine wps_ld _ (by rfl) ?_)
    | (refine wps_ldG _ _ _ (by rfl) ?_)
    | (refine wps_ldA _ (by rfl) ?_)
    | (refine wps_ldI _ (by rfl) ?_)
    | (refine wps_ldGI _ _ _ (by rfl) ?_)
    | (refine wps_ldAI _ (by rfl) ?_)
    | (refine wps_st (by simp) ?_)
    | (refine wps_stA (by simp) (by simp [Value.oneCell']) ?_)
    | ((with_reducible apply wps_val); apply val_ite; rotate_left; refine fun (_ : ¬ _) => ?_; rotate_right; refine fun (_ : _ = true) => ?_)
    | ((with_reducible apply val_ite); rotate_left; refine fun (_ : ¬ _) => ?_; rotate_right; refine fun (_ : _ = true) => ?_)
    | (with_reducible refine wps_regionH ?_)
    | ((with_reducible apply wps_bindV); apply val_iteL; rotate_left; refine fun (_ : ¬ _) => ?_; rotate_right; refine fun (_ : _ = true) => ?_)
    | ((with_reducible apply val_iteL); rotate_left; refine fun (_ : ¬ _) => ?_; rotate_right; refine fun (_ : _ = true) => ?_)
    | (with_reducible exact wps_pure (ent_val rfl)))
  refine wps_ite (fun _ => wps_pure (ent_prq rfl)) (fun hd => ?_)
  have hd1 : ((d.len : Int) = 64) ∧ 0 ≤ slot ∧ slot ≤ 2 ∧ 0 ≤ s ∧ s < 41 ∧ 1 ≤ state ∧ state ≤ 2 := by
    by_cases a1 : (d.len : Int) = 64
    · by_cases a2 : slot < 0
      · simp [a1, a2] at hd
      · by_cases a3 : slot > 2
        · simp [a1, a2, a3] at hd
        · by_cases a4 : s < 0
          · simp [a1, a2, a3, a4] at hd
          · by_cases a5 : s ≥ 41
            · simp [a1, a2, a3, a4, a5] at hd
            · by_cases a6 : state < 1
              · simp [a1, a2, a3, a4, a5, a6] at hd
              · by_cases a7 : state > 2
                · simp [a1, a2, a3, a4, a5, a6, a7] at hd
                · omega
    · simp [a1] at hd
  obtain ⟨hl, hs0, hs2, hc0, hc41, ht1, ht2⟩ := hd1
  have hb64 : b.length = 64 := by omega
  repeat (first
    | (with_reducible refine wps_val (law06_Small_val) ?_)
    | (with_reducible refine wps_stepV (law06_Small_val) ?_)
    | (with_reducible refine wps_val (geo_Sectors_val _) ?_)
    | (with_reducible refine wps_stepV (geo_Sectors_val _) ?_)
    | (with_reducible refine wps_bindpure ?_)
    | (with_reducible refine wps_assoc ?_)
    | (with_reducible refine wps_nil ?_)
    | (with_reducible refine wps_stepAlloc fun _ => ?_)
    | (with_reducible refine wps_alloc fun _ => ?_)
    | (with_reducible refine wps_newO fun _ => ?_)
    | (refine wps_ld _ (by rfl) ?_)
    | (refine wps_ldG _ _ _ (by rfl) ?_)
    | (refine wps_ldA _ (by rfl) ?_)
    | (refine wps_ldI _ (by rfl) ?_)
    | (refine wps_ldGI _ _ _ (by rfl) ?_)
    | (refine wps_ldAI _ (by rfl) ?_)
    | (refine wps_st (by simp) ?_)
    | (refine wps_stA (by simp) (by simp [Value.oneCell']) ?_)
    | ((with_reducible apply wps_val); apply val_ite; rotate_left; refine fun (_ : ¬ _) => ?_; rotate_right; refine fun (_ : _ = true) => ?_)
    | ((with_reducible apply val_ite); rotate_left; refine fun (_ : ¬ _) => ?_; rotate_right; refine fun (_ : _ = true) => ?_)
    | (with_reducible refine wps_regionH ?_)
    | ((with_reducible apply wps_bindV); apply val_iteL; rotate_left; refine fun (_ : ¬ _) => ?_; rotate_right; refine fun (_ : _ = true) => ?_)
    | ((with_reducible apply val_iteL); rotate_left; refine fun (_ : ¬ _) => ?_; rotate_right; refine fun (_ : _ = true) => ?_)
    | (with_reducible exact wps_pure (ent_val rfl)))
  rw [Small_sect]
  rename_i c9
  refine wps_callE (fun _ => device_New_spec 4 41) fun x => ?_
  rw [if_neg (by decide), show Rk.new (Int.toNat 4) (Int.toNat 41) = Rk.new 4 41 from rfl]
  refine wps_exP fun rb => ?_
  rw [← star_assoc]
  refine wps_prP fun hx => ?_
  subst hx
  unfold rack
  refine wps_exP fun ds => wps_exP fun ps => ?_
  repeat (first
    | (with_reducible refine wps_bindpure ?_)
    | (with_reducible refine wps_assoc ?_)
    | (with_reducible refine wps_nil ?_)
    | (with_reducible refine wps_stepAlloc fun _ => ?_)
    | (with_reducible refine wps_alloc fun _ => ?_)
    | (with_reducible refine wps_newO fun _ => ?_)
    | (refine wps_ld _ (by rfl) ?_)
    | (refine wps_ldG _ _ _ (by rfl) ?_)
    | (refine wps_ldA _ (by rfl) ?_)
    | (refine wps_ldI _ (by rfl) ?_)
    | (refine wps_ldGI _ _ _ (by rfl) ?_)
    | (refine wps_ldAI _ (by rfl) ?_)
    | (refine wps_st (by simp) ?_)
    | (refine wps_stA (by simp) (by simp [Value.oneCell']) ?_)
    | ((with_reducible apply wps_val); apply val_ite; rotate_left; refine fun (_ : ¬ _) => ?_; rotate_right; refine fun (_ : _ = true) => ?_)
    | ((with_reducible apply val_ite); rotate_left; refine fun (_ : ¬ _) => ?_; rotate_right; refine fun (_ : _ = true) => ?_)
    | (with_reducible refine wps_regionH ?_)
    | ((with_reducible apply wps_bindV); apply val_iteL; rotate_left; refine fun (_ : ¬ _) => ?_; rotate_right; refine fun (_ : _ = true) => ?_)
    | ((with_reducible apply val_iteL); rotate_left; refine fun (_ : ¬ _) => ?_; rotate_right; refine fun (_ : _ = true) => ?_)
    | (with_reducible exact wps_pure (ent_val rfl)))
  refine wps_callH (fun _ => bank_Open_spec rb (Rk.new 4 41) ds ps (3, 3, 12) (0, 0, 0)) fun x => ?_
  rw [if_pos (by decide)]
  refine wps_exP fun bb => ?_
  simp only [← star_assoc]
  refine wps_prP fun hx => ?_
  subst hx
  have hC0 : Calm (Rk.new 4 41) := Calm.new 4 41
  have hsr : 0 ≤ s ∧ s < ((Rk.new 4 41).ns : Int) := ⟨hc0, hc41⟩
  have hdl : disksL (3, 3, 12) (0, 0, 0) = [0, 1, 2, 3] := by decide
  have hev := hC0.every (s := s) (b := b) (xs := [0, 1, 2, 3]) (by decide) hsr hb64
  generalize hR1 : [0, 1, 2, 3].foldl (fun R d => R.put d s b) (Rk.new 4 41) = R1 at hev
  have hC1 : Calm R1 := by
    rw [← hR1]; exact (((hC0.put 0 s b).put 1 s b).put 2 s b).put 3 s b
  have hn1 : R1.n = 4 := by rw [← hR1]; rfl
  have hns1 : R1.ns = 41 := by rw [← hR1]; rfl
  have hsec1 : ∀ i : Nat, i < 4 → (R1.dk i).sec s = b := by
    intro i hi
    rw [← hR1]
    simp only [List.foldl, put_sec]
    have : i = 0 ∨ i = 1 ∨ i = 2 ∨ i = 3 := by omega
    rcases this with e | e | e | e <;> subst e <;> simp
  have hsr1 : 0 ≤ s ∧ s < (R1.ns : Int) := by rw [hns1]; exact ⟨hc0, hc41⟩
  refine wps_val (v := false) (wps_ite (fun h => absurd h (by simp)) (fun _ => wps_pure (ent_val (by simp)))) ?_
  refine wps_bite (fun h => absurd h (by simp)) (fun _ => wps_assoc ?_)
  refine wps_call (fun _ => bank_Everywhere_spec (H := byt d b) hcv bb rb (3, 3, 12) (0, 0, 0) (by decide) (Rk.new 4 41) ds ps s d b (Ent.refl _) (by omega)) (by rw [← star_assoc, ← star_assoc]; exact ent_pick (ent_pick (ent_pick (Ent.refl _)))) fun e => ?_
  rw [hdl, hev]
  simp only [← star_assoc]
  refine wps_prP fun he => ?_
  subst he
  refine wps_bindpure ?_
  refine wps_bite (fun h => absurd h (by simp)) (fun _ => wps_assoc ?_)
  refine wps_call (fun _ => bank_All_spec hcv bb rb (3, 3, 12) (0, 0, 0) (by decide) R1 ds ps s) (by rw [← star_assoc]; exact ent_pick (ent_pick (Ent.refl _))) fun t => ?_
  rw [hdl, ← star_assoc, ← star_assoc]
  refine wps_fact (Ent.trans (ent_right _ _) (rows_len _ _)) fun hl4 => ?_
  have hl4' : t.len = 4 := by rw [hl4, hC1.all_len (by rw [hn1]; decide) hsr1]; rfl
  refine wps_bindpure ?_
  rw [hl4']
  refine wps_ite (fun h => absurd h (by decide)) (fun _ => ?_)
  refine wps_loop (fun i => ex fun n : Nat => pr (i = (n : Int) ∧ n ≤ 4) * byt d b * bnk bb rb (3, 3, 12) (0, 0, 0) * rackP rb R1 ds ps) (fun i => (4 - i).toNat) ?_ fun i => ?_
  · refine ent_ex 0 (ent_pick (ent_pick (ent_pick ?_)))
    exact ent_prq ⟨rfl, by omega⟩
  · refine wps_ex fun n => wps_prP fun ⟨hi, hn⟩ => ?_
    refine wps_ite (fun hc => ?_) (fun hc => ?_)
    · have hlt : n < 4 := by simp only [decide_eq_true_eq] at hc; omega
      have hk : 0 ≤ i ∧ i < (R1.n : Int) := by rw [hn1]; omega
      refine wps_callH (fun _ => device_Rack_Read_spec rb R1 ds ps i s) fun x => ?_
      rw [hC1.rdErr hk hsr1, hC1.rd hk hsr1, hsec1 i.toNat (by omega)]
      simp only [← star_assoc]
      refine wps_prP fun hx => ?_
      rw [hx]
      refine wps_val (v := false) (wps_ite (fun h => absurd h (by simp)) (fun _ => ?_)) ?_
      · refine wps_val (ref00_SameBytes_val (x := b) (y := b) ?_ ?_ (by omega)) (wps_pure (ent_val (by simp)))
        · exact Ent.trans (ent_right _ _) (own_rsl _ _ _)
        · exact ent_drop
      · refine wps_ite (fun h => absurd h (by simp)) (fun _ => wps_pure ?_)
        refine ent_prr (by rw [range_add1 hi (by omega)]; omega) (ent_ex (n + 1) (ent_pick (ent_pick (ent_pick ?_))))
        exact ent_prq ⟨range_add1 hi (by omega), by omega⟩
    · refine wps_mapR ?_
      refine wps_callH (fun _ => bank_Join_spec bb rb (3, 3, 12) (0, 0, 0) (1, slot, state)) fun _ => ?_
      have hfit : FitsB (3, 3, 12) (1, slot, state) = true := by
        have : state = 1 ∨ state = 2 := by omega
        have hh : slot < 3 := by omega
        rcases this with e | e <;> subst e <;> simp [FitsB, hs0, hh]
      rw [if_pos hfit]
      repeat (first
        | (with_reducible refine wps_bindpure ?_)
        | (with_reducible refine wps_assoc ?_)
        | (with_reducible refine wps_nil ?_)
        | (with_reducible refine wps_stepAlloc fun _ => ?_)
        | (with_reducible refine wps_alloc fun _ => ?_)
        | (with_reducible refine wps_newO fun _ => ?_)
        | (refine wps_ld _ (by rfl) ?_)
        | (refine wps_ldG _ _ _ (by rfl) ?_)
        | (refine wps_ldA _ (by rfl) ?_)
        | (refine wps_ldI _ (by rfl) ?_)
        | (refine wps_ldGI _ _ _ (by rfl) ?_)
        | (refine wps_ldAI _ (by rfl) ?_)
        | (refine wps_st (by simp) ?_)
        | (refine wps_stA (by simp) (by simp [Value.oneCell']) ?_)
        | ((with_reducible apply wps_val); apply val_ite; rotate_left; refine fun (_ : ¬ _) => ?_; rotate_right; refine fun (_ : _ = true) => ?_)
        | ((with_reducible apply val_ite); rotate_left; refine fun (_ : ¬ _) => ?_; rotate_right; refine fun (_ : _ = true) => ?_)
        | (with_reducible refine wps_regionH ?_)
        | ((with_reducible apply wps_bindV); apply val_iteL; rotate_left; refine fun (_ : ¬ _) => ?_; rotate_right; refine fun (_ : _ = true) => ?_)
        | ((with_reducible apply val_iteL); rotate_left; refine fun (_ : ¬ _) => ?_; rotate_right; refine fun (_ : _ = true) => ?_)
        | (with_reducible exact wps_pure (ent_val rfl)))
      rename_i z
      have hsl : slotV (3, 3, 12) (1, slot, state) slot = (3, true) := by
        have h1 : ¬ (slot < 0 ∨ slot ≥ 3) := by omega
        have h2 : state ≠ 0 := by omega
        simp only [slotV]
        rw [if_neg h1, if_pos ⟨h2, trivial⟩]
      have h3 : (0 : Int) ≤ 3 ∧ (3 : Int) < (R1.n : Int) := by rw [hn1]; decide
      have hw := hC1.write (b := noughts) h3 hsr1 (by simp [noughts])
      refine wps_swap (A := pc z (List.replicate 64 (Value.int .u8 0))) (B := byt ⟨some ⟨z, 0, none⟩, 64, 64⟩ noughts) (Ent.trans (Ent.trans (pc_own (n := 64) (z := 1) (by simp)) (own_rsl _ _ _)) (Ent.of_eq (by rw [byt, bv_noughts]))) ?_
      refine wps_call (fun _ => bank_Write_spec (H := byt ⟨some ⟨z, 0, none⟩, 64, 64⟩ noughts) bb rb (3, 3, 12) (1, slot, state) R1 ds ps slot s _ noughts (Ent.refl _) (by decide)) (by rw [← star_assoc, ← star_assoc]; exact ent_pick (ent_pick (ent_pick (Ent.refl _)))) fun e => ?_
      simp only [hsl, if_true, hw.1, hw.2, ← star_assoc]
      refine wps_prP fun he => ?_
      subst he
      have hC2 : Calm (R1.put 3 s noughts) := hC1.put _ _ _
      have hn2 : (R1.put 3 s noughts).n = 4 := hn1
      have hsr2 : 0 ≤ s ∧ s < ((R1.put 3 s noughts).ns : Int) := hsr1
      have hst0 : ¬ state = 0 := by omega
      have hdl2 : disksL (3, 3, 12) (1, slot, state) = [0, 1, 2].map fun i : Nat => (slotV (3, 3, 12) (1, slot, state) i).1 := by
        simp only [disksL, if_neg hst0, List.append_nil]
        rfl
      have hsv : ∀ i : Nat, i < 3 → 0 ≤ (slotV (3, 3, 12) (1, slot, state) i).1 ∧ (slotV (3, 3, 12) (1, slot, state) i).1 < 4 := by
        intro i hi
        simp only [slotV]
        split
        · omega
        · split <;> omega
      have hdr : ∀ d ∈ disksL (3, 3, 12) (1, slot, state), 0 ≤ d ∧ d < ((R1.put 3 s noughts).n : Int) := by
        rw [hdl2, hn2]
        intro d hd
        simp only [List.mem_map] at hd
        obtain ⟨i, hi, rfl⟩ := hd
        exact hsv i (by simp at hi; omega)
      refine wps_bite (fun h => absurd h (by simp)) (fun _ => wps_assoc ?_)
      refine wps_call (fun _ => bank_All_spec hcv bb rb (3, 3, 12) (1, slot, state) (by decide) (R1.put 3 s noughts) ds ps s) (by rw [← star_assoc]; exact ent_pick (ent_pick (Ent.refl _))) fun t2 => ?_
      rw [← star_assoc, ← star_assoc]
      refine wps_fact (Ent.trans (ent_right _ _) (rows_len _ _)) fun hl3 => ?_
      have hl3' : t2.len = 3 := by rw [hl3, hC2.all_len hdr hsr2, hdl2]; rfl
      refine wps_bindpure ?_
      rw [hl3']
      refine wps_ite (fun h => absurd h (by decide)) (fun _ => ?_)
      have hks : 0 ≤ slot ∧ slot < ((R1.put 3 s noughts).n : Int) := by rw [hn2]; omega
      have hk3 : (0 : Int) ≤ 3 ∧ (3 : Int) < ((R1.put 3 s noughts).n : Int) := by rw [hn2]; decide
      have hr1 : (R1.put 3 s noughts).rd slot s = b := by
        rw [hC2.rd hks hsr2, put_sec, if_neg (by rintro ⟨h, _⟩; simp at h; omega)]
        exact hsec1 slot.toNat (by omega)
      have hr2 : (R1.put 3 s noughts).rd 3 s = noughts := by
        rw [hC2.rd hk3 hsr2, put_sec, if_pos ⟨rfl, rfl⟩]
      refine wps_callH (fun _ => device_Rack_Read_spec rb (R1.put 3 s noughts) ds ps slot s) fun y1 => ?_
      rw [hr1]
      simp only [← star_assoc]
      refine wps_prP fun _ => ?_
      refine wps_callH (fun _ => device_Rack_Read_spec rb (R1.put 3 s noughts) ds ps 3 s) fun y2 => ?_
      rw [hr2]
      simp only [← star_assoc]
      refine wps_prP fun _ => ?_
      refine wps_val (ref00_SameBytes_val (x := b) (y := b) ?_ ?_ (by omega)) ?_
      · exact Ent.trans (ent_drop (B := own 1 y1.1 (bv b))) (own_rsl _ _ _)
      · exact ent_drop
      rw [decide_eq_true rfl]
      refine wps_bite (fun _ => wps_assoc ?_) (fun h => absurd rfl h)
      refine wps_val (ref00_SameBytes_val (x := noughts) (y := noughts) ?_ ?_ (by simp [noughts])) ?_
      · exact Ent.trans (ent_drop (B := own 1 y2.1 (bv noughts))) (own_rsl _ _ _)
      · exact ent_drop
      rw [decide_eq_true rfl]
      refine wps_bindpure (wps_bite (fun _ => wps_assoc ?_) (fun h => absurd rfl h))
      refine wps_call (fun _ => bank_Bad_spec bb rb (3, 3, 12) (1, slot, state) (R1.put 3 s noughts) ds ps (by decide)) (by rw [← star_assoc]; exact ent_pick (ent_pick (Ent.refl _))) fun y3 => ?_
      rw [← star_assoc]
      refine wps_fact (Ent.trans (ent_right _ _) (own_len _ _ _)) fun ⟨hbl, _⟩ => ?_
      refine wps_bindpure (wps_pure (ent_prq ?_))
      have hbad : badL (3, 3, 12) (1, slot, state) (R1.put 3 s noughts) = [0, 1, 2].filter fun i : Nat => state == 1 && slot == i := by
        simp only [badL]
        congr 1
        funext i
        simp [isBad, hC2.failedB]
      have hlb : y3.len = ([0, 1, 2].filter fun i : Nat => state == 1 && slot == (i : Int)).length := by
        rw [← hbad]
        simpa [iv] using hbl.symm
      rw [hlb]
      have hslot : slot = 0 ∨ slot = 1 ∨ slot = 2 := by omega
      have hstate : state = 1 ∨ state = 2 := by omega
      rcases hslot with e | e | e <;> rcases hstate with e' | e' <;> subst e e' <;> rfl
end Go.Proofs.Ytldmeimebebllaa
namespace Go.Mo
set_option linter.unusedVariables false

/-! ## Ranges over maps -/
structure ItrOk (es : Array MapEntry) (clock : Nat) (seen : Array Nat) (f : Int → Option Value) (V : Int → Bool) : Prop where
  map : MapOk es.toList clock f
  seen : ∀ e ∈ es.toList, ∀ k, keyIs k e = true → seen.contains e.born = V k
def itrC (it m : Nat) (es : Array MapEntry) (clock : Nat) (seen : Array Nat) : HP := po it (.mapIter (some m) clock seen clock) * po m (.map es clock)
def itr (it m : Nat) (f : Int → Option Value) (V : Int → Bool) : HP := ex fun es : Array MapEntry => ex fun clock : Nat => ex fun seen : Array Nat => pr (ItrOk es clock seen f V) * itrC it m es clock seen
def itrAt (it m : Nat) (f : Int → Option Value) (V : Int → Bool) (j : Int) (v : Value) : HP := ex fun es : Array MapEntry => ex fun clock : Nat => ex fun seen : Array Nat =>
  pr (ItrOk es clock seen f (fun i => V i || i == j) ∧ ∃ e ∈ es.toList, e.key = .int .i64 j ∧ e.val = v ∧ seen.back? = some e.born) * itrC it m es clock seen
theorem itr_imap (it m : Nat) (f : Int → Option Value) (V : Int → Bool) : Ent (itr it m f V) (imap m f) :=
  ex_ent fun es => ex_ent fun clock => ex_ent fun seen => pr_ent fun h => ent_ex es (ent_ex clock (ent_prr h.map (ent_right _ _)))
/-- entries with one stamp are one -/
theorem MapOk.one {es : List MapEntry} {clock : Nat} {f : Int → Option Value} (h : MapOk es clock f) {e e' : MapEntry} (he : e ∈ es) (he' : e' ∈ es) (hb : e.born = e'.born) : e = e' := by
  obtain ⟨i, hi, rfl⟩ := List.mem_iff_getElem.1 he
  obtain ⟨j, hj, rfl⟩ := List.mem_iff_getElem.1 he'
  have hp := List.pairwise_iff_getElem.1 h.born
  rcases Nat.lt_trichotomy i j with hlt | heq | hgt
  · have := hp i j (by simpa using hi) (by simpa using hj) hlt
    simp only [List.getElem_map] at this
    omega
  · subst heq; rfl
  · have := hp j i (by simpa using hj) (by simpa using hi) hgt
    simp only [List.getElem_map] at this
    omega
section
variable {α β σ γ κ : Type} {g : Fr} {H H' : HP} {Q : α → HP}
theorem wps_rangeMap {k : Addr → M α} {m : Nat} {f : Int → Option Value} [hp : PickM m H f H'] (h : ∀ it, wps g (H' * itr it m f (fun _ => false)) (k ⟨it, 0, none⟩) Q) : wps g H (bindM (rangeMapM (some m)) k) Q := fun w a Qf ho ha hq => by
  rw [hp.eq] at ha
  obtain ⟨es, clock, hm, ha⟩ := imap_open ha
  refine ⟨es, clock, own_po ho ha, ?_⟩
  have hpu := own_push ho (.mapIter (some m) clock #[] clock) (World.pushO w (.mapIter (some m) clock #[] clock)) rfl ⟨rfl, rfl⟩ (fun _ _ _ h => by cases h)
  have q1 : (H' * po m (.map es clock) * po w.heap.size (.mapIter (some m) clock #[] clock)).p _ := ⟨a, _, hpu.2, Hp.le_refl _, ha, by simp [po]⟩
  refine h w.heap.size _ _ Qf hpu.1 (?_ : HP.p _ _) hq
  refine Ent.trans (Ent.of_eq (star_assoc _ _ _)) (Ent.starr ?_) _ q1
  refine ent_ex es (ent_ex clock (ent_ex #[] (ent_prr ⟨hm, fun e he k hk => by simp⟩ ?_)))
  rw [star_comm]; exact Ent.refl _
theorem ex3_open {γ1 γ2 γ3 : Type} {A : HP} {B : γ1 → γ2 → γ3 → HP} {a : Hp} (h : (A * ex fun x => ex fun y => ex fun z => B x y z).p a) : ∃ x y z, (A * B x y z).p a := by
  obtain ⟨a1, a2, hd, hl, h1, x, y, z, h2⟩ := h
  exact ⟨x, y, z, a1, a2, hd, hl, h1, h2⟩
theorem wps_next {k : Option (Value × Value) → M α} {it m : Nat} {f : Int → Option Value} {V : Int → Bool} (hH : H = H' * itr it m f V)
    (h0 : (∀ j v, f j = some v → V j = true) → wps g (H' * itr it m f V) (k none) Q)
    (h1 : ∀ j v, f j = some v → V j = false → wps g (H' * itrAt it m f V j v) (k (some (.int .i64 j, v))) Q) : wps g H (bindM (nextM ⟨it, 0, none⟩) k) Q := fun w a Qf ho ha hq => by
  rw [hH] at ha
  obtain ⟨es, clock, seen, ha⟩ := ex3_open ha
  rw [star_left_comm] at ha
  have hok : ItrOk es clock seen f V := ent_left _ _ a ha
  have ha := ent_right _ _ a ha
  have ham : (H' * po it (.mapIter (some m) clock seen clock) * po m (.map es clock)).p a := by rw [star_assoc]; exact ha
  have hai : (H' * po m (.map es clock) * po it (.mapIter (some m) clock seen clock)).p a := by rw [star_right_comm]; exact ham
  have hmem := own_po ho ham
  have hit := own_po ho hai
  refine ⟨rfl, .inr ⟨m, clock, seen, clock, es, clock, hit, hmem, ?_, ?_, ?_⟩⟩
  · cases hes : es.isEmpty with
    | true => simp
    | false =>
      have : ¬ (es.all fun e => decide (e.born ≥ clock)) = true := by
        intro hall
        rw [Array.all_eq_true_iff_forall_mem] at hall
        have hne : es.size ≠ 0 := by
          intro h0; simp at h0; simp [h0] at hes
        have h1 := hall es[0] (Array.getElem_mem (by omega))
        have h2 := hok.map.below es[0] (by rw [Array.mem_toList_iff]; exact Array.getElem_mem (by omega))
        simp at h1; omega
      simp only [Bool.and_eq_false_iff]
      right
      simpa using this
  · unfold iterCands
    simp only
    split
    · simp
    · rename_i hne
      have h2 : 0 < ((iterLeft es seen).filter fun x => decide (x.born < clock)).size := by
        rw [Array.isEmpty_iff_size_eq_zero] at hne
        omega
      simp only [Array.size_append, Array.size_map]
      omega
  · intro c hc
    have hmemc : (c = none ∧ ∀ e ∈ es.toList, seen.contains e.born = true) ∨ ∃ e ∈ es.toList, seen.contains e.born = false ∧ c = some e := by
      unfold iterCands at hc
      simp only at hc
      rw [Array.mem_append] at hc
      rcases hc with hc | hc
      · split at hc
        · rename_i hem
          left
          refine ⟨by simpa using hc, fun e he => ?_⟩
          rw [Array.isEmpty_iff_size_eq_zero, Array.size_eq_zero_iff, Array.filter_eq_empty_iff] at hem
          cases hs : seen.contains e.born with
          | true => rfl
          | false =>
            have hl : e ∈ iterLeft es seen := by
              unfold iterLeft
              rw [Array.mem_filter]
              exact ⟨Array.mem_toList_iff.1 he, by simp only [hs]; rfl⟩
            exact absurd (decide_eq_true (hok.map.below e he)) (hem e hl)
        · simp at hc
      · right
        rw [Array.mem_map] at hc
        obtain ⟨e, he, rfl⟩ := hc
        have hl : e ∈ iterLeft es seen := by
          rw [Array.mem_append] at he
          rcases he with he | he
          · exact (Array.mem_filter.1 he).1
          · exact (Array.mem_filter.1 he).1
        unfold iterLeft at hl
        rw [Array.mem_filter] at hl
        exact ⟨e, Array.mem_toList_iff.2 hl.1, by simpa using hl.2, rfl⟩
    rcases hmemc with ⟨rfl, hall⟩ | ⟨e, he, hs, rfl⟩
    · have hall' : ∀ j v, f j = some v → V j = true := fun j v hj => by
        obtain ⟨e, he, hk, _⟩ := (hok.map.find j v).1 hj
        rw [← hok.seen e he j hk]
        exact hall e he
      have hpost : (H' * itr it m f V).p a := by
        refine Ent.starr ?_ a ha
        exact ent_ex es (ent_ex clock (ent_ex seen (ent_prr hok (Ent.refl _))))
      exact ⟨h0 hall' w a Qf ho hpost hq, h0 hall' (drawW w) a Qf (own_draw ho) hpost hq⟩
    · obtain ⟨j, hj⟩ := hok.map.keys e he
      have hkj : keyIs j e = true := by rw [keyIs_int hj]; simp
      have hfj : f j = some e.val := (hok.map.find j e.val).2 ⟨e, he, hkj, rfl⟩
      have hVj : V j = false := by rw [← hok.seen e he j hkj]; exact hs
      have hok' : ItrOk es clock (seen.push e.born) f (fun i => V i || i == j) := ⟨hok.map, fun e' he' i hi => by
        have h2 := hok.seen e' he' i hi
        obtain ⟨n', hn'⟩ := hok.map.keys e' he'
        have hni : i = n' := by rw [keyIs_int hn'] at hi; simpa using hi
        have hcp : (seen.push e.born).contains e'.born = (seen.contains e'.born || e'.born == e.born) := by
          rw [Bool.eq_iff_iff]; simp [Array.mem_push]
        rw [hcp, h2]
        congr 1
        by_cases hb : e'.born = e.born
        · have := hok.map.one he' he hb
          subst this
          rw [hj] at hn'; cases hn'
          simp [hni]
        · have : ¬ i = j := by
            intro hij
            subst hij
            obtain ⟨x, hx⟩ := List.mem_iff_getElem?.1 he'
            obtain ⟨y, hy⟩ := List.mem_iff_getElem?.1 he
            have hxy := hok.map.once x y e' e i hx hy hi hkj
            subst hxy
            rw [hx] at hy
            exact hb (by rw [Option.some.inj hy])
          rw [show (e'.born == e.born) = false from by simpa using hb, show (i == j) = false from by simpa using this]⟩
      have step : ∀ w1, Own w1 a g → nextPost (fun y w' => k y Qf w') it m clock seen clock w1 (some e) := by
        intro w1 ho1
        obtain ⟨a', ho', ha'⟩ := own_put (.mapIter (some m) clock (seen.push e.born) clock) (fun _ _ _ h => by cases h) ho1 hai
        show k (some (e.key, e.val)) Qf _
        rw [hj]
        refine h1 j e.val hfj hVj _ a' Qf ho' ?_ hq
        refine Ent.trans (Ent.of_eq (star_assoc _ _ _)) (Ent.starr ?_) a' ha'
        refine ent_ex es (ent_ex clock (ent_ex (seen.push e.born) (ent_prr ⟨hok', e, he, hj, rfl, by simp⟩ ?_)))
        unfold itrC
        rw [star_comm]; exact Ent.refl _
      exact ⟨step w ho, step (drawW w) (own_draw ho)⟩
theorem wps_entry {ev : β → Value} {k : Int × β → M α} {it m : Nat} {f : Int → Option Value} {V : Int → Bool} {j : Int} {v : Value} (y : β) (hH : H = H' * itrAt it m f V j v) (hy : v = ev y)
    (h : wps g (H' * itr it m f (fun i => V i || i == j)) (k (j, y)) Q) : wps g H (bindM (entryM (Value.int .i64) ev ⟨it, 0, none⟩) k) Q := fun w a Qf ho ha hq => by
  rw [hH] at ha
  obtain ⟨es, clock, seen, ha⟩ := ex3_open ha
  rw [star_left_comm] at ha
  obtain ⟨hok, e, he, hk, hv, hb⟩ := ent_left _ _ a ha
  have ha := ent_right _ _ a ha
  have ham : (H' * po it (.mapIter (some m) clock seen clock) * po m (.map es clock)).p a := by rw [star_assoc]; exact ha
  have hai : (H' * po m (.map es clock) * po it (.mapIter (some m) clock seen clock)).p a := by rw [star_right_comm]; exact ham
  refine ⟨rfl, m, clock, seen, clock, es, clock, e.born, e, j, y, own_po ho hai, hb, own_po ho ham, rfl, ?_, hk, by rw [hv, hy], h w a Qf ho ?_ hq⟩
  · have : es.find? (fun x => x.born == e.born) = some e := by
      rw [← Array.find?_toList]
      cases hf : es.toList.find? (fun x => x.born == e.born) with
      | none =>
        rw [List.find?_eq_none] at hf
        exact absurd (by simp) (hf e he)
      | some e' =>
        have h1 := List.find?_some hf
        have h2 := List.mem_of_find?_eq_some hf
        rw [hok.map.one h2 he (by simpa using h1)]
    exact this
  · refine Ent.starr ?_ a ha
    exact ent_ex es (ent_ex clock (ent_ex seen (ent_prr hok (Ent.refl _))))
end
/-- how many are still to come -/
def toCome (n : Nat) (V : Int → Bool) : Nat := ((List.range n).filter fun i : Nat => !V (i : Int)).length
theorem toCome_lt {n : Nat} {V : Int → Bool} {j : Int} (hj : 0 ≤ j ∧ j < n) (hV : V j = false) : toCome n (fun i => V i || i == j) < toCome n V := by
  unfold toCome
  have hsub : ∀ l : List Nat, (l.filter fun i : Nat => !(V (i : Int) || (i : Int) == j)).length ≤ (l.filter fun i : Nat => !V (i : Int)).length := by
    intro l
    rw [← List.countP_eq_length_filter, ← List.countP_eq_length_filter]
    exact List.countP_mono_left fun x _ h => by
      cases hx : V (x : Int) with
      | true => rw [hx] at h; cases h
      | false => rfl
  obtain ⟨k, rfl⟩ : ∃ k : Nat, j = (k : Int) := ⟨j.toNat, by omega⟩
  have hk : k < n := by omega
  have hsplit : List.range n = List.range k ++ (k :: (List.range n).drop (k + 1)) := by
    have h1 := List.take_append_drop k (List.range n)
    rw [List.take_range, Nat.min_eq_left (by omega), List.drop_eq_getElem_cons (by simpa using hk)] at h1
    simpa using h1.symm
  rw [hsplit]
  simp only [List.filter_append, List.length_append, List.filter_cons]
  have a1 := hsub (List.range k)
  have a2 := hsub ((List.range n).drop (k + 1))
  simp [hV]
  simp at a1 a2
  omega
end Go.Mo
namespace Go.Proofs.Ytldmeimebebllaa
open Go.Mo
set_option linter.unusedVariables false
variable {g : Fr}
/-- what is cached lasts, where p says so -/
def Dk.flushed (D : Dk) (p : Int → Bool) : Dk := { D with lasts := fun k => match D.cached k with | some b => if p k then b else D.lasts k | none => D.lasts k }
def Dk.clean (D : Dk) : Dk := { D with cached := fun _ => none }
theorem Dk.ok_flushed {D : Dk} {ns : Nat} (h : D.ok ns) (p : Int → Bool) : (D.flushed p).ok ns := by
  refine ⟨fun k hk => ?_, h.2⟩
  simp only [Dk.flushed]
  cases hc : D.cached k with
  | none => exact h.1 k hk
  | some b =>
    simp only
    split
    · exact (h.2 k b hc).1
    · exact h.1 k hk
def Rk.setD (R : Rk) (j : Nat) (D : Dk) : Rk := { R with dk := fun i => if i = j then D else R.dk i }
def Rk.flush (R : Rk) (k : Int) : Rk := if R.gate k 0 64 = 0 then (R.gated k 0 64).setD k.toNat (((R.gated k 0 64).dk k.toNat).flushed fun _ => true).clean else R.gated k 0 64
theorem rackP_set {rb : Nat} {R : Rk} {ds : Slc} {ps : List Nat} {j : Nat} (D : Dk) (hj : j < R.n) :
    pr (ps.length = R.n ∧ ds.len = R.n ∧ R.n ≤ 17 ∧ R.ns ≤ 4096) * bst R.n (hole j (rackF R.ns R.dk ps)) * own 1 ds (ps.map pv) * pc rb [vS ds, .int .i64 R.ns, .int .i64 R.count, .bool R.off] * dskAt R.ns (ps.getD j 0) D = rackP rb (R.setD j D) ds ps := by
  rw [rackP_focus rb (R.setD j D) ds ps (j := j) hj]
  have hho : bst R.n (hole j (rackF R.ns R.dk ps)) = bst R.n (hole j (rackF R.ns (R.setD j D).dk ps)) := hole_congr fun i _ hne => by
    simp only [rackF, Rk.setD, if_neg hne]
  rw [hho]
  simp only [Rk.setD, if_true]
theorem device_Rack_Flush_spec (rb : Nat) (R : Rk) (ds : Slc) (ps : List Nat) (k : Int) :
    wps g (rackP rb R ds ps) (device_Rack_Flush (ptr rb) k) (fun e => pr (e = R.gate k 0 64) * rackP rb (R.flush k) ds ps) := by
  unfold device_Rack_Flush
  refine wps_bind (device_Rack_counted_spec rb R ds ps k 0 64) fun x => wps_pr fun hx => ?_
  subst hx
  by_cases h0 : R.gate k 0 64 = 0
  · obtain ⟨ho, hr, hs, hc, hgd⟩ := gate_ok h0
    refine wps_ite (fun _ => ?_) (fun h => absurd (by simp [gateV, h0]) h)
    have hlt : k.toNat < (R.gated k 0 64).n := by rw [hgd]; simp [Rk.ticked, hc]; omega
    have hfl : R.flush k = (R.gated k 0 64).setD k.toNat (((R.gated k 0 64).dk k.toNat).flushed fun _ => true).clean := by rw [Rk.flush, if_pos h0]
    have hgv : (gateV R ps k 0 64).1 = ptr (ps.getD k.toNat 0) := by simp [gateV, h0]
    have hgv2 : (gateV R ps k 0 64).2 = R.gate k 0 64 := rfl
    rw [hfl, hgv, hgv2, ← rackP_set _ hlt, rackP_focus rb (R.gated k 0 64) ds ps hlt]
    generalize R.gated k 0 64 = R1 at *
    generalize R1.dk k.toNat = D at *
    refine wps_tail (F := pr (ps.length = R1.n ∧ ds.len = R1.n ∧ R1.n ≤ 17 ∧ R1.ns ≤ 4096) * bst R1.n (hole k.toNat (rackF R1.ns R1.dk ps)) * own 1 ds (ps.map pv) * pc rb [vS ds, .int .i64 R1.ns, .int .i64 R1.count, .bool R1.off])
      (A := dskAt R1.ns (ps.getD k.toNat 0) D) (Q' := fun e => pr (e = R.gate k 0 64) * dskAt R1.ns (ps.getD k.toNat 0) (D.flushed fun _ => true).clean) (fun g => ?_) (Ent.refl _) (fun e => by rw [star_left_comm]; exact Ent.refl _)
    generalize ps.getD k.toNat 0 = p
    generalize R.gate k 0 64 = e0
    unfold dskAt dskX
    refine wps_ex fun ls => wps_ex fun mb => wps_ex fun sl => wps_ex fun sc => wps_prP fun hd => ?_
    repeat (first
      | (with_reducible refine wps_bindpure ?_)
      | (with_reducible refine wps_assoc ?_)
      | (with_reducible refine wps_nil ?_)
      | (with_reducible refine wps_stepAlloc fun _ => ?_)
      | (with_reducible refine wps_alloc fun _ => ?_)
      | (with_reducible refine wps_newO fun _ => ?_)
      | (refine wps_ld _ (by rfl) ?_)
      | (refine wps_ldG _ _ _ (by rfl) ?_)
      | (refine wps_ldA _ (by rfl) ?_)
      | (refine wps_ldI _ (by rfl) ?_)
      | (refine wps_ldGI _ _ _ (by rfl) ?_)
      | (refine wps_ldAI _ (by rfl) ?_)
      | (refine wps_st (by simp) ?_)
      | (refine wps_stA (by simp) (by simp [Value.oneCell']) ?_)
      | ((with_reducible apply wps_val); apply val_ite; rotate_left; refine fun (_ : ¬ _) => ?_; rotate_right; refine fun (_ : _ = true) => ?_)
      | ((with_reducible apply val_ite); rotate_left; refine fun (_ : ¬ _) => ?_; rotate_right; refine fun (_ : _ = true) => ?_)
      | (with_reducible refine wps_regionH ?_)
      | ((with_reducible apply wps_bindV); apply val_iteL; rotate_left; refine fun (_ : ¬ _) => ?_; rotate_right; refine fun (_ : _ = true) => ?_)
      | ((with_reducible apply val_iteL); rotate_left; refine fun (_ : ¬ _) => ?_; rotate_right; refine fun (_ : _ = true) => ?_)
      | (with_reducible exact wps_pure (ent_val rfl)))
    refine wps_rangeMap fun it => ?_
    have hD : D.ok R1.ns := hd.2.2
    refine wps_loopg (γ := (Int → Bool) × List Slc) (fun c _ => pr (c.2.length = R1.ns) * seqp c.2 (D.flushed c.1).lasts * cachep sc D.cached * own 1 ls (c.2.map vS) * pc p [vS ls, .map (some mb), .bool D.failed, .int .i64 D.count] * itr it mb (fun j => Option.map (fun _ => vS (sc j)) (D.cached j)) c.1) (fun c _ => toCome R1.ns c.1) (fun _ => false, sl) ?_ fun c _ => ?_
    · refine ent_pick (ent_pick (ent_pick (ent_pick ?_)))
      refine ent_prr hd.1 (Ent.trans (ent_drop (B := seqp sl D.lasts)) (seqp_ext fun i _ => ?_))
      simp only [Dk.flushed]
      cases D.cached i <;> rfl
    · obtain ⟨V, sl'⟩ := c
      simp only
      refine wps_prP fun hsl => ?_
      refine wps_next rfl (fun hall => ?_) (fun j v hj hV => ?_)
      · refine wps_mapR ?_
        repeat (first
          | (with_reducible refine wps_bindpure ?_)
          | (with_reducible refine wps_assoc ?_)
          | (with_reducible refine wps_nil ?_)
          | (with_reducible refine wps_stepAlloc fun _ => ?_)
          | (with_reducible refine wps_alloc fun _ => ?_)
          | (with_reducible refine wps_newO fun _ => ?_)
          | (refine wps_ld _ (by rfl) ?_)
          | (refine wps_ldG _ _ _ (by rfl) ?_)
          | (refine wps_ldA _ (by rfl) ?_)
          | (refine wps_ldI _ (by rfl) ?_)
          | (refine wps_ldGI _ _ _ (by rfl) ?_)
          | (refine wps_ldAI _ (by rfl) ?_)
          | (refine wps_st (by simp) ?_)
          | (refine wps_stA (by simp) (by simp [Value.oneCell']) ?_)
          | ((with_reducible apply wps_val); apply val_ite; rotate_left; refine fun (_ : ¬ _) => ?_; rotate_right; refine fun (_ : _ = true) => ?_)
          | ((with_reducible apply val_ite); rotate_left; refine fun (_ : ¬ _) => ?_; rotate_right; refine fun (_ : _ = true) => ?_)
          | (with_reducible refine wps_regionH ?_)
          | ((with_reducible apply wps_bindV); apply val_iteL; rotate_left; refine fun (_ : ¬ _) => ?_; rotate_right; refine fun (_ : _ = true) => ?_)
          | ((with_reducible apply val_iteL); rotate_left; refine fun (_ : ¬ _) => ?_; rotate_right; refine fun (_ : _ = true) => ?_)
          | (with_reducible exact wps_pure (ent_val rfl)))
        refine wps_swap (itr_imap it mb (fun j => Option.map (fun _ => vS (sc j)) (D.cached j)) V) (wps_clearS (wps_pure ?_))
        refine ent_prr rfl (ent_ex ls (ent_ex mb (ent_ex sl' (ent_ex sc ?_))))
        simp only [← star_assoc]
        refine ent_pickC (by rfl) (ent_pick (ent_pickM rfl (ent_pers ?_ (cachep_nil _ _))))
        refine ent_prr ⟨hsl, hd.2.1, ?_⟩ (Ent.trans (ent_drop (B := seqp sl' (D.flushed V).lasts)) (seqp_ext fun i _ => ?_))
        · exact ⟨(Dk.ok_flushed hD fun _ => true).1, fun j b h => by cases h⟩
        · show (D.flushed V).lasts i = (D.flushed fun _ => true).lasts i
          simp only [Dk.flushed]
          cases hci : D.cached i with
          | none => rfl
          | some b =>
            have := hall i (vS (sc i)) (by rw [hci]; rfl)
            simp [this]
      · cases hcj : D.cached j with
        | none => rw [hcj] at hj; cases hj
        | some b =>
          rw [hcj] at hj
          have hv : v = vS (sc j) := (Option.some.inj hj).symm
          obtain ⟨hb, hj0, hjn⟩ := hD.2 j b hcj
          refine wps_entry (sc j) rfl hv ?_
          repeat (first
            | (with_reducible refine wps_bindpure ?_)
            | (with_reducible refine wps_assoc ?_)
            | (with_reducible refine wps_nil ?_)
            | (with_reducible refine wps_stepAlloc fun _ => ?_)
            | (with_reducible refine wps_alloc fun _ => ?_)
            | (with_reducible refine wps_newO fun _ => ?_)
            | (refine wps_ld _ (by rfl) ?_)
            | (refine wps_ldG _ _ _ (by rfl) ?_)
            | (refine wps_ldA _ (by rfl) ?_)
            | (refine wps_ldI _ (by rfl) ?_)
            | (refine wps_ldGI _ _ _ (by rfl) ?_)
            | (refine wps_ldAI _ (by rfl) ?_)
            | (refine wps_st (by simp) ?_)
            | (refine wps_stA (by simp) (by simp [Value.oneCell']) ?_)
            | ((with_reducible apply wps_val); apply val_ite; rotate_left; refine fun (_ : ¬ _) => ?_; rotate_right; refine fun (_ : _ = true) => ?_)
            | ((with_reducible apply val_ite); rotate_left; refine fun (_ : ¬ _) => ?_; rotate_right; refine fun (_ : _ = true) => ?_)
            | (with_reducible refine wps_regionH ?_)
            | ((with_reducible apply wps_bindV); apply val_iteL; rotate_left; refine fun (_ : ¬ _) => ?_; rotate_right; refine fun (_ : _ = true) => ?_)
            | ((with_reducible apply val_iteL); rotate_left; refine fun (_ : ¬ _) => ?_; rotate_right; refine fun (_ : _ = true) => ?_)
            | (with_reducible exact wps_pure (ent_val rfl)))
          refine wps_wrS j.toNat (by simp; omega) (by omega) ?_
          refine wps_pure ?_
          refine Ent.trans ?_ (ent_ex (fun i => V i || i == j, sl'.set j.toNat (sc j)) (ent_prr (toCome_lt ⟨hj0, hjn⟩ hV) (Ent.refl _)))
          simp only
          refine ent_pick (ent_pick (ent_pickS (by rw [List.map_set]; rfl) ?_))
          refine ent_and (ent_prr (by simpa using hsl) (Ent.trans (seqp_set (k := j.toNat) (ent_drop (B := seqp sl' (D.flushed V).lasts)) (Ent.trans (ent_drop (B := cachep sc D.cached)) (cachep_get hcj))) (seqp_ext fun i _ => ?_))) ent_drop
          simp only [Dk.flushed]
          by_cases hij : i = j.toNat
          · have hij' : (i : Int) = j := by omega
            rw [if_pos hij, hij', hcj]
            simp
          · have hij' : ¬ (i : Int) = j := by omega
            rw [if_neg hij]
            cases D.cached i with
            | none => rfl
            | some b2 => simp [hij']
  · refine wps_ite (fun h => absurd (by simpa [gateV] using h) h0) (fun _ => wps_pure ?_)
    rw [Rk.flush, if_neg h0]
    exact ent_prr rfl (Ent.refl _)
end Go.Proofs.Ytldmeimebebllaa
namespace Go.Proofs.Ytldmeimebebllaa
open Go.Mo
set_option linter.unusedVariables false
variable {g : Fr} {cv : CV}
def flushL : List Int → Rk → Rk × Int
  | [], R => (R, 0)
  | d :: ds, R => if R.gate d 0 64 = 12 then (R.flush d, 12) else flushL ds (R.flush d)
theorem bank_Flush_spec (hcv : DisksOk cv) (bb rb : Nat) (q m : G3) (hq : q.1 ≤ 16) (R : Rk) (ds : Slc) (ps : List Nat) :
    wps g (bnk bb rb q m * rackP rb R ds ps) (bank_Bank_Flush cv (ptr bb)) (fun e => pr (e = (flushL (disksL q m) R).2) * bnk bb rb q m * rackP rb (flushL (disksL q m) R).1 ds ps) := by
  unfold bank_Bank_Flush
  repeat (first
    | (with_reducible refine wps_bindpure ?_)
    | (with_reducible refine wps_assoc ?_)
    | (with_reducible refine wps_nil ?_)
    | (with_reducible refine wps_stepAlloc fun _ => ?_)
    | (with_reducible refine wps_alloc fun _ => ?_)
    | (with_reducible refine wps_newO fun _ => ?_)
    | (refine wps_ld _ (by rfl) ?_)
    | (refine wps_ldG _ _ _ (by rfl) ?_)
    | (refine wps_ldA _ (by rfl) ?_)
    | (refine wps_ldI _ (by rfl) ?_)
    | (refine wps_ldGI _ _ _ (by rfl) ?_)
    | (refine wps_ldAI _ (by rfl) ?_)
    | (refine wps_st (by simp) ?_)
    | (refine wps_stA (by simp) (by simp [Value.oneCell']) ?_)
    | ((with_reducible apply wps_val); apply val_ite; rotate_left; refine fun (_ : ¬ _) => ?_; rotate_right; refine fun (_ : _ = true) => ?_)
    | ((with_reducible apply val_ite); rotate_left; refine fun (_ : ¬ _) => ?_; rotate_right; refine fun (_ : _ = true) => ?_)
    | (with_reducible refine wps_regionH ?_)
    | ((with_reducible apply wps_bindV); apply val_iteL; rotate_left; refine fun (_ : ¬ _) => ?_; rotate_right; refine fun (_ : _ = true) => ?_)
    | ((with_reducible apply val_iteL); rotate_left; refine fun (_ : ¬ _) => ?_; rotate_right; refine fun (_ : _ = true) => ?_)
    | (with_reducible exact wps_pure (ent_val rfl)))
  rename_i x1 x2
  refine wps_rangeF (F := emp)
    (fun i => ex fun R' : Rk => pr (flushL (disksL q m) R = flushL ((disksL q m).drop i) R') * rackP rb R' ds ps * pc x1 [.pointer (ptr bb)] * pc x2 [.int .i64 0])
    (fun j => match j with | .ret => ex fun R' : Rk => pr (flushL (disksL q m) R = (R', 12)) * rackP rb R' ds ps * pc x2 [.int .i64 12] | .exit _ => pr False)
    (fun i d t => pr (t = d) * (bnk bb rb q m * ex fun R' : Rk => pr (flushL (disksL q m) R = flushL ((disksL q m).drop i) R') * rackP rb R' ds ps * pc x1 [.pointer (ptr bb)] * pc x2 [.int .i64 0]))
    (disks_iter hcv bb rb q m hq) ?_ ?_ ?_ ?_ ?_ ?_
  · rw [emp_star]
    refine Ent.trans ?_ (Ent.starr (ent_ex R (Ent.refl _)))
    simp only [← star_assoc]
    exact ent_pickC (by rfl) (ent_pickC (by rfl) (ent_pick (ent_prx rfl ent_drop)))
  · intro i d hd g
    exact wps_pure (ent_prr rfl (Ent.refl _))
  · intro i d hd t g
    refine wps_pr fun ht => ?_
    subst ht
    refine wps_exP fun R' => ?_
    simp only [← star_assoc]
    refine wps_prP fun hR => ?_
    rw [drop_cons hd, flushL] at hR
    repeat (first
      | (with_reducible refine wps_bindpure ?_)
      | (with_reducible refine wps_assoc ?_)
      | (with_reducible refine wps_nil ?_)
      | (with_reducible refine wps_stepAlloc fun _ => ?_)
      | (with_reducible refine wps_alloc fun _ => ?_)
      | (with_reducible refine wps_newO fun _ => ?_)
      | (refine wps_ld _ (by rfl) ?_)
      | (refine wps_ldG _ _ _ (by rfl) ?_)
      | (refine wps_ldA _ (by rfl) ?_)
      | (refine wps_ldI _ (by rfl) ?_)
      | (refine wps_ldGI _ _ _ (by rfl) ?_)
      | (refine wps_ldAI _ (by rfl) ?_)
      | (refine wps_st (by simp) ?_)
      | (refine wps_stA (by simp) (by simp [Value.oneCell']) ?_)
      | ((with_reducible apply wps_val); apply val_ite; rotate_left; refine fun (_ : ¬ _) => ?_; rotate_right; refine fun (_ : _ = true) => ?_)
      | ((with_reducible apply val_ite); rotate_left; refine fun (_ : ¬ _) => ?_; rotate_right; refine fun (_ : _ = true) => ?_)
      | (with_reducible refine wps_regionH ?_)
      | ((with_reducible apply wps_bindV); apply val_iteL; rotate_left; refine fun (_ : ¬ _) => ?_; rotate_right; refine fun (_ : _ = true) => ?_)
      | ((with_reducible apply val_iteL); rotate_left; refine fun (_ : ¬ _) => ?_; rotate_right; refine fun (_ : _ = true) => ?_)
      | (with_reducible exact wps_pure (ent_val rfl)))
    refine wps_callH (fun _ => device_Rack_Flush_spec rb R' ds ps t) fun e => ?_
    simp only [← star_assoc]
    refine wps_prP fun he => ?_
    subst he
    refine wps_ite (fun h12 => ?_) (fun h12 => ?_)
    · have h12' : R'.gate t 0 64 = 12 := by simpa using h12
      rw [if_pos h12'] at hR
      repeat (first
        | (with_reducible refine wps_bindpure ?_)
        | (with_reducible refine wps_assoc ?_)
        | (with_reducible refine wps_nil ?_)
        | (with_reducible refine wps_stepAlloc fun _ => ?_)
        | (with_reducible refine wps_alloc fun _ => ?_)
        | (with_reducible refine wps_newO fun _ => ?_)
        | (refine wps_ld _ (by rfl) ?_)
        | (refine wps_ldG _ _ _ (by rfl) ?_)
        | (refine wps_ldA _ (by rfl) ?_)
        | (refine wps_ldI _ (by rfl) ?_)
        | (refine wps_ldGI _ _ _ (by rfl) ?_)
        | (refine wps_ldAI _ (by rfl) ?_)
        | (refine wps_st (by simp) ?_)
        | (refine wps_stA (by simp) (by simp [Value.oneCell']) ?_)
        | ((with_reducible apply wps_val); apply val_ite; rotate_left; refine fun (_ : ¬ _) => ?_; rotate_right; refine fun (_ : _ = true) => ?_)
        | ((with_reducible apply val_ite); rotate_left; refine fun (_ : ¬ _) => ?_; rotate_right; refine fun (_ : _ = true) => ?_)
        | (with_reducible refine wps_regionH ?_)
        | ((with_reducible apply wps_bindV); apply val_iteL; rotate_left; refine fun (_ : ¬ _) => ?_; rotate_right; refine fun (_ : _ = true) => ?_)
        | ((with_reducible apply val_iteL); rotate_left; refine fun (_ : ¬ _) => ?_; rotate_right; refine fun (_ : _ = true) => ?_)
        | (with_reducible exact wps_pure (ent_val rfl)))
      refine wps_pure ?_
      refine Ent.trans ?_ (Ent.starr (ent_ex (R'.flush t) (Ent.refl _)))
      simp only [← star_assoc]
      exact ent_pickC (by rw [h12']; rfl) (ent_pick (ent_prx hR ent_drop))
    · have h12' : ¬ R'.gate t 0 64 = 12 := by simpa using h12
      rw [if_neg h12'] at hR
      refine wps_pure ?_
      refine Ent.trans ?_ (Ent.starr (ent_ex (R'.flush t) (Ent.refl _)))
      simp only [← star_assoc]
      exact ent_pick (ent_pick (ent_pick (ent_prx hR ent_drop)))
  · intro D
    refine wps_exP fun R' => ?_
    simp only [← star_assoc]
    refine wps_prP fun hR => ?_
    rw [List.drop_length, flushL] at hR
    repeat (first
      | (with_reducible refine wps_bindpure ?_)
      | (with_reducible refine wps_assoc ?_)
      | (with_reducible refine wps_nil ?_)
      | (with_reducible refine wps_stepAlloc fun _ => ?_)
      | (with_reducible refine wps_alloc fun _ => ?_)
      | (with_reducible refine wps_newO fun _ => ?_)
      | (refine wps_ld _ (by rfl) ?_)
      | (refine wps_ldG _ _ _ (by rfl) ?_)
      | (refine wps_ldA _ (by rfl) ?_)
      | (refine wps_ldI _ (by rfl) ?_)
      | (refine wps_ldGI _ _ _ (by rfl) ?_)
      | (refine wps_ldAI _ (by rfl) ?_)
      | (refine wps_st (by simp) ?_)
      | (refine wps_stA (by simp) (by simp [Value.oneCell']) ?_)
      | ((with_reducible apply wps_val); apply val_ite; rotate_left; refine fun (_ : ¬ _) => ?_; rotate_right; refine fun (_ : _ = true) => ?_)
      | ((with_reducible apply val_ite); rotate_left; refine fun (_ : ¬ _) => ?_; rotate_right; refine fun (_ : _ = true) => ?_)
      | (with_reducible refine wps_regionH ?_)
      | ((with_reducible apply wps_bindV); apply val_iteL; rotate_left; refine fun (_ : ¬ _) => ?_; rotate_right; refine fun (_ : _ = true) => ?_)
      | ((with_reducible apply val_iteL); rotate_left; refine fun (_ : ¬ _) => ?_; rotate_right; refine fun (_ : _ = true) => ?_)
      | (with_reducible exact wps_pure (ent_val rfl)))
    refine wps_take ?_
    repeat (first
      | (with_reducible refine wps_bindpure ?_)
      | (with_reducible refine wps_assoc ?_)
      | (with_reducible refine wps_nil ?_)
      | (with_reducible refine wps_stepAlloc fun _ => ?_)
      | (with_reducible refine wps_alloc fun _ => ?_)
      | (with_reducible refine wps_newO fun _ => ?_)
      | (refine wps_ld _ (by rfl) ?_)
      | (refine wps_ldG _ _ _ (by rfl) ?_)
      | (refine wps_ldA _ (by rfl) ?_)
      | (refine wps_ldI _ (by rfl) ?_)
      | (refine wps_ldGI _ _ _ (by rfl) ?_)
      | (refine wps_ldAI _ (by rfl) ?_)
      | (refine wps_st (by simp) ?_)
      | (refine wps_stA (by simp) (by simp [Value.oneCell']) ?_)
      | ((with_reducible apply wps_val); apply val_ite; rotate_left; refine fun (_ : ¬ _) => ?_; rotate_right; refine fun (_ : _ = true) => ?_)
      | ((with_reducible apply val_ite); rotate_left; refine fun (_ : ¬ _) => ?_; rotate_right; refine fun (_ : _ = true) => ?_)
      | (with_reducible refine wps_regionH ?_)
      | ((with_reducible apply wps_bindV); apply val_iteL; rotate_left; refine fun (_ : ¬ _) => ?_; rotate_right; refine fun (_ : _ = true) => ?_)
      | ((with_reducible apply val_iteL); rotate_left; refine fun (_ : ¬ _) => ?_; rotate_right; refine fun (_ : _ = true) => ?_)
      | (with_reducible exact wps_pure (ent_val rfl)))
    refine wps_pure ?_
    rw [hR]
    exact ent_pick (ent_pick (ent_prq rfl))
  · intro D
    refine wps_exP fun R' => ?_
    simp only [← star_assoc]
    refine wps_prP fun hR => ?_
    refine wps_take ?_
    repeat (first
      | (with_reducible refine wps_bindpure ?_)
      | (with_reducible refine wps_assoc ?_)
      | (with_reducible refine wps_nil ?_)
      | (with_reducible refine wps_stepAlloc fun _ => ?_)
      | (with_reducible refine wps_alloc fun _ => ?_)
      | (with_reducible refine wps_newO fun _ => ?_)
      | (refine wps_ld _ (by rfl) ?_)
      | (refine wps_ldG _ _ _ (by rfl) ?_)
      | (refine wps_ldA _ (by rfl) ?_)
      | (refine wps_ldI _ (by rfl) ?_)
      | (refine wps_ldGI _ _ _ (by rfl) ?_)
      | (refine wps_ldAI _ (by rfl) ?_)
      | (refine wps_st (by simp) ?_)
      | (refine wps_stA (by simp) (by simp [Value.oneCell']) ?_)
      | ((with_reducible apply wps_val); apply val_ite; rotate_left; refine fun (_ : ¬ _) => ?_; rotate_right; refine fun (_ : _ = true) => ?_)
      | ((with_reducible apply val_ite); rotate_left; refine fun (_ : ¬ _) => ?_; rotate_right; refine fun (_ : _ = true) => ?_)
      | (with_reducible refine wps_regionH ?_)
      | ((with_reducible apply wps_bindV); apply val_iteL; rotate_left; refine fun (_ : ¬ _) => ?_; rotate_right; refine fun (_ : _ = true) => ?_)
      | ((with_reducible apply val_iteL); rotate_left; refine fun (_ : ¬ _) => ?_; rotate_right; refine fun (_ : _ = true) => ?_)
      | (with_reducible exact wps_pure (ent_val rfl)))
    refine wps_pure ?_
    rw [hR]
    exact ent_pick (ent_pick (ent_prq rfl))
  · intro D id
    exact wps_false (fun o ho => by
      have := ent_right _ _ o (ent_left _ _ o ho)
      exact ent_right _ _ o this)
theorem bank_SpareFailed_val (bb rb : Nat) (q m : G3) (R : Rk) (ds : Slc) (ps : List Nat) : Val g (bnk bb rb q m * rackP rb R ds ps) (bank_Bank_SpareFailed (ptr bb)) (R.failedB q.1) := by
  unfold bank_Bank_SpareFailed
  repeat (first
    | (with_reducible refine wps_bindpure ?_)
    | (with_reducible refine wps_assoc ?_)
    | (with_reducible refine wps_nil ?_)
    | (with_reducible refine wps_stepAlloc fun _ => ?_)
    | (with_reducible refine wps_alloc fun _ => ?_)
    | (with_reducible refine wps_newO fun _ => ?_)
    | (refine wps_ld _ (by rfl) ?_)
    | (refine wps_ldG _ _ _ (by rfl) ?_)
    | (refine wps_ldA _ (by rfl) ?_)
    | (refine wps_ldI _ (by rfl) ?_)
    | (refine wps_ldGI _ _ _ (by rfl) ?_)
    | (refine wps_ldAI _ (by rfl) ?_)
    | (refine wps_st (by simp) ?_)
    | (refine wps_stA (by simp) (by simp [Value.oneCell']) ?_)
    | ((with_reducible apply wps_val); apply val_ite; rotate_left; refine fun (_ : ¬ _) => ?_; rotate_right; refine fun (_ : _ = true) => ?_)
    | ((with_reducible apply val_ite); rotate_left; refine fun (_ : ¬ _) => ?_; rotate_right; refine fun (_ : _ = true) => ?_)
    | (with_reducible refine wps_regionH ?_)
    | ((with_reducible apply wps_bindV); apply val_iteL; rotate_left; refine fun (_ : ¬ _) => ?_; rotate_right; refine fun (_ : _ = true) => ?_)
    | ((with_reducible apply val_iteL); rotate_left; refine fun (_ : ¬ _) => ?_; rotate_right; refine fun (_ : _ = true) => ?_)
    | (with_reducible exact wps_pure (ent_val rfl)))
  refine wps_valH (fun _ => device_Rack_Failed_val rb R ds ps q.1) ?_
  repeat (first
    | (with_reducible refine wps_bindpure ?_)
    | (with_reducible refine wps_assoc ?_)
    | (with_reducible refine wps_nil ?_)
    | (with_reducible refine wps_stepAlloc fun _ => ?_)
    | (with_reducible refine wps_alloc fun _ => ?_)
    | (with_reducible refine wps_newO fun _ => ?_)
    | (refine wps_ld _ (by rfl) ?_)
    | (refine wps_ldG _ _ _ (by rfl) ?_)
    | (refine wps_ldA _ (by rfl) ?_)
    | (refine wps_ldI _ (by rfl) ?_)
    | (refine wps_ldGI _ _ _ (by rfl) ?_)
    | (refine wps_ldAI _ (by rfl) ?_)
    | (refine wps_st (by simp) ?_)
    | (refine wps_stA (by simp) (by simp [Value.oneCell']) ?_)
    | ((with_reducible apply wps_val); apply val_ite; rotate_left; refine fun (_ : ¬ _) => ?_; rotate_right; refine fun (_ : _ = true) => ?_)
    | ((with_reducible apply val_ite); rotate_left; refine fun (_ : ¬ _) => ?_; rotate_right; refine fun (_ : _ = true) => ?_)
    | (with_reducible refine wps_regionH ?_)
    | ((with_reducible apply wps_bindV); apply val_iteL; rotate_left; refine fun (_ : ¬ _) => ?_; rotate_right; refine fun (_ : _ = true) => ?_)
    | ((with_reducible apply val_iteL); rotate_left; refine fun (_ : ¬ _) => ?_; rotate_right; refine fun (_ : _ = true) => ?_)
    | (with_reducible exact wps_pure (ent_val rfl)))
theorem bank_Read_spec (bb rb : Nat) (q m : G3) (R : Rk) (ds : Slc) (ps : List Nat) (slot s : Int) :
    wps g (bnk bb rb q m * rackP rb R ds ps) (bank_Bank_Read (ptr bb) slot s) (fun x =>
      pr (x.2 = if (slotV q m slot).2 then R.rdErr (slotV q m slot).1 s else 11) * bnk bb rb q m * rackP rb R ds ps * own 1 x.1 (bv (if (slotV q m slot).2 then R.rd (slotV q m slot).1 s else []))) := by
  unfold bank_Bank_Read
  refine wps_valH (fun _ => bank_disk_val bb rb q m slot) ?_
  by_cases hv : (slotV q m slot).2 = true
  · simp only [hv, if_true]
    refine wps_ite (fun h => absurd h (by simp)) (fun _ => ?_)
    repeat (first
      | (with_reducible refine wps_bindpure ?_)
      | (with_reducible refine wps_assoc ?_)
      | (with_reducible refine wps_nil ?_)
      | (with_reducible refine wps_stepAlloc fun _ => ?_)
      | (with_reducible refine wps_alloc fun _ => ?_)
      | (with_reducible refine wps_newO fun _ => ?_)
      | (refine wps_ld _ (by rfl) ?_)
      | (refine wps_ldG _ _ _ (by rfl) ?_)
      | (refine wps_ldA _ (by rfl) ?_)
      | (refine wps_ldI _ (by rfl) ?_)
      | (refine wps_ldGI _ _ _ (by rfl) ?_)
      | (refine wps_ldAI _ (by rfl) ?_)
      | (refine wps_st (by simp) ?_)
      | (refine wps_stA (by simp) (by simp [Value.oneCell']) ?_)
      | ((with_reducible apply wps_val); apply val_ite; rotate_left; refine fun (_ : ¬ _) => ?_; rotate_right; refine fun (_ : _ = true) => ?_)
      | ((with_reducible apply val_ite); rotate_left; refine fun (_ : ¬ _) => ?_; rotate_right; refine fun (_ : _ = true) => ?_)
      | (with_reducible refine wps_regionH ?_)
      | ((with_reducible apply wps_bindV); apply val_iteL; rotate_left; refine fun (_ : ¬ _) => ?_; rotate_right; refine fun (_ : _ = true) => ?_)
      | ((with_reducible apply val_iteL); rotate_left; refine fun (_ : ¬ _) => ?_; rotate_right; refine fun (_ : _ = true) => ?_)
      | (with_reducible exact wps_pure (ent_val rfl)))
    refine wps_callH (fun _ => device_Rack_Read_spec rb R ds ps (slotV q m slot).1 s) fun x => wps_pure ?_
    simp only [← star_assoc]
    exact ent_pick (ent_pick (ent_pick ent_drop))
  · simp only [hv, if_false, Bool.false_eq_true]
    refine wps_ite (fun _ => wps_pure ?_) (fun h => absurd rfl h)
    exact ent_own0 (ent_pick (ent_pick (ent_prq rfl)))
def Rk.doom (R : Rk) (k c : Int) : Rk := if k < 0 ∨ k ≥ R.n then R else R.setD k.toNat { R.dk k.toNat with count := maxI c (-1) }
theorem device_Rack_Doom_spec (rb : Nat) (R : Rk) (ds : Slc) (ps : List Nat) (k c : Int) :
    wps g (rackP rb R ds ps) (device_Rack_Doom (ptr rb) k c) (fun e => pr (e = if k < 0 ∨ k ≥ R.n then 11 else 0) * rackP rb (R.doom k c) ds ps) := by
  unfold device_Rack_Doom
  have hp : Ent (rackP rb R ds ps) (pr (ps.length = R.n ∧ ds.len = R.n ∧ R.n ≤ 17 ∧ R.ns ≤ 4096)) := Ent.trans (ent_left _ _) (Ent.trans (ent_left _ _) (ent_left _ _))
  refine wps_fact hp fun ⟨h1, h2, h17, hns⟩ => ?_
  by_cases hk : k < 0 ∨ k ≥ R.n
  · rw [if_pos hk, Rk.doom, if_pos hk]
    refine wps_val (v := true) ?_ (wps_ite (fun _ => wps_pure (ent_prr rfl (Ent.refl _))) (fun h => absurd rfl h))
    unfold rackP
    apply val_eq
    · repeat (first
        | (with_reducible refine wps_bindpure ?_)
        | (with_reducible refine wps_assoc ?_)
        | (with_reducible refine wps_nil ?_)
        | (with_reducible refine wps_stepAlloc fun _ => ?_)
        | (with_reducible refine wps_alloc fun _ => ?_)
        | (with_reducible refine wps_newO fun _ => ?_)
        | (refine wps_ld _ (by rfl) ?_)
        | (refine wps_ldG _ _ _ (by rfl) ?_)
        | (refine wps_ldA _ (by rfl) ?_)
        | (refine wps_ldI _ (by rfl) ?_)
        | (refine wps_ldGI _ _ _ (by rfl) ?_)
        | (refine wps_ldAI _ (by rfl) ?_)
        | (refine wps_st (by simp) ?_)
        | (refine wps_stA (by simp) (by simp [Value.oneCell']) ?_)
        | ((with_reducible apply wps_val); apply val_ite; rotate_left; refine fun (_ : ¬ _) => ?_; rotate_right; refine fun (_ : _ = true) => ?_)
        | ((with_reducible apply val_ite); rotate_left; refine fun (_ : ¬ _) => ?_; rotate_right; refine fun (_ : _ = true) => ?_)
        | (with_reducible refine wps_regionH ?_)
        | ((with_reducible apply wps_bindV); apply val_iteL; rotate_left; refine fun (_ : ¬ _) => ?_; rotate_right; refine fun (_ : _ = true) => ?_)
        | ((with_reducible apply val_iteL); rotate_left; refine fun (_ : ¬ _) => ?_; rotate_right; refine fun (_ : _ = true) => ?_)
        | (with_reducible exact wps_pure (ent_val rfl)))
    · rw [h2]
      by_cases h : k < 0
      · simp [h]
      · have : k ≥ R.n := by omega
        simp [h, this]
  · rw [if_neg hk, Rk.doom, if_neg hk]
    have hlt : k.toNat < R.n := by omega
    refine wps_val (v := false) ?_ (wps_ite (fun h => absurd h (by simp)) (fun _ => ?_))
    · unfold rackP
      apply val_eq
      · repeat (first
          | (with_reducible refine wps_bindpure ?_)
          | (with_reducible refine wps_assoc ?_)
          | (with_reducible refine wps_nil ?_)
          | (with_reducible refine wps_stepAlloc fun _ => ?_)
          | (with_reducible refine wps_alloc fun _ => ?_)
          | (with_reducible refine wps_newO fun _ => ?_)
          | (refine wps_ld _ (by rfl) ?_)
          | (refine wps_ldG _ _ _ (by rfl) ?_)
          | (refine wps_ldA _ (by rfl) ?_)
          | (refine wps_ldI _ (by rfl) ?_)
          | (refine wps_ldGI _ _ _ (by rfl) ?_)
          | (refine wps_ldAI _ (by rfl) ?_)
          | (refine wps_st (by simp) ?_)
          | (refine wps_stA (by simp) (by simp [Value.oneCell']) ?_)
          | ((with_reducible apply wps_val); apply val_ite; rotate_left; refine fun (_ : ¬ _) => ?_; rotate_right; refine fun (_ : _ = true) => ?_)
          | ((with_reducible apply val_ite); rotate_left; refine fun (_ : ¬ _) => ?_; rotate_right; refine fun (_ : _ = true) => ?_)
          | (with_reducible refine wps_regionH ?_)
          | ((with_reducible apply wps_bindV); apply val_iteL; rotate_left; refine fun (_ : ¬ _) => ?_; rotate_right; refine fun (_ : _ = true) => ?_)
          | ((with_reducible apply val_iteL); rotate_left; refine fun (_ : ¬ _) => ?_; rotate_right; refine fun (_ : _ = true) => ?_)
          | (with_reducible exact wps_pure (ent_val rfl)))
      · rw [h2]
        have a : ¬ k < 0 := by omega
        have b : ¬ k ≥ R.n := by omega
        simp [a]; omega
    · rw [← rackP_set _ hlt, rackP_focus rb R ds ps hlt]
      repeat (first
        | (with_reducible refine wps_bindpure ?_)
        | (with_reducible refine wps_assoc ?_)
        | (with_reducible refine wps_nil ?_)
        | (with_reducible refine wps_stepAlloc fun _ => ?_)
        | (with_reducible refine wps_alloc fun _ => ?_)
        | (with_reducible refine wps_newO fun _ => ?_)
        | (refine wps_ld _ (by rfl) ?_)
        | (refine wps_ldG _ _ _ (by rfl) ?_)
        | (refine wps_ldA _ (by rfl) ?_)
        | (refine wps_ldI _ (by rfl) ?_)
        | (refine wps_ldGI _ _ _ (by rfl) ?_)
        | (refine wps_ldAI _ (by rfl) ?_)
        | (refine wps_st (by simp) ?_)
        | (refine wps_stA (by simp) (by simp [Value.oneCell']) ?_)
        | ((with_reducible apply wps_val); apply val_ite; rotate_left; refine fun (_ : ¬ _) => ?_; rotate_right; refine fun (_ : _ = true) => ?_)
        | ((with_reducible apply val_ite); rotate_left; refine fun (_ : ¬ _) => ?_; rotate_right; refine fun (_ : _ = true) => ?_)
        | (with_reducible refine wps_regionH ?_)
        | ((with_reducible apply wps_bindV); apply val_iteL; rotate_left; refine fun (_ : ¬ _) => ?_; rotate_right; refine fun (_ : _ = true) => ?_)
        | ((with_reducible apply val_iteL); rotate_left; refine fun (_ : ¬ _) => ?_; rotate_right; refine fun (_ : _ = true) => ?_)
        | (with_reducible exact wps_pure (ent_val rfl)))
      refine wps_rdS k.toNat (ptr (ps.getD k.toNat 0)) (by omega) (pv_get (by omega)) ?_
      simp only [dskAt, dskX]
      refine wps_exP fun ls => wps_exP fun mb => wps_exP fun sl => wps_exP fun sc => ?_
      simp only [← star_assoc]
      refine wps_prP fun hd => ?_
      repeat (first
        | (with_reducible refine wps_bindpure ?_)
        | (with_reducible refine wps_assoc ?_)
        | (with_reducible refine wps_nil ?_)
        | (with_reducible refine wps_stepAlloc fun _ => ?_)
        | (with_reducible refine wps_alloc fun _ => ?_)
        | (with_reducible refine wps_newO fun _ => ?_)
        | (refine wps_ld _ (by rfl) ?_)
        | (refine wps_ldG _ _ _ (by rfl) ?_)
        | (refine wps_ldA _ (by rfl) ?_)
        | (refine wps_ldI _ (by rfl) ?_)
        | (refine wps_ldGI _ _ _ (by rfl) ?_)
        | (refine wps_ldAI _ (by rfl) ?_)
        | (refine wps_st (by simp) ?_)
        | (refine wps_stA (by simp) (by simp [Value.oneCell']) ?_)
        | ((with_reducible apply wps_val); apply val_ite; rotate_left; refine fun (_ : ¬ _) => ?_; rotate_right; refine fun (_ : _ = true) => ?_)
        | ((with_reducible apply val_ite); rotate_left; refine fun (_ : ¬ _) => ?_; rotate_right; refine fun (_ : _ = true) => ?_)
        | (with_reducible refine wps_regionH ?_)
        | ((with_reducible apply wps_bindV); apply val_iteL; rotate_left; refine fun (_ : ¬ _) => ?_; rotate_right; refine fun (_ : _ = true) => ?_)
        | ((with_reducible apply val_iteL); rotate_left; refine fun (_ : ¬ _) => ?_; rotate_right; refine fun (_ : _ = true) => ?_)
        | (with_reducible exact wps_pure (ent_val rfl)))
      refine wps_pure ?_
      refine ent_exr ls ?_
      refine ent_exr mb ?_
      refine ent_exr sl ?_
      refine ent_exr sc ?_
      simp only [← star_assoc]
      exact ent_pickC (by rfl) (ent_pick (ent_pick (ent_pick (ent_pick (ent_prx hd (ent_pick (ent_pick (ent_pick (ent_pick (ent_prq trivial))))))))))
end Go.Proofs.Ytldmeimebebllaa
namespace Go.Proofs.Ytldmeimebebllaa
open Go.Mo
set_option linter.unusedVariables false
/-- no power goes; no disk fails any more; those of f have -/
structure Settled (R : Rk) (f : Nat → Bool) : Prop where
  off : R.off = false
  count : R.count = -1
  failed : ∀ j, (R.dk j).failed = f j
  counts : ∀ j, (R.dk j).count = -1
theorem tickD {D : Dk} (h : D.count = -1) : D.tick = D := by
  obtain ⟨l, c, fl, k⟩ := D
  simp only at h
  subst h
  have hm : maxI (w64 (-1 - 1)) (-1) = -1 := by rw [w64m2]; rfl
  simp only [Dk.tick, hm]
  cases fl <;> rfl
theorem Settled.tick {R : Rk} {f : Nat → Bool} (h : Settled R f) : R.ticked = R := by
  have hdk : (fun j => (R.dk j).tick) = R.dk := by
    funext j; exact tickD (h.counts j)
  have hm : maxI (w64 (R.count - 1)) (-1) = R.count := by rw [h.count, w64m2]; rfl
  have hc : ¬ R.count = 0 := by rw [h.count]; omega
  simp only [Rk.ticked, if_neg hc, hdk, hm]
theorem Settled.gate {R : Rk} {f : Nat → Bool} (h : Settled R f) {k s : Int} (hk : 0 ≤ k ∧ k < R.n) (hs : 0 ≤ s ∧ s < R.ns) : R.gate k s 64 = if f k.toNat then 13 else 0 := by
  unfold Rk.gate
  have hr : ¬ (k < 0 ∨ k ≥ R.n ∨ s < 0 ∨ s ≥ R.ns) := by omega
  rw [if_neg (by simp [h.off]), if_neg hr, if_neg (by omega), if_neg (by rw [h.count]; omega), h.tick, h.failed]
theorem Settled.setD {R : Rk} {f : Nat → Bool} (h : Settled R f) {k : Nat} {D : Dk} (hf : D.failed = f k) (hc : D.count = -1) : Settled (R.setD k D) f := by
  refine ⟨h.off, h.count, fun j => ?_, fun j => ?_⟩
  · simp only [Rk.setD]; split
    · rename_i e; rw [e]; exact hf
    · exact h.failed j
  · simp only [Rk.setD]; split
    · exact hc
    · exact h.counts j
theorem gated_in {R : Rk} (ho : R.off = false) {k s : Int} (hk : 0 ≤ k ∧ k < R.n) (hs : 0 ≤ s ∧ s < R.ns) : R.gated k s 64 = R.ticked := by
  rw [Rk.gated, if_neg]
  rintro (h | h | h)
  · rw [ho] at h; cases h
  · omega
  · exact h rfl
/-- a flush leaves that as it is -/
theorem Settled.flush {R R1 : Rk} {f : Nat → Bool} {k : Int} (h : Settled R1 f) (hg : R.gated k 0 64 = R1) : Settled (R.flush k) f := by
  unfold Rk.flush
  rw [hg]
  split
  · exact h.setD (h.failed _) (h.counts _)
  · exact h
theorem flush_n {R : Rk} (k : Int) : (R.flush k).n = R.n ∧ (R.flush k).ns = R.ns := by
  have hg : (R.gated k 0 64).n = R.n ∧ (R.gated k 0 64).ns = R.ns := by
    unfold Rk.gated Rk.ticked
    split
    · exact ⟨rfl, rfl⟩
    · split <;> exact ⟨rfl, rfl⟩
  unfold Rk.flush
  split
  · exact hg
  · exact hg
theorem Settled.flushL {f : Nat → Bool} : ∀ {xs : List Int} {R : Rk}, Settled R f → (∀ d ∈ xs, 0 ≤ d ∧ d < R.n) → 0 < R.ns →
    (flushL xs R).2 = 0 ∧ Settled (flushL xs R).1 f ∧ (flushL xs R).1.n = R.n ∧ (flushL xs R).1.ns = R.ns
  | [], R, h, _, _ => ⟨rfl, h, rfl, rfl⟩
  | d :: xs, R, h, hx, hs => by
    have hd := hx d (by simp)
    have hg := h.gate hd (s := 0) (by omega)
    have h12 : ¬ R.gate d 0 64 = 12 := by rw [hg]; split <;> omega
    simp only [Proofs.Ytldmeimebebllaa.flushL, if_neg h12]
    have hf := h.flush (R := R) (k := d) (by rw [gated_in h.off hd (by omega), h.tick])
    have hn := flush_n (R := R) d
    have ih := Settled.flushL (xs := xs) hf (by rw [hn.1]; exact fun d' hd' => hx d' (by simp [hd'])) (by rw [hn.2]; exact hs)
    rw [hn.1, hn.2] at ih
    exact ih
/-- about to fail at the next call -/
structure Armed (R : Rk) (f : Nat → Bool) : Prop where
  off : R.off = false
  count : R.count = -1
  failed : ∀ j, (R.dk j).failed = false
  counts : ∀ j, (R.dk j).count = if f j then 0 else -1
theorem Armed.tick {R : Rk} {f : Nat → Bool} (h : Armed R f) : Settled R.ticked f := by
  have hc : ¬ R.count = 0 := by rw [h.count]; omega
  have hm : maxI (w64 (R.count - 1)) (-1) = -1 := by rw [h.count, w64m2]; rfl
  simp only [Rk.ticked, if_neg hc, hm]
  refine ⟨h.off, rfl, fun j => ?_, fun j => ?_⟩
  · simp only [h.failed, h.counts]
    cases f j <;> rfl
  · simp only [h.counts]
    have e1 : w64 (-1 - 1) = -2 := w64m2
    have e2 : w64 (0 - 1) = -1 := w64_id (by omega) (by omega)
    cases f j
    · show maxI (w64 (-1 - 1)) (-1) = -1
      rw [e1]; rfl
    · show maxI (w64 (0 - 1)) (-1) = -1
      rw [e2]; rfl
theorem Armed.flushL {f : Nat → Bool} {d : Int} {xs : List Int} {R : Rk} (h : Armed R f) (hx : ∀ d' ∈ d :: xs, 0 ≤ d' ∧ d' < R.n) (hs : 0 < R.ns) :
    (flushL (d :: xs) R).2 = 0 ∧ Settled (flushL (d :: xs) R).1 f ∧ (flushL (d :: xs) R).1.n = R.n ∧ (flushL (d :: xs) R).1.ns = R.ns := by
  have hd := hx d (by simp)
  have hgd := gated_in h.off hd (s := 0) (by omega)
  have h12 : ¬ R.gate d 0 64 = 12 := by
    unfold Rk.gate
    have hr : ¬ (d < 0 ∨ d ≥ R.n ∨ (0 : Int) < 0 ∨ (0 : Int) ≥ R.ns) := by omega
    rw [if_neg (by simp [h.off]), if_neg hr, if_neg (by omega), if_neg (by rw [h.count]; omega)]
    split <;> omega
  simp only [Proofs.Ytldmeimebebllaa.flushL, if_neg h12]
  have hf := h.tick.flush (R := R) (k := d) hgd
  have hn := flush_n (R := R) d
  have ih := Settled.flushL (xs := xs) hf (by rw [hn.1]; exact fun d' hd' => hx d' (by simp [hd'])) (by rw [hn.2]; exact hs)
  rw [hn.1, hn.2] at ih
  exact ih
end Go.Proofs.Ytldmeimebebllaa
namespace Go.Proofs.Ytldmeimebebllaa
open Go.Mo
set_option linter.unusedVariables false
variable {g : Fr} {cv : CV}
def bitB (fails i : Int) : Bool := bAnd .i64 (bShr .i64 fails (IntKind.wrap .u64 i)) 1 == 1
def armedTo (fails : Int) (n : Nat) : Rk := { Rk.new 4 41 with dk := fun j => { Dk.new with count := if j < n ∧ bitB fails j = true then 0 else -1 } }
theorem armedTo_succ (fails : Int) {n : Nat} (hn : n < 4) : armedTo fails (n + 1) = if bitB fails n = true then (armedTo fails n).doom n 0 else armedTo fails n := by
  have hr : ¬ ((n : Int) < 0 ∨ (n : Int) ≥ ((armedTo fails n).n : Int)) := by
    show ¬ ((n : Int) < 0 ∨ (n : Int) ≥ ((4 : Nat) : Int))
    omega
  by_cases hb : bitB fails n = true
  · rw [if_pos hb, Rk.doom, if_neg hr]
    simp only [armedTo, Rk.setD, Rk.mk.injEq, true_and, and_true]
    funext j
    by_cases hj : j = n
    · subst hj; simp [hb, maxI]
    · have : j < n + 1 ↔ j < n := by omega
      simp [hj, this]
  · rw [if_neg hb]
    simp only [armedTo, Rk.mk.injEq, true_and, and_true]
    funext j
    by_cases hj : j = n
    · subst hj; simp [hb]
    · have : j < n + 1 ↔ j < n := by omega
      simp [this]
theorem armedTo_armed (fails : Int) : Armed (armedTo fails 4) (fun j => decide (j < 4) && bitB fails j) := ⟨rfl, rfl, fun _ => rfl, fun j => by
  simp only [armedTo]
  by_cases h1 : j < 4 <;> by_cases h2 : bitB fails j = true <;> simp [h1, h2]⟩
theorem filter_at (p : Nat → Bool) {k : Nat} (hk : k < 3) (hp : p k = true) : ((List.range 3).filter p)[((List.range k).filter p).length]? = some k := by
  have hsplit : List.range 3 = List.range k ++ (k :: (List.range 3).drop (k + 1)) := by
    have : k = 0 ∨ k = 1 ∨ k = 2 := by omega
    rcases this with e | e | e <;> subst e <;> rfl
  rw [hsplit, List.filter_append, List.getElem?_append_right (Nat.le_refl _), Nat.sub_self, List.filter_cons, if_pos hp]
  rfl
theorem slotV_in (m : G3) (i : Nat) (hi : i < 3) : (slotV (3, 3, 12) m i).2 = true ∧ (slotV (3, 3, 12) m i).1 = (if m.2.2 ≠ 0 ∧ m.2.1 = i then 3 else (i : Int)) := by
  have h : ¬ ((i : Int) < 0 ∨ (i : Int) ≥ 3) := by omega
  simp only [slotV]
  rw [if_neg h]
  split <;> exact ⟨rfl, rfl⟩
theorem slot_range (m : G3) (i : Nat) (hi : i < 3) : 0 ≤ (slotV (3, 3, 12) m i).1 ∧ (slotV (3, 3, 12) m i).1 < 4 := by
  rw [(slotV_in m i hi).2]
  split <;> omega
theorem disks_range (m : G3) : ∀ d ∈ disksL (3, 3, 12) m, 0 ≤ d ∧ d < ((4 : Nat) : Int) := by
  intro d hd
  simp only [disksL, List.mem_append, List.mem_map, List.mem_range] at hd
  rcases hd with ⟨i, hi, rfl⟩ | hd
  · exact slot_range m i (by omega)
  · split at hd
    · simp at hd; omega
    · simp at hd
theorem law06_BankBad_spec (hcv : DisksOk cv) (fails : Int) (m : G3) : wps g emp (law06_BankBad cv fails m) (fun r => pr (r = true)) := by
  unfold law06_BankBad
  repeat (first
    | (with_reducible refine wps_bindpure ?_)
    | (with_reducible refine wps_assoc ?_)
    | (with_reducible refine wps_nil ?_)
    | (with_reducible refine wps_stepAlloc fun _ => ?_)
    | (with_reducible refine wps_alloc fun _ => ?_)
    | (with_reducible refine wps_newO fun _ => ?_)
    | (refine wps_ld _ (by rfl) ?_)
    | (refine wps_ldG _ _ _ (by rfl) ?_)
    | (refine wps_ldA _ (by rfl) ?_)
    | (refine wps_ldI _ (by rfl) ?_)
    | (refine wps_ldGI _ _ _ (by rfl) ?_)
    | (refine wps_ldAI _ (by rfl) ?_)
    | (refine wps_st (by simp) ?_)
    | (refine wps_stA (by simp) (by simp [Value.oneCell']) ?_)
    | ((with_reducible apply wps_val); apply val_ite; rotate_left; refine fun (_ : ¬ _) => ?_; rotate_right; refine fun (_ : _ = true) => ?_)
    | ((with_reducible apply val_ite); rotate_left; refine fun (_ : ¬ _) => ?_; rotate_right; refine fun (_ : _ = true) => ?_)
    | (with_reducible refine wps_regionH ?_)
    | ((with_reducible apply wps_bindV); apply val_iteL; rotate_left; refine fun (_ : ¬ _) => ?_; rotate_right; refine fun (_ : _ = true) => ?_)
    | ((with_reducible apply val_iteL); rotate_left; refine fun (_ : ¬ _) => ?_; rotate_right; refine fun (_ : _ = true) => ?_)
    | (with_reducible exact wps_pure (ent_val rfl)))
  refine wps_callE (fun _ => law06_alive_spec) fun x => ?_
  refine wps_prP fun hx => ?_
  subst hx
  refine wps_ite (fun h => absurd h (by decide)) (fun _ => ?_)
  repeat (first
    | (with_reducible refine wps_val (law06_Small_val) ?_)
    | (with_reducible refine wps_stepV (law06_Small_val) ?_)
    | (with_reducible refine wps_val (geo_Sectors_val _) ?_)
    | (with_reducible refine wps_stepV (geo_Sectors_val _) ?_)
    | (with_reducible refine wps_bindpure ?_)
    | (with_reducible refine wps_assoc ?_)
    | (with_reducible refine wps_nil ?_)
    | (with_reducible refine wps_stepAlloc fun _ => ?_)
    | (with_reducible refine wps_alloc fun _ => ?_)
    | (with_reducible refine wps_newO fun _ => ?_)
    | (refine wps_ld _ (by rfl) ?_)
    | (refine wps_ldG _ _ _ (by rfl) ?_)
    | (refine wps_ldA _ (by rfl) ?_)
    | (refine wps_ldI _ (by rfl) ?_)
    | (refine wps_ldGI _ _ _ (by rfl) ?_)
    | (refine wps_ldAI _ (by rfl) ?_)
    | (refine wps_st (by simp) ?_)
    | (refine wps_stA (by simp) (by simp [Value.oneCell']) ?_)
    | ((with_reducible apply wps_val); apply val_ite; rotate_left; refine fun (_ : ¬ _) => ?_; rotate_right; refine fun (_ : _ = true) => ?_)
    | ((with_reducible apply val_ite); rotate_left; refine fun (_ : ¬ _) => ?_; rotate_right; refine fun (_ : _ = true) => ?_)
    | (with_reducible refine wps_regionH ?_)
    | ((with_reducible apply wps_bindV); apply val_iteL; rotate_left; refine fun (_ : ¬ _) => ?_; rotate_right; refine fun (_ : _ = true) => ?_)
    | ((with_reducible apply val_iteL); rotate_left; refine fun (_ : ¬ _) => ?_; rotate_right; refine fun (_ : _ = true) => ?_)
    | (with_reducible exact wps_pure (ent_val rfl)))
  rw [Small_sect]
  rename_i c3 _ c5
  refine wps_callE (fun _ => device_New_spec 4 41) fun x => ?_
  rw [if_neg (by decide), show Rk.new (Int.toNat 4) (Int.toNat 41) = Rk.new 4 41 from rfl]
  refine wps_exP fun rb => ?_
  rw [← star_assoc]
  refine wps_prP fun hx => ?_
  subst hx
  unfold rack
  refine wps_exP fun ds => wps_exP fun ps => ?_
  repeat (first
    | (with_reducible refine wps_bindpure ?_)
    | (with_reducible refine wps_assoc ?_)
    | (with_reducible refine wps_nil ?_)
    | (with_reducible refine wps_stepAlloc fun _ => ?_)
    | (with_reducible refine wps_alloc fun _ => ?_)
    | (with_reducible refine wps_newO fun _ => ?_)
    | (refine wps_ld _ (by rfl) ?_)
    | (refine wps_ldG _ _ _ (by rfl) ?_)
    | (refine wps_ldA _ (by rfl) ?_)
    | (refine wps_ldI _ (by rfl) ?_)
    | (refine wps_ldGI _ _ _ (by rfl) ?_)
    | (refine wps_ldAI _ (by rfl) ?_)
    | (refine wps_st (by simp) ?_)
    | (refine wps_stA (by simp) (by simp [Value.oneCell']) ?_)
    | ((with_reducible apply wps_val); apply val_ite; rotate_left; refine fun (_ : ¬ _) => ?_; rotate_right; refine fun (_ : _ = true) => ?_)
    | ((with_reducible apply val_ite); rotate_left; refine fun (_ : ¬ _) => ?_; rotate_right; refine fun (_ : _ = true) => ?_)
    | (with_reducible refine wps_regionH ?_)
    | ((with_reducible apply wps_bindV); apply val_iteL; rotate_left; refine fun (_ : ¬ _) => ?_; rotate_right; refine fun (_ : _ = true) => ?_)
    | ((with_reducible apply val_iteL); rotate_left; refine fun (_ : ¬ _) => ?_; rotate_right; refine fun (_ : _ = true) => ?_)
    | (with_reducible exact wps_pure (ent_val rfl)))
  refine wps_callH (fun _ => bank_Open_spec rb (Rk.new 4 41) ds ps (3, 3, 12) m) fun x => ?_
  by_cases ho : OpenB (Rk.new 4 41).n (Rk.new 4 41).ns (3, 3, 12) m = true
  · simp only [ho, if_true]
    refine wps_exP fun bb => ?_
    simp only [← star_assoc]
    refine wps_prP fun hx => ?_
    subst hx
    refine wps_val (v := false) (wps_ite (fun h => absurd h (by simp)) (fun _ => wps_pure (ent_val (by simp)))) ?_
    refine wps_ite (fun h => absurd h (by simp)) (fun _ => ?_)
    refine wps_loop (fun i => ex fun n : Nat => pr (i = (n : Int) ∧ n ≤ 4) * pc c3 [.int .i64 m.1, .int .i64 m.2.1, .int .i64 m.2.2] * rackP rb (armedTo fails n) ds ps * bnk bb rb (3, 3, 12) m) (fun i => (4 - i).toNat) ?_ fun i => ?_
    · have h0 : armedTo fails 0 = Rk.new 4 41 := by
        simp only [armedTo, Rk.new, Rk.mk.injEq, true_and, and_true]
        funext j
        simp [Dk.new]
      refine ent_ex 0 (ent_pick ?_)
      rw [h0]
      exact ent_pick (ent_pick (ent_prq ⟨rfl, by omega⟩))
    · refine wps_ex fun n => wps_prP fun ⟨hi, hn⟩ => ?_
      refine wps_ite (fun hc => ?_) (fun hc => ?_)
      · have hlt : n < 4 := by simp only [decide_eq_true_eq] at hc; omega
        have hw : IntKind.wrap .u64 i = i := by
          have : n = 0 ∨ n = 1 ∨ n = 2 ∨ n = 3 := by omega
          rcases this with e | e | e | e <;> subst e <;> subst hi <;> rfl
        refine wps_assert (by rw [hw]; omega) ?_
        have hsucc := armedTo_succ fails hlt
        refine wps_ite (fun hb => ?_) (fun hb => ?_)
        · have hb' : bitB fails n = true := by rw [← hi]; exact hb
          rw [if_pos hb'] at hsucc
          refine wps_callH (fun _ => device_Rack_Doom_spec rb (armedTo fails n) ds ps i 0) fun e => ?_
          rw [← star_assoc]
          refine wps_prP fun _ => wps_pure ?_
          refine ent_prr (by rw [range_add1 hi (by omega)]; omega) (ent_ex (n + 1) ?_)
          rw [hsucc, ← hi]
          exact ent_pick (ent_pick (ent_pick (ent_prq ⟨by rw [hi, ← range_add1 rfl (by omega)], by omega⟩)))
        · have hb' : ¬ bitB fails n = true := by rw [← hi]; exact hb
          rw [if_neg hb'] at hsucc
          refine wps_pure ?_
          refine ent_prr (by rw [range_add1 hi (by omega)]; omega) (ent_ex (n + 1) ?_)
          rw [hsucc]
          exact ent_pick (ent_pick (ent_pick (ent_prq ⟨range_add1 hi (by omega), by omega⟩)))
      · have hne : n = 4 := by simp only [decide_eq_true_eq] at hc; omega
        subst hne
        refine wps_mapR ?_
        refine wps_call (fun _ => bank_Flush_spec hcv bb rb (3, 3, 12) m (by decide) (armedTo fails 4) ds ps) (by rw [← star_assoc]; exact ent_pick (ent_pick (Ent.refl _))) fun e => ?_
        simp only [← star_assoc]
        refine wps_prP fun he => ?_
        have hcons : disksL (3, 3, 12) m = (slotV (3, 3, 12) m (0 : Nat)).1 :: (disksL (3, 3, 12) m).drop 1 := rfl
        obtain ⟨hz, hS, hn4, hn41⟩ := (armedTo_armed fails).flushL (d := (slotV (3, 3, 12) m (0 : Nat)).1) (xs := (disksL (3, 3, 12) m).drop 1) (by rw [← hcons]; exact disks_range m) (show 0 < 41 by decide)
        rw [← hcons] at hz hS hn4 hn41
        rw [hz] at he
        subst he
        generalize (flushL (disksL (3, 3, 12) m) (armedTo fails 4)).1 = R2 at hS hn4 hn41
        refine wps_ite (fun h => absurd h (by decide)) (fun _ => ?_)
        refine wps_call (fun _ => bank_Bad_spec bb rb (3, 3, 12) m R2 ds ps (by decide)) (by rw [← star_assoc]; exact ent_pick (ent_pick (Ent.refl _))) fun bs => ?_
        simp only [← star_assoc]
        have hn4' : R2.n = 4 := hn4
        have hn41' : R2.ns = 41 := hn41
        refine wps_fact (Ent.trans (ent_right _ _) (own_len _ _ _)) fun ⟨hbl, _⟩ => ?_
        have hbl' : bs.len = (badL (3, 3, 12) m R2).length := by simpa [iv] using hbl.symm
        have hbadL : badL (3, 3, 12) m R2 = (List.range 3).filter (isBad (3, 3, 12) m R2) := rfl
        have hfail : ∀ k : Nat, k < 3 → R2.failedB (slotV (3, 3, 12) m k).1 = bitB fails (slotV (3, 3, 12) m k).1 := by
          intro k hk
          have hr := slot_range m k hk
          rw [Rk.failedB, if_pos (by rw [hn4']; exact hr), hS.failed]
          have : ((slotV (3, 3, 12) m k).1.toNat : Int) = (slotV (3, 3, 12) m k).1 := by omega
          rw [this]
          have h4 : (slotV (3, 3, 12) m k).1.toNat < 4 := by omega
          simp [h4]
        refine wps_loop (fun s4 => ex fun k : Nat => pr (s4.2 = (k : Int) ∧ k ≤ 3 ∧ s4.1 = ((((List.range k).filter (isBad (3, 3, 12) m R2)).length : Nat) : Int)) * pc c3 [.int .i64 m.1, .int .i64 m.2.1, .int .i64 m.2.2] * bnk bb rb (3, 3, 12) m * rackP rb R2 ds ps * own 1 bs (iv (badL (3, 3, 12) m R2))) (fun s4 => (3 - s4.2).toNat) ?_ fun s4 => ?_
        · refine ent_ex 0 (ent_pick (ent_pick (ent_pick (ent_pick (ent_prq ⟨rfl, by omega, rfl⟩)))))
        · refine wps_ex fun k => wps_prP fun ⟨hk, hk3, hs1⟩ => ?_
          refine wps_ite (fun hc2 => ?_) (fun hc2 => ?_)
          · have hlt : k < 3 := by simp only [decide_eq_true_eq] at hc2; omega
            obtain ⟨hsv2, hsv1⟩ := slotV_in m k hlt
            have e6 : (if (if (m.2.2 != 0) = true then m.2.1 == s4.2 else false) = true then (3 : Int) else s4.2) = (slotV (3, 3, 12) m k).1 := by
              rw [hsv1, hk]
              by_cases h1 : m.2.2 = 0
              · simp [h1]
              · by_cases h2 : m.2.1 = (k : Int) <;> simp [h1, h2]
            repeat (first
              | (with_reducible refine wps_bindpure ?_)
              | (with_reducible refine wps_assoc ?_)
              | (with_reducible refine wps_nil ?_)
              | (with_reducible refine wps_stepAlloc fun _ => ?_)
              | (with_reducible refine wps_alloc fun _ => ?_)
              | (with_reducible refine wps_newO fun _ => ?_)
              | (refine wps_ld _ (by rfl) ?_)
              | (refine wps_ldG _ _ _ (by rfl) ?_)
              | (refine wps_ldA _ (by rfl) ?_)
              | (refine wps_ldI _ (by rfl) ?_)
              | (refine wps_ldGI _ _ _ (by rfl) ?_)
              | (refine wps_ldAI _ (by rfl) ?_)
              | (refine wps_st (by simp) ?_)
              | (refine wps_stA (by simp) (by simp [Value.oneCell']) ?_)
              | ((with_reducible apply wps_val); apply val_ite; rotate_left; refine fun (_ : ¬ _) => ?_; rotate_right; refine fun (_ : _ = true) => ?_)
              | ((with_reducible apply val_ite); rotate_left; refine fun (_ : ¬ _) => ?_; rotate_right; refine fun (_ : _ = true) => ?_)
              | (with_reducible refine wps_regionH ?_)
              | ((with_reducible apply wps_bindV); apply val_iteL; rotate_left; refine fun (_ : ¬ _) => ?_; rotate_right; refine fun (_ : _ = true) => ?_)
              | ((with_reducible apply val_iteL); rotate_left; refine fun (_ : ¬ _) => ?_; rotate_right; refine fun (_ : _ = true) => ?_)
              | (with_reducible exact wps_pure (ent_val rfl)))
            rw [e6]
            have hdr := slot_range m k hlt
            generalize hdk : (slotV (3, 3, 12) m k).1 = dk at *
            have hw : IntKind.wrap .u64 dk = dk := by
              have : dk = 0 ∨ dk = 1 ∨ dk = 2 ∨ dk = 3 := by omega
              rcases this with e | e | e | e <;> rw [e] <;> rfl
            refine wps_assert (by rw [hw]; omega) ?_
            refine wps_val (v := isBad (3, 3, 12) m R2 k) ?_ ?_
            · apply val_eq
              · repeat (first
                  | (with_reducible refine wps_bindpure ?_)
                  | (with_reducible refine wps_assoc ?_)
                  | (with_reducible refine wps_nil ?_)
                  | (with_reducible refine wps_stepAlloc fun _ => ?_)
                  | (with_reducible refine wps_alloc fun _ => ?_)
                  | (with_reducible refine wps_newO fun _ => ?_)
                  | (refine wps_ld _ (by rfl) ?_)
                  | (refine wps_ldG _ _ _ (by rfl) ?_)
                  | (refine wps_ldA _ (by rfl) ?_)
                  | (refine wps_ldI _ (by rfl) ?_)
                  | (refine wps_ldGI _ _ _ (by rfl) ?_)
                  | (refine wps_ldAI _ (by rfl) ?_)
                  | (refine wps_st (by simp) ?_)
                  | (refine wps_stA (by simp) (by simp [Value.oneCell']) ?_)
                  | ((with_reducible apply wps_val); apply val_ite; rotate_left; refine fun (_ : ¬ _) => ?_; rotate_right; refine fun (_ : _ = true) => ?_)
                  | ((with_reducible apply val_ite); rotate_left; refine fun (_ : ¬ _) => ?_; rotate_right; refine fun (_ : _ = true) => ?_)
                  | (with_reducible refine wps_regionH ?_)
                  | ((with_reducible apply wps_bindV); apply val_iteL; rotate_left; refine fun (_ : ¬ _) => ?_; rotate_right; refine fun (_ : _ = true) => ?_)
                  | ((with_reducible apply val_iteL); rotate_left; refine fun (_ : ¬ _) => ?_; rotate_right; refine fun (_ : _ = true) => ?_)
                  | (with_reducible exact wps_pure (ent_val rfl)))
              · have hf := hfail k hlt
                rw [hdk] at hf
                simp only [isBad, hdk, hf, hk]
                show (if bitB fails dk = true then true else if (m.2.2 == 1) = true then m.2.1 == (k : Int) else false) = _
                by_cases h1 : bitB fails dk = true
                · simp [h1]
                · by_cases h2 : m.2.2 = 1 <;> simp [h1, h2]
            · have hf1 : (List.range (k + 1)).filter (isBad (3, 3, 12) m R2) = (List.range k).filter (isBad (3, 3, 12) m R2) ++ if isBad (3, 3, 12) m R2 k then [k] else [] := by
                rw [List.range_succ, List.filter_append]
                by_cases h : isBad (3, 3, 12) m R2 k = true <;> simp [h]
              have hcount : ((List.range k).filter (isBad (3, 3, 12) m R2)).length ≤ 3 := by
                have := List.length_filter_le (isBad (3, 3, 12) m R2) (List.range k)
                rw [List.length_range] at this; omega
              refine wps_bindV (u := ((((List.range (k + 1)).filter (isBad (3, 3, 12) m R2)).length : Nat) : Int)) ?_ ?_
              · refine wps_ite (fun hbk => ?_) (fun hbk => ?_)
                · have hget := filter_at (isBad (3, 3, 12) m R2) hlt hbk
                  rw [← hbadL] at hget
                  have hltb := (List.getElem?_eq_some_iff.1 hget).1
                  refine wps_val (v := false) (wps_ite (fun h => ?_) (fun _ => ?_)) ?_
                  · have h' : s4.1 ≥ (bs.len : Int) := by simpa using h
                    omega
                  · refine wps_rdS ((List.range k).filter (isBad (3, 3, 12) m R2)).length (k : Int) hs1 (by simp [iv, hget]) ?_
                    exact wps_pure (ent_val (by simp [hk]))
                  · refine wps_ite (fun h => absurd h (by simp)) (fun _ => wps_pure (ent_val ?_))
                    rw [hf1, if_pos hbk, range_add1 hs1 (by omega)]
                    simp
                · refine wps_pure (ent_val ?_)
                  rw [hf1, if_neg hbk, hs1]; simp
              · refine wps_call (fun _ => bank_Read_spec bb rb (3, 3, 12) m R2 ds ps s4.2 0) (by rw [← star_assoc]; exact ent_pick (ent_pick (Ent.refl _))) fun y => ?_
                rw [hk, hdk, hsv2]
                simp only [if_true, ← star_assoc]
                refine wps_prP fun hy => ?_
                refine wps_assert (by rw [hw]; omega) ?_
                have hre : R2.rdErr dk 0 = if bitB fails dk then 13 else 0 := by
                  have hf := hfail k hlt
                  rw [hdk] at hf
                  rw [Rk.failedB, if_pos (by rw [hn4']; exact hdr)] at hf
                  unfold Rk.rdErr
                  have hr : ¬ (dk < 0 ∨ dk ≥ R2.n ∨ (0 : Int) < 0 ∨ (0 : Int) ≥ R2.ns) := by rw [hn4', hn41']; omega
                  rw [if_neg (by simp [hS.off]), if_neg hr, hf]
                rw [hy, hre]
                refine wps_ite (fun h => absurd h ?_) (fun _ => wps_pure ?_)
                · show ¬ (!((if bitB fails dk = true then (13 : Int) else 0) == 13) == bitB fails dk) = true
                  by_cases hb : bitB fails dk = true <;> simp [hb]
                · refine ent_prr (by (try dsimp only); rw [range_add1 rfl (by omega)]; omega) (ent_ex (k + 1) ?_)
                  exact ent_pick (ent_pick (ent_pick (ent_pick (ent_prq ⟨range_add1 rfl (by omega), by omega, rfl⟩))))
          · have hke : k = 3 := by simp only [decide_eq_true_eq] at hc2; omega
            subst hke
            refine wps_mapR ?_
            have heq : s4.1 = (bs.len : Int) := by rw [hs1, hbl', hbadL]
            refine wps_val (v := true) (wps_ite (fun _ => ?_) (fun h => absurd (by simpa using heq) h)) ?_
            · refine wps_val (val_frame (F := emp * pc c3 [.int .i64 m.1, .int .i64 m.2.1, .int .i64 m.2.2] * own 1 bs (iv (badL (3, 3, 12) m R2))) (fun _ => bank_SpareFailed_val bb rb (3, 3, 12) m R2 ds ps) (by ac_rfl)) ?_
              refine wps_pure (ent_val ?_)
              have h3 : R2.failedB 3 = bitB fails 3 := by
                rw [Rk.failedB, if_pos (by rw [hn4']; decide), hS.failed]
                rfl
              show (R2.failedB 3 == bitB fails 3) = true
              rw [h3]; simp
            · exact wps_pure (ent_prq rfl)
  · simp only [ho, if_false, Bool.false_eq_true]
    simp only [← star_assoc]
    refine wps_prP fun hx => ?_
    subst hx
    refine wps_val (v := true) (wps_ite (fun _ => wps_pure (ent_val rfl)) (fun h => absurd rfl h)) ?_
    exact wps_pure (ent_prq rfl)
end Go.Proofs.Ytldmeimebebllaa
namespace Go.Mo
set_option linter.unusedVariables false

/-! ## Ranges over functions whose order is open -/
section
variable {α β σ τ ξ : Type} {g : Fr} {H H' : HP} {Q : α → HP}
/-- a function value that hands out what 'nx' lets, from s0 on, till that says no; where it ends 'fin' holds -/
def IterG {ς : Type} (cv : CV) (fv : Value) (encX : ξ → Array Value) (s0 : ς) (nx : ς → ξ → ς → Prop) (fin : ς → Prop) (A : HP) : Prop :=
  ∀ (yv : Value) (I : ς → HP) (E : HP),
    (∀ (s : ς) (x : ξ) (s' : ς), nx s x s' → ∀ g, wps g (A * I s) (cv.call yv (encX x)) fun v => orp (pr (v = .bool true) * (A * I s')) (pr (v = .bool false) * (A * E))) →
    ∀ g, wps g (A * I s0) (cv.enter fv #[yv]) fun _ => A * orp (ex fun s => pr (fin s) * I s) E
theorem wps_rangeG {cv : CV} {fv : Value} {encX : ξ → Array Value} {asg : ξ → M τ} {body : τ → M (Unit ⊕ Jump)} {kn kr : Nat → M α} {ke : Nat → Nat → M α} {ς : Type} {s0 : ς} {nx : ς → ξ → ς → Prop} {fin : ς → Prop} {A F : HP} (I : ς → HP) (E : Jump → HP) (R : ς → ξ → ς → τ → HP)
    (hit : IterG cv fv encX s0 nx fin A) (h0 : Ent H (F * (A * I s0)))
    (hasg : ∀ (s : ς) (x : ξ) (s' : ς), nx s x s' → ∀ g, wps g (A * I s) (asg x) (R s x s'))
    (hbody : ∀ (s : ς) (x : ξ) (s' : ς), nx s x s' → ∀ t g, wps g (R s x s' t) (body t) fun r => match r with | .inl _ => A * I s' | .inr j => A * E j)
    (hn : ∀ D, wps g (F * (A * ex fun s => pr (fin s) * I s) * po D (.deferred (some []))) (kn D) Q)
    (hr : ∀ D, wps g (F * (A * E .ret) * po D (.deferred (some []))) (kr D) Q)
    (he : ∀ D id, wps g (F * (A * E (.exit id)) * po D (.deferred (some []))) (ke D id) Q) : wps g H (rangeFM cv fv encX asg body kn kr ke) Q := fun w a Qf ho ha hq => by
  intro mk hmk0 hyield
  have hmk : ∀ st p, Obj.soft (mk st p) := fun st p cs e f h => absurd h (hmk0 st p cs e f)
  have ha := h0 a ha
  have p1 := own_push ho (.deferred (some [])) (World.pushO w (.deferred (some []))) rfl ⟨rfl, rfl⟩ (fun _ _ _ h => by cases h)
  have q1 : (F * (A * I s0) * po w.heap.size (.deferred (some []))).p _ := ⟨a, _, p1.2, Hp.le_refl _, ha, by simp [po]⟩
  have p2 := own_push p1.1 (mk .ready none) (World.pushO (World.pushO w (.deferred (some []))) (mk .ready none)) rfl ⟨rfl, rfl⟩ (hmk _ _)
  have hsz : (World.pushO w (.deferred (some []))).heap.size = w.heap.size + 1 := by simp [World.pushO]
  have q2 : (F * (A * I s0) * po w.heap.size (.deferred (some [])) * po (w.heap.size + 1) (mk .ready none)).p _ := ⟨_, _, p2.2, Hp.le_refl _, q1, by rw [← hsz]; simp [po]⟩
  have hgo := hit (yieldV (w.heap.size + 1)) (fun i => I i * po (w.heap.size + 1) (mk .ready none)) (ex fun j => E j * po (w.heap.size + 1) (mk .done (some j.code))) (fun s x s' hx g' => by
    intro w1 a1 Qf1 ho1 ha1 hq1
    refine hyield x Qf1 w1 ?_
    refine wps_round hmk (hasg s x s' hx) (hbody s x s' hx) w1 a1 Qf1 ho1 (by rw [star_assoc]; exact ha1) fun v w2 a2 ho2 ha2 => hq1 v w2 a2 ho2 ?_
    rcases ha2 with ha2 | ha2
    · left; rw [star_assoc] at ha2; exact ha2
    · right
      refine Ent.starr ?_ a2 ha2
      refine ex_ent fun j => ?_
      rw [star_assoc]
      exact Ent.starr (ent_ex j (Ent.refl _)))
  have hfr := wps_frame (g := g) (F := F * po w.heap.size (.deferred (some []))) hgo
  refine hfr _ _ _ p2.1 ?_ fun v w3 a3 ho3 ha3 => ?_
  · refine Ent.of_eq ?_ _ q2
    simp only [star_assoc]
    ac_rfl
  · have hsplit : ∀ B : HP, ∀ ob, (A * (B * po (w.heap.size + 1) ob) * (F * po w.heap.size (.deferred (some [])))) = (F * (A * B) * po w.heap.size (.deferred (some [])) * po (w.heap.size + 1) ob) := by
      intro B ob; ac_rfl
    have ha3' : (orp (F * (A * ex fun s => pr (fin s) * I s) * po w.heap.size (.deferred (some [])) * po (w.heap.size + 1) (mk .ready none))
        (ex fun j => F * (A * E j) * po w.heap.size (.deferred (some [])) * po (w.heap.size + 1) (mk .done (some j.code)))).p a3 := by
      obtain ⟨x1, x2, hd, hl, ⟨y1, y2, hd', hl', hA, hor⟩, hF⟩ := ha3
      rcases hor with hor | hor
      · left
        rw [← hsplit]
        obtain ⟨s, hs⟩ := hor
        have hor' : ((ex fun s => pr (fin s) * I s) * po (w.heap.size + 1) (mk .ready none)).p y2 := by
          rw [ex_star]; refine ⟨s, ?_⟩
          show HP.p (pr (fin s) * I s * _) _
          rw [star_assoc]; exact hs
        exact ⟨x1, x2, hd, hl, ⟨y1, y2, hd', hl', hA, hor'⟩, hF⟩
      · right
        obtain ⟨j, hor⟩ := hor
        refine ⟨j, ?_⟩
        show (F * (A * E j) * po w.heap.size (.deferred (some [])) * po (w.heap.size + 1) (mk .done (some j.code))).p a3
        rw [← hsplit]
        exact ⟨x1, x2, hd, hl, ⟨y1, y2, hd', hl', hA, hor⟩, hF⟩
    rcases ha3' with ha3 | ⟨j, ha3⟩
    · refine ⟨.ready, none, own_po ho3 ha3, by simp, ?_⟩
      obtain ⟨a4, ho4, ha4⟩ := own_put (mk .exhausted none) (hmk _ _) ho3 ha3
      exact hn _ _ a4 Qf ho4 (ent_left _ _ a4 ha4) hq
    · refine ⟨.done, some j.code, own_po ho3 ha3, by simp, j, rfl, ?_⟩
      obtain ⟨a4, ho4, ha4⟩ := own_put (mk .exhausted (some j.code)) (hmk _ _) ho3 ha3
      have ha5 := ent_left _ _ a4 ha4
      cases j with
      | ret => exact hr _ _ a4 Qf ho4 ha5 hq
      | exit id => exact he _ id _ a4 Qf ho4 ha5 hq

def itrF (it m : Nat) (es : Array MapEntry) (clock : Nat) (f : Int → Option Value) (V : Int → Bool) : HP := ex fun seen : Array Nat => pr (ItrOk es clock seen f V) * itrC it m es clock seen
def itrAtF (it m : Nat) (es : Array MapEntry) (clock : Nat) (f : Int → Option Value) (V : Int → Bool) (j : Int) (v : Value) : HP := ex fun seen : Array Nat =>
  pr (ItrOk es clock seen f (fun i => V i || i == j) ∧ ∃ e ∈ es.toList, e.key = .int .i64 j ∧ e.val = v ∧ seen.back? = some e.born) * itrC it m es clock seen
theorem wps_rangeMapF {k : Addr → M α} {m : Nat} {es : Array MapEntry} {clock : Nat} {f : Int → Option Value} (hm : MapOk es.toList clock f) [hp : PickO m H (.map es clock) H'] (h : ∀ it, wps g (H' * itrF it m es clock f (fun _ => false)) (k ⟨it, 0, none⟩) Q) : wps g H (bindM (rangeMapM (some m)) k) Q := fun w a Qf ho ha hq => by
  rw [hp.eq] at ha
  refine ⟨es, clock, own_po ho ha, ?_⟩
  have hpu := own_push ho (.mapIter (some m) clock #[] clock) (World.pushO w (.mapIter (some m) clock #[] clock)) rfl ⟨rfl, rfl⟩ (fun _ _ _ h => by cases h)
  have q1 : (H' * po m (.map es clock) * po w.heap.size (.mapIter (some m) clock #[] clock)).p _ := ⟨a, _, hpu.2, Hp.le_refl _, ha, by simp [po]⟩
  refine h w.heap.size _ _ Qf hpu.1 (?_ : HP.p _ _) hq
  refine Ent.trans (Ent.of_eq (star_assoc _ _ _)) (Ent.starr ?_) _ q1
  refine ent_ex #[] (ent_prr ⟨hm, fun e he k hk => by simp⟩ ?_)
  rw [star_comm]; exact Ent.refl _
theorem wps_nextF {k : Option (Value × Value) → M α} {it m : Nat} {f : Int → Option Value} {V : Int → Bool} {es : Array MapEntry} {clock : Nat} (hH : H = H' * itrF it m es clock f V)
    (h0 : (∀ j v, f j = some v → V j = true) → wps g (H' * itrF it m es clock f V) (k none) Q)
    (h1 : ∀ j v, f j = some v → V j = false → wps g (H' * itrAtF it m es clock f V j v) (k (some (.int .i64 j, v))) Q) : wps g H (bindM (nextM ⟨it, 0, none⟩) k) Q := fun w a Qf ho ha hq => by
  rw [hH] at ha
  unfold itrF at ha
  rw [star_ex] at ha
  obtain ⟨seen, ha⟩ := ha
  simp only at ha
  rw [star_left_comm] at ha
  have hok : ItrOk es clock seen f V := ent_left _ _ a ha
  have ha := ent_right _ _ a ha
  have ham : (H' * po it (.mapIter (some m) clock seen clock) * po m (.map es clock)).p a := by rw [star_assoc]; exact ha
  have hai : (H' * po m (.map es clock) * po it (.mapIter (some m) clock seen clock)).p a := by rw [star_right_comm]; exact ham
  have hmem := own_po ho ham
  have hit := own_po ho hai
  refine ⟨rfl, .inr ⟨m, clock, seen, clock, es, clock, hit, hmem, ?_, ?_, ?_⟩⟩
  · cases hes : es.isEmpty with
    | true => simp
    | false =>
      have : ¬ (es.all fun e => decide (e.born ≥ clock)) = true := by
        intro hall
        rw [Array.all_eq_true_iff_forall_mem] at hall
        have hne : es.size ≠ 0 := by
          intro h0; simp at h0; simp [h0] at hes
        have h1 := hall es[0] (Array.getElem_mem (by omega))
        have h2 := hok.map.below es[0] (by rw [Array.mem_toList_iff]; exact Array.getElem_mem (by omega))
        simp at h1; omega
      simp only [Bool.and_eq_false_iff]
      right
      simpa using this
  · unfold iterCands
    simp only
    split
    · simp
    · rename_i hne
      have h2 : 0 < ((iterLeft es seen).filter fun x => decide (x.born < clock)).size := by
        rw [Array.isEmpty_iff_size_eq_zero] at hne
        omega
      simp only [Array.size_append, Array.size_map]
      omega
  · intro c hc
    have hmemc : (c = none ∧ ∀ e ∈ es.toList, seen.contains e.born = true) ∨ ∃ e ∈ es.toList, seen.contains e.born = false ∧ c = some e := by
      unfold iterCands at hc
      simp only at hc
      rw [Array.mem_append] at hc
      rcases hc with hc | hc
      · split at hc
        · rename_i hem
          left
          refine ⟨by simpa using hc, fun e he => ?_⟩
          rw [Array.isEmpty_iff_size_eq_zero, Array.size_eq_zero_iff, Array.filter_eq_empty_iff] at hem
          cases hs : seen.contains e.born with
          | true => rfl
          | false =>
            have hl : e ∈ iterLeft es seen := by
              unfold iterLeft
              rw [Array.mem_filter]
              exact ⟨Array.mem_toList_iff.1 he, by simp only [hs]; rfl⟩
            exact absurd (decide_eq_true (hok.map.below e he)) (hem e hl)
        · simp at hc
      · right
        rw [Array.mem_map] at hc
        obtain ⟨e, he, rfl⟩ := hc
        have hl : e ∈ iterLeft es seen := by
          rw [Array.mem_append] at he
          rcases he with he | he
          · exact (Array.mem_filter.1 he).1
          · exact (Array.mem_filter.1 he).1
        unfold iterLeft at hl
        rw [Array.mem_filter] at hl
        exact ⟨e, Array.mem_toList_iff.2 hl.1, by simpa using hl.2, rfl⟩
    rcases hmemc with ⟨rfl, hall⟩ | ⟨e, he, hs, rfl⟩
    · have hall' : ∀ j v, f j = some v → V j = true := fun j v hj => by
        obtain ⟨e, he, hk, _⟩ := (hok.map.find j v).1 hj
        rw [← hok.seen e he j hk]
        exact hall e he
      have hpost : (H' * itrF it m es clock f V).p a := by
        refine Ent.starr ?_ a ha
        exact ent_ex seen (ent_prr hok (Ent.refl _))
      exact ⟨h0 hall' w a Qf ho hpost hq, h0 hall' (drawW w) a Qf (own_draw ho) hpost hq⟩
    · obtain ⟨j, hj⟩ := hok.map.keys e he
      have hkj : keyIs j e = true := by rw [keyIs_int hj]; simp
      have hfj : f j = some e.val := (hok.map.find j e.val).2 ⟨e, he, hkj, rfl⟩
      have hVj : V j = false := by rw [← hok.seen e he j hkj]; exact hs
      have hok' : ItrOk es clock (seen.push e.born) f (fun i => V i || i == j) := ⟨hok.map, fun e' he' i hi => by
        have h2 := hok.seen e' he' i hi
        obtain ⟨n', hn'⟩ := hok.map.keys e' he'
        have hni : i = n' := by rw [keyIs_int hn'] at hi; simpa using hi
        have hcp : (seen.push e.born).contains e'.born = (seen.contains e'.born || e'.born == e.born) := by
          rw [Bool.eq_iff_iff]; simp [Array.mem_push]
        rw [hcp, h2]
        congr 1
        by_cases hb : e'.born = e.born
        · have := hok.map.one he' he hb
          subst this
          rw [hj] at hn'; cases hn'
          simp [hni]
        · have : ¬ i = j := by
            intro hij
            subst hij
            obtain ⟨x, hx⟩ := List.mem_iff_getElem?.1 he'
            obtain ⟨y, hy⟩ := List.mem_iff_getElem?.1 he
            have hxy := hok.map.once x y e' e i hx hy hi hkj
            subst hxy
            rw [hx] at hy
            exact hb (by rw [Option.some.inj hy])
          rw [show (e'.born == e.born) = false from by simpa using hb, show (i == j) = false from by simpa using this]⟩
      have step : ∀ w1, Own w1 a g → nextPost (fun y w' => k y Qf w') it m clock seen clock w1 (some e) := by
        intro w1 ho1
        obtain ⟨a', ho', ha'⟩ := own_put (.mapIter (some m) clock (seen.push e.born) clock) (fun _ _ _ h => by cases h) ho1 hai
        show k (some (e.key, e.val)) Qf _
        rw [hj]
        refine h1 j e.val hfj hVj _ a' Qf ho' ?_ hq
        refine Ent.trans (Ent.of_eq (star_assoc _ _ _)) (Ent.starr ?_) a' ha'
        refine ent_ex (seen.push e.born) (ent_prr ⟨hok', e, he, hj, rfl, by simp⟩ ?_)
        unfold itrC
        rw [star_comm]; exact Ent.refl _
      exact ⟨step w ho, step (drawW w) (own_draw ho)⟩
theorem wps_entryF {ev : β → Value} {k : Int × β → M α} {it m : Nat} {f : Int → Option Value} {V : Int → Bool} {j : Int} {v : Value} {es : Array MapEntry} {clock : Nat} (y : β) (hH : H = H' * itrAtF it m es clock f V j v) (hy : v = ev y)
    (h : wps g (H' * itrF it m es clock f (fun i => V i || i == j)) (k (j, y)) Q) : wps g H (bindM (entryM (Value.int .i64) ev ⟨it, 0, none⟩) k) Q := fun w a Qf ho ha hq => by
  rw [hH] at ha
  unfold itrAtF at ha
  rw [star_ex] at ha
  obtain ⟨seen, ha⟩ := ha
  simp only at ha
  rw [star_left_comm] at ha
  obtain ⟨hok, e, he, hk, hv, hb⟩ := ent_left _ _ a ha
  have ha := ent_right _ _ a ha
  have ham : (H' * po it (.mapIter (some m) clock seen clock) * po m (.map es clock)).p a := by rw [star_assoc]; exact ha
  have hai : (H' * po m (.map es clock) * po it (.mapIter (some m) clock seen clock)).p a := by rw [star_right_comm]; exact ham
  refine ⟨rfl, m, clock, seen, clock, es, clock, e.born, e, j, y, own_po ho hai, hb, own_po ho ham, rfl, ?_, hk, by rw [hv, hy], h w a Qf ho ?_ hq⟩
  · have : es.find? (fun x => x.born == e.born) = some e := by
      rw [← Array.find?_toList]
      cases hf : es.toList.find? (fun x => x.born == e.born) with
      | none =>
        rw [List.find?_eq_none] at hf
        exact absurd (by simp) (hf e he)
      | some e' =>
        have h1 := List.find?_some hf
        have h2 := List.mem_of_find?_eq_some hf
        rw [hok.map.one h2 he (by simpa using h1)]
    exact this
  · refine Ent.starr ?_ a ha
    exact ent_ex seen (ent_prr hok (Ent.refl _))
end
end Go.Mo
namespace Go.Mo
set_option linter.unusedVariables false

/-! ## Parts of slices; copies -/
def subS (z : Nat) (s : Slc) (l h : Nat) : Slc := ⟨if s.cap = l then s.base else s.base.map (·.add (l * z)), h - l, s.cap - l⟩
theorem rsl_sub {z : Nat} {s : Slc} {cs : List Value} {l h : Nat} (h1 : l ≤ h) (h2 : h ≤ s.len) : Ent (rsl z s cs) (rsl z (subS z s l h) ((cs.drop (l * z)).take ((h - l) * z))) := fun o ho => by
  rcases ho with ho | ho
  · left
    obtain ⟨h0, hc⟩ := ho
    exact ⟨by show h - l = 0; omega, by simp [hc]⟩
  · obtain ⟨ad, all, ho⟩ := ho
    obtain ⟨hb, hl, hle, hcs⟩ := ent_left _ _ o ho
    have ho := ent_right _ _ o ho
    by_cases hc : s.cap = l
    · left
      have : h - l = 0 := by omega
      exact ⟨this, by simp [this]⟩
    · right
      refine ⟨⟨ad.block, ad.off + l * z, none⟩, all, ?_⟩
      refine ent_pr ⟨?_, ?_, ?_, ?_⟩ o ho
      · simp [subS, hc, hb, Addr.add_mk]
      · show _ = (h - l) * z
        rw [List.length_take, List.length_drop, hl, ← Nat.sub_mul]
        exact Nat.min_eq_left (Nat.mul_le_mul_right _ (by omega))
      · show h - l ≤ s.cap - l
        omega
      · show (all.drop (ad.off + l * z)).take ((h - l) * z) = _
        rw [← hcs, List.drop_take, List.drop_drop, List.take_take, ← Nat.sub_mul]
        rw [Nat.min_eq_left (Nat.mul_le_mul_right _ (by omega))]
theorem sliceM_val {s : Slc} {lo hi : Option Int} {size l h : Nat} {g : Fr} {H : HP} (hl : lo.getD 0 = (l : Int)) (hh : hi.getD s.len = (h : Int)) (h1 : l ≤ h) (h2 : h ≤ s.cap) : Val g H (sliceM s lo hi size) (subS size s l h) := fun w a Qf ho ha hq =>
  ⟨l, h, hl, hh, h1, h2, hq _ w a ho (ent_pr rfl a ha)⟩
theorem wps_slice {α : Type} {s : Slc} {lo hi : Option Int} {size : Nat} {g : Fr} {H : HP} {k : Slc → M α} {Q : α → HP} (l h : Nat) (hl : lo.getD 0 = (l : Int)) (hh : hi.getD s.len = (h : Int)) (h1 : l ≤ h) (h2 : h ≤ s.cap) (hk : wps g H (k (subS size s l h)) Q) :
    wps g H (bindM (sliceM s lo hi size) k) Q := wps_val (sliceM_val hl hh h1 h2) hk
theorem ovw_app {a b new : List Value} (h : new.length ≤ a.length) : ovw (a ++ b) 0 new = ovw a 0 new ++ b := by
  simp [ovw, List.drop_append, Nat.sub_eq_zero_of_le h]
theorem ovw_len {a new : List Value} {off : Nat} (h : off + new.length ≤ a.length) : (ovw a off new).length = a.length := by
  simp only [ovw, List.length_append, List.length_take, List.length_drop]; omega
section
variable {α : Type} {g : Fr} {H H' : HP} {Q : α → HP}
theorem rsl_cap {z : Nat} {s : Slc} {cs : List Value} : Ent (rsl z s cs) (pr (s.base.isSome = true → s.len ≤ s.cap ∨ s.len = 0)) := fun o ho => by
  rcases ho with ho | ⟨ad, all, ho⟩
  · exact fun _ => .inr ho.1
  · exact fun _ => .inl (ent_left _ _ o ho).2.2.1
theorem wps_copy {k : Int → M α} {z : Nat} {d x : Slc} {old new : List Value} (hx : Ent H (rsl z x new)) (hd : H = H' * own z d old) (hv : ∀ v ∈ new, v.oneCell' = true)
    (h : wps g (H' * own z d (ovw old 0 (new.take (min x.len d.len * z)))) (k ((min x.len d.len : Nat) : Int)) Q) : wps g H (bindM (copyM z d x) k) Q := fun w a Qf ho ha hq => by
  obtain ⟨hc, hlx⟩ := cellsAt_rsl hx ho ha
  have hlen : old.length = d.len * z ∧ d.len ≤ d.cap := by
    rw [hd] at ha
    exact own_len _ _ _ a (ent_right _ _ a ha)
  have hmin : min x.len d.len * z ≤ d.len * z := Nat.mul_le_mul_right _ (Nat.min_le_right _ _)
  have hmin' : min x.len d.len * z ≤ x.len * z := Nat.mul_le_mul_right _ (Nat.min_le_left _ _)
  refine ⟨new.take (min x.len d.len * z), ?_, fun _ => ?_, ?_⟩
  · cases hb : x.base with
    | none =>
      rw [hb] at hc
      have : new = [] := hc
      subst this
      show List.take _ [] = []
      simp
    | some ad =>
      rw [hb] at hc
      intro j v hj
      rw [List.getElem?_take] at hj
      split at hj
      · exact hc j v hj
      · cases hj
  · rw [List.length_take, hlx]
    show _ = min x.len d.len * z
    omega
  · rw [hd] at ha
    obtain ⟨base, len, cap⟩ := d
    cases base with
    | none =>
      have h0 := ent_right _ _ a ha
      obtain ⟨e1, e2, e3⟩ := h0
      simp only at e1 e2 e3
      subst e1 e2 e3
      have hz : ∀ n : Nat, min n 0 = 0 := fun n => by omega
      simp only [hz, Nat.zero_mul, List.take_zero, ovw_nil] at h
      have : ∀ n : Nat, Nat.min n 0 = 0 := fun n => Nat.min_zero n
      simp only [this]
      exact h w a Qf ho ha hq
    | some ad =>
      have hown : ∀ cs, own z ⟨some ad, len, cap⟩ cs = ex fun rest => pr (ad = ⟨ad.block, 0, none⟩ ∧ cs.length = len * z ∧ cs.length + rest.length = cap * z ∧ len ≤ cap) * pc ad.block (cs ++ rest) := fun _ => rfl
      rw [hown, star_ex] at ha
      obtain ⟨rest, ha⟩ := ha
      simp only at ha
      rw [star_left_comm] at ha
      obtain ⟨h1, h2, h3, h4⟩ := ent_left _ _ a ha
      have ha := ent_right _ _ a ha
      simp only at hlen hmin
      have hnl : (new.take (min x.len len * z)).length ≤ old.length := by rw [List.length_take]; omega
      obtain ⟨hst, a', ho', ha'⟩ := own_row (off := 0) ho ha (new := new.take (min x.len len * z)) (by simp only [List.length_append]; omega) (fun v hv' => hv v (List.mem_of_mem_take hv'))
      show storable w ad 0 _ ∧ _
      rw [h1]
      refine ⟨hst, ?_⟩
      refine h _ a' Qf ho' ?_ hq
      rw [hown, star_ex]
      refine ⟨rest, ?_⟩
      show HP.p (H' * (pr _ * pc _ _)) _
      rw [star_left_comm]
      rw [ovw_app hnl] at ha'
      have hol : (ovw old 0 (new.take (min x.len len * z))).length = old.length := ovw_len (by omega)
      exact ent_pr ⟨h1, hol.trans h2, by rw [hol]; exact h3, h4⟩ _ ha'
theorem wps_copyS {k : Int → M α} {z : Nat} {d x : Slc} {old new : List Value} [hp : PickS z d H old H'] (hx : Ent H (rsl z x new)) (hv : ∀ v ∈ new, v.oneCell' = true)
    (h : wps g (H' * own z d (ovw old 0 (new.take (min x.len d.len * z)))) (k ((min x.len d.len : Nat) : Int)) Q) : wps g H (bindM (copyM z d x) k) Q := wps_copy hx hp.eq hv h
/-- a call whose precondition is two, three chunks -/
theorem wps_call2 {β : Type} {m : M β} {k : β → M α} {A1 A2 H1 H2 : HP} {Q' : β → HP} [h1 : Has H A2 H1] [h2 : Has H1 A1 H2] (hs : ∀ g', wps g' (A1 * A2) m Q') (h' : ∀ x, wps g (H2 * Q' x) (k x) Q) : wps g H (bindM m k) Q :=
  wps_call hs (Ent.of_eq (by rw [h1.eq, h2.eq, star_assoc])) h'
theorem wps_call3 {β : Type} {m : M β} {k : β → M α} {A1 A2 A3 H1 H2 H3 : HP} {Q' : β → HP} [h1 : Has H A3 H1] [h2 : Has H1 A2 H2] [h3 : Has H2 A1 H3] (hs : ∀ g', wps g' (A1 * A2 * A3) m Q') (h' : ∀ x, wps g (H3 * Q' x) (k x) Q) : wps g H (bindM m k) Q :=
  wps_call hs (Ent.of_eq (by rw [h1.eq, h2.eq, h3.eq]; simp only [star_assoc])) h'
theorem wps_tail2 {m : M α} {A1 A2 H1 H2 : HP} {Q' : α → HP} [h1 : Has H A2 H1] [h2 : Has H1 A1 H2] (hs : ∀ g', wps g' (A1 * A2) m Q') (h' : ∀ x, Ent (H2 * Q' x) (Q x)) : wps g H m Q :=
  wps_tail hs (Ent.of_eq (by rw [h1.eq, h2.eq, star_assoc])) h'
theorem wps_val2 {β : Type} {m : M β} {k : β → M α} {A1 A2 H1 H2 : HP} {v : β} [h1 : Has H A2 H1] [h2 : Has H1 A1 H2] (hs : ∀ g', Val g' (A1 * A2) m v) (h' : wps g H (k v) Q) : wps g H (bindM m k) Q :=
  wps_val (val_frame hs (by rw [h1.eq, h2.eq, star_assoc])) h'
theorem wps_stepC1 {β : Type} {R : HP} {m : M β} {k : β → M α} {A H1 : HP} {Q' : β → HP} [h1 : Has H A H1] [d : Drops H1 R] (hs : ∀ g', wps g' A m Q') (h' : ∀ x, wps g (H1 * Q' x) (k x) Q) : wps g H (bindM (stepI (Iv g R) m) k) Q :=
  wps_stepC hs (Ent.of_eq h1.eq) d.ent h'
theorem wps_stepC2 {β : Type} {R : HP} {m : M β} {k : β → M α} {A1 A2 H1 H2 : HP} {Q' : β → HP} [h1 : Has H A2 H1] [h2 : Has H1 A1 H2] [d : Drops H2 R] (hs : ∀ g', wps g' (A1 * A2) m Q') (h' : ∀ x, wps g (H2 * Q' x) (k x) Q) : wps g H (bindM (stepI (Iv g R) m) k) Q :=
  wps_stepC hs (Ent.of_eq (by rw [h1.eq, h2.eq, star_assoc])) d.ent h'
theorem wps_again {R : HP} (R2 : HP) {body : (World → Prop) → M α} (hR : Ent H R2) (h2 : Ent R2 R) (h : wps g H (body (Iv g R2)) Q) : wps g H (againM (Iv g R) body) Q := fun w a Qf ho ha hq =>
  ⟨Iv g R2, fun w' ⟨a', ho', ha'⟩ => ⟨a', ho', h2 a' ha'⟩, ⟨a, ho, hR a ha⟩, h w a Qf ho ha hq⟩
theorem wps_againH {R : HP} [d : Drops H R] {body : (World → Prop) → M α} (h : wps g H (body (Iv g H)) Q) : wps g H (againM (Iv g R) body) Q := wps_again H (Ent.refl H) d.ent h
/-! elements of several cells -/
theorem rd_rslZ {w : World} {a : Hp} {z : Nat} {s : Slc} {cs : List Value} {n j : Nat} {v : Value} (hp : Ent H (rsl z s cs)) (ho : Own w a g) (ha : H.p a) (hj : j < z) (hv : cs[n * z + j]? = some v) :
    n < s.len ∧ ∃ b off, s.base = some ⟨b, off, none⟩ ∧ w.cell? ⟨b, off + n * z + j, none⟩ = some v := by
  rcases hp a ha with hx | ⟨ad, all, hx⟩
  · rw [hx.2] at hv; simp at hv
  · have hpr := ent_left _ _ a hx
    have hro := ent_right _ _ a hx
    obtain ⟨h1, h2, h3, h4⟩ := hpr
    have hlt : n < s.len := by
      have h5 := (List.getElem?_eq_some_iff.1 hv).1
      refine Nat.lt_of_not_le fun h => ?_
      have := Nat.mul_le_mul_right z h
      omega
    refine ⟨hlt, ad.block, ad.off, h1, ?_⟩
    refine rd_cell (H := ro ad.block all) (Ent.refl _) ho hro ?_
    rw [← h4, List.getElem?_take] at hv
    split at hv
    · rw [List.getElem?_drop] at hv; rw [Nat.add_assoc]; exact hv
    · cases hv
theorem wps_rdA {β : Type} {enc : β → List Value} {k : β → M α} {z : Nat} {s : Slc} {i : Int} {cs : List Value} (n : Nat) (x : β) (hp : Ent H (rsl z s cs)) (hi : i = (n : Int)) (hz : 0 < (enc x).length ∧ (enc x).length ≤ z) (hv : ∀ j v, (enc x)[j]? = some v → cs[n * z + j]? = some v) (h : wps g H (k x) Q) :
    wps g H (bindM (idxM s i z) fun a => bindM (ldA enc a) k) Q := fun w a Qf ho ha hq => by
  subst hi
  obtain ⟨hlt, b, off, hb, _⟩ := rd_rslZ (n := n) (j := 0) hp ho ha (by omega) (hv 0 _ (List.getElem?_eq_getElem hz.1))
  refine ⟨⟨b, off, none⟩, hb, by omega, by omega, ?_⟩
  rw [Addr.add_mk]
  refine ⟨x, fun j v hj => ?_, h w a Qf ho ha hq⟩
  rw [Addr.add_mk, Int.toNat_natCast]
  obtain ⟨_, b', off', hb', hc⟩ := rd_rslZ (n := n) (j := j) hp ho ha (by have := (List.getElem?_eq_some_iff.1 hj).1; omega) (hv j v hj)
  rw [hb] at hb'; cases hb'
  exact hc
theorem wps_rdAI {β : Type} {R : HP} {enc : β → List Value} {k : β → M α} {z : Nat} {s : Slc} {i : Int} {cs : List Value} (n : Nat) (x : β) (hp : Ent R (rsl z s cs)) (hR : Ent H R) (hi : i = (n : Int)) (hz : 0 < (enc x).length ∧ (enc x).length ≤ z) (hv : ∀ j v, (enc x)[j]? = some v → cs[n * z + j]? = some v) (h : wps g H (k x) Q) :
    wps g H (bindM (idxM s i z) fun a => bindM (ldAI (Iv g R) enc a) k) Q := fun w a Qf ho ha hq => by
  subst hi
  obtain ⟨hlt, b, off, hb, _⟩ := rd_rslZ (n := n) (j := 0) hp ho (hR a ha) (by omega) (hv 0 _ (List.getElem?_eq_getElem hz.1))
  refine ⟨⟨b, off, none⟩, hb, by omega, by omega, ?_⟩
  rw [Addr.add_mk]
  refine ⟨x, fun w' ⟨a', ho', ha'⟩ j v hj => ?_, h w a Qf ho ha hq⟩
  rw [Addr.add_mk, Int.toNat_natCast]
  obtain ⟨_, b', off', hb', hc⟩ := rd_rslZ (n := n) (j := j) hp ho' ha' (by have := (List.getElem?_eq_some_iff.1 hj).1; omega) (hv j v hj)
  rw [hb] at hb'; cases hb'
  exact hc
/-- one field of an element -/
theorem wps_rdFI {β : Type} {R : HP} {enc : β → Value} {k : β → M α} {z f : Nat} {s : Slc} {i : Int} {cs : List Value} (n : Nat) (x : β) (hp : Ent R (rsl z s cs)) (hR : Ent H R) (hi : i = (n : Int)) (hz : f < z) (hv : cs[n * z + f]? = some (enc x)) (h : wps g H (k x) Q) :
    wps g H (bindM (idxM s i z) fun a => bindM (ldI (Iv g R) enc (Addr.add a f)) k) Q := fun w a Qf ho ha hq => by
  subst hi
  obtain ⟨hlt, b, off, hb, _⟩ := rd_rslZ (n := n) (j := f) hp ho (hR a ha) hz hv
  refine ⟨⟨b, off, none⟩, hb, by omega, by omega, ?_⟩
  rw [Addr.add_mk]
  show bindM (ldI (Iv g R) enc (Addr.add _ f)) k Qf w
  rw [Addr.add_mk, Int.toNat_natCast]
  refine ⟨x, fun w' ⟨a', ho', ha'⟩ => ?_, h w a Qf ho ha hq⟩
  obtain ⟨_, b', off', hb', hc⟩ := rd_rslZ (n := n) (j := f) hp ho' ha' hz hv
  rw [hb] at hb'; cases hb'
  exact hc
theorem wps_rdF {β : Type} {enc : β → Value} {k : β → M α} {z f : Nat} {s : Slc} {i : Int} {cs : List Value} (n : Nat) (x : β) (hp : Ent H (rsl z s cs)) (hi : i = (n : Int)) (hz : f < z) (hv : cs[n * z + f]? = some (enc x)) (h : wps g H (k x) Q) :
    wps g H (bindM (idxM s i z) fun a => bindM (ld enc (Addr.add a f)) k) Q := fun w a Qf ho ha hq => by
  subst hi
  obtain ⟨hlt, b, off, hb, hc⟩ := rd_rslZ (n := n) (j := f) hp ho ha hz hv
  refine ⟨⟨b, off, none⟩, hb, by omega, by omega, ?_⟩
  rw [Addr.add_mk]
  show bindM (ld enc (Addr.add _ f)) k Qf w
  rw [Addr.add_mk, Int.toNat_natCast]
  exact ⟨x, hc, h w a Qf ho ha hq⟩
/-- elements side by side -/
theorem flat_get {γ : Type} {f : γ → List Value} {z : Nat} (hf : ∀ c, (f c).length = z) {l : List γ} {n j : Nat} {c : γ} (hc : l[n]? = some c) (hj : j < z) : (l.flatMap f)[n * z + j]? = (f c)[j]? := by
  induction l generalizing n with
  | nil => simp at hc
  | cons x l ih =>
    rw [List.flatMap_cons]
    cases n with
    | zero =>
      simp only [List.getElem?_cons_zero, Option.some.injEq] at hc
      subst hc
      rw [Nat.zero_mul, Nat.zero_add, List.getElem?_append_left (by rw [hf]; exact hj)]
    | succ n =>
      rw [List.getElem?_cons_succ] at hc
      rw [List.getElem?_append_right (by rw [hf, Nat.add_mul]; omega), hf, ← ih hc]
      congr 1
      rw [Nat.add_mul]; omega
theorem flat_len {γ : Type} {f : γ → List Value} {z : Nat} (hf : ∀ c, (f c).length = z) (l : List γ) : (l.flatMap f).length = l.length * z := by
  induction l with
  | nil => simp
  | cons x l ih => rw [List.flatMap_cons, List.length_append, ih, hf, List.length_cons, Nat.add_mul]; omega
end
end Go.Mo
namespace Go.Proofs.Ytldmeimebebllaa
open Go.Mo
set_option linter.unusedVariables false
variable {g : Fr} {cv : CV}
theorem filter_lt {α : Type} {p q : α → Bool} (hpq : ∀ x, q x = true → p x = true) {a : α} (hpa : p a = true) (hqa : q a = false) : ∀ {l : List α}, a ∈ l → (l.filter q).length < (l.filter p).length
  | [], h => by simp at h
  | x :: l, h => by
    have hle : (l.filter q).length ≤ (l.filter p).length := by
      rw [← List.countP_eq_length_filter, ← List.countP_eq_length_filter]
      exact List.countP_mono_left fun x _ h => hpq x h
    rcases List.mem_cons.1 h with rfl | h
    · rw [List.filter_cons, List.filter_cons, if_pos hpa, if_neg (by simp [hqa])]
      simp only [List.length_cons]; omega
    · have ih := filter_lt hpq hpa hqa h
      rw [List.filter_cons, List.filter_cons]
      cases hq : q x with
      | true => rw [if_pos rfl, if_pos (hpq x hq)]; simp only [List.length_cons]; omega
      | false =>
        rw [if_neg (by simp)]
        split
        · simp only [List.length_cons]; omega
        · exact ih
def KeysOk (cv : CV) : Prop := ∀ (a : Addr) (yv : Value) (Q : Value → World → Prop) (w : World), maps_Keys_m_c1 cv yv a (fun _ w' => Q (.tuple #[]) w') w → cv.enter (.func (.func fid_maps_Keys_m_c1) #[] #[.pointer (some a)]) #[yv] Q w
def keyNx (f : Int → Option Value) (s : List Int) (x : Int) (s' : List Int) : Prop := s' = s ++ [x] ∧ s'.Nodup ∧ ∀ y ∈ s', (f y).isSome = true
def keyFin (f : Int → Option Value) (s : List Int) : Prop := s.Nodup ∧ ∀ y, y ∈ s ↔ (f y).isSome = true
abbrev keysV (c : Nat) : Value := .func (.func fid_maps_Keys_m_c1) #[] #[.pointer (some ⟨c, 0, none⟩)]
def keyOf (e : MapEntry) : Int := match e.key with | .int _ n => n | _ => 0
theorem keys_iter (hcv : KeysOk cv) {c mb clock : Nat} {es : Array MapEntry} {f : Int → Option Value} (hm : MapOk es.toList clock f) (hv : ∀ j v, f j = some v → ∃ s : Slc, v = vS s) :
    IterG cv (keysV c) (fun x : Int => #[.int .i64 x]) [] (keyNx f) (keyFin f) (pc c [.map (some mb)] * po mb (.map es clock)) := by
  intro yv I E hstep g
  refine wps_enter (m := maps_Keys_m_c1 cv yv ⟨c, 0, none⟩) (fun Q w h => hcv _ _ _ _ h) ?_
  unfold maps_Keys_m_c1
  repeat (first
    | (with_reducible refine wps_bindpure ?_)
    | (with_reducible refine wps_assoc ?_)
    | (with_reducible refine wps_nil ?_)
    | (with_reducible refine wps_stepAlloc fun _ => ?_)
    | (with_reducible refine wps_alloc fun _ => ?_)
    | (with_reducible refine wps_newO fun _ => ?_)
    | (refine wps_ld _ (by rfl) ?_)
    | (refine wps_ldG _ _ _ (by rfl) ?_)
    | (refine wps_ldA _ (by rfl) ?_)
    | (refine wps_ldI _ (by rfl) ?_)
    | (refine wps_ldGI _ _ _ (by rfl) ?_)
    | (refine wps_ldAI _ (by rfl) ?_)
    | (refine wps_st (by simp) ?_)
    | (refine wps_stA (by simp) (by simp [Value.oneCell']) ?_)
    | ((with_reducible apply wps_val); apply val_ite; rotate_left; refine fun (_ : ¬ _) => ?_; rotate_right; refine fun (_ : _ = true) => ?_)
    | ((with_reducible apply val_ite); rotate_left; refine fun (_ : ¬ _) => ?_; rotate_right; refine fun (_ : _ = true) => ?_)
    | (with_reducible refine wps_regionH ?_)
    | ((with_reducible apply wps_bindV); apply val_iteL; rotate_left; refine fun (_ : ¬ _) => ?_; rotate_right; refine fun (_ : _ = true) => ?_)
    | ((with_reducible apply val_iteL); rotate_left; refine fun (_ : ¬ _) => ?_; rotate_right; refine fun (_ : _ = true) => ?_)
    | (with_reducible exact wps_pure (ent_val rfl)))
  refine wps_rangeMapF hm fun it => ?_
  refine wps_loopg (γ := List Int) (fun s _ => pr (s.Nodup ∧ ∀ y ∈ s, (f y).isSome = true) * (pc c [.map (some mb)] * I s * itrF it mb es clock f (fun i => s.contains i)))
    (fun s _ => (es.toList.filter fun e => !s.contains (keyOf e)).length) [] ?_ fun s _ => ?_
  · refine ent_prr ⟨by simp, by simp⟩ ?_
    have : (fun i : Int => ([] : List Int).contains i) = fun _ => false := by funext i; simp
    rw [this]
    refine Ent.of_eq ?_
    ac_rfl
  · refine wps_pr fun ⟨hnd, hall⟩ => ?_
    refine wps_nextF rfl (fun hend => ?_) (fun j v hj hV => ?_)
    · refine wps_mapR (wps_pure ?_)
      have : pc c [.map (some mb)] * I s * itrF it mb es clock f (fun i => s.contains i) = (pc c [.map (some mb)] * itrF it mb es clock f (fun i => s.contains i)) * I s := by ac_rfl
      rw [this]
      refine Ent.star (Ent.starr (ex_ent fun seen => pr_ent fun _ => ent_right _ _)) (ent_orl (ent_ex s (ent_prr ⟨hnd, fun y => ⟨hall y, fun hy => ?_⟩⟩ (Ent.refl _))))
      obtain ⟨v, hv⟩ := Option.isSome_iff_exists.1 hy
      simpa using hend y v hv
    · obtain ⟨sv, rfl⟩ := hv j v hj
      have hjs : j ∉ s := by simpa using hV
      have hnx : keyNx f s j (s ++ [j]) := by
        refine ⟨rfl, ?_, ?_⟩
        · rw [List.nodup_append]
          refine ⟨hnd, by simp, fun a ha b hb => ?_⟩
          simp only [List.mem_singleton] at hb
          subst hb
          exact fun e => hjs (e ▸ ha)
        · intro y hy
          rcases List.mem_append.1 hy with hy | hy
          · exact hall y hy
          · simp only [List.mem_singleton] at hy
            subst hy; rw [hj]; rfl
      obtain ⟨e, he, hk, _⟩ := (hm.find j (vS sv)).1 hj
      have hke : keyOf e = j := by
        obtain ⟨n, hn⟩ := hm.keys e he
        rw [keyIs_int hn] at hk
        simp only [keyOf, hn]
        have : j = n := by simpa using hk
        exact this.symm
      have hV' : (fun i => s.contains i || i == j) = fun i => (s ++ [j]).contains i := by
        funext i
        rw [Bool.eq_iff_iff, List.contains_append]; simp
      refine wps_entryF (ev := vS) sv rfl rfl ?_
      rw [hV']
      unfold itrF itrC
      refine wps_exP fun seen => ?_
      simp only [← star_assoc]
      refine wps_prP fun hok => ?_
      refine wps_call (F := po it (.mapIter (some mb) clock seen clock)) (A := pc c [.map (some mb)] * po mb (.map es clock) * I s) (fun g' => wps_yield (hstep s j (s ++ [j]) hnx g')) ?_ fun y => ?_
      · exact Ent.of_eq (by ac_rfl)
      cases y with
      | true =>
        refine wps_ite (fun h => absurd h (by simp)) (fun _ => wps_pure ?_)
        have hlt : (es.toList.filter fun e => !(s ++ [j]).contains (keyOf e)).length < (es.toList.filter fun e => !s.contains (keyOf e)).length := by
          refine filter_lt (a := e) (fun x hx => ?_) ?_ ?_ he
          · simp only [List.contains_append, Bool.not_or, Bool.and_eq_true] at hx
            exact hx.1
          · rw [hke, hV]; rfl
          · rw [hke]; simp
        refine Ent.trans ?_ (ent_ex (s ++ [j]) (Ent.refl _))
        rw [if_pos rfl]
        refine ent_exr seen ?_
        simp only [← star_assoc]
        exact ent_pick (ent_pick (ent_prx hok (ent_pick (ent_pick (ent_prx ⟨hnx.2.1, hnx.2.2⟩ (ent_prq hlt))))))
      | false =>
        refine wps_ite (fun _ => wps_mapR (wps_pure ?_)) (fun h => absurd rfl h)
        rw [if_neg (by simp)]
        exact Ent.trans (ent_right _ _) (Ent.starr (ent_orr (Ent.refl _)))
theorem slices_AppendSeq_spec (hcv : KeysOk cv) {c mb clock N : Nat} {es : Array MapEntry} {f : Int → Option Value} (hm : MapOk es.toList clock f) (hv : ∀ j v, f j = some v → ∃ s : Slc, v = vS s)
    (hN : ∀ s : List Int, s.Nodup → (∀ y ∈ s, (f y).isSome = true) → s.length ≤ N) (hN2 : N ≤ 1073741824) :
    wps g (pc c [.map (some mb)] * po mb (.map es clock)) (slices_AppendSeq_i cv ⟨none, 0, 0⟩ (keysV c)) fun t => po mb (.map es clock) * ex fun zs : List Int => pr (keyFin f zs) * own 1 t (zs.map (Value.int .i64)) := by
  unfold slices_AppendSeq_i
  repeat (first
    | (with_reducible refine wps_bindpure ?_)
    | (with_reducible refine wps_assoc ?_)
    | (with_reducible refine wps_nil ?_)
    | (with_reducible refine wps_stepAlloc fun _ => ?_)
    | (with_reducible refine wps_alloc fun _ => ?_)
    | (with_reducible refine wps_newO fun _ => ?_)
    | (refine wps_ld _ (by rfl) ?_)
    | (refine wps_ldG _ _ _ (by rfl) ?_)
    | (refine wps_ldA _ (by rfl) ?_)
    | (refine wps_ldI _ (by rfl) ?_)
    | (refine wps_ldGI _ _ _ (by rfl) ?_)
    | (refine wps_ldAI _ (by rfl) ?_)
    | (refine wps_st (by simp) ?_)
    | (refine wps_stA (by simp) (by simp [Value.oneCell']) ?_)
    | ((with_reducible apply wps_val); apply val_ite; rotate_left; refine fun (_ : ¬ _) => ?_; rotate_right; refine fun (_ : _ = true) => ?_)
    | ((with_reducible apply val_ite); rotate_left; refine fun (_ : ¬ _) => ?_; rotate_right; refine fun (_ : _ = true) => ?_)
    | (with_reducible refine wps_regionH ?_)
    | ((with_reducible apply wps_bindV); apply val_iteL; rotate_left; refine fun (_ : ¬ _) => ?_; rotate_right; refine fun (_ : _ = true) => ?_)
    | ((with_reducible apply val_iteL); rotate_left; refine fun (_ : ¬ _) => ?_; rotate_right; refine fun (_ : _ = true) => ?_)
    | (with_reducible exact wps_pure (ent_val rfl)))
  rename_i x2
  refine wps_rangeG (F := emp) (fun s : List Int => ex fun t : Slc => pr (t.len = s.length ∧ s.length ≤ N) * own 1 t (s.map (Value.int .i64)) * pc x2 [vS t]) (fun _ => pr False)
    (fun s x s' t => pr (t = x) * (pc c [.map (some mb)] * po mb (.map es clock) * ex fun t : Slc => pr (t.len = s.length ∧ s.length ≤ N) * own 1 t (s.map (Value.int .i64)) * pc x2 [vS t]))
    (keys_iter (mb := mb) hcv hm hv) ?_ ?_ ?_ ?_ ?_ ?_
  · rw [emp_star]
    refine Ent.starr ?_
    refine ent_ex nilS ?_
    have : pc x2 [Value.slice none 0 0] = emp * emp * pc x2 [vS nilS] := by rw [star_emp, emp_star]; rfl
    rw [this]
    exact Ent.starl (Ent.star (fun _ _ => ⟨rfl, Nat.zero_le _⟩) (own_nil 1))
  · intro s x s' _ g
    exact wps_pure (ent_prr rfl (Ent.refl _))
  · intro s x s' hnx t g
    refine wps_pr fun ht => ?_
    subst ht
    obtain ⟨rfl, hnd, hall⟩ := hnx
    refine wps_exP fun u => ?_
    simp only [← star_assoc]
    refine wps_prP fun ⟨hul, hsl⟩ => ?_
    have hN' := hN _ hnd hall
    repeat (first
      | (with_reducible refine wps_bindpure ?_)
      | (with_reducible refine wps_assoc ?_)
      | (with_reducible refine wps_nil ?_)
      | (with_reducible refine wps_stepAlloc fun _ => ?_)
      | (with_reducible refine wps_alloc fun _ => ?_)
      | (with_reducible refine wps_newO fun _ => ?_)
      | (refine wps_ld _ (by rfl) ?_)
      | (refine wps_ldG _ _ _ (by rfl) ?_)
      | (refine wps_ldA _ (by rfl) ?_)
      | (refine wps_ldI _ (by rfl) ?_)
      | (refine wps_ldGI _ _ _ (by rfl) ?_)
      | (refine wps_ldAI _ (by rfl) ?_)
      | (refine wps_st (by simp) ?_)
      | (refine wps_stA (by simp) (by simp [Value.oneCell']) ?_)
      | ((with_reducible apply wps_val); apply val_ite; rotate_left; refine fun (_ : ¬ _) => ?_; rotate_right; refine fun (_ : _ = true) => ?_)
      | ((with_reducible apply val_ite); rotate_left; refine fun (_ : ¬ _) => ?_; rotate_right; refine fun (_ : _ = true) => ?_)
      | (with_reducible refine wps_regionH ?_)
      | ((with_reducible apply wps_bindV); apply val_iteL; rotate_left; refine fun (_ : ¬ _) => ?_; rotate_right; refine fun (_ : _ = true) => ?_)
      | ((with_reducible apply val_iteL); rotate_left; refine fun (_ : ¬ _) => ?_; rotate_right; refine fun (_ : _ = true) => ?_)
      | (with_reducible exact wps_pure (ent_val rfl)))
    refine wps_app 1 [Value.int .i64 t] rfl (by decide) (rsl_pc rfl) (by simp [Value.oneCell']) (by (try dsimp only); omega) fun u' hu' => ?_
    repeat (first
      | (with_reducible refine wps_bindpure ?_)
      | (with_reducible refine wps_assoc ?_)
      | (with_reducible refine wps_nil ?_)
      | (with_reducible refine wps_stepAlloc fun _ => ?_)
      | (with_reducible refine wps_alloc fun _ => ?_)
      | (with_reducible refine wps_newO fun _ => ?_)
      | (refine wps_ld _ (by rfl) ?_)
      | (refine wps_ldG _ _ _ (by rfl) ?_)
      | (refine wps_ldA _ (by rfl) ?_)
      | (refine wps_ldI _ (by rfl) ?_)
      | (refine wps_ldGI _ _ _ (by rfl) ?_)
      | (refine wps_ldAI _ (by rfl) ?_)
      | (refine wps_st (by simp) ?_)
      | (refine wps_stA (by simp) (by simp [Value.oneCell']) ?_)
      | ((with_reducible apply wps_val); apply val_ite; rotate_left; refine fun (_ : ¬ _) => ?_; rotate_right; refine fun (_ : _ = true) => ?_)
      | ((with_reducible apply val_ite); rotate_left; refine fun (_ : ¬ _) => ?_; rotate_right; refine fun (_ : _ = true) => ?_)
      | (with_reducible refine wps_regionH ?_)
      | ((with_reducible apply wps_bindV); apply val_iteL; rotate_left; refine fun (_ : ¬ _) => ?_; rotate_right; refine fun (_ : _ = true) => ?_)
      | ((with_reducible apply val_iteL); rotate_left; refine fun (_ : ¬ _) => ?_; rotate_right; refine fun (_ : _ = true) => ?_)
      | (with_reducible exact wps_pure (ent_val rfl)))
    refine wps_pure ?_
    refine Ent.trans ?_ (Ent.starr (ent_ex u' (Ent.refl _)))
    simp only [← star_assoc]
    refine ent_pickC (by rfl) (ent_pickS (by simp) (ent_prx ⟨by simp [hu', hul], hN'⟩ ?_))
    exact ent_pick ent_drop
  · intro D
    refine wps_exP fun s => ?_
    simp only [← star_assoc]
    refine wps_prP fun hf => ?_
    refine wps_exP fun u => ?_
    simp only [← star_assoc]
    refine wps_prP fun hu => ?_
    repeat (first
      | (with_reducible refine wps_bindpure ?_)
      | (with_reducible refine wps_assoc ?_)
      | (with_reducible refine wps_nil ?_)
      | (with_reducible refine wps_stepAlloc fun _ => ?_)
      | (with_reducible refine wps_alloc fun _ => ?_)
      | (with_reducible refine wps_newO fun _ => ?_)
      | (refine wps_ld _ (by rfl) ?_)
      | (refine wps_ldG _ _ _ (by rfl) ?_)
      | (refine wps_ldA _ (by rfl) ?_)
      | (refine wps_ldI _ (by rfl) ?_)
      | (refine wps_ldGI _ _ _ (by rfl) ?_)
      | (refine wps_ldAI _ (by rfl) ?_)
      | (refine wps_st (by simp) ?_)
      | (refine wps_stA (by simp) (by simp [Value.oneCell']) ?_)
      | ((with_reducible apply wps_val); apply val_ite; rotate_left; refine fun (_ : ¬ _) => ?_; rotate_right; refine fun (_ : _ = true) => ?_)
      | ((with_reducible apply val_ite); rotate_left; refine fun (_ : ¬ _) => ?_; rotate_right; refine fun (_ : _ = true) => ?_)
      | (with_reducible refine wps_regionH ?_)
      | ((with_reducible apply wps_bindV); apply val_iteL; rotate_left; refine fun (_ : ¬ _) => ?_; rotate_right; refine fun (_ : _ = true) => ?_)
      | ((with_reducible apply val_iteL); rotate_left; refine fun (_ : ¬ _) => ?_; rotate_right; refine fun (_ : _ = true) => ?_)
      | (with_reducible exact wps_pure (ent_val rfl)))
    refine wps_take (wps_pure ?_)
    refine ent_exr s ?_
    simp only [← star_assoc]
    exact ent_pick (ent_prx hf ent_drop)
  · intro D
    exact wps_false (fun o ho => by
      have := ent_right _ _ o (ent_left _ _ o ho)
      exact ent_right _ _ o this)
  · intro D id
    exact wps_false (fun o ho => by
      have := ent_right _ _ o (ent_left _ _ o ho)
      exact ent_right _ _ o this)
theorem sorted_fin {f : Int → Option Value} {zs l : List Int} (h : keyFin f zs) (hl : l.Pairwise (· < ·)) (hm : ∀ y, y ∈ l ↔ (f y).isSome = true) : sorted zs = l := by
  have hnd : l.Nodup := hl.imp fun h e => by omega
  have hp : zs.Perm l := (List.perm_ext_iff_of_nodup h.1 hnd).2 fun a => (h.2 a).trans (hm a).symm
  refine List.Perm.eq_of_pairwise (le := fun a b : Int => a ≤ b) (fun a b _ _ h1 h2 => by omega) ?_ (hl.imp fun h => by omega) ((List.mergeSort_perm zs _).trans hp)
  have := List.pairwise_mergeSort (le := fun x y : Int => decide (x ≤ y)) (fun a b c h1 h2 => by simp at *; omega) (fun a b => by simp; omega) zs
  exact this.imp fun h => by simpa using h
/-- slices.Sorted(maps.Keys(m)) -/
theorem slices_Sorted_spec (hcv : KeysOk cv) {c mb clock N : Nat} {es : Array MapEntry} {f : Int → Option Value} (hm : MapOk es.toList clock f) (hv : ∀ j v, f j = some v → ∃ s : Slc, v = vS s)
    (hN : ∀ s : List Int, s.Nodup → (∀ y ∈ s, (f y).isSome = true) → s.length ≤ N) (hN2 : N ≤ 1073741824) {l : List Int} (hl : l.Pairwise (· < ·)) (hml : ∀ y, y ∈ l ↔ (f y).isSome = true) :
    wps g (pc c [.map (some mb)] * po mb (.map es clock)) (slices_Sorted_i cv (keysV c)) fun t => po mb (.map es clock) * own 1 t (l.map (Value.int .i64)) := by
  unfold slices_Sorted_i slices_Collect_i
  refine wps_assoc (wps_bind (slices_AppendSeq_spec hcv hm hv hN hN2) fun t => ?_)
  refine wps_bindpure ?_
  refine wps_exP fun zs => ?_
  simp only [← star_assoc]
  refine wps_prP fun hf => ?_
  have hz : zs.length ≤ N := hN zs hf.1 fun y hy => (hf.2 y).1 hy
  refine wps_sort rfl (by omega) (wps_pure ?_)
  rw [sorted_fin hf hl hml]
  exact Ent.refl _
end Go.Proofs.Ytldmeimebebllaa
namespace Go.Proofs.Ytldmeimebebllaa
open Go.Mo
set_option linter.unusedVariables false
variable {g : Fr} {cv : CV}
def zv (b : List Int) : List Value := b.map (Value.int .i64)
def intsP (s : Slc) (b : List Int) : HP := rsl 1 s (zv b)
instance (s : Slc) (b : List Int) : Pers (intsP s b) := by unfold intsP; infer_instance
instance (s : Slc) (b : List Int) : RdS 1 s (intsP s b) (zv b) := ⟨Ent.refl _⟩
instance (s : Slc) (b : List Int) : RdS 1 s (byt s b) (bv b) := ⟨Ent.refl _⟩
theorem zv_one (b : List Int) : ∀ v ∈ zv b, v.oneCell' = true := by
  intro v hv
  simp only [zv, List.mem_map] at hv
  obtain ⟨n, _, rfl⟩ := hv
  rfl
theorem ilen_of {H : HP} {s : Slc} {b : List Int} (h : Ent H (intsP s b)) : Ent H (pr (b.length = s.len)) := Ent.trans h (Ent.trans (rsl_len 1 s (zv b)) fun o ho => by
  have : (zv b).length = s.len * 1 := ho
  show b.length = s.len
  simpa [zv] using this)
theorem cap_of {H : HP} {z : Nat} {s : Slc} {cs : List Value} (h : Ent H (rsl z s cs)) : Ent H (pr (s.len ≤ s.cap)) := Ent.trans h fun o ho => by
  rcases ho with ho | ⟨ad, all, ho⟩
  · show s.len ≤ s.cap
    have := ho.1
    omega
  · exact (ent_left _ _ o ho).2.2.1
theorem val_lookS {β : Type} {enc : β → Value} {z : β} {m : Nat} {j : Int} {f : Int → Option Value} {H H' : HP} [hp : PickM m H f H'] (c : Option β) (hc : f j = c.map enc) : Val g H (lookM enc z (some m) j) (match c with | some y => (y, true) | none => (z, false)) := by
  have := wps_lookS (hp := hp) (g := g) (enc := enc) (z := z) (k := fun y => pureM y) (Q := fun x => pr (x = match c with | some y => (y, true) | none => (z, false)) * H) (H := H) c hc (wps_pure (ent_pr rfl))
  exact this
/-! Arm, Off, Lasting, Load -/
def Rk.arm (R : Rk) (c : Int) : Rk := { R with count := maxI c (-1) }
theorem device_Rack_Arm_spec (rb : Nat) (R : Rk) (ds : Slc) (ps : List Nat) (c : Int) : wps g (rackP rb R ds ps) (device_Rack_Arm (ptr rb) c) (fun _ => rackP rb (R.arm c) ds ps) := by
  unfold device_Rack_Arm rackP
  repeat (first
    | (with_reducible refine wps_bindpure ?_)
    | (with_reducible refine wps_assoc ?_)
    | (with_reducible refine wps_nil ?_)
    | (with_reducible refine wps_stepAlloc fun _ => ?_)
    | (with_reducible refine wps_alloc fun _ => ?_)
    | (with_reducible refine wps_newO fun _ => ?_)
    | (refine wps_ld _ (by rfl) ?_)
    | (refine wps_ldG _ _ _ (by rfl) ?_)
    | (refine wps_ldA _ (by rfl) ?_)
    | (refine wps_ldI _ (by rfl) ?_)
    | (refine wps_ldGI _ _ _ (by rfl) ?_)
    | (refine wps_ldAI _ (by rfl) ?_)
    | (refine wps_st (by simp) ?_)
    | (refine wps_stA (by simp) (by simp [Value.oneCell']) ?_)
    | ((with_reducible apply wps_val); apply val_ite; rotate_left; refine fun (_ : ¬ _) => ?_; rotate_right; refine fun (_ : _ = true) => ?_)
    | ((with_reducible apply val_ite); rotate_left; refine fun (_ : ¬ _) => ?_; rotate_right; refine fun (_ : _ = true) => ?_)
    | (with_reducible refine wps_regionH ?_)
    | ((with_reducible apply wps_bindV); apply val_iteL; rotate_left; refine fun (_ : ¬ _) => ?_; rotate_right; refine fun (_ : _ = true) => ?_)
    | ((with_reducible apply val_iteL); rotate_left; refine fun (_ : ¬ _) => ?_; rotate_right; refine fun (_ : _ = true) => ?_)
    | (with_reducible exact wps_pure (ent_val rfl)))
  refine wps_pure ?_
  simp only [Rk.arm]
  repeat (first
    | (with_reducible exact ent_drop)
    | (with_reducible refine ent_pick ?_)
    | (refine ent_pickC (by rfl) ?_)
    | (refine ent_pickS (by rfl) ?_)
    | (refine ent_pickM (by rfl) ?_)
    | (refine ent_prx ?_ ?_; rotate_left)
    | (refine ent_prq ?_))
theorem device_Rack_Off_val (rb : Nat) (R : Rk) (ds : Slc) (ps : List Nat) : Val g (rackP rb R ds ps) (device_Rack_Off (ptr rb)) R.off := by
  unfold device_Rack_Off rackP
  repeat (first
    | (with_reducible refine wps_bindpure ?_)
    | (with_reducible refine wps_assoc ?_)
    | (with_reducible refine wps_nil ?_)
    | (with_reducible refine wps_stepAlloc fun _ => ?_)
    | (with_reducible refine wps_alloc fun _ => ?_)
    | (with_reducible refine wps_newO fun _ => ?_)
    | (refine wps_ld _ (by rfl) ?_)
    | (refine wps_ldG _ _ _ (by rfl) ?_)
    | (refine wps_ldA _ (by rfl) ?_)
    | (refine wps_ldI _ (by rfl) ?_)
    | (refine wps_ldGI _ _ _ (by rfl) ?_)
    | (refine wps_ldAI _ (by rfl) ?_)
    | (refine wps_st (by simp) ?_)
    | (refine wps_stA (by simp) (by simp [Value.oneCell']) ?_)
    | ((with_reducible apply wps_val); apply val_ite; rotate_left; refine fun (_ : ¬ _) => ?_; rotate_right; refine fun (_ : _ = true) => ?_)
    | ((with_reducible apply val_ite); rotate_left; refine fun (_ : ¬ _) => ?_; rotate_right; refine fun (_ : _ = true) => ?_)
    | (with_reducible refine wps_regionH ?_)
    | ((with_reducible apply wps_bindV); apply val_iteL; rotate_left; refine fun (_ : ¬ _) => ?_; rotate_right; refine fun (_ : _ = true) => ?_)
    | ((with_reducible apply val_iteL); rotate_left; refine fun (_ : ¬ _) => ?_; rotate_right; refine fun (_ : _ = true) => ?_)
    | (with_reducible exact wps_pure (ent_val rfl)))
def Rk.lErr (R : Rk) (k s : Int) : Int := if k < 0 ∨ k ≥ R.n ∨ s < 0 ∨ s ≥ R.ns then 11 else 0
def Rk.lst (R : Rk) (k s : Int) : List Int := if R.lErr k s = 0 then (R.dk k.toNat).lasts s.toNat else []
theorem device_Rack_Lasting_spec (rb : Nat) (R : Rk) (ds : Slc) (ps : List Nat) (k s : Int) :
    wps g (rackP rb R ds ps) (device_Rack_Lasting (ptr rb) k s) (fun x => pr (x.2 = R.lErr k s) * rackP rb R ds ps * own 1 x.1 (bv (R.lst k s))) := by
  unfold device_Rack_Lasting
  have hp : Ent (rackP rb R ds ps) (pr (ps.length = R.n ∧ ds.len = R.n ∧ R.n ≤ 17 ∧ R.ns ≤ 4096)) := Ent.trans (ent_left _ _) (Ent.trans (ent_left _ _) (ent_left _ _))
  refine wps_fact hp fun ⟨h1, h2, h17, hns⟩ => ?_
  refine wps_val (v := if k < 0 then true else decide (k ≥ (ds.len : Int))) ?_ ?_
  · unfold rackP
    refine val_eq (u := if decide (k < 0) = true then true else decide (k ≥ (ds.len : Int))) ?_ (by by_cases h : k < 0 <;> simp [h])
    repeat (first
      | (with_reducible refine wps_bindpure ?_)
      | (with_reducible refine wps_assoc ?_)
      | (with_reducible refine wps_nil ?_)
      | (with_reducible refine wps_stepAlloc fun _ => ?_)
      | (with_reducible refine wps_alloc fun _ => ?_)
      | (with_reducible refine wps_newO fun _ => ?_)
      | (refine wps_ld _ (by rfl) ?_)
      | (refine wps_ldG _ _ _ (by rfl) ?_)
      | (refine wps_ldA _ (by rfl) ?_)
      | (refine wps_ldI _ (by rfl) ?_)
      | (refine wps_ldGI _ _ _ (by rfl) ?_)
      | (refine wps_ldAI _ (by rfl) ?_)
      | (refine wps_st (by simp) ?_)
      | (refine wps_stA (by simp) (by simp [Value.oneCell']) ?_)
      | ((with_reducible apply wps_val); apply val_ite; rotate_left; refine fun (_ : ¬ _) => ?_; rotate_right; refine fun (_ : _ = true) => ?_)
      | ((with_reducible apply val_ite); rotate_left; refine fun (_ : ¬ _) => ?_; rotate_right; refine fun (_ : _ = true) => ?_)
      | (with_reducible refine wps_regionH ?_)
      | ((with_reducible apply wps_bindV); apply val_iteL; rotate_left; refine fun (_ : ¬ _) => ?_; rotate_right; refine fun (_ : _ = true) => ?_)
      | ((with_reducible apply val_iteL); rotate_left; refine fun (_ : ¬ _) => ?_; rotate_right; refine fun (_ : _ = true) => ?_)
      | (with_reducible exact wps_pure (ent_val rfl)))
  refine wps_val (v := if (if k < 0 then true else decide (k ≥ (ds.len : Int))) = true then true else decide (s < 0)) ?_ ?_
  · repeat (first
      | (with_reducible refine wps_bindpure ?_)
      | (with_reducible refine wps_assoc ?_)
      | (with_reducible refine wps_nil ?_)
      | (with_reducible refine wps_stepAlloc fun _ => ?_)
      | (with_reducible refine wps_alloc fun _ => ?_)
      | (with_reducible refine wps_newO fun _ => ?_)
      | (refine wps_ld _ (by rfl) ?_)
      | (refine wps_ldG _ _ _ (by rfl) ?_)
      | (refine wps_ldA _ (by rfl) ?_)
      | (refine wps_ldI _ (by rfl) ?_)
      | (refine wps_ldGI _ _ _ (by rfl) ?_)
      | (refine wps_ldAI _ (by rfl) ?_)
      | (refine wps_st (by simp) ?_)
      | (refine wps_stA (by simp) (by simp [Value.oneCell']) ?_)
      | ((with_reducible apply wps_val); apply val_ite; rotate_left; refine fun (_ : ¬ _) => ?_; rotate_right; refine fun (_ : _ = true) => ?_)
      | ((with_reducible apply val_ite); rotate_left; refine fun (_ : ¬ _) => ?_; rotate_right; refine fun (_ : _ = true) => ?_)
      | (with_reducible refine wps_regionH ?_)
      | ((with_reducible apply wps_bindV); apply val_iteL; rotate_left; refine fun (_ : ¬ _) => ?_; rotate_right; refine fun (_ : _ = true) => ?_)
      | ((with_reducible apply val_iteL); rotate_left; refine fun (_ : ¬ _) => ?_; rotate_right; refine fun (_ : _ = true) => ?_)
      | (with_reducible exact wps_pure (ent_val rfl)))
  refine wps_val (v := decide (k < 0 ∨ k ≥ R.n ∨ s < 0 ∨ s ≥ R.ns)) ?_ ?_
  · unfold rackP
    apply val_eq
    · repeat (first
        | (with_reducible refine wps_bindpure ?_)
        | (with_reducible refine wps_assoc ?_)
        | (with_reducible refine wps_nil ?_)
        | (with_reducible refine wps_stepAlloc fun _ => ?_)
        | (with_reducible refine wps_alloc fun _ => ?_)
        | (with_reducible refine wps_newO fun _ => ?_)
        | (refine wps_ld _ (by rfl) ?_)
        | (refine wps_ldG _ _ _ (by rfl) ?_)
        | (refine wps_ldA _ (by rfl) ?_)
        | (refine wps_ldI _ (by rfl) ?_)
        | (refine wps_ldGI _ _ _ (by rfl) ?_)
        | (refine wps_ldAI _ (by rfl) ?_)
        | (refine wps_st (by simp) ?_)
        | (refine wps_stA (by simp) (by simp [Value.oneCell']) ?_)
        | ((with_reducible apply wps_val); apply val_ite; rotate_left; refine fun (_ : ¬ _) => ?_; rotate_right; refine fun (_ : _ = true) => ?_)
        | ((with_reducible apply val_ite); rotate_left; refine fun (_ : ¬ _) => ?_; rotate_right; refine fun (_ : _ = true) => ?_)
        | (with_reducible refine wps_regionH ?_)
        | ((with_reducible apply wps_bindV); apply val_iteL; rotate_left; refine fun (_ : ¬ _) => ?_; rotate_right; refine fun (_ : _ = true) => ?_)
        | ((with_reducible apply val_iteL); rotate_left; refine fun (_ : ¬ _) => ?_; rotate_right; refine fun (_ : _ = true) => ?_)
        | (with_reducible exact wps_pure (ent_val rfl)))
    · rw [h2]
      by_cases a : k < 0 <;> by_cases b : k ≥ (R.n : Int) <;> by_cases c : s < 0 <;> by_cases d : s ≥ (R.ns : Int) <;> simp [a, b, c, d]
  by_cases hr : k < 0 ∨ k ≥ R.n ∨ s < 0 ∨ s ≥ R.ns
  · have he : R.lErr k s = 11 := by simp only [Rk.lErr, if_pos hr]
    refine wps_ite (fun _ => wps_pure ?_) (fun h => absurd (by simpa using hr) h)
    simp only [Rk.lst, he]
    exact ent_own0 (ent_prr (by simp) (Ent.refl _))
  · have he : R.lErr k s = 0 := by simp only [Rk.lErr, if_neg hr]
    refine wps_ite (fun h => absurd (by simpa using h) hr) (fun _ => ?_)
    have hlt : k.toNat < R.n := by omega
    simp only [Rk.lst, he, if_true]
    rw [rackP_focus rb R ds ps hlt]
    generalize R.dk k.toNat = D at *
    unfold dskAt dskX
    refine wps_exP fun ls => wps_exP fun mb => wps_exP fun sl => wps_exP fun sc => ?_
    simp only [← star_assoc]
    refine wps_prP fun hd => ?_
    refine wps_prP fun hd2 => ?_
    repeat (first
      | (with_reducible refine wps_bindpure ?_)
      | (with_reducible refine wps_assoc ?_)
      | (with_reducible refine wps_nil ?_)
      | (with_reducible refine wps_stepAlloc fun _ => ?_)
      | (with_reducible refine wps_alloc fun _ => ?_)
      | (with_reducible refine wps_newO fun _ => ?_)
      | (refine wps_ld _ (by rfl) ?_)
      | (refine wps_ldG _ _ _ (by rfl) ?_)
      | (refine wps_ldA _ (by rfl) ?_)
      | (refine wps_ldI _ (by rfl) ?_)
      | (refine wps_ldGI _ _ _ (by rfl) ?_)
      | (refine wps_ldAI _ (by rfl) ?_)
      | (refine wps_st (by simp) ?_)
      | (refine wps_stA (by simp) (by simp [Value.oneCell']) ?_)
      | ((with_reducible apply wps_val); apply val_ite; rotate_left; refine fun (_ : ¬ _) => ?_; rotate_right; refine fun (_ : _ = true) => ?_)
      | ((with_reducible apply val_ite); rotate_left; refine fun (_ : ¬ _) => ?_; rotate_right; refine fun (_ : _ = true) => ?_)
      | (with_reducible refine wps_regionH ?_)
      | ((with_reducible apply wps_bindV); apply val_iteL; rotate_left; refine fun (_ : ¬ _) => ?_; rotate_right; refine fun (_ : _ = true) => ?_)
      | ((with_reducible apply val_iteL); rotate_left; refine fun (_ : ¬ _) => ?_; rotate_right; refine fun (_ : _ = true) => ?_)
      | (with_reducible exact wps_pure (ent_val rfl)))
    refine wps_rdS k.toNat (ptr (ps.getD k.toNat 0)) (by omega) (pv_get (by omega)) ?_
    repeat (first
      | (with_reducible refine wps_bindpure ?_)
      | (with_reducible refine wps_assoc ?_)
      | (with_reducible refine wps_nil ?_)
      | (with_reducible refine wps_stepAlloc fun _ => ?_)
      | (with_reducible refine wps_alloc fun _ => ?_)
      | (with_reducible refine wps_newO fun _ => ?_)
      | (refine wps_ld _ (by rfl) ?_)
      | (refine wps_ldG _ _ _ (by rfl) ?_)
      | (refine wps_ldA _ (by rfl) ?_)
      | (refine wps_ldI _ (by rfl) ?_)
      | (refine wps_ldGI _ _ _ (by rfl) ?_)
      | (refine wps_ldAI _ (by rfl) ?_)
      | (refine wps_st (by simp) ?_)
      | (refine wps_stA (by simp) (by simp [Value.oneCell']) ?_)
      | ((with_reducible apply wps_val); apply val_ite; rotate_left; refine fun (_ : ¬ _) => ?_; rotate_right; refine fun (_ : _ = true) => ?_)
      | ((with_reducible apply val_ite); rotate_left; refine fun (_ : ¬ _) => ?_; rotate_right; refine fun (_ : _ = true) => ?_)
      | (with_reducible refine wps_regionH ?_)
      | ((with_reducible apply wps_bindV); apply val_iteL; rotate_left; refine fun (_ : ¬ _) => ?_; rotate_right; refine fun (_ : _ = true) => ?_)
      | ((with_reducible apply val_iteL); rotate_left; refine fun (_ : ¬ _) => ?_; rotate_right; refine fun (_ : _ = true) => ?_)
      | (with_reducible exact wps_pure (ent_val rfl)))
    have hsl : s.toNat < sl.length := by omega
    have hlen := hd.2.2.1 s.toNat (by omega)
    refine wps_rdS s.toNat sl[s.toNat] (by omega) (by rw [List.getElem?_map, List.getElem?_eq_getElem hsl]; rfl) ?_
    refine wps_bind1 (slices_Clone_b_spec (b := D.lasts s.toNat) (Ent.trans (ent_drop (B := seqp sl D.lasts)) (seqp_get (List.getElem?_eq_getElem hsl))) (by omega)) fun s' => wps_pure ?_
    refine ent_pick ?_
    refine ent_exr ls ?_
    refine ent_exr mb ?_
    refine ent_exr sl ?_
    refine ent_exr sc ?_
    simp only [← star_assoc]
    repeat (first
      | (with_reducible exact ent_drop)
      | (with_reducible refine ent_pick ?_)
      | (refine ent_pickC (by rfl) ?_)
      | (refine ent_pickS (by rfl) ?_)
      | (refine ent_pickM (by rfl) ?_)
      | (refine ent_prx ?_ ?_; rotate_left)
      | (refine ent_prq ?_))
    all_goals first | assumption | trivial
def secOf (im : List Int) (k : Nat) : List Int := (List.range 64).map fun i => im.getD (k * 64 + i) 0
theorem secOf_len (im : List Int) (k : Nat) : (secOf im k).length = 64 := by simp [secOf]
theorem ovw_sec (im : List Int) (n : Nat) : ovw (List.replicate 64 (Value.int .u8 0)) 0 ((((bv im).drop (min (n * 64) im.length * 1)).take ((im.length - min (n * 64) im.length) * 1)).take (min (im.length - min (n * 64) im.length) 64 * 1)) = bv (secOf im n) := by
  apply List.ext_getElem?
  intro i
  simp only [Nat.mul_one]
  generalize hl : min (n * 64) im.length = l
  have hsz : (((bv im).drop l).take (im.length - l)).length = im.length - l := by simp [bv]
  simp only [ovw, List.take_zero, List.nil_append, Nat.zero_add, List.length_take, hsz]
  simp only [bv, secOf, List.getElem?_map]
  by_cases hi : i < 64
  · rw [List.getElem?_range hi]
    simp only [Option.map_some]
    by_cases hin : i < min (im.length - l) 64
    · rw [List.getElem?_append_left (by simp; omega), List.getElem?_take, if_pos hin, List.getElem?_take, if_pos (by omega), List.getElem?_drop, List.getElem?_map]
      have hln : l = n * 64 := by omega
      have hlt : n * 64 + i < im.length := by omega
      rw [hln, List.getElem?_eq_getElem hlt]
      simp [List.getD_eq_getElem?_getD, List.getElem?_eq_getElem hlt]
    · rw [List.getElem?_append_right (by simp; omega), List.getElem?_drop]
      have hge : ¬ n * 64 + i < im.length := by omega
      rw [List.getElem?_replicate, if_pos (by simp; omega), List.getD_eq_getElem?_getD, List.getElem?_eq_none (by omega)]
      rfl
  · rw [List.getElem?_eq_none (by simp; omega), List.getElem?_eq_none (by simp; omega)]
    rfl
def Dk.load (D : Dk) (im : List Int) : Dk := { D with lasts := fun s => secOf im s, cached := fun _ => none }
def Rk.load (R : Rk) (k : Int) (im : List Int) : Rk := if k < 0 ∨ k ≥ R.n then R else R.setD k.toNat ((R.dk k.toNat).load im)
theorem device_Rack_Load_spec {H : HP} (rb : Nat) (R : Rk) (ds : Slc) (ps : List Nat) (k : Int) (x : Slc) (im : List Int) (hx : Ent H (byt x im)) (him : im.length ≤ 1099511627776) :
    wps g (H * rackP rb R ds ps) (device_Rack_Load (ptr rb) k x) (fun e => pr (e = if k < 0 ∨ k ≥ R.n then 11 else 0) * H * rackP rb (R.load k im) ds ps) := by
  unfold device_Rack_Load
  have hp : Ent (rackP rb R ds ps) (pr (ps.length = R.n ∧ ds.len = R.n ∧ R.n ≤ 17 ∧ R.ns ≤ 4096)) := Ent.trans (ent_left _ _) (Ent.trans (ent_left _ _) (ent_left _ _))
  refine wps_fact (Ent.trans (ent_right _ _) hp) fun ⟨h1, h2, h17, hns⟩ => ?_
  refine wps_fact (Ent.trans (ent_left _ _) (len_of hx)) fun hl => ?_
  refine wps_fact (Ent.trans (ent_left _ _) (cap_of hx)) fun hcap => ?_
  refine wps_val (v := decide (k < 0 ∨ k ≥ R.n)) ?_ ?_
  · unfold rackP
    apply val_eq
    · repeat (first
        | (with_reducible refine wps_bindpure ?_)
        | (with_reducible refine wps_assoc ?_)
        | (with_reducible refine wps_nil ?_)
        | (with_reducible refine wps_stepAlloc fun _ => ?_)
        | (with_reducible refine wps_alloc fun _ => ?_)
        | (with_reducible refine wps_newO fun _ => ?_)
        | (refine wps_ld _ (by rfl) ?_)
        | (refine wps_ldG _ _ _ (by rfl) ?_)
        | (refine wps_ldA _ (by rfl) ?_)
        | (refine wps_ldI _ (by rfl) ?_)
        | (refine wps_ldGI _ _ _ (by rfl) ?_)
        | (refine wps_ldAI _ (by rfl) ?_)
        | (refine wps_st (by simp) ?_)
        | (refine wps_stA (by simp) (by simp [Value.oneCell']) ?_)
        | ((with_reducible apply wps_val); apply val_ite; rotate_left; refine fun (_ : ¬ _) => ?_; rotate_right; refine fun (_ : _ = true) => ?_)
        | ((with_reducible apply val_ite); rotate_left; refine fun (_ : ¬ _) => ?_; rotate_right; refine fun (_ : _ = true) => ?_)
        | (with_reducible refine wps_regionH ?_)
        | ((with_reducible apply wps_bindV); apply val_iteL; rotate_left; refine fun (_ : ¬ _) => ?_; rotate_right; refine fun (_ : _ = true) => ?_)
        | ((with_reducible apply val_iteL); rotate_left; refine fun (_ : ¬ _) => ?_; rotate_right; refine fun (_ : _ = true) => ?_)
        | (with_reducible exact wps_pure (ent_val rfl)))
    · rw [h2]
      by_cases h : k < 0 <;> by_cases h' : k ≥ (R.n : Int) <;> simp [h, h']
  by_cases hk : k < 0 ∨ k ≥ R.n
  · rw [if_pos hk, Rk.load, if_pos hk]
    exact wps_ite (fun _ => wps_pure (ent_pick (ent_prr rfl ent_drop))) (fun h => absurd (by simpa using hk) h)
  · rw [if_neg hk, Rk.load, if_neg hk]
    refine wps_ite (fun h => absurd (by simpa using h) hk) (fun _ => ?_)
    have hlt : k.toNat < R.n := by omega
    rw [← rackP_set _ hlt, rackP_focus rb R ds ps hlt]
    generalize R.dk k.toNat = D at *
    generalize hpd : ps.getD k.toNat 0 = p at *
    simp only [dskAt, dskX, ← star_assoc]
    refine wps_exP fun ls => wps_exP fun mb => wps_exP fun sl => wps_exP fun sc => ?_
    simp only [← star_assoc]
    refine wps_prP fun hd => ?_
    refine wps_prP fun hd2 => ?_
    repeat (first
      | (with_reducible refine wps_bindpure ?_)
      | (with_reducible refine wps_assoc ?_)
      | (with_reducible refine wps_nil ?_)
      | (with_reducible refine wps_stepAlloc fun _ => ?_)
      | (with_reducible refine wps_alloc fun _ => ?_)
      | (with_reducible refine wps_newO fun _ => ?_)
      | (refine wps_ld _ (by rfl) ?_)
      | (refine wps_ldG _ _ _ (by rfl) ?_)
      | (refine wps_ldA _ (by rfl) ?_)
      | (refine wps_ldI _ (by rfl) ?_)
      | (refine wps_ldGI _ _ _ (by rfl) ?_)
      | (refine wps_ldAI _ (by rfl) ?_)
      | (refine wps_st (by simp) ?_)
      | (refine wps_stA (by simp) (by simp [Value.oneCell']) ?_)
      | ((with_reducible apply wps_val); apply val_ite; rotate_left; refine fun (_ : ¬ _) => ?_; rotate_right; refine fun (_ : _ = true) => ?_)
      | ((with_reducible apply val_ite); rotate_left; refine fun (_ : ¬ _) => ?_; rotate_right; refine fun (_ : _ = true) => ?_)
      | (with_reducible refine wps_regionH ?_)
      | ((with_reducible apply wps_bindV); apply val_iteL; rotate_left; refine fun (_ : ¬ _) => ?_; rotate_right; refine fun (_ : _ = true) => ?_)
      | ((with_reducible apply val_iteL); rotate_left; refine fun (_ : ¬ _) => ?_; rotate_right; refine fun (_ : _ = true) => ?_)
      | (with_reducible exact wps_pure (ent_val rfl)))
    refine wps_rdS k.toNat (ptr p) (by omega) (by rw [pv_get (by omega), hpd]) ?_
    repeat (first
      | (with_reducible refine wps_bindpure ?_)
      | (with_reducible refine wps_assoc ?_)
      | (with_reducible refine wps_nil ?_)
      | (with_reducible refine wps_stepAlloc fun _ => ?_)
      | (with_reducible refine wps_alloc fun _ => ?_)
      | (with_reducible refine wps_newO fun _ => ?_)
      | (refine wps_ld _ (by rfl) ?_)
      | (refine wps_ldG _ _ _ (by rfl) ?_)
      | (refine wps_ldA _ (by rfl) ?_)
      | (refine wps_ldI _ (by rfl) ?_)
      | (refine wps_ldGI _ _ _ (by rfl) ?_)
      | (refine wps_ldAI _ (by rfl) ?_)
      | (refine wps_st (by simp) ?_)
      | (refine wps_stA (by simp) (by simp [Value.oneCell']) ?_)
      | ((with_reducible apply wps_val); apply val_ite; rotate_left; refine fun (_ : ¬ _) => ?_; rotate_right; refine fun (_ : _ = true) => ?_)
      | ((with_reducible apply val_ite); rotate_left; refine fun (_ : ¬ _) => ?_; rotate_right; refine fun (_ : _ = true) => ?_)
      | (with_reducible refine wps_regionH ?_)
      | ((with_reducible apply wps_bindV); apply val_iteL; rotate_left; refine fun (_ : ¬ _) => ?_; rotate_right; refine fun (_ : _ = true) => ?_)
      | ((with_reducible apply val_iteL); rotate_left; refine fun (_ : ¬ _) => ?_; rotate_right; refine fun (_ : _ = true) => ?_)
      | (with_reducible exact wps_pure (ent_val rfl)))
    refine wps_clearS ?_
    repeat (first
      | (with_reducible refine wps_bindpure ?_)
      | (with_reducible refine wps_assoc ?_)
      | (with_reducible refine wps_nil ?_)
      | (with_reducible refine wps_stepAlloc fun _ => ?_)
      | (with_reducible refine wps_alloc fun _ => ?_)
      | (with_reducible refine wps_newO fun _ => ?_)
      | (refine wps_ld _ (by rfl) ?_)
      | (refine wps_ldG _ _ _ (by rfl) ?_)
      | (refine wps_ldA _ (by rfl) ?_)
      | (refine wps_ldI _ (by rfl) ?_)
      | (refine wps_ldGI _ _ _ (by rfl) ?_)
      | (refine wps_ldAI _ (by rfl) ?_)
      | (refine wps_st (by simp) ?_)
      | (refine wps_stA (by simp) (by simp [Value.oneCell']) ?_)
      | ((with_reducible apply wps_val); apply val_ite; rotate_left; refine fun (_ : ¬ _) => ?_; rotate_right; refine fun (_ : _ = true) => ?_)
      | ((with_reducible apply val_ite); rotate_left; refine fun (_ : ¬ _) => ?_; rotate_right; refine fun (_ : _ = true) => ?_)
      | (with_reducible refine wps_regionH ?_)
      | ((with_reducible apply wps_bindV); apply val_iteL; rotate_left; refine fun (_ : ¬ _) => ?_; rotate_right; refine fun (_ : _ = true) => ?_)
      | ((with_reducible apply val_iteL); rotate_left; refine fun (_ : ¬ _) => ?_; rotate_right; refine fun (_ : _ = true) => ?_)
      | (with_reducible exact wps_pure (ent_val rfl)))
    refine wps_loop (fun i => ex fun n : Nat => ex fun sl' : List Slc => pr (i = (n : Int) ∧ n ≤ R.ns ∧ sl'.length = R.ns) * H * bst R.n (hole k.toNat (rackF R.ns R.dk ps)) * own 1 ds (ps.map pv) * pc rb [vS ds, .int .i64 R.ns, .int .i64 R.count, .bool R.off]
        * seqp sl' (fun s => if s < n then secOf im s else D.lasts s) * imap mb (fun _ => none) * own 1 ls (sl'.map vS) * pc p [vS ls, .map (some mb), .bool D.failed, .int .i64 D.count]) (fun i => (R.ns - i).toNat) ?_ fun i => ?_
    · refine ent_ex 0 (ent_ex sl ?_)
      have : (fun s : Nat => if s < 0 then secOf im s else D.lasts s) = D.lasts := by funext s; simp
      rw [this]
      repeat (first
        | (with_reducible exact ent_drop)
        | (with_reducible refine ent_pick ?_)
        | (refine ent_pickC (by rfl) ?_)
        | (refine ent_pickS (by rfl) ?_)
        | (refine ent_pickM (by rfl) ?_)
        | (refine ent_prx ?_ ?_; rotate_left)
        | (refine ent_prq ?_))
      all_goals first | exact ⟨rfl, by omega, hd.1⟩ | trivial
    · refine wps_ex fun n => wps_ex fun sl' => wps_prP fun ⟨hi, hn, hsl'⟩ => ?_
      refine wps_ite (fun hc => ?_) (fun hc => ?_)
      · have hc' : n < R.ns := by simp only [decide_eq_true_eq] at hc; omega
        repeat (first
          | (with_reducible refine wps_bindpure ?_)
          | (with_reducible refine wps_assoc ?_)
          | (with_reducible refine wps_nil ?_)
          | (with_reducible refine wps_stepAlloc fun _ => ?_)
          | (with_reducible refine wps_alloc fun _ => ?_)
          | (with_reducible refine wps_newO fun _ => ?_)
          | (refine wps_ld _ (by rfl) ?_)
          | (refine wps_ldG _ _ _ (by rfl) ?_)
          | (refine wps_ldA _ (by rfl) ?_)
          | (refine wps_ldI _ (by rfl) ?_)
          | (refine wps_ldGI _ _ _ (by rfl) ?_)
          | (refine wps_ldAI _ (by rfl) ?_)
          | (refine wps_st (by simp) ?_)
          | (refine wps_stA (by simp) (by simp [Value.oneCell']) ?_)
          | ((with_reducible apply wps_val); apply val_ite; rotate_left; refine fun (_ : ¬ _) => ?_; rotate_right; refine fun (_ : _ = true) => ?_)
          | ((with_reducible apply val_ite); rotate_left; refine fun (_ : ¬ _) => ?_; rotate_right; refine fun (_ : _ = true) => ?_)
          | (with_reducible refine wps_regionH ?_)
          | ((with_reducible apply wps_bindV); apply val_iteL; rotate_left; refine fun (_ : ¬ _) => ?_; rotate_right; refine fun (_ : _ = true) => ?_)
          | ((with_reducible apply val_iteL); rotate_left; refine fun (_ : ¬ _) => ?_; rotate_right; refine fun (_ : _ = true) => ?_)
          | (with_reducible exact wps_pure (ent_val rfl)))
        rename_i b
        have hw : w64 (i * 64) = ((n * 64 : Nat) : Int) := by rw [w64_id] <;> omega
        have hmin : minI (w64 (i * 64)) (x.len : Int) = ((min (n * 64) im.length : Nat) : Int) := by
          rw [hw, minI]; split <;> omega
        refine wps_slice (min (n * 64) im.length) im.length hmin (by simp [hl]) (by omega) (by omega) ?_
        refine wps_swap (A := pc b (List.replicate 64 (Value.int .u8 0))) (B := own 1 ⟨some ⟨b, 0, none⟩, 64, 64⟩ (List.replicate 64 (Value.int .u8 0))) (pc_own (n := 64) (z := 1) (by simp)) ?_
        refine wps_copyS (new := ((bv im).drop (min (n * 64) im.length * 1)).take ((im.length - min (n * 64) im.length) * 1)) ?_ ?_ ?_
        · exact Ent.trans (ent_drop (B := H)) (Ent.trans hx (rsl_sub (by omega) (by omega)))
        · exact fun v hv => bv_one im v (List.mem_of_mem_drop (List.mem_of_mem_take hv))
        have hov : ovw (List.replicate 64 (Value.int .u8 0)) 0 ((((bv im).drop (min (n * 64) im.length * 1)).take ((im.length - min (n * 64) im.length) * 1)).take (min (subS 1 x (min (n * 64) im.length) im.length).len 64 * 1)) = bv (secOf im n) := ovw_sec im n
        rw [hov]
        repeat (first
          | (with_reducible refine wps_bindpure ?_)
          | (with_reducible refine wps_assoc ?_)
          | (with_reducible refine wps_nil ?_)
          | (with_reducible refine wps_stepAlloc fun _ => ?_)
          | (with_reducible refine wps_alloc fun _ => ?_)
          | (with_reducible refine wps_newO fun _ => ?_)
          | (refine wps_ld _ (by rfl) ?_)
          | (refine wps_ldG _ _ _ (by rfl) ?_)
          | (refine wps_ldA _ (by rfl) ?_)
          | (refine wps_ldI _ (by rfl) ?_)
          | (refine wps_ldGI _ _ _ (by rfl) ?_)
          | (refine wps_ldAI _ (by rfl) ?_)
          | (refine wps_st (by simp) ?_)
          | (refine wps_stA (by simp) (by simp [Value.oneCell']) ?_)
          | ((with_reducible apply wps_val); apply val_ite; rotate_left; refine fun (_ : ¬ _) => ?_; rotate_right; refine fun (_ : _ = true) => ?_)
          | ((with_reducible apply val_ite); rotate_left; refine fun (_ : ¬ _) => ?_; rotate_right; refine fun (_ : _ = true) => ?_)
          | (with_reducible refine wps_regionH ?_)
          | ((with_reducible apply wps_bindV); apply val_iteL; rotate_left; refine fun (_ : ¬ _) => ?_; rotate_right; refine fun (_ : _ = true) => ?_)
          | ((with_reducible apply val_iteL); rotate_left; refine fun (_ : ¬ _) => ?_; rotate_right; refine fun (_ : _ = true) => ?_)
          | (with_reducible exact wps_pure (ent_val rfl)))
        refine wps_wrS n hi (by omega) ?_
        refine wps_pure (ent_prr (by rw [range_add1 hi (by omega)]; omega) (ent_ex (n + 1) (ent_ex (sl'.set n ⟨some ⟨b, 0, none⟩, 64, 64⟩) ?_)))
        refine ent_pick (ent_pickS (by rw [List.map_set]; rfl) (ent_pick ?_))
        refine ent_swap (A := own 1 ⟨some ⟨b, 0, none⟩, 64, 64⟩ (bv (secOf im n))) (own_rsl _ _ _) ?_
        refine ent_join (A := seqp sl' fun s => if s < n then secOf im s else D.lasts s) (B := rsl 1 ⟨some ⟨b, 0, none⟩, 64, 64⟩ (bv (secOf im n))) (Ent.trans (seqp_set (k := n) (b := secOf im n) (ent_left _ _) (ent_right _ _)) (seqp_ext fun s _ => ?_)) ?_
        · by_cases hs : s = n
          · subst hs; simp
          · have : s < n + 1 ↔ s < n := by omega
            simp [hs, this]
        · repeat (first
            | (with_reducible exact ent_drop)
            | (with_reducible refine ent_pick ?_)
            | (refine ent_pickC (by rfl) ?_)
            | (refine ent_pickS (by rfl) ?_)
            | (refine ent_pickM (by rfl) ?_)
            | (refine ent_prx ?_ ?_; rotate_left)
            | (refine ent_prq ?_))
          all_goals first | exact ⟨range_add1 hi (by omega), by omega, by simpa using hsl'⟩ | trivial
      · have hne : n = R.ns := by simp only [decide_eq_true_eq] at hc; omega
        subst hne
        refine wps_mapR (wps_pure ?_)
        refine ent_exr ls ?_
        refine ent_exr mb ?_
        refine ent_exr sl' ?_
        refine ent_exr sc ?_
        simp only [← star_assoc]
        refine ent_pickC (by rfl) (ent_pick (ent_pickM (by rfl) (ent_pers ?_ (cachep_nil _ _))))
        have hq : Ent (seqp sl' fun s => if s < R.ns then secOf im s else D.lasts s) (seqp sl' (D.load im).lasts) := seqp_ext fun s hs => by
          rw [if_pos (by omega)]; rfl
        refine ent_swap (A := seqp sl' fun s => if s < R.ns then secOf im s else D.lasts s) hq ?_
        repeat (first
          | (with_reducible exact ent_drop)
          | (with_reducible refine ent_pick ?_)
          | (refine ent_pickC (by rfl) ?_)
          | (refine ent_pickS (by rfl) ?_)
          | (refine ent_pickM (by rfl) ?_)
          | (refine ent_prx ?_ ?_; rotate_left)
          | (refine ent_prq ?_))
        all_goals first | exact hd2 | rfl | trivial | exact ⟨hsl', hd.2.1, fun k _ => secOf_len im k, fun j b h => by cases h⟩
end Go.Proofs.Ytldmeimebebllaa
