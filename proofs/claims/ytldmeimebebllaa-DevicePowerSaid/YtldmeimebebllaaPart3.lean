/-
  A part of the proof: predicate transformers over the model, and a separation logic over them; what functions of the program do.
-/
import Derived.Test.YtldmeimebebllaaPart2
import Derived.ChangeReads
import Derived.ReadAgain
import Derived.Deep.Frames
import Derived.RowKit3
import Derived.ChangeSame
import Derived.ChangeSlices
namespace Go.Proofs.Ytldmeimebebllaa
open Go.Mo
set_option linter.unusedVariables false
variable {g : Fr} {cv : CV}
def flushL : List Int → Rk → Rk × Int
  | [], R => (R, 0)
  | d :: ds, R => if R.gate d 0 64 = 12 then (R.flush d, 12) else flushL ds (R.flush d)
theorem bank_Flush_spec (hcv : DisksOk cv) (bb rb : Nat) (q m : G3) (hq : q.1 ≤ 16) (R : Rk) (ds : Slc) (ps : List Nat) :
    wps g (bnk bb rb q m * rackP rb R ds ps) (bank_Bank_Flush cv (ptr bb)) (fun e => pr (e = (flushL (disksL q m) R).2) * bnk bb rb q m * rackP rb (flushL (disksL q m) R).1 ds ps) := by
  unfold bank_Bank_Flush
  repeat (first
    | (with_reducible refine wps_bindpure ?_)
    | (with_reducible refine wps_assoc ?_)
    | (with_reducible refine wps_nil ?_)
    | (with_reducible refine wps_stepAlloc fun _ => ?_)
    | (with_reducible refine wps_alloc fun _ => ?_)
    | (with_reducible refine wps_newO fun _ => ?_)
    | (refine wps_ld _ (by rfl) ?_)
    | (refine wps_ldG _ _ _ (by rfl) ?_)
    | (refine wps_ldA _ (by rfl) ?_)
    | (refine wps_ldI _ (by rfl) ?_)
    | (refine wps_ldGI _ _ _ (by rfl) ?_)
    | (refine wps_ldAI _ (by rfl) ?_)
    | (refine wps_st (by simp) ?_)
    | (refine wps_stA (by simp) (by simp [Value.oneCell']) ?_)
    | ((with_reducible apply wps_val); apply val_ite; rotate_left; refine fun (_ : ¬ _) => ?_; rotate_right; refine fun (_ : _ = true) => ?_)
    | ((with_reducible apply val_ite); rotate_left; refine fun (_ : ¬ _) => ?_; rotate_right; refine fun (_ : _ = true) => ?_)
    | (with_reducible refine wps_regionH ?_)
    | ((with_reducible apply wps_bindV); apply val_iteL; rotate_left; refine fun (_ : ¬ _) => ?_; rotate_right; refine fun (_ : _ = true) => ?_)
    | ((with_reducible apply val_iteL); rotate_left; refine fun (_ : ¬ _) => ?_; rotate_right; refine fun (_ : _ = true) => ?_)
    | (with_reducible exact wps_pure (ent_val rfl)))
  rename_i x1 x2
  refine wps_rangeF (F := emp)
    (fun i => ex fun R' : Rk => pr (flushL (disksL q m) R = flushL ((disksL q m).drop i) R') * rackP rb R' ds ps * pc x1 [.pointer (ptr bb)] * pc x2 [.int .i64 0])
    (fun j => match j with | .ret => ex fun R' : Rk => pr (flushL (disksL q m) R = (R', 12)) * rackP rb R' ds ps * pc x2 [.int .i64 12] | .exit _ => pr False)
    (fun i d t => pr (t = d) * (bnk bb rb q m * ex fun R' : Rk => pr (flushL (disksL q m) R = flushL ((disksL q m).drop i) R') * rackP rb R' ds ps * pc x1 [.pointer (ptr bb)] * pc x2 [.int .i64 0]))
    (disks_iter hcv bb rb q m hq) ?_ ?_ ?_ ?_ ?_ ?_
  · rw [emp_star]
    refine Ent.trans ?_ (Ent.starr (ent_ex R (Ent.refl _)))
    simp only [← star_assoc]
    exact ent_pickC (by rfl) (ent_pickC (by rfl) (ent_pick (ent_prx rfl ent_drop)))
  · intro i d hd g
    exact wps_pure (ent_prr rfl (Ent.refl _))
  · intro i d hd t g
    refine wps_pr fun ht => ?_
    subst ht
    refine wps_exP fun R' => ?_
    simp only [← star_assoc]
    refine wps_prP fun hR => ?_
    rw [drop_cons hd, flushL] at hR
    repeat (first
      | (with_reducible refine wps_bindpure ?_)
      | (with_reducible refine wps_assoc ?_)
      | (with_reducible refine wps_nil ?_)
      | (with_reducible refine wps_stepAlloc fun _ => ?_)
      | (with_reducible refine wps_alloc fun _ => ?_)
      | (with_reducible refine wps_newO fun _ => ?_)
      | (refine wps_ld _ (by rfl) ?_)
      | (refine wps_ldG _ _ _ (by rfl) ?_)
      | (refine wps_ldA _ (by rfl) ?_)
      | (refine wps_ldI _ (by rfl) ?_)
      | (refine wps_ldGI _ _ _ (by rfl) ?_)
      | (refine wps_ldAI _ (by rfl) ?_)
      | (refine wps_st (by simp) ?_)
      | (refine wps_stA (by simp) (by simp [Value.oneCell']) ?_)
      | ((with_reducible apply wps_val); apply val_ite; rotate_left; refine fun (_ : ¬ _) => ?_; rotate_right; refine fun (_ : _ = true) => ?_)
      | ((with_reducible apply val_ite); rotate_left; refine fun (_ : ¬ _) => ?_; rotate_right; refine fun (_ : _ = true) => ?_)
      | (with_reducible refine wps_regionH ?_)
      | ((with_reducible apply wps_bindV); apply val_iteL; rotate_left; refine fun (_ : ¬ _) => ?_; rotate_right; refine fun (_ : _ = true) => ?_)
      | ((with_reducible apply val_iteL); rotate_left; refine fun (_ : ¬ _) => ?_; rotate_right; refine fun (_ : _ = true) => ?_)
      | (with_reducible exact wps_pure (ent_val rfl)))
    refine wps_callH (fun _ => device_Rack_Flush_spec rb R' ds ps t) fun e => ?_
    simp only [← star_assoc]
    refine wps_prP fun he => ?_
    subst he
    refine wps_ite (fun h12 => ?_) (fun h12 => ?_)
    · have h12' : R'.gate t 0 64 = 12 := by simpa using h12
      rw [if_pos h12'] at hR
      repeat (first
        | (with_reducible refine wps_bindpure ?_)
        | (with_reducible refine wps_assoc ?_)
        | (with_reducible refine wps_nil ?_)
        | (with_reducible refine wps_stepAlloc fun _ => ?_)
        | (with_reducible refine wps_alloc fun _ => ?_)
        | (with_reducible refine wps_newO fun _ => ?_)
        | (refine wps_ld _ (by rfl) ?_)
        | (refine wps_ldG _ _ _ (by rfl) ?_)
        | (refine wps_ldA _ (by rfl) ?_)
        | (refine wps_ldI _ (by rfl) ?_)
        | (refine wps_ldGI _ _ _ (by rfl) ?_)
        | (refine wps_ldAI _ (by rfl) ?_)
        | (refine wps_st (by simp) ?_)
        | (refine wps_stA (by simp) (by simp [Value.oneCell']) ?_)
        | ((with_reducible apply wps_val); apply val_ite; rotate_left; refine fun (_ : ¬ _) => ?_; rotate_right; refine fun (_ : _ = true) => ?_)
        | ((with_reducible apply val_ite); rotate_left; refine fun (_ : ¬ _) => ?_; rotate_right; refine fun (_ : _ = true) => ?_)
        | (with_reducible refine wps_regionH ?_)
        | ((with_reducible apply wps_bindV); apply val_iteL; rotate_left; refine fun (_ : ¬ _) => ?_; rotate_right; refine fun (_ : _ = true) => ?_)
        | ((with_reducible apply val_iteL); rotate_left; refine fun (_ : ¬ _) => ?_; rotate_right; refine fun (_ : _ = true) => ?_)
        | (with_reducible exact wps_pure (ent_val rfl)))
      refine wps_pure ?_
      refine Ent.trans ?_ (Ent.starr (ent_ex (R'.flush t) (Ent.refl _)))
      simp only [← star_assoc]
      exact ent_pickC (by rw [h12']; rfl) (ent_pick (ent_prx hR ent_drop))
    · have h12' : ¬ R'.gate t 0 64 = 12 := by simpa using h12
      rw [if_neg h12'] at hR
      refine wps_pure ?_
      refine Ent.trans ?_ (Ent.starr (ent_ex (R'.flush t) (Ent.refl _)))
      simp only [← star_assoc]
      exact ent_pick (ent_pick (ent_pick (ent_prx hR ent_drop)))
  · intro D
    refine wps_exP fun R' => ?_
    simp only [← star_assoc]
    refine wps_prP fun hR => ?_
    rw [List.drop_length, flushL] at hR
    repeat (first
      | (with_reducible refine wps_bindpure ?_)
      | (with_reducible refine wps_assoc ?_)
      | (with_reducible refine wps_nil ?_)
      | (with_reducible refine wps_stepAlloc fun _ => ?_)
      | (with_reducible refine wps_alloc fun _ => ?_)
      | (with_reducible refine wps_newO fun _ => ?_)
      | (refine wps_ld _ (by rfl) ?_)
      | (refine wps_ldG _ _ _ (by rfl) ?_)
      | (refine wps_ldA _ (by rfl) ?_)
      | (refine wps_ldI _ (by rfl) ?_)
      | (refine wps_ldGI _ _ _ (by rfl) ?_)
      | (refine wps_ldAI _ (by rfl) ?_)
      | (refine wps_st (by simp) ?_)
      | (refine wps_stA (by simp) (by simp [Value.oneCell']) ?_)
      | ((with_reducible apply wps_val); apply val_ite; rotate_left; refine fun (_ : ¬ _) => ?_; rotate_right; refine fun (_ : _ = true) => ?_)
      | ((with_reducible apply val_ite); rotate_left; refine fun (_ : ¬ _) => ?_; rotate_right; refine fun (_ : _ = true) => ?_)
      | (with_reducible refine wps_regionH ?_)
      | ((with_reducible apply wps_bindV); apply val_iteL; rotate_left; refine fun (_ : ¬ _) => ?_; rotate_right; refine fun (_ : _ = true) => ?_)
      | ((with_reducible apply val_iteL); rotate_left; refine fun (_ : ¬ _) => ?_; rotate_right; refine fun (_ : _ = true) => ?_)
      | (with_reducible exact wps_pure (ent_val rfl)))
    refine wps_take ?_
    repeat (first
      | (with_reducible refine wps_bindpure ?_)
      | (with_reducible refine wps_assoc ?_)
      | (with_reducible refine wps_nil ?_)
      | (with_reducible refine wps_stepAlloc fun _ => ?_)
      | (with_reducible refine wps_alloc fun _ => ?_)
      | (with_reducible refine wps_newO fun _ => ?_)
      | (refine wps_ld _ (by rfl) ?_)
      | (refine wps_ldG _ _ _ (by rfl) ?_)
      | (refine wps_ldA _ (by rfl) ?_)
      | (refine wps_ldI _ (by rfl) ?_)
      | (refine wps_ldGI _ _ _ (by rfl) ?_)
      | (refine wps_ldAI _ (by rfl) ?_)
      | (refine wps_st (by simp) ?_)
      | (refine wps_stA (by simp) (by simp [Value.oneCell']) ?_)
      | ((with_reducible apply wps_val); apply val_ite; rotate_left; refine fun (_ : ¬ _) => ?_; rotate_right; refine fun (_ : _ = true) => ?_)
      | ((with_reducible apply val_ite); rotate_left; refine fun (_ : ¬ _) => ?_; rotate_right; refine fun (_ : _ = true) => ?_)
      | (with_reducible refine wps_regionH ?_)
      | ((with_reducible apply wps_bindV); apply val_iteL; rotate_left; refine fun (_ : ¬ _) => ?_; rotate_right; refine fun (_ : _ = true) => ?_)
      | ((with_reducible apply val_iteL); rotate_left; refine fun (_ : ¬ _) => ?_; rotate_right; refine fun (_ : _ = true) => ?_)
      | (with_reducible exact wps_pure (ent_val rfl)))
    refine wps_pure ?_
    rw [hR]
    exact ent_pick (ent_pick (ent_prq rfl))
  · intro D
    refine wps_exP fun R' => ?_
    simp only [← star_assoc]
    refine wps_prP fun hR => ?_
    refine wps_take ?_
    repeat (first
      | (with_reducible refine wps_bindpure ?_)
      | (with_reducible refine wps_assoc ?_)
      | (with_reducible refine wps_nil ?_)
      | (with_reducible refine wps_stepAlloc fun _ => ?_)
      | (with_reducible refine wps_alloc fun _ => ?_)
      | (with_reducible refine wps_newO fun _ => ?_)
      | (refine wps_ld _ (by rfl) ?_)
      | (refine wps_ldG _ _ _ (by rfl) ?_)
      | (refine wps_ldA _ (by rfl) ?_)
      | (refine wps_ldI _ (by rfl) ?_)
      | (refine wps_ldGI _ _ _ (by rfl) ?_)
      | (refine wps_ldAI _ (by rfl) ?_)
      | (refine wps_st (by simp) ?_)
      | (refine wps_stA (by simp) (by simp [Value.oneCell']) ?_)
      | ((with_reducible apply wps_val); apply val_ite; rotate_left; refine fun (_ : ¬ _) => ?_; rotate_right; refine fun (_ : _ = true) => ?_)
      | ((with_reducible apply val_ite); rotate_left; refine fun (_ : ¬ _) => ?_; rotate_right; refine fun (_ : _ = true) => ?_)
      | (with_reducible refine wps_regionH ?_)
      | ((with_reducible apply wps_bindV); apply val_iteL; rotate_left; refine fun (_ : ¬ _) => ?_; rotate_right; refine fun (_ : _ = true) => ?_)
      | ((with_reducible apply val_iteL); rotate_left; refine fun (_ : ¬ _) => ?_; rotate_right; refine fun (_ : _ = true) => ?_)
      | (with_reducible exact wps_pure (ent_val rfl)))
    refine wps_pure ?_
    rw [hR]
    exact ent_pick (ent_pick (ent_prq rfl))
  · intro D id
    exact wps_false (fun o ho => by
      have := ent_right _ _ o (ent_left _ _ o ho)
      exact ent_right _ _ o this)
theorem bank_SpareFailed_val (bb rb : Nat) (q m : G3) (R : Rk) (ds : Slc) (ps : List Nat) : Val g (bnk bb rb q m * rackP rb R ds ps) (bank_Bank_SpareFailed (ptr bb)) (R.failedB q.1) := by
  unfold bank_Bank_SpareFailed
  repeat (first
    | (with_reducible refine wps_bindpure ?_)
    | (with_reducible refine wps_assoc ?_)
    | (with_reducible refine wps_nil ?_)
    | (with_reducible refine wps_stepAlloc fun _ => ?_)
    | (with_reducible refine wps_alloc fun _ => ?_)
    | (with_reducible refine wps_newO fun _ => ?_)
    | (refine wps_ld _ (by rfl) ?_)
    | (refine wps_ldG _ _ _ (by rfl) ?_)
    | (refine wps_ldA _ (by rfl) ?_)
    | (refine wps_ldI _ (by rfl) ?_)
    | (refine wps_ldGI _ _ _ (by rfl) ?_)
    | (refine wps_ldAI _ (by rfl) ?_)
    | (refine wps_st (by simp) ?_)
    | (refine wps_stA (by simp) (by simp [Value.oneCell']) ?_)
    | ((with_reducible apply wps_val); apply val_ite; rotate_left; refine fun (_ : ¬ _) => ?_; rotate_right; refine fun (_ : _ = true) => ?_)
    | ((with_reducible apply val_ite); rotate_left; refine fun (_ : ¬ _) => ?_; rotate_right; refine fun (_ : _ = true) => ?_)
    | (with_reducible refine wps_regionH ?_)
    | ((with_reducible apply wps_bindV); apply val_iteL; rotate_left; refine fun (_ : ¬ _) => ?_; rotate_right; refine fun (_ : _ = true) => ?_)
    | ((with_reducible apply val_iteL); rotate_left; refine fun (_ : ¬ _) => ?_; rotate_right; refine fun (_ : _ = true) => ?_)
    | (with_reducible exact wps_pure (ent_val rfl)))
  refine wps_valH (fun _ => device_Rack_Failed_val rb R ds ps q.1) ?_
  repeat (first
    | (with_reducible refine wps_bindpure ?_)
    | (with_reducible refine wps_assoc ?_)
    | (with_reducible refine wps_nil ?_)
    | (with_reducible refine wps_stepAlloc fun _ => ?_)
    | (with_reducible refine wps_alloc fun _ => ?_)
    | (with_reducible refine wps_newO fun _ => ?_)
    | (refine wps_ld _ (by rfl) ?_)
    | (refine wps_ldG _ _ _ (by rfl) ?_)
    | (refine wps_ldA _ (by rfl) ?_)
    | (refine wps_ldI _ (by rfl) ?_)
    | (refine wps_ldGI _ _ _ (by rfl) ?_)
    | (refine wps_ldAI _ (by rfl) ?_)
    | (refine wps_st (by simp) ?_)
    | (refine wps_stA (by simp) (by simp [Value.oneCell']) ?_)
    | ((with_reducible apply wps_val); apply val_ite; rotate_left; refine fun (_ : ¬ _) => ?_; rotate_right; refine fun (_ : _ = true) => ?_)
    | ((with_reducible apply val_ite); rotate_left; refine fun (_ : ¬ _) => ?_; rotate_right; refine fun (_ : _ = true) => ?_)
    | (with_reducible refine wps_regionH ?_)
    | ((with_reducible apply wps_bindV); apply val_iteL; rotate_left; refine fun (_ : ¬ _) => ?_; rotate_right; refine fun (_ : _ = true) => ?_)
    | ((with_reducible apply val_iteL); rotate_left; refine fun (_ : ¬ _) => ?_; rotate_right; refine fun (_ : _ = true) => ?_)
    | (with_reducible exact wps_pure (ent_val rfl)))
theorem bank_Read_spec (bb rb : Nat) (q m : G3) (R : Rk) (ds : Slc) (ps : List Nat) (slot s : Int) :
    wps g (bnk bb rb q m * rackP rb R ds ps) (bank_Bank_Read (ptr bb) slot s) (fun x =>
      pr (x.2 = if (slotV q m slot).2 then R.rdErr (slotV q m slot).1 s else 11) * bnk bb rb q m * rackP rb R ds ps * own 1 x.1 (bv (if (slotV q m slot).2 then R.rd (slotV q m slot).1 s else []))) := by
  unfold bank_Bank_Read
  refine wps_valH (fun _ => bank_disk_val bb rb q m slot) ?_
  by_cases hv : (slotV q m slot).2 = true
  · simp only [hv, if_true]
    refine wps_ite (fun h => absurd h (by simp)) (fun _ => ?_)
    repeat (first
      | (with_reducible refine wps_bindpure ?_)
      | (with_reducible refine wps_assoc ?_)
      | (with_reducible refine wps_nil ?_)
      | (with_reducible refine wps_stepAlloc fun _ => ?_)
      | (with_reducible refine wps_alloc fun _ => ?_)
      | (with_reducible refine wps_newO fun _ => ?_)
      | (refine wps_ld _ (by rfl) ?_)
      | (refine wps_ldG _ _ _ (by rfl) ?_)
      | (refine wps_ldA _ (by rfl) ?_)
      | (refine wps_ldI _ (by rfl) ?_)
      | (refine wps_ldGI _ _ _ (by rfl) ?_)
      | (refine wps_ldAI _ (by rfl) ?_)
      | (refine wps_st (by simp) ?_)
      | (refine wps_stA (by simp) (by simp [Value.oneCell']) ?_)
      | ((with_reducible apply wps_val); apply val_ite; rotate_left; refine fun (_ : ¬ _) => ?_; rotate_right; refine fun (_ : _ = true) => ?_)
      | ((with_reducible apply val_ite); rotate_left; refine fun (_ : ¬ _) => ?_; rotate_right; refine fun (_ : _ = true) => ?_)
      | (with_reducible refine wps_regionH ?_)
      | ((with_reducible apply wps_bindV); apply val_iteL; rotate_left; refine fun (_ : ¬ _) => ?_; rotate_right; refine fun (_ : _ = true) => ?_)
      | ((with_reducible apply val_iteL); rotate_left; refine fun (_ : ¬ _) => ?_; rotate_right; refine fun (_ : _ = true) => ?_)
      | (with_reducible exact wps_pure (ent_val rfl)))
    refine wps_callH (fun _ => device_Rack_Read_spec rb R ds ps (slotV q m slot).1 s) fun x => wps_pure ?_
    simp only [← star_assoc]
    exact ent_pick (ent_pick (ent_pick ent_drop))
  · simp only [hv, if_false, Bool.false_eq_true]
    refine wps_ite (fun _ => wps_pure ?_) (fun h => absurd rfl h)
    exact ent_own0 (ent_pick (ent_pick (ent_prq rfl)))
def Rk.doom (R : Rk) (k c : Int) : Rk := if k < 0 ∨ k ≥ R.n then R else R.setD k.toNat { R.dk k.toNat with count := maxI c (-1) }
theorem device_Rack_Doom_spec (rb : Nat) (R : Rk) (ds : Slc) (ps : List Nat) (k c : Int) :
    wps g (rackP rb R ds ps) (device_Rack_Doom (ptr rb) k c) (fun e => pr (e = if k < 0 ∨ k ≥ R.n then 11 else 0) * rackP rb (R.doom k c) ds ps) := by
  unfold device_Rack_Doom
  have hp : Ent (rackP rb R ds ps) (pr (ps.length = R.n ∧ ds.len = R.n ∧ R.n ≤ 17 ∧ R.ns ≤ 4096)) := Ent.trans (ent_left _ _) (Ent.trans (ent_left _ _) (ent_left _ _))
  refine wps_fact hp fun ⟨h1, h2, h17, hns⟩ => ?_
  by_cases hk : k < 0 ∨ k ≥ R.n
  · rw [if_pos hk, Rk.doom, if_pos hk]
    refine wps_val (v := true) ?_ (wps_ite (fun _ => wps_pure (ent_prr rfl (Ent.refl _))) (fun h => absurd rfl h))
    unfold rackP
    apply val_eq
    · repeat (first
        | (with_reducible refine wps_bindpure ?_)
        | (with_reducible refine wps_assoc ?_)
        | (with_reducible refine wps_nil ?_)
        | (with_reducible refine wps_stepAlloc fun _ => ?_)
        | (with_reducible refine wps_alloc fun _ => ?_)
        | (with_reducible refine wps_newO fun _ => ?_)
        | (refine wps_ld _ (by rfl) ?_)
        | (refine wps_ldG _ _ _ (by rfl) ?_)
        | (refine wps_ldA _ (by rfl) ?_)
        | (refine wps_ldI _ (by rfl) ?_)
        | (refine wps_ldGI _ _ _ (by rfl) ?_)
        | (refine wps_ldAI _ (by rfl) ?_)
        | (refine wps_st (by simp) ?_)
        | (refine wps_stA (by simp) (by simp [Value.oneCell']) ?_)
        | ((with_reducible apply wps_val); apply val_ite; rotate_left; refine fun (_ : ¬ _) => ?_; rotate_right; refine fun (_ : _ = true) => ?_)
        | ((with_reducible apply val_ite); rotate_left; refine fun (_ : ¬ _) => ?_; rotate_right; refine fun (_ : _ = true) => ?_)
        | (with_reducible refine wps_regionH ?_)
        | ((with_reducible apply wps_bindV); apply val_iteL; rotate_left; refine fun (_ : ¬ _) => ?_; rotate_right; refine fun (_ : _ = true) => ?_)
        | ((with_reducible apply val_iteL); rotate_left; refine fun (_ : ¬ _) => ?_; rotate_right; refine fun (_ : _ = true) => ?_)
        | (with_reducible exact wps_pure (ent_val rfl)))
    · rw [h2]
      by_cases h : k < 0
      · simp [h]
      · have : k ≥ R.n := by omega
        simp [h, this]
  · rw [if_neg hk, Rk.doom, if_neg hk]
    have hlt : k.toNat < R.n := by omega
    refine wps_val (v := false) ?_ (wps_ite (fun h => absurd h (by simp)) (fun _ => ?_))
    · unfold rackP
      apply val_eq
      · repeat (first
          | (with_reducible refine wps_bindpure ?_)
          | (with_reducible refine wps_assoc ?_)
          | (with_reducible refine wps_nil ?_)
          | (with_reducible refine wps_stepAlloc fun _ => ?_)
          | (with_reducible refine wps_alloc fun _ => ?_)
          | (with_reducible refine wps_newO fun _ => ?_)
          | (refine wps_ld _ (by rfl) ?_)
          | (refine wps_ldG _ _ _ (by rfl) ?_)
          | (refine wps_ldA _ (by rfl) ?_)
          | (refine wps_ldI _ (by rfl) ?_)
          | (refine wps_ldGI _ _ _ (by rfl) ?_)
          | (refine wps_ldAI _ (by rfl) ?_)
          | (refine wps_st (by simp) ?_)
          | (refine wps_stA (by simp) (by simp [Value.oneCell']) ?_)
          | ((with_reducible apply wps_val); apply val_ite; rotate_left; refine fun (_ : ¬ _) => ?_; rotate_right; refine fun (_ : _ = true) => ?_)
          | ((with_reducible apply val_ite); rotate_left; refine fun (_ : ¬ _) => ?_; rotate_right; refine fun (_ : _ = true) => ?_)
          | (with_reducible refine wps_regionH ?_)
          | ((with_reducible apply wps_bindV); apply val_iteL; rotate_left; refine fun (_ : ¬ _) => ?_; rotate_right; refine fun (_ : _ = true) => ?_)
          | ((with_reducible apply val_iteL); rotate_left; refine fun (_ : ¬ _) => ?_; rotate_right; refine fun (_ : _ = true) => ?_)
          | (with_reducible exact wps_pure (ent_val rfl)))
      · rw [h2]
        have a : ¬ k < 0 := by omega
        have b : ¬ k ≥ R.n := by omega
        simp [a]; omega
    · rw [← rackP_set _ hlt, rackP_focus rb R ds ps hlt]
      repeat (first
        | (with_reducible refine wps_bindpure ?_)
        | (with_reducible refine wps_assoc ?_)
        | (with_reducible refine wps_nil ?_)
        | (with_reducible refine wps_stepAlloc fun _ => ?_)
        | (with_reducible refine wps_alloc fun _ => ?_)
        | (with_reducible refine wps_newO fun _ => ?_)
        | (refine wps_ld _ (by rfl) ?_)
        | (refine wps_ldG _ _ _ (by rfl) ?_)
        | (refine wps_ldA _ (by rfl) ?_)
        | (refine wps_ldI _ (by rfl) ?_)
        | (refine wps_ldGI _ _ _ (by rfl) ?_)
        | (refine wps_ldAI _ (by rfl) ?_)
        | (refine wps_st (by simp) ?_)
        | (refine wps_stA (by simp) (by simp [Value.oneCell']) ?_)
        | ((with_reducible apply wps_val); apply val_ite; rotate_left; refine fun (_ : ¬ _) => ?_; rotate_right; refine fun (_ : _ = true) => ?_)
        | ((with_reducible apply val_ite); rotate_left; refine fun (_ : ¬ _) => ?_; rotate_right; refine fun (_ : _ = true) => ?_)
        | (with_reducible refine wps_regionH ?_)
        | ((with_reducible apply wps_bindV); apply val_iteL; rotate_left; refine fun (_ : ¬ _) => ?_; rotate_right; refine fun (_ : _ = true) => ?_)
        | ((with_reducible apply val_iteL); rotate_left; refine fun (_ : ¬ _) => ?_; rotate_right; refine fun (_ : _ = true) => ?_)
        | (with_reducible exact wps_pure (ent_val rfl)))
      refine wps_rdS k.toNat (ptr (ps.getD k.toNat 0)) (by omega) (pv_get (by omega)) ?_
      simp only [dskAt, dskX]
      refine wps_exP fun ls => wps_exP fun mb => wps_exP fun sl => wps_exP fun sc => ?_
      simp only [← star_assoc]
      refine wps_prP fun hd => ?_
      repeat (first
        | (with_reducible refine wps_bindpure ?_)
        | (with_reducible refine wps_assoc ?_)
        | (with_reducible refine wps_nil ?_)
        | (with_reducible refine wps_stepAlloc fun _ => ?_)
        | (with_reducible refine wps_alloc fun _ => ?_)
        | (with_reducible refine wps_newO fun _ => ?_)
        | (refine wps_ld _ (by rfl) ?_)
        | (refine wps_ldG _ _ _ (by rfl) ?_)
        | (refine wps_ldA _ (by rfl) ?_)
        | (refine wps_ldI _ (by rfl) ?_)
        | (refine wps_ldGI _ _ _ (by rfl) ?_)
        | (refine wps_ldAI _ (by rfl) ?_)
        | (refine wps_st (by simp) ?_)
        | (refine wps_stA (by simp) (by simp [Value.oneCell']) ?_)
        | ((with_reducible apply wps_val); apply val_ite; rotate_left; refine fun (_ : ¬ _) => ?_; rotate_right; refine fun (_ : _ = true) => ?_)
        | ((with_reducible apply val_ite); rotate_left; refine fun (_ : ¬ _) => ?_; rotate_right; refine fun (_ : _ = true) => ?_)
        | (with_reducible refine wps_regionH ?_)
        | ((with_reducible apply wps_bindV); apply val_iteL; rotate_left; refine fun (_ : ¬ _) => ?_; rotate_right; refine fun (_ : _ = true) => ?_)
        | ((with_reducible apply val_iteL); rotate_left; refine fun (_ : ¬ _) => ?_; rotate_right; refine fun (_ : _ = true) => ?_)
        | (with_reducible exact wps_pure (ent_val rfl)))
      refine wps_pure ?_
      refine ent_exr ls ?_
      refine ent_exr mb ?_
      refine ent_exr sl ?_
      refine ent_exr sc ?_
      simp only [← star_assoc]
      exact ent_pickC (by rfl) (ent_pick (ent_pick (ent_pick (ent_pick (ent_prx hd (ent_pick (ent_pick (ent_pick (ent_pick (ent_prq trivial))))))))))
end Go.Proofs.Ytldmeimebebllaa
namespace Go.Proofs.Ytldmeimebebllaa
open Go.Mo
set_option linter.unusedVariables false
/-- no power goes; no disk fails any more; those of f have -/
structure Settled (R : Rk) (f : Nat → Bool) : Prop where
  off : R.off = false
  count : R.count = -1
  failed : ∀ j, (R.dk j).failed = f j
  counts : ∀ j, (R.dk j).count = -1
theorem tickD {D : Dk} (h : D.count = -1) : D.tick = D := by
  obtain ⟨l, c, fl, k⟩ := D
  simp only at h
  subst h
  have hm : maxI (w64 (-1 - 1)) (-1) = -1 := by rw [w64m2]; rfl
  simp only [Dk.tick, hm]
  cases fl <;> rfl
theorem Settled.tick {R : Rk} {f : Nat → Bool} (h : Settled R f) : R.ticked = R := by
  have hdk : (fun j => (R.dk j).tick) = R.dk := by
    funext j; exact tickD (h.counts j)
  have hm : maxI (w64 (R.count - 1)) (-1) = R.count := by rw [h.count, w64m2]; rfl
  have hc : ¬ R.count = 0 := by rw [h.count]; omega
  simp only [Rk.ticked, if_neg hc, hdk, hm]
theorem Settled.gate {R : Rk} {f : Nat → Bool} (h : Settled R f) {k s : Int} (hk : 0 ≤ k ∧ k < R.n) (hs : 0 ≤ s ∧ s < R.ns) : R.gate k s 64 = if f k.toNat then 13 else 0 := by
  unfold Rk.gate
  have hr : ¬ (k < 0 ∨ k ≥ R.n ∨ s < 0 ∨ s ≥ R.ns) := by omega
  rw [if_neg (by simp [h.off]), if_neg hr, if_neg (by omega), if_neg (by rw [h.count]; omega), h.tick, h.failed]
theorem Settled.setD {R : Rk} {f : Nat → Bool} (h : Settled R f) {k : Nat} {D : Dk} (hf : D.failed = f k) (hc : D.count = -1) : Settled (R.setD k D) f := by
  refine ⟨h.off, h.count, fun j => ?_, fun j => ?_⟩
  · simp only [Rk.setD]; split
    · rename_i e; rw [e]; exact hf
    · exact h.failed j
  · simp only [Rk.setD]; split
    · exact hc
    · exact h.counts j
theorem gated_in {R : Rk} (ho : R.off = false) {k s : Int} (hk : 0 ≤ k ∧ k < R.n) (hs : 0 ≤ s ∧ s < R.ns) : R.gated k s 64 = R.ticked := by
  rw [Rk.gated, if_neg]
  rintro (h | h | h)
  · rw [ho] at h; cases h
  · omega
  · exact h rfl
/-- a flush leaves that as it is -/
theorem Settled.flush {R R1 : Rk} {f : Nat → Bool} {k : Int} (h : Settled R1 f) (hg : R.gated k 0 64 = R1) : Settled (R.flush k) f := by
  unfold Rk.flush
  rw [hg]
  split
  · exact h.setD (h.failed _) (h.counts _)
  · exact h
theorem flush_n {R : Rk} (k : Int) : (R.flush k).n = R.n ∧ (R.flush k).ns = R.ns := by
  have hg : (R.gated k 0 64).n = R.n ∧ (R.gated k 0 64).ns = R.ns := by
    unfold Rk.gated Rk.ticked
    split
    · exact ⟨rfl, rfl⟩
    · split <;> exact ⟨rfl, rfl⟩
  unfold Rk.flush
  split
  · exact hg
  · exact hg
theorem Settled.flushL {f : Nat → Bool} : ∀ {xs : List Int} {R : Rk}, Settled R f → (∀ d ∈ xs, 0 ≤ d ∧ d < R.n) → 0 < R.ns →
    (flushL xs R).2 = 0 ∧ Settled (flushL xs R).1 f ∧ (flushL xs R).1.n = R.n ∧ (flushL xs R).1.ns = R.ns
  | [], R, h, _, _ => ⟨rfl, h, rfl, rfl⟩
  | d :: xs, R, h, hx, hs => by
    have hd := hx d (by simp)
    have hg := h.gate hd (s := 0) (by omega)
    have h12 : ¬ R.gate d 0 64 = 12 := by rw [hg]; split <;> omega
    simp only [Proofs.Ytldmeimebebllaa.flushL, if_neg h12]
    have hf := h.flush (R := R) (k := d) (by rw [gated_in h.off hd (by omega), h.tick])
    have hn := flush_n (R := R) d
    have ih := Settled.flushL (xs := xs) hf (by rw [hn.1]; exact fun d' hd' => hx d' (by simp [hd'])) (by rw [hn.2]; exact hs)
    rw [hn.1, hn.2] at ih
    exact ih
/-- about to fail at the next call -/
structure Armed (R : Rk) (f : Nat → Bool) : Prop where
  off : R.off = false
  count : R.count = -1
  failed : ∀ j, (R.dk j).failed = false
  counts : ∀ j, (R.dk j).count = if f j then 0 else -1
theorem Armed.tick {R : Rk} {f : Nat → Bool} (h : Armed R f) : Settled R.ticked f := by
  have hc : ¬ R.count = 0 := by rw [h.count]; omega
  have hm : maxI (w64 (R.count - 1)) (-1) = -1 := by rw [h.count, w64m2]; rfl
  simp only [Rk.ticked, if_neg hc, hm]
  refine ⟨h.off, rfl, fun j => ?_, fun j => ?_⟩
  · simp only [h.failed, h.counts]
    cases f j <;> rfl
  · simp only [h.counts]
    have e1 : w64 (-1 - 1) = -2 := w64m2
    have e2 : w64 (0 - 1) = -1 := w64_id (by omega) (by omega)
    cases f j
    · show maxI (w64 (-1 - 1)) (-1) = -1
      rw [e1]; rfl
    · show maxI (w64 (0 - 1)) (-1) = -1
      rw [e2]; rfl
theorem Armed.flushL {f : Nat → Bool} {d : Int} {xs : List Int} {R : Rk} (h : Armed R f) (hx : ∀ d' ∈ d :: xs, 0 ≤ d' ∧ d' < R.n) (hs : 0 < R.ns) :
    (flushL (d :: xs) R).2 = 0 ∧ Settled (flushL (d :: xs) R).1 f ∧ (flushL (d :: xs) R).1.n = R.n ∧ (flushL (d :: xs) R).1.ns = R.ns := by
  have hd := hx d (by simp)
  have hgd := gated_in h.off hd (s := 0) (by omega)
  have h12 : ¬ R.gate d 0 64 = 12 := by
    unfold Rk.gate
    have hr : ¬ (d < 0 ∨ d ≥ R.n ∨ (0 : Int) < 0 ∨ (0 : Int) ≥ R.ns) := by omega
    rw [if_neg (by simp [h.off]), if_neg hr, if_neg (by omega), if_neg (by rw [h.count]; omega)]
    split <;> omega
  simp only [Proofs.Ytldmeimebebllaa.flushL, if_neg h12]
  have hf := h.tick.flush (R := R) (k := d) hgd
  have hn := flush_n (R := R) d
  have ih := Settled.flushL (xs := xs) hf (by rw [hn.1]; exact fun d' hd' => hx d' (by simp [hd'])) (by rw [hn.2]; exact hs)
  rw [hn.1, hn.2] at ih
  exact ih
end Go.Proofs.Ytldmeimebebllaa
namespace Go.Proofs.Ytldmeimebebllaa
open Go.Mo
set_option linter.unusedVariables false
variable {g : Fr} {cv : CV}
theorem Calm.setD {R : Rk} (h : Calm R) {k : Nat} {D : Dk} (hf : D.failed = false) (hc : D.count = -1) : Calm (R.setD k D) := by
  refine ⟨h.off, h.count, fun j => ?_, fun j => ?_⟩
  · simp only [Rk.setD]; split
    · exact hf
    · exact h.failed j
  · simp only [Rk.setD]; split
    · exact hc
    · exact h.counts j
theorem Calm.flush {R : Rk} (h : Calm R) {k : Int} (hk : 0 ≤ k ∧ k < R.n) (hs : 0 < R.ns) : R.gate k 0 64 = 0 ∧ R.flush k = R.setD k.toNat (((R.dk k.toNat).flushed fun _ => true).clean) ∧ Calm (R.flush k) := by
  have hg := h.gate hk (s := 0) (by omega)
  obtain ⟨_, _, _, _, hgd⟩ := gate_ok hg
  have he : R.flush k = R.setD k.toNat (((R.dk k.toNat).flushed fun _ => true).clean) := by rw [Rk.flush, if_pos hg, hgd, h.tick]
  refine ⟨hg, he, ?_⟩
  rw [he]
  exact h.setD (h.failed _) (h.counts _)
theorem Wr.flush {R : Rk} {sure : Nat → Int} {last : Nat → Option Int} (h : Wr R sure last) :
    R.gate 0 0 64 = 0 ∧ (R.flush 0).gate 1 0 64 = 0 ∧ Wr ((R.flush 0).flush 1) (fun q => (last q).getD (sure q)) (fun _ => none) := by
  have h1 := h.calm.flush (k := 0) (by rw [h.n]; omega) (by rw [h.ns]; omega)
  have hn1 := flush_n (R := R) 0
  have h2 := h1.2.2.flush (k := 1) (by rw [hn1.1, h.n]; omega) (by rw [hn1.2, h.ns]; omega)
  have hn2 := flush_n (R := R.flush 0) 1
  refine ⟨h1.1, h2.1, h2.2.2, by rw [hn2.1, hn1.1, h.n], by rw [hn2.2, hn1.2, h.ns], fun j k hj hk => ?_, fun j k hj hk => ?_⟩
  · rw [h2.2.1, h1.2.1]
    have hjj : j = 0 ∨ j = 1 := by omega
    rcases hjj with e | e <;> subst e
    · have hc := h.cached 0 k (by omega) hk
      have hl := h.lasts 0 k (by omega) hk
      simp only [Rk.setD, Dk.flushed, Dk.clean, Int.toNat_zero, show Int.toNat 1 = 1 from rfl, show ¬ (0 : Nat) = 1 by omega, if_false, if_true, hc, hl]
      cases last (0 * 4 + k) <;> rfl
    · have hc := h.cached 1 k (by omega) hk
      have hl := h.lasts 1 k (by omega) hk
      simp only [Rk.setD, Dk.flushed, Dk.clean, Int.toNat_zero, show Int.toNat 1 = 1 from rfl, show ¬ (1 : Nat) = 0 by omega, if_false, if_true, hc, hl]
      cases last (1 * 4 + k) <;> rfl
  · rw [h2.2.1, h1.2.1]
    have hjj : j = 0 ∨ j = 1 := by omega
    rcases hjj with e | e <;> subst e <;> simp [Rk.setD, Dk.clean]
theorem Wr.reads {R : Rk} {sure : Nat → Int} {last : Nat → Option Int} (h : Wr R sure last) (ks : List Int) {i : Nat} (hi : i < 8) :
    (R.restore ks).rd ((i / 4 : Nat) : Int) ((i % 4 : Nat) : Int) = one (if keepB ks (rank R i) = true then (last i).getD (sure i) else sure i) ∧ (R.restore ks).rdErr ((i / 4 : Nat) : Int) ((i % 4 : Nat) : Int) = 0 := by
  have h1 := h.restore ks hi
  have hr : ¬ (((i / 4 : Nat) : Int) < 0 ∨ ((i / 4 : Nat) : Int) ≥ ((R.restore ks).n : Int) ∨ ((i % 4 : Nat) : Int) < 0 ∨ ((i % 4 : Nat) : Int) ≥ ((R.restore ks).ns : Int)) := by
    show ¬ (_ ∨ _ ≥ (R.n : Int) ∨ _ ∨ _ ≥ (R.ns : Int))
    rw [h.n, h.ns]; omega
  have he : (R.restore ks).rdErr ((i / 4 : Nat) : Int) ((i % 4 : Nat) : Int) = 0 := by
    rw [Rk.rdErr, if_neg (by simp [Rk.restore]), if_neg hr, if_neg]
    show ¬ (R.dk _).failed = true
    simp [h.calm.failed]
  refine ⟨?_, he⟩
  rw [← h1.1, Rk.rd, if_pos he, Rk.lst, if_pos h1.2]
  rfl
theorem law02_DeviceLasts_spec (hcv : KeysOk cv) (x : Slc) (xs : List Int) (fl : Int) (y : Slc) (ks : List Int) : wps g (intsP x xs * intsP y ks) (law02_DeviceLasts cv x fl y) (fun b => pr (b = true)) := by
  unfold law02_DeviceLasts
  refine wps_callE (fun _ => law02_alive_spec hcv) fun a => ?_
  refine wps_prP fun ha => ?_
  subst ha
  refine wps_fact (ilen_of (H := intsP x xs * intsP y ks) (s := x) (b := xs) (ent_left _ _)) fun hl => ?_
  refine wps_ite (fun h => absurd h (by decide)) (fun _ => ?_)
  repeat (first
    | (with_reducible refine wps_bindpure ?_)
    | (with_reducible refine wps_assoc ?_)
    | (with_reducible refine wps_nil ?_)
    | (with_reducible refine wps_stepAlloc fun _ => ?_)
    | (with_reducible refine wps_alloc fun _ => ?_)
    | (with_reducible refine wps_newO fun _ => ?_)
    | (refine wps_ld _ (by rfl) ?_)
    | (refine wps_ldG _ _ _ (by rfl) ?_)
    | (refine wps_ldA _ (by rfl) ?_)
    | (refine wps_ldI _ (by rfl) ?_)
    | (refine wps_ldGI _ _ _ (by rfl) ?_)
    | (refine wps_ldAI _ (by rfl) ?_)
    | (refine wps_st (by simp) ?_)
    | (refine wps_stA (by simp) (by simp [Value.oneCell']) ?_)
    | ((with_reducible apply wps_val); apply val_ite; rotate_left; refine fun (_ : ¬ _) => ?_; rotate_right; refine fun (_ : _ = true) => ?_)
    | ((with_reducible apply val_ite); rotate_left; refine fun (_ : ¬ _) => ?_; rotate_right; refine fun (_ : _ = true) => ?_)
    | (with_reducible refine wps_regionH ?_)
    | ((with_reducible apply wps_bindV); apply val_iteL; rotate_left; refine fun (_ : ¬ _) => ?_; rotate_right; refine fun (_ : _ = true) => ?_)
    | ((with_reducible apply val_iteL); rotate_left; refine fun (_ : ¬ _) => ?_; rotate_right; refine fun (_ : _ = true) => ?_)
    | (with_reducible exact wps_pure (ent_val rfl)))
  refine wps_ite (fun _ => wps_pure (ent_prq rfl)) (fun hle => ?_)
  have hle' : xs.length ≤ 200 := by
    by_cases h : (x.len : Int) > 200
    · simp [h] at hle
    · omega
  refine wps_callE (fun _ => device_New_spec 2 4) fun z => ?_
  rw [if_neg (by decide), show Rk.new (Int.toNat 2) (Int.toNat 4) = Rk.new 2 4 from rfl]
  refine wps_exP fun rb => ?_
  simp only [← star_assoc]
  refine wps_prP fun hz => ?_
  subst hz
  unfold rack
  refine wps_exP fun ds => wps_exP fun ps => ?_
  repeat (first
    | (with_reducible refine wps_bindpure ?_)
    | (with_reducible refine wps_assoc ?_)
    | (with_reducible refine wps_nil ?_)
    | (with_reducible refine wps_stepAlloc fun _ => ?_)
    | (with_reducible refine wps_alloc fun _ => ?_)
    | (with_reducible refine wps_newO fun _ => ?_)
    | (refine wps_ld _ (by rfl) ?_)
    | (refine wps_ldG _ _ _ (by rfl) ?_)
    | (refine wps_ldA _ (by rfl) ?_)
    | (refine wps_ldI _ (by rfl) ?_)
    | (refine wps_ldGI _ _ _ (by rfl) ?_)
    | (refine wps_ldAI _ (by rfl) ?_)
    | (refine wps_st (by simp) ?_)
    | (refine wps_stA (by simp) (by simp [Value.oneCell']) ?_)
    | ((with_reducible apply wps_val); apply val_ite; rotate_left; refine fun (_ : ¬ _) => ?_; rotate_right; refine fun (_ : _ = true) => ?_)
    | ((with_reducible apply val_ite); rotate_left; refine fun (_ : ¬ _) => ?_; rotate_right; refine fun (_ : _ = true) => ?_)
    | (with_reducible refine wps_regionH ?_)
    | ((with_reducible apply wps_bindV); apply val_iteL; rotate_left; refine fun (_ : ¬ _) => ?_; rotate_right; refine fun (_ : _ = true) => ?_)
    | ((with_reducible apply val_iteL); rotate_left; refine fun (_ : ¬ _) => ?_; rotate_right; refine fun (_ : _ = true) => ?_)
    | (with_reducible exact wps_pure (ent_val rfl)))
  refine wps_ite (fun h => absurd h (by simp)) (fun _ => ?_)
  repeat (first
    | (with_reducible refine wps_bindpure ?_)
    | (with_reducible refine wps_assoc ?_)
    | (with_reducible refine wps_nil ?_)
    | (with_reducible refine wps_stepAlloc fun _ => ?_)
    | (with_reducible refine wps_alloc fun _ => ?_)
    | (with_reducible refine wps_newO fun _ => ?_)
    | (refine wps_ld _ (by rfl) ?_)
    | (refine wps_ldG _ _ _ (by rfl) ?_)
    | (refine wps_ldA _ (by rfl) ?_)
    | (refine wps_ldI _ (by rfl) ?_)
    | (refine wps_ldGI _ _ _ (by rfl) ?_)
    | (refine wps_ldAI _ (by rfl) ?_)
    | (refine wps_st (by simp) ?_)
    | (refine wps_stA (by simp) (by simp [Value.oneCell']) ?_)
    | ((with_reducible apply wps_val); apply val_ite; rotate_left; refine fun (_ : ¬ _) => ?_; rotate_right; refine fun (_ : _ = true) => ?_)
    | ((with_reducible apply val_ite); rotate_left; refine fun (_ : ¬ _) => ?_; rotate_right; refine fun (_ : _ = true) => ?_)
    | (with_reducible refine wps_regionH ?_)
    | ((with_reducible apply wps_bindV); apply val_iteL; rotate_left; refine fun (_ : ¬ _) => ?_; rotate_right; refine fun (_ : _ = true) => ?_)
    | ((with_reducible apply val_iteL); rotate_left; refine fun (_ : ¬ _) => ?_; rotate_right; refine fun (_ : _ = true) => ?_)
    | (with_reducible exact wps_pure (ent_val rfl)))
  rename_i c9 c10
  refine wps_loop (fun s => ex fun n : Nat => ex fun sure : Nat → Int => ex fun last : Nat → Option Int => ex fun R : Rk => pr (s = (n : Int) ∧ n ≤ xs.length ∧ Wr R sure last) * intsP x xs * intsP y ks * rackP rb R ds ps * pc c9 (eight sure) * pc c10 (eight fun q => (last q).getD (sure q))) (fun s => (xs.length - s).toNat) ?_ fun s => ?_
  · refine ent_ex 0 (ent_ex (fun _ => 0) (ent_ex (fun _ => none) (ent_ex (Rk.new 2 4) ?_)))
    refine ent_pickC (by rfl) (ent_pickC (by rfl) ?_)
    repeat (first
      | (with_reducible exact ent_drop)
      | (with_reducible refine ent_pick ?_)
      | (refine ent_pickC (by rfl) ?_)
      | (refine ent_pickS (by rfl) ?_)
      | (refine ent_pickM (by rfl) ?_)
      | (refine ent_prx ?_ ?_; rotate_left)
      | (refine ent_prq ?_))
    all_goals first | exact ⟨rfl, by omega, Wr.new⟩ | trivial
  · refine wps_ex fun n => wps_ex fun sure => wps_ex fun last => wps_ex fun R => wps_prP fun ⟨hs, hn, hW⟩ => ?_
    refine wps_ite (fun hc => ?_) (fun hc => ?_)
    · have hlt : n < xs.length := by simp only [decide_eq_true_eq] at hc; omega
      refine wps_rdS n xs[n] hs (by simp [zv]) ?_
      obtain ⟨i, hi, e1, e2, e3⟩ := idx7 xs[n]
      rw [e2, e3, e1]
      generalize IntKind.wrap .u8 (w64 (s + 1)) = v
      repeat (first
        | (with_reducible refine wps_bindpure ?_)
        | (with_reducible refine wps_assoc ?_)
        | (with_reducible refine wps_nil ?_)
        | (with_reducible refine wps_stepAlloc fun _ => ?_)
        | (with_reducible refine wps_alloc fun _ => ?_)
        | (with_reducible refine wps_newO fun _ => ?_)
        | (refine wps_ld _ (by rfl) ?_)
        | (refine wps_ldG _ _ _ (by rfl) ?_)
        | (refine wps_ldA _ (by rfl) ?_)
        | (refine wps_ldI _ (by rfl) ?_)
        | (refine wps_ldGI _ _ _ (by rfl) ?_)
        | (refine wps_ldAI _ (by rfl) ?_)
        | (refine wps_st (by simp) ?_)
        | (refine wps_stA (by simp) (by simp [Value.oneCell']) ?_)
        | ((with_reducible apply wps_val); apply val_ite; rotate_left; refine fun (_ : ¬ _) => ?_; rotate_right; refine fun (_ : _ = true) => ?_)
        | ((with_reducible apply val_ite); rotate_left; refine fun (_ : ¬ _) => ?_; rotate_right; refine fun (_ : _ = true) => ?_)
        | (with_reducible refine wps_regionH ?_)
        | ((with_reducible apply wps_bindV); apply val_iteL; rotate_left; refine fun (_ : ¬ _) => ?_; rotate_right; refine fun (_ : _ = true) => ?_)
        | ((with_reducible apply val_iteL); rotate_left; refine fun (_ : ¬ _) => ?_; rotate_right; refine fun (_ : _ = true) => ?_)
        | (with_reducible exact wps_pure (ent_val rfl)))
      rename_i b
      refine wps_idx 0 rfl rfl (by (try dsimp only); omega) ?_
      repeat (first
        | (with_reducible refine wps_bindpure ?_)
        | (with_reducible refine wps_assoc ?_)
        | (with_reducible refine wps_nil ?_)
        | (with_reducible refine wps_stepAlloc fun _ => ?_)
        | (with_reducible refine wps_alloc fun _ => ?_)
        | (with_reducible refine wps_newO fun _ => ?_)
        | (refine wps_ld _ (by rfl) ?_)
        | (refine wps_ldG _ _ _ (by rfl) ?_)
        | (refine wps_ldA _ (by rfl) ?_)
        | (refine wps_ldI _ (by rfl) ?_)
        | (refine wps_ldGI _ _ _ (by rfl) ?_)
        | (refine wps_ldAI _ (by rfl) ?_)
        | (refine wps_st (by simp) ?_)
        | (refine wps_stA (by simp) (by simp [Value.oneCell']) ?_)
        | ((with_reducible apply wps_val); apply val_ite; rotate_left; refine fun (_ : ¬ _) => ?_; rotate_right; refine fun (_ : _ = true) => ?_)
        | ((with_reducible apply val_ite); rotate_left; refine fun (_ : ¬ _) => ?_; rotate_right; refine fun (_ : _ = true) => ?_)
        | (with_reducible refine wps_regionH ?_)
        | ((with_reducible apply wps_bindV); apply val_iteL; rotate_left; refine fun (_ : ¬ _) => ?_; rotate_right; refine fun (_ : _ = true) => ?_)
        | ((with_reducible apply val_iteL); rotate_left; refine fun (_ : ¬ _) => ?_; rotate_right; refine fun (_ : _ = true) => ?_)
        | (with_reducible exact wps_pure (ent_val rfl)))
      refine wps_swap (pc_one (b := b) v) ?_
      have hp := hW.put hi v
      refine wps_call2 (fun _ => device_Rack_Write_spec (H := byt ⟨some ⟨b, 0, none⟩, 64, 64⟩ (one v)) rb R ds ps _ _ _ (one v) (Ent.refl _) (by rw [one_len]; omega)) fun e => ?_
      simp only [← star_assoc]
      refine wps_prP fun he => ?_
      rw [hp.1] at he
      subst he
      refine wps_ite (fun h => absurd h (by decide)) (fun _ => ?_)
      refine wps_idxA i rfl hi ?_
      refine wps_st (by simp [eight]; omega) ?_
      rw [eight_set _ hi]
      have hW1 := hp.2
      obtain ⟨last1, hl1⟩ : ∃ l : Nat → Option Int, l = fun q => if q = i then some v else last q := ⟨_, rfl⟩
      have hcell : (fun q => if q = i then v else (last q).getD (sure q)) = fun q => (last1 q).getD (sure q) := by
        funext q; by_cases hq : q = i <;> simp [hq, hl1]
      rw [hcell]
      rw [← hl1] at hW1
      generalize R.write ((i / 4 : Nat) : Int) ((i % 4 : Nat) : Int) (one v) = R1 at *
      refine wps_ite (fun hf => ?_) (fun hf => ?_)
      · have hfl := hW1.flush
        refine wps_callH (fun _ => device_Rack_Flush_spec rb R1 ds ps 0) fun e => ?_
        simp only [← star_assoc]
        refine wps_prP fun he => ?_
        rw [hfl.1] at he
        subst he
        refine wps_bite (fun h => absurd h (by decide)) (fun _ => ?_)
        refine wps_assoc ?_
        refine wps_callH (fun _ => device_Rack_Flush_spec rb (R1.flush 0) ds ps 1) fun e => ?_
        simp only [← star_assoc]
        refine wps_prP fun he => ?_
        rw [hfl.2.1] at he
        subst he
        refine wps_bindpure ?_
        refine wps_ite (fun h => absurd h (by decide)) (fun _ => ?_)
        have hfl2 := hfl.2.2
        generalize hq : (fun q => (last1 q).getD (sure q)) = lv at *
        refine wps_ldA (lv 0, lv 1, lv 2, lv 3, lv 4, lv 5, lv 6, lv 7) (by rfl) ?_
        refine wps_stA (by simp [eight]) (by simp [Value.oneCell']) (wps_pure ?_)
        refine ent_prr (by rw [range_add1 hs (by omega)]; omega) (ent_ex (n + 1) (ent_ex lv (ent_ex (fun _ => none) (ent_ex ((R1.flush 0).flush 1) ?_))))
        refine ent_pickC (by rfl) (ent_pickC (by rfl) ?_)
        repeat (first
          | (with_reducible exact ent_drop)
          | (with_reducible refine ent_pick ?_)
          | (refine ent_pickC (by rfl) ?_)
          | (refine ent_pickS (by rfl) ?_)
          | (refine ent_pickM (by rfl) ?_)
          | (refine ent_prx ?_ ?_; rotate_left)
          | (refine ent_prq ?_))
        all_goals first | exact ⟨range_add1 hs (by omega), by omega, hfl2⟩ | trivial
      · refine wps_pure ?_
        refine ent_prr (by rw [range_add1 hs (by omega)]; omega) (ent_ex (n + 1) (ent_ex sure (ent_ex last1 (ent_ex R1 ?_))))
        repeat (first
          | (with_reducible exact ent_drop)
          | (with_reducible refine ent_pick ?_)
          | (refine ent_pickC (by rfl) ?_)
          | (refine ent_pickS (by rfl) ?_)
          | (refine ent_pickM (by rfl) ?_)
          | (refine ent_prx ?_ ?_; rotate_left)
          | (refine ent_prq ?_))
        all_goals first | exact ⟨range_add1 hs (by omega), by omega, hW1⟩ | trivial
    · refine wps_mapR ?_
      refine wps_call2 (fun _ => device_Rack_Restore_spec (H := intsP y ks) hcv rb R ds ps y ks (Ent.refl _)) fun _ => ?_
      simp only [← star_assoc]
      refine wps_loop (fun s => ex fun n : Nat => pr (s = (n : Int) ∧ n ≤ 8) * pc c9 (eight sure) * pc c10 (eight fun q => (last q).getD (sure q)) * rackP rb (R.restore ks) ds ps) (fun s => (8 - s).toNat) ?_ fun s => ?_
      · refine ent_ex 0 ?_
        repeat (first
          | (with_reducible exact ent_drop)
          | (with_reducible refine ent_pick ?_)
          | (refine ent_pickC (by rfl) ?_)
          | (refine ent_pickS (by rfl) ?_)
          | (refine ent_pickM (by rfl) ?_)
          | (refine ent_prx ?_ ?_; rotate_left)
          | (refine ent_prq ?_))
        all_goals first | exact ⟨rfl, by omega⟩ | trivial
      · refine wps_ex fun n => wps_prP fun ⟨hs, hn⟩ => ?_
        refine wps_ite (fun hc => ?_) (fun hc => ?_)
        · have hlt : n < 8 := by simp only [decide_eq_true_eq] at hc; omega
          obtain ⟨e2, e3⟩ := idx8 hs hlt
          rw [e2, e3]
          obtain ⟨r1, r2⟩ := hW.reads ks hlt
          refine wps_callH (fun _ => device_Rack_Read_spec rb (R.restore ks) ds ps _ _) fun z => ?_
          rw [r1, r2]
          simp only [← star_assoc]
          refine wps_prP fun hz => ?_
          rw [hz]
          generalize hv : (if keepB ks (rank R n) = true then (last n).getD (sure n) else sure n) = v
          refine wps_fact (Ent.trans (ent_right _ _) (own_len _ _ _)) fun ⟨hl1, _⟩ => ?_
          have hl1' : z.1.len = 64 := by simpa [bv, one] using hl1.symm
          have hgo : ∀ g, wps g (emp * pc c9 (eight sure) * pc c10 (eight fun q => (last q).getD (sure q)) * rackP rb (R.restore ks) ds ps * own 1 z.1 (bv (one v))) (pureM (.inl (w64 (s + 1))) : M (Int ⊕ Bool)) (sumPost (fun s' => pr ((8 - s').toNat < (8 - s).toNat) * ex fun n : Nat => pr (s' = (n : Int) ∧ n ≤ 8) * pc c9 (eight sure) * pc c10 (eight fun q => (last q).getD (sure q)) * rackP rb (R.restore ks) ds ps) fun b => pr (b = true)) := by
            intro g
            refine wps_pure ?_
            refine ent_prr (by rw [range_add1 hs (by omega)]; omega) (ent_ex (n + 1) ?_)
            repeat (first
              | (with_reducible exact ent_drop)
              | (with_reducible refine ent_pick ?_)
              | (refine ent_pickC (by rfl) ?_)
              | (refine ent_pickS (by rfl) ?_)
              | (refine ent_pickM (by rfl) ?_)
              | (refine ent_prx ?_ ?_; rotate_left)
              | (refine ent_prq ?_))
            all_goals first | exact ⟨range_add1 hs (by omega), by omega⟩ | trivial
          refine wps_regionH ?_
          refine wps_ite (fun h => absurd h (by decide)) (fun _ => ?_)
          refine wps_ite (fun h => absurd h (by simp [hl1'])) (fun _ => ?_)
          refine wps_rdI 0 v (Ent.trans (ent_right _ _) (own_rsl _ _ _)) (Ent.refl _) rfl rfl ?_
          refine wps_idxA n hs hlt ?_
          refine wps_ldI (sure n) (eight_get _ hlt) ?_
          refine wps_ite (fun h1 => ?_) (fun _ => hgo _)
          refine wps_rdI 0 v (Ent.trans (ent_right _ _) (own_rsl _ _ _)) (Ent.refl _) rfl rfl ?_
          refine wps_idxA n hs hlt ?_
          refine wps_ldI ((last n).getD (sure n)) (eight_get _ hlt) ?_
          refine wps_ite (fun h2 => ?_) (fun _ => hgo _)
          rw [← hv] at h1 h2
          by_cases hk : keepB ks (rank R n) = true
          · rw [if_pos hk] at h2; simp at h2
          · rw [if_neg hk] at h1; simp at h1
        · exact wps_mapR (wps_pure (ent_prq rfl))
end Go.Proofs.Ytldmeimebebllaa
namespace Go.Proofs.Ytldmeimebebllaa
open Go.Mo
set_option linter.unusedVariables false
variable {g : Fr} {cv : CV}
/-- a rack of one disk of two sectors, armed with N calls, of which i have come -/
structure Pw (R : Rk) (N : Int) (i : Nat) : Prop where
  n : R.n = 1
  ns : R.ns = 2
  failed : (R.dk 0).failed = false
  count : (R.dk 0).count = -1
  on : (i : Int) ≤ N → R.off = false ∧ R.count = N - i
  off : N < i → R.off = true
theorem Pw.new {N : Int} (h : 0 ≤ N) : Pw ((Rk.new 1 2).arm N) N 0 := ⟨rfl, rfl, rfl, rfl, fun _ => ⟨rfl, by show maxI N (-1) = _; rw [maxI, if_neg (by omega)]; simp⟩, fun h' => by omega⟩
theorem Pw.step {R : Rk} {N : Int} {i : Nat} (h : Pw R N i) (hi : i < 1000) (hN : N < 9223372036854775808) {s : Int} (hs : 0 ≤ s ∧ s < 2) :
    R.gate 0 s 64 = (if (i : Int) < N then 0 else 12) ∧ Pw (R.gated 0 s 64) N (i + 1) := by
  have hr : ¬ ((0 : Int) < 0 ∨ (0 : Int) ≥ R.n ∨ s < 0 ∨ s ≥ R.ns) := by rw [h.n, h.ns]; omega
  by_cases h1 : (i : Int) ≤ N
  · obtain ⟨ho, hc⟩ := h.on h1
    have hgd : R.gated 0 s 64 = R.ticked := gated_in ho (by rw [h.n]; omega) (by rw [h.ns]; omega)
    have ho' : ¬ R.off = true := by simp [ho]
    rw [hgd]
    by_cases h2 : (i : Int) = N
    · have hc0 : R.count = 0 := by omega
      refine ⟨?_, ?_⟩
      · rw [Rk.gate, if_neg ho', if_neg hr, if_neg (by omega), if_pos hc0, if_neg (by omega)]
      · rw [Rk.ticked, if_pos hc0]
        exact ⟨h.n, h.ns, h.failed, h.count, fun h' => by omega, fun _ => rfl⟩
    · have hc0 : ¬ R.count = 0 := by omega
      have ht : R.ticked = { R with count := maxI (w64 (R.count - 1)) (-1), dk := fun j => (R.dk j).tick } := by rw [Rk.ticked, if_neg hc0]
      have hd : (R.dk 0).tick = R.dk 0 := tickD h.count
      refine ⟨?_, ?_⟩
      · rw [Rk.gate, if_neg ho', if_neg hr, if_neg (by omega), if_neg hc0, ht]
        show (if ((R.dk 0).tick).failed = true then (13 : Int) else 0) = _
        rw [hd, h.failed, if_neg (by simp), if_pos (by omega)]
      · rw [ht]
        refine ⟨h.n, h.ns, ?_, ?_, fun h' => ⟨ho, ?_⟩, fun h' => by omega⟩
        · show ((R.dk 0).tick).failed = false
          rw [hd, h.failed]
        · show ((R.dk 0).tick).count = -1
          rw [hd, h.count]
        · show maxI (w64 (R.count - 1)) (-1) = _
          rw [hc, w64_id (by omega) (by omega), maxI, if_neg (by omega)]; omega
  · have ho := h.off (by omega)
    refine ⟨?_, ?_⟩
    · rw [Rk.gate, if_pos ho, if_neg (by omega)]
    · rw [Rk.gated, if_pos (.inl ho)]
      exact ⟨h.n, h.ns, h.failed, h.count, fun h' => by omega, fun _ => ho⟩
theorem Pw.write {R : Rk} {N : Int} {i : Nat} (h : Pw R N i) (hi : i < 1000) (hN : N < 9223372036854775808) {s : Int} (hs : 0 ≤ s ∧ s < 2) {b : List Int} (hb : b.length = 64) :
    R.gate 0 s b.length = (if (i : Int) < N then 0 else 12) ∧ Pw (R.write 0 s b) N (i + 1) := by
  have hp := h.step hi hN hs
  rw [hb]
  refine ⟨hp.1, ?_⟩
  rw [Rk.write, hb]
  split
  · obtain ⟨a1, a2, a3, a4, a5, a6⟩ := hp.2
    refine ⟨a1, a2, ?_, ?_, a5, a6⟩
    · exact a3
    · exact a4
  · exact hp.2
theorem Pw.flush {R : Rk} {N : Int} {i : Nat} (h : Pw R N i) (hi : i < 1000) (hN : N < 9223372036854775808) :
    R.gate 0 0 64 = (if (i : Int) < N then 0 else 12) ∧ Pw (R.flush 0) N (i + 1) := by
  have hp := h.step hi hN (s := 0) (by omega)
  refine ⟨hp.1, ?_⟩
  rw [Rk.flush]
  split
  · obtain ⟨a1, a2, a3, a4, a5, a6⟩ := hp.2
    exact ⟨a1, a2, a3, a4, a5, a6⟩
  · exact hp.2
theorem Pw.wrong {R : Rk} {N : Int} {i : Nat} (h : Pw R N i) {b : List Int} : R.gate 0 5 b.length = (if (i : Int) ≤ N then 11 else 12) ∧ R.write 0 5 b = R := by
  have hr : ((0 : Int) < 0 ∨ (0 : Int) ≥ R.n ∨ (5 : Int) < 0 ∨ (5 : Int) ≥ R.ns) := by rw [h.n, h.ns]; omega
  have hgd : R.gated 0 5 b.length = R := by rw [Rk.gated, if_pos (.inr (.inl hr))]
  by_cases h1 : (i : Int) ≤ N
  · obtain ⟨ho, _⟩ := h.on h1
    have hg : R.gate 0 5 b.length = 11 := by rw [Rk.gate, if_neg (by simp [ho]), if_pos hr]
    refine ⟨by rw [hg, if_pos h1], ?_⟩
    rw [Rk.write, if_neg (by rw [hg]; omega), hgd]
  · have ho := h.off (by omega)
    have hg : R.gate 0 5 b.length = 12 := by rw [Rk.gate, if_pos ho]
    refine ⟨by rw [hg, if_neg h1], ?_⟩
    rw [Rk.write, if_neg (by rw [hg]; omega), hgd]
theorem law02_DevicePower_spec (hcv : KeysOk cv) (N : Int) (hN : N < 9223372036854775808) (x : Slc) (xs : List Int) : wps g (intsP x xs) (law02_DevicePower cv N x) (fun b => pr (b = true)) := by
  unfold law02_DevicePower
  refine wps_callE (fun _ => law02_alive_spec hcv) fun a => ?_
  refine wps_prP fun ha => ?_
  subst ha
  refine wps_fact (ilen_of (H := intsP x xs) (s := x) (b := xs) (Ent.refl _)) fun hl => ?_
  refine wps_ite (fun h => absurd h (by decide)) (fun _ => ?_)
  repeat (first
    | (with_reducible refine wps_bindpure ?_)
    | (with_reducible refine wps_assoc ?_)
    | (with_reducible refine wps_nil ?_)
    | (with_reducible refine wps_stepAlloc fun _ => ?_)
    | (with_reducible refine wps_alloc fun _ => ?_)
    | (with_reducible refine wps_newO fun _ => ?_)
    | (refine wps_ld _ (by rfl) ?_)
    | (refine wps_ldG _ _ _ (by rfl) ?_)
    | (refine wps_ldA _ (by rfl) ?_)
    | (refine wps_ldI _ (by rfl) ?_)
    | (refine wps_ldGI _ _ _ (by rfl) ?_)
    | (refine wps_ldAI _ (by rfl) ?_)
    | (refine wps_st (by simp) ?_)
    | (refine wps_stA (by simp) (by simp [Value.oneCell']) ?_)
    | ((with_reducible apply wps_val); apply val_ite; rotate_left; refine fun (_ : ¬ _) => ?_; rotate_right; refine fun (_ : _ = true) => ?_)
    | ((with_reducible apply val_ite); rotate_left; refine fun (_ : ¬ _) => ?_; rotate_right; refine fun (_ : _ = true) => ?_)
    | (with_reducible refine wps_regionH ?_)
    | ((with_reducible apply wps_bindV); apply val_iteL; rotate_left; refine fun (_ : ¬ _) => ?_; rotate_right; refine fun (_ : _ = true) => ?_)
    | ((with_reducible apply val_iteL); rotate_left; refine fun (_ : ¬ _) => ?_; rotate_right; refine fun (_ : _ = true) => ?_)
    | (with_reducible exact wps_pure (ent_val rfl)))
  refine wps_ite (fun _ => wps_pure (ent_prq rfl)) (fun hle => ?_)
  obtain ⟨hle', hN0⟩ : xs.length ≤ 300 ∧ 0 ≤ N := by
    by_cases h : (x.len : Int) > 300
    · simp [h] at hle
    · simp [h] at hle; omega
  refine wps_callE (fun _ => device_New_spec 1 2) fun z => ?_
  rw [if_neg (by decide), show Rk.new (Int.toNat 1) (Int.toNat 2) = Rk.new 1 2 from rfl]
  refine wps_exP fun rb => ?_
  simp only [← star_assoc]
  refine wps_prP fun hz => ?_
  subst hz
  unfold rack
  refine wps_exP fun ds => wps_exP fun ps => ?_
  repeat (first
    | (with_reducible refine wps_bindpure ?_)
    | (with_reducible refine wps_assoc ?_)
    | (with_reducible refine wps_nil ?_)
    | (with_reducible refine wps_stepAlloc fun _ => ?_)
    | (with_reducible refine wps_alloc fun _ => ?_)
    | (with_reducible refine wps_newO fun _ => ?_)
    | (refine wps_ld _ (by rfl) ?_)
    | (refine wps_ldG _ _ _ (by rfl) ?_)
    | (refine wps_ldA _ (by rfl) ?_)
    | (refine wps_ldI _ (by rfl) ?_)
    | (refine wps_ldGI _ _ _ (by rfl) ?_)
    | (refine wps_ldAI _ (by rfl) ?_)
    | (refine wps_st (by simp) ?_)
    | (refine wps_stA (by simp) (by simp [Value.oneCell']) ?_)
    | ((with_reducible apply wps_val); apply val_ite; rotate_left; refine fun (_ : ¬ _) => ?_; rotate_right; refine fun (_ : _ = true) => ?_)
    | ((with_reducible apply val_ite); rotate_left; refine fun (_ : ¬ _) => ?_; rotate_right; refine fun (_ : _ = true) => ?_)
    | (with_reducible refine wps_regionH ?_)
    | ((with_reducible apply wps_bindV); apply val_iteL; rotate_left; refine fun (_ : ¬ _) => ?_; rotate_right; refine fun (_ : _ = true) => ?_)
    | ((with_reducible apply val_iteL); rotate_left; refine fun (_ : ¬ _) => ?_; rotate_right; refine fun (_ : _ = true) => ?_)
    | (with_reducible exact wps_pure (ent_val rfl)))
  refine wps_ite (fun h => absurd h (by simp)) (fun _ => ?_)
  refine wps_callH (fun _ => device_Rack_Arm_spec rb (Rk.new 1 2) ds ps N) fun _ => ?_
  repeat (first
    | (with_reducible refine wps_bindpure ?_)
    | (with_reducible refine wps_assoc ?_)
    | (with_reducible refine wps_nil ?_)
    | (with_reducible refine wps_stepAlloc fun _ => ?_)
    | (with_reducible refine wps_alloc fun _ => ?_)
    | (with_reducible refine wps_newO fun _ => ?_)
    | (refine wps_ld _ (by rfl) ?_)
    | (refine wps_ldG _ _ _ (by rfl) ?_)
    | (refine wps_ldA _ (by rfl) ?_)
    | (refine wps_ldI _ (by rfl) ?_)
    | (refine wps_ldGI _ _ _ (by rfl) ?_)
    | (refine wps_ldAI _ (by rfl) ?_)
    | (refine wps_st (by simp) ?_)
    | (refine wps_stA (by simp) (by simp [Value.oneCell']) ?_)
    | ((with_reducible apply wps_val); apply val_ite; rotate_left; refine fun (_ : ¬ _) => ?_; rotate_right; refine fun (_ : _ = true) => ?_)
    | ((with_reducible apply val_ite); rotate_left; refine fun (_ : ¬ _) => ?_; rotate_right; refine fun (_ : _ = true) => ?_)
    | (with_reducible refine wps_regionH ?_)
    | ((with_reducible apply wps_bindV); apply val_iteL; rotate_left; refine fun (_ : ¬ _) => ?_; rotate_right; refine fun (_ : _ = true) => ?_)
    | ((with_reducible apply val_iteL); rotate_left; refine fun (_ : ¬ _) => ?_; rotate_right; refine fun (_ : _ = true) => ?_)
    | (with_reducible exact wps_pure (ent_val rfl)))
  rename_i c
  refine wps_swap (A := pc c (List.replicate 64 (Value.int .u8 0))) (B := byt ⟨some ⟨c, 0, none⟩, 64, 64⟩ noughts) (Ent.trans (Ent.trans (pc_own (n := 64) (z := 1) (by simp)) (own_rsl _ _ _)) (Ent.of_eq (by rw [byt, bv_noughts]))) ?_
  refine wps_loop (fun s => ex fun n : Nat => ex fun R : Rk => pr (s = (n : Int) ∧ n ≤ xs.length ∧ Pw R N n) * intsP x xs * byt ⟨some ⟨c, 0, none⟩, 64, 64⟩ noughts * rackP rb R ds ps) (fun s => (xs.length - s).toNat) ?_ fun s => ?_
  · refine ent_ex 0 (ent_ex ((Rk.new 1 2).arm N) ?_)
    repeat (first
      | (with_reducible exact ent_drop)
      | (with_reducible refine ent_pick ?_)
      | (refine ent_pickC (by rfl) ?_)
      | (refine ent_pickS (by rfl) ?_)
      | (refine ent_pickM (by rfl) ?_)
      | (refine ent_prx ?_ ?_; rotate_left)
      | (refine ent_prq ?_))
    all_goals first | exact ⟨rfl, by omega, Pw.new hN0⟩ | trivial
  · refine wps_ex fun n => wps_ex fun R => wps_prP fun ⟨hs, hn, hP⟩ => ?_
    refine wps_ite (fun hc => ?_) (fun hc => ?_)
    · have hlt : n < xs.length := by simp only [decide_eq_true_eq] at hc; omega
      refine wps_rdS n xs[n] hs (by simp [zv]) ?_
      generalize bAnd .i64 xs[n] 3 = q
      refine wps_bindS (R := fun e => ex fun R' : Rk => pr (e = (if (n : Int) < N then 0 else 12) ∧ Pw R' N (n + 1)) * intsP x xs * byt ⟨some ⟨c, 0, none⟩, 64, 64⟩ noughts * rackP rb R' ds ps) ?_ fun e => ?_
      · have hfin : ∀ (e : Int) (R' : Rk), (e = (if (n : Int) < N then 0 else 12) ∧ Pw R' N (n + 1)) → Ent (emp * intsP x xs * byt ⟨some ⟨c, 0, none⟩, 64, 64⟩ noughts * rackP rb R' ds ps) (ex fun R' : Rk => pr (e = (if (n : Int) < N then 0 else 12) ∧ Pw R' N (n + 1)) * intsP x xs * byt ⟨some ⟨c, 0, none⟩, 64, 64⟩ noughts * rackP rb R' ds ps) := by
          intro e R' he
          refine ent_ex R' ?_
          repeat (first
            | (with_reducible exact ent_drop)
            | (with_reducible refine ent_pick ?_)
            | (refine ent_pickC (by rfl) ?_)
            | (refine ent_pickS (by rfl) ?_)
            | (refine ent_pickM (by rfl) ?_)
            | (refine ent_prx ?_ ?_; rotate_left)
            | (refine ent_prq ?_))
          all_goals first | exact he | trivial
        have hwr : ∀ g (s : Int), 0 ≤ s ∧ s < 2 → ∀ k : Int → M (Int ⊕ (Int ⊕ Bool)), (∀ e, k e = pureM (.inl e)) → wps g (emp * intsP x xs * byt ⟨some ⟨c, 0, none⟩, 64, 64⟩ noughts * rackP rb R ds ps) (bindM (device_Rack_Write (ptr rb) 0 s ⟨some ⟨c, 0, none⟩, 64, 64⟩) k)
            (sumPost (fun e => ex fun R' : Rk => pr (e = (if (n : Int) < N then 0 else 12) ∧ Pw R' N (n + 1)) * intsP x xs * byt ⟨some ⟨c, 0, none⟩, 64, 64⟩ noughts * rackP rb R' ds ps) (sumPost (fun s' => pr ((xs.length - s').toNat < (xs.length - (n : Int)).toNat) * ex fun n : Nat => ex fun R : Rk => pr (s' = (n : Int) ∧ n ≤ xs.length ∧ Pw R N n) * intsP x xs * byt ⟨some ⟨c, 0, none⟩, 64, 64⟩ noughts * rackP rb R ds ps) fun b => pr (b = true))) := by
          intro g s hs k hk
          have hw := hP.write (by omega) hN hs (b := noughts) (by decide)
          refine wps_call2 (fun _ => device_Rack_Write_spec (H := byt ⟨some ⟨c, 0, none⟩, 64, 64⟩ noughts) rb R ds ps 0 s _ noughts (Ent.refl _) (by decide)) fun e => ?_
          simp only [← star_assoc]
          refine wps_prP fun he => ?_
          rw [hw.1] at he
          rw [hk]
          exact wps_pure (hfin _ _ ⟨he, hw.2⟩)
        subst hs
        refine wps_ite (fun h0 => ?_) (fun h0 => ?_)
        · have hf := hP.flush (by omega) hN
          refine wps_callH (fun _ => device_Rack_Flush_spec rb R ds ps 0) fun e => ?_
          simp only [← star_assoc]
          refine wps_prP fun he => ?_
          rw [hf.1] at he
          exact wps_pure (hfin _ _ ⟨he, hf.2⟩)
        · refine wps_ite (fun h1 => ?_) (fun h1 => ?_)
          · have hw := hP.wrong (b := noughts)
            refine wps_call2 (fun _ => device_Rack_Write_spec (H := byt ⟨some ⟨c, 0, none⟩, 64, 64⟩ noughts) rb R ds ps 0 5 _ noughts (Ent.refl _) (by decide)) fun e => ?_
            simp only [← star_assoc]
            refine wps_prP fun he => ?_
            rw [hw.1] at he
            rw [hw.2]
            refine wps_val (v := false) ?_ ?_
            · refine wps_ite (fun h => wps_pure (ent_val ?_)) (fun h => wps_pure (ent_val rfl))
              by_cases h2 : (n : Int) ≤ N
              · rw [if_pos h2] at he; subst he; simp at h
              · simp; omega
            · exact wps_ite (fun h => absurd h (by simp)) (fun _ => hwr _ 1 (by omega) _ fun _ => rfl)
          · exact hwr _ 0 (by omega) _ fun _ => rfl
      · refine wps_ex fun R' => wps_prP fun ⟨he, hP'⟩ => ?_
        refine wps_ite (fun h => ?_) (fun h => wps_pure ?_)
        · exfalso
          rw [he, hs] at h
          by_cases h2 : (n : Int) < N
          · have : ¬ (n : Int) ≥ N := by omega
            simp [h2, this] at h
          · have : (n : Int) ≥ N := by omega
            simp [h2, this] at h
        · refine ent_prr (by rw [range_add1 hs (by omega)]; omega) (ent_ex (n + 1) (ent_ex R' ?_))
          repeat (first
            | (with_reducible exact ent_drop)
            | (with_reducible refine ent_pick ?_)
            | (refine ent_pickC (by rfl) ?_)
            | (refine ent_pickS (by rfl) ?_)
            | (refine ent_pickM (by rfl) ?_)
            | (refine ent_prx ?_ ?_; rotate_left)
            | (refine ent_prq ?_))
          all_goals first | exact ⟨range_add1 hs (by omega), by omega, hP'⟩ | trivial
    · have hne : n = xs.length := by simp only [decide_eq_true_eq] at hc; omega
      refine wps_mapR ?_
      refine wps_callH (fun _ => device_Rack_Read_spec rb R ds ps 0 0) fun z => ?_
      simp only [← star_assoc]
      refine wps_prP fun hz => ?_
      refine wps_pure (ent_prq ?_)
      have hr : ¬ ((0 : Int) < 0 ∨ (0 : Int) ≥ R.n ∨ (0 : Int) < 0 ∨ (0 : Int) ≥ R.ns) := by rw [hP.n, hP.ns]; omega
      rw [hz]
      by_cases h1 : (n : Int) ≤ N
      · have : ¬ (x.len : Int) > N := by omega
        obtain ⟨ho, _⟩ := hP.on h1
        rw [Rk.rdErr, if_neg (by simp [ho]), if_neg hr, if_neg (by show ¬ (R.dk 0).failed = true; simp [hP.failed])]
        simp [this]
      · have : (x.len : Int) > N := by omega
        rw [Rk.rdErr, if_pos (hP.off (by omega))]
        simp [this]
end Go.Proofs.Ytldmeimebebllaa
namespace Go.Mo
open Go.RowKit
set_option linter.unusedVariables false

/-! ## The whole world, read only -/
def full (W : World) : Hp := fun i => (W.heap[i]?).map fun ob => (ob, true)
def fullF (W : World) : Fr := ⟨full W, W.os, W.output⟩
theorem full_own (W : World) : Own W (full W) (fullF W) := by
  have hok : Hp.ok (full W) W := fun x ob r h => by
    simp only [full, Option.map_eq_some_iff, Prod.mk.injEq] at h
    obtain ⟨ob', h, rfl, _⟩ := h
    exact h
  refine ⟨fun x => ?_, hok, hok, rfl, rfl⟩
  cases h : full W x with
  | none => exact .inl rfl
  | some p =>
    obtain ⟨ob, r⟩ := p
    right; right
    simp only [full, Option.map_eq_some_iff, Prod.mk.injEq] at h
    obtain ⟨ob', h, rfl, rfl⟩ := h
    exact ⟨ob', rfl, by simp [fullF, full, h]⟩
structure Kept (W w' : World) : Prop where
  frame : W.keptBut w' (fun _ => False)
  block : ∀ (i : Nat) ob, W.heap[i]? = some ob → w'.heap[i]? = some ob
theorem kept_of_own {W w' : World} {a : Hp} (h : Own w' a (fullF W)) : Kept W w' := by
  have hh : ∀ (i : Nat) ob, W.heap[i]? = some ob → w'.heap[i]? = some ob := fun i ob hi => h.2.2.1 i ob true (by simp [fullF, full, hi])
  refine ⟨⟨h.2.2.2.os, h.2.2.2.out, fun i hi => ?_⟩, hh⟩
  rw [hh i _ (Array.getElem?_eq_getElem hi), Array.getElem?_eq_getElem hi]
  cases W.heap[i] with
  | cells c t fr => exact ⟨rfl, rfl, rfl, fun _ _ => rfl⟩
  | map es clock => exact .inr ⟨rfl, rfl⟩
  | _ => rfl
theorem Kept.same {W w' : World} (h : Kept W w') {b : Nat} (hb : b < W.heap.size) : w'.heap[b]? = W.heap[b]? :=
  (h.block b _ (Array.getElem?_eq_getElem hb)).trans (Array.getElem?_eq_getElem hb).symm
open Go.ChangeShapes Go.WideShapes in
theorem post_of_kept {H : Type} {enc : TypeId × Value → H} {P : Program} {f : Func} {s : ChangeSpec} {apart fresh handsOn again : Bool} {W W' : World} {args : Array Value} {v : Value} {ds gs : List (DataW H)} {before pa pv : List MemPlace}
    (hW : DataW.Whole enc P f.params.toList s.vars apart W args.toList ds gs before)
    (hres : ∀ (b : Nat) (sp : Nat → Bool) (hd : Bool), DataW.TrodAll enc P W' b sp hd f.resultTypes.toList (v.resultList f.resultTypes.size) (s.fn H (ds ++ gs)).results [])
    (hargs : ∀ sp : Nat → Bool, (∀ p ∈ before, sp p.block = true) → DataW.TrodAll enc P W' 0 sp true f.params.toList args.toList (s.fn H (ds ++ gs)).args pa)
    (hvars : ∀ sp : Nat → Bool, (∀ p ∈ before, sp p.block = true) → DataW.TrodVars enc P W' sp s.vars (s.fn H (ds ++ gs)).vars pv)
    (hps : before = pa ++ pv) (hk : Kept W W')
    (hok : ∀ (j : Nat) (t : TypeId) (r : Value), f.resultTypes[j]? = some t → (v.resultList f.resultTypes.size)[j]? = some r → Value.okWide P W' .any 0 t r) :
    s.post enc P f apart fresh handsOn again W args v W' := by
  have hold : ∀ p ∈ before, (fun b => decide (b < W.heap.size)) p.block = true := fun p hp => by simpa using hW.lt p hp
  refine ⟨ds, gs, before, [], pa, pv, hW, hres _ _ _, hargs _ hold, hvars _ hold, World.keptBut_mono (fun p hp => hp.elim) hk.frame, fun _ => ?_⟩
  have hlt := hW.lt
  obtain ⟨_, _, _, _, _, hz, hn⟩ := hW
  refine ⟨hok, _, _, ([] ++ pa) ++ pv, ⟨[] ++ pa, pv, trodAll_append (hargs _ (fun _ _ => rfl)) (hres _ _ _), hvars _ (fun _ _ => rfl), rfl, ?_, ?_⟩, ?_⟩
  · intro b off hp
    have hp' : MemPlace.cell b off ∈ before := by rw [hps]; simpa using hp
    have hb : b < W.heap.size := hlt _ hp'
    have := hz b off hp'
    unfold World.frozen? at this ⊢
    rw [show W'.heap[(⟨b, off, none⟩ : Addr).block]? = W.heap[(⟨b, off, none⟩ : Addr).block]? from hk.same hb]
    exact this
  · intro ha
    have := hn ha
    rw [hps] at this
    simpa using this
  · intro p hp _
    rw [hps]
    simpa using hp
theorem wps_run {m : M Bool} {H : HP} (h : ∀ g, wps g H m fun b => pr (b = true)) (W : World) (hH : H.p (full W)) : m (fun b w' => b = true ∧ Kept W w') W :=
  h (fullF W) W (full W) _ (full_own W) hH fun x w' a' ho hb => ⟨hb, kept_of_own ho⟩
theorem calls_law {P : Program} {f : FuncId} {args : Array Value} {W : World} (h : Calls P f args W (RetPost Value.bool fun b w' => b = true ∧ Kept W w')) : Calls P f args W fun e w' => e = .returned (.bool true) ∧ Kept W w' :=
  h.mono fun e w' he => by
    cases e with
    | returned v =>
      obtain ⟨b, rfl, rfl, hg⟩ := he
      exact ⟨rfl, hg⟩
    | panicked c => exact he.elim
    | outgrown => exact he.elim

/-! ## The arguments read as they did -/
theorem trodAll_carry {H : Type} {enc : TypeId × Value → H} {P : Program} {w w' : World} {base : Nat} {spare : Nat → Bool} {held : Bool} : ∀ {ts : List TypeId} {vs : List Value} {ds : List (DataW H)} {ps : List MemPlace},
    DataW.TrodAll enc P w base spare held ts vs ds ps → (∀ p ∈ ps, w.sameAt w' p) → DataW.TrodAll enc P w' base spare held ts vs ds ps
  | [], [], [], _, h, _ => h
  | _ :: _, _ :: _, _ :: _, _, ⟨p, q, ⟨n, h1⟩, h2, e⟩, hs => ⟨p, q, ⟨n, DataW.trod_carry n _ _ _ h1 fun x hx => hs x (by rw [e]; exact List.mem_append_left _ hx)⟩,
      trodAll_carry h2 (fun x hx => hs x (by rw [e]; exact List.mem_append_right _ hx)), e⟩
theorem args_again {H : Type} {enc : TypeId × Value → H} {P : Program} {W W' : World} (hg : Kept W W') (kids : Kids P (· < P.types.size)) (fulls : ∀ t e, t < P.types.size → P.underlying t = some (.slice e) → 0 < P.cellsOf e)
    {ts : List TypeId} (hts : ∀ t ∈ ts, t < P.types.size) {vs : List Value} {ds : List (DataW H)} {ps : List MemPlace} (h : DataW.TrodAll enc P W 0 (fun _ => true) true ts vs ds ps) {sp : Nat → Bool} (hs : ∀ p ∈ ps, sp p.block = true) (hlt : ∀ p ∈ ps, p.block < W.heap.size) :
    DataW.TrodAll enc P W' 0 sp true ts vs ds ps :=
  trodAll_carry (DataW.TrodAll.respare kids fulls hts h hs) fun p hp => by
    have hb := hlt p hp
    have he := hg.same hb
    cases p with
    | cell b o => simp only [World.sameAt, World.cell?]; rw [show W'.heap[b]? = W.heap[b]? from he]
    | map b => exact he
end Go.Mo
namespace Go.Proofs.Ytldmeimebebllaa
open Go.Mo
set_option linter.unusedVariables false
/-- a row of cells of the world, as a slice that is read -/
theorem rsl_full {W : World} {a : Addr} {len cap : Nat} {cs : List Value} (hl : len ≤ cap) (hz : cs.length = len) (hc : ∀ i, i < len → W.cell? (a.add i) = cs[i]?) : (rsl 1 ⟨some a, len, cap⟩ cs).p (full W) := by
  by_cases h0 : len = 0
  · left
    exact ⟨h0, List.eq_nil_of_length_eq_zero (by omega)⟩
  · right
    have hc0 := hc 0 (by omega)
    have ha0 : a.add 0 = a := by simp [Addr.add]
    rw [ha0, List.getElem?_eq_getElem (by omega)] at hc0
    have hsp := World.cell?_spot hc0
    obtain ⟨b, off, sp⟩ := a
    simp only at hsp
    subst hsp
    unfold World.cell? at hc0
    cases hb : W.heap[b]? with
    | none => simp [hb] at hc0
    | some ob =>
      cases ob with
      | cells c e f =>
        refine ⟨⟨b, off, none⟩, c.toList, ent_prr (A := ro b c.toList) (B := ro b c.toList) ⟨rfl, by simpa using hz, hl, ?_⟩ (Ent.refl _) _ ⟨e, f, true, by simp [full, hb]⟩⟩
        apply List.ext_getElem?
        intro i
        simp only [Nat.mul_one]
        rw [List.getElem?_take]
        by_cases hi : i < len
        · rw [if_pos hi, List.getElem?_drop, ← hc i hi, Addr.add_mk]
          simp [World.cell?, hb]
        · rw [if_neg hi, List.getElem?_eq_none (by omega)]
      | _ => simp [hb] at hc0
theorem byt_full {W : World} {a : Addr} {len cap : Nat} {zs : List Int} (hl : len ≤ cap) (hz : zs.length = cap) (hc : ∀ i, i < zs.length → W.cell? (a.add i) = some (.int .u8 (zs.getD i 0))) : (byt ⟨some a, len, cap⟩ (zs.take len)).p (full W) := by
  refine rsl_full hl (by simp [bv]; omega) fun i hi => ?_
  rw [hc i (by omega), bv, List.getElem?_map, List.getElem?_take, if_pos hi, List.getElem?_eq_getElem (by omega)]
  simp [List.getD_eq_getElem?_getD, List.getElem?_eq_getElem (show i < zs.length by omega)]
theorem byt_full_nil (W : World) : (byt ⟨none, 0, 0⟩ []).p (full W) := .inl ⟨rfl, rfl⟩
end Go.Proofs.Ytldmeimebebllaa
namespace Go.Proofs.Ytldmeimebebllaa
open Go.Mo
set_option linter.unusedVariables false
theorem ints_full {W : World} {a : Addr} {len cap : Nat} {zs : List Int} (hl : len ≤ cap) (hz : zs.length = cap) (hc : ∀ i, i < zs.length → W.cell? (a.add i) = some (.int .i64 (zs.getD i 0))) : (intsP ⟨some a, len, cap⟩ (zs.take len)).p (full W) := by
  refine rsl_full hl (by simp [zv]; omega) fun i hi => ?_
  rw [hc i (by omega), zv, List.getElem?_map, List.getElem?_take, if_pos hi, List.getElem?_eq_getElem (by omega)]
  simp [List.getD_eq_getElem?_getD, List.getElem?_eq_getElem (show i < zs.length by omega)]
theorem wf_i64 {n : Int} (h : (Lit.int .i64 n).wf = true) : -9223372036854775808 ≤ n ∧ n < 9223372036854775808 := by
  simp only [Lit.wf, Bool.and_eq_true, decide_eq_true_eq] at h
  have h1 : IntKind.i64.min = -9223372036854775808 := rfl
  have h2 : IntKind.i64.max = 9223372036854775807 := rfl
  omega
theorem wf_u8 {n : Int} (h : (Lit.int .u8 n).wf = true) : 0 ≤ n ∧ n < 256 := by
  simp only [Lit.wf, Bool.and_eq_true, decide_eq_true_eq] at h
  have h1 : IntKind.u8.min = 0 := rfl
  have h2 : IntKind.u8.max = 255 := rfl
  omega
theorem ints_full_nil (W : World) : (intsP ⟨none, 0, 0⟩ []).p (full W) := .inl ⟨rfl, rfl⟩
theorem full_both {W : World} {A B : HP} (ha : A.p (full W)) (hb : B.p (full W)) : (A * B).p (full W) := by
  refine ⟨full W, full W, fun x => ?_, ?_, ha, hb⟩
  · cases h : full W x with
    | none => exact .inl rfl
    | some p =>
      right; right
      simp only [full, Option.map_eq_some_iff] at h
      obtain ⟨ob, _, rfl⟩ := h
      exact ⟨ob, rfl, rfl⟩
  · rw [Hp.un_self]; exact Hp.le_refl _
end Go.Proofs.Ytldmeimebebllaa
