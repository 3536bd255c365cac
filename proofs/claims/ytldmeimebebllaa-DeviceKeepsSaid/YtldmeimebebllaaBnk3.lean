/-
  a part of the proof: what functions of the program do, in a separation logic.
-/
import Derived.Test.YtldmeimebebllaaUse1
namespace Go.Proofs.Ytldmeimebebllaa
open Go.Mo
set_option linter.unusedVariables false
variable {g : Fr} {cv : CV}
def everyL (s : Int) (b : List Int) : List Int → Rk → Int → Rk × Int
  | [], R, wr => (R, wr)
  | d :: ds, R, wr => if R.gate d s b.length = 12 then (R.write d s b, 12) else everyL s b ds (R.write d s b) (if R.gate d s b.length = 11 then 11 else wr)
theorem drop_cons {xs : List Int} {i : Nat} {x : Int} (h : xs[i]? = some x) : xs.drop i = x :: xs.drop (i + 1) := by
  obtain ⟨hlt, he⟩ := List.getElem?_eq_some_iff.1 h
  rw [List.drop_eq_getElem_cons hlt, he]
theorem bank_Everywhere_spec (hcv : DisksOk cv) {H : HP} (bb rb : Nat) (q m : G3) (hq : q.1 ≤ 16) (R : Rk) (ds : Slc) (ps : List Nat) (s : Int) (x : Slc) (b : List Int) (hx : Ent H (byt x b)) (hb : b.length ≤ 1099511627776) :
    wps g (H * bnk bb rb q m * rackP rb R ds ps) (bank_Bank_Everywhere cv (ptr bb) s x) (fun e =>
      pr (e = (everyL s b (disksL q m) R 0).2) * H * bnk bb rb q m * rackP rb (everyL s b (disksL q m) R 0).1 ds ps) := by
  unfold bank_Bank_Everywhere
  repeat (first
    | (with_reducible refine wps_bindpure ?_)
    | (with_reducible refine wps_assoc ?_)
    | (with_reducible refine wps_nil ?_)
    | (with_reducible refine wps_stepAlloc fun _ => ?_)
    | (with_reducible refine wps_alloc fun _ => ?_)
    | (with_reducible refine wps_newO fun _ => ?_)
    | (refine wps_ld _ (by rfl) ?_)
    | (refine wps_ldG _ _ _ (by rfl) ?_)
    | (refine wps_ldA _ (by rfl) ?_)
    | (refine wps_ldI _ (by rfl) ?_)
    | (refine wps_ldGI _ _ _ (by rfl) ?_)
    | (refine wps_ldAI _ (by rfl) ?_)
    | (refine wps_st (by simp) ?_)
    | (refine wps_stA (by simp) (by simp [Value.oneCell']) ?_)
    | ((with_reducible apply wps_val); apply val_ite; rotate_left; refine fun (_ : ¬ _) => ?_; rotate_right; refine fun (_ : _ = true) => ?_)
    | ((with_reducible apply val_ite); rotate_left; refine fun (_ : ¬ _) => ?_; rotate_right; refine fun (_ : _ = true) => ?_)
    | (with_reducible refine wps_regionH ?_)
    | ((with_reducible apply wps_bindV); apply val_iteL; rotate_left; refine fun (_ : ¬ _) => ?_; rotate_right; refine fun (_ : _ = true) => ?_)
    | ((with_reducible apply val_iteL); rotate_left; refine fun (_ : ¬ _) => ?_; rotate_right; refine fun (_ : _ = true) => ?_)
    | (with_reducible exact wps_pure (ent_val rfl)))
  rename_i x3 x4 x5 x6 x7
  refine wps_rangeF (F := emp)
    (fun i => ex fun R' : Rk => ex fun wr : Int => pr (everyL s b (disksL q m) R 0 = everyL s b ((disksL q m).drop i) R' wr) * H * rackP rb R' ds ps * pc x3 [.pointer (ptr bb)] * pc x4 [.int .i64 s] * pc x5 [vS x] * pc x6 [.int .i64 0] * pc x7 [.int .i64 wr])
    (fun j => match j with | .ret => ex fun R' : Rk => pr (everyL s b (disksL q m) R 0 = (R', 12)) * H * rackP rb R' ds ps * pc x6 [.int .i64 12] | .exit _ => pr False)
    (fun i d t => pr (t = d) * (bnk bb rb q m * ex fun R' : Rk => ex fun wr : Int => pr (everyL s b (disksL q m) R 0 = everyL s b ((disksL q m).drop i) R' wr) * H * rackP rb R' ds ps * pc x3 [.pointer (ptr bb)] * pc x4 [.int .i64 s] * pc x5 [vS x] * pc x6 [.int .i64 0] * pc x7 [.int .i64 wr]))
    (disks_iter hcv bb rb q m hq) ?_ ?_ ?_ ?_ ?_ ?_
  · rw [emp_star]
    refine Ent.trans ?_ (Ent.starr (ent_ex R (ent_ex 0 (Ent.refl _))))
    simp only [← star_assoc]
    exact ent_pickC (by rfl) (ent_pickC (by rfl) (ent_pickC (by rfl) (ent_pick (ent_pick (ent_pick (ent_pick (ent_prx rfl ent_drop)))))))
  · intro i d hd g
    exact wps_pure (ent_prr rfl (Ent.refl _))
  · intro i d hd t g
    refine wps_pr fun ht => ?_
    subst ht
    refine wps_exP fun R' => ?_
    refine wps_exP fun wr => ?_
    simp only [← star_assoc]
    refine wps_prP fun hR => ?_
    rw [drop_cons hd, everyL] at hR
    refine wps_region (bnk bb rb q m * pc x3 [.pointer (ptr bb)] * pc x4 [.int .i64 s] * pc x5 [vS x]) (ent_pick (ent_pick (ent_pick ent_drop))) ?_
    repeat (first
      | (with_reducible refine wps_bindpure ?_)
      | (with_reducible refine wps_assoc ?_)
      | (with_reducible refine wps_nil ?_)
      | (with_reducible refine wps_stepAlloc fun _ => ?_)
      | (with_reducible refine wps_alloc fun _ => ?_)
      | (with_reducible refine wps_newO fun _ => ?_)
      | (refine wps_ld _ (by rfl) ?_)
      | (refine wps_ldG _ _ _ (by rfl) ?_)
      | (refine wps_ldA _ (by rfl) ?_)
      | (refine wps_ldI _ (by rfl) ?_)
      | (refine wps_ldGI _ _ _ (by rfl) ?_)
      | (refine wps_ldAI _ (by rfl) ?_)
      | (refine wps_st (by simp) ?_)
      | (refine wps_stA (by simp) (by simp [Value.oneCell']) ?_)
      | ((with_reducible apply wps_val); apply val_ite; rotate_left; refine fun (_ : ¬ _) => ?_; rotate_right; refine fun (_ : _ = true) => ?_)
      | ((with_reducible apply val_ite); rotate_left; refine fun (_ : ¬ _) => ?_; rotate_right; refine fun (_ : _ = true) => ?_)
      | (with_reducible refine wps_regionH ?_)
      | ((with_reducible apply wps_bindV); apply val_iteL; rotate_left; refine fun (_ : ¬ _) => ?_; rotate_right; refine fun (_ : _ = true) => ?_)
      | ((with_reducible apply val_iteL); rotate_left; refine fun (_ : ¬ _) => ?_; rotate_right; refine fun (_ : _ = true) => ?_)
      | (with_reducible exact wps_pure (ent_val rfl)))
    refine wps_stepC (F := bnk bb rb q m * pc x3 [.pointer (ptr bb)] * pc x4 [.int .i64 s] * pc x5 [vS x] * pc x6 [.int .i64 0] * pc x7 [.int .i64 wr]) (A := H * rackP rb R' ds ps) (fun _ => device_Rack_Write_spec rb R' ds ps t s x b hx hb) ?_ ent_drop fun e => ?_
    · rw [← star_assoc]
      exact ent_pick (ent_pick (ent_pick (ent_pick (ent_pick (ent_pick (ent_pick (Ent.refl _)))))))
    · simp only [← star_assoc]
      refine wps_prP fun he => ?_
      subst he
      refine wps_ite (fun h12 => ?_) (fun h12 => ?_)
      · have h12' : R'.gate t s b.length = 12 := by simpa using h12
        rw [if_pos h12'] at hR
        repeat (first
          | (with_reducible refine wps_bindpure ?_)
          | (with_reducible refine wps_assoc ?_)
          | (with_reducible refine wps_nil ?_)
          | (with_reducible refine wps_stepAlloc fun _ => ?_)
          | (with_reducible refine wps_alloc fun _ => ?_)
          | (with_reducible refine wps_newO fun _ => ?_)
          | (refine wps_ld _ (by rfl) ?_)
          | (refine wps_ldG _ _ _ (by rfl) ?_)
          | (refine wps_ldA _ (by rfl) ?_)
          | (refine wps_ldI _ (by rfl) ?_)
          | (refine wps_ldGI _ _ _ (by rfl) ?_)
          | (refine wps_ldAI _ (by rfl) ?_)
          | (refine wps_st (by simp) ?_)
          | (refine wps_stA (by simp) (by simp [Value.oneCell']) ?_)
          | ((with_reducible apply wps_val); apply val_ite; rotate_left; refine fun (_ : ¬ _) => ?_; rotate_right; refine fun (_ : _ = true) => ?_)
          | ((with_reducible apply val_ite); rotate_left; refine fun (_ : ¬ _) => ?_; rotate_right; refine fun (_ : _ = true) => ?_)
          | (with_reducible refine wps_regionH ?_)
          | ((with_reducible apply wps_bindV); apply val_iteL; rotate_left; refine fun (_ : ¬ _) => ?_; rotate_right; refine fun (_ : _ = true) => ?_)
          | ((with_reducible apply val_iteL); rotate_left; refine fun (_ : ¬ _) => ?_; rotate_right; refine fun (_ : _ = true) => ?_)
          | (with_reducible exact wps_pure (ent_val rfl)))
        refine wps_pure ?_
        refine Ent.trans ?_ (Ent.starr (ent_ex (R'.write t s b) (Ent.refl _)))
        simp only [← star_assoc]
        exact ent_pickC (by rw [h12']; rfl) (ent_pick (ent_pick (ent_prx hR ent_drop)))
      · have h12' : ¬ R'.gate t s b.length = 12 := by simpa using h12
        rw [if_neg h12'] at hR
        refine wps_ite (fun h11 => ?_) (fun h11 => ?_)
        · have h11' : R'.gate t s b.length = 11 := by simpa using h11
          rw [if_pos h11'] at hR
          repeat (first
            | (with_reducible refine wps_bindpure ?_)
            | (with_reducible refine wps_assoc ?_)
            | (with_reducible refine wps_nil ?_)
            | (with_reducible refine wps_stepAlloc fun _ => ?_)
            | (with_reducible refine wps_alloc fun _ => ?_)
            | (with_reducible refine wps_newO fun _ => ?_)
            | (refine wps_ld _ (by rfl) ?_)
            | (refine wps_ldG _ _ _ (by rfl) ?_)
            | (refine wps_ldA _ (by rfl) ?_)
            | (refine wps_ldI _ (by rfl) ?_)
            | (refine wps_ldGI _ _ _ (by rfl) ?_)
            | (refine wps_ldAI _ (by rfl) ?_)
            | (refine wps_st (by simp) ?_)
            | (refine wps_stA (by simp) (by simp [Value.oneCell']) ?_)
            | ((with_reducible apply wps_val); apply val_ite; rotate_left; refine fun (_ : ¬ _) => ?_; rotate_right; refine fun (_ : _ = true) => ?_)
            | ((with_reducible apply val_ite); rotate_left; refine fun (_ : ¬ _) => ?_; rotate_right; refine fun (_ : _ = true) => ?_)
            | (with_reducible refine wps_regionH ?_)
            | ((with_reducible apply wps_bindV); apply val_iteL; rotate_left; refine fun (_ : ¬ _) => ?_; rotate_right; refine fun (_ : _ = true) => ?_)
            | ((with_reducible apply val_iteL); rotate_left; refine fun (_ : ¬ _) => ?_; rotate_right; refine fun (_ : _ = true) => ?_)
            | (with_reducible exact wps_pure (ent_val rfl)))
          refine wps_pure ?_
          refine Ent.trans ?_ (Ent.starr (ent_ex (R'.write t s b) (ent_ex 11 (Ent.refl _))))
          simp only [← star_assoc]
          exact ent_pickC (by rw [h11']; rfl) (ent_pick (ent_pick (ent_pick (ent_pick (ent_pick (ent_pick (ent_prx hR ent_drop)))))))
        · have h11' : ¬ R'.gate t s b.length = 11 := by simpa using h11
          rw [if_neg h11'] at hR
          refine wps_pure ?_
          refine Ent.trans ?_ (Ent.starr (ent_ex (R'.write t s b) (ent_ex wr (Ent.refl _))))
          simp only [← star_assoc]
          exact ent_pick (ent_pick (ent_pick (ent_pick (ent_pick (ent_pick (ent_pick (ent_prx hR ent_drop)))))))
  · intro D
    refine wps_exP fun R' => wps_exP fun wr => ?_
    simp only [← star_assoc]
    refine wps_prP fun hR => ?_
    rw [List.drop_length, everyL] at hR
    repeat (first
      | (with_reducible refine wps_bindpure ?_)
      | (with_reducible refine wps_assoc ?_)
      | (with_reducible refine wps_nil ?_)
      | (with_reducible refine wps_stepAlloc fun _ => ?_)
      | (with_reducible refine wps_alloc fun _ => ?_)
      | (with_reducible refine wps_newO fun _ => ?_)
      | (refine wps_ld _ (by rfl) ?_)
      | (refine wps_ldG _ _ _ (by rfl) ?_)
      | (refine wps_ldA _ (by rfl) ?_)
      | (refine wps_ldI _ (by rfl) ?_)
      | (refine wps_ldGI _ _ _ (by rfl) ?_)
      | (refine wps_ldAI _ (by rfl) ?_)
      | (refine wps_st (by simp) ?_)
      | (refine wps_stA (by simp) (by simp [Value.oneCell']) ?_)
      | ((with_reducible apply wps_val); apply val_ite; rotate_left; refine fun (_ : ¬ _) => ?_; rotate_right; refine fun (_ : _ = true) => ?_)
      | ((with_reducible apply val_ite); rotate_left; refine fun (_ : ¬ _) => ?_; rotate_right; refine fun (_ : _ = true) => ?_)
      | (with_reducible refine wps_regionH ?_)
      | ((with_reducible apply wps_bindV); apply val_iteL; rotate_left; refine fun (_ : ¬ _) => ?_; rotate_right; refine fun (_ : _ = true) => ?_)
      | ((with_reducible apply val_iteL); rotate_left; refine fun (_ : ¬ _) => ?_; rotate_right; refine fun (_ : _ = true) => ?_)
      | (with_reducible exact wps_pure (ent_val rfl)))
    refine wps_take ?_
    repeat (first
      | (with_reducible refine wps_bindpure ?_)
      | (with_reducible refine wps_assoc ?_)
      | (with_reducible refine wps_nil ?_)
      | (with_reducible refine wps_stepAlloc fun _ => ?_)
      | (with_reducible refine wps_alloc fun _ => ?_)
      | (with_reducible refine wps_newO fun _ => ?_)
      | (refine wps_ld _ (by rfl) ?_)
      | (refine wps_ldG _ _ _ (by rfl) ?_)
      | (refine wps_ldA _ (by rfl) ?_)
      | (refine wps_ldI _ (by rfl) ?_)
      | (refine wps_ldGI _ _ _ (by rfl) ?_)
      | (refine wps_ldAI _ (by rfl) ?_)
      | (refine wps_st (by simp) ?_)
      | (refine wps_stA (by simp) (by simp [Value.oneCell']) ?_)
      | ((with_reducible apply wps_val); apply val_ite; rotate_left; refine fun (_ : ¬ _) => ?_; rotate_right; refine fun (_ : _ = true) => ?_)
      | ((with_reducible apply val_ite); rotate_left; refine fun (_ : ¬ _) => ?_; rotate_right; refine fun (_ : _ = true) => ?_)
      | (with_reducible refine wps_regionH ?_)
      | ((with_reducible apply wps_bindV); apply val_iteL; rotate_left; refine fun (_ : ¬ _) => ?_; rotate_right; refine fun (_ : _ = true) => ?_)
      | ((with_reducible apply val_iteL); rotate_left; refine fun (_ : ¬ _) => ?_; rotate_right; refine fun (_ : _ = true) => ?_)
      | (with_reducible exact wps_pure (ent_val rfl)))
    refine wps_pure ?_
    rw [hR]
    exact ent_pick (ent_pick (ent_pick (ent_prq rfl)))
  · intro D
    refine wps_exP fun R' => ?_
    simp only [← star_assoc]
    refine wps_prP fun hR => ?_
    refine wps_take ?_
    repeat (first
      | (with_reducible refine wps_bindpure ?_)
      | (with_reducible refine wps_assoc ?_)
      | (with_reducible refine wps_nil ?_)
      | (with_reducible refine wps_stepAlloc fun _ => ?_)
      | (with_reducible refine wps_alloc fun _ => ?_)
      | (with_reducible refine wps_newO fun _ => ?_)
      | (refine wps_ld _ (by rfl) ?_)
      | (refine wps_ldG _ _ _ (by rfl) ?_)
      | (refine wps_ldA _ (by rfl) ?_)
      | (refine wps_ldI _ (by rfl) ?_)
      | (refine wps_ldGI _ _ _ (by rfl) ?_)
      | (refine wps_ldAI _ (by rfl) ?_)
      | (refine wps_st (by simp) ?_)
      | (refine wps_stA (by simp) (by simp [Value.oneCell']) ?_)
      | ((with_reducible apply wps_val); apply val_ite; rotate_left; refine fun (_ : ¬ _) => ?_; rotate_right; refine fun (_ : _ = true) => ?_)
      | ((with_reducible apply val_ite); rotate_left; refine fun (_ : ¬ _) => ?_; rotate_right; refine fun (_ : _ = true) => ?_)
      | (with_reducible refine wps_regionH ?_)
      | ((with_reducible apply wps_bindV); apply val_iteL; rotate_left; refine fun (_ : ¬ _) => ?_; rotate_right; refine fun (_ : _ = true) => ?_)
      | ((with_reducible apply val_iteL); rotate_left; refine fun (_ : ¬ _) => ?_; rotate_right; refine fun (_ : _ = true) => ?_)
      | (with_reducible exact wps_pure (ent_val rfl)))
    refine wps_pure ?_
    rw [hR]
    exact ent_pick (ent_pick (ent_pick (ent_prq rfl)))
  · intro D id
    exact wps_false (fun o ho => by
      have := ent_right _ _ o (ent_left _ _ o ho)
      exact ent_right _ _ o this)
end Go.Proofs.Ytldmeimebebllaa
