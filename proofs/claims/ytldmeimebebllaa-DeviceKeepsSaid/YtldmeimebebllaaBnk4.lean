/-
  a part of the proof: what functions of the program do, in a separation logic.
-/
import Derived.Test.YtldmeimebebllaaBnk3
namespace Go.Proofs.Ytldmeimebebllaa
open Go.Mo
set_option linter.unusedVariables false
variable {g : Fr} {cv : CV}
def allL (s : Int) (xs : List Int) (R : Rk) : List (List Int) := (xs.filter fun d => R.rdErr d s == 0).map fun d => R.rd d s
/-- rows of bytes in a slice -/
def rows (t : Slc) (l : List (List Int)) : HP := ex fun sl : List Slc => pr (sl.length = l.length ∧ t.len = l.length) * seqp sl (fun i => l.getD i []) * own 1 t (sl.map vS)
theorem seqp_ext {sl : List Slc} {f f' : Nat → List Int} (h : ∀ i, i < sl.length → f i = f' i) : Ent (seqp sl f) (seqp sl f') := fun o ho k s hk => by
  have hlt := (List.getElem?_eq_some_iff.1 hk).1
  rw [← h k hlt]
  exact ho k s hk
theorem seqp_snocL {sl : List Slc} {l : List (List Int)} {s : Slc} {b : List Int} (hl : sl.length = l.length) : Ent (seqp sl (fun i => l.getD i []) * byt s b) (seqp (sl ++ [s]) (fun i => (l ++ [b]).getD i [])) := by
  refine seqp_snoc (Ent.trans (ent_left _ _) (seqp_ext fun i hi => ?_)) (Ent.trans (ent_right _ _) (Ent.of_eq ?_))
  · simp [List.getD_eq_getElem?_getD, List.getElem?_append_left (show i < l.length by omega)]
  · simp [List.getD_eq_getElem?_getD, hl]
theorem rows_snoc {A : HP} {t : Slc} {sl : List Slc} {l : List (List Int)} {s : Slc} {b : List Int} (hl : sl.length = l.length) (ht : t.len = l.length + 1) :
    Ent (seqp sl (fun i => l.getD i []) * byt s b * own 1 t ((sl ++ [s]).map vS)) (rows t (l ++ [b])) := by
  refine ent_ex (sl ++ [s]) (ent_pick ?_)
  refine ent_prr ⟨by simp [hl], by simp [ht]⟩ ?_
  refine seqp_snoc (Ent.trans (ent_left _ _) (seqp_ext fun i hi => ?_)) (Ent.trans (ent_right _ _) (Ent.of_eq ?_))
  · simp [List.getD_eq_getElem?_getD, List.getElem?_append_left (show i < l.length by omega)]
  · simp [List.getD_eq_getElem?_getD, hl]
theorem disksL_len (q m : G3) (hq : q.1 ≤ 16) : (disksL q m).length ≤ 17 := by
  unfold disksL
  rw [List.length_append, List.length_map, List.length_range]
  split <;> simp <;> omega
theorem bank_All_spec (hcv : DisksOk cv) (bb rb : Nat) (q m : G3) (hq : q.1 ≤ 16) (R : Rk) (ds : Slc) (ps : List Nat) (s : Int) :
    wps g (bnk bb rb q m * rackP rb R ds ps) (bank_Bank_All cv (ptr bb) s) (fun t => bnk bb rb q m * rackP rb R ds ps * rows t (allL s (disksL q m) R)) := by
  unfold bank_Bank_All
  repeat (first
    | (with_reducible refine wps_bindpure ?_)
    | (with_reducible refine wps_assoc ?_)
    | (with_reducible refine wps_nil ?_)
    | (with_reducible refine wps_stepAlloc fun _ => ?_)
    | (with_reducible refine wps_alloc fun _ => ?_)
    | (with_reducible refine wps_newO fun _ => ?_)
    | (refine wps_ld _ (by rfl) ?_)
    | (refine wps_ldG _ _ _ (by rfl) ?_)
    | (refine wps_ldA _ (by rfl) ?_)
    | (refine wps_ldI _ (by rfl) ?_)
    | (refine wps_ldGI _ _ _ (by rfl) ?_)
    | (refine wps_ldAI _ (by rfl) ?_)
    | (refine wps_st (by simp) ?_)
    | (refine wps_stA (by simp) (by simp [Value.oneCell']) ?_)
    | ((with_reducible apply wps_val); apply val_ite; rotate_left; refine fun (_ : ¬ _) => ?_; rotate_right; refine fun (_ : _ = true) => ?_)
    | ((with_reducible apply val_ite); rotate_left; refine fun (_ : ¬ _) => ?_; rotate_right; refine fun (_ : _ = true) => ?_)
    | (with_reducible refine wps_regionH ?_)
    | ((with_reducible apply wps_bindV); apply val_iteL; rotate_left; refine fun (_ : ¬ _) => ?_; rotate_right; refine fun (_ : _ = true) => ?_)
    | ((with_reducible apply val_iteL); rotate_left; refine fun (_ : ¬ _) => ?_; rotate_right; refine fun (_ : _ = true) => ?_)
    | (with_reducible exact wps_pure (ent_val rfl)))
  rename_i x2 x3 x5
  refine wps_rangeF (F := emp)
    (fun i => ex fun t : Slc => ex fun sl : List Slc => pr (sl.length = (allL s ((disksL q m).take i) R).length ∧ t.len = sl.length) * seqp sl (fun j => (allL s ((disksL q m).take i) R).getD j []) * own 1 t (sl.map vS) * rackP rb R ds ps * pc x2 [.pointer (ptr bb)] * pc x3 [.int .i64 s] * pc x5 [vS t])
    (fun _ => pr False)
    (fun i d t' => pr (t' = d) * (bnk bb rb q m * ex fun t : Slc => ex fun sl : List Slc => pr (sl.length = (allL s ((disksL q m).take i) R).length ∧ t.len = sl.length) * seqp sl (fun j => (allL s ((disksL q m).take i) R).getD j []) * own 1 t (sl.map vS) * rackP rb R ds ps * pc x2 [.pointer (ptr bb)] * pc x3 [.int .i64 s] * pc x5 [vS t]))
    (disks_iter hcv bb rb q m hq) ?_ ?_ ?_ ?_ ?_ ?_
  · rw [emp_star]
    refine Ent.trans ?_ (Ent.starr (ent_ex nilS (ent_ex [] (Ent.refl _))))
    simp only [← star_assoc]
    refine ent_pickC (by rfl) (ent_pickC (by rfl) (ent_pickC (by rfl) (ent_pick (ent_own0 (ent_pers ?_ (seqp_nil _ _))))))
    exact ent_prx (by simp [allL, nilS]) ent_drop
  · intro i d hd g
    exact wps_pure (ent_prr rfl (Ent.refl _))
  · intro i d hd t' g
    refine wps_pr fun ht => ?_
    subst ht
    refine wps_exP fun t => ?_
    refine wps_exP fun sl => ?_
    simp only [← star_assoc]
    refine wps_prP fun ⟨hsl, htl⟩ => ?_
    have htake : (disksL q m).take (i + 1) = (disksL q m).take i ++ [t'] := by rw [List.take_add_one, hd]; rfl
    have hle : sl.length ≤ 17 := by
      rw [hsl]
      simp only [allL, List.length_map]
      have h1 := List.length_filter_le (fun d => R.rdErr d s == 0) ((disksL q m).take i)
      have h2 := disksL_len q m hq
      rw [List.length_take] at h1
      omega
    refine wps_region (bnk bb rb q m * pc x2 [.pointer (ptr bb)] * pc x3 [.int .i64 s]) (ent_pick (ent_pick ent_drop)) ?_
    repeat (first
      | (with_reducible refine wps_bindpure ?_)
      | (with_reducible refine wps_assoc ?_)
      | (with_reducible refine wps_nil ?_)
      | (with_reducible refine wps_stepAlloc fun _ => ?_)
      | (with_reducible refine wps_alloc fun _ => ?_)
      | (with_reducible refine wps_newO fun _ => ?_)
      | (refine wps_ld _ (by rfl) ?_)
      | (refine wps_ldG _ _ _ (by rfl) ?_)
      | (refine wps_ldA _ (by rfl) ?_)
      | (refine wps_ldI _ (by rfl) ?_)
      | (refine wps_ldGI _ _ _ (by rfl) ?_)
      | (refine wps_ldAI _ (by rfl) ?_)
      | (refine wps_st (by simp) ?_)
      | (refine wps_stA (by simp) (by simp [Value.oneCell']) ?_)
      | ((with_reducible apply wps_val); apply val_ite; rotate_left; refine fun (_ : ¬ _) => ?_; rotate_right; refine fun (_ : _ = true) => ?_)
      | ((with_reducible apply val_ite); rotate_left; refine fun (_ : ¬ _) => ?_; rotate_right; refine fun (_ : _ = true) => ?_)
      | (with_reducible refine wps_regionH ?_)
      | ((with_reducible apply wps_bindV); apply val_iteL; rotate_left; refine fun (_ : ¬ _) => ?_; rotate_right; refine fun (_ : _ = true) => ?_)
      | ((with_reducible apply val_iteL); rotate_left; refine fun (_ : ¬ _) => ?_; rotate_right; refine fun (_ : _ = true) => ?_)
      | (with_reducible exact wps_pure (ent_val rfl)))
    refine wps_stepC (F := bnk bb rb q m * pc x2 [.pointer (ptr bb)] * pc x3 [.int .i64 s] * seqp sl (fun j => (allL s ((disksL q m).take i) R).getD j []) * own 1 t (sl.map vS) * pc x5 [vS t]) (A := rackP rb R ds ps) (fun _ => device_Rack_Read_spec rb R ds ps t' s) ?_ ent_drop fun e => ?_
    · exact ent_pick (ent_pick (ent_pick (ent_pick (ent_pick (ent_pick ent_drop)))))
    · simp only [← star_assoc]
      refine wps_prP fun he => ?_
      refine wps_ite (fun h0 => ?_) (fun h0 => ?_)
      · have h0' : R.rdErr t' s = 0 := by rw [← he]; simpa using h0
        have hall : allL s ((disksL q m).take (i + 1)) R = allL s ((disksL q m).take i) R ++ [R.rd t' s] := by
          rw [htake]; simp [allL, h0']
        repeat (first
          | (with_reducible refine wps_bindpure ?_)
          | (with_reducible refine wps_assoc ?_)
          | (with_reducible refine wps_nil ?_)
          | (with_reducible refine wps_stepAlloc fun _ => ?_)
          | (with_reducible refine wps_alloc fun _ => ?_)
          | (with_reducible refine wps_newO fun _ => ?_)
          | (refine wps_ld _ (by rfl) ?_)
          | (refine wps_ldG _ _ _ (by rfl) ?_)
          | (refine wps_ldA _ (by rfl) ?_)
          | (refine wps_ldI _ (by rfl) ?_)
          | (refine wps_ldGI _ _ _ (by rfl) ?_)
          | (refine wps_ldAI _ (by rfl) ?_)
          | (refine wps_st (by simp) ?_)
          | (refine wps_stA (by simp) (by simp [Value.oneCell']) ?_)
          | ((with_reducible apply wps_val); apply val_ite; rotate_left; refine fun (_ : ¬ _) => ?_; rotate_right; refine fun (_ : _ = true) => ?_)
          | ((with_reducible apply val_ite); rotate_left; refine fun (_ : ¬ _) => ?_; rotate_right; refine fun (_ : _ = true) => ?_)
          | (with_reducible refine wps_regionH ?_)
          | ((with_reducible apply wps_bindV); apply val_iteL; rotate_left; refine fun (_ : ¬ _) => ?_; rotate_right; refine fun (_ : _ = true) => ?_)
          | ((with_reducible apply val_iteL); rotate_left; refine fun (_ : ¬ _) => ?_; rotate_right; refine fun (_ : _ = true) => ?_)
          | (with_reducible exact wps_pure (ent_val rfl)))
        refine wps_app 1 [vS e.1] rfl (by decide) (rsl_pc rfl) (by simp [Value.oneCell', vS]) (by (try dsimp only); omega) fun t2 ht2 => ?_
        repeat (first
          | (with_reducible refine wps_bindpure ?_)
          | (with_reducible refine wps_assoc ?_)
          | (with_reducible refine wps_nil ?_)
          | (with_reducible refine wps_stepAlloc fun _ => ?_)
          | (with_reducible refine wps_alloc fun _ => ?_)
          | (with_reducible refine wps_newO fun _ => ?_)
          | (refine wps_ld _ (by rfl) ?_)
          | (refine wps_ldG _ _ _ (by rfl) ?_)
          | (refine wps_ldA _ (by rfl) ?_)
          | (refine wps_ldI _ (by rfl) ?_)
          | (refine wps_ldGI _ _ _ (by rfl) ?_)
          | (refine wps_ldAI _ (by rfl) ?_)
          | (refine wps_st (by simp) ?_)
          | (refine wps_stA (by simp) (by simp [Value.oneCell']) ?_)
          | ((with_reducible apply wps_val); apply val_ite; rotate_left; refine fun (_ : ¬ _) => ?_; rotate_right; refine fun (_ : _ = true) => ?_)
          | ((with_reducible apply val_ite); rotate_left; refine fun (_ : ¬ _) => ?_; rotate_right; refine fun (_ : _ = true) => ?_)
          | (with_reducible refine wps_regionH ?_)
          | ((with_reducible apply wps_bindV); apply val_iteL; rotate_left; refine fun (_ : ¬ _) => ?_; rotate_right; refine fun (_ : _ = true) => ?_)
          | ((with_reducible apply val_iteL); rotate_left; refine fun (_ : ¬ _) => ?_; rotate_right; refine fun (_ : _ = true) => ?_)
          | (with_reducible exact wps_pure (ent_val rfl)))
        refine wps_pure ?_
        rw [hall]
        refine Ent.trans ?_ (Ent.starr (ent_ex t2 (ent_ex (sl ++ [e.1]) (Ent.refl _))))
        simp only [← star_assoc]
        refine ent_pickC (by rfl) (ent_pick (ent_pick (ent_pick (ent_pickS (by simp) ?_))))
        refine ent_swap (A := own 1 e.1 (bv (R.rd t' s))) (B := byt e.1 (R.rd t' s)) (own_rsl _ _ _) ?_
        refine ent_join (A := seqp sl fun j => (allL s ((disksL q m).take i) R).getD j []) (B := byt e.1 (R.rd t' s)) (seqp_snocL hsl) ?_
        exact ent_prx ⟨by simp [hsl], by simp [ht2, htl]⟩ ent_drop
      · have h0' : ¬ R.rdErr t' s = 0 := by rw [← he]; simpa using h0
        have hall : allL s ((disksL q m).take (i + 1)) R = allL s ((disksL q m).take i) R := by
          rw [htake]; simp [allL, h0']
        refine wps_pure ?_
        rw [hall]
        refine Ent.trans ?_ (Ent.starr (ent_ex t (ent_ex sl (Ent.refl _))))
        simp only [← star_assoc]
        exact ent_pick (ent_pick (ent_pick (ent_pick (ent_pick (ent_pick (ent_prx ⟨hsl, htl⟩ ent_drop))))))
  · intro D
    refine wps_exP fun t => wps_exP fun sl => ?_
    simp only [← star_assoc]
    refine wps_prP fun ⟨hsl, htl⟩ => ?_
    rw [List.take_length]
    rw [List.take_length] at hsl
    repeat (first
      | (with_reducible refine wps_bindpure ?_)
      | (with_reducible refine wps_assoc ?_)
      | (with_reducible refine wps_nil ?_)
      | (with_reducible refine wps_stepAlloc fun _ => ?_)
      | (with_reducible refine wps_alloc fun _ => ?_)
      | (with_reducible refine wps_newO fun _ => ?_)
      | (refine wps_ld _ (by rfl) ?_)
      | (refine wps_ldG _ _ _ (by rfl) ?_)
      | (refine wps_ldA _ (by rfl) ?_)
      | (refine wps_ldI _ (by rfl) ?_)
      | (refine wps_ldGI _ _ _ (by rfl) ?_)
      | (refine wps_ldAI _ (by rfl) ?_)
      | (refine wps_st (by simp) ?_)
      | (refine wps_stA (by simp) (by simp [Value.oneCell']) ?_)
      | ((with_reducible apply wps_val); apply val_ite; rotate_left; refine fun (_ : ¬ _) => ?_; rotate_right; refine fun (_ : _ = true) => ?_)
      | ((with_reducible apply val_ite); rotate_left; refine fun (_ : ¬ _) => ?_; rotate_right; refine fun (_ : _ = true) => ?_)
      | (with_reducible refine wps_regionH ?_)
      | ((with_reducible apply wps_bindV); apply val_iteL; rotate_left; refine fun (_ : ¬ _) => ?_; rotate_right; refine fun (_ : _ = true) => ?_)
      | ((with_reducible apply val_iteL); rotate_left; refine fun (_ : ¬ _) => ?_; rotate_right; refine fun (_ : _ = true) => ?_)
      | (with_reducible exact wps_pure (ent_val rfl)))
    refine wps_take (wps_pure ?_)
    refine ent_exr sl ?_
    simp only [← star_assoc]
    exact ent_pick (ent_pick (ent_prx ⟨hsl, by rw [htl, hsl]⟩ (ent_pick ent_drop)))
  · intro D
    exact wps_false (fun o ho => by
      have := ent_right _ _ o (ent_left _ _ o ho)
      exact ent_right _ _ o this)
  · intro D id
    exact wps_false (fun o ho => by
      have := ent_right _ _ o (ent_left _ _ o ho)
      exact ent_right _ _ o this)
end Go.Proofs.Ytldmeimebebllaa
