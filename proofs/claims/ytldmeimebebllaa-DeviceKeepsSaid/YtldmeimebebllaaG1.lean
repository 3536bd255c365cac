/-
  a part of the proof: what functions of the program do, in a separation logic.
-/
import Derived.Test.YtldmeimebebllaaMoSL5
import Derived.Test.YtldmeimebebllaaLD
namespace Go.Proofs.Ytldmeimebebllaa
open Go.Mo
set_option linter.unusedVariables false
theorem w64_id {n : Int} (h : -9223372036854775808 ≤ n) (h' : n < 9223372036854775808) : w64 n = n := by
  unfold w64 IntKind.wrap
  simp only [IntKind.bits, IntKind.signed]
  by_cases hm : n % (2 : Int) ^ 64 ≥ (2 : Int) ^ (64 - 1)
  · simp only [hm, decide_true, Bool.true_and, if_true]; omega
  · simp only [hm, decide_false, Bool.and_false]; simp only [Bool.false_eq_true, if_false]; omega
abbrev G3 := Int × Int × Int
theorem geo_within_val {g : Fr} {H : HP} (n a b : Int) : Val g H (geo_within n a b) (decide (a ≤ n ∧ n ≤ b)) := by
  unfold geo_within
  refine val_eq (v := decide (a ≤ n ∧ n ≤ b)) (u := if decide (a ≤ n) = true then decide (n ≤ b) else false) ?_ (by by_cases h : a ≤ n <;> simp [h])
  repeat (first
    | (with_reducible refine wps_bindpure ?_)
    | (with_reducible refine wps_assoc ?_)
    | (with_reducible refine wps_nil ?_)
    | (with_reducible refine wps_stepAlloc fun _ => ?_)
    | (with_reducible refine wps_alloc fun _ => ?_)
    | (with_reducible refine wps_newO fun _ => ?_)
    | (refine wps_ld _ (by rfl) ?_)
    | (refine wps_ldG _ _ _ (by rfl) ?_)
    | (refine wps_ldA _ (by rfl) ?_)
    | (refine wps_ldI _ (by rfl) ?_)
    | (refine wps_ldGI _ _ _ (by rfl) ?_)
    | (refine wps_ldAI _ (by rfl) ?_)
    | (refine wps_st (by simp) ?_)
    | (refine wps_stA (by simp) (by simp [Value.oneCell']) ?_)
    | ((with_reducible apply wps_val); apply val_ite; rotate_left; refine fun (_ : ¬ _) => ?_; rotate_right; refine fun (_ : _ = true) => ?_)
    | ((with_reducible apply val_ite); rotate_left; refine fun (_ : ¬ _) => ?_; rotate_right; refine fun (_ : _ = true) => ?_)
    | (with_reducible refine wps_regionH ?_)
    | ((with_reducible apply wps_bindV); apply val_iteL; rotate_left; refine fun (_ : ¬ _) => ?_; rotate_right; refine fun (_ : _ = true) => ?_)
    | ((with_reducible apply val_iteL); rotate_left; refine fun (_ : ¬ _) => ?_; rotate_right; refine fun (_ : _ = true) => ?_)
    | (with_reducible exact wps_pure (ent_val rfl)))
theorem geo_others_val {g : Fr} {H : HP} (p : G3) : Val g H (geo_others p) (w64 (1 + w64 (Int.tdiv p.2.2 8))) := by
  unfold geo_others
  repeat (first
    | (with_reducible refine wps_bindpure ?_)
    | (with_reducible refine wps_assoc ?_)
    | (with_reducible refine wps_nil ?_)
    | (with_reducible refine wps_stepAlloc fun _ => ?_)
    | (with_reducible refine wps_alloc fun _ => ?_)
    | (with_reducible refine wps_newO fun _ => ?_)
    | (refine wps_ld _ (by rfl) ?_)
    | (refine wps_ldG _ _ _ (by rfl) ?_)
    | (refine wps_ldA _ (by rfl) ?_)
    | (refine wps_ldI _ (by rfl) ?_)
    | (refine wps_ldGI _ _ _ (by rfl) ?_)
    | (refine wps_ldAI _ (by rfl) ?_)
    | (refine wps_st (by simp) ?_)
    | (refine wps_stA (by simp) (by simp [Value.oneCell']) ?_)
    | ((with_reducible apply wps_val); apply val_ite; rotate_left; refine fun (_ : ¬ _) => ?_; rotate_right; refine fun (_ : _ = true) => ?_)
    | ((with_reducible apply val_ite); rotate_left; refine fun (_ : ¬ _) => ?_; rotate_right; refine fun (_ : _ = true) => ?_)
    | (with_reducible refine wps_regionH ?_)
    | ((with_reducible apply wps_bindV); apply val_iteL; rotate_left; refine fun (_ : ¬ _) => ?_; rotate_right; refine fun (_ : _ = true) => ?_)
    | ((with_reducible apply val_iteL); rotate_left; refine fun (_ : ¬ _) => ?_; rotate_right; refine fun (_ : _ = true) => ?_)
    | (with_reducible exact wps_pure (ent_val rfl)))
theorem geo_places_val {g : Fr} {H : HP} (p : G3) : Val g H (geo_places p) (w64 (w64 (p.2.1 * w64 (p.1 - 1)) - 1)) := by
  unfold geo_places
  repeat (first
    | (with_reducible refine wps_bindpure ?_)
    | (with_reducible refine wps_assoc ?_)
    | (with_reducible refine wps_nil ?_)
    | (with_reducible refine wps_stepAlloc fun _ => ?_)
    | (with_reducible refine wps_alloc fun _ => ?_)
    | (with_reducible refine wps_newO fun _ => ?_)
    | (refine wps_ld _ (by rfl) ?_)
    | (refine wps_ldG _ _ _ (by rfl) ?_)
    | (refine wps_ldA _ (by rfl) ?_)
    | (refine wps_ldI _ (by rfl) ?_)
    | (refine wps_ldGI _ _ _ (by rfl) ?_)
    | (refine wps_ldAI _ (by rfl) ?_)
    | (refine wps_st (by simp) ?_)
    | (refine wps_stA (by simp) (by simp [Value.oneCell']) ?_)
    | ((with_reducible apply wps_val); apply val_ite; rotate_left; refine fun (_ : ¬ _) => ?_; rotate_right; refine fun (_ : _ = true) => ?_)
    | ((with_reducible apply val_ite); rotate_left; refine fun (_ : ¬ _) => ?_; rotate_right; refine fun (_ : _ = true) => ?_)
    | (with_reducible refine wps_regionH ?_)
    | ((with_reducible apply wps_bindV); apply val_iteL; rotate_left; refine fun (_ : ¬ _) => ?_; rotate_right; refine fun (_ : _ = true) => ?_)
    | ((with_reducible apply val_iteL); rotate_left; refine fun (_ : ¬ _) => ?_; rotate_right; refine fun (_ : _ = true) => ?_)
    | (with_reducible exact wps_pure (ent_val rfl)))
/-- a geometry within bounds -/
structure Bnd (p : G3) : Prop where
  d3 : 3 ≤ p.1
  d16 : p.1 ≤ 16
  r1 : 1 ≤ p.2.1
  r4 : p.2.1 ≤ 4
  s12 : 12 ≤ p.2.2
  s64 : p.2.2 ≤ 64
def othersI (p : G3) : Int := 1 + p.2.2 / 8
def placesI (p : G3) : Int := p.2.1 * (p.1 - 1) - 1
theorem Bnd.others {p : G3} (h : Bnd p) : w64 (1 + w64 (Int.tdiv p.2.2 8)) = othersI p ∧ 2 ≤ othersI p ∧ othersI p ≤ 9 := by
  have := h.s12
  have := h.s64
  rw [Int.tdiv_eq_ediv_of_nonneg (by omega), w64_id (n := p.2.2 / 8) (by omega) (by omega), w64_id (by omega) (by omega)]
  unfold othersI
  omega
theorem Bnd.mul {p : G3} (h : Bnd p) : 2 ≤ p.2.1 * (p.1 - 1) ∧ p.2.1 * (p.1 - 1) ≤ 60 := by
  have h1 := h.d3
  have h2 := h.d16
  have h3 := h.r1
  have h4 := h.r4
  have : p.2.1 = 1 ∨ p.2.1 = 2 ∨ p.2.1 = 3 ∨ p.2.1 = 4 := by omega
  rcases this with e | e | e | e <;> rw [e] <;> omega
theorem Bnd.places {p : G3} (h : Bnd p) : w64 (w64 (p.2.1 * w64 (p.1 - 1)) - 1) = placesI p ∧ 1 ≤ placesI p ∧ placesI p ≤ 59 := by
  have h1 := h.d3
  have h2 := h.d16
  have := h.mul
  rw [w64_id (n := p.1 - 1) (by omega) (by omega), w64_id (n := p.2.1 * (p.1 - 1)) (by omega) (by omega), w64_id (by omega) (by omega)]
  unfold placesI
  omega
theorem Bnd.prod {p : G3} (h : Bnd p) : w64 (othersI p * placesI p) = othersI p * placesI p := by
  have h1 := h.others.2
  have h2 := h.places.2
  have h3 : othersI p * placesI p ≤ 9 * 59 := Int.mul_le_mul h1.2 h2.2 (by omega) (by omega)
  have h4 : 0 ≤ othersI p * placesI p := Int.mul_nonneg (by omega) (by omega)
  rw [w64_id] <;> omega
def RightB (p : G3) : Bool := decide (3 ≤ p.1 ∧ p.1 ≤ 16) && (decide (1 ≤ p.2.1 ∧ p.2.1 ≤ 4) && (decide (12 ≤ p.2.2 ∧ p.2.2 ≤ 64) && decide (8 ≤ othersI p * placesI p)))
theorem RightB.bnd {p : G3} (h : RightB p = true) : Bnd p := by
  simp only [RightB, Bool.and_eq_true, decide_eq_true_eq] at h
  exact ⟨h.1.1, h.1.2, h.2.1.1, h.2.1.2, h.2.2.1.1, h.2.2.1.2⟩
theorem geo_Right_val {g : Fr} {H : HP} (p : G3) : Val g H (geo_Right p) (RightB p) := by
  unfold geo_Right
  repeat (first
    | (with_reducible refine wps_val (geo_within_val _ _ _) ?_)
    | (with_reducible refine wps_stepV (geo_within_val _ _ _) ?_)
    | (with_reducible refine wps_bindpure ?_)
    | (with_reducible refine wps_assoc ?_)
    | (with_reducible refine wps_nil ?_)
    | (with_reducible refine wps_stepAlloc fun _ => ?_)
    | (with_reducible refine wps_alloc fun _ => ?_)
    | (with_reducible refine wps_newO fun _ => ?_)
    | (refine wps_ld _ (by rfl) ?_)
    | (refine wps_ldG _ _ _ (by rfl) ?_)
    | (refine wps_ldA _ (by rfl) ?_)
    | (refine wps_ldI _ (by rfl) ?_)
    | (refine wps_ldGI _ _ _ (by rfl) ?_)
    | (refine wps_ldAI _ (by rfl) ?_)
    | (refine wps_st (by simp) ?_)
    | (refine wps_stA (by simp) (by simp [Value.oneCell']) ?_)
    | ((with_reducible apply wps_val); apply val_ite; rotate_left; refine fun (_ : ¬ _) => ?_; rotate_right; refine fun (_ : _ = true) => ?_)
    | ((with_reducible apply val_ite); rotate_left; refine fun (_ : ¬ _) => ?_; rotate_right; refine fun (_ : _ = true) => ?_)
    | (with_reducible refine wps_regionH ?_)
    | ((with_reducible apply wps_bindV); apply val_iteL; rotate_left; refine fun (_ : ¬ _) => ?_; rotate_right; refine fun (_ : _ = true) => ?_)
    | ((with_reducible apply val_iteL); rotate_left; refine fun (_ : ¬ _) => ?_; rotate_right; refine fun (_ : _ = true) => ?_)
    | (with_reducible exact wps_pure (ent_val rfl)))
  refine wps_ite (fun h1 => ?_) (fun h1 => ?_)
  · repeat (first
      | (with_reducible refine wps_val (geo_within_val _ _ _) ?_)
      | (with_reducible refine wps_stepV (geo_within_val _ _ _) ?_)
      | (with_reducible refine wps_bindpure ?_)
      | (with_reducible refine wps_assoc ?_)
      | (with_reducible refine wps_nil ?_)
      | (with_reducible refine wps_stepAlloc fun _ => ?_)
      | (with_reducible refine wps_alloc fun _ => ?_)
      | (with_reducible refine wps_newO fun _ => ?_)
      | (refine wps_ld _ (by rfl) ?_)
      | (refine wps_ldG _ _ _ (by rfl) ?_)
      | (refine wps_ldA _ (by rfl) ?_)
      | (refine wps_ldI _ (by rfl) ?_)
      | (refine wps_ldGI _ _ _ (by rfl) ?_)
      | (refine wps_ldAI _ (by rfl) ?_)
      | (refine wps_st (by simp) ?_)
      | (refine wps_stA (by simp) (by simp [Value.oneCell']) ?_)
      | ((with_reducible apply wps_val); apply val_ite; rotate_left; refine fun (_ : ¬ _) => ?_; rotate_right; refine fun (_ : _ = true) => ?_)
      | ((with_reducible apply val_ite); rotate_left; refine fun (_ : ¬ _) => ?_; rotate_right; refine fun (_ : _ = true) => ?_)
      | (with_reducible refine wps_regionH ?_)
      | ((with_reducible apply wps_bindV); apply val_iteL; rotate_left; refine fun (_ : ¬ _) => ?_; rotate_right; refine fun (_ : _ = true) => ?_)
      | ((with_reducible apply val_iteL); rotate_left; refine fun (_ : ¬ _) => ?_; rotate_right; refine fun (_ : _ = true) => ?_)
      | (with_reducible exact wps_pure (ent_val rfl)))
    refine wps_ite (fun h2 => ?_) (fun h2 => ?_)
    · repeat (first
        | (with_reducible refine wps_val (geo_within_val _ _ _) ?_)
        | (with_reducible refine wps_stepV (geo_within_val _ _ _) ?_)
        | (with_reducible refine wps_bindpure ?_)
        | (with_reducible refine wps_assoc ?_)
        | (with_reducible refine wps_nil ?_)
        | (with_reducible refine wps_stepAlloc fun _ => ?_)
        | (with_reducible refine wps_alloc fun _ => ?_)
        | (with_reducible refine wps_newO fun _ => ?_)
        | (refine wps_ld _ (by rfl) ?_)
        | (refine wps_ldG _ _ _ (by rfl) ?_)
        | (refine wps_ldA _ (by rfl) ?_)
        | (refine wps_ldI _ (by rfl) ?_)
        | (refine wps_ldGI _ _ _ (by rfl) ?_)
        | (refine wps_ldAI _ (by rfl) ?_)
        | (refine wps_st (by simp) ?_)
        | (refine wps_stA (by simp) (by simp [Value.oneCell']) ?_)
        | ((with_reducible apply wps_val); apply val_ite; rotate_left; refine fun (_ : ¬ _) => ?_; rotate_right; refine fun (_ : _ = true) => ?_)
        | ((with_reducible apply val_ite); rotate_left; refine fun (_ : ¬ _) => ?_; rotate_right; refine fun (_ : _ = true) => ?_)
        | (with_reducible refine wps_regionH ?_)
        | ((with_reducible apply wps_bindV); apply val_iteL; rotate_left; refine fun (_ : ¬ _) => ?_; rotate_right; refine fun (_ : _ = true) => ?_)
        | ((with_reducible apply val_iteL); rotate_left; refine fun (_ : ¬ _) => ?_; rotate_right; refine fun (_ : _ = true) => ?_)
        | (with_reducible exact wps_pure (ent_val rfl)))
      refine wps_ite (fun h3 => ?_) (fun h3 => ?_)
      · repeat (first
          | (with_reducible refine wps_val (geo_others_val _) ?_)
          | (with_reducible refine wps_stepV (geo_others_val _) ?_)
          | (with_reducible refine wps_val (geo_places_val _) ?_)
          | (with_reducible refine wps_stepV (geo_places_val _) ?_)
          | (with_reducible refine wps_bindpure ?_)
          | (with_reducible refine wps_assoc ?_)
          | (with_reducible refine wps_nil ?_)
          | (with_reducible refine wps_stepAlloc fun _ => ?_)
          | (with_reducible refine wps_alloc fun _ => ?_)
          | (with_reducible refine wps_newO fun _ => ?_)
          | (refine wps_ld _ (by rfl) ?_)
          | (refine wps_ldG _ _ _ (by rfl) ?_)
          | (refine wps_ldA _ (by rfl) ?_)
          | (refine wps_ldI _ (by rfl) ?_)
          | (refine wps_ldGI _ _ _ (by rfl) ?_)
          | (refine wps_ldAI _ (by rfl) ?_)
          | (refine wps_st (by simp) ?_)
          | (refine wps_stA (by simp) (by simp [Value.oneCell']) ?_)
          | ((with_reducible apply wps_val); apply val_ite; rotate_left; refine fun (_ : ¬ _) => ?_; rotate_right; refine fun (_ : _ = true) => ?_)
          | ((with_reducible apply val_ite); rotate_left; refine fun (_ : ¬ _) => ?_; rotate_right; refine fun (_ : _ = true) => ?_)
          | (with_reducible refine wps_regionH ?_)
          | ((with_reducible apply wps_bindV); apply val_iteL; rotate_left; refine fun (_ : ¬ _) => ?_; rotate_right; refine fun (_ : _ = true) => ?_)
          | ((with_reducible apply val_iteL); rotate_left; refine fun (_ : ¬ _) => ?_; rotate_right; refine fun (_ : _ = true) => ?_)
          | (with_reducible exact wps_pure (ent_val rfl)))
        refine wps_pure (ent_val ?_)
        simp only [decide_eq_true_eq] at h1 h2 h3
        have hb : Bnd p := ⟨h1.1, h1.2, h2.1, h2.2, h3.1, h3.2⟩
        simp only [hb.others.1, hb.places.1, hb.prod, RightB, h1, h2, h3]
        simp
      · refine wps_pure (ent_val ?_)
        simp only [RightB, h1, h2, h3]; simp
    · refine wps_pure (ent_val ?_)
      simp only [RightB, h1, h2]; simp
  · refine wps_pure (ent_val ?_)
    simp only [RightB, h1]; simp
def SectorsI (p : G3) : Int := if RightB p then 5 + p.2.2 * p.2.1 else 0
theorem Bnd.sect {p : G3} (h : Bnd p) : w64 (5 + w64 (p.2.2 * p.2.1)) = 5 + p.2.2 * p.2.1 ∧ 12 ≤ p.2.2 * p.2.1 ∧ p.2.2 * p.2.1 ≤ 256 := by
  have h1 := h.r1
  have h2 := h.r4
  have h3 := h.s12
  have h4 := h.s64
  have h5 : p.2.2 * p.2.1 ≤ 64 * 4 := Int.mul_le_mul h4 h2 (by omega) (by omega)
  have h6 : 12 * 1 ≤ p.2.2 * p.2.1 := Int.mul_le_mul h3 h1 (by omega) (by omega)
  rw [w64_id (n := p.2.2 * p.2.1) (by omega) (by omega), w64_id (by omega) (by omega)]
  omega
theorem geo_Sectors_val {g : Fr} {H : HP} (p : G3) : Val g H (geo_Sectors p) (SectorsI p) := by
  unfold geo_Sectors
  repeat (first
    | (with_reducible refine wps_val (geo_Right_val _) ?_)
    | (with_reducible refine wps_stepV (geo_Right_val _) ?_)
    | (with_reducible refine wps_bindpure ?_)
    | (with_reducible refine wps_assoc ?_)
    | (with_reducible refine wps_nil ?_)
    | (with_reducible refine wps_stepAlloc fun _ => ?_)
    | (with_reducible refine wps_alloc fun _ => ?_)
    | (with_reducible refine wps_newO fun _ => ?_)
    | (refine wps_ld _ (by rfl) ?_)
    | (refine wps_ldG _ _ _ (by rfl) ?_)
    | (refine wps_ldA _ (by rfl) ?_)
    | (refine wps_ldI _ (by rfl) ?_)
    | (refine wps_ldGI _ _ _ (by rfl) ?_)
    | (refine wps_ldAI _ (by rfl) ?_)
    | (refine wps_st (by simp) ?_)
    | (refine wps_stA (by simp) (by simp [Value.oneCell']) ?_)
    | ((with_reducible apply wps_val); apply val_ite; rotate_left; refine fun (_ : ¬ _) => ?_; rotate_right; refine fun (_ : _ = true) => ?_)
    | ((with_reducible apply val_ite); rotate_left; refine fun (_ : ¬ _) => ?_; rotate_right; refine fun (_ : _ = true) => ?_)
    | (with_reducible refine wps_regionH ?_)
    | ((with_reducible apply wps_bindV); apply val_iteL; rotate_left; refine fun (_ : ¬ _) => ?_; rotate_right; refine fun (_ : _ = true) => ?_)
    | ((with_reducible apply val_iteL); rotate_left; refine fun (_ : ¬ _) => ?_; rotate_right; refine fun (_ : _ = true) => ?_)
    | (with_reducible exact wps_pure (ent_val rfl)))
  refine wps_ite (fun h1 => ?_) (fun h1 => ?_)
  · refine wps_pure (ent_val ?_)
    simp only [Bool.not_eq_true'] at h1
    simp [SectorsI, h1]
  · repeat (first
      | (with_reducible refine wps_bindpure ?_)
      | (with_reducible refine wps_assoc ?_)
      | (with_reducible refine wps_nil ?_)
      | (with_reducible refine wps_stepAlloc fun _ => ?_)
      | (with_reducible refine wps_alloc fun _ => ?_)
      | (with_reducible refine wps_newO fun _ => ?_)
      | (refine wps_ld _ (by rfl) ?_)
      | (refine wps_ldG _ _ _ (by rfl) ?_)
      | (refine wps_ldA _ (by rfl) ?_)
      | (refine wps_ldI _ (by rfl) ?_)
      | (refine wps_ldGI _ _ _ (by rfl) ?_)
      | (refine wps_ldAI _ (by rfl) ?_)
      | (refine wps_st (by simp) ?_)
      | (refine wps_stA (by simp) (by simp [Value.oneCell']) ?_)
      | ((with_reducible apply wps_val); apply val_ite; rotate_left; refine fun (_ : ¬ _) => ?_; rotate_right; refine fun (_ : _ = true) => ?_)
      | ((with_reducible apply val_ite); rotate_left; refine fun (_ : ¬ _) => ?_; rotate_right; refine fun (_ : _ = true) => ?_)
      | (with_reducible refine wps_regionH ?_)
      | ((with_reducible apply wps_bindV); apply val_iteL; rotate_left; refine fun (_ : ¬ _) => ?_; rotate_right; refine fun (_ : _ = true) => ?_)
      | ((with_reducible apply val_iteL); rotate_left; refine fun (_ : ¬ _) => ?_; rotate_right; refine fun (_ : _ = true) => ?_)
      | (with_reducible exact wps_pure (ent_val rfl)))
    refine wps_pure (ent_val ?_)
    have h1 : RightB p = true := by simpa using h1
    rw [(RightB.bnd h1).sect.1]
    simp [SectorsI, h1]
theorem ref03_Right_val {g : Fr} {H : HP} (p : G3) : Val g H (ref03_Right p) (RightB p) := by
  unfold ref03_Right
  apply val_eq
  · repeat (first
      | (with_reducible refine wps_bindpure ?_)
      | (with_reducible refine wps_assoc ?_)
      | (with_reducible refine wps_nil ?_)
      | (with_reducible refine wps_stepAlloc fun _ => ?_)
      | (with_reducible refine wps_alloc fun _ => ?_)
      | (with_reducible refine wps_newO fun _ => ?_)
      | (refine wps_ld _ (by rfl) ?_)
      | (refine wps_ldG _ _ _ (by rfl) ?_)
      | (refine wps_ldA _ (by rfl) ?_)
      | (refine wps_ldI _ (by rfl) ?_)
      | (refine wps_ldGI _ _ _ (by rfl) ?_)
      | (refine wps_ldAI _ (by rfl) ?_)
      | (refine wps_st (by simp) ?_)
      | (refine wps_stA (by simp) (by simp [Value.oneCell']) ?_)
      | ((with_reducible apply wps_val); apply val_ite; rotate_left; refine fun (_ : ¬ _) => ?_; rotate_right; refine fun (_ : _ = true) => ?_)
      | ((with_reducible apply val_ite); rotate_left; refine fun (_ : ¬ _) => ?_; rotate_right; refine fun (_ : _ = true) => ?_)
      | (with_reducible refine wps_regionH ?_)
      | ((with_reducible apply wps_bindV); apply val_iteL; rotate_left; refine fun (_ : ¬ _) => ?_; rotate_right; refine fun (_ : _ = true) => ?_)
      | ((with_reducible apply val_iteL); rotate_left; refine fun (_ : ¬ _) => ?_; rotate_right; refine fun (_ : _ = true) => ?_)
      | (with_reducible exact wps_pure (ent_val rfl)))
  · by_cases h1 : 3 ≤ p.1
    · by_cases h2 : p.1 ≤ 16
      · by_cases h3 : 1 ≤ p.2.1
        · by_cases h4 : p.2.1 ≤ 4
          · by_cases h5 : 12 ≤ p.2.2
            · by_cases h6 : p.2.2 ≤ 64
              · have hb : Bnd p := ⟨h1, h2, h3, h4, h5, h6⟩
                simp only [hb.others.1, hb.places.1, hb.prod]
                simp [RightB, h1, h2, h3, h4, h5, h6, Int.not_lt]
              · simp [RightB, h6, Int.not_le.1 h6]
            · simp [RightB, h5, Int.not_le.1 h5]
          · simp [RightB, h4, Int.not_le.1 h4]
        · simp [RightB, h3, Int.not_le.1 h3]
      · simp [RightB, h2, Int.not_le.1 h2]
    · simp [RightB, h1, Int.not_le.1 h1]
theorem ref03_Sectors_val {g : Fr} {H : HP} (p : G3) : Val g H (ref03_Sectors p) (SectorsI p) := by
  unfold ref03_Sectors
  apply val_eq
  · repeat (first
      | (with_reducible refine wps_val (ref03_Right_val _) ?_)
      | (with_reducible refine wps_stepV (ref03_Right_val _) ?_)
      | (with_reducible refine wps_bindpure ?_)
      | (with_reducible refine wps_assoc ?_)
      | (with_reducible refine wps_nil ?_)
      | (with_reducible refine wps_stepAlloc fun _ => ?_)
      | (with_reducible refine wps_alloc fun _ => ?_)
      | (with_reducible refine wps_newO fun _ => ?_)
      | (refine wps_ld _ (by rfl) ?_)
      | (refine wps_ldG _ _ _ (by rfl) ?_)
      | (refine wps_ldA _ (by rfl) ?_)
      | (refine wps_ldI _ (by rfl) ?_)
      | (refine wps_ldGI _ _ _ (by rfl) ?_)
      | (refine wps_ldAI _ (by rfl) ?_)
      | (refine wps_st (by simp) ?_)
      | (refine wps_stA (by simp) (by simp [Value.oneCell']) ?_)
      | ((with_reducible apply wps_val); apply val_ite; rotate_left; refine fun (_ : ¬ _) => ?_; rotate_right; refine fun (_ : _ = true) => ?_)
      | ((with_reducible apply val_ite); rotate_left; refine fun (_ : ¬ _) => ?_; rotate_right; refine fun (_ : _ = true) => ?_)
      | (with_reducible refine wps_regionH ?_)
      | ((with_reducible apply wps_bindV); apply val_iteL; rotate_left; refine fun (_ : ¬ _) => ?_; rotate_right; refine fun (_ : _ = true) => ?_)
      | ((with_reducible apply val_iteL); rotate_left; refine fun (_ : ¬ _) => ?_; rotate_right; refine fun (_ : _ = true) => ?_)
      | (with_reducible exact wps_pure (ent_val rfl)))
  · by_cases h1 : RightB p = true
    · simp [h1, SectorsI, (RightB.bnd h1).sect.1]
    · simp [h1, SectorsI]
/-- may a geometry have this member: (epoch, slot, state) -/
def FitsB (p m : G3) : Bool := m.2.2 == 0 || ((m.2.2 == 1 || m.2.2 == 2) && (decide (0 ≤ m.2.1) && decide (m.2.1 < p.1)))
theorem bank_fits_val {g : Fr} {H : HP} (p m : G3) : Val g H (bank_fits p m) (FitsB p m) := by
  unfold bank_fits
  apply val_eq
  · repeat (first
      | (with_reducible refine wps_bindpure ?_)
      | (with_reducible refine wps_assoc ?_)
      | (with_reducible refine wps_nil ?_)
      | (with_reducible refine wps_stepAlloc fun _ => ?_)
      | (with_reducible refine wps_alloc fun _ => ?_)
      | (with_reducible refine wps_newO fun _ => ?_)
      | (refine wps_ld _ (by rfl) ?_)
      | (refine wps_ldG _ _ _ (by rfl) ?_)
      | (refine wps_ldA _ (by rfl) ?_)
      | (refine wps_ldI _ (by rfl) ?_)
      | (refine wps_ldGI _ _ _ (by rfl) ?_)
      | (refine wps_ldAI _ (by rfl) ?_)
      | (refine wps_st (by simp) ?_)
      | (refine wps_stA (by simp) (by simp [Value.oneCell']) ?_)
      | ((with_reducible apply wps_val); apply val_ite; rotate_left; refine fun (_ : ¬ _) => ?_; rotate_right; refine fun (_ : _ = true) => ?_)
      | ((with_reducible apply val_ite); rotate_left; refine fun (_ : ¬ _) => ?_; rotate_right; refine fun (_ : _ = true) => ?_)
      | (with_reducible refine wps_regionH ?_)
      | ((with_reducible apply wps_bindV); apply val_iteL; rotate_left; refine fun (_ : ¬ _) => ?_; rotate_right; refine fun (_ : _ = true) => ?_)
      | ((with_reducible apply val_iteL); rotate_left; refine fun (_ : ¬ _) => ?_; rotate_right; refine fun (_ : _ = true) => ?_)
      | (with_reducible exact wps_pure (ent_val rfl)))
  · simp only [FitsB]
    by_cases h0 : m.2.2 = 0
    · simp [h0]
    · by_cases h1 : m.2.2 = 1
      · simp [h1]
      · by_cases h2 : m.2.2 = 2
        · simp [h2]
        · simp [h0, h1, h2]
theorem ref06_Fits_val {g : Fr} {H : HP} (p m : G3) : Val g H (ref06_Fits p m) (FitsB p m) := by
  unfold ref06_Fits
  apply val_eq
  · repeat (first
      | (with_reducible refine wps_bindpure ?_)
      | (with_reducible refine wps_assoc ?_)
      | (with_reducible refine wps_nil ?_)
      | (with_reducible refine wps_stepAlloc fun _ => ?_)
      | (with_reducible refine wps_alloc fun _ => ?_)
      | (with_reducible refine wps_newO fun _ => ?_)
      | (refine wps_ld _ (by rfl) ?_)
      | (refine wps_ldG _ _ _ (by rfl) ?_)
      | (refine wps_ldA _ (by rfl) ?_)
      | (refine wps_ldI _ (by rfl) ?_)
      | (refine wps_ldGI _ _ _ (by rfl) ?_)
      | (refine wps_ldAI _ (by rfl) ?_)
      | (refine wps_st (by simp) ?_)
      | (refine wps_stA (by simp) (by simp [Value.oneCell']) ?_)
      | ((with_reducible apply wps_val); apply val_ite; rotate_left; refine fun (_ : ¬ _) => ?_; rotate_right; refine fun (_ : _ = true) => ?_)
      | ((with_reducible apply val_ite); rotate_left; refine fun (_ : ¬ _) => ?_; rotate_right; refine fun (_ : _ = true) => ?_)
      | (with_reducible refine wps_regionH ?_)
      | ((with_reducible apply wps_bindV); apply val_iteL; rotate_left; refine fun (_ : ¬ _) => ?_; rotate_right; refine fun (_ : _ = true) => ?_)
      | ((with_reducible apply val_iteL); rotate_left; refine fun (_ : ¬ _) => ?_; rotate_right; refine fun (_ : _ = true) => ?_)
      | (with_reducible exact wps_pure (ent_val rfl)))
  · simp only [FitsB]
    by_cases h0 : m.2.2 = 0
    · simp [h0]
    · by_cases h1 : m.2.2 = 1
      · simp [h1]
      · by_cases h2 : m.2.2 = 2
        · simp [h2]
        · have : ¬ (0 ≤ m.2.2 ∧ m.2.2 ≤ 2) := by omega
          by_cases h3 : 0 ≤ m.2.2
          · have h4 : ¬ m.2.2 ≤ 2 := fun h => this ⟨h3, h⟩
            simp [h0, h1, h2, h3, h4]
          · simp [h0, h1, h2, h3]
end Go.Proofs.Ytldmeimebebllaa
