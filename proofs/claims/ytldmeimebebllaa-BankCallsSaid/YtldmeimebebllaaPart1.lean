/-
  A part of the proof: predicate transformers over the model, and a separation logic over them; what functions of the program do.
-/
import Derived.Test.YtldmeimebebllaaPart0
set_option linter.unusedSimpArgs false
namespace Go.Proofs.Ytldmeimebebllaa
open Go.Mo
set_option linter.unusedVariables false
theorem w64_id {n : Int} (h : -9223372036854775808 ≤ n) (h' : n < 9223372036854775808) : w64 n = n := by
  unfold w64 IntKind.wrap
  simp only [IntKind.bits, IntKind.signed]
  by_cases hm : n % (2 : Int) ^ 64 ≥ (2 : Int) ^ (64 - 1)
  · simp only [hm, decide_true, Bool.true_and, if_true]; omega
  · simp only [hm, decide_false, Bool.and_false]; simp only [Bool.false_eq_true, if_false]; omega
abbrev G3 := Int × Int × Int
theorem geo_within_val {g : Fr} {H : HP} (n a b : Int) : Val g H (geo_within n a b) (decide (a ≤ n ∧ n ≤ b)) := by
  unfold geo_within
  refine val_eq (v := decide (a ≤ n ∧ n ≤ b)) (u := if decide (a ≤ n) = true then decide (n ≤ b) else false) ?_ (by by_cases h : a ≤ n <;> simp [h])
  repeat (first
    | (with_reducible refine wps_bindpure ?_)
    | (with_reducible refine wps_assoc ?_)
    | (with_reducible refine wps_nil ?_)
    | (with_reducible refine wps_stepAlloc fun _ => ?_)
    | (with_reducible refine wps_alloc fun _ => ?_)
    | (with_reducible refine wps_newO fun _ => ?_)
    | (refine wps_ld _ (by rfl) ?_)
    | (refine wps_ldG _ _ _ (by rfl) ?_)
    | (refine wps_ldA _ (by rfl) ?_)
    | (refine wps_ldI _ (by rfl) ?_)
    | (refine wps_ldGI _ _ _ (by rfl) ?_)
    | (refine wps_ldAI _ (by rfl) ?_)
    | (refine wps_st (by simp) ?_)
    | (refine wps_stA (by simp) (by simp [Value.oneCell']) ?_)
    | ((with_reducible apply wps_val); apply val_ite; rotate_left; refine fun (_ : ¬ _) => ?_; rotate_right; refine fun (_ : _ = true) => ?_)
    | ((with_reducible apply val_ite); rotate_left; refine fun (_ : ¬ _) => ?_; rotate_right; refine fun (_ : _ = true) => ?_)
    | (with_reducible refine wps_regionH ?_)
    | ((with_reducible apply wps_bindV); apply val_iteL; rotate_left; refine fun (_ : ¬ _) => ?_; rotate_right; refine fun (_ : _ = true) => ?_)
    | ((with_reducible apply val_iteL); rotate_left; refine fun (_ : ¬ _) => ?_; rotate_right; refine fun (_ : _ = true) => ?_)
    | (with_reducible exact wps_pure (ent_val rfl)))
theorem geo_others_val {g : Fr} {H : HP} (p : G3) : Val g H (geo_others p) (w64 (1 + w64 (Int.tdiv p.2.2 8))) := by
  unfold geo_others
  repeat (first
    | (with_reducible refine wps_bindpure ?_)
    | (with_reducible refine wps_assoc ?_)
    | (with_reducible refine wps_nil ?_)
    | (with_reducible refine wps_stepAlloc fun _ => ?_)
    | (with_reducible refine wps_alloc fun _ => ?_)
    | (with_reducible refine wps_newO fun _ => ?_)
    | (refine wps_ld _ (by rfl) ?_)
    | (refine wps_ldG _ _ _ (by rfl) ?_)
    | (refine wps_ldA _ (by rfl) ?_)
    | (refine wps_ldI _ (by rfl) ?_)
    | (refine wps_ldGI _ _ _ (by rfl) ?_)
    | (refine wps_ldAI _ (by rfl) ?_)
    | (refine wps_st (by simp) ?_)
    | (refine wps_stA (by simp) (by simp [Value.oneCell']) ?_)
    | ((with_reducible apply wps_val); apply val_ite; rotate_left; refine fun (_ : ¬ _) => ?_; rotate_right; refine fun (_ : _ = true) => ?_)
    | ((with_reducible apply val_ite); rotate_left; refine fun (_ : ¬ _) => ?_; rotate_right; refine fun (_ : _ = true) => ?_)
    | (with_reducible refine wps_regionH ?_)
    | ((with_reducible apply wps_bindV); apply val_iteL; rotate_left; refine fun (_ : ¬ _) => ?_; rotate_right; refine fun (_ : _ = true) => ?_)
    | ((with_reducible apply val_iteL); rotate_left; refine fun (_ : ¬ _) => ?_; rotate_right; refine fun (_ : _ = true) => ?_)
    | (with_reducible exact wps_pure (ent_val rfl)))
theorem geo_places_val {g : Fr} {H : HP} (p : G3) : Val g H (geo_places p) (w64 (w64 (p.2.1 * w64 (p.1 - 1)) - 1)) := by
  unfold geo_places
  repeat (first
    | (with_reducible refine wps_bindpure ?_)
    | (with_reducible refine wps_assoc ?_)
    | (with_reducible refine wps_nil ?_)
    | (with_reducible refine wps_stepAlloc fun _ => ?_)
    | (with_reducible refine wps_alloc fun _ => ?_)
    | (with_reducible refine wps_newO fun _ => ?_)
    | (refine wps_ld _ (by rfl) ?_)
    | (refine wps_ldG _ _ _ (by rfl) ?_)
    | (refine wps_ldA _ (by rfl) ?_)
    | (refine wps_ldI _ (by rfl) ?_)
    | (refine wps_ldGI _ _ _ (by rfl) ?_)
    | (refine wps_ldAI _ (by rfl) ?_)
    | (refine wps_st (by simp) ?_)
    | (refine wps_stA (by simp) (by simp [Value.oneCell']) ?_)
    | ((with_reducible apply wps_val); apply val_ite; rotate_left; refine fun (_ : ¬ _) => ?_; rotate_right; refine fun (_ : _ = true) => ?_)
    | ((with_reducible apply val_ite); rotate_left; refine fun (_ : ¬ _) => ?_; rotate_right; refine fun (_ : _ = true) => ?_)
    | (with_reducible refine wps_regionH ?_)
    | ((with_reducible apply wps_bindV); apply val_iteL; rotate_left; refine fun (_ : ¬ _) => ?_; rotate_right; refine fun (_ : _ = true) => ?_)
    | ((with_reducible apply val_iteL); rotate_left; refine fun (_ : ¬ _) => ?_; rotate_right; refine fun (_ : _ = true) => ?_)
    | (with_reducible exact wps_pure (ent_val rfl)))
structure Bnd (p : G3) : Prop where
  d3 : 3 ≤ p.1
  d16 : p.1 ≤ 16
  r1 : 1 ≤ p.2.1
  r4 : p.2.1 ≤ 4
  s12 : 12 ≤ p.2.2
  s64 : p.2.2 ≤ 64
def othersI (p : G3) : Int := 1 + p.2.2 / 8
def placesI (p : G3) : Int := p.2.1 * (p.1 - 1) - 1
theorem Bnd.others {p : G3} (h : Bnd p) : w64 (1 + w64 (Int.tdiv p.2.2 8)) = othersI p ∧ 2 ≤ othersI p ∧ othersI p ≤ 9 := by
  have := h.s12
  have := h.s64
  rw [Int.tdiv_eq_ediv_of_nonneg (by omega), w64_id (n := p.2.2 / 8) (by omega) (by omega), w64_id (by omega) (by omega)]
  unfold othersI
  omega
theorem Bnd.mul {p : G3} (h : Bnd p) : 2 ≤ p.2.1 * (p.1 - 1) ∧ p.2.1 * (p.1 - 1) ≤ 60 := by
  have h1 := h.d3
  have h2 := h.d16
  have h3 := h.r1
  have h4 := h.r4
  have : p.2.1 = 1 ∨ p.2.1 = 2 ∨ p.2.1 = 3 ∨ p.2.1 = 4 := by omega
  rcases this with e | e | e | e <;> rw [e] <;> omega
theorem Bnd.places {p : G3} (h : Bnd p) : w64 (w64 (p.2.1 * w64 (p.1 - 1)) - 1) = placesI p ∧ 1 ≤ placesI p ∧ placesI p ≤ 59 := by
  have h1 := h.d3
  have h2 := h.d16
  have := h.mul
  rw [w64_id (n := p.1 - 1) (by omega) (by omega), w64_id (n := p.2.1 * (p.1 - 1)) (by omega) (by omega), w64_id (by omega) (by omega)]
  unfold placesI
  omega
theorem Bnd.prod {p : G3} (h : Bnd p) : w64 (othersI p * placesI p) = othersI p * placesI p := by
  have h1 := h.others.2
  have h2 := h.places.2
  have h3 : othersI p * placesI p ≤ 9 * 59 := Int.mul_le_mul h1.2 h2.2 (by omega) (by omega)
  have h4 : 0 ≤ othersI p * placesI p := Int.mul_nonneg (by omega) (by omega)
  rw [w64_id] <;> omega
def RightB (p : G3) : Bool := decide (3 ≤ p.1 ∧ p.1 ≤ 16) && (decide (1 ≤ p.2.1 ∧ p.2.1 ≤ 4) && (decide (12 ≤ p.2.2 ∧ p.2.2 ≤ 64) && decide (8 ≤ othersI p * placesI p)))
theorem RightB.bnd {p : G3} (h : RightB p = true) : Bnd p := by
  simp only [RightB, Bool.and_eq_true, decide_eq_true_eq] at h
  exact ⟨h.1.1, h.1.2, h.2.1.1, h.2.1.2, h.2.2.1.1, h.2.2.1.2⟩
theorem geo_Right_val {g : Fr} {H : HP} (p : G3) : Val g H (geo_Right p) (RightB p) := by
  unfold geo_Right
  repeat (first
    | (with_reducible refine wps_val (geo_within_val _ _ _) ?_)
    | (with_reducible refine wps_stepV (geo_within_val _ _ _) ?_)
    | (with_reducible refine wps_bindpure ?_)
    | (with_reducible refine wps_assoc ?_)
    | (with_reducible refine wps_nil ?_)
    | (with_reducible refine wps_stepAlloc fun _ => ?_)
    | (with_reducible refine wps_alloc fun _ => ?_)
    | (with_reducible refine wps_newO fun _ => ?_)
    | (refine wps_ld _ (by rfl) ?_)
    | (refine wps_ldG _ _ _ (by rfl) ?_)
    | (refine wps_ldA _ (by rfl) ?_)
    | (refine wps_ldI _ (by rfl) ?_)
    | (refine wps_ldGI _ _ _ (by rfl) ?_)
    | (refine wps_ldAI _ (by rfl) ?_)
    | (refine wps_st (by simp) ?_)
    | (refine wps_stA (by simp) (by simp [Value.oneCell']) ?_)
    | ((with_reducible apply wps_val); apply val_ite; rotate_left; refine fun (_ : ¬ _) => ?_; rotate_right; refine fun (_ : _ = true) => ?_)
    | ((with_reducible apply val_ite); rotate_left; refine fun (_ : ¬ _) => ?_; rotate_right; refine fun (_ : _ = true) => ?_)
    | (with_reducible refine wps_regionH ?_)
    | ((with_reducible apply wps_bindV); apply val_iteL; rotate_left; refine fun (_ : ¬ _) => ?_; rotate_right; refine fun (_ : _ = true) => ?_)
    | ((with_reducible apply val_iteL); rotate_left; refine fun (_ : ¬ _) => ?_; rotate_right; refine fun (_ : _ = true) => ?_)
    | (with_reducible exact wps_pure (ent_val rfl)))
  refine wps_ite (fun h1 => ?_) (fun h1 => ?_)
  · repeat (first
      | (with_reducible refine wps_val (geo_within_val _ _ _) ?_)
      | (with_reducible refine wps_stepV (geo_within_val _ _ _) ?_)
      | (with_reducible refine wps_bindpure ?_)
      | (with_reducible refine wps_assoc ?_)
      | (with_reducible refine wps_nil ?_)
      | (with_reducible refine wps_stepAlloc fun _ => ?_)
      | (with_reducible refine wps_alloc fun _ => ?_)
      | (with_reducible refine wps_newO fun _ => ?_)
      | (refine wps_ld _ (by rfl) ?_)
      | (refine wps_ldG _ _ _ (by rfl) ?_)
      | (refine wps_ldA _ (by rfl) ?_)
      | (refine wps_ldI _ (by rfl) ?_)
      | (refine wps_ldGI _ _ _ (by rfl) ?_)
      | (refine wps_ldAI _ (by rfl) ?_)
      | (refine wps_st (by simp) ?_)
      | (refine wps_stA (by simp) (by simp [Value.oneCell']) ?_)
      | ((with_reducible apply wps_val); apply val_ite; rotate_left; refine fun (_ : ¬ _) => ?_; rotate_right; refine fun (_ : _ = true) => ?_)
      | ((with_reducible apply val_ite); rotate_left; refine fun (_ : ¬ _) => ?_; rotate_right; refine fun (_ : _ = true) => ?_)
      | (with_reducible refine wps_regionH ?_)
      | ((with_reducible apply wps_bindV); apply val_iteL; rotate_left; refine fun (_ : ¬ _) => ?_; rotate_right; refine fun (_ : _ = true) => ?_)
      | ((with_reducible apply val_iteL); rotate_left; refine fun (_ : ¬ _) => ?_; rotate_right; refine fun (_ : _ = true) => ?_)
      | (with_reducible exact wps_pure (ent_val rfl)))
    refine wps_ite (fun h2 => ?_) (fun h2 => ?_)
    · repeat (first
        | (with_reducible refine wps_val (geo_within_val _ _ _) ?_)
        | (with_reducible refine wps_stepV (geo_within_val _ _ _) ?_)
        | (with_reducible refine wps_bindpure ?_)
        | (with_reducible refine wps_assoc ?_)
        | (with_reducible refine wps_nil ?_)
        | (with_reducible refine wps_stepAlloc fun _ => ?_)
        | (with_reducible refine wps_alloc fun _ => ?_)
        | (with_reducible refine wps_newO fun _ => ?_)
        | (refine wps_ld _ (by rfl) ?_)
        | (refine wps_ldG _ _ _ (by rfl) ?_)
        | (refine wps_ldA _ (by rfl) ?_)
        | (refine wps_ldI _ (by rfl) ?_)
        | (refine wps_ldGI _ _ _ (by rfl) ?_)
        | (refine wps_ldAI _ (by rfl) ?_)
        | (refine wps_st (by simp) ?_)
        | (refine wps_stA (by simp) (by simp [Value.oneCell']) ?_)
        | ((with_reducible apply wps_val); apply val_ite; rotate_left; refine fun (_ : ¬ _) => ?_; rotate_right; refine fun (_ : _ = true) => ?_)
        | ((with_reducible apply val_ite); rotate_left; refine fun (_ : ¬ _) => ?_; rotate_right; refine fun (_ : _ = true) => ?_)
        | (with_reducible refine wps_regionH ?_)
        | ((with_reducible apply wps_bindV); apply val_iteL; rotate_left; refine fun (_ : ¬ _) => ?_; rotate_right; refine fun (_ : _ = true) => ?_)
        | ((with_reducible apply val_iteL); rotate_left; refine fun (_ : ¬ _) => ?_; rotate_right; refine fun (_ : _ = true) => ?_)
        | (with_reducible exact wps_pure (ent_val rfl)))
      refine wps_ite (fun h3 => ?_) (fun h3 => ?_)
      · repeat (first
          | (with_reducible refine wps_val (geo_others_val _) ?_)
          | (with_reducible refine wps_stepV (geo_others_val _) ?_)
          | (with_reducible refine wps_val (geo_places_val _) ?_)
          | (with_reducible refine wps_stepV (geo_places_val _) ?_)
          | (with_reducible refine wps_bindpure ?_)
          | (with_reducible refine wps_assoc ?_)
          | (with_reducible refine wps_nil ?_)
          | (with_reducible refine wps_stepAlloc fun _ => ?_)
          | (with_reducible refine wps_alloc fun _ => ?_)
          | (with_reducible refine wps_newO fun _ => ?_)
          | (refine wps_ld _ (by rfl) ?_)
          | (refine wps_ldG _ _ _ (by rfl) ?_)
          | (refine wps_ldA _ (by rfl) ?_)
          | (refine wps_ldI _ (by rfl) ?_)
          | (refine wps_ldGI _ _ _ (by rfl) ?_)
          | (refine wps_ldAI _ (by rfl) ?_)
          | (refine wps_st (by simp) ?_)
          | (refine wps_stA (by simp) (by simp [Value.oneCell']) ?_)
          | ((with_reducible apply wps_val); apply val_ite; rotate_left; refine fun (_ : ¬ _) => ?_; rotate_right; refine fun (_ : _ = true) => ?_)
          | ((with_reducible apply val_ite); rotate_left; refine fun (_ : ¬ _) => ?_; rotate_right; refine fun (_ : _ = true) => ?_)
          | (with_reducible refine wps_regionH ?_)
          | ((with_reducible apply wps_bindV); apply val_iteL; rotate_left; refine fun (_ : ¬ _) => ?_; rotate_right; refine fun (_ : _ = true) => ?_)
          | ((with_reducible apply val_iteL); rotate_left; refine fun (_ : ¬ _) => ?_; rotate_right; refine fun (_ : _ = true) => ?_)
          | (with_reducible exact wps_pure (ent_val rfl)))
        refine wps_pure (ent_val ?_)
        simp only [decide_eq_true_eq] at h1 h2 h3
        have hb : Bnd p := ⟨h1.1, h1.2, h2.1, h2.2, h3.1, h3.2⟩
        simp only [hb.others.1, hb.places.1, hb.prod, RightB, h1, h2, h3]
        simp
      · refine wps_pure (ent_val ?_)
        simp only [RightB, h1, h2, h3]; simp
    · refine wps_pure (ent_val ?_)
      simp only [RightB, h1, h2]; simp
  · refine wps_pure (ent_val ?_)
    simp only [RightB, h1]; simp
def SectorsI (p : G3) : Int := if RightB p then 5 + p.2.2 * p.2.1 else 0
theorem Bnd.sect {p : G3} (h : Bnd p) : w64 (5 + w64 (p.2.2 * p.2.1)) = 5 + p.2.2 * p.2.1 ∧ 12 ≤ p.2.2 * p.2.1 ∧ p.2.2 * p.2.1 ≤ 256 := by
  have h1 := h.r1
  have h2 := h.r4
  have h3 := h.s12
  have h4 := h.s64
  have h5 : p.2.2 * p.2.1 ≤ 64 * 4 := Int.mul_le_mul h4 h2 (by omega) (by omega)
  have h6 : 12 * 1 ≤ p.2.2 * p.2.1 := Int.mul_le_mul h3 h1 (by omega) (by omega)
  rw [w64_id (n := p.2.2 * p.2.1) (by omega) (by omega), w64_id (by omega) (by omega)]
  omega
theorem geo_Sectors_val {g : Fr} {H : HP} (p : G3) : Val g H (geo_Sectors p) (SectorsI p) := by
  unfold geo_Sectors
  repeat (first
    | (with_reducible refine wps_val (geo_Right_val _) ?_)
    | (with_reducible refine wps_stepV (geo_Right_val _) ?_)
    | (with_reducible refine wps_bindpure ?_)
    | (with_reducible refine wps_assoc ?_)
    | (with_reducible refine wps_nil ?_)
    | (with_reducible refine wps_stepAlloc fun _ => ?_)
    | (with_reducible refine wps_alloc fun _ => ?_)
    | (with_reducible refine wps_newO fun _ => ?_)
    | (refine wps_ld _ (by rfl) ?_)
    | (refine wps_ldG _ _ _ (by rfl) ?_)
    | (refine wps_ldA _ (by rfl) ?_)
    | (refine wps_ldI _ (by rfl) ?_)
    | (refine wps_ldGI _ _ _ (by rfl) ?_)
    | (refine wps_ldAI _ (by rfl) ?_)
    | (refine wps_st (by simp) ?_)
    | (refine wps_stA (by simp) (by simp [Value.oneCell']) ?_)
    | ((with_reducible apply wps_val); apply val_ite; rotate_left; refine fun (_ : ¬ _) => ?_; rotate_right; refine fun (_ : _ = true) => ?_)
    | ((with_reducible apply val_ite); rotate_left; refine fun (_ : ¬ _) => ?_; rotate_right; refine fun (_ : _ = true) => ?_)
    | (with_reducible refine wps_regionH ?_)
    | ((with_reducible apply wps_bindV); apply val_iteL; rotate_left; refine fun (_ : ¬ _) => ?_; rotate_right; refine fun (_ : _ = true) => ?_)
    | ((with_reducible apply val_iteL); rotate_left; refine fun (_ : ¬ _) => ?_; rotate_right; refine fun (_ : _ = true) => ?_)
    | (with_reducible exact wps_pure (ent_val rfl)))
  refine wps_ite (fun h1 => ?_) (fun h1 => ?_)
  · refine wps_pure (ent_val ?_)
    simp only [Bool.not_eq_true'] at h1
    simp [SectorsI, h1]
  · repeat (first
      | (with_reducible refine wps_bindpure ?_)
      | (with_reducible refine wps_assoc ?_)
      | (with_reducible refine wps_nil ?_)
      | (with_reducible refine wps_stepAlloc fun _ => ?_)
      | (with_reducible refine wps_alloc fun _ => ?_)
      | (with_reducible refine wps_newO fun _ => ?_)
      | (refine wps_ld _ (by rfl) ?_)
      | (refine wps_ldG _ _ _ (by rfl) ?_)
      | (refine wps_ldA _ (by rfl) ?_)
      | (refine wps_ldI _ (by rfl) ?_)
      | (refine wps_ldGI _ _ _ (by rfl) ?_)
      | (refine wps_ldAI _ (by rfl) ?_)
      | (refine wps_st (by simp) ?_)
      | (refine wps_stA (by simp) (by simp [Value.oneCell']) ?_)
      | ((with_reducible apply wps_val); apply val_ite; rotate_left; refine fun (_ : ¬ _) => ?_; rotate_right; refine fun (_ : _ = true) => ?_)
      | ((with_reducible apply val_ite); rotate_left; refine fun (_ : ¬ _) => ?_; rotate_right; refine fun (_ : _ = true) => ?_)
      | (with_reducible refine wps_regionH ?_)
      | ((with_reducible apply wps_bindV); apply val_iteL; rotate_left; refine fun (_ : ¬ _) => ?_; rotate_right; refine fun (_ : _ = true) => ?_)
      | ((with_reducible apply val_iteL); rotate_left; refine fun (_ : ¬ _) => ?_; rotate_right; refine fun (_ : _ = true) => ?_)
      | (with_reducible exact wps_pure (ent_val rfl)))
    refine wps_pure (ent_val ?_)
    have h1 : RightB p = true := by simpa using h1
    rw [(RightB.bnd h1).sect.1]
    simp [SectorsI, h1]
theorem ref03_Right_val {g : Fr} {H : HP} (p : G3) : Val g H (ref03_Right p) (RightB p) := by
  unfold ref03_Right
  apply val_eq
  · repeat (first
      | (with_reducible refine wps_bindpure ?_)
      | (with_reducible refine wps_assoc ?_)
      | (with_reducible refine wps_nil ?_)
      | (with_reducible refine wps_stepAlloc fun _ => ?_)
      | (with_reducible refine wps_alloc fun _ => ?_)
      | (with_reducible refine wps_newO fun _ => ?_)
      | (refine wps_ld _ (by rfl) ?_)
      | (refine wps_ldG _ _ _ (by rfl) ?_)
      | (refine wps_ldA _ (by rfl) ?_)
      | (refine wps_ldI _ (by rfl) ?_)
      | (refine wps_ldGI _ _ _ (by rfl) ?_)
      | (refine wps_ldAI _ (by rfl) ?_)
      | (refine wps_st (by simp) ?_)
      | (refine wps_stA (by simp) (by simp [Value.oneCell']) ?_)
      | ((with_reducible apply wps_val); apply val_ite; rotate_left; refine fun (_ : ¬ _) => ?_; rotate_right; refine fun (_ : _ = true) => ?_)
      | ((with_reducible apply val_ite); rotate_left; refine fun (_ : ¬ _) => ?_; rotate_right; refine fun (_ : _ = true) => ?_)
      | (with_reducible refine wps_regionH ?_)
      | ((with_reducible apply wps_bindV); apply val_iteL; rotate_left; refine fun (_ : ¬ _) => ?_; rotate_right; refine fun (_ : _ = true) => ?_)
      | ((with_reducible apply val_iteL); rotate_left; refine fun (_ : ¬ _) => ?_; rotate_right; refine fun (_ : _ = true) => ?_)
      | (with_reducible exact wps_pure (ent_val rfl)))
  · by_cases h1 : 3 ≤ p.1
    · by_cases h2 : p.1 ≤ 16
      · by_cases h3 : 1 ≤ p.2.1
        · by_cases h4 : p.2.1 ≤ 4
          · by_cases h5 : 12 ≤ p.2.2
            · by_cases h6 : p.2.2 ≤ 64
              · have hb : Bnd p := ⟨h1, h2, h3, h4, h5, h6⟩
                simp only [hb.others.1, hb.places.1, hb.prod]
                simp [RightB, h1, h2, h3, h4, h5, h6, Int.not_lt]
              · simp [RightB, h6, Int.not_le.1 h6]
            · simp [RightB, h5, Int.not_le.1 h5]
          · simp [RightB, h4, Int.not_le.1 h4]
        · simp [RightB, h3, Int.not_le.1 h3]
      · simp [RightB, h2, Int.not_le.1 h2]
    · simp [RightB, h1, Int.not_le.1 h1]
theorem ref03_Sectors_val {g : Fr} {H : HP} (p : G3) : Val g H (ref03_Sectors p) (SectorsI p) := by
  unfold ref03_Sectors
  apply val_eq
  · repeat (first
      | (with_reducible refine wps_val (ref03_Right_val _) ?_)
      | (with_reducible refine wps_stepV (ref03_Right_val _) ?_)
      | (with_reducible refine wps_bindpure ?_)
      | (with_reducible refine wps_assoc ?_)
      | (with_reducible refine wps_nil ?_)
      | (with_reducible refine wps_stepAlloc fun _ => ?_)
      | (with_reducible refine wps_alloc fun _ => ?_)
      | (with_reducible refine wps_newO fun _ => ?_)
      | (refine wps_ld _ (by rfl) ?_)
      | (refine wps_ldG _ _ _ (by rfl) ?_)
      | (refine wps_ldA _ (by rfl) ?_)
      | (refine wps_ldI _ (by rfl) ?_)
      | (refine wps_ldGI _ _ _ (by rfl) ?_)
      | (refine wps_ldAI _ (by rfl) ?_)
      | (refine wps_st (by simp) ?_)
      | (refine wps_stA (by simp) (by simp [Value.oneCell']) ?_)
      | ((with_reducible apply wps_val); apply val_ite; rotate_left; refine fun (_ : ¬ _) => ?_; rotate_right; refine fun (_ : _ = true) => ?_)
      | ((with_reducible apply val_ite); rotate_left; refine fun (_ : ¬ _) => ?_; rotate_right; refine fun (_ : _ = true) => ?_)
      | (with_reducible refine wps_regionH ?_)
      | ((with_reducible apply wps_bindV); apply val_iteL; rotate_left; refine fun (_ : ¬ _) => ?_; rotate_right; refine fun (_ : _ = true) => ?_)
      | ((with_reducible apply val_iteL); rotate_left; refine fun (_ : ¬ _) => ?_; rotate_right; refine fun (_ : _ = true) => ?_)
      | (with_reducible exact wps_pure (ent_val rfl)))
  · by_cases h1 : RightB p = true
    · simp [h1, SectorsI, (RightB.bnd h1).sect.1]
    · simp [h1, SectorsI]
def FitsB (p m : G3) : Bool := m.2.2 == 0 || ((m.2.2 == 1 || m.2.2 == 2) && (decide (0 ≤ m.2.1) && decide (m.2.1 < p.1)))
theorem bank_fits_val {g : Fr} {H : HP} (p m : G3) : Val g H (bank_fits p m) (FitsB p m) := by
  unfold bank_fits
  apply val_eq
  · repeat (first
      | (with_reducible refine wps_bindpure ?_)
      | (with_reducible refine wps_assoc ?_)
      | (with_reducible refine wps_nil ?_)
      | (with_reducible refine wps_stepAlloc fun _ => ?_)
      | (with_reducible refine wps_alloc fun _ => ?_)
      | (with_reducible refine wps_newO fun _ => ?_)
      | (refine wps_ld _ (by rfl) ?_)
      | (refine wps_ldG _ _ _ (by rfl) ?_)
      | (refine wps_ldA _ (by rfl) ?_)
      | (refine wps_ldI _ (by rfl) ?_)
      | (refine wps_ldGI _ _ _ (by rfl) ?_)
      | (refine wps_ldAI _ (by rfl) ?_)
      | (refine wps_st (by simp) ?_)
      | (refine wps_stA (by simp) (by simp [Value.oneCell']) ?_)
      | ((with_reducible apply wps_val); apply val_ite; rotate_left; refine fun (_ : ¬ _) => ?_; rotate_right; refine fun (_ : _ = true) => ?_)
      | ((with_reducible apply val_ite); rotate_left; refine fun (_ : ¬ _) => ?_; rotate_right; refine fun (_ : _ = true) => ?_)
      | (with_reducible refine wps_regionH ?_)
      | ((with_reducible apply wps_bindV); apply val_iteL; rotate_left; refine fun (_ : ¬ _) => ?_; rotate_right; refine fun (_ : _ = true) => ?_)
      | ((with_reducible apply val_iteL); rotate_left; refine fun (_ : ¬ _) => ?_; rotate_right; refine fun (_ : _ = true) => ?_)
      | (with_reducible exact wps_pure (ent_val rfl)))
  · simp only [FitsB]
    by_cases h0 : m.2.2 = 0
    · simp [h0]
    · by_cases h1 : m.2.2 = 1
      · simp [h1]
      · by_cases h2 : m.2.2 = 2
        · simp [h2]
        · simp [h0, h1, h2]
theorem ref06_Fits_val {g : Fr} {H : HP} (p m : G3) : Val g H (ref06_Fits p m) (FitsB p m) := by
  unfold ref06_Fits
  apply val_eq
  · repeat (first
      | (with_reducible refine wps_bindpure ?_)
      | (with_reducible refine wps_assoc ?_)
      | (with_reducible refine wps_nil ?_)
      | (with_reducible refine wps_stepAlloc fun _ => ?_)
      | (with_reducible refine wps_alloc fun _ => ?_)
      | (with_reducible refine wps_newO fun _ => ?_)
      | (refine wps_ld _ (by rfl) ?_)
      | (refine wps_ldG _ _ _ (by rfl) ?_)
      | (refine wps_ldA _ (by rfl) ?_)
      | (refine wps_ldI _ (by rfl) ?_)
      | (refine wps_ldGI _ _ _ (by rfl) ?_)
      | (refine wps_ldAI _ (by rfl) ?_)
      | (refine wps_st (by simp) ?_)
      | (refine wps_stA (by simp) (by simp [Value.oneCell']) ?_)
      | ((with_reducible apply wps_val); apply val_ite; rotate_left; refine fun (_ : ¬ _) => ?_; rotate_right; refine fun (_ : _ = true) => ?_)
      | ((with_reducible apply val_ite); rotate_left; refine fun (_ : ¬ _) => ?_; rotate_right; refine fun (_ : _ = true) => ?_)
      | (with_reducible refine wps_regionH ?_)
      | ((with_reducible apply wps_bindV); apply val_iteL; rotate_left; refine fun (_ : ¬ _) => ?_; rotate_right; refine fun (_ : _ = true) => ?_)
      | ((with_reducible apply val_iteL); rotate_left; refine fun (_ : ¬ _) => ?_; rotate_right; refine fun (_ : _ = true) => ?_)
      | (with_reducible exact wps_pure (ent_val rfl)))
  · simp only [FitsB]
    by_cases h0 : m.2.2 = 0
    · simp [h0]
    · by_cases h1 : m.2.2 = 1
      · simp [h1]
      · by_cases h2 : m.2.2 = 2
        · simp [h2]
        · have : ¬ (0 ≤ m.2.2 ∧ m.2.2 ≤ 2) := by omega
          by_cases h3 : 0 ≤ m.2.2
          · have h4 : ¬ m.2.2 ≤ 2 := fun h => this ⟨h3, h⟩
            simp [h0, h1, h2, h3, h4]
          · simp [h0, h1, h2, h3]
end Go.Proofs.Ytldmeimebebllaa
namespace Go.Proofs.Ytldmeimebebllaa
open Go.Mo
set_option linter.unusedVariables false
def imp (p : Prop) (A : HP) : HP := ⟨fun o => p → A.p o, fun hl h hp => A.up hl (h hp)⟩
instance (p : Prop) (A : HP) [h : Pers A] : Pers (imp p A) := ⟨fun o ho hp => h.core o (ho hp)⟩
def bv (b : List Int) : List Value := b.map (Value.int .u8)
def byt (s : Slc) (b : List Int) : HP := rsl 1 s (bv b)
instance (s : Slc) (b : List Int) : Pers (byt s b) := by unfold byt; infer_instance
theorem bv_one (b : List Int) : ∀ v ∈ bv b, v.oneCell' = true := by
  intro v hv
  simp only [bv, List.mem_map] at hv
  obtain ⟨n, _, rfl⟩ := hv
  rfl
def seqp (l : List Slc) (f : Nat → List Int) : HP := al fun k : Nat => al fun s : Slc => imp (l[k]? = some s) (byt s (f k))
instance (l : List Slc) (f : Nat → List Int) : Pers (seqp l f) := by unfold seqp; infer_instance
theorem seqp_nil (A : HP) (f : Nat → List Int) : Ent A (seqp [] f) := fun o _ k s h => by simp at h
theorem seqp_get {l : List Slc} {f : Nat → List Int} {k : Nat} {s : Slc} (h : l[k]? = some s) : Ent (seqp l f) (byt s (f k)) := fun o ho => ho k s h
theorem seqp_snoc {A : HP} {l : List Slc} {f : Nat → List Int} {s : Slc} (h : Ent A (seqp l f)) (hs : Ent A (byt s (f l.length))) : Ent A (seqp (l ++ [s]) f) := fun o ho k t hk => by
  by_cases hlt : k < l.length
  · rw [List.getElem?_append_left hlt] at hk
    exact h o ho k t hk
  · have : k = l.length := by
      have := (List.getElem?_eq_some_iff.1 hk).1
      simp only [List.length_append, List.length_singleton] at this
      omega
    subst this
    simp at hk
    subst hk
    exact hs o ho
theorem seqp_set {A : HP} {l : List Slc} {f : Nat → List Int} {k : Nat} {s : Slc} {b : List Int} (h : Ent A (seqp l f)) (hs : Ent A (byt s b)) : Ent A (seqp (l.set k s) (fun j => if j = k then b else f j)) := fun o ho j t hj => by
  by_cases hjk : j = k
  · subst hjk
    rw [List.getElem?_set] at hj
    simp only [if_true] at hj
    split at hj
    · cases hj; simp only [if_true]; exact hs o ho
    · cases hj
  · rw [List.getElem?_set_ne (fun e => hjk e.symm)] at hj
    simp only [if_neg hjk]
    exact h o ho j t hj
def cachep (sc : Int → Slc) (c : Int → Option (List Int)) : HP := al fun k : Int => al fun b : List Int => imp (c k = some b) (byt (sc k) b)
instance (sc : Int → Slc) (c : Int → Option (List Int)) : Pers (cachep sc c) := by unfold cachep; infer_instance
theorem cachep_nil (A : HP) (sc : Int → Slc) : Ent A (cachep sc fun _ => none) := fun o _ k b h => by cases h
theorem cachep_get {sc : Int → Slc} {c : Int → Option (List Int)} {k : Int} {b : List Int} (h : c k = some b) : Ent (cachep sc c) (byt (sc k) b) := fun o ho => ho k b h
theorem cachep_put {A : HP} {sc : Int → Slc} {c : Int → Option (List Int)} {k : Int} {s : Slc} {b : List Int} (h : Ent A (cachep sc c)) (hs : Ent A (byt s b)) :
    Ent A (cachep (fun j => if j = k then s else sc j) (fun j => if j = k then some b else c j)) := fun o ho j b' hj => by
  by_cases hjk : j = k
  · subst hjk
    simp only [if_true] at hj ⊢
    cases hj
    exact hs o ho
  · simp only [if_neg hjk] at hj ⊢
    exact h o ho j b' hj
def bst : Nat → (Nat → HP) → HP
  | 0, _ => emp
  | n + 1, F => bst n F * F n
theorem bst_congr {n : Nat} {F F' : Nat → HP} (h : ∀ i, i < n → F i = F' i) : bst n F = bst n F' := by
  induction n with
  | zero => rfl
  | succ n ih => simp only [bst]; rw [ih fun i hi => h i (by omega), h n (by omega)]
def hole (j : Nat) (F : Nat → HP) : Nat → HP := fun i => if i = j then emp else F i
theorem bst_focus {n j : Nat} (F : Nat → HP) (hj : j < n) : bst n F = bst n (hole j F) * F j := by
  induction n with
  | zero => omega
  | succ n ih =>
    simp only [bst]
    by_cases h : j = n
    · subst h
      have : bst j (hole j F) = bst j F := bst_congr fun i hi => by simp only [hole]; rw [if_neg (by omega)]
      rw [this]
      simp only [hole, if_true, star_emp]
    · rw [ih (by omega), star_right_comm]
      congr 1
      simp only [hole]
      rw [if_neg (fun e => h e.symm)]
theorem hole_congr {n j : Nat} {F F' : Nat → HP} (h : ∀ i, i < n → i ≠ j → F i = F' i) : bst n (hole j F) = bst n (hole j F') := bst_congr fun i hi => by
  simp only [hole]
  split
  · rfl
  · rename_i hne; exact h i hi hne
theorem bst_put {n j : Nat} {F F' : Nat → HP} (hj : j < n) (h : ∀ i, i < n → i ≠ j → F i = F' i) : bst n F' = bst n (hole j F) * F' j := by
  rw [bst_focus F' hj, hole_congr h]
theorem ent_bst {n j : Nat} {F F' : Nat → HP} {B H : HP} (hj : j < n) (h : ∀ i, i < n → i ≠ j → F i = F' i) (h' : Ent H (B * bst n (hole j F) * F' j)) : Ent H (B * bst n F') := by
  rw [bst_put hj h, ← star_assoc]; exact h'
structure Dk where
  lasts : Nat → List Int
  cached : Int → Option (List Int)
  failed : Bool
  count : Int
def Dk.ok (D : Dk) (ns : Nat) : Prop := (∀ k, k < ns → (D.lasts k).length = 64) ∧ ∀ j b, D.cached j = some b → b.length = 64 ∧ 0 ≤ j ∧ j < ns
structure Rk where
  n : Nat
  ns : Nat
  dk : Nat → Dk
  count : Int
  off : Bool
def pv (b : Nat) : Value := .pointer (some ⟨b, 0, none⟩)
def dskX (ns p : Nat) (D : Dk) (ls : Slc) (mb : Nat) (sl : List Slc) (sc : Int → Slc) : HP :=
  pr (sl.length = ns ∧ ls.len = ns ∧ D.ok ns) * (seqp sl D.lasts * cachep sc D.cached) * imap mb (fun j => (D.cached j).map fun _ => vS (sc j)) * own 1 ls (sl.map vS) * pc p [vS ls, .map (some mb), .bool D.failed, .int .i64 D.count]
def dskAt (ns p : Nat) (D : Dk) : HP := ex fun ls : Slc => ex fun mb : Nat => ex fun sl : List Slc => ex fun sc : Int → Slc => dskX ns p D ls mb sl sc
def rackF (ns : Nat) (dk : Nat → Dk) (ps : List Nat) : Nat → HP := fun j => dskAt ns (ps.getD j 0) (dk j)
def rackP (rb : Nat) (R : Rk) (ds : Slc) (ps : List Nat) : HP :=
  pr (ps.length = R.n ∧ ds.len = R.n ∧ R.n ≤ 17 ∧ R.ns ≤ 4096) * bst R.n (rackF R.ns R.dk ps) * own 1 ds (ps.map pv) * pc rb [vS ds, .int .i64 R.ns, .int .i64 R.count, .bool R.off]
def rack (rb : Nat) (R : Rk) : HP := ex fun ds : Slc => ex fun ps : List Nat => rackP rb R ds ps
def noughts : List Int := List.replicate 64 0
def Dk.new : Dk := ⟨fun _ => noughts, fun _ => none, false, -1⟩
def Rk.new (n s : Nat) : Rk := ⟨n, s, fun _ => Dk.new, -1, false⟩
abbrev ptr (b : Nat) : Option Addr := some ⟨b, 0, none⟩
end Go.Proofs.Ytldmeimebebllaa
namespace Go.Proofs.Ytldmeimebebllaa
open Go.Mo
set_option linter.unusedVariables false
theorem range_add1 {n : Nat} {i : Int} (h : i = (n : Int)) (h2 : n < 4611686018427387904) : w64 (i + 1) = ((n + 1 : Nat) : Int) := by
  subst h; rw [w64_id] <;> omega
theorem bv_noughts : bv noughts = List.replicate 64 (Value.int .u8 0) := by simp [bv, noughts]
def dwd (p0_disks p1_sectors : Int) (x24 : Nat) : Int → HP := fun i => ex fun ds : Slc => ex fun ps : List Nat =>
  pr (i = (ps.length : Int) ∧ ps.length ≤ p0_disks.toNat ∧ ds.len = ps.length) * bst ps.length (rackF p1_sectors.toNat (fun _ => Dk.new) ps) * own 1 ds (ps.map pv) * pc x24 [vS ds, .int .i64 p1_sectors, .int .i64 (-1), .bool false]
def dws (p1_sectors : Int) (F : HP) (d m : Nat) : Int → HP := fun k => ex fun ls : Slc => ex fun sl : List Slc =>
  pr (k = (sl.length : Int) ∧ sl.length ≤ p1_sectors.toNat ∧ ls.len = sl.length) * F * seqp sl (fun _ => noughts) * imap m (fun _ => none) * own 1 ls (sl.map vS) * pc d [vS ls, .map (some m), .bool false, .int .i64 (-1)]
theorem device_New_spec {g : Fr} (n s : Int) : wps g emp (device_New n s) (fun x =>
    if n < 1 ∨ n > 17 ∨ s < 1 ∨ s > 4096 then pr (x = (none, 10)) else ex fun rb => pr (x = (ptr rb, 0)) * rack rb (Rk.new n.toNat s.toNat)) := by
  unfold device_New
  repeat (first
    | (with_reducible refine wps_bindpure ?_)
    | (with_reducible refine wps_assoc ?_)
    | (with_reducible refine wps_nil ?_)
    | (with_reducible refine wps_stepAlloc fun _ => ?_)
    | (with_reducible refine wps_alloc fun _ => ?_)
    | (with_reducible refine wps_newO fun _ => ?_)
    | (refine wps_ld _ (by rfl) ?_)
    | (refine wps_ldG _ _ _ (by rfl) ?_)
    | (refine wps_ldA _ (by rfl) ?_)
    | (refine wps_ldI _ (by rfl) ?_)
    | (refine wps_ldGI _ _ _ (by rfl) ?_)
    | (refine wps_ldAI _ (by rfl) ?_)
    | (refine wps_st (by simp) ?_)
    | (refine wps_stA (by simp) (by simp [Value.oneCell']) ?_)
    | ((with_reducible apply wps_val); apply val_ite; rotate_left; refine fun (_ : ¬ _) => ?_; rotate_right; refine fun (_ : _ = true) => ?_)
    | ((with_reducible apply val_ite); rotate_left; refine fun (_ : ¬ _) => ?_; rotate_right; refine fun (_ : _ = true) => ?_)
    | (with_reducible refine wps_regionH ?_)
    | ((with_reducible apply wps_bindV); apply val_iteL; rotate_left; refine fun (_ : ¬ _) => ?_; rotate_right; refine fun (_ : _ = true) => ?_)
    | ((with_reducible apply val_iteL); rotate_left; refine fun (_ : ¬ _) => ?_; rotate_right; refine fun (_ : _ = true) => ?_)
    | (with_reducible exact wps_pure (ent_val rfl)))
  refine wps_ite (fun h1 => ?_) (fun h1 => ?_)
  · refine wps_pure ?_
    rw [if_pos]
    · exact fun _ _ => rfl
    · by_cases a1 : n < 1
      · exact .inl a1
      · by_cases a2 : n > 17
        · exact .inr (.inl a2)
        · by_cases a3 : s < 1
          · exact .inr (.inr (.inl a3))
          · by_cases a4 : s > 4096
            · exact .inr (.inr (.inr a4))
            · simp [a1, a2, a3, a4] at h1
  · have hb : ¬ (n < 1 ∨ n > 17 ∨ s < 1 ∨ s > 4096) := by
      intro hx
      apply h1
      rcases hx with a | a | a | a <;> simp [a]
    simp only [if_neg hb]
    obtain ⟨N, rfl⟩ : ∃ N : Nat, n = (N : Int) := ⟨n.toNat, by omega⟩
    obtain ⟨S, rfl⟩ : ∃ S : Nat, s = (S : Int) := ⟨s.toNat, by omega⟩
    have hN : N ≤ 17 := by omega
    have hS : S ≤ 4096 := by omega
    refine wps_alloc fun x24 => ?_
    refine wps_loop (dwd N S x24) (fun i => (N - i).toNat) ?_ fun i => ?_
    · refine ent_ex nilS (ent_ex [] (ent_pickC (by rfl) (ent_own0 ?_)))
      exact ent_prr (by simp [nilS]) (ent_emp _)
    · unfold dwd
      refine wps_ex fun ds => wps_ex fun ps => wps_prP fun ⟨hi, hle, hlen⟩ => ?_
      refine wps_ite (fun h2 => ?_) (fun h2 => ?_)
      · have hlt : ps.length < N := by simp only [decide_eq_true_eq] at h2; omega
        repeat (first
          | (with_reducible refine wps_bindpure ?_)
          | (with_reducible refine wps_assoc ?_)
          | (with_reducible refine wps_nil ?_)
          | (with_reducible refine wps_stepAlloc fun _ => ?_)
          | (with_reducible refine wps_alloc fun _ => ?_)
          | (with_reducible refine wps_newO fun _ => ?_)
          | (refine wps_ld _ (by rfl) ?_)
          | (refine wps_ldG _ _ _ (by rfl) ?_)
          | (refine wps_ldA _ (by rfl) ?_)
          | (refine wps_ldI _ (by rfl) ?_)
          | (refine wps_ldGI _ _ _ (by rfl) ?_)
          | (refine wps_ldAI _ (by rfl) ?_)
          | (refine wps_st (by simp) ?_)
          | (refine wps_stA (by simp) (by simp [Value.oneCell']) ?_)
          | ((with_reducible apply wps_val); apply val_ite; rotate_left; refine fun (_ : ¬ _) => ?_; rotate_right; refine fun (_ : _ = true) => ?_)
          | ((with_reducible apply val_ite); rotate_left; refine fun (_ : ¬ _) => ?_; rotate_right; refine fun (_ : _ = true) => ?_)
          | (with_reducible refine wps_regionH ?_)
          | ((with_reducible apply wps_bindV); apply val_iteL; rotate_left; refine fun (_ : ¬ _) => ?_; rotate_right; refine fun (_ : _ = true) => ?_)
          | ((with_reducible apply val_iteL); rotate_left; refine fun (_ : ¬ _) => ?_; rotate_right; refine fun (_ : _ = true) => ?_)
          | (with_reducible exact wps_pure (ent_val rfl)))
        rename_i m d
        refine wps_loop (dws S (bst ps.length (rackF (S : Int).toNat (fun _ => Dk.new) ps) * own 1 ds (ps.map pv) * pc x24 [vS ds, .int .i64 S, .int .i64 (-1), .bool false]) d m) (fun k => (S - k).toNat) ?_ fun k => ?_
        · refine ent_ex nilS (ent_ex [] (ent_pickC (by rfl) (ent_own0 ?_)))
          refine ent_swap (imap_new m) (ent_pick (ent_pers ?_ (seqp_nil _ _)))
          exact ent_prr (by simp [nilS]) (Ent.of_eq (by simp only [emp_star]))
        · unfold dws
          refine wps_ex fun ls => wps_ex fun sl => wps_prP fun ⟨hk, hsle, hslen⟩ => ?_
          refine wps_ite (fun h3 => ?_) (fun h3 => ?_)
          · have hslt : sl.length < S := by simp only [decide_eq_true_eq] at h3; omega
            repeat (first
              | (with_reducible refine wps_bindpure ?_)
              | (with_reducible refine wps_assoc ?_)
              | (with_reducible refine wps_nil ?_)
              | (with_reducible refine wps_stepAlloc fun _ => ?_)
              | (with_reducible refine wps_alloc fun _ => ?_)
              | (with_reducible refine wps_newO fun _ => ?_)
              | (refine wps_ld _ (by rfl) ?_)
              | (refine wps_ldG _ _ _ (by rfl) ?_)
              | (refine wps_ldA _ (by rfl) ?_)
              | (refine wps_ldI _ (by rfl) ?_)
              | (refine wps_ldGI _ _ _ (by rfl) ?_)
              | (refine wps_ldAI _ (by rfl) ?_)
              | (refine wps_st (by simp) ?_)
              | (refine wps_stA (by simp) (by simp [Value.oneCell']) ?_)
              | ((with_reducible apply wps_val); apply val_ite; rotate_left; refine fun (_ : ¬ _) => ?_; rotate_right; refine fun (_ : _ = true) => ?_)
              | ((with_reducible apply val_ite); rotate_left; refine fun (_ : ¬ _) => ?_; rotate_right; refine fun (_ : _ = true) => ?_)
              | (with_reducible refine wps_regionH ?_)
              | ((with_reducible apply wps_bindV); apply val_iteL; rotate_left; refine fun (_ : ¬ _) => ?_; rotate_right; refine fun (_ : _ = true) => ?_)
              | ((with_reducible apply val_iteL); rotate_left; refine fun (_ : ¬ _) => ?_; rotate_right; refine fun (_ : _ = true) => ?_)
              | (with_reducible exact wps_pure (ent_val rfl)))
            rename_i x c
            refine wps_app 1 [Value.slice (some ⟨x, 0, none⟩) 64 64] rfl (by decide) (rsl_pc rfl) (by simp [Value.oneCell']) (by (try dsimp only); omega) fun ls' hls => ?_
            repeat (first
              | (with_reducible refine wps_bindpure ?_)
              | (with_reducible refine wps_assoc ?_)
              | (with_reducible refine wps_nil ?_)
              | (with_reducible refine wps_stepAlloc fun _ => ?_)
              | (with_reducible refine wps_alloc fun _ => ?_)
              | (with_reducible refine wps_newO fun _ => ?_)
              | (refine wps_ld _ (by rfl) ?_)
              | (refine wps_ldG _ _ _ (by rfl) ?_)
              | (refine wps_ldA _ (by rfl) ?_)
              | (refine wps_ldI _ (by rfl) ?_)
              | (refine wps_ldGI _ _ _ (by rfl) ?_)
              | (refine wps_ldAI _ (by rfl) ?_)
              | (refine wps_st (by simp) ?_)
              | (refine wps_stA (by simp) (by simp [Value.oneCell']) ?_)
              | ((with_reducible apply wps_val); apply val_ite; rotate_left; refine fun (_ : ¬ _) => ?_; rotate_right; refine fun (_ : _ = true) => ?_)
              | ((with_reducible apply val_ite); rotate_left; refine fun (_ : ¬ _) => ?_; rotate_right; refine fun (_ : _ = true) => ?_)
              | (with_reducible refine wps_regionH ?_)
              | ((with_reducible apply wps_bindV); apply val_iteL; rotate_left; refine fun (_ : ¬ _) => ?_; rotate_right; refine fun (_ : _ = true) => ?_)
              | ((with_reducible apply val_iteL); rotate_left; refine fun (_ : ¬ _) => ?_; rotate_right; refine fun (_ : _ = true) => ?_)
              | (with_reducible exact wps_pure (ent_val rfl)))
            refine wps_pure (ent_prr (by rw [range_add1 hk (by omega)]; omega) (ent_ex ls' (ent_ex (sl ++ [⟨some ⟨x, 0, none⟩, 64, 64⟩]) (ent_pickC (by rfl) (ent_pickS (by simp [vS]) (ent_pickM rfl ?_))))))
            refine ent_swap (A := pc x (List.replicate 64 (Value.int .u8 0))) (B := byt ⟨some ⟨x, 0, none⟩, 64, 64⟩ noughts) (Ent.trans (Ent.trans (pc_own (n := 64) (z := 1) (by simp)) (own_rsl _ _ _)) (Ent.of_eq (by rw [byt, bv_noughts]))) ?_
            exact ent_join (A := seqp sl fun _ => noughts) (B := byt ⟨some ⟨x, 0, none⟩, 64, 64⟩ noughts) (seqp_snoc (ent_left _ _) (ent_right _ _)) (ent_prr ⟨by rw [range_add1 hk (by omega)]; simp, by simp; omega, by simp [hls, hslen]⟩ ent_drop)
          · have hse : sl.length = S := by simp only [decide_eq_true_eq] at h3; omega
            refine wps_mapR ?_
            repeat (first
              | (with_reducible refine wps_bindpure ?_)
              | (with_reducible refine wps_assoc ?_)
              | (with_reducible refine wps_nil ?_)
              | (with_reducible refine wps_stepAlloc fun _ => ?_)
              | (with_reducible refine wps_alloc fun _ => ?_)
              | (with_reducible refine wps_newO fun _ => ?_)
              | (refine wps_ld _ (by rfl) ?_)
              | (refine wps_ldG _ _ _ (by rfl) ?_)
              | (refine wps_ldA _ (by rfl) ?_)
              | (refine wps_ldI _ (by rfl) ?_)
              | (refine wps_ldGI _ _ _ (by rfl) ?_)
              | (refine wps_ldAI _ (by rfl) ?_)
              | (refine wps_st (by simp) ?_)
              | (refine wps_stA (by simp) (by simp [Value.oneCell']) ?_)
              | ((with_reducible apply wps_val); apply val_ite; rotate_left; refine fun (_ : ¬ _) => ?_; rotate_right; refine fun (_ : _ = true) => ?_)
              | ((with_reducible apply val_ite); rotate_left; refine fun (_ : ¬ _) => ?_; rotate_right; refine fun (_ : _ = true) => ?_)
              | (with_reducible refine wps_regionH ?_)
              | ((with_reducible apply wps_bindV); apply val_iteL; rotate_left; refine fun (_ : ¬ _) => ?_; rotate_right; refine fun (_ : _ = true) => ?_)
              | ((with_reducible apply val_iteL); rotate_left; refine fun (_ : ¬ _) => ?_; rotate_right; refine fun (_ : _ = true) => ?_)
              | (with_reducible exact wps_pure (ent_val rfl)))
            rename_i c
            refine wps_app 1 [pv d] rfl (by decide) (rsl_pc rfl) (by simp [Value.oneCell', pv]) (by (try dsimp only); omega) fun ds' hds => ?_
            repeat (first
              | (with_reducible refine wps_bindpure ?_)
              | (with_reducible refine wps_assoc ?_)
              | (with_reducible refine wps_nil ?_)
              | (with_reducible refine wps_stepAlloc fun _ => ?_)
              | (with_reducible refine wps_alloc fun _ => ?_)
              | (with_reducible refine wps_newO fun _ => ?_)
              | (refine wps_ld _ (by rfl) ?_)
              | (refine wps_ldG _ _ _ (by rfl) ?_)
              | (refine wps_ldA _ (by rfl) ?_)
              | (refine wps_ldI _ (by rfl) ?_)
              | (refine wps_ldGI _ _ _ (by rfl) ?_)
              | (refine wps_ldAI _ (by rfl) ?_)
              | (refine wps_st (by simp) ?_)
              | (refine wps_stA (by simp) (by simp [Value.oneCell']) ?_)
              | ((with_reducible apply wps_val); apply val_ite; rotate_left; refine fun (_ : ¬ _) => ?_; rotate_right; refine fun (_ : _ = true) => ?_)
              | ((with_reducible apply val_ite); rotate_left; refine fun (_ : ¬ _) => ?_; rotate_right; refine fun (_ : _ = true) => ?_)
              | (with_reducible refine wps_regionH ?_)
              | ((with_reducible apply wps_bindV); apply val_iteL; rotate_left; refine fun (_ : ¬ _) => ?_; rotate_right; refine fun (_ : _ = true) => ?_)
              | ((with_reducible apply val_iteL); rotate_left; refine fun (_ : ¬ _) => ?_; rotate_right; refine fun (_ : _ = true) => ?_)
              | (with_reducible exact wps_pure (ent_val rfl)))
            refine wps_pure (ent_prr (by rw [range_add1 hi (by omega)]; omega) (ent_ex ds' (ent_ex (ps ++ [d]) (ent_pickC (by rfl) (ent_pickS (by simp [pv]) ?_)))))
            have hdk : Ent (seqp sl (fun _ => noughts) * imap m (fun _ => none) * own 1 ls (sl.map vS) * pc d [vS ls, .map (some m), .bool false, .int .i64 (-1)]) (dskAt S d Dk.new) := by
              refine ent_ex ls (ent_ex m (ent_ex sl (ent_ex (fun _ => nilS) (ent_pickC (by rfl) (ent_pick (ent_pickM (by rfl) ?_))))))
              refine ent_prr ⟨hse, by omega, fun k _ => by simp [Dk.new, noughts], fun j b hj => by cases hj⟩ ?_
              exact ent_pers (Ent.refl _) (cachep_nil _ _)
            have hbb : bst (ps ++ [d]).length (rackF (S : Int).toNat (fun _ => Dk.new) (ps ++ [d])) = bst ps.length (rackF (S : Int).toNat (fun _ => Dk.new) ps) * dskAt S d Dk.new := by
              rw [List.length_append, List.length_singleton]
              simp only [bst]
              congr 1
              · exact bst_congr fun i hi => by simp [rackF, List.getD_eq_getElem?_getD, List.getElem?_append_left hi]
              · simp [rackF, List.getD_eq_getElem?_getD]
            rw [hbb]
            refine ent_prr ⟨by rw [range_add1 hi (by omega)]; simp, by simp; omega, by simp [hds, hlen]⟩ ?_
            refine Ent.trans (B := bst ps.length (rackF (S : Int).toNat (fun _ => Dk.new) ps) * (seqp sl (fun _ => noughts) * imap m (fun _ => none) * own 1 ls (sl.map vS) * pc d [vS ls, .map (some m), .bool false, .int .i64 (-1)])) ?_ (Ent.starr hdk)
            simp only [← star_assoc]
            refine ent_pick (ent_pick (ent_pick (ent_pick (ent_drop))))
      · have hpe : ps.length = N := by simp only [decide_eq_true_eq] at h2; omega
        refine wps_mapR (wps_pure (ent_ex x24 (ent_prr rfl (ent_ex ds (ent_ex ps (ent_pickC (by rfl) (ent_pick ?_)))))))
        exact ent_prr ⟨hpe, by rw [hlen, hpe]; rfl, hN, hS⟩ (by subst hpe; exact ent_pick1 (A := bst ps.length (rackF (S : Int).toNat (fun _ => Dk.new) ps)))
end Go.Proofs.Ytldmeimebebllaa
namespace Go.Proofs.Ytldmeimebebllaa
open Go.Mo
set_option linter.unusedVariables false
def diskV (R : Rk) (ps : List Nat) (k s : Int) : Option Addr × Int :=
  if R.off then (none, 12) else if k < 0 ∨ k ≥ R.n ∨ s < 0 ∨ s ≥ R.ns then (none, 11) else (ptr (ps.getD k.toNat 0), 0)
variable {g : Fr}
theorem or_tree {a b c d : Prop} [Decidable a] [Decidable b] [Decidable c] [Decidable d] :
    ((if (if (if decide a = true then true else decide b) = true then true else decide c) = true then true else decide d) = true) = (a ∨ b ∨ c ∨ d) := by
  by_cases ha : a <;> by_cases hb : b <;> by_cases hc : c <;> by_cases hd : d <;> simp [ha, hb, hc, hd]
theorem device_Rack_disk_val (rb : Nat) (R : Rk) (ds : Slc) (ps : List Nat) (k s : Int) : Val g (rackP rb R ds ps) (device_Rack_disk (ptr rb) k s) (diskV R ps k s) := by
  unfold device_Rack_disk rackP
  refine wps_factP fun ⟨h1, h2, h17, hns⟩ => ?_
  repeat (first
    | (with_reducible refine wps_bindpure ?_)
    | (with_reducible refine wps_assoc ?_)
    | (with_reducible refine wps_nil ?_)
    | (with_reducible refine wps_stepAlloc fun _ => ?_)
    | (with_reducible refine wps_alloc fun _ => ?_)
    | (with_reducible refine wps_newO fun _ => ?_)
    | (refine wps_ld _ (by rfl) ?_)
    | (refine wps_ldG _ _ _ (by rfl) ?_)
    | (refine wps_ldA _ (by rfl) ?_)
    | (refine wps_ldI _ (by rfl) ?_)
    | (refine wps_ldGI _ _ _ (by rfl) ?_)
    | (refine wps_ldAI _ (by rfl) ?_)
    | (refine wps_st (by simp) ?_)
    | (refine wps_stA (by simp) (by simp [Value.oneCell']) ?_)
    | ((with_reducible apply wps_val); apply val_ite; rotate_left; refine fun (_ : ¬ _) => ?_; rotate_right; refine fun (_ : _ = true) => ?_)
    | ((with_reducible apply val_ite); rotate_left; refine fun (_ : ¬ _) => ?_; rotate_right; refine fun (_ : _ = true) => ?_)
    | (with_reducible refine wps_regionH ?_)
    | ((with_reducible apply wps_bindV); apply val_iteL; rotate_left; refine fun (_ : ¬ _) => ?_; rotate_right; refine fun (_ : _ = true) => ?_)
    | ((with_reducible apply val_iteL); rotate_left; refine fun (_ : ¬ _) => ?_; rotate_right; refine fun (_ : _ = true) => ?_)
    | (with_reducible exact wps_pure (ent_val rfl)))
  refine wps_ite (fun ho => wps_pure (ent_val ?_)) (fun ho => ?_)
  · simp [diskV, ho]
  · repeat (first
      | (with_reducible refine wps_bindpure ?_)
      | (with_reducible refine wps_assoc ?_)
      | (with_reducible refine wps_nil ?_)
      | (with_reducible refine wps_stepAlloc fun _ => ?_)
      | (with_reducible refine wps_alloc fun _ => ?_)
      | (with_reducible refine wps_newO fun _ => ?_)
      | (refine wps_ld _ (by rfl) ?_)
      | (refine wps_ldG _ _ _ (by rfl) ?_)
      | (refine wps_ldA _ (by rfl) ?_)
      | (refine wps_ldI _ (by rfl) ?_)
      | (refine wps_ldGI _ _ _ (by rfl) ?_)
      | (refine wps_ldAI _ (by rfl) ?_)
      | (refine wps_st (by simp) ?_)
      | (refine wps_stA (by simp) (by simp [Value.oneCell']) ?_)
      | ((with_reducible apply wps_val); apply val_ite; rotate_left; refine fun (_ : ¬ _) => ?_; rotate_right; refine fun (_ : _ = true) => ?_)
      | ((with_reducible apply val_ite); rotate_left; refine fun (_ : ¬ _) => ?_; rotate_right; refine fun (_ : _ = true) => ?_)
      | (with_reducible refine wps_regionH ?_)
      | ((with_reducible apply wps_bindV); apply val_iteL; rotate_left; refine fun (_ : ¬ _) => ?_; rotate_right; refine fun (_ : _ = true) => ?_)
      | ((with_reducible apply val_iteL); rotate_left; refine fun (_ : ¬ _) => ?_; rotate_right; refine fun (_ : _ = true) => ?_)
      | (with_reducible exact wps_pure (ent_val rfl)))
    refine wps_ite (fun hx => wps_pure (ent_val ?_)) (fun hx => ?_)
    · rw [or_tree, h2] at hx
      simp only [diskV, if_neg ho, if_pos hx]
    · rw [or_tree, h2] at hx
      repeat (first
        | (with_reducible refine wps_bindpure ?_)
        | (with_reducible refine wps_assoc ?_)
        | (with_reducible refine wps_nil ?_)
        | (with_reducible refine wps_stepAlloc fun _ => ?_)
        | (with_reducible refine wps_alloc fun _ => ?_)
        | (with_reducible refine wps_newO fun _ => ?_)
        | (refine wps_ld _ (by rfl) ?_)
        | (refine wps_ldG _ _ _ (by rfl) ?_)
        | (refine wps_ldA _ (by rfl) ?_)
        | (refine wps_ldI _ (by rfl) ?_)
        | (refine wps_ldGI _ _ _ (by rfl) ?_)
        | (refine wps_ldAI _ (by rfl) ?_)
        | (refine wps_st (by simp) ?_)
        | (refine wps_stA (by simp) (by simp [Value.oneCell']) ?_)
        | ((with_reducible apply wps_val); apply val_ite; rotate_left; refine fun (_ : ¬ _) => ?_; rotate_right; refine fun (_ : _ = true) => ?_)
        | ((with_reducible apply val_ite); rotate_left; refine fun (_ : ¬ _) => ?_; rotate_right; refine fun (_ : _ = true) => ?_)
        | (with_reducible refine wps_regionH ?_)
        | ((with_reducible apply wps_bindV); apply val_iteL; rotate_left; refine fun (_ : ¬ _) => ?_; rotate_right; refine fun (_ : _ = true) => ?_)
        | ((with_reducible apply val_iteL); rotate_left; refine fun (_ : ¬ _) => ?_; rotate_right; refine fun (_ : _ = true) => ?_)
        | (with_reducible exact wps_pure (ent_val rfl)))
      have hk : k.toNat < R.n := by omega
      refine wps_rdS k.toNat (ptr (ps.getD k.toNat 0)) (by omega) ?_ ?_
      · rw [List.getElem?_map, List.getElem?_eq_getElem (by omega)]
        simp [pv, List.getD_eq_getElem?_getD, List.getElem?_eq_getElem (show k.toNat < ps.length by omega)]
      · refine wps_pure (ent_val ?_)
        simp only [diskV, if_neg ho, if_neg hx]
abbrev Dk.tick (D : Dk) : Dk := { D with failed := if D.failed = true then true else D.count == 0, count := maxI (w64 (D.count - 1)) (-1) }
def Rk.ticked (R : Rk) : Rk := if R.count = 0 then { R with off := true } else { R with count := maxI (w64 (R.count - 1)) (-1), dk := fun j => (R.dk j).tick }
def Rk.part (R : Rk) (i : Nat) : Nat → Dk := fun j => if j < i then (R.dk j).tick else R.dk j
theorem device_Rack_call_spec (rb : Nat) (R : Rk) (ds : Slc) (ps : List Nat) : wps g (rackP rb R ds ps) (device_Rack_call (ptr rb)) (fun b => pr (b = (R.count != 0)) * rackP rb R.ticked ds ps) := by
  unfold device_Rack_call rackP
  refine wps_prP fun ⟨h1, h2, h17, hns⟩ => ?_
  repeat (first
    | (with_reducible refine wps_bindpure ?_)
    | (with_reducible refine wps_assoc ?_)
    | (with_reducible refine wps_nil ?_)
    | (with_reducible refine wps_stepAlloc fun _ => ?_)
    | (with_reducible refine wps_alloc fun _ => ?_)
    | (with_reducible refine wps_newO fun _ => ?_)
    | (refine wps_ld _ (by rfl) ?_)
    | (refine wps_ldG _ _ _ (by rfl) ?_)
    | (refine wps_ldA _ (by rfl) ?_)
    | (refine wps_ldI _ (by rfl) ?_)
    | (refine wps_ldGI _ _ _ (by rfl) ?_)
    | (refine wps_ldAI _ (by rfl) ?_)
    | (refine wps_st (by simp) ?_)
    | (refine wps_stA (by simp) (by simp [Value.oneCell']) ?_)
    | ((with_reducible apply wps_val); apply val_ite; rotate_left; refine fun (_ : ¬ _) => ?_; rotate_right; refine fun (_ : _ = true) => ?_)
    | ((with_reducible apply val_ite); rotate_left; refine fun (_ : ¬ _) => ?_; rotate_right; refine fun (_ : _ = true) => ?_)
    | (with_reducible refine wps_regionH ?_)
    | ((with_reducible apply wps_bindV); apply val_iteL; rotate_left; refine fun (_ : ¬ _) => ?_; rotate_right; refine fun (_ : _ = true) => ?_)
    | ((with_reducible apply val_iteL); rotate_left; refine fun (_ : ¬ _) => ?_; rotate_right; refine fun (_ : _ = true) => ?_)
    | (with_reducible exact wps_pure (ent_val rfl)))
  refine wps_ite (fun ho => ?_) (fun ho => ?_)
  · repeat (first
      | (with_reducible refine wps_bindpure ?_)
      | (with_reducible refine wps_assoc ?_)
      | (with_reducible refine wps_nil ?_)
      | (with_reducible refine wps_stepAlloc fun _ => ?_)
      | (with_reducible refine wps_alloc fun _ => ?_)
      | (with_reducible refine wps_newO fun _ => ?_)
      | (refine wps_ld _ (by rfl) ?_)
      | (refine wps_ldG _ _ _ (by rfl) ?_)
      | (refine wps_ldA _ (by rfl) ?_)
      | (refine wps_ldI _ (by rfl) ?_)
      | (refine wps_ldGI _ _ _ (by rfl) ?_)
      | (refine wps_ldAI _ (by rfl) ?_)
      | (refine wps_st (by simp) ?_)
      | (refine wps_stA (by simp) (by simp [Value.oneCell']) ?_)
      | ((with_reducible apply wps_val); apply val_ite; rotate_left; refine fun (_ : ¬ _) => ?_; rotate_right; refine fun (_ : _ = true) => ?_)
      | ((with_reducible apply val_ite); rotate_left; refine fun (_ : ¬ _) => ?_; rotate_right; refine fun (_ : _ = true) => ?_)
      | (with_reducible refine wps_regionH ?_)
      | ((with_reducible apply wps_bindV); apply val_iteL; rotate_left; refine fun (_ : ¬ _) => ?_; rotate_right; refine fun (_ : _ = true) => ?_)
      | ((with_reducible apply val_iteL); rotate_left; refine fun (_ : ¬ _) => ?_; rotate_right; refine fun (_ : _ = true) => ?_)
      | (with_reducible exact wps_pure (ent_val rfl)))
    have ho' : R.count = 0 := by simpa using ho
    refine wps_pure (ent_prr (by simp [ho']) ?_)
    simp only [Rk.ticked, if_pos ho']
    refine ent_pickC (by simp [ho']) (ent_pick (ent_pick (ent_prq ⟨h1, h2, h17, hns⟩)))
  · repeat (first
      | (with_reducible refine wps_bindpure ?_)
      | (with_reducible refine wps_assoc ?_)
      | (with_reducible refine wps_nil ?_)
      | (with_reducible refine wps_stepAlloc fun _ => ?_)
      | (with_reducible refine wps_alloc fun _ => ?_)
      | (with_reducible refine wps_newO fun _ => ?_)
      | (refine wps_ld _ (by rfl) ?_)
      | (refine wps_ldG _ _ _ (by rfl) ?_)
      | (refine wps_ldA _ (by rfl) ?_)
      | (refine wps_ldI _ (by rfl) ?_)
      | (refine wps_ldGI _ _ _ (by rfl) ?_)
      | (refine wps_ldAI _ (by rfl) ?_)
      | (refine wps_st (by simp) ?_)
      | (refine wps_stA (by simp) (by simp [Value.oneCell']) ?_)
      | ((with_reducible apply wps_val); apply val_ite; rotate_left; refine fun (_ : ¬ _) => ?_; rotate_right; refine fun (_ : _ = true) => ?_)
      | ((with_reducible apply val_ite); rotate_left; refine fun (_ : ¬ _) => ?_; rotate_right; refine fun (_ : _ = true) => ?_)
      | (with_reducible refine wps_regionH ?_)
      | ((with_reducible apply wps_bindV); apply val_iteL; rotate_left; refine fun (_ : ¬ _) => ?_; rotate_right; refine fun (_ : _ = true) => ?_)
      | ((with_reducible apply val_iteL); rotate_left; refine fun (_ : ¬ _) => ?_; rotate_right; refine fun (_ : _ = true) => ?_)
      | (with_reducible exact wps_pure (ent_val rfl)))
    have ho' : R.count ≠ 0 := by simpa using ho
    refine wps_loop (fun i => ex fun n : Nat => pr (i = (n : Int) ∧ n ≤ R.n) * bst R.n (rackF R.ns (R.part n) ps) * own 1 ds (ps.map pv) * pc rb [vS ds, .int .i64 R.ns, .int .i64 (maxI (w64 (R.count - 1)) (-1)), .bool R.off]) (fun i => (R.n - i).toNat) ?_ fun i => ?_
    · refine ent_ex 0 (ent_pickC (by rfl) (ent_pick ?_))
      refine ent_prr ⟨rfl, by omega⟩ ?_
      exact Ent.trans (ent_drop (B := bst R.n (rackF R.ns R.dk ps))) (Ent.of_eq (bst_congr fun j _ => by simp [rackF, Rk.part]))
    · refine wps_ex fun n => wps_prP fun ⟨hi, hle⟩ => ?_
      refine wps_ite (fun hc => ?_) (fun hc => ?_)
      · have hlt : n < R.n := by simp only [decide_eq_true_eq, h2] at hc; omega
        refine wps_rdS n (ptr (ps.getD n 0)) (by omega) ?_ ?_
        · rw [List.getElem?_map, List.getElem?_eq_getElem (by omega)]
          simp [pv, List.getD_eq_getElem?_getD, List.getElem?_eq_getElem (show n < ps.length by omega)]
        · rw [bst_focus _ hlt]
          simp only [rackF, dskAt, dskX]
          refine wps_exP fun ls => wps_exP fun mb => wps_exP fun sl => wps_exP fun sc => wps_prP fun hd => ?_
          repeat (first
            | (with_reducible refine wps_bindpure ?_)
            | (with_reducible refine wps_assoc ?_)
            | (with_reducible refine wps_nil ?_)
            | (with_reducible refine wps_stepAlloc fun _ => ?_)
            | (with_reducible refine wps_alloc fun _ => ?_)
            | (with_reducible refine wps_newO fun _ => ?_)
            | (refine wps_ld _ (by rfl) ?_)
            | (refine wps_ldG _ _ _ (by rfl) ?_)
            | (refine wps_ldA _ (by rfl) ?_)
            | (refine wps_ldI _ (by rfl) ?_)
            | (refine wps_ldGI _ _ _ (by rfl) ?_)
            | (refine wps_ldAI _ (by rfl) ?_)
            | (refine wps_st (by simp) ?_)
            | (refine wps_stA (by simp) (by simp [Value.oneCell']) ?_)
            | ((with_reducible apply wps_val); apply val_ite; rotate_left; refine fun (_ : ¬ _) => ?_; rotate_right; refine fun (_ : _ = true) => ?_)
            | ((with_reducible apply val_ite); rotate_left; refine fun (_ : ¬ _) => ?_; rotate_right; refine fun (_ : _ = true) => ?_)
            | (with_reducible refine wps_regionH ?_)
            | ((with_reducible apply wps_bindV); apply val_iteL; rotate_left; refine fun (_ : ¬ _) => ?_; rotate_right; refine fun (_ : _ = true) => ?_)
            | ((with_reducible apply val_iteL); rotate_left; refine fun (_ : ¬ _) => ?_; rotate_right; refine fun (_ : _ = true) => ?_)
            | (with_reducible exact wps_pure (ent_val rfl)))
          refine wps_pure (ent_prr (by rw [range_add1 hi (by omega)]; omega) (ent_ex (n + 1) (ent_pickC (by rfl) (ent_pick ?_))))
          have hpart : ∀ i, i < R.n → i ≠ n → rackF R.ns (R.part n) ps i = rackF R.ns (R.part (n + 1)) ps i := by
            intro i _ hne
            have : i < n + 1 ↔ i < n := by omega
            simp only [rackF, Rk.part, this]
          refine ent_bst hlt hpart ?_
          have hpn : R.part (n + 1) n = (R.part n n).tick := by simp [Rk.part]
          simp only [rackF, hpn, dskAt]
          refine ent_exr ls ?_
          refine ent_exr mb ?_
          refine ent_exr sl ?_
          refine ent_exr sc ?_
          simp only [dskX, ← star_assoc]
          exact ent_pickC (by rfl) (ent_pick (ent_pick (ent_pick (ent_pick (ent_prx hd (ent_pick (ent_prq ⟨range_add1 hi (by omega), by omega⟩)))))))
      · have hne : n = R.n := by simp only [decide_eq_true_eq, h2] at hc; omega
        refine wps_mapR (wps_pure ?_)
        refine ent_prr (by simp [ho']) ?_
        simp only [Rk.ticked, if_neg ho']
        refine ent_pickC (by rfl) (ent_pick ?_)
        rw [bst_congr (F := rackF R.ns (fun j => (R.dk j).tick) ps) (F' := rackF R.ns (R.part n) ps) fun j hj => by simp [rackF, Rk.part, hne, hj]]
        exact ent_pick (ent_prq ⟨h1, h2, h17, hns⟩)
theorem rackP_focus (rb : Nat) (R : Rk) (ds : Slc) (ps : List Nat) {j : Nat} (hj : j < R.n) : rackP rb R ds ps =
    pr (ps.length = R.n ∧ ds.len = R.n ∧ R.n ≤ 17 ∧ R.ns ≤ 4096) * bst R.n (hole j (rackF R.ns R.dk ps)) * own 1 ds (ps.map pv) * pc rb [vS ds, .int .i64 R.ns, .int .i64 R.count, .bool R.off] * dskAt R.ns (ps.getD j 0) (R.dk j) := by
  unfold rackP
  rw [bst_focus _ hj]
  simp only [← star_assoc]
  rw [star_right_comm _ (rackF R.ns R.dk ps j), star_right_comm _ (rackF R.ns R.dk ps j)]
  rfl
theorem rackP_val {α : Type} {rb : Nat} {R : Rk} {ds : Slc} {ps : List Nat} {j : Nat} {m : M α} {v : α} (hj : j < R.n) (h : ∀ g', Val g' (dskAt R.ns (ps.getD j 0) (R.dk j)) m v) : Val g (rackP rb R ds ps) m v :=
  val_frame h (rackP_focus rb R ds ps hj)
theorem pv_get {ps : List Nat} {j : Nat} (h : j < ps.length) : (ps.map pv)[j]? = some (Value.pointer (ptr (ps.getD j 0))) := by
  rw [List.getElem?_map, List.getElem?_eq_getElem h]
  simp [pv, List.getD_eq_getElem?_getD, List.getElem?_eq_getElem h]
theorem dsk_failed {ns p : Nat} {D : Dk} : Val g (dskAt ns p D) (ld Value.bool ⟨p, 2, none⟩) D.failed := by
  show wps g _ (bindM (ld Value.bool ⟨p, 2, none⟩) pureM) _
  unfold dskAt dskX
  refine wps_ex fun ls => wps_ex fun mb => wps_ex fun sl => wps_ex fun sc => ?_
  repeat (first
    | (with_reducible refine wps_bindpure ?_)
    | (with_reducible refine wps_assoc ?_)
    | (with_reducible refine wps_nil ?_)
    | (with_reducible refine wps_stepAlloc fun _ => ?_)
    | (with_reducible refine wps_alloc fun _ => ?_)
    | (with_reducible refine wps_newO fun _ => ?_)
    | (refine wps_ld _ (by rfl) ?_)
    | (refine wps_ldG _ _ _ (by rfl) ?_)
    | (refine wps_ldA _ (by rfl) ?_)
    | (refine wps_ldI _ (by rfl) ?_)
    | (refine wps_ldGI _ _ _ (by rfl) ?_)
    | (refine wps_ldAI _ (by rfl) ?_)
    | (refine wps_st (by simp) ?_)
    | (refine wps_stA (by simp) (by simp [Value.oneCell']) ?_)
    | ((with_reducible apply wps_val); apply val_ite; rotate_left; refine fun (_ : ¬ _) => ?_; rotate_right; refine fun (_ : _ = true) => ?_)
    | ((with_reducible apply val_ite); rotate_left; refine fun (_ : ¬ _) => ?_; rotate_right; refine fun (_ : _ = true) => ?_)
    | (with_reducible refine wps_regionH ?_)
    | ((with_reducible apply wps_bindV); apply val_iteL; rotate_left; refine fun (_ : ¬ _) => ?_; rotate_right; refine fun (_ : _ = true) => ?_)
    | ((with_reducible apply val_iteL); rotate_left; refine fun (_ : ¬ _) => ?_; rotate_right; refine fun (_ : _ = true) => ?_)
    | (with_reducible exact wps_pure (ent_val rfl)))
  exact wps_pure (ent_prr rfl (ent_ex ls (ent_ex mb (ent_ex sl (ent_ex sc (Ent.refl _))))))
theorem len_of {H : HP} {s : Slc} {b : List Int} (h : Ent H (byt s b)) : Ent H (pr (b.length = s.len)) := Ent.trans h (Ent.trans (rsl_len 1 s (bv b)) fun o ho => by
  have : (bv b).length = s.len * 1 := ho
  show b.length = s.len
  simpa [bv] using this)
theorem slices_Clone_b_spec {H : HP} {s : Slc} {b : List Int} (hx : Ent H (byt s b)) (hb : b.length ≤ 1099511627776) : wps g H (slices_Clone_b s) (fun s' => H * own 1 s' (bv b)) := by
  unfold slices_Clone_b
  refine wps_fact (len_of hx) fun hl => ?_
  refine wps_ite (fun hn => ?_) (fun hn => ?_)
  · refine wps_pure ?_
    obtain ⟨base, len, cap⟩ := s
    have : base = none := by simpa using hn
    subst this
    refine Ent.trans (Ent.of_eq (star_emp H).symm) ?_
    have hb0 : Ent H (pr (b = [])) := Ent.trans hx fun o ho => by
      rcases ho with ho | ⟨ad, all, ho⟩
      · have : bv b = [] := ho.2
        simpa [bv, pr] using this
      · have := (ent_left _ _ o ho).1
        cases this
    refine ent_pure (p := b = []) (Ent.trans (ent_left _ _) hb0) fun e => ?_
    subst e
    exact Ent.starr (own_nil 1)
  · repeat (first
      | (with_reducible refine wps_bindpure ?_)
      | (with_reducible refine wps_assoc ?_)
      | (with_reducible refine wps_nil ?_)
      | (with_reducible refine wps_stepAlloc fun _ => ?_)
      | (with_reducible refine wps_alloc fun _ => ?_)
      | (with_reducible refine wps_newO fun _ => ?_)
      | (refine wps_ld _ (by rfl) ?_)
      | (refine wps_ldG _ _ _ (by rfl) ?_)
      | (refine wps_ldA _ (by rfl) ?_)
      | (refine wps_ldI _ (by rfl) ?_)
      | (refine wps_ldGI _ _ _ (by rfl) ?_)
      | (refine wps_ldAI _ (by rfl) ?_)
      | (refine wps_st (by simp) ?_)
      | (refine wps_stA (by simp) (by simp [Value.oneCell']) ?_)
      | ((with_reducible apply wps_val); apply val_ite; rotate_left; refine fun (_ : ¬ _) => ?_; rotate_right; refine fun (_ : _ = true) => ?_)
      | ((with_reducible apply val_ite); rotate_left; refine fun (_ : ¬ _) => ?_; rotate_right; refine fun (_ : _ = true) => ?_)
      | (with_reducible refine wps_regionH ?_)
      | ((with_reducible apply wps_bindV); apply val_iteL; rotate_left; refine fun (_ : ¬ _) => ?_; rotate_right; refine fun (_ : _ = true) => ?_)
      | ((with_reducible apply val_iteL); rotate_left; refine fun (_ : ¬ _) => ?_; rotate_right; refine fun (_ : _ = true) => ?_)
      | (with_reducible exact wps_pure (ent_val rfl)))
    rename_i c
    refine wps_swap (A := pc c []) (B := own 1 ⟨some ⟨c, 0, none⟩, 0, 0⟩ []) (pc_own (n := 0) (z := 1) rfl) ?_
    refine wps_app 1 (bv b) rfl (by decide) (Ent.trans (ent_left _ _) hx) (bv_one b) (by (try dsimp only); omega) fun s' hs' => ?_
    exact wps_pure (Ent.of_eq (by simp))
def Rk.gate (R : Rk) (k s size : Int) : Int :=
  if R.off then 12 else if k < 0 ∨ k ≥ R.n ∨ s < 0 ∨ s ≥ R.ns then 11 else if size ≠ 64 then 11 else if R.count = 0 then 12 else if (R.ticked.dk k.toNat).failed then 13 else 0
def Rk.gated (R : Rk) (k s size : Int) : Rk := if R.off = true ∨ (k < 0 ∨ k ≥ R.n ∨ s < 0 ∨ s ≥ R.ns) ∨ size ≠ 64 then R else R.ticked
def gateV (R : Rk) (ps : List Nat) (k s size : Int) : Option Addr × Int := (if R.gate k s size = 0 then ptr (ps.getD k.toNat 0) else none, R.gate k s size)
theorem device_Rack_counted_spec (rb : Nat) (R : Rk) (ds : Slc) (ps : List Nat) (k s size : Int) : wps g (rackP rb R ds ps) (device_Rack_counted (ptr rb) k s size)
    (fun x => pr (x = gateV R ps k s size) * rackP rb (R.gated k s size) ds ps) := by
  unfold device_Rack_counted
  refine wps_val (device_Rack_disk_val _ _ _ _ _ _) ?_
  by_cases ho : R.off = true
  · have hd : diskV R ps k s = (none, 12) := by simp [diskV, ho]
    rw [hd]
    refine wps_ite (fun _ => wps_pure (ent_prr ?_ (Ent.of_eq ?_))) (fun h => absurd rfl h)
    · simp [gateV, Rk.gate, ho]
    · simp [Rk.gated, ho]
  by_cases hr : k < 0 ∨ k ≥ R.n ∨ s < 0 ∨ s ≥ R.ns
  · have hd : diskV R ps k s = (none, 11) := by simp only [diskV, if_neg ho, if_pos hr]
    rw [hd]
    refine wps_ite (fun _ => wps_pure (ent_prr ?_ (Ent.of_eq ?_))) (fun h => absurd rfl h)
    · simp only [gateV, Rk.gate, if_neg ho, if_pos hr]; rfl
    · simp only [Rk.gated, hr, true_or, or_true, if_true]
  have hd : diskV R ps k s = (ptr (ps.getD k.toNat 0), 0) := by simp only [diskV, if_neg ho, if_neg hr]
  rw [hd]
  refine wps_ite (fun h => absurd h (by simp)) (fun _ => ?_)
  refine wps_ite (fun hs => wps_pure (ent_prr ?_ (Ent.of_eq ?_))) (fun hs => ?_)
  · have hs' : size ≠ 64 := by simpa using hs
    simp only [gateV, Rk.gate, if_neg ho, if_neg hr, if_pos hs']; rfl
  · have hs' : size ≠ 64 := by simpa using hs
    simp only [Rk.gated, hs', ne_eq, not_false_eq_true, or_true, if_true]
  have hs' : ¬ size ≠ 64 := by simpa using hs
  have hgd : R.gated k s size = R.ticked := by
    rw [Rk.gated, if_neg]
    rintro (h | h | h)
    · exact ho h
    · exact hr h
    · exact hs' h
  rw [hgd]
  refine wps_bind (device_Rack_call_spec _ _ _ _) fun b => wps_pr fun hb => ?_
  subst hb
  refine wps_ite (fun hc => wps_pure (ent_prr ?_ (Ent.refl _))) (fun hc => ?_)
  · have hc' : R.count = 0 := by simpa using hc
    simp only [gateV, Rk.gate, if_neg ho, if_neg hr, if_neg hs', if_pos hc']; rfl
  have hc' : ¬ R.count = 0 := by simpa using hc
  have htn : R.ticked.n = R.n := by simp [Rk.ticked, hc']
  have hlt : k.toNat < R.ticked.n := by omega
  repeat (first
    | (with_reducible refine wps_bindpure ?_)
    | (with_reducible refine wps_assoc ?_)
    | (with_reducible refine wps_nil ?_)
    | (with_reducible refine wps_stepAlloc fun _ => ?_)
    | (with_reducible refine wps_alloc fun _ => ?_)
    | (with_reducible refine wps_newO fun _ => ?_)
    | (refine wps_ld _ (by rfl) ?_)
    | (refine wps_ldG _ _ _ (by rfl) ?_)
    | (refine wps_ldA _ (by rfl) ?_)
    | (refine wps_ldI _ (by rfl) ?_)
    | (refine wps_ldGI _ _ _ (by rfl) ?_)
    | (refine wps_ldAI _ (by rfl) ?_)
    | (refine wps_st (by simp) ?_)
    | (refine wps_stA (by simp) (by simp [Value.oneCell']) ?_)
    | ((with_reducible apply wps_val); apply val_ite; rotate_left; refine fun (_ : ¬ _) => ?_; rotate_right; refine fun (_ : _ = true) => ?_)
    | ((with_reducible apply val_ite); rotate_left; refine fun (_ : ¬ _) => ?_; rotate_right; refine fun (_ : _ = true) => ?_)
    | (with_reducible refine wps_regionH ?_)
    | ((with_reducible apply wps_bindV); apply val_iteL; rotate_left; refine fun (_ : ¬ _) => ?_; rotate_right; refine fun (_ : _ = true) => ?_)
    | ((with_reducible apply val_iteL); rotate_left; refine fun (_ : ¬ _) => ?_; rotate_right; refine fun (_ : _ = true) => ?_)
    | (with_reducible exact wps_pure (ent_val rfl)))
  refine wps_val (rackP_val (j := k.toNat) hlt fun g' => dsk_failed) ?_
  refine wps_ite (fun hf => wps_pure (ent_prr ?_ (Ent.refl _))) (fun hf => wps_pure (ent_prr ?_ (Ent.refl _)))
  · simp only [gateV, Rk.gate, if_neg ho, if_neg hr, if_neg hs', if_neg hc', if_pos hf]; rfl
  · simp only [gateV, Rk.gate, if_neg ho, if_neg hr, if_neg hs', if_neg hc', if_neg hf]; rfl
def Rk.put (R : Rk) (k s : Int) (b : List Int) : Rk := { R with dk := fun j => if j = k.toNat then { R.dk j with cached := fun i => if i = s then some b else (R.dk j).cached i } else R.dk j }
def Rk.write (R : Rk) (k s : Int) (b : List Int) : Rk := if R.gate k s b.length = 0 then (R.gated k s b.length).put k s b else R.gated k s b.length
theorem gate_ok {R : Rk} {k s size : Int} (h : R.gate k s size = 0) : ¬ R.off = true ∧ ¬ (k < 0 ∨ k ≥ R.n ∨ s < 0 ∨ s ≥ R.ns) ∧ size = 64 ∧ R.count ≠ 0 ∧ R.gated k s size = R.ticked := by
  unfold Rk.gate at h
  by_cases ho : R.off = true
  · rw [if_pos ho] at h; cases h
  rw [if_neg ho] at h
  by_cases hr : k < 0 ∨ k ≥ R.n ∨ s < 0 ∨ s ≥ R.ns
  · rw [if_pos hr] at h; cases h
  rw [if_neg hr] at h
  by_cases hs : size ≠ 64
  · rw [if_pos hs] at h; cases h
  rw [if_neg hs] at h
  by_cases hc : R.count = 0
  · rw [if_pos hc] at h; cases h
  refine ⟨ho, hr, by simpa using hs, hc, ?_⟩
  rw [Rk.gated, if_neg]
  rintro (h | h | h)
  · exact ho h
  · exact hr h
  · exact hs h
theorem device_Rack_Write_spec {H : HP} (rb : Nat) (R : Rk) (ds : Slc) (ps : List Nat) (k s : Int) (x : Slc) (b : List Int) (hx : Ent H (byt x b)) (hb : b.length ≤ 1099511627776) :
    wps g (H * rackP rb R ds ps) (device_Rack_Write (ptr rb) k s x) (fun e => pr (e = R.gate k s b.length) * H * rackP rb (R.write k s b) ds ps) := by
  unfold device_Rack_Write
  refine wps_fact (Ent.trans (ent_left _ _) (len_of hx)) fun hl => ?_
  rw [← hl]
  refine wps_call (fun _ => device_Rack_counted_spec rb R ds ps k s b.length) (Ent.refl _) fun x => ?_
  rw [← star_assoc]
  refine wps_prP fun he => ?_
  subst he
  by_cases h0 : R.gate k s b.length = 0
  · obtain ⟨ho, hr, hs, hc, hgd⟩ := gate_ok h0
    refine wps_ite (fun _ => ?_) (fun h => absurd (by simp [gateV, h0]) h)
    have htn : R.ticked.n = R.n := by simp [Rk.ticked, hc]
    have hlt : k.toNat < R.ticked.n := by omega
    rw [hgd, rackP_focus rb R.ticked ds ps hlt]
    unfold dskAt dskX
    refine wps_exP fun ls => wps_exP fun mb => wps_exP fun sl => wps_exP fun sc => wps_prP fun hd => ?_
    have hgv : (gateV R ps k s b.length).1 = ptr (ps.getD k.toNat 0) := by simp [gateV, h0]
    rw [hgv]
    repeat (first
      | (with_reducible refine wps_bindpure ?_)
      | (with_reducible refine wps_assoc ?_)
      | (with_reducible refine wps_nil ?_)
      | (with_reducible refine wps_stepAlloc fun _ => ?_)
      | (with_reducible refine wps_alloc fun _ => ?_)
      | (with_reducible refine wps_newO fun _ => ?_)
      | (refine wps_ld _ (by rfl) ?_)
      | (refine wps_ldG _ _ _ (by rfl) ?_)
      | (refine wps_ldA _ (by rfl) ?_)
      | (refine wps_ldI _ (by rfl) ?_)
      | (refine wps_ldGI _ _ _ (by rfl) ?_)
      | (refine wps_ldAI _ (by rfl) ?_)
      | (refine wps_st (by simp) ?_)
      | (refine wps_stA (by simp) (by simp [Value.oneCell']) ?_)
      | ((with_reducible apply wps_val); apply val_ite; rotate_left; refine fun (_ : ¬ _) => ?_; rotate_right; refine fun (_ : _ = true) => ?_)
      | ((with_reducible apply val_ite); rotate_left; refine fun (_ : ¬ _) => ?_; rotate_right; refine fun (_ : _ = true) => ?_)
      | (with_reducible refine wps_regionH ?_)
      | ((with_reducible apply wps_bindV); apply val_iteL; rotate_left; refine fun (_ : ¬ _) => ?_; rotate_right; refine fun (_ : _ = true) => ?_)
      | ((with_reducible apply val_iteL); rotate_left; refine fun (_ : ¬ _) => ?_; rotate_right; refine fun (_ : _ = true) => ?_)
      | (with_reducible exact wps_pure (ent_val rfl)))
    refine wps_step1 (slices_Clone_b_spec (Ent.trans (ent_drop (B := H)) hx) hb) fun s' => ?_
    refine wps_updS (wps_pure ?_)
    have hw : R.write k s b = R.ticked.put k s b := by simp only [Rk.write, if_pos h0, hgd]
    have hgv2 : (gateV R ps k s b.length).2 = R.gate k s b.length := rfl
    rw [hw, hgv2, rackP_focus rb (R.ticked.put k s b) ds ps hlt]
    have hho : bst R.ticked.n (hole k.toNat (rackF R.ticked.ns R.ticked.dk ps)) = bst R.ticked.n (hole k.toNat (rackF R.ticked.ns (R.ticked.put k s b).dk ps)) := hole_congr fun i _ hne => by
      simp only [rackF, Rk.put, if_neg hne]
    rw [hho]
    have hdk : (R.ticked.put k s b).dk k.toNat = { R.ticked.dk k.toNat with cached := fun i => if i = s then some b else (R.ticked.dk k.toNat).cached i } := by simp [Rk.put]
    rw [hdk]
    generalize R.ticked.dk k.toNat = D at *
    simp only [dskAt, ← star_assoc]
    refine ent_exr ls ?_
    refine ent_exr mb ?_
    refine ent_exr sl ?_
    refine ent_exr (fun j => if j = s then s' else sc j) ?_
    simp only [dskX, ← star_assoc, Rk.put]
    have him : (fun i => if i = s then some (Value.slice s'.base s'.len s'.cap) else Option.map (fun _ => vS (sc i)) (D.cached i)) = fun j => Option.map (fun _ => vS (if j = s then s' else sc j)) (if j = s then some b else D.cached j) := by
      funext i
      by_cases hi : i = s <;> simp [hi, vS]
    refine ent_pickC (by rfl) (ent_pick (ent_pickM him ?_))
    refine ent_swap (A := own 1 s' (bv b)) (own_rsl _ _ _) ?_
    refine ent_join (A := cachep sc D.cached) (B := rsl 1 s' (bv b)) (cachep_put (ent_left _ _) (ent_right _ _)) ?_
    refine ent_pick (ent_prx ⟨hd.1, hd.2.1, hd.2.2.1, fun j b' hj => ?_⟩ ?_)
    · by_cases hjs : j = s
      · subst hjs; have : R.ticked.ns = R.ns := by simp [Rk.ticked, hc]
        simp only [if_true, Option.some.injEq] at hj
        subst hj
        rw [this]; omega
      · simp only [if_neg hjs] at hj; exact hd.2.2.2 j b' hj
    · refine ent_pickC (by rfl) (ent_pick (ent_pick (ent_pick ?_)))
      exact ent_pick (ent_prq trivial)
  · refine wps_ite (fun h => absurd (by simpa [gateV] using h) h0) (fun _ => wps_pure ?_)
    simp only [Rk.write, if_neg h0]
    exact ent_pick (ent_prr rfl ent_drop)
def Rk.failedB (R : Rk) (k : Int) : Bool := if 0 ≤ k ∧ k < R.n then (R.dk k.toNat).failed else false
theorem device_Rack_Failed_val (rb : Nat) (R : Rk) (ds : Slc) (ps : List Nat) (k : Int) : Val g (rackP rb R ds ps) (device_Rack_Failed (ptr rb) k) (R.failedB k) := by
  unfold device_Rack_Failed rackP
  refine wps_factP fun ⟨h1, h2, h17, hns⟩ => ?_
  refine wps_val (v := decide (0 ≤ k ∧ k < R.n)) ?_ ?_
  · apply val_eq
    · repeat (first
        | (with_reducible refine wps_bindpure ?_)
        | (with_reducible refine wps_assoc ?_)
        | (with_reducible refine wps_nil ?_)
        | (with_reducible refine wps_stepAlloc fun _ => ?_)
        | (with_reducible refine wps_alloc fun _ => ?_)
        | (with_reducible refine wps_newO fun _ => ?_)
        | (refine wps_ld _ (by rfl) ?_)
        | (refine wps_ldG _ _ _ (by rfl) ?_)
        | (refine wps_ldA _ (by rfl) ?_)
        | (refine wps_ldI _ (by rfl) ?_)
        | (refine wps_ldGI _ _ _ (by rfl) ?_)
        | (refine wps_ldAI _ (by rfl) ?_)
        | (refine wps_st (by simp) ?_)
        | (refine wps_stA (by simp) (by simp [Value.oneCell']) ?_)
        | ((with_reducible apply wps_val); apply val_ite; rotate_left; refine fun (_ : ¬ _) => ?_; rotate_right; refine fun (_ : _ = true) => ?_)
        | ((with_reducible apply val_ite); rotate_left; refine fun (_ : ¬ _) => ?_; rotate_right; refine fun (_ : _ = true) => ?_)
        | (with_reducible refine wps_regionH ?_)
        | ((with_reducible apply wps_bindV); apply val_iteL; rotate_left; refine fun (_ : ¬ _) => ?_; rotate_right; refine fun (_ : _ = true) => ?_)
        | ((with_reducible apply val_iteL); rotate_left; refine fun (_ : ¬ _) => ?_; rotate_right; refine fun (_ : _ = true) => ?_)
        | (with_reducible exact wps_pure (ent_val rfl)))
    · rw [h2]; by_cases h : 0 ≤ k <;> simp [h]
  · by_cases hk : 0 ≤ k ∧ k < R.n
    · simp only [hk, and_self, decide_true, if_true, Rk.failedB, bindM_assoc]
      repeat (first
        | (with_reducible refine wps_bindpure ?_)
        | (with_reducible refine wps_assoc ?_)
        | (with_reducible refine wps_nil ?_)
        | (with_reducible refine wps_stepAlloc fun _ => ?_)
        | (with_reducible refine wps_alloc fun _ => ?_)
        | (with_reducible refine wps_newO fun _ => ?_)
        | (refine wps_ld _ (by rfl) ?_)
        | (refine wps_ldG _ _ _ (by rfl) ?_)
        | (refine wps_ldA _ (by rfl) ?_)
        | (refine wps_ldI _ (by rfl) ?_)
        | (refine wps_ldGI _ _ _ (by rfl) ?_)
        | (refine wps_ldAI _ (by rfl) ?_)
        | (refine wps_st (by simp) ?_)
        | (refine wps_stA (by simp) (by simp [Value.oneCell']) ?_)
        | ((with_reducible apply wps_val); apply val_ite; rotate_left; refine fun (_ : ¬ _) => ?_; rotate_right; refine fun (_ : _ = true) => ?_)
        | ((with_reducible apply val_ite); rotate_left; refine fun (_ : ¬ _) => ?_; rotate_right; refine fun (_ : _ = true) => ?_)
        | (with_reducible refine wps_regionH ?_)
        | ((with_reducible apply wps_bindV); apply val_iteL; rotate_left; refine fun (_ : ¬ _) => ?_; rotate_right; refine fun (_ : _ = true) => ?_)
        | ((with_reducible apply val_iteL); rotate_left; refine fun (_ : ¬ _) => ?_; rotate_right; refine fun (_ : _ = true) => ?_)
        | (with_reducible exact wps_pure (ent_val rfl)))
      refine wps_rdS k.toNat (ptr (ps.getD k.toNat 0)) (by omega) (pv_get (by omega)) ?_
      repeat (first
        | (with_reducible refine wps_bindpure ?_)
        | (with_reducible refine wps_assoc ?_)
        | (with_reducible refine wps_nil ?_)
        | (with_reducible refine wps_stepAlloc fun _ => ?_)
        | (with_reducible refine wps_alloc fun _ => ?_)
        | (with_reducible refine wps_newO fun _ => ?_)
        | (refine wps_ld _ (by rfl) ?_)
        | (refine wps_ldG _ _ _ (by rfl) ?_)
        | (refine wps_ldA _ (by rfl) ?_)
        | (refine wps_ldI _ (by rfl) ?_)
        | (refine wps_ldGI _ _ _ (by rfl) ?_)
        | (refine wps_ldAI _ (by rfl) ?_)
        | (refine wps_st (by simp) ?_)
        | (refine wps_stA (by simp) (by simp [Value.oneCell']) ?_)
        | ((with_reducible apply wps_val); apply val_ite; rotate_left; refine fun (_ : ¬ _) => ?_; rotate_right; refine fun (_ : _ = true) => ?_)
        | ((with_reducible apply val_ite); rotate_left; refine fun (_ : ¬ _) => ?_; rotate_right; refine fun (_ : _ = true) => ?_)
        | (with_reducible refine wps_regionH ?_)
        | ((with_reducible apply wps_bindV); apply val_iteL; rotate_left; refine fun (_ : ¬ _) => ?_; rotate_right; refine fun (_ : _ = true) => ?_)
        | ((with_reducible apply val_iteL); rotate_left; refine fun (_ : ¬ _) => ?_; rotate_right; refine fun (_ : _ = true) => ?_)
        | (with_reducible exact wps_pure (ent_val rfl)))
      refine wps_val (rackP_val (rb := rb) (ds := ds) (j := k.toNat) (by omega) fun g' => dsk_failed) ?_
      repeat (first
        | (with_reducible refine wps_bindpure ?_)
        | (with_reducible refine wps_assoc ?_)
        | (with_reducible refine wps_nil ?_)
        | (with_reducible refine wps_stepAlloc fun _ => ?_)
        | (with_reducible refine wps_alloc fun _ => ?_)
        | (with_reducible refine wps_newO fun _ => ?_)
        | (refine wps_ld _ (by rfl) ?_)
        | (refine wps_ldG _ _ _ (by rfl) ?_)
        | (refine wps_ldA _ (by rfl) ?_)
        | (refine wps_ldI _ (by rfl) ?_)
        | (refine wps_ldGI _ _ _ (by rfl) ?_)
        | (refine wps_ldAI _ (by rfl) ?_)
        | (refine wps_st (by simp) ?_)
        | (refine wps_stA (by simp) (by simp [Value.oneCell']) ?_)
        | ((with_reducible apply wps_val); apply val_ite; rotate_left; refine fun (_ : ¬ _) => ?_; rotate_right; refine fun (_ : _ = true) => ?_)
        | ((with_reducible apply val_ite); rotate_left; refine fun (_ : ¬ _) => ?_; rotate_right; refine fun (_ : _ = true) => ?_)
        | (with_reducible refine wps_regionH ?_)
        | ((with_reducible apply wps_bindV); apply val_iteL; rotate_left; refine fun (_ : ¬ _) => ?_; rotate_right; refine fun (_ : _ = true) => ?_)
        | ((with_reducible apply val_iteL); rotate_left; refine fun (_ : ¬ _) => ?_; rotate_right; refine fun (_ : _ = true) => ?_)
        | (with_reducible exact wps_pure (ent_val rfl)))
    · simp only [hk, decide_false, Rk.failedB, if_false, Bool.false_eq_true]
      repeat (first
        | (with_reducible refine wps_bindpure ?_)
        | (with_reducible refine wps_assoc ?_)
        | (with_reducible refine wps_nil ?_)
        | (with_reducible refine wps_stepAlloc fun _ => ?_)
        | (with_reducible refine wps_alloc fun _ => ?_)
        | (with_reducible refine wps_newO fun _ => ?_)
        | (refine wps_ld _ (by rfl) ?_)
        | (refine wps_ldG _ _ _ (by rfl) ?_)
        | (refine wps_ldA _ (by rfl) ?_)
        | (refine wps_ldI _ (by rfl) ?_)
        | (refine wps_ldGI _ _ _ (by rfl) ?_)
        | (refine wps_ldAI _ (by rfl) ?_)
        | (refine wps_st (by simp) ?_)
        | (refine wps_stA (by simp) (by simp [Value.oneCell']) ?_)
        | ((with_reducible apply wps_val); apply val_ite; rotate_left; refine fun (_ : ¬ _) => ?_; rotate_right; refine fun (_ : _ = true) => ?_)
        | ((with_reducible apply val_ite); rotate_left; refine fun (_ : ¬ _) => ?_; rotate_right; refine fun (_ : _ = true) => ?_)
        | (with_reducible refine wps_regionH ?_)
        | ((with_reducible apply wps_bindV); apply val_iteL; rotate_left; refine fun (_ : ¬ _) => ?_; rotate_right; refine fun (_ : _ = true) => ?_)
        | ((with_reducible apply val_iteL); rotate_left; refine fun (_ : ¬ _) => ?_; rotate_right; refine fun (_ : _ = true) => ?_)
        | (with_reducible exact wps_pure (ent_val rfl)))
theorem device_Rack_Size_val (rb : Nat) (R : Rk) (ds : Slc) (ps : List Nat) : Val g (rackP rb R ds ps) (device_Rack_Size (ptr rb)) ((R.n : Int), (R.ns : Int)) := by
  unfold device_Rack_Size rackP
  refine wps_factP fun ⟨h1, h2, h17, hns⟩ => ?_
  repeat (first
    | (with_reducible refine wps_bindpure ?_)
    | (with_reducible refine wps_assoc ?_)
    | (with_reducible refine wps_nil ?_)
    | (with_reducible refine wps_stepAlloc fun _ => ?_)
    | (with_reducible refine wps_alloc fun _ => ?_)
    | (with_reducible refine wps_newO fun _ => ?_)
    | (refine wps_ld _ (by rfl) ?_)
    | (refine wps_ldG _ _ _ (by rfl) ?_)
    | (refine wps_ldA _ (by rfl) ?_)
    | (refine wps_ldI _ (by rfl) ?_)
    | (refine wps_ldGI _ _ _ (by rfl) ?_)
    | (refine wps_ldAI _ (by rfl) ?_)
    | (refine wps_st (by simp) ?_)
    | (refine wps_stA (by simp) (by simp [Value.oneCell']) ?_)
    | ((with_reducible apply wps_val); apply val_ite; rotate_left; refine fun (_ : ¬ _) => ?_; rotate_right; refine fun (_ : _ = true) => ?_)
    | ((with_reducible apply val_ite); rotate_left; refine fun (_ : ¬ _) => ?_; rotate_right; refine fun (_ : _ = true) => ?_)
    | (with_reducible refine wps_regionH ?_)
    | ((with_reducible apply wps_bindV); apply val_iteL; rotate_left; refine fun (_ : ¬ _) => ?_; rotate_right; refine fun (_ : _ = true) => ?_)
    | ((with_reducible apply val_iteL); rotate_left; refine fun (_ : ¬ _) => ?_; rotate_right; refine fun (_ : _ = true) => ?_)
    | (with_reducible exact wps_pure (ent_val rfl)))
  exact wps_pure (ent_val (by rw [h2]))
def Rk.rdErr (R : Rk) (k s : Int) : Int := if R.off then 12 else if k < 0 ∨ k ≥ R.n ∨ s < 0 ∨ s ≥ R.ns then 11 else if (R.dk k.toNat).failed then 13 else 0
def Dk.sec (D : Dk) (s : Int) : List Int := match D.cached s with | some b => b | none => D.lasts s.toNat
def Rk.rd (R : Rk) (k s : Int) : List Int := if R.rdErr k s = 0 then (R.dk k.toNat).sec s else []
theorem device_Rack_Read_spec (rb : Nat) (R : Rk) (ds : Slc) (ps : List Nat) (k s : Int) :
    wps g (rackP rb R ds ps) (device_Rack_Read (ptr rb) k s) (fun x => pr (x.2 = R.rdErr k s) * rackP rb R ds ps * own 1 x.1 (bv (R.rd k s))) := by
  unfold device_Rack_Read
  refine wps_val (device_Rack_disk_val _ _ _ _ _ _) ?_
  by_cases ho : R.off = true
  · have hd : diskV R ps k s = (none, 12) := by simp [diskV, ho]
    have he : R.rdErr k s = 12 := by simp [Rk.rdErr, ho]
    rw [hd]
    refine wps_ite (fun _ => wps_pure ?_) (fun h => absurd rfl h)
    simp only [Rk.rd, he]
    exact ent_own0 (ent_prr (by simp) (Ent.refl _))
  by_cases hr : k < 0 ∨ k ≥ R.n ∨ s < 0 ∨ s ≥ R.ns
  · have hd : diskV R ps k s = (none, 11) := by simp only [diskV, if_neg ho, if_pos hr]
    have he : R.rdErr k s = 11 := by simp only [Rk.rdErr, if_neg ho, if_pos hr]
    rw [hd]
    refine wps_ite (fun _ => wps_pure ?_) (fun h => absurd rfl h)
    simp only [Rk.rd, he]
    exact ent_own0 (ent_prr (by simp) (Ent.refl _))
  have hd : diskV R ps k s = (ptr (ps.getD k.toNat 0), 0) := by simp only [diskV, if_neg ho, if_neg hr]
  rw [hd]
  have hlt : k.toNat < R.n := by omega
  refine wps_ite (fun h => absurd h (by simp)) (fun _ => ?_)
  repeat (first
    | (with_reducible refine wps_bindpure ?_)
    | (with_reducible refine wps_assoc ?_)
    | (with_reducible refine wps_nil ?_)
    | (with_reducible refine wps_stepAlloc fun _ => ?_)
    | (with_reducible refine wps_alloc fun _ => ?_)
    | (with_reducible refine wps_newO fun _ => ?_)
    | (refine wps_ld _ (by rfl) ?_)
    | (refine wps_ldG _ _ _ (by rfl) ?_)
    | (refine wps_ldA _ (by rfl) ?_)
    | (refine wps_ldI _ (by rfl) ?_)
    | (refine wps_ldGI _ _ _ (by rfl) ?_)
    | (refine wps_ldAI _ (by rfl) ?_)
    | (refine wps_st (by simp) ?_)
    | (refine wps_stA (by simp) (by simp [Value.oneCell']) ?_)
    | ((with_reducible apply wps_val); apply val_ite; rotate_left; refine fun (_ : ¬ _) => ?_; rotate_right; refine fun (_ : _ = true) => ?_)
    | ((with_reducible apply val_ite); rotate_left; refine fun (_ : ¬ _) => ?_; rotate_right; refine fun (_ : _ = true) => ?_)
    | (with_reducible refine wps_regionH ?_)
    | ((with_reducible apply wps_bindV); apply val_iteL; rotate_left; refine fun (_ : ¬ _) => ?_; rotate_right; refine fun (_ : _ = true) => ?_)
    | ((with_reducible apply val_iteL); rotate_left; refine fun (_ : ¬ _) => ?_; rotate_right; refine fun (_ : _ = true) => ?_)
    | (with_reducible exact wps_pure (ent_val rfl)))
  refine wps_val (rackP_val (rb := rb) (ds := ds) hlt fun g' => dsk_failed) ?_
  refine wps_ite (fun hf => wps_pure ?_) (fun hf => ?_)
  · have he : R.rdErr k s = 13 := by simp only [Rk.rdErr, if_neg ho, if_neg hr, if_pos hf]
    simp only [Rk.rd, he]
    exact ent_own0 (ent_prr (by simp) (Ent.refl _))
  have he : R.rdErr k s = 0 := by simp only [Rk.rdErr, if_neg ho, if_neg hr, if_neg hf]
  simp only [Rk.rd, he, if_true]
  rw [rackP_focus rb R ds ps hlt]
  generalize R.dk k.toNat = D at *
  unfold dskAt dskX
  refine wps_exP fun ls => wps_exP fun mb => wps_exP fun sl => wps_exP fun sc => ?_
  simp only [← star_assoc]
  refine wps_prP fun hd => ?_
  refine wps_prP fun hd2 => ?_
  repeat (first
    | (with_reducible refine wps_bindpure ?_)
    | (with_reducible refine wps_assoc ?_)
    | (with_reducible refine wps_nil ?_)
    | (with_reducible refine wps_stepAlloc fun _ => ?_)
    | (with_reducible refine wps_alloc fun _ => ?_)
    | (with_reducible refine wps_newO fun _ => ?_)
    | (refine wps_ld _ (by rfl) ?_)
    | (refine wps_ldG _ _ _ (by rfl) ?_)
    | (refine wps_ldA _ (by rfl) ?_)
    | (refine wps_ldI _ (by rfl) ?_)
    | (refine wps_ldGI _ _ _ (by rfl) ?_)
    | (refine wps_ldAI _ (by rfl) ?_)
    | (refine wps_st (by simp) ?_)
    | (refine wps_stA (by simp) (by simp [Value.oneCell']) ?_)
    | ((with_reducible apply wps_val); apply val_ite; rotate_left; refine fun (_ : ¬ _) => ?_; rotate_right; refine fun (_ : _ = true) => ?_)
    | ((with_reducible apply val_ite); rotate_left; refine fun (_ : ¬ _) => ?_; rotate_right; refine fun (_ : _ = true) => ?_)
    | (with_reducible refine wps_regionH ?_)
    | ((with_reducible apply wps_bindV); apply val_iteL; rotate_left; refine fun (_ : ¬ _) => ?_; rotate_right; refine fun (_ : _ = true) => ?_)
    | ((with_reducible apply val_iteL); rotate_left; refine fun (_ : ¬ _) => ?_; rotate_right; refine fun (_ : _ = true) => ?_)
    | (with_reducible exact wps_pure (ent_val rfl)))
  have close : ∀ (s' : Slc), Ent
      (emp * bst R.n (hole k.toNat (rackF R.ns R.dk ps)) * own 1 ds (ps.map pv) * pc rb [vS ds, Value.int IntKind.i64 R.ns, Value.int IntKind.i64 R.count, Value.bool R.off] *
        seqp sl D.lasts * cachep sc D.cached * imap mb (fun j => Option.map (fun _ => vS (sc j)) (D.cached j)) * own 1 ls (sl.map vS) *
        pc (ps.getD k.toNat 0) [vS ls, Value.map (some mb), Value.bool D.failed, Value.int IntKind.i64 D.count] * own 1 s' (bv (D.sec s)))
      (pr (((s', 0) : Slc × Int).2 = 0) * pr (ps.length = R.n ∧ ds.len = R.n ∧ R.n ≤ 17 ∧ R.ns ≤ 4096) * bst R.n (hole k.toNat (rackF R.ns R.dk ps)) * own 1 ds (ps.map pv) *
            pc rb [vS ds, Value.int IntKind.i64 R.ns, Value.int IntKind.i64 R.count, Value.bool R.off] *
          (ex fun ls => ex fun mb => ex fun sl => ex fun sc =>
                  pr (sl.length = R.ns ∧ ls.len = R.ns ∧ D.ok R.ns) * seqp sl D.lasts * cachep sc D.cached *
                        imap mb (fun j => Option.map (fun _ => vS (sc j)) (D.cached j)) *
                      own 1 ls (sl.map vS) *
                    pc (ps.getD k.toNat 0)
                      [vS ls, Value.map (some mb), Value.bool D.failed, Value.int IntKind.i64 D.count]) *
        own 1 s' (bv (D.sec s))) := by
    intro s'
    refine ent_pick ?_
    refine ent_exr ls ?_
    refine ent_exr mb ?_
    refine ent_exr sl ?_
    refine ent_exr sc ?_
    simp only [← star_assoc]
    exact ent_pick (ent_pick (ent_pick (ent_pick (ent_pick (ent_prx hd (ent_pick (ent_pick (ent_pick (ent_prx hd2 (ent_prq (by simp)))))))))))
  cases hcs : D.cached s with
  | some b =>
    refine wps_lookS (some (sc s)) (by rw [hcs]; rfl) ?_
    have hsec : D.sec s = b := by simp [Dk.sec, hcs]
    have hlen := (hd.2.2.2 s b hcs).1
    refine wps_ite (fun _ => ?_) (fun h => absurd rfl h)
    refine wps_bind1 (slices_Clone_b_spec (b := D.sec s) (Ent.trans (ent_drop (B := cachep sc D.cached)) (by rw [hsec]; exact cachep_get hcs)) (by rw [hsec]; omega)) fun s' => wps_pure ?_
    exact close s'
  | none =>
    refine wps_lookS none (by rw [hcs]; rfl) ?_
    have hsec : D.sec s = D.lasts s.toNat := by simp [Dk.sec, hcs]
    have hlen := hd.2.2.1 s.toNat (by omega)
    refine wps_ite (fun h => absurd h (by simp)) (fun _ => ?_)
    repeat (first
      | (with_reducible refine wps_bindpure ?_)
      | (with_reducible refine wps_assoc ?_)
      | (with_reducible refine wps_nil ?_)
      | (with_reducible refine wps_stepAlloc fun _ => ?_)
      | (with_reducible refine wps_alloc fun _ => ?_)
      | (with_reducible refine wps_newO fun _ => ?_)
      | (refine wps_ld _ (by rfl) ?_)
      | (refine wps_ldG _ _ _ (by rfl) ?_)
      | (refine wps_ldA _ (by rfl) ?_)
      | (refine wps_ldI _ (by rfl) ?_)
      | (refine wps_ldGI _ _ _ (by rfl) ?_)
      | (refine wps_ldAI _ (by rfl) ?_)
      | (refine wps_st (by simp) ?_)
      | (refine wps_stA (by simp) (by simp [Value.oneCell']) ?_)
      | ((with_reducible apply wps_val); apply val_ite; rotate_left; refine fun (_ : ¬ _) => ?_; rotate_right; refine fun (_ : _ = true) => ?_)
      | ((with_reducible apply val_ite); rotate_left; refine fun (_ : ¬ _) => ?_; rotate_right; refine fun (_ : _ = true) => ?_)
      | (with_reducible refine wps_regionH ?_)
      | ((with_reducible apply wps_bindV); apply val_iteL; rotate_left; refine fun (_ : ¬ _) => ?_; rotate_right; refine fun (_ : _ = true) => ?_)
      | ((with_reducible apply val_iteL); rotate_left; refine fun (_ : ¬ _) => ?_; rotate_right; refine fun (_ : _ = true) => ?_)
      | (with_reducible exact wps_pure (ent_val rfl)))
    have hsl : s.toNat < sl.length := by omega
    refine wps_rdS s.toNat sl[s.toNat] (by omega) (by rw [List.getElem?_map, List.getElem?_eq_getElem hsl]; rfl) ?_
    refine wps_bind1 (slices_Clone_b_spec (b := D.sec s) (Ent.trans (ent_drop (B := seqp sl D.lasts)) (by rw [hsec]; exact seqp_get (List.getElem?_eq_getElem hsl))) (by rw [hsec]; omega)) fun s' => wps_pure ?_
    exact close s'
end Go.Proofs.Ytldmeimebebllaa
namespace Go.Proofs.Ytldmeimebebllaa
open Go.Mo
set_option linter.unusedVariables false
variable {g : Fr}
abbrev bnk (bb rb : Nat) (q m : G3) : HP := pc bb [.pointer (ptr rb), .int .i64 q.1, .int .i64 q.2.1, .int .i64 q.2.2, .int .i64 m.1, .int .i64 m.2.1, .int .i64 m.2.2]
def slotV (q m : G3) (slot : Int) : Int × Bool := if slot < 0 ∨ slot ≥ q.1 then (0, false) else if m.2.2 ≠ 0 ∧ m.2.1 = slot then (q.1, true) else (slot, true)
theorem bank_disk_val (bb rb : Nat) (q m : G3) (slot : Int) : Val g (bnk bb rb q m) (bank_Bank_disk (ptr bb) slot) (slotV q m slot) := by
  unfold bank_Bank_disk
  simp only [Addr.add_add, Nat.reduceAdd]
  apply val_eq
  · repeat (first
      | (with_reducible refine wps_bindpure ?_)
      | (with_reducible refine wps_assoc ?_)
      | (with_reducible refine wps_nil ?_)
      | (with_reducible refine wps_stepAlloc fun _ => ?_)
      | (with_reducible refine wps_alloc fun _ => ?_)
      | (with_reducible refine wps_newO fun _ => ?_)
      | (refine wps_ld _ (by rfl) ?_)
      | (refine wps_ldG _ _ _ (by rfl) ?_)
      | (refine wps_ldA _ (by rfl) ?_)
      | (refine wps_ldI _ (by rfl) ?_)
      | (refine wps_ldGI _ _ _ (by rfl) ?_)
      | (refine wps_ldAI _ (by rfl) ?_)
      | (refine wps_st (by simp) ?_)
      | (refine wps_stA (by simp) (by simp [Value.oneCell']) ?_)
      | ((with_reducible apply wps_val); apply val_ite; rotate_left; refine fun (_ : ¬ _) => ?_; rotate_right; refine fun (_ : _ = true) => ?_)
      | ((with_reducible apply val_ite); rotate_left; refine fun (_ : ¬ _) => ?_; rotate_right; refine fun (_ : _ = true) => ?_)
      | (with_reducible refine wps_regionH ?_)
      | ((with_reducible apply wps_bindV); apply val_iteL; rotate_left; refine fun (_ : ¬ _) => ?_; rotate_right; refine fun (_ : _ = true) => ?_)
      | ((with_reducible apply val_iteL); rotate_left; refine fun (_ : ¬ _) => ?_; rotate_right; refine fun (_ : _ = true) => ?_)
      | (with_reducible exact wps_pure (ent_val rfl)))
  · simp only [slotV]
    by_cases h1 : slot < 0
    · simp [h1]
    · by_cases h2 : slot ≥ q.1
      · simp [h2]
      · by_cases h3 : m.2.2 = 0
        · simp [h1, h2, h3]
        · by_cases h4 : m.2.1 = slot
          · simp [h1, h2, h3, h4]
          · simp [h1, h2, h3, h4]
theorem bank_Geo_val (bb rb : Nat) (q m : G3) : Val g (bnk bb rb q m) (bank_Bank_Geo (ptr bb)) q := by
  unfold bank_Bank_Geo
  repeat (first
    | (with_reducible refine wps_bindpure ?_)
    | (with_reducible refine wps_assoc ?_)
    | (with_reducible refine wps_nil ?_)
    | (with_reducible refine wps_stepAlloc fun _ => ?_)
    | (with_reducible refine wps_alloc fun _ => ?_)
    | (with_reducible refine wps_newO fun _ => ?_)
    | (refine wps_ld _ (by rfl) ?_)
    | (refine wps_ldG _ _ _ (by rfl) ?_)
    | (refine wps_ldA _ (by rfl) ?_)
    | (refine wps_ldI _ (by rfl) ?_)
    | (refine wps_ldGI _ _ _ (by rfl) ?_)
    | (refine wps_ldAI _ (by rfl) ?_)
    | (refine wps_st (by simp) ?_)
    | (refine wps_stA (by simp) (by simp [Value.oneCell']) ?_)
    | ((with_reducible apply wps_val); apply val_ite; rotate_left; refine fun (_ : ¬ _) => ?_; rotate_right; refine fun (_ : _ = true) => ?_)
    | ((with_reducible apply val_ite); rotate_left; refine fun (_ : ¬ _) => ?_; rotate_right; refine fun (_ : _ = true) => ?_)
    | (with_reducible refine wps_regionH ?_)
    | ((with_reducible apply wps_bindV); apply val_iteL; rotate_left; refine fun (_ : ¬ _) => ?_; rotate_right; refine fun (_ : _ = true) => ?_)
    | ((with_reducible apply val_iteL); rotate_left; refine fun (_ : ¬ _) => ?_; rotate_right; refine fun (_ : _ = true) => ?_)
    | (with_reducible exact wps_pure (ent_val rfl)))
theorem bank_Write_spec {H : HP} (bb rb : Nat) (q m : G3) (R : Rk) (ds : Slc) (ps : List Nat) (slot s : Int) (x : Slc) (b : List Int) (hx : Ent H (byt x b)) (hb : b.length ≤ 1099511627776) :
    wps g (H * bnk bb rb q m * rackP rb R ds ps) (bank_Bank_Write (ptr bb) slot s x) (fun e =>
      pr (e = if (slotV q m slot).2 then R.gate (slotV q m slot).1 s b.length else 11) * H * bnk bb rb q m * rackP rb (if (slotV q m slot).2 then R.write (slotV q m slot).1 s b else R) ds ps) := by
  unfold bank_Bank_Write
  refine wps_valH (fun _ => bank_disk_val bb rb q m slot) ?_
  by_cases hv : (slotV q m slot).2 = true
  · simp only [hv, if_true]
    refine wps_ite (fun h => absurd h (by simp)) (fun _ => ?_)
    repeat (first
      | (with_reducible refine wps_bindpure ?_)
      | (with_reducible refine wps_assoc ?_)
      | (with_reducible refine wps_nil ?_)
      | (with_reducible refine wps_stepAlloc fun _ => ?_)
      | (with_reducible refine wps_alloc fun _ => ?_)
      | (with_reducible refine wps_newO fun _ => ?_)
      | (refine wps_ld _ (by rfl) ?_)
      | (refine wps_ldG _ _ _ (by rfl) ?_)
      | (refine wps_ldA _ (by rfl) ?_)
      | (refine wps_ldI _ (by rfl) ?_)
      | (refine wps_ldGI _ _ _ (by rfl) ?_)
      | (refine wps_ldAI _ (by rfl) ?_)
      | (refine wps_st (by simp) ?_)
      | (refine wps_stA (by simp) (by simp [Value.oneCell']) ?_)
      | ((with_reducible apply wps_val); apply val_ite; rotate_left; refine fun (_ : ¬ _) => ?_; rotate_right; refine fun (_ : _ = true) => ?_)
      | ((with_reducible apply val_ite); rotate_left; refine fun (_ : ¬ _) => ?_; rotate_right; refine fun (_ : _ = true) => ?_)
      | (with_reducible refine wps_regionH ?_)
      | ((with_reducible apply wps_bindV); apply val_iteL; rotate_left; refine fun (_ : ¬ _) => ?_; rotate_right; refine fun (_ : _ = true) => ?_)
      | ((with_reducible apply val_iteL); rotate_left; refine fun (_ : ¬ _) => ?_; rotate_right; refine fun (_ : _ = true) => ?_)
      | (with_reducible exact wps_pure (ent_val rfl)))
    refine wps_tail (F := bnk bb rb q m) (fun _ => device_Rack_Write_spec rb R ds ps (slotV q m slot).1 s x b hx hb) ?_ fun e => ?_
    · refine Ent.of_eq ?_
      ac_rfl
    · refine Ent.of_eq ?_
      ac_rfl
  · simp only [hv, if_false, Bool.false_eq_true]
    refine wps_ite (fun _ => wps_pure ?_) (fun h => absurd rfl h)
    exact ent_pick (ent_pick (ent_prr rfl (Ent.refl _)))
def isBad (q m : G3) (R : Rk) (i : Nat) : Bool := R.failedB (slotV q m i).1 || (m.2.2 == 1 && m.2.1 == i)
def badL (q m : G3) (R : Rk) : List Nat := (List.range q.1.toNat).filter (isBad q m R)
def iv (l : List Nat) : List Value := l.map fun i => Value.int .i64 (i : Nat)
theorem bank_Bad_spec (bb rb : Nat) (q m : G3) (R : Rk) (ds : Slc) (ps : List Nat) (hq : q.1 ≤ 16) :
    wps g (bnk bb rb q m * rackP rb R ds ps) (bank_Bank_Bad (ptr bb)) (fun s => bnk bb rb q m * rackP rb R ds ps * own 1 s (iv (badL q m R))) := by
  unfold bank_Bank_Bad
  simp only [Addr.add_add, Nat.reduceAdd]
  repeat (first
    | (with_reducible refine wps_bindpure ?_)
    | (with_reducible refine wps_assoc ?_)
    | (with_reducible refine wps_nil ?_)
    | (with_reducible refine wps_stepAlloc fun _ => ?_)
    | (with_reducible refine wps_alloc fun _ => ?_)
    | (with_reducible refine wps_newO fun _ => ?_)
    | (refine wps_ld _ (by rfl) ?_)
    | (refine wps_ldG _ _ _ (by rfl) ?_)
    | (refine wps_ldA _ (by rfl) ?_)
    | (refine wps_ldI _ (by rfl) ?_)
    | (refine wps_ldGI _ _ _ (by rfl) ?_)
    | (refine wps_ldAI _ (by rfl) ?_)
    | (refine wps_st (by simp) ?_)
    | (refine wps_stA (by simp) (by simp [Value.oneCell']) ?_)
    | ((with_reducible apply wps_val); apply val_ite; rotate_left; refine fun (_ : ¬ _) => ?_; rotate_right; refine fun (_ : _ = true) => ?_)
    | ((with_reducible apply val_ite); rotate_left; refine fun (_ : ¬ _) => ?_; rotate_right; refine fun (_ : _ = true) => ?_)
    | (with_reducible refine wps_regionH ?_)
    | ((with_reducible apply wps_bindV); apply val_iteL; rotate_left; refine fun (_ : ¬ _) => ?_; rotate_right; refine fun (_ : _ = true) => ?_)
    | ((with_reducible apply val_iteL); rotate_left; refine fun (_ : ¬ _) => ?_; rotate_right; refine fun (_ : _ = true) => ?_)
    | (with_reducible exact wps_pure (ent_val rfl)))
  refine wps_loop (fun t => ex fun n : Nat => pr (t.2 = (n : Int) ∧ (n : Int) ≤ max 0 q.1) * bnk bb rb q m * rackP rb R ds ps * own 1 t.1 (iv ((List.range n).filter (isBad q m R)))) (fun t => (q.1 - t.2).toNat) ?_ fun t => ?_
  · refine ent_ex 0 (ent_own0 (ent_pick ?_))
    refine ent_prr ⟨rfl, by omega⟩ ?_
    exact Ent.refl _
  · refine wps_ex fun n => wps_prP fun ⟨ht, hn⟩ => ?_
    refine wps_ite (fun hc => ?_) (fun hc => ?_)
    · have hc' : t.2 < q.1 := by simpa using hc
      refine wps_valH (fun _ => bank_disk_val bb rb q m t.2) ?_
      repeat (first
        | (with_reducible refine wps_bindpure ?_)
        | (with_reducible refine wps_assoc ?_)
        | (with_reducible refine wps_nil ?_)
        | (with_reducible refine wps_stepAlloc fun _ => ?_)
        | (with_reducible refine wps_alloc fun _ => ?_)
        | (with_reducible refine wps_newO fun _ => ?_)
        | (refine wps_ld _ (by rfl) ?_)
        | (refine wps_ldG _ _ _ (by rfl) ?_)
        | (refine wps_ldA _ (by rfl) ?_)
        | (refine wps_ldI _ (by rfl) ?_)
        | (refine wps_ldGI _ _ _ (by rfl) ?_)
        | (refine wps_ldAI _ (by rfl) ?_)
        | (refine wps_st (by simp) ?_)
        | (refine wps_stA (by simp) (by simp [Value.oneCell']) ?_)
        | ((with_reducible apply wps_val); apply val_ite; rotate_left; refine fun (_ : ¬ _) => ?_; rotate_right; refine fun (_ : _ = true) => ?_)
        | ((with_reducible apply val_ite); rotate_left; refine fun (_ : ¬ _) => ?_; rotate_right; refine fun (_ : _ = true) => ?_)
        | (with_reducible refine wps_regionH ?_)
        | ((with_reducible apply wps_bindV); apply val_iteL; rotate_left; refine fun (_ : ¬ _) => ?_; rotate_right; refine fun (_ : _ = true) => ?_)
        | ((with_reducible apply val_iteL); rotate_left; refine fun (_ : ¬ _) => ?_; rotate_right; refine fun (_ : _ = true) => ?_)
        | (with_reducible exact wps_pure (ent_val rfl)))
      refine wps_valH (fun _ => device_Rack_Failed_val rb R ds ps (slotV q m t.2).1) ?_
      refine wps_val (v := isBad q m R n) ?_ ?_
      · apply val_eq
        · repeat (first
            | (with_reducible refine wps_bindpure ?_)
            | (with_reducible refine wps_assoc ?_)
            | (with_reducible refine wps_nil ?_)
            | (with_reducible refine wps_stepAlloc fun _ => ?_)
            | (with_reducible refine wps_alloc fun _ => ?_)
            | (with_reducible refine wps_newO fun _ => ?_)
            | (refine wps_ld _ (by rfl) ?_)
            | (refine wps_ldG _ _ _ (by rfl) ?_)
            | (refine wps_ldA _ (by rfl) ?_)
            | (refine wps_ldI _ (by rfl) ?_)
            | (refine wps_ldGI _ _ _ (by rfl) ?_)
            | (refine wps_ldAI _ (by rfl) ?_)
            | (refine wps_st (by simp) ?_)
            | (refine wps_stA (by simp) (by simp [Value.oneCell']) ?_)
            | ((with_reducible apply wps_val); apply val_ite; rotate_left; refine fun (_ : ¬ _) => ?_; rotate_right; refine fun (_ : _ = true) => ?_)
            | ((with_reducible apply val_ite); rotate_left; refine fun (_ : ¬ _) => ?_; rotate_right; refine fun (_ : _ = true) => ?_)
            | (with_reducible refine wps_regionH ?_)
            | ((with_reducible apply wps_bindV); apply val_iteL; rotate_left; refine fun (_ : ¬ _) => ?_; rotate_right; refine fun (_ : _ = true) => ?_)
            | ((with_reducible apply val_iteL); rotate_left; refine fun (_ : ¬ _) => ?_; rotate_right; refine fun (_ : _ = true) => ?_)
            | (with_reducible exact wps_pure (ent_val rfl)))
        · simp only [isBad, ht]
          by_cases h1 : R.failedB (slotV q m n).1 = true
          · simp [h1]
          · by_cases h2 : m.2.2 = 1 <;> simp [h1, h2]
      · have hf : (List.range (n + 1)).filter (isBad q m R) = (List.range n).filter (isBad q m R) ++ if isBad q m R n then [n] else [] := by
          rw [List.range_succ, List.filter_append]
          by_cases h : isBad q m R n = true <;> simp [h]
        refine wps_ite (fun hb => ?_) (fun hb => ?_)
        · refine wps_fact (Ent.trans (ent_pick1 (A := own 1 t.1 (iv ((List.range n).filter (isBad q m R))))) (own_len _ _ _)) fun ⟨hl, _⟩ => ?_
          have hl2 : t.1.len ≤ n := by
            have := List.length_filter_le (isBad q m R) (List.range n)
            simp only [iv, List.length_map, List.length_range] at hl this
            omega
          repeat (first
            | (with_reducible refine wps_bindpure ?_)
            | (with_reducible refine wps_assoc ?_)
            | (with_reducible refine wps_nil ?_)
            | (with_reducible refine wps_stepAlloc fun _ => ?_)
            | (with_reducible refine wps_alloc fun _ => ?_)
            | (with_reducible refine wps_newO fun _ => ?_)
            | (refine wps_ld _ (by rfl) ?_)
            | (refine wps_ldG _ _ _ (by rfl) ?_)
            | (refine wps_ldA _ (by rfl) ?_)
            | (refine wps_ldI _ (by rfl) ?_)
            | (refine wps_ldGI _ _ _ (by rfl) ?_)
            | (refine wps_ldAI _ (by rfl) ?_)
            | (refine wps_st (by simp) ?_)
            | (refine wps_stA (by simp) (by simp [Value.oneCell']) ?_)
            | ((with_reducible apply wps_val); apply val_ite; rotate_left; refine fun (_ : ¬ _) => ?_; rotate_right; refine fun (_ : _ = true) => ?_)
            | ((with_reducible apply val_ite); rotate_left; refine fun (_ : ¬ _) => ?_; rotate_right; refine fun (_ : _ = true) => ?_)
            | (with_reducible refine wps_regionH ?_)
            | ((with_reducible apply wps_bindV); apply val_iteL; rotate_left; refine fun (_ : ¬ _) => ?_; rotate_right; refine fun (_ : _ = true) => ?_)
            | ((with_reducible apply val_iteL); rotate_left; refine fun (_ : ¬ _) => ?_; rotate_right; refine fun (_ : _ = true) => ?_)
            | (with_reducible exact wps_pure (ent_val rfl)))
          rename_i c
          refine wps_app 1 [Value.int .i64 t.2] rfl (by decide) (rsl_pc rfl) (by simp [Value.oneCell']) (by (try dsimp only); omega) fun s' hs' => wps_pure ?_
          refine ent_prr (by rw [range_add1 ht (by omega)]; (try dsimp only); omega) (ent_ex (n + 1) ?_)
          refine ent_pickS (by rw [hf, if_pos hb, ht]; simp [iv]) (ent_pick (ent_pick ?_))
          exact ent_prq ⟨range_add1 ht (by omega), by omega⟩
        · refine wps_pure ?_
          refine ent_prr (by rw [range_add1 ht (by omega)]; (try dsimp only); omega) (ent_ex (n + 1) ?_)
          refine ent_pickS (by rw [hf, if_neg hb]; simp [iv]) (ent_pick (ent_pick ?_))
          exact ent_prq ⟨range_add1 ht (by omega), by omega⟩
    · have hc' : ¬ t.2 < q.1 := by simpa using hc
      have hnq : (List.range n).filter (isBad q m R) = badL q m R := by
        unfold badL; congr 2; omega
      rw [hnq]
      refine wps_mapR (wps_pure ?_)
      exact ent_pick (ent_pick ent_drop)
end Go.Proofs.Ytldmeimebebllaa
namespace Go.Proofs.Ytldmeimebebllaa
open Go.Mo
set_option linter.unusedVariables false
variable {g : Fr}
abbrev RefT := Int × Int × Slc × Slc × Slc × Slc × Int × Bool
def rlast (R : Rk) (i : Nat) : List Int := (R.dk (i / R.ns)).lasts (i % R.ns)
def rcach (R : Rk) (i : Nat) : List Int := ((R.dk (i / R.ns)).cached ((i % R.ns : Nat) : Int)).getD []
def bads (R : Rk) : List Value := (List.range R.n).map fun j => .bool (R.dk j).failed
def cnts (R : Rk) : List Value := (List.range R.n).map fun j => .int .i64 (R.dk j).count
structure RefOk (v : RefT) (R : Rk) (sl cl : List Slc) : Prop where
  n : v.1 = R.n
  ns : v.2.1 = R.ns
  count : v.2.2.2.2.2.2.1 = R.count
  off : v.2.2.2.2.2.2.2 = R.off
  sl : sl.length = R.n * R.ns
  cl : cl.length = R.n * R.ns
  n17 : R.n ≤ 17
  ns4 : R.ns ≤ 4096
  l1 : v.2.2.1.len = R.n * R.ns
  l2 : v.2.2.2.1.len = R.n * R.ns
  l3 : v.2.2.2.2.1.len = R.n
  l4 : v.2.2.2.2.2.1.len = R.n
def refX (v : RefT) (R : Rk) (sl cl : List Slc) : HP :=
  pr (RefOk v R sl cl) * seqp sl (rlast R) * seqp cl (rcach R) * own 1 v.2.2.1 (sl.map vS) * own 1 v.2.2.2.1 (cl.map vS) * own 1 v.2.2.2.2.1 (bads R) * own 1 v.2.2.2.2.2.1 (cnts R)
def refV (v : RefT) (R : Rk) : HP := ex fun sl : List Slc => ex fun cl : List Slc => refX v R sl cl
abbrev refC (v : RefT) : List Value := [.int .i64 v.1, .int .i64 v.2.1, vS v.2.2.1, vS v.2.2.2.1, vS v.2.2.2.2.1, vS v.2.2.2.2.2.1, .int .i64 v.2.2.2.2.2.2.1, .bool v.2.2.2.2.2.2.2]
def refZ : RefT := (0, 0, nilS, nilS, nilS, nilS, 0, false)
def rn1 (N S a x : Nat) : Int → HP := fun i => ex fun sl : List Slc => ex fun cl : List Slc => ex fun l1 : Slc => ex fun l2 : Slc =>
  pr (i = (sl.length : Int) ∧ sl.length ≤ N * S ∧ cl.length = sl.length ∧ l1.len = sl.length ∧ l2.len = sl.length) * seqp sl (fun _ => noughts) * seqp cl (fun _ => []) * own 1 l1 (sl.map vS) * own 1 l2 (cl.map vS) *
    pc a (refC refZ) * pc x (refC (N, S, l1, l2, nilS, nilS, -1, false))
def rn2 (N S a x : Nat) (F : HP) (l1 l2 : Slc) : Int → HP := fun i => ex fun k : Nat => ex fun l3 : Slc => ex fun l4 : Slc =>
  pr (i = (k : Int) ∧ k ≤ N ∧ l3.len = k ∧ l4.len = k) * F * own 1 l3 ((List.range k).map fun _ => .bool false) * own 1 l4 ((List.range k).map fun _ => .int .i64 (-1)) *
    pc a (refC refZ) * pc x (refC (N, S, l1, l2, l3, l4, -1, false))
theorem ref02_New_spec (n s : Int) : wps g emp (ref02_New n s) (fun x =>
    if n < 1 ∨ n > 17 ∨ s < 1 ∨ s > 4096 then pr (x.2 = 10) else pr (x.2 = 0) * refV x.1 (Rk.new n.toNat s.toNat)) := by
  unfold ref02_New
  repeat (first
    | (with_reducible refine wps_bindpure ?_)
    | (with_reducible refine wps_assoc ?_)
    | (with_reducible refine wps_nil ?_)
    | (with_reducible refine wps_stepAlloc fun _ => ?_)
    | (with_reducible refine wps_alloc fun _ => ?_)
    | (with_reducible refine wps_newO fun _ => ?_)
    | (refine wps_ld _ (by rfl) ?_)
    | (refine wps_ldG _ _ _ (by rfl) ?_)
    | (refine wps_ldA _ (by rfl) ?_)
    | (refine wps_ldI _ (by rfl) ?_)
    | (refine wps_ldGI _ _ _ (by rfl) ?_)
    | (refine wps_ldAI _ (by rfl) ?_)
    | (refine wps_st (by simp) ?_)
    | (refine wps_stA (by simp) (by simp [Value.oneCell']) ?_)
    | ((with_reducible apply wps_val); apply val_ite; rotate_left; refine fun (_ : ¬ _) => ?_; rotate_right; refine fun (_ : _ = true) => ?_)
    | ((with_reducible apply val_ite); rotate_left; refine fun (_ : ¬ _) => ?_; rotate_right; refine fun (_ : _ = true) => ?_)
    | (with_reducible refine wps_regionH ?_)
    | ((with_reducible apply wps_bindV); apply val_iteL; rotate_left; refine fun (_ : ¬ _) => ?_; rotate_right; refine fun (_ : _ = true) => ?_)
    | ((with_reducible apply val_iteL); rotate_left; refine fun (_ : ¬ _) => ?_; rotate_right; refine fun (_ : _ = true) => ?_)
    | (with_reducible exact wps_pure (ent_val rfl)))
  refine wps_ite (fun h1 => ?_) (fun h1 => ?_)
  · rw [or_tree] at h1
    simp only [if_pos h1]
    repeat (first
      | (with_reducible refine wps_bindpure ?_)
      | (with_reducible refine wps_assoc ?_)
      | (with_reducible refine wps_nil ?_)
      | (with_reducible refine wps_stepAlloc fun _ => ?_)
      | (with_reducible refine wps_alloc fun _ => ?_)
      | (with_reducible refine wps_newO fun _ => ?_)
      | (refine wps_ld _ (by rfl) ?_)
      | (refine wps_ldG _ _ _ (by rfl) ?_)
      | (refine wps_ldA _ (by rfl) ?_)
      | (refine wps_ldI _ (by rfl) ?_)
      | (refine wps_ldGI _ _ _ (by rfl) ?_)
      | (refine wps_ldAI _ (by rfl) ?_)
      | (refine wps_st (by simp) ?_)
      | (refine wps_stA (by simp) (by simp [Value.oneCell']) ?_)
      | ((with_reducible apply wps_val); apply val_ite; rotate_left; refine fun (_ : ¬ _) => ?_; rotate_right; refine fun (_ : _ = true) => ?_)
      | ((with_reducible apply val_ite); rotate_left; refine fun (_ : ¬ _) => ?_; rotate_right; refine fun (_ : _ = true) => ?_)
      | (with_reducible refine wps_regionH ?_)
      | ((with_reducible apply wps_bindV); apply val_iteL; rotate_left; refine fun (_ : ¬ _) => ?_; rotate_right; refine fun (_ : _ = true) => ?_)
      | ((with_reducible apply val_iteL); rotate_left; refine fun (_ : ¬ _) => ?_; rotate_right; refine fun (_ : _ = true) => ?_)
      | (with_reducible exact wps_pure (ent_val rfl)))
    refine wps_ldA refZ (by rfl) ?_
    exact wps_pure (ent_prq rfl)
  · rw [or_tree] at h1
    simp only [if_neg h1]
    repeat (first
      | (with_reducible refine wps_bindpure ?_)
      | (with_reducible refine wps_assoc ?_)
      | (with_reducible refine wps_nil ?_)
      | (with_reducible refine wps_stepAlloc fun _ => ?_)
      | (with_reducible refine wps_alloc fun _ => ?_)
      | (with_reducible refine wps_newO fun _ => ?_)
      | (refine wps_ld _ (by rfl) ?_)
      | (refine wps_ldG _ _ _ (by rfl) ?_)
      | (refine wps_ldA _ (by rfl) ?_)
      | (refine wps_ldI _ (by rfl) ?_)
      | (refine wps_ldGI _ _ _ (by rfl) ?_)
      | (refine wps_ldAI _ (by rfl) ?_)
      | (refine wps_st (by simp) ?_)
      | (refine wps_stA (by simp) (by simp [Value.oneCell']) ?_)
      | ((with_reducible apply wps_val); apply val_ite; rotate_left; refine fun (_ : ¬ _) => ?_; rotate_right; refine fun (_ : _ = true) => ?_)
      | ((with_reducible apply val_ite); rotate_left; refine fun (_ : ¬ _) => ?_; rotate_right; refine fun (_ : _ = true) => ?_)
      | (with_reducible refine wps_regionH ?_)
      | ((with_reducible apply wps_bindV); apply val_iteL; rotate_left; refine fun (_ : ¬ _) => ?_; rotate_right; refine fun (_ : _ = true) => ?_)
      | ((with_reducible apply val_iteL); rotate_left; refine fun (_ : ¬ _) => ?_; rotate_right; refine fun (_ : _ = true) => ?_)
      | (with_reducible exact wps_pure (ent_val rfl)))
    rename_i a x
    obtain ⟨N, rfl⟩ : ∃ N : Nat, n = (N : Int) := ⟨n.toNat, by omega⟩
    obtain ⟨S, rfl⟩ : ∃ S : Nat, s = (S : Int) := ⟨s.toNat, by omega⟩
    have hN : N ≤ 17 := by omega
    have hS : S ≤ 4096 := by omega
    have hNS : N * S ≤ 69632 := Nat.mul_le_mul hN hS
    have hm : w64 ((N : Int) * (S : Int)) = ((N * S : Nat) : Int) := by rw [← Int.natCast_mul, w64_id] <;> omega
    rw [hm]
    refine wps_loop (rn1 N S a x) (fun i => ((N * S : Nat) - i).toNat) ?_ fun i => ?_
    · refine ent_ex [] (ent_ex [] (ent_ex nilS (ent_ex nilS (ent_pickC (by rfl) (ent_pickC (by rfl) (ent_own0 (ent_own0 (ent_pers (ent_pers ?_ (seqp_nil _ _)) (seqp_nil _ _)))))))))
      exact ent_prq (by simp [nilS])
    · unfold rn1
      refine wps_ex fun sl => wps_ex fun cl => wps_ex fun l1 => wps_ex fun l2 => wps_prP fun ⟨hi, hle, hcl, h1l, h2l⟩ => ?_
      refine wps_ite (fun h2 => ?_) (fun h2 => ?_)
      · have hlt : sl.length < N * S := by simp only [decide_eq_true_eq] at h2; omega
        repeat (first
          | (with_reducible refine wps_bindpure ?_)
          | (with_reducible refine wps_assoc ?_)
          | (with_reducible refine wps_nil ?_)
          | (with_reducible refine wps_stepAlloc fun _ => ?_)
          | (with_reducible refine wps_alloc fun _ => ?_)
          | (with_reducible refine wps_newO fun _ => ?_)
          | (refine wps_ld _ (by rfl) ?_)
          | (refine wps_ldG _ _ _ (by rfl) ?_)
          | (refine wps_ldA _ (by rfl) ?_)
          | (refine wps_ldI _ (by rfl) ?_)
          | (refine wps_ldGI _ _ _ (by rfl) ?_)
          | (refine wps_ldAI _ (by rfl) ?_)
          | (refine wps_st (by simp) ?_)
          | (refine wps_stA (by simp) (by simp [Value.oneCell']) ?_)
          | ((with_reducible apply wps_val); apply val_ite; rotate_left; refine fun (_ : ¬ _) => ?_; rotate_right; refine fun (_ : _ = true) => ?_)
          | ((with_reducible apply val_ite); rotate_left; refine fun (_ : ¬ _) => ?_; rotate_right; refine fun (_ : _ = true) => ?_)
          | (with_reducible refine wps_regionH ?_)
          | ((with_reducible apply wps_bindV); apply val_iteL; rotate_left; refine fun (_ : ¬ _) => ?_; rotate_right; refine fun (_ : _ = true) => ?_)
          | ((with_reducible apply val_iteL); rotate_left; refine fun (_ : ¬ _) => ?_; rotate_right; refine fun (_ : _ = true) => ?_)
          | (with_reducible exact wps_pure (ent_val rfl)))
        rename_i y c
        refine wps_app 1 [Value.slice (some ⟨y, 0, none⟩) 64 64] rfl (by decide) (rsl_pc rfl) (by simp [Value.oneCell']) (by (try dsimp only); omega) fun l1' hl1 => ?_
        repeat (first
          | (with_reducible refine wps_bindpure ?_)
          | (with_reducible refine wps_assoc ?_)
          | (with_reducible refine wps_nil ?_)
          | (with_reducible refine wps_stepAlloc fun _ => ?_)
          | (with_reducible refine wps_alloc fun _ => ?_)
          | (with_reducible refine wps_newO fun _ => ?_)
          | (refine wps_ld _ (by rfl) ?_)
          | (refine wps_ldG _ _ _ (by rfl) ?_)
          | (refine wps_ldA _ (by rfl) ?_)
          | (refine wps_ldI _ (by rfl) ?_)
          | (refine wps_ldGI _ _ _ (by rfl) ?_)
          | (refine wps_ldAI _ (by rfl) ?_)
          | (refine wps_st (by simp) ?_)
          | (refine wps_stA (by simp) (by simp [Value.oneCell']) ?_)
          | ((with_reducible apply wps_val); apply val_ite; rotate_left; refine fun (_ : ¬ _) => ?_; rotate_right; refine fun (_ : _ = true) => ?_)
          | ((with_reducible apply val_ite); rotate_left; refine fun (_ : ¬ _) => ?_; rotate_right; refine fun (_ : _ = true) => ?_)
          | (with_reducible refine wps_regionH ?_)
          | ((with_reducible apply wps_bindV); apply val_iteL; rotate_left; refine fun (_ : ¬ _) => ?_; rotate_right; refine fun (_ : _ = true) => ?_)
          | ((with_reducible apply val_iteL); rotate_left; refine fun (_ : ¬ _) => ?_; rotate_right; refine fun (_ : _ = true) => ?_)
          | (with_reducible exact wps_pure (ent_val rfl)))
        rename_i c2
        refine wps_app 1 [Value.slice none 0 0] rfl (by decide) (rsl_pc rfl) (by simp [Value.oneCell']) (by (try dsimp only); omega) fun l2' hl2 => ?_
        repeat (first
          | (with_reducible refine wps_bindpure ?_)
          | (with_reducible refine wps_assoc ?_)
          | (with_reducible refine wps_nil ?_)
          | (with_reducible refine wps_stepAlloc fun _ => ?_)
          | (with_reducible refine wps_alloc fun _ => ?_)
          | (with_reducible refine wps_newO fun _ => ?_)
          | (refine wps_ld _ (by rfl) ?_)
          | (refine wps_ldG _ _ _ (by rfl) ?_)
          | (refine wps_ldA _ (by rfl) ?_)
          | (refine wps_ldI _ (by rfl) ?_)
          | (refine wps_ldGI _ _ _ (by rfl) ?_)
          | (refine wps_ldAI _ (by rfl) ?_)
          | (refine wps_st (by simp) ?_)
          | (refine wps_stA (by simp) (by simp [Value.oneCell']) ?_)
          | ((with_reducible apply wps_val); apply val_ite; rotate_left; refine fun (_ : ¬ _) => ?_; rotate_right; refine fun (_ : _ = true) => ?_)
          | ((with_reducible apply val_ite); rotate_left; refine fun (_ : ¬ _) => ?_; rotate_right; refine fun (_ : _ = true) => ?_)
          | (with_reducible refine wps_regionH ?_)
          | ((with_reducible apply wps_bindV); apply val_iteL; rotate_left; refine fun (_ : ¬ _) => ?_; rotate_right; refine fun (_ : _ = true) => ?_)
          | ((with_reducible apply val_iteL); rotate_left; refine fun (_ : ¬ _) => ?_; rotate_right; refine fun (_ : _ = true) => ?_)
          | (with_reducible exact wps_pure (ent_val rfl)))
        refine wps_pure (ent_prr (by rw [range_add1 hi (by omega)]; omega) (ent_ex (sl ++ [⟨some ⟨y, 0, none⟩, 64, 64⟩]) (ent_ex (cl ++ [nilS]) (ent_ex l1' (ent_ex l2' (ent_pickC (by rfl) (ent_pick (ent_pickS (by simp [vS, nilS]) (ent_pickS (by simp [vS]) ?_)))))))))
        refine ent_swap (A := pc y (List.replicate 64 (Value.int .u8 0))) (B := byt ⟨some ⟨y, 0, none⟩, 64, 64⟩ noughts) (Ent.trans (Ent.trans (pc_own (n := 64) (z := 1) (by simp)) (own_rsl _ _ _)) (Ent.of_eq (by rw [byt, bv_noughts]))) ?_
        refine ent_add (A := byt nilS []) (rsl_nil 1) ?_
        refine ent_join (A := seqp cl fun _ => []) (B := byt nilS []) (seqp_snoc (ent_left _ _) (ent_right _ _)) ?_
        refine ent_join (A := seqp sl fun _ => noughts) (B := byt ⟨some ⟨y, 0, none⟩, 64, 64⟩ noughts) (seqp_snoc (ent_left _ _) (ent_right _ _)) ?_
        exact ent_prq ⟨by rw [range_add1 hi (by omega)]; simp, by simp; omega, by simp [hcl], by simp [hl1, h1l], by simp [hl2, h2l]⟩
      · have hse : sl.length = N * S := by simp only [decide_eq_true_eq] at h2; omega
        refine wps_mapR ?_
        refine wps_loop (rn2 N S a x (seqp sl (fun _ => noughts) * seqp cl (fun _ => []) * own 1 l1 (sl.map vS) * own 1 l2 (cl.map vS)) l1 l2) (fun i => (N - i).toNat) ?_ fun j => ?_
        · refine ent_ex 0 (ent_ex nilS (ent_ex nilS (ent_pick (ent_pick (ent_own0 (ent_own0 ?_))))))
          exact ent_prr (by simp [nilS]) (Ent.of_eq (by simp only [emp_star]))
        · unfold rn2
          refine wps_ex fun k => wps_ex fun l3 => wps_ex fun l4 => wps_prP fun ⟨hj, hk, h3l, h4l⟩ => ?_
          refine wps_ite (fun h3 => ?_) (fun h3 => ?_)
          · have hlt : k < N := by simp only [decide_eq_true_eq] at h3; omega
            repeat (first
              | (with_reducible refine wps_bindpure ?_)
              | (with_reducible refine wps_assoc ?_)
              | (with_reducible refine wps_nil ?_)
              | (with_reducible refine wps_stepAlloc fun _ => ?_)
              | (with_reducible refine wps_alloc fun _ => ?_)
              | (with_reducible refine wps_newO fun _ => ?_)
              | (refine wps_ld _ (by rfl) ?_)
              | (refine wps_ldG _ _ _ (by rfl) ?_)
              | (refine wps_ldA _ (by rfl) ?_)
              | (refine wps_ldI _ (by rfl) ?_)
              | (refine wps_ldGI _ _ _ (by rfl) ?_)
              | (refine wps_ldAI _ (by rfl) ?_)
              | (refine wps_st (by simp) ?_)
              | (refine wps_stA (by simp) (by simp [Value.oneCell']) ?_)
              | ((with_reducible apply wps_val); apply val_ite; rotate_left; refine fun (_ : ¬ _) => ?_; rotate_right; refine fun (_ : _ = true) => ?_)
              | ((with_reducible apply val_ite); rotate_left; refine fun (_ : ¬ _) => ?_; rotate_right; refine fun (_ : _ = true) => ?_)
              | (with_reducible refine wps_regionH ?_)
              | ((with_reducible apply wps_bindV); apply val_iteL; rotate_left; refine fun (_ : ¬ _) => ?_; rotate_right; refine fun (_ : _ = true) => ?_)
              | ((with_reducible apply val_iteL); rotate_left; refine fun (_ : ¬ _) => ?_; rotate_right; refine fun (_ : _ = true) => ?_)
              | (with_reducible exact wps_pure (ent_val rfl)))
            refine wps_app 1 [Value.bool false] rfl (by decide) (rsl_pc rfl) (by simp [Value.oneCell']) (by (try dsimp only); omega) fun l3' hl3 => ?_
            repeat (first
              | (with_reducible refine wps_bindpure ?_)
              | (with_reducible refine wps_assoc ?_)
              | (with_reducible refine wps_nil ?_)
              | (with_reducible refine wps_stepAlloc fun _ => ?_)
              | (with_reducible refine wps_alloc fun _ => ?_)
              | (with_reducible refine wps_newO fun _ => ?_)
              | (refine wps_ld _ (by rfl) ?_)
              | (refine wps_ldG _ _ _ (by rfl) ?_)
              | (refine wps_ldA _ (by rfl) ?_)
              | (refine wps_ldI _ (by rfl) ?_)
              | (refine wps_ldGI _ _ _ (by rfl) ?_)
              | (refine wps_ldAI _ (by rfl) ?_)
              | (refine wps_st (by simp) ?_)
              | (refine wps_stA (by simp) (by simp [Value.oneCell']) ?_)
              | ((with_reducible apply wps_val); apply val_ite; rotate_left; refine fun (_ : ¬ _) => ?_; rotate_right; refine fun (_ : _ = true) => ?_)
              | ((with_reducible apply val_ite); rotate_left; refine fun (_ : ¬ _) => ?_; rotate_right; refine fun (_ : _ = true) => ?_)
              | (with_reducible refine wps_regionH ?_)
              | ((with_reducible apply wps_bindV); apply val_iteL; rotate_left; refine fun (_ : ¬ _) => ?_; rotate_right; refine fun (_ : _ = true) => ?_)
              | ((with_reducible apply val_iteL); rotate_left; refine fun (_ : ¬ _) => ?_; rotate_right; refine fun (_ : _ = true) => ?_)
              | (with_reducible exact wps_pure (ent_val rfl)))
            refine wps_app 1 [Value.int .i64 (-1)] rfl (by decide) (rsl_pc rfl) (by simp [Value.oneCell']) (by (try dsimp only); omega) fun l4' hl4 => ?_
            repeat (first
              | (with_reducible refine wps_bindpure ?_)
              | (with_reducible refine wps_assoc ?_)
              | (with_reducible refine wps_nil ?_)
              | (with_reducible refine wps_stepAlloc fun _ => ?_)
              | (with_reducible refine wps_alloc fun _ => ?_)
              | (with_reducible refine wps_newO fun _ => ?_)
              | (refine wps_ld _ (by rfl) ?_)
              | (refine wps_ldG _ _ _ (by rfl) ?_)
              | (refine wps_ldA _ (by rfl) ?_)
              | (refine wps_ldI _ (by rfl) ?_)
              | (refine wps_ldGI _ _ _ (by rfl) ?_)
              | (refine wps_ldAI _ (by rfl) ?_)
              | (refine wps_st (by simp) ?_)
              | (refine wps_stA (by simp) (by simp [Value.oneCell']) ?_)
              | ((with_reducible apply wps_val); apply val_ite; rotate_left; refine fun (_ : ¬ _) => ?_; rotate_right; refine fun (_ : _ = true) => ?_)
              | ((with_reducible apply val_ite); rotate_left; refine fun (_ : ¬ _) => ?_; rotate_right; refine fun (_ : _ = true) => ?_)
              | (with_reducible refine wps_regionH ?_)
              | ((with_reducible apply wps_bindV); apply val_iteL; rotate_left; refine fun (_ : ¬ _) => ?_; rotate_right; refine fun (_ : _ = true) => ?_)
              | ((with_reducible apply val_iteL); rotate_left; refine fun (_ : ¬ _) => ?_; rotate_right; refine fun (_ : _ = true) => ?_)
              | (with_reducible exact wps_pure (ent_val rfl)))
            refine wps_pure (ent_prr (by rw [range_add1 hj (by omega)]; omega) (ent_ex (k + 1) (ent_ex l3' (ent_ex l4' (ent_pickC (by rfl) (ent_pick (ent_pickS (by simp [List.range_succ]) (ent_pickS (by simp [List.range_succ]) ?_))))))))
            exact ent_prr ⟨range_add1 hj (by omega), by omega, by simp [hl3, h3l], by simp [hl4, h4l]⟩ ent_drop
          · have hke : k = N := by simp only [decide_eq_true_eq] at h3; omega
            refine wps_mapR ?_
            refine wps_ldA (N, S, l1, l2, l3, l4, -1, false) (by rfl) ?_
            repeat (first
              | (with_reducible refine wps_bindpure ?_)
              | (with_reducible refine wps_assoc ?_)
              | (with_reducible refine wps_nil ?_)
              | (with_reducible refine wps_stepAlloc fun _ => ?_)
              | (with_reducible refine wps_alloc fun _ => ?_)
              | (with_reducible refine wps_newO fun _ => ?_)
              | (refine wps_ld _ (by rfl) ?_)
              | (refine wps_ldG _ _ _ (by rfl) ?_)
              | (refine wps_ldA _ (by rfl) ?_)
              | (refine wps_ldI _ (by rfl) ?_)
              | (refine wps_ldGI _ _ _ (by rfl) ?_)
              | (refine wps_ldAI _ (by rfl) ?_)
              | (refine wps_st (by simp) ?_)
              | (refine wps_stA (by simp) (by simp [Value.oneCell']) ?_)
              | ((with_reducible apply wps_val); apply val_ite; rotate_left; refine fun (_ : ¬ _) => ?_; rotate_right; refine fun (_ : _ = true) => ?_)
              | ((with_reducible apply val_ite); rotate_left; refine fun (_ : ¬ _) => ?_; rotate_right; refine fun (_ : _ = true) => ?_)
              | (with_reducible refine wps_regionH ?_)
              | ((with_reducible apply wps_bindV); apply val_iteL; rotate_left; refine fun (_ : ¬ _) => ?_; rotate_right; refine fun (_ : _ = true) => ?_)
              | ((with_reducible apply val_iteL); rotate_left; refine fun (_ : ¬ _) => ?_; rotate_right; refine fun (_ : _ = true) => ?_)
              | (with_reducible exact wps_pure (ent_val rfl)))
            refine wps_pure (ent_prr rfl (ent_ex sl (ent_ex cl ?_)))
            subst hke
            refine ent_pickS rfl (ent_pickS rfl (ent_pickS rfl (ent_pickS rfl ?_)))
            have e1 : rcach (Rk.new (k : Int).toNat (S : Int).toNat) = fun _ => [] := rfl
            have e2 : rlast (Rk.new (k : Int).toNat (S : Int).toNat) = fun _ => noughts := rfl
            rw [e1, e2]
            refine ent_pick (ent_pick (ent_prq ?_))
            exact ⟨rfl, rfl, rfl, rfl, hse, by rw [hcl, hse]; rfl, hN, hS, h1l.trans hse, h2l.trans hse, h3l, h4l⟩
end Go.Proofs.Ytldmeimebebllaa
namespace Go.Proofs.Ytldmeimebebllaa
open Go.Mo
set_option linter.unusedVariables false
variable {g : Fr}
def OpenB (n ns : Nat) (q m : G3) : Bool := RightB q && ((n : Int) == q.1 + 1 && ((ns : Int) == SectorsI q && FitsB q m))
theorem open_tree (n ns : Nat) (q m : G3) :
    (if (if (if (!RightB q) = true then true else ((n : Int) != w64 (q.1 + 1))) = true then true else ((ns : Int) != SectorsI q)) = true then true else !FitsB q m) = !OpenB n ns q m := by
  unfold OpenB
  by_cases h1 : RightB q = true
  · have h2 := (RightB.bnd h1).d16
    have h3 := (RightB.bnd h1).d3
    rw [w64_id (by omega) (by omega)]
    by_cases h4 : (n : Int) = q.1 + 1
    · by_cases h5 : (ns : Int) = SectorsI q
      · simp [h1, h4, h5]
      · simp [h1, h4, h5]
    · simp [h1, h4]
  · simp [h1]
theorem bank_Open_spec (rb : Nat) (R : Rk) (ds : Slc) (ps : List Nat) (q m : G3) : wps g (rackP rb R ds ps) (bank_Open (ptr rb) q m) (fun x =>
    if OpenB R.n R.ns q m then ex fun bb => pr (x = (ptr bb, 0)) * rackP rb R ds ps * bnk bb rb q m else pr (x = (none, 10)) * rackP rb R ds ps) := by
  unfold bank_Open
  repeat (first
    | (with_reducible refine wps_bindpure ?_)
    | (with_reducible refine wps_assoc ?_)
    | (with_reducible refine wps_nil ?_)
    | (with_reducible refine wps_stepAlloc fun _ => ?_)
    | (with_reducible refine wps_alloc fun _ => ?_)
    | (with_reducible refine wps_newO fun _ => ?_)
    | (refine wps_ld _ (by rfl) ?_)
    | (refine wps_ldG _ _ _ (by rfl) ?_)
    | (refine wps_ldA _ (by rfl) ?_)
    | (refine wps_ldI _ (by rfl) ?_)
    | (refine wps_ldGI _ _ _ (by rfl) ?_)
    | (refine wps_ldAI _ (by rfl) ?_)
    | (refine wps_st (by simp) ?_)
    | (refine wps_stA (by simp) (by simp [Value.oneCell']) ?_)
    | ((with_reducible apply wps_val); apply val_ite; rotate_left; refine fun (_ : ¬ _) => ?_; rotate_right; refine fun (_ : _ = true) => ?_)
    | ((with_reducible apply val_ite); rotate_left; refine fun (_ : ¬ _) => ?_; rotate_right; refine fun (_ : _ = true) => ?_)
    | (with_reducible refine wps_regionH ?_)
    | ((with_reducible apply wps_bindV); apply val_iteL; rotate_left; refine fun (_ : ¬ _) => ?_; rotate_right; refine fun (_ : _ = true) => ?_)
    | ((with_reducible apply val_iteL); rotate_left; refine fun (_ : ¬ _) => ?_; rotate_right; refine fun (_ : _ = true) => ?_)
    | (with_reducible exact wps_pure (ent_val rfl)))
  refine wps_valH (fun _ => device_Rack_Size_val rb R ds ps) ?_
  repeat (first
    | (with_reducible refine wps_val (geo_Right_val _) ?_)
    | (with_reducible refine wps_stepV (geo_Right_val _) ?_)
    | (with_reducible refine wps_val (geo_Sectors_val _) ?_)
    | (with_reducible refine wps_stepV (geo_Sectors_val _) ?_)
    | (with_reducible refine wps_val (bank_fits_val _ _) ?_)
    | (with_reducible refine wps_stepV (bank_fits_val _ _) ?_)
    | (with_reducible refine wps_bindpure ?_)
    | (with_reducible refine wps_assoc ?_)
    | (with_reducible refine wps_nil ?_)
    | (with_reducible refine wps_stepAlloc fun _ => ?_)
    | (with_reducible refine wps_alloc fun _ => ?_)
    | (with_reducible refine wps_newO fun _ => ?_)
    | (refine wps_ld _ (by rfl) ?_)
    | (refine wps_ldG _ _ _ (by rfl) ?_)
    | (refine wps_ldA _ (by rfl) ?_)
    | (refine wps_ldI _ (by rfl) ?_)
    | (refine wps_ldGI _ _ _ (by rfl) ?_)
    | (refine wps_ldAI _ (by rfl) ?_)
    | (refine wps_st (by simp) ?_)
    | (refine wps_stA (by simp) (by simp [Value.oneCell']) ?_)
    | ((with_reducible apply wps_val); apply val_ite; rotate_left; refine fun (_ : ¬ _) => ?_; rotate_right; refine fun (_ : _ = true) => ?_)
    | ((with_reducible apply val_ite); rotate_left; refine fun (_ : ¬ _) => ?_; rotate_right; refine fun (_ : _ = true) => ?_)
    | (with_reducible refine wps_regionH ?_)
    | ((with_reducible apply wps_bindV); apply val_iteL; rotate_left; refine fun (_ : ¬ _) => ?_; rotate_right; refine fun (_ : _ = true) => ?_)
    | ((with_reducible apply val_iteL); rotate_left; refine fun (_ : ¬ _) => ?_; rotate_right; refine fun (_ : _ = true) => ?_)
    | (with_reducible exact wps_pure (ent_val rfl)))
  rw [open_tree]
  by_cases h : OpenB R.n R.ns q m = true
  · simp only [h]
    refine wps_ite (fun h => absurd h (by simp)) (fun _ => ?_)
    repeat (first
      | (with_reducible refine wps_bindpure ?_)
      | (with_reducible refine wps_assoc ?_)
      | (with_reducible refine wps_nil ?_)
      | (with_reducible refine wps_stepAlloc fun _ => ?_)
      | (with_reducible refine wps_alloc fun _ => ?_)
      | (with_reducible refine wps_newO fun _ => ?_)
      | (refine wps_ld _ (by rfl) ?_)
      | (refine wps_ldG _ _ _ (by rfl) ?_)
      | (refine wps_ldA _ (by rfl) ?_)
      | (refine wps_ldI _ (by rfl) ?_)
      | (refine wps_ldGI _ _ _ (by rfl) ?_)
      | (refine wps_ldAI _ (by rfl) ?_)
      | (refine wps_st (by simp) ?_)
      | (refine wps_stA (by simp) (by simp [Value.oneCell']) ?_)
      | ((with_reducible apply wps_val); apply val_ite; rotate_left; refine fun (_ : ¬ _) => ?_; rotate_right; refine fun (_ : _ = true) => ?_)
      | ((with_reducible apply val_ite); rotate_left; refine fun (_ : ¬ _) => ?_; rotate_right; refine fun (_ : _ = true) => ?_)
      | (with_reducible refine wps_regionH ?_)
      | ((with_reducible apply wps_bindV); apply val_iteL; rotate_left; refine fun (_ : ¬ _) => ?_; rotate_right; refine fun (_ : _ = true) => ?_)
      | ((with_reducible apply val_iteL); rotate_left; refine fun (_ : ¬ _) => ?_; rotate_right; refine fun (_ : _ = true) => ?_)
      | (with_reducible exact wps_pure (ent_val rfl)))
    rename_i bb
    exact wps_pure (ent_ex bb (ent_pick (ent_prr rfl ent_drop)))
  · simp only [h]
    refine wps_ite (fun _ => wps_pure (ent_prr rfl ent_drop)) (fun h => absurd h (by simp))
theorem ref06_Open_spec {H : HP} (mb : Nat) (v : RefT) (n ns : Nat) (q m : G3) (hn : v.1 = n) (hns : v.2.1 = ns) : wps g (H * pc mb (refC v)) (ref06_Open (ptr mb) q m) (fun x =>
    if OpenB n ns q m then ex fun bb => pr (x = (ptr bb, 0)) * H * pc mb (refC v) * bnk bb mb q m else pr (x = (none, 10)) * H * pc mb (refC v)) := by
  unfold ref06_Open
  repeat (first
    | (with_reducible refine wps_bindpure ?_)
    | (with_reducible refine wps_assoc ?_)
    | (with_reducible refine wps_nil ?_)
    | (with_reducible refine wps_stepAlloc fun _ => ?_)
    | (with_reducible refine wps_alloc fun _ => ?_)
    | (with_reducible refine wps_newO fun _ => ?_)
    | (refine wps_ld _ (by rfl) ?_)
    | (refine wps_ldG _ _ _ (by rfl) ?_)
    | (refine wps_ldA _ (by rfl) ?_)
    | (refine wps_ldI _ (by rfl) ?_)
    | (refine wps_ldGI _ _ _ (by rfl) ?_)
    | (refine wps_ldAI _ (by rfl) ?_)
    | (refine wps_st (by simp) ?_)
    | (refine wps_stA (by simp) (by simp [Value.oneCell']) ?_)
    | ((with_reducible apply wps_val); apply val_ite; rotate_left; refine fun (_ : ¬ _) => ?_; rotate_right; refine fun (_ : _ = true) => ?_)
    | ((with_reducible apply val_ite); rotate_left; refine fun (_ : ¬ _) => ?_; rotate_right; refine fun (_ : _ = true) => ?_)
    | (with_reducible refine wps_regionH ?_)
    | ((with_reducible apply wps_bindV); apply val_iteL; rotate_left; refine fun (_ : ¬ _) => ?_; rotate_right; refine fun (_ : _ = true) => ?_)
    | ((with_reducible apply val_iteL); rotate_left; refine fun (_ : ¬ _) => ?_; rotate_right; refine fun (_ : _ = true) => ?_)
    | (with_reducible exact wps_pure (ent_val rfl)))
  refine wps_bindV (u := !OpenB n ns q m) ?_ ?_
  · apply inl_eq
    · repeat (first
        | (with_reducible refine wps_val (ref03_Right_val _) ?_)
        | (with_reducible refine wps_stepV (ref03_Right_val _) ?_)
        | (with_reducible refine wps_val (ref03_Sectors_val _) ?_)
        | (with_reducible refine wps_stepV (ref03_Sectors_val _) ?_)
        | (with_reducible refine wps_val (ref06_Fits_val _ _) ?_)
        | (with_reducible refine wps_stepV (ref06_Fits_val _ _) ?_)
        | (with_reducible refine wps_bindpure ?_)
        | (with_reducible refine wps_assoc ?_)
        | (with_reducible refine wps_nil ?_)
        | (with_reducible refine wps_stepAlloc fun _ => ?_)
        | (with_reducible refine wps_alloc fun _ => ?_)
        | (with_reducible refine wps_newO fun _ => ?_)
        | (refine wps_ld _ (by rfl) ?_)
        | (refine wps_ldG _ _ _ (by rfl) ?_)
        | (refine wps_ldA _ (by rfl) ?_)
        | (refine wps_ldI _ (by rfl) ?_)
        | (refine wps_ldGI _ _ _ (by rfl) ?_)
        | (refine wps_ldAI _ (by rfl) ?_)
        | (refine wps_st (by simp) ?_)
        | (refine wps_stA (by simp) (by simp [Value.oneCell']) ?_)
        | ((with_reducible apply wps_val); apply val_ite; rotate_left; refine fun (_ : ¬ _) => ?_; rotate_right; refine fun (_ : _ = true) => ?_)
        | ((with_reducible apply val_ite); rotate_left; refine fun (_ : ¬ _) => ?_; rotate_right; refine fun (_ : _ = true) => ?_)
        | (with_reducible refine wps_regionH ?_)
        | ((with_reducible apply wps_bindV); apply val_iteL; rotate_left; refine fun (_ : ¬ _) => ?_; rotate_right; refine fun (_ : _ = true) => ?_)
        | ((with_reducible apply val_iteL); rotate_left; refine fun (_ : ¬ _) => ?_; rotate_right; refine fun (_ : _ = true) => ?_)
        | (with_reducible exact wps_pure (ent_val rfl)))
    · rw [hn, hns, ← open_tree]
      by_cases h1 : RightB q = true
      · by_cases h2 : (n : Int) = w64 (q.1 + 1)
        · by_cases h3 : (ns : Int) = SectorsI q
          · simp [h1, h2, h3]
          · simp [h1, h2, h3]
        · simp [h1, h2]
      · simp [h1]
  by_cases h : OpenB n ns q m = true
  · simp only [h]
    refine wps_ite (fun h => absurd h (by simp)) (fun _ => ?_)
    repeat (first
      | (with_reducible refine wps_bindpure ?_)
      | (with_reducible refine wps_assoc ?_)
      | (with_reducible refine wps_nil ?_)
      | (with_reducible refine wps_stepAlloc fun _ => ?_)
      | (with_reducible refine wps_alloc fun _ => ?_)
      | (with_reducible refine wps_newO fun _ => ?_)
      | (refine wps_ld _ (by rfl) ?_)
      | (refine wps_ldG _ _ _ (by rfl) ?_)
      | (refine wps_ldA _ (by rfl) ?_)
      | (refine wps_ldI _ (by rfl) ?_)
      | (refine wps_ldGI _ _ _ (by rfl) ?_)
      | (refine wps_ldAI _ (by rfl) ?_)
      | (refine wps_st (by simp) ?_)
      | (refine wps_stA (by simp) (by simp [Value.oneCell']) ?_)
      | ((with_reducible apply wps_val); apply val_ite; rotate_left; refine fun (_ : ¬ _) => ?_; rotate_right; refine fun (_ : _ = true) => ?_)
      | ((with_reducible apply val_ite); rotate_left; refine fun (_ : ¬ _) => ?_; rotate_right; refine fun (_ : _ = true) => ?_)
      | (with_reducible refine wps_regionH ?_)
      | ((with_reducible apply wps_bindV); apply val_iteL; rotate_left; refine fun (_ : ¬ _) => ?_; rotate_right; refine fun (_ : _ = true) => ?_)
      | ((with_reducible apply val_iteL); rotate_left; refine fun (_ : ¬ _) => ?_; rotate_right; refine fun (_ : _ = true) => ?_)
      | (with_reducible exact wps_pure (ent_val rfl)))
    rename_i bb
    exact wps_pure (ent_ex bb (ent_pick (ent_pick (ent_prr rfl ent_drop))))
  · simp only [h]
    refine wps_ite (fun _ => wps_pure (ent_pick (ent_prr rfl ent_drop))) (fun h => absurd h (by simp))
theorem law06_Small_val {H : HP} : Val g H law06_Small (3, 3, 12) := by
  unfold law06_Small
  repeat (first
    | (with_reducible refine wps_bindpure ?_)
    | (with_reducible refine wps_assoc ?_)
    | (with_reducible refine wps_nil ?_)
    | (with_reducible refine wps_stepAlloc fun _ => ?_)
    | (with_reducible refine wps_alloc fun _ => ?_)
    | (with_reducible refine wps_newO fun _ => ?_)
    | (refine wps_ld _ (by rfl) ?_)
    | (refine wps_ldG _ _ _ (by rfl) ?_)
    | (refine wps_ldA _ (by rfl) ?_)
    | (refine wps_ldI _ (by rfl) ?_)
    | (refine wps_ldGI _ _ _ (by rfl) ?_)
    | (refine wps_ldAI _ (by rfl) ?_)
    | (refine wps_st (by simp) ?_)
    | (refine wps_stA (by simp) (by simp [Value.oneCell']) ?_)
    | ((with_reducible apply wps_val); apply val_ite; rotate_left; refine fun (_ : ¬ _) => ?_; rotate_right; refine fun (_ : _ = true) => ?_)
    | ((with_reducible apply val_ite); rotate_left; refine fun (_ : ¬ _) => ?_; rotate_right; refine fun (_ : _ = true) => ?_)
    | (with_reducible refine wps_regionH ?_)
    | ((with_reducible apply wps_bindV); apply val_iteL; rotate_left; refine fun (_ : ¬ _) => ?_; rotate_right; refine fun (_ : _ = true) => ?_)
    | ((with_reducible apply val_iteL); rotate_left; refine fun (_ : ¬ _) => ?_; rotate_right; refine fun (_ : _ = true) => ?_)
    | (with_reducible exact wps_pure (ent_val rfl)))
end Go.Proofs.Ytldmeimebebllaa
namespace Go.Proofs.Ytldmeimebebllaa
open Go.Mo
set_option linter.unusedVariables false
variable {g : Fr}
theorem Small_sect : SectorsI (3, 3, 12) = 41 := by decide
def five : List Int := 5 :: List.replicate 63 0
theorem law06_alive_spec : wps g emp law06_alive (fun b => pr (b = true)) := by
  unfold law06_alive
  repeat (first
    | (with_reducible refine wps_val (law06_Small_val) ?_)
    | (with_reducible refine wps_stepV (law06_Small_val) ?_)
    | (with_reducible refine wps_val (geo_Sectors_val _) ?_)
    | (with_reducible refine wps_stepV (geo_Sectors_val _) ?_)
    | (with_reducible refine wps_bindpure ?_)
    | (with_reducible refine wps_assoc ?_)
    | (with_reducible refine wps_nil ?_)
    | (with_reducible refine wps_stepAlloc fun _ => ?_)
    | (with_reducible refine wps_alloc fun _ => ?_)
    | (with_reducible refine wps_newO fun _ => ?_)
    | (refine wps_ld _ (by rfl) ?_)
    | (refine wps_ldG _ _ _ (by rfl) ?_)
    | (refine wps_ldA _ (by rfl) ?_)
    | (refine wps_ldI _ (by rfl) ?_)
    | (refine wps_ldGI _ _ _ (by rfl) ?_)
    | (refine wps_ldAI _ (by rfl) ?_)
    | (refine wps_st (by simp) ?_)
    | (refine wps_stA (by simp) (by simp [Value.oneCell']) ?_)
    | ((with_reducible apply wps_val); apply val_ite; rotate_left; refine fun (_ : ¬ _) => ?_; rotate_right; refine fun (_ : _ = true) => ?_)
    | ((with_reducible apply val_ite); rotate_left; refine fun (_ : ¬ _) => ?_; rotate_right; refine fun (_ : _ = true) => ?_)
    | (with_reducible refine wps_regionH ?_)
    | ((with_reducible apply wps_bindV); apply val_iteL; rotate_left; refine fun (_ : ¬ _) => ?_; rotate_right; refine fun (_ : _ = true) => ?_)
    | ((with_reducible apply val_iteL); rotate_left; refine fun (_ : ¬ _) => ?_; rotate_right; refine fun (_ : _ = true) => ?_)
    | (with_reducible exact wps_pure (ent_val rfl)))
  rw [Small_sect]
  refine wps_callE (fun _ => device_New_spec 4 41) fun x => ?_
  rw [if_neg (by decide)]
  rw [show Rk.new (Int.toNat 4) (Int.toNat 41) = Rk.new 4 41 from rfl]
  refine wps_exP fun rb => ?_
  rw [← star_assoc]
  refine wps_prP fun hx => ?_
  subst hx
  unfold rack
  refine wps_exP fun ds => wps_exP fun ps => ?_
  repeat (first
    | (with_reducible refine wps_bindpure ?_)
    | (with_reducible refine wps_assoc ?_)
    | (with_reducible refine wps_nil ?_)
    | (with_reducible refine wps_stepAlloc fun _ => ?_)
    | (with_reducible refine wps_alloc fun _ => ?_)
    | (with_reducible refine wps_newO fun _ => ?_)
    | (refine wps_ld _ (by rfl) ?_)
    | (refine wps_ldG _ _ _ (by rfl) ?_)
    | (refine wps_ldA _ (by rfl) ?_)
    | (refine wps_ldI _ (by rfl) ?_)
    | (refine wps_ldGI _ _ _ (by rfl) ?_)
    | (refine wps_ldAI _ (by rfl) ?_)
    | (refine wps_st (by simp) ?_)
    | (refine wps_stA (by simp) (by simp [Value.oneCell']) ?_)
    | ((with_reducible apply wps_val); apply val_ite; rotate_left; refine fun (_ : ¬ _) => ?_; rotate_right; refine fun (_ : _ = true) => ?_)
    | ((with_reducible apply val_ite); rotate_left; refine fun (_ : ¬ _) => ?_; rotate_right; refine fun (_ : _ = true) => ?_)
    | (with_reducible refine wps_regionH ?_)
    | ((with_reducible apply wps_bindV); apply val_iteL; rotate_left; refine fun (_ : ¬ _) => ?_; rotate_right; refine fun (_ : _ = true) => ?_)
    | ((with_reducible apply val_iteL); rotate_left; refine fun (_ : ¬ _) => ?_; rotate_right; refine fun (_ : _ = true) => ?_)
    | (with_reducible exact wps_pure (ent_val rfl)))
  refine wps_callH (fun _ => bank_Open_spec rb (Rk.new 4 41) ds ps (3, 3, 12) (0, 1, 2)) fun x => ?_
  rw [if_pos (by decide)]
  refine wps_exP fun bb => ?_
  simp only [← star_assoc]
  refine wps_prP fun hx => ?_
  subst hx
  refine wps_bindV (u := false) ?_ ?_
  · repeat (first
      | (with_reducible refine wps_bindpure ?_)
      | (with_reducible refine wps_assoc ?_)
      | (with_reducible refine wps_nil ?_)
      | (with_reducible refine wps_stepAlloc fun _ => ?_)
      | (with_reducible refine wps_alloc fun _ => ?_)
      | (with_reducible refine wps_newO fun _ => ?_)
      | (refine wps_ld _ (by rfl) ?_)
      | (refine wps_ldG _ _ _ (by rfl) ?_)
      | (refine wps_ldA _ (by rfl) ?_)
      | (refine wps_ldI _ (by rfl) ?_)
      | (refine wps_ldGI _ _ _ (by rfl) ?_)
      | (refine wps_ldAI _ (by rfl) ?_)
      | (refine wps_st (by simp) ?_)
      | (refine wps_stA (by simp) (by simp [Value.oneCell']) ?_)
      | ((with_reducible apply wps_val); apply val_ite; rotate_left; refine fun (_ : ¬ _) => ?_; rotate_right; refine fun (_ : _ = true) => ?_)
      | ((with_reducible apply val_ite); rotate_left; refine fun (_ : ¬ _) => ?_; rotate_right; refine fun (_ : _ = true) => ?_)
      | (with_reducible refine wps_regionH ?_)
      | ((with_reducible apply wps_bindV); apply val_iteL; rotate_left; refine fun (_ : ¬ _) => ?_; rotate_right; refine fun (_ : _ = true) => ?_)
      | ((with_reducible apply val_iteL); rotate_left; refine fun (_ : ¬ _) => ?_; rotate_right; refine fun (_ : _ = true) => ?_)
      | (with_reducible exact wps_pure (ent_val rfl)))
    refine wps_stepVH (fun _ => bank_Geo_val bb rb (3, 3, 12) (0, 1, 2)) ?_
    exact wps_pure (ent_val (by decide))
  · refine wps_ite (fun h => absurd h (by simp)) (fun _ => ?_)
    repeat (first
      | (with_reducible refine wps_bindpure ?_)
      | (with_reducible refine wps_assoc ?_)
      | (with_reducible refine wps_nil ?_)
      | (with_reducible refine wps_stepAlloc fun _ => ?_)
      | (with_reducible refine wps_alloc fun _ => ?_)
      | (with_reducible refine wps_newO fun _ => ?_)
      | (refine wps_ld _ (by rfl) ?_)
      | (refine wps_ldG _ _ _ (by rfl) ?_)
      | (refine wps_ldA _ (by rfl) ?_)
      | (refine wps_ldI _ (by rfl) ?_)
      | (refine wps_ldGI _ _ _ (by rfl) ?_)
      | (refine wps_ldAI _ (by rfl) ?_)
      | (refine wps_st (by simp) ?_)
      | (refine wps_stA (by simp) (by simp [Value.oneCell']) ?_)
      | ((with_reducible apply wps_val); apply val_ite; rotate_left; refine fun (_ : ¬ _) => ?_; rotate_right; refine fun (_ : _ = true) => ?_)
      | ((with_reducible apply val_ite); rotate_left; refine fun (_ : ¬ _) => ?_; rotate_right; refine fun (_ : _ = true) => ?_)
      | (with_reducible refine wps_regionH ?_)
      | ((with_reducible apply wps_bindV); apply val_iteL; rotate_left; refine fun (_ : ¬ _) => ?_; rotate_right; refine fun (_ : _ = true) => ?_)
      | ((with_reducible apply val_iteL); rotate_left; refine fun (_ : ¬ _) => ?_; rotate_right; refine fun (_ : _ = true) => ?_)
      | (with_reducible exact wps_pure (ent_val rfl)))
    rename_i c
    refine wps_idx 0 rfl rfl (by (try dsimp only); omega) ?_
    repeat (first
      | (with_reducible refine wps_bindpure ?_)
      | (with_reducible refine wps_assoc ?_)
      | (with_reducible refine wps_nil ?_)
      | (with_reducible refine wps_stepAlloc fun _ => ?_)
      | (with_reducible refine wps_alloc fun _ => ?_)
      | (with_reducible refine wps_newO fun _ => ?_)
      | (refine wps_ld _ (by rfl) ?_)
      | (refine wps_ldG _ _ _ (by rfl) ?_)
      | (refine wps_ldA _ (by rfl) ?_)
      | (refine wps_ldI _ (by rfl) ?_)
      | (refine wps_ldGI _ _ _ (by rfl) ?_)
      | (refine wps_ldAI _ (by rfl) ?_)
      | (refine wps_st (by simp) ?_)
      | (refine wps_stA (by simp) (by simp [Value.oneCell']) ?_)
      | ((with_reducible apply wps_val); apply val_ite; rotate_left; refine fun (_ : ¬ _) => ?_; rotate_right; refine fun (_ : _ = true) => ?_)
      | ((with_reducible apply val_ite); rotate_left; refine fun (_ : ¬ _) => ?_; rotate_right; refine fun (_ : _ = true) => ?_)
      | (with_reducible refine wps_regionH ?_)
      | ((with_reducible apply wps_bindV); apply val_iteL; rotate_left; refine fun (_ : ¬ _) => ?_; rotate_right; refine fun (_ : _ = true) => ?_)
      | ((with_reducible apply val_iteL); rotate_left; refine fun (_ : ¬ _) => ?_; rotate_right; refine fun (_ : _ = true) => ?_)
      | (with_reducible exact wps_pure (ent_val rfl)))
    have hs : slotV (3, 3, 12) (0, 1, 2) 1 = (3, true) := by decide
    refine wps_swap (A := pc c ((List.replicate 64 (Value.int .u8 0)).set (0 + 0 * 1) (.int .u8 5))) (B := byt ⟨some ⟨c, 0, none⟩, 64, 64⟩ five) (Ent.trans (Ent.trans (pc_own (n := 64) (z := 1) (by simp)) (own_rsl _ _ _)) (Ent.of_eq rfl)) ?_
    refine wps_call (bank_Write_spec (H := byt ⟨some ⟨c, 0, none⟩, 64, 64⟩ five) bb rb (3, 3, 12) (0, 1, 2) (Rk.new 4 41) ds ps 1 2 _ five (Ent.refl _) (by decide) (g := ·)) (by rw [← star_assoc, ← star_assoc]; exact ent_pick (ent_pick (ent_pick (Ent.refl _)))) fun e => ?_
    simp only [← star_assoc, hs, if_true]
    refine wps_prP fun he => ?_
    subst he
    refine wps_bind (wps_post (wps_pre (Ent.of_eq (Has.eq (A := rackP rb ((Rk.new 4 41).write 3 2 five) ds ps))) (wps_framel fun _ => device_Rack_Read_spec rb ((Rk.new 4 41).write 3 2 five) ds ps 3 2)) fun x => Ent.refl _) fun x51 => ?_
    simp only [← star_assoc]
    refine wps_prP fun h51 => ?_
    refine wps_callH (fun _ => device_Rack_Read_spec rb ((Rk.new 4 41).write 3 2 five) ds ps 1 2) fun x56 => ?_
    simp only [← star_assoc]
    refine wps_prP fun h56 => ?_
    have hr1 : ((Rk.new 4 41).write 3 2 five).rd 3 2 = five := by decide
    have hr2 : ((Rk.new 4 41).write 3 2 five).rd 1 2 = noughts := by decide
    have hg : (Rk.new 4 41).gate 3 2 five.length = 0 := by decide
    rw [hr1, hr2, hg]
    refine wps_fact (Ent.trans (ent_pick1 (A := own 1 x51.1 (bv five))) (own_len _ _ _)) fun ⟨hl1, _⟩ => ?_
    refine wps_fact (Ent.trans (ent_pick1 (A := own 1 x56.1 (bv noughts))) (own_len _ _ _)) fun ⟨hl2, _⟩ => ?_
    have hl1' : x51.1.len = 64 := by simpa [bv, five] using hl1.symm
    have hl2' : x56.1.len = 64 := by simpa [bv, noughts] using hl2.symm
    refine wps_val (v := true) (wps_ite (fun _ => wps_pure (ent_val (by simp [hl1']))) (fun h => absurd rfl h)) ?_
    refine wps_val (v := true) (wps_ite (fun _ => ?_) (fun h => absurd rfl h)) ?_
    · refine wps_rdS 0 5 rfl rfl ?_
      exact wps_pure (ent_val rfl)
    refine wps_val (v := true) (wps_ite (fun _ => wps_pure (ent_val (by simp [hl2']))) (fun h => absurd rfl h)) ?_
    refine wps_val (v := true) (wps_ite (fun _ => ?_) (fun h => absurd rfl h)) ?_
    · refine wps_rdS 0 0 rfl rfl ?_
      exact wps_pure (ent_val rfl)
    rw [if_pos rfl]
    refine wps_assoc (wps_call (fun _ => bank_Bad_spec bb rb (3, 3, 12) (0, 1, 2) ((Rk.new 4 41).write 3 2 five) ds ps (by decide)) (by rw [← star_assoc]; exact ent_pick (ent_pick (Ent.refl _))) fun x85 => ?_)
    have hbad : badL (3, 3, 12) (0, 1, 2) ((Rk.new 4 41).write 3 2 five) = [] := by decide
    rw [hbad, ← star_assoc]
    refine wps_fact (Ent.trans (ent_right _ _) (own_len _ _ _)) fun ⟨hl, _⟩ => ?_
    have hl' : x85.len = 0 := by simpa [iv] using hl.symm
    exact wps_pure (ent_prq (by simp [hl']))
end Go.Proofs.Ytldmeimebebllaa
namespace Go.Proofs.Ytldmeimebebllaa
open Go.Mo
set_option linter.unusedVariables false
variable {g : Fr} {cv : CV}
def DisksOk (cv : CV) : Prop := ∀ (b : Option Addr) (yv : Value) (Q : Value → World → Prop) (w : World), bank_Bank_disks cv b yv (fun _ w' => Q (.tuple #[]) w') w → cv.enter (.func (.func fid_bank_Bank_disks) #[.pointer b] #[]) #[yv] Q w
theorem wps_enter {H : HP} {m : M Unit} {fv yv : Value} {Q : Value → HP} (hcv : ∀ (Q : Value → World → Prop) (w : World), m (fun _ w' => Q (.tuple #[]) w') w → cv.enter fv #[yv] Q w) (h : wps g H m fun _ => Q (.tuple #[])) : wps g H (cv.enter fv #[yv]) Q :=
  fun w a Qf ho ha hq => hcv Qf w (h w a (fun _ w' => Qf (.tuple #[]) w') ho ha fun x w' a' ho' hb => hq _ w' a' ho' hb)
def disksL (q m : G3) : List Int := (List.range q.1.toNat).map (fun i : Nat => (slotV q m i).1) ++ if m.2.2 = 0 then [q.1] else []
theorem disks_iter (hcv : DisksOk cv) (bb rb : Nat) (q m : G3) (hq : q.1 ≤ 16) : Iter cv (.func (.func fid_bank_Bank_disks) #[.pointer (ptr bb)] #[]) (fun x : Int => #[.int .i64 x]) (disksL q m) (bnk bb rb q m) := by
  intro yv I E hstep g
  refine wps_enter (m := bank_Bank_disks cv (ptr bb) yv) (fun Q w h => hcv _ _ _ _ h) ?_
  unfold bank_Bank_disks
  simp only [Addr.add_add, Nat.reduceAdd]
  repeat (first
    | (with_reducible refine wps_bindpure ?_)
    | (with_reducible refine wps_assoc ?_)
    | (with_reducible refine wps_nil ?_)
    | (with_reducible refine wps_stepAlloc fun _ => ?_)
    | (with_reducible refine wps_alloc fun _ => ?_)
    | (with_reducible refine wps_newO fun _ => ?_)
    | (refine wps_ld _ (by rfl) ?_)
    | (refine wps_ldG _ _ _ (by rfl) ?_)
    | (refine wps_ldA _ (by rfl) ?_)
    | (refine wps_ldI _ (by rfl) ?_)
    | (refine wps_ldGI _ _ _ (by rfl) ?_)
    | (refine wps_ldAI _ (by rfl) ?_)
    | (refine wps_st (by simp) ?_)
    | (refine wps_stA (by simp) (by simp [Value.oneCell']) ?_)
    | ((with_reducible apply wps_val); apply val_ite; rotate_left; refine fun (_ : ¬ _) => ?_; rotate_right; refine fun (_ : _ = true) => ?_)
    | ((with_reducible apply val_ite); rotate_left; refine fun (_ : ¬ _) => ?_; rotate_right; refine fun (_ : _ = true) => ?_)
    | (with_reducible refine wps_regionH ?_)
    | ((with_reducible apply wps_bindV); apply val_iteL; rotate_left; refine fun (_ : ¬ _) => ?_; rotate_right; refine fun (_ : _ = true) => ?_)
    | ((with_reducible apply val_iteL); rotate_left; refine fun (_ : ¬ _) => ?_; rotate_right; refine fun (_ : _ = true) => ?_)
    | (with_reducible exact wps_pure (ent_val rfl)))
  refine wps_loop (fun i => ex fun n : Nat => pr (i = (n : Int) ∧ (n : Int) ≤ max 0 q.1) * (bnk bb rb q m * I n)) (fun i => (q.1 - i).toNat) ?_ fun i => ?_
  · exact ent_ex 0 (ent_prr ⟨rfl, by omega⟩ (Ent.refl _))
  · refine wps_ex fun n => wps_pr fun ⟨hi, hn⟩ => ?_
    refine wps_ite (fun hc => ?_) (fun hc => ?_)
    · have hc' : i < q.1 := by simpa using hc
      refine wps_valH (fun _ => bank_disk_val bb rb q m i) ?_
      have hx : (disksL q m)[n]? = some (slotV q m i).1 := by
        unfold disksL
        rw [List.getElem?_append_left (by simp; omega), List.getElem?_map, List.getElem?_range (by omega)]
        simp [hi]
      refine wps_bind (wps_yield (hstep n _ hx g)) fun y => ?_
      cases y with
      | true =>
        refine wps_ite (fun h => absurd h (by simp)) (fun _ => wps_pure ?_)
        exact ent_prr (by rw [range_add1 hi (by omega)]; omega) (ent_ex (n + 1) (ent_prr ⟨range_add1 hi (by omega), by omega⟩ (Ent.refl _)))
      | false =>
        refine wps_ite (fun _ => wps_mapR (wps_pure ?_)) (fun h => absurd rfl h)
        exact Ent.starr (ent_orr (Ent.refl _))
    · have hc' : ¬ i < q.1 := by simpa using hc
      have hne : n = q.1.toNat := by omega
      refine wps_mapR ?_
      repeat (first
        | (with_reducible refine wps_bindpure ?_)
        | (with_reducible refine wps_assoc ?_)
        | (with_reducible refine wps_nil ?_)
        | (with_reducible refine wps_stepAlloc fun _ => ?_)
        | (with_reducible refine wps_alloc fun _ => ?_)
        | (with_reducible refine wps_newO fun _ => ?_)
        | (refine wps_ld _ (by rfl) ?_)
        | (refine wps_ldG _ _ _ (by rfl) ?_)
        | (refine wps_ldA _ (by rfl) ?_)
        | (refine wps_ldI _ (by rfl) ?_)
        | (refine wps_ldGI _ _ _ (by rfl) ?_)
        | (refine wps_ldAI _ (by rfl) ?_)
        | (refine wps_st (by simp) ?_)
        | (refine wps_stA (by simp) (by simp [Value.oneCell']) ?_)
        | ((with_reducible apply wps_val); apply val_ite; rotate_left; refine fun (_ : ¬ _) => ?_; rotate_right; refine fun (_ : _ = true) => ?_)
        | ((with_reducible apply val_ite); rotate_left; refine fun (_ : ¬ _) => ?_; rotate_right; refine fun (_ : _ = true) => ?_)
        | (with_reducible refine wps_regionH ?_)
        | ((with_reducible apply wps_bindV); apply val_iteL; rotate_left; refine fun (_ : ¬ _) => ?_; rotate_right; refine fun (_ : _ = true) => ?_)
        | ((with_reducible apply val_iteL); rotate_left; refine fun (_ : ¬ _) => ?_; rotate_right; refine fun (_ : _ = true) => ?_)
        | (with_reducible exact wps_pure (ent_val rfl)))
      refine wps_ite (fun h0 => ?_) (fun h0 => ?_)
      · have h0' : m.2.2 = 0 := by simpa using h0
        repeat (first
          | (with_reducible refine wps_bindpure ?_)
          | (with_reducible refine wps_assoc ?_)
          | (with_reducible refine wps_nil ?_)
          | (with_reducible refine wps_stepAlloc fun _ => ?_)
          | (with_reducible refine wps_alloc fun _ => ?_)
          | (with_reducible refine wps_newO fun _ => ?_)
          | (refine wps_ld _ (by rfl) ?_)
          | (refine wps_ldG _ _ _ (by rfl) ?_)
          | (refine wps_ldA _ (by rfl) ?_)
          | (refine wps_ldI _ (by rfl) ?_)
          | (refine wps_ldGI _ _ _ (by rfl) ?_)
          | (refine wps_ldAI _ (by rfl) ?_)
          | (refine wps_st (by simp) ?_)
          | (refine wps_stA (by simp) (by simp [Value.oneCell']) ?_)
          | ((with_reducible apply wps_val); apply val_ite; rotate_left; refine fun (_ : ¬ _) => ?_; rotate_right; refine fun (_ : _ = true) => ?_)
          | ((with_reducible apply val_ite); rotate_left; refine fun (_ : ¬ _) => ?_; rotate_right; refine fun (_ : _ = true) => ?_)
          | (with_reducible refine wps_regionH ?_)
          | ((with_reducible apply wps_bindV); apply val_iteL; rotate_left; refine fun (_ : ¬ _) => ?_; rotate_right; refine fun (_ : _ = true) => ?_)
          | ((with_reducible apply val_iteL); rotate_left; refine fun (_ : ¬ _) => ?_; rotate_right; refine fun (_ : _ = true) => ?_)
          | (with_reducible exact wps_pure (ent_val rfl)))
        have hx : (disksL q m)[n]? = some q.1 := by
          unfold disksL
          rw [List.getElem?_append_right (by simp; omega), if_pos h0']
          simp [hne]
        have hlen : (disksL q m).length = n + 1 := by simp [disksL, h0', hne]
        refine wps_bind (wps_yield (hstep n _ hx g)) fun y => wps_pure ?_
        rw [hlen]
        cases y with
        | true => exact Ent.starr (ent_orl (Ent.refl _))
        | false => exact Ent.starr (ent_orr (Ent.refl _))
      · have h0' : ¬ m.2.2 = 0 := by simpa using h0
        have hlen : (disksL q m).length = n := by simp [disksL, h0', hne]
        refine wps_pure ?_
        rw [hlen]
        exact Ent.starr (ent_orl (Ent.refl _))
end Go.Proofs.Ytldmeimebebllaa
namespace Go.Proofs.Ytldmeimebebllaa
open Go.Mo
set_option linter.unusedVariables false
variable {g : Fr}
theorem bv_get {b : List Int} {n : Nat} {v : Int} (h : b[n]? = some v) : (bv b)[n]? = some (Value.int .u8 v) := by simp [bv, h]
theorem ref00_SameBytes_val {H : HP} {a b : Slc} {x y : List Int} (ha : Ent H (byt a x)) (hb : Ent H (byt b y)) (hx : x.length < 4611686018427387904) : Val g H (ref00_SameBytes a b) (decide (x = y)) := by
  unfold ref00_SameBytes
  refine wps_fact (len_of ha) fun hla => wps_fact (len_of hb) fun hlb => ?_
  refine wps_ite (fun hne => ?_) (fun hne => ?_)
  · refine wps_pure (ent_val ?_)
    have hne' : ¬ a.len = b.len := by
      have : ¬ (a.len : Int) = b.len := by simpa using hne
      omega
    have : ¬ x = y := fun e => hne' (by rw [← hla, ← hlb, e])
    simp [this]
  · have heq : a.len = b.len := by
      have : (a.len : Int) = b.len := by simpa using hne
      omega
    refine wps_loop (fun i => ex fun n : Nat => pr (i = (n : Int) ∧ n ≤ x.length ∧ x.take n = y.take n) * H) (fun i => (x.length - i).toNat) ?_ fun i => ?_
    · exact ent_ex 0 (ent_prr ⟨rfl, by omega, by simp⟩ (Ent.refl _))
    · refine wps_ex fun n => wps_pr fun ⟨hi, hn, ht⟩ => ?_
      refine wps_ite (fun hc => ?_) (fun hc => ?_)
      · have hlt : n < x.length := by simp only [decide_eq_true_eq] at hc; omega
        have hlt2 : n < y.length := by omega
        refine wps_regionH ?_
        refine wps_rdI n x[n] ha (Ent.refl _) hi (bv_get (List.getElem?_eq_getElem hlt)) ?_
        refine wps_rdI n y[n] hb (Ent.refl _) hi (bv_get (List.getElem?_eq_getElem hlt2)) ?_
        refine wps_ite (fun hd => ?_) (fun hd => ?_)
        · have hd' : ¬ x[n] = y[n] := by simpa using hd
          refine wps_mapR (wps_pure (ent_prr ?_ (Ent.refl _)))
          have : ¬ x = y := fun e => hd' (by subst e; rfl)
          simp [this]
        · have hd' : x[n] = y[n] := by simpa using hd
          refine wps_pure (ent_prr (by rw [range_add1 hi (by omega)]; omega) (ent_ex (n + 1) (ent_prr ⟨range_add1 hi (by omega), by omega, ?_⟩ (Ent.refl _))))
          rw [List.take_add_one, List.take_add_one, ht, List.getElem?_eq_getElem hlt, List.getElem?_eq_getElem hlt2, hd']
      · have hne : n = x.length := by simp only [decide_eq_true_eq] at hc; omega
        refine wps_mapR (wps_pure (ent_prr ?_ (Ent.refl _)))
        have : x = y := by
          rw [hne, List.take_length] at ht
          rw [ht, List.take_of_length_le (by omega)]
        simp [this]
theorem bank_Join_spec (bb rb : Nat) (q m k : G3) : wps g (bnk bb rb q m) (bank_Bank_Join (ptr bb) k) (fun _ => bnk bb rb q (if FitsB q k then k else m)) := by
  unfold bank_Bank_Join
  repeat (first
    | (with_reducible refine wps_val (bank_fits_val _ _) ?_)
    | (with_reducible refine wps_stepV (bank_fits_val _ _) ?_)
    | (with_reducible refine wps_bindpure ?_)
    | (with_reducible refine wps_assoc ?_)
    | (with_reducible refine wps_nil ?_)
    | (with_reducible refine wps_stepAlloc fun _ => ?_)
    | (with_reducible refine wps_alloc fun _ => ?_)
    | (with_reducible refine wps_newO fun _ => ?_)
    | (refine wps_ld _ (by rfl) ?_)
    | (refine wps_ldG _ _ _ (by rfl) ?_)
    | (refine wps_ldA _ (by rfl) ?_)
    | (refine wps_ldI _ (by rfl) ?_)
    | (refine wps_ldGI _ _ _ (by rfl) ?_)
    | (refine wps_ldAI _ (by rfl) ?_)
    | (refine wps_st (by simp) ?_)
    | (refine wps_stA (by simp) (by simp [Value.oneCell']) ?_)
    | ((with_reducible apply wps_val); apply val_ite; rotate_left; refine fun (_ : ¬ _) => ?_; rotate_right; refine fun (_ : _ = true) => ?_)
    | ((with_reducible apply val_ite); rotate_left; refine fun (_ : ¬ _) => ?_; rotate_right; refine fun (_ : _ = true) => ?_)
    | (with_reducible refine wps_regionH ?_)
    | ((with_reducible apply wps_bindV); apply val_iteL; rotate_left; refine fun (_ : ¬ _) => ?_; rotate_right; refine fun (_ : _ = true) => ?_)
    | ((with_reducible apply val_iteL); rotate_left; refine fun (_ : ¬ _) => ?_; rotate_right; refine fun (_ : _ = true) => ?_)
    | (with_reducible exact wps_pure (ent_val rfl)))
  by_cases h : FitsB q k = true
  · simp only [h, if_true]
    repeat (first
      | (with_reducible refine wps_bindpure ?_)
      | (with_reducible refine wps_assoc ?_)
      | (with_reducible refine wps_nil ?_)
      | (with_reducible refine wps_stepAlloc fun _ => ?_)
      | (with_reducible refine wps_alloc fun _ => ?_)
      | (with_reducible refine wps_newO fun _ => ?_)
      | (refine wps_ld _ (by rfl) ?_)
      | (refine wps_ldG _ _ _ (by rfl) ?_)
      | (refine wps_ldA _ (by rfl) ?_)
      | (refine wps_ldI _ (by rfl) ?_)
      | (refine wps_ldGI _ _ _ (by rfl) ?_)
      | (refine wps_ldAI _ (by rfl) ?_)
      | (refine wps_st (by simp) ?_)
      | (refine wps_stA (by simp) (by simp [Value.oneCell']) ?_)
      | ((with_reducible apply wps_val); apply val_ite; rotate_left; refine fun (_ : ¬ _) => ?_; rotate_right; refine fun (_ : _ = true) => ?_)
      | ((with_reducible apply val_ite); rotate_left; refine fun (_ : ¬ _) => ?_; rotate_right; refine fun (_ : _ = true) => ?_)
      | (with_reducible refine wps_regionH ?_)
      | ((with_reducible apply wps_bindV); apply val_iteL; rotate_left; refine fun (_ : ¬ _) => ?_; rotate_right; refine fun (_ : _ = true) => ?_)
      | ((with_reducible apply val_iteL); rotate_left; refine fun (_ : ¬ _) => ?_; rotate_right; refine fun (_ : _ = true) => ?_)
      | (with_reducible exact wps_pure (ent_val rfl)))
    exact wps_pure (Ent.trans (ent_right _ _) (Ent.of_eq rfl))
  · simp only [h, if_false, Bool.false_eq_true]
    exact wps_pure ent_drop
end Go.Proofs.Ytldmeimebebllaa
namespace Go.Proofs.Ytldmeimebebllaa
open Go.Mo
set_option linter.unusedVariables false
variable {g : Fr} {cv : CV}
def everyL (s : Int) (b : List Int) : List Int → Rk → Int → Rk × Int
  | [], R, wr => (R, wr)
  | d :: ds, R, wr => if R.gate d s b.length = 12 then (R.write d s b, 12) else everyL s b ds (R.write d s b) (if R.gate d s b.length = 11 then 11 else wr)
theorem drop_cons {xs : List Int} {i : Nat} {x : Int} (h : xs[i]? = some x) : xs.drop i = x :: xs.drop (i + 1) := by
  obtain ⟨hlt, he⟩ := List.getElem?_eq_some_iff.1 h
  rw [List.drop_eq_getElem_cons hlt, he]
theorem bank_Everywhere_spec (hcv : DisksOk cv) {H : HP} (bb rb : Nat) (q m : G3) (hq : q.1 ≤ 16) (R : Rk) (ds : Slc) (ps : List Nat) (s : Int) (x : Slc) (b : List Int) (hx : Ent H (byt x b)) (hb : b.length ≤ 1099511627776) :
    wps g (H * bnk bb rb q m * rackP rb R ds ps) (bank_Bank_Everywhere cv (ptr bb) s x) (fun e =>
      pr (e = (everyL s b (disksL q m) R 0).2) * H * bnk bb rb q m * rackP rb (everyL s b (disksL q m) R 0).1 ds ps) := by
  unfold bank_Bank_Everywhere
  repeat (first
    | (with_reducible refine wps_bindpure ?_)
    | (with_reducible refine wps_assoc ?_)
    | (with_reducible refine wps_nil ?_)
    | (with_reducible refine wps_stepAlloc fun _ => ?_)
    | (with_reducible refine wps_alloc fun _ => ?_)
    | (with_reducible refine wps_newO fun _ => ?_)
    | (refine wps_ld _ (by rfl) ?_)
    | (refine wps_ldG _ _ _ (by rfl) ?_)
    | (refine wps_ldA _ (by rfl) ?_)
    | (refine wps_ldI _ (by rfl) ?_)
    | (refine wps_ldGI _ _ _ (by rfl) ?_)
    | (refine wps_ldAI _ (by rfl) ?_)
    | (refine wps_st (by simp) ?_)
    | (refine wps_stA (by simp) (by simp [Value.oneCell']) ?_)
    | ((with_reducible apply wps_val); apply val_ite; rotate_left; refine fun (_ : ¬ _) => ?_; rotate_right; refine fun (_ : _ = true) => ?_)
    | ((with_reducible apply val_ite); rotate_left; refine fun (_ : ¬ _) => ?_; rotate_right; refine fun (_ : _ = true) => ?_)
    | (with_reducible refine wps_regionH ?_)
    | ((with_reducible apply wps_bindV); apply val_iteL; rotate_left; refine fun (_ : ¬ _) => ?_; rotate_right; refine fun (_ : _ = true) => ?_)
    | ((with_reducible apply val_iteL); rotate_left; refine fun (_ : ¬ _) => ?_; rotate_right; refine fun (_ : _ = true) => ?_)
    | (with_reducible exact wps_pure (ent_val rfl)))
  rename_i x3 x4 x5 x6 x7
  refine wps_rangeF (F := emp)
    (fun i => ex fun R' : Rk => ex fun wr : Int => pr (everyL s b (disksL q m) R 0 = everyL s b ((disksL q m).drop i) R' wr) * H * rackP rb R' ds ps * pc x3 [.pointer (ptr bb)] * pc x4 [.int .i64 s] * pc x5 [vS x] * pc x6 [.int .i64 0] * pc x7 [.int .i64 wr])
    (fun j => match j with | .ret => ex fun R' : Rk => pr (everyL s b (disksL q m) R 0 = (R', 12)) * H * rackP rb R' ds ps * pc x6 [.int .i64 12] | .exit _ => pr False)
    (fun i d t => pr (t = d) * (bnk bb rb q m * ex fun R' : Rk => ex fun wr : Int => pr (everyL s b (disksL q m) R 0 = everyL s b ((disksL q m).drop i) R' wr) * H * rackP rb R' ds ps * pc x3 [.pointer (ptr bb)] * pc x4 [.int .i64 s] * pc x5 [vS x] * pc x6 [.int .i64 0] * pc x7 [.int .i64 wr]))
    (disks_iter hcv bb rb q m hq) ?_ ?_ ?_ ?_ ?_ ?_
  · rw [emp_star]
    refine Ent.trans ?_ (Ent.starr (ent_ex R (ent_ex 0 (Ent.refl _))))
    simp only [← star_assoc]
    exact ent_pickC (by rfl) (ent_pickC (by rfl) (ent_pickC (by rfl) (ent_pick (ent_pick (ent_pick (ent_pick (ent_prx rfl ent_drop)))))))
  · intro i d hd g
    exact wps_pure (ent_prr rfl (Ent.refl _))
  · intro i d hd t g
    refine wps_pr fun ht => ?_
    subst ht
    refine wps_exP fun R' => ?_
    refine wps_exP fun wr => ?_
    simp only [← star_assoc]
    refine wps_prP fun hR => ?_
    rw [drop_cons hd, everyL] at hR
    refine wps_region (bnk bb rb q m * pc x3 [.pointer (ptr bb)] * pc x4 [.int .i64 s] * pc x5 [vS x]) (ent_pick (ent_pick (ent_pick ent_drop))) ?_
    repeat (first
      | (with_reducible refine wps_bindpure ?_)
      | (with_reducible refine wps_assoc ?_)
      | (with_reducible refine wps_nil ?_)
      | (with_reducible refine wps_stepAlloc fun _ => ?_)
      | (with_reducible refine wps_alloc fun _ => ?_)
      | (with_reducible refine wps_newO fun _ => ?_)
      | (refine wps_ld _ (by rfl) ?_)
      | (refine wps_ldG _ _ _ (by rfl) ?_)
      | (refine wps_ldA _ (by rfl) ?_)
      | (refine wps_ldI _ (by rfl) ?_)
      | (refine wps_ldGI _ _ _ (by rfl) ?_)
      | (refine wps_ldAI _ (by rfl) ?_)
      | (refine wps_st (by simp) ?_)
      | (refine wps_stA (by simp) (by simp [Value.oneCell']) ?_)
      | ((with_reducible apply wps_val); apply val_ite; rotate_left; refine fun (_ : ¬ _) => ?_; rotate_right; refine fun (_ : _ = true) => ?_)
      | ((with_reducible apply val_ite); rotate_left; refine fun (_ : ¬ _) => ?_; rotate_right; refine fun (_ : _ = true) => ?_)
      | (with_reducible refine wps_regionH ?_)
      | ((with_reducible apply wps_bindV); apply val_iteL; rotate_left; refine fun (_ : ¬ _) => ?_; rotate_right; refine fun (_ : _ = true) => ?_)
      | ((with_reducible apply val_iteL); rotate_left; refine fun (_ : ¬ _) => ?_; rotate_right; refine fun (_ : _ = true) => ?_)
      | (with_reducible exact wps_pure (ent_val rfl)))
    refine wps_stepC (F := bnk bb rb q m * pc x3 [.pointer (ptr bb)] * pc x4 [.int .i64 s] * pc x5 [vS x] * pc x6 [.int .i64 0] * pc x7 [.int .i64 wr]) (A := H * rackP rb R' ds ps) (fun _ => device_Rack_Write_spec rb R' ds ps t s x b hx hb) ?_ ent_drop fun e => ?_
    · rw [← star_assoc]
      exact ent_pick (ent_pick (ent_pick (ent_pick (ent_pick (ent_pick (ent_pick (Ent.refl _)))))))
    · simp only [← star_assoc]
      refine wps_prP fun he => ?_
      subst he
      refine wps_ite (fun h12 => ?_) (fun h12 => ?_)
      · have h12' : R'.gate t s b.length = 12 := by simpa using h12
        rw [if_pos h12'] at hR
        repeat (first
          | (with_reducible refine wps_bindpure ?_)
          | (with_reducible refine wps_assoc ?_)
          | (with_reducible refine wps_nil ?_)
          | (with_reducible refine wps_stepAlloc fun _ => ?_)
          | (with_reducible refine wps_alloc fun _ => ?_)
          | (with_reducible refine wps_newO fun _ => ?_)
          | (refine wps_ld _ (by rfl) ?_)
          | (refine wps_ldG _ _ _ (by rfl) ?_)
          | (refine wps_ldA _ (by rfl) ?_)
          | (refine wps_ldI _ (by rfl) ?_)
          | (refine wps_ldGI _ _ _ (by rfl) ?_)
          | (refine wps_ldAI _ (by rfl) ?_)
          | (refine wps_st (by simp) ?_)
          | (refine wps_stA (by simp) (by simp [Value.oneCell']) ?_)
          | ((with_reducible apply wps_val); apply val_ite; rotate_left; refine fun (_ : ¬ _) => ?_; rotate_right; refine fun (_ : _ = true) => ?_)
          | ((with_reducible apply val_ite); rotate_left; refine fun (_ : ¬ _) => ?_; rotate_right; refine fun (_ : _ = true) => ?_)
          | (with_reducible refine wps_regionH ?_)
          | ((with_reducible apply wps_bindV); apply val_iteL; rotate_left; refine fun (_ : ¬ _) => ?_; rotate_right; refine fun (_ : _ = true) => ?_)
          | ((with_reducible apply val_iteL); rotate_left; refine fun (_ : ¬ _) => ?_; rotate_right; refine fun (_ : _ = true) => ?_)
          | (with_reducible exact wps_pure (ent_val rfl)))
        refine wps_pure ?_
        refine Ent.trans ?_ (Ent.starr (ent_ex (R'.write t s b) (Ent.refl _)))
        simp only [← star_assoc]
        exact ent_pickC (by rw [h12']; rfl) (ent_pick (ent_pick (ent_prx hR ent_drop)))
      · have h12' : ¬ R'.gate t s b.length = 12 := by simpa using h12
        rw [if_neg h12'] at hR
        refine wps_ite (fun h11 => ?_) (fun h11 => ?_)
        · have h11' : R'.gate t s b.length = 11 := by simpa using h11
          rw [if_pos h11'] at hR
          repeat (first
            | (with_reducible refine wps_bindpure ?_)
            | (with_reducible refine wps_assoc ?_)
            | (with_reducible refine wps_nil ?_)
            | (with_reducible refine wps_stepAlloc fun _ => ?_)
            | (with_reducible refine wps_alloc fun _ => ?_)
            | (with_reducible refine wps_newO fun _ => ?_)
            | (refine wps_ld _ (by rfl) ?_)
            | (refine wps_ldG _ _ _ (by rfl) ?_)
            | (refine wps_ldA _ (by rfl) ?_)
            | (refine wps_ldI _ (by rfl) ?_)
            | (refine wps_ldGI _ _ _ (by rfl) ?_)
            | (refine wps_ldAI _ (by rfl) ?_)
            | (refine wps_st (by simp) ?_)
            | (refine wps_stA (by simp) (by simp [Value.oneCell']) ?_)
            | ((with_reducible apply wps_val); apply val_ite; rotate_left; refine fun (_ : ¬ _) => ?_; rotate_right; refine fun (_ : _ = true) => ?_)
            | ((with_reducible apply val_ite); rotate_left; refine fun (_ : ¬ _) => ?_; rotate_right; refine fun (_ : _ = true) => ?_)
            | (with_reducible refine wps_regionH ?_)
            | ((with_reducible apply wps_bindV); apply val_iteL; rotate_left; refine fun (_ : ¬ _) => ?_; rotate_right; refine fun (_ : _ = true) => ?_)
            | ((with_reducible apply val_iteL); rotate_left; refine fun (_ : ¬ _) => ?_; rotate_right; refine fun (_ : _ = true) => ?_)
            | (with_reducible exact wps_pure (ent_val rfl)))
          refine wps_pure ?_
          refine Ent.trans ?_ (Ent.starr (ent_ex (R'.write t s b) (ent_ex 11 (Ent.refl _))))
          simp only [← star_assoc]
          exact ent_pickC (by rw [h11']; rfl) (ent_pick (ent_pick (ent_pick (ent_pick (ent_pick (ent_pick (ent_prx hR ent_drop)))))))
        · have h11' : ¬ R'.gate t s b.length = 11 := by simpa using h11
          rw [if_neg h11'] at hR
          refine wps_pure ?_
          refine Ent.trans ?_ (Ent.starr (ent_ex (R'.write t s b) (ent_ex wr (Ent.refl _))))
          simp only [← star_assoc]
          exact ent_pick (ent_pick (ent_pick (ent_pick (ent_pick (ent_pick (ent_pick (ent_prx hR ent_drop)))))))
  · intro D
    refine wps_exP fun R' => wps_exP fun wr => ?_
    simp only [← star_assoc]
    refine wps_prP fun hR => ?_
    rw [List.drop_length, everyL] at hR
    repeat (first
      | (with_reducible refine wps_bindpure ?_)
      | (with_reducible refine wps_assoc ?_)
      | (with_reducible refine wps_nil ?_)
      | (with_reducible refine wps_stepAlloc fun _ => ?_)
      | (with_reducible refine wps_alloc fun _ => ?_)
      | (with_reducible refine wps_newO fun _ => ?_)
      | (refine wps_ld _ (by rfl) ?_)
      | (refine wps_ldG _ _ _ (by rfl) ?_)
      | (refine wps_ldA _ (by rfl) ?_)
      | (refine wps_ldI _ (by rfl) ?_)
      | (refine wps_ldGI _ _ _ (by rfl) ?_)
      | (refine wps_ldAI _ (by rfl) ?_)
      | (refine wps_st (by simp) ?_)
      | (refine wps_stA (by simp) (by simp [Value.oneCell']) ?_)
      | ((with_reducible apply wps_val); apply val_ite; rotate_left; refine fun (_ : ¬ _) => ?_; rotate_right; refine fun (_ : _ = true) => ?_)
      | ((with_reducible apply val_ite); rotate_left; refine fun (_ : ¬ _) => ?_; rotate_right; refine fun (_ : _ = true) => ?_)
      | (with_reducible refine wps_regionH ?_)
      | ((with_reducible apply wps_bindV); apply val_iteL; rotate_left; refine fun (_ : ¬ _) => ?_; rotate_right; refine fun (_ : _ = true) => ?_)
      | ((with_reducible apply val_iteL); rotate_left; refine fun (_ : ¬ _) => ?_; rotate_right; refine fun (_ : _ = true) => ?_)
      | (with_reducible exact wps_pure (ent_val rfl)))
    refine wps_take ?_
    repeat (first
      | (with_reducible refine wps_bindpure ?_)
      | (with_reducible refine wps_assoc ?_)
      | (with_reducible refine wps_nil ?_)
      | (with_reducible refine wps_stepAlloc fun _ => ?_)
      | (with_reducible refine wps_alloc fun _ => ?_)
      | (with_reducible refine wps_newO fun _ => ?_)
      | (refine wps_ld _ (by rfl) ?_)
      | (refine wps_ldG _ _ _ (by rfl) ?_)
      | (refine wps_ldA _ (by rfl) ?_)
      | (refine wps_ldI _ (by rfl) ?_)
      | (refine wps_ldGI _ _ _ (by rfl) ?_)
      | (refine wps_ldAI _ (by rfl) ?_)
      | (refine wps_st (by simp) ?_)
      | (refine wps_stA (by simp) (by simp [Value.oneCell']) ?_)
      | ((with_reducible apply wps_val); apply val_ite; rotate_left; refine fun (_ : ¬ _) => ?_; rotate_right; refine fun (_ : _ = true) => ?_)
      | ((with_reducible apply val_ite); rotate_left; refine fun (_ : ¬ _) => ?_; rotate_right; refine fun (_ : _ = true) => ?_)
      | (with_reducible refine wps_regionH ?_)
      | ((with_reducible apply wps_bindV); apply val_iteL; rotate_left; refine fun (_ : ¬ _) => ?_; rotate_right; refine fun (_ : _ = true) => ?_)
      | ((with_reducible apply val_iteL); rotate_left; refine fun (_ : ¬ _) => ?_; rotate_right; refine fun (_ : _ = true) => ?_)
      | (with_reducible exact wps_pure (ent_val rfl)))
    refine wps_pure ?_
    rw [hR]
    exact ent_pick (ent_pick (ent_pick (ent_prq rfl)))
  · intro D
    refine wps_exP fun R' => ?_
    simp only [← star_assoc]
    refine wps_prP fun hR => ?_
    refine wps_take ?_
    repeat (first
      | (with_reducible refine wps_bindpure ?_)
      | (with_reducible refine wps_assoc ?_)
      | (with_reducible refine wps_nil ?_)
      | (with_reducible refine wps_stepAlloc fun _ => ?_)
      | (with_reducible refine wps_alloc fun _ => ?_)
      | (with_reducible refine wps_newO fun _ => ?_)
      | (refine wps_ld _ (by rfl) ?_)
      | (refine wps_ldG _ _ _ (by rfl) ?_)
      | (refine wps_ldA _ (by rfl) ?_)
      | (refine wps_ldI _ (by rfl) ?_)
      | (refine wps_ldGI _ _ _ (by rfl) ?_)
      | (refine wps_ldAI _ (by rfl) ?_)
      | (refine wps_st (by simp) ?_)
      | (refine wps_stA (by simp) (by simp [Value.oneCell']) ?_)
      | ((with_reducible apply wps_val); apply val_ite; rotate_left; refine fun (_ : ¬ _) => ?_; rotate_right; refine fun (_ : _ = true) => ?_)
      | ((with_reducible apply val_ite); rotate_left; refine fun (_ : ¬ _) => ?_; rotate_right; refine fun (_ : _ = true) => ?_)
      | (with_reducible refine wps_regionH ?_)
      | ((with_reducible apply wps_bindV); apply val_iteL; rotate_left; refine fun (_ : ¬ _) => ?_; rotate_right; refine fun (_ : _ = true) => ?_)
      | ((with_reducible apply val_iteL); rotate_left; refine fun (_ : ¬ _) => ?_; rotate_right; refine fun (_ : _ = true) => ?_)
      | (with_reducible exact wps_pure (ent_val rfl)))
    refine wps_pure ?_
    rw [hR]
    exact ent_pick (ent_pick (ent_pick (ent_prq rfl)))
  · intro D id
    exact wps_false (fun o ho => by
      have := ent_right _ _ o (ent_left _ _ o ho)
      exact ent_right _ _ o this)
end Go.Proofs.Ytldmeimebebllaa
namespace Go.Proofs.Ytldmeimebebllaa
open Go.Mo
set_option linter.unusedVariables false
variable {g : Fr} {cv : CV}
def allL (s : Int) (xs : List Int) (R : Rk) : List (List Int) := (xs.filter fun d => R.rdErr d s == 0).map fun d => R.rd d s
def rows (t : Slc) (l : List (List Int)) : HP := ex fun sl : List Slc => pr (sl.length = l.length ∧ t.len = l.length) * seqp sl (fun i => l.getD i []) * own 1 t (sl.map vS)
theorem seqp_ext {sl : List Slc} {f f' : Nat → List Int} (h : ∀ i, i < sl.length → f i = f' i) : Ent (seqp sl f) (seqp sl f') := fun o ho k s hk => by
  have hlt := (List.getElem?_eq_some_iff.1 hk).1
  rw [← h k hlt]
  exact ho k s hk
theorem seqp_snocL {sl : List Slc} {l : List (List Int)} {s : Slc} {b : List Int} (hl : sl.length = l.length) : Ent (seqp sl (fun i => l.getD i []) * byt s b) (seqp (sl ++ [s]) (fun i => (l ++ [b]).getD i [])) := by
  refine seqp_snoc (Ent.trans (ent_left _ _) (seqp_ext fun i hi => ?_)) (Ent.trans (ent_right _ _) (Ent.of_eq ?_))
  · simp [List.getD_eq_getElem?_getD, List.getElem?_append_left (show i < l.length by omega)]
  · simp [List.getD_eq_getElem?_getD, hl]
theorem disksL_len (q m : G3) (hq : q.1 ≤ 16) : (disksL q m).length ≤ 17 := by
  unfold disksL
  rw [List.length_append, List.length_map, List.length_range]
  split <;> simp <;> omega
theorem bank_All_spec (hcv : DisksOk cv) (bb rb : Nat) (q m : G3) (hq : q.1 ≤ 16) (R : Rk) (ds : Slc) (ps : List Nat) (s : Int) :
    wps g (bnk bb rb q m * rackP rb R ds ps) (bank_Bank_All cv (ptr bb) s) (fun t => bnk bb rb q m * rackP rb R ds ps * rows t (allL s (disksL q m) R)) := by
  unfold bank_Bank_All
  repeat (first
    | (with_reducible refine wps_bindpure ?_)
    | (with_reducible refine wps_assoc ?_)
    | (with_reducible refine wps_nil ?_)
    | (with_reducible refine wps_stepAlloc fun _ => ?_)
    | (with_reducible refine wps_alloc fun _ => ?_)
    | (with_reducible refine wps_newO fun _ => ?_)
    | (refine wps_ld _ (by rfl) ?_)
    | (refine wps_ldG _ _ _ (by rfl) ?_)
    | (refine wps_ldA _ (by rfl) ?_)
    | (refine wps_ldI _ (by rfl) ?_)
    | (refine wps_ldGI _ _ _ (by rfl) ?_)
    | (refine wps_ldAI _ (by rfl) ?_)
    | (refine wps_st (by simp) ?_)
    | (refine wps_stA (by simp) (by simp [Value.oneCell']) ?_)
    | ((with_reducible apply wps_val); apply val_ite; rotate_left; refine fun (_ : ¬ _) => ?_; rotate_right; refine fun (_ : _ = true) => ?_)
    | ((with_reducible apply val_ite); rotate_left; refine fun (_ : ¬ _) => ?_; rotate_right; refine fun (_ : _ = true) => ?_)
    | (with_reducible refine wps_regionH ?_)
    | ((with_reducible apply wps_bindV); apply val_iteL; rotate_left; refine fun (_ : ¬ _) => ?_; rotate_right; refine fun (_ : _ = true) => ?_)
    | ((with_reducible apply val_iteL); rotate_left; refine fun (_ : ¬ _) => ?_; rotate_right; refine fun (_ : _ = true) => ?_)
    | (with_reducible exact wps_pure (ent_val rfl)))
  rename_i x2 x3 x5
  refine wps_rangeF (F := emp)
    (fun i => ex fun t : Slc => ex fun sl : List Slc => pr (sl.length = (allL s ((disksL q m).take i) R).length ∧ t.len = sl.length) * seqp sl (fun j => (allL s ((disksL q m).take i) R).getD j []) * own 1 t (sl.map vS) * rackP rb R ds ps * pc x2 [.pointer (ptr bb)] * pc x3 [.int .i64 s] * pc x5 [vS t])
    (fun _ => pr False)
    (fun i d t' => pr (t' = d) * (bnk bb rb q m * ex fun t : Slc => ex fun sl : List Slc => pr (sl.length = (allL s ((disksL q m).take i) R).length ∧ t.len = sl.length) * seqp sl (fun j => (allL s ((disksL q m).take i) R).getD j []) * own 1 t (sl.map vS) * rackP rb R ds ps * pc x2 [.pointer (ptr bb)] * pc x3 [.int .i64 s] * pc x5 [vS t]))
    (disks_iter hcv bb rb q m hq) ?_ ?_ ?_ ?_ ?_ ?_
  · rw [emp_star]
    refine Ent.trans ?_ (Ent.starr (ent_ex nilS (ent_ex [] (Ent.refl _))))
    simp only [← star_assoc]
    refine ent_pickC (by rfl) (ent_pickC (by rfl) (ent_pickC (by rfl) (ent_pick (ent_own0 (ent_pers ?_ (seqp_nil _ _))))))
    exact ent_prx (by simp [allL, nilS]) ent_drop
  · intro i d hd g
    exact wps_pure (ent_prr rfl (Ent.refl _))
  · intro i d hd t' g
    refine wps_pr fun ht => ?_
    subst ht
    refine wps_exP fun t => ?_
    refine wps_exP fun sl => ?_
    simp only [← star_assoc]
    refine wps_prP fun ⟨hsl, htl⟩ => ?_
    have htake : (disksL q m).take (i + 1) = (disksL q m).take i ++ [t'] := by rw [List.take_add_one, hd]; rfl
    have hle : sl.length ≤ 17 := by
      rw [hsl]
      simp only [allL, List.length_map]
      have h1 := List.length_filter_le (fun d => R.rdErr d s == 0) ((disksL q m).take i)
      have h2 := disksL_len q m hq
      rw [List.length_take] at h1
      omega
    refine wps_region (bnk bb rb q m * pc x2 [.pointer (ptr bb)] * pc x3 [.int .i64 s]) (ent_pick (ent_pick ent_drop)) ?_
    repeat (first
      | (with_reducible refine wps_bindpure ?_)
      | (with_reducible refine wps_assoc ?_)
      | (with_reducible refine wps_nil ?_)
      | (with_reducible refine wps_stepAlloc fun _ => ?_)
      | (with_reducible refine wps_alloc fun _ => ?_)
      | (with_reducible refine wps_newO fun _ => ?_)
      | (refine wps_ld _ (by rfl) ?_)
      | (refine wps_ldG _ _ _ (by rfl) ?_)
      | (refine wps_ldA _ (by rfl) ?_)
      | (refine wps_ldI _ (by rfl) ?_)
      | (refine wps_ldGI _ _ _ (by rfl) ?_)
      | (refine wps_ldAI _ (by rfl) ?_)
      | (refine wps_st (by simp) ?_)
      | (refine wps_stA (by simp) (by simp [Value.oneCell']) ?_)
      | ((with_reducible apply wps_val); apply val_ite; rotate_left; refine fun (_ : ¬ _) => ?_; rotate_right; refine fun (_ : _ = true) => ?_)
      | ((with_reducible apply val_ite); rotate_left; refine fun (_ : ¬ _) => ?_; rotate_right; refine fun (_ : _ = true) => ?_)
      | (with_reducible refine wps_regionH ?_)
      | ((with_reducible apply wps_bindV); apply val_iteL; rotate_left; refine fun (_ : ¬ _) => ?_; rotate_right; refine fun (_ : _ = true) => ?_)
      | ((with_reducible apply val_iteL); rotate_left; refine fun (_ : ¬ _) => ?_; rotate_right; refine fun (_ : _ = true) => ?_)
      | (with_reducible exact wps_pure (ent_val rfl)))
    refine wps_stepC (F := bnk bb rb q m * pc x2 [.pointer (ptr bb)] * pc x3 [.int .i64 s] * seqp sl (fun j => (allL s ((disksL q m).take i) R).getD j []) * own 1 t (sl.map vS) * pc x5 [vS t]) (A := rackP rb R ds ps) (fun _ => device_Rack_Read_spec rb R ds ps t' s) ?_ ent_drop fun e => ?_
    · exact ent_pick (ent_pick (ent_pick (ent_pick (ent_pick (ent_pick ent_drop)))))
    · simp only [← star_assoc]
      refine wps_prP fun he => ?_
      refine wps_ite (fun h0 => ?_) (fun h0 => ?_)
      · have h0' : R.rdErr t' s = 0 := by rw [← he]; simpa using h0
        have hall : allL s ((disksL q m).take (i + 1)) R = allL s ((disksL q m).take i) R ++ [R.rd t' s] := by
          rw [htake]; simp [allL, h0']
        repeat (first
          | (with_reducible refine wps_bindpure ?_)
          | (with_reducible refine wps_assoc ?_)
          | (with_reducible refine wps_nil ?_)
          | (with_reducible refine wps_stepAlloc fun _ => ?_)
          | (with_reducible refine wps_alloc fun _ => ?_)
          | (with_reducible refine wps_newO fun _ => ?_)
          | (refine wps_ld _ (by rfl) ?_)
          | (refine wps_ldG _ _ _ (by rfl) ?_)
          | (refine wps_ldA _ (by rfl) ?_)
          | (refine wps_ldI _ (by rfl) ?_)
          | (refine wps_ldGI _ _ _ (by rfl) ?_)
          | (refine wps_ldAI _ (by rfl) ?_)
          | (refine wps_st (by simp) ?_)
          | (refine wps_stA (by simp) (by simp [Value.oneCell']) ?_)
          | ((with_reducible apply wps_val); apply val_ite; rotate_left; refine fun (_ : ¬ _) => ?_; rotate_right; refine fun (_ : _ = true) => ?_)
          | ((with_reducible apply val_ite); rotate_left; refine fun (_ : ¬ _) => ?_; rotate_right; refine fun (_ : _ = true) => ?_)
          | (with_reducible refine wps_regionH ?_)
          | ((with_reducible apply wps_bindV); apply val_iteL; rotate_left; refine fun (_ : ¬ _) => ?_; rotate_right; refine fun (_ : _ = true) => ?_)
          | ((with_reducible apply val_iteL); rotate_left; refine fun (_ : ¬ _) => ?_; rotate_right; refine fun (_ : _ = true) => ?_)
          | (with_reducible exact wps_pure (ent_val rfl)))
        refine wps_app 1 [vS e.1] rfl (by decide) (rsl_pc rfl) (by simp [Value.oneCell', vS]) (by (try dsimp only); omega) fun t2 ht2 => ?_
        repeat (first
          | (with_reducible refine wps_bindpure ?_)
          | (with_reducible refine wps_assoc ?_)
          | (with_reducible refine wps_nil ?_)
          | (with_reducible refine wps_stepAlloc fun _ => ?_)
          | (with_reducible refine wps_alloc fun _ => ?_)
          | (with_reducible refine wps_newO fun _ => ?_)
          | (refine wps_ld _ (by rfl) ?_)
          | (refine wps_ldG _ _ _ (by rfl) ?_)
          | (refine wps_ldA _ (by rfl) ?_)
          | (refine wps_ldI _ (by rfl) ?_)
          | (refine wps_ldGI _ _ _ (by rfl) ?_)
          | (refine wps_ldAI _ (by rfl) ?_)
          | (refine wps_st (by simp) ?_)
          | (refine wps_stA (by simp) (by simp [Value.oneCell']) ?_)
          | ((with_reducible apply wps_val); apply val_ite; rotate_left; refine fun (_ : ¬ _) => ?_; rotate_right; refine fun (_ : _ = true) => ?_)
          | ((with_reducible apply val_ite); rotate_left; refine fun (_ : ¬ _) => ?_; rotate_right; refine fun (_ : _ = true) => ?_)
          | (with_reducible refine wps_regionH ?_)
          | ((with_reducible apply wps_bindV); apply val_iteL; rotate_left; refine fun (_ : ¬ _) => ?_; rotate_right; refine fun (_ : _ = true) => ?_)
          | ((with_reducible apply val_iteL); rotate_left; refine fun (_ : ¬ _) => ?_; rotate_right; refine fun (_ : _ = true) => ?_)
          | (with_reducible exact wps_pure (ent_val rfl)))
        refine wps_pure ?_
        rw [hall]
        refine Ent.trans ?_ (Ent.starr (ent_ex t2 (ent_ex (sl ++ [e.1]) (Ent.refl _))))
        simp only [← star_assoc]
        refine ent_pickC (by rfl) (ent_pick (ent_pick (ent_pick (ent_pickS (by simp) ?_))))
        refine ent_swap (A := own 1 e.1 (bv (R.rd t' s))) (B := byt e.1 (R.rd t' s)) (own_rsl _ _ _) ?_
        refine ent_join (A := seqp sl fun j => (allL s ((disksL q m).take i) R).getD j []) (B := byt e.1 (R.rd t' s)) (seqp_snocL hsl) ?_
        exact ent_prx ⟨by simp [hsl], by simp [ht2, htl]⟩ ent_drop
      · have h0' : ¬ R.rdErr t' s = 0 := by rw [← he]; simpa using h0
        have hall : allL s ((disksL q m).take (i + 1)) R = allL s ((disksL q m).take i) R := by
          rw [htake]; simp [allL, h0']
        refine wps_pure ?_
        rw [hall]
        refine Ent.trans ?_ (Ent.starr (ent_ex t (ent_ex sl (Ent.refl _))))
        simp only [← star_assoc]
        exact ent_pick (ent_pick (ent_pick (ent_pick (ent_pick (ent_pick (ent_prx ⟨hsl, htl⟩ ent_drop))))))
  · intro D
    refine wps_exP fun t => wps_exP fun sl => ?_
    simp only [← star_assoc]
    refine wps_prP fun ⟨hsl, htl⟩ => ?_
    rw [List.take_length]
    rw [List.take_length] at hsl
    repeat (first
      | (with_reducible refine wps_bindpure ?_)
      | (with_reducible refine wps_assoc ?_)
      | (with_reducible refine wps_nil ?_)
      | (with_reducible refine wps_stepAlloc fun _ => ?_)
      | (with_reducible refine wps_alloc fun _ => ?_)
      | (with_reducible refine wps_newO fun _ => ?_)
      | (refine wps_ld _ (by rfl) ?_)
      | (refine wps_ldG _ _ _ (by rfl) ?_)
      | (refine wps_ldA _ (by rfl) ?_)
      | (refine wps_ldI _ (by rfl) ?_)
      | (refine wps_ldGI _ _ _ (by rfl) ?_)
      | (refine wps_ldAI _ (by rfl) ?_)
      | (refine wps_st (by simp) ?_)
      | (refine wps_stA (by simp) (by simp [Value.oneCell']) ?_)
      | ((with_reducible apply wps_val); apply val_ite; rotate_left; refine fun (_ : ¬ _) => ?_; rotate_right; refine fun (_ : _ = true) => ?_)
      | ((with_reducible apply val_ite); rotate_left; refine fun (_ : ¬ _) => ?_; rotate_right; refine fun (_ : _ = true) => ?_)
      | (with_reducible refine wps_regionH ?_)
      | ((with_reducible apply wps_bindV); apply val_iteL; rotate_left; refine fun (_ : ¬ _) => ?_; rotate_right; refine fun (_ : _ = true) => ?_)
      | ((with_reducible apply val_iteL); rotate_left; refine fun (_ : ¬ _) => ?_; rotate_right; refine fun (_ : _ = true) => ?_)
      | (with_reducible exact wps_pure (ent_val rfl)))
    refine wps_take (wps_pure ?_)
    refine ent_exr sl ?_
    simp only [← star_assoc]
    exact ent_pick (ent_pick (ent_prx ⟨hsl, by rw [htl, hsl]⟩ (ent_pick ent_drop)))
  · intro D
    exact wps_false (fun o ho => by
      have := ent_right _ _ o (ent_left _ _ o ho)
      exact ent_right _ _ o this)
  · intro D id
    exact wps_false (fun o ho => by
      have := ent_right _ _ o (ent_left _ _ o ho)
      exact ent_right _ _ o this)
end Go.Proofs.Ytldmeimebebllaa
namespace Go.Proofs.Ytldmeimebebllaa
open Go.Mo
set_option linter.unusedVariables false
structure Calm (R : Rk) : Prop where
  off : R.off = false
  count : R.count = -1
  failed : ∀ j, (R.dk j).failed = false
  counts : ∀ j, (R.dk j).count = -1
theorem w64m2 : w64 (-1 - 1) = -2 := w64_id (by omega) (by omega)
theorem Calm.tick {R : Rk} (h : Calm R) : R.ticked = R := by
  obtain ⟨n, ns, dk, count, off⟩ := R
  obtain ⟨h1, h2, h3, h4⟩ := h
  simp only at h1 h2 h3 h4
  subst h1 h2
  have hm : maxI (w64 (-1 - 1)) (-1) = -1 := by rw [w64m2]; rfl
  have hdk : (fun j => (dk j).tick) = dk := by
    funext j
    have a := h3 j
    have b := h4 j
    cases hd : dk j with
    | mk l c f k =>
      rw [hd] at a b
      simp only at a b
      subst a b
      simp only [Dk.tick, hm]
      rfl
  simp only [Rk.ticked, hm, hdk]
  rfl
theorem Calm.new (n s : Nat) : Calm (Rk.new n s) := ⟨rfl, rfl, fun _ => rfl, fun _ => rfl⟩
theorem Calm.gate {R : Rk} (h : Calm R) {k s : Int} (hk : 0 ≤ k ∧ k < R.n) (hs : 0 ≤ s ∧ s < R.ns) : R.gate k s 64 = 0 := by
  unfold Rk.gate
  have hr : ¬ (k < 0 ∨ k ≥ R.n ∨ s < 0 ∨ s ≥ R.ns) := by omega
  rw [if_neg (by simp [h.off]), if_neg hr, if_neg (by omega), if_neg (by rw [h.count]; omega), h.tick, if_neg (by simp [h.failed])]
theorem Calm.put {R : Rk} (h : Calm R) (k s : Int) (b : List Int) : Calm (R.put k s b) := by
  refine ⟨h.off, h.count, fun j => ?_, fun j => ?_⟩
  · simp only [Rk.put]; split
    · exact h.failed j
    · exact h.failed j
  · simp only [Rk.put]; split
    · exact h.counts j
    · exact h.counts j
theorem Calm.write {R : Rk} (h : Calm R) {k s : Int} {b : List Int} (hk : 0 ≤ k ∧ k < R.n) (hs : 0 ≤ s ∧ s < R.ns) (hb : b.length = 64) : R.gate k s b.length = 0 ∧ R.write k s b = R.put k s b := by
  have hg : R.gate k s b.length = 0 := by rw [hb]; exact h.gate hk hs
  obtain ⟨_, _, _, _, hgd⟩ := gate_ok hg
  exact ⟨hg, by rw [Rk.write, if_pos hg, hgd, h.tick]⟩
theorem Calm.rdErr {R : Rk} (h : Calm R) {k s : Int} (hk : 0 ≤ k ∧ k < R.n) (hs : 0 ≤ s ∧ s < R.ns) : R.rdErr k s = 0 := by
  unfold Rk.rdErr
  have hr : ¬ (k < 0 ∨ k ≥ R.n ∨ s < 0 ∨ s ≥ R.ns) := by omega
  rw [if_neg (by simp [h.off]), if_neg hr, if_neg (by simp [h.failed])]
theorem Calm.rd {R : Rk} (h : Calm R) {k s : Int} (hk : 0 ≤ k ∧ k < R.n) (hs : 0 ≤ s ∧ s < R.ns) : R.rd k s = (R.dk k.toNat).sec s := by
  rw [Rk.rd, if_pos (h.rdErr hk hs)]
theorem Calm.failedB {R : Rk} (h : Calm R) (k : Int) : R.failedB k = false := by
  unfold Rk.failedB; split
  · exact h.failed _
  · rfl
theorem Calm.every {s : Int} {b : List Int} : ∀ {xs : List Int} {R : Rk}, Calm R → (∀ d ∈ xs, 0 ≤ d ∧ d < R.n) → 0 ≤ s ∧ s < R.ns → b.length = 64 → everyL s b xs R 0 = (xs.foldl (fun R d => R.put d s b) R, 0)
  | [], R, _, _, _, _ => rfl
  | d :: xs, R, h, hx, hs, hb => by
    have hw := h.write (hx d (by simp)) hs hb
    simp only [everyL, hw.1, hw.2]
    rw [if_neg (by omega), if_neg (by omega)]
    exact Calm.every (h.put d s b) (fun d' hd' => hx d' (by simp [hd'])) hs hb
end Go.Proofs.Ytldmeimebebllaa

namespace Go.Mo
set_option linter.unusedVariables false
structure ItrOk (es : Array MapEntry) (clock : Nat) (seen : Array Nat) (f : Int → Option Value) (V : Int → Bool) : Prop where
  map : MapOk es.toList clock f
  seen : ∀ e ∈ es.toList, ∀ k, keyIs k e = true → seen.contains e.born = V k
def itrC (it m : Nat) (es : Array MapEntry) (clock : Nat) (seen : Array Nat) : HP := po it (.mapIter (some m) clock seen clock) * po m (.map es clock)
def itr (it m : Nat) (f : Int → Option Value) (V : Int → Bool) : HP := ex fun es : Array MapEntry => ex fun clock : Nat => ex fun seen : Array Nat => pr (ItrOk es clock seen f V) * itrC it m es clock seen
def itrAt (it m : Nat) (f : Int → Option Value) (V : Int → Bool) (j : Int) (v : Value) : HP := ex fun es : Array MapEntry => ex fun clock : Nat => ex fun seen : Array Nat =>
  pr (ItrOk es clock seen f (fun i => V i || i == j) ∧ ∃ e ∈ es.toList, e.key = .int .i64 j ∧ e.val = v ∧ seen.back? = some e.born) * itrC it m es clock seen
theorem itr_imap (it m : Nat) (f : Int → Option Value) (V : Int → Bool) : Ent (itr it m f V) (imap m f) :=
  ex_ent fun es => ex_ent fun clock => ex_ent fun seen => pr_ent fun h => ent_ex es (ent_ex clock (ent_prr h.map (ent_right _ _)))
theorem MapOk.one {es : List MapEntry} {clock : Nat} {f : Int → Option Value} (h : MapOk es clock f) {e e' : MapEntry} (he : e ∈ es) (he' : e' ∈ es) (hb : e.born = e'.born) : e = e' := by
  obtain ⟨i, hi, rfl⟩ := List.mem_iff_getElem.1 he
  obtain ⟨j, hj, rfl⟩ := List.mem_iff_getElem.1 he'
  have hp := List.pairwise_iff_getElem.1 h.born
  rcases Nat.lt_trichotomy i j with hlt | heq | hgt
  · have := hp i j (by simpa using hi) (by simpa using hj) hlt
    simp only [List.getElem_map] at this
    omega
  · subst heq; rfl
  · have := hp j i (by simpa using hj) (by simpa using hi) hgt
    simp only [List.getElem_map] at this
    omega
section
variable {α β σ γ κ : Type} {g : Fr} {H H' : HP} {Q : α → HP}
theorem wps_rangeMap {k : Addr → M α} {m : Nat} {f : Int → Option Value} [hp : PickM m H f H'] (h : ∀ it, wps g (H' * itr it m f (fun _ => false)) (k ⟨it, 0, none⟩) Q) : wps g H (bindM (rangeMapM (some m)) k) Q := fun w a Qf ho ha hq => by
  rw [hp.eq] at ha
  obtain ⟨es, clock, hm, ha⟩ := imap_open ha
  refine ⟨es, clock, own_po ho ha, ?_⟩
  have hpu := own_push ho (.mapIter (some m) clock #[] clock) (World.pushO w (.mapIter (some m) clock #[] clock)) rfl ⟨rfl, rfl⟩ (fun _ _ _ h => by cases h)
  have q1 : (H' * po m (.map es clock) * po w.heap.size (.mapIter (some m) clock #[] clock)).p _ := ⟨a, _, hpu.2, Hp.le_refl _, ha, by simp [po]⟩
  refine h w.heap.size _ _ Qf hpu.1 (?_ : HP.p _ _) hq
  refine Ent.trans (Ent.of_eq (star_assoc _ _ _)) (Ent.starr ?_) _ q1
  refine ent_ex es (ent_ex clock (ent_ex #[] (ent_prr ⟨hm, fun e he k hk => by simp⟩ ?_)))
  rw [star_comm]; exact Ent.refl _
theorem ex3_open {γ1 γ2 γ3 : Type} {A : HP} {B : γ1 → γ2 → γ3 → HP} {a : Hp} (h : (A * ex fun x => ex fun y => ex fun z => B x y z).p a) : ∃ x y z, (A * B x y z).p a := by
  obtain ⟨a1, a2, hd, hl, h1, x, y, z, h2⟩ := h
  exact ⟨x, y, z, a1, a2, hd, hl, h1, h2⟩
theorem wps_next {k : Option (Value × Value) → M α} {it m : Nat} {f : Int → Option Value} {V : Int → Bool} (hH : H = H' * itr it m f V)
    (h0 : (∀ j v, f j = some v → V j = true) → wps g (H' * itr it m f V) (k none) Q)
    (h1 : ∀ j v, f j = some v → V j = false → wps g (H' * itrAt it m f V j v) (k (some (.int .i64 j, v))) Q) : wps g H (bindM (nextM ⟨it, 0, none⟩) k) Q := fun w a Qf ho ha hq => by
  rw [hH] at ha
  obtain ⟨es, clock, seen, ha⟩ := ex3_open ha
  rw [star_left_comm] at ha
  have hok : ItrOk es clock seen f V := ent_left _ _ a ha
  have ha := ent_right _ _ a ha
  have ham : (H' * po it (.mapIter (some m) clock seen clock) * po m (.map es clock)).p a := by rw [star_assoc]; exact ha
  have hai : (H' * po m (.map es clock) * po it (.mapIter (some m) clock seen clock)).p a := by rw [star_right_comm]; exact ham
  have hmem := own_po ho ham
  have hit := own_po ho hai
  refine ⟨rfl, .inr ⟨m, clock, seen, clock, es, clock, hit, hmem, ?_, ?_, ?_⟩⟩
  · cases hes : es.isEmpty with
    | true => simp
    | false =>
      have : ¬ (es.all fun e => decide (e.born ≥ clock)) = true := by
        intro hall
        rw [Array.all_eq_true_iff_forall_mem] at hall
        have hne : es.size ≠ 0 := by
          intro h0; simp at h0; simp [h0] at hes
        have h1 := hall es[0] (Array.getElem_mem (by omega))
        have h2 := hok.map.below es[0] (by rw [Array.mem_toList_iff]; exact Array.getElem_mem (by omega))
        simp at h1; omega
      simp only [Bool.and_eq_false_iff]
      right
      simpa using this
  · unfold iterCands
    simp only
    split
    · simp
    · rename_i hne
      have h2 : 0 < ((iterLeft es seen).filter fun x => decide (x.born < clock)).size := by
        rw [Array.isEmpty_iff_size_eq_zero] at hne
        omega
      simp only [Array.size_append, Array.size_map]
      omega
  · intro c hc
    have hmemc : (c = none ∧ ∀ e ∈ es.toList, seen.contains e.born = true) ∨ ∃ e ∈ es.toList, seen.contains e.born = false ∧ c = some e := by
      unfold iterCands at hc
      simp only at hc
      rw [Array.mem_append] at hc
      rcases hc with hc | hc
      · split at hc
        · rename_i hem
          left
          refine ⟨by simpa using hc, fun e he => ?_⟩
          rw [Array.isEmpty_iff_size_eq_zero, Array.size_eq_zero_iff, Array.filter_eq_empty_iff] at hem
          cases hs : seen.contains e.born with
          | true => rfl
          | false =>
            have hl : e ∈ iterLeft es seen := by
              unfold iterLeft
              rw [Array.mem_filter]
              exact ⟨Array.mem_toList_iff.1 he, by simp only [hs]; rfl⟩
            exact absurd (decide_eq_true (hok.map.below e he)) (hem e hl)
        · simp at hc
      · right
        rw [Array.mem_map] at hc
        obtain ⟨e, he, rfl⟩ := hc
        have hl : e ∈ iterLeft es seen := by
          rw [Array.mem_append] at he
          rcases he with he | he
          · exact (Array.mem_filter.1 he).1
          · exact (Array.mem_filter.1 he).1
        unfold iterLeft at hl
        rw [Array.mem_filter] at hl
        exact ⟨e, Array.mem_toList_iff.2 hl.1, by simpa using hl.2, rfl⟩
    rcases hmemc with ⟨rfl, hall⟩ | ⟨e, he, hs, rfl⟩
    · have hall' : ∀ j v, f j = some v → V j = true := fun j v hj => by
        obtain ⟨e, he, hk, _⟩ := (hok.map.find j v).1 hj
        rw [← hok.seen e he j hk]
        exact hall e he
      have hpost : (H' * itr it m f V).p a := by
        refine Ent.starr ?_ a ha
        exact ent_ex es (ent_ex clock (ent_ex seen (ent_prr hok (Ent.refl _))))
      exact ⟨h0 hall' w a Qf ho hpost hq, h0 hall' (drawW w) a Qf (own_draw ho) hpost hq⟩
    · obtain ⟨j, hj⟩ := hok.map.keys e he
      have hkj : keyIs j e = true := by rw [keyIs_int hj]; simp
      have hfj : f j = some e.val := (hok.map.find j e.val).2 ⟨e, he, hkj, rfl⟩
      have hVj : V j = false := by rw [← hok.seen e he j hkj]; exact hs
      have hok' : ItrOk es clock (seen.push e.born) f (fun i => V i || i == j) := ⟨hok.map, fun e' he' i hi => by
        have h2 := hok.seen e' he' i hi
        obtain ⟨n', hn'⟩ := hok.map.keys e' he'
        have hni : i = n' := by rw [keyIs_int hn'] at hi; simpa using hi
        have hcp : (seen.push e.born).contains e'.born = (seen.contains e'.born || e'.born == e.born) := by
          rw [Bool.eq_iff_iff]; simp [Array.mem_push]
        rw [hcp, h2]
        congr 1
        by_cases hb : e'.born = e.born
        · have := hok.map.one he' he hb
          subst this
          rw [hj] at hn'; cases hn'
          simp [hni]
        · have : ¬ i = j := by
            intro hij
            subst hij
            obtain ⟨x, hx⟩ := List.mem_iff_getElem?.1 he'
            obtain ⟨y, hy⟩ := List.mem_iff_getElem?.1 he
            have hxy := hok.map.once x y e' e i hx hy hi hkj
            subst hxy
            rw [hx] at hy
            exact hb (by rw [Option.some.inj hy])
          rw [show (e'.born == e.born) = false from by simpa using hb, show (i == j) = false from by simpa using this]⟩
      have step : ∀ w1, Own w1 a g → nextPost (fun y w' => k y Qf w') it m clock seen clock w1 (some e) := by
        intro w1 ho1
        obtain ⟨a', ho', ha'⟩ := own_put (.mapIter (some m) clock (seen.push e.born) clock) (fun _ _ _ h => by cases h) ho1 hai
        show k (some (e.key, e.val)) Qf _
        rw [hj]
        refine h1 j e.val hfj hVj _ a' Qf ho' ?_ hq
        refine Ent.trans (Ent.of_eq (star_assoc _ _ _)) (Ent.starr ?_) a' ha'
        refine ent_ex es (ent_ex clock (ent_ex (seen.push e.born) (ent_prr ⟨hok', e, he, hj, rfl, by simp⟩ ?_)))
        unfold itrC
        rw [star_comm]; exact Ent.refl _
      exact ⟨step w ho, step (drawW w) (own_draw ho)⟩
theorem wps_entry {ev : β → Value} {k : Int × β → M α} {it m : Nat} {f : Int → Option Value} {V : Int → Bool} {j : Int} {v : Value} (y : β) (hH : H = H' * itrAt it m f V j v) (hy : v = ev y)
    (h : wps g (H' * itr it m f (fun i => V i || i == j)) (k (j, y)) Q) : wps g H (bindM (entryM (Value.int .i64) ev ⟨it, 0, none⟩) k) Q := fun w a Qf ho ha hq => by
  rw [hH] at ha
  obtain ⟨es, clock, seen, ha⟩ := ex3_open ha
  rw [star_left_comm] at ha
  obtain ⟨hok, e, he, hk, hv, hb⟩ := ent_left _ _ a ha
  have ha := ent_right _ _ a ha
  have ham : (H' * po it (.mapIter (some m) clock seen clock) * po m (.map es clock)).p a := by rw [star_assoc]; exact ha
  have hai : (H' * po m (.map es clock) * po it (.mapIter (some m) clock seen clock)).p a := by rw [star_right_comm]; exact ham
  refine ⟨rfl, m, clock, seen, clock, es, clock, e.born, e, j, y, own_po ho hai, hb, own_po ho ham, rfl, ?_, hk, by rw [hv, hy], h w a Qf ho ?_ hq⟩
  · have : es.find? (fun x => x.born == e.born) = some e := by
      rw [← Array.find?_toList]
      cases hf : es.toList.find? (fun x => x.born == e.born) with
      | none =>
        rw [List.find?_eq_none] at hf
        exact absurd (by simp) (hf e he)
      | some e' =>
        have h1 := List.find?_some hf
        have h2 := List.mem_of_find?_eq_some hf
        rw [hok.map.one h2 he (by simpa using h1)]
    exact this
  · refine Ent.starr ?_ a ha
    exact ent_ex es (ent_ex clock (ent_ex seen (ent_prr hok (Ent.refl _))))
end
def toCome (n : Nat) (V : Int → Bool) : Nat := ((List.range n).filter fun i : Nat => !V (i : Int)).length
theorem toCome_lt {n : Nat} {V : Int → Bool} {j : Int} (hj : 0 ≤ j ∧ j < n) (hV : V j = false) : toCome n (fun i => V i || i == j) < toCome n V := by
  unfold toCome
  have hsub : ∀ l : List Nat, (l.filter fun i : Nat => !(V (i : Int) || (i : Int) == j)).length ≤ (l.filter fun i : Nat => !V (i : Int)).length := by
    intro l
    rw [← List.countP_eq_length_filter, ← List.countP_eq_length_filter]
    exact List.countP_mono_left fun x _ h => by
      cases hx : V (x : Int) with
      | true => rw [hx] at h; cases h
      | false => rfl
  obtain ⟨k, rfl⟩ : ∃ k : Nat, j = (k : Int) := ⟨j.toNat, by omega⟩
  have hk : k < n := by omega
  have hsplit : List.range n = List.range k ++ (k :: (List.range n).drop (k + 1)) := by
    have h1 := List.take_append_drop k (List.range n)
    rw [List.take_range, Nat.min_eq_left (by omega), List.drop_eq_getElem_cons (by simpa using hk)] at h1
    simpa using h1.symm
  rw [hsplit]
  simp only [List.filter_append, List.length_append, List.filter_cons]
  have a1 := hsub (List.range k)
  have a2 := hsub ((List.range n).drop (k + 1))
  simp [hV]
  simp at a1 a2
  omega
end Go.Mo
namespace Go.Proofs.Ytldmeimebebllaa
open Go.Mo
set_option linter.unusedVariables false
variable {g : Fr}
def Dk.flushed (D : Dk) (p : Int → Bool) : Dk := { D with lasts := fun k => match D.cached k with | some b => if p k then b else D.lasts k | none => D.lasts k }
def Dk.clean (D : Dk) : Dk := { D with cached := fun _ => none }
theorem Dk.ok_flushed {D : Dk} {ns : Nat} (h : D.ok ns) (p : Int → Bool) : (D.flushed p).ok ns := by
  refine ⟨fun k hk => ?_, h.2⟩
  simp only [Dk.flushed]
  cases hc : D.cached k with
  | none => exact h.1 k hk
  | some b =>
    simp only
    split
    · exact (h.2 k b hc).1
    · exact h.1 k hk
def Rk.setD (R : Rk) (j : Nat) (D : Dk) : Rk := { R with dk := fun i => if i = j then D else R.dk i }
def Rk.flush (R : Rk) (k : Int) : Rk := if R.gate k 0 64 = 0 then (R.gated k 0 64).setD k.toNat (((R.gated k 0 64).dk k.toNat).flushed fun _ => true).clean else R.gated k 0 64
theorem rackP_set {rb : Nat} {R : Rk} {ds : Slc} {ps : List Nat} {j : Nat} (D : Dk) (hj : j < R.n) :
    pr (ps.length = R.n ∧ ds.len = R.n ∧ R.n ≤ 17 ∧ R.ns ≤ 4096) * bst R.n (hole j (rackF R.ns R.dk ps)) * own 1 ds (ps.map pv) * pc rb [vS ds, .int .i64 R.ns, .int .i64 R.count, .bool R.off] * dskAt R.ns (ps.getD j 0) D = rackP rb (R.setD j D) ds ps := by
  rw [rackP_focus rb (R.setD j D) ds ps (j := j) hj]
  have hho : bst R.n (hole j (rackF R.ns R.dk ps)) = bst R.n (hole j (rackF R.ns (R.setD j D).dk ps)) := hole_congr fun i _ hne => by
    simp only [rackF, Rk.setD, if_neg hne]
  rw [hho]
  simp only [Rk.setD, if_true]
theorem device_Rack_Flush_spec (rb : Nat) (R : Rk) (ds : Slc) (ps : List Nat) (k : Int) :
    wps g (rackP rb R ds ps) (device_Rack_Flush (ptr rb) k) (fun e => pr (e = R.gate k 0 64) * rackP rb (R.flush k) ds ps) := by
  unfold device_Rack_Flush
  refine wps_bind (device_Rack_counted_spec rb R ds ps k 0 64) fun x => wps_pr fun hx => ?_
  subst hx
  by_cases h0 : R.gate k 0 64 = 0
  · obtain ⟨ho, hr, hs, hc, hgd⟩ := gate_ok h0
    refine wps_ite (fun _ => ?_) (fun h => absurd (by simp [gateV, h0]) h)
    have hlt : k.toNat < (R.gated k 0 64).n := by rw [hgd]; simp [Rk.ticked, hc]; omega
    have hfl : R.flush k = (R.gated k 0 64).setD k.toNat (((R.gated k 0 64).dk k.toNat).flushed fun _ => true).clean := by rw [Rk.flush, if_pos h0]
    have hgv : (gateV R ps k 0 64).1 = ptr (ps.getD k.toNat 0) := by simp [gateV, h0]
    have hgv2 : (gateV R ps k 0 64).2 = R.gate k 0 64 := rfl
    rw [hfl, hgv, hgv2, ← rackP_set _ hlt, rackP_focus rb (R.gated k 0 64) ds ps hlt]
    generalize R.gated k 0 64 = R1 at *
    generalize R1.dk k.toNat = D at *
    refine wps_tail (F := pr (ps.length = R1.n ∧ ds.len = R1.n ∧ R1.n ≤ 17 ∧ R1.ns ≤ 4096) * bst R1.n (hole k.toNat (rackF R1.ns R1.dk ps)) * own 1 ds (ps.map pv) * pc rb [vS ds, .int .i64 R1.ns, .int .i64 R1.count, .bool R1.off])
      (A := dskAt R1.ns (ps.getD k.toNat 0) D) (Q' := fun e => pr (e = R.gate k 0 64) * dskAt R1.ns (ps.getD k.toNat 0) (D.flushed fun _ => true).clean) (fun g => ?_) (Ent.refl _) (fun e => by rw [star_left_comm]; exact Ent.refl _)
    generalize ps.getD k.toNat 0 = p
    generalize R.gate k 0 64 = e0
    unfold dskAt dskX
    refine wps_ex fun ls => wps_ex fun mb => wps_ex fun sl => wps_ex fun sc => wps_prP fun hd => ?_
    repeat (first
      | (with_reducible refine wps_bindpure ?_)
      | (with_reducible refine wps_assoc ?_)
      | (with_reducible refine wps_nil ?_)
      | (with_reducible refine wps_stepAlloc fun _ => ?_)
      | (with_reducible refine wps_alloc fun _ => ?_)
      | (with_reducible refine wps_newO fun _ => ?_)
      | (refine wps_ld _ (by rfl) ?_)
      | (refine wps_ldG _ _ _ (by rfl) ?_)
      | (refine wps_ldA _ (by rfl) ?_)
      | (refine wps_ldI _ (by rfl) ?_)
      | (refine wps_ldGI _ _ _ (by rfl) ?_)
      | (refine wps_ldAI _ (by rfl) ?_)
      | (refine wps_st (by simp) ?_)
      | (refine wps_stA (by simp) (by simp [Value.oneCell']) ?_)
      | ((with_reducible apply wps_val); apply val_ite; rotate_left; refine fun (_ : ¬ _) => ?_; rotate_right; refine fun (_ : _ = true) => ?_)
      | ((with_reducible apply val_ite); rotate_left; refine fun (_ : ¬ _) => ?_; rotate_right; refine fun (_ : _ = true) => ?_)
      | (with_reducible refine wps_regionH ?_)
      | ((with_reducible apply wps_bindV); apply val_iteL; rotate_left; refine fun (_ : ¬ _) => ?_; rotate_right; refine fun (_ : _ = true) => ?_)
      | ((with_reducible apply val_iteL); rotate_left; refine fun (_ : ¬ _) => ?_; rotate_right; refine fun (_ : _ = true) => ?_)
      | (with_reducible exact wps_pure (ent_val rfl)))
    refine wps_rangeMap fun it => ?_
    have hD : D.ok R1.ns := hd.2.2
    refine wps_loopg (γ := (Int → Bool) × List Slc) (fun c _ => pr (c.2.length = R1.ns) * seqp c.2 (D.flushed c.1).lasts * cachep sc D.cached * own 1 ls (c.2.map vS) * pc p [vS ls, .map (some mb), .bool D.failed, .int .i64 D.count] * itr it mb (fun j => Option.map (fun _ => vS (sc j)) (D.cached j)) c.1) (fun c _ => toCome R1.ns c.1) (fun _ => false, sl) ?_ fun c _ => ?_
    · refine ent_pick (ent_pick (ent_pick (ent_pick ?_)))
      refine ent_prr hd.1 (Ent.trans (ent_drop (B := seqp sl D.lasts)) (seqp_ext fun i _ => ?_))
      simp only [Dk.flushed]
      cases D.cached i <;> rfl
    · obtain ⟨V, sl'⟩ := c
      simp only
      refine wps_prP fun hsl => ?_
      refine wps_next rfl (fun hall => ?_) (fun j v hj hV => ?_)
      · refine wps_mapR ?_
        repeat (first
          | (with_reducible refine wps_bindpure ?_)
          | (with_reducible refine wps_assoc ?_)
          | (with_reducible refine wps_nil ?_)
          | (with_reducible refine wps_stepAlloc fun _ => ?_)
          | (with_reducible refine wps_alloc fun _ => ?_)
          | (with_reducible refine wps_newO fun _ => ?_)
          | (refine wps_ld _ (by rfl) ?_)
          | (refine wps_ldG _ _ _ (by rfl) ?_)
          | (refine wps_ldA _ (by rfl) ?_)
          | (refine wps_ldI _ (by rfl) ?_)
          | (refine wps_ldGI _ _ _ (by rfl) ?_)
          | (refine wps_ldAI _ (by rfl) ?_)
          | (refine wps_st (by simp) ?_)
          | (refine wps_stA (by simp) (by simp [Value.oneCell']) ?_)
          | ((with_reducible apply wps_val); apply val_ite; rotate_left; refine fun (_ : ¬ _) => ?_; rotate_right; refine fun (_ : _ = true) => ?_)
          | ((with_reducible apply val_ite); rotate_left; refine fun (_ : ¬ _) => ?_; rotate_right; refine fun (_ : _ = true) => ?_)
          | (with_reducible refine wps_regionH ?_)
          | ((with_reducible apply wps_bindV); apply val_iteL; rotate_left; refine fun (_ : ¬ _) => ?_; rotate_right; refine fun (_ : _ = true) => ?_)
          | ((with_reducible apply val_iteL); rotate_left; refine fun (_ : ¬ _) => ?_; rotate_right; refine fun (_ : _ = true) => ?_)
          | (with_reducible exact wps_pure (ent_val rfl)))
        refine wps_swap (itr_imap it mb (fun j => Option.map (fun _ => vS (sc j)) (D.cached j)) V) (wps_clearS (wps_pure ?_))
        refine ent_prr rfl (ent_ex ls (ent_ex mb (ent_ex sl' (ent_ex sc ?_))))
        simp only [← star_assoc]
        refine ent_pickC (by rfl) (ent_pick (ent_pickM rfl (ent_pers ?_ (cachep_nil _ _))))
        refine ent_prr ⟨hsl, hd.2.1, ?_⟩ (Ent.trans (ent_drop (B := seqp sl' (D.flushed V).lasts)) (seqp_ext fun i _ => ?_))
        · exact ⟨(Dk.ok_flushed hD fun _ => true).1, fun j b h => by cases h⟩
        · show (D.flushed V).lasts i = (D.flushed fun _ => true).lasts i
          simp only [Dk.flushed]
          cases hci : D.cached i with
          | none => rfl
          | some b =>
            have := hall i (vS (sc i)) (by rw [hci]; rfl)
            simp [this]
      · cases hcj : D.cached j with
        | none => rw [hcj] at hj; cases hj
        | some b =>
          rw [hcj] at hj
          have hv : v = vS (sc j) := (Option.some.inj hj).symm
          obtain ⟨hb, hj0, hjn⟩ := hD.2 j b hcj
          refine wps_entry (sc j) rfl hv ?_
          repeat (first
            | (with_reducible refine wps_bindpure ?_)
            | (with_reducible refine wps_assoc ?_)
            | (with_reducible refine wps_nil ?_)
            | (with_reducible refine wps_stepAlloc fun _ => ?_)
            | (with_reducible refine wps_alloc fun _ => ?_)
            | (with_reducible refine wps_newO fun _ => ?_)
            | (refine wps_ld _ (by rfl) ?_)
            | (refine wps_ldG _ _ _ (by rfl) ?_)
            | (refine wps_ldA _ (by rfl) ?_)
            | (refine wps_ldI _ (by rfl) ?_)
            | (refine wps_ldGI _ _ _ (by rfl) ?_)
            | (refine wps_ldAI _ (by rfl) ?_)
            | (refine wps_st (by simp) ?_)
            | (refine wps_stA (by simp) (by simp [Value.oneCell']) ?_)
            | ((with_reducible apply wps_val); apply val_ite; rotate_left; refine fun (_ : ¬ _) => ?_; rotate_right; refine fun (_ : _ = true) => ?_)
            | ((with_reducible apply val_ite); rotate_left; refine fun (_ : ¬ _) => ?_; rotate_right; refine fun (_ : _ = true) => ?_)
            | (with_reducible refine wps_regionH ?_)
            | ((with_reducible apply wps_bindV); apply val_iteL; rotate_left; refine fun (_ : ¬ _) => ?_; rotate_right; refine fun (_ : _ = true) => ?_)
            | ((with_reducible apply val_iteL); rotate_left; refine fun (_ : ¬ _) => ?_; rotate_right; refine fun (_ : _ = true) => ?_)
            | (with_reducible exact wps_pure (ent_val rfl)))
          refine wps_wrS j.toNat (by simp; omega) (by omega) ?_
          refine wps_pure ?_
          refine Ent.trans ?_ (ent_ex (fun i => V i || i == j, sl'.set j.toNat (sc j)) (ent_prr (toCome_lt ⟨hj0, hjn⟩ hV) (Ent.refl _)))
          simp only
          refine ent_pick (ent_pick (ent_pickS (by rw [List.map_set]; rfl) ?_))
          refine ent_and (ent_prr (by simpa using hsl) (Ent.trans (seqp_set (k := j.toNat) (ent_drop (B := seqp sl' (D.flushed V).lasts)) (Ent.trans (ent_drop (B := cachep sc D.cached)) (cachep_get hcj))) (seqp_ext fun i _ => ?_))) ent_drop
          simp only [Dk.flushed]
          by_cases hij : i = j.toNat
          · have hij' : (i : Int) = j := by omega
            rw [if_pos hij, hij', hcj]
            simp
          · have hij' : ¬ (i : Int) = j := by omega
            rw [if_neg hij]
            cases D.cached i with
            | none => rfl
            | some b2 => simp [hij']
  · refine wps_ite (fun h => absurd (by simpa [gateV] using h) h0) (fun _ => wps_pure ?_)
    rw [Rk.flush, if_neg h0]
    exact ent_prr rfl (Ent.refl _)
end Go.Proofs.Ytldmeimebebllaa
namespace Go.Mo
set_option linter.unusedVariables false
section
variable {α β σ τ ξ : Type} {g : Fr} {H H' : HP} {Q : α → HP}
def IterG {ς : Type} (cv : CV) (fv : Value) (encX : ξ → Array Value) (s0 : ς) (nx : ς → ξ → ς → Prop) (fin : ς → Prop) (A : HP) : Prop :=
  ∀ (yv : Value) (I : ς → HP) (E : HP),
    (∀ (s : ς) (x : ξ) (s' : ς), nx s x s' → ∀ g, wps g (A * I s) (cv.call yv (encX x)) fun v => orp (pr (v = .bool true) * (A * I s')) (pr (v = .bool false) * (A * E))) →
    ∀ g, wps g (A * I s0) (cv.enter fv #[yv]) fun _ => A * orp (ex fun s => pr (fin s) * I s) E
theorem wps_rangeG {cv : CV} {fv : Value} {encX : ξ → Array Value} {asg : ξ → M τ} {body : τ → M (Unit ⊕ Jump)} {kn kr : Nat → M α} {ke : Nat → Nat → M α} {ς : Type} {s0 : ς} {nx : ς → ξ → ς → Prop} {fin : ς → Prop} {A F : HP} (I : ς → HP) (E : Jump → HP) (R : ς → ξ → ς → τ → HP)
    (hit : IterG cv fv encX s0 nx fin A) (h0 : Ent H (F * (A * I s0)))
    (hasg : ∀ (s : ς) (x : ξ) (s' : ς), nx s x s' → ∀ g, wps g (A * I s) (asg x) (R s x s'))
    (hbody : ∀ (s : ς) (x : ξ) (s' : ς), nx s x s' → ∀ t g, wps g (R s x s' t) (body t) fun r => match r with | .inl _ => A * I s' | .inr j => A * E j)
    (hn : ∀ D, wps g (F * (A * ex fun s => pr (fin s) * I s) * po D (.deferred (some []))) (kn D) Q)
    (hr : ∀ D, wps g (F * (A * E .ret) * po D (.deferred (some []))) (kr D) Q)
    (he : ∀ D id, wps g (F * (A * E (.exit id)) * po D (.deferred (some []))) (ke D id) Q) : wps g H (rangeFM cv fv encX asg body kn kr ke) Q := fun w a Qf ho ha hq => by
  intro mk hmk0 hyield
  have hmk : ∀ st p, Obj.soft (mk st p) := fun st p cs e f h => absurd h (hmk0 st p cs e f)
  have ha := h0 a ha
  have p1 := own_push ho (.deferred (some [])) (World.pushO w (.deferred (some []))) rfl ⟨rfl, rfl⟩ (fun _ _ _ h => by cases h)
  have q1 : (F * (A * I s0) * po w.heap.size (.deferred (some []))).p _ := ⟨a, _, p1.2, Hp.le_refl _, ha, by simp [po]⟩
  have p2 := own_push p1.1 (mk .ready none) (World.pushO (World.pushO w (.deferred (some []))) (mk .ready none)) rfl ⟨rfl, rfl⟩ (hmk _ _)
  have hsz : (World.pushO w (.deferred (some []))).heap.size = w.heap.size + 1 := by simp [World.pushO]
  have q2 : (F * (A * I s0) * po w.heap.size (.deferred (some [])) * po (w.heap.size + 1) (mk .ready none)).p _ := ⟨_, _, p2.2, Hp.le_refl _, q1, by rw [← hsz]; simp [po]⟩
  have hgo := hit (yieldV (w.heap.size + 1)) (fun i => I i * po (w.heap.size + 1) (mk .ready none)) (ex fun j => E j * po (w.heap.size + 1) (mk .done (some j.code))) (fun s x s' hx g' => by
    intro w1 a1 Qf1 ho1 ha1 hq1
    refine hyield x Qf1 w1 ?_
    refine wps_round hmk (hasg s x s' hx) (hbody s x s' hx) w1 a1 Qf1 ho1 (by rw [star_assoc]; exact ha1) fun v w2 a2 ho2 ha2 => hq1 v w2 a2 ho2 ?_
    rcases ha2 with ha2 | ha2
    · left; rw [star_assoc] at ha2; exact ha2
    · right
      refine Ent.starr ?_ a2 ha2
      refine ex_ent fun j => ?_
      rw [star_assoc]
      exact Ent.starr (ent_ex j (Ent.refl _)))
  have hfr := wps_frame (g := g) (F := F * po w.heap.size (.deferred (some []))) hgo
  refine hfr _ _ _ p2.1 ?_ fun v w3 a3 ho3 ha3 => ?_
  · refine Ent.of_eq ?_ _ q2
    simp only [star_assoc]
    ac_rfl
  · have hsplit : ∀ B : HP, ∀ ob, (A * (B * po (w.heap.size + 1) ob) * (F * po w.heap.size (.deferred (some [])))) = (F * (A * B) * po w.heap.size (.deferred (some [])) * po (w.heap.size + 1) ob) := by
      intro B ob; ac_rfl
    have ha3' : (orp (F * (A * ex fun s => pr (fin s) * I s) * po w.heap.size (.deferred (some [])) * po (w.heap.size + 1) (mk .ready none))
        (ex fun j => F * (A * E j) * po w.heap.size (.deferred (some [])) * po (w.heap.size + 1) (mk .done (some j.code)))).p a3 := by
      obtain ⟨x1, x2, hd, hl, ⟨y1, y2, hd', hl', hA, hor⟩, hF⟩ := ha3
      rcases hor with hor | hor
      · left
        rw [← hsplit]
        obtain ⟨s, hs⟩ := hor
        have hor' : ((ex fun s => pr (fin s) * I s) * po (w.heap.size + 1) (mk .ready none)).p y2 := by
          rw [ex_star]; refine ⟨s, ?_⟩
          show HP.p (pr (fin s) * I s * _) _
          rw [star_assoc]; exact hs
        exact ⟨x1, x2, hd, hl, ⟨y1, y2, hd', hl', hA, hor'⟩, hF⟩
      · right
        obtain ⟨j, hor⟩ := hor
        refine ⟨j, ?_⟩
        show (F * (A * E j) * po w.heap.size (.deferred (some [])) * po (w.heap.size + 1) (mk .done (some j.code))).p a3
        rw [← hsplit]
        exact ⟨x1, x2, hd, hl, ⟨y1, y2, hd', hl', hA, hor⟩, hF⟩
    rcases ha3' with ha3 | ⟨j, ha3⟩
    · refine ⟨.ready, none, own_po ho3 ha3, by simp, ?_⟩
      obtain ⟨a4, ho4, ha4⟩ := own_put (mk .exhausted none) (hmk _ _) ho3 ha3
      exact hn _ _ a4 Qf ho4 (ent_left _ _ a4 ha4) hq
    · refine ⟨.done, some j.code, own_po ho3 ha3, by simp, j, rfl, ?_⟩
      obtain ⟨a4, ho4, ha4⟩ := own_put (mk .exhausted (some j.code)) (hmk _ _) ho3 ha3
      have ha5 := ent_left _ _ a4 ha4
      cases j with
      | ret => exact hr _ _ a4 Qf ho4 ha5 hq
      | exit id => exact he _ id _ a4 Qf ho4 ha5 hq
def itrF (it m : Nat) (es : Array MapEntry) (clock : Nat) (f : Int → Option Value) (V : Int → Bool) : HP := ex fun seen : Array Nat => pr (ItrOk es clock seen f V) * itrC it m es clock seen
def itrAtF (it m : Nat) (es : Array MapEntry) (clock : Nat) (f : Int → Option Value) (V : Int → Bool) (j : Int) (v : Value) : HP := ex fun seen : Array Nat =>
  pr (ItrOk es clock seen f (fun i => V i || i == j) ∧ ∃ e ∈ es.toList, e.key = .int .i64 j ∧ e.val = v ∧ seen.back? = some e.born) * itrC it m es clock seen
theorem wps_rangeMapF {k : Addr → M α} {m : Nat} {es : Array MapEntry} {clock : Nat} {f : Int → Option Value} (hm : MapOk es.toList clock f) [hp : PickO m H (.map es clock) H'] (h : ∀ it, wps g (H' * itrF it m es clock f (fun _ => false)) (k ⟨it, 0, none⟩) Q) : wps g H (bindM (rangeMapM (some m)) k) Q := fun w a Qf ho ha hq => by
  rw [hp.eq] at ha
  refine ⟨es, clock, own_po ho ha, ?_⟩
  have hpu := own_push ho (.mapIter (some m) clock #[] clock) (World.pushO w (.mapIter (some m) clock #[] clock)) rfl ⟨rfl, rfl⟩ (fun _ _ _ h => by cases h)
  have q1 : (H' * po m (.map es clock) * po w.heap.size (.mapIter (some m) clock #[] clock)).p _ := ⟨a, _, hpu.2, Hp.le_refl _, ha, by simp [po]⟩
  refine h w.heap.size _ _ Qf hpu.1 (?_ : HP.p _ _) hq
  refine Ent.trans (Ent.of_eq (star_assoc _ _ _)) (Ent.starr ?_) _ q1
  refine ent_ex #[] (ent_prr ⟨hm, fun e he k hk => by simp⟩ ?_)
  rw [star_comm]; exact Ent.refl _
theorem wps_nextF {k : Option (Value × Value) → M α} {it m : Nat} {f : Int → Option Value} {V : Int → Bool} {es : Array MapEntry} {clock : Nat} (hH : H = H' * itrF it m es clock f V)
    (h0 : (∀ j v, f j = some v → V j = true) → wps g (H' * itrF it m es clock f V) (k none) Q)
    (h1 : ∀ j v, f j = some v → V j = false → wps g (H' * itrAtF it m es clock f V j v) (k (some (.int .i64 j, v))) Q) : wps g H (bindM (nextM ⟨it, 0, none⟩) k) Q := fun w a Qf ho ha hq => by
  rw [hH] at ha
  unfold itrF at ha
  rw [star_ex] at ha
  obtain ⟨seen, ha⟩ := ha
  simp only at ha
  rw [star_left_comm] at ha
  have hok : ItrOk es clock seen f V := ent_left _ _ a ha
  have ha := ent_right _ _ a ha
  have ham : (H' * po it (.mapIter (some m) clock seen clock) * po m (.map es clock)).p a := by rw [star_assoc]; exact ha
  have hai : (H' * po m (.map es clock) * po it (.mapIter (some m) clock seen clock)).p a := by rw [star_right_comm]; exact ham
  have hmem := own_po ho ham
  have hit := own_po ho hai
  refine ⟨rfl, .inr ⟨m, clock, seen, clock, es, clock, hit, hmem, ?_, ?_, ?_⟩⟩
  · cases hes : es.isEmpty with
    | true => simp
    | false =>
      have : ¬ (es.all fun e => decide (e.born ≥ clock)) = true := by
        intro hall
        rw [Array.all_eq_true_iff_forall_mem] at hall
        have hne : es.size ≠ 0 := by
          intro h0; simp at h0; simp [h0] at hes
        have h1 := hall es[0] (Array.getElem_mem (by omega))
        have h2 := hok.map.below es[0] (by rw [Array.mem_toList_iff]; exact Array.getElem_mem (by omega))
        simp at h1; omega
      simp only [Bool.and_eq_false_iff]
      right
      simpa using this
  · unfold iterCands
    simp only
    split
    · simp
    · rename_i hne
      have h2 : 0 < ((iterLeft es seen).filter fun x => decide (x.born < clock)).size := by
        rw [Array.isEmpty_iff_size_eq_zero] at hne
        omega
      simp only [Array.size_append, Array.size_map]
      omega
  · intro c hc
    have hmemc : (c = none ∧ ∀ e ∈ es.toList, seen.contains e.born = true) ∨ ∃ e ∈ es.toList, seen.contains e.born = false ∧ c = some e := by
      unfold iterCands at hc
      simp only at hc
      rw [Array.mem_append] at hc
      rcases hc with hc | hc
      · split at hc
        · rename_i hem
          left
          refine ⟨by simpa using hc, fun e he => ?_⟩
          rw [Array.isEmpty_iff_size_eq_zero, Array.size_eq_zero_iff, Array.filter_eq_empty_iff] at hem
          cases hs : seen.contains e.born with
          | true => rfl
          | false =>
            have hl : e ∈ iterLeft es seen := by
              unfold iterLeft
              rw [Array.mem_filter]
              exact ⟨Array.mem_toList_iff.1 he, by simp only [hs]; rfl⟩
            exact absurd (decide_eq_true (hok.map.below e he)) (hem e hl)
        · simp at hc
      · right
        rw [Array.mem_map] at hc
        obtain ⟨e, he, rfl⟩ := hc
        have hl : e ∈ iterLeft es seen := by
          rw [Array.mem_append] at he
          rcases he with he | he
          · exact (Array.mem_filter.1 he).1
          · exact (Array.mem_filter.1 he).1
        unfold iterLeft at hl
        rw [Array.mem_filter] at hl
        exact ⟨e, Array.mem_toList_iff.2 hl.1, by simpa using hl.2, rfl⟩
    rcases hmemc with ⟨rfl, hall⟩ | ⟨e, he, hs, rfl⟩
    · have hall' : ∀ j v, f j = some v → V j = true := fun j v hj => by
        obtain ⟨e, he, hk, _⟩ := (hok.map.find j v).1 hj
        rw [← hok.seen e he j hk]
        exact hall e he
      have hpost : (H' * itrF it m es clock f V).p a := by
        refine Ent.starr ?_ a ha
        exact ent_ex seen (ent_prr hok (Ent.refl _))
      exact ⟨h0 hall' w a Qf ho hpost hq, h0 hall' (drawW w) a Qf (own_draw ho) hpost hq⟩
    · obtain ⟨j, hj⟩ := hok.map.keys e he
      have hkj : keyIs j e = true := by rw [keyIs_int hj]; simp
      have hfj : f j = some e.val := (hok.map.find j e.val).2 ⟨e, he, hkj, rfl⟩
      have hVj : V j = false := by rw [← hok.seen e he j hkj]; exact hs
      have hok' : ItrOk es clock (seen.push e.born) f (fun i => V i || i == j) := ⟨hok.map, fun e' he' i hi => by
        have h2 := hok.seen e' he' i hi
        obtain ⟨n', hn'⟩ := hok.map.keys e' he'
        have hni : i = n' := by rw [keyIs_int hn'] at hi; simpa using hi
        have hcp : (seen.push e.born).contains e'.born = (seen.contains e'.born || e'.born == e.born) := by
          rw [Bool.eq_iff_iff]; simp [Array.mem_push]
        rw [hcp, h2]
        congr 1
        by_cases hb : e'.born = e.born
        · have := hok.map.one he' he hb
          subst this
          rw [hj] at hn'; cases hn'
          simp [hni]
        · have : ¬ i = j := by
            intro hij
            subst hij
            obtain ⟨x, hx⟩ := List.mem_iff_getElem?.1 he'
            obtain ⟨y, hy⟩ := List.mem_iff_getElem?.1 he
            have hxy := hok.map.once x y e' e i hx hy hi hkj
            subst hxy
            rw [hx] at hy
            exact hb (by rw [Option.some.inj hy])
          rw [show (e'.born == e.born) = false from by simpa using hb, show (i == j) = false from by simpa using this]⟩
      have step : ∀ w1, Own w1 a g → nextPost (fun y w' => k y Qf w') it m clock seen clock w1 (some e) := by
        intro w1 ho1
        obtain ⟨a', ho', ha'⟩ := own_put (.mapIter (some m) clock (seen.push e.born) clock) (fun _ _ _ h => by cases h) ho1 hai
        show k (some (e.key, e.val)) Qf _
        rw [hj]
        refine h1 j e.val hfj hVj _ a' Qf ho' ?_ hq
        refine Ent.trans (Ent.of_eq (star_assoc _ _ _)) (Ent.starr ?_) a' ha'
        refine ent_ex (seen.push e.born) (ent_prr ⟨hok', e, he, hj, rfl, by simp⟩ ?_)
        unfold itrC
        rw [star_comm]; exact Ent.refl _
      exact ⟨step w ho, step (drawW w) (own_draw ho)⟩
theorem wps_entryF {ev : β → Value} {k : Int × β → M α} {it m : Nat} {f : Int → Option Value} {V : Int → Bool} {j : Int} {v : Value} {es : Array MapEntry} {clock : Nat} (y : β) (hH : H = H' * itrAtF it m es clock f V j v) (hy : v = ev y)
    (h : wps g (H' * itrF it m es clock f (fun i => V i || i == j)) (k (j, y)) Q) : wps g H (bindM (entryM (Value.int .i64) ev ⟨it, 0, none⟩) k) Q := fun w a Qf ho ha hq => by
  rw [hH] at ha
  unfold itrAtF at ha
  rw [star_ex] at ha
  obtain ⟨seen, ha⟩ := ha
  simp only at ha
  rw [star_left_comm] at ha
  obtain ⟨hok, e, he, hk, hv, hb⟩ := ent_left _ _ a ha
  have ha := ent_right _ _ a ha
  have ham : (H' * po it (.mapIter (some m) clock seen clock) * po m (.map es clock)).p a := by rw [star_assoc]; exact ha
  have hai : (H' * po m (.map es clock) * po it (.mapIter (some m) clock seen clock)).p a := by rw [star_right_comm]; exact ham
  refine ⟨rfl, m, clock, seen, clock, es, clock, e.born, e, j, y, own_po ho hai, hb, own_po ho ham, rfl, ?_, hk, by rw [hv, hy], h w a Qf ho ?_ hq⟩
  · have : es.find? (fun x => x.born == e.born) = some e := by
      rw [← Array.find?_toList]
      cases hf : es.toList.find? (fun x => x.born == e.born) with
      | none =>
        rw [List.find?_eq_none] at hf
        exact absurd (by simp) (hf e he)
      | some e' =>
        have h1 := List.find?_some hf
        have h2 := List.mem_of_find?_eq_some hf
        rw [hok.map.one h2 he (by simpa using h1)]
    exact this
  · refine Ent.starr ?_ a ha
    exact ent_ex seen (ent_prr hok (Ent.refl _))
end
end Go.Mo
namespace Go.Mo
set_option linter.unusedVariables false
section
variable {α : Type} {g : Fr} {H H' : HP} {Q : α → HP}
theorem wps_call2 {β : Type} {m : M β} {k : β → M α} {A1 A2 H1 H2 : HP} {Q' : β → HP} [h1 : Has H A2 H1] [h2 : Has H1 A1 H2] (hs : ∀ g', wps g' (A1 * A2) m Q') (h' : ∀ x, wps g (H2 * Q' x) (k x) Q) : wps g H (bindM m k) Q :=
  wps_call hs (Ent.of_eq (by rw [h1.eq, h2.eq, star_assoc])) h'
theorem wps_tail2 {m : M α} {A1 A2 H1 H2 : HP} {Q' : α → HP} [h1 : Has H A2 H1] [h2 : Has H1 A1 H2] (hs : ∀ g', wps g' (A1 * A2) m Q') (h' : ∀ x, Ent (H2 * Q' x) (Q x)) : wps g H m Q :=
  wps_tail hs (Ent.of_eq (by rw [h1.eq, h2.eq, star_assoc])) h'
theorem wps_stepC1 {β : Type} {R : HP} {m : M β} {k : β → M α} {A H1 : HP} {Q' : β → HP} [h1 : Has H A H1] [d : Drops H1 R] (hs : ∀ g', wps g' A m Q') (h' : ∀ x, wps g (H1 * Q' x) (k x) Q) : wps g H (bindM (stepI (Iv g R) m) k) Q :=
  wps_stepC hs (Ent.of_eq h1.eq) d.ent h'
theorem wps_stepC2 {β : Type} {R : HP} {m : M β} {k : β → M α} {A1 A2 H1 H2 : HP} {Q' : β → HP} [h1 : Has H A2 H1] [h2 : Has H1 A1 H2] [d : Drops H2 R] (hs : ∀ g', wps g' (A1 * A2) m Q') (h' : ∀ x, wps g (H2 * Q' x) (k x) Q) : wps g H (bindM (stepI (Iv g R) m) k) Q :=
  wps_stepC hs (Ent.of_eq (by rw [h1.eq, h2.eq, star_assoc])) d.ent h'
theorem rd_rslZ {w : World} {a : Hp} {z : Nat} {s : Slc} {cs : List Value} {n j : Nat} {v : Value} (hp : Ent H (rsl z s cs)) (ho : Own w a g) (ha : H.p a) (hj : j < z) (hv : cs[n * z + j]? = some v) :
    n < s.len ∧ ∃ b off, s.base = some ⟨b, off, none⟩ ∧ w.cell? ⟨b, off + n * z + j, none⟩ = some v := by
  rcases hp a ha with hx | ⟨ad, all, hx⟩
  · rw [hx.2] at hv; simp at hv
  · have hpr := ent_left _ _ a hx
    have hro := ent_right _ _ a hx
    obtain ⟨h1, h2, h3, h4⟩ := hpr
    have hlt : n < s.len := by
      have h5 := (List.getElem?_eq_some_iff.1 hv).1
      refine Nat.lt_of_not_le fun h => ?_
      have := Nat.mul_le_mul_right z h
      omega
    refine ⟨hlt, ad.block, ad.off, h1, ?_⟩
    refine rd_cell (H := ro ad.block all) (Ent.refl _) ho hro ?_
    rw [← h4, List.getElem?_take] at hv
    split at hv
    · rw [List.getElem?_drop] at hv; rw [Nat.add_assoc]; exact hv
    · cases hv
theorem wps_rdA {β : Type} {enc : β → List Value} {k : β → M α} {z : Nat} {s : Slc} {i : Int} {cs : List Value} (n : Nat) (x : β) (hp : Ent H (rsl z s cs)) (hi : i = (n : Int)) (hz : 0 < (enc x).length ∧ (enc x).length ≤ z) (hv : ∀ j v, (enc x)[j]? = some v → cs[n * z + j]? = some v) (h : wps g H (k x) Q) :
    wps g H (bindM (idxM s i z) fun a => bindM (ldA enc a) k) Q := fun w a Qf ho ha hq => by
  subst hi
  obtain ⟨hlt, b, off, hb, _⟩ := rd_rslZ (n := n) (j := 0) hp ho ha (by omega) (hv 0 _ (List.getElem?_eq_getElem hz.1))
  refine ⟨⟨b, off, none⟩, hb, by omega, by omega, ?_⟩
  rw [Addr.add_mk]
  refine ⟨x, fun j v hj => ?_, h w a Qf ho ha hq⟩
  rw [Addr.add_mk, Int.toNat_natCast]
  obtain ⟨_, b', off', hb', hc⟩ := rd_rslZ (n := n) (j := j) hp ho ha (by have := (List.getElem?_eq_some_iff.1 hj).1; omega) (hv j v hj)
  rw [hb] at hb'; cases hb'
  exact hc
theorem wps_rdF {β : Type} {enc : β → Value} {k : β → M α} {z f : Nat} {s : Slc} {i : Int} {cs : List Value} (n : Nat) (x : β) (hp : Ent H (rsl z s cs)) (hi : i = (n : Int)) (hz : f < z) (hv : cs[n * z + f]? = some (enc x)) (h : wps g H (k x) Q) :
    wps g H (bindM (idxM s i z) fun a => bindM (ld enc (Addr.add a f)) k) Q := fun w a Qf ho ha hq => by
  subst hi
  obtain ⟨hlt, b, off, hb, hc⟩ := rd_rslZ (n := n) (j := f) hp ho ha hz hv
  refine ⟨⟨b, off, none⟩, hb, by omega, by omega, ?_⟩
  rw [Addr.add_mk]
  show bindM (ld enc (Addr.add _ f)) k Qf w
  rw [Addr.add_mk, Int.toNat_natCast]
  exact ⟨x, hc, h w a Qf ho ha hq⟩
theorem flat_get {γ : Type} {f : γ → List Value} {z : Nat} (hf : ∀ c, (f c).length = z) {l : List γ} {n j : Nat} {c : γ} (hc : l[n]? = some c) (hj : j < z) : (l.flatMap f)[n * z + j]? = (f c)[j]? := by
  induction l generalizing n with
  | nil => simp at hc
  | cons x l ih =>
    rw [List.flatMap_cons]
    cases n with
    | zero =>
      simp only [List.getElem?_cons_zero, Option.some.injEq] at hc
      subst hc
      rw [Nat.zero_mul, Nat.zero_add, List.getElem?_append_left (by rw [hf]; exact hj)]
    | succ n =>
      rw [List.getElem?_cons_succ] at hc
      rw [List.getElem?_append_right (by rw [hf, Nat.add_mul]; omega), hf, ← ih hc]
      congr 1
      rw [Nat.add_mul]; omega
theorem flat_len {γ : Type} {f : γ → List Value} {z : Nat} (hf : ∀ c, (f c).length = z) (l : List γ) : (l.flatMap f).length = l.length * z := by
  induction l with
  | nil => simp
  | cons x l ih => rw [List.flatMap_cons, List.length_append, ih, hf, List.length_cons, Nat.add_mul]; omega
end
end Go.Mo
namespace Go.Proofs.Ytldmeimebebllaa
open Go.Mo
set_option linter.unusedVariables false
variable {g : Fr} {cv : CV}
theorem filter_lt {α : Type} {p q : α → Bool} (hpq : ∀ x, q x = true → p x = true) {a : α} (hpa : p a = true) (hqa : q a = false) : ∀ {l : List α}, a ∈ l → (l.filter q).length < (l.filter p).length
  | [], h => by simp at h
  | x :: l, h => by
    have hle : (l.filter q).length ≤ (l.filter p).length := by
      rw [← List.countP_eq_length_filter, ← List.countP_eq_length_filter]
      exact List.countP_mono_left fun x _ h => hpq x h
    rcases List.mem_cons.1 h with rfl | h
    · rw [List.filter_cons, List.filter_cons, if_pos hpa, if_neg (by simp [hqa])]
      simp only [List.length_cons]; omega
    · have ih := filter_lt hpq hpa hqa h
      rw [List.filter_cons, List.filter_cons]
      cases hq : q x with
      | true => rw [if_pos rfl, if_pos (hpq x hq)]; simp only [List.length_cons]; omega
      | false =>
        rw [if_neg (by simp)]
        split
        · simp only [List.length_cons]; omega
        · exact ih
def KeysOk (cv : CV) : Prop := ∀ (a : Addr) (yv : Value) (Q : Value → World → Prop) (w : World), maps_Keys_m_c1 cv yv a (fun _ w' => Q (.tuple #[]) w') w → cv.enter (.func (.func fid_maps_Keys_m_c1) #[] #[.pointer (some a)]) #[yv] Q w
def keyNx (f : Int → Option Value) (s : List Int) (x : Int) (s' : List Int) : Prop := s' = s ++ [x] ∧ s'.Nodup ∧ ∀ y ∈ s', (f y).isSome = true
def keyFin (f : Int → Option Value) (s : List Int) : Prop := s.Nodup ∧ ∀ y, y ∈ s ↔ (f y).isSome = true
abbrev keysV (c : Nat) : Value := .func (.func fid_maps_Keys_m_c1) #[] #[.pointer (some ⟨c, 0, none⟩)]
def keyOf (e : MapEntry) : Int := match e.key with | .int _ n => n | _ => 0
theorem keys_iter (hcv : KeysOk cv) {c mb clock : Nat} {es : Array MapEntry} {f : Int → Option Value} (hm : MapOk es.toList clock f) (hv : ∀ j v, f j = some v → ∃ s : Slc, v = vS s) :
    IterG cv (keysV c) (fun x : Int => #[.int .i64 x]) [] (keyNx f) (keyFin f) (pc c [.map (some mb)] * po mb (.map es clock)) := by
  intro yv I E hstep g
  refine wps_enter (m := maps_Keys_m_c1 cv yv ⟨c, 0, none⟩) (fun Q w h => hcv _ _ _ _ h) ?_
  unfold maps_Keys_m_c1
  repeat (first
    | (with_reducible refine wps_bindpure ?_)
    | (with_reducible refine wps_assoc ?_)
    | (with_reducible refine wps_nil ?_)
    | (with_reducible refine wps_stepAlloc fun _ => ?_)
    | (with_reducible refine wps_alloc fun _ => ?_)
    | (with_reducible refine wps_newO fun _ => ?_)
    | (refine wps_ld _ (by rfl) ?_)
    | (refine wps_ldG _ _ _ (by rfl) ?_)
    | (refine wps_ldA _ (by rfl) ?_)
    | (refine wps_ldI _ (by rfl) ?_)
    | (refine wps_ldGI _ _ _ (by rfl) ?_)
    | (refine wps_ldAI _ (by rfl) ?_)
    | (refine wps_st (by simp) ?_)
    | (refine wps_stA (by simp) (by simp [Value.oneCell']) ?_)
    | ((with_reducible apply wps_val); apply val_ite; rotate_left; refine fun (_ : ¬ _) => ?_; rotate_right; refine fun (_ : _ = true) => ?_)
    | ((with_reducible apply val_ite); rotate_left; refine fun (_ : ¬ _) => ?_; rotate_right; refine fun (_ : _ = true) => ?_)
    | (with_reducible refine wps_regionH ?_)
    | ((with_reducible apply wps_bindV); apply val_iteL; rotate_left; refine fun (_ : ¬ _) => ?_; rotate_right; refine fun (_ : _ = true) => ?_)
    | ((with_reducible apply val_iteL); rotate_left; refine fun (_ : ¬ _) => ?_; rotate_right; refine fun (_ : _ = true) => ?_)
    | (with_reducible exact wps_pure (ent_val rfl)))
  refine wps_rangeMapF hm fun it => ?_
  refine wps_loopg (γ := List Int) (fun s _ => pr (s.Nodup ∧ ∀ y ∈ s, (f y).isSome = true) * (pc c [.map (some mb)] * I s * itrF it mb es clock f (fun i => s.contains i)))
    (fun s _ => (es.toList.filter fun e => !s.contains (keyOf e)).length) [] ?_ fun s _ => ?_
  · refine ent_prr ⟨by simp, by simp⟩ ?_
    have : (fun i : Int => ([] : List Int).contains i) = fun _ => false := by funext i; simp
    rw [this]
    refine Ent.of_eq ?_
    ac_rfl
  · refine wps_pr fun ⟨hnd, hall⟩ => ?_
    refine wps_nextF rfl (fun hend => ?_) (fun j v hj hV => ?_)
    · refine wps_mapR (wps_pure ?_)
      have : pc c [.map (some mb)] * I s * itrF it mb es clock f (fun i => s.contains i) = (pc c [.map (some mb)] * itrF it mb es clock f (fun i => s.contains i)) * I s := by ac_rfl
      rw [this]
      refine Ent.star (Ent.starr (ex_ent fun seen => pr_ent fun _ => ent_right _ _)) (ent_orl (ent_ex s (ent_prr ⟨hnd, fun y => ⟨hall y, fun hy => ?_⟩⟩ (Ent.refl _))))
      obtain ⟨v, hv⟩ := Option.isSome_iff_exists.1 hy
      simpa using hend y v hv
    · obtain ⟨sv, rfl⟩ := hv j v hj
      have hjs : j ∉ s := by simpa using hV
      have hnx : keyNx f s j (s ++ [j]) := by
        refine ⟨rfl, ?_, ?_⟩
        · rw [List.nodup_append]
          refine ⟨hnd, by simp, fun a ha b hb => ?_⟩
          simp only [List.mem_singleton] at hb
          subst hb
          exact fun e => hjs (e ▸ ha)
        · intro y hy
          rcases List.mem_append.1 hy with hy | hy
          · exact hall y hy
          · simp only [List.mem_singleton] at hy
            subst hy; rw [hj]; rfl
      obtain ⟨e, he, hk, _⟩ := (hm.find j (vS sv)).1 hj
      have hke : keyOf e = j := by
        obtain ⟨n, hn⟩ := hm.keys e he
        rw [keyIs_int hn] at hk
        simp only [keyOf, hn]
        have : j = n := by simpa using hk
        exact this.symm
      have hV' : (fun i => s.contains i || i == j) = fun i => (s ++ [j]).contains i := by
        funext i
        rw [Bool.eq_iff_iff, List.contains_append]; simp
      refine wps_entryF (ev := vS) sv rfl rfl ?_
      rw [hV']
      unfold itrF itrC
      refine wps_exP fun seen => ?_
      simp only [← star_assoc]
      refine wps_prP fun hok => ?_
      refine wps_call (F := po it (.mapIter (some mb) clock seen clock)) (A := pc c [.map (some mb)] * po mb (.map es clock) * I s) (fun g' => wps_yield (hstep s j (s ++ [j]) hnx g')) ?_ fun y => ?_
      · exact Ent.of_eq (by ac_rfl)
      cases y with
      | true =>
        refine wps_ite (fun h => absurd h (by simp)) (fun _ => wps_pure ?_)
        have hlt : (es.toList.filter fun e => !(s ++ [j]).contains (keyOf e)).length < (es.toList.filter fun e => !s.contains (keyOf e)).length := by
          refine filter_lt (a := e) (fun x hx => ?_) ?_ ?_ he
          · simp only [List.contains_append, Bool.not_or, Bool.and_eq_true] at hx
            exact hx.1
          · rw [hke, hV]; rfl
          · rw [hke]; simp
        refine Ent.trans ?_ (ent_ex (s ++ [j]) (Ent.refl _))
        rw [if_pos rfl]
        refine ent_exr seen ?_
        simp only [← star_assoc]
        exact ent_pick (ent_pick (ent_prx hok (ent_pick (ent_pick (ent_prx ⟨hnx.2.1, hnx.2.2⟩ (ent_prq hlt))))))
      | false =>
        refine wps_ite (fun _ => wps_mapR (wps_pure ?_)) (fun h => absurd rfl h)
        rw [if_neg (by simp)]
        exact Ent.trans (ent_right _ _) (Ent.starr (ent_orr (Ent.refl _)))
theorem slices_AppendSeq_spec (hcv : KeysOk cv) {c mb clock N : Nat} {es : Array MapEntry} {f : Int → Option Value} (hm : MapOk es.toList clock f) (hv : ∀ j v, f j = some v → ∃ s : Slc, v = vS s)
    (hN : ∀ s : List Int, s.Nodup → (∀ y ∈ s, (f y).isSome = true) → s.length ≤ N) (hN2 : N ≤ 1073741824) :
    wps g (pc c [.map (some mb)] * po mb (.map es clock)) (slices_AppendSeq_i cv ⟨none, 0, 0⟩ (keysV c)) fun t => po mb (.map es clock) * ex fun zs : List Int => pr (keyFin f zs) * own 1 t (zs.map (Value.int .i64)) := by
  unfold slices_AppendSeq_i
  repeat (first
    | (with_reducible refine wps_bindpure ?_)
    | (with_reducible refine wps_assoc ?_)
    | (with_reducible refine wps_nil ?_)
    | (with_reducible refine wps_stepAlloc fun _ => ?_)
    | (with_reducible refine wps_alloc fun _ => ?_)
    | (with_reducible refine wps_newO fun _ => ?_)
    | (refine wps_ld _ (by rfl) ?_)
    | (refine wps_ldG _ _ _ (by rfl) ?_)
    | (refine wps_ldA _ (by rfl) ?_)
    | (refine wps_ldI _ (by rfl) ?_)
    | (refine wps_ldGI _ _ _ (by rfl) ?_)
    | (refine wps_ldAI _ (by rfl) ?_)
    | (refine wps_st (by simp) ?_)
    | (refine wps_stA (by simp) (by simp [Value.oneCell']) ?_)
    | ((with_reducible apply wps_val); apply val_ite; rotate_left; refine fun (_ : ¬ _) => ?_; rotate_right; refine fun (_ : _ = true) => ?_)
    | ((with_reducible apply val_ite); rotate_left; refine fun (_ : ¬ _) => ?_; rotate_right; refine fun (_ : _ = true) => ?_)
    | (with_reducible refine wps_regionH ?_)
    | ((with_reducible apply wps_bindV); apply val_iteL; rotate_left; refine fun (_ : ¬ _) => ?_; rotate_right; refine fun (_ : _ = true) => ?_)
    | ((with_reducible apply val_iteL); rotate_left; refine fun (_ : ¬ _) => ?_; rotate_right; refine fun (_ : _ = true) => ?_)
    | (with_reducible exact wps_pure (ent_val rfl)))
  rename_i x2
  refine wps_rangeG (F := emp) (fun s : List Int => ex fun t : Slc => pr (t.len = s.length ∧ s.length ≤ N) * own 1 t (s.map (Value.int .i64)) * pc x2 [vS t]) (fun _ => pr False)
    (fun s x s' t => pr (t = x) * (pc c [.map (some mb)] * po mb (.map es clock) * ex fun t : Slc => pr (t.len = s.length ∧ s.length ≤ N) * own 1 t (s.map (Value.int .i64)) * pc x2 [vS t]))
    (keys_iter (mb := mb) hcv hm hv) ?_ ?_ ?_ ?_ ?_ ?_
  · rw [emp_star]
    refine Ent.starr ?_
    refine ent_ex nilS ?_
    have : pc x2 [Value.slice none 0 0] = emp * emp * pc x2 [vS nilS] := by rw [star_emp, emp_star]; rfl
    rw [this]
    exact Ent.starl (Ent.star (fun _ _ => ⟨rfl, Nat.zero_le _⟩) (own_nil 1))
  · intro s x s' _ g
    exact wps_pure (ent_prr rfl (Ent.refl _))
  · intro s x s' hnx t g
    refine wps_pr fun ht => ?_
    subst ht
    obtain ⟨rfl, hnd, hall⟩ := hnx
    refine wps_exP fun u => ?_
    simp only [← star_assoc]
    refine wps_prP fun ⟨hul, hsl⟩ => ?_
    have hN' := hN _ hnd hall
    repeat (first
      | (with_reducible refine wps_bindpure ?_)
      | (with_reducible refine wps_assoc ?_)
      | (with_reducible refine wps_nil ?_)
      | (with_reducible refine wps_stepAlloc fun _ => ?_)
      | (with_reducible refine wps_alloc fun _ => ?_)
      | (with_reducible refine wps_newO fun _ => ?_)
      | (refine wps_ld _ (by rfl) ?_)
      | (refine wps_ldG _ _ _ (by rfl) ?_)
      | (refine wps_ldA _ (by rfl) ?_)
      | (refine wps_ldI _ (by rfl) ?_)
      | (refine wps_ldGI _ _ _ (by rfl) ?_)
      | (refine wps_ldAI _ (by rfl) ?_)
      | (refine wps_st (by simp) ?_)
      | (refine wps_stA (by simp) (by simp [Value.oneCell']) ?_)
      | ((with_reducible apply wps_val); apply val_ite; rotate_left; refine fun (_ : ¬ _) => ?_; rotate_right; refine fun (_ : _ = true) => ?_)
      | ((with_reducible apply val_ite); rotate_left; refine fun (_ : ¬ _) => ?_; rotate_right; refine fun (_ : _ = true) => ?_)
      | (with_reducible refine wps_regionH ?_)
      | ((with_reducible apply wps_bindV); apply val_iteL; rotate_left; refine fun (_ : ¬ _) => ?_; rotate_right; refine fun (_ : _ = true) => ?_)
      | ((with_reducible apply val_iteL); rotate_left; refine fun (_ : ¬ _) => ?_; rotate_right; refine fun (_ : _ = true) => ?_)
      | (with_reducible exact wps_pure (ent_val rfl)))
    refine wps_app 1 [Value.int .i64 t] rfl (by decide) (rsl_pc rfl) (by simp [Value.oneCell']) (by (try dsimp only); omega) fun u' hu' => ?_
    repeat (first
      | (with_reducible refine wps_bindpure ?_)
      | (with_reducible refine wps_assoc ?_)
      | (with_reducible refine wps_nil ?_)
      | (with_reducible refine wps_stepAlloc fun _ => ?_)
      | (with_reducible refine wps_alloc fun _ => ?_)
      | (with_reducible refine wps_newO fun _ => ?_)
      | (refine wps_ld _ (by rfl) ?_)
      | (refine wps_ldG _ _ _ (by rfl) ?_)
      | (refine wps_ldA _ (by rfl) ?_)
      | (refine wps_ldI _ (by rfl) ?_)
      | (refine wps_ldGI _ _ _ (by rfl) ?_)
      | (refine wps_ldAI _ (by rfl) ?_)
      | (refine wps_st (by simp) ?_)
      | (refine wps_stA (by simp) (by simp [Value.oneCell']) ?_)
      | ((with_reducible apply wps_val); apply val_ite; rotate_left; refine fun (_ : ¬ _) => ?_; rotate_right; refine fun (_ : _ = true) => ?_)
      | ((with_reducible apply val_ite); rotate_left; refine fun (_ : ¬ _) => ?_; rotate_right; refine fun (_ : _ = true) => ?_)
      | (with_reducible refine wps_regionH ?_)
      | ((with_reducible apply wps_bindV); apply val_iteL; rotate_left; refine fun (_ : ¬ _) => ?_; rotate_right; refine fun (_ : _ = true) => ?_)
      | ((with_reducible apply val_iteL); rotate_left; refine fun (_ : ¬ _) => ?_; rotate_right; refine fun (_ : _ = true) => ?_)
      | (with_reducible exact wps_pure (ent_val rfl)))
    refine wps_pure ?_
    refine Ent.trans ?_ (Ent.starr (ent_ex u' (Ent.refl _)))
    simp only [← star_assoc]
    refine ent_pickC (by rfl) (ent_pickS (by simp) (ent_prx ⟨by simp [hu', hul], hN'⟩ ?_))
    exact ent_pick ent_drop
  · intro D
    refine wps_exP fun s => ?_
    simp only [← star_assoc]
    refine wps_prP fun hf => ?_
    refine wps_exP fun u => ?_
    simp only [← star_assoc]
    refine wps_prP fun hu => ?_
    repeat (first
      | (with_reducible refine wps_bindpure ?_)
      | (with_reducible refine wps_assoc ?_)
      | (with_reducible refine wps_nil ?_)
      | (with_reducible refine wps_stepAlloc fun _ => ?_)
      | (with_reducible refine wps_alloc fun _ => ?_)
      | (with_reducible refine wps_newO fun _ => ?_)
      | (refine wps_ld _ (by rfl) ?_)
      | (refine wps_ldG _ _ _ (by rfl) ?_)
      | (refine wps_ldA _ (by rfl) ?_)
      | (refine wps_ldI _ (by rfl) ?_)
      | (refine wps_ldGI _ _ _ (by rfl) ?_)
      | (refine wps_ldAI _ (by rfl) ?_)
      | (refine wps_st (by simp) ?_)
      | (refine wps_stA (by simp) (by simp [Value.oneCell']) ?_)
      | ((with_reducible apply wps_val); apply val_ite; rotate_left; refine fun (_ : ¬ _) => ?_; rotate_right; refine fun (_ : _ = true) => ?_)
      | ((with_reducible apply val_ite); rotate_left; refine fun (_ : ¬ _) => ?_; rotate_right; refine fun (_ : _ = true) => ?_)
      | (with_reducible refine wps_regionH ?_)
      | ((with_reducible apply wps_bindV); apply val_iteL; rotate_left; refine fun (_ : ¬ _) => ?_; rotate_right; refine fun (_ : _ = true) => ?_)
      | ((with_reducible apply val_iteL); rotate_left; refine fun (_ : ¬ _) => ?_; rotate_right; refine fun (_ : _ = true) => ?_)
      | (with_reducible exact wps_pure (ent_val rfl)))
    refine wps_take (wps_pure ?_)
    refine ent_exr s ?_
    simp only [← star_assoc]
    exact ent_pick (ent_prx hf ent_drop)
  · intro D
    exact wps_false (fun o ho => by
      have := ent_right _ _ o (ent_left _ _ o ho)
      exact ent_right _ _ o this)
  · intro D id
    exact wps_false (fun o ho => by
      have := ent_right _ _ o (ent_left _ _ o ho)
      exact ent_right _ _ o this)
theorem sorted_fin {f : Int → Option Value} {zs l : List Int} (h : keyFin f zs) (hl : l.Pairwise (· < ·)) (hm : ∀ y, y ∈ l ↔ (f y).isSome = true) : sorted zs = l := by
  have hnd : l.Nodup := hl.imp fun h e => by omega
  have hp : zs.Perm l := (List.perm_ext_iff_of_nodup h.1 hnd).2 fun a => (h.2 a).trans (hm a).symm
  refine List.Perm.eq_of_pairwise (le := fun a b : Int => a ≤ b) (fun a b _ _ h1 h2 => by omega) ?_ (hl.imp fun h => by omega) ((List.mergeSort_perm zs _).trans hp)
  have := List.pairwise_mergeSort (le := fun x y : Int => decide (x ≤ y)) (fun a b c h1 h2 => by simp at *; omega) (fun a b => by simp; omega) zs
  exact this.imp fun h => by simpa using h
theorem slices_Sorted_spec (hcv : KeysOk cv) {c mb clock N : Nat} {es : Array MapEntry} {f : Int → Option Value} (hm : MapOk es.toList clock f) (hv : ∀ j v, f j = some v → ∃ s : Slc, v = vS s)
    (hN : ∀ s : List Int, s.Nodup → (∀ y ∈ s, (f y).isSome = true) → s.length ≤ N) (hN2 : N ≤ 1073741824) {l : List Int} (hl : l.Pairwise (· < ·)) (hml : ∀ y, y ∈ l ↔ (f y).isSome = true) :
    wps g (pc c [.map (some mb)] * po mb (.map es clock)) (slices_Sorted_i cv (keysV c)) fun t => po mb (.map es clock) * own 1 t (l.map (Value.int .i64)) := by
  unfold slices_Sorted_i slices_Collect_i
  refine wps_assoc (wps_bind (slices_AppendSeq_spec hcv hm hv hN hN2) fun t => ?_)
  refine wps_bindpure ?_
  refine wps_exP fun zs => ?_
  simp only [← star_assoc]
  refine wps_prP fun hf => ?_
  have hz : zs.length ≤ N := hN zs hf.1 fun y hy => (hf.2 y).1 hy
  refine wps_sort rfl (by omega) (wps_pure ?_)
  rw [sorted_fin hf hl hml]
  exact Ent.refl _
end Go.Proofs.Ytldmeimebebllaa
namespace Go.Proofs.Ytldmeimebebllaa
open Go.Mo
set_option linter.unusedVariables false
variable {g : Fr} {cv : CV}
def zv (b : List Int) : List Value := b.map (Value.int .i64)
def intsP (s : Slc) (b : List Int) : HP := rsl 1 s (zv b)
instance (s : Slc) (b : List Int) : Pers (intsP s b) := by unfold intsP; infer_instance
instance (s : Slc) (b : List Int) : RdS 1 s (intsP s b) (zv b) := ⟨Ent.refl _⟩
instance (s : Slc) (b : List Int) : RdS 1 s (byt s b) (bv b) := ⟨Ent.refl _⟩
theorem ilen_of {H : HP} {s : Slc} {b : List Int} (h : Ent H (intsP s b)) : Ent H (pr (b.length = s.len)) := Ent.trans h (Ent.trans (rsl_len 1 s (zv b)) fun o ho => by
  have : (zv b).length = s.len * 1 := ho
  show b.length = s.len
  simpa [zv] using this)
theorem val_lookS {β : Type} {enc : β → Value} {z : β} {m : Nat} {j : Int} {f : Int → Option Value} {H H' : HP} [hp : PickM m H f H'] (c : Option β) (hc : f j = c.map enc) : Val g H (lookM enc z (some m) j) (match c with | some y => (y, true) | none => (z, false)) := by
  have := wps_lookS (hp := hp) (g := g) (enc := enc) (z := z) (k := fun y => pureM y) (Q := fun x => pr (x = match c with | some y => (y, true) | none => (z, false)) * H) (H := H) c hc (wps_pure (ent_pr rfl))
  exact this
def Rk.arm (R : Rk) (c : Int) : Rk := { R with count := maxI c (-1) }
theorem device_Rack_Arm_spec (rb : Nat) (R : Rk) (ds : Slc) (ps : List Nat) (c : Int) : wps g (rackP rb R ds ps) (device_Rack_Arm (ptr rb) c) (fun _ => rackP rb (R.arm c) ds ps) := by
  unfold device_Rack_Arm rackP
  repeat (first
    | (with_reducible refine wps_bindpure ?_)
    | (with_reducible refine wps_assoc ?_)
    | (with_reducible refine wps_nil ?_)
    | (with_reducible refine wps_stepAlloc fun _ => ?_)
    | (with_reducible refine wps_alloc fun _ => ?_)
    | (with_reducible refine wps_newO fun _ => ?_)
    | (refine wps_ld _ (by rfl) ?_)
    | (refine wps_ldG _ _ _ (by rfl) ?_)
    | (refine wps_ldA _ (by rfl) ?_)
    | (refine wps_ldI _ (by rfl) ?_)
    | (refine wps_ldGI _ _ _ (by rfl) ?_)
    | (refine wps_ldAI _ (by rfl) ?_)
    | (refine wps_st (by simp) ?_)
    | (refine wps_stA (by simp) (by simp [Value.oneCell']) ?_)
    | ((with_reducible apply wps_val); apply val_ite; rotate_left; refine fun (_ : ¬ _) => ?_; rotate_right; refine fun (_ : _ = true) => ?_)
    | ((with_reducible apply val_ite); rotate_left; refine fun (_ : ¬ _) => ?_; rotate_right; refine fun (_ : _ = true) => ?_)
    | (with_reducible refine wps_regionH ?_)
    | ((with_reducible apply wps_bindV); apply val_iteL; rotate_left; refine fun (_ : ¬ _) => ?_; rotate_right; refine fun (_ : _ = true) => ?_)
    | ((with_reducible apply val_iteL); rotate_left; refine fun (_ : ¬ _) => ?_; rotate_right; refine fun (_ : _ = true) => ?_)
    | (with_reducible exact wps_pure (ent_val rfl)))
  refine wps_pure ?_
  simp only [Rk.arm]
  repeat (first
    | (with_reducible exact ent_drop)
    | (with_reducible refine ent_pick ?_)
    | (refine ent_pickC (by rfl) ?_)
    | (refine ent_pickS (by rfl) ?_)
    | (refine ent_pickM (by rfl) ?_)
    | (refine ent_prx ?_ ?_; rotate_left)
    | (refine ent_prq ?_))
theorem device_Rack_Off_val (rb : Nat) (R : Rk) (ds : Slc) (ps : List Nat) : Val g (rackP rb R ds ps) (device_Rack_Off (ptr rb)) R.off := by
  unfold device_Rack_Off rackP
  repeat (first
    | (with_reducible refine wps_bindpure ?_)
    | (with_reducible refine wps_assoc ?_)
    | (with_reducible refine wps_nil ?_)
    | (with_reducible refine wps_stepAlloc fun _ => ?_)
    | (with_reducible refine wps_alloc fun _ => ?_)
    | (with_reducible refine wps_newO fun _ => ?_)
    | (refine wps_ld _ (by rfl) ?_)
    | (refine wps_ldG _ _ _ (by rfl) ?_)
    | (refine wps_ldA _ (by rfl) ?_)
    | (refine wps_ldI _ (by rfl) ?_)
    | (refine wps_ldGI _ _ _ (by rfl) ?_)
    | (refine wps_ldAI _ (by rfl) ?_)
    | (refine wps_st (by simp) ?_)
    | (refine wps_stA (by simp) (by simp [Value.oneCell']) ?_)
    | ((with_reducible apply wps_val); apply val_ite; rotate_left; refine fun (_ : ¬ _) => ?_; rotate_right; refine fun (_ : _ = true) => ?_)
    | ((with_reducible apply val_ite); rotate_left; refine fun (_ : ¬ _) => ?_; rotate_right; refine fun (_ : _ = true) => ?_)
    | (with_reducible refine wps_regionH ?_)
    | ((with_reducible apply wps_bindV); apply val_iteL; rotate_left; refine fun (_ : ¬ _) => ?_; rotate_right; refine fun (_ : _ = true) => ?_)
    | ((with_reducible apply val_iteL); rotate_left; refine fun (_ : ¬ _) => ?_; rotate_right; refine fun (_ : _ = true) => ?_)
    | (with_reducible exact wps_pure (ent_val rfl)))
def Rk.lErr (R : Rk) (k s : Int) : Int := if k < 0 ∨ k ≥ R.n ∨ s < 0 ∨ s ≥ R.ns then 11 else 0
def Rk.lst (R : Rk) (k s : Int) : List Int := if R.lErr k s = 0 then (R.dk k.toNat).lasts s.toNat else []
def secOf (im : List Int) (k : Nat) : List Int := (List.range 64).map fun i => im.getD (k * 64 + i) 0
def Dk.load (D : Dk) (im : List Int) : Dk := { D with lasts := fun s => secOf im s, cached := fun _ => none }
def Rk.load (R : Rk) (k : Int) (im : List Int) : Rk := if k < 0 ∨ k ≥ R.n then R else R.setD k.toNat ((R.dk k.toNat).load im)
end Go.Proofs.Ytldmeimebebllaa
