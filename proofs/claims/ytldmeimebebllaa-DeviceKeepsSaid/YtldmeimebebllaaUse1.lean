/-
  a part of the proof: what functions of the program do, in a separation logic.
-/
import Derived.Test.YtldmeimebebllaaBnk2
namespace Go.Proofs.Ytldmeimebebllaa
open Go.Mo
set_option linter.unusedVariables false
variable {g : Fr}
theorem bv_len (b : List Int) : (bv b).length = b.length := by simp [bv]
theorem bv_get {b : List Int} {n : Nat} {v : Int} (h : b[n]? = some v) : (bv b)[n]? = some (Value.int .u8 v) := by simp [bv, h]
theorem ref00_SameBytes_val {H : HP} {a b : Slc} {x y : List Int} (ha : Ent H (byt a x)) (hb : Ent H (byt b y)) (hx : x.length < 4611686018427387904) : Val g H (ref00_SameBytes a b) (decide (x = y)) := by
  unfold ref00_SameBytes
  refine wps_fact (len_of ha) fun hla => wps_fact (len_of hb) fun hlb => ?_
  refine wps_ite (fun hne => ?_) (fun hne => ?_)
  · refine wps_pure (ent_val ?_)
    have hne' : ¬ a.len = b.len := by
      have : ¬ (a.len : Int) = b.len := by simpa using hne
      omega
    have : ¬ x = y := fun e => hne' (by rw [← hla, ← hlb, e])
    simp [this]
  · have heq : a.len = b.len := by
      have : (a.len : Int) = b.len := by simpa using hne
      omega
    refine wps_loop (fun i => ex fun n : Nat => pr (i = (n : Int) ∧ n ≤ x.length ∧ x.take n = y.take n) * H) (fun i => (x.length - i).toNat) ?_ fun i => ?_
    · exact ent_ex 0 (ent_prr ⟨rfl, by omega, by simp⟩ (Ent.refl _))
    · refine wps_ex fun n => wps_pr fun ⟨hi, hn, ht⟩ => ?_
      refine wps_ite (fun hc => ?_) (fun hc => ?_)
      · have hlt : n < x.length := by simp only [decide_eq_true_eq] at hc; omega
        have hlt2 : n < y.length := by omega
        refine wps_regionH ?_
        refine wps_rdI n x[n] ha (Ent.refl _) hi (bv_get (List.getElem?_eq_getElem hlt)) ?_
        refine wps_rdI n y[n] hb (Ent.refl _) hi (bv_get (List.getElem?_eq_getElem hlt2)) ?_
        refine wps_ite (fun hd => ?_) (fun hd => ?_)
        · have hd' : ¬ x[n] = y[n] := by simpa using hd
          refine wps_mapR (wps_pure (ent_prr ?_ (Ent.refl _)))
          have : ¬ x = y := fun e => hd' (by subst e; rfl)
          simp [this]
        · have hd' : x[n] = y[n] := by simpa using hd
          refine wps_pure (ent_prr (by rw [range_add1 hi (by omega)]; omega) (ent_ex (n + 1) (ent_prr ⟨range_add1 hi (by omega), by omega, ?_⟩ (Ent.refl _))))
          rw [List.take_add_one, List.take_add_one, ht, List.getElem?_eq_getElem hlt, List.getElem?_eq_getElem hlt2, hd']
      · have hne : n = x.length := by simp only [decide_eq_true_eq] at hc; omega
        refine wps_mapR (wps_pure (ent_prr ?_ (Ent.refl _)))
        have : x = y := by
          rw [hne, List.take_length] at ht
          rw [ht, List.take_of_length_le (by omega)]
        simp [this]
theorem bank_Join_spec (bb rb : Nat) (q m k : G3) : wps g (bnk bb rb q m) (bank_Bank_Join (ptr bb) k) (fun _ => bnk bb rb q (if FitsB q k then k else m)) := by
  unfold bank_Bank_Join
  repeat (first
    | (with_reducible refine wps_val (bank_fits_val _ _) ?_)
    | (with_reducible refine wps_stepV (bank_fits_val _ _) ?_)
    | (with_reducible refine wps_bindpure ?_)
    | (with_reducible refine wps_assoc ?_)
    | (with_reducible refine wps_nil ?_)
    | (with_reducible refine wps_stepAlloc fun _ => ?_)
    | (with_reducible refine wps_alloc fun _ => ?_)
    | (with_reducible refine wps_newO fun _ => ?_)
    | (refine wps_ld _ (by rfl) ?_)
    | (refine wps_ldG _ _ _ (by rfl) ?_)
    | (refine wps_ldA _ (by rfl) ?_)
    | (refine wps_ldI _ (by rfl) ?_)
    | (refine wps_ldGI _ _ _ (by rfl) ?_)
    | (refine wps_ldAI _ (by rfl) ?_)
    | (refine wps_st (by simp) ?_)
    | (refine wps_stA (by simp) (by simp [Value.oneCell']) ?_)
    | ((with_reducible apply wps_val); apply val_ite; rotate_left; refine fun (_ : ¬ _) => ?_; rotate_right; refine fun (_ : _ = true) => ?_)
    | ((with_reducible apply val_ite); rotate_left; refine fun (_ : ¬ _) => ?_; rotate_right; refine fun (_ : _ = true) => ?_)
    | (with_reducible refine wps_regionH ?_)
    | ((with_reducible apply wps_bindV); apply val_iteL; rotate_left; refine fun (_ : ¬ _) => ?_; rotate_right; refine fun (_ : _ = true) => ?_)
    | ((with_reducible apply val_iteL); rotate_left; refine fun (_ : ¬ _) => ?_; rotate_right; refine fun (_ : _ = true) => ?_)
    | (with_reducible exact wps_pure (ent_val rfl)))
  by_cases h : FitsB q k = true
  · simp only [h, if_true]
    repeat (first
      | (with_reducible refine wps_bindpure ?_)
      | (with_reducible refine wps_assoc ?_)
      | (with_reducible refine wps_nil ?_)
      | (with_reducible refine wps_stepAlloc fun _ => ?_)
      | (with_reducible refine wps_alloc fun _ => ?_)
      | (with_reducible refine wps_newO fun _ => ?_)
      | (refine wps_ld _ (by rfl) ?_)
      | (refine wps_ldG _ _ _ (by rfl) ?_)
      | (refine wps_ldA _ (by rfl) ?_)
      | (refine wps_ldI _ (by rfl) ?_)
      | (refine wps_ldGI _ _ _ (by rfl) ?_)
      | (refine wps_ldAI _ (by rfl) ?_)
      | (refine wps_st (by simp) ?_)
      | (refine wps_stA (by simp) (by simp [Value.oneCell']) ?_)
      | ((with_reducible apply wps_val); apply val_ite; rotate_left; refine fun (_ : ¬ _) => ?_; rotate_right; refine fun (_ : _ = true) => ?_)
      | ((with_reducible apply val_ite); rotate_left; refine fun (_ : ¬ _) => ?_; rotate_right; refine fun (_ : _ = true) => ?_)
      | (with_reducible refine wps_regionH ?_)
      | ((with_reducible apply wps_bindV); apply val_iteL; rotate_left; refine fun (_ : ¬ _) => ?_; rotate_right; refine fun (_ : _ = true) => ?_)
      | ((with_reducible apply val_iteL); rotate_left; refine fun (_ : ¬ _) => ?_; rotate_right; refine fun (_ : _ = true) => ?_)
      | (with_reducible exact wps_pure (ent_val rfl)))
    exact wps_pure (Ent.trans (ent_right _ _) (Ent.of_eq rfl))
  · simp only [h, if_false, Bool.false_eq_true]
    exact wps_pure ent_drop
end Go.Proofs.Ytldmeimebebllaa
