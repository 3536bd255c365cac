/-
  A part of the proof: what functions of the program do, a symbolic executor of the code with its proof, and closed runs.
-/
import Derived.Test.YtnmkienagpgnmaaGreatDoorExW0
import Derived.Test.YtnmkienagpgnmaaGreatDoorExW1
import Derived.Test.YtnmkienagpgnmaaGreatDoorExW2
import Derived.Test.YtnmkienagpgnmaaGreatDoorExW3
namespace Go.Ex
open Go.Proofs
open Go.Mo
set_option linter.unusedVariables false
def ξL (a0 a1 : Int) : Nat → Int
  | 0 => a0
  | _ => a1
theorem endT_t {ξ : Nat → Int} {ρ : Rho} {e : En} {σ : St} {e' : Ending} (h : endT e σ = true) (hx : NR ξ ρ e e') : e' = .returned (.bool true) := by
  unfold endT at h
  split at h
  · cases hx with | r hv => ?_
    rw [hv.b_inv]
  · cases h
theorem Kept.of_rel {P : Program} {ξ : Nat → Int} {ρ : Rho} {σ : St} {W w' : World} (h : Rel P (Kp.of W) ξ ρ σ w') : Kept W w' := by
  have hh : ∀ (i : Nat) ob, W.heap[i]? = some ob → w'.heap[i]? = some ob := fun i ob hi => h.frame i ob hi
  refine ⟨⟨h.os, h.out, fun i hi => ?_⟩, hh⟩
  rw [hh i _ (Array.getElem?_eq_getElem hi), Array.getElem?_eq_getElem hi]
  cases W.heap[i] with
  | cells c t fr => exact ⟨rfl, rfl, rfl, fun _ _ => rfl⟩
  | map es clock => exact .inr ⟨rfl, rfl⟩
  | _ => rfl
theorem body3 : ∃ c, Tryz.f3.body = some c := Option.isSome_iff_exists.1 (by kernel_rfl)
theorem case_ok {a b : Bd} {a0 a1 : Int} (ha : (∀ l, a.lo = some l → l ≤ a0) ∧ (∀ h, a.hi = some h → a0 ≤ h)) (hb : (∀ l, b.lo = some l → l ≤ a1) ∧ (∀ h, b.hi = some h → a1 ≤ h))
    (h : (go (env1 (bdL a b) smL) 20000).call 3 [.w (.x 0), .w (.x 1)] σ0 endT = true) (W : World) : Calls Tryz.prog 3 #[.int .i64 a0, .int .i64 a1] W fun e W' => e = .returned (.bool true) ∧ Kept W W' := by
  have hbd : BdOK (bdL a b) (ξL a0 a1) := fun j => by
    cases j with
    | zero => exact ha
    | succ j => exact hb
  have key := sound (E_ok (ξ := ξL a0 a1) hbd smL_ok) (W := Kp.of W) (R := fun e W' => e = .returned (.bool true) ∧ Kept W W') (us := [.int .i64 a0, .int .i64 a1]) (Rel.start W) (.cons (.x 0) (.cons (.x 1) .nil)) h
    (fun e σ' ρ' e' w' hk _ hR hx => ⟨endT_t hk hx, Kept.of_rel hR⟩)
  obtain ⟨c3, hb3⟩ := body3
  rcases key with ⟨_, h⟩ | ⟨v, w', h, _⟩
  · exact h
  · rw [enter_text (fn := Tryz.f3) (by kernel_rfl) hb3 (by kernel_rfl)] at h
    cases h
theorem walkE (a0 a1 : Int) (W : World) : Calls Tryz.prog 3 #[.int .i64 a0, .int .i64 a1] W fun e W' => e = .returned (.bool true) ∧ Kept W W' := by
  have hk : a0 ≤ 0 ∨ (1 ≤ a0 ∧ a0 ≤ 7) ∨ 8 ≤ a0 := by omega
  have hn : a1 ≤ -1 ∨ (0 ≤ a1 ∧ a1 ≤ 3) ∨ (4 ≤ a1 ∧ a1 ≤ 13) ∨ 14 ≤ a1 := by omega
  rcases hk with hk | hk | hk <;> rcases hn with hn | hn | hn | hn
  · exact case_ok ⟨fun l h => (by cases h), fun l h => (by cases h; omega)⟩ ⟨fun l h => (by cases h), fun l h => (by cases h; omega)⟩ runW00 W
  · exact case_ok ⟨fun l h => (by cases h), fun l h => (by cases h; omega)⟩ ⟨fun l h => (by cases h; omega), fun l h => (by cases h; omega)⟩ runW01 W
  · exact case_ok ⟨fun l h => (by cases h), fun l h => (by cases h; omega)⟩ ⟨fun l h => (by cases h; omega), fun l h => (by cases h; omega)⟩ runW02 W
  · exact case_ok ⟨fun l h => (by cases h), fun l h => (by cases h; omega)⟩ ⟨fun l h => (by cases h; omega), fun l h => (by cases h)⟩ runW03 W
  · exact case_ok ⟨fun l h => (by cases h; omega), fun l h => (by cases h; omega)⟩ ⟨fun l h => (by cases h), fun l h => (by cases h; omega)⟩ runW10 W
  · exact case_ok ⟨fun l h => (by cases h; omega), fun l h => (by cases h; omega)⟩ ⟨fun l h => (by cases h; omega), fun l h => (by cases h; omega)⟩ runW11 W
  · exact case_ok ⟨fun l h => (by cases h; omega), fun l h => (by cases h; omega)⟩ ⟨fun l h => (by cases h; omega), fun l h => (by cases h; omega)⟩ runW12 W
  · exact case_ok ⟨fun l h => (by cases h; omega), fun l h => (by cases h; omega)⟩ ⟨fun l h => (by cases h; omega), fun l h => (by cases h)⟩ runW13 W
  · exact case_ok ⟨fun l h => (by cases h; omega), fun l h => (by cases h)⟩ ⟨fun l h => (by cases h), fun l h => (by cases h; omega)⟩ runW20 W
  · exact case_ok ⟨fun l h => (by cases h; omega), fun l h => (by cases h)⟩ ⟨fun l h => (by cases h; omega), fun l h => (by cases h; omega)⟩ runW21 W
  · exact case_ok ⟨fun l h => (by cases h; omega), fun l h => (by cases h)⟩ ⟨fun l h => (by cases h; omega), fun l h => (by cases h; omega)⟩ runW22 W
  · exact case_ok ⟨fun l h => (by cases h; omega), fun l h => (by cases h)⟩ ⟨fun l h => (by cases h; omega), fun l h => (by cases h)⟩ runW23 W
end Go.Ex
