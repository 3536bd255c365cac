/-
  a part of the proof: what functions of the program do, in a separation logic.
-/
import Derived.Test.YtldmeimebebllaaBnk5
namespace Go.Proofs.Ytldmeimebebllaa
open Go.Mo
set_option linter.unusedVariables false
/-- no power goes; no disk fails any more; those of f have -/
structure Settled (R : Rk) (f : Nat → Bool) : Prop where
  off : R.off = false
  count : R.count = -1
  failed : ∀ j, (R.dk j).failed = f j
  counts : ∀ j, (R.dk j).count = -1
theorem tickD {D : Dk} (h : D.count = -1) : D.tick = D := by
  obtain ⟨l, c, fl, k⟩ := D
  simp only at h
  subst h
  have hm : maxI (w64 (-1 - 1)) (-1) = -1 := by rw [w64m2]; rfl
  simp only [Dk.tick, hm]
  cases fl <;> rfl
theorem Settled.tick {R : Rk} {f : Nat → Bool} (h : Settled R f) : R.ticked = R := by
  have hdk : (fun j => (R.dk j).tick) = R.dk := by
    funext j; exact tickD (h.counts j)
  have hm : maxI (w64 (R.count - 1)) (-1) = R.count := by rw [h.count, w64m2]; rfl
  have hc : ¬ R.count = 0 := by rw [h.count]; omega
  simp only [Rk.ticked, if_neg hc, hdk, hm]
theorem Settled.gate {R : Rk} {f : Nat → Bool} (h : Settled R f) {k s : Int} (hk : 0 ≤ k ∧ k < R.n) (hs : 0 ≤ s ∧ s < R.ns) : R.gate k s 64 = if f k.toNat then 13 else 0 := by
  unfold Rk.gate
  have hr : ¬ (k < 0 ∨ k ≥ R.n ∨ s < 0 ∨ s ≥ R.ns) := by omega
  rw [if_neg (by simp [h.off]), if_neg hr, if_neg (by omega), if_neg (by rw [h.count]; omega), h.tick, h.failed]
theorem Settled.setD {R : Rk} {f : Nat → Bool} (h : Settled R f) {k : Nat} {D : Dk} (hf : D.failed = f k) (hc : D.count = -1) : Settled (R.setD k D) f := by
  refine ⟨h.off, h.count, fun j => ?_, fun j => ?_⟩
  · simp only [Rk.setD]; split
    · rename_i e; rw [e]; exact hf
    · exact h.failed j
  · simp only [Rk.setD]; split
    · exact hc
    · exact h.counts j
theorem gated_in {R : Rk} (ho : R.off = false) {k s : Int} (hk : 0 ≤ k ∧ k < R.n) (hs : 0 ≤ s ∧ s < R.ns) : R.gated k s 64 = R.ticked := by
  rw [Rk.gated, if_neg]
  rintro (h | h | h)
  · rw [ho] at h; cases h
  · omega
  · exact h rfl
/-- a flush leaves that as it is -/
theorem Settled.flush {R R1 : Rk} {f : Nat → Bool} {k : Int} (h : Settled R1 f) (hg : R.gated k 0 64 = R1) : Settled (R.flush k) f := by
  unfold Rk.flush
  rw [hg]
  split
  · exact h.setD (h.failed _) (h.counts _)
  · exact h
theorem flush_n {R : Rk} (k : Int) : (R.flush k).n = R.n ∧ (R.flush k).ns = R.ns := by
  have hg : (R.gated k 0 64).n = R.n ∧ (R.gated k 0 64).ns = R.ns := by
    unfold Rk.gated Rk.ticked
    split
    · exact ⟨rfl, rfl⟩
    · split <;> exact ⟨rfl, rfl⟩
  unfold Rk.flush
  split
  · exact hg
  · exact hg
theorem Settled.flushL {f : Nat → Bool} : ∀ {xs : List Int} {R : Rk}, Settled R f → (∀ d ∈ xs, 0 ≤ d ∧ d < R.n) → 0 < R.ns →
    (flushL xs R).2 = 0 ∧ Settled (flushL xs R).1 f ∧ (flushL xs R).1.n = R.n ∧ (flushL xs R).1.ns = R.ns
  | [], R, h, _, _ => ⟨rfl, h, rfl, rfl⟩
  | d :: xs, R, h, hx, hs => by
    have hd := hx d (by simp)
    have hg := h.gate hd (s := 0) (by omega)
    have h12 : ¬ R.gate d 0 64 = 12 := by rw [hg]; split <;> omega
    simp only [Proofs.Ytldmeimebebllaa.flushL, if_neg h12]
    have hf := h.flush (R := R) (k := d) (by rw [gated_in h.off hd (by omega), h.tick])
    have hn := flush_n (R := R) d
    have ih := Settled.flushL (xs := xs) hf (by rw [hn.1]; exact fun d' hd' => hx d' (by simp [hd'])) (by rw [hn.2]; exact hs)
    rw [hn.1, hn.2] at ih
    exact ih
/-- about to fail at the next call -/
structure Armed (R : Rk) (f : Nat → Bool) : Prop where
  off : R.off = false
  count : R.count = -1
  failed : ∀ j, (R.dk j).failed = false
  counts : ∀ j, (R.dk j).count = if f j then 0 else -1
theorem Armed.tick {R : Rk} {f : Nat → Bool} (h : Armed R f) : Settled R.ticked f := by
  have hc : ¬ R.count = 0 := by rw [h.count]; omega
  have hm : maxI (w64 (R.count - 1)) (-1) = -1 := by rw [h.count, w64m2]; rfl
  simp only [Rk.ticked, if_neg hc, hm]
  refine ⟨h.off, rfl, fun j => ?_, fun j => ?_⟩
  · simp only [h.failed, h.counts]
    cases f j <;> rfl
  · simp only [h.counts]
    have e1 : w64 (-1 - 1) = -2 := w64m2
    have e2 : w64 (0 - 1) = -1 := w64_id (by omega) (by omega)
    cases f j
    · show maxI (w64 (-1 - 1)) (-1) = -1
      rw [e1]; rfl
    · show maxI (w64 (0 - 1)) (-1) = -1
      rw [e2]; rfl
theorem Armed.flushL {f : Nat → Bool} {d : Int} {xs : List Int} {R : Rk} (h : Armed R f) (hx : ∀ d' ∈ d :: xs, 0 ≤ d' ∧ d' < R.n) (hs : 0 < R.ns) :
    (flushL (d :: xs) R).2 = 0 ∧ Settled (flushL (d :: xs) R).1 f ∧ (flushL (d :: xs) R).1.n = R.n ∧ (flushL (d :: xs) R).1.ns = R.ns := by
  have hd := hx d (by simp)
  have hgd := gated_in h.off hd (s := 0) (by omega)
  have h12 : ¬ R.gate d 0 64 = 12 := by
    unfold Rk.gate
    have hr : ¬ (d < 0 ∨ d ≥ R.n ∨ (0 : Int) < 0 ∨ (0 : Int) ≥ R.ns) := by omega
    rw [if_neg (by simp [h.off]), if_neg hr, if_neg (by omega), if_neg (by rw [h.count]; omega)]
    split <;> omega
  simp only [Proofs.Ytldmeimebebllaa.flushL, if_neg h12]
  have hf := h.tick.flush (R := R) (k := d) hgd
  have hn := flush_n (R := R) d
  have ih := Settled.flushL (xs := xs) hf (by rw [hn.1]; exact fun d' hd' => hx d' (by simp [hd'])) (by rw [hn.2]; exact hs)
  rw [hn.1, hn.2] at ih
  exact ih
end Go.Proofs.Ytldmeimebebllaa
