/-
  slices.Sort in the logic.
-/
import Derived.Test.YtldmeimebebllaaMoSL4
import Derived.Shelf.SortM.Plain
import Derived.Shelf.SortM.SortNone
namespace Go.Mo
open Go.Sort
set_option linter.unusedVariables false

/-! ## slices.Sort at ints -/
def sorted (zs : List Int) : List Int := zs.mergeSort fun x y => decide (x ≤ y)
def sortM (s : Slc) : M Unit := fun Q w =>
  (s.len = 0 → Q () w) ∧ (s.len ≠ 0 → ∃ (blk off : Nat) (zs : List Int), s.base = some ⟨blk, off, none⟩ ∧ zs.length = s.len ∧ zs.length < 4611686018427387904 ∧ Holds (Value.int .i64) w blk off zs.toArray ∧ blk < w.heap.size ∧
    ∀ n os, Q () (grow (putRow (Value.int .i64) (Go.Sort.ahead w n) blk off (sorted zs).toArray) os))
theorem sortM_sim {P : Program} {ρ : Go.Shelf.Ren} (L : Go.Proofs.SlLaysM.n5 P ρ) (s : Slc) (Qf : Unit → World → Prop) (w : World) (hm : sortM s Qf w) : Calls P (ρ.f 5) #[.slice s.base s.len s.cap] w (RetPost (fun _ : Unit => .tuple #[]) Qf) := by
  obtain ⟨base, len, cap⟩ := s
  by_cases h0 : len = 0
  · subst h0
    refine (Go.Proofs.AnyM.slices_Sort_int_none L base cap w).mono fun e w' ⟨he, hw⟩ => ?_
    subst he hw
    exact ⟨(), rfl, hm.1 rfl⟩
  · obtain ⟨blk, off, zs, hb, hl, hz, hh, hlt, hq⟩ := hm.2 h0
    simp only at hb hl
    subst hb hl
    refine (Go.Proofs.AnyM.slices_Sort_int L blk off cap zs w hh hlt hz).mono fun e w' ⟨he, n, os, hw⟩ => ?_
    subst he hw
    exact ⟨(), rfl, hq n os⟩
theorem own_grow {w w' : World} {a : Hp} {g : Fr} (ho : Own w a g) (hh : ∀ (i : Nat) ob, w.heap[i]? = some ob → w'.heap[i]? = some ob) (hsm : w'.os = w.os ∧ w'.output = w.output) : Own w' a g :=
  ⟨ho.1, fun x ob r h => hh x ob (ho.2.1 x ob r h), fun x ob r h => hh x ob (ho.2.2.1 x ob r h), ⟨hsm.1.trans ho.2.2.2.os, hsm.2.trans ho.2.2.2.out⟩⟩
theorem sorted_len (zs : List Int) : (sorted zs).length = zs.length := by simp [sorted]
theorem putRow_heap {w : World} {b : Nat} {cs rest : List Value} {e : TypeId} {zs zs' : List Int} (hb : w.heap[b]? = some (.cells (cs ++ rest).toArray e)) (hcs : cs = zs.map (Value.int .i64)) (hl : zs'.length = zs.length) (y : Nat) :
    (putRow (Value.int .i64) w b 0 zs'.toArray).heap[y]? = if y = b then some (.cells (zs'.map (Value.int .i64) ++ rest).toArray e) else w.heap[y]? := by
  simp only [putRow, mapBlock]
  rw [Array.getElem?_modify]
  by_cases hy : y = b
  · subst hy
    simp only [if_true]
    rw [hb]
    simp only [Option.map_some, onCells]
    congr 2
    apply Array.ext_getElem?
    intro k
    simp only [putCells, Array.getElem?_mapIdx, List.getElem?_toArray, List.size_toArray, Nat.zero_le, Nat.zero_add, true_and, Nat.sub_zero]
    by_cases hk : k < zs'.length
    · rw [List.getElem?_append_left (by rw [hcs, List.length_map]; omega), List.getElem?_append_left (by simpa using hk)]
      subst hcs
      rw [List.getElem?_map, List.getElem?_map, List.getElem?_eq_getElem (by omega), List.getElem?_eq_getElem hk]
      simp [hk]
    · rw [List.getElem?_append_right (by simp [hcs]; omega), List.getElem?_append_right (by simp; omega)]
      simp only [hcs, List.length_map, ← hl]
      cases rest[k - zs'.length]? with
      | none => rfl
      | some v => simp [hk]
  · rw [if_neg (fun e => hy e.symm), if_neg hy]
section
variable {α : Type} {g : Fr} {H H' : HP} {Q : α → HP}
theorem wps_sort {k : Unit → M α} {s : Slc} {zs : List Int} (hH : H = H' * own 1 s (zs.map (Value.int .i64))) (hz : zs.length < 4611686018427387904)
    (h : wps g (H' * own 1 s ((sorted zs).map (Value.int .i64))) (k ()) Q) : wps g H (bindM (sortM s) k) Q := fun w a Qf ho ha hq => by
  rw [hH] at ha
  obtain ⟨base, len, cap⟩ := s
  have hlen : zs.length = len ∧ len ≤ cap := by
    have := own_len _ _ _ a (ent_right _ _ a ha)
    simpa [pr] using this
  refine ⟨fun h0 => ?_, fun h0 => ?_⟩
  · simp only at h0
    have : zs = [] := List.eq_nil_of_length_eq_zero (by omega)
    subst this
    exact h w a Qf ho (by simpa [sorted] using ha) hq
  · simp only at h0
    cases base with
    | none =>
      have hx := ent_right _ _ a ha
      exact absurd hx.1 h0
    | some ad =>
      have hown : ∀ zs : List Int, own 1 ⟨some ad, len, cap⟩ (zs.map (Value.int .i64)) = ex fun rest => pr (ad = ⟨ad.block, 0, none⟩ ∧ (zs.map (Value.int .i64)).length = len * 1 ∧ (zs.map (Value.int .i64)).length + rest.length = cap * 1 ∧ len ≤ cap) * pc ad.block (zs.map (Value.int .i64) ++ rest) := fun _ => rfl
      rw [hown, star_ex] at ha
      obtain ⟨rest, ha⟩ := ha
      simp only at ha
      rw [star_left_comm] at ha
      obtain ⟨h1, h2, h3, h4⟩ := ent_left _ _ a ha
      have ha := ent_right _ _ a ha
      obtain ⟨a2, a1, hd, hl0, hx2, e, hx1⟩ := ha
      have hl' : Hp.le (Hp.un a1 a2) a := by rw [← Hp.un_comm hd]; exact hl0
      have hb : w.heap[ad.block]? = some (.cells (zs.map (Value.int .i64) ++ rest).toArray e) := by
        obtain ⟨r, h3, _⟩ := hl' ad.block (.cells (zs.map (Value.int .i64) ++ rest).toArray e) false (by simp [Hp.un, hx1])
        exact ho.2.1 ad.block _ _ h3
      refine ⟨ad.block, 0, zs, by rw [h1], hlen.1, hz, fun j hj => ?_, (Array.getElem?_eq_some_iff.1 hb).1, fun n os => ?_⟩
      · have hj' : j < zs.length := by simpa using hj
        refine ⟨?_, by simp [World.frozen?, hb]⟩
        rw [Nat.zero_add]
        refine cell_of hb ?_
        rw [List.getElem?_append_left (by simpa using hj'), List.getElem?_map, List.getElem?_eq_getElem hj']
        simp [hj']
      · have hs := own_set (w := w) ho (Hp.dis_symm hd) hl' hx1 (putRow (Value.int .i64) (Go.Sort.ahead w n) ad.block 0 (sorted zs).toArray)
          (ob' := .cells ((sorted zs).map (Value.int .i64) ++ rest).toArray e) (fun y => putRow_heap (w := Go.Sort.ahead w n) (by simpa using hb) rfl (sorted_len zs) y) ⟨rfl, rfl⟩ (fun _ _ _ h => by cases h; rfl)
        have hg := own_grow (w' := grow (putRow (Value.int .i64) (Go.Sort.ahead w n) ad.block 0 (sorted zs).toArray) os) hs.1 (fun i ob hi => by
          have := (Array.getElem?_eq_some_iff.1 hi).1
          simp only [grow]
          rw [Array.getElem?_append_left this]; exact hi) ⟨rfl, rfl⟩
        refine h _ _ Qf hg ?_ hq
        rw [hown, star_ex]
        refine ⟨rest, ?_⟩
        show HP.p (H' * (pr _ * pc _ _)) _
        rw [star_left_comm]
        refine ent_pr ⟨h1, by simpa [sorted_len] using h2, by simpa [sorted_len] using h3, h4⟩ _ ⟨a2, _, hs.2, Hp.le_refl _, hx2, e, by simp⟩
end
end Go.Mo
