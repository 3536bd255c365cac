/-
  The statement of 'StripeTorn': it returns true for every input, and the input reads as it did.
-/
import Derived.Test.YtldmeimebebllaaRows
import Derived.ProofKit
import Derived.OpenShut
import Derived.Lib.SmallJoins
import Derived.ChangeSlices
import Derived.Test.YtldmeimebebllaaPart5






namespace Go.Proofs.Ytldmeimebebllaa.stripeTorn
open Go.ChangeShapes Go.WideShapes Go.ChangeAt Go.RowKit Go.Joins Go.Mo
set_option linter.unusedVariables false

theorem own : ownKnob Try.prog.godebug = none := by kernel_rfl
theorem kids : Kids Try.prog (· < Try.prog.types.size) := kids_rows (by kernel_rfl) (by kernel_rfl)
theorem fulls : ∀ t e, t < Try.prog.types.size → Try.prog.underlying t = some (.slice e) → 0 < Try.prog.cellsOf e := slices_full_of Try.prog (by kernel_rfl)
theorem cells3 : Try.prog.cellsOf 3 = 1 := by kernel_rfl
theorem cells70E : Try.prog.cellsOf 78 = 3 := by kernel_rfl
theorem cells5 : Try.prog.cellsOf 5 = 1 := by kernel_rfl
theorem cells46 : Try.prog.cellsOf 46 = 1 := by kernel_rfl
theorem cells33 : Try.prog.cellsOf 33 = 1 := by kernel_rfl
theorem bytes5 : 0 < Try.prog.bytesOf 5 := of_decide_eq_true (by kernel_rfl)
theorem bytes3 : 0 < Try.prog.bytesOf 3 := of_decide_eq_true (by kernel_rfl)

theorem walk (a0 : Slc) (b0 : List BlkA) (a1 : Slc) (b1 : List BlkA) (a2 : Int) (a3 : Slc) (b3 : List Int) (W : World) (hb3 : ∀ n ∈ b3, (Lit.int .i64 n).wf = true) (hw2 : (Lit.int .i64 a2).wf = true) (hH : (blocksP a0 b0 * blocksP a1 b1 * intsP a3 b3).p (full W)) :
    Calls Try.prog 19 #[.slice a0.base a0.len a0.cap, .slice a1.base a1.len a1.cap, .int .i64 a2, .slice a3.base a3.len a3.cap] W fun e W' => e = .returned (.bool true) ∧ Kept W W' :=
  calls_law (law07_StripeTorn_sim a0 a1 a2 a3 _ W (wps_run (H := blocksP a0 b0 * blocksP a1 b1 * intsP a3 b3) (fun g => law07_StripeTorn_spec disksOk rowsOk keysOk a0 b0 a1 b1 a2 (wf_i64 hw2).2 a3 b3) W hH))

set_option maxRecDepth 100000 in
theorem lifted (os : Os) (started : os.Started) (H : Type) (enc : TypeId × Value → H) :
    ReturnsInHanded {} Try.checked os 19 .any (Rows.stripeTornSpec.pre6 enc Try.prog Try.f19 Rows.stripeTornRow.domain false) (Rows.stripeTornSpec.post enc Try.prog Try.f19 false true false false) := by
  refine returnsInHanded_of_change_sized (C := Try.checked) own started (by kernel_rfl) Try.func19
    (ChangeSpec.witness6 (enc := enc) (C := Try.checked) false ⟨#[], #[.slice none 0 0, .slice none 0 0, .int .i64 0, .slice none 0 0], []⟩ 8 (by kernel_rfl) (by kernel_rfl) (by kernel_rfl) (by kernel_rfl)) ?_
  intro W base args ds gs before hval0 hW hcnd hsz _
  have hval : ∀ (j : Nat) t v, Try.f19.params[j]? = some t → args[j]? = some v → Value.okWide Try.prog W .any base t v := hval0
  have hW' := hW
  obtain ⟨p, q, hA0, hV, rfl, hfz, hnd⟩ := hW
  have hlt := hW'.lt
  have hA : DataW.TrodAll enc Try.prog W 0 (fun _ => true) true Try.f19.params.toList args.toList ds p := hA0
  rw [Try.params19] at hA hval
  obtain ⟨v0, vs0, d0, ds0, p0, q0, hargs, rfl, rfl, h0, r0⟩ := trodAll_cons hA
  obtain ⟨v1, vs1, d1, ds1, p1, q1, rfl, rfl, rfl, h1, r1⟩ := trodAll_cons r0
  obtain ⟨v2, vs2, d2, ds2, p2, q2, rfl, rfl, rfl, h2, r2⟩ := trodAll_cons r1
  obtain ⟨v3, vs3, d3, ds3, p3, q3, rfl, rfl, rfl, h3, r3⟩ := trodAll_cons r2
  obtain ⟨rfl, rfl, rfl⟩ := trodAll_nil r3
  obtain rfl : args = #[v0, v1, v2, v3] := by cases args; simp_all
  obtain ⟨rfl, rfl⟩ := trodVars_none hV
  obtain ⟨s0, b0, rfl, hp0⟩ : ∃ (s : Slc) (l : List BlkA), v0 = .slice s.base s.len s.cap ∧ (blocksP s l).p (full W) := by
    obtain ⟨sa, sl, sc, rfl⟩ := okWide_slice Try.underlying70 (hval 0 70 v0 rfl rfl)
    obtain ⟨fu, hfu⟩ := h0
    obtain ⟨s, l, hcs, hp⟩ := open_blocks Try.underlying70 cells70E Try.underlying78 ⟨rfl, rfl, rfl⟩ ⟨cells3, cells3, cells46⟩ ⟨Try.underlying3, Try.underlying3⟩ ⟨Try.underlying46, Try.underlying5, cells5, bytes5⟩ hfu (sized_arg hsz (j := 0) rfl rfl)
    have hcs' : Value.slice sa sl sc = .slice s.base s.len s.cap := by simpa [Value.cells] using hcs
    exact ⟨s, l, hcs', hp⟩
  obtain ⟨s1, b1, rfl, hp1⟩ : ∃ (s : Slc) (l : List BlkA), v1 = .slice s.base s.len s.cap ∧ (blocksP s l).p (full W) := by
    obtain ⟨sa, sl, sc, rfl⟩ := okWide_slice Try.underlying70 (hval 1 70 v1 rfl rfl)
    obtain ⟨fu, hfu⟩ := h1
    obtain ⟨s, l, hcs, hp⟩ := open_blocks Try.underlying70 cells70E Try.underlying78 ⟨rfl, rfl, rfl⟩ ⟨cells3, cells3, cells46⟩ ⟨Try.underlying3, Try.underlying3⟩ ⟨Try.underlying46, Try.underlying5, cells5, bytes5⟩ hfu (sized_arg hsz (j := 1) rfl rfl)
    have hcs' : Value.slice sa sl sc = .slice s.base s.len s.cap := by simpa [Value.cells] using hcs
    exact ⟨s, l, hcs', hp⟩
  obtain ⟨a2, rfl, _, _, w2⟩ := open_int Try.underlying3 (hval 2 3 v2 rfl rfl) h2
  obtain ⟨s3, b3, rfl, hb3, hp3⟩ : ∃ (s : Slc) (b : List Int), v3 = .slice s.base s.len s.cap ∧ (∀ n ∈ b, (Lit.int .i64 n).wf = true) ∧ (intsP s b).p (full W) := by
    obtain ⟨sa, sl, sc, rfl⟩ := okWide_slice Try.underlying33 (hval 3 33 v3 rfl rfl)
    obtain ⟨fu, hfu⟩ := h3
    rcases open_ints Try.underlying33 Try.underlying3 cells3 hfu with ⟨hcs, hx⟩ | ⟨a, len, cap, zs, hcs, hba, hle, hcap, hzl, hx, hcell, hwf⟩
    · have hcs' : Value.slice sa sl sc = .slice none 0 0 := by simpa [Value.cells] using hcs
      cases hcs'
      exact ⟨⟨none, 0, 0⟩, [], rfl, by simp, ints_full_nil W⟩
    · have hcs' : Value.slice sa sl sc = .slice (some a) len cap := by simpa [Value.cells] using hcs
      have hzl' : zs.length = cap := by simpa using hzl
      cases hcs'
      exact ⟨⟨some a, _, _⟩, zs.take _, rfl, fun n hn => hwf n (List.mem_of_mem_take hn), ints_full hle hzl' hcell⟩
  refine (walk s0 b0 s1 b1 a2 s3 b3 W hb3 w2 (full_both (full_both hp0 hp1) hp3)).mono fun e W' ⟨he, hg⟩ => ?_
  subst he
  exact ⟨_, rfl, post_of_kept (pv := []) hW' (fun _ _ _ => trodAll_cons_mk (shut_bool Try.underlying4 _) trodAll_mk0)
    (fun sp hsp => args_again hg kids fulls (by rw [Try.params19]; decide) hA0 (fun p hp => hsp p (by simpa using hp)) (fun p hp => hlt p (by simpa using hp))) (fun _ _ => rfl) rfl
    hg (ok_one (by kernel_rfl) rfl (okWide_bool_mk Try.underlying4 _))⟩

theorem over : Rows.stripeTornRow.holds Try.pinned (OpenSpec.ofChange Rows.stripeTornSpec) :=
  OpenClaim.holds_of_wide 19 Try.f19 rfl rfl rfl rfl rfl rfl rfl ⟨rfl, rfl, rfl, rfl, rfl⟩ rfl rfl rfl rfl rfl (by kernel_rfl) Try.func19 (by kernel_rfl)
    (of_decide_eq_true (by kernel_rfl)) (by unfold Func.isWrapper; first | (rw [if_pos (by decide +kernel)]; kernel_rfl) | (rw [if_neg (by decide +kernel)]; exact ⟨rfl, rfl⟩))
    (fun os started H enc _ => lifted os started H enc)

theorem proved : Rows.StripeTornSaid :=
  over
end Go.Proofs.Ytldmeimebebllaa.stripeTorn
