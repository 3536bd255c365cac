/-
  The statement of 'DevicePower': it returns true for every input, and the input reads as it did.
-/
import Derived.Test.YtldmeimebebllaaRows
import Derived.ProofKit
import Derived.OpenShut
import Derived.Lib.SmallJoins
import Derived.ChangeSlices
import Derived.Test.YtldmeimebebllaaPart4




namespace Go.Proofs.Ytldmeimebebllaa.devicePower
open Go.ChangeShapes Go.WideShapes Go.ChangeAt Go.RowKit Go.Joins Go.Mo
set_option linter.unusedVariables false

theorem own : ownKnob Try.prog.godebug = none := by kernel_rfl
theorem kids : Kids Try.prog (· < Try.prog.types.size) := kids_rows (by kernel_rfl) (by kernel_rfl)
theorem fulls : ∀ t e, t < Try.prog.types.size → Try.prog.underlying t = some (.slice e) → 0 < Try.prog.cellsOf e := slices_full_of Try.prog (by kernel_rfl)
theorem cells3 : Try.prog.cellsOf 3 = 1 := by kernel_rfl

theorem walk (a0 : Int) (a1 : Slc) (b1 : List Int) (W : World) (hb1 : ∀ n ∈ b1, (Lit.int .i64 n).wf = true) (hw0 : (Lit.int .i64 a0).wf = true) (hH : (intsP a1 b1).p (full W)) :
    Calls Try.prog 8 #[.int .i64 a0, .slice a1.base a1.len a1.cap] W fun e W' => e = .returned (.bool true) ∧ Kept W W' :=
  calls_law (law02_DevicePower_sim a0 a1 _ W (wps_run (H := intsP a1 b1) (fun g => law02_DevicePower_spec keysOk a0 (wf_i64 hw0).2 a1 b1) W hH))

set_option maxRecDepth 100000 in
theorem lifted (os : Os) (started : os.Started) (H : Type) (enc : TypeId × Value → H) :
    ReturnsInHanded {} Try.checked os 8 .any (Rows.devicePowerSpec.pre6 enc Try.prog Try.f8 Rows.devicePowerRow.domain false) (Rows.devicePowerSpec.post enc Try.prog Try.f8 false true false false) := by
  refine returnsInHanded_of_change (C := Try.checked) own started (by kernel_rfl) Try.func8
    (ChangeSpec.witness6 (enc := enc) (C := Try.checked) false ⟨#[], #[.int .i64 0, .slice none 0 0], []⟩ 8 (by kernel_rfl) (by kernel_rfl) (by kernel_rfl) (by kernel_rfl)) ?_
  intro W base args ds gs before hval0 hW hcnd _
  have hval : ∀ (j : Nat) t v, Try.f8.params[j]? = some t → args[j]? = some v → Value.okWide Try.prog W .any base t v := hval0
  have hW' := hW
  obtain ⟨p, q, hA0, hV, rfl, hfz, hnd⟩ := hW
  have hlt := hW'.lt
  have hA : DataW.TrodAll enc Try.prog W 0 (fun _ => true) true Try.f8.params.toList args.toList ds p := hA0
  rw [Try.params8] at hA hval
  obtain ⟨v0, vs0, d0, ds0, p0, q0, hargs, rfl, rfl, h0, r0⟩ := trodAll_cons hA
  obtain ⟨v1, vs1, d1, ds1, p1, q1, rfl, rfl, rfl, h1, r1⟩ := trodAll_cons r0
  obtain ⟨rfl, rfl, rfl⟩ := trodAll_nil r1
  obtain rfl : args = #[v0, v1] := by cases args; simp_all
  obtain ⟨rfl, rfl⟩ := trodVars_none hV
  obtain ⟨a0, rfl, _, _, w0⟩ := open_int Try.underlying3 (hval 0 3 v0 rfl rfl) h0
  obtain ⟨s1, b1, rfl, hb1, hp1⟩ : ∃ (s : Slc) (b : List Int), v1 = .slice s.base s.len s.cap ∧ (∀ n ∈ b, (Lit.int .i64 n).wf = true) ∧ (intsP s b).p (full W) := by
    obtain ⟨sa, sl, sc, rfl⟩ := okWide_slice Try.underlying33 (hval 1 33 v1 rfl rfl)
    obtain ⟨fu, hfu⟩ := h1
    rcases open_ints Try.underlying33 Try.underlying3 cells3 hfu with ⟨hcs, hx⟩ | ⟨a, len, cap, zs, hcs, hba, hle, hcap, hzl, hx, hcell, hwf⟩
    · have hcs' : Value.slice sa sl sc = .slice none 0 0 := by simpa [Value.cells] using hcs
      cases hcs'
      exact ⟨⟨none, 0, 0⟩, [], rfl, by simp, ints_full_nil W⟩
    · have hcs' : Value.slice sa sl sc = .slice (some a) len cap := by simpa [Value.cells] using hcs
      have hzl' : zs.length = cap := by simpa using hzl
      cases hcs'
      exact ⟨⟨some a, _, _⟩, zs.take _, rfl, fun n hn => hwf n (List.mem_of_mem_take hn), ints_full hle hzl' hcell⟩
  refine (walk a0 s1 b1 W hb1 w0 hp1).mono fun e W' ⟨he, hg⟩ => ?_
  subst he
  exact ⟨_, rfl, post_of_kept (pv := []) hW' (fun _ _ _ => trodAll_cons_mk (shut_bool Try.underlying4 _) trodAll_mk0)
    (fun sp hsp => args_again hg kids fulls (by rw [Try.params8]; decide) hA0 (fun p hp => hsp p (by simpa using hp)) (fun p hp => hlt p (by simpa using hp))) (fun _ _ => rfl) rfl
    hg (ok_one (by kernel_rfl) rfl (okWide_bool_mk Try.underlying4 _))⟩

theorem over : Rows.devicePowerRow.holds Try.pinned (OpenSpec.ofChange Rows.devicePowerSpec) :=
  OpenClaim.holds_of_wide 8 Try.f8 rfl rfl rfl rfl rfl rfl rfl ⟨rfl, rfl, rfl, rfl, rfl⟩ rfl rfl rfl rfl rfl (by kernel_rfl) Try.func8 (by kernel_rfl)
    (of_decide_eq_true (by kernel_rfl)) (by unfold Func.isWrapper; first | (rw [if_pos (by decide +kernel)]; kernel_rfl) | (rw [if_neg (by decide +kernel)]; exact ⟨rfl, rfl⟩))
    (fun os started H enc _ => lifted os started H enc)

theorem proved : Rows.DevicePowerSaid :=
  over
end Go.Proofs.Ytldmeimebebllaa.devicePower
