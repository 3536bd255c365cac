/-
  The statement of 'DeviceKeeps': it returns true for every input, and the input reads as it did.
-/
import Derived.Test.YtldmeimebebllaaRows
import Derived.ProofKit
import Derived.OpenShut
import Derived.Lib.SmallJoins
import Derived.ChangeSlices
import Derived.Test.YtldmeimebebllaaL02b
import Derived.Test.YtldmeimebebllaaKeep
import Derived.Test.YtldmeimebebllaaArgs2
import Derived.Test.YtldmeimebebllaaSims
import Derived.Test.YtldmeimebebllaaCvKeys
namespace Go.Proofs.Ytldmeimebebllaa.deviceKeeps
open Go.ChangeShapes Go.WideShapes Go.ChangeAt Go.RowKit Go.Joins Go.Mo
set_option linter.unusedVariables false

theorem own : ownKnob Try.prog.godebug = none := by kernel_rfl
theorem kids : Kids Try.prog (· < Try.prog.types.size) := kids_rows (by kernel_rfl) (by kernel_rfl)
theorem fulls : ∀ t e, t < Try.prog.types.size → Try.prog.underlying t = some (.slice e) → 0 < Try.prog.cellsOf e := slices_full_of Try.prog (by kernel_rfl)
theorem cells3 : Try.prog.cellsOf 3 = 1 := by kernel_rfl

theorem walk (a0 : Slc) (b0 : List Int) (a1 : Bool) (W : World) (hb0 : ∀ n ∈ b0, (Lit.int .i64 n).wf = true) (hH : (intsP a0 b0).p (full W)) :
    Calls Try.prog 6 #[.slice a0.base a0.len a0.cap, .bool a1] W fun e W' => e = .returned (.bool true) ∧ Kept W W' :=
  calls_law (law02_DeviceKeeps_sim a0 a1 _ W (wps_run (H := intsP a0 b0) (fun g => law02_DeviceKeeps_spec keysOk a0 b0 a1) W hH))

set_option maxRecDepth 100000 in
theorem lifted (os : Os) (started : os.Started) (H : Type) (enc : TypeId × Value → H) :
    ReturnsInHanded {} Try.checked os 6 .any (Rows.deviceKeepsSpec.pre6 enc Try.prog Try.f6 Rows.deviceKeepsRow.domain false) (Rows.deviceKeepsSpec.post enc Try.prog Try.f6 false true false false) := by
  refine returnsInHanded_of_change (C := Try.checked) own started (by kernel_rfl) Try.func6
    (ChangeSpec.witness6 (enc := enc) (C := Try.checked) false ⟨#[], #[.slice none 0 0, .bool false], []⟩ 8 (by kernel_rfl) (by kernel_rfl) (by kernel_rfl) (by kernel_rfl)) ?_
  intro W base args ds gs before hval0 hW hcnd _
  have hval : ∀ (j : Nat) t v, Try.f6.params[j]? = some t → args[j]? = some v → Value.okWide Try.prog W .any base t v := hval0
  have hW' := hW
  obtain ⟨p, q, hA0, hV, rfl, hfz, hnd⟩ := hW
  have hlt := hW'.lt
  have hA : DataW.TrodAll enc Try.prog W 0 (fun _ => true) true Try.f6.params.toList args.toList ds p := hA0
  rw [Try.params6] at hA hval
  obtain ⟨v0, vs0, d0, ds0, p0, q0, hargs, rfl, rfl, h0, r0⟩ := trodAll_cons hA
  obtain ⟨v1, vs1, d1, ds1, p1, q1, rfl, rfl, rfl, h1, r1⟩ := trodAll_cons r0
  obtain ⟨rfl, rfl, rfl⟩ := trodAll_nil r1
  obtain rfl : args = #[v0, v1] := by cases args; simp_all
  obtain ⟨rfl, rfl⟩ := trodVars_none hV
  obtain ⟨s0, b0, rfl, hb0, hp0⟩ : ∃ (s : Slc) (b : List Int), v0 = .slice s.base s.len s.cap ∧ (∀ n ∈ b, (Lit.int .i64 n).wf = true) ∧ (intsP s b).p (full W) := by
    obtain ⟨sa, sl, sc, rfl⟩ := okWide_slice Try.underlying33 (hval 0 33 v0 rfl rfl)
    obtain ⟨fu, hfu⟩ := h0
    rcases open_ints Try.underlying33 Try.underlying3 cells3 hfu with ⟨hcs, hx⟩ | ⟨a, len, cap, zs, hcs, hba, hle, hcap, hzl, hx, hcell, hwf⟩
    · have hcs' : Value.slice sa sl sc = .slice none 0 0 := by simpa [Value.cells] using hcs
      cases hcs'
      exact ⟨⟨none, 0, 0⟩, [], rfl, by simp, ints_full_nil W⟩
    · have hcs' : Value.slice sa sl sc = .slice (some a) len cap := by simpa [Value.cells] using hcs
      have hzl' : zs.length = cap := by simpa using hzl
      cases hcs'
      exact ⟨⟨some a, _, _⟩, zs.take _, rfl, fun n hn => hwf n (List.mem_of_mem_take hn), ints_full hle hzl' hcell⟩
  obtain ⟨a1, rfl, _, _⟩ := open_bool Try.underlying4 (hval 1 4 v1 rfl rfl) h1
  refine (walk s0 b0 a1 W hb0 hp0).mono fun e W' ⟨he, hg⟩ => ?_
  subst he
  exact ⟨_, rfl, post_of_kept (pv := []) hW' (fun _ _ _ => trodAll_cons_mk (shut_bool Try.underlying4 _) trodAll_mk0)
    (fun sp hsp => args_again hg kids fulls (by rw [Try.params6]; decide) hA0 (fun p hp => hsp p (by simpa using hp)) (fun p hp => hlt p (by simpa using hp))) (fun _ _ => rfl) rfl
    hg (ok_one (by kernel_rfl) rfl (okWide_bool_mk Try.underlying4 _))⟩

theorem over : Rows.deviceKeepsRow.holds Try.pinned (OpenSpec.ofChange Rows.deviceKeepsSpec) :=
  OpenClaim.holds_of_wide 6 Try.f6 rfl rfl rfl rfl rfl rfl rfl ⟨rfl, rfl, rfl, rfl, rfl⟩ rfl rfl rfl rfl rfl (by kernel_rfl) Try.func6 (by kernel_rfl)
    (of_decide_eq_true (by kernel_rfl)) (by unfold Func.isWrapper; first | (rw [if_pos (by decide +kernel)]; kernel_rfl) | (rw [if_neg (by decide +kernel)]; exact ⟨rfl, rfl⟩))
    (fun os started H enc _ => lifted os started H enc)

theorem proved : Rows.DeviceKeepsSaid :=
  over
end Go.Proofs.Ytldmeimebebllaa.deviceKeeps
