/-
  The statement of 'BankBad': it returns true for every input, and the input reads as it did.
-/
import Derived.Test.YtldmeimebebllaaRows
import Derived.ProofKit
import Derived.OpenShut
import Derived.Lib.SmallJoins
import Derived.ChangeSlices
import Derived.Test.YtldmeimebebllaaL06d
import Derived.Test.YtldmeimebebllaaKeep
import Derived.Test.YtldmeimebebllaaSims
import Derived.Test.YtldmeimebebllaaCvDisks
namespace Go.Proofs.Ytldmeimebebllaa.bankBad
open Go.ChangeShapes Go.WideShapes Go.ChangeAt Go.RowKit Go.Joins Go.Mo
set_option linter.unusedVariables false

theorem own : ownKnob Try.prog.godebug = none := by kernel_rfl
theorem kids : Kids Try.prog (· < Try.prog.types.size) := kids_rows (by kernel_rfl) (by kernel_rfl)
theorem fulls : ∀ t e, t < Try.prog.types.size → Try.prog.underlying t = some (.slice e) → 0 < Try.prog.cellsOf e := slices_full_of Try.prog (by kernel_rfl)
theorem cells25 : Try.prog.cellsOf 25 = 3 := by kernel_rfl

theorem walk (a0 : Int) (a1 : Int × Int × Int) (W : World) (hH : (emp).p (full W)) :
    Calls Try.prog 5 #[.int .i64 a0, .agg #[.int .i64 a1.1, .int .i64 a1.2.1, .int .i64 a1.2.2]] W fun e W' => e = .returned (.bool true) ∧ Kept W W' :=
  calls_law (law06_BankBad_sim a0 a1 _ W (wps_run (H := emp) (fun g => law06_BankBad_spec disksOk a0 a1) W hH))

set_option maxRecDepth 100000 in
theorem lifted (os : Os) (started : os.Started) (H : Type) (enc : TypeId × Value → H) :
    ReturnsInHanded {} Try.checked os 5 .any (Rows.bankBadSpec.pre6 enc Try.prog Try.f5 Rows.bankBadRow.domain false) (Rows.bankBadSpec.post enc Try.prog Try.f5 false true false false) := by
  refine returnsInHanded_of_change (C := Try.checked) own started (by kernel_rfl) Try.func5
    (ChangeSpec.witness6 (enc := enc) (C := Try.checked) false ⟨#[], #[.int .i64 0, .agg #[.int .i64 0, .int .i64 0, .int .i64 0]], []⟩ 8 (by kernel_rfl) (by kernel_rfl) (by kernel_rfl) (by kernel_rfl)) ?_
  intro W base args ds gs before hval0 hW hcnd _
  have hval : ∀ (j : Nat) t v, Try.f5.params[j]? = some t → args[j]? = some v → Value.okWide Try.prog W .any base t v := hval0
  have hW' := hW
  obtain ⟨p, q, hA0, hV, rfl, hfz, hnd⟩ := hW
  have hlt := hW'.lt
  have hA : DataW.TrodAll enc Try.prog W 0 (fun _ => true) true Try.f5.params.toList args.toList ds p := hA0
  rw [Try.params5] at hA hval
  obtain ⟨v0, vs0, d0, ds0, p0, q0, hargs, rfl, rfl, h0, r0⟩ := trodAll_cons hA
  obtain ⟨v1, vs1, d1, ds1, p1, q1, rfl, rfl, rfl, h1, r1⟩ := trodAll_cons r0
  obtain ⟨rfl, rfl, rfl⟩ := trodAll_nil r1
  obtain rfl : args = #[v0, v1] := by cases args; simp_all
  obtain ⟨rfl, rfl⟩ := trodVars_none hV
  obtain ⟨a0, rfl, _, _, w0⟩ := open_int Try.underlying3 (hval 0 3 v0 rfl rfl) h0
  obtain ⟨x10, x11, x12, y10, y11, y12, n1, rfl, _, _, u10, u11, u12⟩ := open_agg3 Try.underlying25 (by kernel_rfl) cells25 (hval 1 25 v1 rfl rfl) h1
  obtain ⟨i10, e10, rfl, w10⟩ := DataW.trod_int Try.underlying3 u10
  obtain ⟨i11, e11, rfl, w11⟩ := DataW.trod_int Try.underlying3 u11
  obtain ⟨i12, e12, rfl, w12⟩ := DataW.trod_int Try.underlying3 u12
  simp only [List.cons.injEq, and_true] at e10 e11 e12
  subst e10 e11 e12
  refine (walk a0 (i10, i11, i12) W  trivial).mono fun e W' ⟨he, hg⟩ => ?_
  subst he
  exact ⟨_, rfl, post_of_same (pv := []) hW' (fun _ _ _ => trodAll_cons_mk (shut_bool Try.underlying4 _) trodAll_mk0)
    (fun sp hsp => args_again hg kids fulls (by rw [Try.params5]; decide) hA0 (fun p hp => hsp p (by simpa using hp)) (fun p hp => hlt p (by simpa using hp))) (fun _ _ => rfl) rfl
    (hg.1.frame _) hg.1.2.1 (ok_one (by kernel_rfl) rfl (okWide_bool_mk Try.underlying4 _))⟩

theorem over : Rows.bankBadRow.holds Try.pinned (OpenSpec.ofChange Rows.bankBadSpec) :=
  OpenClaim.holds_of_wide 5 Try.f5 rfl rfl rfl rfl rfl rfl rfl ⟨rfl, rfl, rfl, rfl, rfl⟩ rfl rfl rfl rfl rfl (by kernel_rfl) Try.func5 (by kernel_rfl)
    (of_decide_eq_true (by kernel_rfl)) (by unfold Func.isWrapper; first | (rw [if_pos (by decide +kernel)]; kernel_rfl) | (rw [if_neg (by decide +kernel)]; exact ⟨rfl, rfl⟩))
    (fun os started H enc _ => lifted os started H enc)

theorem proved : Rows.BankBadSaid :=
  over
end Go.Proofs.Ytldmeimebebllaa.bankBad
