/-
  'morainelaw06.BankOpens' returns true for every input, and the input reads as it did.
-/
import Derived.Test.YtldmeimebebllaaRows
import Derived.ProofKit
import Derived.OpenShut
import Derived.Lib.SmallJoins
import Derived.Test.YtldmeimebebllaaL06b
import Derived.Test.YtldmeimebebllaaKeep
import Derived.Test.YtldmeimebebllaaBOS
namespace Go.Proofs.Ytldmeimebebllaa.bankOpens
open Go.ChangeShapes Go.WideShapes Go.ChangeAt Go.RowKit Go.Joins Go.Mo
set_option linter.unusedVariables false

theorem own : ownKnob Try.prog.godebug = none := by kernel_rfl
theorem kids : Kids Try.prog (· < Try.prog.types.size) := kids_rows (by kernel_rfl) (by kernel_rfl)
theorem fulls : ∀ t e, t < Try.prog.types.size → Try.prog.underlying t = some (.slice e) → 0 < Try.prog.cellsOf e := slices_full_of Try.prog (by kernel_rfl)
theorem cells23 : Try.prog.cellsOf 23 = 3 := by kernel_rfl
theorem cells25 : Try.prog.cellsOf 25 = 3 := by kernel_rfl

theorem walk (q m : Int × Int × Int) (d s : Int) (W : World) :
    Calls Try.prog 3 #[.agg #[.int .i64 q.1, .int .i64 q.2.1, .int .i64 q.2.2], .agg #[.int .i64 m.1, .int .i64 m.2.1, .int .i64 m.2.2], .int .i64 d, .int .i64 s] W fun e W' => e = .returned (.bool true) ∧ Kept W W' :=
  calls_law (law06_BankOpens_sim q m d s _ W (wps_run (H := emp) (fun g => law06_BankOpens_spec q m d s) W trivial))

set_option maxRecDepth 100000 in
theorem lifted (os : Os) (started : os.Started) (H : Type) (enc : TypeId × Value → H) :
    ReturnsInHanded {} Try.checked os 3 .any (Rows.bankOpensSpec.pre6 enc Try.prog Try.f3 Rows.bankOpensRow.domain false) (Rows.bankOpensSpec.post enc Try.prog Try.f3 false true false false) := by
  refine returnsInHanded_of_change (C := Try.checked) own started (by kernel_rfl) Try.func3
    (ChangeSpec.witness6 (enc := enc) (C := Try.checked) false ⟨#[], #[.agg #[.int .i64 0, .int .i64 0, .int .i64 0], .agg #[.int .i64 0, .int .i64 0, .int .i64 0], .int .i64 0, .int .i64 0], []⟩ 8 (by kernel_rfl) (by kernel_rfl) (by kernel_rfl) (by kernel_rfl)) ?_
  intro W base args ds gs before hval0 hW hcnd _
  have hval : ∀ (j : Nat) t v, Try.f3.params[j]? = some t → args[j]? = some v → Value.okWide Try.prog W .any base t v := hval0
  have hW' := hW
  obtain ⟨p, q, hA0, hV, rfl, hfz, hnd⟩ := hW
  have hlt := hW'.lt
  have hA : DataW.TrodAll enc Try.prog W 0 (fun _ => true) true Try.f3.params.toList args.toList ds p := hA0
  rw [Try.params3] at hA hval
  have hAk := hA
  obtain ⟨v0, vs0, d0, ds0, p0, q0, hargs, rfl, rfl, h0, r0⟩ := trodAll_cons hA
  obtain ⟨v1, vs1, d1, ds1, p1, q1, rfl, rfl, rfl, h1, r1⟩ := trodAll_cons r0
  obtain ⟨v2, vs2, d2, ds2, p2, q2, rfl, rfl, rfl, h2, r2⟩ := trodAll_cons r1
  obtain ⟨v3, vs3, d3, ds3, p3, q3, rfl, rfl, rfl, h3, r3⟩ := trodAll_cons r2
  obtain ⟨rfl, rfl, rfl⟩ := trodAll_nil r3
  obtain rfl : args = #[v0, v1, v2, v3] := by cases args; simp_all
  obtain ⟨rfl, rfl⟩ := trodVars_none hV
  obtain ⟨a0, a1, a2, ya0, ya1, ya2, na, rfl, _, _, ha0, ha1, ha2⟩ := open_agg3 Try.underlying23 (by kernel_rfl) cells23 (hval 0 23 v0 rfl rfl) h0
  obtain ⟨b0, b1, b2, yb0, yb1, yb2, nb, rfl, _, _, hb0, hb1, hb2⟩ := open_agg3 Try.underlying25 (by kernel_rfl) cells25 (hval 1 25 v1 rfl rfl) h1
  obtain ⟨i0, ei0, rfl, wi0⟩ := DataW.trod_int Try.underlying3 ha0
  obtain ⟨i1, ei1, rfl, wi1⟩ := DataW.trod_int Try.underlying3 ha1
  obtain ⟨i2, ei2, rfl, wi2⟩ := DataW.trod_int Try.underlying3 ha2
  obtain ⟨j0, ej0, rfl, wj0⟩ := DataW.trod_int Try.underlying3 hb0
  obtain ⟨j1, ej1, rfl, wj1⟩ := DataW.trod_int Try.underlying3 hb1
  obtain ⟨j2, ej2, rfl, wj2⟩ := DataW.trod_int Try.underlying3 hb2
  simp only [List.cons.injEq, and_true] at ei0 ei1 ei2 ej0 ej1 ej2
  subst ei0 ei1 ei2 ej0 ej1 ej2
  obtain ⟨d, rfl, _, _, wd⟩ := open_int Try.underlying3 (hval 2 3 v2 rfl rfl) h2
  obtain ⟨s, rfl, _, _, ws⟩ := open_int Try.underlying3 (hval 3 3 v3 rfl rfl) h3
  refine (walk (i0, i1, i2) (j0, j1, j2) d s W).mono fun e W' ⟨he, hg⟩ => ?_
  subst he
  exact ⟨_, rfl, post_of_same (pv := []) hW' (fun _ _ _ => trodAll_cons_mk (shut_bool Try.underlying4 _) trodAll_mk0)
    (fun sp hsp => args_again hg kids fulls (by rw [Try.params3]; decide) hA0 (fun p hp => hsp p (by simpa using hp)) (fun p hp => hlt p (by simpa using hp))) (fun _ _ => rfl) rfl
    (hg.1.frame _) hg.1.2.1 (ok_one (by kernel_rfl) rfl (okWide_bool_mk Try.underlying4 _))⟩

theorem over : Rows.bankOpensRow.holds Try.pinned (OpenSpec.ofChange Rows.bankOpensSpec) :=
  OpenClaim.holds_of_wide 3 Try.f3 rfl rfl rfl rfl rfl rfl rfl ⟨rfl, rfl, rfl, rfl, rfl⟩ rfl rfl rfl rfl rfl (by kernel_rfl) Try.func3 (by kernel_rfl)
    (of_decide_eq_true (by kernel_rfl)) (by unfold Func.isWrapper; first | (rw [if_pos (by decide +kernel)]; kernel_rfl) | (rw [if_neg (by decide +kernel)]; exact ⟨rfl, rfl⟩))
    (fun os started H enc _ => lifted os started H enc)

theorem proved : Rows.BankOpensSaid :=
  over
end Go.Proofs.Ytldmeimebebllaa.bankOpens
