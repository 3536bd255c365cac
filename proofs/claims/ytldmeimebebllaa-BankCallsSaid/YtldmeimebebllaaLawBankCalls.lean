/-
  The statement of 'BankCalls': it returns true for every input, and the input reads as it did.
-/
import Derived.Test.YtldmeimebebllaaRows
import Derived.ProofKit
import Derived.OpenShut
import Derived.Lib.SmallJoins
import Derived.ChangeSlices
import Derived.Test.YtldmeimebebllaaPart5





namespace Go.Proofs.Ytldmeimebebllaa.bankCalls
open Go.ChangeShapes Go.WideShapes Go.ChangeAt Go.RowKit Go.Joins Go.Mo
set_option linter.unusedVariables false

theorem own : ownKnob Try.prog.godebug = none := by kernel_rfl
theorem kids : Kids Try.prog (· < Try.prog.types.size) := kids_rows (by kernel_rfl) (by kernel_rfl)
theorem fulls : ∀ t e, t < Try.prog.types.size → Try.prog.underlying t = some (.slice e) → 0 < Try.prog.cellsOf e := slices_full_of Try.prog (by kernel_rfl)
theorem cells25 : Try.prog.cellsOf 25 = 3 := by kernel_rfl
theorem cells102E : Try.prog.cellsOf 104 = 7 := by kernel_rfl
theorem cells3 : Try.prog.cellsOf 3 = 1 := by kernel_rfl
theorem cells5 : Try.prog.cellsOf 5 = 1 := by kernel_rfl
theorem cells46 : Try.prog.cellsOf 46 = 1 := by kernel_rfl
theorem cells33 : Try.prog.cellsOf 33 = 1 := by kernel_rfl
theorem bytes5 : 0 < Try.prog.bytesOf 5 := of_decide_eq_true (by kernel_rfl)
theorem bytes3 : 0 < Try.prog.bytesOf 3 := of_decide_eq_true (by kernel_rfl)

theorem walk (a0 : Int × Int × Int) (a1 : Slc) (b1 : List CallB) (W : World) (hH : (callsB a1 b1).p (full W)) :
    Calls Try.prog 18 #[.agg #[.int .i64 a0.1, .int .i64 a0.2.1, .int .i64 a0.2.2], .slice a1.base a1.len a1.cap] W fun e W' => e = .returned (.bool true) ∧ Kept W W' :=
  calls_law (law06_BankCalls_sim a0 a1 _ W (wps_run (H := callsB a1 b1) (fun g => law06_BankCalls_spec disksOk keysOk a0 a1 b1) W hH))

set_option maxRecDepth 100000 in
theorem lifted (os : Os) (started : os.Started) (H : Type) (enc : TypeId × Value → H) :
    ReturnsInHanded {} Try.checked os 18 .any (Rows.bankCallsSpec.pre6 enc Try.prog Try.f18 Rows.bankCallsRow.domain false) (Rows.bankCallsSpec.post enc Try.prog Try.f18 false true false false) := by
  refine returnsInHanded_of_change_sized (C := Try.checked) own started (by kernel_rfl) Try.func18
    (ChangeSpec.witness6 (enc := enc) (C := Try.checked) false ⟨#[], #[.agg #[.int .i64 0, .int .i64 0, .int .i64 0], .slice none 0 0], []⟩ 8 (by kernel_rfl) (by kernel_rfl) (by kernel_rfl) (by kernel_rfl)) ?_
  intro W base args ds gs before hval0 hW hcnd hsz _
  have hval : ∀ (j : Nat) t v, Try.f18.params[j]? = some t → args[j]? = some v → Value.okWide Try.prog W .any base t v := hval0
  have hW' := hW
  obtain ⟨p, q, hA0, hV, rfl, hfz, hnd⟩ := hW
  have hlt := hW'.lt
  have hA : DataW.TrodAll enc Try.prog W 0 (fun _ => true) true Try.f18.params.toList args.toList ds p := hA0
  rw [Try.params18] at hA hval
  obtain ⟨v0, vs0, d0, ds0, p0, q0, hargs, rfl, rfl, h0, r0⟩ := trodAll_cons hA
  obtain ⟨v1, vs1, d1, ds1, p1, q1, rfl, rfl, rfl, h1, r1⟩ := trodAll_cons r0
  obtain ⟨rfl, rfl, rfl⟩ := trodAll_nil r1
  obtain rfl : args = #[v0, v1] := by cases args; simp_all
  obtain ⟨rfl, rfl⟩ := trodVars_none hV
  obtain ⟨x00, x01, x02, y00, y01, y02, n0, rfl, _, _, u00, u01, u02⟩ := open_agg3 Try.underlying25 (by kernel_rfl) cells25 (hval 0 25 v0 rfl rfl) h0
  obtain ⟨i00, e00, rfl, w00⟩ := DataW.trod_int Try.underlying3 u00
  obtain ⟨i01, e01, rfl, w01⟩ := DataW.trod_int Try.underlying3 u01
  obtain ⟨i02, e02, rfl, w02⟩ := DataW.trod_int Try.underlying3 u02
  simp only [List.cons.injEq, and_true] at e00 e01 e02
  subst e00 e01 e02
  obtain ⟨s1, b1, rfl, hp1⟩ : ∃ (s : Slc) (l : List CallB), v1 = .slice s.base s.len s.cap ∧ (callsB s l).p (full W) := by
    obtain ⟨sa, sl, sc, rfl⟩ := okWide_slice Try.underlying102 (hval 1 102 v1 rfl rfl)
    obtain ⟨fu, hfu⟩ := h1
    obtain ⟨s, l, hcs, hp⟩ := open_callsB Try.underlying102 cells102E Try.underlying104 ⟨rfl, rfl, rfl, rfl, rfl⟩ ⟨cells3, cells3, cells3, cells46, cells25⟩ ⟨Try.underlying3, Try.underlying3, Try.underlying3⟩ ⟨Try.underlying46, Try.underlying5, cells5, bytes5⟩ Try.underlying25 ⟨rfl, rfl, rfl⟩ ⟨cells3, cells3, cells3⟩ ⟨Try.underlying3, Try.underlying3, Try.underlying3⟩ hfu (sized_arg hsz (j := 1) rfl rfl)
    have hcs' : Value.slice sa sl sc = .slice s.base s.len s.cap := by simpa [Value.cells] using hcs
    exact ⟨s, l, hcs', hp⟩
  refine (walk (i00, i01, i02) s1 b1 W  hp1).mono fun e W' ⟨he, hg⟩ => ?_
  subst he
  exact ⟨_, rfl, post_of_kept (pv := []) hW' (fun _ _ _ => trodAll_cons_mk (shut_bool Try.underlying4 _) trodAll_mk0)
    (fun sp hsp => args_again hg kids fulls (by rw [Try.params18]; decide) hA0 (fun p hp => hsp p (by simpa using hp)) (fun p hp => hlt p (by simpa using hp))) (fun _ _ => rfl) rfl
    hg (ok_one (by kernel_rfl) rfl (okWide_bool_mk Try.underlying4 _))⟩

theorem over : Rows.bankCallsRow.holds Try.pinned (OpenSpec.ofChange Rows.bankCallsSpec) :=
  OpenClaim.holds_of_wide 18 Try.f18 rfl rfl rfl rfl rfl rfl rfl ⟨rfl, rfl, rfl, rfl, rfl⟩ rfl rfl rfl rfl rfl (by kernel_rfl) Try.func18 (by kernel_rfl)
    (of_decide_eq_true (by kernel_rfl)) (by unfold Func.isWrapper; first | (rw [if_pos (by decide +kernel)]; kernel_rfl) | (rw [if_neg (by decide +kernel)]; exact ⟨rfl, rfl⟩))
    (fun os started H enc _ => lifted os started H enc)

theorem proved : Rows.BankCallsSaid :=
  over
end Go.Proofs.Ytldmeimebebllaa.bankCalls
