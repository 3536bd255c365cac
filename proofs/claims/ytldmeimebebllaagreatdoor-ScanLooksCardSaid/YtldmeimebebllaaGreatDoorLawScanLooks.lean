/-
  The statement of 'ScanLooks': it returns true for every input, and the input reads as it did.
-/
import Derived.Test.YtldmeimebebllaaGreatDoorRows
import Derived.ProofKit
import Derived.OpenShut
import Derived.Lib.SmallJoins
import Derived.ChangeSlices
import Derived.Test.YtldmeimebebllaaGreatDoorCards
import Derived.Test.YtldmeimebebllaaGreatDoorTie
import Derived.Lay
import Derived.LaidMore
import Derived.SevenTiedAt
import Derived.Stop.Joined
import Derived.Test.YtldmeimebebllaaGreatDoorPart6





namespace Go.Proofs.YtldmeimebebllaaGreatDoor.scanLooks
open Go.Proofs.Ytldmeimebebllaa Go.ChangeShapes Go.WideShapes Go.ChangeAt Go.RowKit Go.Joins Go.Mo
set_option linter.unusedVariables false

theorem own : ownKnob Tryz.prog.godebug = none := by kernel_rfl
theorem kids : Kids Tryz.prog (· < Tryz.prog.types.size) := kids_rows (by kernel_rfl) (by kernel_rfl)
theorem fulls : ∀ t e, t < Tryz.prog.types.size → Tryz.prog.underlying t = some (.slice e) → 0 < Tryz.prog.cellsOf e := slices_full_of Tryz.prog (by kernel_rfl)
theorem cells23 : Tryz.prog.cellsOf 23 = 3 := by kernel_rfl
theorem cells24E : Tryz.prog.cellsOf 42 = 1 := by kernel_rfl
theorem cells3 : Tryz.prog.cellsOf 3 = 1 := by kernel_rfl
theorem cells5 : Tryz.prog.cellsOf 5 = 1 := by kernel_rfl
theorem bytes5 : 0 < Tryz.prog.bytesOf 5 := of_decide_eq_true (by kernel_rfl)
theorem bytes3 : 0 < Tryz.prog.bytesOf 3 := of_decide_eq_true (by kernel_rfl)

theorem walk (a0 : Int × Int × Int) (a1 : Slc) (b1 : List (Slc × List Int)) (a2 : Int) (W : World) (hH : (rowsP a1 b1).p (full W)) :
    Calls Tryz.prog 3 #[.agg #[.int .i64 a0.1, .int .i64 a0.2.1, .int .i64 a0.2.2], .slice a1.base a1.len a1.cap, .int .i64 a2] W fun e W' => e = .returned (.bool true) ∧ Kept W W' :=
  calls_law (law08_ScanLooks_sim a0 a1 a2 _ W (wps_run (H := rowsP a1 b1) (fun g => law08_ScanLooks_spec disksOk rowsOk a0 a1 b1 a2) W hH))

def laidL : List (String × DataW Unit) := [("unicode/utf8.acceptRanges", Rows.laid_unicode_utf8_acceptRanges), ("unicode/utf8.first", Rows.laid_unicode_utf8_first)]
set_option maxRecDepth 100000 in
theorem lifted (os : Os) (started : os.Started) (H : Type) (enc : TypeId × Value → H) :
    ReturnsInHanded {} Tryz.checked os 3 .any (fun w args => (Rows.scanLooksSpec.pre enc Tryz.prog Tryz.f3 Rows.scanLooksRow.domain false w args ∧ laidMetH Tryz.prog laidL w) ∧ sizedMet enc Tryz.prog Tryz.f3 (OpenSpec.ofChange Rows.scanLooksSpec) false w args) (Rows.scanLooksSpec.post enc Tryz.prog Tryz.f3 false true false false) := by
  refine returnsInHanded_of_change_and (C := Tryz.checked) (X := fun w _ => laidMetH Tryz.prog laidL w) (fun _ _ _ hh h => h.of_heap hh) own started (by kernel_rfl) Tryz.func3
    (ChangeSpec.witness_shaped (enc := enc) (C := Tryz.checked) (os := os) (X := fun w _ => laidMetH Tryz.prog laidL w) false (World.laidAll Tryz.prog os laidL) #[.agg #[.int .i64 0, .int .i64 0, .int .i64 0], .slice none 0 0, .int .i64 0] 8 (World.laidAll_os _ _ _)
      (World.shaped_of_ZipB (by kernel_rfl) (by kernel_rfl)) (by kernel_rfl) (by kernel_rfl) (by kernel_rfl)
      (by rw [MakeChecks.laidMetH_plain _ _ _ (by kernel_rfl)]; exact laidMet_laidAll _ (by kernel_rfl) (by kernel_rfl))) ?_
  intro W base args ds gs before hval0 hW hcnd hsz hL _
  have hval : ∀ (j : Nat) t v, Tryz.f3.params[j]? = some t → args[j]? = some v → Value.okWide Tryz.prog W .any base t v := hval0
  have hW' := hW
  obtain ⟨p, q, hA0, hV, rfl, hfz, hnd⟩ := hW
  have hlt := hW'.lt
  have hA : DataW.TrodAll enc Tryz.prog W 0 (fun _ => true) true Tryz.f3.params.toList args.toList ds p := hA0
  rw [Tryz.params3] at hA hval
  obtain ⟨v0, vs0, d0, ds0, p0, q0, hargs, rfl, rfl, h0, r0⟩ := trodAll_cons hA
  obtain ⟨v1, vs1, d1, ds1, p1, q1, rfl, rfl, rfl, h1, r1⟩ := trodAll_cons r0
  obtain ⟨v2, vs2, d2, ds2, p2, q2, rfl, rfl, rfl, h2, r2⟩ := trodAll_cons r1
  obtain ⟨rfl, rfl, rfl⟩ := trodAll_nil r2
  obtain rfl : args = #[v0, v1, v2] := by cases args; simp_all
  obtain ⟨rfl, rfl⟩ := trodVars_none hV
  obtain ⟨x00, x01, x02, y00, y01, y02, n0, rfl, _, _, u00, u01, u02⟩ := open_agg3 Tryz.underlying23 (by kernel_rfl) cells23 (hval 0 23 v0 rfl rfl) h0
  obtain ⟨i00, e00, rfl, w00⟩ := DataW.trod_int Tryz.underlying3 u00
  obtain ⟨i01, e01, rfl, w01⟩ := DataW.trod_int Tryz.underlying3 u01
  obtain ⟨i02, e02, rfl, w02⟩ := DataW.trod_int Tryz.underlying3 u02
  simp only [List.cons.injEq, and_true] at e00 e01 e02
  subst e00 e01 e02
  obtain ⟨s1, b1, rfl, hp1⟩ : ∃ (s : Slc) (l : List (Slc × List Int)), v1 = .slice s.base s.len s.cap ∧ (rowsP s l).p (full W) := by
    obtain ⟨sa, sl, sc, rfl⟩ := okWide_slice Tryz.underlying24 (hval 1 24 v1 rfl rfl)
    obtain ⟨fu, hfu⟩ := h1
    obtain ⟨s, l, hcs, hp⟩ := open_byteRows Tryz.underlying24 cells24E Tryz.underlying42 ⟨Tryz.underlying5, cells5, bytes5⟩ hfu (sized_arg hsz (j := 1) rfl rfl)
    have hcs' : Value.slice sa sl sc = .slice s.base s.len s.cap := by simpa [Value.cells] using hcs
    exact ⟨s, l, hcs', hp⟩
  obtain ⟨a2, rfl, _, _, w2⟩ := open_int Tryz.underlying3 (hval 2 3 v2 rfl rfl) h2
  refine (walk (i00, i01, i02) s1 b1 a2 W  hp1).mono fun e W' ⟨he, hg⟩ => ?_
  subst he
  exact ⟨_, rfl, post_of_kept (pv := []) hW' (fun _ _ _ => trodAll_cons_mk (shut_bool Tryz.underlying4 _) trodAll_mk0)
    (fun sp hsp => args_again hg kids fulls (by rw [Tryz.params3]; decide) hA0 (fun p hp => hsp p (by simpa using hp)) (fun p hp => hlt p (by simpa using hp))) (fun _ _ => rfl) rfl
    hg (ok_one (by kernel_rfl) rfl (okWide_bool_mk Tryz.underlying4 _))⟩

theorem over : Rows.scanLooksRow.holds Tryz.pinned (OpenSpec.ofChange Rows.scanLooksSpec) :=
  OpenClaim.holds_of_wide 3 Tryz.f3 rfl rfl rfl rfl rfl rfl rfl ⟨rfl, rfl, rfl, rfl, rfl⟩ rfl rfl rfl rfl rfl (by kernel_rfl) Tryz.func3 (by kernel_rfl)
    (of_decide_eq_true (by kernel_rfl)) (by unfold Func.isWrapper; first | (rw [if_pos (by decide +kernel)]; kernel_rfl) | (rw [if_neg (by decide +kernel)]; exact ⟨rfl, rfl⟩))
    (fun os started H enc _ => lifted os started H enc)

theorem proved : Rows.ScanLooksCardSaid :=
  Claim7.holds_tied_plain_at .later [] [.data, .pinned] true (true, "2ade1cbe9a1752dc88a6f2e9f16f20c359c1bd21345a56af0dd6ae8708702d96") false over (fun _ h => by cases h) (by kernel_rfl) (fun _ h => by cases h) scanLooks_row_tie rfl ⟨rfl, rfl⟩ (by kernel_rfl) rfl
    (fun f fn hf hfn => by
      obtain rfl : f = 3 := Option.some.inj ((show Tryz.prog.funcNamed "moraine/morainelaw08.ScanLooks" = some 3 by kernel_rfl).symm.trans hf) |>.symm
      obtain rfl : fn = Tryz.f3 := (Option.some.inj (Tryz.func3.symm.trans hfn)).symm
      exact ⟨by kernel_rfl, fun j t ht => by
        rw [Tryz.params3] at ht
        have hm : t ∈ [23, 24, 3] := by simpa using Array.mem_of_getElem? ht
        have hall : ([23, 24, 3].all fun u => !Tryz.prog.wantsStandIn u) = true := by kernel_rfl
        exact (show Tryz.prog.wantsStandIn t = false by simpa using List.all_eq_true.1 hall t hm)⟩)
    (by kernel_rfl)
end Go.Proofs.YtldmeimebebllaaGreatDoor.scanLooks
