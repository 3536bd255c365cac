/-
  The statement of 'ScanSummaries': it returns true for every input, and the input reads as it did.
-/
import Derived.Test.YtldmeimebebllaaDoorRows
import Derived.ProofKit
import Derived.OpenShut
import Derived.Lib.SmallJoins
import Derived.ChangeSlices
import Derived.Test.YtldmeimebebllaaDoorCards
import Derived.Test.YtldmeimebebllaaDoorTie
import Derived.Lay
import Derived.LaidMore
import Derived.SevenTiedAt
import Derived.Stop.Joined
import Derived.Test.YtldmeimebebllaaDoorPart2



namespace Go.Proofs.YtldmeimebebllaaDoor.scanSummaries
open Go.Proofs.Ytldmeimebebllaa Go.ChangeShapes Go.WideShapes Go.ChangeAt Go.RowKit Go.Joins Go.Mo
set_option linter.unusedVariables false

theorem own : ownKnob Tryd.prog.godebug = none := by kernel_rfl
theorem kids : Kids Tryd.prog (· < Tryd.prog.types.size) := kids_rows (by kernel_rfl) (by kernel_rfl)
theorem fulls : ∀ t e, t < Tryd.prog.types.size → Tryd.prog.underlying t = some (.slice e) → 0 < Tryd.prog.cellsOf e := slices_full_of Tryd.prog (by kernel_rfl)
theorem cells25 : Tryd.prog.cellsOf 25 = 4 := by kernel_rfl
theorem cells28 : Tryd.prog.cellsOf 28 = 3 := by kernel_rfl
theorem cells5 : Tryd.prog.cellsOf 5 = 1 := by kernel_rfl
theorem cells23 : Tryd.prog.cellsOf 23 = 3 := by kernel_rfl

theorem walk (a0 : Int × Int × Int) (a1 : Int × Int × Int × Int) (a2 : Int × Int × Slc) (b2 : List Int) (W : World) (hb2 : ∀ n ∈ b2, (Lit.int .u8 n).wf = true) (hH : (byt a2.2.2 b2).p (full W)) :
    Calls Tryd.prog 3 #[.agg #[.int .i64 a0.1, .int .i64 a0.2.1, .int .i64 a0.2.2], .agg #[.int .i64 a1.1, .int .i64 a1.2.1, .int .i64 a1.2.2.1, .int .i64 a1.2.2.2], .agg #[.int .i64 a2.1, .int .i64 a2.2.1, .slice a2.2.2.base a2.2.2.len a2.2.2.cap]] W fun e W' => e = .returned (.bool true) ∧ Kept W W' :=
  calls_law (law08_ScanSummaries_sim a0 a1 a2 _ W (wps_run (H := byt a2.2.2 b2) (fun g => law08_ScanSummaries_spec a0 a1 a2.1 a2.2.1 a2.2.2 b2 (wf_byts hb2)) W hH))

def laidL : List (String × DataW Unit) := [("unicode/utf8.acceptRanges", Rows.laid_unicode_utf8_acceptRanges), ("unicode/utf8.first", Rows.laid_unicode_utf8_first)]
set_option maxRecDepth 100000 in
theorem lifted (os : Os) (started : os.Started) (H : Type) (enc : TypeId × Value → H) :
    ReturnsInHanded {} Tryd.checked os 3 .any (fun w args => (Rows.scanSummariesSpec.pre enc Tryd.prog Tryd.f3 Rows.scanSummariesRow.domain false w args ∧ laidMetH Tryd.prog laidL w) ∧ sizedMet enc Tryd.prog Tryd.f3 (OpenSpec.ofChange Rows.scanSummariesSpec) false w args) (Rows.scanSummariesSpec.post enc Tryd.prog Tryd.f3 false true false false) := by
  refine returnsInHanded_of_change_and (C := Tryd.checked) (X := fun w _ => laidMetH Tryd.prog laidL w) (fun _ _ _ hh h => h.of_heap hh) own started (by kernel_rfl) Tryd.func3
    (ChangeSpec.witness_shaped (enc := enc) (C := Tryd.checked) (os := os) (X := fun w _ => laidMetH Tryd.prog laidL w) false (World.laidAll Tryd.prog os laidL) #[.agg #[.int .i64 0, .int .i64 0, .int .i64 0], .agg #[.int .i64 0, .int .i64 0, .int .i64 0, .int .i64 0], .agg #[.int .i64 0, .int .i64 0, .slice none 0 0]] 8 (World.laidAll_os _ _ _)
      (World.shaped_of_ZipB (by kernel_rfl) (by kernel_rfl)) (by kernel_rfl) (by kernel_rfl) (by kernel_rfl)
      (by rw [MakeChecks.laidMetH_plain _ _ _ (by kernel_rfl)]; exact laidMet_laidAll _ (by kernel_rfl) (by kernel_rfl))) ?_
  intro W base args ds gs before hval0 hW hcnd hsz hL _
  have hval : ∀ (j : Nat) t v, Tryd.f3.params[j]? = some t → args[j]? = some v → Value.okWide Tryd.prog W .any base t v := hval0
  have hW' := hW
  obtain ⟨p, q, hA0, hV, rfl, hfz, hnd⟩ := hW
  have hlt := hW'.lt
  have hA : DataW.TrodAll enc Tryd.prog W 0 (fun _ => true) true Tryd.f3.params.toList args.toList ds p := hA0
  rw [Tryd.params3] at hA hval
  obtain ⟨v0, vs0, d0, ds0, p0, q0, hargs, rfl, rfl, h0, r0⟩ := trodAll_cons hA
  obtain ⟨v1, vs1, d1, ds1, p1, q1, rfl, rfl, rfl, h1, r1⟩ := trodAll_cons r0
  obtain ⟨v2, vs2, d2, ds2, p2, q2, rfl, rfl, rfl, h2, r2⟩ := trodAll_cons r1
  obtain ⟨rfl, rfl, rfl⟩ := trodAll_nil r2
  obtain rfl : args = #[v0, v1, v2] := by cases args; simp_all
  obtain ⟨rfl, rfl⟩ := trodVars_none hV
  obtain ⟨x00, x01, x02, y00, y01, y02, n0, rfl, _, _, u00, u01, u02⟩ := open_agg3 Tryd.underlying23 (by kernel_rfl) cells23 (hval 0 23 v0 rfl rfl) h0
  obtain ⟨i00, e00, rfl, w00⟩ := DataW.trod_int Tryd.underlying3 u00
  obtain ⟨i01, e01, rfl, w01⟩ := DataW.trod_int Tryd.underlying3 u01
  obtain ⟨i02, e02, rfl, w02⟩ := DataW.trod_int Tryd.underlying3 u02
  simp only [List.cons.injEq, and_true] at e00 e01 e02
  subst e00 e01 e02
  obtain ⟨x10, x11, x12, x13, y10, y11, y12, y13, n1, rfl, _, _, u10, u11, u12, u13⟩ := open_agg4 Tryd.underlying25 (by kernel_rfl) cells25 (hval 1 25 v1 rfl rfl) h1
  obtain ⟨i10, e10, rfl, w10⟩ := DataW.trod_int Tryd.underlying3 u10
  obtain ⟨i11, e11, rfl, w11⟩ := DataW.trod_int Tryd.underlying3 u11
  obtain ⟨i12, e12, rfl, w12⟩ := DataW.trod_int Tryd.underlying3 u12
  obtain ⟨i13, e13, rfl, w13⟩ := DataW.trod_int Tryd.underlying3 u13
  simp only [List.cons.injEq, and_true] at e10 e11 e12 e13
  subst e10 e11 e12 e13
  obtain ⟨x20, x21, x22, y20, y21, y22, n2, rfl, _, _, u20, u21, u22⟩ := open_agg3 Tryd.underlying28 (by kernel_rfl) cells28 (hval 2 28 v2 rfl rfl) h2
  obtain ⟨i20, e20, rfl, w20⟩ := DataW.trod_int Tryd.underlying3 u20
  obtain ⟨i21, e21, rfl, w21⟩ := DataW.trod_int Tryd.underlying3 u21
  simp only [List.cons.injEq, and_true] at e20 e21
  subst e20 e21
  obtain ⟨s2, b2, rfl, hb2, hp2⟩ : ∃ (s : Slc) (b : List Int), x22 = .slice s.base s.len s.cap ∧ (∀ n ∈ b, (Lit.int .u8 n).wf = true) ∧ (byt s b).p (full W) := by
    rcases open_ints Tryd.underlying26 Tryd.underlying5 cells5 u22 with ⟨hcs, hx⟩ | ⟨a, len, cap, zs, hcs, hba, hle, hcap, hzl, hx, hcell, hwf⟩
    · exact ⟨⟨none, 0, 0⟩, [], by simpa using hcs, by simp, byt_full_nil W⟩
    · have hzl' : zs.length = cap := by simpa using hzl
      exact ⟨⟨some a, _, _⟩, zs.take _, by simpa using hcs, fun n hn => hwf n (List.mem_of_mem_take hn), byt_full hle hzl' hcell⟩
  refine (walk (i00, i01, i02) (i10, i11, i12, i13) (i20, i21, s2) b2 W hb2 hp2).mono fun e W' ⟨he, hg⟩ => ?_
  subst he
  exact ⟨_, rfl, post_of_kept (pv := []) hW' (fun _ _ _ => trodAll_cons_mk (shut_bool Tryd.underlying4 _) trodAll_mk0)
    (fun sp hsp => args_again hg kids fulls (by rw [Tryd.params3]; decide) hA0 (fun p hp => hsp p (by simpa using hp)) (fun p hp => hlt p (by simpa using hp))) (fun _ _ => rfl) rfl
    hg (ok_one (by kernel_rfl) rfl (okWide_bool_mk Tryd.underlying4 _))⟩

theorem over : Rows.scanSummariesRow.holds Tryd.pinned (OpenSpec.ofChange Rows.scanSummariesSpec) :=
  OpenClaim.holds_of_wide 3 Tryd.f3 rfl rfl rfl rfl rfl rfl rfl ⟨rfl, rfl, rfl, rfl, rfl⟩ rfl rfl rfl rfl rfl (by kernel_rfl) Tryd.func3 (by kernel_rfl)
    (of_decide_eq_true (by kernel_rfl)) (by unfold Func.isWrapper; first | (rw [if_pos (by decide +kernel)]; kernel_rfl) | (rw [if_neg (by decide +kernel)]; exact ⟨rfl, rfl⟩))
    (fun os started H enc _ => lifted os started H enc)

theorem proved : Rows.ScanSummariesCardSaid :=
  Claim7.holds_tied_plain_at .later [] [.data, .pinned] true (true, "d91363c9f7110007f80f29bc80de70ebb14331804f6e3ca62979841564927bb4") false over (fun _ h => by cases h) (by kernel_rfl) (fun _ h => by cases h) scanSummaries_row_tie rfl ⟨rfl, rfl⟩ (by kernel_rfl) rfl
    (fun f fn hf hfn => by
      obtain rfl : f = 3 := Option.some.inj ((show Tryd.prog.funcNamed "moraine/morainelaw08.ScanSummaries" = some 3 by kernel_rfl).symm.trans hf) |>.symm
      obtain rfl : fn = Tryd.f3 := (Option.some.inj (Tryd.func3.symm.trans hfn)).symm
      exact ⟨by kernel_rfl, fun j t ht => by
        rw [Tryd.params3] at ht
        have hm : t ∈ [23, 25, 28] := by simpa using Array.mem_of_getElem? ht
        have hall : ([23, 25, 28].all fun u => !Tryd.prog.wantsStandIn u) = true := by kernel_rfl
        exact (show Tryd.prog.wantsStandIn t = false by simpa using List.all_eq_true.1 hall t hm)⟩)
    (by kernel_rfl)
end Go.Proofs.YtldmeimebebllaaDoor.scanSummaries
