/-
  The statement of 'ScanFinds': it returns true for every input, and the input reads as it did.
-/
import Derived.Test.YtldmeimebebllaaGreatDoorRows
import Derived.ProofKit
import Derived.OpenShut
import Derived.Lib.SmallJoins
import Derived.ChangeSlices
import Derived.Test.YtldmeimebebllaaGreatDoorCards
import Derived.Test.YtldmeimebebllaaGreatDoorTie
import Derived.Lay
import Derived.LaidMore
import Derived.SevenTiedAt
import Derived.Stop.Joined
import Derived.Test.YtldmeimebebllaaGreatDoorPart4





namespace Go.Proofs.YtldmeimebebllaaGreatDoor.scanFinds
open Go.Proofs.Ytldmeimebebllaa Go.ChangeShapes Go.WideShapes Go.ChangeAt Go.RowKit Go.Joins Go.Mo
set_option linter.unusedVariables false

theorem own : ownKnob Tryz.prog.godebug = none := by kernel_rfl
theorem kids : Kids Tryz.prog (· < Tryz.prog.types.size) := kids_rows (by kernel_rfl) (by kernel_rfl)
theorem fulls : ∀ t e, t < Tryz.prog.types.size → Tryz.prog.underlying t = some (.slice e) → 0 < Tryz.prog.cellsOf e := slices_full_of Tryz.prog (by kernel_rfl)
theorem cells3 : Tryz.prog.cellsOf 3 = 1 := by kernel_rfl

theorem walk (a0 : Slc) (b0 : List Int) (a1 : Int) (a2 : Int) (W : World) (hb0 : ∀ n ∈ b0, (Lit.int .i64 n).wf = true) (hH : (intsP a0 b0).p (full W)) :
    Calls Tryz.prog 4 #[.slice a0.base a0.len a0.cap, .int .i64 a1, .int .i64 a2] W fun e W' => e = .returned (.bool true) ∧ Kept W W' :=
  calls_law (law08_ScanFinds_sim a0 a1 a2 _ W (wps_run (H := intsP a0 b0) (fun g => law08_ScanFinds_spec disksOk rowsOk a0 b0 a1 a2) W hH))

def laidL : List (String × DataW Unit) := [("unicode/utf8.acceptRanges", Rows.laid_unicode_utf8_acceptRanges), ("unicode/utf8.first", Rows.laid_unicode_utf8_first)]
set_option maxRecDepth 100000 in
theorem lifted (os : Os) (started : os.Started) (H : Type) (enc : TypeId × Value → H) :
    ReturnsInHanded {} Tryz.checked os 4 .any (fun w args => (Rows.scanFindsSpec.pre enc Tryz.prog Tryz.f4 Rows.scanFindsRow.domain false w args ∧ laidMetH Tryz.prog laidL w) ∧ sizedMet enc Tryz.prog Tryz.f4 (OpenSpec.ofChange Rows.scanFindsSpec) false w args) (Rows.scanFindsSpec.post enc Tryz.prog Tryz.f4 false true false false) := by
  refine returnsInHanded_of_change_and (C := Tryz.checked) (X := fun w _ => laidMetH Tryz.prog laidL w) (fun _ _ _ hh h => h.of_heap hh) own started (by kernel_rfl) Tryz.func4
    (ChangeSpec.witness_shaped (enc := enc) (C := Tryz.checked) (os := os) (X := fun w _ => laidMetH Tryz.prog laidL w) false (World.laidAll Tryz.prog os laidL) #[.slice none 0 0, .int .i64 0, .int .i64 0] 8 (World.laidAll_os _ _ _)
      (World.shaped_of_ZipB (by kernel_rfl) (by kernel_rfl)) (by kernel_rfl) (by kernel_rfl) (by kernel_rfl)
      (by rw [MakeChecks.laidMetH_plain _ _ _ (by kernel_rfl)]; exact laidMet_laidAll _ (by kernel_rfl) (by kernel_rfl))) ?_
  intro W base args ds gs before hval0 hW hcnd hsz hL _
  have hval : ∀ (j : Nat) t v, Tryz.f4.params[j]? = some t → args[j]? = some v → Value.okWide Tryz.prog W .any base t v := hval0
  have hW' := hW
  obtain ⟨p, q, hA0, hV, rfl, hfz, hnd⟩ := hW
  have hlt := hW'.lt
  have hA : DataW.TrodAll enc Tryz.prog W 0 (fun _ => true) true Tryz.f4.params.toList args.toList ds p := hA0
  rw [Tryz.params4] at hA hval
  obtain ⟨v0, vs0, d0, ds0, p0, q0, hargs, rfl, rfl, h0, r0⟩ := trodAll_cons hA
  obtain ⟨v1, vs1, d1, ds1, p1, q1, rfl, rfl, rfl, h1, r1⟩ := trodAll_cons r0
  obtain ⟨v2, vs2, d2, ds2, p2, q2, rfl, rfl, rfl, h2, r2⟩ := trodAll_cons r1
  obtain ⟨rfl, rfl, rfl⟩ := trodAll_nil r2
  obtain rfl : args = #[v0, v1, v2] := by cases args; simp_all
  obtain ⟨rfl, rfl⟩ := trodVars_none hV
  obtain ⟨s0, b0, rfl, hb0, hp0⟩ : ∃ (s : Slc) (b : List Int), v0 = .slice s.base s.len s.cap ∧ (∀ n ∈ b, (Lit.int .i64 n).wf = true) ∧ (intsP s b).p (full W) := by
    obtain ⟨sa, sl, sc, rfl⟩ := okWide_slice Tryz.underlying36 (hval 0 36 v0 rfl rfl)
    obtain ⟨fu, hfu⟩ := h0
    rcases open_ints Tryz.underlying36 Tryz.underlying3 cells3 hfu with ⟨hcs, hx⟩ | ⟨a, len, cap, zs, hcs, hba, hle, hcap, hzl, hx, hcell, hwf⟩
    · have hcs' : Value.slice sa sl sc = .slice none 0 0 := by simpa [Value.cells] using hcs
      cases hcs'
      exact ⟨⟨none, 0, 0⟩, [], rfl, by simp, ints_full_nil W⟩
    · have hcs' : Value.slice sa sl sc = .slice (some a) len cap := by simpa [Value.cells] using hcs
      have hzl' : zs.length = cap := by simpa using hzl
      cases hcs'
      exact ⟨⟨some a, _, _⟩, zs.take _, rfl, fun n hn => hwf n (List.mem_of_mem_take hn), ints_full hle hzl' hcell⟩
  obtain ⟨a1, rfl, _, _, w1⟩ := open_int Tryz.underlying3 (hval 1 3 v1 rfl rfl) h1
  obtain ⟨a2, rfl, _, _, w2⟩ := open_int Tryz.underlying3 (hval 2 3 v2 rfl rfl) h2
  refine (walk s0 b0 a1 a2 W hb0 hp0).mono fun e W' ⟨he, hg⟩ => ?_
  subst he
  exact ⟨_, rfl, post_of_kept (pv := []) hW' (fun _ _ _ => trodAll_cons_mk (shut_bool Tryz.underlying4 _) trodAll_mk0)
    (fun sp hsp => args_again hg kids fulls (by rw [Tryz.params4]; decide) hA0 (fun p hp => hsp p (by simpa using hp)) (fun p hp => hlt p (by simpa using hp))) (fun _ _ => rfl) rfl
    hg (ok_one (by kernel_rfl) rfl (okWide_bool_mk Tryz.underlying4 _))⟩

theorem over : Rows.scanFindsRow.holds Tryz.pinned (OpenSpec.ofChange Rows.scanFindsSpec) :=
  OpenClaim.holds_of_wide 4 Tryz.f4 rfl rfl rfl rfl rfl rfl rfl ⟨rfl, rfl, rfl, rfl, rfl⟩ rfl rfl rfl rfl rfl (by kernel_rfl) Tryz.func4 (by kernel_rfl)
    (of_decide_eq_true (by kernel_rfl)) (by unfold Func.isWrapper; first | (rw [if_pos (by decide +kernel)]; kernel_rfl) | (rw [if_neg (by decide +kernel)]; exact ⟨rfl, rfl⟩))
    (fun os started H enc _ => lifted os started H enc)

theorem proved : Rows.ScanFindsCardSaid :=
  Claim7.holds_tied_plain_at .later [] [.data, .pinned] true (true, "2ade1cbe9a1752dc88a6f2e9f16f20c359c1bd21345a56af0dd6ae8708702d96") false over (fun _ h => by cases h) (by kernel_rfl) (fun _ h => by cases h) scanFinds_row_tie rfl ⟨rfl, rfl⟩ (by kernel_rfl) rfl
    (fun f fn hf hfn => by
      obtain rfl : f = 4 := Option.some.inj ((show Tryz.prog.funcNamed "moraine/morainelaw08.ScanFinds" = some 4 by kernel_rfl).symm.trans hf) |>.symm
      obtain rfl : fn = Tryz.f4 := (Option.some.inj (Tryz.func4.symm.trans hfn)).symm
      exact ⟨by kernel_rfl, fun j t ht => by
        rw [Tryz.params4] at ht
        have hm : t ∈ [36, 3, 3] := by simpa using Array.mem_of_getElem? ht
        have hall : ([36, 3, 3].all fun u => !Tryz.prog.wantsStandIn u) = true := by kernel_rfl
        exact (show Tryz.prog.wantsStandIn t = false by simpa using List.all_eq_true.1 hall t hm)⟩)
    (by kernel_rfl)
end Go.Proofs.YtldmeimebebllaaGreatDoor.scanFinds
