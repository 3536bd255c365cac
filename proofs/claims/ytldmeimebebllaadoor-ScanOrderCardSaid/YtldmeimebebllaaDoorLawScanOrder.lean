/-
  The statement of 'ScanOrder': it returns true for every input, and the input reads as it did.
-/
import Derived.Test.YtldmeimebebllaaDoorRows
import Derived.ProofKit
import Derived.OpenShut
import Derived.Lib.SmallJoins
import Derived.ChangeSlices
import Derived.Test.YtldmeimebebllaaDoorCards
import Derived.Test.YtldmeimebebllaaDoorTie
import Derived.Lay
import Derived.LaidMore
import Derived.SevenTiedAt
import Derived.Stop.Joined
import Derived.Test.YtldmeimebebllaaDoorPart2



namespace Go.Proofs.YtldmeimebebllaaDoor.scanOrder
open Go.Proofs.Ytldmeimebebllaa Go.ChangeShapes Go.WideShapes Go.ChangeAt Go.RowKit Go.Joins Go.Mo
set_option linter.unusedVariables false

theorem own : ownKnob Tryd.prog.godebug = none := by kernel_rfl
theorem kids : Kids Tryd.prog (· < Tryd.prog.types.size) := kids_rows (by kernel_rfl) (by kernel_rfl)
theorem fulls : ∀ t e, t < Tryd.prog.types.size → Tryd.prog.underlying t = some (.slice e) → 0 < Tryd.prog.cellsOf e := slices_full_of Tryd.prog (by kernel_rfl)
theorem cells3 : Tryd.prog.cellsOf 3 = 1 := by kernel_rfl

theorem walk (a0 : Slc) (b0 : List Int) (a1 : Int) (W : World) (hb0 : ∀ n ∈ b0, (Lit.int .i64 n).wf = true) (hH : (intsP a0 b0).p (full W)) :
    Calls Tryd.prog 4 #[.slice a0.base a0.len a0.cap, .int .i64 a1] W fun e W' => e = .returned (.bool true) ∧ Kept W W' :=
  calls_law (law08_ScanOrder_sim a0 a1 _ W (wps_run (H := intsP a0 b0) (fun g => law08_ScanOrder_spec a0 b0 a1) W hH))

def laidL : List (String × DataW Unit) := [("unicode/utf8.acceptRanges", Rows.laid_unicode_utf8_acceptRanges), ("unicode/utf8.first", Rows.laid_unicode_utf8_first)]
set_option maxRecDepth 100000 in
theorem lifted (os : Os) (started : os.Started) (H : Type) (enc : TypeId × Value → H) :
    ReturnsInHanded {} Tryd.checked os 4 .any (fun w args => (Rows.scanOrderSpec.pre enc Tryd.prog Tryd.f4 Rows.scanOrderRow.domain false w args ∧ laidMetH Tryd.prog laidL w) ∧ sizedMet enc Tryd.prog Tryd.f4 (OpenSpec.ofChange Rows.scanOrderSpec) false w args) (Rows.scanOrderSpec.post enc Tryd.prog Tryd.f4 false true false false) := by
  refine returnsInHanded_of_change_and (C := Tryd.checked) (X := fun w _ => laidMetH Tryd.prog laidL w) (fun _ _ _ hh h => h.of_heap hh) own started (by kernel_rfl) Tryd.func4
    (ChangeSpec.witness_shaped (enc := enc) (C := Tryd.checked) (os := os) (X := fun w _ => laidMetH Tryd.prog laidL w) false (World.laidAll Tryd.prog os laidL) #[.slice none 0 0, .int .i64 0] 8 (World.laidAll_os _ _ _)
      (World.shaped_of_ZipB (by kernel_rfl) (by kernel_rfl)) (by kernel_rfl) (by kernel_rfl) (by kernel_rfl)
      (by rw [MakeChecks.laidMetH_plain _ _ _ (by kernel_rfl)]; exact laidMet_laidAll _ (by kernel_rfl) (by kernel_rfl))) ?_
  intro W base args ds gs before hval0 hW hcnd hsz hL _
  have hval : ∀ (j : Nat) t v, Tryd.f4.params[j]? = some t → args[j]? = some v → Value.okWide Tryd.prog W .any base t v := hval0
  have hW' := hW
  obtain ⟨p, q, hA0, hV, rfl, hfz, hnd⟩ := hW
  have hlt := hW'.lt
  have hA : DataW.TrodAll enc Tryd.prog W 0 (fun _ => true) true Tryd.f4.params.toList args.toList ds p := hA0
  rw [Tryd.params4] at hA hval
  obtain ⟨v0, vs0, d0, ds0, p0, q0, hargs, rfl, rfl, h0, r0⟩ := trodAll_cons hA
  obtain ⟨v1, vs1, d1, ds1, p1, q1, rfl, rfl, rfl, h1, r1⟩ := trodAll_cons r0
  obtain ⟨rfl, rfl, rfl⟩ := trodAll_nil r1
  obtain rfl : args = #[v0, v1] := by cases args; simp_all
  obtain ⟨rfl, rfl⟩ := trodVars_none hV
  obtain ⟨s0, b0, rfl, hb0, hp0⟩ : ∃ (s : Slc) (b : List Int), v0 = .slice s.base s.len s.cap ∧ (∀ n ∈ b, (Lit.int .i64 n).wf = true) ∧ (intsP s b).p (full W) := by
    obtain ⟨sa, sl, sc, rfl⟩ := okWide_slice Tryd.underlying36 (hval 0 36 v0 rfl rfl)
    obtain ⟨fu, hfu⟩ := h0
    rcases open_ints Tryd.underlying36 Tryd.underlying3 cells3 hfu with ⟨hcs, hx⟩ | ⟨a, len, cap, zs, hcs, hba, hle, hcap, hzl, hx, hcell, hwf⟩
    · have hcs' : Value.slice sa sl sc = .slice none 0 0 := by simpa [Value.cells] using hcs
      cases hcs'
      exact ⟨⟨none, 0, 0⟩, [], rfl, by simp, ints_full_nil W⟩
    · have hcs' : Value.slice sa sl sc = .slice (some a) len cap := by simpa [Value.cells] using hcs
      have hzl' : zs.length = cap := by simpa using hzl
      cases hcs'
      exact ⟨⟨some a, _, _⟩, zs.take _, rfl, fun n hn => hwf n (List.mem_of_mem_take hn), ints_full hle hzl' hcell⟩
  obtain ⟨a1, rfl, _, _, w1⟩ := open_int Tryd.underlying3 (hval 1 3 v1 rfl rfl) h1
  refine (walk s0 b0 a1 W hb0 hp0).mono fun e W' ⟨he, hg⟩ => ?_
  subst he
  exact ⟨_, rfl, post_of_kept (pv := []) hW' (fun _ _ _ => trodAll_cons_mk (shut_bool Tryd.underlying4 _) trodAll_mk0)
    (fun sp hsp => args_again hg kids fulls (by rw [Tryd.params4]; decide) hA0 (fun p hp => hsp p (by simpa using hp)) (fun p hp => hlt p (by simpa using hp))) (fun _ _ => rfl) rfl
    hg (ok_one (by kernel_rfl) rfl (okWide_bool_mk Tryd.underlying4 _))⟩

theorem over : Rows.scanOrderRow.holds Tryd.pinned (OpenSpec.ofChange Rows.scanOrderSpec) :=
  OpenClaim.holds_of_wide 4 Tryd.f4 rfl rfl rfl rfl rfl rfl rfl ⟨rfl, rfl, rfl, rfl, rfl⟩ rfl rfl rfl rfl rfl (by kernel_rfl) Tryd.func4 (by kernel_rfl)
    (of_decide_eq_true (by kernel_rfl)) (by unfold Func.isWrapper; first | (rw [if_pos (by decide +kernel)]; kernel_rfl) | (rw [if_neg (by decide +kernel)]; exact ⟨rfl, rfl⟩))
    (fun os started H enc _ => lifted os started H enc)

theorem proved : Rows.ScanOrderCardSaid :=
  Claim7.holds_tied_plain_at .later [] [.data, .pinned] true (true, "d91363c9f7110007f80f29bc80de70ebb14331804f6e3ca62979841564927bb4") false over (fun _ h => by cases h) (by kernel_rfl) (fun _ h => by cases h) scanOrder_row_tie rfl ⟨rfl, rfl⟩ (by kernel_rfl) rfl
    (fun f fn hf hfn => by
      obtain rfl : f = 4 := Option.some.inj ((show Tryd.prog.funcNamed "moraine/morainelaw08.ScanOrder" = some 4 by kernel_rfl).symm.trans hf) |>.symm
      obtain rfl : fn = Tryd.f4 := (Option.some.inj (Tryd.func4.symm.trans hfn)).symm
      exact ⟨by kernel_rfl, fun j t ht => by
        rw [Tryd.params4] at ht
        have hm : t ∈ [36, 3] := by simpa using Array.mem_of_getElem? ht
        have hall : ([36, 3].all fun u => !Tryd.prog.wantsStandIn u) = true := by kernel_rfl
        exact (show Tryd.prog.wantsStandIn t = false by simpa using List.all_eq_true.1 hall t hm)⟩)
    (by kernel_rfl)
end Go.Proofs.YtldmeimebebllaaDoor.scanOrder
