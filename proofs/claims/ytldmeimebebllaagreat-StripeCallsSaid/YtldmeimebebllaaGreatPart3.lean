/-
  A part of the proof: predicate transformers over the model, and a separation logic over them; what functions of the program do.
-/
import Derived.Test.YtldmeimebebllaaGreatPart2
set_option linter.unusedSimpArgs false
namespace Go.Proofs.Ytldmeimebebllaa
open Go.Mo
set_option linter.unusedVariables false
variable {g : Fr} {cv : CV}
def takeP (b : List Nat) : HP := match b with | [] => emp | [D] => po D (.deferred (some [])) | _ => pr False
theorem wps_takeB {α : Type} {H : HP} {b : List Nat} {m : M α} {Q : α → HP} (h : wps g H m Q) : wps g (H * takeP b) (takesM b m) Q := by
  match b with
  | [] => exact wps_pre (ent_left _ _) h
  | [D] => exact wps_take (D := D) (H := H * po D (.deferred (some []))) h
  | _ :: _ :: _ => exact wps_false (ent_right _ _)
def sRead (q m : G3) (R : Rk) (seg k seq : Int) : (Int × Int × List Int) × Int :=
  if blkOkB q seg k = false then ((0, 0, []), 28) else if R.off = true then ((0, 0, []), 12)
  else
    let x := if (goodV q m R (blkSpot q seg k) seq).2 = true then goodV q m R (blkSpot q seg k) seq else othV q m R (blkSpot q seg k) seq (spotsL q seg (k / (q.1 - 1)).toNat)
    if x.2 = true then (((headOf x.1).2.1, (headOf x.1).2.2, payOf x.1), 0) else ((0, 0, []), 14)
theorem parL_byts {ls : List (List Int)} (h : ∀ b ∈ ls, Byts b) : Byts ((parL ls).getD []) := by
  have hx : ∀ (a b : List Int), Byts a → Byts b → Byts (zx a b) := by
    intro a
    induction a with
    | nil => intro b _ _; rw [nil_zx]; exact fun n hn => by simp at hn
    | cons x xs ih =>
      intro b ha hb
      cases b with
      | nil => exact ha
      | cons y ys =>
        intro n hn
        simp only [zx, List.mem_cons] at hn
        rcases hn with rfl | hn
        · unfold bXor
          have hw : ∀ v : Int, 0 ≤ IntKind.u8.wrap v ∧ IntKind.u8.wrap v < 256 := fun v => by
            simp [IntKind.wrap, IntKind.bits, IntKind.signed]; omega
          exact hw _
        · exact ih ys (fun n hn => ha n (by simp [hn])) (fun n hn => hb n (by simp [hn])) n hn
  have hs : ∀ (ls : List (List Int)) (a : List Int), Byts a → (∀ b ∈ ls, Byts b) → Byts (ls.foldl (fun acc b => xorB acc (b.drop 4)) a) := by
    intro ls
    induction ls with
    | nil => intro a ha _; exact ha
    | cons b ls ih =>
      intro a ha hb
      rw [List.foldl_cons]
      refine ih _ ?_ (fun c hc => hb c (by simp [hc]))
      unfold xorB
      have hb4 := (hb b (by simp)).drop 4
      split
      · exact hx _ _ hb4 ha
      · exact hx _ _ ha hb4
  unfold parL
  split
  · rename_i hok
    simp only [Option.getD_some]
    refine Byts.app ?_ (hs ls [] (fun n hn => by simp at hn) h)
    cases ls with
    | nil => exact fun n hn => by simp at hn
    | cons a l => exact (h a (by simp)).take 4
  · exact fun n hn => by simp at hn
theorem parL_len (ls : List (List Int)) : ((parL ls).getD []).length ≤ 64 := by
  unfold parL
  split
  · rename_i hpo
    have h1 := parSum_len (ls := ls) ls.length (fun i' _ hi' => by
      rw [List.getElem?_eq_getElem hi']; exact (hpo.2 _ (List.getElem_mem hi')).1) (Nat.le_refl _)
    rw [List.take_length] at h1
    simp only [Option.getD_some, List.length_append, List.length_take, h1]
    split <;> omega
  · simp
theorem othL_byts {q m : G3} {R : Rk} (h : R.bys) (lost : Int × Int) (seq : Int) : ∀ (l : List (Int × Int)) (ls : List (List Int)), othL q m R lost seq l = some ls → ∀ b ∈ ls, Byts b
  | [], ls, ho, b, hb => by simp [othL] at ho; subst ho; simp at hb
  | s :: ss, ls, ho, b, hb => by
    rw [othL] at ho
    split at ho
    · exact othL_byts h lost seq ss ls ho b hb
    · split at ho
      · obtain ⟨l', h1, rfl⟩ := Option.map_eq_some_iff.1 ho
        rcases List.mem_cons.1 hb with rfl | hb
        · exact goodV_byts h _ _
        · exact othL_byts h lost seq ss l' h1 b hb
      · cases ho
theorem othV_byts {q m : G3} {R : Rk} (h : R.bys) (lost : Int × Int) (seq : Int) (l : List (Int × Int)) : Byts (othV q m R lost seq l).1 ∧ (othV q m R lost seq l).1.length ≤ 64 := by
  unfold othV
  cases ho : othL q m R lost seq l with
  | none => exact ⟨fun n hn => by simp at hn, by simp⟩
  | some ls => exact ⟨parL_byts (othL_byts h lost seq l ls ho), parL_len ls⟩
theorem stripe_Read_spec (hcv : RowsOk cv) (bb rb : Nat) (q m : G3) (hq : RightB q = true) (R : Rk) (hby : R.bys) (ds : Slc) (ps : List Nat) (seg k seq : Int) :
    wps g (bnk bb rb q m * rackP rb R ds ps) (stripe_Read cv (ptr bb) seg k seq) (fun x => pr (x.2 = (sRead q m R seg k seq).2 ∧ x.1.1 = (sRead q m R seg k seq).1.1 ∧ x.1.2.1 = (sRead q m R seg k seq).1.2.1) * bnk bb rb q m * rackP rb R ds ps * own 1 x.1.2.2 (bv (sRead q m R seg k seq).1.2.2)) := by
  unfold stripe_Read
  have hb := RightB.bnd hq
  have b1 := hb.d3
  have b2 := hb.d16
  have b3 := hb.r1
  have b4 := hb.r4
  have hpl := hb.places.2
  refine wps_fact (Ent.trans (ent_right _ _) rackP_good) fun hg => ?_
  refine wps_alloc fun x4 => ?_
  refine wps_alloc fun x6 => ?_
  refine wps_alloc fun x7 => ?_
  refine wps_alloc fun x8 => ?_
  refine wps_ld (ptr bb) (by rfl) ?_
  refine wps_valH (fun _ => bank_Geo_val bb rb q m) ?_
  refine wps_alloc fun x10 => ?_
  refine wps_stA (by simp) (by simp [Value.oneCell']) ?_
  refine wps_ldG q.1 q.2.1 q.2.2 (by rfl) ?_
  refine wps_ld k (by rfl) ?_
  refine wps_val (geo_Block_val q seg k) ?_
  refine wps_alloc fun x11 => ?_
  refine wps_alloc fun x12 => ?_
  by_cases hbo : blkOkB q seg k = true
  rotate_left
  · have hsr : sRead q m R seg k seq = ((0, 0, []), 28) := if_pos (by simpa using hbo)
    rw [hsr, if_neg hbo]
    refine wps_stA (by simp) (by simp [Value.oneCell']) ?_
    refine wps_st (by simp) ?_
    refine wps_ld false (by rfl) ?_
    refine wps_ite (fun _ => ?_) (fun h => absurd rfl h)
    refine wps_stA (by simp) (by simp [Value.oneCell']) ?_
    refine wps_ldA (enc := fun y : (Int × Int × Slc) => [(.int .i64 y.1), (.int .i64 y.2.1), (.slice y.2.2.base y.2.2.len y.2.2.cap)]) (0, 0, ⟨none, 0, 0⟩) (by rfl) (wps_pure ?_)
    refine ent_own0 ?_
    repeat first | (with_reducible refine ent_pick ?_) | (refine ent_prq ?_)
    all_goals first | exact ⟨rfl, rfl, rfl⟩ | trivial
  rw [if_pos hbo]
  have hbo' := hbo
  simp only [blkOkB, hq, Bool.true_and, Bool.and_eq_true, decide_eq_true_eq] at hbo'
  obtain ⟨hk, hse⟩ := hbo'
  refine wps_stA (by simp) (by simp [Value.oneCell']) ?_
  refine wps_st (by simp) ?_
  refine wps_ld true (by rfl) ?_
  refine wps_ite (fun h => absurd h (by decide)) (fun _ => ?_)
  refine wps_ld (ptr bb) (by rfl) ?_
  refine wps_val2 (fun _ => bank_Off_val bb rb q m R ds ps) ?_
  by_cases hoff : R.off = true
  · have hsr : sRead q m R seg k seq = ((0, 0, []), 12) := by unfold sRead; rw [if_neg (by simp [hbo]), if_pos hoff]
    rw [hsr]
    refine wps_ite (fun _ => ?_) (fun h => absurd hoff h)
    refine wps_stA (by simp) (by simp [Value.oneCell']) ?_
    refine wps_ldA (enc := fun y : (Int × Int × Slc) => [(.int .i64 y.1), (.int .i64 y.2.1), (.slice y.2.2.base y.2.2.len y.2.2.cap)]) (0, 0, ⟨none, 0, 0⟩) (by rfl) (wps_pure ?_)
    refine ent_own0 ?_
    repeat first | (with_reducible refine ent_pick ?_) | (refine ent_prq ?_)
    all_goals first | exact ⟨rfl, rfl, rfl⟩ | trivial
  refine wps_ite (fun h => absurd h hoff) (fun _ => ?_)
  refine wps_ld (ptr bb) (by rfl) ?_
  refine wps_ldA (blkSpot q seg k) (by rfl) ?_
  refine wps_ld seq (by rfl) ?_
  refine wps_call2 (fun _ => stripe_good_spec bb rb q m R hby ds ps (blkSpot q seg k) seq) fun x => ?_
  simp only [← star_assoc]
  refine wps_prP fun hx => ?_
  generalize hsp : blkSpot q seg k = sp at *
  refine wps_alloc fun x13 => ?_
  refine wps_st (by simp) ?_
  refine wps_st (by simp) ?_
  refine wps_ld x.2 (by rfl) ?_
  generalize hfv : (if (goodV q m R sp seq).2 = true then goodV q m R sp seq else othV q m R sp seq (spotsL q seg (k / (q.1 - 1)).toNat)) = fv
  have hsr : sRead q m R seg k seq = if fv.2 = true then (((headOf fv.1).2.1, (headOf fv.1).2.2, payOf fv.1), 0) else ((0, 0, []), 14) := by
    unfold sRead; rw [if_neg (by simp [hbo]), if_neg hoff, hsp, hfv]
  have hfb : Byts fv.1 ∧ fv.1.length ≤ 64 := by
    rw [← hfv]; split
    · exact ⟨goodV_byts hby _ _, goodV_len hg _ _⟩
    · exact othV_byts hby _ _ _
  refine wps_bindS (R := fun b => (ex fun z : Slc => bnk bb rb q m * rackP rb R ds ps * pc x8 [.int .i64 0, .int .i64 0, .slice none 0 0] * pc x12 [.bool fv.2] * pc x13 [vS z] * own 1 z (bv fv.1)) * takeP b) ?_ fun b => ?_
  · refine wps_ite (fun hgo => ?_) (fun hgo => ?_)
    · have hgo' : ¬ (goodV q m R sp seq).2 = true := by rw [← hx]; simpa using hgo
      rw [if_neg hgo'] at hfv
      refine wps_ldG q.1 q.2.1 q.2.2 (by rfl) ?_
      refine wps_bind (stripe_rows_spec q seg) fun v => ?_
      refine wps_ex fun ra => wps_ex fun rc => ?_
      rw [star_assoc, star_assoc]
      refine wps_pr fun hv => ?_
      subst hv
      have hkr := row_of_k hq hk
      refine wps_rangeX (F := emp)
        (fun i => ex fun z : Slc => ex fun f : List Int × Bool => pr ((k / (q.1 - 1)).toNat < i → f = fv) * bnk bb rb q m * rackP rb R ds ps * pc x4 [.pointer (ptr bb)] * pc x6 [.int .i64 k] * pc x7 [.int .i64 seq] * pc x8 [.int .i64 0, .int .i64 0, .slice none 0 0] * pc x10 [.int .i64 q.1, .int .i64 q.2.1, .int .i64 q.2.2] * pc x11 [.int .i64 sp.1, .int .i64 sp.2] * pc x12 [.bool f.2] * pc x13 [vS z] * own 1 z (bv f.1))
        (fun j => pr False)
        (fun i x t' => pr (t' = x) * (rowsA ra rc q seg * (rowsX q seg i x * ex fun z : Slc => ex fun f : List Int × Bool => pr ((k / (q.1 - 1)).toNat < i → f = fv) * bnk bb rb q m * rackP rb R ds ps * pc x4 [.pointer (ptr bb)] * pc x6 [.int .i64 k] * pc x7 [.int .i64 seq] * pc x8 [.int .i64 0, .int .i64 0, .slice none 0 0] * pc x10 [.int .i64 q.1, .int .i64 q.2.1, .int .i64 q.2.2] * pc x11 [.int .i64 sp.1, .int .i64 sp.2] * pc x12 [.bool f.2] * pc x13 [vS z] * own 1 z (bv f.1))))
        (rows_iter hcv ra rc q seg ⟨hq, hse.1, by omega⟩) ?_ ?_ ?_ ?_ ?_ ?_
      · refine Ent.trans ?_ (Ent.of_eq (emp_star _).symm)
        refine ent_exr x.1 (ent_exr (goodV q m R sp seq) ?_)
        simp only [← star_assoc]
        rw [hx]
        refine ent_pick (ent_pickC (by rfl) (ent_pickC (by rfl) (ent_pickC (by rfl) (ent_pickC (by rfl) (ent_pick (ent_pick (ent_pick (ent_pick (ent_pick (ent_pick (ent_prx (fun h => by omega) ?_)))))))))))
        repeat with_reducible exact ent_drop
      · intro i x hx g
        exact wps_pure (ent_prr rfl (Ent.refl _))
      · intro i y hy t' g
        refine wps_pr fun ht => ?_
        subst ht
        refine wps_exP fun z => wps_exP fun f => ?_
        simp only [← star_assoc]
        refine wps_prP fun hf => ?_
        refine wps_prP fun hyi => ?_
        refine wps_ld k (by rfl) ?_
        refine wps_ld q.1 (by rfl) ?_
        have e0 : w64 (q.1 - 1) = q.1 - 1 := w64_id (by omega) (by omega)
        rw [e0]
        refine wps_assert (by omega) ?_
        have e1 : w64 (Int.tdiv k (q.1 - 1)) = k / (q.1 - 1) := by rw [Int.tdiv_eq_ediv_of_nonneg hk.1, w64_id] <;> omega
        rw [e1, hyi]
        by_cases hik : (i : Int) = k / (q.1 - 1)
        · have hin : (k / (q.1 - 1)).toNat = i := by omega
          rw [hin] at hfv
          have hspl2 := spotsL_len q seg i b1
          refine wps_ite (fun _ => ?_) (fun h => absurd (by simpa using hik) h)
          refine wps_ld (ptr bb) (by rfl) ?_
          refine wps_ldA sp (by rfl) ?_
          refine wps_ld seq (by rfl) ?_
          refine wps_call3 (fun _ => stripe_others_spec bb rb q m R hby ds ps t'.2 (spotsL q seg i) (by omega) sp seq (H := own 2 t'.2 (sv (spotsL q seg i))) (own_rsl _ _ _)) fun y => ?_
          simp only [← star_assoc]
          refine wps_prP fun hy => ?_
          rw [hfv] at hy ⊢
          refine wps_st (by simp) ?_
          refine wps_st (by simp) (wps_pure ?_)
          show Ent _ (rowsA ra rc q seg * ex _)
          refine ent_exr y.1 (ent_exr fv ?_)
          simp only [← star_assoc]
          rw [hy]
          refine ent_pick (ent_pickC (by rfl) (ent_pickC (by rfl) (ent_pick (ent_pick (ent_pick (ent_pick (ent_pick (ent_pick (ent_pick (ent_pick (ent_prx (by simp) ?_)))))))))))
          repeat with_reducible exact ent_drop
        · refine wps_ite (fun h => absurd (by simpa using h) hik) (fun _ => wps_pure ?_)
          show Ent _ (rowsA ra rc q seg * ex _)
          refine ent_exr z (ent_exr f ?_)
          simp only [← star_assoc]
          refine ent_pick (ent_pick (ent_pick (ent_pick (ent_pick (ent_pick (ent_pick (ent_pick (ent_pick (ent_pick (ent_pick (ent_prx (fun h => hf (by omega)) ?_)))))))))))
          repeat with_reducible exact ent_drop
      · intro D
        refine wps_exP fun z => wps_exP fun f => ?_
        simp only [← star_assoc]
        refine wps_prP fun hf => ?_
        obtain rfl := hf (by omega)
        refine wps_pure ?_
        show Ent _ ((ex fun z : Slc => _) * takeP [D])
        refine Ent.trans ?_ (Ent.starl (ent_ex z (Ent.refl _)))
        show Ent _ (_ * po D _)
        repeat first | (with_reducible exact ent_drop) | (with_reducible refine ent_pick ?_)
      · intro D
        exact wps_false (fun o ho => by
          have := ent_right _ _ o (ent_left _ _ o ho)
          exact ent_right _ _ o this)
      · intro D id
        exact wps_false (fun o ho => by
          have := ent_right _ _ o (ent_left _ _ o ho)
          exact ent_right _ _ o this)
    · have hgo' : (goodV q m R sp seq).2 = true := by rw [← hx]; simpa using hgo
      rw [if_pos hgo'] at hfv
      subst hfv
      refine wps_pure ?_
      show Ent _ ((ex fun z : Slc => _) * takeP [])
      refine Ent.trans ?_ (Ent.of_eq (star_emp _).symm)
      refine ent_ex x.1 ?_
      refine ent_pick (ent_pickC (by rfl) (ent_pickC (by rw [← hx]; rfl) ?_))
      repeat first | (with_reducible exact ent_drop) | (with_reducible refine ent_pick ?_)
  · refine wps_exl fun z => ?_
    refine wps_ld fv.2 (by rfl) ?_
    by_cases hf2 : fv.2 = true
    rotate_left
    · rw [if_neg hf2] at hsr
      rw [hsr]
      refine wps_ite (fun _ => ?_) (fun h => absurd (by simpa using hf2) h)
      refine wps_stA (by simp) (by simp [Value.oneCell']) ?_
      refine wps_pre (H' := bnk bb rb q m * rackP rb R ds ps * pc x8 [.int .i64 0, .int .i64 0, .slice none 0 0] * takeP b) ?_ ?_
      · refine ent_pick (ent_pickC (by rfl) ?_)
        repeat with_reducible exact ent_drop
      refine wps_takeB ?_
      refine wps_ldA (enc := fun y : (Int × Int × Slc) => [(.int .i64 y.1), (.int .i64 y.2.1), (.slice y.2.2.base y.2.2.len y.2.2.cap)]) (0, 0, ⟨none, 0, 0⟩) (by rfl) (wps_pure ?_)
      refine ent_own0 ?_
      repeat first | (with_reducible refine ent_pick ?_) | (refine ent_prq ?_)
      all_goals first | exact ⟨rfl, rfl, rfl⟩ | trivial
    rw [if_pos hf2] at hsr
    rw [hsr]
    refine wps_ite (fun h => absurd h (by simp [hf2])) (fun _ => ?_)
    refine wps_ld z (by rfl) ?_
    refine wps_bind (sector_Decode_spec (s := z) (b := fv.1) (Ent.trans (ent_pick1 (A := own 1 z (bv fv.1))) (own_rsl _ _ _)) hfb.1 (by omega)) fun y => ?_
    simp only [← star_assoc]
    refine wps_prP fun ⟨hy, _⟩ => ?_
    refine wps_alloc fun x16 => ?_
    refine wps_stA (by simp) (by simp [Value.oneCell']) ?_
    refine wps_ld y.1.2.1 (by rfl) ?_
    refine wps_ld y.1.2.2 (by rfl) ?_
    refine wps_stA (by simp) (by simp [Value.oneCell']) ?_
    refine wps_pre (H' := bnk bb rb q m * rackP rb R ds ps * own 1 y.2.1 (bv (payOf fv.1)) * pc x8 [.int .i64 y.1.2.1, .int .i64 y.1.2.2, vS y.2.1] * takeP b) ?_ ?_
    · refine ent_pick (ent_pickC (by rfl) ?_)
      repeat first | (with_reducible exact ent_drop) | (with_reducible refine ent_pick ?_)
    refine wps_takeB ?_
    refine wps_ldA (enc := fun y : (Int × Int × Slc) => [(.int .i64 y.1), (.int .i64 y.2.1), (.slice y.2.2.base y.2.2.len y.2.2.cap)]) (y.1.2.1, y.1.2.2, y.2.1) (by rfl) (wps_pure ?_)
    rw [hy]
    repeat first | (with_reducible refine ent_pick ?_) | (refine ent_prq ?_)
    all_goals first | exact ⟨rfl, rfl, rfl⟩ | trivial
end Go.Proofs.Ytldmeimebebllaa
namespace Go.Proofs.Ytldmeimebebllaa
open Go.Mo
set_option linter.unusedVariables false
variable {g : Fr} {cv : CV}
theorem law07_Small_val {H : HP} : Val g H law07_Small (3, 3, 12) := by
  unfold law07_Small
  repeat first | (with_reducible refine wps_alloc fun _ => ?_) | (refine wps_ldG _ _ _ (by rfl) ?_) | (refine wps_stA (by simp) (by simp [Value.oneCell']) ?_) | (with_reducible exact wps_pure (ent_val rfl))
theorem law07_Open_spec {H : HP} (m : G3) : wps g H (law07_Open m) (fun x => if OpenB 4 41 (3, 3, 12) m then ex fun rb => ex fun bb => ex fun ds => ex fun ps => pr (x = (ptr bb, ptr rb)) * H * rackP rb (Rk.new 4 41) ds ps * bnk bb rb (3, 3, 12) m else pr (x = (none, none)) * H) := by
  unfold law07_Open
  refine wps_alloc fun x1 => ?_
  refine wps_val law07_Small_val ?_
  refine wps_val (geo_Sectors_val _) ?_
  rw [Small_sect]
  refine wps_callE (fun _ => device_New_spec 4 41) fun z => ?_
  rw [if_neg (by decide), show Rk.new (Int.toNat 4) (Int.toNat 41) = Rk.new 4 41 from rfl]
  refine wps_exP fun rb => ?_
  simp only [← star_assoc]
  refine wps_prP fun hz => ?_
  subst hz
  unfold rack
  refine wps_exP fun ds => wps_exP fun ps => ?_
  refine wps_val (v := false) (wps_ite (fun h => absurd h (by simp)) (fun _ => wps_pure (ent_val rfl))) ?_
  refine wps_ite (fun h => absurd h (by decide)) (fun _ => ?_)
  refine wps_regionH ?_
  refine wps_ldGI m.1 m.2.1 m.2.2 (by rfl) ?_
  refine wps_stepV law07_Small_val ?_
  refine wps_callH (fun _ => bank_Open_spec rb (Rk.new 4 41) ds ps (3, 3, 12) m) fun y => ?_
  rw [show (Rk.new 4 41).n = 4 from rfl, show (Rk.new 4 41).ns = 41 from rfl]
  by_cases ho : OpenB 4 41 (3, 3, 12) m = true
  rotate_left
  · simp only [ho, if_false, Bool.false_eq_true]
    simp only [← star_assoc]
    refine wps_prP fun hx => ?_
    subst hx
    refine wps_val (v := true) (wps_ite (fun _ => wps_pure (ent_val rfl)) (fun h => absurd rfl h)) ?_
    refine wps_ite (fun _ => wps_pure ?_) (fun h => absurd rfl h)
    repeat first | (with_reducible refine ent_pick ?_) | (refine ent_prq ?_)
    all_goals first | rfl | trivial
  simp only [ho, if_true]
  refine wps_exP fun bb => ?_
  simp only [← star_assoc]
  refine wps_prP fun hz => ?_
  subst hz
  refine wps_val (v := false) (wps_ite (fun h => absurd h (by simp)) (fun _ => wps_pure (ent_val rfl))) ?_
  refine wps_ite (fun h => absurd h (by decide)) (fun _ => wps_pure ?_)
  refine ent_ex rb (ent_ex bb (ent_ex ds (ent_ex ps ?_)))
  repeat first | (with_reducible refine ent_pick ?_) | (refine ent_prq ?_)
  all_goals first | rfl | trivial
def fitC (c : BlkA) : Prop := c.data.length ≤ 56 ∧ (0 ≤ c.owner ∧ c.owner ≤ 65535) ∧ (0 ≤ c.index ∧ c.index ≤ 65535)
def fitsL (l : List BlkA) : Prop := l.length ≤ 6 ∧ ∀ c ∈ l, fitC c
end Go.Proofs.Ytldmeimebebllaa
namespace Go.Proofs.Ytldmeimebebllaa
open Go.Mo
set_option linter.unusedVariables false
variable {g : Fr} {cv : CV}
theorem getL_putL {n : Int} (hn : 0 ≤ n) : ∀ w : Nat, getL (putL w n) = n % (256 ^ w : Nat)
  | 0 => by simp [putL, getL]
  | w + 1 => by
    have e : putL (w + 1) n = putL w n ++ [dg n w] := by simp [putL, List.range_succ]
    rw [e, getL_app, getL_putL hn w, putL_len]
    obtain ⟨N, rfl⟩ : ∃ N : Nat, n = (N : Int) := ⟨n.toNat, by omega⟩
    have h := Nat.mod_mul (x := N) (a := 256 ^ w) (b := 256)
    unfold dg
    rw [Nat.pow_succ]
    generalize 256 ^ w = M at h ⊢
    have h2 := congrArg (fun k : Nat => (k : Int)) h
    simp only [Int.natCast_emod, Int.natCast_add, Int.natCast_mul, Int.natCast_ediv] at h2
    rw [Int.natCast_mul]
    exact h2.symm
theorem getL_fits {n : Int} {w : Nat} (h : fitsN w n) : getL (putL w n) = n := by
  rw [getL_putL h.1]
  exact Int.emod_eq_of_lt h.1 h.2
theorem encL_head {seq o i : Int} {d : List Int} (h : encOk seq o i d) : headOf (encL seq o i d) = (seq, o, i) := by
  have hl := encL_len (seq := seq) (owner := o) (index := i) h.2.2.2
  have e0 : getB (encL seq o i d) 0 4 = seq := by
    unfold getB encL
    rw [List.drop_zero, List.append_assoc, List.append_assoc, List.take_append_of_le_length (by simp [putL_len]), List.take_of_length_le (by simp [putL_len]), getL_fits h.1]
  have e1 : getB (encL seq o i d) 4 2 = o := by
    unfold getB encL
    rw [List.append_assoc, List.append_assoc, List.drop_append_of_le_length (by simp [putL_len]), List.drop_of_length_le (by simp [putL_len]), List.nil_append, List.take_append_of_le_length (by simp [putL_len]), List.take_of_length_le (by simp [putL_len]), getL_fits h.2.1]
  have e2 : getB (encL seq o i d) 6 2 = i := by
    unfold getB encL
    rw [List.append_assoc (putL 4 seq ++ putL 2 o), List.drop_append_of_le_length (by simp [putL_len]), List.drop_of_length_le (by simp [putL_len]), List.nil_append, List.take_append_of_le_length (by simp [putL_len]), List.take_of_length_le (by simp [putL_len]), getL_fits h.2.2.1]
  rw [headOf, if_pos hl, e0, e1, e2]
theorem encL_pay {seq o i : Int} {d : List Int} (h : d.length ≤ 56) : payOf (encL seq o i d) = padL d 56 := by
  rw [payOf, if_pos (encL_len h)]
  unfold encL
  rw [List.drop_append_of_le_length (by simp [putL_len]), List.drop_of_length_le (by simp [putL_len]), List.nil_append]
theorem encL_take {seq o i : Int} {d : List Int} : (encL seq o i d).take 4 = putL 4 seq := by
  unfold encL
  rw [List.append_assoc, List.append_assoc, List.take_append_of_le_length (by simp [putL_len]), List.take_of_length_le (by simp [putL_len])]
theorem bx_nat {x y : Int} : bXor .u8 x y = ((BitVec.ofInt 8 x ^^^ BitVec.ofInt 8 y).toNat : Int) := by
  unfold bXor
  show IntKind.u8.wrap (((BitVec.ofInt 8 x ^^^ BitVec.ofInt 8 y).toNat : Nat) : Int) = _
  have := (BitVec.ofInt 8 x ^^^ BitVec.ofInt 8 y).isLt
  generalize (BitVec.ofInt 8 x ^^^ BitVec.ofInt 8 y).toNat = v at *
  simp [IntKind.wrap, IntKind.bits, IntKind.signed]
  omega
theorem bv_back {x : Int} (h : 0 ≤ x ∧ x < 256) : ((BitVec.ofInt 8 x).toNat : Int) = x := by
  rw [BitVec.toNat_ofInt]
  omega
theorem bv_of (v : BitVec 8) : BitVec.ofInt 8 (v.toNat : Int) = v := by
  apply BitVec.eq_of_toNat_eq
  rw [BitVec.toNat_ofInt]
  have := v.isLt
  omega
theorem bx_r {x y : Int} (h : 0 ≤ x ∧ x < 256) : bXor .u8 y (bXor .u8 x y) = x := by
  rw [bx_nat (x := x) (y := y), bx_nat, bv_of]
  have e : BitVec.ofInt 8 y ^^^ (BitVec.ofInt 8 x ^^^ BitVec.ofInt 8 y) = BitVec.ofInt 8 x := by
    rw [BitVec.xor_comm (BitVec.ofInt 8 x), ← BitVec.xor_assoc, BitVec.xor_self, BitVec.zero_xor]
  rw [e, bv_back h]
theorem bx_l {x y : Int} (h : 0 ≤ y ∧ y < 256) : bXor .u8 x (bXor .u8 x y) = y := by
  rw [bx_nat (x := x) (y := y), bx_nat, bv_of]
  have e : BitVec.ofInt 8 x ^^^ (BitVec.ofInt 8 x ^^^ BitVec.ofInt 8 y) = BitVec.ofInt 8 y := by
    rw [← BitVec.xor_assoc, BitVec.xor_self, BitVec.zero_xor]
  rw [e, bv_back h]
theorem zx_r : ∀ {a b : List Int}, a.length = b.length → Byts a → zx b (zx a b) = a
  | [], [], _, _ => rfl
  | x :: xs, y :: ys, h, ha => by
    simp only [zx]
    rw [bx_r (ha x (by simp)), zx_r (by simpa using h) (fun n hn => ha n (by simp [hn]))]
  | [], _ :: _, h, _ => by simp at h
  | _ :: _, [], h, _ => by simp at h
theorem zx_l : ∀ {a b : List Int}, a.length = b.length → Byts b → zx a (zx a b) = b
  | [], [], _, _ => rfl
  | x :: xs, y :: ys, h, hb => by
    simp only [zx]
    rw [bx_l (hb y (by simp)), zx_l (by simpa using h) (fun n hn => hb n (by simp [hn]))]
  | [], _ :: _, h, _ => by simp at h
  | _ :: _, [], h, _ => by simp at h
def par2 (a b : List Int) : List Int := a.take 4 ++ zx (a.drop 4) (b.drop 4)
theorem par2_len {a b : List Int} (ha : a.length = 64) : (par2 a b).length = 64 := by simp [par2, zx_len]; omega
theorem parL2 {a b : List Int} (ha : a.length = 64) (hb : b.length = 64) (h : b.take 4 = a.take 4) : parL [a, b] = some (par2 a b) := by
  have hok : parOk [a, b] := ⟨by simp, fun c hc => by
    simp only [List.mem_cons, List.not_mem_nil, or_false] at hc
    rcases hc with rfl | rfl
    · exact ⟨ha, rfl⟩
    · exact ⟨hb, h⟩⟩
  have e1 : xorB [] (a.drop 4) = a.drop 4 := by
    unfold xorB
    rw [if_pos (by simp; omega), zx_nil]
  have e2 : xorB (a.drop 4) (b.drop 4) = zx (a.drop 4) (b.drop 4) := by
    unfold xorB
    rw [if_neg (by simp; omega)]
  rw [parL, if_pos hok]
  show some (a.take 4 ++ xorB (xorB [] (a.drop 4)) (b.drop 4)) = _
  rw [e1, e2]; rfl
theorem par2_take {a b : List Int} (ha : a.length = 64) : (par2 a b).take 4 = a.take 4 := by
  unfold par2
  rw [List.take_append_of_le_length (by simp; omega), List.take_of_length_le (by simp; omega)]
theorem par2_drop {a b : List Int} (ha : a.length = 64) : (par2 a b).drop 4 = zx (a.drop 4) (b.drop 4) := by
  unfold par2
  rw [List.drop_append_of_le_length (by simp; omega), List.drop_of_length_le (by simp; omega), List.nil_append]
theorem lost1 {a b : List Int} (ha : a.length = 64) (hb : b.length = 64) (h : b.take 4 = a.take 4) (ba : Byts a) : parL [b, par2 a b] = some a := by
  rw [parL2 hb (par2_len ha) (by rw [par2_take ha, h]), par2, par2_drop ha, zx_r (by simp; omega) (ba.drop 4), h, List.take_append_drop]
theorem lost2 {a b : List Int} (ha : a.length = 64) (hb : b.length = 64) (h : b.take 4 = a.take 4) (bb : Byts b) : parL [a, par2 a b] = some b := by
  rw [parL2 ha (par2_len ha) (par2_take ha), par2, par2_drop ha, zx_l (by simp; omega) (bb.drop 4), ← h, List.take_append_drop]
theorem par2_byts {a b : List Int} (ha : Byts a) (hb : Byts b) (la : a.length = 64) (lb : b.length = 64) (h : b.take 4 = a.take 4) : Byts (par2 a b) := by
  have := parL_byts (ls := [a, b]) (fun c hc => by
    simp only [List.mem_cons, List.not_mem_nil, or_false] at hc
    rcases hc with rfl | rfl
    · exact ha
    · exact hb)
  rw [parL2 la lb h] at this
  exact this
end Go.Proofs.Ytldmeimebebllaa
namespace Go.Proofs.Ytldmeimebebllaa
open Go.Mo
set_option linter.unusedVariables false
variable {g : Fr} {cv : CV}
structure Bl (R : Rk) (m : G3) (b : List Int) (done : Nat → Bool) : Prop where
  calm : Calm R
  n : R.n = 4
  ns : R.ns = 41
  sec : ∀ i s : Nat, i < 3 → s < 41 → (R.dk (slotV (3, 3, 12) m i).1.toNat).sec (s : Int) = if done (i * 41 + s) = true then b else noughts
theorem slot_inj (m : G3) {i j : Nat} (hi : i < 3) (hj : j < 3) (h : (slotV (3, 3, 12) m i).1 = (slotV (3, 3, 12) m j).1) : i = j := by
  rw [(slotV_in m i hi).2, (slotV_in m j hj).2] at h
  split at h <;> split at h <;> omega
theorem Bl.write {R : Rk} {m : G3} {b : List Int} {done : Nat → Bool} (h : Bl R m b done) (hb : b.length = 64) {q r : Nat} (hq : q < 3) (hr : r < 41) :
    R.gate (slotV (3, 3, 12) m q).1 r b.length = 0 ∧ Bl (R.write (slotV (3, 3, 12) m q).1 r b) m b (fun k => if k = q * 41 + r then true else done k) := by
  have hrg := slot_range m q hq
  have hw := h.calm.write (k := (slotV (3, 3, 12) m q).1) (s := r) (b := b) (by rw [h.n]; exact hrg) (by rw [h.ns]; omega) hb
  refine ⟨hw.1, ?_⟩
  rw [hw.2]
  refine ⟨h.calm.put _ _ _, h.n, h.ns, fun i s hi hs => ?_⟩
  rw [put_sec, h.sec i s hi hs]
  have hri := slot_range m i hi
  by_cases h1 : i = q
  · subst h1
    by_cases h2 : s = r
    · subst h2; simp
    · have h4 : ¬ (s : Int) = (r : Int) := by omega
      have h3 : ¬ i * 41 + s = i * 41 + r := by omega
      rw [if_neg (fun e => h4 e.2), if_neg h3]
  · have h2 : ¬ (slotV (3, 3, 12) m i).1.toNat = (slotV (3, 3, 12) m q).1.toNat := fun e => h1 (slot_inj m hi hq (by omega))
    have h3 : ¬ i * 41 + s = q * 41 + r := by omega
    simp [h2, h3]
end Go.Proofs.Ytldmeimebebllaa
namespace Go.Proofs.Ytldmeimebebllaa
open Go.Mo
set_option linter.unusedVariables false
variable {g : Fr} {cv : CV}
def spt (seg r : Nat) (i : Nat) : Int × Int := (if i = 2 then 2 - (((seg * 3 + r) % 3 : Nat) : Int) else ((((3 + i) - (seg * 3 + r) % 3) % 3 : Nat) : Int), (5 + (seg * 3 + r) : Nat))
theorem spotsL_small (seg r : Nat) : spotsL (3, 3, 12) seg r = [spt seg r 0, spt seg r 1, spt seg r 2] := by
  have e2 : ((3 : Int) - 1).toNat = 2 := rfl
  unfold spotsL
  rw [show ((3, 3, 12) : G3).1 = 3 from rfl, e2]
  simp only [List.range_succ, List.range_zero, List.nil_append, List.map_cons, List.map_nil, List.cons_append]
  have h0 : blkSpot (3, 3, 12) seg ((r : Int) * (3 - 1) + ((0 : Nat) : Int)) = spt seg r 0 := by
    unfold blkSpot rowOf spt
    have : ((r : Int) * (3 - 1) + ((0 : Nat) : Int)) / (3 - 1) = r := by omega
    simp only [this]
    refine Prod.ext ?_ ?_
    · show (3 - 1 - ((seg : Int) * 3 + r) % 3 + 1 + ((r : Int) * (3 - 1) + ((0 : Nat) : Int)) % (3 - 1)) % 3 = _
      simp only [if_neg (show ¬ (0 : Nat) = 2 by decide)]
      omega
    · show (5 + ((seg : Int) * 3 + r) : Int) = _
      simp
  have h1 : blkSpot (3, 3, 12) seg ((r : Int) * (3 - 1) + ((1 : Nat) : Int)) = spt seg r 1 := by
    unfold blkSpot rowOf spt
    have : ((r : Int) * (3 - 1) + ((1 : Nat) : Int)) / (3 - 1) = r := by omega
    simp only [this]
    refine Prod.ext ?_ ?_
    · show (3 - 1 - ((seg : Int) * 3 + r) % 3 + 1 + ((r : Int) * (3 - 1) + ((1 : Nat) : Int)) % (3 - 1)) % 3 = _
      simp only [if_neg (show ¬ (1 : Nat) = 2 by decide)]
      omega
    · show (5 + ((seg : Int) * 3 + r) : Int) = _
      simp
  have h2 : parSpot (3, 3, 12) seg r = spt seg r 2 := by
    unfold parSpot rowOf spt
    refine Prod.ext ?_ ?_
    · show (3 - 1 - ((seg : Int) * 3 + r) % 3) = _
      simp only [if_true]
      omega
    · show (5 + ((seg : Int) * 3 + r) : Int) = _
      simp
  rw [h0, h1, h2]
theorem spt_rng {seg r i : Nat} (hs : seg < 12) (hr : r < 3) (hi : i < 3) : (0 ≤ (spt seg r i).1 ∧ (spt seg r i).1 < 3) ∧ (5 ≤ (spt seg r i).2 ∧ (spt seg r i).2 < 41) := by
  unfold spt
  refine ⟨?_, ?_⟩
  · simp only
    split <;> omega
  · simp only
    omega
theorem spt_inj {seg seg' r r' i i' : Nat} (hr : r < 3) (hr' : r' < 3) (hi : i < 3) (hi' : i' < 3) (h : spt seg r i = spt seg' r' i') : seg = seg' ∧ r = r' ∧ i = i' := by
  unfold spt at h
  have h1 := congrArg Prod.fst h
  have h2 := congrArg Prod.snd h
  simp only at h1 h2
  have h3 : seg = seg' := by omega
  have h4 : r = r' := by omega
  subst h3 h4
  refine ⟨rfl, rfl, ?_⟩
  split at h1 <;> split at h1 <;> omega
def lastW (es : List ((Int × Int) × List Int)) (x : Int × Int) (d : List Int) : List Int := es.foldl (fun d e => if e.1 = x then e.2 else d) d
theorem lastW_not {es : List ((Int × Int) × List Int)} {x : Int × Int} : ∀ {d : List Int}, (∀ e ∈ es, e.1 ≠ x) → lastW es x d = d := by
  induction es with
  | nil => intro d _; rfl
  | cons e es ih =>
    intro d h
    show lastW es x (if e.1 = x then e.2 else d) = d
    rw [if_neg (h e (by simp))]
    exact ih fun e' h' => h e' (by simp [h'])
theorem lastW_mem {es : List ((Int × Int) × List Int)} {x : Int × Int} {v : List Int} : ∀ {d : List Int}, (es.map (·.1)).Nodup → (x, v) ∈ es → lastW es x d = v := by
  induction es with
  | nil => intro d _ h; simp at h
  | cons e es ih =>
    intro d hn h
    simp only [List.map_cons, List.nodup_cons] at hn
    show lastW es x (if e.1 = x then e.2 else d) = v
    rcases List.mem_cons.1 h with h | h
    · subst h
      rw [if_pos rfl]
      exact lastW_not fun e' h' he => hn.1 (by rw [List.mem_map]; exact ⟨e', h', he⟩)
    · exact ih hn.2 h
theorem Rk.bys.put {R : Rk} (h : R.bys) {k s : Int} {b : List Int} (hb : Byts b) : (R.put k s b).bys := fun j => by
  simp only [Rk.put]
  split
  · refine ⟨(h j).1, fun i c hc => ?_⟩
    simp only at hc
    split at hc
    · cases hc; exact hb
    · exact (h j).2 i c hc
  · exact h j
theorem Rk.bys_new (n s : Nat) : (Rk.new n s).bys := fun j => ⟨fun k n hn => by
  have : n = 0 := by simp [Rk.new, Dk.new, noughts] at hn; exact hn
  omega, fun i c hc => by simp [Rk.new, Dk.new] at hc⟩
structure Wrote (m : G3) (es : List ((Int × Int) × List Int)) (R R1 : Rk) : Prop where
  calm : Calm R1
  n : R1.n = 4
  ns : R1.ns = 41
  sec : ∀ (i : Nat) (s : Int), i < 3 → (R1.dk (slotV (3, 3, 12) m i).1.toNat).sec s = lastW es ((i : Int), s) ((R.dk (slotV (3, 3, 12) m i).1.toNat).sec s)
  lasts : ∀ j k, (R1.dk j).lasts k = (R.dk j).lasts k
  bys : R.bys → (∀ e ∈ es, Byts e.2) → R1.bys
theorem wr_calm (m : G3) : ∀ (es : List ((Int × Int) × List Int)) (R : Rk), Calm R → R.n = 4 → R.ns = 41 → (∀ e ∈ es, (0 ≤ e.1.1 ∧ e.1.1 < 3) ∧ (0 ≤ e.1.2 ∧ e.1.2 < 41) ∧ e.2.length = 64) →
    (wrAll (3, 3, 12) m es R).2 = false ∧ Wrote m es R (wrAll (3, 3, 12) m es R).1
  | [], R, h, hn, hs, _ => ⟨rfl, h, hn, hs, fun _ _ _ => rfl, fun _ _ => rfl, fun h _ => h⟩
  | e :: es, R, h, hn, hs, he => by
    obtain ⟨⟨a0, a1⟩, ⟨b0, b1⟩, hl⟩ := he e (by simp)
    obtain ⟨i0, hi0⟩ : ∃ i0 : Nat, e.1.1 = (i0 : Int) := ⟨e.1.1.toNat, by omega⟩
    have hi3 : i0 < 3 := by omega
    have hsl := slotV_in m i0 hi3
    have hrg := slot_range m i0 hi3
    have hw := h.write (k := (slotV (3, 3, 12) m e.1.1).1) (s := e.1.2) (b := e.2) (by rw [hi0, hn]; exact hrg) (by rw [hs]; omega) hl
    have hg : bgate (3, 3, 12) m R e.1 e.2 = 0 := by unfold bgate; rw [hi0, hsl.1, if_pos rfl, ← hi0]; exact hw.1
    have hb : bwrite (3, 3, 12) m R e.1 e.2 = R.put (slotV (3, 3, 12) m e.1.1).1 e.1.2 e.2 := by unfold bwrite; rw [hi0, hsl.1, if_pos rfl, ← hi0]; exact hw.2
    rw [wrAll, hg, if_neg (by decide), hb]
    have ih := wr_calm m es (R.put (slotV (3, 3, 12) m e.1.1).1 e.1.2 e.2) (h.put _ _ _) hn hs (fun e' h' => he e' (by simp [h']))
    refine ⟨ih.1, ih.2.calm, ih.2.n, ih.2.ns, fun i s hi => ?_, fun j k => ?_, fun hby hbe => ?_⟩
    · rw [ih.2.sec i s hi, put_sec]
      show lastW es _ _ = lastW es _ (if e.1 = ((i : Int), s) then e.2 else _)
      congr 1
      have hri := slot_range m i hi
      by_cases h1 : e.1 = ((i : Int), s)
      · rw [if_pos h1, if_pos]
        rw [h1]; exact ⟨rfl, rfl⟩
      · rw [if_neg h1, if_neg]
        rintro ⟨h2, h3⟩
        apply h1
        refine Prod.ext ?_ h3.symm
        show e.1.1 = (i : Int)
        rw [hi0] at h2 ⊢
        have := slot_inj m hi hi3 (by omega)
        omega
    · rw [ih.2.lasts]
      simp only [Rk.put]; split <;> rfl
    · exact ih.2.bys (hby.put (hbe e (by simp))) fun e' h' => hbe e' (by simp [h'])
end Go.Proofs.Ytldmeimebebllaa
namespace Go.Proofs.Ytldmeimebebllaa
open Go.Mo
set_option linter.unusedVariables false
variable {g : Fr} {cv : CV}
abbrev Q3 : G3 := (3, 3, 12)
theorem nBlk3 : nBlk Q3 = 6 := rfl
structure EncD (seq : Int) (l : List BlkA) : Prop where
  all : encAll seq l 6 = true
  byts : ∀ c ∈ l, Byts c.data
theorem EncD.ok {seq : Int} {l : List BlkA} (h : EncD seq l) {k : Nat} (hk : k < 6) : encOk seq (blkAt l k).owner (blkAt l k).index (blkAt l k).data := encAll_iff.1 h.all k hk
theorem blkAt_byts {l : List BlkA} (h : ∀ c ∈ l, Byts c.data) (k : Nat) : Byts (blkAt l k).data := by
  unfold blkAt
  by_cases hk : k < l.length
  · rw [List.getD_eq_getElem?_getD, List.getElem?_eq_getElem hk]; exact h _ (List.getElem_mem hk)
  · rw [List.getD_eq_getElem?_getD, List.getElem?_eq_none (by omega)]; exact fun n hn => by simp [BlkA.nil] at hn
theorem EncD.len {seq : Int} {l : List BlkA} (h : EncD seq l) {k : Nat} (hk : k < 6) : (encAt seq l k).length = 64 := encL_len (h.ok hk).2.2.2
theorem EncD.by {seq : Int} {l : List BlkA} (h : EncD seq l) (k : Nat) : Byts (encAt seq l k) := encL_byts (blkAt_byts h.byts k)
theorem encAt_take {seq : Int} {l : List BlkA} {k : Nat} : (encAt seq l k).take 4 = putL 4 seq := encL_take
theorem dat_blk {seq : Int} {l : List BlkA} {r i : Nat} (hi : i < 2) : datAt Q3 seq l r i = encAt seq l (r * 2 + i) := by
  unfold datAt
  rw [show ((Q3.1 - 1).toNat) = 2 from rfl, if_pos hi]
theorem dat_par {seq : Int} {l : List BlkA} {r : Nat} (h : EncD seq l) (hr : r < 3) : datAt Q3 seq l r 2 = par2 (encAt seq l (r * 2)) (encAt seq l (r * 2 + 1)) := by
  unfold datAt
  rw [show ((Q3.1 - 1).toNat) = 2 from rfl, if_neg (by decide)]
  have e : rowL Q3 seq l r = [encAt seq l (r * 2), encAt seq l (r * 2 + 1)] := by
    unfold rowL
    rw [show ((Q3.1 - 1).toNat) = 2 from rfl]
    rfl
  rw [e, parL2 (h.len (by omega)) (h.len (by omega)) (by rw [encAt_take, encAt_take])]; rfl
structure DatOk (seq : Int) (d : List Int) : Prop where
  len : d.length = 64
  byts : Byts d
  take : d.take 4 = putL 4 seq
theorem EncD.dat {seq : Int} {l : List BlkA} (h : EncD seq l) {r i : Nat} (hr : r < 3) (hi : i < 3) : DatOk seq (datAt Q3 seq l r i) := by
  have h1 := h.len (k := r * 2) (by omega)
  have h2 := h.len (k := r * 2 + 1) (by omega)
  have ht : (encAt seq l (r * 2 + 1)).take 4 = (encAt seq l (r * 2)).take 4 := by rw [encAt_take, encAt_take]
  by_cases h3 : i < 2
  · rw [dat_blk h3]
    exact ⟨h.len (by omega), h.by _, encAt_take⟩
  · obtain rfl : i = 2 := by omega
    rw [dat_par h hr]
    exact ⟨par2_len h1, par2_byts (h.by _) (h.by _) h1 h2 ht, by rw [par2_take h1, encAt_take]⟩
theorem DatOk.head {seq : Int} {d : List Int} (h : DatOk seq d) (hs : fitsN 4 seq) : (headOf d).1 = seq := by
  rw [headOf, if_pos h.len]
  show getB d 0 4 = seq
  unfold getB
  rw [List.drop_zero, h.take, getL_fits hs]
theorem rowW3 (seg : Nat) (seq : Int) (l : List BlkA) (r : Nat) : rowW Q3 seg seq l r = (List.range 3).map fun i => (spt seg r i, datAt Q3 seq l r i) := by
  unfold rowW
  rw [show Q3.1.toNat = 3 from rfl]
  have := spotsL_small seg r
  rw [this]
  rfl
theorem restW3 (seg : Nat) (seq : Int) (l : List BlkA) : restW Q3 seg seq l 0 = (List.range 9).map fun t => (spt seg (t / 3) (t % 3), datAt Q3 seq l (t / 3) (t % 3)) := by
  unfold restW
  rw [List.drop_zero, show Q3.2.1.toNat = 3 from rfl]
  show rowW Q3 seg seq l 0 ++ (rowW Q3 seg seq l 1 ++ (rowW Q3 seg seq l 2 ++ [])) = _
  rw [rowW3, rowW3, rowW3]
  rfl
theorem allS3 (seg : Nat) : allS Q3 seg 0 = (List.range 9).map fun t => spt seg (t / 3) (t % 3) := by
  unfold allS
  rw [List.drop_zero, show Q3.2.1.toNat = 3 from rfl]
  show spotsL Q3 seg ((0 : Nat)) ++ (spotsL Q3 seg ((1 : Nat)) ++ (spotsL Q3 seg ((2 : Nat)) ++ [])) = _
  rw [spotsL_small, spotsL_small, spotsL_small]
  rfl
theorem restW_nodup (seg : Nat) (seq : Int) (l : List BlkA) : ((restW Q3 seg seq l 0).map (·.1)).Nodup := by
  rw [restW3, List.map_map, List.Nodup, List.pairwise_map]
  refine List.Pairwise.imp_of_mem ?_ List.pairwise_lt_range
  intro a b ha hb hlt h
  have ha' : a < 9 := List.mem_range.1 ha
  have hb' : b < 9 := List.mem_range.1 hb
  have := spt_inj (by omega) (by omega) (by omega) (by omega) h
  omega
def Seg (m : G3) (R : Rk) (seg : Nat) (seq : Int) (l : List BlkA) : Prop := ∀ r i, r < 3 → i < 3 → (R.dk (slotV Q3 m (spt seg r i).1).1.toNat).sec (spt seg r i).2 = datAt Q3 seq l r i
theorem spt_slot {seg r i : Nat} (hs : seg < 12) (hr : r < 3) (hi : i < 3) : ∃ j : Nat, j < 3 ∧ (spt seg r i).1 = (j : Int) := ⟨(spt seg r i).1.toNat, by have := (spt_rng hs hr hi).1; omega, by have := (spt_rng hs hr hi).1; omega⟩
theorem seg_wrote {m : G3} {R : Rk} {seg : Nat} {seq : Int} {l : List BlkA} (hs : seg < 12) (h : EncD seq l) (hc : Calm R) (hn : R.n = 4) (hns : R.ns = 41) :
    (wrAll Q3 m (restW Q3 seg seq l 0) R).2 = false ∧ Wrote m (restW Q3 seg seq l 0) R (wrAll Q3 m (restW Q3 seg seq l 0) R).1 ∧ Seg m (wrAll Q3 m (restW Q3 seg seq l 0) R).1 seg seq l ∧
      (R.bys → (wrAll Q3 m (restW Q3 seg seq l 0) R).1.bys) ∧ ∀ seg' seq' l', seg' < 12 → seg' ≠ seg → Seg m R seg' seq' l' → Seg m (wrAll Q3 m (restW Q3 seg seq l 0) R).1 seg' seq' l' := by
  have hmem : ∀ e ∈ restW Q3 seg seq l 0, ∃ r i, r < 3 ∧ i < 3 ∧ e = (spt seg r i, datAt Q3 seq l r i) := fun e he => by
    rw [restW3, List.mem_map] at he
    obtain ⟨t, ht, rfl⟩ := he
    have := List.mem_range.1 ht
    exact ⟨t / 3, t % 3, by omega, by omega, rfl⟩
  have hw := wr_calm m (restW Q3 seg seq l 0) R hc hn hns (fun e he => by
    obtain ⟨r, i, hr, hi, rfl⟩ := hmem e he
    have hrg := spt_rng hs hr hi
    exact ⟨hrg.1, ⟨by have := hrg.2.1; show 0 ≤ (spt seg r i).2; omega, hrg.2.2⟩, (h.dat hr hi).len⟩)
  refine ⟨hw.1, hw.2, fun r i hr hi => ?_, fun hby => hw.2.bys hby fun e he => ?_, fun seg' seq' l' hs' hne hold r i hr hi => ?_⟩
  · obtain ⟨j, hj, hje⟩ := spt_slot hs hr hi
    rw [hje, hw.2.sec j _ hj]
    refine lastW_mem (restW_nodup seg seq l) ?_
    rw [restW3, List.mem_map]
    refine ⟨r * 3 + i, List.mem_range.2 (by omega), ?_⟩
    rw [show (r * 3 + i) / 3 = r by omega, show (r * 3 + i) % 3 = i by omega, ← hje]
  · obtain ⟨r, i, hr, hi, rfl⟩ := hmem e he
    exact (h.dat hr hi).byts
  · obtain ⟨j, hj, hje⟩ := spt_slot hs' hr hi
    rw [hje, hw.2.sec j _ hj, lastW_not, ← hje]
    · exact hold r i hr hi
    · intro e he heq
      obtain ⟨r', i', hr', hi', rfl⟩ := hmem e he
      rw [← hje] at heq
      have := spt_inj (seg := seg) (seg' := seg') hr' hr hi' hi heq
      omega
end Go.Proofs.Ytldmeimebebllaa
namespace Go.Proofs.Ytldmeimebebllaa
open Go.Mo
set_option linter.unusedVariables false
variable {g : Fr} {cv : CV}
theorem tick_same (D : Dk) : D.tick.cached = D.cached ∧ D.tick.lasts = D.lasts := by
  unfold Dk.tick
  repeat' split
  all_goals exact ⟨rfl, rfl⟩
structure SameS (R R1 : Rk) : Prop where
  sec : ∀ j (s : Nat), (R1.dk j).sec (s : Int) = (R.dk j).sec (s : Int)
  bys : R.bys → R1.bys
  n : R1.n = R.n
  ns : R1.ns = R.ns
theorem SameS.refl (R : Rk) : SameS R R := ⟨fun _ _ => rfl, id, rfl, rfl⟩
theorem SameS.trans {A B C : Rk} (h : SameS A B) (h' : SameS B C) : SameS A C := ⟨fun j s => (h'.sec j s).trans (h.sec j s), fun x => h'.bys (h.bys x), h'.n.trans h.n, h'.ns.trans h.ns⟩
theorem SameS.ticked (R : Rk) : SameS R R.ticked := by
  unfold Rk.ticked
  split
  · exact ⟨fun _ _ => rfl, fun h => h, rfl, rfl⟩
  · refine ⟨fun j s => ?_, fun h j => ?_, rfl, rfl⟩
    · show ((R.dk j).tick).sec s = _
      unfold Dk.sec
      rw [(tick_same _).1, (tick_same _).2]
    · have := tick_same (R.dk j)
      show (R.dk j).tick.bys
      unfold Dk.bys
      rw [this.1, this.2]
      exact h j
theorem SameS.gated (R : Rk) (k s size : Int) : SameS R (R.gated k s size) := by
  unfold Rk.gated
  split
  · exact .refl R
  · exact .ticked R
theorem clean_sec (D : Dk) (s : Nat) : ((D.flushed fun _ => true).clean).sec (s : Int) = D.sec (s : Int) := by
  simp only [Dk.flushed, Dk.clean, Dk.sec, Int.toNat_natCast]
  cases D.cached (s : Int) <;> rfl
theorem clean_bys {D : Dk} (h : D.bys) (p : Int → Bool) : ((D.flushed p).clean).bys := by
  refine ⟨fun k => ?_, fun j b hb => by simp [Dk.clean] at hb⟩
  simp only [Dk.flushed, Dk.clean]
  cases hc : D.cached (k : Int) with
  | none => exact h.1 k
  | some b =>
    simp only
    split
    · exact h.2 _ _ hc
    · exact h.1 k
theorem SameS.flush (R : Rk) (k : Int) : SameS R (R.flush k) := by
  unfold Rk.flush
  have hg := SameS.gated R k 0 64
  split
  · refine hg.trans ⟨fun j s => ?_, fun h j => ?_, rfl, rfl⟩
    · simp only [Rk.setD]
      split
      · rename_i hj; subst hj; exact clean_sec _ s
      · rfl
    · simp only [Rk.setD]
      split
      · exact clean_bys (h _) _
      · exact h j
  · exact hg
theorem SameS.flushL : ∀ (xs : List Int) (R : Rk), SameS R (flushL xs R).1
  | [], R => .refl R
  | d :: xs, R => by
    unfold Go.Proofs.Ytldmeimebebllaa.flushL
    split
    · exact .flush R d
    · exact (SameS.flush R d).trans (SameS.flushL xs _)
theorem SameS.doom (R : Rk) (k c : Int) : SameS R (R.doom k c) := by
  unfold Rk.doom
  split
  · exact .refl R
  · refine ⟨fun j s => ?_, fun h j => ?_, rfl, rfl⟩
    · simp only [Rk.setD]
      split
      · rename_i hj; subst hj; rfl
      · rfl
    · simp only [Rk.setD]
      split
      · rename_i hj; subst hj; exact h _
      · exact h j
theorem Seg.same {m : G3} {R R1 : Rk} {seg : Nat} {seq : Int} {l : List BlkA} (h : Seg m R seg seq l) (hs : SameS R R1) : Seg m R1 seg seq l := fun r i hr hi => by
  have e : (spt seg r i).2 = ((5 + (seg * 3 + r) : Nat) : Int) := rfl
  rw [← h r i hr hi, e, hs.sec]
theorem armed_doom {R : Rk} (h : Calm R) {f : Int} (hf : 0 ≤ f ∧ f < R.n) : Armed (R.doom f 0) (fun j => decide (j = f.toNat)) := by
  unfold Rk.doom
  rw [if_neg (by omega)]
  refine ⟨h.off, h.count, fun j => ?_, fun j => ?_⟩
  · simp only [Rk.setD]; split <;> simp [h.failed]
  · simp only [Rk.setD]
    by_cases hj : j = f.toNat
    · subst hj; simp [maxI]
    · simp [hj, h.counts]
theorem sec_brd {m : G3} {R : Rk} {f : Nat → Bool} (h : Settled R f) (hn : R.n = 4) (hns : R.ns = 41) {s : Int × Int} (h1 : 0 ≤ s.1 ∧ s.1 < 3) (h2 : 0 ≤ s.2 ∧ s.2 < 41) :
    brdE Q3 m R s = (if f (slotV Q3 m s.1).1.toNat = true then 13 else 0) ∧ (f (slotV Q3 m s.1).1.toNat = false → brd Q3 m R s = (R.dk (slotV Q3 m s.1).1.toNat).sec s.2) := by
  obtain ⟨i, hi⟩ : ∃ i : Nat, s.1 = (i : Int) := ⟨s.1.toNat, by omega⟩
  have hi3 : i < 3 := by omega
  have hsl := slotV_in m i hi3
  have hrg : 0 ≤ (slotV Q3 m i).1 ∧ (slotV Q3 m i).1 < 4 := slot_range m i hi3
  unfold brdE brd
  rw [hi]
  have hr : ¬ ((slotV Q3 m i).1 < 0 ∨ (slotV Q3 m i).1 ≥ (R.n : Int) ∨ s.2 < 0 ∨ s.2 ≥ (R.ns : Int)) := by
    rw [hn, hns]
    omega
  have hE : R.rdErr (slotV Q3 m i).1 s.2 = if f (slotV Q3 m i).1.toNat = true then 13 else 0 := by
    unfold Rk.rdErr
    rw [if_neg (by simp [h.off]), if_neg hr, h.failed]
  rw [show (slotV Q3 m i).2 = true from hsl.1, if_pos rfl, if_pos rfl]
  refine ⟨hE, fun hf => ?_⟩
  unfold Rk.rd
  rw [hE, hf]
  simp
end Go.Proofs.Ytldmeimebebllaa
namespace Go.Proofs.Ytldmeimebebllaa
open Go.Mo
set_option linter.unusedVariables false
variable {g : Fr} {cv : CV}
structure SegF (m : G3) (R : Rk) (f : Nat → Bool) (seg : Nat) (seq : Int) (l : List BlkA) : Prop where
  set : Settled R f
  n : R.n = 4
  ns : R.ns = 41
  there : Seg m R seg seq l
  enc : EncD seq l
  s12 : seg < 12
  fit : fitsN 4 seq
def lostS (m : G3) (f : Nat → Bool) (i : Nat) : Bool := f (slotV Q3 m i).1.toNat
theorem SegF.good {m : G3} {R : Rk} {f : Nat → Bool} {seg : Nat} {seq : Int} {l : List BlkA} (h : SegF m R f seg seq l) {r i : Nat} (hr : r < 3) (hi : i < 3) :
    goodV Q3 m R (spt seg r i) seq = if lostS m f (spt seg r i).1.toNat = true then ([], false) else (datAt Q3 seq l r i, true) := by
  have hrg := spt_rng h.s12 hr hi
  have hb := sec_brd (m := m) h.set h.n h.ns (s := spt seg r i) hrg.1 (by omega)
  have hL : lostS m f (spt seg r i).1.toNat = f (slotV Q3 m (spt seg r i).1).1.toNat := by
    unfold lostS
    rw [show (((spt seg r i).1.toNat : Nat) : Int) = (spt seg r i).1 by omega]
  unfold goodV
  rw [hL, hb.1]
  cases hf : f (slotV Q3 m (spt seg r i).1).1.toNat with
  | true => simp
  | false =>
    rw [hb.2 hf, h.there r i hr hi]
    have := ((h.enc.dat hr hi).head h.fit)
    simp [this]
def oneLost (m : G3) (f : Nat → Bool) : Prop := ∀ i j, i < 3 → j < 3 → lostS m f i = true → lostS m f j = true → i = j
theorem spt_ne {seg r i j : Nat} (hr : r < 3) (hi : i < 3) (hj : j < 3) (h : i ≠ j) : spt seg r i ≠ spt seg r j := fun e => h (spt_inj hr hr hi hj e).2.2
theorem spt_slot_ne {seg r i j : Nat} (hr : r < 3) (hi : i < 3) (hj : j < 3) (hs : seg < 12) (h : i ≠ j) : (spt seg r i).1.toNat ≠ (spt seg r j).1.toNat := fun e => by
  have h1 := (spt_rng hs hr hi).1
  have h2 := (spt_rng hs hr hj).1
  exact spt_ne (seg := seg) hr hi hj h (Prod.ext (by omega) rfl)
theorem SegF.oth {m : G3} {R : Rk} {f : Nat → Bool} {seg : Nat} {seq : Int} {l : List BlkA} (h : SegF m R f seg seq l) {r i : Nat} (hr : r < 3) (hi : i < 3) (ho : ∀ j, j < 3 → j ≠ i → lostS m f (spt seg r j).1.toNat = false) :
    othV Q3 m R (spt seg r i) seq (spotsL Q3 seg r) = (datAt Q3 seq l r i, true) := by
  have hg : ∀ j, j < 3 → j ≠ i → goodV Q3 m R (spt seg r j) seq = (datAt Q3 seq l r j, true) := fun j hj hne => by
    rw [h.good hr hj, ho j hj hne]; simp
  have hs := spotsL_small seg r
  rw [show spotsL Q3 seg r = [spt seg r 0, spt seg r 1, spt seg r 2] from hs]
  have h0 := h.enc.dat (r := r) (i := 0) hr (by decide)
  have h1 := h.enc.dat (r := r) (i := 1) hr (by decide)
  have e0 : datAt Q3 seq l r 0 = encAt seq l (r * 2) := dat_blk (by decide)
  have e1 : datAt Q3 seq l r 1 = encAt seq l (r * 2 + 1) := dat_blk (by decide)
  have ht : (encAt seq l (r * 2 + 1)).take 4 = (encAt seq l (r * 2)).take 4 := by rw [encAt_take, encAt_take]
  have l0 : (encAt seq l (r * 2)).length = 64 := e0 ▸ h0.len
  have l1 : (encAt seq l (r * 2 + 1)).length = 64 := e1 ▸ h1.len
  have hp := dat_par h.enc hr
  unfold othV
  have hi' : i = 0 ∨ i = 1 ∨ i = 2 := by omega
  rcases hi' with rfl | rfl | rfl
  · have n1 := spt_ne (seg := seg) hr (i := 1) (j := 0) (by decide) (by decide) (by decide)
    have n2 := spt_ne (seg := seg) hr (i := 2) (j := 0) (by decide) (by decide) (by decide)
    simp only [othL, if_true, if_neg n1, if_neg n2, hg 1 (by decide) (by decide), hg 2 (by decide) (by decide), Option.map_some]
    rw [e1, hp, e0, lost1 l0 l1 ht (h.enc.by _)]; rfl
  · have n1 := spt_ne (seg := seg) hr (i := 0) (j := 1) (by decide) (by decide) (by decide)
    have n2 := spt_ne (seg := seg) hr (i := 2) (j := 1) (by decide) (by decide) (by decide)
    simp only [othL, if_true, if_neg n1, if_neg n2, hg 0 (by decide) (by decide), hg 2 (by decide) (by decide), Option.map_some]
    rw [e0, hp, e1, lost2 l0 l1 ht (h.enc.by _)]; rfl
  · have n1 := spt_ne (seg := seg) hr (i := 0) (j := 2) (by decide) (by decide) (by decide)
    have n2 := spt_ne (seg := seg) hr (i := 1) (j := 2) (by decide) (by decide) (by decide)
    simp only [othL, if_true, if_neg n1, if_neg n2, hg 0 (by decide) (by decide), hg 1 (by decide) (by decide), Option.map_some]
    rw [e0, e1, parL2 l0 l1 ht, hp]; rfl
theorem blkSpot3 {seg k : Nat} (hk : k < 6) : blkSpot Q3 seg k = spt seg (k / 2) (k % 2) ∧ ((k : Int) / (Q3.1 - 1)).toNat = k / 2 := by
  refine ⟨?_, ?_⟩
  · have hs := spotsL_small seg (k / 2)
    have e : blkSpot Q3 seg k = (spotsL Q3 seg ((k / 2 : Nat))).getD (k % 2) (0, 0) := by
      unfold spotsL
      rw [show ((Q3.1 - 1).toNat) = 2 from rfl]
      have hlt : k % 2 < 2 := Nat.mod_lt _ (by decide)
      rw [List.getD_eq_getElem?_getD, List.getElem?_append_left (by simp; omega), List.getElem?_map, List.getElem?_range hlt]
      show _ = blkSpot Q3 seg (((k / 2 : Nat) : Int) * (3 - 1) + ((k % 2 : Nat) : Int))
      congr 1
      omega
    rw [e, show spotsL Q3 seg ((k / 2 : Nat)) = _ from hs]
    have : k % 2 = 0 ∨ k % 2 = 1 := by omega
    rcases this with h | h <;> rw [h] <;> rfl
  · show ((k : Int) / (3 - 1)).toNat = k / 2
    omega
theorem SegF.read {m : G3} {R : Rk} {f : Nat → Bool} {seg : Nat} {seq : Int} {l : List BlkA} (h : SegF m R f seg seq l) (h1 : oneLost m f) {k : Nat} (hk : k < 6) :
    sRead Q3 m R seg k seq = (((blkAt l k).owner, (blkAt l k).index, padL (blkAt l k).data 56), 0) := by
  obtain ⟨hsp, hrow⟩ := blkSpot3 (seg := seg) hk
  have hr : k / 2 < 3 := by omega
  have hi : k % 2 < 3 := by omega
  have hbo : blkOkB Q3 seg k = true := by
    have hR : RightB Q3 = true := by decide
    simp only [blkOkB, hR, Bool.true_and, Bool.and_eq_true, decide_eq_true_eq]
    have hpl : placesI Q3 = 5 := rfl
    rw [hpl]
    have := h.s12
    omega
  unfold sRead
  rw [if_neg (by simp [hbo]), if_neg (by simp [h.set.off]), hsp, hrow]
  have hx : (if (goodV Q3 m R (spt seg (k / 2) (k % 2)) seq).2 = true then goodV Q3 m R (spt seg (k / 2) (k % 2)) seq else othV Q3 m R (spt seg (k / 2) (k % 2)) seq (spotsL Q3 seg ((k / 2 : Nat)))) = (datAt Q3 seq l (k / 2) (k % 2), true) := by
    rw [h.good hr hi]
    cases hl : lostS m f (spt seg (k / 2) (k % 2)).1.toNat with
    | false => simp
    | true =>
      rw [h.oth hr hi]
      · simp
      · intro j hj hne
        cases hl2 : lostS m f (spt seg (k / 2) j).1.toNat with
        | false => rfl
        | true =>
          have r1 := (spt_rng h.s12 hr hi).1
          have r2 := (spt_rng h.s12 hr hj).1
          exact absurd (h1 _ _ (by omega) (by omega) hl hl2) (spt_slot_ne hr hi hj h.s12 (fun e => hne e.symm))
  simp only [hx, if_true]
  have hd : datAt Q3 seq l (k / 2) (k % 2) = encAt seq l k := by
    rw [dat_blk (by omega)]
    congr 1
    omega
  have hok := h.enc.ok hk
  rw [hd, encAt, encL_head hok, encL_pay hok.2.2.2]
theorem mem_badI {q m : G3} {R : Rk} {i : Nat} (hi : i < q.1.toNat) : ((i : Int) ∈ badI q m R) ↔ isBad q m R i = true := by
  unfold badI badL
  rw [List.mem_map]
  constructor
  · rintro ⟨j, hj, he⟩
    obtain rfl : j = i := by omega
    exact (List.mem_filter.1 hj).2
  · intro h
    exact ⟨i, List.mem_filter.2 ⟨List.mem_range.2 hi, h⟩, rfl⟩
theorem SegF.wh {m : G3} {R : Rk} {f : Nat → Bool} {seg : Nat} {seq : Int} {l : List BlkA} (h : SegF m R f seg seq l) (bad : List Int) (hb : ∀ i : Nat, i < 3 → (i : Int) ∉ bad → lostS m f i = false) (hs1 : 1 ≤ seq) :
    ∀ (ss : List (Int × Int)) (s : Int), (∀ sp ∈ ss, ∃ r i, r < 3 ∧ i < 3 ∧ sp = spt seg r i) → (s = 0 ∨ s = seq) → ∃ t, whL Q3 m R bad ss s = some t ∧ (s = seq → t = seq) ∧ ((∃ sp ∈ ss, sp.1 ∉ bad) → t = seq)
  | [], s, _, _ => ⟨s, rfl, id, by simp⟩
  | sp :: ss, s, hss, hs => by
    obtain ⟨r, i, hr, hi, he⟩ := hss sp (by simp)
    have hrg := spt_rng h.s12 hr hi
    rw [whL]
    by_cases hm : sp.1 ∈ bad
    · rw [if_pos hm]
      obtain ⟨t, h1, h2, h3⟩ := h.wh bad hb hs1 ss s (fun sp' h' => hss sp' (by simp [h'])) hs
      refine ⟨t, h1, h2, fun ⟨sp', hm', hn'⟩ => h3 ⟨sp', ?_, hn'⟩⟩
      rcases List.mem_cons.1 hm' with rfl | hm'
      · exact absurd hm hn'
      · exact hm'
    · have hl : lostS m f (spt seg r i).1.toNat = false := hb _ (by omega) (by
        rw [show (((spt seg r i).1.toNat : Nat) : Int) = (spt seg r i).1 by omega, ← he]; exact hm)
      have hbr := sec_brd (m := m) h.set h.n h.ns (s := spt seg r i) hrg.1 (by omega)
      unfold lostS at hl
      rw [show (((spt seg r i).1.toNat : Nat) : Int) = (spt seg r i).1 by omega] at hl
      have hE : brdE Q3 m R sp = 0 := by rw [he, hbr.1, hl]; simp
      have hH : (headOf (brd Q3 m R sp)).1 = seq := by rw [he, hbr.2 hl, h.there r i hr hi]; exact (h.enc.dat hr hi).head h.fit
      rw [if_neg hm, hE, hH, if_neg (by omega)]
      obtain ⟨t, h1, h2, h3⟩ := h.wh bad hb hs1 ss seq (fun sp' h' => hss sp' (by simp [h'])) (.inr rfl)
      exact ⟨t, h1, fun _ => h2 rfl, fun _ => h2 rfl⟩
theorem SegF.whole {m : G3} {R : Rk} {f : Nat → Bool} {seg : Nat} {seq : Int} {l : List BlkA} (h : SegF m R f seg seq l) (h1 : oneLost m f) (hm : m.2.2 ≠ 1) (hs1 : 1 ≤ seq) : sWhole Q3 m R seg = (seq, true, 0) := by
  have hbad : ∀ i : Nat, i < 3 → isBad Q3 m R i = lostS m f i := fun i hi => by
    have hrg : 0 ≤ (slotV Q3 m i).1 ∧ (slotV Q3 m i).1 < 4 := slot_range m i hi
    unfold isBad lostS Rk.failedB
    rw [if_pos (by rw [h.n]; omega), h.set.failed]
    simp [hm]
  have hb : ∀ i : Nat, i < 3 → (i : Int) ∉ badI Q3 m R → lostS m f i = false := fun i hi hn => by
    rw [mem_badI (show i < Q3.1.toNat from hi), hbad i hi] at hn
    simpa using hn
  have hle : (badL Q3 m R).length ≤ 1 := by
    unfold badL
    show ((List.range 3).filter (isBad Q3 m R)).length ≤ 1
    have e : ∀ i ∈ List.range 3, isBad Q3 m R i = lostS m f i := fun i hi => hbad i (List.mem_range.1 hi)
    rw [List.filter_congr e]
    have c01 := h1 0 1 (by decide) (by decide)
    have c02 := h1 0 2 (by decide) (by decide)
    have c12 := h1 1 2 (by decide) (by decide)
    simp only [List.range_succ, List.range_zero, List.nil_append, List.cons_append, List.filter_cons, List.filter_nil]
    cases g0 : lostS m f 0 <;> cases g1 : lostS m f 1 <;> cases g2 : lostS m f 2 <;> simp_all
  unfold sWhole
  have ht : thereE Q3 R seg = 0 := by
    unfold thereE
    rw [if_neg (by have := h.s12; show ¬ ¬ (0 ≤ (seg : Int) ∧ (seg : Int) < 12); omega), if_neg (by simp [h.set.off])]
  rw [if_neg (by simp [ht]), if_neg (by omega)]
  obtain ⟨t, e1, _, e3⟩ := h.wh (badI Q3 m R) hb hs1 (allS Q3 seg 0) 0 (fun sp hsp => by
    rw [allS3, List.mem_map] at hsp
    obtain ⟨t, ht, rfl⟩ := hsp
    have := List.mem_range.1 ht
    exact ⟨t / 3, t % 3, by omega, by omega, rfl⟩) (.inl rfl)
  rw [e1]
  refine congrArg (fun t => (t, true, (0 : Int))) (e3 ?_)
  refine Classical.byContradiction fun hno => ?_
  have hall : ∀ i, i < 3 → lostS m f (spt seg 0 i).1.toNat = true := fun i hi => by
    have hrg := spt_rng h.s12 (r := 0) (i := i) (by decide) hi
    refine Classical.byContradiction fun hf => hno ⟨spt seg 0 i, ?_, fun hmem => ?_⟩
    · rw [allS3, List.mem_map]
      refine ⟨i, List.mem_range.2 (by omega), ?_⟩
      rw [Nat.div_eq_of_lt hi, Nat.mod_eq_of_lt hi]
    · rw [show (spt seg 0 i).1 = (((spt seg 0 i).1.toNat : Nat) : Int) by omega, mem_badI (show (spt seg 0 i).1.toNat < 3 by omega), hbad _ (by omega)] at hmem
      exact hf hmem
  have r0 := (spt_rng h.s12 (r := 0) (i := 0) (by decide) (by decide)).1
  have r1 := (spt_rng h.s12 (r := 0) (i := 1) (by decide) (by decide)).1
  exact spt_slot_ne (r := 0) (i := 0) (j := 1) (by decide) (by decide) (by decide) h.s12 (by decide) (h1 _ _ (by omega) (by omega) (hall 0 (by decide)) (hall 1 (by decide)))
end Go.Proofs.Ytldmeimebebllaa
namespace Go.Proofs.Ytldmeimebebllaa
open Go.Mo
set_option linter.unusedVariables false
variable {g : Fr} {cv : CV}
theorem EncD.of_fits {seq : Int} {l : List BlkA} (hs : fitsN 4 seq) (hf : fitsL l) (hb : ∀ c ∈ l, Byts c.data) : EncD seq l := ⟨encAll_iff.2 fun k hk => by
  have hfit : fitC (blkAt l k) := by
    unfold blkAt
    by_cases h : k < l.length
    · rw [List.getD_eq_getElem?_getD, List.getElem?_eq_getElem h]; exact hf.2 _ (List.getElem_mem h)
    · rw [List.getD_eq_getElem?_getD, List.getElem?_eq_none (by omega)]; exact ⟨by simp [BlkA.nil], by simp [BlkA.nil], by simp [BlkA.nil]⟩
  have h65 : ((256 ^ 2 : Nat) : Int) = 65536 := rfl
  exact ⟨hs, ⟨hfit.2.1.1, by rw [h65]; have := hfit.2.1.2; omega⟩, ⟨hfit.2.2.1, by rw [h65]; have := hfit.2.2.2; omega⟩, hfit.1⟩, hb⟩
theorem fits4 {seq : Int} (h : 1 ≤ seq ∧ seq < 4294967296) : fitsN 4 seq := ⟨by omega, by
  have : ((256 ^ 4 : Nat) : Int) = 4294967296 := rfl
  rw [this]; exact h.2⟩
theorem calm_bad {m : G3} {R : Rk} (h : Calm R) (hm : m.2.2 ≠ 1) : badL Q3 m R = [] := by
  unfold badL
  rw [List.filter_eq_nil_iff]
  intro i _
  simp [isBad, h.failedB, hm]
theorem swrite_ok {m : G3} {R : Rk} {seg : Nat} {seq : Int} {l : List BlkA} (hm : m.2.2 ≠ 1) (hs : seg < 12) (hq : 1 ≤ seq ∧ seq < 4294967296) (hl : l.length ≤ 6) (h : EncD seq l) (hc : Calm R) (hn : R.n = 4) (hns : R.ns = 41) :
    swrite Q3 m R seg seq l = ((wrAll Q3 m (restW Q3 seg seq l 0) R).1, 0) := by
  have hw := seg_wrote (m := m) (seg := seg) hs h hc hn hns
  have h1 : ¬ (¬ ((0 : Int) ≤ (seg : Int) ∧ (seg : Int) < Q3.2.2) ∨ seq < 1 ∨ seq > 4294967295) := by
    show ¬ (¬ ((0 : Int) ≤ (seg : Int) ∧ (seg : Int) < 12) ∨ seq < 1 ∨ seq > 4294967295)
    omega
  have h2 : ¬ (encAll seq l (nBlk Q3) = false ∨ nBlk Q3 < l.length) := by
    rw [nBlk3, h.all]
    simp; omega
  unfold swrite
  rw [if_neg h1, if_neg h2, calm_bad hc hm, if_neg (by simp), if_neg (by rw [hw.1]; simp), calm_bad hw.2.1.calm hm, if_neg (by simp)]
theorem lost_seg {m : G3} {R : Rk} {seg : Nat} {seq : Int} {l : List BlkA} (hs : seg < 12) (h : EncD seq l) (hf4 : fitsN 4 seq) (hc : Calm R) (hn : R.n = 4) (hns : R.ns = 41) (hg : Seg m R seg seq l) {f : Int} (hf : 0 ≤ f ∧ f < 4) (xs : List Int) {d : Int} (hx : ∀ d' ∈ d :: xs, 0 ≤ d' ∧ d' < ((4 : Nat) : Int)) :
    (flushL (d :: xs) (R.doom f 0)).2 = 0 ∧ SegF m (flushL (d :: xs) (R.doom f 0)).1 (fun j => decide (j = f.toNat)) seg seq l ∧ SameS R (flushL (d :: xs) (R.doom f 0)).1 := by
  have ha := armed_doom hc (f := f) (by rw [hn]; exact hf)
  have hdn : (R.doom f 0).n = 4 ∧ (R.doom f 0).ns = 41 := by rw [(SameS.doom R f 0).n, (SameS.doom R f 0).ns]; exact ⟨hn, hns⟩
  have hfl := ha.flushL (d := d) (xs := xs) (by rw [hdn.1]; exact hx) (by rw [hdn.2]; omega)
  have hss := (SameS.doom R f 0).trans (SameS.flushL (d :: xs) (R.doom f 0))
  exact ⟨hfl.1, ⟨hfl.2.1, by rw [hfl.2.2.1, hdn.1], by rw [hfl.2.2.2, hdn.2], hg.same hss, h, hs, hf4⟩, hss⟩
theorem one_lost {m : G3} {f : Int} : oneLost m (fun j => decide (j = f.toNat)) := fun i j hi hj h1 h2 => by
  unfold lostS at h1 h2
  simp only [decide_eq_true_eq] at h1 h2
  have r1 := slot_range m i hi
  have r2 := slot_range m j hj
  exact slot_inj m hi hj (by
    have : (slotV (3, 3, 12) m i).1.toNat = (slotV (3, 3, 12) m j).1.toNat := h1.trans h2.symm
    omega)
theorem disksL3 (m : G3) : ∃ d xs, disksL Q3 m = d :: xs ∧ ∀ d' ∈ d :: xs, 0 ≤ d' ∧ d' < ((4 : Nat) : Int) := by
  have h := disks_range m
  cases hd : disksL Q3 m with
  | nil => 
    have : (disksL Q3 m).length = 0 := by rw [hd]; rfl
    unfold disksL at this
    rw [show Q3.1.toNat = 3 from rfl, List.length_append, List.length_map, List.length_range] at this
    omega
  | cons d xs =>
    refine ⟨d, xs, rfl, ?_⟩
    rw [← hd]; exact h
end Go.Proofs.Ytldmeimebebllaa
namespace Go.Proofs.Ytldmeimebebllaa
open Go.Mo
set_option linter.unusedVariables false
variable {g : Fr} {cv : CV}
def m0 : G3 := (0, 0, 0)
theorem open0 : OpenB 4 41 Q3 m0 = true := by decide
def aliveL (x y : Slc) : List BlkA := [⟨1, 0, x, [5]⟩, ⟨2, 3, y, [6]⟩]
theorem alive_blocks {x y z : Nat} : Ent (pc x [.int .u8 5] * pc y [.int .u8 6] * pc z [.int .i64 1, .int .i64 0, .slice (some ⟨x, 0, none⟩) 1 1, .int .i64 2, .int .i64 3, .slice (some ⟨y, 0, none⟩) 1 1]) (blocksP ⟨some ⟨z, 0, none⟩, 2, 2⟩ (aliveL ⟨some ⟨x, 0, none⟩, 1, 1⟩ ⟨some ⟨y, 0, none⟩, 1, 1⟩)) := by
  have e : ∀ (b : Nat) (cs : List Value) (n z : Nat), cs.length = n * z → Ent (pc b cs) (rsl z ⟨some ⟨b, 0, none⟩, n, n⟩ cs) := fun b cs n z h => Ent.trans (pc_own h) (own_rsl _ _ _)
  refine Ent.trans (B := byt ⟨some ⟨x, 0, none⟩, 1, 1⟩ [5] * byt ⟨some ⟨y, 0, none⟩, 1, 1⟩ [6] * rsl 3 ⟨some ⟨z, 0, none⟩, 2, 2⟩ ((aliveL ⟨some ⟨x, 0, none⟩, 1, 1⟩ ⟨some ⟨y, 0, none⟩, 1, 1⟩).flatMap BlkA.cells)) ?_ ?_
  · exact Ent.trans (Ent.starl (Ent.trans (Ent.starl (e x _ 1 1 rfl)) (Ent.starr (e y _ 1 1 rfl)))) (Ent.starr (e z _ 2 3 rfl))
  · unfold blocksP
    refine ent_and (ent_prr trivial (ent_right _ _)) fun o ho i c hc => ?_
    have hx := ent_left _ _ o (ent_left _ _ o ho)
    have hy := ent_right _ _ o (ent_left _ _ o ho)
    match i with
    | 0 =>
      obtain rfl : (⟨1, 0, ⟨some ⟨x, 0, none⟩, 1, 1⟩, [5]⟩ : BlkA) = c := by simpa [aliveL] using hc
      exact ent_pr (A := byt ⟨some ⟨x, 0, none⟩, 1, 1⟩ [5]) (p := BlkA.ok ⟨1, 0, ⟨some ⟨x, 0, none⟩, 1, 1⟩, [5]⟩) ⟨fun n hn => by simp at hn; omega, by simp, by simp, by simp⟩ o hx
    | 1 =>
      obtain rfl : (⟨2, 3, ⟨some ⟨y, 0, none⟩, 1, 1⟩, [6]⟩ : BlkA) = c := by simpa [aliveL] using hc
      exact ent_pr (A := byt ⟨some ⟨y, 0, none⟩, 1, 1⟩ [6]) (p := BlkA.ok ⟨2, 3, ⟨some ⟨y, 0, none⟩, 1, 1⟩, [6]⟩) ⟨fun n hn => by simp at hn; omega, by simp, by simp, by simp⟩ o hy
    | i + 2 => simp [aliveL] at hc
theorem law07_alive_spec (hcd : DisksOk cv) (hcr : RowsOk cv) : wps g emp (law07_alive cv) (fun b => pr (b = true)) := by
  unfold law07_alive
  refine wps_bind (law07_Open_spec m0) fun x => ?_
  rw [show OpenB 4 41 (3, 3, 12) m0 = true from open0, if_pos rfl]
  refine wps_ex fun rb => wps_ex fun bb => wps_ex fun ds => wps_ex fun ps => ?_
  refine wps_prP fun hx => ?_
  subst hx
  refine wps_val (v := false) (wps_ite (fun h => absurd h (by simp)) (fun _ => wps_pure (ent_prr rfl (Ent.refl _)))) ?_
  have hbl : ∀ X Y : Slc, fitsL (aliveL X Y) ∧ ∀ c ∈ aliveL X Y, Byts c.data := fun X Y => by
    refine ⟨⟨by simp [aliveL], fun c hc => ?_⟩, fun c hc => ?_⟩
    · simp only [aliveL, List.mem_cons, List.not_mem_nil, or_false] at hc
      rcases hc with rfl | rfl <;> exact ⟨by simp, by simp, by simp⟩
    · simp only [aliveL, List.mem_cons, List.not_mem_nil, or_false] at hc
      rcases hc with rfl | rfl <;> (intro n hn; simp at hn; omega)
  have h7 : (1 : Int) ≤ 7 ∧ (7 : Int) < 4294967296 := by omega
  refine wps_bind (R := fun r => ex fun X : Slc => ex fun Y : Slc => pr (r = false) * bnk bb rb Q3 m0 * rackP rb (wrAll Q3 m0 (restW Q3 ((2 : Nat) : Int) 7 (aliveL X Y) 0) (Rk.new 4 41)).1 ds ps) ?_ fun r => ?_
  · refine wps_ite (fun h => absurd h (by decide)) (fun _ => ?_)
    refine wps_alloc fun x23 => ?_
    refine wps_alloc fun x25 => ?_
    refine wps_alloc fun x27 => ?_
    have hh := hbl ⟨some ⟨x23, 0, none⟩, 1, 1⟩ ⟨some ⟨x25, 0, none⟩, 1, 1⟩
    have hE := EncD.of_fits (fits4 h7) hh.1 hh.2
    have hsw := swrite_ok (m := m0) (R := Rk.new 4 41) (seg := 2) (by decide) (by decide) h7 hh.1.1 hE (Calm.new 4 41) rfl rfl
    refine wps_pre (H' := blocksP ⟨some ⟨x27, 0, none⟩, 2, 2⟩ (aliveL ⟨some ⟨x23, 0, none⟩, 1, 1⟩ ⟨some ⟨x25, 0, none⟩, 1, 1⟩) * bnk bb rb Q3 m0 * rackP rb (Rk.new 4 41) ds ps) ?_ ?_
    · refine ent_pick (ent_pick (Ent.trans ?_ alive_blocks))
      repeat first | (with_reducible exact ent_drop) | (with_reducible refine ent_pick ?_)
    refine wps_bind (stripe_Write_spec hcr bb rb Q3 m0 (by decide) (Rk.new 4 41) ds ps 2 7 _ _ hh.2) fun e => ?_
    refine wps_prP fun he => ?_
    have hsw' : swrite Q3 m0 (Rk.new 4 41) 2 7 (aliveL ⟨some ⟨x23, 0, none⟩, 1, 1⟩ ⟨some ⟨x25, 0, none⟩, 1, 1⟩) = _ := hsw
    rw [hsw'] at he ⊢
    dsimp only at he ⊢
    have he2 : (e != 0) = false := by rw [he]; rfl
    clear hsw hsw'
    refine wps_pure (ent_ex ⟨some ⟨x23, 0, none⟩, 1, 1⟩ (ent_ex ⟨some ⟨x25, 0, none⟩, 1, 1⟩ ?_))
    generalize (wrAll Q3 m0 (restW Q3 ((2 : Nat) : Int) 7 (aliveL ⟨some ⟨x23, 0, none⟩, 1, 1⟩ ⟨some ⟨x25, 0, none⟩, 1, 1⟩) 0) (Rk.new 4 41)).1 = RR
    repeat first | (with_reducible refine ent_pick ?_) | (refine ent_prq ?_)
    all_goals first | exact he2 | trivial
  refine wps_ex fun X => wps_ex fun Y => wps_prP fun hr => ?_
  subst hr
  refine wps_ite (fun h => absurd h (by decide)) (fun _ => ?_)
  have hh := hbl X Y
  have hE := EncD.of_fits (fits4 h7) hh.1 hh.2
  have hwr := seg_wrote (m := m0) (R := Rk.new 4 41) (seg := 2) (by decide) hE (Calm.new 4 41) rfl rfl
  generalize (wrAll Q3 m0 (restW Q3 ((2 : Nat) : Int) 7 (aliveL X Y) 0) (Rk.new 4 41)).1 = R1 at *
  obtain ⟨d, xs, hdl, hdr⟩ := disksL3 m0
  have hls := lost_seg (m := m0) (f := 0) (by decide) hE (fits4 h7) hwr.2.1.calm hwr.2.1.n hwr.2.1.ns hwr.2.2.1 (by omega) xs hdr
  refine wps_callH (fun _ => device_Rack_Doom_spec rb R1 ds ps 0 0) fun _ => ?_
  simp only [← star_assoc]
  refine wps_prP fun _ => ?_
  refine wps_call2 (fun _ => bank_Flush_spec hcd bb rb Q3 m0 (by decide) (R1.doom 0 0) ds ps) fun e => ?_
  simp only [← star_assoc]
  refine wps_prP fun he => ?_
  rw [hdl] at he ⊢
  rw [hls.1] at he
  subst he
  refine wps_ite (fun h => absurd h (by decide)) (fun _ => ?_)
  have hby := hls.2.2.bys (hwr.2.2.2.1 (Rk.bys_new 4 41))
  have hS := hls.2.1
  generalize (flushL (d :: xs) (R1.doom 0 0)).1 = R2 at *
  refine wps_call2 (fun _ => stripe_Whole_spec hcr bb rb Q3 m0 (by decide) R2 hby ds ps 2) fun w => ?_
  simp only [← star_assoc]
  refine wps_prP fun hw => ?_
  have hw2 : w = (7, true, 0) := by rw [hw]; exact hS.whole one_lost (by decide) (by omega)
  subst hw2
  refine wps_call2 (fun _ => stripe_Read_spec hcr bb rb Q3 m0 (by decide) R2 hby ds ps 2 1 7) fun a => ?_
  have hr1 := hS.read one_lost (k := 1) (by decide)
  rw [show sRead Q3 m0 R2 2 1 7 = _ from hr1]
  simp only [← star_assoc]
  refine wps_prP fun ⟨a1, a2, a3⟩ => ?_
  refine wps_alloc fun x6 => ?_
  refine wps_stA (by simp) (by simp [Value.oneCell']) ?_
  refine wps_call2 (fun _ => stripe_Read_spec hcr bb rb Q3 m0 (by decide) R2 hby ds ps 2 0 7) fun b => ?_
  have hr0 := hS.read one_lost (k := 0) (by decide)
  rw [show sRead Q3 m0 R2 2 0 7 = _ from hr0]
  simp only [← star_assoc]
  refine wps_prP fun ⟨b1, b2, b3⟩ => ?_
  refine wps_alloc fun x8 => ?_
  refine wps_stA (by simp) (by simp [Value.oneCell']) ?_
  have c1 : (blkAt (aliveL X Y) 1).owner = 2 ∧ (blkAt (aliveL X Y) 1).index = 3 ∧ (blkAt (aliveL X Y) 1).data = [6] := ⟨rfl, rfl, rfl⟩
  have c0 : (blkAt (aliveL X Y) 0).data = [5] := rfl
  rw [c1.1] at a2
  rw [c1.2.1] at a3
  rw [c1.2.2, c0]
  refine wps_fact (Ent.trans (ent_pick1 (A := own 1 a.1.2.2 (bv (padL [6] 56)))) (own_len _ _ _)) fun ⟨hal, _⟩ => ?_
  have hal' : a.1.2.2.len = 56 := by
    rw [bl] at hal; simp [padL] at hal; omega
  refine wps_val (v := true) (wps_ite (fun _ => wps_pure (ent_val rfl)) (fun h => absurd rfl h)) ?_
  refine wps_val (v := true) (wps_ite (fun _ => wps_pure (ent_val rfl)) (fun h => absurd rfl h)) ?_
  refine wps_val (v := true) (wps_ite (fun _ => wps_pure (ent_val (by rw [a1]; rfl))) (fun h => absurd rfl h)) ?_
  refine wps_val (v := true) (wps_ite (fun _ => wps_pure (ent_val (by rw [b1]; rfl))) (fun h => absurd rfl h)) ?_
  refine wps_val (v := true) (wps_ite (fun _ => wps_ld a.1.1 (by rfl) (wps_pure (ent_val (by rw [a2]; rfl)))) (fun h => absurd rfl h)) ?_
  refine wps_val (v := true) (wps_ite (fun _ => wps_ld a.1.2.1 (by rfl) (wps_pure (ent_val (by rw [a3]; rfl)))) (fun h => absurd rfl h)) ?_
  refine wps_val (v := true) (wps_ite (fun _ => wps_ld a.1.2.2 (by rfl) (wps_pure (ent_val (by rw [hal']; rfl)))) (fun h => absurd rfl h)) ?_
  refine wps_val (v := true) (wps_ite (fun _ => wps_ld a.1.2.2 (by rfl) (wps_rd 0 6 (Ent.trans (ent_pick1 (A := own 1 a.1.2.2 (bv (padL [6] 56)))) (own_rsl _ _ _)) rfl rfl (wps_pure (ent_val rfl)))) (fun h => absurd rfl h)) ?_
  refine wps_val (v := true) (wps_ite (fun _ => wps_ld b.1.2.2 (by rfl) (wps_rd 0 5 (Ent.trans (ent_pick1 (A := own 1 b.1.2.2 (bv (padL [5] 56)))) (own_rsl _ _ _)) rfl rfl (wps_pure (ent_val rfl)))) (fun h => absurd rfl h)) ?_
  exact wps_pure (ent_prq rfl)
end Go.Proofs.Ytldmeimebebllaa
namespace Go.Proofs.Ytldmeimebebllaa
open Go.Mo
set_option linter.unusedVariables false
variable {g : Fr} {cv : CV}
theorem blocksP_ok {s : Slc} {l : List BlkA} : Ent (blocksP s l) (pr (∀ c ∈ l, c.ok)) := fun o ho c hc => by
  obtain ⟨i, hi, rfl⟩ := List.getElem_of_mem hc
  have := blocksP_get (List.getElem?_eq_getElem hi) o ho
  exact ent_left _ _ o this
end Go.Proofs.Ytldmeimebebllaa
namespace Go.Proofs.Ytldmeimebebllaa
open Go.Mo
set_option linter.unusedVariables false
variable {g : Fr} {cv : CV}
theorem Calm.settled {R : Rk} (h : Calm R) : Settled R (fun _ => false) := ⟨h.off, h.count, h.failed, h.counts⟩
end Go.Proofs.Ytldmeimebebllaa

namespace Go.Proofs.Ytldmeimebebllaa
open Go.Mo
set_option linter.unusedVariables false
variable {g : Fr} {cv : CV}
theorem Armed.doom {R : Rk} {f : Nat → Bool} (h : Armed R f) {k : Int} (hk : 0 ≤ k ∧ k < R.n) : Armed (R.doom k 0) (fun j => f j || decide (j = k.toNat)) := by
  unfold Rk.doom
  rw [if_neg (by omega)]
  refine ⟨h.off, h.count, fun j => ?_, fun j => ?_⟩
  · simp only [Rk.setD]; split <;> simp [h.failed]
  · simp only [Rk.setD]
    by_cases hj : j = k.toNat
    · subst hj; simp [maxI]
    · simp [hj, h.counts]
end Go.Proofs.Ytldmeimebebllaa
namespace Go.Proofs.Ytldmeimebebllaa
open Go.Mo
set_option linter.unusedVariables false
variable {g : Fr} {cv : CV}
theorem val_orb {H : HP} {r s : Bool} : Val g H (if r = true then pureM true else pureM s) (r || s) := by
  cases r <;> exact wps_pure (ent_pr (by simp))
end Go.Proofs.Ytldmeimebebllaa
namespace Go.Proofs.Ytldmeimebebllaa
open Go.Mo
set_option linter.unusedVariables false
variable {g : Fr} {cv : CV}
def sndRow (q m : G3) (R : Rk) (seg seq : Int) (r : Nat) : Bool := (goodV q m R (parSpot q seg r) seq).2 && ((othV q m R (parSpot q seg r) seq (spotsL q seg r)).2 && decide ((goodV q m R (parSpot q seg r) seq).1 = (othV q m R (parSpot q seg r) seq (spotsL q seg r)).1))
def sSound (q m : G3) (R : Rk) (seg seq : Int) : Bool × Int := if thereE q R seg ≠ 0 then (false, thereE q R seg) else ((List.range q.2.1.toNat).all (sndRow q m R seg seq), 0)
theorem spotsL_last (q : G3) (seg : Int) (r : Nat) : (spotsL q seg r)[(q.1 - 1).toNat]? = some (parSpot q seg r) := by
  unfold spotsL
  rw [List.getElem?_append_right (by simp)]
  simp
theorem all_false {n i : Nat} {p : Nat → Bool} (hi : i < n) (h : p i = false) : (List.range n).all p = false := by
  rw [List.all_eq_false]
  exact ⟨i, List.mem_range.2 hi, by simp [h]⟩
theorem all_succ {i : Nat} {p : Nat → Bool} (h : (List.range i).all p = true) (hp : p i = true) : (List.range (i + 1)).all p = true := by
  rw [List.range_succ, List.all_append, h]
  simp [hp]
theorem stripe_Sound_spec (hcv : RowsOk cv) (bb rb : Nat) (q m : G3) (hq : RightB q = true) (R : Rk) (hby : R.bys) (ds : Slc) (ps : List Nat) (seg seq : Int) :
    wps g (bnk bb rb q m * rackP rb R ds ps) (stripe_Sound cv (ptr bb) seg seq) (fun x => pr (x = sSound q m R seg seq) * bnk bb rb q m * rackP rb R ds ps) := by
  unfold stripe_Sound
  have hb := RightB.bnd hq
  have b1 := hb.d3
  have b2 := hb.d16
  have b3 := hb.r1
  have b4 := hb.r4
  refine wps_fact (Ent.trans (ent_right _ _) rackP_good) fun hg => ?_
  refine wps_alloc fun x3 => ?_
  refine wps_alloc fun x5 => ?_
  refine wps_alloc fun x6 => ?_
  refine wps_alloc fun x7 => ?_
  refine wps_ld (ptr bb) (by rfl) ?_
  refine wps_val2 (fun _ => stripe_there_val bb rb q m R ds ps seg) ?_
  by_cases ht : thereE q R seg = 0
  rotate_left
  · have hsw : sSound q m R seg seq = (false, thereE q R seg) := if_pos ht
    rw [hsw]
    refine wps_ite (fun _ => ?_) (fun h => absurd (by simpa using ht) h)
    refine wps_st (by simp) ?_
    refine wps_st (by simp) ?_
    refine wps_ld false (by rfl) ?_
    refine wps_ld (thereE q R seg) (by rfl) (wps_pure ?_)
    repeat first | (with_reducible refine ent_pick ?_) | (refine ent_prq ?_)
    all_goals first | rfl | trivial
  refine wps_ite (fun h => absurd h (by simp [ht])) (fun _ => ?_)
  have hseg : 0 ≤ seg ∧ seg < q.2.2 := by
    unfold thereE at ht
    split at ht
    · cases ht
    · rename_i h; exact Classical.not_not.1 h
  have hsw : sSound q m R seg seq = ((List.range q.2.1.toNat).all (sndRow q m R seg seq), 0) := by unfold sSound; rw [if_neg (by simp [ht])]
  rw [hsw]
  refine wps_ld (ptr bb) (by rfl) ?_
  refine wps_valH (fun _ => bank_Geo_val bb rb q m) ?_
  refine wps_bind (stripe_rows_spec q seg) fun v => ?_
  refine wps_ex fun ra => wps_ex fun rc => ?_
  rw [star_assoc, star_assoc]
  refine wps_pr fun hv => ?_
  subst hv
  refine wps_rangeX (F := emp)
    (fun i => pr ((List.range i).all (sndRow q m R seg seq) = true) * bnk bb rb q m * rackP rb R ds ps * pc x3 [.pointer (ptr bb)] * pc x5 [.int .i64 seq] * pc x6 [.bool false] * pc x7 [.int .i64 0])
    (fun j => match j with | .ret => pr ((List.range q.2.1.toNat).all (sndRow q m R seg seq) = false) * bnk bb rb q m * rackP rb R ds ps * pc x6 [.bool false] * pc x7 [.int .i64 0] | .exit _ => pr False)
    (fun i x t' => pr (t' = x.2) * (rowsA ra rc q seg * (rowsX q seg i x * (pr ((List.range i).all (sndRow q m R seg seq) = true) * bnk bb rb q m * rackP rb R ds ps * pc x3 [.pointer (ptr bb)] * pc x5 [.int .i64 seq] * pc x6 [.bool false] * pc x7 [.int .i64 0]))))
    (rows_iter hcv ra rc q seg ⟨hq, hseg.1, hseg.2⟩) ?_ ?_ ?_ ?_ ?_ ?_
  · refine Ent.trans ?_ (Ent.of_eq (emp_star _).symm)
    simp only [← star_assoc]
    repeat first | (with_reducible exact ent_drop) | (with_reducible refine ent_pick ?_) | (refine ent_prx ?_ ?_; rotate_left)
    all_goals first | rfl | trivial
  · intro i x hx g
    exact wps_pure (ent_prr rfl (Ent.refl _))
  · intro i x hx t' g
    refine wps_pr fun ht => ?_
    subst ht
    simp only [← star_assoc]
    refine wps_prP fun hR => ?_
    refine wps_prP fun hxi => ?_
    refine wps_fact (Ent.trans (ent_pick1 (A := own 2 x.2 (sv (spotsL q seg i)))) (own_len _ _ _)) fun ⟨hspl, _⟩ => ?_
    have hspl2 := spotsL_len q seg i b1
    rw [sv_len] at hspl
    have hlast := spotsL_last q seg i
    generalize hsp : parSpot q seg i = sp at *
    refine wps_rdA (q.1 - 1).toNat sp (Ent.trans (ent_pick1 (A := own 2 x.2 (sv (spotsL q seg i)))) (own_rsl _ _ _)) (by rw [w64_id] <;> omega) (by simp) (fun o v ho => ?_) ?_
    · have h2 : o < 2 := by have := (List.getElem?_eq_some_iff.1 ho).1; simpa using this
      rw [sv_get hlast h2]; exact ho
    refine wps_alloc fun x11 => ?_
    refine wps_stA (by simp) (by simp [Value.oneCell']) ?_
    refine wps_ld (ptr bb) (by rfl) ?_
    refine wps_ldA sp (by rfl) ?_
    refine wps_ld seq (by rfl) ?_
    refine wps_call2 (fun _ => stripe_good_spec bb rb q m R hby ds ps sp seq) fun a => ?_
    simp only [← star_assoc]
    refine wps_prP fun ha => ?_
    refine wps_ld (ptr bb) (by rfl) ?_
    refine wps_ldA sp (by rfl) ?_
    refine wps_ld seq (by rfl) ?_
    refine wps_call3 (fun _ => stripe_others_spec bb rb q m R hby ds ps x.2 (spotsL q seg i) (by omega) sp seq (H := own 2 x.2 (sv (spotsL q seg i))) (own_rsl _ _ _)) fun b => ?_
    simp only [← star_assoc]
    refine wps_prP fun hb2 => ?_
    rw [ha, hb2]
    refine wps_val val_orb ?_
    have hrow : sndRow q m R seg seq i = ((goodV q m R sp seq).2 && ((othV q m R sp seq (spotsL q seg i)).2 && decide ((goodV q m R sp seq).1 = (othV q m R sp seq (spotsL q seg i)).1))) := by unfold sndRow; rw [hsp]
    have hgb := goodV_byts (q := q) (m := m) hby sp seq
    have hob := (othV_byts (q := q) (m := m) hby sp seq (spotsL q seg i)).1
    refine wps_val (v := !sndRow q m R seg seq i) ?_ ?_
    · rw [hrow]
      cases h1 : (goodV q m R sp seq).2
      · exact wps_ite (fun _ => wps_pure (ent_prr (by simp) (Ent.refl _))) (fun h => absurd rfl h)
      cases h2 : (othV q m R sp seq (spotsL q seg i)).2
      · exact wps_ite (fun _ => wps_pure (ent_prr (by simp) (Ent.refl _))) (fun h => absurd rfl h)
      refine wps_ite (fun h => absurd h (by decide)) (fun _ => ?_)
      refine wps_val (bytes_Equal_val (Ent.trans (ent_pick1 (A := own 1 a.1 (bv (goodV q m R sp seq).1))) (own_rsl _ _ _)) (Ent.trans (ent_pick1 (A := own 1 b.1 (bv (othV q m R sp seq (spotsL q seg i)).1))) (own_rsl _ _ _)) hgb hob) (wps_pure (ent_prr (by simp) (Ent.refl _)))
    cases hr : sndRow q m R seg seq i
    · refine wps_ite (fun _ => ?_) (fun h => absurd rfl h)
      refine wps_st (by simp) ?_
      refine wps_st (by simp) (wps_pure ?_)
      show Ent _ (rowsA ra rc q seg * (_ * _ * _ * _ * _))
      simp only [← star_assoc]
      refine ent_pickC (by rfl) (ent_pickC (by rfl) (ent_pick (ent_pick (ent_prx (all_false hx hr) ?_))))
      repeat with_reducible exact ent_drop
    · refine wps_ite (fun h => absurd h (by decide)) (fun _ => wps_pure ?_)
      dsimp only
      refine ent_pick (ent_pick (ent_pick (ent_pick (ent_pick (ent_pick (ent_prx (all_succ hR hr) ?_))))))
      repeat with_reducible exact ent_drop
  · intro D
    simp only [← star_assoc]
    refine wps_prP fun hR => ?_
    rw [hR]
    refine wps_st (by simp) ?_
    refine wps_st (by simp) ?_
    refine wps_take ?_
    refine wps_ld true (by rfl) ?_
    refine wps_ld 0 (by rfl) (wps_pure ?_)
    repeat first | (with_reducible refine ent_pick ?_) | (refine ent_prq ?_)
    all_goals first | rfl | trivial
  · intro D
    simp only [← star_assoc]
    refine wps_prP fun hR => ?_
    rw [hR]
    refine wps_take ?_
    refine wps_ld false (by rfl) ?_
    refine wps_ld 0 (by rfl) (wps_pure ?_)
    repeat first | (with_reducible refine ent_pick ?_) | (refine ent_prq ?_)
    all_goals first | rfl | trivial
  · intro D id
    exact wps_false (fun o ho => by
      have := ent_right _ _ o (ent_left _ _ o ho)
      exact ent_right _ _ o this)
end Go.Proofs.Ytldmeimebebllaa
namespace Go.Proofs.Ytldmeimebebllaa
open Go.Mo
set_option linter.unusedVariables false
variable {g : Fr} {cv : CV}
theorem parSpot3 (seg r : Nat) : parSpot Q3 seg r = spt seg r 2 := by
  have h1 := spotsL_last Q3 seg r
  have h2 := spotsL_small seg r
  rw [show spotsL Q3 seg r = _ from h2, show ((Q3.1 - 1).toNat) = 2 from rfl] at h1
  simpa using h1.symm
structure Row3 (R : Rk) (seg r : Nat) (d : Nat → List Int) : Prop where
  set : Settled R (fun _ => false)
  n : R.n = 4
  ns : R.ns = 41
  s12 : seg < 12
  r3 : r < 3
  sec : ∀ i, i < 3 → (R.dk (slotV Q3 m0 (spt seg r i).1).1.toNat).sec (spt seg r i).2 = d i
theorem Row3.snd {R : Rk} {seg r : Nat} {d : Nat → List Int} (h : Row3 R seg r d) (seq : Int) :
    sndRow Q3 m0 R seg seq r = true ↔ (∀ i, i < 3 → (headOf (d i)).1 = seq) ∧ parL [d 0, d 1] = some (d 2) := by
  have g : ∀ i, i < 3 → goodV Q3 m0 R (spt seg r i) seq = (d i, (headOf (d i)).1 == seq) := fun i hi => by
    have hrg := spt_rng h.s12 h.r3 hi
    have hb := sec_brd (m := m0) h.set h.n h.ns (s := spt seg r i) hrg.1 (by omega)
    unfold goodV
    rw [hb.1, if_pos (by decide), hb.2 rfl, h.sec i hi]
  have n0 := spt_ne (seg := seg) h.r3 (i := 0) (j := 2) (by decide) (by decide) (by decide)
  have n1 := spt_ne (seg := seg) h.r3 (i := 1) (j := 2) (by decide) (by decide) (by decide)
  unfold sndRow
  rw [parSpot3, g 2 (by decide), show spotsL Q3 seg r = [spt seg r 0, spt seg r 1, spt seg r 2] from spotsL_small seg r]
  unfold othV
  simp only [othL, if_true, if_neg n0, if_neg n1, g 0 (by decide), g 1 (by decide)]
  constructor
  · intro hx
    cases e0 : ((headOf (d 0)).1 == seq)
    · rw [e0] at hx; simp at hx
    cases e1 : ((headOf (d 1)).1 == seq)
    · rw [e0, e1] at hx; simp at hx
    rw [e0, e1] at hx
    simp only [if_true, Option.map_some, Bool.and_eq_true, beq_iff_eq, decide_eq_true_eq] at hx
    obtain ⟨h2, h3, h4⟩ := hx
    refine ⟨fun i hi => ?_, ?_⟩
    · have : i = 0 ∨ i = 1 ∨ i = 2 := by omega
      rcases this with rfl | rfl | rfl
      · simpa using e0
      · simpa using e1
      · exact h2
    · obtain ⟨c, hc⟩ := Option.isSome_iff_exists.1 h3
      rw [hc] at h4 ⊢
      rw [h4]; rfl
  · rintro ⟨hh, hp⟩
    have b : ∀ i, i < 3 → ((headOf (d i)).1 == seq) = true := fun i hi => by simp [hh i hi]
    rw [b 0 (by decide), b 1 (by decide), b 2 (by decide)]
    simp [hp]
theorem slot0 {i : Int} (h : 0 ≤ i ∧ i < 3) : (slotV Q3 m0 i).1 = i := by
  obtain ⟨k, rfl⟩ : ∃ k : Nat, i = (k : Int) := ⟨i.toNat, by omega⟩
  exact (slotV_in m0 k (by omega)).2
end Go.Proofs.Ytldmeimebebllaa
namespace Go.Proofs.Ytldmeimebebllaa
open Go.Mo
set_option linter.unusedVariables false
variable {g : Fr} {cv : CV}
theorem bv_set {x : List Int} {k : Nat} {v : Int} : (bv x).set k (.int .u8 v) = bv (x.set k v) := by simp [bv, List.map_set]
end Go.Proofs.Ytldmeimebebllaa
namespace Go.Mo
set_option linter.unusedVariables false
section
variable {α β σ τ ξ ς : Type} {g : Fr} {H H' : HP} {Q : α → HP}
def IterY (cv : CV) (fv : Value) (encX : ξ → Array Value) (s0 : ς) (ok : ς → ξ → Prop) (nx sil : ς → ς → Prop) (fin : ς → Prop) (B : ς → HP) (X : ς → ξ → HP) (A : HP) : Prop :=
  ∀ (yv : Value), yv.oneCell' = true → ∀ (I : ς → HP) (E : HP),
    (∀ (s : ς) (x : ξ), ok s x → ∀ g, wps g (B s * X s x * I s) (cv.call yv (encX x)) fun v => orp (pr (v = .bool true) * ex fun s' => pr (nx s s') * (B s' * I s')) (pr (v = .bool false) * E)) →
    (∀ s s', sil s s' → Ent (I s) (I s')) →
    ∀ g, wps g (A * (B s0 * I s0)) (cv.enter fv #[yv]) fun _ => orp (ex fun s => pr (fin s) * (B s * I s)) E
theorem orp_star {A B C : HP} : Ent (orp A B * C) (orp (A * C) (B * C)) := fun o ⟨a, b, hd, hl, ha, hb⟩ => ha.elim (fun ha => .inl ⟨a, b, hd, hl, ha, hb⟩) (fun ha => .inr ⟨a, b, hd, hl, ha, hb⟩)
theorem wps_rangeY {cv : CV} {fv : Value} {encX : ξ → Array Value} {asg : ξ → M τ} {body : τ → M (Unit ⊕ Jump)} {kn kr : Nat → M α} {ke : Nat → Nat → M α} {s0 : ς} {ok : ς → ξ → Prop} {nx sil : ς → ς → Prop} {fin : ς → Prop} {B : ς → HP} {X : ς → ξ → HP} {A F : HP} (I : ς → HP) (E : Jump → HP) (R : ς → ξ → τ → HP)
    (hit : IterY cv fv encX s0 ok nx sil fin B X A) (h0 : Ent H (F * (A * (B s0 * I s0))))
    (hasg : ∀ (s : ς) (x : ξ), ok s x → ∀ g, wps g (B s * X s x * I s) (asg x) (R s x))
    (hbody : ∀ (s : ς) (x : ξ), ok s x → ∀ t g, wps g (R s x t) (body t) fun r => match r with | .inl _ => ex fun s' => pr (nx s s') * (B s' * I s') | .inr j => E j)
    (hsil : ∀ s s', sil s s' → Ent (I s) (I s'))
    (hn : ∀ D s, fin s → wps g (F * (B s * I s) * po D (.deferred (some []))) (kn D) Q)
    (hr : ∀ D, wps g (F * E .ret * po D (.deferred (some []))) (kr D) Q)
    (he : ∀ D id, wps g (F * E (.exit id) * po D (.deferred (some []))) (ke D id) Q) : wps g H (rangeFM cv fv encX asg body kn kr ke) Q := fun w a Qf ho ha hq => by
  intro mk hmk0 hyield
  have hmk : ∀ st p, Obj.soft (mk st p) := fun st p cs e f h => absurd h (hmk0 st p cs e f)
  have ha := h0 a ha
  have p1 := own_push ho (.deferred (some [])) (World.pushO w (.deferred (some []))) rfl ⟨rfl, rfl⟩ (fun _ _ _ h => by cases h)
  have q1 : (F * (A * (B s0 * I s0)) * po w.heap.size (.deferred (some []))).p _ := ⟨a, _, p1.2, Hp.le_refl _, ha, by simp [po]⟩
  have p2 := own_push p1.1 (mk .ready none) (World.pushO (World.pushO w (.deferred (some []))) (mk .ready none)) rfl ⟨rfl, rfl⟩ (hmk _ _)
  have hsz : (World.pushO w (.deferred (some []))).heap.size = w.heap.size + 1 := by simp [World.pushO]
  have q2 : (F * (A * (B s0 * I s0)) * po w.heap.size (.deferred (some [])) * po (w.heap.size + 1) (mk .ready none)).p _ := ⟨_, _, p2.2, Hp.le_refl _, q1, by rw [← hsz]; simp [po]⟩
  have hgo := hit (yieldV (w.heap.size + 1)) (by rfl) (fun s => I s * po (w.heap.size + 1) (mk .ready none)) (ex fun j => E j * po (w.heap.size + 1) (mk .done (some j.code))) (fun s x hx g' => by
    intro w1 a1 Qf1 ho1 ha1 hq1
    refine hyield x Qf1 w1 ?_
    refine wps_round hmk (hasg s x hx) (hbody s x hx) w1 a1 Qf1 ho1 (by rw [star_assoc]; exact ha1) fun v w2 a2 ho2 ha2 => hq1 v w2 a2 ho2 ?_
    rcases ha2 with ha2 | ha2
    · left
      refine Ent.starr ?_ a2 ha2
      rw [ex_star]
      refine ex_ent fun s' => ?_
      refine Ent.trans ?_ (ent_ex s' (Ent.refl _))
      rw [star_assoc, star_assoc]
      exact Ent.refl _
    · exact .inr ha2) (fun s s' h => Ent.starl (hsil s s' h))
  have hfr := wps_frame (g := g) (F := F * po w.heap.size (.deferred (some []))) hgo
  refine hfr _ _ _ p2.1 ?_ fun v w3 a3 ho3 ha3 => ?_
  · refine Ent.of_eq ?_ _ q2
    simp only [star_assoc]
    ac_rfl
  · have ha3' := orp_star a3 ha3
    rcases ha3' with ha3 | ha3
    · rw [ex_star] at ha3
      obtain ⟨s, ha3⟩ := ha3
      simp only [star_assoc] at ha3
      have hf := ent_left _ _ a3 ha3
      have ha4 := ent_right _ _ a3 ha3
      have ha5 : (F * (B s * I s) * po w.heap.size (.deferred (some [])) * po (w.heap.size + 1) (mk .ready none)).p a3 := Ent.of_eq (by ac_rfl) a3 ha4
      refine ⟨.ready, none, own_po ho3 ha5, by simp, ?_⟩
      obtain ⟨a4, ho4, ha4⟩ := own_put (mk .exhausted none) (hmk _ _) ho3 ha5
      exact hn _ s hf _ a4 Qf ho4 (ent_left _ _ a4 ha4) hq
    · rw [ex_star] at ha3
      obtain ⟨j, ha3⟩ := ha3
      have ha5 : (F * E j * po w.heap.size (.deferred (some [])) * po (w.heap.size + 1) (mk .done (some j.code))).p a3 := Ent.of_eq (by ac_rfl) a3 ha3
      refine ⟨.done, some j.code, own_po ho3 ha5, by simp, j, rfl, ?_⟩
      obtain ⟨a4, ho4, ha4⟩ := own_put (mk .exhausted (some j.code)) (hmk _ _) ho3 ha5
      have ha6 := ent_left _ _ a4 ha4
      cases j with
      | ret => exact hr _ _ a4 Qf ho4 ha6 hq
      | exit id => exact he _ id _ a4 Qf ho4 ha6 hq
theorem wps_box {k : Addr → M α} {v : Value} (hv : v.oneCell' = true) (h : ∀ b, wps g (H * pc b [v]) (k ⟨b, 0, none⟩) Q) : wps g H (bindM (boxV v) k) Q := fun w a Qf ho ha hq =>
  ⟨hv, wps_alloc h w a Qf ho ha hq⟩
end
end Go.Mo
namespace Go.Proofs.Ytldmeimebebllaa
open Go.Mo
set_option linter.unusedVariables false
variable {g : Fr} {cv : CV}
def slotK (q : G3) (seg : Int) (r : Nat) (slot : Int) : Nat := (spotsL q seg r).findIdx (fun s => s.1 == slot)
def slotSp (q : G3) (seg : Int) (r : Nat) (slot : Int) : Int × Int := (spotsL q seg r).getD (slotK q seg r slot) (0, 0)
theorem blkSpot_rc {q : G3} {seg : Int} {r c : Nat} (h1 : 3 ≤ q.1) (hc : (c : Int) < q.1 - 1) : (blkSpot q seg ((r : Int) * (q.1 - 1) + (c : Int))).1 = (q.1 - 1 - rowOf q seg r % q.1 + 1 + c) % q.1 := by
  have e1 : ((r : Int) * (q.1 - 1) + (c : Int)) / (q.1 - 1) = r := by
    rw [Int.add_comm, Int.add_mul_ediv_right _ _ (by omega), Int.ediv_eq_zero_of_lt (by omega) hc]; omega
  have e2 : ((r : Int) * (q.1 - 1) + (c : Int)) % (q.1 - 1) = c := by
    rw [Int.add_comm, Int.add_mul_emod_self_right, Int.emod_eq_of_lt (by omega) hc]
  unfold blkSpot
  rw [e1, e2]
theorem slot_mem {q : G3} {seg : Int} {r : Nat} {slot : Int} (h1 : 3 ≤ q.1) (hs : 0 ≤ slot ∧ slot < q.1) : ∃ s ∈ spotsL q seg r, s.1 = slot := by
  have hp0 := Int.emod_nonneg (rowOf q seg r) (b := q.1) (by omega)
  have hp1 := Int.emod_lt_of_pos (rowOf q seg r) (b := q.1) (by omega)
  generalize hp : rowOf q seg r % q.1 = p at *
  by_cases h : slot = q.1 - 1 - p
  · refine ⟨parSpot q seg r, by simp [spotsL], ?_⟩
    unfold parSpot
    rw [hp]; exact h.symm
  · obtain ⟨c, hc, hcm⟩ : ∃ c : Nat, (c : Int) < q.1 - 1 ∧ (q.1 - 1 - p + 1 + (c : Int)) % q.1 = slot := by
      by_cases h2 : q.1 - 1 - p < slot
      · refine ⟨(slot - (q.1 - 1 - p) - 1).toNat, by omega, ?_⟩
        rw [show q.1 - 1 - p + 1 + ((slot - (q.1 - 1 - p) - 1).toNat : Int) = slot by omega]
        exact Int.emod_eq_of_lt hs.1 hs.2
      · refine ⟨(slot + p).toNat, by omega, ?_⟩
        rw [show q.1 - 1 - p + 1 + ((slot + p).toNat : Int) = slot + q.1 by omega, Int.add_emod_right]
        exact Int.emod_eq_of_lt hs.1 hs.2
    refine ⟨blkSpot q seg ((r : Int) * (q.1 - 1) + (c : Int)), ?_, ?_⟩
    · unfold spotsL
      refine List.mem_append_left _ (List.mem_map.2 ⟨c, List.mem_range.2 (by omega), rfl⟩)
    · rw [blkSpot_rc h1 hc, hp, hcm]
theorem slotK_lt {q : G3} {seg : Int} {r : Nat} {slot : Int} (h1 : 3 ≤ q.1) (hs : 0 ≤ slot ∧ slot < q.1) : slotK q seg r slot < (spotsL q seg r).length := by
  obtain ⟨s, hm, he⟩ := slot_mem (q := q) (seg := seg) (r := r) h1 hs
  exact List.findIdx_lt_length_of_exists ⟨s, hm, by simp [he]⟩
theorem slotSp_get {q : G3} {seg : Int} {r : Nat} {slot : Int} (h1 : 3 ≤ q.1) (hs : 0 ≤ slot ∧ slot < q.1) : (spotsL q seg r)[slotK q seg r slot]? = some (slotSp q seg r slot) := by
  have := slotK_lt (q := q) (seg := seg) (r := r) h1 hs
  unfold slotSp
  rw [List.getD_eq_getElem?_getD, List.getElem?_eq_getElem this]; rfl
theorem slotSp_fst {q : G3} {seg : Int} {r : Nat} {slot : Int} (h1 : 3 ≤ q.1) (hs : 0 ≤ slot ∧ slot < q.1) : (slotSp q seg r slot).1 = slot := by
  have hlt := slotK_lt (q := q) (seg := seg) (r := r) h1 hs
  have hf : ((spotsL q seg r)[slotK q seg r slot]'hlt).1 == slot := List.findIdx_getElem (w := hlt)
  have hg := slotSp_get (q := q) (seg := seg) (r := r) h1 hs
  rw [List.getElem?_eq_getElem hlt] at hg
  rw [← Option.some.inj hg]
  simpa using hf
theorem sv_get2 {l : List (Int × Int)} {i : Nat} {s : Int × Int} (h : l[i]? = some s) (o : Nat) (v : Value) (ho : [Value.int .i64 s.1, Value.int .i64 s.2][o]? = some v) : (sv l)[i * 2 + o]? = some v := by
  have h2 : o < 2 := by have := (List.getElem?_eq_some_iff.1 ho).1; simpa using this
  rw [sv_get h h2]; exact ho
theorem indexFunc_val {H : HP} {f : Value} {s : Slc} {l : List (Int × Int)} (P : Int × Int → Bool) (hf : ∀ p : Int × Int, Val g H (cvT cv Value.bool f #[.agg #[.int .i64 p.1, .int .i64 p.2]]) (P p)) (hs : Ent H (rsl 2 s (sv l))) (hl : l.length ≤ 1000000) (hk : l.findIdx P < l.length) :
    Val g H (slices_IndexFunc_g cv s f) ((l.findIdx P : Nat) : Int) := by
  unfold slices_IndexFunc_g
  refine wps_fact (Ent.trans hs (rsl_len _ _ _)) fun hsl => ?_
  rw [sv_len] at hsl
  refine wps_loop (fun st => ex fun i : Nat => pr (st = (i : Int) ∧ i ≤ l.findIdx P) * H) (fun st => (l.length - st).toNat) (ent_ex 0 (ent_prr ⟨rfl, by omega⟩ (Ent.refl _))) fun st => ?_
  refine wps_ex fun i => wps_pr fun ⟨hi, hin⟩ => ?_
  refine wps_ite (fun hc => ?_) (fun hc => absurd (decide_eq_true (by omega)) hc)
  have hlt : i < l.length := by omega
  have hget : l[i]? = some l[i] := List.getElem?_eq_getElem hlt
  refine wps_rdA i l[i] hs hi (by simp) (fun o v ho => sv_get2 hget o v ho) ?_
  refine wps_val (hf l[i]) ?_
  refine wps_ite (fun hp => wps_mapR (wps_pure (ent_prr ?_ (Ent.refl _)))) (fun hp => wps_pure ?_)
  · have : l.findIdx P = i := by
      have h1 := List.not_of_lt_findIdx (p := P) (xs := l) (i := i)
      by_cases h2 : i < l.findIdx P
      · have := h1 h2
        rw [hp] at this; cases this
      · omega
    rw [hi, this]
  · have hne : i ≠ l.findIdx P := fun e => hp (by
      have := List.findIdx_getElem (p := P) (xs := l) (w := hk)
      simp only [← e] at this
      exact this)
    exact ent_prr (by rw [range_add1 hi (by omega)]; omega) (ent_ex (i + 1) (ent_prr ⟨range_add1 hi (by omega), by omega⟩ (Ent.refl _)))
abbrev lackFV (c : Nat) : Value := .func (.func fid_stripe_lacks_c1_c1) #[] #[.pointer (some ⟨c, 0, none⟩)]
abbrev lacksV (a b c d : Nat) : Value := .func (.func fid_stripe_lacks_c1) #[] #[.pointer (some ⟨a, 0, none⟩), .pointer (some ⟨b, 0, none⟩), .pointer (some ⟨c, 0, none⟩), .pointer (some ⟨d, 0, none⟩)]
structure LacksOk (cv : CV) : Prop where
  slot : ∀ (p : Int × Int) (a : Addr) (Q : Value → World → Prop) (w : World), stripe_lacks_c1_c1 p a (fun y w' => Q (.bool y) w') w → cv.call (.func (.func fid_stripe_lacks_c1_c1) #[] #[.pointer (some a)]) #[.agg #[.int .i64 p.1, .int .i64 p.2]] Q w
  iter : ∀ (a1 a2 a3 a4 : Addr) (yv : Value) (Q : Value → World → Prop) (w : World), stripe_lacks_c1 cv yv a1 a2 a3 a4 (fun _ w' => Q (.tuple #[]) w') w → cv.enter (.func (.func fid_stripe_lacks_c1) #[] #[.pointer (some a1), .pointer (some a2), .pointer (some a3), .pointer (some a4)]) #[yv] Q w
theorem lackF_val (hcv : LacksOk cv) {H : HP} {c : Nat} {slot : Int} (hc : Ent H (ro c [.int .i64 slot])) (p : Int × Int) : Val g H (cvT cv Value.bool (lackFV c) #[.agg #[.int .i64 p.1, .int .i64 p.2]]) (p.1 == slot) := by
  have hm : Val g H (stripe_lacks_c1_c1 p ⟨c, 0, none⟩) (p.1 == slot) := by
    unfold stripe_lacks_c1_c1
    refine wps_alloc fun x2 => ?_
    refine wps_ld p.1 (by rfl) ?_
    refine wps_ldr slot (Ent.trans (ent_left _ _) hc) (by rfl) (wps_pure (ent_val rfl))
  refine wps_cvT fun w a Qf ho ha hq => hcv.slot _ _ _ _ (hm w a _ ho ha fun x w' a' ho' hb => hq _ w' a' ho' ?_)
  exact ⟨x, ent_pr rfl a' hb⟩
def lackB (q m : G3) (R : Rk) (seg slot seq : Int) (r : Nat) : Bool := !(goodV q m R (slotSp q seg r slot) seq).2
structure SilL (q m : G3) (seg slot seq : Int) (s s' : Nat × Rk) : Prop where
  lt : (s.1 : Int) < q.2.1
  bys : s.2.bys
  no : lackB q m s.2 seg slot seq s.1 = false
  nx : s' = (s.1 + 1, s.2)
structure OkL (q m : G3) (seg slot seq : Int) (s : Nat × Rk) : Prop where
  lt : (s.1 : Int) < q.2.1
  bys : s.2.bys
  yes : lackB q m s.2 seg slot seq s.1 = true
theorem lacks_iter (hcr : RowsOk cv) (hcv : LacksOk cv) (a1 a2 a3 a4 bb rb : Nat) (q m : G3) (seg slot seq : Int) (hs : InS q seg) (hsl : 0 ≤ slot ∧ slot < q.1) (R0 : Rk) (hby : R0.bys) (ds : Slc) (ps : List Nat) :
    IterY cv (lacksV a1 a2 a3 a4) (fun x : Slc × (Int × Int) => #[.slice x.1.base x.1.len x.1.cap, .agg #[.int .i64 x.2.1, .int .i64 x.2.2]]) ((0, R0) : Nat × Rk)
      (fun s x => OkL q m seg slot seq s ∧ x.2 = slotSp q seg s.1 slot) (fun s s' => s'.1 = s.1 + 1 ∧ s'.2.bys) (SilL q m seg slot seq)
      (fun s => (s.1 : Int) = q.2.1 ∧ s.2.bys) (fun s => bnk bb rb q m * rackP rb s.2 ds ps) (fun s x => own 2 x.1 (sv (spotsL q seg s.1))) (pc a1 [.pointer (ptr bb)] * pc a2 [.int .i64 seg] * pc a3 [.int .i64 slot] * pc a4 [.int .i64 seq]) := by
  intro yv hyv I E hstep hsil g
  have hb := RightB.bnd hs.right
  have b1 := hb.d3
  have b2 := hb.d16
  have b3 := hb.r1
  have b4 := hb.r4
  refine wps_enter (m := stripe_lacks_c1 cv yv ⟨a1, 0, none⟩ ⟨a2, 0, none⟩ ⟨a3, 0, none⟩ ⟨a4, 0, none⟩) (fun Q w h => hcv.iter _ _ _ _ _ _ _ h) ?_
  unfold stripe_lacks_c1
  simp only [← star_assoc]
  refine wps_box hyv fun x5 => ?_
  refine wps_regionH ?_
  refine wps_ldI (ptr bb) (by rfl) ?_
  refine wps_ldI seg (by rfl) ?_
  refine wps_stepVH (fun _ => bank_Geo_val bb rb q m) ?_
  refine wps_bind (wps_stepI (stripe_rows_spec q seg) fun v => ?_) fun v => ?_
  · refine ex_ent fun ra => ex_ent fun rc => ?_
    rw [star_assoc]
    exact pr_ent fun _ => ent_left _ _
  refine wps_ex fun ra => wps_ex fun rc => ?_
  rw [star_assoc, star_assoc]
  refine wps_pr fun hv => ?_
  subst hv
  refine wps_rangeX (F := emp)
    (fun i => ex fun R : Rk => pr R.bys * bnk bb rb q m * rackP rb R ds ps * I (i, R) * pc a1 [.pointer (ptr bb)] * pc a3 [.int .i64 slot] * pc a4 [.int .i64 seq] * pc x5 [yv])
    (fun j => match j with | .ret => E | .exit _ => pr False)
    (fun i x t' => pr (t' = x.2) * (rowsA ra rc q seg * (rowsX q seg i x * ex fun R : Rk => pr R.bys * bnk bb rb q m * rackP rb R ds ps * I (i, R) * pc a1 [.pointer (ptr bb)] * pc a3 [.int .i64 slot] * pc a4 [.int .i64 seq] * pc x5 [yv])))
    (rows_iter hcr ra rc q seg hs) ?_ ?_ ?_ ?_ ?_ ?_
  · refine Ent.trans ?_ (Ent.of_eq (emp_star _).symm)
    refine ent_exr R0 ?_
    simp only [← star_assoc]
    repeat first | (with_reducible exact ent_drop) | (with_reducible refine ent_pick ?_) | (refine ent_prx ?_ ?_; rotate_left)
    all_goals first | exact hby | trivial
  · intro i x hx g
    exact wps_pure (ent_prr rfl (Ent.refl _))
  · intro i x hx t' g
    refine wps_pr fun ht => ?_
    subst ht
    refine wps_exP fun R => ?_
    simp only [← star_assoc]
    refine wps_prP fun hRb => ?_
    refine wps_prP fun hxi => ?_
    refine wps_fact (Ent.trans (ent_pick1 (A := rackP rb R ds ps)) rackP_good) fun hg => ?_
    refine wps_fact (Ent.trans (ent_pick1 (A := own 2 x.2 (sv (spotsL q seg i)))) (own_len _ _ _)) fun ⟨hspl, _⟩ => ?_
    have hspl2 := spotsL_len q seg i b1
    rw [sv_len] at hspl
    have hk := slotK_lt (q := q) (seg := seg) (r := i) b1 hsl
    have hget := slotSp_get (q := q) (seg := seg) (r := i) b1 hsl
    refine wps_val (v := ((slotK q seg i slot : Nat) : Int)) (indexFunc_val (fun s => s.1 == slot) (fun p => lackF_val hcv (Ent.trans (ent_pick1 (A := pc a3 [.int .i64 slot])) (pc_ro _ _)) p) (Ent.trans (ent_pick1 (A := own 2 x.2 (sv (spotsL q seg i)))) (own_rsl _ _ _)) (by omega) hk) ?_
    refine wps_regionH ?_
    refine wps_ldI (ptr bb) (by rfl) ?_
    refine wps_rdAI (slotK q seg i slot) (slotSp q seg i slot) (Ent.trans (ent_pick1 (A := own 2 x.2 (sv (spotsL q seg i)))) (own_rsl _ _ _)) (Ent.refl _) rfl (by simp) (fun o v ho => sv_get2 hget o v ho) ?_
    refine wps_ldI seq (by rfl) ?_
    generalize hsp : slotSp q seg i slot = sp at *
    refine wps_call2 (fun _ => stripe_good_spec bb rb q m R hRb ds ps sp seq) fun a => ?_
    simp only [← star_assoc]
    refine wps_prP fun ha => ?_
    refine wps_regionH ?_
    rw [ha]
    cases hgd : (goodV q m R sp seq).2
    · have hok : OkL q m seg slot seq (i, R) := ⟨by show (i : Int) < q.2.1; omega, hRb, by unfold lackB; simp only [hsp, hgd]; rfl⟩
      refine wps_ite (fun _ => ?_) (fun h => absurd rfl h)
      refine wps_ldI yv (by rfl) ?_
      refine wps_rdAI (slotK q seg i slot) sp (Ent.trans (ent_pick1 (A := own 2 x.2 (sv (spotsL q seg i)))) (own_rsl _ _ _)) (Ent.refl _) rfl (by simp) (fun o v ho => sv_get2 hget o v ho) ?_
      refine wps_bind (R := fun y => if y = true then (ex fun s' : Nat × Rk => pr (s'.1 = i + 1 ∧ s'.2.bys) * (bnk bb rb q m * rackP rb s'.2 ds ps * I s')) * (rowsA ra rc q seg * pc a1 [.pointer (ptr bb)] * pc a3 [.int .i64 slot] * pc a4 [.int .i64 seq] * pc x5 [yv]) else E * (rowsA ra rc q seg)) ?_ fun y => ?_
      · have hy := wps_frame (F := rowsA ra rc q seg * pc a1 [.pointer (ptr bb)] * pc a3 [.int .i64 slot] * pc a4 [.int .i64 seq] * pc x5 [yv]) (g := g) (fun g' => wps_yield (hstep (i, R) (x.2, sp) ⟨hok, hsp.symm⟩ g'))
        refine wps_pre ?_ (wps_post hy fun y => ?_)
        · simp only [← star_assoc]
          repeat first | (with_reducible exact ent_drop) | (with_reducible refine ent_pick ?_)
        · cases y
          · simp only [Bool.false_eq_true, if_false]
            refine Ent.starr ?_
            refine Ent.trans (ent_left _ _) ?_
            refine Ent.trans (ent_left _ _) ?_
            refine Ent.trans (ent_left _ _) ?_
            exact ent_left _ _
          · simp only [if_true]
            exact Ent.refl _
      · cases y
        · refine wps_ite (fun _ => wps_pure ?_) (fun h => absurd rfl h)
          simp only [Bool.false_eq_true, if_false]
          exact Ent.of_eq (star_comm _ _)
        · refine wps_ite (fun h => absurd h (by decide)) (fun _ => wps_pure ?_)
          simp only [if_true]
          rw [ex_star]
          refine ex_ent fun s' => ?_
          rw [star_assoc]
          refine pr_ent fun ⟨h1, h2⟩ => ?_
          obtain ⟨si, sR⟩ := s'
          dsimp only at h1 h2 ⊢
          subst h1
          refine ent_exr sR ?_
          simp only [← star_assoc]
          repeat first | (with_reducible exact ent_drop) | (with_reducible refine ent_pick ?_) | (refine ent_prx ?_ ?_; rotate_left)
          all_goals first | exact h2 | trivial
    · have hsl2 : SilL q m seg slot seq (i, R) (i + 1, R) := ⟨by show (i : Int) < q.2.1; omega, hRb, by unfold lackB; simp only [hsp, hgd]; rfl, rfl⟩
      refine wps_ite (fun h => absurd h (by decide)) (fun _ => wps_pure ?_)
      refine ent_swap (A := I (i, R)) (hsil _ _ hsl2) ?_
      refine ent_exr R ?_
      simp only [← star_assoc]
      repeat first | (with_reducible exact ent_drop) | (with_reducible refine ent_pick ?_) | (refine ent_prx ?_ ?_; rotate_left)
      all_goals first | exact hRb | trivial
  · intro D
    refine wps_exP fun R => ?_
    simp only [← star_assoc]
    refine wps_prP fun hRb => ?_
    refine wps_take (wps_pure ?_)
    have hfin : ((q.2.1.toNat : Nat) : Int) = q.2.1 ∧ R.bys := ⟨by omega, hRb⟩
    refine ent_orl ?_
    refine ent_ex (q.2.1.toNat, R) ?_
    dsimp only
    repeat first | (with_reducible refine ent_pick ?_) | (refine ent_prq ?_)
    all_goals first | exact hfin | trivial
  · intro D
    refine wps_take (wps_pure ?_)
    refine ent_orr ?_
    refine Ent.trans (ent_right _ _) ?_
    exact ent_right _ _
  · intro D id
    exact wps_false (fun o ho => by
      have := ent_right _ _ o (ent_left _ _ o ho)
      exact ent_right _ _ o this)
end Go.Proofs.Ytldmeimebebllaa
namespace Go.Proofs.Ytldmeimebebllaa
open Go.Mo
set_option linter.unusedVariables false
variable {g : Fr} {cv : CV}
def slottedE (q : G3) (R : Rk) (seg slot : Int) : Int := if ¬ (0 ≤ slot ∧ slot < q.1) then 28 else thereE q R seg
theorem stripe_slotted_val (bb rb : Nat) (q m : G3) (R : Rk) (ds : Slc) (ps : List Nat) (seg slot : Int) : Val g (bnk bb rb q m * rackP rb R ds ps) (stripe_slotted (ptr bb) seg slot) (slottedE q R seg slot) := by
  unfold stripe_slotted
  refine wps_val (v := decide (¬ (0 ≤ slot ∧ slot < q.1))) ?_ ?_
  · refine wps_ite (fun h => wps_pure (ent_prr ?_ (Ent.refl _))) (fun h => ?_)
    · have := of_decide_eq_true h
      exact (decide_eq_true (by omega)).symm
    · have h' : ¬ slot < 0 := fun h2 => h (decide_eq_true h2)
      refine wps_valH (fun _ => bank_Geo_val bb rb q m) (wps_pure (ent_prr ?_ (Ent.refl _)))
      exact decide_eq_decide.2 (by omega)
  refine wps_ite (fun h => wps_pure (ent_prr ?_ (Ent.refl _))) (fun h => ?_)
  · rw [slottedE, if_pos (of_decide_eq_true h)]
  · have h' : ¬ ¬ (0 ≤ slot ∧ slot < q.1) := fun h2 => h (decide_eq_true h2)
    refine wps_val2 (fun _ => stripe_there_val bb rb q m R ds ps seg) ?_
    rw [slottedE, if_neg h']
    exact wps_pure (ent_pr rfl)
theorem stripe_lacks_spec {H : HP} (bb : Nat) (seg slot seq : Int) : wps g H (stripe_lacks (ptr bb) seg slot seq) (fun v => ex fun a1 => ex fun a2 => ex fun a3 => ex fun a4 => pr (v = lacksV a1 a2 a3 a4) * H * (pc a1 [.pointer (ptr bb)] * pc a2 [.int .i64 seg] * pc a3 [.int .i64 slot] * pc a4 [.int .i64 seq])) := by
  unfold stripe_lacks
  refine wps_alloc fun a1 => ?_
  refine wps_alloc fun a2 => ?_
  refine wps_alloc fun a3 => ?_
  refine wps_alloc fun a4 => wps_pure (ent_ex a1 (ent_ex a2 (ent_ex a3 (ent_ex a4 ?_))))
  simp only [← star_assoc]
  repeat first | (with_reducible refine ent_pick ?_) | (refine ent_prq ?_)
  all_goals first | rfl | trivial
theorem slotted_in {q : G3} {R : Rk} {seg slot : Int} (h : slottedE q R seg slot = 0) : (0 ≤ slot ∧ slot < q.1) ∧ (0 ≤ seg ∧ seg < q.2.2) := by
  unfold slottedE at h
  split at h
  · cases h
  · rename_i h1
    refine ⟨Classical.not_not.1 h1, ?_⟩
    unfold thereE at h
    split at h
    · cases h
    · rename_i h2; exact Classical.not_not.1 h2
def sMissing (q m : G3) (R : Rk) (seg slot seq : Int) : Bool × Int := if slottedE q R seg slot ≠ 0 then (false, slottedE q R seg slot) else ((List.range q.2.1.toNat).any (lackB q m R seg slot seq), 0)
theorem any_true {n i : Nat} {p : Nat → Bool} (hi : i < n) (h : p i = true) : (List.range n).any p = true := List.any_eq_true.2 ⟨i, List.mem_range.2 hi, h⟩
theorem any_succ {i : Nat} {p : Nat → Bool} (h : (List.range i).any p = false) (hp : p i = false) : (List.range (i + 1)).any p = false := by
  rw [List.range_succ, List.any_append, h]
  simp [hp]
theorem stripe_Missing_spec (hcr : RowsOk cv) (hcv : LacksOk cv) (bb rb : Nat) (q m : G3) (hq : RightB q = true) (R : Rk) (hby : R.bys) (ds : Slc) (ps : List Nat) (seg slot seq : Int) :
    wps g (bnk bb rb q m * rackP rb R ds ps) (stripe_Missing cv (ptr bb) seg slot seq) (fun x => pr (x = sMissing q m R seg slot seq) * bnk bb rb q m * rackP rb R ds ps) := by
  unfold stripe_Missing
  refine wps_alloc fun x8 => ?_
  refine wps_alloc fun x9 => ?_
  refine wps_val2 (fun _ => stripe_slotted_val bb rb q m R ds ps seg slot) ?_
  by_cases ht : slottedE q R seg slot = 0
  rotate_left
  · have hsw : sMissing q m R seg slot seq = (false, slottedE q R seg slot) := if_pos ht
    rw [hsw]
    refine wps_ite (fun _ => ?_) (fun h => absurd (by simpa using ht) h)
    refine wps_st (by simp) ?_
    refine wps_st (by simp) ?_
    refine wps_ld false (by rfl) ?_
    refine wps_ld (slottedE q R seg slot) (by rfl) (wps_pure ?_)
    repeat first | (with_reducible refine ent_pick ?_) | (refine ent_prq ?_)
    all_goals first | rfl | trivial
  refine wps_ite (fun h => absurd h (by simp [ht])) (fun _ => ?_)
  obtain ⟨hsl, hse⟩ := slotted_in ht
  have hsw : sMissing q m R seg slot seq = ((List.range q.2.1.toNat).any (lackB q m R seg slot seq), 0) := by unfold sMissing; rw [if_neg (by simp [ht])]
  rw [hsw]
  refine wps_bind (stripe_lacks_spec bb seg slot seq) fun v => ?_
  refine wps_ex fun a1 => wps_ex fun a2 => wps_ex fun a3 => wps_ex fun a4 => ?_
  rw [star_assoc]
  refine wps_pr fun hv => ?_
  subst hv
  refine wps_rangeY (F := emp)
    (fun s => pr (s.2 = R ∧ (List.range s.1).any (lackB q m R seg slot seq) = false) * pc x8 [.bool false] * pc x9 [.int .i64 0])
    (fun j => match j with | .ret => pr ((List.range q.2.1.toNat).any (lackB q m R seg slot seq) = true) * bnk bb rb q m * rackP rb R ds ps * pc x8 [.bool true] * pc x9 [.int .i64 0] | .exit _ => pr False)
    (fun s x t => bnk bb rb q m * rackP rb s.2 ds ps * own 2 x.1 (sv (spotsL q seg s.1)) * (pr (s.2 = R ∧ (List.range s.1).any (lackB q m R seg slot seq) = false) * pc x8 [.bool false] * pc x9 [.int .i64 0]))
    (lacks_iter hcr hcv a1 a2 a3 a4 bb rb q m seg slot seq ⟨hq, hse.1, hse.2⟩ hsl R hby ds ps) ?_ ?_ ?_ ?_ ?_ ?_ ?_
  · refine Ent.trans ?_ (Ent.of_eq (emp_star _).symm)
    simp only [← star_assoc]
    repeat first | (with_reducible exact ent_drop) | (with_reducible refine ent_pick ?_) | (refine ent_prx ?_ ?_; rotate_left)
    all_goals first | exact ⟨rfl, rfl⟩ | trivial
  · intro s x hx g
    exact wps_pure (Ent.refl _)
  · intro s x hx t g
    simp only [← star_assoc]
    refine wps_prP fun ⟨hR, hno⟩ => ?_
    rw [hR]
    refine wps_st (by simp) ?_
    refine wps_st (by simp) (wps_pure ?_)
    have hyes := hx.1.yes
    rw [hR] at hyes
    have hlt := hx.1.lt
    dsimp only
    repeat first | (with_reducible refine ent_pick ?_) | (refine ent_pickC (by rfl) ?_) | (refine ent_prq ?_)
    all_goals first | exact any_true (by omega) hyes | trivial
  · intro s s' h
    refine Ent.starl (Ent.starl fun o ho => ?_)
    obtain ⟨h1, h2⟩ := ho
    have hn := h.no
    have hx := h.nx
    subst hx
    rw [h1] at hn
    exact ⟨h1, any_succ h2 hn⟩
  · intro D s hf
    simp only [← star_assoc]
    refine wps_prP fun ⟨hR, hno⟩ => ?_
    have hs1 : s.1 = q.2.1.toNat := by have := hf.1; omega
    rw [hs1] at hno
    rw [hR, hno]
    refine wps_st (by simp) ?_
    refine wps_st (by simp) ?_
    refine wps_take ?_
    refine wps_ld false (by rfl) ?_
    refine wps_ld 0 (by rfl) (wps_pure ?_)
    repeat first | (with_reducible refine ent_pick ?_) | (refine ent_prq ?_)
    all_goals first | rfl | trivial
  · intro D
    simp only [← star_assoc]
    refine wps_prP fun hR => ?_
    rw [hR]
    refine wps_take ?_
    refine wps_ld true (by rfl) ?_
    refine wps_ld 0 (by rfl) (wps_pure ?_)
    repeat first | (with_reducible refine ent_pick ?_) | (refine ent_prq ?_)
    all_goals first | rfl | trivial
  · intro D id
    exact wps_false (fun o ho => ent_right _ _ o (ent_left _ _ o ho))
def refL (q m : G3) (seg slot seq : Int) : List Nat → Rk → Rk × Int
  | [], R => (R, 0)
  | r :: rs, R =>
    if lackB q m R seg slot seq r = true then
      if (othV q m R (slotSp q seg r slot) seq (spotsL q seg r)).2 = false then (R, 14)
      else if bgate q m R (slotSp q seg r slot) (othV q m R (slotSp q seg r slot) seq (spotsL q seg r)).1 ≠ 0 then (bwrite q m R (slotSp q seg r slot) (othV q m R (slotSp q seg r slot) seq (spotsL q seg r)).1, bgate q m R (slotSp q seg r slot) (othV q m R (slotSp q seg r slot) seq (spotsL q seg r)).1)
      else refL q m seg slot seq rs (bwrite q m R (slotSp q seg r slot) (othV q m R (slotSp q seg r slot) seq (spotsL q seg r)).1)
    else refL q m seg slot seq rs R
def sRefill (q m : G3) (R : Rk) (seg slot seq : Int) : Rk × Int := if slottedE q R seg slot ≠ 0 then (R, slottedE q R seg slot) else refL q m seg slot seq (List.range q.2.1.toNat) R
theorem bwrite_bys {q m : G3} {R : Rk} (h : R.bys) (s : Int × Int) {b : List Int} (hb : Byts b) : (bwrite q m R s b).bys := by
  unfold bwrite
  split
  · unfold Rk.write
    split
    · exact ((SameS.gated R _ _ _).bys h).put hb
    · exact (SameS.gated R _ _ _).bys h
  · exact h
theorem drop_range {n i : Nat} (h : i < n) : (List.range n).drop i = i :: (List.range n).drop (i + 1) := by
  rw [List.drop_eq_getElem_cons (by simpa using h)]; simp
theorem stripe_Refill_spec (hcr : RowsOk cv) (hcv : LacksOk cv) (bb rb : Nat) (q m : G3) (hq : RightB q = true) (R : Rk) (hby : R.bys) (ds : Slc) (ps : List Nat) (seg slot seq : Int) :
    wps g (bnk bb rb q m * rackP rb R ds ps) (stripe_Refill cv (ptr bb) seg slot seq) (fun x => pr (x = (sRefill q m R seg slot seq).2) * bnk bb rb q m * rackP rb (sRefill q m R seg slot seq).1 ds ps) := by
  unfold stripe_Refill
  have b1 := (RightB.bnd hq).d3
  have b2 := (RightB.bnd hq).d16
  refine wps_alloc fun x4 => ?_
  refine wps_alloc fun x7 => ?_
  refine wps_alloc fun x8 => ?_
  refine wps_ld (ptr bb) (by rfl) ?_
  refine wps_val2 (fun _ => stripe_slotted_val bb rb q m R ds ps seg slot) ?_
  by_cases ht : slottedE q R seg slot = 0
  rotate_left
  · have hsw : sRefill q m R seg slot seq = (R, slottedE q R seg slot) := if_pos ht
    rw [hsw]
    refine wps_ite (fun _ => ?_) (fun h => absurd (by simpa using ht) h)
    refine wps_st (by simp) ?_
    refine wps_ld (slottedE q R seg slot) (by rfl) (wps_pure ?_)
    repeat first | (with_reducible refine ent_pick ?_) | (refine ent_prq ?_)
    all_goals first | rfl | trivial
  refine wps_ite (fun h => absurd h (by simp [ht])) (fun _ => ?_)
  obtain ⟨hsl, hse⟩ := slotted_in ht
  have hsw : sRefill q m R seg slot seq = refL q m seg slot seq (List.range q.2.1.toNat) R := by unfold sRefill; rw [if_neg (by simp [ht])]
  rw [hsw]
  refine wps_ld (ptr bb) (by rfl) ?_
  refine wps_ld seq (by rfl) ?_
  refine wps_bind (stripe_lacks_spec bb seg slot seq) fun v => ?_
  refine wps_ex fun a1 => wps_ex fun a2 => wps_ex fun a3 => wps_ex fun a4 => ?_
  rw [star_assoc]
  refine wps_pr fun hv => ?_
  subst hv
  generalize hfin : refL q m seg slot seq (List.range q.2.1.toNat) R = fin
  refine wps_rangeY (F := emp)
    (fun s => pr (refL q m seg slot seq ((List.range q.2.1.toNat).drop s.1) s.2 = fin) * pc x4 [.pointer (ptr bb)] * pc x7 [.int .i64 seq] * pc x8 [.int .i64 0])
    (fun j => match j with | .ret => bnk bb rb q m * rackP rb fin.1 ds ps * pc x8 [.int .i64 fin.2] | .exit _ => pr False)
    (fun s x t => ex fun b : Nat => pr (t = (x.1, ⟨b, 0, none⟩)) * bnk bb rb q m * rackP rb s.2 ds ps * own 2 x.1 (sv (spotsL q seg s.1)) * (pr (refL q m seg slot seq ((List.range q.2.1.toNat).drop s.1) s.2 = fin) * pc x4 [.pointer (ptr bb)] * pc x7 [.int .i64 seq] * pc x8 [.int .i64 0]) * pc b [.int .i64 x.2.1, .int .i64 x.2.2])
    (lacks_iter hcr hcv a1 a2 a3 a4 bb rb q m seg slot seq ⟨hq, hse.1, hse.2⟩ hsl R hby ds ps) ?_ ?_ ?_ ?_ ?_ ?_ ?_
  · refine Ent.trans ?_ (Ent.of_eq (emp_star _).symm)
    simp only [← star_assoc]
    repeat first | (with_reducible exact ent_drop) | (with_reducible refine ent_pick ?_) | (refine ent_prx ?_ ?_; rotate_left)
    all_goals first | exact hfin | trivial
  · intro s x hx g
    refine wps_alloc fun b => ?_
    refine wps_stA (by simp) (by simp [Value.oneCell']) (wps_pure (ent_ex b ?_))
    simp only [← star_assoc]
    refine ent_pickC (by rfl) ?_
    repeat first | (with_reducible refine ent_pick ?_) | (refine ent_prq ?_)
    all_goals first | rfl | trivial
  · intro s x hx t g
    refine wps_ex fun b => ?_
    simp only [← star_assoc]
    refine wps_prP fun hR => ?_
    refine wps_prP fun ht => ?_
    subst ht
    obtain ⟨i, R1⟩ := s
    obtain ⟨⟨hlt, hby1, hyes⟩, hsp⟩ := hx
    dsimp only at hlt hby1 hyes hsp hR ⊢
    rw [drop_range (show i < q.2.1.toNat by omega), refL, if_pos hyes, ← hsp] at hR
    have hspl := spotsL_len q seg i b1
    refine wps_ld (ptr bb) (by rfl) ?_
    refine wps_ldA x.2 (by rfl) ?_
    refine wps_ld seq (by rfl) ?_
    refine wps_fact (Ent.trans (ent_pick1 (A := rackP rb R1 ds ps)) rackP_good) fun hg => ?_
    refine wps_call3 (fun _ => stripe_others_spec bb rb q m R1 hby1 ds ps x.1 (spotsL q seg i) (by omega) x.2 seq (H := own 2 x.1 (sv (spotsL q seg i))) (own_rsl _ _ _)) fun y => ?_
    have hob := othV_byts (q := q) (m := m) hby1 x.2 seq (spotsL q seg i)
    generalize othV q m R1 x.2 seq (spotsL q seg i) = o at *
    simp only [← star_assoc]
    refine wps_prP fun hy => ?_
    rw [hy]
    cases ho : o.2
    · rw [ho, if_pos rfl] at hR
      subst hR
      refine wps_ite (fun _ => ?_) (fun h => absurd rfl h)
      refine wps_st (by simp) (wps_pure ?_)
      dsimp only
      repeat first | (with_reducible exact ent_drop) | (with_reducible refine ent_pick ?_) | (refine ent_pickC (by rfl) ?_)
    rw [ho, if_neg (by decide)] at hR
    refine wps_ite (fun h => absurd h (by decide)) (fun _ => ?_)
    refine wps_ld (ptr bb) (by rfl) ?_
    refine wps_ld x.2.1 (by rfl) ?_
    refine wps_ld x.2.2 (by rfl) ?_
    refine wps_call3 (fun _ => bank_Write_spec (H := own 1 y.1 (bv o.1)) bb rb q m R1 ds ps x.2.1 x.2.2 y.1 o.1 (own_rsl _ _ _) (by have := hob.2; omega)) fun e => ?_
    simp only [← star_assoc]
    refine wps_prP fun he => ?_
    have he' : e = bgate q m R1 x.2 o.1 := he
    have hbw : (if (slotV q m x.2.1).2 = true then R1.write (slotV q m x.2.1).1 x.2.2 o.1 else R1) = bwrite q m R1 x.2 o.1 := rfl
    rw [hbw, he']
    by_cases h0 : bgate q m R1 x.2 o.1 = 0
    · rw [if_neg (by simp [h0])] at hR
      refine wps_ite (fun h => absurd h (by simp [h0])) (fun _ => wps_pure ?_)
      dsimp only
      refine ent_ex (i + 1, bwrite q m R1 x.2 o.1) ?_
      simp only [← star_assoc]
      repeat first | (with_reducible refine ent_pick ?_) | (refine ent_prx ?_ ?_; rotate_left) | (refine ent_prq ?_)
      all_goals first | exact ⟨trivial, bwrite_bys hby1 _ hob.1⟩ | exact hR | trivial
    · rw [if_pos h0] at hR
      subst hR
      refine wps_ite (fun _ => ?_) (fun h => absurd (by simpa using h0) h)
      refine wps_st (by simp) (wps_pure ?_)
      dsimp only
      repeat first | (with_reducible exact ent_drop) | (with_reducible refine ent_pick ?_) | (refine ent_pickC (by rfl) ?_)
  · intro s s' h
    refine Ent.starl (Ent.starl (Ent.starl fun o ho => ?_))
    have hn := h.no
    have hx := h.nx
    have hlt := h.lt
    subst hx
    have ho' : refL q m seg slot seq ((List.range q.2.1.toNat).drop s.1) s.2 = fin := ho
    rw [drop_range (show s.1 < q.2.1.toNat by omega), refL, if_neg (by simp [hn])] at ho'
    exact ho'
  · intro D s hf
    simp only [← star_assoc]
    refine wps_prP fun hR => ?_
    rw [List.drop_of_length_le (by have := hf.1; simp; omega), refL] at hR
    subst hR
    refine wps_st (by simp) ?_
    refine wps_take ?_
    refine wps_ld 0 (by rfl) (wps_pure ?_)
    repeat first | (with_reducible refine ent_pick ?_) | (refine ent_prq ?_)
    all_goals first | rfl | trivial
  · intro D
    simp only [← star_assoc]
    refine wps_take ?_
    refine wps_ld fin.2 (by rfl) (wps_pure ?_)
    repeat first | (with_reducible refine ent_pick ?_) | (refine ent_prq ?_)
    all_goals first | rfl | trivial
  · intro D id
    exact wps_false (fun o ho => ent_right _ _ o (ent_left _ _ o ho))
end Go.Proofs.Ytldmeimebebllaa
namespace Go.Proofs.Ytldmeimebebllaa
open Go.Mo
set_option linter.unusedVariables false
variable {g : Fr} {cv : CV}
theorem val_or {H : HP} {p q : Prop} [Decidable p] [Decidable q] : Val g H (if decide p = true then pureM true else pureM (decide q)) (decide (p ∨ q)) := by
  by_cases h : p
  · rw [decide_eq_true h, decide_eq_true (Or.inl h : p ∨ q)]; exact wps_pure (ent_pr rfl)
  · rw [decide_eq_false h]
    exact wps_pure (ent_prr (decide_eq_decide.2 (by simp [h])) (Ent.refl _))
theorem pow256 (i : Nat) : (0 : Int) < ((256 ^ i : Nat) : Int) := by exact_mod_cast Nat.pow_pos (by decide)
theorem dg_tmod {n : Int} (hn : 0 ≤ n) (i : Nat) : IntKind.wrap .u8 (Int.tmod (n / (256 ^ i : Nat)) 256) = dg n i := by
  have h0 : 0 ≤ n / ((256 ^ i : Nat) : Int) := Int.ediv_nonneg hn (Int.le_of_lt (pow256 i))
  rw [Int.tmod_eq_emod_of_nonneg h0]
  unfold dg
  simp [IntKind.wrap, IntKind.bits, IntKind.signed]
theorem div_step {n : Int} (i : Nat) : n / (256 ^ i : Nat) / 256 = n / (256 ^ (i + 1) : Nat) := by
  rw [Nat.pow_succ, Int.natCast_mul, Int.ediv_ediv_of_nonneg (Int.le_of_lt (pow256 i))]; rfl
theorem ref01_Put_spec {H : HP} (w : Nat) (n : Int) (h1 : 1 ≤ w) (h4 : w ≤ 4) (hn63 : n < 9223372036854775808) : wps g H (ref01_Put w n) (fun s => H * own 1 s (bv (putB w n))) := by
  unfold ref01_Put
  refine wps_alloc fun x7 => ?_
  refine wps_val val_or ?_
  refine wps_val val_or ?_
  by_cases hn : 0 ≤ n
  rotate_left
  · have hf : ¬ fitsN w n := fun h => hn h.1
    rw [putB, if_neg hf]
    refine wps_ite (fun _ => wps_pure ?_) (fun h => absurd (decide_eq_true (.inr (by omega))) h)
    refine ent_swap (A := pc x7 []) (B := own 1 ⟨some ⟨x7, 0, none⟩, 0, 0⟩ []) (pc_own (n := 0) (z := 1) rfl) ?_
    exact Ent.refl _
  refine wps_ite (fun h => by have := of_decide_eq_true h; omega) (fun _ => ?_)
  refine wps_swap (A := pc x7 []) (B := own 1 ⟨some ⟨x7, 0, none⟩, 0, 0⟩ []) (pc_own (n := 0) (z := 1) rfl) ?_
  refine wps_loop (fun st => ex fun i : Nat => pr (st.2.2 = (i : Int) ∧ i ≤ w ∧ st.1 = n / (256 ^ i : Nat) ∧ st.2.1.len = i) * H * own 1 st.2.1 (bv ((List.range i).map (dg n)))) (fun st => (w - st.2.2).toNat) ?_ fun st => ?_
  · refine ent_ex 0 ?_
    refine ent_pickS (by rfl) ?_
    exact ent_pr ⟨rfl, by omega, by simp, rfl⟩
  refine wps_ex fun i => ?_
  rw [star_assoc]
  refine wps_pr fun ⟨hi, hin, hv, hl⟩ => ?_
  have h0 : 0 ≤ st.1 := by rw [hv]; exact Int.ediv_nonneg hn (Int.le_of_lt (pow256 i))
  have hle : st.1 ≤ n := by rw [hv]; exact Int.ediv_le_self _ hn
  refine wps_ite (fun hc => ?_) (fun hc => ?_)
  · have hlt : i < w := by simp only [decide_eq_true_eq] at hc; omega
    refine wps_append1 1 rfl (by decide) rfl rfl (by simp [Value.oneCell']) (by omega) fun s' hs' => wps_pure ?_
    refine ent_prr (by dsimp only; rw [range_add1 hi (by omega)]; omega) (ent_ex (i + 1) ?_)
    have e1 : w64 (Int.tdiv st.1 256) = n / (256 ^ (i + 1) : Nat) := by
      rw [Int.tdiv_eq_ediv_of_nonneg h0, w64_id (by omega) (by omega), hv, div_step]
    rw [e1]
    have e2 : bv ((List.range (i + 1)).map (dg n)) = bv ((List.range i).map (dg n)) ++ [Value.int .u8 (IntKind.wrap .u8 (Int.tmod st.1 256))] := by
      rw [hv, dg_tmod hn]
      simp [bv, List.range_succ]
    rw [e2]
    dsimp only
    refine ent_pick ?_
    exact Ent.trans (ent_pr ⟨range_add1 hi (by omega), by omega, rfl, by omega⟩) (Ent.of_eq rfl)
  · have hie : i = w := by
      have : ¬ (st.2.2 < (w : Int)) := fun h => hc (decide_eq_true h)
      omega
    rw [hie] at hv
    have hM : (0 : Int) < ((256 ^ w : Nat) : Int) := by exact_mod_cast Nat.pow_pos (by decide)
    have hfit : fitsN w n ↔ ¬ st.1 > 0 := by
      unfold fitsN
      rw [hv]
      generalize ((256 ^ w : Nat) : Int) = M at *
      constructor
      · rintro ⟨_, h⟩
        rw [Int.ediv_eq_zero_of_lt hn h]; omega
      · intro h
        refine ⟨hn, ?_⟩
        refine Classical.byContradiction fun h2 => h ?_
        have : 1 ≤ n / M := Int.le_ediv_of_mul_le hM (by omega)
        omega
    refine wps_mapR (wps_ite (fun h => wps_pure ?_) (fun h => wps_pure ?_))
    · have h' : ¬ fitsN w n := fun h2 => hfit.1 h2 (of_decide_eq_true h)
      rw [putB, if_neg h']
      exact ent_own0 (ent_left _ _)
    · have h' : fitsN w n := hfit.2 fun h2 => h (decide_eq_true h2)
      rw [putB, if_pos h', hie]
      exact Ent.refl _
theorem ref01_Get_val {H : HP} {s : Slc} {b : List Int} (p w : Nat) (hs : Ent H (byt s b)) (hb : Byts b) (h1 : 1 ≤ w) (h4 : w ≤ 4) (hp : p + w ≤ b.length) (hl : b.length ≤ 1099511627776) : Val g H (ref01_Get s p w) (getB b p w, true) := by
  unfold ref01_Get
  refine wps_fact (len_of hs) fun hls => ?_
  refine wps_val val_or (wps_val val_or (wps_val val_or (wps_val val_or ?_)))
  refine wps_ite (fun h => by
    have := of_decide_eq_true h
    rw [w64_id (by omega) (by omega)] at this
    omega) (fun _ => ?_)
  refine wps_loop (fun st => ex fun i : Nat => pr (st.2 = (i : Int) - 1 ∧ i ≤ w ∧ st.1 = getL ((b.drop (p + i)).take (w - i))) * H) (fun st => (st.2 + 1).toNat) (ent_ex w (ent_prr ⟨by dsimp only; rw [w64_id] <;> omega, by omega, by rw [Nat.sub_self]; rfl⟩ (Ent.refl _))) fun st => ?_
  refine wps_ex fun i => wps_pr fun ⟨hi, hin, hv⟩ => ?_
  refine wps_ite (fun hc => ?_) (fun hc => ?_)
  · have hi1 : 1 ≤ i := by have := of_decide_eq_true hc; omega
    have hlt : p + (i - 1) < b.length := by omega
    have hr := getL_rng ((hb.drop (p + i)).take (w - i))
    have hlen : ((b.drop (p + i)).take (w - i)).length = w - i := by simp; omega
    rw [hlen] at hr
    have hle : (256 : Nat) ^ (w - i) ≤ 256 ^ 3 := Nat.pow_le_pow_right (by decide) (by omega)
    have hle2 : ((256 ^ (w - i) : Nat) : Int) ≤ 16777216 := Int.ofNat_le.2 hle
    have hbg := hb.get hlt
    refine wps_rd (p + (i - 1)) b[p + (i - 1)] hs (by rw [hi, w64_id] <;> omega) (by simp [bv, List.getElem?_eq_getElem hlt]) (wps_pure ?_)
    refine ent_prr (by dsimp only; rw [w64_id] <;> omega) (ent_ex (i - 1) (ent_prr ⟨by dsimp only; rw [w64_id] <;> omega, by omega, ?_⟩ (Ent.refl _)))
    have e1 : (b.drop (p + (i - 1))).take (w - (i - 1)) = b[p + (i - 1)] :: (b.drop (p + i)).take (w - i) := by
      rw [List.drop_eq_getElem_cons hlt, show w - (i - 1) = (w - i) + 1 by omega, List.take_succ_cons, show p + (i - 1) + 1 = p + i by omega]
    rw [e1, getL, ← hv]
    rw [← hv] at hr
    dsimp only
    rw [w64_id (n := st.1 * 256) (by omega) (by omega), w64_id (n := b[p + (i - 1)]) (by omega) (by omega), w64_id (by omega) (by omega)]
    omega
  · have hie : i = 0 := by
      have : ¬ (st.2 ≥ 0) := fun h => hc (decide_eq_true h)
      omega
    subst hie
    refine wps_mapR (wps_pure (ent_prr ?_ (Ent.refl _)))
    rw [hv]; rfl
end Go.Proofs.Ytldmeimebebllaa
namespace Go.Proofs.Ytldmeimebebllaa
open Go.Mo
set_option linter.unusedVariables false
variable {g : Fr} {cv : CV}
theorem ref03_Places_val {H : HP} (q : G3) : Val g H (ref03_Places q) (if RightB q = true then placesI q else 0) := by
  unfold ref03_Places
  refine wps_alloc fun x1 => ?_
  refine wps_ldG q.1 q.2.1 q.2.2 (by rfl) ?_
  refine wps_val (ref03_Right_val (q.1, q.2.1, q.2.2)) ?_
  by_cases h : RightB q = true
  · rw [if_pos h]
    refine wps_ite (fun h2 => absurd h (by simpa using h2)) (fun _ => ?_)
    refine wps_ld q.2.1 (by rfl) ?_
    refine wps_ld q.1 (by rfl) (wps_pure (ent_val ?_))
    exact (RightB.bnd h).places.1
  · rw [if_neg h]
    exact wps_ite (fun _ => wps_pure (ent_val rfl)) (fun h2 => absurd (by simpa using h2) h)
theorem ref03_Parity_val {H : HP} (q : G3) (seg r : Int) : Val g H (ref03_Parity q seg r) (if parOkB q seg r then (parSpot q seg r, true) else ((0, 0), false)) := by
  unfold ref03_Parity
  refine wps_alloc fun x3 => ?_
  refine wps_alloc fun x6 => ?_
  refine wps_ldG q.1 q.2.1 q.2.2 (by rfl) ?_
  refine wps_val (ref03_Right_val (q.1, q.2.1, q.2.2)) ?_
  refine wps_val val_orb ?_
  refine wps_val (v := (!RightB q || decide (seg < 0)) || decide (seg ≥ q.2.2)) (wps_ite (fun h => wps_pure (ent_prr (by rw [h]; rfl) (Ent.refl _))) (fun h => wps_ld q.2.2 (by rfl) (wps_pure (ent_prr (by rw [show (!RightB q || decide (seg < 0)) = false by simpa using h]; rfl) (Ent.refl _))))) ?_
  refine wps_val val_orb ?_
  refine wps_val (v := (((!RightB q || decide (seg < 0)) || decide (seg ≥ q.2.2)) || decide (r < 0)) || decide (r ≥ q.2.1)) (wps_ite (fun h => wps_pure (ent_prr (by rw [h]; rfl) (Ent.refl _))) (fun h => wps_ld q.2.1 (by rfl) (wps_pure (ent_prr (by rw [show (((!RightB q || decide (seg < 0)) || decide (seg ≥ q.2.2)) || decide (r < 0)) = false by simpa using h]; rfl) (Ent.refl _))))) ?_
  by_cases hok : parOkB q seg r = true
  rotate_left
  · rw [if_neg hok]
    refine wps_ite (fun _ => ?_) (fun h => absurd ?_ hok)
    · refine wps_stA (by simp) (by simp [Value.oneCell']) ?_
      refine wps_ldA (enc := fun y : (Int × Int) => [(.int .i64 y.1), (.int .i64 y.2)]) (0, 0) (by rfl) (wps_pure (ent_val rfl))
    · simp only [Bool.or_eq_true, not_or, Bool.not_eq_true', Bool.not_eq_false, decide_eq_true_eq] at h
      obtain ⟨⟨⟨⟨h1, h2⟩, h3⟩, h4⟩, h5⟩ := h
      simp only [parOkB, Bool.and_eq_true, decide_eq_true_eq]
      exact ⟨by simpa using h1, by omega, by omega⟩
  rw [if_pos hok]
  simp only [parOkB, Bool.and_eq_true, decide_eq_true_eq] at hok
  obtain ⟨hR, hs, hr⟩ := hok
  have hb := RightB.bnd hR
  have b1 := hb.d3
  have b2 := hb.d16
  have hrw := rowOf_rng (q := q) (seg := seg) (r := r) ⟨hR, hs.1, by omega⟩ ⟨hr.1, by omega⟩
  have hse := hb.sect
  refine wps_ite (fun h => absurd h (by simp [hR]; omega)) (fun _ => ?_)
  refine wps_ld q.1 (by rfl) ?_
  have hmul0 : 0 ≤ seg * q.2.1 := Int.mul_nonneg hs.1 (by omega)
  have hro : rowOf q seg r = seg * q.2.1 + r := rfl
  have e1 : w64 (w64 (seg * q.2.1) + r) = rowOf q seg r := by
    rw [w64_id (n := seg * q.2.1) (by omega) (by omega), w64_id (by omega) (by omega)]; rfl
  refine wps_loop (fun st => ex fun i : Nat => pr (st.2 = (i : Int) ∧ (i : Int) ≤ rowOf q seg r ∧ st.1 = q.1 - 1 - (i : Int) % q.1) * H * pc x3 [.int .i64 q.1, .int .i64 q.2.1, .int .i64 q.2.2] * pc x6 [.int .i64 0, .int .i64 0]) (fun st => (rowOf q seg r - st.2).toNat) ?_ fun st => ?_
  · refine ent_ex 0 ?_
    repeat first | (with_reducible refine ent_pick ?_) | (refine ent_prq ?_)
    all_goals first | exact ⟨rfl, by omega, by dsimp only; rw [show ((0 : Nat) : Int) % q.1 = 0 from Int.zero_emod _, w64_id] <;> omega⟩ | trivial
  refine wps_ex fun i => wps_prP fun ⟨hi, hin, hv⟩ => ?_
  have hm0 := Int.emod_nonneg (i : Int) (b := q.1) (by omega)
  have hm1 := Int.emod_lt_of_pos (i : Int) (b := q.1) (by omega)
  refine wps_ld q.2.1 (by rfl) ?_
  rw [e1]
  refine wps_ite (fun hc => ?_) (fun hc => ?_)
  · have hlt : (i : Int) < rowOf q seg r := by have := of_decide_eq_true hc; omega
    have hstep : ((i + 1 : Nat) : Int) % q.1 = if (i : Int) % q.1 = q.1 - 1 then 0 else (i : Int) % q.1 + 1 := by
      have := Int.emod_add_mul_ediv (i : Int) q.1
      by_cases h : (i : Int) % q.1 = q.1 - 1
      · rw [if_pos h]
        rw [show ((i + 1 : Nat) : Int) = 0 + q.1 * ((i : Int) / q.1 + 1) by rw [Int.mul_add]; omega, Int.add_mul_emod_self_left]; rfl
      · rw [if_neg h]
        rw [show ((i + 1 : Nat) : Int) = ((i : Int) % q.1 + 1) + q.1 * ((i : Int) / q.1) by omega, Int.add_mul_emod_self_left, Int.emod_eq_of_lt (by omega) (by omega)]
    have e2 : w64 (st.1 - 1) = st.1 - 1 := w64_id (by omega) (by omega)
    rw [e2]
    refine wps_ite (fun hd => ?_) (fun hd => wps_pure ?_)
    · have hd' := of_decide_eq_true hd
      rw [if_pos (by omega)] at hstep
      refine wps_ld q.1 (by rfl) (wps_pure ?_)
      refine ent_prr (by dsimp only; rw [range_add1 hi (by omega)]; omega) (ent_ex (i + 1) ?_)
      repeat first | (with_reducible refine ent_pick ?_) | (refine ent_prq ?_)
      all_goals first | exact ⟨range_add1 hi (by omega), by omega, by dsimp only; rw [hstep, w64_id] <;> omega⟩ | trivial
    · have hd' : ¬ (st.1 - 1 < 0) := fun h => hd (decide_eq_true h)
      rw [if_neg (by omega)] at hstep
      refine ent_prr (by dsimp only; rw [range_add1 hi (by omega)]; omega) (ent_ex (i + 1) ?_)
      repeat first | (with_reducible refine ent_pick ?_) | (refine ent_prq ?_)
      all_goals first | exact ⟨range_add1 hi (by omega), by omega, by dsimp only; rw [hstep]; omega⟩ | trivial
  · have hie : (i : Int) = rowOf q seg r := by
      have : ¬ (st.2 < rowOf q seg r) := fun h => hc (decide_eq_true h)
      omega
    refine wps_mapR ?_
    refine wps_ld q.2.1 (by rfl) ?_
    refine wps_stA (by simp) (by simp [Value.oneCell']) ?_
    have e5 : w64 (w64 (5 + w64 (seg * q.2.1)) + r) = 5 + rowOf q seg r := by
      rw [w64_id (n := seg * q.2.1) (by omega) (by omega), w64_id (n := 5 + seg * q.2.1) (by omega) (by omega), w64_id] <;> omega
    rw [e5]
    refine wps_ldA (enc := fun y : (Int × Int) => [(.int .i64 y.1), (.int .i64 y.2)]) (st.1, 5 + rowOf q seg r) (by rfl) (wps_pure ?_)
    refine ent_prr ?_ ent_drop
    rw [hv, hie]; rfl
theorem ref03_Block_val {H : HP} (q : G3) (seg k : Int) : Val g H (ref03_Block q seg k) (if blkOkB q seg k then (blkSpot q seg k, true) else ((0, 0), false)) := by
  unfold ref03_Block
  refine wps_alloc fun x3 => ?_
  refine wps_alloc fun x6 => ?_
  refine wps_ldG q.1 q.2.1 q.2.2 (by rfl) ?_
  refine wps_val (ref03_Right_val (q.1, q.2.1, q.2.2)) ?_
  refine wps_val val_orb ?_
  refine wps_val (v := (!RightB q || decide (k < 0)) || decide (k > if RightB q = true then placesI q else 0)) (wps_ite (fun h => wps_pure (ent_prr (by rw [h]; rfl) (Ent.refl _))) (fun h => wps_ldG q.1 q.2.1 q.2.2 (by rfl) (wps_val (ref03_Places_val _) (wps_pure (ent_prr (by rw [show (!RightB q || decide (k < 0)) = false by simpa using h]; rfl) (Ent.refl _)))))) ?_
  by_cases hk : RightB q = true ∧ 0 ≤ k ∧ k ≤ placesI q
  rotate_left
  · have hno : ¬ blkOkB q seg k = true := fun h => by
      simp only [blkOkB, Bool.and_eq_true, decide_eq_true_eq] at h
      exact hk ⟨h.1, h.2.1⟩
    rw [if_neg hno]
    refine wps_ite (fun _ => ?_) (fun h => absurd ?_ hk)
    · refine wps_stA (by simp) (by simp [Value.oneCell']) ?_
      refine wps_ldA (enc := fun y : (Int × Int) => [(.int .i64 y.1), (.int .i64 y.2)]) (0, 0) (by rfl) (wps_pure (ent_val rfl))
    · simp only [Bool.or_eq_true, not_or, Bool.not_eq_true', Bool.not_eq_false, decide_eq_true_eq] at h
      have hr : RightB q = true := by simpa using h.1.1
      rw [if_pos hr] at h
      exact ⟨hr, by omega, by omega⟩
  obtain ⟨hR, hk⟩ := hk
  rw [if_pos hR]
  have hb := RightB.bnd hR
  have b1 := hb.d3
  have b2 := hb.d16
  have hpl := hb.places.2
  refine wps_ite (fun h => absurd h (by simp [hR]; omega)) (fun _ => ?_)
  have eD : w64 (q.1 - 1) = q.1 - 1 := w64_id (by omega) (by omega)
  refine wps_loop (fun st => ex fun i : Nat => pr (st.2 = (i : Int) ∧ st.1 = k - (i : Int) * (q.1 - 1) ∧ 0 ≤ st.1) * H * pc x3 [.int .i64 q.1, .int .i64 q.2.1, .int .i64 q.2.2] * pc x6 [.int .i64 0, .int .i64 0]) (fun st => st.1.toNat) ?_ fun st => ?_
  · refine ent_ex 0 ?_
    repeat first | (with_reducible refine ent_pick ?_) | (refine ent_prq ?_)
    all_goals first | exact ⟨rfl, by simp, hk.1⟩ | trivial
  refine wps_ex fun i => wps_prP fun ⟨hi, hv, h0⟩ => ?_
  have him : 0 ≤ (i : Int) * (q.1 - 1) := Int.mul_nonneg (by omega) (by omega)
  have hile : (i : Int) ≤ (i : Int) * (q.1 - 1) := by
    have := Int.mul_le_mul_of_nonneg_left (show (1 : Int) ≤ q.1 - 1 by omega) (show (0 : Int) ≤ (i : Int) by omega)
    omega
  refine wps_ld q.1 (by rfl) ?_
  rw [eD]
  refine wps_ite (fun hc => ?_) (fun hc => ?_)
  · have hge := of_decide_eq_true hc
    refine wps_ld q.1 (by rfl) (wps_pure ?_)
    rw [eD]
    refine ent_prr (by dsimp only; rw [w64_id] <;> omega) (ent_ex (i + 1) ?_)
    repeat first | (with_reducible refine ent_pick ?_) | (refine ent_prq ?_)
    all_goals first | exact ⟨range_add1 hi (by omega), by dsimp only; rw [w64_id (by omega) (by omega), hv, show ((i + 1 : Nat) : Int) = (i : Int) + 1 by omega, Int.add_mul]; omega, by dsimp only; rw [w64_id] <;> omega⟩ | trivial
  have hlt : st.1 < q.1 - 1 := by
    have : ¬ (st.1 ≥ q.1 - 1) := fun h => hc (decide_eq_true h)
    omega
  have hki : k = st.1 + (i : Int) * (q.1 - 1) := by omega
  have hkd : k / (q.1 - 1) = (i : Int) := by
    rw [hki, Int.add_mul_ediv_right _ _ (by omega), Int.ediv_eq_zero_of_lt h0 hlt]; omega
  have hkm : k % (q.1 - 1) = st.1 := by
    rw [hki, Int.add_mul_emod_self_right, Int.emod_eq_of_lt h0 hlt]
  refine wps_mapR ?_
  refine wps_ldG q.1 q.2.1 q.2.2 (by rfl) ?_
  refine wps_val (ref03_Parity_val (q.1, q.2.1, q.2.2) seg st.2) ?_
  have hrow := row_of_k hR hk
  have hpe : parOkB q seg st.2 = blkOkB q seg k := by
    have h1 : decide (0 ≤ st.2 ∧ st.2 ≤ q.2.1 - 1) = true := decide_eq_true (by rw [hi, ← hkd]; exact hrow)
    have h2 : decide (0 ≤ k ∧ k ≤ placesI q) = true := decide_eq_true hk
    unfold parOkB blkOkB
    rw [h1, h2]
    simp
  rw [show parOkB (q.1, q.2.1, q.2.2) seg st.2 = blkOkB q seg k from hpe]
  refine wps_alloc fun x9 => ?_
  by_cases hok : blkOkB q seg k = true
  rotate_left
  · rw [if_neg hok, if_neg hok]
    refine wps_stA (by simp) (by simp [Value.oneCell']) ?_
    refine wps_ite (fun _ => ?_) (fun h => absurd rfl h)
    refine wps_stA (by simp) (by simp [Value.oneCell']) ?_
    refine wps_ldA (enc := fun y : (Int × Int) => [(.int .i64 y.1), (.int .i64 y.2)]) (0, 0) (by rfl) (wps_pure ?_)
    refine ent_prr rfl ent_drop
  rw [if_pos hok, if_pos hok]
  refine wps_stA (by simp) (by simp [Value.oneCell']) ?_
  refine wps_ite (fun h => absurd h (by simp)) (fun _ => ?_)
  have hp0 := Int.emod_nonneg (rowOf q seg (i : Int)) (b := q.1) (by omega)
  have hp1 := Int.emod_lt_of_pos (rowOf q seg (i : Int)) (b := q.1) (by omega)
  have hps : parSpot (q.1, q.2.1, q.2.2) seg st.2 = (q.1 - 1 - rowOf q seg (i : Int) % q.1, 5 + rowOf q seg (i : Int)) := by rw [hi]; rfl
  have hbs : blkSpot q seg k = ((q.1 - 1 - rowOf q seg (i : Int) % q.1 + 1 + st.1) % q.1, 5 + rowOf q seg (i : Int)) := by unfold blkSpot; rw [hkd, hkm]
  rw [hps, hbs]
  generalize hp : q.1 - 1 - rowOf q seg (i : Int) % q.1 = p at *
  refine wps_loop (fun t => ex fun j : Nat => pr (t = (j : Int) ∧ (j : Int) ≤ st.1 + 1) * H * pc x3 [.int .i64 q.1, .int .i64 q.2.1, .int .i64 q.2.2] * pc x6 [.int .i64 0, .int .i64 0] * pc x9 [.int .i64 ((p + (j : Int)) % q.1), .int .i64 (5 + rowOf q seg (i : Int))]) (fun t => (st.1 + 1 - t).toNat) ?_ fun t => ?_
  · refine ent_ex 0 ?_
    refine ent_pickC (by simp [ovw]; exact (Int.emod_eq_of_lt (by omega) (by omega)).symm) ?_
    repeat first | (with_reducible refine ent_pick ?_) | (refine ent_prq ?_)
    all_goals first | exact ⟨rfl, by omega⟩ | trivial
  refine wps_ex fun j => wps_prP fun ⟨ht, hj⟩ => ?_
  have hm0 := Int.emod_nonneg (p + (j : Int)) (b := q.1) (by omega)
  have hm1 := Int.emod_lt_of_pos (p + (j : Int)) (b := q.1) (by omega)
  refine wps_ite (fun hc => ?_) (fun hc => ?_)
  · have hle := of_decide_eq_true hc
    refine wps_ld ((p + (j : Int)) % q.1) (by rfl) ?_
    refine wps_st (by simp) ?_
    rw [w64_id (by omega) (by omega)]
    refine wps_ld ((p + (j : Int)) % q.1 + 1) (by rfl) ?_
    refine wps_ld q.1 (by rfl) ?_
    have hstep : (p + ((j + 1 : Nat) : Int)) % q.1 = if (p + (j : Int)) % q.1 = q.1 - 1 then 0 else (p + (j : Int)) % q.1 + 1 := by
      have := Int.emod_add_mul_ediv (p + (j : Int)) q.1
      by_cases h : (p + (j : Int)) % q.1 = q.1 - 1
      · rw [if_pos h]
        rw [show p + ((j + 1 : Nat) : Int) = 0 + q.1 * ((p + (j : Int)) / q.1 + 1) by rw [Int.mul_add]; omega, Int.add_mul_emod_self_left]; rfl
      · rw [if_neg h]
        rw [show p + ((j + 1 : Nat) : Int) = ((p + (j : Int)) % q.1 + 1) + q.1 * ((p + (j : Int)) / q.1) by omega, Int.add_mul_emod_self_left, Int.emod_eq_of_lt (by omega) (by omega)]
    refine wps_ite (fun he => ?_) (fun he => wps_pure ?_)
    · have he' : (p + (j : Int)) % q.1 + 1 = q.1 := by simpa using he
      rw [if_pos (by omega)] at hstep
      refine wps_st (by simp) (wps_pure ?_)
      refine ent_prr (by rw [range_add1 ht (by omega)]; omega) (ent_ex (j + 1) ?_)
      refine ent_pickC (by rw [hstep]; rfl) ?_
      repeat first | (with_reducible refine ent_pick ?_) | (refine ent_prq ?_)
      all_goals first | exact ⟨range_add1 ht (by omega), by omega⟩ | trivial
    · have he' : ¬ (p + (j : Int)) % q.1 + 1 = q.1 := by simpa using he
      rw [if_neg (by omega)] at hstep
      refine ent_prr (by rw [range_add1 ht (by omega)]; omega) (ent_ex (j + 1) ?_)
      refine ent_pickC (by rw [hstep]; rfl) ?_
      repeat first | (with_reducible refine ent_pick ?_) | (refine ent_prq ?_)
      all_goals first | exact ⟨range_add1 ht (by omega), by omega⟩ | trivial
  · have hje : (j : Int) = st.1 + 1 := by
      have : ¬ (t ≤ st.1) := fun h => hc (decide_eq_true h)
      omega
    refine wps_mapR ?_
    refine wps_ldA (enc := fun y : (Int × Int) => [(.int .i64 y.1), (.int .i64 y.2)]) ((p + (j : Int)) % q.1, 5 + rowOf q seg (i : Int)) (by rfl) ?_
    refine wps_stA (by simp) (by simp [Value.oneCell']) ?_
    refine wps_ldA (enc := fun y : (Int × Int) => [(.int .i64 y.1), (.int .i64 y.2)]) ((p + (j : Int)) % q.1, 5 + rowOf q seg (i : Int)) (by rfl) (wps_pure ?_)
    refine ent_prr ?_ ent_drop
    rw [hje, show p + (st.1 + 1) = p + 1 + st.1 by omega]
end Go.Proofs.Ytldmeimebebllaa
namespace Go.Proofs.Ytldmeimebebllaa
open Go.Mo
set_option linter.unusedVariables false
variable {g : Fr} {cv : CV}
def spotAt (q : G3) (seg : Int) (i : Nat) : Int × Int := (spotsL q seg (i / q.1.toNat)).getD (i % q.1.toNat) (0, 0)
theorem spotAt_rc {q : G3} {seg : Int} {r c : Nat} (h1 : 3 ≤ q.1) (hc : (c : Int) < q.1) : spotAt q seg (r * q.1.toNat + c) = (spotsL q seg r).getD c (0, 0) := by
  obtain ⟨D, hD⟩ : ∃ D : Nat, q.1 = (D : Int) := ⟨q.1.toNat, by omega⟩
  have hDn : q.1.toNat = D := by omega
  have hcD : c < D := by omega
  unfold spotAt
  rw [hDn, Nat.add_comm, Nat.add_mul_div_right _ _ (by omega), Nat.div_eq_of_lt hcD, Nat.zero_add, Nat.add_mul_mod_self_right, Nat.mod_eq_of_lt hcD]
theorem ref07_spot_val {H : HP} (q : G3) (seg : Int) (hs : InS q seg) (i : Nat) (hi : (i : Int) < q.2.1 * q.1) : Val g H (ref07_spot q seg i) (spotAt q seg i) := by
  unfold ref07_spot
  have hb := RightB.bnd hs.right
  have b1 := hb.d3
  have b2 := hb.d16
  have b3 := hb.r1
  have b4 := hb.r4
  have hs0 := hs.s0
  have hs1 := hs.s1
  obtain ⟨D, hD⟩ : ∃ D : Nat, q.1 = (D : Int) := ⟨q.1.toNat, by omega⟩
  have hDn : q.1.toNat = D := by omega
  have hD3 : 3 ≤ D := by omega
  have hrow : ((i / D : Nat) : Int) ≤ q.2.1 - 1 := by
    have h1 : i < q.2.1.toNat * D := by
      have : ((q.2.1.toNat * D : Nat) : Int) = q.2.1 * q.1 := by rw [Int.natCast_mul, ← hD]; congr 1; omega
      omega
    have := Nat.div_lt_of_lt_mul (by rw [Nat.mul_comm]; exact h1)
    omega
  have hmod : i % D < D := Nat.mod_lt _ (by omega)
  have hdm := Nat.div_add_mod i D
  have h64 : q.2.1 * q.1 ≤ 4 * 16 := Int.mul_le_mul b4 b2 (by omega) (by omega)
  have e1 : Int.tmod (i : Int) q.1 = ((i % D : Nat) : Int) := by rw [Int.tmod_eq_emod_of_nonneg (by omega), hD, ← Int.natCast_emod]
  have e2 : w64 (q.1 - 1) = q.1 - 1 := w64_id (by omega) (by omega)
  have e3 : w64 (Int.tdiv (i : Int) q.1) = ((i / D : Nat) : Int) := by
    have hq0 : 0 ≤ ((i / D : Nat) : Int) := Int.natCast_nonneg _
    rw [Int.tdiv_eq_ediv_of_nonneg (by omega), hD, ← Int.natCast_ediv, w64_id (by omega) (by omega)]
  have hsp : spotAt q seg i = (spotsL q seg (i / D)).getD (i % D) (0, 0) := by unfold spotAt; rw [hDn]
  generalize i / D = rr at *
  generalize i % D = cc at *
  refine wps_alloc fun x3 => ?_
  refine wps_alloc fun x6 => ?_
  refine wps_ld q.1 (by rfl) ?_
  refine wps_assert (by omega) ?_
  refine wps_regionH ?_
  refine wps_ldI q.1 (by rfl) ?_
  refine wps_assert (by omega) ?_
  refine wps_ldI q.1 (by rfl) ?_
  rw [e1, e2, e3]
  by_cases hlast : cc = D - 1
  · have hv : spotAt q seg i = parSpot q seg ((rr : Nat) : Int) := by
      rw [hsp, hlast, List.getD_eq_getElem?_getD, show D - 1 = (q.1 - 1).toNat by omega, spotsL_last]; rfl
    rw [hv]
    refine wps_ite (fun _ => ?_) (fun h => absurd (by rw [hlast]; exact beq_iff_eq.2 (by omega)) h)
    refine wps_ldG q.1 q.2.1 q.2.2 (by rfl) ?_
    refine wps_val (ref03_Parity_val (q.1, q.2.1, q.2.2) seg ((rr : Nat) : Int)) ?_
    have hok : parOkB (q.1, q.2.1, q.2.2) seg ((rr : Nat) : Int) = true := by
      have h1 : RightB (q.1, q.2.1, q.2.2) = true := hs.right
      simp only [parOkB, h1, Bool.true_and, Bool.and_eq_true, decide_eq_true_eq]; omega
    rw [if_pos hok]
    have hpe : parSpot (q.1, q.2.1, q.2.2) seg ((rr : Nat) : Int) = parSpot q seg ((rr : Nat) : Int) := rfl
    rw [hpe]
    generalize parSpot q seg ((rr : Nat) : Int) = sp
    refine wps_alloc fun x8 => ?_
    refine wps_stA (by simp) (by simp [Value.oneCell']) ?_
    refine wps_ldA sp (by rfl) ?_
    refine wps_stA (by simp) (by simp [Value.oneCell']) ?_
    refine wps_ldA sp (by rfl) (wps_pure ?_)
    exact ent_prr rfl ent_drop
  · have hlt : cc < D - 1 := by omega
    have hv : spotAt q seg i = blkSpot q seg (((rr : Nat) : Int) * (q.1 - 1) + ((cc : Nat) : Int)) := by
      rw [hsp, List.getD_eq_getElem?_getD]
      unfold spotsL
      rw [List.getElem?_append_left (by simp; omega), List.getElem?_map, List.getElem?_range (by omega)]; rfl
    rw [hv]
    refine wps_ite (fun h => by have := beq_iff_eq.1 h; omega) (fun _ => ?_)
    refine wps_regionH ?_
    refine wps_ldAI (enc := fun y : (Int × Int × Int) => [(.int .i64 y.1), (.int .i64 y.2.1), (.int .i64 y.2.2)]) (q.1, q.2.1, q.2.2) (by rfl) ?_
    refine wps_ldI q.1 (by rfl) ?_
    refine wps_ldI q.1 (by rfl) ?_
    refine wps_assert (by omega) ?_
    rw [e1, e2]
    have hm0 : 0 ≤ ((rr : Nat) : Int) * (q.1 - 1) := Int.mul_nonneg (by omega) (by omega)
    have hm1 : ((rr : Nat) : Int) * (q.1 - 1) ≤ (q.2.1 - 1) * (q.1 - 1) := Int.mul_le_mul_of_nonneg_right hrow (by omega)
    have hmm := hb.mul
    rw [Int.sub_mul] at hm1
    have e4 : w64 (w64 (((rr : Nat) : Int) * (q.1 - 1)) + ((cc : Nat) : Int)) = ((rr : Nat) : Int) * (q.1 - 1) + ((cc : Nat) : Int) := by
      rw [w64_id (n := ((rr : Nat) : Int) * (q.1 - 1)) (by omega) (by omega), w64_id (by omega) (by omega)]
    rw [e4]
    have hok : blkOkB (q.1, q.2.1, q.2.2) seg (((rr : Nat) : Int) * (q.1 - 1) + ((cc : Nat) : Int)) = true := by
      have h1 : RightB (q.1, q.2.1, q.2.2) = true := hs.right
      have hpl : placesI (q.1, q.2.1, q.2.2) = q.2.1 * (q.1 - 1) - 1 := rfl
      simp only [blkOkB, h1, Bool.true_and, Bool.and_eq_true, decide_eq_true_eq]
      rw [hpl]
      omega
    have hbv := fun (H : HP) => ref03_Block_val (g := g) (H := H) (q.1, q.2.1, q.2.2) seg (((rr : Nat) : Int) * (q.1 - 1) + ((cc : Nat) : Int))
    rw [hok] at hbv
    simp only [if_true] at hbv
    have hbe : blkSpot (q.1, q.2.1, q.2.2) seg (((rr : Nat) : Int) * (q.1 - 1) + ((cc : Nat) : Int)) = blkSpot q seg (((rr : Nat) : Int) * (q.1 - 1) + ((cc : Nat) : Int)) := rfl
    rw [hbe] at hbv
    generalize blkSpot q seg (((rr : Nat) : Int) * (q.1 - 1) + ((cc : Nat) : Int)) = sp at *
    refine wps_both ?_ ?_
    · refine wps_stepV (hbv _) ?_
      refine wps_stepAlloc fun x10 => ?_
      refine wps_stA (by simp) (by simp [Value.oneCell']) ?_
      refine wps_ldA sp (by rfl) ?_
      refine wps_stA (by simp) (by simp [Value.oneCell']) ?_
      refine wps_ldA sp (by rfl) (wps_pure ?_)
      exact ent_prr rfl ent_drop
    · refine wps_stepAlloc fun x10 => ?_
      refine wps_stepV (hbv _) ?_
      refine wps_stA (by simp) (by simp [Value.oneCell']) ?_
      refine wps_ldA sp (by rfl) ?_
      refine wps_stA (by simp) (by simp [Value.oneCell']) ?_
      refine wps_ldA sp (by rfl) (wps_pure ?_)
      exact ent_prr rfl ent_drop
theorem ref04_Decode_spec {H : HP} {s : Slc} {b : List Int} (hs : Ent H (byt s b)) (hb : Byts b) (hl : b.length ≤ 1099511627776) :
    wps g H (ref04_Decode s) (fun x => pr (x.1 = headOf b) * H * own 1 x.2.1 (bv (payOf b))) := by
  unfold ref04_Decode
  refine wps_fact (len_of hs) fun hls => ?_
  refine wps_fact (cap_of hs) fun hcs => ?_
  refine wps_alloc fun x2 => ?_
  by_cases h64 : b.length = 64
  rotate_left
  · have h1 : headOf b = (0, 0, 0) := by unfold headOf; rw [if_neg h64]
    have h2 : payOf b = [] := by unfold payOf; rw [if_neg h64]
    rw [h1, h2]
    refine wps_ite (fun _ => ?_) (fun h => absurd (by simp; omega) h)
    refine wps_stA (by simp) (by simp [Value.oneCell']) ?_
    refine wps_ldG 0 0 0 (by rfl) (wps_pure (ent_own0 ?_))
    repeat first | (with_reducible refine ent_pick ?_) | (refine ent_prq ?_)
    all_goals first | rfl | trivial
  have h1 : headOf b = (getB b 0 4, getB b 4 2, getB b 6 2) := by unfold headOf; rw [if_pos h64]
  have h2 : payOf b = b.drop 8 := by unfold payOf; rw [if_pos h64]
  rw [h1, h2]
  refine wps_ite (fun h => absurd h (by simp; omega)) (fun _ => ?_)
  refine wps_alloc fun x5 => ?_
  refine wps_stA (by simp) (by simp [Value.oneCell']) ?_
  refine wps_val (ref01_Get_val 0 4 (Ent.trans (ent_pick1 (A := H)) hs) hb (by decide) (by decide) (by omega) (by omega)) ?_
  refine wps_st (by simp [ovw]) ?_
  refine wps_val (ref01_Get_val 4 2 (Ent.trans (ent_pick1 (A := H)) hs) hb (by decide) (by decide) (by omega) (by omega)) ?_
  refine wps_st (by simp [ovw]) ?_
  refine wps_val (ref01_Get_val 6 2 (Ent.trans (ent_pick1 (A := H)) hs) hb (by decide) (by decide) (by omega) (by omega)) ?_
  refine wps_st (by simp [ovw]) ?_
  refine wps_regionH ?_
  refine wps_ldAI (enc := fun y : (Int × Int × Int) => [(.int .i64 y.1), (.int .i64 y.2.1), (.int .i64 y.2.2)]) (getB b 0 4, getB b 4 2, getB b 6 2) (by rfl) ?_
  refine wps_slice 8 s.len rfl rfl (by omega) (by omega) ?_
  refine wps_step1 (ref00_CopyBytes_spec (b := b.drop 8) (Ent.trans (ent_pick1 (A := H)) (Ent.trans hs (byt_drop (by omega) (by omega)))) (by simp; omega)) fun t => ?_
  refine wps_stA (by simp) (by simp [Value.oneCell']) ?_
  refine wps_ldA (enc := fun y : (Int × Int × Int) => [(.int .i64 y.1), (.int .i64 y.2.1), (.int .i64 y.2.2)]) (getB b 0 4, getB b 4 2, getB b 6 2) (by rfl) (wps_pure ?_)
  repeat first | (with_reducible refine ent_pick ?_) | (refine ent_prq ?_)
  all_goals first | rfl | trivial
end Go.Proofs.Ytldmeimebebllaa
namespace Go.Proofs.Ytldmeimebebllaa
open Go.Mo
set_option linter.unusedVariables false
variable {g : Fr} {cv : CV}
theorem ref04_Encode_spec {H : HP} {s : Slc} {data : List Int} (seq owner index : Int) (hs : Ent H (byt s data)) (b1 : seq < 9223372036854775808) (b2 : owner < 9223372036854775808) (b3 : index < 9223372036854775808) :
    wps g H (ref04_Encode (seq, owner, index) s) (fun x => if encOk seq owner index data then pr (x.2 = true) * H * own 1 x.1 (bv (encL seq owner index data)) else pr (x.2 = false) * H) := by
  unfold ref04_Encode
  refine wps_fact (len_of hs) fun hl => ?_
  refine wps_alloc fun c => ?_
  refine wps_ld seq (by rfl) ?_
  refine wps_bind1 (ref01_Put_spec 4 seq (by decide) (by decide) b1) fun a1 => ?_
  refine wps_ld owner (by rfl) ?_
  refine wps_bind1 (ref01_Put_spec 2 owner (by decide) (by decide) b2) fun a2 => ?_
  refine wps_ld index (by rfl) ?_
  refine wps_bind1 (ref01_Put_spec 2 index (by decide) (by decide) b3) fun a3 => ?_
  refine wps_fact (Ent.trans (ent_pick1 (A := own 1 a1 (bv (putB 4 seq)))) (own_len _ _ _)) fun ⟨h1, _⟩ => ?_
  refine wps_fact (Ent.trans (ent_pick1 (A := own 1 a2 (bv (putB 2 owner)))) (own_len _ _ _)) fun ⟨h2, _⟩ => ?_
  refine wps_fact (Ent.trans (ent_pick1 (A := own 1 a3 (bv (putB 2 index)))) (own_len _ _ _)) fun ⟨h3, _⟩ => ?_
  rw [bl, putB_len] at h1 h2 h3
  refine wps_val val_orb (wps_val val_orb (wps_val val_orb ?_))
  by_cases hok : encOk seq owner index data
  rotate_left
  · simp only [if_neg hok]
    refine wps_ite (fun _ => wps_pure (ent_prr rfl ?_)) (fun h => absurd ?_ hok)
    · exact Ent.trans (ent_left _ _) (Ent.trans (ent_left _ _) (Ent.trans (ent_left _ _) (ent_left _ _)))
    · simp only [Bool.or_eq_true, not_or, beq_iff_eq, decide_eq_true_eq] at h
      refine ⟨?_, ?_, ?_, by omega⟩
      · by_cases hf : fitsN 4 seq
        · exact hf
        · rw [if_neg hf] at h1; omega
      · by_cases hf : fitsN 2 owner
        · exact hf
        · rw [if_neg hf] at h2; omega
      · by_cases hf : fitsN 2 index
        · exact hf
        · rw [if_neg hf] at h3; omega
  simp only [if_pos hok]
  rw [if_pos hok.1] at h1
  rw [if_pos hok.2.1] at h2
  rw [if_pos hok.2.2.1] at h3
  have hd56 := hok.2.2.2
  rw [show putB 4 seq = putL 4 seq from if_pos hok.1, show putB 2 owner = putL 2 owner from if_pos hok.2.1, show putB 2 index = putL 2 index from if_pos hok.2.2.1]
  refine wps_ite (fun h => by
    simp only [Bool.or_eq_true, beq_iff_eq, decide_eq_true_eq] at h
    omega) (fun _ => ?_)
  refine wps_app 1 (bv (putL 2 owner)) rfl (by decide) (Ent.trans (ent_pick1 (A := own 1 a2 (bv (putL 2 owner)))) (own_rsl _ _ _)) (bv_one _) (by omega) fun t1 ht1 => ?_
  refine wps_app 1 (bv (putL 2 index)) rfl (by decide) (Ent.trans (ent_pick1 (A := own 1 a3 (bv (putL 2 index)))) (own_rsl _ _ _)) (bv_one _) (by omega) fun t2 ht2 => ?_
  refine wps_app 1 (bv data) rfl (by decide) (Ent.trans (ent_pick1 (A := H)) hs) (bv_one _) (by omega) fun t3 ht3 => ?_
  have hb : bv (putL 4 seq) ++ bv (putL 2 owner) ++ bv (putL 2 index) ++ bv data = bv (putL 4 seq ++ putL 2 owner ++ putL 2 index ++ data) := by simp [bv]
  rw [hb]
  generalize hX : putL 4 seq ++ putL 2 owner ++ putL 2 index ++ data = X at *
  have hXl : X.length = 8 + data.length := by rw [← hX]; simp only [List.length_append, putL_len]
  have hfin : encL seq owner index data = X ++ List.replicate (64 - X.length) 0 := by
    rw [hXl, ← hX]
    unfold encL padL
    simp only [List.append_assoc]
    rw [show 64 - (8 + data.length) = 56 - data.length by omega]
  refine wps_loop (fun t => ex fun k : Nat => pr (t.len = X.length + k ∧ X.length + k ≤ 64) * H * own 1 t (bv (X ++ List.replicate k 0))) (fun t => 64 - t.len) ?_ fun t => ?_
  · refine ent_ex 0 ?_
    refine ent_pickS (by simp) ?_
    refine Ent.trans ?_ (ent_pr ⟨by omega, by omega⟩)
    repeat with_reducible exact ent_drop
  refine wps_ex fun k => ?_
  rw [star_assoc]
  refine wps_pr fun ⟨htl, hk⟩ => ?_
  refine wps_ite (fun hc => ?_) (fun hc => ?_)
  · have hlt : X.length + k < 64 := by have := of_decide_eq_true hc; omega
    refine wps_append1 1 rfl (by decide) rfl rfl (by simp [Value.oneCell']) (by omega) fun s' hs' => wps_pure ?_
    refine ent_prr (by omega) (ent_ex (k + 1) ?_)
    have e2 : bv (X ++ List.replicate (k + 1) 0) = bv (X ++ List.replicate k 0) ++ [Value.int .u8 0] := by
      rw [List.replicate_succ', ← List.append_assoc]; simp [bv]
    rw [e2]
    refine ent_pick ?_
    exact ent_pr ⟨by omega, by omega⟩
  · have hke : k = 64 - X.length := by
      have : ¬ ((t.len : Int) < 64) := fun h => hc (decide_eq_true h)
      omega
    subst hke
    rw [← hfin]
    refine wps_mapR (wps_pure ?_)
    show Ent _ (pr (true = true) * H * _)
    rw [star_assoc]
    exact ent_pr rfl
theorem bx_zero {y : Int} (h : 0 ≤ y ∧ y < 256) : bXor .u8 0 y = y := by
  rw [bx_nat]
  have e : BitVec.ofInt 8 0 ^^^ BitVec.ofInt 8 y = BitVec.ofInt 8 y := by
    rw [show BitVec.ofInt 8 0 = 0#8 from rfl, BitVec.zero_xor]
  rw [e, bv_back h]
theorem zx_zeros : ∀ {n : Nat} {b : List Int}, b.length = n → Byts b → zx (List.replicate n 0) b = b
  | 0, [], _, _ => rfl
  | n + 1, y :: ys, h, hb => by
    rw [List.replicate_succ, zx, bx_zero (hb y (by simp)), zx_zeros (by simpa using h) fun m hm => hb m (by simp [hm])]
  | 0, _ :: _, h, _ => by simp at h
  | n + 1, [], h, _ => by simp at h
def accL (ls : List (List Int)) (i : Nat) : List Int := if i = 0 then List.replicate 60 0 else parSum (ls.take i)
theorem accL_len {ls : List (List Int)} {i : Nat} (hi : i ≤ ls.length) (h : ∀ j (hj : j < ls.length), j < i → ls[j].length = 64) : (accL ls i).length = 60 := by
  unfold accL
  by_cases h0 : i = 0
  · rw [if_pos h0]; simp
  · rw [if_neg h0, parSum_len i (fun j hj hjl => by rw [List.getElem?_eq_getElem hjl]; exact h j hjl hj) hi, if_neg h0]
theorem accL_step {ls : List (List Int)} {i : Nat} (hi : i < ls.length) (h : ∀ j (hj : j < ls.length), j < i → ls[j].length = 64) (h64 : ls[i].length = 64) (hb : Byts ls[i]) : zx (accL ls i) (ls[i].drop 4) = accL ls (i + 1) := by
  have hd : (ls[i].drop 4).length = 60 := by simp; omega
  have hal := accL_len (i := i) (by omega) h
  have e1 : accL ls (i + 1) = xorB (parSum (ls.take i)) (ls[i].drop 4) := by
    unfold accL
    rw [if_neg (by omega), List.take_add_one, List.getElem?_eq_getElem hi]
    show parSum (ls.take i ++ [ls[i]]) = _
    rw [parSum_snoc]
  rw [e1]
  unfold accL at hal ⊢
  by_cases h0 : i = 0
  · subst h0
    rw [if_pos rfl, zx_zeros hd (hb.drop 4)]
    show _ = xorB [] _
    unfold xorB
    rw [if_pos (by rw [hd]; decide), zx_nil]
  · rw [if_neg h0] at hal ⊢
    unfold xorB
    rw [if_neg (by rw [hal, hd]; omega)]
theorem ref04_Parity_spec {H : HP} {s : Slc} {sl : List Slc} {ls : List (List Int)} (hs : Ent H (rsl 1 s (sl.map vS))) (hq : Ent H (seqp sl fun i => ls.getD i [])) (hl : sl.length = ls.length) (hk : ls.length ≤ 1099511627776) (hb : ∀ b ∈ ls, Byts b ∧ b.length ≤ 1099511627776) :
    wps g H (ref04_Parity s) (fun x => pr (x.2 = (parL ls).isSome) * H * own 1 x.1 (bv ((parL ls).getD []))) := by
  unfold ref04_Parity
  refine wps_fact (Ent.trans hs (rsl_len _ _ _)) fun hsl => ?_
  have hsl' : sl.length = s.len := by simpa using hsl
  have hpart : ∀ i (h : i < sl.length), Ent H (byt sl[i] (ls[i]'(by omega))) := fun i h o ho => by
    have := hq o ho i sl[i] (List.getElem?_eq_getElem h)
    simpa [List.getD_eq_getElem?_getD, List.getElem?_eq_getElem (show i < ls.length by omega)] using this
  have hbad : ¬ parOk ls → ∀ A : HP, Ent (H * A) (pr (false = (parL ls).isSome) * H * own 1 ⟨none, 0, 0⟩ (bv ((parL ls).getD []))) := fun h A => by
    rw [parL, if_neg h]
    exact ent_own0 (Ent.trans (ent_left _ _) (ent_pr rfl))
  by_cases hz : ls.length = 0
  · have hno : ¬ parOk ls := fun h => h.1 (List.eq_nil_of_length_eq_zero hz)
    refine wps_val (v := true) (wps_ite (fun _ => wps_pure (ent_val rfl)) (fun h => absurd (beq_iff_eq.2 (by omega)) h)) ?_
    refine wps_ite (fun _ => wps_pure ?_) (fun h => absurd rfl h)
    exact Ent.trans (Ent.of_eq (star_emp H).symm) (hbad hno emp)
  have hz0 : 0 < sl.length := by omega
  have hzl : 0 < ls.length := by omega
  have hhead : ls.headD [] = ls[0] := by
    cases ls with
    | nil => simp at hzl
    | cons a l => rfl
  refine wps_fact (len_of (hpart 0 hz0)) fun hl0 => ?_
  refine wps_fact (cap_of (hpart 0 hz0)) fun hc0 => ?_
  refine wps_val (v := ((sl[0].len : Nat) : Int) != 64) (wps_ite (fun h => by have := beq_iff_eq.1 h; omega) (fun _ => wps_rd 0 sl[0] hs rfl (by simp [List.getElem?_eq_getElem hz0]) (wps_pure (ent_val rfl)))) ?_
  by_cases h64 : ls[0].length = 64
  rotate_left
  · have hno : ¬ parOk ls := fun h => h64 (h.2 _ (List.getElem_mem hzl)).1
    refine wps_ite (fun _ => wps_pure (Ent.trans (Ent.of_eq (star_emp H).symm) (hbad hno emp))) (fun h => absurd (by simp; omega) h)
  refine wps_ite (fun h => absurd h (by simp; omega)) (fun _ => ?_)
  refine wps_alloc fun x17 => ?_
  refine wps_rd 0 sl[0] (Ent.trans (ent_left _ _) hs) rfl (by simp [List.getElem?_eq_getElem hz0]) ?_
  refine wps_slice 0 4 rfl rfl (by omega) (by omega) ?_
  have hsq : Ent H (byt (subS 1 sl[0] 0 4) (ls[0].take 4)) := Ent.trans (hpart 0 hz0) (byt_take (by omega))
  refine wps_copyP (new := bv (ls[0].take 4)) (Ent.trans (ent_left _ _) hsq) (bv_one _) (by simp) ?_
  have h40 : (ls[0].take 4).length = 4 := by simp; omega
  have hcs0 : ovw (List.replicate 64 (Value.int .u8 0)) 0 ((bv (ls[0].take 4)).take (min (subS 1 sl[0] 0 4).len 64 * 1)) = bv (ls[0].take 4 ++ accL ls 0) := by
    rw [subS_len, show min (4 - 0) 64 * 1 = 4 from rfl, List.take_of_length_le (by rw [bl]; omega)]
    unfold ovw accL
    rw [if_pos rfl, bl, h40]
    simp [bv]
  rw [hcs0]
  have hrd4 : ∀ (X : List Int), Ent (H * pc x17 (bv (ls[0].take 4 ++ X))) (byt (subS 1 ⟨some ⟨x17, 0, none⟩, 64, 64⟩ 0 4) (ls[0].take 4)) := fun X => by
    refine Ent.trans (ent_right _ _) ?_
    unfold byt
    refine Ent.trans (pc_ro _ _) (ent_orr (ent_ex ⟨x17, 0, none⟩ (ent_ex (bv (ls[0].take 4 ++ X)) (ent_prr ⟨by simp [subS, Addr.add], by rw [bl, h40]; rfl, by show 4 - 0 ≤ 64 - 0; omega, ?_⟩ (Ent.refl _)))))
    show ((bv (ls[0].take 4 ++ X)).drop 0).take ((4 - 0) * 1) = _
    rw [List.drop_zero]
    simp only [bv, List.map_append]
    rw [List.take_append_of_le_length (by simp; omega), List.take_of_length_le (by simp; omega)]
  refine wps_loop (fun st => ex fun i : Nat => pr (st = (i : Int) ∧ i ≤ ls.length ∧ ∀ j (h : j < ls.length), j < i → ls[j].length = 64 ∧ ls[j].take 4 = ls[0].take 4) * (H * pc x17 (bv (ls[0].take 4 ++ accL ls i)))) (fun st => (ls.length - st).toNat) ?_ fun st => ?_
  · exact ent_ex 0 (ent_prr ⟨rfl, by omega, fun j _ h => by omega⟩ (Ent.refl _))
  refine wps_ex fun i => wps_pr fun ⟨hi, hin, hall⟩ => ?_
  refine wps_ite (fun hc => ?_) (fun hc => ?_)
  rotate_left
  · have hie : i = ls.length := by
      have hc1 : ¬ (st < ((s.len : Nat) : Int)) := fun h => hc (decide_eq_true h)
      omega
    have hok : parOk ls := ⟨fun h => hz (by rw [h]; rfl), fun b hbm => by
      obtain ⟨j, hj, rfl⟩ := List.getElem_of_mem hbm
      rw [hhead]
      exact hall j hj (by omega)⟩
    refine wps_mapR (wps_pure ?_)
    rw [parL, if_pos hok, hhead]
    have hacc : accL ls i = parSum ls := by unfold accL; rw [if_neg (by omega), hie, List.take_length]
    have hal := accL_len (i := i) hin fun j hj hji => (hall j hj hji).1
    rw [hacc] at hal ⊢
    refine ent_swap (A := pc x17 (bv (ls[0].take 4 ++ parSum ls))) (B := own 1 ⟨some ⟨x17, 0, none⟩, 64, 64⟩ (bv (ls[0].take 4 ++ parSum ls))) (pc_own (n := 64) (z := 1) (by rw [bl, List.length_append, h40, hal])) ?_
    exact Ent.starl (ent_pr rfl)
  have hc1 := of_decide_eq_true hc
  have hlt : i < sl.length := by omega
  have hltl : i < ls.length := by omega
  have hbi := hb _ (List.getElem_mem hltl)
  have hno : (ls[i].length = 64 ∧ ls[i].take 4 = ls[0].take 4 → False) → ¬ parOk ls := fun h hp => h (by have := hp.2 _ (List.getElem_mem hltl); rwa [hhead] at this)
  refine wps_fact (Ent.trans (ent_left _ _) (len_of (hpart i hlt))) fun hpl => ?_
  refine wps_fact (Ent.trans (ent_left _ _) (cap_of (hpart i hlt))) fun hpc => ?_
  have hgi : (sl.map vS)[i]? = some (vS sl[i]) := by simp [List.getElem?_eq_getElem hlt]
  refine wps_bindV (u := !decide (ls[i].length = 64 ∧ ls[i].take 4 = ls[0].take 4)) ?_ ?_
  · refine wps_regionH ?_
    refine wps_rdI i sl[i] (Ent.trans (ent_left _ _) hs) (Ent.refl _) hi hgi ?_
    by_cases h6 : ls[i].length = 64
    rotate_left
    · refine wps_ite (fun _ => wps_pure (ent_prr (by simp [h6]) (Ent.refl _))) (fun h => absurd (by simp; omega) h)
    refine wps_ite (fun h => absurd h (by simp; omega)) (fun _ => ?_)
    refine wps_rdI i sl[i] (Ent.trans (ent_left _ _) hs) (Ent.refl _) hi hgi ?_
    refine wps_slice 0 4 rfl rfl (by omega) (by omega) ?_
    refine wps_slice 0 4 rfl rfl (by omega) (by show 4 ≤ 64; omega) ?_
    refine wps_stepV (ref00_SameBytes_val (Ent.trans (ent_left _ _) (Ent.trans (hpart i hlt) (byt_take (by omega)))) (hrd4 _) (by simp; omega)) (wps_pure (ent_prr ?_ (Ent.refl _)))
    simp [h6]
  by_cases hsame : ls[i].length = 64 ∧ ls[i].take 4 = ls[0].take 4
  rotate_left
  · refine wps_ite (fun _ => wps_mapR (wps_pure (hbad (hno fun h => hsame h) _))) (fun h => absurd (by simp [hsame]) h)
  refine wps_ite (fun h => absurd h (by simp [hsame])) (fun _ => ?_)
  have hal := accL_len (i := i) hin fun j hj hji => (hall j hj hji).1
  have hst := accL_step hltl (fun j hj hji => (hall j hj hji).1) hsame.1 hbi.1
  have hd60 : (ls[i].drop 4).length = 60 := by simp; omega
  refine wps_loop (fun t => ex fun j : Nat => pr (t = ((4 + j : Nat) : Int) ∧ j ≤ 60) * (H * pc x17 (bv (ls[0].take 4 ++ zx (accL ls i) ((ls[i].drop 4).take j))))) (fun t => (64 - t).toNat) ?_ fun t => ?_
  · exact ent_ex 0 (ent_prr ⟨rfl, by omega⟩ (Ent.of_eq (by rw [List.take_zero, zx_nil])))
  refine wps_ex fun j => wps_pr fun ⟨ht, hj⟩ => ?_
  refine wps_ite (fun hc2 => ?_) (fun hc2 => ?_)
  rotate_left
  · have hje : j = 60 := by
      have : ¬ (t < 64) := fun h => hc2 (decide_eq_true h)
      omega
    subst hje
    rw [List.take_of_length_le (l := ls[i].drop 4) (by omega), hst]
    refine wps_mapR (wps_pure ?_)
    refine ent_prr (by rw [range_add1 hi (by omega)]; omega) (ent_ex (i + 1) (ent_prr ⟨range_add1 hi (by omega), by omega, fun k hk hki => ?_⟩ (Ent.refl _)))
    by_cases hke : k = i
    · subst hke; exact hsame
    · exact hall k hk (by omega)
  have hj60 : j < 60 := by have := of_decide_eq_true hc2; omega
  obtain ⟨z1, z2⟩ := zx_step (accL ls i) (ls[i].drop 4) j (by omega) (by omega)
  have hget : (bv (ls[0].take 4 ++ zx (accL ls i) ((ls[i].drop 4).take j)))[0 + (4 + j) * 1]? = some (Value.int .u8 ((accL ls i)[j]'(by omega))) := by
    rw [show 0 + (4 + j) * 1 = 4 + j by omega, bv, List.getElem?_map, List.getElem?_append_right (by omega), h40, Nat.add_sub_cancel_left, z1, List.getElem?_eq_getElem (by omega)]; rfl
  have hgb : (bv ls[i])[4 + j]? = some (Value.int .u8 ((ls[i].drop 4)[j]'(by omega))) := by
    rw [bv, List.getElem?_map, List.getElem_drop, List.getElem?_eq_getElem (by omega)]; rfl
  refine wps_regionH ?_
  refine wps_idx (4 + j) rfl ht (by show 4 + j < 64; omega) ?_
  refine wps_ldI ((accL ls i)[j]'(by omega)) hget ?_
  refine wps_rdI i sl[i] (Ent.trans (ent_left _ _) hs) (Ent.refl _) hi hgi ?_
  refine wps_rdI (4 + j) ((ls[i].drop 4)[j]'(by omega)) (Ent.trans (ent_left _ _) (hpart i hlt)) (Ent.refl _) ht hgb ?_
  refine wps_idx (4 + j) rfl ht (by show 4 + j < 64; omega) ?_
  refine wps_st (by rw [bl, List.length_append, h40, zx_len, hal]; omega) (wps_pure ?_)
  have e8 : w64 (t + 1) = ((4 + (j + 1) : Nat) : Int) := by rw [ht, w64_id] <;> omega
  refine ent_prr (by rw [e8]; omega) (ent_ex (j + 1) (ent_prr ⟨e8, by omega⟩ (Ent.starr (Ent.of_eq ?_))))
  congr 1
  rw [show 0 + (4 + j) * 1 = 4 + j by omega, bv_set, List.set_append_right _ _ (by omega), h40, Nat.add_sub_cancel_left, z2]
end Go.Proofs.Ytldmeimebebllaa
namespace Go.Proofs.Ytldmeimebebllaa
open Go.Mo
set_option linter.unusedVariables false
variable {g : Fr} {cv : CV}
theorem seqp_app {a b : List Slc} {L M : List (List Int)} (ha : a.length = L.length) : Ent (seqp a (fun i => L.getD i []) * seqp b (fun i => M.getD i [])) (seqp (a ++ b) (fun i => (L ++ M).getD i [])) := fun o ho k s hk => by
  by_cases h : k < a.length
  · rw [List.getElem?_append_left h] at hk
    have := ent_left _ _ o ho k s hk
    show (byt s ((L ++ M).getD k [])).p o
    rw [show (L ++ M).getD k [] = L.getD k [] by simp [List.getD_eq_getElem?_getD, List.getElem?_append_left (show k < L.length by omega)]]
    exact this
  · rw [List.getElem?_append_right (by omega)] at hk
    have := ent_right _ _ o ho (k - a.length) s hk
    show (byt s ((L ++ M).getD k [])).p o
    rw [show (L ++ M).getD k [] = M.getD (k - a.length) [] by simp [List.getD_eq_getElem?_getD, List.getElem?_append_right (show L.length ≤ k by omega), ha]]
    exact this
theorem rows_nil {c : Nat} : Ent (pc c []) (rows ⟨some ⟨c, 0, none⟩, 0, 0⟩ []) := by
  unfold rows
  refine ent_ex [] ?_
  have h := pc_own (b := c) (z := 1) (n := 0) (cs := []) rfl
  refine Ent.trans h ?_
  refine Ent.trans ?_ (Ent.starl (ent_prr ⟨rfl, rfl⟩ (seqp_nil emp _)))
  exact Ent.of_eq (emp_star _).symm
theorem wps_rows1 {α : Type} {H H1 H2 : HP} {k : Slc → M α} {Q : α → HP} {t x : Slc} {l : List (List Int)} {b : List Int} [h1 : Has H (rows t l) H1] [h2 : Has H1 (own 1 x (bv b)) H2] (hl : l.length ≤ 1000000)
    (h : ∀ t', wps g (H2 * rows t' (l ++ [b])) (k t') Q) : wps g H (bindM (allocM [.slice x.base x.len x.cap]) fun y => bindM (appendM [(.slice none 0 0)] 24 t ⟨some y, 1, 1⟩) k) Q := by
  rw [h1.eq, h2.eq]
  unfold rows
  refine wps_exr fun sl => ?_
  refine wps_prP fun ⟨hsl, htl⟩ => ?_
  refine wps_alloc fun y => ?_
  refine wps_app 1 [vS x] rfl (by decide) (rsl_pc rfl) (by simp [Value.oneCell', vS]) (by (try dsimp only); omega) fun t2 ht2 => ?_
  have ht2' : t2.len = t.len + 1 := ht2
  refine wps_pre ?_ (h t2)
  refine Ent.trans (B := H2 * (seqp sl (fun i => l.getD i []) * byt x b * own 1 t2 ((sl ++ [x]).map vS))) ?_ (Ent.starr (rows_snoc (A := emp) hsl (by omega)))
  have e : List.map vS sl ++ [vS x] = (sl ++ [x]).map vS := by simp
  rw [e]
  simp only [← star_assoc]
  refine ent_swap (A := own 1 x (bv b)) (B := byt x b) (own_rsl _ _ _) ?_
  repeat first | (with_reducible exact ent_drop) | (with_reducible refine ent_pick ?_)
theorem wps_rowsA {α : Type} {H H1 H2 : HP} {k : Slc → M α} {Q : α → HP} {t x : Slc} {l m : List (List Int)} [h1 : Has H (rows t l) H1] [h2 : Has H1 (rows x m) H2] (hl : l.length + m.length ≤ 1000000)
    (h : ∀ t', wps g (H2 * rows t' (l ++ m)) (k t') Q) : wps g H (bindM (appendM [(.slice none 0 0)] 24 t x) k) Q := by
  rw [h1.eq, h2.eq]
  unfold rows
  refine wps_exP fun sl => wps_exP fun sm => ?_
  simp only [← star_assoc]
  refine wps_prP fun ⟨hsm, hxl⟩ => ?_
  refine wps_prP fun ⟨hsl, htl⟩ => ?_
  refine wps_app 1 (sm.map vS) rfl (by decide) (Ent.trans (ent_pick1 (A := own 1 x (sm.map vS))) (own_rsl _ _ _)) (by simp [Value.oneCell', vS]) (by omega) fun t2 ht2 => ?_
  refine wps_pre ?_ (h t2)
  unfold rows
  refine ent_exr (sl ++ sm) ?_
  simp only [← star_assoc]
  refine ent_pickS (by simp) ?_
  refine ent_join (A := seqp sl fun i => l.getD i []) (B := seqp sm fun i => m.getD i []) (seqp_app hsl) ?_
  refine ent_prx ⟨by simp [hsl, hsm], by rw [ht2, htl, hxl]; simp⟩ ?_
  repeat with_reducible exact ent_drop
def secL (q : G3) (seq : Int) (l : List BlkA) (n : Nat) : List (List Int) := (List.range n).map fun i => datAt q seq l (i / q.1.toNat) (i % q.1.toNat)
theorem range_add_map (n m : Nat) : List.range (n + m) = List.range n ++ (List.range m).map (n + ·) := List.range_add
theorem divmod_rc {D r c : Nat} (hc : c < D) : (r * D + c) / D = r ∧ (r * D + c) % D = c := by
  rw [Nat.add_comm]
  exact ⟨by rw [Nat.add_mul_div_right _ _ (by omega), Nat.div_eq_of_lt hc, Nat.zero_add], by rw [Nat.add_mul_mod_self_right, Nat.mod_eq_of_lt hc]⟩
theorem secL_step {q : G3} {seq : Int} {l : List BlkA} (h1 : 3 ≤ q.1) (r : Nat) : secL q seq l ((r + 1) * q.1.toNat) = secL q seq l (r * q.1.toNat) ++ ((List.range (q.1 - 1).toNat).map fun c => encAt seq l (r * (q.1 - 1).toNat + c)) ++ [(parL (rowL q seq l r)).getD []] := by
  unfold secL
  rw [Nat.add_mul, Nat.one_mul, range_add_map, List.map_append, List.append_assoc]
  congr 1
  rw [List.map_map]
  have hD : q.1.toNat = (q.1 - 1).toNat + 1 := by omega
  have e : ∀ c, c < q.1.toNat → ((fun i => datAt q seq l (i / q.1.toNat) (i % q.1.toNat)) ∘ fun x => r * q.1.toNat + x) c = datAt q seq l r c := fun c hc => by
    show datAt q seq l ((r * q.1.toNat + c) / q.1.toNat) ((r * q.1.toNat + c) % q.1.toNat) = _
    rw [(divmod_rc hc).1, (divmod_rc hc).2]
  rw [List.map_congr_left (g := datAt q seq l r) fun c hc => e c (List.mem_range.1 hc), hD, List.range_succ, List.map_append]
  congr 1
  · refine List.map_congr_left fun c hc => ?_
    have := List.mem_range.1 hc
    unfold datAt
    rw [if_pos (by omega)]
  · simp [datAt]
theorem ref07_sectors_spec {H : HP} (q : G3) (hq : RightB q = true) (seq : Int) (s : Slc) (l : List BlkA) (hs : Ent H (blocksP s l)) (hb1 : seq < 9223372036854775808) (hok : ∀ c ∈ l, c.ok) (hlen : l.length ≤ nBlk q) :
    wps g H (ref07_sectors q seq s) (fun x => if encAll seq l (nBlk q) = true then pr (x.2 = true) * H * rows x.1 (secL q seq l (q.2.1.toNat * q.1.toNat)) else pr (x.2 = false) * H) := by
  unfold ref07_sectors
  have hb := RightB.bnd hq
  have b1 := hb.d3
  have b2 := hb.d16
  have b3 := hb.r1
  have b4 := hb.r4
  have hbm := hb.mul
  obtain ⟨W, hW⟩ : ∃ W : Nat, q.1 - 1 = (W : Int) := ⟨(q.1 - 1).toNat, by omega⟩
  obtain ⟨Rn, hRn⟩ : ∃ Rn : Nat, q.2.1 = (Rn : Int) := ⟨q.2.1.toNat, by omega⟩
  have hWn : (q.1 - 1).toNat = W := by omega
  have hRn2 : q.2.1.toNat = Rn := by omega
  have hD : q.1.toNat = W + 1 := by omega
  have hnb : nBlk q = Rn * W := by
    unfold nBlk placesI
    rw [hW, hRn, ← Int.natCast_mul]; omega
  have hRW : Rn * W ≤ 60 := by
    have : ((Rn * W : Nat) : Int) = q.2.1 * (q.1 - 1) := by rw [Int.natCast_mul, hW, hRn]
    omega
  refine wps_fact (Ent.trans hs (blocksP_len s l)) fun hsl => ?_
  have eW : w64 (q.1 - 1) = (W : Int) := by rw [w64_id] <;> omega
  have hokAt : ∀ k, (blkAt l k).ok := fun k => by
    unfold blkAt
    by_cases h : k < l.length
    · rw [List.getD_eq_getElem?_getD, List.getElem?_eq_getElem h]; exact hok _ (List.getElem_mem h)
    · rw [List.getD_eq_getElem?_getD, List.getElem?_eq_none (by omega)]
      exact ⟨fun n hn => by simp [BlkA.nil] at hn, by simp [BlkA.nil], by simp [BlkA.nil], by simp [BlkA.nil]⟩
  refine wps_alloc fun x3 => ?_
  refine wps_alloc fun x18 => ?_
  refine wps_swap (A := pc x18 []) (B := rows ⟨some ⟨x18, 0, none⟩, 0, 0⟩ []) rows_nil ?_
  refine wps_loop (fun st => ex fun r : Nat => pr (st.2 = (r : Int) ∧ r ≤ Rn ∧ ∀ k, k < r * W → encOk seq (blkAt l k).owner (blkAt l k).index (blkAt l k).data) * H * pc x3 [.int .i64 q.1, .int .i64 q.2.1, .int .i64 q.2.2] * rows st.1 (secL q seq l (r * (W + 1)))) (fun st => (Rn - st.2).toNat) ?_ fun st => ?_
  · refine ent_ex 0 ?_
    rw [show secL q seq l (0 * (W + 1)) = [] by simp [secL]]
    repeat first | (with_reducible refine ent_pick ?_) | (refine ent_prq ?_)
    all_goals first | exact ⟨rfl, by omega, fun k hk => by omega⟩ | trivial
  refine wps_ex fun r => wps_prP fun ⟨hr, hrn, henc⟩ => ?_
  have hrW : r * W ≤ Rn * W := Nat.mul_le_mul_right _ hrn
  refine wps_ld q.2.1 (by rfl) ?_
  refine wps_ite (fun hc => ?_) (fun hc => ?_)
  rotate_left
  · have hre : r = Rn := by
      have : ¬ (st.2 < q.2.1) := fun h => hc (decide_eq_true h)
      omega
    subst hre
    have hall : encAll seq l (nBlk q) = true := encAll_iff.2 fun k hk => henc k (by omega)
    simp only [if_pos hall]
    rw [hRn2, hD]
    refine wps_mapR (wps_pure ?_)
    show Ent _ (pr (true = true) * H * rows _ _)
    repeat first | (with_reducible refine ent_pick ?_) | (refine ent_prq ?_)
    all_goals first | rfl | trivial
  have hrlt : r < Rn := by have := of_decide_eq_true hc; omega
  have hrW1 : r * W + W ≤ Rn * W := by
    have := Nat.mul_le_mul_right W (show r + 1 ≤ Rn by omega)
    rw [Nat.add_mul, Nat.one_mul] at this; exact this
  refine wps_alloc fun x25 => ?_
  refine wps_swap (A := pc x25 []) (B := rows ⟨some ⟨x25, 0, none⟩, 0, 0⟩ []) rows_nil ?_
  refine wps_loop (fun t => ex fun c : Nat => pr (t.2 = (c : Int) ∧ c ≤ W ∧ ∀ k, k < r * W + c → encOk seq (blkAt l k).owner (blkAt l k).index (blkAt l k).data) * H * pc x3 [.int .i64 q.1, .int .i64 q.2.1, .int .i64 q.2.2] * rows st.1 (secL q seq l (r * (W + 1))) * rows t.1 ((List.range c).map fun c => encAt seq l (r * W + c))) (fun t => (W - t.2).toNat) ?_ fun t => ?_
  · refine ent_ex 0 ?_
    rw [show ((List.range 0).map fun c => encAt seq l (r * W + c)) = [] from rfl]
    repeat first | (with_reducible refine ent_pick ?_) | (refine ent_prq ?_)
    all_goals first | exact ⟨rfl, by omega, fun k hk => henc k (by omega)⟩ | trivial
  refine wps_ex fun c => wps_prP fun ⟨ht, hcn, henc2⟩ => ?_
  refine wps_ld q.1 (by rfl) ?_
  rw [eW]
  refine wps_ite (fun hc2 => ?_) (fun hc2 => ?_)
  rotate_left
  · have hce : c = W := by
      have : ¬ (t.2 < (W : Int)) := fun h => hc2 (decide_eq_true h)
      omega
    subst hce
    refine wps_mapR ?_
    have hstep := secL_step (q := q) (seq := seq) (l := l) b1 r
    rw [hWn, hD] at hstep
    have hrl : rowL q seq l r = (List.range c).map fun i => encAt seq l (r * c + i) := by unfold rowL; rw [hWn]
    rw [hrl] at hstep
    have hlen64 : ∀ b ∈ (List.range c).map (fun i => encAt seq l (r * c + i)), Byts b ∧ b.length ≤ 1099511627776 := fun b hbm => by
      obtain ⟨i, hi, rfl⟩ := List.mem_map.1 hbm
      have hi := List.mem_range.1 hi
      refine ⟨encL_byts (hokAt _).byts, ?_⟩
      have := encL_len (seq := seq) (owner := (blkAt l (r * c + i)).owner) (index := (blkAt l (r * c + i)).index) (henc2 (r * c + i) (by omega)).2.2.2
      show (encL seq _ _ _).length ≤ _
      omega
    refine wps_bind (R := fun p => H * pc x3 [.int .i64 q.1, .int .i64 q.2.1, .int .i64 q.2.2] * rows st.1 (secL q seq l (r * (c + 1))) * rows t.1 ((List.range c).map fun i => encAt seq l (r * c + i)) * own 1 p.1 (bv ((parL ((List.range c).map fun i => encAt seq l (r * c + i))).getD []))) ?_ fun p => ?_
    · generalize hls : (List.range c).map (fun i => encAt seq l (r * c + i)) = ls at *
      have hlc : ls.length = c := by rw [← hls]; simp
      refine wps_pre (H' := H * pc x3 [.int .i64 q.1, .int .i64 q.2.1, .int .i64 q.2.2] * rows st.1 (secL q seq l (r * (c + 1))) * ex fun sl : List Slc => pr (sl.length = ls.length ∧ t.1.len = ls.length) * seqp sl (fun i => ls.getD i []) * own 1 t.1 (sl.map vS)) (Ent.of_eq (by rw [emp_star]; rfl)) ?_
      refine wps_exr fun sl => ?_
      simp only [← star_assoc]
      refine wps_prP fun ⟨hA, hA2⟩ => ?_
      refine wps_post (ref04_Parity_spec (s := t.1) (sl := sl) (ls := ls) (Ent.trans (ent_pick1 (A := own 1 t.1 (sl.map vS))) (own_rsl _ _ _)) (ent_pick1 (A := seqp sl fun i => ls.getD i [])) hA (by omega) hlen64) fun p => ?_
      simp only [← star_assoc]
      refine ent_prP (p := p.2 = (parL ls).isSome) fun _ => ?_
      refine ent_pick ?_
      refine Ent.trans (B := H * pc x3 [.int .i64 q.1, .int .i64 q.2.1, .int .i64 q.2.2] * rows st.1 (secL q seq l (r * (c + 1))) * (pr (sl.length = ls.length ∧ t.1.len = ls.length) * seqp sl (fun i => ls.getD i []) * own 1 t.1 (sl.map vS))) ?_ (Ent.starr (ent_ex sl (Ent.refl _)))
      simp only [← star_assoc]
      repeat first | (with_reducible exact ent_drop) | (with_reducible refine ent_pick ?_) | (refine ent_prx ?_ ?_; rotate_left)
      all_goals first | exact ⟨hA, hA2⟩ | trivial
    · have hsl1 : (secL q seq l (r * (c + 1))).length ≤ 64 := by
        unfold secL; rw [List.length_map, List.length_range, Nat.mul_add]; omega
      refine wps_rowsA (l := secL q seq l (r * (c + 1))) (m := (List.range c).map fun i => encAt seq l (r * c + i)) (by simp; omega) fun t2 => ?_
      refine wps_rows1 (b := (parL ((List.range c).map fun i => encAt seq l (r * c + i))).getD []) (l := secL q seq l (r * (c + 1)) ++ (List.range c).map fun i => encAt seq l (r * c + i)) (by simp; omega) fun t3 => wps_pure ?_
      refine ent_prr (by dsimp only; rw [range_add1 hr (by omega)]; omega) (ent_ex (r + 1) ?_)
      rw [hstep]
      repeat first | (with_reducible refine ent_pick ?_) | (refine ent_prq ?_)
      all_goals first | exact ⟨range_add1 hr (by omega), by omega, fun k hk => henc2 k (by rw [Nat.add_mul] at hk; omega)⟩ | trivial
  have hcW : c < W := by have := of_decide_eq_true hc2; omega
  refine wps_ld q.1 (by rfl) ?_
  rw [eW]
  refine wps_alloc fun x13 => ?_
  refine wps_stA (by simp) (by simp [Value.oneCell']) ?_
  have ek : w64 (w64 (st.2 * (W : Int)) + t.2) = ((r * W + c : Nat) : Int) := by
    rw [hr, ht, ← Int.natCast_mul, w64_id (n := ((r * W : Nat) : Int)) (by omega) (by omega), w64_id] <;> omega
  rw [ek]
  have hencIff := encAll_iff (seq := seq) (l := l) (n := nBlk q)
  generalize hk : r * W + c = k at *
  refine wps_bindS (R := fun _ => H * pc x3 [.int .i64 q.1, .int .i64 q.2.1, .int .i64 q.2.2] * rows st.1 (secL q seq l (r * (W + 1))) * rows t.1 ((List.range c).map fun c => encAt seq l (r * W + c)) * pc x13 (blkAt l k).cells) ?_ fun _ => ?_
  · refine wps_ite (fun hkl => ?_) (fun hkl => ?_)
    · have hkl' : k < l.length := by have := of_decide_eq_true hkl; omega
      have hget : l[k]? = some l[k] := List.getElem?_eq_getElem hkl'
      have hat : blkAt l k = l[k] := by simp [blkAt, List.getD_eq_getElem?_getD, hget]
      rw [hat]
      refine wps_rdA k l[k].t (Ent.trans (ent_pick1 (A := H)) (Ent.trans hs (blocksP_rsl s l))) rfl (by simp) (fun j v hj => ?_) ?_
      · have h3 : j < 3 := by have := (List.getElem?_eq_some_iff.1 hj).1; simpa using this
        rw [flat_get cellsK_len hget h3]; exact hj
      refine wps_stA (by simp [ovw]) (by simp [Value.oneCell']) (wps_pure ?_)
      show Ent _ (_ * _)
      refine ent_pickC (by rfl) ?_
      repeat first | (with_reducible exact ent_drop) | (with_reducible refine ent_pick ?_)
    · have hkl' : ¬ k < l.length := fun h => hkl (decide_eq_true (by omega))
      have hat : blkAt l k = BlkA.nil := by simp [blkAt, List.getD_eq_getElem?_getD, List.getElem?_eq_none (show l.length ≤ k by omega)]
      rw [hat]
      refine wps_pure ?_
      show Ent _ (_ * _)
      refine ent_pickC (by rfl) ?_
      repeat first | (with_reducible exact ent_drop) | (with_reducible refine ent_pick ?_)
  have hcell : (blkAt l k).cells = [.int .i64 (blkAt l k).owner, .int .i64 (blkAt l k).index, vS (blkAt l k).ds] := rfl
  rw [hcell]
  refine wps_ld (blkAt l k).owner (by rfl) ?_
  refine wps_ld (blkAt l k).index (by rfl) ?_
  refine wps_ld (blkAt l k).ds (by rfl) ?_
  refine wps_bind (ref04_Encode_spec seq (blkAt l k).owner (blkAt l k).index (Ent.trans (ent_pick1 (A := H)) (Ent.trans hs (Ent.trans (blocksP_at s l k) (ent_right _ _)))) hb1 (hokAt k).ob (hokAt k).ib) fun x => ?_
  by_cases he : encOk seq (blkAt l k).owner (blkAt l k).index (blkAt l k).data
  · simp only [if_pos he]
    simp only [← star_assoc]
    refine wps_prP fun hx => ?_
    rw [hx]
    refine wps_ite (fun h => absurd h (by decide)) (fun _ => ?_)
    refine wps_rows1 (b := encL seq (blkAt l k).owner (blkAt l k).index (blkAt l k).data) (l := (List.range c).map fun c => encAt seq l (r * W + c)) (by simp; omega) fun t2 => wps_pure ?_
    refine ent_prr (by dsimp only; rw [range_add1 ht (by omega)]; omega) (ent_ex (c + 1) ?_)
    have e1 : ((List.range (c + 1)).map fun c => encAt seq l (r * W + c)) = ((List.range c).map fun c => encAt seq l (r * W + c)) ++ [encL seq (blkAt l k).owner (blkAt l k).index (blkAt l k).data] := by
      rw [List.range_succ, List.map_append, List.map_cons, List.map_nil, hk]; rfl
    rw [e1]
    repeat first | (with_reducible refine ent_pick ?_) | (refine ent_prq ?_)
    all_goals first | exact ⟨range_add1 ht (by omega), by omega, fun j hj => if hjk : j = k then by rw [hjk]; exact he else henc2 j (by omega)⟩ | trivial
  · simp only [if_neg he]
    refine wps_pr fun hx => ?_
    rw [hx]
    have hno : ¬ encAll seq l (nBlk q) = true := fun h => he (hencIff.1 h k (by omega))
    simp only [if_neg hno]
    refine wps_ite (fun _ => wps_mapR (wps_mapR (wps_pure ?_))) (fun h => absurd rfl h)
    show Ent _ (pr (false = false) * H)
    repeat first | (with_reducible refine ent_pick ?_) | (refine ent_prq ?_)
    all_goals first | rfl | trivial
end Go.Proofs.Ytldmeimebebllaa
namespace Go.Proofs.Ytldmeimebebllaa
open Go.Mo
set_option linter.unusedVariables false
variable {g : Fr} {cv : CV}
theorem wps_offQ {α : Type} {H H' : HP} {K : Bool → M α} {Q : α → HP} {mb : Nat} {R : Rk} {l1 l2 l3 l4 : Slc} [h : Has H (refQ mb R l1 l2 l3 l4) H'] (hk : wps g H (K R.off) Q) : wps g H (bindM (ld Value.bool ⟨mb, 7, none⟩) K) Q := by
  rw [h.eq] at hk ⊢
  exact ref02_off hk
theorem ref07_good_spec (yb mb : Nat) (q m : G3) (R : Rk) (hby : R.bys) (l1 l2 l3 l4 : Slc) (s : Int × Int) (seq : Int) :
    wps g (bnk yb mb q m * refQ mb R l1 l2 l3 l4) (ref07_good (ptr yb) s seq) (fun x => pr (x.2 = (goodV q m R s seq).2) * bnk yb mb q m * refQ mb R l1 l2 l3 l4 * own 1 x.1 (bv (goodV q m R s seq).1)) := by
  unfold ref07_good
  refine wps_fact (Ent.trans (ent_right _ _) refQ_good) fun hg => ?_
  refine wps_alloc fun c => ?_
  refine wps_ld s.1 (by rfl) ?_
  refine wps_ld s.2 (by rfl) ?_
  refine wps_call2 (fun _ => ref06_Read_spec yb mb q m R l1 l2 l3 l4 s.1 s.2) fun x => ?_
  simp only [← star_assoc]
  refine wps_prP fun hx => ?_
  have hx' : x.2 = brdE q m R s := hx
  have hbr : (if (slotV q m s.1).2 = true then R.rd (slotV q m s.1).1 s.2 else []) = brd q m R s := rfl
  rw [hbr]
  by_cases h0 : brdE q m R s = 0
  rotate_left
  · rw [goodV, if_neg h0]
    refine wps_ite (fun _ => wps_pure ?_) (fun h => absurd (by simp [hx', h0]) h)
    refine ent_own0 ?_
    repeat first | (with_reducible refine ent_pick ?_) | (refine ent_prq ?_)
    all_goals first | rfl | trivial
  rw [goodV, if_pos h0]
  refine wps_ite (fun h => absurd h (by simp [hx', h0])) (fun _ => ?_)
  refine wps_bind (ref04_Decode_spec (s := x.1) (b := brd q m R s) (Ent.trans (ent_pick1 (A := own 1 x.1 (bv (brd q m R s)))) (own_rsl _ _ _)) (brd_byts hby s) (by have := brd_len (q := q) (m := m) hg s; omega)) fun y => ?_
  simp only [← star_assoc]
  refine wps_prP fun hy => ?_
  refine wps_alloc fun d => ?_
  refine wps_stA (by simp) (by simp [Value.oneCell']) ?_
  refine wps_regionH ?_
  refine wps_ldI y.1.1 (by rfl) (wps_pure ?_)
  rw [hy]
  repeat first | (with_reducible refine ent_pick ?_) | (refine ent_prq ?_)
  all_goals first | rfl | trivial
structure OthJ (q m : G3) (R : Rk) (lost : Int × Int) (seq : Int) (l : List (Int × Int)) (base i : Nat) (st : Slc × Int) (ls : List (List Int)) : Prop where
  hi : st.2 = ((base + i : Nat) : Int)
  le : i ≤ l.length
  oth : othL q m R lost seq l = (othL q m R lost seq (l.drop i)).map (fun l => ls ++ l)
  lsi : ls.length ≤ i
  bs : ∀ b ∈ ls, Byts b ∧ b.length ≤ 64
theorem eq2_dec (a b : Int × Int) : eq2 (a.1, a.2) (b.1, b.2) = decide (a = b) := by
  unfold eq2
  by_cases h : a = b
  · subst h; simp
  · rw [decide_eq_false h]
    by_cases h1 : a.1 = b.1
    · have h2 : ¬ a.2 = b.2 := fun h2 => h (Prod.ext h1 h2)
      simp [h2]
    · simp [h1]
theorem spotAt_row {q : G3} {seg : Int} {r i : Nat} (h1 : 3 ≤ q.1) (hi : i < (spotsL q seg r).length) : spotAt q seg (r * q.1.toNat + i) = (spotsL q seg r)[i] := by
  have := spotsL_len q seg r h1
  rw [spotAt_rc h1 (by omega), List.getD_eq_getElem?_getD, List.getElem?_eq_getElem hi]; rfl
theorem row_lt {q : G3} {r i : Nat} (hr : (r : Int) < q.2.1) (hi : (i : Int) < q.1) : ((r * q.1.toNat + i : Nat) : Int) < q.2.1 * q.1 := by
  have h1 : ((r : Int) + 1) * q.1 ≤ q.2.1 * q.1 := Int.mul_le_mul_of_nonneg_right (by omega) (by omega)
  have h2 : ((r * q.1.toNat : Nat) : Int) = (r : Int) * q.1 := by rw [Int.natCast_mul]; congr 1; omega
  rw [Int.add_mul] at h1
  omega
theorem ref07_others_spec (yb mb : Nat) (q m : G3) (R : Rk) (hby : R.bys) (l1 l2 l3 l4 : Slc) (seg : Int) (hs : InS q seg) (r : Nat) (hr : (r : Int) < q.2.1) (lost : Int × Int) (seq : Int) :
    wps g (bnk yb mb q m * refQ mb R l1 l2 l3 l4) (ref07_others (ptr yb) seg r lost seq) (fun x => pr (x.2 = (othV q m R lost seq (spotsL q seg r)).2) * bnk yb mb q m * refQ mb R l1 l2 l3 l4 * own 1 x.1 (bv (othV q m R lost seq (spotsL q seg r)).1)) := by
  unfold ref07_others
  have hb := RightB.bnd hs.right
  have b1 := hb.d3
  have b2 := hb.d16
  have b3 := hb.r1
  have b4 := hb.r4
  have hspl := spotsL_len q seg r b1
  have hmul : ((r * q.1.toNat : Nat) : Int) = (r : Int) * q.1 := by rw [Int.natCast_mul]; congr 1; omega
  have hle64 : (r : Int) * q.1 ≤ 3 * 16 := Int.mul_le_mul (by omega) b2 (by omega) (by omega)
  refine wps_fact (Ent.trans (ent_right _ _) refQ_good) fun hg => ?_
  refine wps_alloc fun c => ?_
  refine wps_alloc fun x17 => ?_
  refine wps_nil ?_
  refine wps_ld q.1 (by rfl) ?_
  have e1 : w64 ((r : Int) * q.1) = ((r * q.1.toNat + 0 : Nat) : Int) := by rw [w64_id] <;> omega
  rw [e1]
  refine wps_swap (A := pc x17 []) (B := rows ⟨some ⟨x17, 0, none⟩, 0, 0⟩ []) rows_nil ?_
  refine wps_loop (fun st => ex fun i : Nat => ex fun ls : List (List Int) => pr (OthJ q m R lost seq (spotsL q seg r) (r * q.1.toNat) i st ls) * bnk yb mb q m * refQ mb R l1 l2 l3 l4 * pc c [.int .i64 lost.1, .int .i64 lost.2] * rows st.1 ls) (fun st => (((r + 1) * q.1.toNat : Nat) - st.2).toNat) ?_ fun st => ?_
  · refine ent_ex 0 (ent_ex [] ?_)
    repeat first | (with_reducible refine ent_pick ?_) | (refine ent_prq ?_)
    all_goals first | trivial | skip
    refine ⟨rfl, by omega, ?_, by simp, by simp⟩
    rw [List.drop_zero]
    cases othL q m R lost seq (spotsL q seg r) <;> simp
  refine wps_ex fun i => wps_ex fun ls => ?_
  refine wps_prP fun ⟨hi, hin, ho, hlsi, hbs⟩ => ?_
  refine wps_nil ?_
  refine wps_ld q.1 (by rfl) ?_
  have hm1 : ((r : Int) + 1) * q.1 = (r : Int) * q.1 + q.1 := by rw [Int.add_mul]; omega
  have hn1 : ((r + 1) * q.1.toNat : Nat) = r * q.1.toNat + q.1.toNat := by rw [Nat.add_mul]; omega
  have e2 : w64 (w64 ((r : Int) + 1) * q.1) = ((r * q.1.toNat + q.1.toNat : Nat) : Int) := by
    rw [w64_id (n := (r : Int) + 1) (by omega) (by omega), hm1, w64_id] <;> omega
  rw [e2]
  refine wps_ite (fun hc => ?_) (fun hc => ?_)
  · have hlt : i < (spotsL q seg r).length := by have := of_decide_eq_true hc; omega
    have hget : (spotsL q seg r)[i]? = some (spotsL q seg r)[i] := List.getElem?_eq_getElem hlt
    have hsa := spotAt_row b1 hlt
    rw [List.drop_eq_getElem_cons hlt, othL] at ho
    generalize hsp : (spotsL q seg r)[i] = sp at *
    refine wps_nil ?_
    refine wps_ldG q.1 q.2.1 q.2.2 (by rfl) ?_
    rw [hi]
    refine wps_val (ref07_spot_val (q.1, q.2.1, q.2.2) seg hs (r * q.1.toNat + i) (row_lt hr (by omega))) ?_
    rw [show spotAt (q.1, q.2.1, q.2.2) seg (r * q.1.toNat + i) = sp from hsa]
    refine wps_alloc fun x14 => ?_
    refine wps_stA (by simp) (by simp [Value.oneCell']) ?_
    refine wps_ldA sp (by rfl) ?_
    refine wps_ldA lost (by rfl) ?_
    rw [eq2_dec]
    have e3 : w64 (((r * q.1.toNat + i : Nat) : Int) + 1) = ((r * q.1.toNat + (i + 1) : Nat) : Int) := by rw [w64_id] <;> omega
    rw [e3]
    by_cases hsl2 : sp = lost
    · rw [if_pos hsl2] at ho
      refine wps_ite (fun _ => wps_pure ?_) (fun h => absurd (decide_eq_true hsl2) h)
      refine ent_prr (by (try dsimp only); omega) (ent_ex (i + 1) (ent_ex ls ?_))
      repeat first | (with_reducible refine ent_pick ?_) | (refine ent_prq ?_)
      all_goals first | exact ⟨rfl, by omega, ho, by omega, hbs⟩ | trivial
    · rw [if_neg hsl2] at ho
      refine wps_ite (fun h => absurd (of_decide_eq_true h) hsl2) (fun _ => ?_)
      refine wps_ldA sp (by rfl) ?_
      refine wps_call2 (fun _ => ref07_good_spec yb mb q m R hby l1 l2 l3 l4 sp seq) fun x => ?_
      simp only [← star_assoc]
      refine wps_prP fun hx => ?_
      by_cases hgo : (goodV q m R sp seq).2 = true
      rotate_left
      · rw [if_neg hgo] at ho
        have hov : othV q m R lost seq (spotsL q seg r) = ([], false) := by unfold othV; rw [ho]; rfl
        refine wps_ite (fun _ => wps_mapR (wps_pure ?_)) (fun h => absurd (by rw [hx]; simpa using hgo) h)
        show Ent _ (pr (false = _) * _ * _ * _)
        rw [hov]
        refine ent_own0 ?_
        repeat first | (with_reducible refine ent_pick ?_) | (refine ent_prq ?_)
        all_goals first | rfl | trivial
      rw [if_pos hgo] at ho
      refine wps_ite (fun h => absurd h (by rw [hx]; simp [hgo])) (fun _ => ?_)
      refine wps_rows1 (b := (goodV q m R sp seq).1) (l := ls) (by omega) fun t2 => wps_pure ?_
      refine ent_prr (by (try dsimp only); omega) (ent_ex (i + 1) (ent_ex (ls ++ [(goodV q m R sp seq).1]) ?_))
      repeat first | (with_reducible refine ent_pick ?_) | (refine ent_prq ?_)
      all_goals first | trivial | skip
      refine ⟨rfl, by omega, ?_, by simp; omega, fun b hb => ?_⟩
      · rw [ho]
        cases othL q m R lost seq ((spotsL q seg r).drop (i + 1)) <;> simp
      · rcases List.mem_append.1 hb with hb | hb
        · exact hbs b hb
        · obtain rfl : b = (goodV q m R sp seq).1 := by simpa using hb
          exact ⟨goodV_byts hby _ _, goodV_len hg _ _⟩
  · have hie : i = (spotsL q seg r).length := by
      have hc1 : ¬ (st.2 < ((r * q.1.toNat + q.1.toNat : Nat) : Int)) := fun h => hc (decide_eq_true h)
      omega
    rw [hie, List.drop_length, othL] at ho
    have hov : othV q m R lost seq (spotsL q seg r) = ((parL ls).getD [], (parL ls).isSome) := by unfold othV; rw [ho]; simp
    refine wps_mapR ?_
    rw [hov]
    refine wps_pre (H' := bnk yb mb q m * refQ mb R l1 l2 l3 l4 * pc c [.int .i64 lost.1, .int .i64 lost.2] * ex fun sl : List Slc => pr (sl.length = ls.length ∧ st.1.len = ls.length) * seqp sl (fun i => ls.getD i []) * own 1 st.1 (sl.map vS)) (Ent.of_eq (by rw [emp_star]; rfl)) ?_
    refine wps_exr fun sl => ?_
    simp only [← star_assoc]
    refine wps_prP fun ⟨hA, hA2⟩ => ?_
    refine wps_bind (ref04_Parity_spec (s := st.1) (sl := sl) (ls := ls) (Ent.trans (ent_pick1 (A := own 1 st.1 (sl.map vS))) (own_rsl _ _ _)) (ent_pick1 (A := seqp sl fun j => ls.getD j [])) hA (by omega) (fun b hb => ⟨(hbs b hb).1, by have := (hbs b hb).2; omega⟩)) fun p => ?_
    simp only [← star_assoc]
    refine wps_prP fun hp => wps_pure ?_
    show Ent _ (pr (p.2 = _) * _ * _ * _)
    repeat first | (with_reducible refine ent_pick ?_) | (refine ent_prq ?_)
    all_goals first | exact hp | trivial
end Go.Proofs.Ytldmeimebebllaa
namespace Go.Proofs.Ytldmeimebebllaa
open Go.Mo
set_option linter.unusedVariables false
variable {g : Fr} {cv : CV}
theorem flat_rc {α : Type} {D : Nat} (hD : 0 < D) (f : Nat → Nat → α) : ∀ R : Nat, (List.range R).flatMap (fun r => (List.range D).map (f r)) = (List.range (R * D)).map fun i => f (i / D) (i % D)
  | 0 => by simp
  | R + 1 => by
    rw [List.range_succ, List.flatMap_append, flat_rc hD f R, Nat.add_mul, Nat.one_mul, range_add_map, List.map_append, List.map_map]
    congr 1
    simp only [List.flatMap_cons, List.flatMap_nil, List.append_nil]
    refine List.map_congr_left fun c hc => ?_
    have hc := List.mem_range.1 hc
    show f R c = f ((R * D + c) / D) ((R * D + c) % D)
    rw [(divmod_rc hc).1, (divmod_rc hc).2]
theorem restW_flat {q : G3} {seg seq : Int} {l : List BlkA} (h1 : 3 ≤ q.1) : restW q seg seq l 0 = (List.range (q.2.1.toNat * q.1.toNat)).map fun i => (spotAt q seg i, datAt q seq l (i / q.1.toNat) (i % q.1.toNat)) := by
  unfold restW
  rw [List.drop_zero]
  exact flat_rc (by omega) (fun r i => ((spotsL q seg r).getD i (0, 0), datAt q seq l r i)) _
theorem ref07_Write_spec (yb mb : Nat) (q m : G3) (hq : RightB q = true) (R : Rk) (l1 l2 l3 l4 : Slc) (seg seq : Int) (s : Slc) (l : List BlkA) (hok : ∀ c ∈ l, c.ok) :
    wps g (blocksP s l * bnk yb mb q m * refQ mb R l1 l2 l3 l4) (ref07_Write (ptr yb) seg seq s) (fun e => pr (e = (swrite q m R seg seq l).2) * blocksP s l * bnk yb mb q m * refQ mb (swrite q m R seg seq l).1 l1 l2 l3 l4) := by
  unfold ref07_Write
  simp only [Addr.add_add, Nat.reduceAdd]
  have hb := RightB.bnd hq
  have b1 := hb.d3
  have b2 := hb.d16
  have b3 := hb.r1
  have b4 := hb.r4
  have hpl := hb.places.2
  refine wps_fact (Ent.trans (ent_pick1 (A := blocksP s l)) (blocksP_len s l)) fun hsl => ?_
  refine wps_val (v := decide (¬ (0 ≤ seg ∧ seg < q.2.2))) ?_ ?_
  · refine wps_ite (fun h => wps_pure (ent_prr ?_ (Ent.refl _))) (fun h => ?_)
    · have := of_decide_eq_true h
      exact (decide_eq_true (by omega)).symm
    · have h' : ¬ seg < 0 := fun h2 => h (decide_eq_true h2)
      refine wps_nil ?_
      refine wps_ld q.2.2 (by rfl) (wps_pure (ent_prr ?_ (Ent.refl _)))
      exact decide_eq_decide.2 (by omega)
  refine wps_val val_or (wps_val val_or ?_)
  by_cases hr : ¬ (0 ≤ seg ∧ seg < q.2.2) ∨ seq < 1 ∨ seq > 4294967295
  · have hsw : swrite q m R seg seq l = (R, 28) := if_pos hr
    rw [hsw]
    refine wps_ite (fun _ => wps_pure ?_) (fun h => absurd (decide_eq_true (by omega)) h)
    repeat first | (with_reducible refine ent_pick ?_) | (refine ent_prq ?_)
    all_goals first | rfl | trivial
  refine wps_ite (fun h => by have := of_decide_eq_true h; omega) (fun _ => ?_)
  refine wps_nil ?_
  refine wps_ldG q.1 q.2.1 q.2.2 (by rfl) ?_
  refine wps_val (ref03_Places_val (q.1, q.2.1, q.2.2)) ?_
  rw [show RightB (q.1, q.2.1, q.2.2) = true from hq, if_pos rfl, show placesI (q.1, q.2.1, q.2.2) = placesI q from rfl]
  have ep : w64 (placesI q + 1) = (nBlk q : Int) := by unfold nBlk; rw [w64_id] <;> omega
  rw [ep]
  by_cases hlen : nBlk q < l.length
  · have hsw : swrite q m R seg seq l = (R, 41) := by unfold swrite; rw [if_neg hr, if_pos (.inr hlen)]
    rw [hsw]
    refine wps_ite (fun _ => wps_pure ?_) (fun h => absurd (decide_eq_true (by omega)) h)
    repeat first | (with_reducible refine ent_pick ?_) | (refine ent_prq ?_)
    all_goals first | rfl | trivial
  refine wps_ite (fun h => by have := of_decide_eq_true h; omega) (fun _ => ?_)
  refine wps_nil ?_
  refine wps_ldG q.1 q.2.1 q.2.2 (by rfl) ?_
  refine wps_bind (ref07_sectors_spec (q.1, q.2.1, q.2.2) hq seq s l (ent_pick1 (A := blocksP s l)) (by omega) hok (by show l.length ≤ nBlk q; omega)) fun x => ?_
  rw [show nBlk (q.1, q.2.1, q.2.2) = nBlk q from rfl]
  by_cases henc : encAll seq l (nBlk q) = true
  rotate_left
  · have hsw : swrite q m R seg seq l = (R, 41) := by unfold swrite; rw [if_neg hr, if_pos (.inl (by simpa using henc))]
    rw [hsw]
    simp only [if_neg henc]
    refine wps_pr fun hx => ?_
    rw [hx]
    refine wps_ite (fun _ => wps_pure ?_) (fun h => absurd rfl h)
    repeat first | (with_reducible refine ent_pick ?_) | (refine ent_prq ?_)
    all_goals first | rfl | trivial
  simp only [if_pos henc]
  simp only [← star_assoc]
  refine wps_prP fun hx => ?_
  rw [hx]
  refine wps_ite (fun h => absurd h (by decide)) (fun _ => ?_)
  refine wps_call2 (fun _ => ref06_Bad_spec yb mb q m b2 R l1 l2 l3 l4) fun bd => ?_
  simp only [← star_assoc]
  refine wps_fact (Ent.trans (ent_pick1 (A := own 1 bd (iv (badL q m R)))) (own_len _ _ _)) fun ⟨hbl, _⟩ => ?_
  have hbl' : (badL q m R).length = bd.len := by simpa [iv] using hbl
  by_cases hbad : 1 < (badL q m R).length
  · have hsw : swrite q m R seg seq l = (R, 14) := by unfold swrite; rw [if_neg hr, if_neg (by simp [henc]; omega), if_pos hbad]
    rw [hsw]
    refine wps_ite (fun _ => wps_pure ?_) (fun h => absurd (decide_eq_true (by omega)) h)
    repeat first | (with_reducible refine ent_pick ?_) | (refine ent_prq ?_)
    all_goals first | rfl | trivial
  refine wps_ite (fun h => by have := of_decide_eq_true h; omega) (fun _ => ?_)
  have hsw : swrite q m R seg seq l = if (wrAll q m (restW q seg seq l 0) R).2 = true then ((wrAll q m (restW q seg seq l 0) R).1, 12)
      else if 1 < (badL q m (wrAll q m (restW q seg seq l 0) R).1).length then ((wrAll q m (restW q seg seq l 0) R).1, 14) else ((wrAll q m (restW q seg seq l 0) R).1, 0) := by
    unfold swrite; rw [if_neg hr, if_neg (by simp [henc]; omega), if_neg hbad]
  rw [hsw]
  have hWL := restW_flat (q := q) (seg := seg) (seq := seq) (l := l) b1
  have hWn : (restW q seg seq l 0).length = q.2.1.toNat * q.1.toNat := by rw [hWL]; simp
  have hRD : ((q.2.1.toNat * q.1.toNat : Nat) : Int) = q.2.1 * q.1 := by rw [Int.natCast_mul]; congr 1 <;> omega
  have h64 : q.2.1 * q.1 ≤ 4 * 16 := Int.mul_le_mul b4 b2 (by omega) (by omega)
  have hWg : ∀ i, i < q.2.1.toNat * q.1.toNat → (restW q seg seq l 0)[i]? = some (spotAt q seg i, (secL q seq l (q.2.1.toNat * q.1.toNat)).getD i []) := fun i hi => by
    rw [hWL, List.getElem?_map, List.getElem?_range hi]
    simp [secL, List.getD_eq_getElem?_getD, List.getElem?_range hi]
  have hSn : (secL q seq l (q.2.1.toNat * q.1.toNat)).length = q.2.1.toNat * q.1.toNat := by simp [secL]
  have hsec64 : ∀ i, i < q.2.1.toNat * q.1.toNat → ((secL q seq l (q.2.1.toNat * q.1.toNat)).getD i []).length ≤ 64 := fun i hi => by
    have hget : (secL q seq l (q.2.1.toNat * q.1.toNat)).getD i [] = datAt q seq l (i / q.1.toNat) (i % q.1.toNat) := by
      simp [secL, List.getD_eq_getElem?_getD, List.getElem?_range hi]
    rw [hget]
    unfold datAt
    split
    · rename_i hlt
      have hk : i / q.1.toNat * (q.1 - 1).toNat + i % q.1.toNat < nBlk q := by
        have hid : i / q.1.toNat < q.2.1.toNat := Nat.div_lt_of_lt_mul (by rw [Nat.mul_comm]; exact hi)
        have h1 : (i / q.1.toNat + 1) * (q.1 - 1).toNat ≤ q.2.1.toNat * (q.1 - 1).toNat := Nat.mul_le_mul_right _ (by omega)
        rw [Nat.add_mul] at h1
        have h2 : (nBlk q : Int) = q.2.1 * (q.1 - 1) := by unfold nBlk placesI; have := hb.mul; omega
        have h3 : ((q.2.1.toNat * (q.1 - 1).toNat : Nat) : Int) = q.2.1 * (q.1 - 1) := by rw [Int.natCast_mul]; congr 1 <;> omega
        omega
      rw [encAt_len henc hk]; omega
    · exact parL_len _
  rw [show (q.1, q.2.1, q.2.2).2.1.toNat * (q.1, q.2.1, q.2.2).1.toNat = q.2.1.toNat * q.1.toNat from rfl, show secL (q.1, q.2.1, q.2.2) seq l (q.2.1.toNat * q.1.toNat) = secL q seq l (q.2.1.toNat * q.1.toNat) from rfl]
  generalize restW q seg seq l 0 = WL at *
  generalize secL q seq l (q.2.1.toNat * q.1.toNat) = SL at *
  generalize q.2.1.toNat * q.1.toNat = N at *
  refine wps_pre (H' := blocksP s l * bnk yb mb q m * refQ mb R l1 l2 l3 l4 * ex fun sl : List Slc => pr (sl.length = SL.length ∧ x.1.len = SL.length) * seqp sl (fun i => SL.getD i []) * own 1 x.1 (sl.map vS)) ?_ ?_
  · show Ent _ (_ * rows x.1 SL)
    repeat first | (with_reducible exact ent_drop) | (with_reducible refine ent_pick ?_)
  refine wps_exr fun sl => ?_
  simp only [← star_assoc]
  refine wps_prP fun ⟨hA, hA2⟩ => ?_
  refine wps_loop (fun st => ex fun i : Nat => ex fun R1 : Rk => pr (st = (i : Int) ∧ i ≤ N ∧ wrAll q m WL R = wrAll q m (WL.drop i) R1) * blocksP s l * bnk yb mb q m * refQ mb R1 l1 l2 l3 l4 * seqp sl (fun i => SL.getD i []) * own 1 x.1 (sl.map vS)) (fun st => (N - st).toNat) ?_ fun st => ?_
  · refine ent_ex 0 (ent_ex R ?_)
    repeat first | (with_reducible refine ent_pick ?_) | (refine ent_prq ?_)
    all_goals first | exact ⟨rfl, by omega, by rw [List.drop_zero]⟩ | trivial
  refine wps_ex fun i => wps_ex fun R1 => wps_prP fun ⟨hi, hin, hw⟩ => ?_
  refine wps_ite (fun hc => ?_) (fun hc => ?_)
  rotate_left
  · have hie : i = N := by
      have : ¬ (st < ((x.1.len : Nat) : Int)) := fun h => hc (decide_eq_true h)
      omega
    rw [List.drop_of_length_le (by omega), wrAll] at hw
    rw [hw]
    refine wps_mapR ?_
    refine wps_call2 (fun _ => ref06_Bad_spec yb mb q m b2 R1 l1 l2 l3 l4) fun bd2 => ?_
    simp only [← star_assoc]
    refine wps_fact (Ent.trans (ent_pick1 (A := own 1 bd2 (iv (badL q m R1)))) (own_len _ _ _)) fun ⟨hbl2, _⟩ => ?_
    have hbl2' : (badL q m R1).length = bd2.len := by simpa [iv] using hbl2
    simp only [Bool.false_eq_true, if_false]
    by_cases hbad2 : 1 < (badL q m R1).length
    · simp only [if_pos hbad2]
      refine wps_ite (fun _ => wps_pure ?_) (fun h => absurd (decide_eq_true (by omega)) h)
      show Ent _ (pr ((14 : Int) = 14) * _ * _ * _)
      repeat first | (with_reducible refine ent_pick ?_) | (refine ent_prq ?_)
      all_goals first | rfl | trivial
    · simp only [if_neg hbad2]
      refine wps_ite (fun h => by have := of_decide_eq_true h; omega) (fun _ => wps_pure ?_)
      show Ent _ (pr ((0 : Int) = 0) * _ * _ * _)
      repeat first | (with_reducible refine ent_pick ?_) | (refine ent_prq ?_)
      all_goals first | rfl | trivial
  have hlt : i < N := by have := of_decide_eq_true hc; omega
  have hgw := hWg i hlt
  have hdr : WL.drop i = (spotAt q seg i, SL.getD i []) :: WL.drop (i + 1) := by
    have h := List.getElem?_eq_some_iff.1 hgw
    rw [List.drop_eq_getElem_cons h.1, h.2]
  have hl64 := hsec64 i hlt
  rw [hdr, wrAll] at hw
  have hsi : sl[i]? = some (sl[i]'(by omega)) := List.getElem?_eq_getElem (by omega)
  have hbd : Ent (seqp sl fun i => SL.getD i []) (byt (sl[i]'(by omega)) (SL.getD i [])) := seqp_get hsi
  generalize SL.getD i [] = d at *
  refine wps_nil ?_
  refine wps_ldG q.1 q.2.1 q.2.2 (by rfl) ?_
  rw [hi]
  refine wps_val (ref07_spot_val (q.1, q.2.1, q.2.2) seg ⟨hq, by omega, by show seg < q.2.2; omega⟩ i (by show (i : Int) < q.2.1 * q.1; omega)) ?_
  rw [show spotAt (q.1, q.2.1, q.2.2) seg i = spotAt q seg i from rfl]
  dsimp only at hw
  generalize spotAt q seg i = sp at *
  refine wps_alloc fun x12 => ?_
  refine wps_stA (by simp) (by simp [Value.oneCell']) ?_
  refine wps_regionH ?_
  refine wps_ldI sp.1 (by rfl) ?_
  refine wps_ldI sp.2 (by rfl) ?_
  refine wps_rdI i sl[i] (Ent.trans (ent_pick1 (A := own 1 x.1 (sl.map vS))) (own_rsl _ _ _)) (Ent.refl _) rfl (by simp [List.getElem?_eq_getElem (show i < sl.length by omega)]) ?_
  refine wps_call3 (fun _ => ref06_Write_spec (H := seqp sl fun i => SL.getD i []) yb mb q m R1 l1 l2 l3 l4 sp.1 sp.2 _ d hbd (by omega)) fun e => ?_
  simp only [← star_assoc]
  refine wps_prP fun he => ?_
  have he' : e = bgate q m R1 sp d := he
  have hbw : (if (slotV q m sp.1).2 = true then R1.write (slotV q m sp.1).1 sp.2 d else R1) = bwrite q m R1 sp d := rfl
  rw [hbw, he']
  by_cases h12 : bgate q m R1 sp d = 12
  · rw [if_pos h12] at hw
    rw [hw]
    simp only [if_true]
    refine wps_ite (fun _ => wps_mapR (wps_pure ?_)) (fun h => absurd (by simp [h12]) h)
    show Ent _ (pr ((12 : Int) = 12) * _ * _ * _)
    repeat first | (with_reducible refine ent_pick ?_) | (refine ent_prq ?_)
    all_goals first | rfl | trivial
  · rw [if_neg h12] at hw
    refine wps_ite (fun h => absurd (by simpa using h) h12) (fun _ => wps_pure ?_)
    refine ent_prr (by rw [range_add1 rfl (by omega)]; omega) (ent_ex (i + 1) (ent_ex (bwrite q m R1 sp d) ?_))
    repeat first | (with_reducible refine ent_pick ?_) | (refine ent_prq ?_)
    all_goals first | exact ⟨range_add1 rfl (by omega), by omega, hw⟩ | trivial
theorem ref07_Read_spec (yb mb : Nat) (q m : G3) (hq : RightB q = true) (R : Rk) (hby : R.bys) (l1 l2 l3 l4 : Slc) (seg k seq : Int) :
    wps g (bnk yb mb q m * refQ mb R l1 l2 l3 l4) (ref07_Read (ptr yb) seg k seq) (fun x => pr (x.2 = (sRead q m R seg k seq).2 ∧ x.1.1 = (sRead q m R seg k seq).1.1 ∧ x.1.2.1 = (sRead q m R seg k seq).1.2.1) * bnk yb mb q m * refQ mb R l1 l2 l3 l4 * own 1 x.1.2.2 (bv (sRead q m R seg k seq).1.2.2)) := by
  unfold ref07_Read
  have hb := RightB.bnd hq
  have b1 := hb.d3
  have b2 := hb.d16
  have b4 := hb.r4
  refine wps_fact (Ent.trans (ent_right _ _) refQ_good) fun hg => ?_
  refine wps_alloc fun x8 => ?_
  refine wps_nil ?_
  refine wps_ldG q.1 q.2.1 q.2.2 (by rfl) ?_
  refine wps_val (ref03_Block_val (q.1, q.2.1, q.2.2) seg k) ?_
  rw [show blkOkB (q.1, q.2.1, q.2.2) seg k = blkOkB q seg k from rfl, show blkSpot (q.1, q.2.1, q.2.2) seg k = blkSpot q seg k from rfl]
  refine wps_alloc fun x10 => ?_
  by_cases hbo : blkOkB q seg k = true
  rotate_left
  · have hsr : sRead q m R seg k seq = ((0, 0, []), 28) := by unfold sRead; rw [if_pos (by simpa using hbo)]
    rw [if_neg hbo, hsr]
    refine wps_stA (by simp) (by simp [Value.oneCell']) ?_
    refine wps_ite (fun _ => ?_) (fun h => absurd rfl h)
    refine wps_stA (by simp) (by simp [Value.oneCell']) ?_
    refine wps_ldA (enc := fun y : (Int × Int × Slc) => [(.int .i64 y.1), (.int .i64 y.2.1), (.slice y.2.2.base y.2.2.len y.2.2.cap)]) (0, 0, ⟨none, 0, 0⟩) (by rfl) (wps_pure (ent_own0 ?_))
    repeat first | (with_reducible refine ent_pick ?_) | (refine ent_prq ?_)
    all_goals first | exact ⟨rfl, rfl, rfl⟩ | trivial
  rw [if_pos hbo]
  refine wps_stA (by simp) (by simp [Value.oneCell']) ?_
  refine wps_ite (fun h => absurd h (by simp)) (fun _ => ?_)
  refine wps_nil ?_
  refine wps_ld (ptr mb) (by rfl) ?_
  refine wps_nil ?_
  refine wps_offQ (mb := mb) (R := R) (l1 := l1) (l2 := l2) (l3 := l3) (l4 := l4) ?_
  by_cases ho : R.off = true
  · have hsr : sRead q m R seg k seq = ((0, 0, []), 12) := by unfold sRead; rw [if_neg (by simp [hbo]), if_pos ho]
    rw [hsr, ho]
    refine wps_ite (fun _ => ?_) (fun h => absurd rfl h)
    refine wps_stA (by simp [ovw]) (by simp [Value.oneCell']) ?_
    refine wps_ldA (enc := fun y : (Int × Int × Slc) => [(.int .i64 y.1), (.int .i64 y.2.1), (.slice y.2.2.base y.2.2.len y.2.2.cap)]) (0, 0, ⟨none, 0, 0⟩) (by rfl) (wps_pure (ent_own0 ?_))
    repeat first | (with_reducible refine ent_pick ?_) | (refine ent_prq ?_)
    all_goals first | exact ⟨rfl, rfl, rfl⟩ | trivial
  have hof : R.off = false := by simpa using ho
  rw [hof]
  refine wps_ite (fun h => absurd h (by decide)) (fun _ => ?_)
  have hbo2 := hbo
  simp only [blkOkB, Bool.and_eq_true, decide_eq_true_eq] at hbo2
  obtain ⟨_, hk, hse⟩ := hbo2
  have hkr := row_of_k hq hk
  generalize hspe : blkSpot q seg k = sp at *
  generalize hfv : (if (goodV q m R sp seq).2 = true then goodV q m R sp seq else othV q m R sp seq (spotsL q seg (k / (q.1 - 1)).toNat)) = fv
  have hsr : sRead q m R seg k seq = if fv.2 = true then (((headOf fv.1).2.1, (headOf fv.1).2.2, payOf fv.1), 0) else ((0, 0, []), 14) := by
    unfold sRead; rw [if_neg (by simp [hbo]), if_neg ho, hspe]
    simp only [hfv]
  have hfb : Byts fv.1 ∧ fv.1.length ≤ 64 := by
    rw [← hfv]; split
    · exact ⟨goodV_byts hby _ _, goodV_len hg _ _⟩
    · exact othV_byts hby _ _ _
  refine wps_ldA sp (by rfl) ?_
  refine wps_call2 (fun _ => ref07_good_spec yb mb q m R hby l1 l2 l3 l4 sp seq) fun x => ?_
  simp only [← star_assoc]
  refine wps_prP fun hx => ?_
  refine wps_bindS (R := fun b => pr (b.1 = fv.2) * bnk yb mb q m * refQ mb R l1 l2 l3 l4 * pc x8 [.int .i64 0, .int .i64 0, .slice none 0 0] * own 1 b.2 (bv fv.1)) ?_ fun b => ?_
  · refine wps_ite (fun hgo => ?_) (fun hgo => ?_)
    · have hgo' : ¬ (goodV q m R sp seq).2 = true := by rw [← hx]; simpa using hgo
      rw [if_neg hgo'] at hfv
      refine wps_region (bnk yb mb q m * pc x10 [.int .i64 sp.1, .int .i64 sp.2]) ?_ ?_
      · refine ent_pickC (by rfl) ?_
        repeat with_reducible exact ent_drop
      refine wps_nil ?_
      refine wps_ldI q.1 (by rfl) ?_
      have e0 : w64 (q.1 - 1) = q.1 - 1 := w64_id (by omega) (by omega)
      rw [e0]
      refine wps_assert (by omega) ?_
      refine wps_ldAI sp (by rfl) ?_
      have e1 : w64 (Int.tdiv k (q.1 - 1)) = (((k / (q.1 - 1)).toNat : Nat) : Int) := by rw [Int.tdiv_eq_ediv_of_nonneg hk.1, w64_id] <;> omega
      rw [e1]
      refine wps_stepQ2 (fun _ => ref07_others_spec yb mb q m R hby l1 l2 l3 l4 seg ⟨hq, hse.1, by omega⟩ (k / (q.1 - 1)).toNat (by omega) sp seq) (fun y => ?_) fun y => ?_
      · simp only [← star_assoc]
        refine ent_pickC (by rfl) ?_
        repeat with_reducible exact ent_drop
      · simp only [← star_assoc]
        refine wps_prP fun hy => wps_pure ?_
        rw [hfv] at hy ⊢
        refine ent_pick (ent_pickC (by rfl) ?_)
        repeat first | (with_reducible refine ent_pick ?_) | (refine ent_prq ?_)
        all_goals first | exact hy | trivial
    · have hgo' : (goodV q m R sp seq).2 = true := by rw [← hx]; simpa using hgo
      rw [if_pos hgo'] at hfv
      rw [hfv] at hx ⊢
      refine wps_pure ?_
      refine ent_pick (ent_pickC (by rfl) ?_)
      repeat first | (with_reducible refine ent_pick ?_) | (refine ent_prq ?_)
      all_goals first | exact hx | trivial
  refine wps_prP fun hb1 => ?_
  rw [hb1, hsr]
  by_cases hf2 : fv.2 = true
  rotate_left
  · rw [if_neg hf2]
    refine wps_ite (fun _ => ?_) (fun h => absurd (by simpa using hf2) h)
    refine wps_stA (by simp) (by simp [Value.oneCell']) ?_
    refine wps_ldA (enc := fun y : (Int × Int × Slc) => [(.int .i64 y.1), (.int .i64 y.2.1), (.slice y.2.2.base y.2.2.len y.2.2.cap)]) (0, 0, ⟨none, 0, 0⟩) (by rfl) (wps_pure (ent_own0 ?_))
    repeat first | (with_reducible refine ent_pick ?_) | (refine ent_prq ?_)
    all_goals first | exact ⟨rfl, rfl, rfl⟩ | trivial
  rw [if_pos hf2]
  refine wps_ite (fun h => absurd h (by simp [hf2])) (fun _ => ?_)
  refine wps_bind (ref04_Decode_spec (s := b.2) (b := fv.1) (Ent.trans (ent_pick1 (A := own 1 b.2 (bv fv.1))) (own_rsl _ _ _)) hfb.1 (by omega)) fun y => ?_
  simp only [← star_assoc]
  refine wps_prP fun hy => ?_
  refine wps_alloc fun x13 => ?_
  refine wps_stA (by simp) (by simp [Value.oneCell']) ?_
  refine wps_ld y.1.2.1 (by rfl) ?_
  refine wps_ld y.1.2.2 (by rfl) ?_
  refine wps_stA (by simp) (by simp [Value.oneCell']) ?_
  refine wps_ldA (enc := fun y : (Int × Int × Slc) => [(.int .i64 y.1), (.int .i64 y.2.1), (.slice y.2.2.base y.2.2.len y.2.2.cap)]) (y.1.2.1, y.1.2.2, y.2.1) (by rfl) (wps_pure ?_)
  rw [hy]
  repeat first | (with_reducible refine ent_pick ?_) | (refine ent_prq ?_)
  all_goals first | exact ⟨rfl, rfl, rfl⟩ | trivial
end Go.Proofs.Ytldmeimebebllaa
namespace Go.Proofs.Ytldmeimebebllaa
open Go.Mo
set_option linter.unusedVariables false
variable {g : Fr} {cv : CV}
theorem ref07_Sound_spec (yb mb : Nat) (q m : G3) (hq : RightB q = true) (R : Rk) (hby : R.bys) (l1 l2 l3 l4 : Slc) (seg seq : Int) :
    wps g (bnk yb mb q m * refQ mb R l1 l2 l3 l4) (ref07_Sound (ptr yb) seg seq) (fun x => pr (x = sSound q m R seg seq) * bnk yb mb q m * refQ mb R l1 l2 l3 l4) := by
  unfold ref07_Sound
  simp only [Addr.add_add, Nat.reduceAdd]
  have hb := RightB.bnd hq
  have b1 := hb.d3
  have b2 := hb.d16
  have b3 := hb.r1
  have b4 := hb.r4
  refine wps_fact (Ent.trans (ent_right _ _) refQ_good) fun hg => ?_
  refine wps_val (v := decide (¬ (0 ≤ seg ∧ seg < q.2.2))) ?_ ?_
  · refine wps_ite (fun h => wps_pure (ent_prr ?_ (Ent.refl _))) (fun h => ?_)
    · have := of_decide_eq_true h
      exact (decide_eq_true (by omega)).symm
    · have h' : ¬ seg < 0 := fun h2 => h (decide_eq_true h2)
      refine wps_nil ?_
      refine wps_ld q.2.2 (by rfl) (wps_pure (ent_prr ?_ (Ent.refl _)))
      exact decide_eq_decide.2 (by omega)
  by_cases hse : 0 ≤ seg ∧ seg < q.2.2
  rotate_left
  · have hsw : sSound q m R seg seq = (false, 28) := by
      have ht : thereE q R seg = 28 := by unfold thereE; rw [if_pos hse]
      unfold sSound; rw [ht]; rfl
    rw [hsw]
    refine wps_ite (fun _ => wps_pure ?_) (fun h => absurd (decide_eq_true hse) h)
    repeat first | (with_reducible refine ent_pick ?_) | (refine ent_prq ?_)
    all_goals first | rfl | trivial
  refine wps_ite (fun h => absurd hse (of_decide_eq_true h)) (fun _ => ?_)
  refine wps_nil ?_
  refine wps_ld (ptr mb) (by rfl) ?_
  refine wps_nil ?_
  refine wps_offQ (mb := mb) (R := R) (l1 := l1) (l2 := l2) (l3 := l3) (l4 := l4) ?_
  by_cases ho : R.off = true
  · have hsw : sSound q m R seg seq = (false, 12) := by
      have ht : thereE q R seg = 12 := by unfold thereE; rw [if_neg (by simpa using hse), if_pos ho]
      unfold sSound; rw [ht]; rfl
    rw [hsw, ho]
    refine wps_ite (fun _ => wps_pure ?_) (fun h => absurd rfl h)
    repeat first | (with_reducible refine ent_pick ?_) | (refine ent_prq ?_)
    all_goals first | rfl | trivial
  have hof : R.off = false := by simpa using ho
  have hsw : sSound q m R seg seq = ((List.range q.2.1.toNat).all (sndRow q m R seg seq), 0) := by
    have ht : thereE q R seg = 0 := by unfold thereE; rw [if_neg (by simpa using hse), if_neg ho]
    unfold sSound; rw [if_neg (by simp [ht])]
  rw [hsw, hof]
  refine wps_ite (fun h => absurd h (by decide)) (fun _ => ?_)
  refine wps_loop (fun st => ex fun i : Nat => pr (st = (i : Int) ∧ (i : Int) ≤ q.2.1 ∧ (List.range i).all (sndRow q m R seg seq) = true) * bnk yb mb q m * refQ mb R l1 l2 l3 l4) (fun st => (q.2.1 - st).toNat) ?_ fun st => ?_
  · refine ent_ex 0 ?_
    repeat first | (with_reducible refine ent_pick ?_) | (refine ent_prq ?_)
    all_goals first | exact ⟨rfl, by omega, rfl⟩ | trivial
  refine wps_ex fun i => wps_prP fun ⟨hi, hin, hall⟩ => ?_
  refine wps_nil ?_
  refine wps_ld q.2.1 (by rfl) ?_
  refine wps_ite (fun hc => ?_) (fun hc => ?_)
  rotate_left
  · have hie : i = q.2.1.toNat := by
      have : ¬ (st < q.2.1) := fun h => hc (decide_eq_true h)
      omega
    subst hie
    rw [hall]
    refine wps_mapR (wps_pure ?_)
    show Ent _ (pr ((true, (0 : Int)) = (true, 0)) * _ * _)
    repeat first | (with_reducible refine ent_pick ?_) | (refine ent_prq ?_)
    all_goals first | rfl | trivial
  have hlt : (i : Int) < q.2.1 := by have := of_decide_eq_true hc; omega
  have hmul : ((i * q.1.toNat : Nat) : Int) = (i : Int) * q.1 := by rw [Int.natCast_mul]; congr 1; omega
  have hle64 : (i : Int) * q.1 ≤ 3 * 16 := Int.mul_le_mul (by omega) b2 (by omega) (by omega)
  have hm1 : ((i : Int) + 1) * q.1 = (i : Int) * q.1 + q.1 := by rw [Int.add_mul]; omega
  have e1 : w64 (w64 (w64 (st + 1) * q.1) - 1) = ((i * q.1.toNat + (q.1 - 1).toNat : Nat) : Int) := by
    rw [hi, w64_id (n := (i : Int) + 1) (by omega) (by omega), hm1, w64_id (n := (i : Int) * q.1 + q.1) (by omega) (by omega), w64_id] <;> omega
  have hsa : spotAt (q.1, q.2.1, q.2.2) seg (i * q.1.toNat + (q.1 - 1).toNat) = parSpot q seg i := by
    show spotAt q seg (i * q.1.toNat + (q.1 - 1).toNat) = parSpot q seg i
    rw [spotAt_rc b1 (by omega), List.getD_eq_getElem?_getD, spotsL_last]; rfl
  have hsv := fun (H : HP) => ref07_spot_val (g := g) (H := H) (q.1, q.2.1, q.2.2) seg ⟨hq, hse.1, hse.2⟩ (i * q.1.toNat + (q.1 - 1).toNat) (row_lt (q := q) hlt (by omega))
  rw [hsa] at hsv
  have hrow : sndRow q m R seg seq i = ((goodV q m R (parSpot q seg i) seq).2 && ((othV q m R (parSpot q seg i) seq (spotsL q seg i)).2 && decide ((goodV q m R (parSpot q seg i) seq).1 = (othV q m R (parSpot q seg i) seq (spotsL q seg i)).1))) := rfl
  have hgl := goodV_len (q := q) (m := m) hg (parSpot q seg i) seq
  generalize parSpot q seg i = sp at *
  refine wps_regionH ?_
  refine wps_nil ?_
  refine wps_ldAI (enc := fun y : (Int × Int × Int) => [(.int .i64 y.1), (.int .i64 y.2.1), (.int .i64 y.2.2)]) (q.1, q.2.1, q.2.2) (by rfl) ?_
  refine wps_nil ?_
  refine wps_ldI q.1 (by rfl) ?_
  rw [e1]
  have tail : ∀ x9 : Nat, wps g (emp * bnk yb mb q m * refQ mb R l1 l2 l3 l4 * pc x9 [.int .i64 0, .int .i64 0]) (
      bindM (stA ⟨x9, 0, none⟩ [(.int .i64 sp.1), (.int .i64 sp.2)]) fun _ =>
      bindM (ldA (fun y : (Int × Int) => [(.int .i64 y.1), (.int .i64 y.2)]) ⟨x9, 0, none⟩) fun x58 =>
      bindM (ref07_good (ptr yb) (x58.1, x58.2) seq) fun x60 =>
      bindM (ldA (fun y : (Int × Int) => [(.int .i64 y.1), (.int .i64 y.2)]) ⟨x9, 0, none⟩) fun x67 =>
      bindM (ref07_others (ptr yb) seg st (x67.1, x67.2) seq) fun x69 =>
      bindM (if (!x60.2) = true then pureM true else pureM (!x69.2)) fun r4 =>
      bindM (if (r4) = true then pureM true else bindM (ref00_SameBytes x60.1 x69.1) fun x81 => pureM (!x81)) fun r5 =>
      (if (r5) = true then mapR (pureM (false, (0 : Int))) else pureM (.inl (w64 (st + 1)))))
      (sumPost (fun s' => pr ((q.2.1 - s').toNat < (q.2.1 - st).toNat) * ex fun i : Nat => pr (s' = (i : Int) ∧ (i : Int) ≤ q.2.1 ∧ (List.range i).all (sndRow q m R seg seq) = true) * bnk yb mb q m * refQ mb R l1 l2 l3 l4) (fun x => pr (x = ((List.range q.2.1.toNat).all (sndRow q m R seg seq), 0)) * bnk yb mb q m * refQ mb R l1 l2 l3 l4)) := by
    intro x9
    refine wps_stA (by simp) (by simp [Value.oneCell']) ?_
    refine wps_ldA sp (by rfl) ?_
    refine wps_call2 (fun _ => ref07_good_spec yb mb q m R hby l1 l2 l3 l4 sp seq) fun a => ?_
    simp only [← star_assoc]
    refine wps_prP fun ha => ?_
    refine wps_ldA sp (by rfl) ?_
    rw [hi]
    refine wps_call2 (fun _ => ref07_others_spec yb mb q m R hby l1 l2 l3 l4 seg ⟨hq, hse.1, hse.2⟩ i hlt sp seq) fun b => ?_
    simp only [← star_assoc]
    refine wps_prP fun hb2 => ?_
    rw [ha, hb2]
    refine wps_val val_orb ?_
    refine wps_val (v := !sndRow q m R seg seq i) ?_ ?_
    · rw [hrow]
      cases h1 : (goodV q m R sp seq).2
      · exact wps_ite (fun _ => wps_pure (ent_prr (by simp) (Ent.refl _))) (fun h => absurd rfl h)
      cases h2 : (othV q m R sp seq (spotsL q seg i)).2
      · exact wps_ite (fun _ => wps_pure (ent_prr (by simp) (Ent.refl _))) (fun h => absurd rfl h)
      refine wps_ite (fun h => absurd h (by decide)) (fun _ => ?_)
      refine wps_val (ref00_SameBytes_val (Ent.trans (ent_pick1 (A := own 1 a.1 (bv (goodV q m R sp seq).1))) (own_rsl _ _ _)) (Ent.trans (ent_pick1 (A := own 1 b.1 (bv (othV q m R sp seq (spotsL q seg i)).1))) (own_rsl _ _ _)) (by omega)) (wps_pure (ent_prr (by simp) (Ent.refl _)))
    cases hr : sndRow q m R seg seq i
    · refine wps_ite (fun _ => wps_mapR (wps_pure ?_)) (fun h => absurd rfl h)
      show Ent _ (pr ((false, (0 : Int)) = _) * _ * _)
      refine ent_pick (ent_pick (ent_prq ?_))
      rw [all_false (show i < q.2.1.toNat by omega) hr]
    · refine wps_ite (fun h => absurd h (by decide)) (fun _ => wps_pure ?_)
      refine ent_prr (by rw [range_add1 rfl (by omega)]; omega) (ent_ex (i + 1) ?_)
      repeat first | (with_reducible refine ent_pick ?_) | (refine ent_prq ?_)
      all_goals first | exact ⟨range_add1 rfl (by omega), by omega, all_succ hall hr⟩ | trivial
  refine wps_both ?_ ?_
  · refine wps_stepV (hsv _) ?_
    refine wps_stepAlloc fun x9 => ?_
    exact tail x9
  · refine wps_stepAlloc fun x9 => ?_
    refine wps_stepV (hsv _) ?_
    exact tail x9
theorem parSpot_fst {q : G3} (h1 : 3 ≤ q.1) (seg : Int) (r : Nat) : (parSpot q seg r).1 = (q.1 - 1 - rowOf q seg r % q.1 + 1 + ((q.1 - 1).toNat : Int)) % q.1 := by
  have hp0 := Int.emod_nonneg (rowOf q seg r) (b := q.1) (by omega)
  have hp1 := Int.emod_lt_of_pos (rowOf q seg r) (b := q.1) (by omega)
  unfold parSpot
  rw [show q.1 - 1 - rowOf q seg r % q.1 + 1 + ((q.1 - 1).toNat : Int) = (q.1 - 1 - rowOf q seg r % q.1) + q.1 by omega, Int.add_emod_right]
  exact (Int.emod_eq_of_lt (by omega) (by omega)).symm
theorem spotsL_fst {q : G3} (h1 : 3 ≤ q.1) (seg : Int) (r i : Nat) (hi : i < (spotsL q seg r).length) : (spotsL q seg r)[i].1 = (q.1 - 1 - rowOf q seg r % q.1 + 1 + (i : Int)) % q.1 := by
  have hl := spotsL_len q seg r h1
  by_cases h : i < (q.1 - 1).toNat
  · have e : (spotsL q seg r)[i] = blkSpot q seg ((r : Int) * (q.1 - 1) + (i : Int)) := by
      have h2 : (spotsL q seg r)[i]? = some (blkSpot q seg ((r : Int) * (q.1 - 1) + (i : Int))) := by
        unfold spotsL
        rw [List.getElem?_append_left (by simp; omega), List.getElem?_map, List.getElem?_range h]; rfl
      rw [List.getElem?_eq_getElem hi] at h2
      exact Option.some.inj h2
    rw [e, blkSpot_rc h1 (by omega)]
  · have hie : i = (q.1 - 1).toNat := by omega
    have e : (spotsL q seg r)[i] = parSpot q seg r := by
      have := spotsL_last q seg r
      rw [← hie, List.getElem?_eq_getElem hi] at this
      exact Option.some.inj this
    rw [e, parSpot_fst h1, hie]
theorem emod_inj {D a : Int} {i j : Nat} (hD : 0 < D) (hi : (i : Int) < D) (hj : (j : Int) < D) (h : (a + i) % D = (a + j) % D) : i = j := by
  have h1 := Int.emod_emod_of_dvd (a + i) (Int.dvd_refl D)
  have h2 : D ∣ (a + i) - (a + j) := Int.dvd_of_emod_eq_zero (by rw [← Int.emod_eq_emod_iff_emod_sub_eq_zero]; exact h)
  have h3 : D ∣ ((i : Int) - j) := by rw [show (i : Int) - j = (a + i) - (a + j) by omega]; exact h2
  have h4 := Int.eq_zero_of_dvd_of_natAbs_lt_natAbs h3 (by omega)
  omega
theorem filter_one {α : Type} {P : α → Bool} {l : List α} {k : Nat} (hk : k < l.length) (h1 : P l[k] = true) (h2 : ∀ j (hj : j < l.length), j ≠ k → P l[j] = false) : l.filter P = [l[k]] := by
  have hsplit : l = l.take k ++ l[k] :: l.drop (k + 1) := by rw [← List.drop_eq_getElem_cons hk, List.take_append_drop]
  conv => lhs; rw [hsplit]
  rw [List.filter_append, List.filter_cons, if_pos h1]
  have e1 : (l.take k).filter P = [] := List.filter_eq_nil_iff.2 fun x hx => by
    obtain ⟨j, hj, rfl⟩ := List.getElem_of_mem hx
    have hjk : j < k := by have := hj; simp at this; omega
    rw [List.getElem_take, h2 j (by omega) (by omega)]; simp
  have e2 : (l.drop (k + 1)).filter P = [] := List.filter_eq_nil_iff.2 fun x hx => by
    obtain ⟨j, hj, rfl⟩ := List.getElem_of_mem hx
    have hjl : k + 1 + j < l.length := by have := hj; simp at this; omega
    rw [List.getElem_drop, h2 (k + 1 + j) hjl (by omega)]; simp
  rw [e1, e2]; rfl
theorem row_filter {q : G3} {seg slot : Int} (h1 : 3 ≤ q.1) (hs : 0 ≤ slot ∧ slot < q.1) (r : Nat) : (spotsL q seg r).filter (fun s => s.1 == slot) = [slotSp q seg r slot] := by
  have hk := slotK_lt (q := q) (seg := seg) (r := r) h1 hs
  have hg := slotSp_get (q := q) (seg := seg) (r := r) h1 hs
  have hf := slotSp_fst (q := q) (seg := seg) (r := r) h1 hs
  rw [List.getElem?_eq_getElem hk] at hg
  have hg := Option.some.inj hg
  have hl := spotsL_len q seg r h1
  rw [filter_one hk (by rw [hg]; simp [hf]) fun j hj hne => ?_, hg]
  cases hc : ((spotsL q seg r)[j].1 == slot) with
  | false => rfl
  | true =>
    have e1 := spotsL_fst h1 seg r j hj
    have e2 := spotsL_fst h1 seg r _ hk
    rw [hg, hf] at e2
    have e3 : (spotsL q seg r)[j].1 = slot := by simpa using hc
    exact absurd (emod_inj (D := q.1) (by omega) (by omega) (by omega) (by rw [← e1, ← e2, e3])) hne
def inL (q : G3) (seg slot : Int) (n : Nat) : List (Int × Int) := ((List.range n).map (spotAt q seg)).filter fun s => s.1 == slot
theorem inL_row {q : G3} {seg slot : Int} (h1 : 3 ≤ q.1) (hs : 0 ≤ slot ∧ slot < q.1) : ∀ R : Nat, inL q seg slot (R * q.1.toNat) = (List.range R).map fun r => slotSp q seg r slot
  | 0 => by simp [inL]
  | R + 1 => by
    have ih := inL_row (seg := seg) h1 hs R
    unfold inL at ih ⊢
    rw [Nat.add_mul, Nat.one_mul, range_add_map, List.map_append, List.filter_append, ih, List.range_succ, List.map_append, List.map_map]
    congr 1
    rw [List.map_cons, List.map_nil, ← row_filter h1 hs R]
    congr 1
    have hl := spotsL_len q seg R h1
    apply List.ext_getElem?
    intro c
    by_cases hc : c < q.1.toNat
    · rw [List.getElem?_map, List.getElem?_range hc, List.getElem?_eq_getElem (show c < (spotsL q seg R).length by omega)]
      show some (spotAt q seg (R * q.1.toNat + c)) = _
      rw [spotAt_row h1 (by omega)]
    · rw [List.getElem?_eq_none (by simp; omega), List.getElem?_eq_none (by omega)]
theorem ref07_in_spec {H : HP} (q : G3) (seg slot : Int) (hs : InS q seg) (hsl : 0 ≤ slot ∧ slot < q.1) : wps g H (ref07_in q seg slot) (fun t => H * own 2 t (sv ((List.range q.2.1.toNat).map fun r : Nat => slotSp q seg r slot))) := by
  unfold ref07_in
  have hb := RightB.bnd hs.right
  have b1 := hb.d3
  have b2 := hb.d16
  have b3 := hb.r1
  have b4 := hb.r4
  have hRD : ((q.2.1.toNat * q.1.toNat : Nat) : Int) = q.2.1 * q.1 := by rw [Int.natCast_mul]; congr 1 <;> omega
  have h64 : q.2.1 * q.1 ≤ 4 * 16 := Int.mul_le_mul b4 b2 (by omega) (by omega)
  refine wps_alloc fun x3 => ?_
  refine wps_alloc fun x10 => ?_
  refine wps_swap (A := pc x10 []) (B := own 2 ⟨some ⟨x10, 0, none⟩, 0, 0⟩ []) (pc_own (n := 0) (z := 2) rfl) ?_
  refine wps_loop (fun st => ex fun i : Nat => pr (st.2 = (i : Int) ∧ (i : Int) ≤ q.2.1 * q.1 ∧ st.1.len ≤ i) * H * pc x3 [.int .i64 q.1, .int .i64 q.2.1, .int .i64 q.2.2] * own 2 st.1 (sv (inL q seg slot i))) (fun st => (q.2.1 * q.1 - st.2).toNat) ?_ fun st => ?_
  · refine ent_ex 0 (ent_pickS (by rfl) ?_)
    repeat first | (with_reducible refine ent_pick ?_) | (refine ent_prq ?_)
    all_goals first | exact ⟨rfl, by omega, by simp⟩ | trivial
  refine wps_ex fun i => wps_prP fun ⟨hi, hin, hli⟩ => ?_
  refine wps_ld q.2.1 (by rfl) ?_
  refine wps_ld q.1 (by rfl) ?_
  rw [w64_id (n := q.2.1 * q.1) (by omega) (by omega)]
  refine wps_ite (fun hc => ?_) (fun hc => ?_)
  rotate_left
  · have hie : i = q.2.1.toNat * q.1.toNat := by
      have : ¬ (st.2 < q.2.1 * q.1) := fun h => hc (decide_eq_true h)
      omega
    rw [hie, inL_row b1 hsl]
    refine wps_mapR (wps_pure ?_)
    show Ent _ (H * own 2 st.1 _)
    repeat first | (with_reducible exact ent_drop) | (with_reducible refine ent_pick ?_)
  have hlt : (i : Int) < q.2.1 * q.1 := by have := of_decide_eq_true hc; omega
  refine wps_ldG q.1 q.2.1 q.2.2 (by rfl) ?_
  rw [hi]
  refine wps_val (ref07_spot_val (q.1, q.2.1, q.2.2) seg hs i hlt) ?_
  rw [show spotAt (q.1, q.2.1, q.2.2) seg i = spotAt q seg i from rfl]
  have hst : inL q seg slot (i + 1) = inL q seg slot i ++ if (spotAt q seg i).1 == slot then [spotAt q seg i] else [] := by
    unfold inL
    rw [List.range_succ, List.map_append, List.filter_append]
    simp only [List.map_cons, List.map_nil, List.filter_cons, List.filter_nil]
  generalize spotAt q seg i = sp at *
  refine wps_alloc fun x9 => ?_
  refine wps_stA (by simp) (by simp [Value.oneCell']) ?_
  refine wps_ld sp.1 (by rfl) ?_
  refine wps_ite (fun he => ?_) (fun he => wps_pure ?_)
  · rw [if_pos he] at hst
    refine wps_ldA sp (by rfl) ?_
    refine wps_append1 2 rfl (by decide) rfl (PickS.eq (z := 2) (s := st.1)) (by simp [Value.oneCell']) (by omega) fun s' hs' => wps_pure ?_
    refine ent_prr (by dsimp only; rw [range_add1 rfl (by omega)]; omega) (ent_ex (i + 1) ?_)
    rw [hst]
    refine ent_pickS (by rw [sv_snoc]) ?_
    repeat first | (with_reducible refine ent_pick ?_) | (refine ent_prq ?_)
    all_goals first | exact ⟨range_add1 rfl (by omega), by omega, by (try dsimp only); omega⟩ | trivial
  · rw [if_neg he, List.append_nil] at hst
    refine ent_prr (by dsimp only; rw [range_add1 rfl (by omega)]; omega) (ent_ex (i + 1) ?_)
    rw [hst]
    repeat first | (with_reducible refine ent_pick ?_) | (refine ent_prq ?_)
    all_goals first | exact ⟨range_add1 rfl (by omega), by omega, by (try dsimp only); omega⟩ | trivial
end Go.Proofs.Ytldmeimebebllaa
namespace Go.Proofs.Ytldmeimebebllaa
open Go.Mo
set_option linter.unusedVariables false
variable {g : Fr} {cv : CV}
theorem ref07_Missing_spec (yb mb : Nat) (q m : G3) (hq : RightB q = true) (R : Rk) (hby : R.bys) (l1 l2 l3 l4 : Slc) (seg slot seq : Int) :
    wps g (bnk yb mb q m * refQ mb R l1 l2 l3 l4) (ref07_Missing (ptr yb) seg slot seq) (fun x => pr (x = sMissing q m R seg slot seq) * bnk yb mb q m * refQ mb R l1 l2 l3 l4) := by
  unfold ref07_Missing
  simp only [Addr.add_add, Nat.reduceAdd]
  have hb := RightB.bnd hq
  have b1 := hb.d3
  have b2 := hb.d16
  have b4 := hb.r4
  refine wps_val (v := decide (¬ (0 ≤ seg ∧ seg < q.2.2))) ?_ ?_
  · refine wps_ite (fun h => wps_pure (ent_prr ?_ (Ent.refl _))) (fun h => ?_)
    · have := of_decide_eq_true h
      exact (decide_eq_true (by omega)).symm
    · have h' : ¬ seg < 0 := fun h2 => h (decide_eq_true h2)
      refine wps_nil ?_
      refine wps_ld q.2.2 (by rfl) (wps_pure (ent_prr ?_ (Ent.refl _)))
      exact decide_eq_decide.2 (by omega)
  refine wps_val val_or ?_
  refine wps_val (v := decide ((¬ (0 ≤ seg ∧ seg < q.2.2) ∨ slot < 0) ∨ slot ≥ q.1)) ?_ ?_
  · refine wps_ite (fun h => wps_pure (ent_prr ?_ (Ent.refl _))) (fun h => ?_)
    · have := of_decide_eq_true h
      exact (decide_eq_true (.inl this)).symm
    · have h' : ¬ (¬ (0 ≤ seg ∧ seg < q.2.2) ∨ slot < 0) := fun h2 => h (decide_eq_true h2)
      refine wps_nil ?_
      refine wps_ld q.1 (by rfl) (wps_pure (ent_prr ?_ (Ent.refl _)))
      exact decide_eq_decide.2 ⟨.inr, fun h2 => h2.elim (fun h3 => absurd h3 h') id⟩
  by_cases hse : (0 ≤ slot ∧ slot < q.1) ∧ (0 ≤ seg ∧ seg < q.2.2)
  rotate_left
  · have hsw : sMissing q m R seg slot seq = (false, 28) := by
      have ht : slottedE q R seg slot = 28 := by
        unfold slottedE thereE
        by_cases h1 : 0 ≤ slot ∧ slot < q.1
        · rw [if_neg (by simpa using h1), if_pos (fun h2 => hse ⟨h1, h2⟩)]
        · rw [if_pos h1]
      unfold sMissing; rw [ht]; rfl
    rw [hsw]
    refine wps_ite (fun _ => wps_pure ?_) (fun h => absurd (decide_eq_true (by omega)) h)
    repeat first | (with_reducible refine ent_pick ?_) | (refine ent_prq ?_)
    all_goals first | rfl | trivial
  obtain ⟨hsl, hse⟩ := hse
  refine wps_ite (fun h => by have := of_decide_eq_true h; omega) (fun _ => ?_)
  refine wps_nil ?_
  refine wps_ld (ptr mb) (by rfl) ?_
  refine wps_nil ?_
  refine wps_offQ (mb := mb) (R := R) (l1 := l1) (l2 := l2) (l3 := l3) (l4 := l4) ?_
  have hsE : slottedE q R seg slot = if R.off then 12 else 0 := by
    unfold slottedE thereE
    rw [if_neg (by simpa using hsl), if_neg (by simpa using hse)]
  by_cases ho : R.off = true
  · have hsw : sMissing q m R seg slot seq = (false, 12) := by
      rw [if_pos ho] at hsE
      unfold sMissing; rw [hsE]; rfl
    rw [hsw, ho]
    refine wps_ite (fun _ => wps_pure ?_) (fun h => absurd rfl h)
    repeat first | (with_reducible refine ent_pick ?_) | (refine ent_prq ?_)
    all_goals first | rfl | trivial
  have hof : R.off = false := by simpa using ho
  rw [if_neg ho] at hsE
  have hsw : sMissing q m R seg slot seq = ((List.range q.2.1.toNat).any (lackB q m R seg slot seq), 0) := by
    unfold sMissing; rw [if_neg (by simp [hsE])]
  rw [hsw, hof]
  refine wps_ite (fun h => absurd h (by decide)) (fun _ => ?_)
  refine wps_nil ?_
  refine wps_ldG q.1 q.2.1 q.2.2 (by rfl) ?_
  refine wps_bind (ref07_in_spec (q.1, q.2.1, q.2.2) seg slot ⟨hq, hse.1, hse.2⟩ hsl) fun t => ?_
  refine wps_fact (Ent.trans (ent_right _ _) (own_len _ _ _)) fun ⟨htl, _⟩ => ?_
  rw [sv_len, List.length_map, List.length_range] at htl
  have htl' : t.len = q.2.1.toNat := by have : (q.1, q.2.1, q.2.2).2.1 = q.2.1 := rfl; rw [this] at htl; omega
  refine wps_loop (fun st => ex fun i : Nat => pr (st = (i : Int) ∧ i ≤ q.2.1.toNat ∧ (List.range i).any (lackB q m R seg slot seq) = false) * bnk yb mb q m * refQ mb R l1 l2 l3 l4 * own 2 t (sv ((List.range q.2.1.toNat).map fun r : Nat => slotSp q seg r slot))) (fun st => (q.2.1.toNat - st).toNat) ?_ fun st => ?_
  · refine ent_ex 0 ?_
    refine ent_pickS (by rfl) ?_
    repeat first | (with_reducible refine ent_pick ?_) | (refine ent_prq ?_)
    all_goals first | exact ⟨rfl, by omega, rfl⟩ | trivial
  refine wps_ex fun i => wps_prP fun ⟨hi, hin, hno⟩ => ?_
  refine wps_ite (fun hc => ?_) (fun hc => ?_)
  rotate_left
  · have hie : i = q.2.1.toNat := by
      have : ¬ (st < ((t.len : Nat) : Int)) := fun h => hc (decide_eq_true h)
      omega
    subst hie
    rw [hno]
    refine wps_mapR (wps_pure ?_)
    show Ent _ (pr ((false, (0 : Int)) = (false, 0)) * _ * _)
    repeat first | (with_reducible refine ent_pick ?_) | (refine ent_prq ?_)
    all_goals first | rfl | trivial
  have hlt : i < q.2.1.toNat := by have := of_decide_eq_true hc; omega
  have hget : ((List.range q.2.1.toNat).map fun r : Nat => slotSp q seg r slot)[i]? = some (slotSp q seg i slot) := by rw [List.getElem?_map, List.getElem?_range hlt]; rfl
  refine wps_rdA i (slotSp q seg i slot) (Ent.trans (ent_right _ _) (own_rsl _ _ _)) hi (by simp) (fun o v ho => sv_get2 hget o v ho) ?_
  refine wps_call2 (fun _ => ref07_good_spec yb mb q m R hby l1 l2 l3 l4 (slotSp q seg i slot) seq) fun x => ?_
  simp only [← star_assoc]
  refine wps_prP fun hx => ?_
  rw [hx]
  cases hgd : (goodV q m R (slotSp q seg i slot) seq).2
  · have hlk : lackB q m R seg slot seq i = true := by unfold lackB; rw [hgd]; rfl
    refine wps_ite (fun _ => wps_mapR (wps_pure ?_)) (fun h => absurd rfl h)
    show Ent _ (pr ((true, (0 : Int)) = _) * _ * _)
    refine ent_pick (ent_pick (ent_prq ?_))
    rw [any_true hlt hlk]
  · have hlk : lackB q m R seg slot seq i = false := by unfold lackB; rw [hgd]; rfl
    refine wps_ite (fun h => absurd h (by decide)) (fun _ => wps_pure ?_)
    refine ent_prr (by rw [range_add1 hi (by omega)]; omega) (ent_ex (i + 1) ?_)
    repeat first | (with_reducible refine ent_pick ?_) | (refine ent_prq ?_)
    all_goals first | exact ⟨range_add1 hi (by omega), by omega, any_succ hno hlk⟩ | trivial
theorem wps_rdAt {α : Type} {R H : HP} {k : Int → M α} {Q : α → HP} {s : Slc} {i : Int} {l : List (Int × Int)} {sp : Int × Int} (n : Nat) (hp : Ent R (rsl 2 s (sv l))) (hR : Ent H R) (hi : i = (n : Int)) (hv : l[n]? = some sp) (h : wps g H (k sp.2) Q) :
    wps g H (bindM (idxM s i 2) fun a => bindM (ldI (Iv g R) (Value.int .i64) (Addr.add a 1)) k) Q := fun w a Qf ho ha hq => by
  subst hi
  have h0 := sv_get2 hv 0 _ rfl
  have h1 := sv_get2 hv 1 _ rfl
  obtain ⟨hlt, b, off, hb, _⟩ := rd_rslZ (n := n) (j := 0) hp ho (hR a ha) (by omega) h0
  refine ⟨⟨b, off, none⟩, hb, by omega, by omega, sp.2, fun w' ⟨a', ho', ha'⟩ => ?_, h w a Qf ho ha hq⟩
  obtain ⟨_, b', off', hb', hc'⟩ := rd_rslZ (n := n) (j := 1) hp ho' ha' (by omega) h1
  rw [hb] at hb'; cases hb'
  rw [Addr.add_mk, Addr.add_mk]
  simpa [Nat.add_assoc] using hc'
theorem wps_rdI0 {α : Type} {R H : HP} {k : Int → M α} {Q : α → HP} {s : Slc} {i : Int} {l : List (Int × Int)} {sp : Int × Int} (n : Nat) (hp : Ent R (rsl 2 s (sv l))) (hR : Ent H R) (hi : i = (n : Int)) (hv : l[n]? = some sp) (h : wps g H (k sp.1) Q) :
    wps g H (bindM (idxM s i 2) fun a => bindM (ldI (Iv g R) (Value.int .i64) a) k) Q := fun w a Qf ho ha hq => by
  subst hi
  have h0 := sv_get2 hv 0 _ rfl
  obtain ⟨hlt, b, off, hb, _⟩ := rd_rslZ (n := n) (j := 0) hp ho (hR a ha) (by omega) h0
  refine ⟨⟨b, off, none⟩, hb, by omega, by omega, sp.1, fun w' ⟨a', ho', ha'⟩ => ?_, h w a Qf ho ha hq⟩
  obtain ⟨_, b', off', hb', hc'⟩ := rd_rslZ (n := n) (j := 0) hp ho' ha' (by omega) h0
  rw [hb] at hb'; cases hb'
  rw [Addr.add_mk]
  simpa using hc'
theorem ref07_Refill_spec (yb mb : Nat) (q m : G3) (hq : RightB q = true) (R : Rk) (hby : R.bys) (l1 l2 l3 l4 : Slc) (seg slot seq : Int) :
    wps g (bnk yb mb q m * refQ mb R l1 l2 l3 l4) (ref07_Refill (ptr yb) seg slot seq) (fun x => pr (x = (sRefill q m R seg slot seq).2) * bnk yb mb q m * refQ mb (sRefill q m R seg slot seq).1 l1 l2 l3 l4) := by
  unfold ref07_Refill
  have hb := RightB.bnd hq
  have b1 := hb.d3
  have b2 := hb.d16
  have b4 := hb.r4
  refine wps_bind (ref07_Missing_spec yb mb q m hq R hby l1 l2 l3 l4 seg slot seq) fun x => ?_
  refine wps_prP fun hx => ?_
  rw [hx]
  by_cases ht : slottedE q R seg slot = 0
  rotate_left
  · have hsw : sRefill q m R seg slot seq = (R, slottedE q R seg slot) := if_pos ht
    have hsm : sMissing q m R seg slot seq = (false, slottedE q R seg slot) := if_pos ht
    rw [hsw, hsm]
    refine wps_ite (fun _ => wps_pure ?_) (fun h => absurd (by simpa using ht) h)
    repeat first | (with_reducible refine ent_pick ?_) | (refine ent_prq ?_)
    all_goals first | rfl | trivial
  obtain ⟨hsl, hse⟩ := slotted_in ht
  have hsm : (sMissing q m R seg slot seq).2 = 0 := by unfold sMissing; rw [if_neg (by simp [ht])]
  have hsw : sRefill q m R seg slot seq = refL q m seg slot seq (List.range q.2.1.toNat) R := by unfold sRefill; rw [if_neg (by simp [ht])]
  rw [hsm, hsw]
  refine wps_ite (fun h => absurd h (by decide)) (fun _ => ?_)
  refine wps_nil ?_
  refine wps_ldG q.1 q.2.1 q.2.2 (by rfl) ?_
  refine wps_bind (ref07_in_spec (q.1, q.2.1, q.2.2) seg slot ⟨hq, hse.1, hse.2⟩ hsl) fun t => ?_
  refine wps_fact (Ent.trans (ent_right _ _) (own_len _ _ _)) fun ⟨htl, _⟩ => ?_
  rw [sv_len, List.length_map, List.length_range] at htl
  have htl' : t.len = q.2.1.toNat := by have : (q.1, q.2.1, q.2.2).2.1 = q.2.1 := rfl; rw [this] at htl; omega
  generalize hfin : refL q m seg slot seq (List.range q.2.1.toNat) R = fin
  refine wps_loop (fun st => ex fun i : Nat => ex fun R1 : Rk => pr (st = (i : Int) ∧ i ≤ q.2.1.toNat ∧ R1.bys ∧ refL q m seg slot seq ((List.range q.2.1.toNat).drop i) R1 = fin) * bnk yb mb q m * refQ mb R1 l1 l2 l3 l4 * own 2 t (sv ((List.range q.2.1.toNat).map fun r : Nat => slotSp q seg r slot))) (fun st => (q.2.1.toNat - st).toNat) ?_ fun st => ?_
  · refine ent_ex 0 (ent_ex R ?_)
    refine ent_pickS (by rfl) ?_
    repeat first | (with_reducible refine ent_pick ?_) | (refine ent_prq ?_)
    all_goals first | exact ⟨rfl, by omega, hby, hfin⟩ | trivial
  refine wps_ex fun i => wps_ex fun R1 => wps_prP fun ⟨hi, hin, hby1, hR⟩ => ?_
  refine wps_ite (fun hc => ?_) (fun hc => ?_)
  rotate_left
  · have hie : i = q.2.1.toNat := by
      have : ¬ (st < ((t.len : Nat) : Int)) := fun h => hc (decide_eq_true h)
      omega
    subst hie
    rw [List.drop_of_length_le (by simp), refL] at hR
    subst hR
    refine wps_mapR (wps_pure ?_)
    show Ent _ (pr ((0 : Int) = 0) * _ * _)
    repeat first | (with_reducible refine ent_pick ?_) | (refine ent_prq ?_)
    all_goals first | rfl | trivial
  have hlt : i < q.2.1.toNat := by have := of_decide_eq_true hc; omega
  have hget : ((List.range q.2.1.toNat).map fun r : Nat => slotSp q seg r slot)[i]? = some (slotSp q seg i slot) := by rw [List.getElem?_map, List.getElem?_range hlt]; rfl
  rw [drop_range hlt, refL] at hR
  have hlk : lackB q m R1 seg slot seq i = !(goodV q m R1 (slotSp q seg i slot) seq).2 := rfl
  generalize slotSp q seg i slot = sp at *
  refine wps_rdA i sp (Ent.trans (ent_right _ _) (own_rsl _ _ _)) hi (by simp) (fun o v ho => sv_get2 hget o v ho) ?_
  refine wps_call2 (fun _ => ref07_good_spec yb mb q m R1 hby1 l1 l2 l3 l4 sp seq) fun x => ?_
  simp only [← star_assoc]
  refine wps_prP fun hx => ?_
  rw [hx]
  cases hgd : (goodV q m R1 sp seq).2
  rotate_left
  · rw [hgd] at hlk
    rw [hlk, if_neg (by decide)] at hR
    refine wps_ite (fun _ => wps_pure ?_) (fun h => absurd rfl h)
    refine ent_prr (by rw [range_add1 hi (by omega)]; omega) (ent_ex (i + 1) (ent_ex R1 ?_))
    repeat first | (with_reducible refine ent_pick ?_) | (refine ent_prq ?_)
    all_goals first | exact ⟨range_add1 hi (by omega), by omega, hby1, hR⟩ | trivial
  rw [hgd] at hlk
  rw [hlk, if_pos (by decide)] at hR
  refine wps_ite (fun h => absurd h (by decide)) (fun _ => ?_)
  refine wps_rdA i sp (Ent.trans (ent_pick1 (A := own 2 t (sv ((List.range q.2.1.toNat).map fun r : Nat => slotSp q seg r slot)))) (own_rsl _ _ _)) hi (by simp) (fun o v ho => sv_get2 hget o v ho) ?_
  rw [hi]
  refine wps_call2 (fun _ => ref07_others_spec yb mb q m R1 hby1 l1 l2 l3 l4 seg ⟨hq, hse.1, hse.2⟩ i (by omega) sp seq) fun y => ?_
  have hob := othV_byts (q := q) (m := m) hby1 sp seq (spotsL q seg i)
  generalize othV q m R1 sp seq (spotsL q seg i) = o at *
  simp only [← star_assoc]
  refine wps_prP fun hy => ?_
  rw [hy]
  cases ho : o.2
  · rw [ho, if_pos rfl] at hR
    subst hR
    refine wps_ite (fun _ => wps_mapR (wps_pure ?_)) (fun h => absurd rfl h)
    show Ent _ (pr ((14 : Int) = 14) * _ * _)
    repeat first | (with_reducible refine ent_pick ?_) | (refine ent_prq ?_)
    all_goals first | rfl | trivial
  rw [ho, if_neg (by decide)] at hR
  refine wps_ite (fun h => absurd h (by decide)) (fun _ => ?_)
  refine wps_regionH ?_
  refine wps_rdI0 i (Ent.trans (ent_pick1 (A := own 2 t (sv ((List.range q.2.1.toNat).map fun r : Nat => slotSp q seg r slot)))) (own_rsl _ _ _)) (Ent.refl _) rfl hget ?_
  refine wps_rdAt i (Ent.trans (ent_pick1 (A := own 2 t (sv ((List.range q.2.1.toNat).map fun r : Nat => slotSp q seg r slot)))) (own_rsl _ _ _)) (Ent.refl _) rfl hget ?_
  refine wps_call3 (fun _ => ref06_Write_spec (H := own 1 y.1 (bv o.1)) yb mb q m R1 l1 l2 l3 l4 sp.1 sp.2 y.1 o.1 (own_rsl _ _ _) (by have := hob.2; omega)) fun e => ?_
  simp only [← star_assoc]
  refine wps_prP fun he => ?_
  have he' : e = bgate q m R1 sp o.1 := he
  have hbw : (if (slotV q m sp.1).2 = true then R1.write (slotV q m sp.1).1 sp.2 o.1 else R1) = bwrite q m R1 sp o.1 := rfl
  rw [hbw, he']
  by_cases h0 : bgate q m R1 sp o.1 = 0
  · rw [if_neg (by simp [h0])] at hR
    refine wps_ite (fun h => absurd h (by simp [h0])) (fun _ => wps_pure ?_)
    refine ent_prr (by rw [range_add1 rfl (by omega)]; omega) (ent_ex (i + 1) (ent_ex (bwrite q m R1 sp o.1) ?_))
    repeat first | (with_reducible refine ent_pick ?_) | (refine ent_prq ?_)
    all_goals first | exact ⟨range_add1 rfl (by omega), by omega, bwrite_bys hby1 _ hob.1, hR⟩ | trivial
  · rw [if_pos h0] at hR
    subst hR
    refine wps_ite (fun _ => wps_mapR (wps_pure ?_)) (fun h => absurd (by simpa using h0) h)
    show Ent _ (pr (_ = _) * _ * _)
    repeat first | (with_reducible refine ent_pick ?_) | (refine ent_prq ?_)
    all_goals first | rfl | trivial
def whR (q m : G3) (R : Rk) (b0 : Option Int) : List (Int × Int) → Int → Option Int
  | [], s => some s
  | sp :: ss, s => if b0 = some sp.1 then whR q m R b0 ss s else if brdE q m R sp ≠ 0 ∨ (s ≥ 0 ∧ (headOf (brd q m R sp)).1 ≠ s) then none else whR q m R b0 ss (headOf (brd q m R sp)).1
theorem head_nn {b : List Int} (h : Byts b) : 0 ≤ (headOf b).1 := by
  unfold headOf
  split
  · show 0 ≤ getB b 0 4
    unfold getB
    exact (getL_rng ((h.drop 0).take 4)).1
  · exact Int.le_refl 0
theorem whR_pos {q m : G3} {R : Rk} {bad : List Int} {b0 : Option Int} (hb : ∀ i, i ∈ bad ↔ b0 = some i) : ∀ (ss : List (Int × Int)) (s : Int), 1 ≤ s → whR q m R b0 ss s = whL q m R bad ss s
  | [], s, _ => rfl
  | sp :: ss, s, hs => by
    rw [whR, whL]
    by_cases hm : sp.1 ∈ bad
    · rw [if_pos ((hb _).1 hm), if_pos hm, whR_pos hb ss s hs]
    · rw [if_neg (fun h => hm ((hb _).2 h)), if_neg hm]
      by_cases hc : brdE q m R sp ≠ 0 ∨ (s ≥ 0 ∧ (headOf (brd q m R sp)).1 ≠ s)
      · rw [if_pos hc, if_pos]
        rcases hc with hc | hc
        · exact .inl hc
        · exact .inr (.inr ⟨by omega, hc.2⟩)
      · have h1 : brdE q m R sp = 0 := Classical.byContradiction fun h => hc (.inl h)
        have h2 : (headOf (brd q m R sp)).1 = s := Classical.byContradiction fun h => hc (.inr ⟨by omega, h⟩)
        rw [if_neg hc, if_neg (by rintro (h | h | h) <;> omega), h2, whR_pos hb ss s hs]
theorem whR_zero {q m : G3} {R : Rk} {b0 : Option Int} : ∀ (ss : List (Int × Int)), whR q m R b0 ss 0 = none ∨ whR q m R b0 ss 0 = some 0
  | [] => .inr rfl
  | sp :: ss => by
    rw [whR]
    split
    · exact whR_zero ss
    · split
      · exact .inl rfl
      · rename_i hc
        have h2 : (headOf (brd q m R sp)).1 = 0 := Classical.byContradiction fun h => hc (.inr ⟨by omega, h⟩)
        rw [h2]; exact whR_zero ss
def whEnd (s : Option Int) : Int × Bool × Int := match s with | some s => if s < 1 then (0, false, 0) else (s, true, 0) | none => (0, false, 0)
def whEndL (s : Option Int) : Int × Bool × Int := match s with | some s => (s, true, 0) | none => (0, false, 0)
theorem whL_ge {q m : G3} {R : Rk} {bad : List Int} : ∀ (ss : List (Int × Int)) (s t : Int), 1 ≤ s → whL q m R bad ss s = some t → t = s
  | [], s, t, _, h => by simpa [whL] using h.symm
  | sp :: ss, s, t, hs, h => by
    rw [whL] at h
    split at h
    · exact whL_ge ss s t hs h
    · split at h
      · cases h
      · rename_i hc
        have h2 : (headOf (brd q m R sp)).1 = s := Classical.byContradiction fun h => hc (.inr (.inr ⟨by omega, h⟩))
        rw [h2] at h
        exact whL_ge ss s t hs h
theorem whR_start {q m : G3} {R : Rk} (hby : R.bys) {bad : List Int} {b0 : Option Int} (hb : ∀ i, i ∈ bad ↔ b0 = some i) : ∀ (ss : List (Int × Int)), (∃ sp ∈ ss, sp.1 ∉ bad) → whEnd (whR q m R b0 ss (-1)) = whEndL (whL q m R bad ss 0)
  | [], h => by simp at h
  | sp :: ss, h => by
    rw [whR, whL]
    by_cases hm : sp.1 ∈ bad
    · rw [if_pos ((hb _).1 hm), if_pos hm]
      obtain ⟨sp', hm', hn'⟩ := h
      rcases List.mem_cons.1 hm' with rfl | hm'
      · exact absurd hm hn'
      · exact whR_start hby hb ss ⟨sp', hm', hn'⟩
    · rw [if_neg (fun h => hm ((hb _).2 h)), if_neg hm]
      have hnn := head_nn (brd_byts (q := q) (m := m) hby sp)
      by_cases hE : brdE q m R sp = 0
      rotate_left
      · rw [if_pos (.inl hE), if_pos (.inl hE)]; rfl
      rw [if_neg (by rintro (h | h) <;> omega)]
      by_cases h0 : (headOf (brd q m R sp)).1 = 0
      · rw [if_pos (.inr (.inl h0)), h0]
        rcases whR_zero (q := q) (m := m) (R := R) (b0 := b0) ss with e | e <;> rw [e] <;> rfl
      · rw [if_neg (by rintro (h | h | h) <;> omega), whR_pos hb ss _ (by omega)]
        cases hw : whL q m R bad ss (headOf (brd q m R sp)).1 with
        | none => rfl
        | some t =>
          have := whL_ge ss _ t (by omega) hw
          show (if t < 1 then _ else _) = _
          rw [if_neg (by omega)]; rfl
theorem allS_flat {q : G3} {seg : Int} (h1 : 3 ≤ q.1) : allS q seg 0 = (List.range (q.2.1.toNat * q.1.toNat)).map (spotAt q seg) := by
  unfold allS
  rw [List.drop_zero]
  have := flat_rc (D := q.1.toNat) (by omega) (fun r i => (spotsL q seg r).getD i (0, 0)) q.2.1.toNat
  refine Eq.trans ?_ this
  congr 1
  funext r
  have hl := spotsL_len q seg r h1
  apply List.ext_getElem?
  intro c
  by_cases hc : c < q.1.toNat
  · rw [List.getElem?_map, List.getElem?_range hc, List.getElem?_eq_getElem (show c < (spotsL q seg r).length by omega)]
    simp [List.getD_eq_getElem?_getD, List.getElem?_eq_getElem (show c < (spotsL q seg r).length by omega)]
  · rw [List.getElem?_eq_none (by omega), List.getElem?_eq_none (by simp; omega)]
theorem two_slots {q m : G3} {R : Rk} {seg : Int} (h1 : 3 ≤ q.1) (hr : 1 ≤ q.2.1) (hb : (badL q m R).length ≤ 1) : ∃ sp ∈ allS q seg 0, sp.1 ∉ badI q m R := by
  obtain ⟨s0, m0, e0⟩ := slot_mem (q := q) (seg := seg) (r := 0) (slot := 0) h1 (by omega)
  obtain ⟨s1, m1, e1⟩ := slot_mem (q := q) (seg := seg) (r := 0) (slot := 1) h1 (by omega)
  have hin : ∀ s ∈ spotsL q seg ((0 : Nat) : Int).toNat, s ∈ allS q seg 0 := fun s hs => by
    rw [allS_step (by omega)]
    exact List.mem_append_left _ hs
  have hb2 : (badI q m R).length ≤ 1 := by simpa [badI] using hb
  by_cases h : (0 : Int) ∈ badI q m R
  · refine ⟨s1, hin s1 m1, fun h' => ?_⟩
    rw [e1] at h'
    match hL : badI q m R, hb2 with
    | [], _ => rw [hL] at h; simp at h
    | [a], _ =>
      rw [hL] at h h'
      simp at h h'
      omega
  · exact ⟨s0, hin s0 m0, by rw [e0]; exact h⟩
theorem ref07_Whole_spec (yb mb : Nat) (q m : G3) (hq : RightB q = true) (R : Rk) (hby : R.bys) (l1 l2 l3 l4 : Slc) (seg : Int) :
    wps g (bnk yb mb q m * refQ mb R l1 l2 l3 l4) (ref07_Whole (ptr yb) seg) (fun x => pr (x = sWhole q m R seg) * bnk yb mb q m * refQ mb R l1 l2 l3 l4) := by
  unfold ref07_Whole
  simp only [Addr.add_add, Nat.reduceAdd]
  have hb := RightB.bnd hq
  have b1 := hb.d3
  have b2 := hb.d16
  have b3 := hb.r1
  have b4 := hb.r4
  refine wps_fact (Ent.trans (ent_right _ _) refQ_good) fun hg => ?_
  refine wps_val (v := decide (¬ (0 ≤ seg ∧ seg < q.2.2))) ?_ ?_
  · refine wps_ite (fun h => wps_pure (ent_prr ?_ (Ent.refl _))) (fun h => ?_)
    · have := of_decide_eq_true h
      exact (decide_eq_true (by omega)).symm
    · have h' : ¬ seg < 0 := fun h2 => h (decide_eq_true h2)
      refine wps_nil ?_
      refine wps_ld q.2.2 (by rfl) (wps_pure (ent_prr ?_ (Ent.refl _)))
      exact decide_eq_decide.2 (by omega)
  by_cases hse : 0 ≤ seg ∧ seg < q.2.2
  rotate_left
  · have hsw : sWhole q m R seg = (0, false, 28) := by
      have ht : thereE q R seg = 28 := by unfold thereE; rw [if_pos hse]
      unfold sWhole; rw [ht]; rfl
    rw [hsw]
    refine wps_ite (fun _ => wps_pure ?_) (fun h => absurd (decide_eq_true hse) h)
    repeat first | (with_reducible refine ent_pick ?_) | (refine ent_prq ?_)
    all_goals first | rfl | trivial
  refine wps_ite (fun h => absurd hse (of_decide_eq_true h)) (fun _ => ?_)
  refine wps_nil ?_
  refine wps_ld (ptr mb) (by rfl) ?_
  refine wps_nil ?_
  refine wps_offQ (mb := mb) (R := R) (l1 := l1) (l2 := l2) (l3 := l3) (l4 := l4) ?_
  by_cases ho : R.off = true
  · have hsw : sWhole q m R seg = (0, false, 12) := by
      have ht : thereE q R seg = 12 := by unfold thereE; rw [if_neg (by simpa using hse), if_pos ho]
      unfold sWhole; rw [ht]; rfl
    rw [hsw, ho]
    refine wps_ite (fun _ => wps_pure ?_) (fun h => absurd rfl h)
    repeat first | (with_reducible refine ent_pick ?_) | (refine ent_prq ?_)
    all_goals first | rfl | trivial
  have hof : R.off = false := by simpa using ho
  rw [hof]
  refine wps_ite (fun h => absurd h (by decide)) (fun _ => ?_)
  refine wps_call2 (fun _ => ref06_Bad_spec yb mb q m b2 R l1 l2 l3 l4) fun bd => ?_
  simp only [← star_assoc]
  refine wps_fact (Ent.trans (ent_pick1 (A := own 1 bd (iv (badL q m R)))) (own_len _ _ _)) fun ⟨hbl, _⟩ => ?_
  have hbl' : (badL q m R).length = bd.len := by simpa [iv] using hbl
  have hRD : ((q.2.1.toNat * q.1.toNat : Nat) : Int) = q.2.1 * q.1 := by rw [Int.natCast_mul]; congr 1 <;> omega
  have h64 : q.2.1 * q.1 ≤ 4 * 16 := Int.mul_le_mul b4 b2 (by omega) (by omega)
  obtain ⟨b0, hb0⟩ : ∃ b0 : Option Int, b0 = (badI q m R)[0]? := ⟨_, rfl⟩
  have hsw : sWhole q m R seg = if 1 < (badL q m R).length then (0, false, 0) else whEnd (whR q m R b0 (allS q seg 0) (-1)) := by
    have ht : thereE q R seg = 0 := by unfold thereE; rw [if_neg (by simpa using hse), if_neg ho]
    unfold sWhole
    rw [if_neg (fun h => h ht)]
    by_cases h1 : 1 < (badL q m R).length
    · rw [if_pos h1, if_pos h1]
    · rw [if_neg h1, if_neg h1]
      have hbb : ∀ i, i ∈ badI q m R ↔ b0 = some i := fun i => by
        have hb2 : (badI q m R).length ≤ 1 := by simp only [badI, List.length_map]; omega
        rw [hb0]
        match hL : badI q m R, hb2 with
        | [], _ => simp
        | [a], _ => simp [eq_comm]
      rw [whR_start hby hbb _ (two_slots b1 b3 (by omega))]
      rfl
  rw [allS_flat b1] at hsw
  have hN : (List.range (q.2.1.toNat * q.1.toNat)).length = q.2.1.toNat * q.1.toNat := by simp
  generalize hN0 : q.2.1.toNat * q.1.toNat = N at *
  generalize hW : whR q m R b0 ((List.range N).map (spotAt q seg)) (-1) = wr at *
  refine wps_loop (fun st => ex fun i : Nat => pr (st.2 = (i : Int) ∧ i ≤ N ∧ whR q m R b0 (((List.range N).drop i).map (spotAt q seg)) st.1 = wr) * bnk yb mb q m * refQ mb R l1 l2 l3 l4 * own 1 bd (iv (badL q m R))) (fun st => (N - st.2).toNat) ?_ fun st => ?_
  · refine ent_ex 0 ?_
    repeat first | (with_reducible refine ent_pick ?_) | (refine ent_prq ?_)
    all_goals first | exact ⟨rfl, by omega, hW⟩ | trivial
  refine wps_ex fun i => wps_prP fun ⟨hi, hin, hw⟩ => ?_
  refine wps_regionH ?_
  refine wps_nil ?_
  refine wps_ldI q.2.1 (by rfl) ?_
  refine wps_nil ?_
  refine wps_ldI q.1 (by rfl) ?_
  rw [w64_id (n := q.2.1 * q.1) (by omega) (by omega)]
  refine wps_ite (fun hc => ?_) (fun hc => ?_)
  rotate_left
  · have hie : i = N := by
      have : ¬ (st.2 < q.2.1 * q.1) := fun h => hc (decide_eq_true h)
      omega
    rw [hie, List.drop_of_length_le (by omega), List.map_nil, whR] at hw
    rw [← hw] at hsw
    refine wps_mapR ?_
    refine wps_val (v := decide (1 < (badL q m R).length ∨ st.1 < 1)) ?_ ?_
    · rw [show decide (1 < (badL q m R).length ∨ st.1 < 1) = decide ((((bd.len : Nat) : Int) > 1) ∨ st.1 < 1) from decide_eq_decide.2 (by omega)]
      exact val_or
    by_cases h1 : 1 < (badL q m R).length ∨ st.1 < 1
    · have hsw2 : sWhole q m R seg = (0, false, 0) := by
        rw [hsw]
        by_cases h2 : 1 < (badL q m R).length
        · rw [if_pos h2]
        · rw [if_neg h2]
          show (if st.1 < 1 then _ else _) = _
          rw [if_pos (by omega)]
      rw [hsw2]
      refine wps_ite (fun _ => wps_pure ?_) (fun h => absurd (decide_eq_true h1) h)
      show Ent _ (pr ((0, false, (0 : Int)) = _) * _ * _)
      repeat first | (with_reducible refine ent_pick ?_) | (refine ent_prq ?_)
      all_goals first | rfl | trivial
    · have hsw2 : sWhole q m R seg = (st.1, true, 0) := by
        rw [hsw, if_neg (fun h => h1 (.inl h))]
        show (if st.1 < 1 then _ else _) = _
        rw [if_neg (fun h => h1 (.inr h))]
      rw [hsw2]
      refine wps_ite (fun h => absurd (of_decide_eq_true h) h1) (fun _ => wps_pure ?_)
      show Ent _ (pr ((st.1, true, (0 : Int)) = _) * _ * _)
      repeat first | (with_reducible refine ent_pick ?_) | (refine ent_prq ?_)
      all_goals first | rfl | trivial
  have hlt : i < N := by have := of_decide_eq_true hc; omega
  rw [drop_range hlt, List.map_cons, whR] at hw
  refine wps_nil ?_
  refine wps_ldG q.1 q.2.1 q.2.2 (by rfl) ?_
  rw [hi]
  refine wps_val (ref07_spot_val (q.1, q.2.1, q.2.2) seg ⟨hq, hse.1, hse.2⟩ i (by show (i : Int) < q.2.1 * q.1; omega)) ?_
  rw [show spotAt (q.1, q.2.1, q.2.2) seg i = spotAt q seg i from rfl]
  generalize spotAt q seg i = sp at *
  refine wps_alloc fun x10 => ?_
  refine wps_stA (by simp) (by simp [Value.oneCell']) ?_
  refine wps_bindV (u := decide (b0 = some sp.1)) ?_ ?_
  · refine wps_regionH ?_
    refine wps_ite (fun h => ?_) (fun h => wps_pure (ent_prr ?_ (Ent.refl _)))
    · have h0 : 0 < (badL q m R).length := by have := of_decide_eq_true h; omega
      have hg0 : (badI q m R)[0]? = some (((badL q m R)[0] : Nat) : Int) := by simp [badI, List.getElem?_eq_getElem h0]
      refine wps_rdI 0 (((badL q m R)[0] : Nat) : Int) (Ent.trans (ent_pick1 (A := own 1 bd (iv (badL q m R)))) (own_rsl _ _ _)) (Ent.refl _) rfl (by simp [iv, List.getElem?_eq_getElem h0]) ?_
      refine wps_ldI sp.1 (by rfl) (wps_pure (ent_prr ?_ (Ent.refl _)))
      rw [hb0, hg0]
      by_cases he : (((badL q m R)[0] : Nat) : Int) = sp.1 <;> simp [he]
    · have h0 : (badL q m R).length = 0 := by
        have : ¬ (((bd.len : Nat) : Int) > 0) := fun h2 => h (decide_eq_true h2)
        omega
      have hg0 : (badI q m R)[0]? = none := by
        rw [List.getElem?_eq_none]; simp [badI, h0]
      rw [hb0, hg0]
      simp
  by_cases hbs : b0 = some sp.1
  · rw [if_pos hbs] at hw
    refine wps_ite (fun _ => wps_pure ?_) (fun h => absurd (decide_eq_true hbs) h)
    refine ent_prr (by dsimp only; rw [range_add1 rfl (by omega)]; omega) (ent_ex (i + 1) ?_)
    repeat first | (with_reducible refine ent_pick ?_) | (refine ent_prq ?_)
    all_goals first | exact ⟨range_add1 rfl (by omega), by omega, hw⟩ | trivial
  rw [if_neg hbs] at hw
  refine wps_ite (fun h => absurd (of_decide_eq_true h) hbs) (fun _ => ?_)
  refine wps_ld sp.1 (by rfl) ?_
  refine wps_ld sp.2 (by rfl) ?_
  refine wps_call2 (fun _ => ref06_Read_spec yb mb q m R l1 l2 l3 l4 sp.1 sp.2) fun y => ?_
  simp only [← star_assoc]
  refine wps_prP fun hy => ?_
  have hy' : y.2 = brdE q m R sp := hy
  have hbr : (if (slotV q m sp.1).2 = true then R.rd (slotV q m sp.1).1 sp.2 else []) = brd q m R sp := rfl
  rw [hbr]
  refine wps_bind (ref04_Decode_spec (s := y.1) (b := brd q m R sp) (Ent.trans (ent_pick1 (A := own 1 y.1 (bv (brd q m R sp)))) (own_rsl _ _ _)) (brd_byts hby sp) (by have := brd_len (q := q) (m := m) hg sp; omega)) fun z => ?_
  simp only [← star_assoc]
  refine wps_prP fun hz => ?_
  rw [hz]
  generalize headOf (brd q m R sp) = hd at *
  refine wps_alloc fun x13 => ?_
  refine wps_stA (by simp) (by simp [Value.oneCell']) ?_
  rw [hy']
  refine wps_val (v := decide (brdE q m R sp ≠ 0 ∨ (st.1 ≥ 0 ∧ hd.1 ≠ st.1))) ?_ ?_
  · refine wps_ite (fun h => wps_pure (ent_prr ?_ (Ent.refl _))) (fun h => ?_)
    · have h' : brdE q m R sp ≠ 0 := by simpa using h
      exact (decide_eq_true (.inl h')).symm
    · have h' : brdE q m R sp = 0 := by simpa using h
      refine wps_val (v := decide (st.1 ≥ 0 ∧ hd.1 ≠ st.1)) ?_ (wps_pure (ent_prr ?_ (Ent.refl _)))
      · refine wps_ite (fun h1 => ?_) (fun h1 => wps_pure (ent_prr ?_ (Ent.refl _)))
        · refine wps_ld hd.1 (by rfl) (wps_pure (ent_prr ?_ (Ent.refl _)))
          have h1' : st.1 ≥ 0 := of_decide_eq_true h1
          by_cases he : hd.1 = st.1 <;> simp [h1', he]
        · have h1' : ¬ st.1 ≥ 0 := fun h2 => h1 (decide_eq_true h2)
          exact (decide_eq_false (fun h2 => h1' h2.1)).symm
      · exact decide_eq_decide.2 ⟨.inr, fun h2 => h2.elim (fun h3 => absurd h' h3) id⟩
  by_cases hcond : brdE q m R sp ≠ 0 ∨ (st.1 ≥ 0 ∧ hd.1 ≠ st.1)
  · rw [if_pos hcond] at hw
    rw [← hw] at hsw
    have hsw2 : sWhole q m R seg = (0, false, 0) := by
      rw [hsw]
      split <;> rfl
    rw [hsw2]
    refine wps_ite (fun _ => wps_mapR (wps_pure ?_)) (fun h => absurd (decide_eq_true hcond) h)
    show Ent _ (pr ((0, false, (0 : Int)) = _) * _ * _)
    repeat first | (with_reducible refine ent_pick ?_) | (refine ent_prq ?_)
    all_goals first | rfl | trivial
  · rw [if_neg hcond] at hw
    refine wps_ite (fun h => absurd (of_decide_eq_true h) hcond) (fun _ => ?_)
    refine wps_ld hd.1 (by rfl) (wps_pure ?_)
    refine ent_prr (by dsimp only; rw [range_add1 rfl (by omega)]; omega) (ent_ex (i + 1) ?_)
    repeat first | (with_reducible refine ent_pick ?_) | (refine ent_prq ?_)
    all_goals first | exact ⟨range_add1 rfl (by omega), by omega, hw⟩ | trivial
end Go.Proofs.Ytldmeimebebllaa
namespace Go.Proofs.Ytldmeimebebllaa
open Go.Mo
set_option linter.unusedVariables false
variable {g : Fr} {cv : CV}
def Quiet (R : Rk) (j : Nat) (f : Nat → List Int) : Prop := (∀ s, (R.dk j).cached s = none) ∧ ∀ s : Nat, (R.dk j).lasts s = f s
theorem Quiet.ticked {R : Rk} {j : Nat} {f : Nat → List Int} (h : Quiet R j f) : Quiet R.ticked j f := by
  unfold Rk.ticked
  split
  · exact h
  · exact h
theorem Quiet.gated {R : Rk} {j : Nat} {f : Nat → List Int} (h : Quiet R j f) (k s size : Int) : Quiet (R.gated k s size) j f := by
  unfold Rk.gated
  split
  · exact h
  · exact h.ticked
theorem Quiet.flush {R : Rk} {j : Nat} {f : Nat → List Int} (h : Quiet R j f) (k : Int) : Quiet (R.flush k) j f := by
  have hg := h.gated k 0 64
  unfold Rk.flush
  split
  · by_cases hj : j = k.toNat
    · subst hj
      refine ⟨fun s => ?_, fun s => ?_⟩
      · simp [Rk.setD, Dk.clean]
      · simp [Rk.setD, Dk.clean, Dk.flushed, hg.1, hg.2]
    · refine ⟨fun s => ?_, fun s => ?_⟩
      · simp only [Rk.setD, if_neg hj]; exact hg.1 s
      · simp only [Rk.setD, if_neg hj]; exact hg.2 s
  · exact hg
theorem Quiet.flushL {j : Nat} {f : Nat → List Int} : ∀ (xs : List Int) {R : Rk}, Quiet R j f → Quiet (flushL xs R).1 j f
  | [], _, h => h
  | d :: xs, R, h => by
    unfold Proofs.Ytldmeimebebllaa.flushL
    split
    · exact h.flush d
    · exact Quiet.flushL xs (h.flush d)
theorem Quiet.doom {R : Rk} {j : Nat} {f : Nat → List Int} (h : Quiet R j f) (k c : Int) : Quiet (R.doom k c) j f := by
  unfold Rk.doom
  split
  · exact h
  · by_cases hj : j = k.toNat
    · subst hj
      refine ⟨fun s => ?_, fun s => ?_⟩
      · simp [Rk.setD, h.1]
      · simp [Rk.setD, h.2]
    · refine ⟨fun s => ?_, fun s => ?_⟩
      · simp only [Rk.setD, if_neg hj]; exact h.1 s
      · simp only [Rk.setD, if_neg hj]; exact h.2 s
theorem oth_of {q m : G3} {R : Rk} {seg r i : Nat} {seq : Int} {l : List BlkA} (E : EncD seq l) (hr : r < 3) (hi : i < 3) (hg : ∀ j, j < 3 → j ≠ i → goodV Q3 m R (spt seg r j) seq = (datAt Q3 seq l r j, true)) :
    othV Q3 m R (spt seg r i) seq (spotsL Q3 seg r) = (datAt Q3 seq l r i, true) := by
  have hs := spotsL_small seg r
  rw [show spotsL Q3 seg r = [spt seg r 0, spt seg r 1, spt seg r 2] from hs]
  have h0 := E.dat (r := r) (i := 0) hr (by decide)
  have h1 := E.dat (r := r) (i := 1) hr (by decide)
  have e0 : datAt Q3 seq l r 0 = encAt seq l (r * 2) := dat_blk (by decide)
  have e1 : datAt Q3 seq l r 1 = encAt seq l (r * 2 + 1) := dat_blk (by decide)
  have ht : (encAt seq l (r * 2 + 1)).take 4 = (encAt seq l (r * 2)).take 4 := by rw [encAt_take, encAt_take]
  have l0 : (encAt seq l (r * 2)).length = 64 := e0 ▸ h0.len
  have l1 : (encAt seq l (r * 2 + 1)).length = 64 := e1 ▸ h1.len
  have hp := dat_par E hr
  unfold othV
  have hi' : i = 0 ∨ i = 1 ∨ i = 2 := by omega
  rcases hi' with rfl | rfl | rfl
  · have n1 := spt_ne (seg := seg) hr (i := 1) (j := 0) (by decide) (by decide) (by decide)
    have n2 := spt_ne (seg := seg) hr (i := 2) (j := 0) (by decide) (by decide) (by decide)
    simp only [othL, if_true, if_neg n1, if_neg n2, hg 1 (by decide) (by decide), hg 2 (by decide) (by decide), Option.map_some]
    rw [e1, hp, e0, lost1 l0 l1 ht (E.by _)]; rfl
  · have n1 := spt_ne (seg := seg) hr (i := 0) (j := 1) (by decide) (by decide) (by decide)
    have n2 := spt_ne (seg := seg) hr (i := 2) (j := 1) (by decide) (by decide) (by decide)
    simp only [othL, if_true, if_neg n1, if_neg n2, hg 0 (by decide) (by decide), hg 2 (by decide) (by decide), Option.map_some]
    rw [e0, hp, e1, lost2 l0 l1 ht (E.by _)]; rfl
  · have n1 := spt_ne (seg := seg) hr (i := 0) (j := 2) (by decide) (by decide) (by decide)
    have n2 := spt_ne (seg := seg) hr (i := 1) (j := 2) (by decide) (by decide) (by decide)
    simp only [othL, if_true, if_neg n1, if_neg n2, hg 0 (by decide) (by decide), hg 1 (by decide) (by decide), Option.map_some]
    rw [e0, e1, parL2 l0 l1 ht, hp]; rfl
theorem there0 {R : Rk} {seg : Nat} (hs : seg < 12) (ho : R.off = false) : thereE Q3 R seg = 0 := by
  unfold thereE
  rw [if_neg (by show ¬ ¬ (0 ≤ (seg : Int) ∧ (seg : Int) < 12); omega), if_neg (by simp [ho])]
end Go.Proofs.Ytldmeimebebllaa
namespace Go.Proofs.Ytldmeimebebllaa
open Go.Mo
set_option linter.unusedVariables false
variable {g : Fr} {cv : CV}
abbrev m1 (slot : Nat) : G3 := (1, (slot : Int), 1)
theorem slot1 {slot i : Nat} (hi : i < 3) : slotV Q3 (m1 slot) (i : Int) = (if slot = i then 3 else (i : Int), true) := by
  have h := slotV_in (m1 slot) i hi
  refine Prod.ext ?_ h.1
  rw [show (slotV Q3 (m1 slot) (i : Int)).1 = _ from h.2]
  by_cases e : slot = i
  · rw [if_pos e, if_pos]
    exact ⟨by simp, by show (slot : Int) = i; omega⟩
  · rw [if_neg e, if_neg]
    rintro ⟨_, h2⟩
    have h2 : (slot : Int) = i := h2
    omega
structure Refi (R : Rk) (slot seg : Nat) (seq : Int) (l : List BlkA) (k : Nat) : Prop where
  set : Settled R (fun j => decide (j = slot))
  n : R.n = 4
  ns : R.ns = 41
  rest : ∀ r i, r < 3 → i < 3 → (spt seg r i).1 ≠ (slot : Int) → (R.dk (spt seg r i).1.toNat).sec (spt seg r i).2 = datAt Q3 seq l r i
  done : ∀ r i, r < k → r < 3 → i < 3 → (spt seg r i).1 = (slot : Int) → (R.dk 3).sec (spt seg r i).2 = datAt Q3 seq l r i
  todo : ∀ r, k ≤ r → r < 3 → (R.dk 3).sec ((5 + (seg * 3 + r) : Nat) : Int) = noughts
  enc : EncD seq l
  s12 : seg < 12
  fit : fitsN 4 seq
  pos : 1 ≤ seq
  s3 : slot < 3
section
variable {R : Rk} {slot seg : Nat} {seq : Int} {l : List BlkA} {k : Nat}
theorem Refi.brd (h : Refi R slot seg seq l k) {r i : Nat} (hr : r < 3) (hi : i < 3) :
    goodV Q3 (m1 slot) R (spt seg r i) seq = ((R.dk (if (spt seg r i).1 = (slot : Int) then 3 else (spt seg r i).1.toNat)).sec (spt seg r i).2, (headOf ((R.dk (if (spt seg r i).1 = (slot : Int) then 3 else (spt seg r i).1.toNat)).sec (spt seg r i).2)).1 == seq) := by
  have hrg := spt_rng h.s12 hr hi
  have hb := sec_brd (m := m1 slot) h.set h.n h.ns (s := spt seg r i) hrg.1 (by omega)
  obtain ⟨j, hj⟩ : ∃ j : Nat, (spt seg r i).1 = (j : Int) := ⟨(spt seg r i).1.toNat, by omega⟩
  have hj3 : j < 3 := by omega
  have hs3 := h.s3
  have hsl : (slotV Q3 (m1 slot) (spt seg r i).1).1.toNat = if (spt seg r i).1 = (slot : Int) then 3 else (spt seg r i).1.toNat := by
    rw [hj, slot1 hj3]
    by_cases e : slot = j
    · rw [if_pos e, if_pos (by omega)]; rfl
    · rw [if_neg e, if_neg (by omega)]
  rw [hsl] at hb
  have hf : decide ((if (spt seg r i).1 = (slot : Int) then 3 else (spt seg r i).1.toNat) = slot) = false := by
    refine decide_eq_false ?_
    split <;> omega
  simp only [hf] at hb
  unfold goodV
  rw [hb.1, if_pos (by decide), hb.2 trivial]
theorem Refi.good_rest (h : Refi R slot seg seq l k) {r i : Nat} (hr : r < 3) (hi : i < 3) (hne : (spt seg r i).1 ≠ (slot : Int)) : goodV Q3 (m1 slot) R (spt seg r i) seq = (datAt Q3 seq l r i, true) := by
  rw [h.brd hr hi, if_neg hne, h.rest r i hr hi hne]
  simp [(h.enc.dat hr hi).head h.fit]
theorem Refi.good_todo (h : Refi R slot seg seq l k) {r i : Nat} (hr : r < 3) (hi : i < 3) (hk : k ≤ r) (he : (spt seg r i).1 = (slot : Int)) : (goodV Q3 (m1 slot) R (spt seg r i) seq).2 = false := by
  rw [h.brd hr hi, if_pos he, show (spt seg r i).2 = ((5 + (seg * 3 + r) : Nat) : Int) from rfl, h.todo r hk hr]
  have hh : (headOf noughts).1 = 0 := by decide
  have := h.pos
  show ((headOf noughts).1 == seq) = false
  rw [hh]
  simp; omega
theorem slotSp3 {slot seg r : Nat} (hs : slot < 3) : ∃ i, i < 3 ∧ slotSp Q3 seg r (slot : Int) = spt seg r i ∧ (spt seg r i).1 = (slot : Int) := by
  have h1 : (3 : Int) ≤ Q3.1 := by decide
  have h2 : (0 : Int) ≤ (slot : Int) ∧ (slot : Int) < Q3.1 := by show (0 : Int) ≤ (slot : Int) ∧ (slot : Int) < 3; omega
  have hg := slotSp_get (q := Q3) (seg := seg) (r := r) h1 h2
  have hf := slotSp_fst (q := Q3) (seg := seg) (r := r) h1 h2
  have hm := List.mem_of_getElem? hg
  rw [show spotsL Q3 seg r = [spt seg r 0, spt seg r 1, spt seg r 2] from spotsL_small seg r] at hm
  simp only [List.mem_cons, List.not_mem_nil, or_false] at hm
  rcases hm with hm | hm | hm <;> rw [hm] at hf ⊢
  · exact ⟨0, by decide, rfl, hf⟩
  · exact ⟨1, by decide, rfl, hf⟩
  · exact ⟨2, by decide, rfl, hf⟩
theorem Settled.put {R : Rk} {f : Nat → Bool} (h : Settled R f) (k s : Int) (b : List Int) : Settled (R.put k s b) f := by
  refine ⟨h.off, h.count, fun j => ?_, fun j => ?_⟩
  · simp only [Rk.put]; split
    · rename_i e; subst e; exact h.failed _
    · exact h.failed j
  · simp only [Rk.put]; split
    · rename_i e; subst e; exact h.counts _
    · exact h.counts j
theorem spt_slot_only {seg r i j : Nat} (hr : r < 3) (hi : i < 3) (hj : j < 3) (h : (spt seg r i).1 = (spt seg r j).1) : i = j := (spt_inj hr hr hi hj (Prod.ext h rfl)).2.2
theorem Refi.step (h : Refi R slot seg seq l k) (hk : k < 3) : ∃ R', (∀ rs, refL Q3 (m1 slot) seg slot seq (k :: rs) R = refL Q3 (m1 slot) seg slot seq rs R') ∧ Refi R' slot seg seq l (k + 1) ∧ (∀ j, j ≠ 3 → R'.dk j = R.dk j) ∧ (R.bys → R'.bys) := by
  obtain ⟨i, hi, hsp, hf⟩ := slotSp3 (slot := slot) (seg := seg) (r := k) h.s3
  have hd := h.enc.dat hk hi
  have hs3 := h.s3
  have hrg := spt_rng h.s12 hk hi
  have hot : othV Q3 (m1 slot) R (spt seg k i) seq (spotsL Q3 seg k) = (datAt Q3 seq l k i, true) := oth_of (q := Q3) h.enc hk hi fun j hj hne => h.good_rest hk hj (by
    rw [← hf]; exact fun e => hne (spt_slot_only hk hj hi e))
  have hsl : slotV Q3 (m1 slot) (spt seg k i).1 = (3, true) := by rw [hf, slot1 h.s3, if_pos rfl]
  have hg0 : R.gate 3 (spt seg k i).2 64 = 0 := by
    rw [h.set.gate (by rw [h.n]; omega) (by rw [h.ns]; omega)]
    rw [show decide ((3 : Int).toNat = slot) = false from decide_eq_false (by show ¬ 3 = slot; omega)]; rfl
  have hl : ((datAt Q3 seq l k i).length : Int) = 64 := by rw [hd.len]; rfl
  have hg : bgate Q3 (m1 slot) R (spt seg k i) (datAt Q3 seq l k i) = 0 := by
    unfold bgate; rw [hsl, if_pos rfl, hl]; exact hg0
  have hb : bwrite Q3 (m1 slot) R (spt seg k i) (datAt Q3 seq l k i) = R.put 3 (spt seg k i).2 (datAt Q3 seq l k i) := by
    unfold bwrite; rw [hsl, if_pos rfl]
    unfold Rk.write
    rw [hl, hg0, if_pos rfl, gated_in h.set.off (by rw [h.n]; omega) (by rw [h.ns]; omega), h.set.tick]
  have hlk : lackB Q3 (m1 slot) R seg slot seq k = true := by
    unfold lackB; rw [hsp, h.good_todo hk hi (Nat.le_refl _) hf]; rfl
  refine ⟨R.put 3 (spt seg k i).2 (datAt Q3 seq l k i), fun rs => ?_, ⟨h.set.put _ _ _, h.n, h.ns, fun r j hr hj hne => ?_, fun r j hrk hr hj he => ?_, fun r hrk hr => ?_, h.enc, h.s12, h.fit, h.pos, h.s3⟩, fun j hj => ?_, fun hby => hby.put hd.byts⟩
  · rw [refL, if_pos hlk, hsp, hot, if_neg (by simp)]
    dsimp only
    rw [hg, hb, if_neg (by decide)]
  · have hr2 := (spt_rng h.s12 hr hj).1
    rw [put_sec, if_neg (by rintro ⟨e, _⟩; have : (3 : Int).toNat = 3 := rfl; omega)]
    exact h.rest r j hr hj hne
  · rw [put_sec]
    by_cases hrk2 : r = k
    · subst hrk2
      have : j = i := spt_slot_only hr hj hi (he.trans hf.symm)
      subst this
      rw [if_pos ⟨rfl, rfl⟩]
    · rw [if_neg]
      · exact h.done r j (by omega) hr hj he
      · rintro ⟨_, e⟩
        have e1 : (spt seg r j).2 = ((5 + (seg * 3 + r) : Nat) : Int) := rfl
        have e2 : (spt seg k i).2 = ((5 + (seg * 3 + k) : Nat) : Int) := rfl
        rw [e1, e2] at e
        omega
  · rw [put_sec, if_neg]
    · exact h.todo r (by omega) hr
    · rintro ⟨_, e⟩
      have e2 : (spt seg k i).2 = ((5 + (seg * 3 + k) : Nat) : Int) := rfl
      rw [e2] at e
      omega
  · simp only [Rk.put]
    rw [if_neg (by show ¬ j = 3; exact hj)]
theorem Refi.all (h : Refi R slot seg seq l 0) : ∃ R', sRefill Q3 (m1 slot) R seg slot seq = (R', 0) ∧ Refi R' slot seg seq l 3 ∧ (∀ j, j ≠ 3 → R'.dk j = R.dk j) ∧ (R.bys → R'.bys) := by
  obtain ⟨Ra, a1, a2, a3, a4⟩ := h.step (by decide)
  obtain ⟨Rb, b1, b2, b3, b4⟩ := a2.step (by decide)
  obtain ⟨Rc, c1, c2, c3, c4⟩ := b2.step (by decide)
  refine ⟨Rc, ?_, c2, fun j hj => (c3 j hj).trans ((b3 j hj).trans (a3 j hj)), fun hb => c4 (b4 (a4 hb))⟩
  have hs3 := h.s3
  have ht : slottedE Q3 R seg slot = 0 := by
    unfold slottedE
    rw [if_neg (by show ¬ ¬ (0 ≤ (slot : Int) ∧ (slot : Int) < 3); omega), there0 h.s12 h.set.off]
  unfold sRefill
  rw [if_neg (by simp [ht]), show List.range Q3.2.1.toNat = [0, 1, 2] from rfl, a1, b1, c1]
  rfl
end
end Go.Proofs.Ytldmeimebebllaa

