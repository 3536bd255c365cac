/-
  A part of the proof: predicate transformers over the model, and a separation logic over them; what functions of the program do.
-/
import Derived.Test.YtldmeimebebllaaPart2
import Derived.ChangeReads
import Derived.ReadAgain
import Derived.Deep.Frames
import Derived.RowKit3
import Derived.ChangeSame
import Derived.ChangeSlices
import Derived.SizedLaws
import Derived.Deep.Slices
set_option linter.unusedSimpArgs false
namespace Go.Proofs.Ytldmeimebebllaa
open Go.Mo
set_option linter.unusedVariables false
variable {g : Fr} {cv : CV}
def slotK (q : G3) (seg : Int) (r : Nat) (slot : Int) : Nat := (spotsL q seg r).findIdx (fun s => s.1 == slot)
def slotSp (q : G3) (seg : Int) (r : Nat) (slot : Int) : Int × Int := (spotsL q seg r).getD (slotK q seg r slot) (0, 0)
theorem blkSpot_rc {q : G3} {seg : Int} {r c : Nat} (h1 : 3 ≤ q.1) (hc : (c : Int) < q.1 - 1) : (blkSpot q seg ((r : Int) * (q.1 - 1) + (c : Int))).1 = (q.1 - 1 - rowOf q seg r % q.1 + 1 + c) % q.1 := by
  have e1 : ((r : Int) * (q.1 - 1) + (c : Int)) / (q.1 - 1) = r := by
    rw [Int.add_comm, Int.add_mul_ediv_right _ _ (by omega), Int.ediv_eq_zero_of_lt (by omega) hc]; omega
  have e2 : ((r : Int) * (q.1 - 1) + (c : Int)) % (q.1 - 1) = c := by
    rw [Int.add_comm, Int.add_mul_emod_self_right, Int.emod_eq_of_lt (by omega) hc]
  unfold blkSpot
  rw [e1, e2]
theorem slot_mem {q : G3} {seg : Int} {r : Nat} {slot : Int} (h1 : 3 ≤ q.1) (hs : 0 ≤ slot ∧ slot < q.1) : ∃ s ∈ spotsL q seg r, s.1 = slot := by
  have hp0 := Int.emod_nonneg (rowOf q seg r) (b := q.1) (by omega)
  have hp1 := Int.emod_lt_of_pos (rowOf q seg r) (b := q.1) (by omega)
  generalize hp : rowOf q seg r % q.1 = p at *
  by_cases h : slot = q.1 - 1 - p
  · refine ⟨parSpot q seg r, by simp [spotsL], ?_⟩
    unfold parSpot
    rw [hp]; exact h.symm
  · obtain ⟨c, hc, hcm⟩ : ∃ c : Nat, (c : Int) < q.1 - 1 ∧ (q.1 - 1 - p + 1 + (c : Int)) % q.1 = slot := by
      by_cases h2 : q.1 - 1 - p < slot
      · refine ⟨(slot - (q.1 - 1 - p) - 1).toNat, by omega, ?_⟩
        rw [show q.1 - 1 - p + 1 + ((slot - (q.1 - 1 - p) - 1).toNat : Int) = slot by omega]
        exact Int.emod_eq_of_lt hs.1 hs.2
      · refine ⟨(slot + p).toNat, by omega, ?_⟩
        rw [show q.1 - 1 - p + 1 + ((slot + p).toNat : Int) = slot + q.1 by omega, Int.add_emod_right]
        exact Int.emod_eq_of_lt hs.1 hs.2
    refine ⟨blkSpot q seg ((r : Int) * (q.1 - 1) + (c : Int)), ?_, ?_⟩
    · unfold spotsL
      refine List.mem_append_left _ (List.mem_map.2 ⟨c, List.mem_range.2 (by omega), rfl⟩)
    · rw [blkSpot_rc h1 hc, hp, hcm]
theorem slotK_lt {q : G3} {seg : Int} {r : Nat} {slot : Int} (h1 : 3 ≤ q.1) (hs : 0 ≤ slot ∧ slot < q.1) : slotK q seg r slot < (spotsL q seg r).length := by
  obtain ⟨s, hm, he⟩ := slot_mem (q := q) (seg := seg) (r := r) h1 hs
  exact List.findIdx_lt_length_of_exists ⟨s, hm, by simp [he]⟩
theorem slotSp_get {q : G3} {seg : Int} {r : Nat} {slot : Int} (h1 : 3 ≤ q.1) (hs : 0 ≤ slot ∧ slot < q.1) : (spotsL q seg r)[slotK q seg r slot]? = some (slotSp q seg r slot) := by
  have := slotK_lt (q := q) (seg := seg) (r := r) h1 hs
  unfold slotSp
  rw [List.getD_eq_getElem?_getD, List.getElem?_eq_getElem this]; rfl
theorem slotSp_fst {q : G3} {seg : Int} {r : Nat} {slot : Int} (h1 : 3 ≤ q.1) (hs : 0 ≤ slot ∧ slot < q.1) : (slotSp q seg r slot).1 = slot := by
  have hlt := slotK_lt (q := q) (seg := seg) (r := r) h1 hs
  have hf : ((spotsL q seg r)[slotK q seg r slot]'hlt).1 == slot := List.findIdx_getElem (w := hlt)
  have hg := slotSp_get (q := q) (seg := seg) (r := r) h1 hs
  rw [List.getElem?_eq_getElem hlt] at hg
  rw [← Option.some.inj hg]
  simpa using hf
theorem sv_get2 {l : List (Int × Int)} {i : Nat} {s : Int × Int} (h : l[i]? = some s) (o : Nat) (v : Value) (ho : [Value.int .i64 s.1, Value.int .i64 s.2][o]? = some v) : (sv l)[i * 2 + o]? = some v := by
  have h2 : o < 2 := by have := (List.getElem?_eq_some_iff.1 ho).1; simpa using this
  rw [sv_get h h2]; exact ho
theorem indexFunc_val {H : HP} {f : Value} {s : Slc} {l : List (Int × Int)} (P : Int × Int → Bool) (hf : ∀ p : Int × Int, Val g H (cvT cv Value.bool f #[.agg #[.int .i64 p.1, .int .i64 p.2]]) (P p)) (hs : Ent H (rsl 2 s (sv l))) (hl : l.length ≤ 1000000) (hk : l.findIdx P < l.length) :
    Val g H (slices_IndexFunc_g cv s f) ((l.findIdx P : Nat) : Int) := by
  unfold slices_IndexFunc_g
  refine wps_fact (Ent.trans hs (rsl_len _ _ _)) fun hsl => ?_
  rw [sv_len] at hsl
  refine wps_loop (fun st => ex fun i : Nat => pr (st = (i : Int) ∧ i ≤ l.findIdx P) * H) (fun st => (l.length - st).toNat) (ent_ex 0 (ent_prr ⟨rfl, by omega⟩ (Ent.refl _))) fun st => ?_
  refine wps_ex fun i => wps_pr fun ⟨hi, hin⟩ => ?_
  refine wps_ite (fun hc => ?_) (fun hc => absurd (decide_eq_true (by omega)) hc)
  have hlt : i < l.length := by omega
  have hget : l[i]? = some l[i] := List.getElem?_eq_getElem hlt
  refine wps_rdA i l[i] hs hi (by simp) (fun o v ho => sv_get2 hget o v ho) ?_
  refine wps_val (hf l[i]) ?_
  refine wps_ite (fun hp => wps_mapR (wps_pure (ent_prr ?_ (Ent.refl _)))) (fun hp => wps_pure ?_)
  · have : l.findIdx P = i := by
      have h1 := List.not_of_lt_findIdx (p := P) (xs := l) (i := i)
      by_cases h2 : i < l.findIdx P
      · have := h1 h2
        rw [hp] at this; cases this
      · omega
    rw [hi, this]
  · have hne : i ≠ l.findIdx P := fun e => hp (by
      have := List.findIdx_getElem (p := P) (xs := l) (w := hk)
      simp only [← e] at this
      exact this)
    exact ent_prr (by rw [range_add1 hi (by omega)]; omega) (ent_ex (i + 1) (ent_prr ⟨range_add1 hi (by omega), by omega⟩ (Ent.refl _)))
abbrev lackFV (c : Nat) : Value := .func (.func fid_stripe_lacks_c1_c1) #[] #[.pointer (some ⟨c, 0, none⟩)]
abbrev lacksV (a b c d : Nat) : Value := .func (.func fid_stripe_lacks_c1) #[] #[.pointer (some ⟨a, 0, none⟩), .pointer (some ⟨b, 0, none⟩), .pointer (some ⟨c, 0, none⟩), .pointer (some ⟨d, 0, none⟩)]
structure LacksOk (cv : CV) : Prop where
  slot : ∀ (p : Int × Int) (a : Addr) (Q : Value → World → Prop) (w : World), stripe_lacks_c1_c1 p a (fun y w' => Q (.bool y) w') w → cv.call (.func (.func fid_stripe_lacks_c1_c1) #[] #[.pointer (some a)]) #[.agg #[.int .i64 p.1, .int .i64 p.2]] Q w
  iter : ∀ (a1 a2 a3 a4 : Addr) (yv : Value) (Q : Value → World → Prop) (w : World), stripe_lacks_c1 cv yv a1 a2 a3 a4 (fun _ w' => Q (.tuple #[]) w') w → cv.enter (.func (.func fid_stripe_lacks_c1) #[] #[.pointer (some a1), .pointer (some a2), .pointer (some a3), .pointer (some a4)]) #[yv] Q w
theorem lackF_val (hcv : LacksOk cv) {H : HP} {c : Nat} {slot : Int} (hc : Ent H (ro c [.int .i64 slot])) (p : Int × Int) : Val g H (cvT cv Value.bool (lackFV c) #[.agg #[.int .i64 p.1, .int .i64 p.2]]) (p.1 == slot) := by
  have hm : Val g H (stripe_lacks_c1_c1 p ⟨c, 0, none⟩) (p.1 == slot) := by
    unfold stripe_lacks_c1_c1
    refine wps_alloc fun x2 => ?_
    refine wps_ld p.1 (by rfl) ?_
    refine wps_ldr slot (Ent.trans (ent_left _ _) hc) (by rfl) (wps_pure (ent_val rfl))
  refine wps_cvT fun w a Qf ho ha hq => hcv.slot _ _ _ _ (hm w a _ ho ha fun x w' a' ho' hb => hq _ w' a' ho' ?_)
  exact ⟨x, ent_pr rfl a' hb⟩
def lackB (q m : G3) (R : Rk) (seg slot seq : Int) (r : Nat) : Bool := !(goodV q m R (slotSp q seg r slot) seq).2
structure SilL (q m : G3) (seg slot seq : Int) (s s' : Nat × Rk) : Prop where
  lt : (s.1 : Int) < q.2.1
  bys : s.2.bys
  no : lackB q m s.2 seg slot seq s.1 = false
  nx : s' = (s.1 + 1, s.2)
structure OkL (q m : G3) (seg slot seq : Int) (s : Nat × Rk) : Prop where
  lt : (s.1 : Int) < q.2.1
  bys : s.2.bys
  yes : lackB q m s.2 seg slot seq s.1 = true
theorem lacks_iter (hcr : RowsOk cv) (hcv : LacksOk cv) (a1 a2 a3 a4 bb rb : Nat) (q m : G3) (seg slot seq : Int) (hs : InS q seg) (hsl : 0 ≤ slot ∧ slot < q.1) (R0 : Rk) (hby : R0.bys) (ds : Slc) (ps : List Nat) :
    IterY cv (lacksV a1 a2 a3 a4) (fun x : Slc × (Int × Int) => #[.slice x.1.base x.1.len x.1.cap, .agg #[.int .i64 x.2.1, .int .i64 x.2.2]]) ((0, R0) : Nat × Rk)
      (fun s x => OkL q m seg slot seq s ∧ x.2 = slotSp q seg s.1 slot) (fun s s' => s'.1 = s.1 + 1 ∧ s'.2.bys) (SilL q m seg slot seq)
      (fun s => (s.1 : Int) = q.2.1 ∧ s.2.bys) (fun s => bnk bb rb q m * rackP rb s.2 ds ps) (fun s x => own 2 x.1 (sv (spotsL q seg s.1))) (pc a1 [.pointer (ptr bb)] * pc a2 [.int .i64 seg] * pc a3 [.int .i64 slot] * pc a4 [.int .i64 seq]) := by
  intro yv hyv I E hstep hsil g
  have hb := RightB.bnd hs.right
  have b1 := hb.d3
  have b2 := hb.d16
  have b3 := hb.r1
  have b4 := hb.r4
  refine wps_enter (m := stripe_lacks_c1 cv yv ⟨a1, 0, none⟩ ⟨a2, 0, none⟩ ⟨a3, 0, none⟩ ⟨a4, 0, none⟩) (fun Q w h => hcv.iter _ _ _ _ _ _ _ h) ?_
  unfold stripe_lacks_c1
  simp only [← star_assoc]
  refine wps_box hyv fun x5 => ?_
  refine wps_regionH ?_
  refine wps_ldI (ptr bb) (by rfl) ?_
  refine wps_ldI seg (by rfl) ?_
  refine wps_stepVH (fun _ => bank_Geo_val bb rb q m) ?_
  refine wps_bind (wps_stepI (stripe_rows_spec q seg) fun v => ?_) fun v => ?_
  · refine ex_ent fun ra => ex_ent fun rc => ?_
    rw [star_assoc]
    exact pr_ent fun _ => ent_left _ _
  refine wps_ex fun ra => wps_ex fun rc => ?_
  rw [star_assoc, star_assoc]
  refine wps_pr fun hv => ?_
  subst hv
  refine wps_rangeX (F := emp)
    (fun i => ex fun R : Rk => pr R.bys * bnk bb rb q m * rackP rb R ds ps * I (i, R) * pc a1 [.pointer (ptr bb)] * pc a3 [.int .i64 slot] * pc a4 [.int .i64 seq] * pc x5 [yv])
    (fun j => match j with | .ret => E | .exit _ => pr False)
    (fun i x t' => pr (t' = x.2) * (rowsA ra rc q seg * (rowsX q seg i x * ex fun R : Rk => pr R.bys * bnk bb rb q m * rackP rb R ds ps * I (i, R) * pc a1 [.pointer (ptr bb)] * pc a3 [.int .i64 slot] * pc a4 [.int .i64 seq] * pc x5 [yv])))
    (rows_iter hcr ra rc q seg hs) ?_ ?_ ?_ ?_ ?_ ?_
  · refine Ent.trans ?_ (Ent.of_eq (emp_star _).symm)
    refine ent_exr R0 ?_
    simp only [← star_assoc]
    repeat (first
      | (with_reducible exact ent_drop)
      | (with_reducible refine ent_pick ?_)
      | (refine ent_pickC (by rfl) ?_)
      | (refine ent_pickS (by rfl) ?_)
      | (refine ent_pickM (by rfl) ?_)
      | (refine ent_prx ?_ ?_; rotate_left)
      | (refine ent_prq ?_))
    all_goals first | exact hby | trivial
  · intro i x hx g
    exact wps_pure (ent_prr rfl (Ent.refl _))
  · intro i x hx t' g
    refine wps_pr fun ht => ?_
    subst ht
    refine wps_exP fun R => ?_
    simp only [← star_assoc]
    refine wps_prP fun hRb => ?_
    refine wps_prP fun hxi => ?_
    refine wps_fact (Ent.trans (ent_pick1 (A := rackP rb R ds ps)) rackP_good) fun hg => ?_
    refine wps_fact (Ent.trans (ent_pick1 (A := own 2 x.2 (sv (spotsL q seg i)))) (own_len _ _ _)) fun ⟨hspl, _⟩ => ?_
    have hspl2 := spotsL_len q seg i b1
    rw [sv_len] at hspl
    have hk := slotK_lt (q := q) (seg := seg) (r := i) b1 hsl
    have hget := slotSp_get (q := q) (seg := seg) (r := i) b1 hsl
    refine wps_val (v := ((slotK q seg i slot : Nat) : Int)) (indexFunc_val (fun s => s.1 == slot) (fun p => lackF_val hcv (Ent.trans (ent_pick1 (A := pc a3 [.int .i64 slot])) (pc_ro _ _)) p) (Ent.trans (ent_pick1 (A := own 2 x.2 (sv (spotsL q seg i)))) (own_rsl _ _ _)) (by omega) hk) ?_
    refine wps_regionH ?_
    refine wps_ldI (ptr bb) (by rfl) ?_
    refine wps_rdAI (slotK q seg i slot) (slotSp q seg i slot) (Ent.trans (ent_pick1 (A := own 2 x.2 (sv (spotsL q seg i)))) (own_rsl _ _ _)) (Ent.refl _) rfl (by simp) (fun o v ho => sv_get2 hget o v ho) ?_
    refine wps_ldI seq (by rfl) ?_
    generalize hsp : slotSp q seg i slot = sp at *
    refine wps_call2 (fun _ => stripe_good_spec bb rb q m R hRb ds ps sp seq) fun a => ?_
    simp only [← star_assoc]
    refine wps_prP fun ha => ?_
    refine wps_regionH ?_
    rw [ha]
    cases hgd : (goodV q m R sp seq).2
    · have hok : OkL q m seg slot seq (i, R) := ⟨by show (i : Int) < q.2.1; omega, hRb, by unfold lackB; simp only [hsp, hgd]; rfl⟩
      refine wps_ite (fun _ => ?_) (fun h => absurd rfl h)
      refine wps_ldI yv (by rfl) ?_
      refine wps_rdAI (slotK q seg i slot) sp (Ent.trans (ent_pick1 (A := own 2 x.2 (sv (spotsL q seg i)))) (own_rsl _ _ _)) (Ent.refl _) rfl (by simp) (fun o v ho => sv_get2 hget o v ho) ?_
      refine wps_bind (R := fun y => if y = true then (ex fun s' : Nat × Rk => pr (s'.1 = i + 1 ∧ s'.2.bys) * (bnk bb rb q m * rackP rb s'.2 ds ps * I s')) * (rowsA ra rc q seg * pc a1 [.pointer (ptr bb)] * pc a3 [.int .i64 slot] * pc a4 [.int .i64 seq] * pc x5 [yv]) else E * (rowsA ra rc q seg)) ?_ fun y => ?_
      · have hy := wps_frame (F := rowsA ra rc q seg * pc a1 [.pointer (ptr bb)] * pc a3 [.int .i64 slot] * pc a4 [.int .i64 seq] * pc x5 [yv]) (g := g) (fun g' => wps_yield (hstep (i, R) (x.2, sp) ⟨hok, hsp.symm⟩ g'))
        refine wps_pre ?_ (wps_post hy fun y => ?_)
        · simp only [← star_assoc]
          repeat (first
            | (with_reducible exact ent_drop)
            | (with_reducible refine ent_pick ?_)
            | (refine ent_pickC (by rfl) ?_)
            | (refine ent_pickS (by rfl) ?_)
            | (refine ent_pickM (by rfl) ?_)
            | (refine ent_prx ?_ ?_; rotate_left)
            | (refine ent_prq ?_))
        · cases y
          · simp only [Bool.false_eq_true, if_false]
            refine Ent.starr ?_
            refine Ent.trans (ent_left _ _) ?_
            refine Ent.trans (ent_left _ _) ?_
            refine Ent.trans (ent_left _ _) ?_
            exact ent_left _ _
          · simp only [if_true]
            exact Ent.refl _
      · cases y
        · refine wps_ite (fun _ => wps_pure ?_) (fun h => absurd rfl h)
          simp only [Bool.false_eq_true, if_false]
          exact Ent.of_eq (star_comm _ _)
        · refine wps_ite (fun h => absurd h (by decide)) (fun _ => wps_pure ?_)
          simp only [if_true]
          rw [ex_star]
          refine ex_ent fun s' => ?_
          rw [star_assoc]
          refine pr_ent fun ⟨h1, h2⟩ => ?_
          obtain ⟨si, sR⟩ := s'
          dsimp only at h1 h2 ⊢
          subst h1
          refine ent_exr sR ?_
          simp only [← star_assoc]
          repeat (first
            | (with_reducible exact ent_drop)
            | (with_reducible refine ent_pick ?_)
            | (refine ent_pickC (by rfl) ?_)
            | (refine ent_pickS (by rfl) ?_)
            | (refine ent_pickM (by rfl) ?_)
            | (refine ent_prx ?_ ?_; rotate_left)
            | (refine ent_prq ?_))
          all_goals first | exact h2 | trivial
    · have hsl2 : SilL q m seg slot seq (i, R) (i + 1, R) := ⟨by show (i : Int) < q.2.1; omega, hRb, by unfold lackB; simp only [hsp, hgd]; rfl, rfl⟩
      refine wps_ite (fun h => absurd h (by decide)) (fun _ => wps_pure ?_)
      refine ent_swap (A := I (i, R)) (hsil _ _ hsl2) ?_
      refine ent_exr R ?_
      simp only [← star_assoc]
      repeat (first
        | (with_reducible exact ent_drop)
        | (with_reducible refine ent_pick ?_)
        | (refine ent_pickC (by rfl) ?_)
        | (refine ent_pickS (by rfl) ?_)
        | (refine ent_pickM (by rfl) ?_)
        | (refine ent_prx ?_ ?_; rotate_left)
        | (refine ent_prq ?_))
      all_goals first | exact hRb | trivial
  · intro D
    refine wps_exP fun R => ?_
    simp only [← star_assoc]
    refine wps_prP fun hRb => ?_
    refine wps_take (wps_pure ?_)
    have hfin : ((q.2.1.toNat : Nat) : Int) = q.2.1 ∧ R.bys := ⟨by omega, hRb⟩
    refine ent_orl ?_
    refine ent_ex (q.2.1.toNat, R) ?_
    dsimp only
    repeat (first
      | (with_reducible exact ent_drop)
      | (with_reducible refine ent_pick ?_)
      | (refine ent_pickC (by rfl) ?_)
      | (refine ent_pickS (by rfl) ?_)
      | (refine ent_pickM (by rfl) ?_)
      | (refine ent_prx ?_ ?_; rotate_left)
      | (refine ent_prq ?_))
    all_goals first | exact hfin | trivial
  · intro D
    refine wps_take (wps_pure ?_)
    refine ent_orr ?_
    refine Ent.trans (ent_right _ _) ?_
    exact ent_right _ _
  · intro D id
    exact wps_false (fun o ho => by
      have := ent_right _ _ o (ent_left _ _ o ho)
      exact ent_right _ _ o this)
end Go.Proofs.Ytldmeimebebllaa
namespace Go.Proofs.Ytldmeimebebllaa
open Go.Mo
set_option linter.unusedVariables false
variable {g : Fr} {cv : CV}
def slottedE (q : G3) (R : Rk) (seg slot : Int) : Int := if ¬ (0 ≤ slot ∧ slot < q.1) then 28 else thereE q R seg
theorem stripe_slotted_val (bb rb : Nat) (q m : G3) (R : Rk) (ds : Slc) (ps : List Nat) (seg slot : Int) : Val g (bnk bb rb q m * rackP rb R ds ps) (stripe_slotted (ptr bb) seg slot) (slottedE q R seg slot) := by
  unfold stripe_slotted
  refine wps_val (v := decide (¬ (0 ≤ slot ∧ slot < q.1))) ?_ ?_
  · refine wps_ite (fun h => wps_pure (ent_prr ?_ (Ent.refl _))) (fun h => ?_)
    · have := of_decide_eq_true h
      exact (decide_eq_true (by omega)).symm
    · have h' : ¬ slot < 0 := fun h2 => h (decide_eq_true h2)
      refine wps_valH (fun _ => bank_Geo_val bb rb q m) (wps_pure (ent_prr ?_ (Ent.refl _)))
      exact decide_eq_decide.2 (by omega)
  refine wps_ite (fun h => wps_pure (ent_prr ?_ (Ent.refl _))) (fun h => ?_)
  · rw [slottedE, if_pos (of_decide_eq_true h)]
  · have h' : ¬ ¬ (0 ≤ slot ∧ slot < q.1) := fun h2 => h (decide_eq_true h2)
    refine wps_val2 (fun _ => stripe_there_val bb rb q m R ds ps seg) ?_
    rw [slottedE, if_neg h']
    exact wps_pure (ent_pr rfl)
theorem stripe_lacks_spec {H : HP} (bb : Nat) (seg slot seq : Int) : wps g H (stripe_lacks (ptr bb) seg slot seq) (fun v => ex fun a1 => ex fun a2 => ex fun a3 => ex fun a4 => pr (v = lacksV a1 a2 a3 a4) * H * (pc a1 [.pointer (ptr bb)] * pc a2 [.int .i64 seg] * pc a3 [.int .i64 slot] * pc a4 [.int .i64 seq])) := by
  unfold stripe_lacks
  refine wps_alloc fun a1 => ?_
  refine wps_alloc fun a2 => ?_
  refine wps_alloc fun a3 => ?_
  refine wps_alloc fun a4 => wps_pure (ent_ex a1 (ent_ex a2 (ent_ex a3 (ent_ex a4 ?_))))
  simp only [← star_assoc]
  repeat (first
    | (with_reducible exact ent_drop)
    | (with_reducible refine ent_pick ?_)
    | (refine ent_pickC (by rfl) ?_)
    | (refine ent_pickS (by rfl) ?_)
    | (refine ent_pickM (by rfl) ?_)
    | (refine ent_prx ?_ ?_; rotate_left)
    | (refine ent_prq ?_))
  all_goals first | rfl | trivial
theorem slotted_in {q : G3} {R : Rk} {seg slot : Int} (h : slottedE q R seg slot = 0) : (0 ≤ slot ∧ slot < q.1) ∧ (0 ≤ seg ∧ seg < q.2.2) := by
  unfold slottedE at h
  split at h
  · cases h
  · rename_i h1
    refine ⟨Classical.not_not.1 h1, ?_⟩
    unfold thereE at h
    split at h
    · cases h
    · rename_i h2; exact Classical.not_not.1 h2
def sMissing (q m : G3) (R : Rk) (seg slot seq : Int) : Bool × Int := if slottedE q R seg slot ≠ 0 then (false, slottedE q R seg slot) else ((List.range q.2.1.toNat).any (lackB q m R seg slot seq), 0)
theorem any_true {n i : Nat} {p : Nat → Bool} (hi : i < n) (h : p i = true) : (List.range n).any p = true := List.any_eq_true.2 ⟨i, List.mem_range.2 hi, h⟩
theorem any_succ {i : Nat} {p : Nat → Bool} (h : (List.range i).any p = false) (hp : p i = false) : (List.range (i + 1)).any p = false := by
  rw [List.range_succ, List.any_append, h]
  simp [hp]
theorem stripe_Missing_spec (hcr : RowsOk cv) (hcv : LacksOk cv) (bb rb : Nat) (q m : G3) (hq : RightB q = true) (R : Rk) (hby : R.bys) (ds : Slc) (ps : List Nat) (seg slot seq : Int) :
    wps g (bnk bb rb q m * rackP rb R ds ps) (stripe_Missing cv (ptr bb) seg slot seq) (fun x => pr (x = sMissing q m R seg slot seq) * bnk bb rb q m * rackP rb R ds ps) := by
  unfold stripe_Missing
  refine wps_alloc fun x8 => ?_
  refine wps_alloc fun x9 => ?_
  refine wps_val2 (fun _ => stripe_slotted_val bb rb q m R ds ps seg slot) ?_
  by_cases ht : slottedE q R seg slot = 0
  rotate_left
  · have hsw : sMissing q m R seg slot seq = (false, slottedE q R seg slot) := if_pos ht
    rw [hsw]
    refine wps_ite (fun _ => ?_) (fun h => absurd (by simpa using ht) h)
    refine wps_st (by simp) ?_
    refine wps_st (by simp) ?_
    refine wps_ld false (by rfl) ?_
    refine wps_ld (slottedE q R seg slot) (by rfl) (wps_pure ?_)
    repeat (first
      | (with_reducible exact ent_drop)
      | (with_reducible refine ent_pick ?_)
      | (refine ent_pickC (by rfl) ?_)
      | (refine ent_pickS (by rfl) ?_)
      | (refine ent_pickM (by rfl) ?_)
      | (refine ent_prx ?_ ?_; rotate_left)
      | (refine ent_prq ?_))
    all_goals first | rfl | trivial
  refine wps_ite (fun h => absurd h (by simp [ht])) (fun _ => ?_)
  obtain ⟨hsl, hse⟩ := slotted_in ht
  have hsw : sMissing q m R seg slot seq = ((List.range q.2.1.toNat).any (lackB q m R seg slot seq), 0) := by unfold sMissing; rw [if_neg (by simp [ht])]
  rw [hsw]
  refine wps_bind (stripe_lacks_spec bb seg slot seq) fun v => ?_
  refine wps_ex fun a1 => wps_ex fun a2 => wps_ex fun a3 => wps_ex fun a4 => ?_
  rw [star_assoc]
  refine wps_pr fun hv => ?_
  subst hv
  refine wps_rangeY (F := emp)
    (fun s => pr (s.2 = R ∧ (List.range s.1).any (lackB q m R seg slot seq) = false) * pc x8 [.bool false] * pc x9 [.int .i64 0])
    (fun j => match j with | .ret => pr ((List.range q.2.1.toNat).any (lackB q m R seg slot seq) = true) * bnk bb rb q m * rackP rb R ds ps * pc x8 [.bool true] * pc x9 [.int .i64 0] | .exit _ => pr False)
    (fun s x t => bnk bb rb q m * rackP rb s.2 ds ps * own 2 x.1 (sv (spotsL q seg s.1)) * (pr (s.2 = R ∧ (List.range s.1).any (lackB q m R seg slot seq) = false) * pc x8 [.bool false] * pc x9 [.int .i64 0]))
    (lacks_iter hcr hcv a1 a2 a3 a4 bb rb q m seg slot seq ⟨hq, hse.1, hse.2⟩ hsl R hby ds ps) ?_ ?_ ?_ ?_ ?_ ?_ ?_
  · refine Ent.trans ?_ (Ent.of_eq (emp_star _).symm)
    simp only [← star_assoc]
    repeat (first
      | (with_reducible exact ent_drop)
      | (with_reducible refine ent_pick ?_)
      | (refine ent_pickC (by rfl) ?_)
      | (refine ent_pickS (by rfl) ?_)
      | (refine ent_pickM (by rfl) ?_)
      | (refine ent_prx ?_ ?_; rotate_left)
      | (refine ent_prq ?_))
    all_goals first | exact ⟨rfl, rfl⟩ | trivial
  · intro s x hx g
    exact wps_pure (Ent.refl _)
  · intro s x hx t g
    simp only [← star_assoc]
    refine wps_prP fun ⟨hR, hno⟩ => ?_
    rw [hR]
    refine wps_st (by simp) ?_
    refine wps_st (by simp) (wps_pure ?_)
    have hyes := hx.1.yes
    rw [hR] at hyes
    have hlt := hx.1.lt
    dsimp only
    repeat (first
      | (with_reducible exact ent_drop)
      | (with_reducible refine ent_pick ?_)
      | (refine ent_pickC (by rfl) ?_)
      | (refine ent_pickS (by rfl) ?_)
      | (refine ent_pickM (by rfl) ?_)
      | (refine ent_prx ?_ ?_; rotate_left)
      | (refine ent_prq ?_))
    all_goals first | exact any_true (by omega) hyes | trivial
  · intro s s' h
    refine Ent.starl (Ent.starl fun o ho => ?_)
    obtain ⟨h1, h2⟩ := ho
    have hn := h.no
    have hx := h.nx
    subst hx
    rw [h1] at hn
    exact ⟨h1, any_succ h2 hn⟩
  · intro D s hf
    simp only [← star_assoc]
    refine wps_prP fun ⟨hR, hno⟩ => ?_
    have hs1 : s.1 = q.2.1.toNat := by have := hf.1; omega
    rw [hs1] at hno
    rw [hR, hno]
    refine wps_st (by simp) ?_
    refine wps_st (by simp) ?_
    refine wps_take ?_
    refine wps_ld false (by rfl) ?_
    refine wps_ld 0 (by rfl) (wps_pure ?_)
    repeat (first
      | (with_reducible exact ent_drop)
      | (with_reducible refine ent_pick ?_)
      | (refine ent_pickC (by rfl) ?_)
      | (refine ent_pickS (by rfl) ?_)
      | (refine ent_pickM (by rfl) ?_)
      | (refine ent_prx ?_ ?_; rotate_left)
      | (refine ent_prq ?_))
    all_goals first | rfl | trivial
  · intro D
    simp only [← star_assoc]
    refine wps_prP fun hR => ?_
    rw [hR]
    refine wps_take ?_
    refine wps_ld true (by rfl) ?_
    refine wps_ld 0 (by rfl) (wps_pure ?_)
    repeat (first
      | (with_reducible exact ent_drop)
      | (with_reducible refine ent_pick ?_)
      | (refine ent_pickC (by rfl) ?_)
      | (refine ent_pickS (by rfl) ?_)
      | (refine ent_pickM (by rfl) ?_)
      | (refine ent_prx ?_ ?_; rotate_left)
      | (refine ent_prq ?_))
    all_goals first | rfl | trivial
  · intro D id
    exact wps_false (fun o ho => ent_right _ _ o (ent_left _ _ o ho))
def refL (q m : G3) (seg slot seq : Int) : List Nat → Rk → Rk × Int
  | [], R => (R, 0)
  | r :: rs, R =>
    if lackB q m R seg slot seq r = true then
      if (othV q m R (slotSp q seg r slot) seq (spotsL q seg r)).2 = false then (R, 14)
      else if bgate q m R (slotSp q seg r slot) (othV q m R (slotSp q seg r slot) seq (spotsL q seg r)).1 ≠ 0 then (bwrite q m R (slotSp q seg r slot) (othV q m R (slotSp q seg r slot) seq (spotsL q seg r)).1, bgate q m R (slotSp q seg r slot) (othV q m R (slotSp q seg r slot) seq (spotsL q seg r)).1)
      else refL q m seg slot seq rs (bwrite q m R (slotSp q seg r slot) (othV q m R (slotSp q seg r slot) seq (spotsL q seg r)).1)
    else refL q m seg slot seq rs R
def sRefill (q m : G3) (R : Rk) (seg slot seq : Int) : Rk × Int := if slottedE q R seg slot ≠ 0 then (R, slottedE q R seg slot) else refL q m seg slot seq (List.range q.2.1.toNat) R
theorem bwrite_bys {q m : G3} {R : Rk} (h : R.bys) (s : Int × Int) {b : List Int} (hb : Byts b) : (bwrite q m R s b).bys := by
  unfold bwrite
  split
  · unfold Rk.write
    split
    · exact ((SameS.gated R _ _ _).bys h).put hb
    · exact (SameS.gated R _ _ _).bys h
  · exact h
theorem drop_range {n i : Nat} (h : i < n) : (List.range n).drop i = i :: (List.range n).drop (i + 1) := by
  rw [List.drop_eq_getElem_cons (by simpa using h)]; simp
theorem stripe_Refill_spec (hcr : RowsOk cv) (hcv : LacksOk cv) (bb rb : Nat) (q m : G3) (hq : RightB q = true) (R : Rk) (hby : R.bys) (ds : Slc) (ps : List Nat) (seg slot seq : Int) :
    wps g (bnk bb rb q m * rackP rb R ds ps) (stripe_Refill cv (ptr bb) seg slot seq) (fun x => pr (x = (sRefill q m R seg slot seq).2) * bnk bb rb q m * rackP rb (sRefill q m R seg slot seq).1 ds ps) := by
  unfold stripe_Refill
  have b1 := (RightB.bnd hq).d3
  have b2 := (RightB.bnd hq).d16
  refine wps_alloc fun x4 => ?_
  refine wps_alloc fun x7 => ?_
  refine wps_alloc fun x8 => ?_
  refine wps_ld (ptr bb) (by rfl) ?_
  refine wps_val2 (fun _ => stripe_slotted_val bb rb q m R ds ps seg slot) ?_
  by_cases ht : slottedE q R seg slot = 0
  rotate_left
  · have hsw : sRefill q m R seg slot seq = (R, slottedE q R seg slot) := if_pos ht
    rw [hsw]
    refine wps_ite (fun _ => ?_) (fun h => absurd (by simpa using ht) h)
    refine wps_st (by simp) ?_
    refine wps_ld (slottedE q R seg slot) (by rfl) (wps_pure ?_)
    repeat (first
      | (with_reducible exact ent_drop)
      | (with_reducible refine ent_pick ?_)
      | (refine ent_pickC (by rfl) ?_)
      | (refine ent_pickS (by rfl) ?_)
      | (refine ent_pickM (by rfl) ?_)
      | (refine ent_prx ?_ ?_; rotate_left)
      | (refine ent_prq ?_))
    all_goals first | rfl | trivial
  refine wps_ite (fun h => absurd h (by simp [ht])) (fun _ => ?_)
  obtain ⟨hsl, hse⟩ := slotted_in ht
  have hsw : sRefill q m R seg slot seq = refL q m seg slot seq (List.range q.2.1.toNat) R := by unfold sRefill; rw [if_neg (by simp [ht])]
  rw [hsw]
  refine wps_ld (ptr bb) (by rfl) ?_
  refine wps_ld seq (by rfl) ?_
  refine wps_bind (stripe_lacks_spec bb seg slot seq) fun v => ?_
  refine wps_ex fun a1 => wps_ex fun a2 => wps_ex fun a3 => wps_ex fun a4 => ?_
  rw [star_assoc]
  refine wps_pr fun hv => ?_
  subst hv
  generalize hfin : refL q m seg slot seq (List.range q.2.1.toNat) R = fin
  refine wps_rangeY (F := emp)
    (fun s => pr (refL q m seg slot seq ((List.range q.2.1.toNat).drop s.1) s.2 = fin) * pc x4 [.pointer (ptr bb)] * pc x7 [.int .i64 seq] * pc x8 [.int .i64 0])
    (fun j => match j with | .ret => bnk bb rb q m * rackP rb fin.1 ds ps * pc x8 [.int .i64 fin.2] | .exit _ => pr False)
    (fun s x t => ex fun b : Nat => pr (t = (x.1, ⟨b, 0, none⟩)) * bnk bb rb q m * rackP rb s.2 ds ps * own 2 x.1 (sv (spotsL q seg s.1)) * (pr (refL q m seg slot seq ((List.range q.2.1.toNat).drop s.1) s.2 = fin) * pc x4 [.pointer (ptr bb)] * pc x7 [.int .i64 seq] * pc x8 [.int .i64 0]) * pc b [.int .i64 x.2.1, .int .i64 x.2.2])
    (lacks_iter hcr hcv a1 a2 a3 a4 bb rb q m seg slot seq ⟨hq, hse.1, hse.2⟩ hsl R hby ds ps) ?_ ?_ ?_ ?_ ?_ ?_ ?_
  · refine Ent.trans ?_ (Ent.of_eq (emp_star _).symm)
    simp only [← star_assoc]
    repeat (first
      | (with_reducible exact ent_drop)
      | (with_reducible refine ent_pick ?_)
      | (refine ent_pickC (by rfl) ?_)
      | (refine ent_pickS (by rfl) ?_)
      | (refine ent_pickM (by rfl) ?_)
      | (refine ent_prx ?_ ?_; rotate_left)
      | (refine ent_prq ?_))
    all_goals first | exact hfin | trivial
  · intro s x hx g
    refine wps_alloc fun b => ?_
    refine wps_stA (by simp) (by simp [Value.oneCell']) (wps_pure (ent_ex b ?_))
    simp only [← star_assoc]
    refine ent_pickC (by rfl) ?_
    repeat (first
      | (with_reducible exact ent_drop)
      | (with_reducible refine ent_pick ?_)
      | (refine ent_pickC (by rfl) ?_)
      | (refine ent_pickS (by rfl) ?_)
      | (refine ent_pickM (by rfl) ?_)
      | (refine ent_prx ?_ ?_; rotate_left)
      | (refine ent_prq ?_))
    all_goals first | rfl | trivial
  · intro s x hx t g
    refine wps_ex fun b => ?_
    simp only [← star_assoc]
    refine wps_prP fun hR => ?_
    refine wps_prP fun ht => ?_
    subst ht
    obtain ⟨i, R1⟩ := s
    obtain ⟨⟨hlt, hby1, hyes⟩, hsp⟩ := hx
    dsimp only at hlt hby1 hyes hsp hR ⊢
    rw [drop_range (show i < q.2.1.toNat by omega), refL, if_pos hyes, ← hsp] at hR
    have hspl := spotsL_len q seg i b1
    refine wps_ld (ptr bb) (by rfl) ?_
    refine wps_ldA x.2 (by rfl) ?_
    refine wps_ld seq (by rfl) ?_
    refine wps_fact (Ent.trans (ent_pick1 (A := rackP rb R1 ds ps)) rackP_good) fun hg => ?_
    refine wps_call3 (fun _ => stripe_others_spec bb rb q m R1 hby1 ds ps x.1 (spotsL q seg i) (by omega) x.2 seq (H := own 2 x.1 (sv (spotsL q seg i))) (own_rsl _ _ _)) fun y => ?_
    have hob := othV_byts (q := q) (m := m) hby1 x.2 seq (spotsL q seg i)
    generalize othV q m R1 x.2 seq (spotsL q seg i) = o at *
    simp only [← star_assoc]
    refine wps_prP fun hy => ?_
    rw [hy]
    cases ho : o.2
    · rw [ho, if_pos rfl] at hR
      subst hR
      refine wps_ite (fun _ => ?_) (fun h => absurd rfl h)
      refine wps_st (by simp) (wps_pure ?_)
      dsimp only
      repeat (first
        | (with_reducible exact ent_drop)
        | (with_reducible refine ent_pick ?_)
        | (refine ent_pickC (by rfl) ?_)
        | (refine ent_pickS (by rfl) ?_)
        | (refine ent_pickM (by rfl) ?_)
        | (refine ent_prx ?_ ?_; rotate_left)
        | (refine ent_prq ?_))
    rw [ho, if_neg (by decide)] at hR
    refine wps_ite (fun h => absurd h (by decide)) (fun _ => ?_)
    refine wps_ld (ptr bb) (by rfl) ?_
    refine wps_ld x.2.1 (by rfl) ?_
    refine wps_ld x.2.2 (by rfl) ?_
    refine wps_call3 (fun _ => bank_Write_spec (H := own 1 y.1 (bv o.1)) bb rb q m R1 ds ps x.2.1 x.2.2 y.1 o.1 (own_rsl _ _ _) (by have := hob.2; omega)) fun e => ?_
    simp only [← star_assoc]
    refine wps_prP fun he => ?_
    have he' : e = bgate q m R1 x.2 o.1 := he
    have hbw : (if (slotV q m x.2.1).2 = true then R1.write (slotV q m x.2.1).1 x.2.2 o.1 else R1) = bwrite q m R1 x.2 o.1 := rfl
    rw [hbw, he']
    by_cases h0 : bgate q m R1 x.2 o.1 = 0
    · rw [if_neg (by simp [h0])] at hR
      refine wps_ite (fun h => absurd h (by simp [h0])) (fun _ => wps_pure ?_)
      dsimp only
      refine ent_ex (i + 1, bwrite q m R1 x.2 o.1) ?_
      simp only [← star_assoc]
      repeat (first
        | (with_reducible exact ent_drop)
        | (with_reducible refine ent_pick ?_)
        | (refine ent_pickC (by rfl) ?_)
        | (refine ent_pickS (by rfl) ?_)
        | (refine ent_pickM (by rfl) ?_)
        | (refine ent_prx ?_ ?_; rotate_left)
        | (refine ent_prq ?_))
      all_goals first | exact ⟨trivial, bwrite_bys hby1 _ hob.1⟩ | exact hR | trivial
    · rw [if_pos h0] at hR
      subst hR
      refine wps_ite (fun _ => ?_) (fun h => absurd (by simpa using h0) h)
      refine wps_st (by simp) (wps_pure ?_)
      dsimp only
      repeat (first
        | (with_reducible exact ent_drop)
        | (with_reducible refine ent_pick ?_)
        | (refine ent_pickC (by rfl) ?_)
        | (refine ent_pickS (by rfl) ?_)
        | (refine ent_pickM (by rfl) ?_)
        | (refine ent_prx ?_ ?_; rotate_left)
        | (refine ent_prq ?_))
  · intro s s' h
    refine Ent.starl (Ent.starl (Ent.starl fun o ho => ?_))
    have hn := h.no
    have hx := h.nx
    have hlt := h.lt
    subst hx
    have ho' : refL q m seg slot seq ((List.range q.2.1.toNat).drop s.1) s.2 = fin := ho
    rw [drop_range (show s.1 < q.2.1.toNat by omega), refL, if_neg (by simp [hn])] at ho'
    exact ho'
  · intro D s hf
    simp only [← star_assoc]
    refine wps_prP fun hR => ?_
    rw [List.drop_of_length_le (by have := hf.1; simp; omega), refL] at hR
    subst hR
    refine wps_st (by simp) ?_
    refine wps_take ?_
    refine wps_ld 0 (by rfl) (wps_pure ?_)
    repeat (first
      | (with_reducible exact ent_drop)
      | (with_reducible refine ent_pick ?_)
      | (refine ent_pickC (by rfl) ?_)
      | (refine ent_pickS (by rfl) ?_)
      | (refine ent_pickM (by rfl) ?_)
      | (refine ent_prx ?_ ?_; rotate_left)
      | (refine ent_prq ?_))
    all_goals first | rfl | trivial
  · intro D
    simp only [← star_assoc]
    refine wps_take ?_
    refine wps_ld fin.2 (by rfl) (wps_pure ?_)
    repeat (first
      | (with_reducible exact ent_drop)
      | (with_reducible refine ent_pick ?_)
      | (refine ent_pickC (by rfl) ?_)
      | (refine ent_pickS (by rfl) ?_)
      | (refine ent_pickM (by rfl) ?_)
      | (refine ent_prx ?_ ?_; rotate_left)
      | (refine ent_prq ?_))
    all_goals first | rfl | trivial
  · intro D id
    exact wps_false (fun o ho => ent_right _ _ o (ent_left _ _ o ho))
end Go.Proofs.Ytldmeimebebllaa
namespace Go.Proofs.Ytldmeimebebllaa
open Go.Mo
set_option linter.unusedVariables false
variable {g : Fr} {cv : CV}
def Quiet (R : Rk) (j : Nat) (f : Nat → List Int) : Prop := (∀ s, (R.dk j).cached s = none) ∧ ∀ s : Nat, (R.dk j).lasts s = f s
theorem Quiet.ticked {R : Rk} {j : Nat} {f : Nat → List Int} (h : Quiet R j f) : Quiet R.ticked j f := by
  unfold Rk.ticked
  split
  · exact h
  · exact h
theorem Quiet.gated {R : Rk} {j : Nat} {f : Nat → List Int} (h : Quiet R j f) (k s size : Int) : Quiet (R.gated k s size) j f := by
  unfold Rk.gated
  split
  · exact h
  · exact h.ticked
theorem Quiet.flush {R : Rk} {j : Nat} {f : Nat → List Int} (h : Quiet R j f) (k : Int) : Quiet (R.flush k) j f := by
  have hg := h.gated k 0 64
  unfold Rk.flush
  split
  · by_cases hj : j = k.toNat
    · subst hj
      refine ⟨fun s => ?_, fun s => ?_⟩
      · simp [Rk.setD, Dk.clean]
      · simp [Rk.setD, Dk.clean, Dk.flushed, hg.1, hg.2]
    · refine ⟨fun s => ?_, fun s => ?_⟩
      · simp only [Rk.setD, if_neg hj]; exact hg.1 s
      · simp only [Rk.setD, if_neg hj]; exact hg.2 s
  · exact hg
theorem Quiet.flushL {j : Nat} {f : Nat → List Int} : ∀ (xs : List Int) {R : Rk}, Quiet R j f → Quiet (flushL xs R).1 j f
  | [], _, h => h
  | d :: xs, R, h => by
    unfold Proofs.Ytldmeimebebllaa.flushL
    split
    · exact h.flush d
    · exact Quiet.flushL xs (h.flush d)
theorem Quiet.doom {R : Rk} {j : Nat} {f : Nat → List Int} (h : Quiet R j f) (k c : Int) : Quiet (R.doom k c) j f := by
  unfold Rk.doom
  split
  · exact h
  · by_cases hj : j = k.toNat
    · subst hj
      refine ⟨fun s => ?_, fun s => ?_⟩
      · simp [Rk.setD, h.1]
      · simp [Rk.setD, h.2]
    · refine ⟨fun s => ?_, fun s => ?_⟩
      · simp only [Rk.setD, if_neg hj]; exact h.1 s
      · simp only [Rk.setD, if_neg hj]; exact h.2 s
theorem settled_flush {R : Rk} (h : Settled R (fun _ => false)) {d : Int} (hd : 0 ≤ d ∧ d < R.n) (hs : 0 < R.ns) : Quiet (R.flush d) d.toNat (fun s => (R.dk d.toNat).sec (s : Int)) := by
  have hg := h.gate hd (s := 0) (by omega)
  unfold Rk.flush
  rw [hg, if_pos (by decide), gated_in h.off hd (by omega), h.tick]
  refine ⟨fun s => ?_, fun s => ?_⟩
  · simp [Rk.setD, Dk.clean]
  · simp only [Rk.setD, if_true, Dk.clean, Dk.flushed, Dk.sec]
    cases (R.dk d.toNat).cached (s : Int) <;> simp
theorem flush_lasts {d : Int} : ∀ {xs : List Int} {R : Rk}, Settled R (fun _ => false) → (∀ d ∈ xs, 0 ≤ d ∧ d < R.n) → 0 < R.ns → d ∈ xs → Quiet (flushL xs R).1 d.toNat (fun s => (R.dk d.toNat).sec (s : Int))
  | [], _, _, _, _, hm => by simp at hm
  | d' :: xs, R, h, hx, hs, hm => by
    have hd := hx d' (by simp)
    have hg := h.gate hd (s := 0) (by omega)
    have h12 : ¬ R.gate d' 0 64 = 12 := by rw [hg]; split <;> omega
    simp only [Proofs.Ytldmeimebebllaa.flushL, if_neg h12]
    have hf := h.flush (R := R) (k := d') (by rw [gated_in h.off hd (by omega), h.tick])
    have hn := flush_n (R := R) d'
    by_cases hin : d ∈ xs
    · have := flush_lasts (d := d) hf (by rw [hn.1]; exact fun d' hd' => hx d' (by simp [hd'])) (by rw [hn.2]; exact hs) hin
      have e : (fun s : Nat => ((R.flush d').dk d.toNat).sec (s : Int)) = fun s : Nat => (R.dk d.toNat).sec (s : Int) := by
        funext s; exact (SameS.flush R d').sec _ s
      rw [e] at this
      exact this
    · obtain rfl : d = d' := by
        rcases List.mem_cons.1 hm with h | h
        · exact h
        · exact absurd h hin
      exact Quiet.flushL xs (settled_flush h hd hs)
theorem wr_spare : ∀ (es : List ((Int × Int) × List Int)) (R : Rk), Calm R → R.n = 4 → R.ns = 41 → (∀ e ∈ es, (0 ≤ e.1.1 ∧ e.1.1 < 3) ∧ (0 ≤ e.1.2 ∧ e.1.2 < 41) ∧ e.2.length = 64) →
    (wrAll Q3 m0 es R).1.dk 3 = R.dk 3
  | [], R, h, hn, hs, _ => rfl
  | e :: es, R, h, hn, hs, he => by
    obtain ⟨⟨a0, a1⟩, ⟨b0, b1⟩, hl⟩ := he e (by simp)
    have hsl := slot0 ⟨a0, a1⟩
    have h2 : (slotV Q3 m0 e.1.1).2 = true := by
      obtain ⟨i0, hi0⟩ : ∃ i0 : Nat, e.1.1 = (i0 : Int) := ⟨e.1.1.toNat, by omega⟩
      rw [hi0]; exact (slotV_in m0 i0 (by omega)).1
    have hw := h.write (k := e.1.1) (s := e.1.2) (b := e.2) (by rw [hn]; omega) (by rw [hs]; omega) hl
    have hg : bgate Q3 m0 R e.1 e.2 = 0 := by unfold bgate; rw [h2, if_pos rfl, hsl]; exact hw.1
    have hb : bwrite Q3 m0 R e.1 e.2 = R.put e.1.1 e.1.2 e.2 := by unfold bwrite; rw [h2, if_pos rfl, hsl]; exact hw.2
    rw [wrAll, hg, if_neg (by decide), hb]
    rw [wr_spare es (R.put e.1.1 e.1.2 e.2) (h.put _ _ _) hn hs (fun e' h' => he e' (by simp [h']))]
    simp only [Rk.put]
    rw [if_neg (by omega)]
theorem oth_of {q m : G3} {R : Rk} {seg r i : Nat} {seq : Int} {l : List BlkA} (E : EncD seq l) (hr : r < 3) (hi : i < 3) (hg : ∀ j, j < 3 → j ≠ i → goodV Q3 m R (spt seg r j) seq = (datAt Q3 seq l r j, true)) :
    othV Q3 m R (spt seg r i) seq (spotsL Q3 seg r) = (datAt Q3 seq l r i, true) := by
  have hs := spotsL_small seg r
  rw [show spotsL Q3 seg r = [spt seg r 0, spt seg r 1, spt seg r 2] from hs]
  have h0 := E.dat (r := r) (i := 0) hr (by decide)
  have h1 := E.dat (r := r) (i := 1) hr (by decide)
  have e0 : datAt Q3 seq l r 0 = encAt seq l (r * 2) := dat_blk (by decide)
  have e1 : datAt Q3 seq l r 1 = encAt seq l (r * 2 + 1) := dat_blk (by decide)
  have ht : (encAt seq l (r * 2 + 1)).take 4 = (encAt seq l (r * 2)).take 4 := by rw [encAt_take, encAt_take]
  have l0 : (encAt seq l (r * 2)).length = 64 := e0 ▸ h0.len
  have l1 : (encAt seq l (r * 2 + 1)).length = 64 := e1 ▸ h1.len
  have hp := dat_par E hr
  unfold othV
  have hi' : i = 0 ∨ i = 1 ∨ i = 2 := by omega
  rcases hi' with rfl | rfl | rfl
  · have n1 := spt_ne (seg := seg) hr (i := 1) (j := 0) (by decide) (by decide) (by decide)
    have n2 := spt_ne (seg := seg) hr (i := 2) (j := 0) (by decide) (by decide) (by decide)
    simp only [othL, if_true, if_neg n1, if_neg n2, hg 1 (by decide) (by decide), hg 2 (by decide) (by decide), Option.map_some]
    rw [e1, hp, e0, lost1 l0 l1 ht (E.by _)]; rfl
  · have n1 := spt_ne (seg := seg) hr (i := 0) (j := 1) (by decide) (by decide) (by decide)
    have n2 := spt_ne (seg := seg) hr (i := 2) (j := 1) (by decide) (by decide) (by decide)
    simp only [othL, if_true, if_neg n1, if_neg n2, hg 0 (by decide) (by decide), hg 2 (by decide) (by decide), Option.map_some]
    rw [e0, hp, e1, lost2 l0 l1 ht (E.by _)]; rfl
  · have n1 := spt_ne (seg := seg) hr (i := 0) (j := 2) (by decide) (by decide) (by decide)
    have n2 := spt_ne (seg := seg) hr (i := 1) (j := 2) (by decide) (by decide) (by decide)
    simp only [othL, if_true, if_neg n1, if_neg n2, hg 0 (by decide) (by decide), hg 1 (by decide) (by decide), Option.map_some]
    rw [e0, e1, parL2 l0 l1 ht, hp]; rfl
theorem oth_none {m : G3} {R : Rk} {seg r i j : Nat} {seq : Int} (hr : r < 3) (hi : i < 3) (hj : j < 3) (hne : j ≠ i) (hgj : (goodV Q3 m R (spt seg r j) seq).2 = false) : othV Q3 m R (spt seg r i) seq (spotsL Q3 seg r) = ([], false) := by
  have hs := spotsL_small seg r
  rw [show spotsL Q3 seg r = [spt seg r 0, spt seg r 1, spt seg r 2] from hs]
  have key : ∀ ss : List (Int × Int), spt seg r j ∈ ss → othL Q3 m R (spt seg r i) seq ss = none := by
    intro ss
    induction ss with
    | nil => intro h; simp at h
    | cons s ss ih =>
      intro hm
      rw [othL]
      rcases List.mem_cons.1 hm with rfl | hm
      · rw [if_neg (spt_ne hr hj hi hne), hgj]; simp
      · rw [ih hm]
        split
        · rfl
        · split <;> rfl
  have hjm : j = 0 ∨ j = 1 ∨ j = 2 := by omega
  unfold othV
  rw [key _ (by rcases hjm with rfl | rfl | rfl <;> simp)]
theorem there0 {R : Rk} {seg : Nat} (hs : seg < 12) (ho : R.off = false) : thereE Q3 R seg = 0 := by
  unfold thereE
  rw [if_neg (by show ¬ ¬ (0 ≤ (seg : Int) ∧ (seg : Int) < 12); omega), if_neg (by simp [ho])]
theorem SegF.sound {m : G3} {R : Rk} {f : Nat → Bool} {seg : Nat} {seq : Int} {l : List BlkA} (h : SegF m R f seg seq l) (hno : ∀ i, i < 3 → lostS m f i = false) : sSound Q3 m R seg seq = (true, 0) := by
  unfold sSound
  rw [if_neg (by simp [there0 h.s12 h.set.off]), show Q3.2.1.toNat = 3 from rfl, List.all_eq_true.2]
  intro r hr
  have hr := List.mem_range.1 hr
  have hg : ∀ j, j < 3 → goodV Q3 m R (spt seg r j) seq = (datAt Q3 seq l r j, true) := fun j hj => by
    have hrg := (spt_rng h.s12 hr hj).1
    rw [h.good hr hj, hno _ (by omega)]; simp
  unfold sndRow
  rw [parSpot3, hg 2 (by decide), oth_of (q := Q3) h.enc hr (by decide) fun j hj _ => hg j hj]
  simp
theorem SegF.unsound {m : G3} {R : Rk} {f : Nat → Bool} {seg : Nat} {seq : Int} {l : List BlkA} (h : SegF m R f seg seq l) {i : Nat} (hi : i < 3) (hl : lostS m f (spt seg 0 i).1.toNat = true) : sSound Q3 m R seg seq = (false, 0) := by
  unfold sSound
  rw [if_neg (by simp [there0 h.s12 h.set.off]), show Q3.2.1.toNat = 3 from rfl, all_false (i := 0) (by decide)]
  have hg := h.good (r := 0) (by decide) hi
  rw [hl] at hg
  simp only [if_true] at hg
  unfold sndRow
  rw [parSpot3]
  by_cases h2 : i = 2
  · subst h2
    rw [hg]; simp
  · rw [oth_none (r := 0) (j := i) (i := 2) (by decide) (by decide) hi h2 (by rw [hg])]
    simp
end Go.Proofs.Ytldmeimebebllaa
namespace Go.Proofs.Ytldmeimebebllaa
open Go.Mo
set_option linter.unusedVariables false
variable {g : Fr} {cv : CV}
abbrev m1 (slot : Nat) : G3 := (1, (slot : Int), 1)
theorem slot1 {slot i : Nat} (hi : i < 3) : slotV Q3 (m1 slot) (i : Int) = (if slot = i then 3 else (i : Int), true) := by
  have h := slotV_in (m1 slot) i hi
  refine Prod.ext ?_ h.1
  rw [show (slotV Q3 (m1 slot) (i : Int)).1 = _ from h.2]
  by_cases e : slot = i
  · rw [if_pos e, if_pos]
    exact ⟨by simp, by show (slot : Int) = i; omega⟩
  · rw [if_neg e, if_neg]
    rintro ⟨_, h2⟩
    have h2 : (slot : Int) = i := h2
    omega
structure Refi (R : Rk) (slot seg : Nat) (seq : Int) (l : List BlkA) (k : Nat) : Prop where
  set : Settled R (fun j => decide (j = slot))
  n : R.n = 4
  ns : R.ns = 41
  rest : ∀ r i, r < 3 → i < 3 → (spt seg r i).1 ≠ (slot : Int) → (R.dk (spt seg r i).1.toNat).sec (spt seg r i).2 = datAt Q3 seq l r i
  done : ∀ r i, r < k → r < 3 → i < 3 → (spt seg r i).1 = (slot : Int) → (R.dk 3).sec (spt seg r i).2 = datAt Q3 seq l r i
  todo : ∀ r, k ≤ r → r < 3 → (R.dk 3).sec ((5 + (seg * 3 + r) : Nat) : Int) = noughts
  enc : EncD seq l
  s12 : seg < 12
  fit : fitsN 4 seq
  pos : 1 ≤ seq
  s3 : slot < 3
section
variable {R : Rk} {slot seg : Nat} {seq : Int} {l : List BlkA} {k : Nat}
theorem Refi.brd (h : Refi R slot seg seq l k) {r i : Nat} (hr : r < 3) (hi : i < 3) :
    goodV Q3 (m1 slot) R (spt seg r i) seq = ((R.dk (if (spt seg r i).1 = (slot : Int) then 3 else (spt seg r i).1.toNat)).sec (spt seg r i).2, (headOf ((R.dk (if (spt seg r i).1 = (slot : Int) then 3 else (spt seg r i).1.toNat)).sec (spt seg r i).2)).1 == seq) := by
  have hrg := spt_rng h.s12 hr hi
  have hb := sec_brd (m := m1 slot) h.set h.n h.ns (s := spt seg r i) hrg.1 (by omega)
  obtain ⟨j, hj⟩ : ∃ j : Nat, (spt seg r i).1 = (j : Int) := ⟨(spt seg r i).1.toNat, by omega⟩
  have hj3 : j < 3 := by omega
  have hs3 := h.s3
  have hsl : (slotV Q3 (m1 slot) (spt seg r i).1).1.toNat = if (spt seg r i).1 = (slot : Int) then 3 else (spt seg r i).1.toNat := by
    rw [hj, slot1 hj3]
    by_cases e : slot = j
    · rw [if_pos e, if_pos (by omega)]; rfl
    · rw [if_neg e, if_neg (by omega)]
  rw [hsl] at hb
  have hf : decide ((if (spt seg r i).1 = (slot : Int) then 3 else (spt seg r i).1.toNat) = slot) = false := by
    refine decide_eq_false ?_
    split <;> omega
  simp only [hf] at hb
  unfold goodV
  rw [hb.1, if_pos (by decide), hb.2 trivial]
theorem Refi.good_rest (h : Refi R slot seg seq l k) {r i : Nat} (hr : r < 3) (hi : i < 3) (hne : (spt seg r i).1 ≠ (slot : Int)) : goodV Q3 (m1 slot) R (spt seg r i) seq = (datAt Q3 seq l r i, true) := by
  rw [h.brd hr hi, if_neg hne, h.rest r i hr hi hne]
  simp [(h.enc.dat hr hi).head h.fit]
theorem Refi.good_done (h : Refi R slot seg seq l k) {r i : Nat} (hr : r < 3) (hi : i < 3) (hk : r < k) (he : (spt seg r i).1 = (slot : Int)) : goodV Q3 (m1 slot) R (spt seg r i) seq = (datAt Q3 seq l r i, true) := by
  rw [h.brd hr hi, if_pos he, h.done r i hk hr hi he]
  simp [(h.enc.dat hr hi).head h.fit]
theorem Refi.good_todo (h : Refi R slot seg seq l k) {r i : Nat} (hr : r < 3) (hi : i < 3) (hk : k ≤ r) (he : (spt seg r i).1 = (slot : Int)) : (goodV Q3 (m1 slot) R (spt seg r i) seq).2 = false := by
  rw [h.brd hr hi, if_pos he, show (spt seg r i).2 = ((5 + (seg * 3 + r) : Nat) : Int) from rfl, h.todo r hk hr]
  have hh : (headOf noughts).1 = 0 := by decide
  have := h.pos
  show ((headOf noughts).1 == seq) = false
  rw [hh]
  simp; omega
theorem slotSp3 {slot seg r : Nat} (hs : slot < 3) : ∃ i, i < 3 ∧ slotSp Q3 seg r (slot : Int) = spt seg r i ∧ (spt seg r i).1 = (slot : Int) := by
  have h1 : (3 : Int) ≤ Q3.1 := by decide
  have h2 : (0 : Int) ≤ (slot : Int) ∧ (slot : Int) < Q3.1 := by show (0 : Int) ≤ (slot : Int) ∧ (slot : Int) < 3; omega
  have hg := slotSp_get (q := Q3) (seg := seg) (r := r) h1 h2
  have hf := slotSp_fst (q := Q3) (seg := seg) (r := r) h1 h2
  have hm := List.mem_of_getElem? hg
  rw [show spotsL Q3 seg r = [spt seg r 0, spt seg r 1, spt seg r 2] from spotsL_small seg r] at hm
  simp only [List.mem_cons, List.not_mem_nil, or_false] at hm
  rcases hm with hm | hm | hm <;> rw [hm] at hf ⊢
  · exact ⟨0, by decide, rfl, hf⟩
  · exact ⟨1, by decide, rfl, hf⟩
  · exact ⟨2, by decide, rfl, hf⟩
theorem Settled.put {R : Rk} {f : Nat → Bool} (h : Settled R f) (k s : Int) (b : List Int) : Settled (R.put k s b) f := by
  refine ⟨h.off, h.count, fun j => ?_, fun j => ?_⟩
  · simp only [Rk.put]; split
    · rename_i e; subst e; exact h.failed _
    · exact h.failed j
  · simp only [Rk.put]; split
    · rename_i e; subst e; exact h.counts _
    · exact h.counts j
theorem spt_slot_only {seg r i j : Nat} (hr : r < 3) (hi : i < 3) (hj : j < 3) (h : (spt seg r i).1 = (spt seg r j).1) : i = j := (spt_inj hr hr hi hj (Prod.ext h rfl)).2.2
theorem Refi.step (h : Refi R slot seg seq l k) (hk : k < 3) : ∃ R', (∀ rs, refL Q3 (m1 slot) seg slot seq (k :: rs) R = refL Q3 (m1 slot) seg slot seq rs R') ∧ Refi R' slot seg seq l (k + 1) ∧ (∀ j, j ≠ 3 → R'.dk j = R.dk j) ∧ (R.bys → R'.bys) := by
  obtain ⟨i, hi, hsp, hf⟩ := slotSp3 (slot := slot) (seg := seg) (r := k) h.s3
  have hd := h.enc.dat hk hi
  have hs3 := h.s3
  have hrg := spt_rng h.s12 hk hi
  have hot : othV Q3 (m1 slot) R (spt seg k i) seq (spotsL Q3 seg k) = (datAt Q3 seq l k i, true) := oth_of (q := Q3) h.enc hk hi fun j hj hne => h.good_rest hk hj (by
    rw [← hf]; exact fun e => hne (spt_slot_only hk hj hi e))
  have hsl : slotV Q3 (m1 slot) (spt seg k i).1 = (3, true) := by rw [hf, slot1 h.s3, if_pos rfl]
  have hg0 : R.gate 3 (spt seg k i).2 64 = 0 := by
    rw [h.set.gate (by rw [h.n]; omega) (by rw [h.ns]; omega)]
    rw [show decide ((3 : Int).toNat = slot) = false from decide_eq_false (by show ¬ 3 = slot; omega)]; rfl
  have hl : ((datAt Q3 seq l k i).length : Int) = 64 := by rw [hd.len]; rfl
  have hg : bgate Q3 (m1 slot) R (spt seg k i) (datAt Q3 seq l k i) = 0 := by
    unfold bgate; rw [hsl, if_pos rfl, hl]; exact hg0
  have hb : bwrite Q3 (m1 slot) R (spt seg k i) (datAt Q3 seq l k i) = R.put 3 (spt seg k i).2 (datAt Q3 seq l k i) := by
    unfold bwrite; rw [hsl, if_pos rfl]
    unfold Rk.write
    rw [hl, hg0, if_pos rfl, gated_in h.set.off (by rw [h.n]; omega) (by rw [h.ns]; omega), h.set.tick]
  have hlk : lackB Q3 (m1 slot) R seg slot seq k = true := by
    unfold lackB; rw [hsp, h.good_todo hk hi (Nat.le_refl _) hf]; rfl
  refine ⟨R.put 3 (spt seg k i).2 (datAt Q3 seq l k i), fun rs => ?_, ⟨h.set.put _ _ _, h.n, h.ns, fun r j hr hj hne => ?_, fun r j hrk hr hj he => ?_, fun r hrk hr => ?_, h.enc, h.s12, h.fit, h.pos, h.s3⟩, fun j hj => ?_, fun hby => hby.put hd.byts⟩
  · rw [refL, if_pos hlk, hsp, hot, if_neg (by simp)]
    dsimp only
    rw [hg, hb, if_neg (by decide)]
  · have hr2 := (spt_rng h.s12 hr hj).1
    rw [put_sec, if_neg (by rintro ⟨e, _⟩; have : (3 : Int).toNat = 3 := rfl; omega)]
    exact h.rest r j hr hj hne
  · rw [put_sec]
    by_cases hrk2 : r = k
    · subst hrk2
      have : j = i := spt_slot_only hr hj hi (he.trans hf.symm)
      subst this
      rw [if_pos ⟨rfl, rfl⟩]
    · rw [if_neg]
      · exact h.done r j (by omega) hr hj he
      · rintro ⟨_, e⟩
        have e1 : (spt seg r j).2 = ((5 + (seg * 3 + r) : Nat) : Int) := rfl
        have e2 : (spt seg k i).2 = ((5 + (seg * 3 + k) : Nat) : Int) := rfl
        rw [e1, e2] at e
        omega
  · rw [put_sec, if_neg]
    · exact h.todo r (by omega) hr
    · rintro ⟨_, e⟩
      have e2 : (spt seg k i).2 = ((5 + (seg * 3 + k) : Nat) : Int) := rfl
      rw [e2] at e
      omega
  · simp only [Rk.put]
    rw [if_neg (by show ¬ j = 3; exact hj)]
theorem Refi.all (h : Refi R slot seg seq l 0) : ∃ R', sRefill Q3 (m1 slot) R seg slot seq = (R', 0) ∧ Refi R' slot seg seq l 3 ∧ (∀ j, j ≠ 3 → R'.dk j = R.dk j) ∧ (R.bys → R'.bys) := by
  obtain ⟨Ra, a1, a2, a3, a4⟩ := h.step (by decide)
  obtain ⟨Rb, b1, b2, b3, b4⟩ := a2.step (by decide)
  obtain ⟨Rc, c1, c2, c3, c4⟩ := b2.step (by decide)
  refine ⟨Rc, ?_, c2, fun j hj => (c3 j hj).trans ((b3 j hj).trans (a3 j hj)), fun hb => c4 (b4 (a4 hb))⟩
  have hs3 := h.s3
  have ht : slottedE Q3 R seg slot = 0 := by
    unfold slottedE
    rw [if_neg (by show ¬ ¬ (0 ≤ (slot : Int) ∧ (slot : Int) < 3); omega), there0 h.s12 h.set.off]
  unfold sRefill
  rw [if_neg (by simp [ht]), show List.range Q3.2.1.toNat = [0, 1, 2] from rfl, a1, b1, c1]
  rfl
theorem Refi.segF (h : Refi R slot seg seq l 3) : SegF (m1 slot) R (fun j => decide (j = slot)) seg seq l ∧ ∀ i, i < 3 → lostS (m1 slot) (fun j => decide (j = slot)) i = false := by
  have hs3 := h.s3
  refine ⟨⟨h.set, h.n, h.ns, fun r i hr hi => ?_, h.enc, h.s12, h.fit⟩, fun i hi => ?_⟩
  · have hrg := (spt_rng h.s12 hr hi).1
    obtain ⟨j, hj⟩ : ∃ j : Nat, (spt seg r i).1 = (j : Int) := ⟨(spt seg r i).1.toNat, by omega⟩
    rw [hj, slot1 (by omega)]
    by_cases e : slot = j
    · rw [if_pos e]
      exact h.done r i (by omega) hr hi (by omega)
    · rw [if_neg e, ← hj]
      exact h.rest r i hr hi (by omega)
  · unfold lostS
    rw [slot1 hi]
    refine decide_eq_false ?_
    show ¬ (if slot = i then (3 : Int) else (i : Int)).toNat = slot
    split <;> omega
theorem Refi.missing0 (h : Refi R slot seg seq l 0) : sMissing Q3 (m1 slot) R seg slot seq = (true, 0) := by
  have hs3 := h.s3
  have ht : slottedE Q3 R seg slot = 0 := by
    unfold slottedE
    rw [if_neg (by show ¬ ¬ (0 ≤ (slot : Int) ∧ (slot : Int) < 3); omega), there0 h.s12 h.set.off]
  unfold sMissing
  rw [if_neg (by simp [ht])]
  obtain ⟨i, hi, hsp, hf⟩ := slotSp3 (slot := slot) (seg := seg) (r := 0) h.s3
  rw [any_true (i := 0) (by decide) (by unfold lackB; rw [show slotSp Q3 (seg : Int) 0 (slot : Int) = _ from hsp, h.good_todo (by decide) hi (by omega) hf]; rfl)]
theorem Refi.missing3 (h : Refi R slot seg seq l 3) : sMissing Q3 (m1 slot) R seg slot seq = (false, 0) := by
  have hs3 := h.s3
  have ht : slottedE Q3 R seg slot = 0 := by
    unfold slottedE
    rw [if_neg (by show ¬ ¬ (0 ≤ (slot : Int) ∧ (slot : Int) < 3); omega), there0 h.s12 h.set.off]
  unfold sMissing
  rw [if_neg (by simp [ht]), List.any_eq_false.2]
  intro r hr
  have hr := List.mem_range.1 hr
  have hr3 : r < 3 := hr
  obtain ⟨i, hi, hsp, hf⟩ := slotSp3 (slot := slot) (seg := seg) (r := r) h.s3
  unfold lackB
  rw [hsp, h.good_done hr3 hi hr3 hf]; simp
end
end Go.Proofs.Ytldmeimebebllaa
namespace Go.Proofs.Ytldmeimebebllaa
open Go.Mo
set_option linter.unusedVariables false
variable {g : Fr} {cv : CV}
theorem disks4 : disksL Q3 m0 = [0, 1, 2, 3] := by decide
theorem disks4r : ∀ d ∈ ([0, 1, 2, 3] : List Int), 0 ≤ d ∧ d < ((4 : Nat) : Int) := by decide
theorem Settled.armed {R : Rk} (h : Settled R (fun _ => false)) : Armed R (fun _ => false) := ⟨h.off, h.count, h.failed, fun j => by simp [h.counts]⟩
theorem law07_StripeRefills_spec (hcd : DisksOk cv) (hcr : RowsOk cv) (hcl : LacksOk cv) (seq : Int) (s : Slc) (l : List BlkA) (slot : Int) : wps g (blocksP s l) (law07_StripeRefills cv seq s slot) (fun b => pr (b = true)) := by
  unfold law07_StripeRefills
  refine wps_fact blocksP_ok fun hok => ?_
  refine wps_fact (blocksP_len s l) fun hl => ?_
  have hby : ∀ c ∈ l, Byts c.data := fun c hc => (hok c hc).byts
  refine wps_callE (fun _ => law07_alive_spec hcd hcr) fun a => ?_
  refine wps_prP fun ha => ?_
  subst ha
  refine wps_ite (fun h => absurd h (by decide)) (fun _ => ?_)
  refine wps_pre (H' := blocksP s l) ?_ ?_
  · repeat (first
      | (with_reducible exact ent_drop)
      | (with_reducible refine ent_pick ?_)
      | (refine ent_pickC (by rfl) ?_)
      | (refine ent_pickS (by rfl) ?_)
      | (refine ent_pickM (by rfl) ?_)
      | (refine ent_prx ?_ ?_; rotate_left)
      | (refine ent_prq ?_))
  refine wps_val val_orb ?_
  refine wps_bind (R := fun r => pr (r = false → (1 ≤ seq ∧ seq < 4294967296) ∧ fitsL l) * blocksP s l) ?_ fun r => wps_pr fun hr => ?_
  · refine wps_ite (fun h => wps_pure (ent_prr (fun h => by cases h) (Ent.refl _))) (fun h => ?_)
    simp only [Bool.or_eq_true, decide_eq_true_eq, not_or] at h
    refine wps_bind (law07_fits_spec s l (ent_pick1 (A := blocksP s l))) fun b => wps_pr fun hb => wps_pure ?_
    exact ent_prr (fun hnb => ⟨by omega, hb (by simpa using hnb)⟩) (Ent.refl _)
  refine wps_val val_orb (wps_val val_orb ?_)
  refine wps_ite (fun _ => wps_pure (ent_prq rfl)) (fun hrf => ?_)
  simp only [Bool.or_eq_true, not_or, decide_eq_true_eq, Bool.not_eq_true] at hrf
  obtain ⟨⟨hrf, hs0⟩, hs2⟩ := hrf
  obtain ⟨hq, hfit⟩ := hr hrf
  obtain ⟨sl, rfl⟩ : ∃ sl : Nat, slot = (sl : Int) := ⟨slot.toNat, by omega⟩
  have hs3 : sl < 3 := by omega
  have E := EncD.of_fits (fits4 hq) hfit hby
  refine wps_bind (law07_Open_spec m0) fun x => ?_
  rw [show OpenB 4 41 (3, 3, 12) m0 = true from open0, if_pos rfl]
  refine wps_ex fun rb => wps_ex fun bb => wps_ex fun ds => wps_ex fun ps => ?_
  refine wps_prP fun hx => ?_
  subst hx
  refine wps_val (v := false) (wps_ite (fun h => absurd h (by simp)) (fun _ => wps_pure (ent_prr rfl (Ent.refl _)))) ?_
  have hwr := seg_wrote (m := m0) (R := Rk.new 4 41) (seg := 4) (by decide) E (Calm.new 4 41) rfl rfl
  have hsw : swrite Q3 m0 (Rk.new 4 41) 4 seq l = _ := swrite_ok (m := m0) (R := Rk.new 4 41) (seg := 4) (by decide) (by decide) hq hfit.1 E (Calm.new 4 41) rfl rfl
  have hsp : (wrAll Q3 m0 (restW Q3 ((4 : Nat) : Int) seq l 0) (Rk.new 4 41)).1.dk 3 = (Rk.new 4 41).dk 3 := wr_spare _ _ (Calm.new 4 41) rfl rfl fun e he => by
    rw [restW3, List.mem_map] at he
    obtain ⟨t, ht, rfl⟩ := he
    have ht := List.mem_range.1 ht
    have hrg := spt_rng (seg := 4) (r := t / 3) (i := t % 3) (by decide) (by omega) (by omega)
    exact ⟨hrg.1, ⟨by have := hrg.2.1; show 0 ≤ (spt 4 (t / 3) (t % 3)).2; omega, hrg.2.2⟩, (E.dat (by omega) (by omega)).len⟩
  generalize (wrAll Q3 m0 (restW Q3 ((4 : Nat) : Int) seq l 0) (Rk.new 4 41)).1 = R1 at *
  refine wps_pre (H' := blocksP s l * bnk bb rb Q3 m0 * rackP rb (Rk.new 4 41) ds ps) ?_ ?_
  · repeat (first
      | (with_reducible exact ent_drop)
      | (with_reducible refine ent_pick ?_)
      | (refine ent_pickC (by rfl) ?_)
      | (refine ent_pickS (by rfl) ?_)
      | (refine ent_pickM (by rfl) ?_)
      | (refine ent_prx ?_ ?_; rotate_left)
      | (refine ent_prq ?_))
  refine wps_bind (R := fun r => pr (r = false) * (blocksP s l * bnk bb rb Q3 m0 * rackP rb R1 ds ps)) ?_ fun r => wps_pr fun hr => ?_
  · refine wps_ite (fun h => absurd h (by decide)) (fun _ => ?_)
    refine wps_bind (write_told hcr hby hsw) fun e => wps_pr fun he => ?_
    exact wps_pure (ent_prr (by rw [he]; rfl) (Ent.refl _))
  subst hr
  have hn1 := hwr.2.1.n
  have hns1 := hwr.2.1.ns
  have hset1 := hwr.2.1.calm.settled
  have hfl := hset1.flushL (xs := [0, 1, 2, 3]) (by rw [hn1]; exact disks4r) (by rw [hns1]; omega)
  have hss1 := SameS.flushL [0, 1, 2, 3] R1
  have hqt := flush_lasts (d := (sl : Int)) hset1 (by rw [hn1]; exact disks4r) (by rw [hns1]; omega) (xs := [0, 1, 2, 3]) (by
    have : sl = 0 ∨ sl = 1 ∨ sl = 2 := by omega
    rcases this with rfl | rfl | rfl <;> decide)
  rw [show ((sl : Int)).toNat = sl by omega] at hqt
  refine wps_bind (R := fun r => pr (r = false) * (blocksP s l * bnk bb rb Q3 m0 * rackP rb (flushL [0, 1, 2, 3] R1).1 ds ps)) ?_ fun r => wps_pr fun hr => ?_
  · refine wps_ite (fun h => absurd h (by decide)) (fun _ => ?_)
    refine wps_call2 (fun _ => bank_Flush_spec hcd bb rb Q3 m0 (by decide) R1 ds ps) fun e => ?_
    simp only [← star_assoc]
    refine wps_prP fun he => ?_
    rw [disks4] at he ⊢
    rw [hfl.1] at he
    refine wps_pure ?_
    repeat (first
      | (with_reducible exact ent_drop)
      | (with_reducible refine ent_pick ?_)
      | (refine ent_pickC (by rfl) ?_)
      | (refine ent_pickS (by rfl) ?_)
      | (refine ent_pickM (by rfl) ?_)
      | (refine ent_prx ?_ ?_; rotate_left)
      | (refine ent_prq ?_))
    all_goals first | (rw [he]; rfl) | trivial
  subst hr
  refine wps_ite (fun h => absurd h (by decide)) (fun _ => ?_)
  have hn2 : (flushL [0, 1, 2, 3] R1).1.n = 4 := by rw [hfl.2.2.1, hn1]
  have hns2 : (flushL [0, 1, 2, 3] R1).1.ns = 41 := by rw [hfl.2.2.2, hns1]
  have harm := hfl.2.1.armed
  generalize (flushL [0, 1, 2, 3] R1).1 = R2 at *
  have a1 := harm.doom (k := (sl : Int)) (by rw [hn2]; omega)
  rw [show (fun j => (false || decide (j = ((sl : Int)).toNat))) = fun j => decide (j = sl) by funext j; simp] at a1
  have hss2 := SameS.doom R2 sl 0
  have hsg := armed_seg (seg := 4) (by decide) E (fits4 hq) a1 (by rw [hss2.n, hn2]) (by rw [hss2.ns, hns2]) (hwr.2.2.1.same (hss1.trans hss2)) [1, 2, 3] (d := 0) disks4r
  have hqt2 := (hqt.doom sl 0).flushL [0, 1, 2, 3]
  have hss3 := hss1.trans (hss2.trans hsg.2.2)
  refine wps_callH (fun _ => device_Rack_Doom_spec rb R2 ds ps sl 0) fun _ => ?_
  simp only [← star_assoc]
  refine wps_prP fun _ => ?_
  refine wps_call2 (fun _ => bank_Flush_spec hcd bb rb Q3 m0 (by decide) (R2.doom sl 0) ds ps) fun e => ?_
  simp only [← star_assoc]
  refine wps_prP fun he => ?_
  rw [disks4] at he ⊢
  rw [hsg.1] at he
  subst he
  refine wps_ite (fun h => absurd h (by decide)) (fun _ => ?_)
  have hS := hsg.2.1
  generalize (flushL [0, 1, 2, 3] (R2.doom sl 0)).1 = R3 at *
  have hby3 := hss3.bys (hwr.2.2.2.1 (Rk.bys_new 4 41))
  refine wps_call2 (fun _ => stripe_Sound_spec hcr bb rb Q3 m0 (by decide) R3 hby3 ds ps 4 seq) fun b0 => ?_
  simp only [← star_assoc]
  refine wps_prP fun hb0 => ?_
  have hun : sSound Q3 m0 R3 ((4 : Nat) : Int) seq = (false, 0) := by
    obtain ⟨i, hi, _, hf⟩ := slotSp3 (slot := sl) (seg := 4) (r := 0) hs3
    refine hS.unsound hi ?_
    unfold lostS
    have hrg := (spt_rng (seg := 4) (r := 0) (i := i) (by decide) (by decide) hi).1
    rw [slot0 (by omega), hf]
    simp
  rw [show sSound Q3 m0 R3 4 seq = (false, 0) from hun] at hb0
  subst hb0
  refine wps_callH (fun _ => bank_Join_spec bb rb Q3 m0 (1, (sl : Int), 1)) fun _ => ?_
  have hfb : FitsB Q3 (1, (sl : Int), 1) = true := by
    unfold FitsB
    have : decide (0 ≤ (sl : Int)) = true := decide_eq_true (by omega)
    have h3 : decide ((sl : Int) < 3) = true := decide_eq_true (by omega)
    show ((1 : Int) == 0 || (((1 : Int) == 1 || (1 : Int) == 2) && (decide (0 ≤ (sl : Int)) && decide ((sl : Int) < 3)))) = true
    rw [this, h3]; rfl
  rw [hfb, if_pos rfl]
  have hR0 : Refi R3 sl 4 seq l 0 := ⟨hS.set, hS.n, hS.ns, fun r i hr hi hne => by
      have := hS.there r i hr hi
      rw [slot0 (spt_rng hS.s12 hr hi).1] at this
      exact this, fun r i h => by omega, fun r _ hr => by
      rw [hss3.sec, hsp]; rfl, E, by decide, fits4 hq, hq.1, hs3⟩
  obtain ⟨R4, hrf4, hR3, hdk, hby4⟩ := hR0.all
  have hby4 := hby4 hby3
  refine wps_call2 (fun _ => stripe_Missing_spec hcr hcl bb rb Q3 (m1 sl) (by decide) R3 hby3 ds ps 4 sl seq) fun b1 => ?_
  simp only [← star_assoc]
  refine wps_prP fun hb1 => ?_
  rw [show sMissing Q3 (m1 sl) R3 4 sl seq = (true, 0) from hR0.missing0] at hb1
  subst hb1
  refine wps_val (v := false) (wps_ite (fun h => absurd h (by simp)) (fun _ => wps_pure (ent_prr rfl (Ent.refl _)))) ?_
  refine wps_val (v := false) (wps_ite (fun h => absurd h (by simp)) (fun _ => wps_pure (ent_prr rfl (Ent.refl _)))) ?_
  refine wps_val (v := false) (wps_ite (fun h => absurd h (by simp)) (fun _ => wps_pure (ent_prr rfl (Ent.refl _)))) ?_
  refine wps_pre (H' := blocksP s l * bnk bb rb Q3 (m1 sl) * rackP rb R3 ds ps) ?_ ?_
  · repeat (first
      | (with_reducible exact ent_drop)
      | (with_reducible refine ent_pick ?_)
      | (refine ent_pickC (by rfl) ?_)
      | (refine ent_pickS (by rfl) ?_)
      | (refine ent_pickM (by rfl) ?_)
      | (refine ent_prx ?_ ?_; rotate_left)
      | (refine ent_prq ?_))
  refine wps_bind (R := fun r => pr (r = false) * (blocksP s l * bnk bb rb Q3 (m1 sl) * rackP rb R4 ds ps)) ?_ fun r => wps_pr fun hr => ?_
  · refine wps_ite (fun h => absurd h (by simp)) (fun _ => ?_)
    refine wps_call2 (fun _ => stripe_Refill_spec hcr hcl bb rb Q3 (m1 sl) (by decide) R3 hby3 ds ps 4 sl seq) fun e => ?_
    rw [show sRefill Q3 (m1 sl) R3 4 sl seq = (R4, 0) from hrf4]
    simp only [← star_assoc]
    refine wps_prP fun he => ?_
    refine wps_pure ?_
    repeat (first
      | (with_reducible exact ent_drop)
      | (with_reducible refine ent_pick ?_)
      | (refine ent_pickC (by rfl) ?_)
      | (refine ent_pickS (by rfl) ?_)
      | (refine ent_pickM (by rfl) ?_)
      | (refine ent_prx ?_ ?_; rotate_left)
      | (refine ent_prq ?_))
    all_goals first | (rw [he]; rfl) | trivial
  subst hr
  refine wps_ite (fun h => absurd h (by decide)) (fun _ => ?_)
  refine wps_call2 (fun _ => stripe_Missing_spec hcr hcl bb rb Q3 (m1 sl) (by decide) R4 hby4 ds ps 4 sl seq) fun b2 => ?_
  simp only [← star_assoc]
  refine wps_prP fun hb2 => ?_
  rw [show sMissing Q3 (m1 sl) R4 4 sl seq = (false, 0) from hR3.missing3] at hb2
  subst hb2
  refine wps_call2 (fun _ => stripe_Sound_spec hcr bb rb Q3 (m1 sl) (by decide) R4 hby4 ds ps 4 seq) fun b3 => ?_
  simp only [← star_assoc]
  refine wps_prP fun hb3 => ?_
  rw [show sSound Q3 (m1 sl) R4 4 seq = (true, 0) from hR3.segF.1.sound hR3.segF.2] at hb3
  subst hb3
  refine wps_loop (fun st => ex fun k : Nat => pr (st = (k : Int) ∧ k ≤ 3) * rackP rb R4 ds ps) (fun st => (3 - st).toNat) ?_ fun st => ?_
  · refine ent_ex 0 ?_
    repeat (first
      | (with_reducible exact ent_drop)
      | (with_reducible refine ent_pick ?_)
      | (refine ent_pickC (by rfl) ?_)
      | (refine ent_pickS (by rfl) ?_)
      | (refine ent_pickM (by rfl) ?_)
      | (refine ent_prx ?_ ?_; rotate_left)
      | (refine ent_prq ?_))
    all_goals first | exact ⟨rfl, by omega⟩ | trivial
  refine wps_ex fun k => wps_prP fun ⟨hk, hk6⟩ => ?_
  refine wps_ite (fun hc => ?_) (fun hc => ?_)
  rotate_left
  · refine wps_mapR ?_
    refine wps_val (v := true) (wps_ite (fun _ => wps_pure (ent_val rfl)) (fun h => absurd rfl h)) ?_
    refine wps_val (v := true) (wps_ite (fun _ => wps_pure (ent_val rfl)) (fun h => absurd rfl h)) ?_
    refine wps_val (v := true) (wps_ite (fun _ => wps_pure (ent_val rfl)) (fun h => absurd rfl h)) ?_
    exact wps_pure (ent_prq rfl)
  have hlt : k < 3 := by have := of_decide_eq_true hc; omega
  subst hk
  have e17 : w64 (17 + (k : Int)) = ((17 + k : Nat) : Int) := by rw [w64_id] <;> omega
  rw [e17]
  obtain ⟨i, hi, _, hf⟩ := slotSp3 (slot := sl) (seg := 4) (r := k) hs3
  have e2 : (spt 4 k i).2 = ((17 + k : Nat) : Int) := by show ((5 + (4 * 3 + k) : Nat) : Int) = ((17 + k : Nat) : Int); omega
  have hlst : R4.lst (sl : Int) ((17 + k : Nat) : Int) = datAt Q3 seq l k i := by
    have hle : R4.lErr (sl : Int) ((17 + k : Nat) : Int) = 0 := by
      unfold Rk.lErr
      rw [if_neg (by rw [hR3.n, hR3.ns]; omega)]
    unfold Rk.lst
    rw [hle, if_pos rfl, show ((sl : Int)).toNat = sl by omega, hdk sl (by omega), show (((17 + k : Nat) : Int)).toNat = 17 + k by omega, hqt2.2]
    have := hwr.2.2.1 k i hlt hi
    rw [slot0 (spt_rng (seg := 4) (by decide) hlt hi).1, hf, e2, show ((sl : Int)).toNat = sl by omega] at this
    exact this
  have hrd : R4.rd 3 ((17 + k : Nat) : Int) = datAt Q3 seq l k i := by
    have hre : R4.rdErr 3 ((17 + k : Nat) : Int) = 0 := by
      unfold Rk.rdErr
      rw [if_neg (by simp [hR3.set.off]), if_neg (by rw [hR3.n, hR3.ns]; omega), hR3.set.failed, show decide ((3 : Int).toNat = sl) = false from decide_eq_false (by show ¬ 3 = sl; omega)]
      simp
    unfold Rk.rd
    rw [hre, if_pos rfl, ← e2]
    exact hR3.done k i hlt hlt hi hf
  refine wps_callH (fun _ => device_Rack_Lasting_spec rb R4 ds ps sl ((17 + k : Nat) : Int)) fun x1 => ?_
  simp only [← star_assoc]
  refine wps_prP fun _ => ?_
  rw [hlst]
  refine wps_callH (fun _ => device_Rack_Read_spec rb R4 ds ps 3 ((17 + k : Nat) : Int)) fun x2 => ?_
  simp only [← star_assoc]
  refine wps_prP fun _ => ?_
  rw [hrd]
  refine wps_val (ref00_SameBytes_val (x := datAt Q3 seq l k i) (y := datAt Q3 seq l k i) (Ent.trans (ent_pick1 (A := own 1 x1.1 (bv (datAt Q3 seq l k i)))) (own_rsl _ _ _)) (Ent.trans (ent_pick1 (A := own 1 x2.1 (bv (datAt Q3 seq l k i)))) (own_rsl _ _ _)) (by rw [(E.dat hlt hi).len]; omega)) ?_
  refine wps_ite (fun h => absurd h (by simp)) (fun _ => wps_pure ?_)
  refine ent_prr (by rw [range_add1 rfl (by omega)]; omega) (ent_ex (k + 1) ?_)
  repeat (first
    | (with_reducible exact ent_drop)
    | (with_reducible refine ent_pick ?_)
    | (refine ent_pickC (by rfl) ?_)
    | (refine ent_pickS (by rfl) ?_)
    | (refine ent_pickM (by rfl) ?_)
    | (refine ent_prx ?_ ?_; rotate_left)
    | (refine ent_prq ?_))
  all_goals first | exact ⟨range_add1 rfl (by omega), by omega⟩ | trivial
end Go.Proofs.Ytldmeimebebllaa
namespace Go.Mo
open Go.RowKit
set_option linter.unusedVariables false
def full (W : World) : Hp := fun i => (W.heap[i]?).map fun ob => (ob, true)
def fullF (W : World) : Fr := ⟨full W, W.os, W.output⟩
theorem full_own (W : World) : Own W (full W) (fullF W) := by
  have hok : Hp.ok (full W) W := fun x ob r h => by
    simp only [full, Option.map_eq_some_iff, Prod.mk.injEq] at h
    obtain ⟨ob', h, rfl, _⟩ := h
    exact h
  refine ⟨fun x => ?_, hok, hok, rfl, rfl⟩
  cases h : full W x with
  | none => exact .inl rfl
  | some p =>
    obtain ⟨ob, r⟩ := p
    right; right
    simp only [full, Option.map_eq_some_iff, Prod.mk.injEq] at h
    obtain ⟨ob', h, rfl, rfl⟩ := h
    exact ⟨ob', rfl, by simp [fullF, full, h]⟩
structure Kept (W w' : World) : Prop where
  frame : W.keptBut w' (fun _ => False)
  block : ∀ (i : Nat) ob, W.heap[i]? = some ob → w'.heap[i]? = some ob
theorem kept_of_own {W w' : World} {a : Hp} (h : Own w' a (fullF W)) : Kept W w' := by
  have hh : ∀ (i : Nat) ob, W.heap[i]? = some ob → w'.heap[i]? = some ob := fun i ob hi => h.2.2.1 i ob true (by simp [fullF, full, hi])
  refine ⟨⟨h.2.2.2.os, h.2.2.2.out, fun i hi => ?_⟩, hh⟩
  rw [hh i _ (Array.getElem?_eq_getElem hi), Array.getElem?_eq_getElem hi]
  cases W.heap[i] with
  | cells c t fr => exact ⟨rfl, rfl, rfl, fun _ _ => rfl⟩
  | map es clock => exact .inr ⟨rfl, rfl⟩
  | _ => rfl
theorem Kept.same {W w' : World} (h : Kept W w') {b : Nat} (hb : b < W.heap.size) : w'.heap[b]? = W.heap[b]? :=
  (h.block b _ (Array.getElem?_eq_getElem hb)).trans (Array.getElem?_eq_getElem hb).symm
open Go.ChangeShapes Go.WideShapes in
theorem post_of_kept {H : Type} {enc : TypeId × Value → H} {P : Program} {f : Func} {s : ChangeSpec} {apart fresh handsOn again : Bool} {W W' : World} {args : Array Value} {v : Value} {ds gs : List (DataW H)} {before pa pv : List MemPlace}
    (hW : DataW.Whole enc P f.params.toList s.vars apart W args.toList ds gs before)
    (hres : ∀ (b : Nat) (sp : Nat → Bool) (hd : Bool), DataW.TrodAll enc P W' b sp hd f.resultTypes.toList (v.resultList f.resultTypes.size) (s.fn H (ds ++ gs)).results [])
    (hargs : ∀ sp : Nat → Bool, (∀ p ∈ before, sp p.block = true) → DataW.TrodAll enc P W' 0 sp true f.params.toList args.toList (s.fn H (ds ++ gs)).args pa)
    (hvars : ∀ sp : Nat → Bool, (∀ p ∈ before, sp p.block = true) → DataW.TrodVars enc P W' sp s.vars (s.fn H (ds ++ gs)).vars pv)
    (hps : before = pa ++ pv) (hk : Kept W W')
    (hok : ∀ (j : Nat) (t : TypeId) (r : Value), f.resultTypes[j]? = some t → (v.resultList f.resultTypes.size)[j]? = some r → Value.okWide P W' .any 0 t r) :
    s.post enc P f apart fresh handsOn again W args v W' := by
  have hold : ∀ p ∈ before, (fun b => decide (b < W.heap.size)) p.block = true := fun p hp => by simpa using hW.lt p hp
  refine ⟨ds, gs, before, [], pa, pv, hW, hres _ _ _, hargs _ hold, hvars _ hold, World.keptBut_mono (fun p hp => hp.elim) hk.frame, fun _ => ?_⟩
  have hlt := hW.lt
  obtain ⟨_, _, _, _, _, hz, hn⟩ := hW
  refine ⟨hok, _, _, ([] ++ pa) ++ pv, ⟨[] ++ pa, pv, trodAll_append (hargs _ (fun _ _ => rfl)) (hres _ _ _), hvars _ (fun _ _ => rfl), rfl, ?_, ?_⟩, ?_⟩
  · intro b off hp
    have hp' : MemPlace.cell b off ∈ before := by rw [hps]; simpa using hp
    have hb : b < W.heap.size := hlt _ hp'
    have := hz b off hp'
    unfold World.frozen? at this ⊢
    rw [show W'.heap[(⟨b, off, none⟩ : Addr).block]? = W.heap[(⟨b, off, none⟩ : Addr).block]? from hk.same hb]
    exact this
  · intro ha
    have := hn ha
    rw [hps] at this
    simpa using this
  · intro p hp _
    rw [hps]
    simpa using hp
theorem wps_run {m : M Bool} {H : HP} (h : ∀ g, wps g H m fun b => pr (b = true)) (W : World) (hH : H.p (full W)) : m (fun b w' => b = true ∧ Kept W w') W :=
  h (fullF W) W (full W) _ (full_own W) hH fun x w' a' ho hb => ⟨hb, kept_of_own ho⟩
theorem calls_law {P : Program} {f : FuncId} {args : Array Value} {W : World} (h : Calls P f args W (RetPost Value.bool fun b w' => b = true ∧ Kept W w')) : Calls P f args W fun e w' => e = .returned (.bool true) ∧ Kept W w' :=
  h.mono fun e w' he => by
    cases e with
    | returned v =>
      obtain ⟨b, rfl, rfl, hg⟩ := he
      exact ⟨rfl, hg⟩
    | panicked c => exact he.elim
    | outgrown => exact he.elim
theorem trodAll_carry {H : Type} {enc : TypeId × Value → H} {P : Program} {w w' : World} {base : Nat} {spare : Nat → Bool} {held : Bool} : ∀ {ts : List TypeId} {vs : List Value} {ds : List (DataW H)} {ps : List MemPlace},
    DataW.TrodAll enc P w base spare held ts vs ds ps → (∀ p ∈ ps, w.sameAt w' p) → DataW.TrodAll enc P w' base spare held ts vs ds ps
  | [], [], [], _, h, _ => h
  | _ :: _, _ :: _, _ :: _, _, ⟨p, q, ⟨n, h1⟩, h2, e⟩, hs => ⟨p, q, ⟨n, DataW.trod_carry n _ _ _ h1 fun x hx => hs x (by rw [e]; exact List.mem_append_left _ hx)⟩,
      trodAll_carry h2 (fun x hx => hs x (by rw [e]; exact List.mem_append_right _ hx)), e⟩
theorem args_again {H : Type} {enc : TypeId × Value → H} {P : Program} {W W' : World} (hg : Kept W W') (kids : Kids P (· < P.types.size)) (fulls : ∀ t e, t < P.types.size → P.underlying t = some (.slice e) → 0 < P.cellsOf e)
    {ts : List TypeId} (hts : ∀ t ∈ ts, t < P.types.size) {vs : List Value} {ds : List (DataW H)} {ps : List MemPlace} (h : DataW.TrodAll enc P W 0 (fun _ => true) true ts vs ds ps) {sp : Nat → Bool} (hs : ∀ p ∈ ps, sp p.block = true) (hlt : ∀ p ∈ ps, p.block < W.heap.size) :
    DataW.TrodAll enc P W' 0 sp true ts vs ds ps :=
  trodAll_carry (DataW.TrodAll.respare kids fulls hts h hs) fun p hp => by
    have hb := hlt p hp
    have he := hg.same hb
    cases p with
    | cell b o => simp only [World.sameAt, World.cell?]; rw [show W'.heap[b]? = W.heap[b]? from he]
    | map b => exact he
end Go.Mo
namespace Go.Proofs.Ytldmeimebebllaa
open Go.Mo
set_option linter.unusedVariables false
theorem rsl_full {W : World} {a : Addr} {len cap : Nat} {cs : List Value} (hl : len ≤ cap) (hz : cs.length = len) (hc : ∀ i, i < len → W.cell? (a.add i) = cs[i]?) : (rsl 1 ⟨some a, len, cap⟩ cs).p (full W) := by
  by_cases h0 : len = 0
  · left
    exact ⟨h0, List.eq_nil_of_length_eq_zero (by omega)⟩
  · right
    have hc0 := hc 0 (by omega)
    have ha0 : a.add 0 = a := by simp [Addr.add]
    rw [ha0, List.getElem?_eq_getElem (by omega)] at hc0
    have hsp := World.cell?_spot hc0
    obtain ⟨b, off, sp⟩ := a
    simp only at hsp
    subst hsp
    unfold World.cell? at hc0
    cases hb : W.heap[b]? with
    | none => simp [hb] at hc0
    | some ob =>
      cases ob with
      | cells c e f =>
        refine ⟨⟨b, off, none⟩, c.toList, ent_prr (A := ro b c.toList) (B := ro b c.toList) ⟨rfl, by simpa using hz, hl, ?_⟩ (Ent.refl _) _ ⟨e, f, true, by simp [full, hb]⟩⟩
        apply List.ext_getElem?
        intro i
        simp only [Nat.mul_one]
        rw [List.getElem?_take]
        by_cases hi : i < len
        · rw [if_pos hi, List.getElem?_drop, ← hc i hi, Addr.add_mk]
          simp [World.cell?, hb]
        · rw [if_neg hi, List.getElem?_eq_none (by omega)]
      | _ => simp [hb] at hc0
end Go.Proofs.Ytldmeimebebllaa
namespace Go.Proofs.Ytldmeimebebllaa
open Go.Mo
set_option linter.unusedVariables false
theorem wf_u8 {n : Int} (h : (Lit.int .u8 n).wf = true) : 0 ≤ n ∧ n < 256 := by
  simp only [Lit.wf, Bool.and_eq_true, decide_eq_true_eq] at h
  have h1 : IntKind.u8.min = 0 := rfl
  have h2 : IntKind.u8.max = 255 := rfl
  omega
theorem full_both {W : World} {A B : HP} (ha : A.p (full W)) (hb : B.p (full W)) : (A * B).p (full W) := by
  refine ⟨full W, full W, fun x => ?_, ?_, ha, hb⟩
  · cases h : full W x with
    | none => exact .inl rfl
    | some p =>
      right; right
      simp only [full, Option.map_eq_some_iff] at h
      obtain ⟨ob, _, rfl⟩ := h
      exact ⟨ob, rfl, rfl⟩
  · rw [Hp.un_self]; exact Hp.le_refl _
end Go.Proofs.Ytldmeimebebllaa
namespace Go.Proofs.Ytldmeimebebllaa
open Go.Mo Go.ChangeShapes Go.Deep 
set_option linter.unusedVariables false
theorem rsl_fullZ {W : World} {z : Nat} {a : Addr} {len cap : Nat} {cs : List Value} (hl : len ≤ cap) (hz : cs.length = len * z) (hzp : 0 < z) (hc : ∀ i, i < len * z → W.cell? (a.add i) = cs[i]?) : (rsl z ⟨some a, len, cap⟩ cs).p (full W) := by
  by_cases h0 : len = 0
  · left
    exact ⟨h0, List.eq_nil_of_length_eq_zero (by rw [hz, h0, Nat.zero_mul])⟩
  · right
    have hpos : 0 < len * z := Nat.mul_pos (by omega) hzp
    have hc0 := hc 0 hpos
    have ha0 : a.add 0 = a := by simp [Addr.add]
    rw [ha0, List.getElem?_eq_getElem (by omega)] at hc0
    have hsp := World.cell?_spot hc0
    obtain ⟨b, off, sp⟩ := a
    simp only at hsp
    subst hsp
    unfold World.cell? at hc0
    cases hb : W.heap[b]? with
    | none => simp [hb] at hc0
    | some ob =>
      cases ob with
      | cells c e f =>
        refine ⟨⟨b, off, none⟩, c.toList, ent_prr (A := ro b c.toList) (B := ro b c.toList) ⟨rfl, by simpa using hz, hl, ?_⟩ (Ent.refl _) _ ⟨e, f, true, by simp [full, hb]⟩⟩
        apply List.ext_getElem?
        intro i
        rw [List.getElem?_take]
        by_cases hi : i < len * z
        · rw [if_pos hi, List.getElem?_drop, ← hc i hi, Addr.add_mk]
          simp [World.cell?, hb]
        · rw [if_neg hi, List.getElem?_eq_none (by omega)]
      | _ => simp [hb] at hc0
section
variable {H : Type} {enc : TypeId × Value → H} {P : Program} {W : World} {base : Nat}
structure Flds (enc : TypeId × Value → H) (P : Program) (W : World) (base n : Nat) (fs : Array Field) (cs : List Value) (xs : List (DataW H × List MemPlace)) : Prop where
  each : ∀ (i : Nat) (f : Field), fs[i]? = some f → DataW.trod enc P W base (fun _ => true) true n f.type ((cs.drop f.offset).take (P.cellsOf f.type)) = xs[i]?
  len : xs.length = fs.size
theorem one_of {cs : List Value} {o : Nat} {v : Value} (h : (cs.drop o).take 1 = [v]) : cs[o]? = some v := by
  have := congrArg (fun l => l[0]?) h
  simpa using this
theorem Flds.int {n : Nat} {fs : Array Field} {cs : List Value} {xs : List (DataW H × List MemPlace)} (h : Flds enc P W base n fs cs xs) (i : Nat) {f : Field} (hf : fs[i]? = some f) (hu : P.underlying f.type = some (.int .i64)) (hc : P.cellsOf f.type = 1) :
    ∃ q : Int, cs[f.offset]? = some (.int .i64 q) ∧ (Lit.int .i64 q).wf = true := by
  have h1 := h.each i f hf
  rw [hc] at h1
  have hi : i < xs.length := by rw [h.len]; exact (Array.getElem?_eq_some_iff.1 hf).1
  rw [List.getElem?_eq_getElem hi] at h1
  obtain ⟨q, hq, _, hw⟩ := DataW.trod_int hu h1
  exact ⟨q, one_of hq, hw⟩
theorem Flds.slice {n : Nat} {fs : Array Field} {cs : List Value} {xs : List (DataW H × List MemPlace)} (h : Flds enc P W base n fs cs xs) (i : Nat) {f : Field} (hf : fs[i]? = some f) {e : TypeId} {k : IntKind} (hu : P.underlying f.type = some (.slice e)) (hc : P.cellsOf f.type = 1)
    (he : P.underlying e = some (.int k)) (hce : P.cellsOf e = 1) (hbe : 0 < P.bytesOf e) (hw : ∀ y, xs[i]? = some y → ∀ q ∈ y.1.weights P f.type, q ≤ reachBytes) :
    ∃ (s : Slc) (b : List Int), cs[f.offset]? = some (.slice s.base s.len s.cap) ∧ (rsl 1 s (b.map (Value.int k))).p (full W) ∧ (∀ q ∈ b, (Lit.int k q).wf = true) ∧ b.length ≤ 140737488355328 := by
  have h1 := h.each i f hf
  rw [hc] at h1
  have hi : i < xs.length := by rw [h.len]; exact (Array.getElem?_eq_some_iff.1 hf).1
  rw [List.getElem?_eq_getElem hi] at h1
  have hwi := hw _ (List.getElem?_eq_getElem hi)
  rcases open_ints hu he hce h1 with ⟨hcs, hx⟩ | ⟨a, len, cap, zs, hcs, hba, hle, hcap, hzl, hx, hcell, hwf⟩
  · exact ⟨⟨none, 0, 0⟩, [], one_of hcs, .inl ⟨rfl, rfl⟩, by simp, by simp⟩
  · have hzl' : zs.length = cap := by simpa using hzl
    refine ⟨⟨some a, len, cap⟩, zs.take len, one_of hcs, ?_, fun q hq => hwf q (List.mem_of_mem_take hq), ?_⟩
    · refine rsl_full hle (by simp; omega) fun j hj => ?_
      rw [hcell j (by omega), List.getElem?_map, List.getElem?_take, if_pos hj, List.getElem?_eq_getElem (by omega)]
      simp [List.getD_eq_getElem?_getD, List.getElem?_eq_getElem (show j < zs.length by omega)]
    · rw [hx] at hwi
      have := hwi (((lits (H := H) k (zs.take len)).length + (lits (H := H) k (zs.drop len)).length) * P.bytesOf e) (by simp [DataW.weights, hu])
      have h2 : reachBytes = 140737488351232 := rfl
      have h3 : (lits (H := H) k (zs.take len)).length + (lits (H := H) k (zs.drop len)).length = zs.length := by simp [lits]; omega
      rw [h3] at this
      have h4 : zs.length * 1 ≤ zs.length * P.bytesOf e := Nat.mul_le_mul_left _ hbe
      simp only [List.length_take]; omega
theorem struct_weights {e : TypeId} {fs : Array Field} {xs : List (DataW H × List MemPlace)} (he : P.underlying e = some (.struct fs)) (hs : ∀ q ∈ (DataW.agg (xs.map (·.1))).weights P e, q ≤ reachBytes) (i : Nat) {f : Field} (hf : fs[i]? = some f) :
    ∀ y, xs[i]? = some y → ∀ q ∈ y.1.weights P f.type, q ≤ reachBytes := by
  intro y hy q hq
  refine hs q ?_
  simp only [DataW.weights, he]
  refine DataW.weights_mem_each (j := i) (t := f.type) (d := y.1) ?_ ?_ q hq
  · rw [List.getElem?_map, Array.getElem?_toList, hf]; rfl
  · rw [List.getElem?_map, hy]; rfl
theorem all_weights {e : TypeId} {ds : List (DataW H)} {d : DataW H} (hd : d ∈ ds) {q : Nat} (hq : q ∈ d.weights P e) : q ∈ DataW.weightsAll P e ds := by
  induction ds with
  | nil => simp at hd
  | cons x ds ih =>
    simp only [DataW.weightsAll, List.mem_append]
    rcases List.mem_cons.1 hd with rfl | hd
    · exact .inl hq
    · exact .inr (ih hd)
theorem sized_arg {ts : List TypeId} {ds : List (DataW H)} {j : Nat} {t : TypeId} {d : DataW H} (h : (DataW.weightsEach P ts ds).all (· ≤ reachBytes) = true) (ht : ts[j]? = some t) (hd : ds[j]? = some d) : ∀ q ∈ d.weights P t, q ≤ reachBytes := fun q hq => by
  have := List.all_eq_true.1 h _ (DataW.weights_mem_each ht hd q hq)
  simpa using this
instance : Inhabited CallA := ⟨⟨0, 0, 0, ⟨none, 0, 0⟩, [], ⟨none, 0, 0⟩, []⟩⟩
theorem open_structs {γ : Type} [Inhabited γ] {cells : γ → List Value} {z : Nat} {ok : γ → Prop} {t e : TypeId} {fuel : Nat} {cs : List Value} {x : DataW H × List MemPlace} (hzp : 0 < z) (hcl : ∀ c, (cells c).length = z) (ht : P.underlying t = some (.slice e)) (hz : P.cellsOf e = z)
    (helem : ∀ (n : Nat) (cs : List Value) (x : DataW H × List MemPlace), DataW.trod enc P W base (fun _ => true) true n e cs = some x → (∀ q ∈ x.1.weights P e, q ≤ reachBytes) → ∃ c, cs = cells c ∧ ok c)
    (h : DataW.trod enc P W base (fun _ => true) true fuel t cs = some x) (hs : ∀ q ∈ x.1.weights P t, q ≤ reachBytes) :
    ∃ (s : Slc) (l : List γ), cs = [.slice s.base s.len s.cap] ∧ (rsl z s (l.flatMap cells)).p (full W) ∧ l.length = s.len ∧ ∀ c ∈ l, ok c := by
  rcases open_slice ht h with ⟨hcs, hx⟩ | ⟨a, len, cap, m, n, D, Pl, hcs, hb, hle, hcap, hm, hx, hel⟩
  · exact ⟨⟨none, 0, 0⟩, [], hcs, .inl ⟨rfl, rfl⟩, rfl, by simp⟩
  · have hm' : m = cap := by simpa using hm
    have hel' : ∀ i, i < len → ∃ c : γ, W.cells? base (a.add (i * z)) z = some (cells c) ∧ ok c := by
      intro i hi
      obtain ⟨cs', h1, h2⟩ := hel i (by omega)
      rw [hz] at h1
      obtain ⟨c, hc, hok⟩ := helem n cs' _ h2 (fun q hq => by
        refine hs q ?_
        rw [hx]
        simp only [DataW.weights, ht]
        refine List.mem_cons_of_mem _ (List.mem_append_left _ (all_weights (d := D i) ?_ hq))
        exact List.mem_map.2 ⟨i, List.mem_range.2 hi, rfl⟩)
      exact ⟨c, hc ▸ h1, hok⟩
    obtain ⟨f, hf⟩ := choose_lt hel'
    refine ⟨⟨some a, len, cap⟩, (List.range len).map f, hcs, ?_, by simp, fun c hc => ?_⟩
    · refine rsl_fullZ hle (by rw [flat_len hcl]; simp) hzp fun i hi => ?_
      have hq : i / z < len := (Nat.div_lt_iff_lt_mul hzp).2 hi
      have hr : i % z < z := Nat.mod_lt _ hzp
      obtain ⟨_, hlen, hcell⟩ := World.cells?_some (hf (i / z) hq).1
      have hc := hcell (i % z) hr
      rw [Addr.add_add] at hc
      have hsplit : i / z * z + i % z = i := by rw [Nat.mul_comm]; exact Nat.div_add_mod i z
      rw [hsplit] at hc
      rw [hc]
      have hg := flat_get hcl (l := (List.range len).map f) (n := i / z) (j := i % z) (c := f (i / z)) (by rw [List.getElem?_map, List.getElem?_range hq]; rfl) hr
      rw [hsplit] at hg
      exact hg.symm
    · obtain ⟨i, hi, rfl⟩ := List.mem_map.1 hc
      exact (hf i (List.mem_range.1 hi)).2
end
end Go.Proofs.Ytldmeimebebllaa
namespace Go.Proofs.Ytldmeimebebllaa
open Go.Mo Go.ChangeShapes Go.Deep 
set_option linter.unusedVariables false
section
variable {H : Type} {enc : TypeId × Value → H} {P : Program} {W : World} {base : Nat}
instance : Inhabited CallB := ⟨⟨0, 0, 0, ⟨none, 0, 0⟩, [], (0, 0, 0)⟩⟩
end
end Go.Proofs.Ytldmeimebebllaa
namespace Go.Proofs.Ytldmeimebebllaa
open Go.Mo Go.ChangeShapes Go.Deep 
set_option linter.unusedVariables false
section
variable {H : Type} {enc : TypeId × Value → H} {P : Program} {W : World} {base : Nat}
theorem list3 {cs : List Value} {a b c : Value} (hl : cs.length = 3) (h0 : cs[0]? = some a) (h1 : cs[1]? = some b) (h2 : cs[2]? = some c) : cs = [a, b, c] := by
  match cs, hl with
  | [_, _, _], _ => simp at h0 h1 h2; simp [h0, h1, h2]
instance : Inhabited BlkA := ⟨BlkA.nil⟩
theorem wf_byts {b : List Int} (h : ∀ q ∈ b, (Lit.int .u8 q).wf = true) : Byts b := fun n hn => wf_u8 (h n hn)
theorem open_blocks {t e eb : TypeId} {f0 f1 f2 : Field} {fuel : Nat} {cs : List Value} {x : DataW H × List MemPlace} (ht : P.underlying t = some (.slice e)) (hz : P.cellsOf e = 3) (he : P.underlying e = some (.struct #[f0, f1, f2]))
    (ho : f0.offset = 0 ∧ f1.offset = 1 ∧ f2.offset = 2)
    (hc : P.cellsOf f0.type = 1 ∧ P.cellsOf f1.type = 1 ∧ P.cellsOf f2.type = 1)
    (hi : P.underlying f0.type = some (.int .i64) ∧ P.underlying f1.type = some (.int .i64))
    (h3 : P.underlying f2.type = some (.slice eb) ∧ P.underlying eb = some (.int .u8) ∧ P.cellsOf eb = 1 ∧ 0 < P.bytesOf eb)
    (h : DataW.trod enc P W base (fun _ => true) true fuel t cs = some x) (hs : ∀ q ∈ x.1.weights P t, q ≤ reachBytes) :
    ∃ (s : Slc) (l : List BlkA), cs = [.slice s.base s.len s.cap] ∧ (blocksP s l).p (full W) := by
  obtain ⟨s, l, hcs, hr, hlen, hok⟩ := open_structs (γ := BlkA) (cells := BlkA.cells) (z := 3) (ok := fun c => (blkP c).p (full W)) (by decide) cellsK_len ht hz (fun n cs x hx hw => by
    obtain ⟨xs, n', _, rfl, hl, hxl, hf⟩ := DataW.trod_struct he hx
    have F : Flds enc P W base n' #[f0, f1, f2] cs xs := ⟨hf, hxl⟩
    obtain ⟨q0, a0, _⟩ := F.int 0 (f := f0) rfl hi.1 hc.1
    obtain ⟨q1, a1, _⟩ := F.int 1 (f := f1) rfl hi.2 hc.2.1
    obtain ⟨s3, b3, a3, r3, w3, n3⟩ := F.slice 2 (f := f2) rfl h3.1 hc.2.2 h3.2.1 h3.2.2.1 h3.2.2.2 (struct_weights he hw 2 rfl)
    rw [ho.1] at a0
    rw [ho.2.1] at a1
    rw [ho.2.2] at a3
    refine ⟨⟨q0, q1, s3, b3⟩, list3 (by rw [hl, hz]) a0 a1 a3, ?_⟩
    exact full_both (A := pr _) ⟨wf_byts w3, n3⟩ r3) h hs
  refine ⟨s, l, hcs, full_both (full_both (A := pr True) trivial hr) fun i c => ?_⟩
  exact fun hc => hok c (List.mem_of_getElem? hc)
end
end Go.Proofs.Ytldmeimebebllaa
