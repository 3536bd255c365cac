/-
  A part of the proof: predicate transformers over the model, and a separation logic over them; what functions of the program do.
-/
import Derived.Test.YtldmeimebebllaaGreatDoorPart2
set_option linter.unusedSimpArgs false
namespace Go.Proofs.Ytldmeimebebllaa
open Go.Mo
set_option linter.unusedVariables false
variable {g : Fr} {cv : CV}
structure BlkA where
  owner : Int
  index : Int
  ds : Slc
  data : List Int
def BlkA.cells (c : BlkA) : List Value := [.int .i64 c.owner, .int .i64 c.index, .slice c.ds.base c.ds.len c.ds.cap]
def BlkA.t (c : BlkA) : Int × Int × Slc := (c.owner, c.index, c.ds)
def BlkA.nil : BlkA := ⟨0, 0, ⟨none, 0, 0⟩, []⟩
structure BlkA.ok (c : BlkA) : Prop where
  byts : Byts c.data
  len : c.data.length ≤ 140737488355328
  ob : c.owner < 9223372036854775808
  ib : c.index < 9223372036854775808
def blkAt (l : List BlkA) (k : Nat) : BlkA := l.getD k BlkA.nil
def encAt (seq : Int) (l : List BlkA) (k : Nat) : List Int := encL seq (blkAt l k).owner (blkAt l k).index (blkAt l k).data
def encAll (seq : Int) (l : List BlkA) (n : Nat) : Bool := (List.range n).all fun k => decide (encOk seq (blkAt l k).owner (blkAt l k).index (blkAt l k).data)
theorem encAll_iff {seq : Int} {l : List BlkA} {n : Nat} : encAll seq l n = true ↔ ∀ k, k < n → encOk seq (blkAt l k).owner (blkAt l k).index (blkAt l k).data := by
  simp [encAll]
end Go.Proofs.Ytldmeimebebllaa
namespace Go.Proofs.Ytldmeimebebllaa
open Go.Mo
set_option linter.unusedVariables false
variable {g : Fr} {cv : CV}
def bgate (q m : G3) (R : Rk) (s : Int × Int) (b : List Int) : Int := if (slotV q m s.1).2 then R.gate (slotV q m s.1).1 s.2 b.length else 11
def bwrite (q m : G3) (R : Rk) (s : Int × Int) (b : List Int) : Rk := if (slotV q m s.1).2 then R.write (slotV q m s.1).1 s.2 b else R
def rowL (q : G3) (seq : Int) (l : List BlkA) (r : Nat) : List (List Int) := (List.range (q.1 - 1).toNat).map fun i => encAt seq l (r * (q.1 - 1).toNat + i)
def datAt (q : G3) (seq : Int) (l : List BlkA) (r i : Nat) : List Int := if i < (q.1 - 1).toNat then encAt seq l (r * (q.1 - 1).toNat + i) else (parL (rowL q seq l r)).getD []
theorem sv_get {l : List (Int × Int)} {i : Nat} {s : Int × Int} (h : l[i]? = some s) {j : Nat} (hj : j < 2) : (sv l)[i * 2 + j]? = [Value.int .i64 s.1, Value.int .i64 s.2][j]? :=
  flat_get (f := fun s : Int × Int => [Value.int .i64 s.1, Value.int .i64 s.2]) (z := 2) (fun _ => rfl) h hj
end Go.Proofs.Ytldmeimebebllaa
namespace Go.Proofs.Ytldmeimebebllaa
open Go.Mo
set_option linter.unusedVariables false
variable {g : Fr} {cv : CV}
def Dk.bys (D : Dk) : Prop := (∀ k, Byts (D.lasts k)) ∧ ∀ j b, D.cached j = some b → Byts b
def Rk.bys (R : Rk) : Prop := ∀ j, (R.dk j).bys
theorem Dk.bys.sec {D : Dk} (h : D.bys) (s : Int) : Byts (D.sec s) := by
  unfold Dk.sec
  cases hc : D.cached s with
  | some b => exact h.2 s b hc
  | none => exact h.1 _
theorem Rk.bys.rd {R : Rk} (h : R.bys) (k s : Int) : Byts (R.rd k s) := by
  unfold Rk.rd; split
  · exact (h _).sec s
  · exact fun n hn => by simp at hn
def brdE (q m : G3) (R : Rk) (s : Int × Int) : Int := if (slotV q m s.1).2 then R.rdErr (slotV q m s.1).1 s.2 else 11
def brd (q m : G3) (R : Rk) (s : Int × Int) : List Int := if (slotV q m s.1).2 then R.rd (slotV q m s.1).1 s.2 else []
theorem brd_byts {q m : G3} {R : Rk} (h : R.bys) (s : Int × Int) : Byts (brd q m R s) := by
  unfold brd; split
  · exact h.rd _ _
  · exact fun n hn => by simp at hn
theorem brd_len {q m : G3} {R : Rk} (h : R.good) (s : Int × Int) : (brd q m R s).length ≤ 64 := by
  unfold brd; split
  · exact h.rd _ _
  · simp
def goodV (q m : G3) (R : Rk) (s : Int × Int) (seq : Int) : List Int × Bool := if brdE q m R s = 0 then (brd q m R s, (headOf (brd q m R s)).1 == seq) else ([], false)
theorem goodV_byts {q m : G3} {R : Rk} (h : R.bys) (s : Int × Int) (seq : Int) : Byts (goodV q m R s seq).1 := by
  unfold goodV; split
  · exact brd_byts h s
  · exact fun n hn => by simp at hn
theorem goodV_len {q m : G3} {R : Rk} (h : R.good) (s : Int × Int) (seq : Int) : (goodV q m R s seq).1.length ≤ 64 := by
  unfold goodV; split
  · exact brd_len h s
  · simp
theorem stripe_good_spec (bb rb : Nat) (q m : G3) (R : Rk) (hby : R.bys) (ds : Slc) (ps : List Nat) (s : Int × Int) (seq : Int) :
    wps g (bnk bb rb q m * rackP rb R ds ps) (stripe_good (ptr bb) s seq) (fun x => pr (x.2 = (goodV q m R s seq).2) * bnk bb rb q m * rackP rb R ds ps * own 1 x.1 (bv (goodV q m R s seq).1)) := by
  unfold stripe_good
  refine wps_fact (Ent.trans (ent_right _ _) rackP_good) fun hg => ?_
  refine wps_alloc fun c => ?_
  refine wps_ld s.1 (by rfl) ?_
  refine wps_ld s.2 (by rfl) ?_
  refine wps_call2 (fun _ => bank_Read_spec bb rb q m R ds ps s.1 s.2) fun x => ?_
  simp only [← star_assoc]
  refine wps_prP fun hx => ?_
  have hx' : x.2 = brdE q m R s := hx
  have hbr : (if (slotV q m s.1).2 = true then R.rd (slotV q m s.1).1 s.2 else []) = brd q m R s := rfl
  rw [hbr]
  by_cases h0 : brdE q m R s = 0
  rotate_left
  · rw [goodV, if_neg h0]
    refine wps_ite (fun _ => wps_pure ?_) (fun h => absurd (by simp [hx', h0]) h)
    refine ent_own0 ?_
    repeat first | (with_reducible refine ent_pick ?_) | (refine ent_prq ?_)
    all_goals first | rfl | trivial
  rw [goodV, if_pos h0]
  refine wps_ite (fun h => absurd h (by simp [hx', h0])) (fun _ => ?_)
  refine wps_bind (sector_Decode_spec (s := x.1) (b := brd q m R s) (Ent.trans (ent_pick1 (A := own 1 x.1 (bv (brd q m R s)))) (own_rsl _ _ _)) (brd_byts hby s) (by have := brd_len (q := q) (m := m) hg s; omega)) fun y => ?_
  simp only [← star_assoc]
  refine wps_prP fun ⟨hy, _⟩ => ?_
  refine wps_alloc fun d => ?_
  refine wps_stA (by simp) (by simp [Value.oneCell']) ?_
  refine wps_regionH ?_
  refine wps_ldI y.1.1 (by rfl) (wps_pure ?_)
  rw [hy]
  repeat first | (with_reducible refine ent_pick ?_) | (refine ent_prq ?_)
  all_goals first | rfl | trivial
def othL (q m : G3) (R : Rk) (lost : Int × Int) (seq : Int) : List (Int × Int) → Option (List (List Int))
  | [] => some []
  | s :: ss => if s = lost then othL q m R lost seq ss else if (goodV q m R s seq).2 = true then (othL q m R lost seq ss).map fun l => (goodV q m R s seq).1 :: l else none
def othV (q m : G3) (R : Rk) (lost : Int × Int) (seq : Int) (l : List (Int × Int)) : List Int × Bool := match othL q m R lost seq l with | none => ([], false) | some ls => ((parL ls).getD [], (parL ls).isSome)
structure OthI (q m : G3) (R : Rk) (lost : Int × Int) (seq : Int) (l : List (Int × Int)) (i : Nat) (st : Slc × Int) (sl : List Slc) (ls : List (List Int)) : Prop where
  hi : st.2 = (i : Int)
  le : i ≤ l.length
  oth : othL q m R lost seq l = (othL q m R lost seq (l.drop i)).map (fun l => ls ++ l)
  hsl : sl.length = ls.length
  lsi : ls.length ≤ i
  len : st.1.len = sl.length
  bs : ∀ b ∈ ls, Byts b ∧ b.length ≤ 64
theorem stripe_others_spec (bb rb : Nat) (q m : G3) (R : Rk) (hby : R.bys) (ds : Slc) (ps : List Nat) (r : Slc) (l : List (Int × Int)) (hl : l.length ≤ 1000) (lost : Int × Int) (seq : Int) {H : HP} (hr : Ent H (rsl 2 r (sv l))) :
    wps g (H * bnk bb rb q m * rackP rb R ds ps) (stripe_others (ptr bb) r lost seq) (fun x => pr (x.2 = (othV q m R lost seq l).2) * H * bnk bb rb q m * rackP rb R ds ps * own 1 x.1 (bv (othV q m R lost seq l).1)) := by
  unfold stripe_others
  refine wps_fact (Ent.trans (ent_right _ _) rackP_good) fun hg => ?_
  refine wps_fact (Ent.trans (ent_left _ _) (Ent.trans (ent_left _ _) (Ent.trans hr (rsl_len _ _ _)))) fun hrl => ?_
  rw [sv_len] at hrl
  refine wps_alloc fun c => ?_
  refine wps_loop (fun st => ex fun i : Nat => ex fun sl : List Slc => ex fun ls : List (List Int) => pr (OthI q m R lost seq l i st sl ls) * H * bnk bb rb q m * rackP rb R ds ps * pc c [.int .i64 lost.1, .int .i64 lost.2] * seqp sl (fun j => ls.getD j []) * own 1 st.1 (sl.map vS)) (fun st => (l.length - st.2).toNat) ?_ fun st => ?_
  · refine ent_ex 0 (ent_ex [] (ent_ex [] (ent_own0 (ent_pers ?_ (seqp_nil _ _)))))
    repeat first | (with_reducible refine ent_pick ?_) | (refine ent_prq ?_)
    all_goals first | trivial | skip
    refine ⟨rfl, by omega, ?_, rfl, by simp, rfl, by simp⟩
    rw [List.drop_zero]
    cases othL q m R lost seq l <;> simp
  refine wps_ex fun i => wps_ex fun sl => wps_ex fun ls => ?_
  refine wps_prP fun ⟨hi, hin, ho, hsl, hlsi, hstl, hbs⟩ => ?_
  refine wps_ite (fun hc => ?_) (fun hc => ?_)
  · have hlt : i < l.length := by have := of_decide_eq_true hc; omega
    have hget : l[i]? = some l[i] := List.getElem?_eq_getElem hlt
    rw [List.drop_eq_getElem_cons hlt, othL] at ho
    generalize hsp : l[i] = sp at *
    refine wps_rdA i sp (Ent.trans (ent_pick1 (A := H)) hr) hi (by simp) (fun o v ho => ?_) ?_
    · have h2 : o < 2 := by have := (List.getElem?_eq_some_iff.1 ho).1; simpa using this
      rw [sv_get hget h2]; exact ho
    refine wps_alloc fun x12 => ?_
    refine wps_stA (by simp) (by simp [Value.oneCell']) ?_
    refine wps_ldA sp (by rfl) ?_
    refine wps_ldA lost (by rfl) ?_
    have heq : eq2 (sp.1, sp.2) (lost.1, lost.2) = decide (sp = lost) := by
      unfold eq2
      by_cases h : sp = lost
      · subst h; simp
      · rw [decide_eq_false h]
        by_cases h1 : sp.1 = lost.1
        · have h2 : ¬ sp.2 = lost.2 := fun h2 => h (Prod.ext h1 h2)
          simp [h2]
        · simp [h1]
    rw [heq]
    by_cases hsl2 : sp = lost
    · rw [if_pos hsl2] at ho
      refine wps_ite (fun _ => wps_pure ?_) (fun h => absurd (decide_eq_true hsl2) h)
      refine ent_prr (by (try dsimp only); rw [range_add1 hi (by omega)]; omega) (ent_ex (i + 1) (ent_ex sl (ent_ex ls ?_)))
      repeat first | (with_reducible refine ent_pick ?_) | (refine ent_prq ?_)
      all_goals first | exact ⟨range_add1 hi (by omega), by omega, ho, hsl, by omega, hstl, hbs⟩ | trivial
    · rw [if_neg hsl2] at ho
      refine wps_ite (fun h => absurd (of_decide_eq_true h) hsl2) (fun _ => ?_)
      refine wps_ldA sp (by rfl) ?_
      refine wps_call2 (fun _ => stripe_good_spec bb rb q m R hby ds ps sp seq) fun x => ?_
      simp only [← star_assoc]
      refine wps_prP fun hx => ?_
      by_cases hgo : (goodV q m R sp seq).2 = true
      rotate_left
      · rw [if_neg hgo] at ho
        have hov : othV q m R lost seq l = ([], false) := by unfold othV; rw [ho]; rfl
        refine wps_ite (fun _ => wps_mapR (wps_pure ?_)) (fun h => absurd (by rw [hx]; simpa using hgo) h)
        show Ent _ (pr (false = _) * _ * _ * _ * _)
        rw [hov]
        refine ent_own0 ?_
        repeat first | (with_reducible refine ent_pick ?_) | (refine ent_prq ?_)
        all_goals first | rfl | trivial
      rw [if_pos hgo] at ho
      refine wps_ite (fun h => absurd h (by rw [hx]; simp [hgo])) (fun _ => ?_)
      refine wps_alloc fun y => ?_
      refine wps_app 1 [vS x.1] rfl (by decide) (rsl_pc rfl) (by simp [Value.oneCell', vS]) (by (try dsimp only); omega) fun t2 ht2 => wps_pure ?_
      have ht3 : t2.len = st.1.len + 1 := ht2
      refine ent_prr (by (try dsimp only); rw [range_add1 hi (by omega)]; omega) (ent_ex (i + 1) (ent_ex (sl ++ [x.1]) (ent_ex (ls ++ [(goodV q m R sp seq).1]) ?_)))
      refine ent_pickS (by simp) ?_
      refine ent_swap (A := own 1 x.1 (bv (goodV q m R sp seq).1)) (B := byt x.1 (goodV q m R sp seq).1) (own_rsl _ _ _) ?_
      refine ent_join (A := seqp sl fun j => ls.getD j []) (B := byt x.1 (goodV q m R sp seq).1) (seqp_snocL hsl) ?_
      repeat first | (with_reducible refine ent_pick ?_) | (refine ent_prq ?_)
      all_goals first | trivial | skip
      refine ⟨range_add1 hi (by omega), by omega, ?_, by simp [hsl], by simp; omega, by simp [ht3, hstl], fun b hb => ?_⟩
      · rw [ho]
        cases othL q m R lost seq (l.drop (i + 1)) <;> simp
      · rcases List.mem_append.1 hb with hb | hb
        · exact hbs b hb
        · obtain rfl : b = (goodV q m R sp seq).1 := by simpa using hb
          exact ⟨goodV_byts hby _ _, goodV_len hg _ _⟩
  · have hie : i = l.length := by
      have hc1 : ¬ (st.2 < ((r.len : Nat) : Int)) := fun h => hc (decide_eq_true h)
      omega
    rw [hie, List.drop_length, othL] at ho
    have hov : othV q m R lost seq l = ((parL ls).getD [], (parL ls).isSome) := by unfold othV; rw [ho]; simp
    refine wps_mapR ?_
    unfold sector_Restore
    refine wps_assoc ?_
    refine wps_bind (sector_Parity_spec (s := st.1) (sl := sl) (ls := ls) (Ent.trans (ent_pick1 (A := own 1 st.1 (sl.map vS))) (own_rsl _ _ _)) (ent_pick1 (A := seqp sl fun j => ls.getD j [])) hsl (by omega) (fun b hb => ⟨(hbs b hb).1, by have := (hbs b hb).2; omega⟩)) fun p => ?_
    simp only [← star_assoc]
    refine wps_prP fun hp => ?_
    refine wps_pure ?_
    rw [hov]
    repeat first | (with_reducible refine ent_pick ?_) | (refine ent_pickS (by rfl) ?_) | (refine ent_prq ?_)
    all_goals first | exact hp | trivial
end Go.Proofs.Ytldmeimebebllaa
namespace Go.Proofs.Ytldmeimebebllaa
open Go.Mo
set_option linter.unusedVariables false
variable {g : Fr} {cv : CV}
theorem slices_Contains_val {H : HP} {s : Slc} {l : List Int} (v : Int) (hs : Ent H (rsl 1 s (zv l))) (hl : l.length ≤ 1000000) : Val g H (slices_Contains_i s v) (decide (v ∈ l)) := by
  unfold slices_Contains_i slices_Index_i
  refine wps_fact (Ent.trans hs (rsl_len _ _ _)) fun hsl => ?_
  have hsl' : l.length = s.len := by simpa [zv] using hsl
  refine wps_bind (R := fun x => pr (decide (x ≥ 0) = decide (v ∈ l)) * H) ?_ fun x => wps_pr fun hx => wps_pure (ent_prr hx (Ent.refl _))
  refine wps_loop (fun st => ex fun i : Nat => pr (st = (i : Int) ∧ i ≤ l.length ∧ v ∉ l.take i) * H) (fun st => (l.length - st).toNat) (ent_ex 0 (ent_prr ⟨rfl, by omega, by simp⟩ (Ent.refl _))) fun st => ?_
  refine wps_ex fun i => wps_pr fun ⟨hi, hin, hno⟩ => ?_
  refine wps_ite (fun hc => ?_) (fun hc => ?_)
  · have hlt : i < l.length := by have := of_decide_eq_true hc; omega
    refine wps_rd i l[i] hs hi (by simp [zv, List.getElem?_eq_getElem hlt]) ?_
    by_cases hv : v = l[i]
    · refine wps_ite (fun _ => wps_mapR (wps_pure (ent_prr ?_ (Ent.refl _)))) (fun h => absurd (by simpa using hv) h)
      rw [decide_eq_true (by omega : st ≥ 0), decide_eq_true]
      rw [hv]; exact List.getElem_mem hlt
    · refine wps_ite (fun h => absurd (by simpa using h) hv) (fun _ => wps_pure ?_)
      refine ent_prr (by rw [range_add1 hi (by omega)]; omega) (ent_ex (i + 1) (ent_prr ⟨range_add1 hi (by omega), by omega, fun hm => ?_⟩ (Ent.refl _)))
      rw [List.take_add_one, List.getElem?_eq_getElem hlt] at hm
      rcases List.mem_append.1 hm with hm | hm
      · exact hno hm
      · exact hv (by simpa using hm)
  · have hie : i = l.length := by
      have hc1 : ¬ (st < ((s.len : Nat) : Int)) := fun h => hc (decide_eq_true h)
      omega
    rw [hie, List.take_length] at hno
    refine wps_mapR (wps_pure (ent_prr ?_ (Ent.refl _)))
    rw [decide_eq_false hno]; rfl
def thereE (q : G3) (R : Rk) (seg : Int) : Int := if ¬ (0 ≤ seg ∧ seg < q.2.2) then 28 else if R.off then 12 else 0
theorem stripe_there_val (bb rb : Nat) (q m : G3) (R : Rk) (ds : Slc) (ps : List Nat) (seg : Int) : Val g (bnk bb rb q m * rackP rb R ds ps) (stripe_there (ptr bb) seg) (thereE q R seg) := by
  unfold stripe_there
  refine wps_val (v := decide (¬ (0 ≤ seg ∧ seg < q.2.2))) ?_ ?_
  · refine wps_ite (fun h => wps_pure (ent_prr ?_ (Ent.refl _))) (fun h => ?_)
    · have := of_decide_eq_true h
      exact (decide_eq_true (by omega)).symm
    · have h' : ¬ seg < 0 := fun h2 => h (decide_eq_true h2)
      refine wps_valH (fun _ => bank_Geo_val bb rb q m) (wps_pure (ent_prr ?_ (Ent.refl _)))
      exact decide_eq_decide.2 (by omega)
  refine wps_ite (fun h => wps_pure (ent_prr ?_ (Ent.refl _))) (fun h => ?_)
  · rw [thereE, if_pos (of_decide_eq_true h)]
  · have h' : ¬ ¬ (0 ≤ seg ∧ seg < q.2.2) := fun h2 => h (decide_eq_true h2)
    refine wps_val2 (fun _ => bank_Off_val bb rb q m R ds ps) ?_
    rw [thereE, if_neg h']
    exact wps_ite (fun ho => wps_pure (ent_prr (by rw [if_pos ho]) (Ent.refl _))) (fun ho => wps_pure (ent_prr (by rw [if_neg ho]) (Ent.refl _)))
def whL (q m : G3) (R : Rk) (bad : List Int) : List (Int × Int) → Int → Option Int
  | [], s => some s
  | sp :: ss, s => if sp.1 ∈ bad then whL q m R bad ss s else if brdE q m R sp ≠ 0 ∨ (headOf (brd q m R sp)).1 = 0 ∨ (s ≠ 0 ∧ (headOf (brd q m R sp)).1 ≠ s) then none else whL q m R bad ss (headOf (brd q m R sp)).1
def allS (q : G3) (seg : Int) (r : Nat) : List (Int × Int) := ((List.range q.2.1.toNat).drop r).flatMap (spotsL q seg)
theorem allS_step {q : G3} {seg : Int} {r : Nat} (h : r < q.2.1.toNat) : allS q seg r = spotsL q seg r ++ allS q seg (r + 1) := by
  unfold allS
  rw [List.drop_eq_getElem_cons (by simpa using h)]
  simp
theorem allS_end {q : G3} {seg : Int} : allS q seg q.2.1.toNat = [] := by
  unfold allS
  rw [List.drop_of_length_le (by simp)]; rfl
def badI (q m : G3) (R : Rk) : List Int := (badL q m R).map fun i : Nat => (i : Int)
def sWhole (q m : G3) (R : Rk) (seg : Int) : Int × Bool × Int :=
  if thereE q R seg ≠ 0 then (0, false, thereE q R seg) else if 1 < (badL q m R).length then (0, false, 0)
  else match whL q m R (badI q m R) (allS q seg 0) 0 with | some s => (s, true, 0) | none => (0, false, 0)
theorem stripe_Whole_spec (hcv : RowsOk cv) (bb rb : Nat) (q m : G3) (hq : RightB q = true) (R : Rk) (hby : R.bys) (ds : Slc) (ps : List Nat) (seg : Int) :
    wps g (bnk bb rb q m * rackP rb R ds ps) (stripe_Whole cv (ptr bb) seg) (fun x => pr (x = sWhole q m R seg) * bnk bb rb q m * rackP rb R ds ps) := by
  unfold stripe_Whole
  have hb := RightB.bnd hq
  have b1 := hb.d3
  have b2 := hb.d16
  have b3 := hb.r1
  have b4 := hb.r4
  refine wps_fact (Ent.trans (ent_right _ _) rackP_good) fun hg => ?_
  refine wps_alloc fun x2 => ?_
  refine wps_alloc fun x4 => ?_
  refine wps_alloc fun x5 => ?_
  refine wps_alloc fun x6 => ?_
  refine wps_ld (ptr bb) (by rfl) ?_
  refine wps_val2 (fun _ => stripe_there_val bb rb q m R ds ps seg) ?_
  by_cases ht : thereE q R seg = 0
  rotate_left
  · have hsw : sWhole q m R seg = (0, false, thereE q R seg) := if_pos ht
    rw [hsw]
    refine wps_ite (fun _ => ?_) (fun h => absurd (by simpa using ht) h)
    refine wps_st (by simp) ?_
    refine wps_st (by simp) ?_
    refine wps_st (by simp) ?_
    refine wps_ld 0 (by rfl) ?_
    refine wps_ld false (by rfl) ?_
    refine wps_ld (thereE q R seg) (by rfl) (wps_pure ?_)
    repeat first | (with_reducible refine ent_pick ?_) | (refine ent_prq ?_)
    all_goals first | rfl | trivial
  refine wps_ite (fun h => absurd h (by simp [ht])) (fun _ => ?_)
  have hseg : 0 ≤ seg ∧ seg < q.2.2 := by
    unfold thereE at ht
    split at ht
    · cases ht
    · rename_i h; exact Classical.not_not.1 h
  refine wps_ld (ptr bb) (by rfl) ?_
  refine wps_call2 (fun _ => bank_Bad_spec bb rb q m R ds ps b2) fun bd => ?_
  simp only [← star_assoc]
  refine wps_fact (Ent.trans (ent_pick1 (A := own 1 bd (iv (badL q m R)))) (own_len _ _ _)) fun ⟨hbl, _⟩ => ?_
  have hbl' : (badL q m R).length = bd.len := by simpa [iv] using hbl
  refine wps_alloc fun x8 => ?_
  refine wps_st (by simp) ?_
  refine wps_ld bd (by rfl) ?_
  by_cases hbad : 1 < (badL q m R).length
  · have hsw : sWhole q m R seg = (0, false, 0) := by unfold sWhole; rw [if_neg (by simp [ht]), if_pos hbad]
    rw [hsw]
    refine wps_ite (fun _ => ?_) (fun h => absurd (by simp; omega) h)
    refine wps_st (by simp) ?_
    refine wps_st (by simp) ?_
    refine wps_st (by simp) ?_
    refine wps_ld 0 (by rfl) ?_
    refine wps_ld false (by rfl) ?_
    refine wps_ld 0 (by rfl) (wps_pure ?_)
    repeat first | (with_reducible refine ent_pick ?_) | (refine ent_prq ?_)
    all_goals first | rfl | trivial
  have hsw : sWhole q m R seg = match whL q m R (badI q m R) (allS q seg 0) 0 with | some s => (s, true, 0) | none => (0, false, 0) := by unfold sWhole; rw [if_neg (by simp [ht]), if_neg hbad]
  rw [hsw]
  refine wps_ite (fun h => absurd h (by simp; omega)) (fun _ => ?_)
  refine wps_alloc fun x9 => ?_
  refine wps_st (by simp) ?_
  refine wps_ld (ptr bb) (by rfl) ?_
  refine wps_valH (fun _ => bank_Geo_val bb rb q m) ?_
  refine wps_bind (stripe_rows_spec q seg) fun v => ?_
  refine wps_ex fun ra => wps_ex fun rc => ?_
  rw [star_assoc, star_assoc]
  refine wps_pr fun hv => ?_
  subst hv
  rw [iv_zv]
  have hbi : badI q m R = (badL q m R).map fun i : Nat => (i : Int) := rfl
  rw [← hbi]
  refine wps_rangeX (F := emp)
    (fun i => ex fun s : Int => pr (whL q m R (badI q m R) (allS q seg 0) 0 = whL q m R (badI q m R) (allS q seg i) s) * bnk bb rb q m * rackP rb R ds ps * pc x2 [.pointer (ptr bb)] * pc x4 [.int .i64 0] * pc x5 [.bool false] * pc x6 [.int .i64 0] * pc x8 [vS bd] * pc x9 [.int .i64 s] * own 1 bd (zv (badI q m R)))
    (fun j => match j with | .ret => pr (whL q m R (badI q m R) (allS q seg 0) 0 = none) * bnk bb rb q m * rackP rb R ds ps * pc x4 [.int .i64 0] * pc x5 [.bool false] * pc x6 [.int .i64 0] | .exit _ => pr False)
    (fun i x t' => pr (t' = x.2) * (rowsA ra rc q seg * (rowsX q seg i x * ex fun s : Int => pr (whL q m R (badI q m R) (allS q seg 0) 0 = whL q m R (badI q m R) (allS q seg i) s) * bnk bb rb q m * rackP rb R ds ps * pc x2 [.pointer (ptr bb)] * pc x4 [.int .i64 0] * pc x5 [.bool false] * pc x6 [.int .i64 0] * pc x8 [vS bd] * pc x9 [.int .i64 s] * own 1 bd (zv (badI q m R)))))
    (rows_iter hcv ra rc q seg ⟨hq, hseg.1, hseg.2⟩) ?_ ?_ ?_ ?_ ?_ ?_
  · refine Ent.trans ?_ (Ent.of_eq (emp_star _).symm)
    refine ent_exr 0 ?_
    simp only [← star_assoc]
    refine ent_pick (ent_pickC (by rfl) (ent_pickC (by rfl) ?_))
    repeat first | (with_reducible exact ent_drop) | (with_reducible refine ent_pick ?_) | (refine ent_prx ?_ ?_; rotate_left)
    all_goals first | rfl | trivial
  · intro i x hx g
    exact wps_pure (ent_prr rfl (Ent.refl _))
  · intro i x hx t' g
    refine wps_pr fun ht => ?_
    subst ht
    refine wps_exP fun s0 => ?_
    simp only [← star_assoc]
    refine wps_prP fun hR => ?_
    refine wps_prP fun hxi => ?_
    refine wps_fact (Ent.trans (ent_pick1 (A := own 2 x.2 (sv (spotsL q seg i)))) (own_len _ _ _)) fun ⟨hspl, _⟩ => ?_
    have hspl2 := spotsL_len q seg i b1
    rw [sv_len] at hspl
    have hbil : (badI q m R).length ≤ 16 := by rw [hbi]; simp only [List.length_map]; exact badL_len q m R b2
    refine wps_loop (fun st => ex fun j : Nat => ex fun s1 : Int => pr (st = (j : Int) ∧ j ≤ (spotsL q seg i).length ∧ whL q m R (badI q m R) (allS q seg 0) 0 = whL q m R (badI q m R) ((spotsL q seg i).drop j ++ allS q seg (i + 1)) s1) * rowsA ra rc q seg * own 2 x.2 (sv (spotsL q seg i)) * bnk bb rb q m * rackP rb R ds ps * pc x2 [.pointer (ptr bb)] * pc x4 [.int .i64 0] * pc x5 [.bool false] * pc x6 [.int .i64 0] * pc x8 [vS bd] * pc x9 [.int .i64 s1] * own 1 bd (zv (badI q m R))) (fun st => ((spotsL q seg i).length - st).toNat) ?_ fun st => ?_
    · refine ent_ex 0 (ent_ex s0 ?_)
      repeat first | (with_reducible refine ent_pick ?_) | (refine ent_prq ?_)
      all_goals first | trivial | skip
      refine ⟨rfl, by omega, ?_⟩
      rw [List.drop_zero, ← allS_step (q := q) (seg := seg) (r := i) hx]
      exact hR
    refine wps_ex fun j => wps_ex fun s1 => wps_prP fun ⟨hj, hjn, hR2⟩ => ?_
    refine wps_ite (fun hc => ?_) (fun hc => ?_)
    rotate_left
    · have hje : j = (spotsL q seg i).length := by
        have hc1 : ¬ (st < ((x.2.len : Nat) : Int)) := fun h => hc (decide_eq_true h)
        omega
      refine wps_mapR (wps_pure ?_)
      show Ent _ (rowsA ra rc q seg * ex _)
      refine ent_exr s1 ?_
      simp only [← star_assoc]
      rw [hje, List.drop_length, List.nil_append] at hR2
      refine ent_pick (ent_pick (ent_pick (ent_pick (ent_pick (ent_pick (ent_pick (ent_pick (ent_pick (ent_prx hR2 ?_)))))))))
      repeat with_reducible exact ent_drop
    have hjl : j < (spotsL q seg i).length := by have := of_decide_eq_true hc; omega
    have hget : (spotsL q seg i)[j]? = some (spotsL q seg i)[j] := List.getElem?_eq_getElem hjl
    rw [List.drop_eq_getElem_cons hjl, List.cons_append, whL] at hR2
    generalize hsp : (spotsL q seg i)[j] = sp at *
    refine wps_rdA j sp (Ent.trans (ent_pick1 (A := own 2 x.2 (sv (spotsL q seg i)))) (own_rsl _ _ _)) hj (by simp) (fun o v ho => ?_) ?_
    · have h2 : o < 2 := by have := (List.getElem?_eq_some_iff.1 ho).1; simpa using this
      rw [sv_get hget h2]; exact ho
    refine wps_alloc fun x13 => ?_
    refine wps_stA (by simp) (by simp [Value.oneCell']) ?_
    refine wps_ld bd (by rfl) ?_
    refine wps_ld sp.1 (by rfl) ?_
    refine wps_val (slices_Contains_val (l := badI q m R) sp.1 (Ent.trans (ent_pick1 (A := own 1 bd (zv (badI q m R)))) (own_rsl _ _ _)) (by omega)) ?_
    by_cases hm : sp.1 ∈ badI q m R
    · rw [if_pos hm] at hR2
      refine wps_ite (fun _ => wps_pure ?_) (fun h => absurd (decide_eq_true hm) h)
      refine ent_prr (by rw [range_add1 hj (by omega)]; omega) (ent_ex (j + 1) (ent_ex s1 ?_))
      repeat first | (with_reducible refine ent_pick ?_) | (refine ent_prq ?_)
      all_goals first | exact ⟨range_add1 hj (by omega), by omega, hR2⟩ | trivial
    rw [if_neg hm] at hR2
    refine wps_ite (fun h => absurd (of_decide_eq_true h) hm) (fun _ => ?_)
    refine wps_ld (ptr bb) (by rfl) ?_
    refine wps_ld sp.1 (by rfl) ?_
    refine wps_ld sp.2 (by rfl) ?_
    refine wps_call2 (fun _ => bank_Read_spec bb rb q m R ds ps sp.1 sp.2) fun y => ?_
    simp only [← star_assoc]
    refine wps_prP fun hy => ?_
    have hy' : y.2 = brdE q m R sp := hy
    have hbr : (if (slotV q m sp.1).2 = true then R.rd (slotV q m sp.1).1 sp.2 else []) = brd q m R sp := rfl
    rw [hbr]
    refine wps_bind (sector_Decode_spec (s := y.1) (b := brd q m R sp) (Ent.trans (ent_pick1 (A := own 1 y.1 (bv (brd q m R sp)))) (own_rsl _ _ _)) (brd_byts hby sp) (by have := brd_len (q := q) (m := m) hg sp; omega)) fun z => ?_
    simp only [← star_assoc]
    refine wps_prP fun ⟨hz, _⟩ => ?_
    rw [hz]
    generalize hh : headOf (brd q m R sp) = hd at *
    refine wps_alloc fun x16 => ?_
    refine wps_stA (by simp) (by simp [Value.oneCell']) ?_
    rw [hy']
    refine wps_val (v := decide (brdE q m R sp ≠ 0 ∨ hd.1 = 0)) (wps_ite (fun h => wps_pure (ent_prr ?_ (Ent.refl _))) (fun h => wps_ld hd.1 (by rfl) (wps_pure (ent_prr ?_ (Ent.refl _))))) ?_
    · exact (decide_eq_true (.inl (by simpa using h))).symm
    · have h' : brdE q m R sp = 0 := by simpa using h
      by_cases he : hd.1 = 0 <;> simp [h', he]
    refine wps_val (v := decide (brdE q m R sp ≠ 0 ∨ hd.1 = 0 ∨ (s1 ≠ 0 ∧ hd.1 ≠ s1))) ?_ ?_
    · refine wps_ite (fun h => wps_pure (ent_prr ?_ (Ent.refl _))) (fun h => ?_)
      · have := of_decide_eq_true h
        exact (decide_eq_true (this.elim .inl fun h => .inr (.inl h))).symm
      · have h' : ¬ (brdE q m R sp ≠ 0 ∨ hd.1 = 0) := fun h2 => h (decide_eq_true h2)
        refine wps_ld s1 (by rfl) ?_
        refine wps_val (v := decide (s1 ≠ 0 ∧ hd.1 ≠ s1)) ?_ (wps_pure (ent_prr ?_ (Ent.refl _)))
        · refine wps_ite (fun h1 => ?_) (fun h1 => wps_pure (ent_prr ?_ (Ent.refl _)))
          · refine wps_ld hd.1 (by rfl) ?_
            refine wps_ld s1 (by rfl) (wps_pure (ent_prr ?_ (Ent.refl _)))
            have h1' : s1 ≠ 0 := by simpa using h1
            by_cases he : hd.1 = s1 <;> simp [h1', he]
          · have h1' : s1 = 0 := by simpa using h1
            simp [h1']
        · exact decide_eq_decide.2 ⟨fun h => .inr (.inr h), fun h => h.elim (fun h => absurd (.inl h) h') fun h => h.elim (fun h => absurd (.inr h) h') id⟩
    by_cases hcond : brdE q m R sp ≠ 0 ∨ hd.1 = 0 ∨ (s1 ≠ 0 ∧ hd.1 ≠ s1)
    · rw [if_pos hcond] at hR2
      refine wps_ite (fun _ => ?_) (fun h => absurd (decide_eq_true hcond) h)
      refine wps_st (by simp) ?_
      refine wps_st (by simp) ?_
      refine wps_st (by simp) (wps_mapR (wps_pure ?_))
      show Ent _ (rowsA ra rc q seg * (_ * _ * _ * _ * _ * _))
      simp only [← star_assoc]
      refine ent_pickC (by rfl) (ent_pickC (by rfl) (ent_pickC (by rfl) (ent_pick (ent_pick (ent_prx hR2 ?_)))))
      repeat with_reducible exact ent_drop
    · rw [if_neg hcond] at hR2
      refine wps_ite (fun h => absurd (of_decide_eq_true h) hcond) (fun _ => ?_)
      refine wps_ld hd.1 (by rfl) ?_
      refine wps_st (by simp) (wps_pure ?_)
      refine ent_prr (by rw [range_add1 hj (by omega)]; omega) (ent_ex (j + 1) (ent_ex hd.1 ?_))
      repeat first | (with_reducible refine ent_pick ?_) | (refine ent_pickC (by rfl) ?_) | (refine ent_prq ?_)
      all_goals first | exact ⟨range_add1 hj (by omega), by omega, hR2⟩ | trivial
  · intro D
    refine wps_exP fun s => ?_
    simp only [← star_assoc]
    refine wps_prP fun hR => ?_
    rw [allS_end, whL] at hR
    rw [hR]
    refine wps_ld s (by rfl) ?_
    refine wps_st (by simp) ?_
    refine wps_st (by simp) ?_
    refine wps_st (by simp) ?_
    refine wps_take ?_
    refine wps_ld s (by rfl) ?_
    refine wps_ld true (by rfl) ?_
    refine wps_ld 0 (by rfl) (wps_pure ?_)
    repeat first | (with_reducible refine ent_pick ?_) | (refine ent_prq ?_)
    all_goals first | rfl | trivial
  · intro D
    simp only [← star_assoc]
    refine wps_prP fun hR => ?_
    rw [hR]
    refine wps_take ?_
    refine wps_ld 0 (by rfl) ?_
    refine wps_ld false (by rfl) ?_
    refine wps_ld 0 (by rfl) (wps_pure ?_)
    repeat first | (with_reducible refine ent_pick ?_) | (refine ent_prq ?_)
    all_goals first | rfl | trivial
  · intro D id
    exact wps_false (fun o ho => by
      have := ent_right _ _ o (ent_left _ _ o ho)
      exact ent_right _ _ o this)
end Go.Proofs.Ytldmeimebebllaa
namespace Go.Proofs.Ytldmeimebebllaa
open Go.Mo
set_option linter.unusedVariables false
variable {g : Fr} {cv : CV}
def takeP (b : List Nat) : HP := match b with | [] => emp | [D] => po D (.deferred (some [])) | _ => pr False
theorem wps_takeB {α : Type} {H : HP} {b : List Nat} {m : M α} {Q : α → HP} (h : wps g H m Q) : wps g (H * takeP b) (takesM b m) Q := by
  match b with
  | [] => exact wps_pre (ent_left _ _) h
  | [D] => exact wps_take (D := D) (H := H * po D (.deferred (some []))) h
  | _ :: _ :: _ => exact wps_false (ent_right _ _)
def sRead (q m : G3) (R : Rk) (seg k seq : Int) : (Int × Int × List Int) × Int :=
  if blkOkB q seg k = false then ((0, 0, []), 28) else if R.off = true then ((0, 0, []), 12)
  else
    let x := if (goodV q m R (blkSpot q seg k) seq).2 = true then goodV q m R (blkSpot q seg k) seq else othV q m R (blkSpot q seg k) seq (spotsL q seg (k / (q.1 - 1)).toNat)
    if x.2 = true then (((headOf x.1).2.1, (headOf x.1).2.2, payOf x.1), 0) else ((0, 0, []), 14)
theorem parL_byts {ls : List (List Int)} (h : ∀ b ∈ ls, Byts b) : Byts ((parL ls).getD []) := by
  have hx : ∀ (a b : List Int), Byts a → Byts b → Byts (zx a b) := by
    intro a
    induction a with
    | nil => intro b _ _; rw [nil_zx]; exact fun n hn => by simp at hn
    | cons x xs ih =>
      intro b ha hb
      cases b with
      | nil => exact ha
      | cons y ys =>
        intro n hn
        simp only [zx, List.mem_cons] at hn
        rcases hn with rfl | hn
        · unfold bXor
          have hw : ∀ v : Int, 0 ≤ IntKind.u8.wrap v ∧ IntKind.u8.wrap v < 256 := fun v => by
            simp [IntKind.wrap, IntKind.bits, IntKind.signed]; omega
          exact hw _
        · exact ih ys (fun n hn => ha n (by simp [hn])) (fun n hn => hb n (by simp [hn])) n hn
  have hs : ∀ (ls : List (List Int)) (a : List Int), Byts a → (∀ b ∈ ls, Byts b) → Byts (ls.foldl (fun acc b => xorB acc (b.drop 4)) a) := by
    intro ls
    induction ls with
    | nil => intro a ha _; exact ha
    | cons b ls ih =>
      intro a ha hb
      rw [List.foldl_cons]
      refine ih _ ?_ (fun c hc => hb c (by simp [hc]))
      unfold xorB
      have hb4 := (hb b (by simp)).drop 4
      split
      · exact hx _ _ hb4 ha
      · exact hx _ _ ha hb4
  unfold parL
  split
  · rename_i hok
    simp only [Option.getD_some]
    refine Byts.app ?_ (hs ls [] (fun n hn => by simp at hn) h)
    cases ls with
    | nil => exact fun n hn => by simp at hn
    | cons a l => exact (h a (by simp)).take 4
  · exact fun n hn => by simp at hn
theorem parL_len (ls : List (List Int)) : ((parL ls).getD []).length ≤ 64 := by
  unfold parL
  split
  · rename_i hpo
    have h1 := parSum_len (ls := ls) ls.length (fun i' _ hi' => by
      rw [List.getElem?_eq_getElem hi']; exact (hpo.2 _ (List.getElem_mem hi')).1) (Nat.le_refl _)
    rw [List.take_length] at h1
    simp only [Option.getD_some, List.length_append, List.length_take, h1]
    split <;> omega
  · simp
theorem othL_byts {q m : G3} {R : Rk} (h : R.bys) (lost : Int × Int) (seq : Int) : ∀ (l : List (Int × Int)) (ls : List (List Int)), othL q m R lost seq l = some ls → ∀ b ∈ ls, Byts b
  | [], ls, ho, b, hb => by simp [othL] at ho; subst ho; simp at hb
  | s :: ss, ls, ho, b, hb => by
    rw [othL] at ho
    split at ho
    · exact othL_byts h lost seq ss ls ho b hb
    · split at ho
      · obtain ⟨l', h1, rfl⟩ := Option.map_eq_some_iff.1 ho
        rcases List.mem_cons.1 hb with rfl | hb
        · exact goodV_byts h _ _
        · exact othL_byts h lost seq ss l' h1 b hb
      · cases ho
theorem othV_byts {q m : G3} {R : Rk} (h : R.bys) (lost : Int × Int) (seq : Int) (l : List (Int × Int)) : Byts (othV q m R lost seq l).1 ∧ (othV q m R lost seq l).1.length ≤ 64 := by
  unfold othV
  cases ho : othL q m R lost seq l with
  | none => exact ⟨fun n hn => by simp at hn, by simp⟩
  | some ls => exact ⟨parL_byts (othL_byts h lost seq l ls ho), parL_len ls⟩
theorem stripe_Read_spec (hcv : RowsOk cv) (bb rb : Nat) (q m : G3) (hq : RightB q = true) (R : Rk) (hby : R.bys) (ds : Slc) (ps : List Nat) (seg k seq : Int) :
    wps g (bnk bb rb q m * rackP rb R ds ps) (stripe_Read cv (ptr bb) seg k seq) (fun x => pr (x.2 = (sRead q m R seg k seq).2 ∧ x.1.1 = (sRead q m R seg k seq).1.1 ∧ x.1.2.1 = (sRead q m R seg k seq).1.2.1) * bnk bb rb q m * rackP rb R ds ps * own 1 x.1.2.2 (bv (sRead q m R seg k seq).1.2.2)) := by
  unfold stripe_Read
  have hb := RightB.bnd hq
  have b1 := hb.d3
  have b2 := hb.d16
  have b3 := hb.r1
  have b4 := hb.r4
  have hpl := hb.places.2
  refine wps_fact (Ent.trans (ent_right _ _) rackP_good) fun hg => ?_
  refine wps_alloc fun x4 => ?_
  refine wps_alloc fun x6 => ?_
  refine wps_alloc fun x7 => ?_
  refine wps_alloc fun x8 => ?_
  refine wps_ld (ptr bb) (by rfl) ?_
  refine wps_valH (fun _ => bank_Geo_val bb rb q m) ?_
  refine wps_alloc fun x10 => ?_
  refine wps_stA (by simp) (by simp [Value.oneCell']) ?_
  refine wps_ldG q.1 q.2.1 q.2.2 (by rfl) ?_
  refine wps_ld k (by rfl) ?_
  refine wps_val (geo_Block_val q seg k) ?_
  refine wps_alloc fun x11 => ?_
  refine wps_alloc fun x12 => ?_
  by_cases hbo : blkOkB q seg k = true
  rotate_left
  · have hsr : sRead q m R seg k seq = ((0, 0, []), 28) := if_pos (by simpa using hbo)
    rw [hsr, if_neg hbo]
    refine wps_stA (by simp) (by simp [Value.oneCell']) ?_
    refine wps_st (by simp) ?_
    refine wps_ld false (by rfl) ?_
    refine wps_ite (fun _ => ?_) (fun h => absurd rfl h)
    refine wps_stA (by simp) (by simp [Value.oneCell']) ?_
    refine wps_ldA (enc := fun y : (Int × Int × Slc) => [(.int .i64 y.1), (.int .i64 y.2.1), (.slice y.2.2.base y.2.2.len y.2.2.cap)]) (0, 0, ⟨none, 0, 0⟩) (by rfl) (wps_pure ?_)
    refine ent_own0 ?_
    repeat first | (with_reducible refine ent_pick ?_) | (refine ent_prq ?_)
    all_goals first | exact ⟨rfl, rfl, rfl⟩ | trivial
  rw [if_pos hbo]
  have hbo' := hbo
  simp only [blkOkB, hq, Bool.true_and, Bool.and_eq_true, decide_eq_true_eq] at hbo'
  obtain ⟨hk, hse⟩ := hbo'
  refine wps_stA (by simp) (by simp [Value.oneCell']) ?_
  refine wps_st (by simp) ?_
  refine wps_ld true (by rfl) ?_
  refine wps_ite (fun h => absurd h (by decide)) (fun _ => ?_)
  refine wps_ld (ptr bb) (by rfl) ?_
  refine wps_val2 (fun _ => bank_Off_val bb rb q m R ds ps) ?_
  by_cases hoff : R.off = true
  · have hsr : sRead q m R seg k seq = ((0, 0, []), 12) := by unfold sRead; rw [if_neg (by simp [hbo]), if_pos hoff]
    rw [hsr]
    refine wps_ite (fun _ => ?_) (fun h => absurd hoff h)
    refine wps_stA (by simp) (by simp [Value.oneCell']) ?_
    refine wps_ldA (enc := fun y : (Int × Int × Slc) => [(.int .i64 y.1), (.int .i64 y.2.1), (.slice y.2.2.base y.2.2.len y.2.2.cap)]) (0, 0, ⟨none, 0, 0⟩) (by rfl) (wps_pure ?_)
    refine ent_own0 ?_
    repeat first | (with_reducible refine ent_pick ?_) | (refine ent_prq ?_)
    all_goals first | exact ⟨rfl, rfl, rfl⟩ | trivial
  refine wps_ite (fun h => absurd h hoff) (fun _ => ?_)
  refine wps_ld (ptr bb) (by rfl) ?_
  refine wps_ldA (blkSpot q seg k) (by rfl) ?_
  refine wps_ld seq (by rfl) ?_
  refine wps_call2 (fun _ => stripe_good_spec bb rb q m R hby ds ps (blkSpot q seg k) seq) fun x => ?_
  simp only [← star_assoc]
  refine wps_prP fun hx => ?_
  generalize hsp : blkSpot q seg k = sp at *
  refine wps_alloc fun x13 => ?_
  refine wps_st (by simp) ?_
  refine wps_st (by simp) ?_
  refine wps_ld x.2 (by rfl) ?_
  generalize hfv : (if (goodV q m R sp seq).2 = true then goodV q m R sp seq else othV q m R sp seq (spotsL q seg (k / (q.1 - 1)).toNat)) = fv
  have hsr : sRead q m R seg k seq = if fv.2 = true then (((headOf fv.1).2.1, (headOf fv.1).2.2, payOf fv.1), 0) else ((0, 0, []), 14) := by
    unfold sRead; rw [if_neg (by simp [hbo]), if_neg hoff, hsp, hfv]
  have hfb : Byts fv.1 ∧ fv.1.length ≤ 64 := by
    rw [← hfv]; split
    · exact ⟨goodV_byts hby _ _, goodV_len hg _ _⟩
    · exact othV_byts hby _ _ _
  refine wps_bindS (R := fun b => (ex fun z : Slc => bnk bb rb q m * rackP rb R ds ps * pc x8 [.int .i64 0, .int .i64 0, .slice none 0 0] * pc x12 [.bool fv.2] * pc x13 [vS z] * own 1 z (bv fv.1)) * takeP b) ?_ fun b => ?_
  · refine wps_ite (fun hgo => ?_) (fun hgo => ?_)
    · have hgo' : ¬ (goodV q m R sp seq).2 = true := by rw [← hx]; simpa using hgo
      rw [if_neg hgo'] at hfv
      refine wps_ldG q.1 q.2.1 q.2.2 (by rfl) ?_
      refine wps_bind (stripe_rows_spec q seg) fun v => ?_
      refine wps_ex fun ra => wps_ex fun rc => ?_
      rw [star_assoc, star_assoc]
      refine wps_pr fun hv => ?_
      subst hv
      have hkr := row_of_k hq hk
      refine wps_rangeX (F := emp)
        (fun i => ex fun z : Slc => ex fun f : List Int × Bool => pr ((k / (q.1 - 1)).toNat < i → f = fv) * bnk bb rb q m * rackP rb R ds ps * pc x4 [.pointer (ptr bb)] * pc x6 [.int .i64 k] * pc x7 [.int .i64 seq] * pc x8 [.int .i64 0, .int .i64 0, .slice none 0 0] * pc x10 [.int .i64 q.1, .int .i64 q.2.1, .int .i64 q.2.2] * pc x11 [.int .i64 sp.1, .int .i64 sp.2] * pc x12 [.bool f.2] * pc x13 [vS z] * own 1 z (bv f.1))
        (fun j => pr False)
        (fun i x t' => pr (t' = x) * (rowsA ra rc q seg * (rowsX q seg i x * ex fun z : Slc => ex fun f : List Int × Bool => pr ((k / (q.1 - 1)).toNat < i → f = fv) * bnk bb rb q m * rackP rb R ds ps * pc x4 [.pointer (ptr bb)] * pc x6 [.int .i64 k] * pc x7 [.int .i64 seq] * pc x8 [.int .i64 0, .int .i64 0, .slice none 0 0] * pc x10 [.int .i64 q.1, .int .i64 q.2.1, .int .i64 q.2.2] * pc x11 [.int .i64 sp.1, .int .i64 sp.2] * pc x12 [.bool f.2] * pc x13 [vS z] * own 1 z (bv f.1))))
        (rows_iter hcv ra rc q seg ⟨hq, hse.1, by omega⟩) ?_ ?_ ?_ ?_ ?_ ?_
      · refine Ent.trans ?_ (Ent.of_eq (emp_star _).symm)
        refine ent_exr x.1 (ent_exr (goodV q m R sp seq) ?_)
        simp only [← star_assoc]
        rw [hx]
        refine ent_pick (ent_pickC (by rfl) (ent_pickC (by rfl) (ent_pickC (by rfl) (ent_pickC (by rfl) (ent_pick (ent_pick (ent_pick (ent_pick (ent_pick (ent_pick (ent_prx (fun h => by omega) ?_)))))))))))
        repeat with_reducible exact ent_drop
      · intro i x hx g
        exact wps_pure (ent_prr rfl (Ent.refl _))
      · intro i y hy t' g
        refine wps_pr fun ht => ?_
        subst ht
        refine wps_exP fun z => wps_exP fun f => ?_
        simp only [← star_assoc]
        refine wps_prP fun hf => ?_
        refine wps_prP fun hyi => ?_
        refine wps_ld k (by rfl) ?_
        refine wps_ld q.1 (by rfl) ?_
        have e0 : w64 (q.1 - 1) = q.1 - 1 := w64_id (by omega) (by omega)
        rw [e0]
        refine wps_assert (by omega) ?_
        have e1 : w64 (Int.tdiv k (q.1 - 1)) = k / (q.1 - 1) := by rw [Int.tdiv_eq_ediv_of_nonneg hk.1, w64_id] <;> omega
        rw [e1, hyi]
        by_cases hik : (i : Int) = k / (q.1 - 1)
        · have hin : (k / (q.1 - 1)).toNat = i := by omega
          rw [hin] at hfv
          have hspl2 := spotsL_len q seg i b1
          refine wps_ite (fun _ => ?_) (fun h => absurd (by simpa using hik) h)
          refine wps_ld (ptr bb) (by rfl) ?_
          refine wps_ldA sp (by rfl) ?_
          refine wps_ld seq (by rfl) ?_
          refine wps_call3 (fun _ => stripe_others_spec bb rb q m R hby ds ps t'.2 (spotsL q seg i) (by omega) sp seq (H := own 2 t'.2 (sv (spotsL q seg i))) (own_rsl _ _ _)) fun y => ?_
          simp only [← star_assoc]
          refine wps_prP fun hy => ?_
          rw [hfv] at hy ⊢
          refine wps_st (by simp) ?_
          refine wps_st (by simp) (wps_pure ?_)
          show Ent _ (rowsA ra rc q seg * ex _)
          refine ent_exr y.1 (ent_exr fv ?_)
          simp only [← star_assoc]
          rw [hy]
          refine ent_pick (ent_pickC (by rfl) (ent_pickC (by rfl) (ent_pick (ent_pick (ent_pick (ent_pick (ent_pick (ent_pick (ent_pick (ent_pick (ent_prx (by simp) ?_)))))))))))
          repeat with_reducible exact ent_drop
        · refine wps_ite (fun h => absurd (by simpa using h) hik) (fun _ => wps_pure ?_)
          show Ent _ (rowsA ra rc q seg * ex _)
          refine ent_exr z (ent_exr f ?_)
          simp only [← star_assoc]
          refine ent_pick (ent_pick (ent_pick (ent_pick (ent_pick (ent_pick (ent_pick (ent_pick (ent_pick (ent_pick (ent_pick (ent_prx (fun h => hf (by omega)) ?_)))))))))))
          repeat with_reducible exact ent_drop
      · intro D
        refine wps_exP fun z => wps_exP fun f => ?_
        simp only [← star_assoc]
        refine wps_prP fun hf => ?_
        obtain rfl := hf (by omega)
        refine wps_pure ?_
        show Ent _ ((ex fun z : Slc => _) * takeP [D])
        refine Ent.trans ?_ (Ent.starl (ent_ex z (Ent.refl _)))
        show Ent _ (_ * po D _)
        repeat first | (with_reducible exact ent_drop) | (with_reducible refine ent_pick ?_)
      · intro D
        exact wps_false (fun o ho => by
          have := ent_right _ _ o (ent_left _ _ o ho)
          exact ent_right _ _ o this)
      · intro D id
        exact wps_false (fun o ho => by
          have := ent_right _ _ o (ent_left _ _ o ho)
          exact ent_right _ _ o this)
    · have hgo' : (goodV q m R sp seq).2 = true := by rw [← hx]; simpa using hgo
      rw [if_pos hgo'] at hfv
      subst hfv
      refine wps_pure ?_
      show Ent _ ((ex fun z : Slc => _) * takeP [])
      refine Ent.trans ?_ (Ent.of_eq (star_emp _).symm)
      refine ent_ex x.1 ?_
      refine ent_pick (ent_pickC (by rfl) (ent_pickC (by rw [← hx]; rfl) ?_))
      repeat first | (with_reducible exact ent_drop) | (with_reducible refine ent_pick ?_)
  · refine wps_exl fun z => ?_
    refine wps_ld fv.2 (by rfl) ?_
    by_cases hf2 : fv.2 = true
    rotate_left
    · rw [if_neg hf2] at hsr
      rw [hsr]
      refine wps_ite (fun _ => ?_) (fun h => absurd (by simpa using hf2) h)
      refine wps_stA (by simp) (by simp [Value.oneCell']) ?_
      refine wps_pre (H' := bnk bb rb q m * rackP rb R ds ps * pc x8 [.int .i64 0, .int .i64 0, .slice none 0 0] * takeP b) ?_ ?_
      · refine ent_pick (ent_pickC (by rfl) ?_)
        repeat with_reducible exact ent_drop
      refine wps_takeB ?_
      refine wps_ldA (enc := fun y : (Int × Int × Slc) => [(.int .i64 y.1), (.int .i64 y.2.1), (.slice y.2.2.base y.2.2.len y.2.2.cap)]) (0, 0, ⟨none, 0, 0⟩) (by rfl) (wps_pure ?_)
      refine ent_own0 ?_
      repeat first | (with_reducible refine ent_pick ?_) | (refine ent_prq ?_)
      all_goals first | exact ⟨rfl, rfl, rfl⟩ | trivial
    rw [if_pos hf2] at hsr
    rw [hsr]
    refine wps_ite (fun h => absurd h (by simp [hf2])) (fun _ => ?_)
    refine wps_ld z (by rfl) ?_
    refine wps_bind (sector_Decode_spec (s := z) (b := fv.1) (Ent.trans (ent_pick1 (A := own 1 z (bv fv.1))) (own_rsl _ _ _)) hfb.1 (by omega)) fun y => ?_
    simp only [← star_assoc]
    refine wps_prP fun ⟨hy, _⟩ => ?_
    refine wps_alloc fun x16 => ?_
    refine wps_stA (by simp) (by simp [Value.oneCell']) ?_
    refine wps_ld y.1.2.1 (by rfl) ?_
    refine wps_ld y.1.2.2 (by rfl) ?_
    refine wps_stA (by simp) (by simp [Value.oneCell']) ?_
    refine wps_pre (H' := bnk bb rb q m * rackP rb R ds ps * own 1 y.2.1 (bv (payOf fv.1)) * pc x8 [.int .i64 y.1.2.1, .int .i64 y.1.2.2, vS y.2.1] * takeP b) ?_ ?_
    · refine ent_pick (ent_pickC (by rfl) ?_)
      repeat first | (with_reducible exact ent_drop) | (with_reducible refine ent_pick ?_)
    refine wps_takeB ?_
    refine wps_ldA (enc := fun y : (Int × Int × Slc) => [(.int .i64 y.1), (.int .i64 y.2.1), (.slice y.2.2.base y.2.2.len y.2.2.cap)]) (y.1.2.1, y.1.2.2, y.2.1) (by rfl) (wps_pure ?_)
    rw [hy]
    repeat first | (with_reducible refine ent_pick ?_) | (refine ent_prq ?_)
    all_goals first | exact ⟨rfl, rfl, rfl⟩ | trivial
end Go.Proofs.Ytldmeimebebllaa

namespace Go.Proofs.Ytldmeimebebllaa
open Go.Mo
set_option linter.unusedVariables false
variable {g : Fr} {cv : CV}
theorem getL_putL {n : Int} (hn : 0 ≤ n) : ∀ w : Nat, getL (putL w n) = n % (256 ^ w : Nat)
  | 0 => by simp [putL, getL]
  | w + 1 => by
    have e : putL (w + 1) n = putL w n ++ [dg n w] := by simp [putL, List.range_succ]
    rw [e, getL_app, getL_putL hn w, putL_len]
    obtain ⟨N, rfl⟩ : ∃ N : Nat, n = (N : Int) := ⟨n.toNat, by omega⟩
    have h := Nat.mod_mul (x := N) (a := 256 ^ w) (b := 256)
    unfold dg
    rw [Nat.pow_succ]
    generalize 256 ^ w = M at h ⊢
    have h2 := congrArg (fun k : Nat => (k : Int)) h
    simp only [Int.natCast_emod, Int.natCast_add, Int.natCast_mul, Int.natCast_ediv] at h2
    rw [Int.natCast_mul]
    exact h2.symm
theorem getL_fits {n : Int} {w : Nat} (h : fitsN w n) : getL (putL w n) = n := by
  rw [getL_putL h.1]
  exact Int.emod_eq_of_lt h.1 h.2
theorem encL_take {seq o i : Int} {d : List Int} : (encL seq o i d).take 4 = putL 4 seq := by
  unfold encL
  rw [List.append_assoc, List.append_assoc, List.take_append_of_le_length (by simp [putL_len]), List.take_of_length_le (by simp [putL_len])]
theorem bx_nat {x y : Int} : bXor .u8 x y = ((BitVec.ofInt 8 x ^^^ BitVec.ofInt 8 y).toNat : Int) := by
  unfold bXor
  show IntKind.u8.wrap (((BitVec.ofInt 8 x ^^^ BitVec.ofInt 8 y).toNat : Nat) : Int) = _
  have := (BitVec.ofInt 8 x ^^^ BitVec.ofInt 8 y).isLt
  generalize (BitVec.ofInt 8 x ^^^ BitVec.ofInt 8 y).toNat = v at *
  simp [IntKind.wrap, IntKind.bits, IntKind.signed]
  omega
theorem bv_back {x : Int} (h : 0 ≤ x ∧ x < 256) : ((BitVec.ofInt 8 x).toNat : Int) = x := by
  rw [BitVec.toNat_ofInt]
  omega
theorem bv_of (v : BitVec 8) : BitVec.ofInt 8 (v.toNat : Int) = v := by
  apply BitVec.eq_of_toNat_eq
  rw [BitVec.toNat_ofInt]
  have := v.isLt
  omega
theorem bx_r {x y : Int} (h : 0 ≤ x ∧ x < 256) : bXor .u8 y (bXor .u8 x y) = x := by
  rw [bx_nat (x := x) (y := y), bx_nat, bv_of]
  have e : BitVec.ofInt 8 y ^^^ (BitVec.ofInt 8 x ^^^ BitVec.ofInt 8 y) = BitVec.ofInt 8 x := by
    rw [BitVec.xor_comm (BitVec.ofInt 8 x), ← BitVec.xor_assoc, BitVec.xor_self, BitVec.zero_xor]
  rw [e, bv_back h]
theorem bx_l {x y : Int} (h : 0 ≤ y ∧ y < 256) : bXor .u8 x (bXor .u8 x y) = y := by
  rw [bx_nat (x := x) (y := y), bx_nat, bv_of]
  have e : BitVec.ofInt 8 x ^^^ (BitVec.ofInt 8 x ^^^ BitVec.ofInt 8 y) = BitVec.ofInt 8 y := by
    rw [← BitVec.xor_assoc, BitVec.xor_self, BitVec.zero_xor]
  rw [e, bv_back h]
theorem zx_r : ∀ {a b : List Int}, a.length = b.length → Byts a → zx b (zx a b) = a
  | [], [], _, _ => rfl
  | x :: xs, y :: ys, h, ha => by
    simp only [zx]
    rw [bx_r (ha x (by simp)), zx_r (by simpa using h) (fun n hn => ha n (by simp [hn]))]
  | [], _ :: _, h, _ => by simp at h
  | _ :: _, [], h, _ => by simp at h
theorem zx_l : ∀ {a b : List Int}, a.length = b.length → Byts b → zx a (zx a b) = b
  | [], [], _, _ => rfl
  | x :: xs, y :: ys, h, hb => by
    simp only [zx]
    rw [bx_l (hb y (by simp)), zx_l (by simpa using h) (fun n hn => hb n (by simp [hn]))]
  | [], _ :: _, h, _ => by simp at h
  | _ :: _, [], h, _ => by simp at h
def par2 (a b : List Int) : List Int := a.take 4 ++ zx (a.drop 4) (b.drop 4)
theorem par2_len {a b : List Int} (ha : a.length = 64) : (par2 a b).length = 64 := by simp [par2, zx_len]; omega
theorem parL2 {a b : List Int} (ha : a.length = 64) (hb : b.length = 64) (h : b.take 4 = a.take 4) : parL [a, b] = some (par2 a b) := by
  have hok : parOk [a, b] := ⟨by simp, fun c hc => by
    simp only [List.mem_cons, List.not_mem_nil, or_false] at hc
    rcases hc with rfl | rfl
    · exact ⟨ha, rfl⟩
    · exact ⟨hb, h⟩⟩
  have e1 : xorB [] (a.drop 4) = a.drop 4 := by
    unfold xorB
    rw [if_pos (by simp; omega), zx_nil]
  have e2 : xorB (a.drop 4) (b.drop 4) = zx (a.drop 4) (b.drop 4) := by
    unfold xorB
    rw [if_neg (by simp; omega)]
  rw [parL, if_pos hok]
  show some (a.take 4 ++ xorB (xorB [] (a.drop 4)) (b.drop 4)) = _
  rw [e1, e2]; rfl
theorem par2_take {a b : List Int} (ha : a.length = 64) : (par2 a b).take 4 = a.take 4 := by
  unfold par2
  rw [List.take_append_of_le_length (by simp; omega), List.take_of_length_le (by simp; omega)]
theorem par2_drop {a b : List Int} (ha : a.length = 64) : (par2 a b).drop 4 = zx (a.drop 4) (b.drop 4) := by
  unfold par2
  rw [List.drop_append_of_le_length (by simp; omega), List.drop_of_length_le (by simp; omega), List.nil_append]
theorem lost1 {a b : List Int} (ha : a.length = 64) (hb : b.length = 64) (h : b.take 4 = a.take 4) (ba : Byts a) : parL [b, par2 a b] = some a := by
  rw [parL2 hb (par2_len ha) (by rw [par2_take ha, h]), par2, par2_drop ha, zx_r (by simp; omega) (ba.drop 4), h, List.take_append_drop]
theorem lost2 {a b : List Int} (ha : a.length = 64) (hb : b.length = 64) (h : b.take 4 = a.take 4) (bb : Byts b) : parL [a, par2 a b] = some b := by
  rw [parL2 ha (par2_len ha) (par2_take ha), par2, par2_drop ha, zx_l (by simp; omega) (bb.drop 4), ← h, List.take_append_drop]
theorem par2_byts {a b : List Int} (ha : Byts a) (hb : Byts b) (la : a.length = 64) (lb : b.length = 64) (h : b.take 4 = a.take 4) : Byts (par2 a b) := by
  have := parL_byts (ls := [a, b]) (fun c hc => by
    simp only [List.mem_cons, List.not_mem_nil, or_false] at hc
    rcases hc with rfl | rfl
    · exact ha
    · exact hb)
  rw [parL2 la lb h] at this
  exact this
end Go.Proofs.Ytldmeimebebllaa
namespace Go.Proofs.Ytldmeimebebllaa
open Go.Mo
set_option linter.unusedVariables false
variable {g : Fr} {cv : CV}
structure Bl (R : Rk) (m : G3) (b : List Int) (done : Nat → Bool) : Prop where
  calm : Calm R
  n : R.n = 4
  ns : R.ns = 41
  sec : ∀ i s : Nat, i < 3 → s < 41 → (R.dk (slotV (3, 3, 12) m i).1.toNat).sec (s : Int) = if done (i * 41 + s) = true then b else noughts
theorem slot_inj (m : G3) {i j : Nat} (hi : i < 3) (hj : j < 3) (h : (slotV (3, 3, 12) m i).1 = (slotV (3, 3, 12) m j).1) : i = j := by
  rw [(slotV_in m i hi).2, (slotV_in m j hj).2] at h
  split at h <;> split at h <;> omega
theorem Bl.write {R : Rk} {m : G3} {b : List Int} {done : Nat → Bool} (h : Bl R m b done) (hb : b.length = 64) {q r : Nat} (hq : q < 3) (hr : r < 41) :
    R.gate (slotV (3, 3, 12) m q).1 r b.length = 0 ∧ Bl (R.write (slotV (3, 3, 12) m q).1 r b) m b (fun k => if k = q * 41 + r then true else done k) := by
  have hrg := slot_range m q hq
  have hw := h.calm.write (k := (slotV (3, 3, 12) m q).1) (s := r) (b := b) (by rw [h.n]; exact hrg) (by rw [h.ns]; omega) hb
  refine ⟨hw.1, ?_⟩
  rw [hw.2]
  refine ⟨h.calm.put _ _ _, h.n, h.ns, fun i s hi hs => ?_⟩
  rw [put_sec, h.sec i s hi hs]
  have hri := slot_range m i hi
  by_cases h1 : i = q
  · subst h1
    by_cases h2 : s = r
    · subst h2; simp
    · have h4 : ¬ (s : Int) = (r : Int) := by omega
      have h3 : ¬ i * 41 + s = i * 41 + r := by omega
      rw [if_neg (fun e => h4 e.2), if_neg h3]
  · have h2 : ¬ (slotV (3, 3, 12) m i).1.toNat = (slotV (3, 3, 12) m q).1.toNat := fun e => h1 (slot_inj m hi hq (by omega))
    have h3 : ¬ i * 41 + s = q * 41 + r := by omega
    simp [h2, h3]
end Go.Proofs.Ytldmeimebebllaa
namespace Go.Proofs.Ytldmeimebebllaa
open Go.Mo
set_option linter.unusedVariables false
variable {g : Fr} {cv : CV}
def spt (seg r : Nat) (i : Nat) : Int × Int := (if i = 2 then 2 - (((seg * 3 + r) % 3 : Nat) : Int) else ((((3 + i) - (seg * 3 + r) % 3) % 3 : Nat) : Int), (5 + (seg * 3 + r) : Nat))
theorem spotsL_small (seg r : Nat) : spotsL (3, 3, 12) seg r = [spt seg r 0, spt seg r 1, spt seg r 2] := by
  have e2 : ((3 : Int) - 1).toNat = 2 := rfl
  unfold spotsL
  rw [show ((3, 3, 12) : G3).1 = 3 from rfl, e2]
  simp only [List.range_succ, List.range_zero, List.nil_append, List.map_cons, List.map_nil, List.cons_append]
  have h0 : blkSpot (3, 3, 12) seg ((r : Int) * (3 - 1) + ((0 : Nat) : Int)) = spt seg r 0 := by
    unfold blkSpot rowOf spt
    have : ((r : Int) * (3 - 1) + ((0 : Nat) : Int)) / (3 - 1) = r := by omega
    simp only [this]
    refine Prod.ext ?_ ?_
    · show (3 - 1 - ((seg : Int) * 3 + r) % 3 + 1 + ((r : Int) * (3 - 1) + ((0 : Nat) : Int)) % (3 - 1)) % 3 = _
      simp only [if_neg (show ¬ (0 : Nat) = 2 by decide)]
      omega
    · show (5 + ((seg : Int) * 3 + r) : Int) = _
      simp
  have h1 : blkSpot (3, 3, 12) seg ((r : Int) * (3 - 1) + ((1 : Nat) : Int)) = spt seg r 1 := by
    unfold blkSpot rowOf spt
    have : ((r : Int) * (3 - 1) + ((1 : Nat) : Int)) / (3 - 1) = r := by omega
    simp only [this]
    refine Prod.ext ?_ ?_
    · show (3 - 1 - ((seg : Int) * 3 + r) % 3 + 1 + ((r : Int) * (3 - 1) + ((1 : Nat) : Int)) % (3 - 1)) % 3 = _
      simp only [if_neg (show ¬ (1 : Nat) = 2 by decide)]
      omega
    · show (5 + ((seg : Int) * 3 + r) : Int) = _
      simp
  have h2 : parSpot (3, 3, 12) seg r = spt seg r 2 := by
    unfold parSpot rowOf spt
    refine Prod.ext ?_ ?_
    · show (3 - 1 - ((seg : Int) * 3 + r) % 3) = _
      simp only [if_true]
      omega
    · show (5 + ((seg : Int) * 3 + r) : Int) = _
      simp
  rw [h0, h1, h2]
theorem spt_rng {seg r i : Nat} (hs : seg < 12) (hr : r < 3) (hi : i < 3) : (0 ≤ (spt seg r i).1 ∧ (spt seg r i).1 < 3) ∧ (5 ≤ (spt seg r i).2 ∧ (spt seg r i).2 < 41) := by
  unfold spt
  refine ⟨?_, ?_⟩
  · simp only
    split <;> omega
  · simp only
    omega
theorem spt_inj {seg seg' r r' i i' : Nat} (hr : r < 3) (hr' : r' < 3) (hi : i < 3) (hi' : i' < 3) (h : spt seg r i = spt seg' r' i') : seg = seg' ∧ r = r' ∧ i = i' := by
  unfold spt at h
  have h1 := congrArg Prod.fst h
  have h2 := congrArg Prod.snd h
  simp only at h1 h2
  have h3 : seg = seg' := by omega
  have h4 : r = r' := by omega
  subst h3 h4
  refine ⟨rfl, rfl, ?_⟩
  split at h1 <;> split at h1 <;> omega
theorem Rk.bys.put {R : Rk} (h : R.bys) {k s : Int} {b : List Int} (hb : Byts b) : (R.put k s b).bys := fun j => by
  simp only [Rk.put]
  split
  · refine ⟨(h j).1, fun i c hc => ?_⟩
    simp only at hc
    split at hc
    · cases hc; exact hb
    · exact (h j).2 i c hc
  · exact h j
theorem Rk.bys_new (n s : Nat) : (Rk.new n s).bys := fun j => ⟨fun k n hn => by
  have : n = 0 := by simp [Rk.new, Dk.new, noughts] at hn; exact hn
  omega, fun i c hc => by simp [Rk.new, Dk.new] at hc⟩
end Go.Proofs.Ytldmeimebebllaa
namespace Go.Proofs.Ytldmeimebebllaa
open Go.Mo
set_option linter.unusedVariables false
variable {g : Fr} {cv : CV}
abbrev Q3 : G3 := (3, 3, 12)
structure EncD (seq : Int) (l : List BlkA) : Prop where
  all : encAll seq l 6 = true
  byts : ∀ c ∈ l, Byts c.data
theorem EncD.ok {seq : Int} {l : List BlkA} (h : EncD seq l) {k : Nat} (hk : k < 6) : encOk seq (blkAt l k).owner (blkAt l k).index (blkAt l k).data := encAll_iff.1 h.all k hk
theorem blkAt_byts {l : List BlkA} (h : ∀ c ∈ l, Byts c.data) (k : Nat) : Byts (blkAt l k).data := by
  unfold blkAt
  by_cases hk : k < l.length
  · rw [List.getD_eq_getElem?_getD, List.getElem?_eq_getElem hk]; exact h _ (List.getElem_mem hk)
  · rw [List.getD_eq_getElem?_getD, List.getElem?_eq_none (by omega)]; exact fun n hn => by simp [BlkA.nil] at hn
theorem EncD.len {seq : Int} {l : List BlkA} (h : EncD seq l) {k : Nat} (hk : k < 6) : (encAt seq l k).length = 64 := encL_len (h.ok hk).2.2.2
theorem EncD.by {seq : Int} {l : List BlkA} (h : EncD seq l) (k : Nat) : Byts (encAt seq l k) := encL_byts (blkAt_byts h.byts k)
theorem encAt_take {seq : Int} {l : List BlkA} {k : Nat} : (encAt seq l k).take 4 = putL 4 seq := encL_take
theorem dat_blk {seq : Int} {l : List BlkA} {r i : Nat} (hi : i < 2) : datAt Q3 seq l r i = encAt seq l (r * 2 + i) := by
  unfold datAt
  rw [show ((Q3.1 - 1).toNat) = 2 from rfl, if_pos hi]
theorem dat_par {seq : Int} {l : List BlkA} {r : Nat} (h : EncD seq l) (hr : r < 3) : datAt Q3 seq l r 2 = par2 (encAt seq l (r * 2)) (encAt seq l (r * 2 + 1)) := by
  unfold datAt
  rw [show ((Q3.1 - 1).toNat) = 2 from rfl, if_neg (by decide)]
  have e : rowL Q3 seq l r = [encAt seq l (r * 2), encAt seq l (r * 2 + 1)] := by
    unfold rowL
    rw [show ((Q3.1 - 1).toNat) = 2 from rfl]
    rfl
  rw [e, parL2 (h.len (by omega)) (h.len (by omega)) (by rw [encAt_take, encAt_take])]; rfl
structure DatOk (seq : Int) (d : List Int) : Prop where
  len : d.length = 64
  byts : Byts d
  take : d.take 4 = putL 4 seq
theorem EncD.dat {seq : Int} {l : List BlkA} (h : EncD seq l) {r i : Nat} (hr : r < 3) (hi : i < 3) : DatOk seq (datAt Q3 seq l r i) := by
  have h1 := h.len (k := r * 2) (by omega)
  have h2 := h.len (k := r * 2 + 1) (by omega)
  have ht : (encAt seq l (r * 2 + 1)).take 4 = (encAt seq l (r * 2)).take 4 := by rw [encAt_take, encAt_take]
  by_cases h3 : i < 2
  · rw [dat_blk h3]
    exact ⟨h.len (by omega), h.by _, encAt_take⟩
  · obtain rfl : i = 2 := by omega
    rw [dat_par h hr]
    exact ⟨par2_len h1, par2_byts (h.by _) (h.by _) h1 h2 ht, by rw [par2_take h1, encAt_take]⟩
theorem DatOk.head {seq : Int} {d : List Int} (h : DatOk seq d) (hs : fitsN 4 seq) : (headOf d).1 = seq := by
  rw [headOf, if_pos h.len]
  show getB d 0 4 = seq
  unfold getB
  rw [List.drop_zero, h.take, getL_fits hs]
def Seg (m : G3) (R : Rk) (seg : Nat) (seq : Int) (l : List BlkA) : Prop := ∀ r i, r < 3 → i < 3 → (R.dk (slotV Q3 m (spt seg r i).1).1.toNat).sec (spt seg r i).2 = datAt Q3 seq l r i
end Go.Proofs.Ytldmeimebebllaa
namespace Go.Proofs.Ytldmeimebebllaa
open Go.Mo
set_option linter.unusedVariables false
variable {g : Fr} {cv : CV}
theorem tick_same (D : Dk) : D.tick.cached = D.cached ∧ D.tick.lasts = D.lasts := by
  unfold Dk.tick
  repeat' split
  all_goals exact ⟨rfl, rfl⟩
structure SameS (R R1 : Rk) : Prop where
  sec : ∀ j (s : Nat), (R1.dk j).sec (s : Int) = (R.dk j).sec (s : Int)
  bys : R.bys → R1.bys
  n : R1.n = R.n
  ns : R1.ns = R.ns
theorem SameS.refl (R : Rk) : SameS R R := ⟨fun _ _ => rfl, id, rfl, rfl⟩
theorem SameS.trans {A B C : Rk} (h : SameS A B) (h' : SameS B C) : SameS A C := ⟨fun j s => (h'.sec j s).trans (h.sec j s), fun x => h'.bys (h.bys x), h'.n.trans h.n, h'.ns.trans h.ns⟩
theorem SameS.ticked (R : Rk) : SameS R R.ticked := by
  unfold Rk.ticked
  split
  · exact ⟨fun _ _ => rfl, fun h => h, rfl, rfl⟩
  · refine ⟨fun j s => ?_, fun h j => ?_, rfl, rfl⟩
    · show ((R.dk j).tick).sec s = _
      unfold Dk.sec
      rw [(tick_same _).1, (tick_same _).2]
    · have := tick_same (R.dk j)
      show (R.dk j).tick.bys
      unfold Dk.bys
      rw [this.1, this.2]
      exact h j
theorem SameS.gated (R : Rk) (k s size : Int) : SameS R (R.gated k s size) := by
  unfold Rk.gated
  split
  · exact .refl R
  · exact .ticked R
theorem clean_sec (D : Dk) (s : Nat) : ((D.flushed fun _ => true).clean).sec (s : Int) = D.sec (s : Int) := by
  simp only [Dk.flushed, Dk.clean, Dk.sec, Int.toNat_natCast]
  cases D.cached (s : Int) <;> rfl
theorem clean_bys {D : Dk} (h : D.bys) (p : Int → Bool) : ((D.flushed p).clean).bys := by
  refine ⟨fun k => ?_, fun j b hb => by simp [Dk.clean] at hb⟩
  simp only [Dk.flushed, Dk.clean]
  cases hc : D.cached (k : Int) with
  | none => exact h.1 k
  | some b =>
    simp only
    split
    · exact h.2 _ _ hc
    · exact h.1 k
theorem SameS.flush (R : Rk) (k : Int) : SameS R (R.flush k) := by
  unfold Rk.flush
  have hg := SameS.gated R k 0 64
  split
  · refine hg.trans ⟨fun j s => ?_, fun h j => ?_, rfl, rfl⟩
    · simp only [Rk.setD]
      split
      · rename_i hj; subst hj; exact clean_sec _ s
      · rfl
    · simp only [Rk.setD]
      split
      · exact clean_bys (h _) _
      · exact h j
  · exact hg
theorem SameS.flushL : ∀ (xs : List Int) (R : Rk), SameS R (flushL xs R).1
  | [], R => .refl R
  | d :: xs, R => by
    unfold Go.Proofs.Ytldmeimebebllaa.flushL
    split
    · exact .flush R d
    · exact (SameS.flush R d).trans (SameS.flushL xs _)
theorem SameS.doom (R : Rk) (k c : Int) : SameS R (R.doom k c) := by
  unfold Rk.doom
  split
  · exact .refl R
  · refine ⟨fun j s => ?_, fun h j => ?_, rfl, rfl⟩
    · simp only [Rk.setD]
      split
      · rename_i hj; subst hj; rfl
      · rfl
    · simp only [Rk.setD]
      split
      · rename_i hj; subst hj; exact h _
      · exact h j
theorem Seg.same {m : G3} {R R1 : Rk} {seg : Nat} {seq : Int} {l : List BlkA} (h : Seg m R seg seq l) (hs : SameS R R1) : Seg m R1 seg seq l := fun r i hr hi => by
  have e : (spt seg r i).2 = ((5 + (seg * 3 + r) : Nat) : Int) := rfl
  rw [← h r i hr hi, e, hs.sec]
theorem sec_brd {m : G3} {R : Rk} {f : Nat → Bool} (h : Settled R f) (hn : R.n = 4) (hns : R.ns = 41) {s : Int × Int} (h1 : 0 ≤ s.1 ∧ s.1 < 3) (h2 : 0 ≤ s.2 ∧ s.2 < 41) :
    brdE Q3 m R s = (if f (slotV Q3 m s.1).1.toNat = true then 13 else 0) ∧ (f (slotV Q3 m s.1).1.toNat = false → brd Q3 m R s = (R.dk (slotV Q3 m s.1).1.toNat).sec s.2) := by
  obtain ⟨i, hi⟩ : ∃ i : Nat, s.1 = (i : Int) := ⟨s.1.toNat, by omega⟩
  have hi3 : i < 3 := by omega
  have hsl := slotV_in m i hi3
  have hrg : 0 ≤ (slotV Q3 m i).1 ∧ (slotV Q3 m i).1 < 4 := slot_range m i hi3
  unfold brdE brd
  rw [hi]
  have hr : ¬ ((slotV Q3 m i).1 < 0 ∨ (slotV Q3 m i).1 ≥ (R.n : Int) ∨ s.2 < 0 ∨ s.2 ≥ (R.ns : Int)) := by
    rw [hn, hns]
    omega
  have hE : R.rdErr (slotV Q3 m i).1 s.2 = if f (slotV Q3 m i).1.toNat = true then 13 else 0 := by
    unfold Rk.rdErr
    rw [if_neg (by simp [h.off]), if_neg hr, h.failed]
  rw [show (slotV Q3 m i).2 = true from hsl.1, if_pos rfl, if_pos rfl]
  refine ⟨hE, fun hf => ?_⟩
  unfold Rk.rd
  rw [hE, hf]
  simp
end Go.Proofs.Ytldmeimebebllaa
namespace Go.Proofs.Ytldmeimebebllaa
open Go.Mo
set_option linter.unusedVariables false
variable {g : Fr} {cv : CV}
structure SegF (m : G3) (R : Rk) (f : Nat → Bool) (seg : Nat) (seq : Int) (l : List BlkA) : Prop where
  set : Settled R f
  n : R.n = 4
  ns : R.ns = 41
  there : Seg m R seg seq l
  enc : EncD seq l
  s12 : seg < 12
  fit : fitsN 4 seq
def lostS (m : G3) (f : Nat → Bool) (i : Nat) : Bool := f (slotV Q3 m i).1.toNat
theorem SegF.good {m : G3} {R : Rk} {f : Nat → Bool} {seg : Nat} {seq : Int} {l : List BlkA} (h : SegF m R f seg seq l) {r i : Nat} (hr : r < 3) (hi : i < 3) :
    goodV Q3 m R (spt seg r i) seq = if lostS m f (spt seg r i).1.toNat = true then ([], false) else (datAt Q3 seq l r i, true) := by
  have hrg := spt_rng h.s12 hr hi
  have hb := sec_brd (m := m) h.set h.n h.ns (s := spt seg r i) hrg.1 (by omega)
  have hL : lostS m f (spt seg r i).1.toNat = f (slotV Q3 m (spt seg r i).1).1.toNat := by
    unfold lostS
    rw [show (((spt seg r i).1.toNat : Nat) : Int) = (spt seg r i).1 by omega]
  unfold goodV
  rw [hL, hb.1]
  cases hf : f (slotV Q3 m (spt seg r i).1).1.toNat with
  | true => simp
  | false =>
    rw [hb.2 hf, h.there r i hr hi]
    have := ((h.enc.dat hr hi).head h.fit)
    simp [this]
theorem spt_ne {seg r i j : Nat} (hr : r < 3) (hi : i < 3) (hj : j < 3) (h : i ≠ j) : spt seg r i ≠ spt seg r j := fun e => h (spt_inj hr hr hi hj e).2.2
theorem SegF.oth {m : G3} {R : Rk} {f : Nat → Bool} {seg : Nat} {seq : Int} {l : List BlkA} (h : SegF m R f seg seq l) {r i : Nat} (hr : r < 3) (hi : i < 3) (ho : ∀ j, j < 3 → j ≠ i → lostS m f (spt seg r j).1.toNat = false) :
    othV Q3 m R (spt seg r i) seq (spotsL Q3 seg r) = (datAt Q3 seq l r i, true) := by
  have hg : ∀ j, j < 3 → j ≠ i → goodV Q3 m R (spt seg r j) seq = (datAt Q3 seq l r j, true) := fun j hj hne => by
    rw [h.good hr hj, ho j hj hne]; simp
  have hs := spotsL_small seg r
  rw [show spotsL Q3 seg r = [spt seg r 0, spt seg r 1, spt seg r 2] from hs]
  have h0 := h.enc.dat (r := r) (i := 0) hr (by decide)
  have h1 := h.enc.dat (r := r) (i := 1) hr (by decide)
  have e0 : datAt Q3 seq l r 0 = encAt seq l (r * 2) := dat_blk (by decide)
  have e1 : datAt Q3 seq l r 1 = encAt seq l (r * 2 + 1) := dat_blk (by decide)
  have ht : (encAt seq l (r * 2 + 1)).take 4 = (encAt seq l (r * 2)).take 4 := by rw [encAt_take, encAt_take]
  have l0 : (encAt seq l (r * 2)).length = 64 := e0 ▸ h0.len
  have l1 : (encAt seq l (r * 2 + 1)).length = 64 := e1 ▸ h1.len
  have hp := dat_par h.enc hr
  unfold othV
  have hi' : i = 0 ∨ i = 1 ∨ i = 2 := by omega
  rcases hi' with rfl | rfl | rfl
  · have n1 := spt_ne (seg := seg) hr (i := 1) (j := 0) (by decide) (by decide) (by decide)
    have n2 := spt_ne (seg := seg) hr (i := 2) (j := 0) (by decide) (by decide) (by decide)
    simp only [othL, if_true, if_neg n1, if_neg n2, hg 1 (by decide) (by decide), hg 2 (by decide) (by decide), Option.map_some]
    rw [e1, hp, e0, lost1 l0 l1 ht (h.enc.by _)]; rfl
  · have n1 := spt_ne (seg := seg) hr (i := 0) (j := 1) (by decide) (by decide) (by decide)
    have n2 := spt_ne (seg := seg) hr (i := 2) (j := 1) (by decide) (by decide) (by decide)
    simp only [othL, if_true, if_neg n1, if_neg n2, hg 0 (by decide) (by decide), hg 2 (by decide) (by decide), Option.map_some]
    rw [e0, hp, e1, lost2 l0 l1 ht (h.enc.by _)]; rfl
  · have n1 := spt_ne (seg := seg) hr (i := 0) (j := 2) (by decide) (by decide) (by decide)
    have n2 := spt_ne (seg := seg) hr (i := 1) (j := 2) (by decide) (by decide) (by decide)
    simp only [othL, if_true, if_neg n1, if_neg n2, hg 0 (by decide) (by decide), hg 1 (by decide) (by decide), Option.map_some]
    rw [e0, e1, parL2 l0 l1 ht, hp]; rfl
end Go.Proofs.Ytldmeimebebllaa

namespace Go.Proofs.Ytldmeimebebllaa
open Go.Mo
set_option linter.unusedVariables false
variable {g : Fr} {cv : CV}
def m0 : G3 := (0, 0, 0)
end Go.Proofs.Ytldmeimebebllaa



namespace Go.Proofs.Ytldmeimebebllaa
open Go.Mo
set_option linter.unusedVariables false
variable {g : Fr} {cv : CV}
theorem Armed.doom {R : Rk} {f : Nat → Bool} (h : Armed R f) {k : Int} (hk : 0 ≤ k ∧ k < R.n) : Armed (R.doom k 0) (fun j => f j || decide (j = k.toNat)) := by
  unfold Rk.doom
  rw [if_neg (by omega)]
  refine ⟨h.off, h.count, fun j => ?_, fun j => ?_⟩
  · simp only [Rk.setD]; split <;> simp [h.failed]
  · simp only [Rk.setD]
    by_cases hj : j = k.toNat
    · subst hj; simp [maxI]
    · simp [hj, h.counts]
end Go.Proofs.Ytldmeimebebllaa
namespace Go.Proofs.Ytldmeimebebllaa
open Go.Mo
set_option linter.unusedVariables false
variable {g : Fr} {cv : CV}
theorem val_orb {H : HP} {r s : Bool} : Val g H (if r = true then pureM true else pureM s) (r || s) := by
  cases r <;> exact wps_pure (ent_pr (by simp))
end Go.Proofs.Ytldmeimebebllaa
namespace Go.Proofs.Ytldmeimebebllaa
open Go.Mo
set_option linter.unusedVariables false
variable {g : Fr} {cv : CV}
def sndRow (q m : G3) (R : Rk) (seg seq : Int) (r : Nat) : Bool := (goodV q m R (parSpot q seg r) seq).2 && ((othV q m R (parSpot q seg r) seq (spotsL q seg r)).2 && decide ((goodV q m R (parSpot q seg r) seq).1 = (othV q m R (parSpot q seg r) seq (spotsL q seg r)).1))
theorem spotsL_last (q : G3) (seg : Int) (r : Nat) : (spotsL q seg r)[(q.1 - 1).toNat]? = some (parSpot q seg r) := by
  unfold spotsL
  rw [List.getElem?_append_right (by simp)]
  simp
end Go.Proofs.Ytldmeimebebllaa
namespace Go.Proofs.Ytldmeimebebllaa
open Go.Mo
set_option linter.unusedVariables false
variable {g : Fr} {cv : CV}
theorem parSpot3 (seg r : Nat) : parSpot Q3 seg r = spt seg r 2 := by
  have h1 := spotsL_last Q3 seg r
  have h2 := spotsL_small seg r
  rw [show spotsL Q3 seg r = _ from h2, show ((Q3.1 - 1).toNat) = 2 from rfl] at h1
  simpa using h1.symm
structure Row3 (R : Rk) (seg r : Nat) (d : Nat → List Int) : Prop where
  set : Settled R (fun _ => false)
  n : R.n = 4
  ns : R.ns = 41
  s12 : seg < 12
  r3 : r < 3
  sec : ∀ i, i < 3 → (R.dk (slotV Q3 m0 (spt seg r i).1).1.toNat).sec (spt seg r i).2 = d i
theorem Row3.snd {R : Rk} {seg r : Nat} {d : Nat → List Int} (h : Row3 R seg r d) (seq : Int) :
    sndRow Q3 m0 R seg seq r = true ↔ (∀ i, i < 3 → (headOf (d i)).1 = seq) ∧ parL [d 0, d 1] = some (d 2) := by
  have g : ∀ i, i < 3 → goodV Q3 m0 R (spt seg r i) seq = (d i, (headOf (d i)).1 == seq) := fun i hi => by
    have hrg := spt_rng h.s12 h.r3 hi
    have hb := sec_brd (m := m0) h.set h.n h.ns (s := spt seg r i) hrg.1 (by omega)
    unfold goodV
    rw [hb.1, if_pos (by decide), hb.2 rfl, h.sec i hi]
  have n0 := spt_ne (seg := seg) h.r3 (i := 0) (j := 2) (by decide) (by decide) (by decide)
  have n1 := spt_ne (seg := seg) h.r3 (i := 1) (j := 2) (by decide) (by decide) (by decide)
  unfold sndRow
  rw [parSpot3, g 2 (by decide), show spotsL Q3 seg r = [spt seg r 0, spt seg r 1, spt seg r 2] from spotsL_small seg r]
  unfold othV
  simp only [othL, if_true, if_neg n0, if_neg n1, g 0 (by decide), g 1 (by decide)]
  constructor
  · intro hx
    cases e0 : ((headOf (d 0)).1 == seq)
    · rw [e0] at hx; simp at hx
    cases e1 : ((headOf (d 1)).1 == seq)
    · rw [e0, e1] at hx; simp at hx
    rw [e0, e1] at hx
    simp only [if_true, Option.map_some, Bool.and_eq_true, beq_iff_eq, decide_eq_true_eq] at hx
    obtain ⟨h2, h3, h4⟩ := hx
    refine ⟨fun i hi => ?_, ?_⟩
    · have : i = 0 ∨ i = 1 ∨ i = 2 := by omega
      rcases this with rfl | rfl | rfl
      · simpa using e0
      · simpa using e1
      · exact h2
    · obtain ⟨c, hc⟩ := Option.isSome_iff_exists.1 h3
      rw [hc] at h4 ⊢
      rw [h4]; rfl
  · rintro ⟨hh, hp⟩
    have b : ∀ i, i < 3 → ((headOf (d i)).1 == seq) = true := fun i hi => by simp [hh i hi]
    rw [b 0 (by decide), b 1 (by decide), b 2 (by decide)]
    simp [hp]
end Go.Proofs.Ytldmeimebebllaa
namespace Go.Proofs.Ytldmeimebebllaa
open Go.Mo
set_option linter.unusedVariables false
variable {g : Fr} {cv : CV}
theorem bv_set {x : List Int} {k : Nat} {v : Int} : (bv x).set k (.int .u8 v) = bv (x.set k v) := by simp [bv, List.map_set]
end Go.Proofs.Ytldmeimebebllaa
namespace Go.Proofs.Ytldmeimebebllaa
open Go.Mo
set_option linter.unusedVariables false
variable {g : Fr} {cv : CV}
def slotK (q : G3) (seg : Int) (r : Nat) (slot : Int) : Nat := (spotsL q seg r).findIdx (fun s => s.1 == slot)
def slotSp (q : G3) (seg : Int) (r : Nat) (slot : Int) : Int × Int := (spotsL q seg r).getD (slotK q seg r slot) (0, 0)
theorem blkSpot_rc {q : G3} {seg : Int} {r c : Nat} (h1 : 3 ≤ q.1) (hc : (c : Int) < q.1 - 1) : (blkSpot q seg ((r : Int) * (q.1 - 1) + (c : Int))).1 = (q.1 - 1 - rowOf q seg r % q.1 + 1 + c) % q.1 := by
  have e1 : ((r : Int) * (q.1 - 1) + (c : Int)) / (q.1 - 1) = r := by
    rw [Int.add_comm, Int.add_mul_ediv_right _ _ (by omega), Int.ediv_eq_zero_of_lt (by omega) hc]; omega
  have e2 : ((r : Int) * (q.1 - 1) + (c : Int)) % (q.1 - 1) = c := by
    rw [Int.add_comm, Int.add_mul_emod_self_right, Int.emod_eq_of_lt (by omega) hc]
  unfold blkSpot
  rw [e1, e2]
theorem slot_mem {q : G3} {seg : Int} {r : Nat} {slot : Int} (h1 : 3 ≤ q.1) (hs : 0 ≤ slot ∧ slot < q.1) : ∃ s ∈ spotsL q seg r, s.1 = slot := by
  have hp0 := Int.emod_nonneg (rowOf q seg r) (b := q.1) (by omega)
  have hp1 := Int.emod_lt_of_pos (rowOf q seg r) (b := q.1) (by omega)
  generalize hp : rowOf q seg r % q.1 = p at *
  by_cases h : slot = q.1 - 1 - p
  · refine ⟨parSpot q seg r, by simp [spotsL], ?_⟩
    unfold parSpot
    rw [hp]; exact h.symm
  · obtain ⟨c, hc, hcm⟩ : ∃ c : Nat, (c : Int) < q.1 - 1 ∧ (q.1 - 1 - p + 1 + (c : Int)) % q.1 = slot := by
      by_cases h2 : q.1 - 1 - p < slot
      · refine ⟨(slot - (q.1 - 1 - p) - 1).toNat, by omega, ?_⟩
        rw [show q.1 - 1 - p + 1 + ((slot - (q.1 - 1 - p) - 1).toNat : Int) = slot by omega]
        exact Int.emod_eq_of_lt hs.1 hs.2
      · refine ⟨(slot + p).toNat, by omega, ?_⟩
        rw [show q.1 - 1 - p + 1 + ((slot + p).toNat : Int) = slot + q.1 by omega, Int.add_emod_right]
        exact Int.emod_eq_of_lt hs.1 hs.2
    refine ⟨blkSpot q seg ((r : Int) * (q.1 - 1) + (c : Int)), ?_, ?_⟩
    · unfold spotsL
      refine List.mem_append_left _ (List.mem_map.2 ⟨c, List.mem_range.2 (by omega), rfl⟩)
    · rw [blkSpot_rc h1 hc, hp, hcm]
theorem slotK_lt {q : G3} {seg : Int} {r : Nat} {slot : Int} (h1 : 3 ≤ q.1) (hs : 0 ≤ slot ∧ slot < q.1) : slotK q seg r slot < (spotsL q seg r).length := by
  obtain ⟨s, hm, he⟩ := slot_mem (q := q) (seg := seg) (r := r) h1 hs
  exact List.findIdx_lt_length_of_exists ⟨s, hm, by simp [he]⟩
theorem slotSp_get {q : G3} {seg : Int} {r : Nat} {slot : Int} (h1 : 3 ≤ q.1) (hs : 0 ≤ slot ∧ slot < q.1) : (spotsL q seg r)[slotK q seg r slot]? = some (slotSp q seg r slot) := by
  have := slotK_lt (q := q) (seg := seg) (r := r) h1 hs
  unfold slotSp
  rw [List.getD_eq_getElem?_getD, List.getElem?_eq_getElem this]; rfl
theorem slotSp_fst {q : G3} {seg : Int} {r : Nat} {slot : Int} (h1 : 3 ≤ q.1) (hs : 0 ≤ slot ∧ slot < q.1) : (slotSp q seg r slot).1 = slot := by
  have hlt := slotK_lt (q := q) (seg := seg) (r := r) h1 hs
  have hf : ((spotsL q seg r)[slotK q seg r slot]'hlt).1 == slot := List.findIdx_getElem (w := hlt)
  have hg := slotSp_get (q := q) (seg := seg) (r := r) h1 hs
  rw [List.getElem?_eq_getElem hlt] at hg
  rw [← Option.some.inj hg]
  simpa using hf
def lackB (q m : G3) (R : Rk) (seg slot seq : Int) (r : Nat) : Bool := !(goodV q m R (slotSp q seg r slot) seq).2
end Go.Proofs.Ytldmeimebebllaa
namespace Go.Proofs.Ytldmeimebebllaa
open Go.Mo
set_option linter.unusedVariables false
variable {g : Fr} {cv : CV}
def slottedE (q : G3) (R : Rk) (seg slot : Int) : Int := if ¬ (0 ≤ slot ∧ slot < q.1) then 28 else thereE q R seg
def refL (q m : G3) (seg slot seq : Int) : List Nat → Rk → Rk × Int
  | [], R => (R, 0)
  | r :: rs, R =>
    if lackB q m R seg slot seq r = true then
      if (othV q m R (slotSp q seg r slot) seq (spotsL q seg r)).2 = false then (R, 14)
      else if bgate q m R (slotSp q seg r slot) (othV q m R (slotSp q seg r slot) seq (spotsL q seg r)).1 ≠ 0 then (bwrite q m R (slotSp q seg r slot) (othV q m R (slotSp q seg r slot) seq (spotsL q seg r)).1, bgate q m R (slotSp q seg r slot) (othV q m R (slotSp q seg r slot) seq (spotsL q seg r)).1)
      else refL q m seg slot seq rs (bwrite q m R (slotSp q seg r slot) (othV q m R (slotSp q seg r slot) seq (spotsL q seg r)).1)
    else refL q m seg slot seq rs R
def sRefill (q m : G3) (R : Rk) (seg slot seq : Int) : Rk × Int := if slottedE q R seg slot ≠ 0 then (R, slottedE q R seg slot) else refL q m seg slot seq (List.range q.2.1.toNat) R
theorem drop_range {n i : Nat} (h : i < n) : (List.range n).drop i = i :: (List.range n).drop (i + 1) := by
  rw [List.drop_eq_getElem_cons (by simpa using h)]; simp
end Go.Proofs.Ytldmeimebebllaa
namespace Go.Proofs.Ytldmeimebebllaa
open Go.Mo
set_option linter.unusedVariables false
variable {g : Fr} {cv : CV}
theorem val_or {H : HP} {p q : Prop} [Decidable p] [Decidable q] : Val g H (if decide p = true then pureM true else pureM (decide q)) (decide (p ∨ q)) := by
  by_cases h : p
  · rw [decide_eq_true h, decide_eq_true (Or.inl h : p ∨ q)]; exact wps_pure (ent_pr rfl)
  · rw [decide_eq_false h]
    exact wps_pure (ent_prr (decide_eq_decide.2 (by simp [h])) (Ent.refl _))
theorem ref01_Get_val {H : HP} {s : Slc} {b : List Int} (p w : Nat) (hs : Ent H (byt s b)) (hb : Byts b) (h1 : 1 ≤ w) (h4 : w ≤ 4) (hp : p + w ≤ b.length) (hl : b.length ≤ 1099511627776) : Val g H (ref01_Get s p w) (getB b p w, true) := by
  unfold ref01_Get
  refine wps_fact (len_of hs) fun hls => ?_
  refine wps_val val_or (wps_val val_or (wps_val val_or (wps_val val_or ?_)))
  refine wps_ite (fun h => by
    have := of_decide_eq_true h
    rw [w64_id (by omega) (by omega)] at this
    omega) (fun _ => ?_)
  refine wps_loop (fun st => ex fun i : Nat => pr (st.2 = (i : Int) - 1 ∧ i ≤ w ∧ st.1 = getL ((b.drop (p + i)).take (w - i))) * H) (fun st => (st.2 + 1).toNat) (ent_ex w (ent_prr ⟨by dsimp only; rw [w64_id] <;> omega, by omega, by rw [Nat.sub_self]; rfl⟩ (Ent.refl _))) fun st => ?_
  refine wps_ex fun i => wps_pr fun ⟨hi, hin, hv⟩ => ?_
  refine wps_ite (fun hc => ?_) (fun hc => ?_)
  · have hi1 : 1 ≤ i := by have := of_decide_eq_true hc; omega
    have hlt : p + (i - 1) < b.length := by omega
    have hr := getL_rng ((hb.drop (p + i)).take (w - i))
    have hlen : ((b.drop (p + i)).take (w - i)).length = w - i := by simp; omega
    rw [hlen] at hr
    have hle : (256 : Nat) ^ (w - i) ≤ 256 ^ 3 := Nat.pow_le_pow_right (by decide) (by omega)
    have hle2 : ((256 ^ (w - i) : Nat) : Int) ≤ 16777216 := Int.ofNat_le.2 hle
    have hbg := hb.get hlt
    refine wps_rd (p + (i - 1)) b[p + (i - 1)] hs (by rw [hi, w64_id] <;> omega) (by simp [bv, List.getElem?_eq_getElem hlt]) (wps_pure ?_)
    refine ent_prr (by dsimp only; rw [w64_id] <;> omega) (ent_ex (i - 1) (ent_prr ⟨by dsimp only; rw [w64_id] <;> omega, by omega, ?_⟩ (Ent.refl _)))
    have e1 : (b.drop (p + (i - 1))).take (w - (i - 1)) = b[p + (i - 1)] :: (b.drop (p + i)).take (w - i) := by
      rw [List.drop_eq_getElem_cons hlt, show w - (i - 1) = (w - i) + 1 by omega, List.take_succ_cons, show p + (i - 1) + 1 = p + i by omega]
    rw [e1, getL, ← hv]
    rw [← hv] at hr
    dsimp only
    rw [w64_id (n := st.1 * 256) (by omega) (by omega), w64_id (n := b[p + (i - 1)]) (by omega) (by omega), w64_id (by omega) (by omega)]
    omega
  · have hie : i = 0 := by
      have : ¬ (st.2 ≥ 0) := fun h => hc (decide_eq_true h)
      omega
    subst hie
    refine wps_mapR (wps_pure (ent_prr ?_ (Ent.refl _)))
    rw [hv]; rfl
end Go.Proofs.Ytldmeimebebllaa
namespace Go.Proofs.Ytldmeimebebllaa
open Go.Mo
set_option linter.unusedVariables false
variable {g : Fr} {cv : CV}
theorem ref03_Places_val {H : HP} (q : G3) : Val g H (ref03_Places q) (if RightB q = true then placesI q else 0) := by
  unfold ref03_Places
  refine wps_alloc fun x1 => ?_
  refine wps_ldG q.1 q.2.1 q.2.2 (by rfl) ?_
  refine wps_val (ref03_Right_val (q.1, q.2.1, q.2.2)) ?_
  by_cases h : RightB q = true
  · rw [if_pos h]
    refine wps_ite (fun h2 => absurd h (by simpa using h2)) (fun _ => ?_)
    refine wps_ld q.2.1 (by rfl) ?_
    refine wps_ld q.1 (by rfl) (wps_pure (ent_val ?_))
    exact (RightB.bnd h).places.1
  · rw [if_neg h]
    exact wps_ite (fun _ => wps_pure (ent_val rfl)) (fun h2 => absurd (by simpa using h2) h)
theorem ref03_Parity_val {H : HP} (q : G3) (seg r : Int) : Val g H (ref03_Parity q seg r) (if parOkB q seg r then (parSpot q seg r, true) else ((0, 0), false)) := by
  unfold ref03_Parity
  refine wps_alloc fun x3 => ?_
  refine wps_alloc fun x6 => ?_
  refine wps_ldG q.1 q.2.1 q.2.2 (by rfl) ?_
  refine wps_val (ref03_Right_val (q.1, q.2.1, q.2.2)) ?_
  refine wps_val val_orb ?_
  refine wps_val (v := (!RightB q || decide (seg < 0)) || decide (seg ≥ q.2.2)) (wps_ite (fun h => wps_pure (ent_prr (by rw [h]; rfl) (Ent.refl _))) (fun h => wps_ld q.2.2 (by rfl) (wps_pure (ent_prr (by rw [show (!RightB q || decide (seg < 0)) = false by simpa using h]; rfl) (Ent.refl _))))) ?_
  refine wps_val val_orb ?_
  refine wps_val (v := (((!RightB q || decide (seg < 0)) || decide (seg ≥ q.2.2)) || decide (r < 0)) || decide (r ≥ q.2.1)) (wps_ite (fun h => wps_pure (ent_prr (by rw [h]; rfl) (Ent.refl _))) (fun h => wps_ld q.2.1 (by rfl) (wps_pure (ent_prr (by rw [show (((!RightB q || decide (seg < 0)) || decide (seg ≥ q.2.2)) || decide (r < 0)) = false by simpa using h]; rfl) (Ent.refl _))))) ?_
  by_cases hok : parOkB q seg r = true
  rotate_left
  · rw [if_neg hok]
    refine wps_ite (fun _ => ?_) (fun h => absurd ?_ hok)
    · refine wps_stA (by simp) (by simp [Value.oneCell']) ?_
      refine wps_ldA (enc := fun y : (Int × Int) => [(.int .i64 y.1), (.int .i64 y.2)]) (0, 0) (by rfl) (wps_pure (ent_val rfl))
    · simp only [Bool.or_eq_true, not_or, Bool.not_eq_true', Bool.not_eq_false, decide_eq_true_eq] at h
      obtain ⟨⟨⟨⟨h1, h2⟩, h3⟩, h4⟩, h5⟩ := h
      simp only [parOkB, Bool.and_eq_true, decide_eq_true_eq]
      exact ⟨by simpa using h1, by omega, by omega⟩
  rw [if_pos hok]
  simp only [parOkB, Bool.and_eq_true, decide_eq_true_eq] at hok
  obtain ⟨hR, hs, hr⟩ := hok
  have hb := RightB.bnd hR
  have b1 := hb.d3
  have b2 := hb.d16
  have hrw := rowOf_rng (q := q) (seg := seg) (r := r) ⟨hR, hs.1, by omega⟩ ⟨hr.1, by omega⟩
  have hse := hb.sect
  refine wps_ite (fun h => absurd h (by simp [hR]; omega)) (fun _ => ?_)
  refine wps_ld q.1 (by rfl) ?_
  have hmul0 : 0 ≤ seg * q.2.1 := Int.mul_nonneg hs.1 (by omega)
  have hro : rowOf q seg r = seg * q.2.1 + r := rfl
  have e1 : w64 (w64 (seg * q.2.1) + r) = rowOf q seg r := by
    rw [w64_id (n := seg * q.2.1) (by omega) (by omega), w64_id (by omega) (by omega)]; rfl
  refine wps_loop (fun st => ex fun i : Nat => pr (st.2 = (i : Int) ∧ (i : Int) ≤ rowOf q seg r ∧ st.1 = q.1 - 1 - (i : Int) % q.1) * H * pc x3 [.int .i64 q.1, .int .i64 q.2.1, .int .i64 q.2.2] * pc x6 [.int .i64 0, .int .i64 0]) (fun st => (rowOf q seg r - st.2).toNat) ?_ fun st => ?_
  · refine ent_ex 0 ?_
    repeat first | (with_reducible refine ent_pick ?_) | (refine ent_prq ?_)
    all_goals first | exact ⟨rfl, by omega, by dsimp only; rw [show ((0 : Nat) : Int) % q.1 = 0 from Int.zero_emod _, w64_id] <;> omega⟩ | trivial
  refine wps_ex fun i => wps_prP fun ⟨hi, hin, hv⟩ => ?_
  have hm0 := Int.emod_nonneg (i : Int) (b := q.1) (by omega)
  have hm1 := Int.emod_lt_of_pos (i : Int) (b := q.1) (by omega)
  refine wps_ld q.2.1 (by rfl) ?_
  rw [e1]
  refine wps_ite (fun hc => ?_) (fun hc => ?_)
  · have hlt : (i : Int) < rowOf q seg r := by have := of_decide_eq_true hc; omega
    have hstep : ((i + 1 : Nat) : Int) % q.1 = if (i : Int) % q.1 = q.1 - 1 then 0 else (i : Int) % q.1 + 1 := by
      have := Int.emod_add_mul_ediv (i : Int) q.1
      by_cases h : (i : Int) % q.1 = q.1 - 1
      · rw [if_pos h]
        rw [show ((i + 1 : Nat) : Int) = 0 + q.1 * ((i : Int) / q.1 + 1) by rw [Int.mul_add]; omega, Int.add_mul_emod_self_left]; rfl
      · rw [if_neg h]
        rw [show ((i + 1 : Nat) : Int) = ((i : Int) % q.1 + 1) + q.1 * ((i : Int) / q.1) by omega, Int.add_mul_emod_self_left, Int.emod_eq_of_lt (by omega) (by omega)]
    have e2 : w64 (st.1 - 1) = st.1 - 1 := w64_id (by omega) (by omega)
    rw [e2]
    refine wps_ite (fun hd => ?_) (fun hd => wps_pure ?_)
    · have hd' := of_decide_eq_true hd
      rw [if_pos (by omega)] at hstep
      refine wps_ld q.1 (by rfl) (wps_pure ?_)
      refine ent_prr (by dsimp only; rw [range_add1 hi (by omega)]; omega) (ent_ex (i + 1) ?_)
      repeat first | (with_reducible refine ent_pick ?_) | (refine ent_prq ?_)
      all_goals first | exact ⟨range_add1 hi (by omega), by omega, by dsimp only; rw [hstep, w64_id] <;> omega⟩ | trivial
    · have hd' : ¬ (st.1 - 1 < 0) := fun h => hd (decide_eq_true h)
      rw [if_neg (by omega)] at hstep
      refine ent_prr (by dsimp only; rw [range_add1 hi (by omega)]; omega) (ent_ex (i + 1) ?_)
      repeat first | (with_reducible refine ent_pick ?_) | (refine ent_prq ?_)
      all_goals first | exact ⟨range_add1 hi (by omega), by omega, by dsimp only; rw [hstep]; omega⟩ | trivial
  · have hie : (i : Int) = rowOf q seg r := by
      have : ¬ (st.2 < rowOf q seg r) := fun h => hc (decide_eq_true h)
      omega
    refine wps_mapR ?_
    refine wps_ld q.2.1 (by rfl) ?_
    refine wps_stA (by simp) (by simp [Value.oneCell']) ?_
    have e5 : w64 (w64 (5 + w64 (seg * q.2.1)) + r) = 5 + rowOf q seg r := by
      rw [w64_id (n := seg * q.2.1) (by omega) (by omega), w64_id (n := 5 + seg * q.2.1) (by omega) (by omega), w64_id] <;> omega
    rw [e5]
    refine wps_ldA (enc := fun y : (Int × Int) => [(.int .i64 y.1), (.int .i64 y.2)]) (st.1, 5 + rowOf q seg r) (by rfl) (wps_pure ?_)
    refine ent_prr ?_ ent_drop
    rw [hv, hie]; rfl
theorem ref03_Block_val {H : HP} (q : G3) (seg k : Int) : Val g H (ref03_Block q seg k) (if blkOkB q seg k then (blkSpot q seg k, true) else ((0, 0), false)) := by
  unfold ref03_Block
  refine wps_alloc fun x3 => ?_
  refine wps_alloc fun x6 => ?_
  refine wps_ldG q.1 q.2.1 q.2.2 (by rfl) ?_
  refine wps_val (ref03_Right_val (q.1, q.2.1, q.2.2)) ?_
  refine wps_val val_orb ?_
  refine wps_val (v := (!RightB q || decide (k < 0)) || decide (k > if RightB q = true then placesI q else 0)) (wps_ite (fun h => wps_pure (ent_prr (by rw [h]; rfl) (Ent.refl _))) (fun h => wps_ldG q.1 q.2.1 q.2.2 (by rfl) (wps_val (ref03_Places_val _) (wps_pure (ent_prr (by rw [show (!RightB q || decide (k < 0)) = false by simpa using h]; rfl) (Ent.refl _)))))) ?_
  by_cases hk : RightB q = true ∧ 0 ≤ k ∧ k ≤ placesI q
  rotate_left
  · have hno : ¬ blkOkB q seg k = true := fun h => by
      simp only [blkOkB, Bool.and_eq_true, decide_eq_true_eq] at h
      exact hk ⟨h.1, h.2.1⟩
    rw [if_neg hno]
    refine wps_ite (fun _ => ?_) (fun h => absurd ?_ hk)
    · refine wps_stA (by simp) (by simp [Value.oneCell']) ?_
      refine wps_ldA (enc := fun y : (Int × Int) => [(.int .i64 y.1), (.int .i64 y.2)]) (0, 0) (by rfl) (wps_pure (ent_val rfl))
    · simp only [Bool.or_eq_true, not_or, Bool.not_eq_true', Bool.not_eq_false, decide_eq_true_eq] at h
      have hr : RightB q = true := by simpa using h.1.1
      rw [if_pos hr] at h
      exact ⟨hr, by omega, by omega⟩
  obtain ⟨hR, hk⟩ := hk
  rw [if_pos hR]
  have hb := RightB.bnd hR
  have b1 := hb.d3
  have b2 := hb.d16
  have hpl := hb.places.2
  refine wps_ite (fun h => absurd h (by simp [hR]; omega)) (fun _ => ?_)
  have eD : w64 (q.1 - 1) = q.1 - 1 := w64_id (by omega) (by omega)
  refine wps_loop (fun st => ex fun i : Nat => pr (st.2 = (i : Int) ∧ st.1 = k - (i : Int) * (q.1 - 1) ∧ 0 ≤ st.1) * H * pc x3 [.int .i64 q.1, .int .i64 q.2.1, .int .i64 q.2.2] * pc x6 [.int .i64 0, .int .i64 0]) (fun st => st.1.toNat) ?_ fun st => ?_
  · refine ent_ex 0 ?_
    repeat first | (with_reducible refine ent_pick ?_) | (refine ent_prq ?_)
    all_goals first | exact ⟨rfl, by simp, hk.1⟩ | trivial
  refine wps_ex fun i => wps_prP fun ⟨hi, hv, h0⟩ => ?_
  have him : 0 ≤ (i : Int) * (q.1 - 1) := Int.mul_nonneg (by omega) (by omega)
  have hile : (i : Int) ≤ (i : Int) * (q.1 - 1) := by
    have := Int.mul_le_mul_of_nonneg_left (show (1 : Int) ≤ q.1 - 1 by omega) (show (0 : Int) ≤ (i : Int) by omega)
    omega
  refine wps_ld q.1 (by rfl) ?_
  rw [eD]
  refine wps_ite (fun hc => ?_) (fun hc => ?_)
  · have hge := of_decide_eq_true hc
    refine wps_ld q.1 (by rfl) (wps_pure ?_)
    rw [eD]
    refine ent_prr (by dsimp only; rw [w64_id] <;> omega) (ent_ex (i + 1) ?_)
    repeat first | (with_reducible refine ent_pick ?_) | (refine ent_prq ?_)
    all_goals first | exact ⟨range_add1 hi (by omega), by dsimp only; rw [w64_id (by omega) (by omega), hv, show ((i + 1 : Nat) : Int) = (i : Int) + 1 by omega, Int.add_mul]; omega, by dsimp only; rw [w64_id] <;> omega⟩ | trivial
  have hlt : st.1 < q.1 - 1 := by
    have : ¬ (st.1 ≥ q.1 - 1) := fun h => hc (decide_eq_true h)
    omega
  have hki : k = st.1 + (i : Int) * (q.1 - 1) := by omega
  have hkd : k / (q.1 - 1) = (i : Int) := by
    rw [hki, Int.add_mul_ediv_right _ _ (by omega), Int.ediv_eq_zero_of_lt h0 hlt]; omega
  have hkm : k % (q.1 - 1) = st.1 := by
    rw [hki, Int.add_mul_emod_self_right, Int.emod_eq_of_lt h0 hlt]
  refine wps_mapR ?_
  refine wps_ldG q.1 q.2.1 q.2.2 (by rfl) ?_
  refine wps_val (ref03_Parity_val (q.1, q.2.1, q.2.2) seg st.2) ?_
  have hrow := row_of_k hR hk
  have hpe : parOkB q seg st.2 = blkOkB q seg k := by
    have h1 : decide (0 ≤ st.2 ∧ st.2 ≤ q.2.1 - 1) = true := decide_eq_true (by rw [hi, ← hkd]; exact hrow)
    have h2 : decide (0 ≤ k ∧ k ≤ placesI q) = true := decide_eq_true hk
    unfold parOkB blkOkB
    rw [h1, h2]
    simp
  rw [show parOkB (q.1, q.2.1, q.2.2) seg st.2 = blkOkB q seg k from hpe]
  refine wps_alloc fun x9 => ?_
  by_cases hok : blkOkB q seg k = true
  rotate_left
  · rw [if_neg hok, if_neg hok]
    refine wps_stA (by simp) (by simp [Value.oneCell']) ?_
    refine wps_ite (fun _ => ?_) (fun h => absurd rfl h)
    refine wps_stA (by simp) (by simp [Value.oneCell']) ?_
    refine wps_ldA (enc := fun y : (Int × Int) => [(.int .i64 y.1), (.int .i64 y.2)]) (0, 0) (by rfl) (wps_pure ?_)
    refine ent_prr rfl ent_drop
  rw [if_pos hok, if_pos hok]
  refine wps_stA (by simp) (by simp [Value.oneCell']) ?_
  refine wps_ite (fun h => absurd h (by simp)) (fun _ => ?_)
  have hp0 := Int.emod_nonneg (rowOf q seg (i : Int)) (b := q.1) (by omega)
  have hp1 := Int.emod_lt_of_pos (rowOf q seg (i : Int)) (b := q.1) (by omega)
  have hps : parSpot (q.1, q.2.1, q.2.2) seg st.2 = (q.1 - 1 - rowOf q seg (i : Int) % q.1, 5 + rowOf q seg (i : Int)) := by rw [hi]; rfl
  have hbs : blkSpot q seg k = ((q.1 - 1 - rowOf q seg (i : Int) % q.1 + 1 + st.1) % q.1, 5 + rowOf q seg (i : Int)) := by unfold blkSpot; rw [hkd, hkm]
  rw [hps, hbs]
  generalize hp : q.1 - 1 - rowOf q seg (i : Int) % q.1 = p at *
  refine wps_loop (fun t => ex fun j : Nat => pr (t = (j : Int) ∧ (j : Int) ≤ st.1 + 1) * H * pc x3 [.int .i64 q.1, .int .i64 q.2.1, .int .i64 q.2.2] * pc x6 [.int .i64 0, .int .i64 0] * pc x9 [.int .i64 ((p + (j : Int)) % q.1), .int .i64 (5 + rowOf q seg (i : Int))]) (fun t => (st.1 + 1 - t).toNat) ?_ fun t => ?_
  · refine ent_ex 0 ?_
    refine ent_pickC (by simp [ovw]; exact (Int.emod_eq_of_lt (by omega) (by omega)).symm) ?_
    repeat first | (with_reducible refine ent_pick ?_) | (refine ent_prq ?_)
    all_goals first | exact ⟨rfl, by omega⟩ | trivial
  refine wps_ex fun j => wps_prP fun ⟨ht, hj⟩ => ?_
  have hm0 := Int.emod_nonneg (p + (j : Int)) (b := q.1) (by omega)
  have hm1 := Int.emod_lt_of_pos (p + (j : Int)) (b := q.1) (by omega)
  refine wps_ite (fun hc => ?_) (fun hc => ?_)
  · have hle := of_decide_eq_true hc
    refine wps_ld ((p + (j : Int)) % q.1) (by rfl) ?_
    refine wps_st (by simp) ?_
    rw [w64_id (by omega) (by omega)]
    refine wps_ld ((p + (j : Int)) % q.1 + 1) (by rfl) ?_
    refine wps_ld q.1 (by rfl) ?_
    have hstep : (p + ((j + 1 : Nat) : Int)) % q.1 = if (p + (j : Int)) % q.1 = q.1 - 1 then 0 else (p + (j : Int)) % q.1 + 1 := by
      have := Int.emod_add_mul_ediv (p + (j : Int)) q.1
      by_cases h : (p + (j : Int)) % q.1 = q.1 - 1
      · rw [if_pos h]
        rw [show p + ((j + 1 : Nat) : Int) = 0 + q.1 * ((p + (j : Int)) / q.1 + 1) by rw [Int.mul_add]; omega, Int.add_mul_emod_self_left]; rfl
      · rw [if_neg h]
        rw [show p + ((j + 1 : Nat) : Int) = ((p + (j : Int)) % q.1 + 1) + q.1 * ((p + (j : Int)) / q.1) by omega, Int.add_mul_emod_self_left, Int.emod_eq_of_lt (by omega) (by omega)]
    refine wps_ite (fun he => ?_) (fun he => wps_pure ?_)
    · have he' : (p + (j : Int)) % q.1 + 1 = q.1 := by simpa using he
      rw [if_pos (by omega)] at hstep
      refine wps_st (by simp) (wps_pure ?_)
      refine ent_prr (by rw [range_add1 ht (by omega)]; omega) (ent_ex (j + 1) ?_)
      refine ent_pickC (by rw [hstep]; rfl) ?_
      repeat first | (with_reducible refine ent_pick ?_) | (refine ent_prq ?_)
      all_goals first | exact ⟨range_add1 ht (by omega), by omega⟩ | trivial
    · have he' : ¬ (p + (j : Int)) % q.1 + 1 = q.1 := by simpa using he
      rw [if_neg (by omega)] at hstep
      refine ent_prr (by rw [range_add1 ht (by omega)]; omega) (ent_ex (j + 1) ?_)
      refine ent_pickC (by rw [hstep]; rfl) ?_
      repeat first | (with_reducible refine ent_pick ?_) | (refine ent_prq ?_)
      all_goals first | exact ⟨range_add1 ht (by omega), by omega⟩ | trivial
  · have hje : (j : Int) = st.1 + 1 := by
      have : ¬ (t ≤ st.1) := fun h => hc (decide_eq_true h)
      omega
    refine wps_mapR ?_
    refine wps_ldA (enc := fun y : (Int × Int) => [(.int .i64 y.1), (.int .i64 y.2)]) ((p + (j : Int)) % q.1, 5 + rowOf q seg (i : Int)) (by rfl) ?_
    refine wps_stA (by simp) (by simp [Value.oneCell']) ?_
    refine wps_ldA (enc := fun y : (Int × Int) => [(.int .i64 y.1), (.int .i64 y.2)]) ((p + (j : Int)) % q.1, 5 + rowOf q seg (i : Int)) (by rfl) (wps_pure ?_)
    refine ent_prr ?_ ent_drop
    rw [hje, show p + (st.1 + 1) = p + 1 + st.1 by omega]
end Go.Proofs.Ytldmeimebebllaa
namespace Go.Proofs.Ytldmeimebebllaa
open Go.Mo
set_option linter.unusedVariables false
variable {g : Fr} {cv : CV}
abbrev S4 := Int × Int × Int × Int
def whereB (q : G3) (a : Int) : Bool := RightB q && decide (1 ≤ a ∧ a ≤ q.2.2 * placesI q)
def sumOk (q : G3) (s : S4) : Bool := RightB q && (decide (1 ≤ s.1 ∧ s.1 ≤ q.2.2 ∧ 0 ≤ s.2.1 ∧ s.2.1 < s.1 ∧ 0 ≤ s.2.2.1 ∧ s.2.2.1 ≤ placesI q) && (if s.2.1 = s.1 - 1 then decide (1 ≤ s.2.2.2 ∧ s.2.2.2 ≤ q.2.2 * placesI q) else decide (s.2.2.2 = 0)))
theorem geo_Places_all {H : HP} (q : G3) : Val g H (geo_Places q) (if RightB q = true then placesI q else 0) := by
  unfold geo_Places
  refine wps_alloc fun c => ?_
  refine wps_ldG q.1 q.2.1 q.2.2 (by rfl) ?_
  refine wps_val (geo_Right_val q) ?_
  by_cases h : RightB q = true
  · rw [if_pos h]
    refine wps_ite (fun h2 => absurd h (by simpa using h2)) (fun _ => ?_)
    refine wps_ldG q.1 q.2.1 q.2.2 (by rfl) ?_
    refine wps_val (geo_places_val q) (wps_pure (ent_val ?_))
    exact (RightB.bnd h).places.1
  · rw [if_neg h]
    exact wps_ite (fun _ => wps_pure (ent_val rfl)) (fun h2 => absurd (by simpa using h2) h)
theorem segs_places {q : G3} (h : RightB q = true) : w64 (q.2.2 * placesI q) = q.2.2 * placesI q ∧ q.2.2 * placesI q ≤ 3776 := by
  have hb := RightB.bnd h
  have h1 := hb.places.2
  have b5 := hb.s12
  have b6 := hb.s64
  have h2 : q.2.2 * placesI q ≤ 64 * 59 := Int.mul_le_mul b6 h1.2 (by omega) (by omega)
  have h3 : 0 ≤ q.2.2 * placesI q := Int.mul_nonneg (by omega) (by omega)
  exact ⟨w64_id (by omega) (by omega), by omega⟩
theorem geo_Where_val {H : HP} (q : G3) (a : Int) : Val g H (geo_Where q a) (if whereB q a = true then (((a - 1) / placesI q, (a - 1) % placesI q + 1, true) : Int × Int × Bool) else (0, 0, false)) := by
  unfold geo_Where
  refine wps_alloc fun c => ?_
  refine wps_bindV (u := !whereB q a) ?_ ?_
  · refine wps_regionH ?_
    refine wps_ldGI q.1 q.2.1 q.2.2 (by rfl) ?_
    refine wps_stepV (geo_Right_val q) ?_
    by_cases h : RightB q = true
    · refine wps_ite (fun h2 => absurd h (by simpa using h2)) (fun _ => ?_)
      refine wps_ldI q.2.2 (by rfl) ?_
      refine wps_ldGI q.1 q.2.1 q.2.2 (by rfl) ?_
      refine wps_stepV (geo_places_val q) ?_
      rw [(RightB.bnd h).places.1, (segs_places h).1]
      refine wps_stepV (geo_within_val _ _ _) (wps_pure (ent_prr ?_ (Ent.refl _)))
      simp [whereB, h]
    · refine wps_ite (fun _ => wps_pure (ent_prr ?_ (Ent.refl _))) (fun h2 => absurd (by simpa using h2) h)
      simp [whereB, h]
  by_cases h : whereB q a = true
  · rw [if_pos h]
    refine wps_ite (fun h2 => absurd h (by simpa using h2)) (fun _ => ?_)
    have hR : RightB q = true ∧ (1 ≤ a ∧ a ≤ q.2.2 * placesI q) := by simpa [whereB] using h
    have hb := (RightB.bnd hR.1).places
    have hs := (segs_places hR.1).2
    refine wps_regionH ?_
    refine wps_ldGI q.1 q.2.1 q.2.2 (by rfl) ?_
    refine wps_ldGI q.1 q.2.1 q.2.2 (by rfl) ?_
    refine wps_stepV (geo_places_val q) ?_
    rw [hb.1]
    refine wps_assert (by omega) ?_
    refine wps_stepV (geo_places_val q) ?_
    rw [hb.1]
    refine wps_assert (by omega) (wps_pure (ent_val ?_))
    have h0 : 0 ≤ (a - 1) / placesI q := Int.ediv_nonneg (by omega) (by omega)
    have h1 : (a - 1) / placesI q ≤ a - 1 := Int.ediv_le_self _ (by omega)
    have h2 := Int.emod_nonneg (a - 1) (b := placesI q) (by omega)
    have h3 := Int.emod_lt_of_pos (a - 1) (b := placesI q) (by omega)
    rw [w64_id (n := a - 1) (by omega) (by omega), Int.tdiv_eq_ediv_of_nonneg (by omega), Int.tmod_eq_emod_of_nonneg (by omega), w64_id (n := (a - 1) / placesI q) (by omega) (by omega), w64_id (by omega) (by omega)]
  · rw [if_neg h]
    exact wps_ite (fun _ => wps_pure (ent_val rfl)) (fun h2 => absurd (by simpa using h2) h)
theorem val_cond {H : HP} {c b : Bool} {m : M Bool} (h : c = false → Val g H m b) : Val g H (if c = true then pureM true else m) (c || b) := by
  refine wps_ite (fun hc => wps_pure (ent_val (by rw [hc]; rfl))) (fun hc => ?_)
  have hc : c = false := by simpa using hc
  rw [hc]
  exact h hc
theorem scan_right_val {H : HP} (q : G3) (s : S4) : Val g H (scan_right q s) (sumOk q s) := by
  unfold scan_right
  obtain ⟨c, x, b, r⟩ := s
  refine wps_alloc fun x2 => ?_
  refine wps_alloc fun x3 => ?_
  refine wps_ldG q.1 q.2.1 q.2.2 (by rfl) ?_
  refine wps_val (geo_Places_all q) ?_
  by_cases hR : RightB q = true
  rotate_left
  · rw [if_neg hR]
    refine wps_val (v := true) (wps_ite (fun _ => wps_pure (ent_val rfl)) (fun h => absurd rfl h)) ?_
    refine wps_val (v := true) (wps_ite (fun _ => wps_pure (ent_val rfl)) (fun h => absurd rfl h)) ?_
    refine wps_val (v := true) (wps_ite (fun _ => wps_pure (ent_val rfl)) (fun h => absurd rfl h)) ?_
    refine wps_val (v := true) (wps_ite (fun _ => wps_pure (ent_val rfl)) (fun h => absurd rfl h)) ?_
    refine wps_val (v := true) (wps_ite (fun _ => wps_pure (ent_val rfl)) (fun h => absurd rfl h)) ?_
    refine wps_val (v := true) (wps_ite (fun _ => wps_pure (ent_val rfl)) (fun h => absurd rfl h)) ?_
    exact wps_ite (fun _ => wps_pure (ent_val (by simp [sumOk, hR]))) (fun h => absurd rfl h)
  rw [if_pos hR]
  have hb := (RightB.bnd hR).places
  have hs := RightB.bnd hR
  have b6 := hs.s64
  refine wps_val (val_cond (b := decide (c < 1)) fun _ => wps_ld c (by rfl) (wps_pure (ent_val rfl))) ?_
  refine wps_val (val_cond (b := decide (c > q.2.2)) fun _ => wps_ld c (by rfl) (wps_ld q.2.2 (by rfl) (wps_pure (ent_val rfl)))) ?_
  refine wps_val (val_cond (b := decide (x < 0)) fun _ => wps_ld x (by rfl) (wps_pure (ent_val rfl))) ?_
  refine wps_val (val_cond (b := decide (x ≥ c)) fun _ => wps_ld x (by rfl) (wps_ld c (by rfl) (wps_pure (ent_val rfl)))) ?_
  refine wps_val (val_cond (b := decide (b < 0)) fun _ => wps_ld b (by rfl) (wps_pure (ent_val rfl))) ?_
  refine wps_val (val_cond (b := decide (b > placesI q)) fun _ => wps_ld b (by rfl) (wps_pure (ent_val rfl))) ?_
  refine wps_ite (fun h => wps_pure (ent_val ?_)) (fun h => ?_)
  · simp only [Bool.or_eq_true, decide_eq_true_eq, beq_iff_eq] at h
    have : ¬ (1 ≤ c ∧ c ≤ q.2.2 ∧ 0 ≤ x ∧ x < c ∧ 0 ≤ b ∧ b ≤ placesI q) := by omega
    simp [sumOk, this]
  · simp only [Bool.or_eq_true, decide_eq_true_eq, beq_iff_eq] at h
    have hk : 1 ≤ c ∧ c ≤ q.2.2 ∧ 0 ≤ x ∧ x < c ∧ 0 ≤ b ∧ b ≤ placesI q := by omega
    refine wps_ld x (by rfl) (wps_ld c (by rfl) ?_)
    rw [w64_id (n := c - 1) (by omega) (by omega)]
    refine wps_ite (fun he => ?_) (fun he => ?_)
    · have he : x = c - 1 := by simpa using he
      refine wps_ldG q.1 q.2.1 q.2.2 (by rfl) (wps_ld r (by rfl) (wps_val (geo_Where_val q r) (wps_pure (ent_val ?_))))
      unfold sumOk whereB
      rw [hR, decide_eq_true hk, if_pos he]
      by_cases hw : 1 ≤ r ∧ r ≤ q.2.2 * placesI q <;> simp [hw]
    · have he : ¬ x = c - 1 := by simpa using he
      refine wps_ld r (by rfl) (wps_pure (ent_val ?_))
      unfold sumOk
      rw [hR, decide_eq_true hk, if_neg he]
      by_cases hr : r = 0 <;> simp [hr]
theorem val_condL {H : HP} {c b : Bool} {m : M (Bool ⊕ Bool)} (h : c = false → wps g H m fun x => pr (x = .inl b) * H) : wps g H (if c = true then pureM (.inl true) else m) fun x => pr (x = .inl (c || b)) * H := by
  refine wps_ite (fun hc => wps_pure (ent_prr (by rw [hc]; rfl) (Ent.refl _))) (fun hc => ?_)
  have hc : c = false := by simpa using hc
  rw [hc]
  exact h hc
theorem ref08_Right_val {H : HP} (q : G3) (s : S4) : Val g H (ref08_Right q s) (sumOk q s) := by
  unfold ref08_Right
  obtain ⟨c, x, b, r⟩ := s
  refine wps_alloc fun x2 => ?_
  refine wps_alloc fun x3 => ?_
  refine wps_bindV (u := !RightB q || (decide (c < 1) || (decide (c > q.2.2) || (decide (x < 0) || (decide (x ≥ c) || (decide (b < 0) || decide (b > if RightB q = true then placesI q else 0))))))) ?_ ?_
  · refine wps_regionH ?_
    refine wps_ldGI q.1 q.2.1 q.2.2 (by rfl) ?_
    refine wps_stepV (ref03_Right_val q) ?_
    refine val_condL fun _ => wps_ldI c (by rfl) ?_
    refine val_condL fun _ => wps_ldI c (by rfl) (wps_ldI q.2.2 (by rfl) ?_)
    refine val_condL fun _ => wps_ldI x (by rfl) ?_
    refine val_condL fun _ => wps_ldI x (by rfl) (wps_ldI c (by rfl) ?_)
    refine val_condL fun _ => wps_ldI b (by rfl) ?_
    refine val_condL fun _ => wps_ldI b (by rfl) ?_
    refine wps_ldGI q.1 q.2.1 q.2.2 (by rfl) ?_
    refine wps_stepV (ref03_Places_val q) ?_
    exact wps_pure (ent_prr rfl (Ent.refl _))
  by_cases hR : RightB q = true
  rotate_left
  · exact wps_ite (fun _ => wps_pure (ent_val (by simp [sumOk, hR]))) (fun h => absurd (by simp [hR]) h)
  rw [hR, if_pos rfl]
  have hb := (RightB.bnd hR).places
  have hs := RightB.bnd hR
  have b6 := hs.s64
  refine wps_ite (fun h => wps_pure (ent_val ?_)) (fun h => ?_)
  · simp only [Bool.or_eq_true, decide_eq_true_eq, Bool.not_true, Bool.false_eq_true, false_or] at h
    have : ¬ (1 ≤ c ∧ c ≤ q.2.2 ∧ 0 ≤ x ∧ x < c ∧ 0 ≤ b ∧ b ≤ placesI q) := by omega
    simp [sumOk, this]
  · simp only [Bool.or_eq_true, decide_eq_true_eq, Bool.not_true, Bool.false_eq_true, false_or] at h
    have hk : 1 ≤ c ∧ c ≤ q.2.2 ∧ 0 ≤ x ∧ x < c ∧ 0 ≤ b ∧ b ≤ placesI q := by omega
    refine wps_ld x (by rfl) (wps_ld c (by rfl) ?_)
    rw [w64_id (n := c - 1) (by omega) (by omega)]
    refine wps_ite (fun he => ?_) (fun he => ?_)
    · have he : x < c - 1 := of_decide_eq_true he
      refine wps_ld r (by rfl) (wps_pure (ent_val ?_))
      unfold sumOk
      rw [hR, decide_eq_true hk, if_neg (show ¬ x = c - 1 by omega)]
      by_cases hr : r = 0 <;> simp [hr]
    · have he : ¬ x < c - 1 := fun h => he (decide_eq_true h)
      refine wps_regionH ?_
      refine wps_ldI r (by rfl) ?_
      have hfin : sumOk q (c, x, b, r) = decide (1 ≤ r ∧ r ≤ q.2.2 * placesI q) := by
        unfold sumOk
        rw [hR, decide_eq_true hk, if_pos (show x = c - 1 by omega)]; rfl
      rw [hfin]
      refine wps_ite (fun hr => ?_) (fun hr => wps_pure (ent_val ?_))
      · have hr : r ≥ 1 := of_decide_eq_true hr
        refine wps_ldI r (by rfl) (wps_ldI q.2.2 (by rfl) (wps_ldGI q.1 q.2.1 q.2.2 (by rfl) ?_))
        refine wps_stepV (ref03_Places_val q) ?_
        rw [hR, if_pos rfl, (segs_places hR).1]
        refine wps_pure (ent_val ?_)
        by_cases hw : r ≤ q.2.2 * placesI q
        · rw [decide_eq_true hw, decide_eq_true ⟨by omega, hw⟩]
        · rw [decide_eq_false hw, decide_eq_false fun h => hw h.2]
      · have hr : ¬ r ≥ 1 := fun h => hr (decide_eq_true h)
        rw [decide_eq_false fun h => hr (by omega)]
end Go.Proofs.Ytldmeimebebllaa
namespace Go.Proofs.Ytldmeimebebllaa
open Go.Mo
set_option linter.unusedVariables false
variable {g : Fr} {cv : CV}
def allz (b : List Int) : Bool := b.all fun x => x == 0
theorem allz_take {b : List Int} {n : Nat} (h : n + 1 = b.length) (hz : b[n]? = some 0) : allz (b.take n) = allz b := by
  have e : b = b.take n ++ [0] := by
    have h2 := List.take_append_drop n b
    rw [List.drop_eq_getElem_cons (by omega), List.drop_of_length_le (by omega)] at h2
    rw [List.getElem?_eq_getElem (by omega)] at hz
    rw [Option.some.inj hz] at h2
    exact h2.symm
  rw [e]
  unfold allz
  rw [List.take_append_of_le_length (by simp; omega), List.take_take]
  simp
theorem allz_drop {b : List Int} (h : 0 < b.length) (hz : b[0]? = some 0) : allz (b.drop 1) = allz b := by
  match b, h, hz with
  | x :: b, _, hz =>
    have : x = 0 := by simpa using hz
    subst this
    simp [allz]
theorem allz_no {b : List Int} {n : Nat} {x : Int} (h : b[n]? = some x) (hx : x ≠ 0) : allz b = false := by
  apply Bool.eq_false_iff.2
  intro ha
  unfold allz at ha
  rw [List.all_eq_true] at ha
  exact hx (by simpa using ha x (List.mem_of_getElem? h))
theorem byt_cut {s : Slc} {b : List Int} {l h : Nat} (h1 : l ≤ h) (h2 : h ≤ s.len) : Ent (byt s b) (byt (subS 1 s l h) ((b.drop l).take (h - l))) := by
  refine Ent.trans (rsl_sub h1 h2) (Ent.of_eq ?_)
  unfold byt bv
  rw [Nat.mul_one, Nat.mul_one, List.map_take, List.map_drop]
theorem bytes_trimRightByte_spec {H : HP} {s : Slc} {b : List Int} (hs : Ent H (byt s b)) (hbl : b.length ≤ 1099511627776) : wps g H (bytes_trimRightByte s 0) (fun t => pr (∃ b', Ent H (byt t b') ∧ allz b' = allz b ∧ b'.length ≤ b.length) * H) := by
  unfold bytes_trimRightByte
  refine wps_loop (fun st => pr (∃ b', Ent H (byt st b') ∧ allz b' = allz b ∧ b'.length ≤ b.length) * H) (fun st => st.len) (ent_prr ⟨b, hs, rfl, Nat.le_refl _⟩ (Ent.refl _)) fun st => ?_
  refine wps_pr fun ⟨b', h1, h2, h3⟩ => ?_
  refine wps_fact (len_of h1) fun hl => ?_
  by_cases h0 : st.len = 0
  · refine wps_val (v := false) (wps_ite (fun h => absurd h (by simp [h0])) (fun _ => wps_pure (ent_val rfl))) ?_
    exact wps_ite (fun h => absurd h (by decide)) (fun _ => wps_mapR (wps_pure (ent_prr ⟨b', h1, h2, h3⟩ (Ent.refl _))))
  have hlt : st.len - 1 < b'.length := by omega
  have hw : w64 (((st.len : Nat) : Int) - 1) = ((st.len - 1 : Nat) : Int) := by rw [w64_id (by omega) (by omega)]; omega
  refine wps_val (v := b'[st.len - 1] == 0) (wps_ite (fun _ => wps_rd (st.len - 1) b'[st.len - 1] h1 hw (bv_get (List.getElem?_eq_getElem hlt)) (wps_pure (ent_val rfl))) (fun h => absurd (decide_eq_true (show ((st.len : Nat) : Int) > 0 by omega)) h)) ?_
  refine wps_ite (fun hz => ?_) (fun hz => wps_mapR (wps_pure (ent_prr ⟨b', h1, h2, h3⟩ (Ent.refl _))))
  have hz : b'[st.len - 1] = 0 := by simpa using hz
  refine wps_fact (Ent.trans h1 rsl_room) fun hr => ?_
  have hr := hr h0
  refine wps_slice 0 (st.len - 1) rfl hw (by omega) (by omega) (wps_pure ?_)
  refine ent_prr (by show (subS 1 st 0 (st.len - 1)).len < st.len; simp [subS]; omega) (ent_prr ⟨b'.take (st.len - 1), Ent.trans h1 (Ent.trans (byt_cut (l := 0) (h := st.len - 1) (by omega) (by omega)) (Ent.of_eq (by rw [List.drop_zero, Nat.sub_zero]))), ?_, ?_⟩ (Ent.refl _))
  · rw [allz_take (by omega) (by rw [List.getElem?_eq_getElem hlt, hz]), h2]
  · simp; omega
theorem bytes_trimLeftByte_spec {H : HP} {s : Slc} {b : List Int} (hs : Ent H (byt s b)) (hbl : b.length ≤ 1099511627776) : wps g H (bytes_trimLeftByte s 0) (fun t => pr ((((t.len : Nat) : Int) == 0) = allz b) * H) := by
  unfold bytes_trimLeftByte
  refine wps_loop (fun st => pr (∃ b', Ent H (byt st b') ∧ allz b' = allz b) * H) (fun st => st.len) (ent_prr ⟨b, hs, rfl⟩ (Ent.refl _)) fun st => ?_
  refine wps_pr fun ⟨b', h1, h2⟩ => ?_
  refine wps_fact (len_of h1) fun hl => ?_
  by_cases h0 : st.len = 0
  · have hb : b' = [] := List.eq_nil_of_length_eq_zero (by omega)
    subst hb
    refine wps_val (v := false) (wps_ite (fun h => absurd h (by simp [h0])) (fun _ => wps_pure (ent_val rfl))) ?_
    refine wps_ite (fun h => absurd h (by decide)) (fun _ => wps_mapR (wps_ite (fun _ => wps_pure (ent_prr ?_ (Ent.refl _))) (fun h => absurd (by simp [h0]) h)))
    rw [← h2]; rfl
  have hlt : 0 < b'.length := by omega
  refine wps_val (v := b'[0] == 0) (wps_ite (fun _ => wps_rd 0 b'[0] h1 rfl (bv_get (List.getElem?_eq_getElem hlt)) (wps_pure (ent_val rfl))) (fun h => absurd (decide_eq_true (show ((st.len : Nat) : Int) > 0 by omega)) h)) ?_
  refine wps_ite (fun hz => ?_) (fun hz => wps_mapR ?_)
  · have hz : b'[0] = 0 := by simpa using hz
    refine wps_fact (Ent.trans h1 rsl_room) fun hr => ?_
    have hr := hr h0
    refine wps_slice 1 st.len rfl rfl (by omega) hr (wps_pure ?_)
    refine ent_prr (by show (subS 1 st 1 st.len).len < st.len; simp [subS]; omega) (ent_prr ⟨b'.drop 1, Ent.trans h1 (Ent.trans (byt_cut (l := 1) (h := st.len) (by omega) (by omega)) (Ent.of_eq (by rw [List.take_of_length_le (by simp; omega)]))), ?_⟩ (Ent.refl _))
    rw [allz_drop hlt (by rw [List.getElem?_eq_getElem hlt, hz]), h2]
  · have hz : ¬ b'[0] = 0 := by simpa using hz
    refine wps_ite (fun h => absurd h (by simp; omega)) (fun _ => wps_pure (ent_prr ?_ (Ent.refl _)))
    rw [← h2, allz_no (List.getElem?_eq_getElem hlt) hz]
    simp; omega
theorem bits_Nought_val {H : HP} {s : Slc} {b : List Int} (hs : Ent H (byt s b)) (hbl : b.length ≤ 1099511627776) : Val g H (bits_Nought s) (allz b) := by
  unfold bits_Nought bytes_Trim_0
  refine wps_fact (len_of hs) fun hl => ?_
  refine wps_bind (R := fun t => pr ((((t.len : Nat) : Int) == 0) = allz b) * H) ?_ fun t => wps_pr fun ht => wps_pure (ent_val ht)
  refine wps_ite (fun h => wps_pure (ent_prr ?_ (Ent.refl _))) (fun _ => ?_)
  · have : b = [] := List.eq_nil_of_length_eq_zero (by simp at h; omega)
    subst this; rfl
  refine wps_regionH ?_
  refine wps_bind (bytes_trimRightByte_spec hs hbl) fun t => ?_
  refine wps_pr fun ⟨b', h1, h2, h3⟩ => ?_
  refine wps_bind (bytes_trimLeftByte_spec h1 (by omega)) fun u => ?_
  refine wps_pr fun hu => wps_pure (ent_prr ?_ (Ent.refl _))
  rw [hu, h2]
theorem ref01_Nought_val {H : HP} {s : Slc} {b : List Int} (hs : Ent H (byt s b)) (hbl : b.length ≤ 1099511627776) : Val g H (ref01_Nought s) (allz b) := by
  unfold ref01_Nought
  refine wps_fact (len_of hs) fun hl => ?_
  refine wps_loop (fun st => pr (∃ i : Nat, st = (i : Int) ∧ i ≤ b.length ∧ allz (b.drop i) = allz b) * H) (fun st => (b.length - st).toNat) (ent_prr ⟨0, rfl, by omega, rfl⟩ (Ent.refl _)) fun st => ?_
  refine wps_pr fun ⟨i, hi, hin, hz⟩ => ?_
  refine wps_ite (fun hc => ?_) (fun hc => ?_)
  · have hlt : i < b.length := by have := of_decide_eq_true hc; omega
    refine wps_rd i b[i] hs hi (bv_get (List.getElem?_eq_getElem hlt)) ?_
    refine wps_ite (fun hx => wps_mapR (wps_pure (ent_val ?_))) (fun hx => wps_pure ?_)
    · have hx : b[i] ≠ 0 := by simpa using hx
      exact (allz_no (List.getElem?_eq_getElem hlt) hx).symm
    · have hx : b[i] = 0 := by simpa using hx
      refine ent_prr (by rw [range_add1 hi (by omega)]; omega) (ent_prr ⟨i + 1, range_add1 hi (by omega), by omega, ?_⟩ (Ent.refl _))
      rw [← hz, ← allz_drop (b := b.drop i) (by simp; omega) (by rw [List.getElem?_drop, Nat.add_zero, List.getElem?_eq_getElem hlt, hx]), List.drop_drop]
  · have hie : b.length ≤ i := by
      have : ¬ st < ((s.len : Nat) : Int) := fun h => hc (decide_eq_true h)
      omega
    refine wps_mapR (wps_pure (ent_val ?_))
    rw [← hz, List.drop_of_length_le hie]; rfl
end Go.Proofs.Ytldmeimebebllaa
namespace Go.Proofs.Ytldmeimebebllaa
open Go.Mo
set_option linter.unusedVariables false
variable {g : Fr} {cv : CV}
theorem wps_arr {α : Type} {H : HP} {Q : α → HP} {k : Int → M α} {l : List Int} {i : Int} (n : Nat) (y : Int) (hi : i = (n : Int)) (hy : l[n]? = some y) (h : wps g H (k y) Q) : wps g H (bindM (arrM l i) k) Q := fun w a Qf ho ha hq => ⟨n, y, hi, hy, h w a Qf ho ha hq⟩
def sumL (s : S4) : List Int := [21331, s.1, s.2.1, s.2.2.1, s.2.2.2]
def sumHead (s : S4) (i : Nat) : List Int := ((sumL s).take i).flatMap (putB 2)
def sumData (s : S4) : List Int := padL (sumHead s 5) 56
theorem sumHead_len (s : S4) : ∀ i, (sumHead s i).length ≤ 2 * i := by
  have : ∀ l : List Int, (l.flatMap (putB 2)).length ≤ 2 * l.length := fun l => by
    induction l with
    | nil => simp
    | cons x l ih =>
      rw [List.flatMap_cons, List.length_append, putB_len, List.length_cons]
      split <;> omega
  intro i
  have h := this ((sumL s).take i)
  unfold sumHead
  simp at h ⊢
  omega
theorem sumHead_snoc {s : S4} {i : Nat} {x : Int} (h : (sumL s)[i]? = some x) : sumHead s (i + 1) = sumHead s i ++ putB 2 x := by
  unfold sumHead
  rw [List.take_add_one, h]
  simp
theorem sumL_get (s : S4) {i : Nat} (hi : i < 5) : ∃ x, (sumL s)[i]? = some x := ⟨_, List.getElem?_eq_getElem (by simpa [sumL] using hi)⟩
def putPost (q : G3) (s : S4) (H : HP) (x : (Int × Int × Slc) × Bool) : HP := if sumOk q s = true then pr (x.1.1 = 65535 ∧ x.1.2.1 = 0 ∧ x.2 = true) * H * own 1 x.1.2.2 (bv (sumData s)) else pr (x = ((0, 0, ⟨none, 0, 0⟩), false)) * H
theorem scan_PutSummary_spec {H : HP} (q : G3) (s : S4) : wps g H (scan_PutSummary q s) (putPost q s H) := by
  unfold scan_PutSummary putPost
  obtain ⟨c, x, b, r⟩ := s
  refine wps_alloc fun x2 => ?_
  refine wps_alloc fun x3 => ?_
  refine wps_alloc fun x4 => ?_
  refine wps_ldG q.1 q.2.1 q.2.2 (by rfl) ?_
  refine wps_ldA (c, x, b, r) (by rfl) ?_
  refine wps_val (scan_right_val q (c, x, b, r)) ?_
  by_cases hok : sumOk q (c, x, b, r) = true
  rotate_left
  · simp only [if_neg hok]
    refine wps_ite (fun _ => ?_) (fun h2 => absurd (by simpa using h2) hok)
    refine wps_stA (by simp) (by simp [Value.oneCell']) ?_
    refine wps_ldA (enc := fun y : (Int × Int × Slc) => [(.int .i64 y.1), (.int .i64 y.2.1), (.slice y.2.2.base y.2.2.len y.2.2.cap)]) (0, 0, ⟨none, 0, 0⟩) (by rfl) (wps_pure (ent_prr rfl ?_))
    exact Ent.trans (Ent.trans (ent_left _ _) (ent_left _ _)) (ent_left _ _)
  simp only [if_pos hok]
  refine wps_ite (fun h2 => absurd hok (by simpa using h2)) (fun _ => ?_)
  refine wps_ld c (by rfl) ?_
  refine wps_ld x (by rfl) ?_
  refine wps_ld b (by rfl) ?_
  refine wps_ld r (by rfl) ?_
  refine wps_loop (fun st => ex fun i : Nat => pr (st.2 = (i : Int) ∧ i ≤ 5) * H * pc x2 [.int .i64 q.1, .int .i64 q.2.1, .int .i64 q.2.2] * pc x3 [.int .i64 c, .int .i64 x, .int .i64 b, .int .i64 r] * pc x4 [.int .i64 0, .int .i64 0, .slice none 0 0] * own 1 st.1 (bv (sumHead (c, x, b, r) i))) (fun st => (5 - st.2).toNat) ?_ fun st => ?_
  · refine ent_ex 0 (ent_own0 (z := 1) ?_)
    simp only [star_assoc]
    exact ent_pr ⟨rfl, by omega⟩
  refine wps_ex fun i => wps_prP fun ⟨hi, hin⟩ => ?_
  refine wps_fact (Ent.trans (ent_right _ _) (own_len _ _ _)) fun hol => ?_
  have hhl := sumHead_len (c, x, b, r) i
  rw [bl, Nat.mul_one] at hol
  refine wps_ite (fun hc => ?_) (fun hc => ?_)
  · have hlt : i < 5 := by have := of_decide_eq_true hc; omega
    obtain ⟨y, hy⟩ := sumL_get (c, x, b, r) hlt
    refine wps_arr i y hi hy ?_
    refine wps_bind (bits_Put_spec 2 y (by decide) (by decide)) fun t => ?_
    have hpl := putB_len 2 y
    refine wps_fact (Ent.trans (ent_right _ _) (own_len _ _ _)) fun hot => ?_
    rw [bl, Nat.mul_one] at hot
    refine wps_app 1 (bv (putB 2 y)) rfl (by decide) (Ent.trans (ent_right _ _) (own_rsl _ _ _)) (by simp [bv, Value.oneCell']) (by split at hpl <;> omega) fun s' hs' => ?_
    refine wps_pure ?_
    refine ent_prr (by dsimp only; rw [range_add1 hi (by omega)]; omega) (ent_ex (i + 1) ?_)
    rw [sumHead_snoc hy, show bv (sumHead (c, x, b, r) i ++ putB 2 y) = bv (sumHead (c, x, b, r) i) ++ bv (putB 2 y) by simp [bv]]
    repeat (first
      | (with_reducible exact ent_drop)
      | (with_reducible refine ent_pick ?_)
      | (refine ent_pickC (by rfl) ?_)
      | (refine ent_pickS (by rfl) ?_)
      | (refine ent_pickM (by rfl) ?_)
      | (refine ent_prx ?_ ?_; rotate_left)
      | (refine ent_prq ?_))
    all_goals exact ⟨range_add1 hi (by omega), by omega⟩
  · have hie : i = 5 := by
      have : ¬ st.2 < 5 := fun h => hc (decide_eq_true h)
      omega
    subst hie
    refine wps_mapR ?_
    refine wps_bind (bits_Pad_spec 56 (Ent.trans (ent_right _ _) (own_rsl _ _ _)) (by decide)) fun t => ?_
    rw [if_pos (by omega)]
    refine wps_prP fun ht => ?_
    refine wps_stA (by simp) (by simp [Value.oneCell']) ?_
    refine wps_ldA (enc := fun y : (Int × Int × Slc) => [(.int .i64 y.1), (.int .i64 y.2.1), (.slice y.2.2.base y.2.2.len y.2.2.cap)]) (65535, 0, t.1) (by rfl) (wps_pure ?_)
    unfold sumData
    repeat (first
      | (with_reducible exact ent_drop)
      | (with_reducible refine ent_pick ?_)
      | (refine ent_pickC (by rfl) ?_)
      | (refine ent_pickS (by rfl) ?_)
      | (refine ent_pickM (by rfl) ?_)
      | (refine ent_prx ?_ ?_; rotate_left)
      | (refine ent_prq ?_))
    all_goals exact ⟨rfl, rfl, rfl⟩
end Go.Proofs.Ytldmeimebebllaa
namespace Go.Proofs.Ytldmeimebebllaa
open Go.Mo
set_option linter.unusedVariables false
variable {g : Fr} {cv : CV}
def getS (b : List Int) : S4 := (getB b 2 2, getB b 4 2, getB b 6 2, getB b 8 2)
def sumIs (q : G3) (ow ix : Int) (b : List Int) : Bool := decide (ow = 65535 ∧ ix = 0 ∧ b.length = 56) && (allz (b.drop 10) && (decide (getB b 0 2 = 21331) && sumOk q (getS b)))
def getP (q : G3) (ow ix : Int) (b : List Int) : S4 × Bool := if sumIs q ow ix b = true then (getS b, true) else ((0, 0, 0, 0), false)
def gotL (b : List Int) (i : Nat) : List Int := (List.range 5).map fun j => if j < i then getB b (2 * j) 2 else 0
theorem gotL_set (b : List Int) {i : Nat} (hi : i < 5) : (zv (gotL b i)).set i (.int .i64 (getB b (2 * i) 2)) = zv (gotL b (i + 1)) := by
  apply List.ext_getElem?
  intro j
  simp only [zv, gotL, List.getElem?_set, List.getElem?_map, List.length_map, List.length_range]
  by_cases hj : i = j
  · subst hj; simp [hi]
  · rw [if_neg hj]
    by_cases hjw : j < 5
    · rw [List.getElem?_range hjw]
      have : j < i + 1 ↔ j < i := by omega
      simp [this]
    · simp [List.getElem?_eq_none, Nat.le_of_not_lt hjw]
theorem gotL_all (b : List Int) : zv (gotL b 5) = [.int .i64 (getB b 0 2), .int .i64 (getB b 2 2), .int .i64 (getB b 4 2), .int .i64 (getB b 6 2), .int .i64 (getB b 8 2)] := rfl
theorem scan_GetSummary_val {H : HP} {s : Slc} {b : List Int} (q : G3) (ow ix : Int) (hs : Ent H (byt s b)) (hb : Byts b) (hl : b.length ≤ 1000000) : Val g H (scan_GetSummary q (ow, ix, s)) (getP q ow ix b) := by
  unfold scan_GetSummary
  refine wps_fact (len_of hs) fun hls => ?_
  refine wps_alloc fun x2 => ?_
  refine wps_alloc fun x3 => ?_
  refine wps_alloc fun x4 => ?_
  refine wps_ld ow (by rfl) ?_
  refine wps_val (val_cond (b := ix != 0) fun _ => wps_ld ix (by rfl) (wps_pure (ent_val rfl))) ?_
  refine wps_val (val_cond (b := (((s.len : Nat) : Int) != 56)) fun _ => wps_ld s (by rfl) (wps_pure (ent_val rfl))) ?_
  refine wps_val (v := (ow != 65535 || ix != 0 || (((s.len : Nat) : Int) != 56)) || !allz (b.drop 10)) (val_cond fun hc => ?_) ?_
  · simp only [Bool.or_eq_false_iff, bne_eq_false_iff_eq] at hc
    have h56 : s.len = 56 := by omega
    refine wps_ld s (by rfl) ?_
    refine wps_fact (Ent.trans (Ent.trans (ent_left _ _) (Ent.trans (ent_left _ _) (Ent.trans (ent_left _ _) hs))) rsl_room) fun hr => ?_
    have hr := hr (by omega)
    refine wps_slice 10 s.len rfl rfl (by omega) hr ?_
    refine wps_val (bits_Nought_val (b := b.drop 10) (Ent.trans (Ent.trans (ent_left _ _) (Ent.trans (ent_left _ _) (Ent.trans (ent_left _ _) hs))) (Ent.trans (byt_cut (l := 10) (h := s.len) (by omega) (by omega)) (Ent.of_eq (by rw [List.take_of_length_le (by simp; omega)])))) (by simp; omega)) (wps_pure (ent_val rfl))
  by_cases hc : ow = 65535 ∧ ix = 0 ∧ s.len = 56 ∧ allz (b.drop 10) = true
  rotate_left
  · refine wps_ite (fun _ => ?_) (fun h => absurd ?_ hc)
    · refine wps_stA (by simp) (by simp [Value.oneCell']) ?_
      refine wps_ldA (0, 0, 0, 0) (by rfl) (wps_pure (ent_val ?_))
      unfold getP
      rw [if_neg]
      intro h
      unfold sumIs at h
      simp only [Bool.and_eq_true, decide_eq_true_eq] at h
      exact hc ⟨h.1.1, h.1.2.1, by omega, h.2.1⟩
    · simp only [Bool.or_eq_true, not_or, bne_iff_ne, ne_eq, Decidable.not_not, Bool.not_eq_true', Bool.not_eq_false] at h
      exact ⟨h.1.1.1, h.1.1.2, by omega, h.2⟩
  obtain ⟨rfl, rfl, h56, hz⟩ := hc
  refine wps_ite (fun h => absurd h (by simp [h56, hz])) (fun _ => ?_)
  refine wps_alloc fun x6 => ?_
  refine wps_loop (fun st => ex fun i : Nat => pr (st = (i : Int) ∧ i ≤ 5) * H * pc x2 [.int .i64 q.1, .int .i64 q.2.1, .int .i64 q.2.2] * pc x3 [.int .i64 65535, .int .i64 0, vS s] * pc x4 [.int .i64 0, .int .i64 0, .int .i64 0, .int .i64 0] * pc x6 (zv (gotL b i))) (fun st => (5 - st).toNat) ?_ fun st => ?_
  · refine ent_ex 0 ?_
    repeat (first
      | (with_reducible exact ent_drop)
      | (with_reducible refine ent_pick ?_)
      | (refine ent_pickC (by rfl) ?_)
      | (refine ent_pickS (by rfl) ?_)
      | (refine ent_pickM (by rfl) ?_)
      | (refine ent_prx ?_ ?_; rotate_left)
      | (refine ent_prq ?_))
    all_goals exact ⟨rfl, by omega⟩
  refine wps_ex fun i => wps_prP fun ⟨hi, hin⟩ => ?_
  refine wps_ite (fun hc => ?_) (fun hc => ?_)
  · have hlt : i < 5 := by have := of_decide_eq_true hc; omega
    refine wps_ld s (by rfl) ?_
    have hw : w64 (2 * st) = ((2 * i : Nat) : Int) := by rw [w64_id (by omega) (by omega)]; omega
    rw [hw]
    refine wps_val (bits_Get_val (2 * i) 2 (Ent.trans (ent_left _ _) (Ent.trans (ent_left _ _) (Ent.trans (ent_left _ _) (Ent.trans (ent_left _ _) (Ent.trans (ent_right _ _) hs))))) hb (by decide) (by decide) (by omega) (by omega)) ?_
    refine wps_idxA i hi hlt ?_
    refine wps_st (by simp [zv, gotL]; omega) (wps_pure ?_)
    rw [show 0 + i * 1 = i by omega, gotL_set b hlt]
    refine ent_prr (by rw [range_add1 hi (by omega)]; omega) (ent_ex (i + 1) ?_)
    repeat (first
      | (with_reducible exact ent_drop)
      | (with_reducible refine ent_pick ?_)
      | (refine ent_pickC (by rfl) ?_)
      | (refine ent_pickS (by rfl) ?_)
      | (refine ent_pickM (by rfl) ?_)
      | (refine ent_prx ?_ ?_; rotate_left)
      | (refine ent_prq ?_))
    all_goals exact ⟨range_add1 hi (by omega), by omega⟩
  have hie : i = 5 := by
    have : ¬ st < 5 := fun h => hc (decide_eq_true h)
    omega
  subst hie
  rw [gotL_all]
  refine wps_mapR ?_
  refine wps_ld (getB b 2 2) (by rfl) (wps_ld (getB b 4 2) (by rfl) (wps_ld (getB b 6 2) (by rfl) (wps_ld (getB b 8 2) (by rfl) ?_)))
  refine wps_alloc fun x8 => ?_
  refine wps_stA (by simp) (by simp [Value.oneCell']) ?_
  refine wps_ld (getB b 0 2) (by rfl) ?_
  have hdef : sumIs q 65535 0 b = (decide (getB b 0 2 = 21331) && sumOk q (getS b)) := by
    unfold sumIs
    rw [decide_eq_true (show (65535 : Int) = 65535 ∧ (0 : Int) = 0 ∧ b.length = 56 from ⟨rfl, rfl, by omega⟩), hz]; rfl
  refine wps_val (val_cond (b := !sumOk q (getS b)) fun _ => ?_) ?_
  · refine wps_ldG q.1 q.2.1 q.2.2 (by rfl) ?_
    refine wps_ldA (getS b) (by rfl) ?_
    exact wps_val (scan_right_val q (getS b)) (wps_pure (ent_val rfl))
  unfold getP
  rw [hdef]
  refine wps_ite (fun h => ?_) (fun h => ?_)
  · refine wps_stA (by simp) (by simp [Value.oneCell']) ?_
    refine wps_ldA (0, 0, 0, 0) (by rfl) (wps_pure (ent_val ?_))
    rw [if_neg]
    intro h2
    simp only [Bool.or_eq_true, bne_iff_ne, ne_eq, Bool.not_eq_true', Bool.and_eq_true, decide_eq_true_eq] at h h2
    rcases h with h | h
    · exact h h2.1
    · rw [h2.2] at h; cases h
  · refine wps_ldA (getS b) (by rfl) ?_
    refine wps_stA (by simp) (by simp [Value.oneCell']) ?_
    refine wps_ldA (getS b) (by rfl) (wps_pure (ent_val ?_))
    simp only [Bool.or_eq_true, not_or, bne_iff_ne, ne_eq, Decidable.not_not, Bool.not_eq_true', Bool.not_eq_false] at h
    rw [if_pos (by simp [h.1, h.2])]
theorem ref08_GetSummary_val {H : HP} {s : Slc} {b : List Int} (q : G3) (ow ix : Int) (hs : Ent H (byt s b)) (hb : Byts b) (hl : b.length ≤ 1000000) : Val g H (ref08_GetSummary q (ow, ix, s)) (getP q ow ix b) := by
  unfold ref08_GetSummary
  refine wps_fact (len_of hs) fun hls => ?_
  refine wps_alloc fun x2 => ?_
  refine wps_alloc fun x3 => ?_
  refine wps_alloc fun x4 => ?_
  refine wps_ld ow (by rfl) ?_
  refine wps_val (val_cond (b := ix != 0) fun _ => wps_ld ix (by rfl) (wps_pure (ent_val rfl))) ?_
  refine wps_val (val_cond (b := (((s.len : Nat) : Int) != 56)) fun _ => wps_ld s (by rfl) (wps_pure (ent_val rfl))) ?_
  refine wps_val (v := (ow != 65535 || ix != 0 || (((s.len : Nat) : Int) != 56)) || !allz (b.drop 10)) (val_cond fun hc => ?_) ?_
  · simp only [Bool.or_eq_false_iff, bne_eq_false_iff_eq] at hc
    have h56 : s.len = 56 := by omega
    refine wps_ld s (by rfl) ?_
    refine wps_fact (Ent.trans (Ent.trans (ent_left _ _) (Ent.trans (ent_left _ _) (Ent.trans (ent_left _ _) hs))) rsl_room) fun hr => ?_
    have hr := hr (by omega)
    refine wps_slice 10 s.len rfl rfl (by omega) hr ?_
    refine wps_val (ref01_Nought_val (b := b.drop 10) (Ent.trans (Ent.trans (ent_left _ _) (Ent.trans (ent_left _ _) (Ent.trans (ent_left _ _) hs))) (Ent.trans (byt_cut (l := 10) (h := s.len) (by omega) (by omega)) (Ent.of_eq (by rw [List.take_of_length_le (by simp; omega)])))) (by simp; omega)) (wps_pure (ent_val rfl))
  by_cases hc : ow = 65535 ∧ ix = 0 ∧ s.len = 56 ∧ allz (b.drop 10) = true
  rotate_left
  · refine wps_ite (fun _ => ?_) (fun h => absurd ?_ hc)
    · refine wps_stA (by simp) (by simp [Value.oneCell']) ?_
      refine wps_ldA (0, 0, 0, 0) (by rfl) (wps_pure (ent_val ?_))
      unfold getP
      rw [if_neg]
      intro h
      unfold sumIs at h
      simp only [Bool.and_eq_true, decide_eq_true_eq] at h
      exact hc ⟨h.1.1, h.1.2.1, by omega, h.2.1⟩
    · simp only [Bool.or_eq_true, not_or, bne_iff_ne, ne_eq, Decidable.not_not, Bool.not_eq_true', Bool.not_eq_false] at h
      exact ⟨h.1.1.1, h.1.1.2, by omega, h.2⟩
  obtain ⟨rfl, rfl, h56, hz⟩ := hc
  refine wps_ite (fun h => absurd h (by simp [h56, hz])) (fun _ => ?_)
  refine wps_alloc fun x6 => ?_
  refine wps_stA (by simp) (by simp [Value.oneCell']) ?_
  refine wps_loop (fun st => ex fun i : Nat => pr (st = (i : Int) ∧ i ≤ 5) * H * pc x2 [.int .i64 q.1, .int .i64 q.2.1, .int .i64 q.2.2] * pc x3 [.int .i64 65535, .int .i64 0, vS s] * pc x4 [.int .i64 0, .int .i64 0, .int .i64 0, .int .i64 0] * pc x6 (zv (gotL b i))) (fun st => (5 - st).toNat) ?_ fun st => ?_
  · refine ent_ex 0 ?_
    repeat (first
      | (with_reducible exact ent_drop)
      | (with_reducible refine ent_pick ?_)
      | (refine ent_pickC (by rfl) ?_)
      | (refine ent_pickS (by rfl) ?_)
      | (refine ent_pickM (by rfl) ?_)
      | (refine ent_prx ?_ ?_; rotate_left)
      | (refine ent_prq ?_))
    all_goals exact ⟨rfl, by omega⟩
  refine wps_ex fun i => wps_prP fun ⟨hi, hin⟩ => ?_
  refine wps_ite (fun hc => ?_) (fun hc => ?_)
  · have hlt : i < 5 := by have := of_decide_eq_true hc; omega
    refine wps_ld s (by rfl) ?_
    have hw : w64 (2 * st) = ((2 * i : Nat) : Int) := by rw [w64_id (by omega) (by omega)]; omega
    rw [hw]
    refine wps_val (ref01_Get_val (2 * i) 2 (Ent.trans (ent_left _ _) (Ent.trans (ent_left _ _) (Ent.trans (ent_left _ _) (Ent.trans (ent_left _ _) (Ent.trans (ent_right _ _) hs))))) hb (by decide) (by decide) (by omega) (by omega)) ?_
    refine wps_idxA i hi hlt ?_
    refine wps_st (by simp [zv, gotL]; omega) (wps_pure ?_)
    rw [show 0 + i * 1 = i by omega, gotL_set b hlt]
    refine ent_prr (by rw [range_add1 hi (by omega)]; omega) (ent_ex (i + 1) ?_)
    repeat (first
      | (with_reducible exact ent_drop)
      | (with_reducible refine ent_pick ?_)
      | (refine ent_pickC (by rfl) ?_)
      | (refine ent_pickS (by rfl) ?_)
      | (refine ent_pickM (by rfl) ?_)
      | (refine ent_prx ?_ ?_; rotate_left)
      | (refine ent_prq ?_))
    all_goals exact ⟨range_add1 hi (by omega), by omega⟩
  have hie : i = 5 := by
    have : ¬ st < 5 := fun h => hc (decide_eq_true h)
    omega
  subst hie
  rw [gotL_all]
  refine wps_mapR ?_
  refine wps_ld (getB b 2 2) (by rfl) (wps_ld (getB b 4 2) (by rfl) (wps_ld (getB b 6 2) (by rfl) (wps_ld (getB b 8 2) (by rfl) ?_)))
  refine wps_alloc fun x8 => ?_
  refine wps_stA (by simp) (by simp [Value.oneCell']) ?_
  refine wps_ld (getB b 0 2) (by rfl) ?_
  have hdef : sumIs q 65535 0 b = (decide (getB b 0 2 = 21331) && sumOk q (getS b)) := by
    unfold sumIs
    rw [decide_eq_true (show (65535 : Int) = 65535 ∧ (0 : Int) = 0 ∧ b.length = 56 from ⟨rfl, rfl, by omega⟩), hz]; rfl
  refine wps_val (val_cond (b := !sumOk q (getS b)) fun _ => ?_) ?_
  · refine wps_ldG q.1 q.2.1 q.2.2 (by rfl) ?_
    refine wps_ldA (getS b) (by rfl) ?_
    exact wps_val (ref08_Right_val q (getS b)) (wps_pure (ent_val rfl))
  unfold getP
  rw [hdef]
  refine wps_ite (fun h => ?_) (fun h => ?_)
  · refine wps_stA (by simp) (by simp [Value.oneCell']) ?_
    refine wps_ldA (0, 0, 0, 0) (by rfl) (wps_pure (ent_val ?_))
    rw [if_neg]
    intro h2
    simp only [Bool.or_eq_true, bne_iff_ne, ne_eq, Bool.not_eq_true', Bool.and_eq_true, decide_eq_true_eq] at h h2
    rcases h with h | h
    · exact h h2.1
    · rw [h2.2] at h; cases h
  · refine wps_ldA (getS b) (by rfl) ?_
    refine wps_stA (by simp) (by simp [Value.oneCell']) ?_
    refine wps_ldA (getS b) (by rfl) (wps_pure (ent_val ?_))
    simp only [Bool.or_eq_true, not_or, bne_iff_ne, ne_eq, Decidable.not_not, Bool.not_eq_true', Bool.not_eq_false] at h
    rw [if_pos (by simp [h.1, h.2])]
end Go.Proofs.Ytldmeimebebllaa
namespace Go.Proofs.Ytldmeimebebllaa
open Go.Mo
set_option linter.unusedVariables false
variable {g : Fr} {cv : CV}
theorem addr0 (a : Addr) : Addr.add a 0 = a := by
  cases a; simp [Addr.add]
theorem wps_rdG {α β : Type} {H : HP} {Q : α → HP} {enc : β → Value} {k : β → M α} {z : Nat} {s : Slc} {i : Int} {cs : List Value} (n : Nat) (x : β) (hp : Ent H (rsl z s cs)) (hi : i = (n : Int)) (hz : 0 < z) (hv : cs[n * z]? = some (enc x)) (h : wps g H (k x) Q) :
    wps g H (bindM (idxM s i z) fun a => bindM (ld enc a) k) Q := by
  have h2 := wps_rdF (f := 0) (g := g) (k := k) n x hp hi hz hv h
  simp only [addr0] at h2
  exact h2
theorem law08_Small_val {H : HP} : Val g H law08_Small Q3 := by
  unfold law08_Small
  refine wps_alloc fun c => ?_
  refine wps_stA (by simp) (by simp [Value.oneCell']) ?_
  exact wps_ldG 3 3 12 (by rfl) (wps_pure (ent_val rfl))
theorem zv_get {b : List Int} {n : Nat} {v : Int} (h : b[n]? = some v) : (zv b)[n]? = some (Value.int .i64 v) := by simp [zv, h]
theorem intsP_len {H : HP} {s : Slc} {b : List Int} (h : Ent H (intsP s b)) : Ent H (pr (b.length = s.len)) := Ent.trans h (Ent.trans (rsl_len 1 s (zv b)) fun o ho => by
  have : (zv b).length = s.len * 1 := ho
  show b.length = s.len
  simpa [zv] using this)
theorem ref00_SameInts_val {H : HP} {a b : Slc} {x y : List Int} (ha : Ent H (intsP a x)) (hb : Ent H (intsP b y)) (hx : x.length < 4611686018427387904) : Val g H (ref00_SameInts a b) (decide (x = y)) := by
  unfold ref00_SameInts
  refine wps_fact (intsP_len ha) fun hla => wps_fact (intsP_len hb) fun hlb => ?_
  refine wps_ite (fun hne => ?_) (fun hne => ?_)
  · refine wps_pure (ent_val ?_)
    have hne' : ¬ a.len = b.len := by
      have : ¬ (a.len : Int) = b.len := by simpa using hne
      omega
    have : ¬ x = y := fun e => hne' (by rw [← hla, ← hlb, e])
    simp [this]
  have heq : a.len = b.len := by
    have : (a.len : Int) = b.len := by simpa using hne
    omega
  refine wps_loop (fun i => ex fun n : Nat => pr (i = (n : Int) ∧ n ≤ x.length ∧ x.take n = y.take n) * H) (fun i => (x.length - i).toNat) (ent_ex 0 (ent_prr ⟨rfl, by omega, by simp⟩ (Ent.refl _))) fun i => ?_
  refine wps_ex fun n => wps_pr fun ⟨hi, hn, ht⟩ => ?_
  refine wps_ite (fun hc => ?_) (fun hc => ?_)
  · have hlt : n < x.length := by simp only [decide_eq_true_eq] at hc; omega
    have hlt2 : n < y.length := by omega
    refine wps_regionH ?_
    refine wps_rdI n x[n] ha (Ent.refl _) hi (zv_get (List.getElem?_eq_getElem hlt)) ?_
    refine wps_rdI n y[n] hb (Ent.refl _) hi (zv_get (List.getElem?_eq_getElem hlt2)) ?_
    refine wps_ite (fun hd => ?_) (fun hd => ?_)
    · have hd' : ¬ x[n] = y[n] := by simpa using hd
      refine wps_mapR (wps_pure (ent_prr ?_ (Ent.refl _)))
      have : ¬ x = y := fun e => hd' (by subst e; rfl)
      simp [this]
    · have hd' : x[n] = y[n] := by simpa using hd
      refine wps_pure (ent_prr (by rw [range_add1 hi (by omega)]; omega) (ent_ex (n + 1) (ent_prr ⟨range_add1 hi (by omega), by omega, ?_⟩ (Ent.refl _))))
      rw [List.take_add_one, List.take_add_one, ht, List.getElem?_eq_getElem hlt, List.getElem?_eq_getElem hlt2, hd']
  · have hne : n = x.length := by simp only [decide_eq_true_eq] at hc; omega
    refine wps_mapR (wps_pure (ent_prr ?_ (Ent.refl _)))
    have : x = y := by
      rw [hne, List.take_length] at ht
      rw [ht, List.take_of_length_le (by omega)]
    simp [this]
def aliveI : List I6 := [(5, 8, 2, 1, 0, 3), (2, 7, 2, 0, 0, 0)]
theorem aliveI_isG : IsG aliveI [(7, 3, [2, 5])] := by
  have h : IsG ([([2, 5], 7, 3)].flatMap chk) ([([2, 5], 7, 3)].map gOf) := Lay.isG ⟨by simp, by simp⟩
  exact h.perm (List.Perm.swap (2, 7, 2, 0, 0, 0) (5, 8, 2, 1, 0, 3) [])
theorem sumD9 : sumOk Q3 (1, 0, 2, 9) = true ∧ getP Q3 65535 0 (sumData (1, 0, 2, 9)) = ((1, 0, 2, 9), true) ∧ (sumData (1, 0, 2, 9)).length = 56 ∧ Byts (sumData (1, 0, 2, 9)) := by
  refine ⟨by decide, by decide, by decide, ?_⟩
  have : ∀ n ∈ sumData (1, 0, 2, 9), 0 ≤ n ∧ n < 256 := by decide
  exact this
theorem law08_alive_spec : Val g emp law08_alive true := by
  unfold law08_alive
  refine wps_alloc fun x10 => ?_
  refine wps_swap (A := pc x10 [(.int .i64 5), (.int .i64 8), (.int .i64 2), (.int .i64 1), (.int .i64 0), (.int .i64 3), (.int .i64 2), (.int .i64 7), (.int .i64 2), (.int .i64 0), (.int .i64 0), (.int .i64 0)]) (B := infosP ⟨some ⟨x10, 0, none⟩, 2, 2⟩ aliveI) (ent_prr (by decide) (Ent.trans (pc_own (n := 2) (z := 6) rfl) (own_rsl _ _ _))) ?_
  refine wps_callH (fun g2 => scan_Groups_spec _ aliveI _ aliveI_isG (by decide)) fun x11 => ?_
  unfold groupsO
  refine wps_exP fun zs => ?_
  refine wps_prP fun hz => ?_
  obtain ⟨u, rfl⟩ : ∃ u, zs = [((7, 3, [2, 5]), u)] := by
    match zs, hz with
    | [(z, u)], hz => exact ⟨u, by simp at hz; rw [hz]⟩
  refine wps_swap (A := segsP [(((7, 3, [2, 5]) : Gr), u)]) (B := intsP u [2, 5]) (segsP_get (x := ((7, 3, [2, 5]), u)) (by simp)) ?_
  refine wps_fact (Ent.trans (RdS.rd (z := 3) (s := x11)) (rsl_len _ _ _)) fun hol => ?_
  have hl1 : x11.len = 1 := by simp [encG3, grRow] at hol; omega
  refine wps_val law08_Small_val ?_
  refine wps_bind (scan_PutSummary_spec Q3 (1, 0, 2, 9)) fun x15 => ?_
  unfold putPost
  rw [if_pos sumD9.1]
  refine wps_prP fun ⟨hx1, hx2, hx3⟩ => ?_
  obtain ⟨⟨w1, w2, t⟩, ok⟩ := x15
  dsimp only at hx1 hx2 hx3
  subst hx1 hx2 hx3
  refine wps_alloc fun x2 => ?_
  refine wps_stA (by simp) (by simp [Value.oneCell']) ?_
  refine wps_regionH ?_
  refine wps_ldAI (enc := fun y : (Int × Int × Slc) => [(.int .i64 y.1), (.int .i64 y.2.1), (.slice y.2.2.base y.2.2.len y.2.2.cap)]) (65535, 0, t) (by rfl) ?_
  have hget : ∀ {H : HP} [h : RdS 1 t H (bv (sumData (1, 0, 2, 9)))], Val g H (scan_GetSummary Q3 (65535, 0, t)) ((1, 0, 2, 9), true) := fun {H} h => val_eq (scan_GetSummary_val Q3 65535 0 h.rd sumD9.2.2.2 (by rw [sumD9.2.2.1]; decide)) sumD9.2.1
  refine wps_both (wps_stepV law08_Small_val (wps_both ?_ ?_)) ?_
  · refine wps_stepV hget (wps_stepAlloc fun x4 => ?_)
    refine wps_stA (by simp) (by simp [Value.oneCell']) ?_
    refine wps_val (v := true) (wps_ite (fun _ => wps_rdG 0 7 (RdS.rd (z := 3) (s := x11)) rfl (by decide) rfl (wps_pure (ent_val rfl))) (fun h => absurd (by simp [hl1]) h)) ?_
    refine wps_val (v := true) (wps_ite (fun _ => wps_rdF (f := 1) 0 3 (RdS.rd (z := 3) (s := x11)) rfl (by decide) rfl (wps_pure (ent_val rfl))) (fun h => absurd rfl h)) ?_
    refine wps_val (v := true) (wps_ite (fun _ => wps_rdF (enc := vS) (f := 2) 0 u (RdS.rd (z := 3) (s := x11)) rfl (by decide) rfl (wps_alloc fun x46 => wps_val (ref00_SameInts_val (x := [2, 5]) (y := [2, 5]) (RdS.rd (z := 1) (s := u)) (rsl_pc (cs := zv [2, 5]) rfl) (by decide)) (wps_pure (ent_val rfl)))) (fun h => absurd rfl h)) ?_
    refine wps_val (v := true) (wps_ite (fun _ => wps_pure (ent_val rfl)) (fun h => absurd rfl h)) ?_
    refine wps_val (v := true) (wps_ite (fun _ => wps_pure (ent_val rfl)) (fun h => absurd rfl h)) ?_
    refine wps_val (v := true) (wps_ite (fun _ => wps_ldA (1, 0, 2, 9) (by rfl) (wps_pure (ent_val rfl))) (fun h => absurd rfl h)) ?_
    exact wps_pure (ent_val rfl)
  · refine wps_stepAlloc fun x4 => wps_stepV hget ?_
    refine wps_stA (by simp) (by simp [Value.oneCell']) ?_
    refine wps_val (v := true) (wps_ite (fun _ => wps_rdG 0 7 (RdS.rd (z := 3) (s := x11)) rfl (by decide) rfl (wps_pure (ent_val rfl))) (fun h => absurd (by simp [hl1]) h)) ?_
    refine wps_val (v := true) (wps_ite (fun _ => wps_rdF (f := 1) 0 3 (RdS.rd (z := 3) (s := x11)) rfl (by decide) rfl (wps_pure (ent_val rfl))) (fun h => absurd rfl h)) ?_
    refine wps_val (v := true) (wps_ite (fun _ => wps_rdF (enc := vS) (f := 2) 0 u (RdS.rd (z := 3) (s := x11)) rfl (by decide) rfl (wps_alloc fun x46 => wps_val (ref00_SameInts_val (x := [2, 5]) (y := [2, 5]) (RdS.rd (z := 1) (s := u)) (rsl_pc (cs := zv [2, 5]) rfl) (by decide)) (wps_pure (ent_val rfl)))) (fun h => absurd rfl h)) ?_
    refine wps_val (v := true) (wps_ite (fun _ => wps_pure (ent_val rfl)) (fun h => absurd rfl h)) ?_
    refine wps_val (v := true) (wps_ite (fun _ => wps_pure (ent_val rfl)) (fun h => absurd rfl h)) ?_
    refine wps_val (v := true) (wps_ite (fun _ => wps_ldA (1, 0, 2, 9) (by rfl) (wps_pure (ent_val rfl))) (fun h => absurd rfl h)) ?_
    exact wps_pure (ent_val rfl)
  · refine wps_stepAlloc fun x4 => wps_stepV law08_Small_val (wps_stepV hget ?_)
    refine wps_stA (by simp) (by simp [Value.oneCell']) ?_
    refine wps_val (v := true) (wps_ite (fun _ => wps_rdG 0 7 (RdS.rd (z := 3) (s := x11)) rfl (by decide) rfl (wps_pure (ent_val rfl))) (fun h => absurd (by simp [hl1]) h)) ?_
    refine wps_val (v := true) (wps_ite (fun _ => wps_rdF (f := 1) 0 3 (RdS.rd (z := 3) (s := x11)) rfl (by decide) rfl (wps_pure (ent_val rfl))) (fun h => absurd rfl h)) ?_
    refine wps_val (v := true) (wps_ite (fun _ => wps_rdF (enc := vS) (f := 2) 0 u (RdS.rd (z := 3) (s := x11)) rfl (by decide) rfl (wps_alloc fun x46 => wps_val (ref00_SameInts_val (x := [2, 5]) (y := [2, 5]) (RdS.rd (z := 1) (s := u)) (rsl_pc (cs := zv [2, 5]) rfl) (by decide)) (wps_pure (ent_val rfl)))) (fun h => absurd rfl h)) ?_
    refine wps_val (v := true) (wps_ite (fun _ => wps_pure (ent_val rfl)) (fun h => absurd rfl h)) ?_
    refine wps_val (v := true) (wps_ite (fun _ => wps_pure (ent_val rfl)) (fun h => absurd rfl h)) ?_
    refine wps_val (v := true) (wps_ite (fun _ => wps_ldA (1, 0, 2, 9) (by rfl) (wps_pure (ent_val rfl))) (fun h => absurd rfl h)) ?_
    exact wps_pure (ent_val rfl)
end Go.Proofs.Ytldmeimebebllaa
namespace Go.Proofs.Ytldmeimebebllaa
open Go.Mo
set_option linter.unusedVariables false
variable {g : Fr} {cv : CV}
def spotAt (q : G3) (seg : Int) (i : Nat) : Int × Int := (spotsL q seg (i / q.1.toNat)).getD (i % q.1.toNat) (0, 0)
theorem spotAt_rc {q : G3} {seg : Int} {r c : Nat} (h1 : 3 ≤ q.1) (hc : (c : Int) < q.1) : spotAt q seg (r * q.1.toNat + c) = (spotsL q seg r).getD c (0, 0) := by
  obtain ⟨D, hD⟩ : ∃ D : Nat, q.1 = (D : Int) := ⟨q.1.toNat, by omega⟩
  have hDn : q.1.toNat = D := by omega
  have hcD : c < D := by omega
  unfold spotAt
  rw [hDn, Nat.add_comm, Nat.add_mul_div_right _ _ (by omega), Nat.div_eq_of_lt hcD, Nat.zero_add, Nat.add_mul_mod_self_right, Nat.mod_eq_of_lt hcD]
theorem ref07_spot_val {H : HP} (q : G3) (seg : Int) (hs : InS q seg) (i : Nat) (hi : (i : Int) < q.2.1 * q.1) : Val g H (ref07_spot q seg i) (spotAt q seg i) := by
  unfold ref07_spot
  have hb := RightB.bnd hs.right
  have b1 := hb.d3
  have b2 := hb.d16
  have b3 := hb.r1
  have b4 := hb.r4
  have hs0 := hs.s0
  have hs1 := hs.s1
  obtain ⟨D, hD⟩ : ∃ D : Nat, q.1 = (D : Int) := ⟨q.1.toNat, by omega⟩
  have hDn : q.1.toNat = D := by omega
  have hD3 : 3 ≤ D := by omega
  have hrow : ((i / D : Nat) : Int) ≤ q.2.1 - 1 := by
    have h1 : i < q.2.1.toNat * D := by
      have : ((q.2.1.toNat * D : Nat) : Int) = q.2.1 * q.1 := by rw [Int.natCast_mul, ← hD]; congr 1; omega
      omega
    have := Nat.div_lt_of_lt_mul (by rw [Nat.mul_comm]; exact h1)
    omega
  have hmod : i % D < D := Nat.mod_lt _ (by omega)
  have hdm := Nat.div_add_mod i D
  have h64 : q.2.1 * q.1 ≤ 4 * 16 := Int.mul_le_mul b4 b2 (by omega) (by omega)
  have e1 : Int.tmod (i : Int) q.1 = ((i % D : Nat) : Int) := by rw [Int.tmod_eq_emod_of_nonneg (by omega), hD, ← Int.natCast_emod]
  have e2 : w64 (q.1 - 1) = q.1 - 1 := w64_id (by omega) (by omega)
  have e3 : w64 (Int.tdiv (i : Int) q.1) = ((i / D : Nat) : Int) := by
    have hq0 : 0 ≤ ((i / D : Nat) : Int) := Int.natCast_nonneg _
    rw [Int.tdiv_eq_ediv_of_nonneg (by omega), hD, ← Int.natCast_ediv, w64_id (by omega) (by omega)]
  have hsp : spotAt q seg i = (spotsL q seg (i / D)).getD (i % D) (0, 0) := by unfold spotAt; rw [hDn]
  generalize i / D = rr at *
  generalize i % D = cc at *
  refine wps_alloc fun x3 => ?_
  refine wps_alloc fun x6 => ?_
  refine wps_ld q.1 (by rfl) ?_
  refine wps_assert (by omega) ?_
  refine wps_regionH ?_
  refine wps_ldI q.1 (by rfl) ?_
  refine wps_assert (by omega) ?_
  refine wps_ldI q.1 (by rfl) ?_
  rw [e1, e2, e3]
  by_cases hlast : cc = D - 1
  · have hv : spotAt q seg i = parSpot q seg ((rr : Nat) : Int) := by
      rw [hsp, hlast, List.getD_eq_getElem?_getD, show D - 1 = (q.1 - 1).toNat by omega, spotsL_last]; rfl
    rw [hv]
    refine wps_ite (fun _ => ?_) (fun h => absurd (by rw [hlast]; exact beq_iff_eq.2 (by omega)) h)
    refine wps_ldG q.1 q.2.1 q.2.2 (by rfl) ?_
    refine wps_val (ref03_Parity_val (q.1, q.2.1, q.2.2) seg ((rr : Nat) : Int)) ?_
    have hok : parOkB (q.1, q.2.1, q.2.2) seg ((rr : Nat) : Int) = true := by
      have h1 : RightB (q.1, q.2.1, q.2.2) = true := hs.right
      simp only [parOkB, h1, Bool.true_and, Bool.and_eq_true, decide_eq_true_eq]; omega
    rw [if_pos hok]
    have hpe : parSpot (q.1, q.2.1, q.2.2) seg ((rr : Nat) : Int) = parSpot q seg ((rr : Nat) : Int) := rfl
    rw [hpe]
    generalize parSpot q seg ((rr : Nat) : Int) = sp
    refine wps_alloc fun x8 => ?_
    refine wps_stA (by simp) (by simp [Value.oneCell']) ?_
    refine wps_ldA sp (by rfl) ?_
    refine wps_stA (by simp) (by simp [Value.oneCell']) ?_
    refine wps_ldA sp (by rfl) (wps_pure ?_)
    exact ent_prr rfl ent_drop
  · have hlt : cc < D - 1 := by omega
    have hv : spotAt q seg i = blkSpot q seg (((rr : Nat) : Int) * (q.1 - 1) + ((cc : Nat) : Int)) := by
      rw [hsp, List.getD_eq_getElem?_getD]
      unfold spotsL
      rw [List.getElem?_append_left (by simp; omega), List.getElem?_map, List.getElem?_range (by omega)]; rfl
    rw [hv]
    refine wps_ite (fun h => by have := beq_iff_eq.1 h; omega) (fun _ => ?_)
    refine wps_regionH ?_
    refine wps_ldAI (enc := fun y : (Int × Int × Int) => [(.int .i64 y.1), (.int .i64 y.2.1), (.int .i64 y.2.2)]) (q.1, q.2.1, q.2.2) (by rfl) ?_
    refine wps_ldI q.1 (by rfl) ?_
    refine wps_ldI q.1 (by rfl) ?_
    refine wps_assert (by omega) ?_
    rw [e1, e2]
    have hm0 : 0 ≤ ((rr : Nat) : Int) * (q.1 - 1) := Int.mul_nonneg (by omega) (by omega)
    have hm1 : ((rr : Nat) : Int) * (q.1 - 1) ≤ (q.2.1 - 1) * (q.1 - 1) := Int.mul_le_mul_of_nonneg_right hrow (by omega)
    have hmm := hb.mul
    rw [Int.sub_mul] at hm1
    have e4 : w64 (w64 (((rr : Nat) : Int) * (q.1 - 1)) + ((cc : Nat) : Int)) = ((rr : Nat) : Int) * (q.1 - 1) + ((cc : Nat) : Int) := by
      rw [w64_id (n := ((rr : Nat) : Int) * (q.1 - 1)) (by omega) (by omega), w64_id (by omega) (by omega)]
    rw [e4]
    have hok : blkOkB (q.1, q.2.1, q.2.2) seg (((rr : Nat) : Int) * (q.1 - 1) + ((cc : Nat) : Int)) = true := by
      have h1 : RightB (q.1, q.2.1, q.2.2) = true := hs.right
      have hpl : placesI (q.1, q.2.1, q.2.2) = q.2.1 * (q.1 - 1) - 1 := rfl
      simp only [blkOkB, h1, Bool.true_and, Bool.and_eq_true, decide_eq_true_eq]
      rw [hpl]
      omega
    have hbv := fun (H : HP) => ref03_Block_val (g := g) (H := H) (q.1, q.2.1, q.2.2) seg (((rr : Nat) : Int) * (q.1 - 1) + ((cc : Nat) : Int))
    rw [hok] at hbv
    simp only [if_true] at hbv
    have hbe : blkSpot (q.1, q.2.1, q.2.2) seg (((rr : Nat) : Int) * (q.1 - 1) + ((cc : Nat) : Int)) = blkSpot q seg (((rr : Nat) : Int) * (q.1 - 1) + ((cc : Nat) : Int)) := rfl
    rw [hbe] at hbv
    generalize blkSpot q seg (((rr : Nat) : Int) * (q.1 - 1) + ((cc : Nat) : Int)) = sp at *
    refine wps_both ?_ ?_
    · refine wps_stepV (hbv _) ?_
      refine wps_stepAlloc fun x10 => ?_
      refine wps_stA (by simp) (by simp [Value.oneCell']) ?_
      refine wps_ldA sp (by rfl) ?_
      refine wps_stA (by simp) (by simp [Value.oneCell']) ?_
      refine wps_ldA sp (by rfl) (wps_pure ?_)
      exact ent_prr rfl ent_drop
    · refine wps_stepAlloc fun x10 => ?_
      refine wps_stepV (hbv _) ?_
      refine wps_stA (by simp) (by simp [Value.oneCell']) ?_
      refine wps_ldA sp (by rfl) ?_
      refine wps_stA (by simp) (by simp [Value.oneCell']) ?_
      refine wps_ldA sp (by rfl) (wps_pure ?_)
      exact ent_prr rfl ent_drop
theorem ref04_Decode_spec {H : HP} {s : Slc} {b : List Int} (hs : Ent H (byt s b)) (hb : Byts b) (hl : b.length ≤ 1099511627776) :
    wps g H (ref04_Decode s) (fun x => pr (x.1 = headOf b) * H * own 1 x.2.1 (bv (payOf b))) := by
  unfold ref04_Decode
  refine wps_fact (len_of hs) fun hls => ?_
  refine wps_fact (cap_of hs) fun hcs => ?_
  refine wps_alloc fun x2 => ?_
  by_cases h64 : b.length = 64
  rotate_left
  · have h1 : headOf b = (0, 0, 0) := by unfold headOf; rw [if_neg h64]
    have h2 : payOf b = [] := by unfold payOf; rw [if_neg h64]
    rw [h1, h2]
    refine wps_ite (fun _ => ?_) (fun h => absurd (by simp; omega) h)
    refine wps_stA (by simp) (by simp [Value.oneCell']) ?_
    refine wps_ldG 0 0 0 (by rfl) (wps_pure (ent_own0 ?_))
    repeat first | (with_reducible refine ent_pick ?_) | (refine ent_prq ?_)
    all_goals first | rfl | trivial
  have h1 : headOf b = (getB b 0 4, getB b 4 2, getB b 6 2) := by unfold headOf; rw [if_pos h64]
  have h2 : payOf b = b.drop 8 := by unfold payOf; rw [if_pos h64]
  rw [h1, h2]
  refine wps_ite (fun h => absurd h (by simp; omega)) (fun _ => ?_)
  refine wps_alloc fun x5 => ?_
  refine wps_stA (by simp) (by simp [Value.oneCell']) ?_
  refine wps_val (ref01_Get_val 0 4 (Ent.trans (ent_pick1 (A := H)) hs) hb (by decide) (by decide) (by omega) (by omega)) ?_
  refine wps_st (by simp [ovw]) ?_
  refine wps_val (ref01_Get_val 4 2 (Ent.trans (ent_pick1 (A := H)) hs) hb (by decide) (by decide) (by omega) (by omega)) ?_
  refine wps_st (by simp [ovw]) ?_
  refine wps_val (ref01_Get_val 6 2 (Ent.trans (ent_pick1 (A := H)) hs) hb (by decide) (by decide) (by omega) (by omega)) ?_
  refine wps_st (by simp [ovw]) ?_
  refine wps_regionH ?_
  refine wps_ldAI (enc := fun y : (Int × Int × Int) => [(.int .i64 y.1), (.int .i64 y.2.1), (.int .i64 y.2.2)]) (getB b 0 4, getB b 4 2, getB b 6 2) (by rfl) ?_
  refine wps_slice 8 s.len rfl rfl (by omega) (by omega) ?_
  refine wps_step1 (ref00_CopyBytes_spec (b := b.drop 8) (Ent.trans (ent_pick1 (A := H)) (Ent.trans hs (byt_drop (by omega) (by omega)))) (by simp; omega)) fun t => ?_
  refine wps_stA (by simp) (by simp [Value.oneCell']) ?_
  refine wps_ldA (enc := fun y : (Int × Int × Int) => [(.int .i64 y.1), (.int .i64 y.2.1), (.int .i64 y.2.2)]) (getB b 0 4, getB b 4 2, getB b 6 2) (by rfl) (wps_pure ?_)
  repeat first | (with_reducible refine ent_pick ?_) | (refine ent_prq ?_)
  all_goals first | rfl | trivial
end Go.Proofs.Ytldmeimebebllaa
namespace Go.Proofs.Ytldmeimebebllaa
open Go.Mo
set_option linter.unusedVariables false
variable {g : Fr} {cv : CV}
def topL (a : Int) (l : List (List Int)) : Int := l.foldl (fun a b => maxI a (headOf b).1) a
def topR (q m : G3) (R : Rk) (seg a : Int) (n : Nat) : Int := (List.range n).foldl (fun a (r : Nat) => topL a (allL (5 + seg * q.2.1 + r) (disksL q m) R)) a
theorem topR_snoc (q m : G3) (R : Rk) (seg a : Int) (n : Nat) : topR q m R seg a (n + 1) = topL (topR q m R seg a n) (allL (5 + seg * q.2.1 + n) (disksL q m) R) := by
  unfold topR
  rw [List.range_succ, List.foldl_append]; rfl
theorem maxI_assoc (a b c : Int) : maxI (maxI a b) c = maxI a (maxI b c) := by
  unfold maxI
  split <;> split <;> (try split) <;> (try split) <;> omega
theorem topL_max (a b : Int) : ∀ l : List (List Int), topL (maxI a b) l = maxI a (topL b l)
  | [] => rfl
  | x :: l => by
    show topL (maxI (maxI a b) (headOf x).1) l = maxI a (topL (maxI b (headOf x).1) l)
    rw [maxI_assoc, topL_max a _ l]
theorem topR_max (q m : G3) (R : Rk) (seg a b : Int) : ∀ n, topR q m R seg (maxI a b) n = maxI a (topR q m R seg b n)
  | 0 => rfl
  | n + 1 => by rw [topR_snoc, topR_snoc, topR_max q m R seg a b n, topL_max]
theorem topL_ge (a : Int) : ∀ l, a ≤ topL a l
  | [] => Int.le_refl _
  | x :: l => Int.le_trans (by unfold maxI; split <;> omega) (topL_ge (maxI a (headOf x).1) l)
theorem topR_ge (q m : G3) (R : Rk) (seg a : Int) : ∀ n, a ≤ topR q m R seg a n
  | 0 => Int.le_refl _
  | n + 1 => by rw [topR_snoc]; exact Int.le_trans (topR_ge q m R seg a n) (topL_ge _ _)
theorem topR_zero (q m : G3) (R : Rk) (seg : Int) {a : Int} (h : 0 ≤ a) (n : Nat) : maxI a (topR q m R seg 0 n) = topR q m R seg a n := by
  rw [← topR_max]
  congr 1
  unfold maxI; split <;> omega
theorem top_loop {α : Type} {H : HP} {Q : α → HP} {t : Slc} {sl : List Slc} {l : List (List Int)} {D : Slc → M (G3 × Slc × Bool)} {K : Int → M α} (a : Int)
    (hD : ∀ {H : HP} {s : Slc} {b : List Int}, Ent H (byt s b) → Byts b → b.length ≤ 1099511627776 → wps g H (D s) (fun x => pr (x.1 = headOf b) * H * emp))
    (h1 : Ent H (rsl 1 t (sl.map vS))) (h2 : Ent H (seqp sl fun i => l.getD i [])) (hs : sl.length = l.length) (ht : t.len = l.length) (hb : ∀ b ∈ l, Byts b ∧ b.length ≤ 1099511627776) (hl : l.length ≤ 1000)
    (hK : wps g H (K (topL a l)) Q) :
    wps g H (loopM (fun (s2 : (Int × Int)) =>
      (if (decide (s2.2 < ((t.len : Nat) : Int))) = true then
        bindM (idxM t s2.2 1) fun x31 =>
          bindM (ld vS x31) fun x32 =>
          bindM (D x32) fun x35 =>
          bindM (allocM [(.int .i64 0), (.int .i64 0), (.int .i64 0)]) fun x9 =>
          bindM (stA x9 [(.int .i64 x35.1.1), (.int .i64 x35.1.2.1), (.int .i64 x35.1.2.2)]) fun _ =>
          bindM (ld (Value.int .i64) x9) fun x41 =>
          pureM (.inl (maxI s2.1 x41, w64 (s2.2 + 1)))
        else
        mapR (K s2.1))) (a, 0)) Q := by
  refine wps_loop (fun st : Int × Int => ex fun i : Nat => pr (st.2 = (i : Int) ∧ i ≤ l.length ∧ topL st.1 (l.drop i) = topL a l) * H) (fun st => (l.length - st.2).toNat) (ent_ex 0 (ent_prr ⟨rfl, by omega, rfl⟩ (Ent.refl _))) fun st => ?_
  refine wps_ex fun i => wps_pr fun ⟨hi, hin, htop⟩ => ?_
  refine wps_ite (fun hc => ?_) (fun hc => ?_)
  · have hlt : i < l.length := by have := of_decide_eq_true hc; omega
    have hlt2 : i < sl.length := by omega
    have hg := List.getElem?_eq_getElem hlt2
    refine wps_rd (enc := vS) i sl[i] h1 hi (by rw [List.getElem?_map, hg]; rfl) ?_
    have hby := hb l[i] (List.getElem_mem hlt)
    have hent : Ent H (byt sl[i] l[i]) := Ent.trans h2 (Ent.trans (seqp_get hg) (Ent.of_eq (by simp [List.getD, List.getElem?_eq_getElem hlt])))
    refine wps_bind (hD hent hby.1 hby.2) fun x => ?_
    rw [star_assoc]
    refine wps_pr fun hx => ?_
    refine wps_alloc fun x9 => ?_
    refine wps_stA (by simp) (by simp [Value.oneCell']) ?_
    refine wps_ld x.1.1 (by rfl) (wps_pure ?_)
    refine ent_prr (by dsimp only; rw [range_add1 hi (by omega)]; omega) (ent_ex (i + 1) (ent_prr ⟨range_add1 hi (by omega), by omega, ?_⟩ (Ent.trans (ent_left _ _) (ent_left _ _))))
    rw [← htop, List.drop_eq_getElem_cons hlt, hx]
    rfl
  · have hie : i = l.length := by
      have : ¬ st.2 < ((t.len : Nat) : Int) := fun h => hc (decide_eq_true h)
      omega
    subst hie
    rw [List.drop_length] at htop
    have htop : st.1 = topL a l := htop
    refine wps_mapR ?_
    rw [htop]
    exact hK
theorem dec1 {H : HP} {s : Slc} {b : List Int} (hs : Ent H (byt s b)) (hb : Byts b) (hl : b.length ≤ 1099511627776) : wps g H (sector_Decode s) (fun x => pr (x.1 = headOf b) * H * emp) :=
  wps_post (sector_Decode_spec hs hb hl) fun x => Ent.star (Ent.star (fun o ho => ho.1) (Ent.refl _)) (ent_emp _)
theorem dec2 {H : HP} {s : Slc} {b : List Int} (hs : Ent H (byt s b)) (hb : Byts b) (hl : b.length ≤ 1099511627776) : wps g H (ref04_Decode s) (fun x => pr (x.1 = headOf b) * H * emp) :=
  wps_post (ref04_Decode_spec hs hb hl) fun x => Ent.starr (ent_emp _)
theorem all_bys {q m : G3} {R : Rk} (hby : R.bys) (hg : R.good) {s : Int} : ∀ b ∈ allL s (disksL q m) R, Byts b ∧ b.length ≤ 1099511627776 := fun b hb => by
  obtain ⟨d, _, rfl⟩ := List.mem_map.1 hb
  exact ⟨hby.rd d s, by have := hg.rd d s; omega⟩
theorem all_len {q m : G3} {R : Rk} {s : Int} (hq : q.1 ≤ 16) : (allL s (disksL q m) R).length ≤ 17 := by
  unfold allL
  rw [List.length_map]
  exact Nat.le_trans (List.length_filter_le _ _) (disksL_len q m hq)
theorem scan_greatest_spec (hcv : DisksOk cv) (bb rb : Nat) (q m : G3) (hq : RightB q = true) (R : Rk) (hby : R.bys) (ds : Slc) (ps : List Nat) (seg : Int) (hs : 0 ≤ seg ∧ seg < q.2.2) :
    wps g (bnk bb rb q m * rackP rb R ds ps) (scan_greatest cv (ptr bb) seg) (fun x => pr (x = topR q m R seg 0 q.2.1.toNat) * bnk bb rb q m * rackP rb R ds ps) := by
  unfold scan_greatest
  have hb := RightB.bnd hq
  have b2 := hb.d16
  have b3 := hb.r1
  have b4 := hb.r4
  have b6 := hb.s64
  refine wps_fact (Ent.trans (ent_right _ _) rackP_good) fun hg => ?_
  refine wps_valH (fun _ => bank_Geo_val bb rb q m) ?_
  refine wps_loop (fun st : Int × Int => ex fun i : Nat => pr (st.2 = (i : Int) ∧ (i : Int) ≤ q.2.1 ∧ st.1 = topR q m R seg 0 i) * bnk bb rb q m * rackP rb R ds ps) (fun st => (q.2.1 - st.2).toNat) ?_ fun st => ?_
  · refine ent_ex 0 ?_
    repeat (first
      | (with_reducible exact ent_drop)
      | (with_reducible refine ent_pick ?_)
      | (refine ent_pickC (by rfl) ?_)
      | (refine ent_pickS (by rfl) ?_)
      | (refine ent_pickM (by rfl) ?_)
      | (refine ent_prx ?_ ?_; rotate_left)
      | (refine ent_prq ?_))
    all_goals first | exact ⟨rfl, by omega, rfl⟩ | trivial
  refine wps_ex fun i => wps_prP fun ⟨hi, hin, ha⟩ => ?_
  refine wps_ite (fun hc => ?_) (fun hc => ?_)
  · have hlt : (i : Int) < q.2.1 := by have := of_decide_eq_true hc; omega
    refine wps_valH (fun _ => bank_Geo_val bb rb q m) ?_
    have h0 : 0 ≤ seg * q.2.1 := Int.mul_nonneg hs.1 (by omega)
    have h1 : seg * q.2.1 ≤ 64 * 4 := Int.mul_le_mul (by omega) b4 (by omega) (by omega)
    have hw : w64 (w64 (5 + w64 (seg * q.2.1)) + st.2) = 5 + seg * q.2.1 + i := by
      rw [w64_id (n := seg * q.2.1) (by omega) (by omega), w64_id (n := 5 + seg * q.2.1) (by omega) (by omega), hi, w64_id (by omega) (by omega)]
    rw [hw]
    refine wps_call2 (fun _ => bank_All_spec hcv bb rb q m b2 R ds ps (5 + seg * q.2.1 + i)) fun t => ?_
    have hlen := all_len (m := m) (R := R) (s := 5 + seg * q.2.1 + i) b2
    have hal := all_bys (q := q) (m := m) hby hg (s := 5 + seg * q.2.1 + i)
    unfold rows
    refine wps_exP fun sl => wps_prP fun ⟨hsl, htl⟩ => ?_
    generalize hL : allL (5 + seg * q.2.1 + i) (disksL q m) R = L at *
    refine wps_pre (H' := bnk bb rb q m * rackP rb R ds ps * seqp sl (fun i => L.getD i []) * own 1 t (sl.map vS)) ?_ ?_
    · simp only [← star_assoc]
      repeat (first
        | (with_reducible exact ent_drop)
        | (with_reducible refine ent_pick ?_)
        | (refine ent_pickC (by rfl) ?_)
        | (refine ent_pickS (by rfl) ?_)
        | (refine ent_pickM (by rfl) ?_)
        | (refine ent_prx ?_ ?_; rotate_left)
        | (refine ent_prq ?_))
    refine top_loop (H := bnk bb rb q m * rackP rb R ds ps * seqp sl (fun i => L.getD i []) * own 1 t (sl.map vS)) (sl := sl) (l := L) (K := fun v => pureM (Sum.inl (v, w64 (st.2 + 1)))) st.1 (fun h1 h2 h3 => dec1 h1 h2 h3) (RdS.rd (z := 1) (s := t)) (Ent.trans (ent_left _ _) (ent_right _ _)) hsl htl hal (by omega) ?_
    refine wps_pure (ent_prr (by dsimp only; rw [range_add1 hi (by omega)]; omega) (ent_ex (i + 1) ?_))
    rw [ha]
    repeat (first
      | (with_reducible exact ent_drop)
      | (with_reducible refine ent_pick ?_)
      | (refine ent_pickC (by rfl) ?_)
      | (refine ent_pickS (by rfl) ?_)
      | (refine ent_pickM (by rfl) ?_)
      | (refine ent_prx ?_ ?_; rotate_left)
      | (refine ent_prq ?_))
    all_goals first | exact ⟨range_add1 hi (by omega), by omega, by rw [topR_snoc, hL]⟩ | trivial
  · have hie : q.2.1.toNat = i := by
      have : ¬ st.2 < q.2.1 := fun h => hc (decide_eq_true h)
      omega
    refine wps_mapR ?_
    refine wps_pure ?_
    rw [ha, hie]
    show Ent _ (pr (_ = _) * bnk bb rb q m * rackP rb R ds ps)
    repeat (first
      | (with_reducible exact ent_drop)
      | (with_reducible refine ent_pick ?_)
      | (refine ent_pickC (by rfl) ?_)
      | (refine ent_pickS (by rfl) ?_)
      | (refine ent_pickM (by rfl) ?_)
      | (refine ent_prx ?_ ?_; rotate_left)
      | (refine ent_prq ?_))
    all_goals first | rfl | trivial
end Go.Proofs.Ytldmeimebebllaa
namespace Go.Proofs.Ytldmeimebebllaa
open Go.Mo
set_option linter.unusedVariables false
variable {g : Fr} {cv : CV}
theorem payOf_byts {b : List Int} (h : Byts b) : Byts (payOf b) ∧ (payOf b).length ≤ 56 := by
  unfold payOf
  split
  · exact ⟨h.drop 8, by simp; omega⟩
  · exact ⟨fun x hx => by simp at hx, by simp⟩
theorem sRead_byts {q m : G3} {R : Rk} (hby : R.bys) (seg k seq : Int) : Byts (sRead q m R seg k seq).1.2.2 ∧ (sRead q m R seg k seq).1.2.2.length ≤ 56 := by
  have hn : Byts ([] : List Int) ∧ ([] : List Int).length ≤ 56 := ⟨fun x hx => by simp at hx, by simp⟩
  unfold sRead
  dsimp only
  split
  · exact hn
  split
  · exact hn
  have key : ∀ x : List Int × Bool, Byts x.1 → Byts (if x.2 = true then (((headOf x.1).2.1, (headOf x.1).2.2, payOf x.1), (0 : Int)) else ((0, 0, []), 14)).1.2.2 ∧ (if x.2 = true then (((headOf x.1).2.1, (headOf x.1).2.2, payOf x.1), (0 : Int)) else ((0, 0, []), 14)).1.2.2.length ≤ 56 := fun x hx => by
    split
    · exact payOf_byts hx
    · exact hn
  refine key (if (goodV q m R (blkSpot q seg k) seq).2 = true then goodV q m R (blkSpot q seg k) seq else othV q m R (blkSpot q seg k) seq (spotsL q seg (k / (q.1 - 1)).toNat)) ?_
  split
  · exact goodV_byts hby _ _
  · exact (othV_byts hby _ _ _).1
def lookI (q m : G3) (R : Rk) (seg : Int) : I6 × Bool :=
  if (sWhole q m R seg).2.1 = true then
    let rd := sRead q m R seg 0 (sWhole q m R seg).1
    let P := getP q rd.1.1 rd.1.2.1 rd.1.2.2
    ((seg, (sWhole q m R seg).1, P.1.1, P.1.2.1, P.1.2.2.1, P.1.2.2.2), P.2 && (rd.2 == 0))
  else ((0, 0, 0, 0, 0, 0), false)
theorem scan_look_spec (hcr : RowsOk cv) (bb rb : Nat) (q m : G3) (hq : RightB q = true) (R : Rk) (hby : R.bys) (ds : Slc) (ps : List Nat) (seg : Int) :
    wps g (bnk bb rb q m * rackP rb R ds ps) (scan_look cv (ptr bb) seg) (fun x => pr (x = lookI q m R seg) * bnk bb rb q m * rackP rb R ds ps) := by
  unfold scan_look
  refine wps_alloc fun x4 => ?_
  refine wps_call2 (fun _ => stripe_Whole_spec hcr bb rb q m hq R hby ds ps seg) fun w => ?_
  simp only [← star_assoc]
  refine wps_prP fun hw => ?_
  subst hw
  by_cases hok : (sWhole q m R seg).2.1 = true
  rotate_left
  · have hno : (sWhole q m R seg).2.1 = false := by simpa using hok
    refine wps_ite (fun _ => ?_) (fun h => absurd (by rw [hno]; rfl) h)
    refine wps_stA (by simp) (by simp [Value.oneCell']) ?_
    refine wps_ldA (enc := encI6) (0, 0, 0, 0, 0, 0) (by rfl) (wps_pure ?_)
    unfold lookI
    rw [if_neg hok]
    repeat (first
      | (with_reducible exact ent_drop)
      | (with_reducible refine ent_pick ?_)
      | (refine ent_pickC (by rfl) ?_)
      | (refine ent_pickS (by rfl) ?_)
      | (refine ent_pickM (by rfl) ?_)
      | (refine ent_prx ?_ ?_; rotate_left)
      | (refine ent_prq ?_))
    all_goals first | rfl | trivial
  refine wps_ite (fun h => absurd h (by rw [hok]; decide)) (fun _ => ?_)
  have hl : lookI q m R seg = ((seg, (sWhole q m R seg).1, (getP q (sRead q m R seg 0 (sWhole q m R seg).1).1.1 (sRead q m R seg 0 (sWhole q m R seg).1).1.2.1 (sRead q m R seg 0 (sWhole q m R seg).1).1.2.2).1.1, (getP q (sRead q m R seg 0 (sWhole q m R seg).1).1.1 (sRead q m R seg 0 (sWhole q m R seg).1).1.2.1 (sRead q m R seg 0 (sWhole q m R seg).1).1.2.2).1.2.1, (getP q (sRead q m R seg 0 (sWhole q m R seg).1).1.1 (sRead q m R seg 0 (sWhole q m R seg).1).1.2.1 (sRead q m R seg 0 (sWhole q m R seg).1).1.2.2).1.2.2.1, (getP q (sRead q m R seg 0 (sWhole q m R seg).1).1.1 (sRead q m R seg 0 (sWhole q m R seg).1).1.2.1 (sRead q m R seg 0 (sWhole q m R seg).1).1.2.2).1.2.2.2), (getP q (sRead q m R seg 0 (sWhole q m R seg).1).1.1 (sRead q m R seg 0 (sWhole q m R seg).1).1.2.1 (sRead q m R seg 0 (sWhole q m R seg).1).1.2.2).2 && ((sRead q m R seg 0 (sWhole q m R seg).1).2 == 0)) := by
    unfold lookI; rw [if_pos hok]
  rw [hl]
  refine wps_call2 (fun _ => stripe_Read_spec hcr bb rb q m hq R hby ds ps seg 0 (sWhole q m R seg).1) fun y => ?_
  simp only [← star_assoc]
  refine wps_prP fun ⟨hy1, hy2, hy3⟩ => ?_
  obtain ⟨⟨y1, y2, t⟩, e⟩ := y
  dsimp only at hy1 hy2 hy3
  subst hy1 hy2 hy3
  have hrb := sRead_byts (q := q) (m := m) hby seg 0 (sWhole q m R seg).1
  generalize sRead q m R seg 0 (sWhole q m R seg).1 = rd at *
  generalize (sWhole q m R seg).1 = wq at *
  dsimp only
  refine wps_alloc fun x9 => ?_
  refine wps_stA (by simp) (by simp [Value.oneCell']) ?_
  refine wps_regionH ?_
  refine wps_ldAI (enc := fun y : (Int × Int × Slc) => [(.int .i64 y.1), (.int .i64 y.2.1), (.slice y.2.2.base y.2.2.len y.2.2.cap)]) (rd.1.1, rd.1.2.1, t) (by rfl) ?_
  have hget : ∀ {H : HP} [h : RdS 1 t H (bv rd.1.2.2)], Val g H (scan_GetSummary q (rd.1.1, rd.1.2.1, t)) (getP q rd.1.1 rd.1.2.1 rd.1.2.2) := fun {H} h => scan_GetSummary_val q rd.1.1 rd.1.2.1 h.rd hrb.1 (by omega)
  generalize getP q rd.1.1 rd.1.2.1 rd.1.2.2 = P at *
  refine wps_both (wps_stepVH (fun _ => bank_Geo_val bb rb q m) (wps_both ?_ ?_)) ?_
  · refine wps_stepV hget (wps_stepAlloc fun x11 => ?_)
    refine wps_stA (by simp) (by simp [Value.oneCell']) ?_
    refine wps_ldA (enc := fun y : S4 => [(.int .i64 y.1), (.int .i64 y.2.1), (.int .i64 y.2.2.1), (.int .i64 y.2.2.2)]) P.1 (by rfl) ?_
    refine wps_val (v := P.2 && (rd.2 == 0)) (wps_ite (fun h => wps_pure (ent_val (by rw [h]; rfl))) (fun h => wps_pure (ent_val (by rw [show P.2 = false by simpa using h]; rfl)))) ?_
    refine wps_stA (by simp) (by simp [Value.oneCell']) ?_
    refine wps_ldA (enc := encI6) (seg, wq, P.1.1, P.1.2.1, P.1.2.2.1, P.1.2.2.2) (by rfl) (wps_pure ?_)
    repeat (first
      | (with_reducible exact ent_drop)
      | (with_reducible refine ent_pick ?_)
      | (refine ent_pickC (by rfl) ?_)
      | (refine ent_pickS (by rfl) ?_)
      | (refine ent_pickM (by rfl) ?_)
      | (refine ent_prx ?_ ?_; rotate_left)
      | (refine ent_prq ?_))
    all_goals first | rfl | trivial
  · refine wps_stepAlloc fun x11 => wps_stepV hget ?_
    refine wps_stA (by simp) (by simp [Value.oneCell']) ?_
    refine wps_ldA (enc := fun y : S4 => [(.int .i64 y.1), (.int .i64 y.2.1), (.int .i64 y.2.2.1), (.int .i64 y.2.2.2)]) P.1 (by rfl) ?_
    refine wps_val (v := P.2 && (rd.2 == 0)) (wps_ite (fun h => wps_pure (ent_val (by rw [h]; rfl))) (fun h => wps_pure (ent_val (by rw [show P.2 = false by simpa using h]; rfl)))) ?_
    refine wps_stA (by simp) (by simp [Value.oneCell']) ?_
    refine wps_ldA (enc := encI6) (seg, wq, P.1.1, P.1.2.1, P.1.2.2.1, P.1.2.2.2) (by rfl) (wps_pure ?_)
    repeat (first
      | (with_reducible exact ent_drop)
      | (with_reducible refine ent_pick ?_)
      | (refine ent_pickC (by rfl) ?_)
      | (refine ent_pickS (by rfl) ?_)
      | (refine ent_pickM (by rfl) ?_)
      | (refine ent_prx ?_ ?_; rotate_left)
      | (refine ent_prq ?_))
    all_goals first | rfl | trivial
  · refine wps_stepAlloc fun x11 => wps_stepVH (fun _ => bank_Geo_val bb rb q m) (wps_stepV hget ?_)
    refine wps_stA (by simp) (by simp [Value.oneCell']) ?_
    refine wps_ldA (enc := fun y : S4 => [(.int .i64 y.1), (.int .i64 y.2.1), (.int .i64 y.2.2.1), (.int .i64 y.2.2.2)]) P.1 (by rfl) ?_
    refine wps_val (v := P.2 && (rd.2 == 0)) (wps_ite (fun h => wps_pure (ent_val (by rw [h]; rfl))) (fun h => wps_pure (ent_val (by rw [show P.2 = false by simpa using h]; rfl)))) ?_
    refine wps_stA (by simp) (by simp [Value.oneCell']) ?_
    refine wps_ldA (enc := encI6) (seg, wq, P.1.1, P.1.2.1, P.1.2.2.1, P.1.2.2.2) (by rfl) (wps_pure ?_)
    repeat (first
      | (with_reducible exact ent_drop)
      | (with_reducible refine ent_pick ?_)
      | (refine ent_pickC (by rfl) ?_)
      | (refine ent_pickS (by rfl) ?_)
      | (refine ent_pickM (by rfl) ?_)
      | (refine ent_prx ?_ ?_; rotate_left)
      | (refine ent_prq ?_))
    all_goals first | rfl | trivial
end Go.Proofs.Ytldmeimebebllaa
namespace Go.Proofs.Ytldmeimebebllaa
open Go.Mo
set_option linter.unusedVariables false
variable {g : Fr} {cv : CV}
def infosL (q m : G3) (R : Rk) (n : Nat) : List I6 := (List.range n).filterMap fun s : Nat => if (lookI q m R s).2 = true then some (lookI q m R s).1 else none
def mostL (q m : G3) (R : Rk) (n : Nat) : Int := (List.range n).foldl (fun a (s : Nat) => topR q m R s a q.2.1.toNat) 0
def lookX (q m : G3) (R : Rk) : List I6 × Int × Int := if R.off = true then ([], 0, 12) else (infosL q m R q.2.2.toNat, mostL q m R q.2.2.toNat, 0)
theorem infosL_yes {q m : G3} {R : Rk} {n : Nat} (h : (lookI q m R n).2 = true) : infosL q m R (n + 1) = infosL q m R n ++ [(lookI q m R n).1] := by
  unfold infosL
  rw [List.range_succ, List.filterMap_append]
  simp [h]
theorem infosL_no {q m : G3} {R : Rk} {n : Nat} (h : (lookI q m R n).2 = false) : infosL q m R (n + 1) = infosL q m R n := by
  unfold infosL
  rw [List.range_succ, List.filterMap_append]
  simp [h]
theorem infosL_len (q m : G3) (R : Rk) (n : Nat) : (infosL q m R n).length ≤ n := by
  unfold infosL
  exact Nat.le_trans (List.length_filterMap_le _ _) (by simp)
theorem mostL_snoc (q m : G3) (R : Rk) (n : Nat) : mostL q m R (n + 1) = topR q m R n (mostL q m R n) q.2.1.toNat := by
  unfold mostL
  rw [List.range_succ, List.foldl_append]; rfl
theorem mostL_ge (q m : G3) (R : Rk) : ∀ n, 0 ≤ mostL q m R n
  | 0 => Int.le_refl _
  | n + 1 => by rw [mostL_snoc]; exact Int.le_trans (mostL_ge q m R n) (topR_ge _ _ _ _ _ _)
theorem scan_Look_spec (hcv : DisksOk cv) (hcr : RowsOk cv) (bb rb : Nat) (q m : G3) (hq : RightB q = true) (R : Rk) (hby : R.bys) (ds : Slc) (ps : List Nat) :
    wps g (bnk bb rb q m * rackP rb R ds ps) (scan_Look cv (ptr bb)) (fun x => pr (x.2 = (lookX q m R).2) * bnk bb rb q m * rackP rb R ds ps * own 6 x.1 ((lookX q m R).1.flatMap encI6)) := by
  unfold scan_Look
  have hb := RightB.bnd hq
  have b5 := hb.s12
  have b6 := hb.s64
  refine wps_val (bank_Off_val bb rb q m R ds ps) ?_
  by_cases hoff : R.off = true
  · have hx : lookX q m R = ([], 0, 12) := by unfold lookX; rw [if_pos hoff]
    rw [hx, hoff]
    refine wps_ite (fun _ => wps_pure ?_) (fun h => absurd rfl h)
    refine ent_own0 ?_
    repeat (first
      | (with_reducible exact ent_drop)
      | (with_reducible refine ent_pick ?_)
      | (refine ent_pickC (by rfl) ?_)
      | (refine ent_pickS (by rfl) ?_)
      | (refine ent_pickM (by rfl) ?_)
      | (refine ent_prx ?_ ?_; rotate_left)
      | (refine ent_prq ?_))
    all_goals first | rfl | trivial
  have hx : lookX q m R = (infosL q m R q.2.2.toNat, mostL q m R q.2.2.toNat, 0) := by unfold lookX; rw [if_neg hoff]
  rw [hx]
  refine wps_ite (fun h => absurd h hoff) (fun _ => ?_)
  refine wps_valH (fun _ => bank_Geo_val bb rb q m) ?_
  refine wps_loop (fun st : Slc × Int × Int => ex fun i : Nat => pr (st.2.2 = (i : Int) ∧ (i : Int) ≤ q.2.2 ∧ st.2.1 = mostL q m R i) * bnk bb rb q m * rackP rb R ds ps * own 6 st.1 ((infosL q m R i).flatMap encI6)) (fun st => (q.2.2 - st.2.2).toNat) ?_ fun st => ?_
  · refine ent_ex 0 (ent_own0 (z := 6) ?_)
    repeat (first
      | (with_reducible exact ent_drop)
      | (with_reducible refine ent_pick ?_)
      | (refine ent_pickC (by rfl) ?_)
      | (refine ent_pickS (by rfl) ?_)
      | (refine ent_pickM (by rfl) ?_)
      | (refine ent_prx ?_ ?_; rotate_left)
      | (refine ent_prq ?_))
    all_goals first | exact ⟨rfl, by omega, rfl⟩ | trivial
  refine wps_ex fun i => wps_prP fun ⟨hi, hin, ha⟩ => ?_
  refine wps_fact (Ent.trans (RdS.rd (z := 6) (s := st.1)) (rsl_len _ _ _)) fun hol => ?_
  rw [flat_len encI6_len] at hol
  have hil := infosL_len q m R i
  refine wps_ite (fun hc => ?_) (fun hc => ?_)
  · have hlt : (i : Int) < q.2.2 := by have := of_decide_eq_true hc; omega
    refine wps_call2 (A1 := bnk bb rb q m) (A2 := rackP rb R ds ps) (fun _ => scan_greatest_spec hcv bb rb q m hq R hby ds ps st.2.2 (by omega)) fun x21 => ?_
    simp only [← star_assoc]
    refine wps_prP fun hx21 => ?_
    subst hx21
    refine wps_call2 (A1 := bnk bb rb q m) (A2 := rackP rb R ds ps) (fun _ => scan_look_spec hcr bb rb q m hq R hby ds ps st.2.2) fun x26 => ?_
    simp only [← star_assoc]
    refine wps_prP fun hx26 => ?_
    subst hx26
    rw [hi]
    have hmost : maxI st.2.1 (topR q m R i 0 q.2.1.toNat) = mostL q m R (i + 1) := by rw [ha, topR_zero q m R i (mostL_ge q m R i), mostL_snoc]
    rw [hmost]
    refine wps_alloc fun x8 => ?_
    refine wps_stA (by simp) (by simp [Value.oneCell']) ?_
    refine wps_ite (fun hok => ?_) (fun hok => ?_)
    · refine wps_ldA (enc := encI6) (lookI q m R i).1 (by rfl) ?_
      refine wps_append1 (v := encI6 (lookI q m R i).1) 6 rfl (by decide) rfl (PickS.eq (z := 6) (s := st.1)) (by simp [encI6, Value.oneCell']) (by omega) fun s' hs' => ?_
      refine wps_pure (ent_prr (by dsimp only; rw [range_add1 rfl (by omega)]; omega) (ent_ex (i + 1) ?_))
      rw [infosL_yes hok, List.flatMap_append]
      show Ent _ (_ * _ * _ * own 6 s' (_ ++ encI6 (lookI q m R i).1))
      repeat (first
        | (with_reducible exact ent_drop)
        | (with_reducible refine ent_pick ?_)
        | (refine ent_pickC (by rfl) ?_)
        | (refine ent_pickS (by rfl) ?_)
        | (refine ent_pickM (by rfl) ?_)
        | (refine ent_prx ?_ ?_; rotate_left)
        | (refine ent_prq ?_))
      all_goals first | exact ⟨range_add1 rfl (by omega), by omega, rfl⟩ | trivial
    · have hno : (lookI q m R i).2 = false := by simpa using hok
      refine wps_pure (ent_prr (by dsimp only; rw [range_add1 rfl (by omega)]; omega) (ent_ex (i + 1) ?_))
      rw [infosL_no hno]
      repeat (first
        | (with_reducible exact ent_drop)
        | (with_reducible refine ent_pick ?_)
        | (refine ent_pickC (by rfl) ?_)
        | (refine ent_pickS (by rfl) ?_)
        | (refine ent_pickM (by rfl) ?_)
        | (refine ent_prx ?_ ?_; rotate_left)
        | (refine ent_prq ?_))
      all_goals first | exact ⟨range_add1 rfl (by omega), by omega, rfl⟩ | trivial
  · have hie : q.2.2.toNat = i := by
      have : ¬ st.2.2 < q.2.2 := fun h => hc (decide_eq_true h)
      omega
    refine wps_mapR ?_
    refine wps_pure ?_
    rw [ha, hie]
    show Ent _ (pr (_ = _) * bnk bb rb q m * rackP rb R ds ps * own 6 st.1 _)
    repeat (first
      | (with_reducible exact ent_drop)
      | (with_reducible refine ent_pick ?_)
      | (refine ent_pickC (by rfl) ?_)
      | (refine ent_pickS (by rfl) ?_)
      | (refine ent_pickM (by rfl) ?_)
      | (refine ent_prx ?_ ?_; rotate_left)
      | (refine ent_prq ?_))
    all_goals first | rfl | trivial
end Go.Proofs.Ytldmeimebebllaa
namespace Go.Proofs.Ytldmeimebebllaa
open Go.Mo
set_option linter.unusedVariables false
variable {g : Fr} {cv : CV}
theorem bx_zero {y : Int} (h : 0 ≤ y ∧ y < 256) : bXor .u8 0 y = y := by
  rw [bx_nat]
  have e : BitVec.ofInt 8 0 ^^^ BitVec.ofInt 8 y = BitVec.ofInt 8 y := by
    rw [show BitVec.ofInt 8 0 = 0#8 from rfl, BitVec.zero_xor]
  rw [e, bv_back h]
theorem zx_zeros : ∀ {n : Nat} {b : List Int}, b.length = n → Byts b → zx (List.replicate n 0) b = b
  | 0, [], _, _ => rfl
  | n + 1, y :: ys, h, hb => by
    rw [List.replicate_succ, zx, bx_zero (hb y (by simp)), zx_zeros (by simpa using h) fun m hm => hb m (by simp [hm])]
  | 0, _ :: _, h, _ => by simp at h
  | n + 1, [], h, _ => by simp at h
def accL (ls : List (List Int)) (i : Nat) : List Int := if i = 0 then List.replicate 60 0 else parSum (ls.take i)
theorem accL_len {ls : List (List Int)} {i : Nat} (hi : i ≤ ls.length) (h : ∀ j (hj : j < ls.length), j < i → ls[j].length = 64) : (accL ls i).length = 60 := by
  unfold accL
  by_cases h0 : i = 0
  · rw [if_pos h0]; simp
  · rw [if_neg h0, parSum_len i (fun j hj hjl => by rw [List.getElem?_eq_getElem hjl]; exact h j hjl hj) hi, if_neg h0]
theorem accL_step {ls : List (List Int)} {i : Nat} (hi : i < ls.length) (h : ∀ j (hj : j < ls.length), j < i → ls[j].length = 64) (h64 : ls[i].length = 64) (hb : Byts ls[i]) : zx (accL ls i) (ls[i].drop 4) = accL ls (i + 1) := by
  have hd : (ls[i].drop 4).length = 60 := by simp; omega
  have hal := accL_len (i := i) (by omega) h
  have e1 : accL ls (i + 1) = xorB (parSum (ls.take i)) (ls[i].drop 4) := by
    unfold accL
    rw [if_neg (by omega), List.take_add_one, List.getElem?_eq_getElem hi]
    show parSum (ls.take i ++ [ls[i]]) = _
    rw [parSum_snoc]
  rw [e1]
  unfold accL at hal ⊢
  by_cases h0 : i = 0
  · subst h0
    rw [if_pos rfl, zx_zeros hd (hb.drop 4)]
    show _ = xorB [] _
    unfold xorB
    rw [if_pos (by rw [hd]; decide), zx_nil]
  · rw [if_neg h0] at hal ⊢
    unfold xorB
    rw [if_neg (by rw [hal, hd]; omega)]
theorem ref04_Parity_spec {H : HP} {s : Slc} {sl : List Slc} {ls : List (List Int)} (hs : Ent H (rsl 1 s (sl.map vS))) (hq : Ent H (seqp sl fun i => ls.getD i [])) (hl : sl.length = ls.length) (hk : ls.length ≤ 1099511627776) (hb : ∀ b ∈ ls, Byts b ∧ b.length ≤ 1099511627776) :
    wps g H (ref04_Parity s) (fun x => pr (x.2 = (parL ls).isSome) * H * own 1 x.1 (bv ((parL ls).getD []))) := by
  unfold ref04_Parity
  refine wps_fact (Ent.trans hs (rsl_len _ _ _)) fun hsl => ?_
  have hsl' : sl.length = s.len := by simpa using hsl
  have hpart : ∀ i (h : i < sl.length), Ent H (byt sl[i] (ls[i]'(by omega))) := fun i h o ho => by
    have := hq o ho i sl[i] (List.getElem?_eq_getElem h)
    simpa [List.getD_eq_getElem?_getD, List.getElem?_eq_getElem (show i < ls.length by omega)] using this
  have hbad : ¬ parOk ls → ∀ A : HP, Ent (H * A) (pr (false = (parL ls).isSome) * H * own 1 ⟨none, 0, 0⟩ (bv ((parL ls).getD []))) := fun h A => by
    rw [parL, if_neg h]
    exact ent_own0 (Ent.trans (ent_left _ _) (ent_pr rfl))
  by_cases hz : ls.length = 0
  · have hno : ¬ parOk ls := fun h => h.1 (List.eq_nil_of_length_eq_zero hz)
    refine wps_val (v := true) (wps_ite (fun _ => wps_pure (ent_val rfl)) (fun h => absurd (beq_iff_eq.2 (by omega)) h)) ?_
    refine wps_ite (fun _ => wps_pure ?_) (fun h => absurd rfl h)
    exact Ent.trans (Ent.of_eq (star_emp H).symm) (hbad hno emp)
  have hz0 : 0 < sl.length := by omega
  have hzl : 0 < ls.length := by omega
  have hhead : ls.headD [] = ls[0] := by
    cases ls with
    | nil => simp at hzl
    | cons a l => rfl
  refine wps_fact (len_of (hpart 0 hz0)) fun hl0 => ?_
  refine wps_fact (cap_of (hpart 0 hz0)) fun hc0 => ?_
  refine wps_val (v := ((sl[0].len : Nat) : Int) != 64) (wps_ite (fun h => by have := beq_iff_eq.1 h; omega) (fun _ => wps_rd 0 sl[0] hs rfl (by simp [List.getElem?_eq_getElem hz0]) (wps_pure (ent_val rfl)))) ?_
  by_cases h64 : ls[0].length = 64
  rotate_left
  · have hno : ¬ parOk ls := fun h => h64 (h.2 _ (List.getElem_mem hzl)).1
    refine wps_ite (fun _ => wps_pure (Ent.trans (Ent.of_eq (star_emp H).symm) (hbad hno emp))) (fun h => absurd (by simp; omega) h)
  refine wps_ite (fun h => absurd h (by simp; omega)) (fun _ => ?_)
  refine wps_alloc fun x17 => ?_
  refine wps_rd 0 sl[0] (Ent.trans (ent_left _ _) hs) rfl (by simp [List.getElem?_eq_getElem hz0]) ?_
  refine wps_slice 0 4 rfl rfl (by omega) (by omega) ?_
  have hsq : Ent H (byt (subS 1 sl[0] 0 4) (ls[0].take 4)) := Ent.trans (hpart 0 hz0) (byt_take (by omega))
  refine wps_copyP (new := bv (ls[0].take 4)) (Ent.trans (ent_left _ _) hsq) (bv_one _) (by simp) ?_
  have h40 : (ls[0].take 4).length = 4 := by simp; omega
  have hcs0 : ovw (List.replicate 64 (Value.int .u8 0)) 0 ((bv (ls[0].take 4)).take (min (subS 1 sl[0] 0 4).len 64 * 1)) = bv (ls[0].take 4 ++ accL ls 0) := by
    rw [subS_len, show min (4 - 0) 64 * 1 = 4 from rfl, List.take_of_length_le (by rw [bl]; omega)]
    unfold ovw accL
    rw [if_pos rfl, bl, h40]
    simp [bv]
  rw [hcs0]
  have hrd4 : ∀ (X : List Int), Ent (H * pc x17 (bv (ls[0].take 4 ++ X))) (byt (subS 1 ⟨some ⟨x17, 0, none⟩, 64, 64⟩ 0 4) (ls[0].take 4)) := fun X => by
    refine Ent.trans (ent_right _ _) ?_
    unfold byt
    refine Ent.trans (pc_ro _ _) (ent_orr (ent_ex ⟨x17, 0, none⟩ (ent_ex (bv (ls[0].take 4 ++ X)) (ent_prr ⟨by simp [subS, Addr.add], by rw [bl, h40]; rfl, by show 4 - 0 ≤ 64 - 0; omega, ?_⟩ (Ent.refl _)))))
    show ((bv (ls[0].take 4 ++ X)).drop 0).take ((4 - 0) * 1) = _
    rw [List.drop_zero]
    simp only [bv, List.map_append]
    rw [List.take_append_of_le_length (by simp; omega), List.take_of_length_le (by simp; omega)]
  refine wps_loop (fun st => ex fun i : Nat => pr (st = (i : Int) ∧ i ≤ ls.length ∧ ∀ j (h : j < ls.length), j < i → ls[j].length = 64 ∧ ls[j].take 4 = ls[0].take 4) * (H * pc x17 (bv (ls[0].take 4 ++ accL ls i)))) (fun st => (ls.length - st).toNat) ?_ fun st => ?_
  · exact ent_ex 0 (ent_prr ⟨rfl, by omega, fun j _ h => by omega⟩ (Ent.refl _))
  refine wps_ex fun i => wps_pr fun ⟨hi, hin, hall⟩ => ?_
  refine wps_ite (fun hc => ?_) (fun hc => ?_)
  rotate_left
  · have hie : i = ls.length := by
      have hc1 : ¬ (st < ((s.len : Nat) : Int)) := fun h => hc (decide_eq_true h)
      omega
    have hok : parOk ls := ⟨fun h => hz (by rw [h]; rfl), fun b hbm => by
      obtain ⟨j, hj, rfl⟩ := List.getElem_of_mem hbm
      rw [hhead]
      exact hall j hj (by omega)⟩
    refine wps_mapR (wps_pure ?_)
    rw [parL, if_pos hok, hhead]
    have hacc : accL ls i = parSum ls := by unfold accL; rw [if_neg (by omega), hie, List.take_length]
    have hal := accL_len (i := i) hin fun j hj hji => (hall j hj hji).1
    rw [hacc] at hal ⊢
    refine ent_swap (A := pc x17 (bv (ls[0].take 4 ++ parSum ls))) (B := own 1 ⟨some ⟨x17, 0, none⟩, 64, 64⟩ (bv (ls[0].take 4 ++ parSum ls))) (pc_own (n := 64) (z := 1) (by rw [bl, List.length_append, h40, hal])) ?_
    exact Ent.starl (ent_pr rfl)
  have hc1 := of_decide_eq_true hc
  have hlt : i < sl.length := by omega
  have hltl : i < ls.length := by omega
  have hbi := hb _ (List.getElem_mem hltl)
  have hno : (ls[i].length = 64 ∧ ls[i].take 4 = ls[0].take 4 → False) → ¬ parOk ls := fun h hp => h (by have := hp.2 _ (List.getElem_mem hltl); rwa [hhead] at this)
  refine wps_fact (Ent.trans (ent_left _ _) (len_of (hpart i hlt))) fun hpl => ?_
  refine wps_fact (Ent.trans (ent_left _ _) (cap_of (hpart i hlt))) fun hpc => ?_
  have hgi : (sl.map vS)[i]? = some (vS sl[i]) := by simp [List.getElem?_eq_getElem hlt]
  refine wps_bindV (u := !decide (ls[i].length = 64 ∧ ls[i].take 4 = ls[0].take 4)) ?_ ?_
  · refine wps_regionH ?_
    refine wps_rdI i sl[i] (Ent.trans (ent_left _ _) hs) (Ent.refl _) hi hgi ?_
    by_cases h6 : ls[i].length = 64
    rotate_left
    · refine wps_ite (fun _ => wps_pure (ent_prr (by simp [h6]) (Ent.refl _))) (fun h => absurd (by simp; omega) h)
    refine wps_ite (fun h => absurd h (by simp; omega)) (fun _ => ?_)
    refine wps_rdI i sl[i] (Ent.trans (ent_left _ _) hs) (Ent.refl _) hi hgi ?_
    refine wps_slice 0 4 rfl rfl (by omega) (by omega) ?_
    refine wps_slice 0 4 rfl rfl (by omega) (by show 4 ≤ 64; omega) ?_
    refine wps_stepV (ref00_SameBytes_val (Ent.trans (ent_left _ _) (Ent.trans (hpart i hlt) (byt_take (by omega)))) (hrd4 _) (by simp; omega)) (wps_pure (ent_prr ?_ (Ent.refl _)))
    simp [h6]
  by_cases hsame : ls[i].length = 64 ∧ ls[i].take 4 = ls[0].take 4
  rotate_left
  · refine wps_ite (fun _ => wps_mapR (wps_pure (hbad (hno fun h => hsame h) _))) (fun h => absurd (by simp [hsame]) h)
  refine wps_ite (fun h => absurd h (by simp [hsame])) (fun _ => ?_)
  have hal := accL_len (i := i) hin fun j hj hji => (hall j hj hji).1
  have hst := accL_step hltl (fun j hj hji => (hall j hj hji).1) hsame.1 hbi.1
  have hd60 : (ls[i].drop 4).length = 60 := by simp; omega
  refine wps_loop (fun t => ex fun j : Nat => pr (t = ((4 + j : Nat) : Int) ∧ j ≤ 60) * (H * pc x17 (bv (ls[0].take 4 ++ zx (accL ls i) ((ls[i].drop 4).take j))))) (fun t => (64 - t).toNat) ?_ fun t => ?_
  · exact ent_ex 0 (ent_prr ⟨rfl, by omega⟩ (Ent.of_eq (by rw [List.take_zero, zx_nil])))
  refine wps_ex fun j => wps_pr fun ⟨ht, hj⟩ => ?_
  refine wps_ite (fun hc2 => ?_) (fun hc2 => ?_)
  rotate_left
  · have hje : j = 60 := by
      have : ¬ (t < 64) := fun h => hc2 (decide_eq_true h)
      omega
    subst hje
    rw [List.take_of_length_le (l := ls[i].drop 4) (by omega), hst]
    refine wps_mapR (wps_pure ?_)
    refine ent_prr (by rw [range_add1 hi (by omega)]; omega) (ent_ex (i + 1) (ent_prr ⟨range_add1 hi (by omega), by omega, fun k hk hki => ?_⟩ (Ent.refl _)))
    by_cases hke : k = i
    · subst hke; exact hsame
    · exact hall k hk (by omega)
  have hj60 : j < 60 := by have := of_decide_eq_true hc2; omega
  obtain ⟨z1, z2⟩ := zx_step (accL ls i) (ls[i].drop 4) j (by omega) (by omega)
  have hget : (bv (ls[0].take 4 ++ zx (accL ls i) ((ls[i].drop 4).take j)))[0 + (4 + j) * 1]? = some (Value.int .u8 ((accL ls i)[j]'(by omega))) := by
    rw [show 0 + (4 + j) * 1 = 4 + j by omega, bv, List.getElem?_map, List.getElem?_append_right (by omega), h40, Nat.add_sub_cancel_left, z1, List.getElem?_eq_getElem (by omega)]; rfl
  have hgb : (bv ls[i])[4 + j]? = some (Value.int .u8 ((ls[i].drop 4)[j]'(by omega))) := by
    rw [bv, List.getElem?_map, List.getElem_drop, List.getElem?_eq_getElem (by omega)]; rfl
  refine wps_regionH ?_
  refine wps_idx (4 + j) rfl ht (by show 4 + j < 64; omega) ?_
  refine wps_ldI ((accL ls i)[j]'(by omega)) hget ?_
  refine wps_rdI i sl[i] (Ent.trans (ent_left _ _) hs) (Ent.refl _) hi hgi ?_
  refine wps_rdI (4 + j) ((ls[i].drop 4)[j]'(by omega)) (Ent.trans (ent_left _ _) (hpart i hlt)) (Ent.refl _) ht hgb ?_
  refine wps_idx (4 + j) rfl ht (by show 4 + j < 64; omega) ?_
  refine wps_st (by rw [bl, List.length_append, h40, zx_len, hal]; omega) (wps_pure ?_)
  have e8 : w64 (t + 1) = ((4 + (j + 1) : Nat) : Int) := by rw [ht, w64_id] <;> omega
  refine ent_prr (by rw [e8]; omega) (ent_ex (j + 1) (ent_prr ⟨e8, by omega⟩ (Ent.starr (Ent.of_eq ?_))))
  congr 1
  rw [show 0 + (4 + j) * 1 = 4 + j by omega, bv_set, List.set_append_right _ _ (by omega), h40, Nat.add_sub_cancel_left, z2]
end Go.Proofs.Ytldmeimebebllaa
namespace Go.Proofs.Ytldmeimebebllaa
open Go.Mo
set_option linter.unusedVariables false
variable {g : Fr} {cv : CV}
theorem rows_nil {c : Nat} : Ent (pc c []) (rows ⟨some ⟨c, 0, none⟩, 0, 0⟩ []) := by
  unfold rows
  refine ent_ex [] ?_
  have h := pc_own (b := c) (z := 1) (n := 0) (cs := []) rfl
  refine Ent.trans h ?_
  refine Ent.trans ?_ (Ent.starl (ent_prr ⟨rfl, rfl⟩ (seqp_nil emp _)))
  exact Ent.of_eq (emp_star _).symm
theorem wps_rows1 {α : Type} {H H1 H2 : HP} {k : Slc → M α} {Q : α → HP} {t x : Slc} {l : List (List Int)} {b : List Int} [h1 : Has H (rows t l) H1] [h2 : Has H1 (own 1 x (bv b)) H2] (hl : l.length ≤ 1000000)
    (h : ∀ t', wps g (H2 * rows t' (l ++ [b])) (k t') Q) : wps g H (bindM (allocM [.slice x.base x.len x.cap]) fun y => bindM (appendM [(.slice none 0 0)] 24 t ⟨some y, 1, 1⟩) k) Q := by
  rw [h1.eq, h2.eq]
  unfold rows
  refine wps_exr fun sl => ?_
  refine wps_prP fun ⟨hsl, htl⟩ => ?_
  refine wps_alloc fun y => ?_
  refine wps_app 1 [vS x] rfl (by decide) (rsl_pc rfl) (by simp [Value.oneCell', vS]) (by (try dsimp only); omega) fun t2 ht2 => ?_
  have ht2' : t2.len = t.len + 1 := ht2
  refine wps_pre ?_ (h t2)
  refine Ent.trans (B := H2 * (seqp sl (fun i => l.getD i []) * byt x b * own 1 t2 ((sl ++ [x]).map vS))) ?_ (Ent.starr (rows_snoc (A := emp) hsl (by omega)))
  have e : List.map vS sl ++ [vS x] = (sl ++ [x]).map vS := by simp
  rw [e]
  simp only [← star_assoc]
  refine ent_swap (A := own 1 x (bv b)) (B := byt x b) (own_rsl _ _ _) ?_
  repeat first | (with_reducible exact ent_drop) | (with_reducible refine ent_pick ?_)
theorem range_add_map (n m : Nat) : List.range (n + m) = List.range n ++ (List.range m).map (n + ·) := List.range_add
theorem divmod_rc {D r c : Nat} (hc : c < D) : (r * D + c) / D = r ∧ (r * D + c) % D = c := by
  rw [Nat.add_comm]
  exact ⟨by rw [Nat.add_mul_div_right _ _ (by omega), Nat.div_eq_of_lt hc, Nat.zero_add], by rw [Nat.add_mul_mod_self_right, Nat.mod_eq_of_lt hc]⟩
end Go.Proofs.Ytldmeimebebllaa
namespace Go.Proofs.Ytldmeimebebllaa
open Go.Mo
set_option linter.unusedVariables false
variable {g : Fr} {cv : CV}
theorem wps_offQ {α : Type} {H H' : HP} {K : Bool → M α} {Q : α → HP} {mb : Nat} {R : Rk} {l1 l2 l3 l4 : Slc} [h : Has H (refQ mb R l1 l2 l3 l4) H'] (hk : wps g H (K R.off) Q) : wps g H (bindM (ld Value.bool ⟨mb, 7, none⟩) K) Q := by
  rw [h.eq] at hk ⊢
  exact ref02_off hk
theorem ref07_good_spec (yb mb : Nat) (q m : G3) (R : Rk) (hby : R.bys) (l1 l2 l3 l4 : Slc) (s : Int × Int) (seq : Int) :
    wps g (bnk yb mb q m * refQ mb R l1 l2 l3 l4) (ref07_good (ptr yb) s seq) (fun x => pr (x.2 = (goodV q m R s seq).2) * bnk yb mb q m * refQ mb R l1 l2 l3 l4 * own 1 x.1 (bv (goodV q m R s seq).1)) := by
  unfold ref07_good
  refine wps_fact (Ent.trans (ent_right _ _) refQ_good) fun hg => ?_
  refine wps_alloc fun c => ?_
  refine wps_ld s.1 (by rfl) ?_
  refine wps_ld s.2 (by rfl) ?_
  refine wps_call2 (fun _ => ref06_Read_spec yb mb q m R l1 l2 l3 l4 s.1 s.2) fun x => ?_
  simp only [← star_assoc]
  refine wps_prP fun hx => ?_
  have hx' : x.2 = brdE q m R s := hx
  have hbr : (if (slotV q m s.1).2 = true then R.rd (slotV q m s.1).1 s.2 else []) = brd q m R s := rfl
  rw [hbr]
  by_cases h0 : brdE q m R s = 0
  rotate_left
  · rw [goodV, if_neg h0]
    refine wps_ite (fun _ => wps_pure ?_) (fun h => absurd (by simp [hx', h0]) h)
    refine ent_own0 ?_
    repeat first | (with_reducible refine ent_pick ?_) | (refine ent_prq ?_)
    all_goals first | rfl | trivial
  rw [goodV, if_pos h0]
  refine wps_ite (fun h => absurd h (by simp [hx', h0])) (fun _ => ?_)
  refine wps_bind (ref04_Decode_spec (s := x.1) (b := brd q m R s) (Ent.trans (ent_pick1 (A := own 1 x.1 (bv (brd q m R s)))) (own_rsl _ _ _)) (brd_byts hby s) (by have := brd_len (q := q) (m := m) hg s; omega)) fun y => ?_
  simp only [← star_assoc]
  refine wps_prP fun hy => ?_
  refine wps_alloc fun d => ?_
  refine wps_stA (by simp) (by simp [Value.oneCell']) ?_
  refine wps_regionH ?_
  refine wps_ldI y.1.1 (by rfl) (wps_pure ?_)
  rw [hy]
  repeat first | (with_reducible refine ent_pick ?_) | (refine ent_prq ?_)
  all_goals first | rfl | trivial
structure OthJ (q m : G3) (R : Rk) (lost : Int × Int) (seq : Int) (l : List (Int × Int)) (base i : Nat) (st : Slc × Int) (ls : List (List Int)) : Prop where
  hi : st.2 = ((base + i : Nat) : Int)
  le : i ≤ l.length
  oth : othL q m R lost seq l = (othL q m R lost seq (l.drop i)).map (fun l => ls ++ l)
  lsi : ls.length ≤ i
  bs : ∀ b ∈ ls, Byts b ∧ b.length ≤ 64
theorem eq2_dec (a b : Int × Int) : eq2 (a.1, a.2) (b.1, b.2) = decide (a = b) := by
  unfold eq2
  by_cases h : a = b
  · subst h; simp
  · rw [decide_eq_false h]
    by_cases h1 : a.1 = b.1
    · have h2 : ¬ a.2 = b.2 := fun h2 => h (Prod.ext h1 h2)
      simp [h2]
    · simp [h1]
theorem spotAt_row {q : G3} {seg : Int} {r i : Nat} (h1 : 3 ≤ q.1) (hi : i < (spotsL q seg r).length) : spotAt q seg (r * q.1.toNat + i) = (spotsL q seg r)[i] := by
  have := spotsL_len q seg r h1
  rw [spotAt_rc h1 (by omega), List.getD_eq_getElem?_getD, List.getElem?_eq_getElem hi]; rfl
theorem row_lt {q : G3} {r i : Nat} (hr : (r : Int) < q.2.1) (hi : (i : Int) < q.1) : ((r * q.1.toNat + i : Nat) : Int) < q.2.1 * q.1 := by
  have h1 : ((r : Int) + 1) * q.1 ≤ q.2.1 * q.1 := Int.mul_le_mul_of_nonneg_right (by omega) (by omega)
  have h2 : ((r * q.1.toNat : Nat) : Int) = (r : Int) * q.1 := by rw [Int.natCast_mul]; congr 1; omega
  rw [Int.add_mul] at h1
  omega
theorem ref07_others_spec (yb mb : Nat) (q m : G3) (R : Rk) (hby : R.bys) (l1 l2 l3 l4 : Slc) (seg : Int) (hs : InS q seg) (r : Nat) (hr : (r : Int) < q.2.1) (lost : Int × Int) (seq : Int) :
    wps g (bnk yb mb q m * refQ mb R l1 l2 l3 l4) (ref07_others (ptr yb) seg r lost seq) (fun x => pr (x.2 = (othV q m R lost seq (spotsL q seg r)).2) * bnk yb mb q m * refQ mb R l1 l2 l3 l4 * own 1 x.1 (bv (othV q m R lost seq (spotsL q seg r)).1)) := by
  unfold ref07_others
  have hb := RightB.bnd hs.right
  have b1 := hb.d3
  have b2 := hb.d16
  have b3 := hb.r1
  have b4 := hb.r4
  have hspl := spotsL_len q seg r b1
  have hmul : ((r * q.1.toNat : Nat) : Int) = (r : Int) * q.1 := by rw [Int.natCast_mul]; congr 1; omega
  have hle64 : (r : Int) * q.1 ≤ 3 * 16 := Int.mul_le_mul (by omega) b2 (by omega) (by omega)
  refine wps_fact (Ent.trans (ent_right _ _) refQ_good) fun hg => ?_
  refine wps_alloc fun c => ?_
  refine wps_alloc fun x17 => ?_
  refine wps_nil ?_
  refine wps_ld q.1 (by rfl) ?_
  have e1 : w64 ((r : Int) * q.1) = ((r * q.1.toNat + 0 : Nat) : Int) := by rw [w64_id] <;> omega
  rw [e1]
  refine wps_swap (A := pc x17 []) (B := rows ⟨some ⟨x17, 0, none⟩, 0, 0⟩ []) rows_nil ?_
  refine wps_loop (fun st => ex fun i : Nat => ex fun ls : List (List Int) => pr (OthJ q m R lost seq (spotsL q seg r) (r * q.1.toNat) i st ls) * bnk yb mb q m * refQ mb R l1 l2 l3 l4 * pc c [.int .i64 lost.1, .int .i64 lost.2] * rows st.1 ls) (fun st => (((r + 1) * q.1.toNat : Nat) - st.2).toNat) ?_ fun st => ?_
  · refine ent_ex 0 (ent_ex [] ?_)
    repeat first | (with_reducible refine ent_pick ?_) | (refine ent_prq ?_)
    all_goals first | trivial | skip
    refine ⟨rfl, by omega, ?_, by simp, by simp⟩
    rw [List.drop_zero]
    cases othL q m R lost seq (spotsL q seg r) <;> simp
  refine wps_ex fun i => wps_ex fun ls => ?_
  refine wps_prP fun ⟨hi, hin, ho, hlsi, hbs⟩ => ?_
  refine wps_nil ?_
  refine wps_ld q.1 (by rfl) ?_
  have hm1 : ((r : Int) + 1) * q.1 = (r : Int) * q.1 + q.1 := by rw [Int.add_mul]; omega
  have hn1 : ((r + 1) * q.1.toNat : Nat) = r * q.1.toNat + q.1.toNat := by rw [Nat.add_mul]; omega
  have e2 : w64 (w64 ((r : Int) + 1) * q.1) = ((r * q.1.toNat + q.1.toNat : Nat) : Int) := by
    rw [w64_id (n := (r : Int) + 1) (by omega) (by omega), hm1, w64_id] <;> omega
  rw [e2]
  refine wps_ite (fun hc => ?_) (fun hc => ?_)
  · have hlt : i < (spotsL q seg r).length := by have := of_decide_eq_true hc; omega
    have hget : (spotsL q seg r)[i]? = some (spotsL q seg r)[i] := List.getElem?_eq_getElem hlt
    have hsa := spotAt_row b1 hlt
    rw [List.drop_eq_getElem_cons hlt, othL] at ho
    generalize hsp : (spotsL q seg r)[i] = sp at *
    refine wps_nil ?_
    refine wps_ldG q.1 q.2.1 q.2.2 (by rfl) ?_
    rw [hi]
    refine wps_val (ref07_spot_val (q.1, q.2.1, q.2.2) seg hs (r * q.1.toNat + i) (row_lt hr (by omega))) ?_
    rw [show spotAt (q.1, q.2.1, q.2.2) seg (r * q.1.toNat + i) = sp from hsa]
    refine wps_alloc fun x14 => ?_
    refine wps_stA (by simp) (by simp [Value.oneCell']) ?_
    refine wps_ldA sp (by rfl) ?_
    refine wps_ldA lost (by rfl) ?_
    rw [eq2_dec]
    have e3 : w64 (((r * q.1.toNat + i : Nat) : Int) + 1) = ((r * q.1.toNat + (i + 1) : Nat) : Int) := by rw [w64_id] <;> omega
    rw [e3]
    by_cases hsl2 : sp = lost
    · rw [if_pos hsl2] at ho
      refine wps_ite (fun _ => wps_pure ?_) (fun h => absurd (decide_eq_true hsl2) h)
      refine ent_prr (by (try dsimp only); omega) (ent_ex (i + 1) (ent_ex ls ?_))
      repeat first | (with_reducible refine ent_pick ?_) | (refine ent_prq ?_)
      all_goals first | exact ⟨rfl, by omega, ho, by omega, hbs⟩ | trivial
    · rw [if_neg hsl2] at ho
      refine wps_ite (fun h => absurd (of_decide_eq_true h) hsl2) (fun _ => ?_)
      refine wps_ldA sp (by rfl) ?_
      refine wps_call2 (fun _ => ref07_good_spec yb mb q m R hby l1 l2 l3 l4 sp seq) fun x => ?_
      simp only [← star_assoc]
      refine wps_prP fun hx => ?_
      by_cases hgo : (goodV q m R sp seq).2 = true
      rotate_left
      · rw [if_neg hgo] at ho
        have hov : othV q m R lost seq (spotsL q seg r) = ([], false) := by unfold othV; rw [ho]; rfl
        refine wps_ite (fun _ => wps_mapR (wps_pure ?_)) (fun h => absurd (by rw [hx]; simpa using hgo) h)
        show Ent _ (pr (false = _) * _ * _ * _)
        rw [hov]
        refine ent_own0 ?_
        repeat first | (with_reducible refine ent_pick ?_) | (refine ent_prq ?_)
        all_goals first | rfl | trivial
      rw [if_pos hgo] at ho
      refine wps_ite (fun h => absurd h (by rw [hx]; simp [hgo])) (fun _ => ?_)
      refine wps_rows1 (b := (goodV q m R sp seq).1) (l := ls) (by omega) fun t2 => wps_pure ?_
      refine ent_prr (by (try dsimp only); omega) (ent_ex (i + 1) (ent_ex (ls ++ [(goodV q m R sp seq).1]) ?_))
      repeat first | (with_reducible refine ent_pick ?_) | (refine ent_prq ?_)
      all_goals first | trivial | skip
      refine ⟨rfl, by omega, ?_, by simp; omega, fun b hb => ?_⟩
      · rw [ho]
        cases othL q m R lost seq ((spotsL q seg r).drop (i + 1)) <;> simp
      · rcases List.mem_append.1 hb with hb | hb
        · exact hbs b hb
        · obtain rfl : b = (goodV q m R sp seq).1 := by simpa using hb
          exact ⟨goodV_byts hby _ _, goodV_len hg _ _⟩
  · have hie : i = (spotsL q seg r).length := by
      have hc1 : ¬ (st.2 < ((r * q.1.toNat + q.1.toNat : Nat) : Int)) := fun h => hc (decide_eq_true h)
      omega
    rw [hie, List.drop_length, othL] at ho
    have hov : othV q m R lost seq (spotsL q seg r) = ((parL ls).getD [], (parL ls).isSome) := by unfold othV; rw [ho]; simp
    refine wps_mapR ?_
    rw [hov]
    refine wps_pre (H' := bnk yb mb q m * refQ mb R l1 l2 l3 l4 * pc c [.int .i64 lost.1, .int .i64 lost.2] * ex fun sl : List Slc => pr (sl.length = ls.length ∧ st.1.len = ls.length) * seqp sl (fun i => ls.getD i []) * own 1 st.1 (sl.map vS)) (Ent.of_eq (by rw [emp_star]; rfl)) ?_
    refine wps_exr fun sl => ?_
    simp only [← star_assoc]
    refine wps_prP fun ⟨hA, hA2⟩ => ?_
    refine wps_bind (ref04_Parity_spec (s := st.1) (sl := sl) (ls := ls) (Ent.trans (ent_pick1 (A := own 1 st.1 (sl.map vS))) (own_rsl _ _ _)) (ent_pick1 (A := seqp sl fun j => ls.getD j [])) hA (by omega) (fun b hb => ⟨(hbs b hb).1, by have := (hbs b hb).2; omega⟩)) fun p => ?_
    simp only [← star_assoc]
    refine wps_prP fun hp => wps_pure ?_
    show Ent _ (pr (p.2 = _) * _ * _ * _)
    repeat first | (with_reducible refine ent_pick ?_) | (refine ent_prq ?_)
    all_goals first | exact hp | trivial
end Go.Proofs.Ytldmeimebebllaa
namespace Go.Proofs.Ytldmeimebebllaa
open Go.Mo
set_option linter.unusedVariables false
variable {g : Fr} {cv : CV}
theorem flat_rc {α : Type} {D : Nat} (hD : 0 < D) (f : Nat → Nat → α) : ∀ R : Nat, (List.range R).flatMap (fun r => (List.range D).map (f r)) = (List.range (R * D)).map fun i => f (i / D) (i % D)
  | 0 => by simp
  | R + 1 => by
    rw [List.range_succ, List.flatMap_append, flat_rc hD f R, Nat.add_mul, Nat.one_mul, range_add_map, List.map_append, List.map_map]
    congr 1
    simp only [List.flatMap_cons, List.flatMap_nil, List.append_nil]
    refine List.map_congr_left fun c hc => ?_
    have hc := List.mem_range.1 hc
    show f R c = f ((R * D + c) / D) ((R * D + c) % D)
    rw [(divmod_rc hc).1, (divmod_rc hc).2]
theorem ref07_Read_spec (yb mb : Nat) (q m : G3) (hq : RightB q = true) (R : Rk) (hby : R.bys) (l1 l2 l3 l4 : Slc) (seg k seq : Int) :
    wps g (bnk yb mb q m * refQ mb R l1 l2 l3 l4) (ref07_Read (ptr yb) seg k seq) (fun x => pr (x.2 = (sRead q m R seg k seq).2 ∧ x.1.1 = (sRead q m R seg k seq).1.1 ∧ x.1.2.1 = (sRead q m R seg k seq).1.2.1) * bnk yb mb q m * refQ mb R l1 l2 l3 l4 * own 1 x.1.2.2 (bv (sRead q m R seg k seq).1.2.2)) := by
  unfold ref07_Read
  have hb := RightB.bnd hq
  have b1 := hb.d3
  have b2 := hb.d16
  have b4 := hb.r4
  refine wps_fact (Ent.trans (ent_right _ _) refQ_good) fun hg => ?_
  refine wps_alloc fun x8 => ?_
  refine wps_nil ?_
  refine wps_ldG q.1 q.2.1 q.2.2 (by rfl) ?_
  refine wps_val (ref03_Block_val (q.1, q.2.1, q.2.2) seg k) ?_
  rw [show blkOkB (q.1, q.2.1, q.2.2) seg k = blkOkB q seg k from rfl, show blkSpot (q.1, q.2.1, q.2.2) seg k = blkSpot q seg k from rfl]
  refine wps_alloc fun x10 => ?_
  by_cases hbo : blkOkB q seg k = true
  rotate_left
  · have hsr : sRead q m R seg k seq = ((0, 0, []), 28) := by unfold sRead; rw [if_pos (by simpa using hbo)]
    rw [if_neg hbo, hsr]
    refine wps_stA (by simp) (by simp [Value.oneCell']) ?_
    refine wps_ite (fun _ => ?_) (fun h => absurd rfl h)
    refine wps_stA (by simp) (by simp [Value.oneCell']) ?_
    refine wps_ldA (enc := fun y : (Int × Int × Slc) => [(.int .i64 y.1), (.int .i64 y.2.1), (.slice y.2.2.base y.2.2.len y.2.2.cap)]) (0, 0, ⟨none, 0, 0⟩) (by rfl) (wps_pure (ent_own0 ?_))
    repeat first | (with_reducible refine ent_pick ?_) | (refine ent_prq ?_)
    all_goals first | exact ⟨rfl, rfl, rfl⟩ | trivial
  rw [if_pos hbo]
  refine wps_stA (by simp) (by simp [Value.oneCell']) ?_
  refine wps_ite (fun h => absurd h (by simp)) (fun _ => ?_)
  refine wps_nil ?_
  refine wps_ld (ptr mb) (by rfl) ?_
  refine wps_nil ?_
  refine wps_offQ (mb := mb) (R := R) (l1 := l1) (l2 := l2) (l3 := l3) (l4 := l4) ?_
  by_cases ho : R.off = true
  · have hsr : sRead q m R seg k seq = ((0, 0, []), 12) := by unfold sRead; rw [if_neg (by simp [hbo]), if_pos ho]
    rw [hsr, ho]
    refine wps_ite (fun _ => ?_) (fun h => absurd rfl h)
    refine wps_stA (by simp [ovw]) (by simp [Value.oneCell']) ?_
    refine wps_ldA (enc := fun y : (Int × Int × Slc) => [(.int .i64 y.1), (.int .i64 y.2.1), (.slice y.2.2.base y.2.2.len y.2.2.cap)]) (0, 0, ⟨none, 0, 0⟩) (by rfl) (wps_pure (ent_own0 ?_))
    repeat first | (with_reducible refine ent_pick ?_) | (refine ent_prq ?_)
    all_goals first | exact ⟨rfl, rfl, rfl⟩ | trivial
  have hof : R.off = false := by simpa using ho
  rw [hof]
  refine wps_ite (fun h => absurd h (by decide)) (fun _ => ?_)
  have hbo2 := hbo
  simp only [blkOkB, Bool.and_eq_true, decide_eq_true_eq] at hbo2
  obtain ⟨_, hk, hse⟩ := hbo2
  have hkr := row_of_k hq hk
  generalize hspe : blkSpot q seg k = sp at *
  generalize hfv : (if (goodV q m R sp seq).2 = true then goodV q m R sp seq else othV q m R sp seq (spotsL q seg (k / (q.1 - 1)).toNat)) = fv
  have hsr : sRead q m R seg k seq = if fv.2 = true then (((headOf fv.1).2.1, (headOf fv.1).2.2, payOf fv.1), 0) else ((0, 0, []), 14) := by
    unfold sRead; rw [if_neg (by simp [hbo]), if_neg ho, hspe]
    simp only [hfv]
  have hfb : Byts fv.1 ∧ fv.1.length ≤ 64 := by
    rw [← hfv]; split
    · exact ⟨goodV_byts hby _ _, goodV_len hg _ _⟩
    · exact othV_byts hby _ _ _
  refine wps_ldA sp (by rfl) ?_
  refine wps_call2 (fun _ => ref07_good_spec yb mb q m R hby l1 l2 l3 l4 sp seq) fun x => ?_
  simp only [← star_assoc]
  refine wps_prP fun hx => ?_
  refine wps_bindS (R := fun b => pr (b.1 = fv.2) * bnk yb mb q m * refQ mb R l1 l2 l3 l4 * pc x8 [.int .i64 0, .int .i64 0, .slice none 0 0] * own 1 b.2 (bv fv.1)) ?_ fun b => ?_
  · refine wps_ite (fun hgo => ?_) (fun hgo => ?_)
    · have hgo' : ¬ (goodV q m R sp seq).2 = true := by rw [← hx]; simpa using hgo
      rw [if_neg hgo'] at hfv
      refine wps_region (bnk yb mb q m * pc x10 [.int .i64 sp.1, .int .i64 sp.2]) ?_ ?_
      · refine ent_pickC (by rfl) ?_
        repeat with_reducible exact ent_drop
      refine wps_nil ?_
      refine wps_ldI q.1 (by rfl) ?_
      have e0 : w64 (q.1 - 1) = q.1 - 1 := w64_id (by omega) (by omega)
      rw [e0]
      refine wps_assert (by omega) ?_
      refine wps_ldAI sp (by rfl) ?_
      have e1 : w64 (Int.tdiv k (q.1 - 1)) = (((k / (q.1 - 1)).toNat : Nat) : Int) := by rw [Int.tdiv_eq_ediv_of_nonneg hk.1, w64_id] <;> omega
      rw [e1]
      refine wps_stepQ2 (fun _ => ref07_others_spec yb mb q m R hby l1 l2 l3 l4 seg ⟨hq, hse.1, by omega⟩ (k / (q.1 - 1)).toNat (by omega) sp seq) (fun y => ?_) fun y => ?_
      · simp only [← star_assoc]
        refine ent_pickC (by rfl) ?_
        repeat with_reducible exact ent_drop
      · simp only [← star_assoc]
        refine wps_prP fun hy => wps_pure ?_
        rw [hfv] at hy ⊢
        refine ent_pick (ent_pickC (by rfl) ?_)
        repeat first | (with_reducible refine ent_pick ?_) | (refine ent_prq ?_)
        all_goals first | exact hy | trivial
    · have hgo' : (goodV q m R sp seq).2 = true := by rw [← hx]; simpa using hgo
      rw [if_pos hgo'] at hfv
      rw [hfv] at hx ⊢
      refine wps_pure ?_
      refine ent_pick (ent_pickC (by rfl) ?_)
      repeat first | (with_reducible refine ent_pick ?_) | (refine ent_prq ?_)
      all_goals first | exact hx | trivial
  refine wps_prP fun hb1 => ?_
  rw [hb1, hsr]
  by_cases hf2 : fv.2 = true
  rotate_left
  · rw [if_neg hf2]
    refine wps_ite (fun _ => ?_) (fun h => absurd (by simpa using hf2) h)
    refine wps_stA (by simp) (by simp [Value.oneCell']) ?_
    refine wps_ldA (enc := fun y : (Int × Int × Slc) => [(.int .i64 y.1), (.int .i64 y.2.1), (.slice y.2.2.base y.2.2.len y.2.2.cap)]) (0, 0, ⟨none, 0, 0⟩) (by rfl) (wps_pure (ent_own0 ?_))
    repeat first | (with_reducible refine ent_pick ?_) | (refine ent_prq ?_)
    all_goals first | exact ⟨rfl, rfl, rfl⟩ | trivial
  rw [if_pos hf2]
  refine wps_ite (fun h => absurd h (by simp [hf2])) (fun _ => ?_)
  refine wps_bind (ref04_Decode_spec (s := b.2) (b := fv.1) (Ent.trans (ent_pick1 (A := own 1 b.2 (bv fv.1))) (own_rsl _ _ _)) hfb.1 (by omega)) fun y => ?_
  simp only [← star_assoc]
  refine wps_prP fun hy => ?_
  refine wps_alloc fun x13 => ?_
  refine wps_stA (by simp) (by simp [Value.oneCell']) ?_
  refine wps_ld y.1.2.1 (by rfl) ?_
  refine wps_ld y.1.2.2 (by rfl) ?_
  refine wps_stA (by simp) (by simp [Value.oneCell']) ?_
  refine wps_ldA (enc := fun y : (Int × Int × Slc) => [(.int .i64 y.1), (.int .i64 y.2.1), (.slice y.2.2.base y.2.2.len y.2.2.cap)]) (y.1.2.1, y.1.2.2, y.2.1) (by rfl) (wps_pure ?_)
  rw [hy]
  repeat first | (with_reducible refine ent_pick ?_) | (refine ent_prq ?_)
  all_goals first | exact ⟨rfl, rfl, rfl⟩ | trivial
end Go.Proofs.Ytldmeimebebllaa

namespace Go.Proofs.Ytldmeimebebllaa
open Go.Mo
set_option linter.unusedVariables false
variable {g : Fr} {cv : CV}
def whR (q m : G3) (R : Rk) (b0 : Option Int) : List (Int × Int) → Int → Option Int
  | [], s => some s
  | sp :: ss, s => if b0 = some sp.1 then whR q m R b0 ss s else if brdE q m R sp ≠ 0 ∨ (s ≥ 0 ∧ (headOf (brd q m R sp)).1 ≠ s) then none else whR q m R b0 ss (headOf (brd q m R sp)).1
theorem head_nn {b : List Int} (h : Byts b) : 0 ≤ (headOf b).1 := by
  unfold headOf
  split
  · show 0 ≤ getB b 0 4
    unfold getB
    exact (getL_rng ((h.drop 0).take 4)).1
  · exact Int.le_refl 0
theorem whR_pos {q m : G3} {R : Rk} {bad : List Int} {b0 : Option Int} (hb : ∀ i, i ∈ bad ↔ b0 = some i) : ∀ (ss : List (Int × Int)) (s : Int), 1 ≤ s → whR q m R b0 ss s = whL q m R bad ss s
  | [], s, _ => rfl
  | sp :: ss, s, hs => by
    rw [whR, whL]
    by_cases hm : sp.1 ∈ bad
    · rw [if_pos ((hb _).1 hm), if_pos hm, whR_pos hb ss s hs]
    · rw [if_neg (fun h => hm ((hb _).2 h)), if_neg hm]
      by_cases hc : brdE q m R sp ≠ 0 ∨ (s ≥ 0 ∧ (headOf (brd q m R sp)).1 ≠ s)
      · rw [if_pos hc, if_pos]
        rcases hc with hc | hc
        · exact .inl hc
        · exact .inr (.inr ⟨by omega, hc.2⟩)
      · have h1 : brdE q m R sp = 0 := Classical.byContradiction fun h => hc (.inl h)
        have h2 : (headOf (brd q m R sp)).1 = s := Classical.byContradiction fun h => hc (.inr ⟨by omega, h⟩)
        rw [if_neg hc, if_neg (by rintro (h | h | h) <;> omega), h2, whR_pos hb ss s hs]
theorem whR_zero {q m : G3} {R : Rk} {b0 : Option Int} : ∀ (ss : List (Int × Int)), whR q m R b0 ss 0 = none ∨ whR q m R b0 ss 0 = some 0
  | [] => .inr rfl
  | sp :: ss => by
    rw [whR]
    split
    · exact whR_zero ss
    · split
      · exact .inl rfl
      · rename_i hc
        have h2 : (headOf (brd q m R sp)).1 = 0 := Classical.byContradiction fun h => hc (.inr ⟨by omega, h⟩)
        rw [h2]; exact whR_zero ss
def whEnd (s : Option Int) : Int × Bool × Int := match s with | some s => if s < 1 then (0, false, 0) else (s, true, 0) | none => (0, false, 0)
def whEndL (s : Option Int) : Int × Bool × Int := match s with | some s => (s, true, 0) | none => (0, false, 0)
theorem whL_ge {q m : G3} {R : Rk} {bad : List Int} : ∀ (ss : List (Int × Int)) (s t : Int), 1 ≤ s → whL q m R bad ss s = some t → t = s
  | [], s, t, _, h => by simpa [whL] using h.symm
  | sp :: ss, s, t, hs, h => by
    rw [whL] at h
    split at h
    · exact whL_ge ss s t hs h
    · split at h
      · cases h
      · rename_i hc
        have h2 : (headOf (brd q m R sp)).1 = s := Classical.byContradiction fun h => hc (.inr (.inr ⟨by omega, h⟩))
        rw [h2] at h
        exact whL_ge ss s t hs h
theorem whR_start {q m : G3} {R : Rk} (hby : R.bys) {bad : List Int} {b0 : Option Int} (hb : ∀ i, i ∈ bad ↔ b0 = some i) : ∀ (ss : List (Int × Int)), (∃ sp ∈ ss, sp.1 ∉ bad) → whEnd (whR q m R b0 ss (-1)) = whEndL (whL q m R bad ss 0)
  | [], h => by simp at h
  | sp :: ss, h => by
    rw [whR, whL]
    by_cases hm : sp.1 ∈ bad
    · rw [if_pos ((hb _).1 hm), if_pos hm]
      obtain ⟨sp', hm', hn'⟩ := h
      rcases List.mem_cons.1 hm' with rfl | hm'
      · exact absurd hm hn'
      · exact whR_start hby hb ss ⟨sp', hm', hn'⟩
    · rw [if_neg (fun h => hm ((hb _).2 h)), if_neg hm]
      have hnn := head_nn (brd_byts (q := q) (m := m) hby sp)
      by_cases hE : brdE q m R sp = 0
      rotate_left
      · rw [if_pos (.inl hE), if_pos (.inl hE)]; rfl
      rw [if_neg (by rintro (h | h) <;> omega)]
      by_cases h0 : (headOf (brd q m R sp)).1 = 0
      · rw [if_pos (.inr (.inl h0)), h0]
        rcases whR_zero (q := q) (m := m) (R := R) (b0 := b0) ss with e | e <;> rw [e] <;> rfl
      · rw [if_neg (by rintro (h | h | h) <;> omega), whR_pos hb ss _ (by omega)]
        cases hw : whL q m R bad ss (headOf (brd q m R sp)).1 with
        | none => rfl
        | some t =>
          have := whL_ge ss _ t (by omega) hw
          show (if t < 1 then _ else _) = _
          rw [if_neg (by omega)]; rfl
theorem allS_flat {q : G3} {seg : Int} (h1 : 3 ≤ q.1) : allS q seg 0 = (List.range (q.2.1.toNat * q.1.toNat)).map (spotAt q seg) := by
  unfold allS
  rw [List.drop_zero]
  have := flat_rc (D := q.1.toNat) (by omega) (fun r i => (spotsL q seg r).getD i (0, 0)) q.2.1.toNat
  refine Eq.trans ?_ this
  congr 1
  funext r
  have hl := spotsL_len q seg r h1
  apply List.ext_getElem?
  intro c
  by_cases hc : c < q.1.toNat
  · rw [List.getElem?_map, List.getElem?_range hc, List.getElem?_eq_getElem (show c < (spotsL q seg r).length by omega)]
    simp [List.getD_eq_getElem?_getD, List.getElem?_eq_getElem (show c < (spotsL q seg r).length by omega)]
  · rw [List.getElem?_eq_none (by omega), List.getElem?_eq_none (by simp; omega)]
theorem two_slots {q m : G3} {R : Rk} {seg : Int} (h1 : 3 ≤ q.1) (hr : 1 ≤ q.2.1) (hb : (badL q m R).length ≤ 1) : ∃ sp ∈ allS q seg 0, sp.1 ∉ badI q m R := by
  obtain ⟨s0, m0, e0⟩ := slot_mem (q := q) (seg := seg) (r := 0) (slot := 0) h1 (by omega)
  obtain ⟨s1, m1, e1⟩ := slot_mem (q := q) (seg := seg) (r := 0) (slot := 1) h1 (by omega)
  have hin : ∀ s ∈ spotsL q seg ((0 : Nat) : Int).toNat, s ∈ allS q seg 0 := fun s hs => by
    rw [allS_step (by omega)]
    exact List.mem_append_left _ hs
  have hb2 : (badI q m R).length ≤ 1 := by simpa [badI] using hb
  by_cases h : (0 : Int) ∈ badI q m R
  · refine ⟨s1, hin s1 m1, fun h' => ?_⟩
    rw [e1] at h'
    match hL : badI q m R, hb2 with
    | [], _ => rw [hL] at h; simp at h
    | [a], _ =>
      rw [hL] at h h'
      simp at h h'
      omega
  · exact ⟨s0, hin s0 m0, by rw [e0]; exact h⟩
theorem ref07_Whole_spec (yb mb : Nat) (q m : G3) (hq : RightB q = true) (R : Rk) (hby : R.bys) (l1 l2 l3 l4 : Slc) (seg : Int) :
    wps g (bnk yb mb q m * refQ mb R l1 l2 l3 l4) (ref07_Whole (ptr yb) seg) (fun x => pr (x = sWhole q m R seg) * bnk yb mb q m * refQ mb R l1 l2 l3 l4) := by
  unfold ref07_Whole
  simp only [Addr.add_add, Nat.reduceAdd]
  have hb := RightB.bnd hq
  have b1 := hb.d3
  have b2 := hb.d16
  have b3 := hb.r1
  have b4 := hb.r4
  refine wps_fact (Ent.trans (ent_right _ _) refQ_good) fun hg => ?_
  refine wps_val (v := decide (¬ (0 ≤ seg ∧ seg < q.2.2))) ?_ ?_
  · refine wps_ite (fun h => wps_pure (ent_prr ?_ (Ent.refl _))) (fun h => ?_)
    · have := of_decide_eq_true h
      exact (decide_eq_true (by omega)).symm
    · have h' : ¬ seg < 0 := fun h2 => h (decide_eq_true h2)
      refine wps_nil ?_
      refine wps_ld q.2.2 (by rfl) (wps_pure (ent_prr ?_ (Ent.refl _)))
      exact decide_eq_decide.2 (by omega)
  by_cases hse : 0 ≤ seg ∧ seg < q.2.2
  rotate_left
  · have hsw : sWhole q m R seg = (0, false, 28) := by
      have ht : thereE q R seg = 28 := by unfold thereE; rw [if_pos hse]
      unfold sWhole; rw [ht]; rfl
    rw [hsw]
    refine wps_ite (fun _ => wps_pure ?_) (fun h => absurd (decide_eq_true hse) h)
    repeat first | (with_reducible refine ent_pick ?_) | (refine ent_prq ?_)
    all_goals first | rfl | trivial
  refine wps_ite (fun h => absurd hse (of_decide_eq_true h)) (fun _ => ?_)
  refine wps_nil ?_
  refine wps_ld (ptr mb) (by rfl) ?_
  refine wps_nil ?_
  refine wps_offQ (mb := mb) (R := R) (l1 := l1) (l2 := l2) (l3 := l3) (l4 := l4) ?_
  by_cases ho : R.off = true
  · have hsw : sWhole q m R seg = (0, false, 12) := by
      have ht : thereE q R seg = 12 := by unfold thereE; rw [if_neg (by simpa using hse), if_pos ho]
      unfold sWhole; rw [ht]; rfl
    rw [hsw, ho]
    refine wps_ite (fun _ => wps_pure ?_) (fun h => absurd rfl h)
    repeat first | (with_reducible refine ent_pick ?_) | (refine ent_prq ?_)
    all_goals first | rfl | trivial
  have hof : R.off = false := by simpa using ho
  rw [hof]
  refine wps_ite (fun h => absurd h (by decide)) (fun _ => ?_)
  refine wps_call2 (fun _ => ref06_Bad_spec yb mb q m b2 R l1 l2 l3 l4) fun bd => ?_
  simp only [← star_assoc]
  refine wps_fact (Ent.trans (ent_pick1 (A := own 1 bd (iv (badL q m R)))) (own_len _ _ _)) fun ⟨hbl, _⟩ => ?_
  have hbl' : (badL q m R).length = bd.len := by simpa [iv] using hbl
  have hRD : ((q.2.1.toNat * q.1.toNat : Nat) : Int) = q.2.1 * q.1 := by rw [Int.natCast_mul]; congr 1 <;> omega
  have h64 : q.2.1 * q.1 ≤ 4 * 16 := Int.mul_le_mul b4 b2 (by omega) (by omega)
  obtain ⟨b0, hb0⟩ : ∃ b0 : Option Int, b0 = (badI q m R)[0]? := ⟨_, rfl⟩
  have hsw : sWhole q m R seg = if 1 < (badL q m R).length then (0, false, 0) else whEnd (whR q m R b0 (allS q seg 0) (-1)) := by
    have ht : thereE q R seg = 0 := by unfold thereE; rw [if_neg (by simpa using hse), if_neg ho]
    unfold sWhole
    rw [if_neg (fun h => h ht)]
    by_cases h1 : 1 < (badL q m R).length
    · rw [if_pos h1, if_pos h1]
    · rw [if_neg h1, if_neg h1]
      have hbb : ∀ i, i ∈ badI q m R ↔ b0 = some i := fun i => by
        have hb2 : (badI q m R).length ≤ 1 := by simp only [badI, List.length_map]; omega
        rw [hb0]
        match hL : badI q m R, hb2 with
        | [], _ => simp
        | [a], _ => simp [eq_comm]
      rw [whR_start hby hbb _ (two_slots b1 b3 (by omega))]
      rfl
  rw [allS_flat b1] at hsw
  have hN : (List.range (q.2.1.toNat * q.1.toNat)).length = q.2.1.toNat * q.1.toNat := by simp
  generalize hN0 : q.2.1.toNat * q.1.toNat = N at *
  generalize hW : whR q m R b0 ((List.range N).map (spotAt q seg)) (-1) = wr at *
  refine wps_loop (fun st => ex fun i : Nat => pr (st.2 = (i : Int) ∧ i ≤ N ∧ whR q m R b0 (((List.range N).drop i).map (spotAt q seg)) st.1 = wr) * bnk yb mb q m * refQ mb R l1 l2 l3 l4 * own 1 bd (iv (badL q m R))) (fun st => (N - st.2).toNat) ?_ fun st => ?_
  · refine ent_ex 0 ?_
    repeat first | (with_reducible refine ent_pick ?_) | (refine ent_prq ?_)
    all_goals first | exact ⟨rfl, by omega, hW⟩ | trivial
  refine wps_ex fun i => wps_prP fun ⟨hi, hin, hw⟩ => ?_
  refine wps_regionH ?_
  refine wps_nil ?_
  refine wps_ldI q.2.1 (by rfl) ?_
  refine wps_nil ?_
  refine wps_ldI q.1 (by rfl) ?_
  rw [w64_id (n := q.2.1 * q.1) (by omega) (by omega)]
  refine wps_ite (fun hc => ?_) (fun hc => ?_)
  rotate_left
  · have hie : i = N := by
      have : ¬ (st.2 < q.2.1 * q.1) := fun h => hc (decide_eq_true h)
      omega
    rw [hie, List.drop_of_length_le (by omega), List.map_nil, whR] at hw
    rw [← hw] at hsw
    refine wps_mapR ?_
    refine wps_val (v := decide (1 < (badL q m R).length ∨ st.1 < 1)) ?_ ?_
    · rw [show decide (1 < (badL q m R).length ∨ st.1 < 1) = decide ((((bd.len : Nat) : Int) > 1) ∨ st.1 < 1) from decide_eq_decide.2 (by omega)]
      exact val_or
    by_cases h1 : 1 < (badL q m R).length ∨ st.1 < 1
    · have hsw2 : sWhole q m R seg = (0, false, 0) := by
        rw [hsw]
        by_cases h2 : 1 < (badL q m R).length
        · rw [if_pos h2]
        · rw [if_neg h2]
          show (if st.1 < 1 then _ else _) = _
          rw [if_pos (by omega)]
      rw [hsw2]
      refine wps_ite (fun _ => wps_pure ?_) (fun h => absurd (decide_eq_true h1) h)
      show Ent _ (pr ((0, false, (0 : Int)) = _) * _ * _)
      repeat first | (with_reducible refine ent_pick ?_) | (refine ent_prq ?_)
      all_goals first | rfl | trivial
    · have hsw2 : sWhole q m R seg = (st.1, true, 0) := by
        rw [hsw, if_neg (fun h => h1 (.inl h))]
        show (if st.1 < 1 then _ else _) = _
        rw [if_neg (fun h => h1 (.inr h))]
      rw [hsw2]
      refine wps_ite (fun h => absurd (of_decide_eq_true h) h1) (fun _ => wps_pure ?_)
      show Ent _ (pr ((st.1, true, (0 : Int)) = _) * _ * _)
      repeat first | (with_reducible refine ent_pick ?_) | (refine ent_prq ?_)
      all_goals first | rfl | trivial
  have hlt : i < N := by have := of_decide_eq_true hc; omega
  rw [drop_range hlt, List.map_cons, whR] at hw
  refine wps_nil ?_
  refine wps_ldG q.1 q.2.1 q.2.2 (by rfl) ?_
  rw [hi]
  refine wps_val (ref07_spot_val (q.1, q.2.1, q.2.2) seg ⟨hq, hse.1, hse.2⟩ i (by show (i : Int) < q.2.1 * q.1; omega)) ?_
  rw [show spotAt (q.1, q.2.1, q.2.2) seg i = spotAt q seg i from rfl]
  generalize spotAt q seg i = sp at *
  refine wps_alloc fun x10 => ?_
  refine wps_stA (by simp) (by simp [Value.oneCell']) ?_
  refine wps_bindV (u := decide (b0 = some sp.1)) ?_ ?_
  · refine wps_regionH ?_
    refine wps_ite (fun h => ?_) (fun h => wps_pure (ent_prr ?_ (Ent.refl _)))
    · have h0 : 0 < (badL q m R).length := by have := of_decide_eq_true h; omega
      have hg0 : (badI q m R)[0]? = some (((badL q m R)[0] : Nat) : Int) := by simp [badI, List.getElem?_eq_getElem h0]
      refine wps_rdI 0 (((badL q m R)[0] : Nat) : Int) (Ent.trans (ent_pick1 (A := own 1 bd (iv (badL q m R)))) (own_rsl _ _ _)) (Ent.refl _) rfl (by simp [iv, List.getElem?_eq_getElem h0]) ?_
      refine wps_ldI sp.1 (by rfl) (wps_pure (ent_prr ?_ (Ent.refl _)))
      rw [hb0, hg0]
      by_cases he : (((badL q m R)[0] : Nat) : Int) = sp.1 <;> simp [he]
    · have h0 : (badL q m R).length = 0 := by
        have : ¬ (((bd.len : Nat) : Int) > 0) := fun h2 => h (decide_eq_true h2)
        omega
      have hg0 : (badI q m R)[0]? = none := by
        rw [List.getElem?_eq_none]; simp [badI, h0]
      rw [hb0, hg0]
      simp
  by_cases hbs : b0 = some sp.1
  · rw [if_pos hbs] at hw
    refine wps_ite (fun _ => wps_pure ?_) (fun h => absurd (decide_eq_true hbs) h)
    refine ent_prr (by dsimp only; rw [range_add1 rfl (by omega)]; omega) (ent_ex (i + 1) ?_)
    repeat first | (with_reducible refine ent_pick ?_) | (refine ent_prq ?_)
    all_goals first | exact ⟨range_add1 rfl (by omega), by omega, hw⟩ | trivial
  rw [if_neg hbs] at hw
  refine wps_ite (fun h => absurd (of_decide_eq_true h) hbs) (fun _ => ?_)
  refine wps_ld sp.1 (by rfl) ?_
  refine wps_ld sp.2 (by rfl) ?_
  refine wps_call2 (fun _ => ref06_Read_spec yb mb q m R l1 l2 l3 l4 sp.1 sp.2) fun y => ?_
  simp only [← star_assoc]
  refine wps_prP fun hy => ?_
  have hy' : y.2 = brdE q m R sp := hy
  have hbr : (if (slotV q m sp.1).2 = true then R.rd (slotV q m sp.1).1 sp.2 else []) = brd q m R sp := rfl
  rw [hbr]
  refine wps_bind (ref04_Decode_spec (s := y.1) (b := brd q m R sp) (Ent.trans (ent_pick1 (A := own 1 y.1 (bv (brd q m R sp)))) (own_rsl _ _ _)) (brd_byts hby sp) (by have := brd_len (q := q) (m := m) hg sp; omega)) fun z => ?_
  simp only [← star_assoc]
  refine wps_prP fun hz => ?_
  rw [hz]
  generalize headOf (brd q m R sp) = hd at *
  refine wps_alloc fun x13 => ?_
  refine wps_stA (by simp) (by simp [Value.oneCell']) ?_
  rw [hy']
  refine wps_val (v := decide (brdE q m R sp ≠ 0 ∨ (st.1 ≥ 0 ∧ hd.1 ≠ st.1))) ?_ ?_
  · refine wps_ite (fun h => wps_pure (ent_prr ?_ (Ent.refl _))) (fun h => ?_)
    · have h' : brdE q m R sp ≠ 0 := by simpa using h
      exact (decide_eq_true (.inl h')).symm
    · have h' : brdE q m R sp = 0 := by simpa using h
      refine wps_val (v := decide (st.1 ≥ 0 ∧ hd.1 ≠ st.1)) ?_ (wps_pure (ent_prr ?_ (Ent.refl _)))
      · refine wps_ite (fun h1 => ?_) (fun h1 => wps_pure (ent_prr ?_ (Ent.refl _)))
        · refine wps_ld hd.1 (by rfl) (wps_pure (ent_prr ?_ (Ent.refl _)))
          have h1' : st.1 ≥ 0 := of_decide_eq_true h1
          by_cases he : hd.1 = st.1 <;> simp [h1', he]
        · have h1' : ¬ st.1 ≥ 0 := fun h2 => h1 (decide_eq_true h2)
          exact (decide_eq_false (fun h2 => h1' h2.1)).symm
      · exact decide_eq_decide.2 ⟨.inr, fun h2 => h2.elim (fun h3 => absurd h' h3) id⟩
  by_cases hcond : brdE q m R sp ≠ 0 ∨ (st.1 ≥ 0 ∧ hd.1 ≠ st.1)
  · rw [if_pos hcond] at hw
    rw [← hw] at hsw
    have hsw2 : sWhole q m R seg = (0, false, 0) := by
      rw [hsw]
      split <;> rfl
    rw [hsw2]
    refine wps_ite (fun _ => wps_mapR (wps_pure ?_)) (fun h => absurd (decide_eq_true hcond) h)
    show Ent _ (pr ((0, false, (0 : Int)) = _) * _ * _)
    repeat first | (with_reducible refine ent_pick ?_) | (refine ent_prq ?_)
    all_goals first | rfl | trivial
  · rw [if_neg hcond] at hw
    refine wps_ite (fun h => absurd (of_decide_eq_true h) hcond) (fun _ => ?_)
    refine wps_ld hd.1 (by rfl) (wps_pure ?_)
    refine ent_prr (by dsimp only; rw [range_add1 rfl (by omega)]; omega) (ent_ex (i + 1) ?_)
    repeat first | (with_reducible refine ent_pick ?_) | (refine ent_prq ?_)
    all_goals first | exact ⟨range_add1 rfl (by omega), by omega, hw⟩ | trivial
end Go.Proofs.Ytldmeimebebllaa
namespace Go.Proofs.Ytldmeimebebllaa
open Go.Mo
set_option linter.unusedVariables false
variable {g : Fr} {cv : CV}
theorem ref08_Look_spec (yb mb : Nat) (q m : G3) (hq : RightB q = true) (R : Rk) (hby : R.bys) (l1 l2 l3 l4 : Slc) :
    wps g (bnk yb mb q m * refQ mb R l1 l2 l3 l4) (ref08_Look (ptr yb)) (fun x => pr (x.2 = (lookX q m R).2) * bnk yb mb q m * refQ mb R l1 l2 l3 l4 * own 6 x.1 ((lookX q m R).1.flatMap encI6)) := by
  unfold ref08_Look
  simp only [Addr.add_add, Nat.reduceAdd]
  have hb := RightB.bnd hq
  have b2 := hb.d16
  have b3 := hb.r1
  have b4 := hb.r4
  have b5 := hb.s12
  have b6 := hb.s64
  refine wps_fact (Ent.trans (ent_right _ _) refQ_good) fun hg => ?_
  refine wps_nil ?_
  refine wps_ld (ptr mb) (by rfl) ?_
  refine wps_nil ?_
  refine wps_offQ (mb := mb) (R := R) (l1 := l1) (l2 := l2) (l3 := l3) (l4 := l4) ?_
  by_cases hoff : R.off = true
  · have hx : lookX q m R = ([], 0, 12) := by unfold lookX; rw [if_pos hoff]
    rw [hx, hoff]
    refine wps_ite (fun _ => wps_pure ?_) (fun h => absurd rfl h)
    refine ent_own0 ?_
    repeat (first
      | (with_reducible exact ent_drop)
      | (with_reducible refine ent_pick ?_)
      | (refine ent_pickC (by rfl) ?_)
      | (refine ent_pickS (by rfl) ?_)
      | (refine ent_pickM (by rfl) ?_)
      | (refine ent_prx ?_ ?_; rotate_left)
      | (refine ent_prq ?_))
    all_goals first | rfl | trivial
  have hx : lookX q m R = (infosL q m R q.2.2.toNat, mostL q m R q.2.2.toNat, 0) := by unfold lookX; rw [if_neg hoff]
  rw [hx]
  refine wps_ite (fun h => absurd h hoff) (fun _ => ?_)
  refine wps_alloc fun x27 => ?_
  refine wps_swap (A := pc x27 []) (B := own 6 ⟨some ⟨x27, 0, none⟩, 0, 0⟩ []) (pc_own rfl) ?_
  refine wps_loop (fun st : Slc × Int × Int => ex fun i : Nat => pr (st.2.2 = (i : Int) ∧ (i : Int) ≤ q.2.2 ∧ st.2.1 = mostL q m R i) * bnk yb mb q m * refQ mb R l1 l2 l3 l4 * own 6 st.1 ((infosL q m R i).flatMap encI6)) (fun st => (q.2.2 - st.2.2).toNat) ?_ fun st => ?_
  · refine ent_ex 0 ?_
    show Ent _ (_ * _ * _ * own 6 _ [])
    repeat (first
      | (with_reducible exact ent_drop)
      | (with_reducible refine ent_pick ?_)
      | (refine ent_pickC (by rfl) ?_)
      | (refine ent_pickS (by rfl) ?_)
      | (refine ent_pickM (by rfl) ?_)
      | (refine ent_prx ?_ ?_; rotate_left)
      | (refine ent_prq ?_))
    all_goals first | exact ⟨rfl, by omega, rfl⟩ | trivial
  refine wps_ex fun i => wps_prP fun ⟨hi, hin, ha⟩ => ?_
  refine wps_fact (Ent.trans (RdS.rd (z := 6) (s := st.1)) (rsl_len _ _ _)) fun hol => ?_
  rw [flat_len encI6_len] at hol
  have hil := infosL_len q m R i
  refine wps_nil ?_
  refine wps_ld q.2.2 (by rfl) ?_
  rw [hi]
  refine wps_ite (fun hc => ?_) (fun hc => ?_)
  rotate_left
  · have hie : q.2.2.toNat = i := by
      have : ¬ (i : Int) < q.2.2 := fun h => hc (decide_eq_true h)
      omega
    refine wps_mapR ?_
    refine wps_pure ?_
    rw [ha, hie]
    show Ent _ (pr (_ = _) * bnk yb mb q m * refQ mb R l1 l2 l3 l4 * own 6 st.1 _)
    repeat (first
      | (with_reducible exact ent_drop)
      | (with_reducible refine ent_pick ?_)
      | (refine ent_pickC (by rfl) ?_)
      | (refine ent_pickS (by rfl) ?_)
      | (refine ent_pickM (by rfl) ?_)
      | (refine ent_prx ?_ ?_; rotate_left)
      | (refine ent_prq ?_))
    all_goals first | rfl | trivial
  have hlt : (i : Int) < q.2.2 := of_decide_eq_true hc
  have h0 : 0 ≤ (i : Int) * q.2.1 := Int.mul_nonneg (by omega) (by omega)
  have h1 : (i : Int) * q.2.1 ≤ 64 * 4 := Int.mul_le_mul (by omega) b4 (by omega) (by omega)
  refine wps_loop (fun s2 : Int × Int => ex fun r : Nat => pr (s2.2 = (r : Int) ∧ (r : Int) ≤ q.2.1 ∧ s2.1 = topR q m R i (mostL q m R i) r) * bnk yb mb q m * refQ mb R l1 l2 l3 l4 * own 6 st.1 ((infosL q m R i).flatMap encI6)) (fun s2 => (q.2.1 - s2.2).toNat) ?_ fun s2 => ?_
  · refine ent_ex 0 ?_
    repeat (first
      | (with_reducible exact ent_drop)
      | (with_reducible refine ent_pick ?_)
      | (refine ent_pickC (by rfl) ?_)
      | (refine ent_pickS (by rfl) ?_)
      | (refine ent_pickM (by rfl) ?_)
      | (refine ent_prx ?_ ?_; rotate_left)
      | (refine ent_prq ?_))
    all_goals first | exact ⟨rfl, by omega, ha⟩ | trivial
  refine wps_ex fun r => wps_prP fun ⟨hr, hrn, hra⟩ => ?_
  refine wps_nil ?_
  refine wps_ld q.2.1 (by rfl) ?_
  refine wps_ite (fun hc2 => ?_) (fun hc2 => ?_)
  · have hrl : (r : Int) < q.2.1 := by have := of_decide_eq_true hc2; omega
    refine wps_nil ?_
    refine wps_ld q.2.1 (by rfl) ?_
    have hw : w64 (w64 (5 + w64 ((i : Int) * q.2.1)) + s2.2) = 5 + (i : Int) * q.2.1 + r := by
      rw [w64_id (n := (i : Int) * q.2.1) (by omega) (by omega), w64_id (n := 5 + (i : Int) * q.2.1) (by omega) (by omega), hr, w64_id (by omega) (by omega)]
    rw [hw]
    refine wps_call2 (A1 := bnk yb mb q m) (A2 := refQ mb R l1 l2 l3 l4) (fun _ => ref06_All_spec yb mb q m b2 R l1 l2 l3 l4 (5 + (i : Int) * q.2.1 + r)) fun t => ?_
    have hlen := all_len (m := m) (R := R) (s := 5 + (i : Int) * q.2.1 + r) b2
    have hal := all_bys (q := q) (m := m) hby hg (s := 5 + (i : Int) * q.2.1 + r)
    unfold rows
    refine wps_exP fun sl => wps_prP fun ⟨hsl, htl⟩ => ?_
    generalize hL : allL (5 + (i : Int) * q.2.1 + r) (disksL q m) R = L at *
    refine wps_pre (H' := bnk yb mb q m * refQ mb R l1 l2 l3 l4 * own 6 st.1 ((infosL q m R i).flatMap encI6) * seqp sl (fun i => L.getD i []) * own 1 t (sl.map vS)) ?_ ?_
    · simp only [← star_assoc]
      repeat (first
        | (with_reducible exact ent_drop)
        | (with_reducible refine ent_pick ?_)
        | (refine ent_pickC (by rfl) ?_)
        | (refine ent_pickS (by rfl) ?_)
        | (refine ent_pickM (by rfl) ?_)
        | (refine ent_prx ?_ ?_; rotate_left)
        | (refine ent_prq ?_))
    refine top_loop (H := bnk yb mb q m * refQ mb R l1 l2 l3 l4 * own 6 st.1 ((infosL q m R i).flatMap encI6) * seqp sl (fun i => L.getD i []) * own 1 t (sl.map vS)) (sl := sl) (l := L) (K := fun v => pureM (Sum.inl (v, w64 (s2.2 + 1)))) s2.1 (fun h1 h2 h3 => dec2 h1 h2 h3) (RdS.rd (z := 1) (s := t)) (Ent.trans (ent_left _ _) (ent_right _ _)) hsl htl hal (by omega) ?_
    refine wps_pure (ent_prr (by dsimp only; rw [range_add1 hr (by omega)]; omega) (ent_ex (r + 1) ?_))
    rw [hra]
    repeat (first
      | (with_reducible exact ent_drop)
      | (with_reducible refine ent_pick ?_)
      | (refine ent_pickC (by rfl) ?_)
      | (refine ent_pickS (by rfl) ?_)
      | (refine ent_pickM (by rfl) ?_)
      | (refine ent_prx ?_ ?_; rotate_left)
      | (refine ent_prq ?_))
    all_goals first | exact ⟨range_add1 hr (by omega), by omega, by rw [topR_snoc, hL]⟩ | trivial
  have hre : q.2.1.toNat = r := by
    have : ¬ s2.2 < q.2.1 := fun h => hc2 (decide_eq_true h)
    omega
  refine wps_mapR ?_
  rw [hra, ← hre, ← mostL_snoc]
  refine wps_call2 (A1 := bnk yb mb q m) (A2 := refQ mb R l1 l2 l3 l4) (fun _ => ref07_Whole_spec yb mb q m hq R hby l1 l2 l3 l4 i) fun w => ?_
  simp only [← star_assoc]
  refine wps_prP fun hw => ?_
  subst hw
  by_cases hok : (sWhole q m R i).2.1 = true
  rotate_left
  · have hno : (sWhole q m R i).2.1 = false := by simpa using hok
    have hlk : (lookI q m R i).2 = false := by unfold lookI; rw [if_neg hok]
    refine wps_ite (fun _ => ?_) (fun h => absurd (by rw [hno]; rfl) h)
    refine wps_pure (ent_prr (by dsimp only; rw [range_add1 rfl (by omega)]; omega) (ent_ex (i + 1) ?_))
    rw [infosL_no hlk]
    repeat (first
      | (with_reducible exact ent_drop)
      | (with_reducible refine ent_pick ?_)
      | (refine ent_pickC (by rfl) ?_)
      | (refine ent_pickS (by rfl) ?_)
      | (refine ent_pickM (by rfl) ?_)
      | (refine ent_prx ?_ ?_; rotate_left)
      | (refine ent_prq ?_))
    all_goals first | exact ⟨range_add1 rfl (by omega), by omega, rfl⟩ | trivial
  refine wps_ite (fun h => absurd h (by rw [hok]; decide)) (fun _ => ?_)
  refine wps_call2 (A1 := bnk yb mb q m) (A2 := refQ mb R l1 l2 l3 l4) (fun _ => ref07_Read_spec yb mb q m hq R hby l1 l2 l3 l4 i 0 (sWhole q m R i).1) fun y => ?_
  simp only [← star_assoc]
  refine wps_prP fun ⟨hy1, hy2, hy3⟩ => ?_
  obtain ⟨⟨y1, y2, t⟩, e⟩ := y
  dsimp only at hy1 hy2 hy3
  subst hy1 hy2 hy3
  have hrb := sRead_byts (q := q) (m := m) hby i 0 (sWhole q m R i).1
  have hl : ∀ rd, sRead q m R i 0 (sWhole q m R i).1 = rd → lookI q m R i = (((i : Int), (sWhole q m R i).1, (getP q rd.1.1 rd.1.2.1 rd.1.2.2).1), (getP q rd.1.1 rd.1.2.1 rd.1.2.2).2 && (rd.2 == 0)) := fun rd h => by
    unfold lookI; rw [if_pos hok, h]
  have hl := hl _ rfl
  generalize sRead q m R i 0 (sWhole q m R i).1 = rd at *
  generalize (sWhole q m R i).1 = wq at *
  dsimp only
  refine wps_alloc fun x17 => ?_
  refine wps_stA (by simp) (by simp [Value.oneCell']) ?_
  refine wps_regionH ?_
  refine wps_nil ?_
  refine wps_ldGI q.1 q.2.1 q.2.2 (by rfl) ?_
  refine wps_ldAI (enc := fun y : (Int × Int × Slc) => [(.int .i64 y.1), (.int .i64 y.2.1), (.slice y.2.2.base y.2.2.len y.2.2.cap)]) (rd.1.1, rd.1.2.1, t) (by rfl) ?_
  have hget : ∀ {H : HP} [h : RdS 1 t H (bv rd.1.2.2)], Val g H (ref08_GetSummary q (rd.1.1, rd.1.2.1, t)) (getP q rd.1.1 rd.1.2.1 rd.1.2.2) := fun {H} h => ref08_GetSummary_val q rd.1.1 rd.1.2.1 h.rd hrb.1 (by omega)
  generalize getP q rd.1.1 rd.1.2.1 rd.1.2.2 = P at *
  refine wps_both ?_ ?_
  · refine wps_stepV hget (wps_stepAlloc fun x19 => ?_)
    refine wps_stA (by simp) (by simp [Value.oneCell']) ?_
    refine wps_val (v := P.2 && (rd.2 == 0)) (wps_ite (fun h => wps_pure (ent_val (by rw [h]; simp))) (fun h => wps_pure (ent_val (by rw [show (rd.2 == 0) = false by simpa using h]; simp)))) ?_
    refine wps_ite (fun hyes => ?_) (fun hno => ?_)
    · refine wps_ldA (enc := fun y : S4 => [(.int .i64 y.1), (.int .i64 y.2.1), (.int .i64 y.2.2.1), (.int .i64 y.2.2.2)]) P.1 (by rfl) ?_
      have hlk : (lookI q m R i).2 = true := by rw [hl]; exact hyes
      refine wps_append1 6 rfl (by decide) rfl (PickS.eq (z := 6) (s := st.1)) (by simp [Value.oneCell']) (by omega) fun s' hs' => ?_
      refine wps_pure (ent_prr (by dsimp only; rw [range_add1 rfl (by omega)]; omega) (ent_ex (i + 1) ?_))
      rw [infosL_yes hlk, List.flatMap_append, hl]
      show Ent _ (_ * _ * _ * own 6 s' (_ ++ encI6 (((i : Int), wq, P.1) : I6)))
      repeat (first
        | (with_reducible exact ent_drop)
        | (with_reducible refine ent_pick ?_)
        | (refine ent_pickC (by rfl) ?_)
        | (refine ent_pickS (by rfl) ?_)
        | (refine ent_pickM (by rfl) ?_)
        | (refine ent_prx ?_ ?_; rotate_left)
        | (refine ent_prq ?_))
      all_goals first | exact ⟨range_add1 rfl (by omega), by omega, rfl⟩ | trivial
    · have hlk : (lookI q m R i).2 = false := by rw [hl]; simpa using hno
      refine wps_pure (ent_prr (by dsimp only; rw [range_add1 rfl (by omega)]; omega) (ent_ex (i + 1) ?_))
      rw [infosL_no hlk]
      repeat (first
        | (with_reducible exact ent_drop)
        | (with_reducible refine ent_pick ?_)
        | (refine ent_pickC (by rfl) ?_)
        | (refine ent_pickS (by rfl) ?_)
        | (refine ent_pickM (by rfl) ?_)
        | (refine ent_prx ?_ ?_; rotate_left)
        | (refine ent_prq ?_))
      all_goals first | exact ⟨range_add1 rfl (by omega), by omega, rfl⟩ | trivial
  · refine wps_stepAlloc fun x19 => wps_stepV hget ?_
    refine wps_stA (by simp) (by simp [Value.oneCell']) ?_
    refine wps_val (v := P.2 && (rd.2 == 0)) (wps_ite (fun h => wps_pure (ent_val (by rw [h]; simp))) (fun h => wps_pure (ent_val (by rw [show (rd.2 == 0) = false by simpa using h]; simp)))) ?_
    refine wps_ite (fun hyes => ?_) (fun hno => ?_)
    · refine wps_ldA (enc := fun y : S4 => [(.int .i64 y.1), (.int .i64 y.2.1), (.int .i64 y.2.2.1), (.int .i64 y.2.2.2)]) P.1 (by rfl) ?_
      have hlk : (lookI q m R i).2 = true := by rw [hl]; exact hyes
      refine wps_append1 6 rfl (by decide) rfl (PickS.eq (z := 6) (s := st.1)) (by simp [Value.oneCell']) (by omega) fun s' hs' => ?_
      refine wps_pure (ent_prr (by dsimp only; rw [range_add1 rfl (by omega)]; omega) (ent_ex (i + 1) ?_))
      rw [infosL_yes hlk, List.flatMap_append, hl]
      show Ent _ (_ * _ * _ * own 6 s' (_ ++ encI6 (((i : Int), wq, P.1) : I6)))
      repeat (first
        | (with_reducible exact ent_drop)
        | (with_reducible refine ent_pick ?_)
        | (refine ent_pickC (by rfl) ?_)
        | (refine ent_pickS (by rfl) ?_)
        | (refine ent_pickM (by rfl) ?_)
        | (refine ent_prx ?_ ?_; rotate_left)
        | (refine ent_prq ?_))
      all_goals first | exact ⟨range_add1 rfl (by omega), by omega, rfl⟩ | trivial
    · have hlk : (lookI q m R i).2 = false := by rw [hl]; simpa using hno
      refine wps_pure (ent_prr (by dsimp only; rw [range_add1 rfl (by omega)]; omega) (ent_ex (i + 1) ?_))
      rw [infosL_no hlk]
      repeat (first
        | (with_reducible exact ent_drop)
        | (with_reducible refine ent_pick ?_)
        | (refine ent_pickC (by rfl) ?_)
        | (refine ent_pickS (by rfl) ?_)
        | (refine ent_pickM (by rfl) ?_)
        | (refine ent_prx ?_ ?_; rotate_left)
        | (refine ent_prq ?_))
      all_goals first | exact ⟨range_add1 rfl (by omega), by omega, rfl⟩ | trivial
end Go.Proofs.Ytldmeimebebllaa
namespace Go.Proofs.Ytldmeimebebllaa
open Go.Mo
set_option linter.unusedVariables false
variable {g : Fr} {cv : CV}
def Quiet (R : Rk) (j : Nat) (f : Nat → List Int) : Prop := (∀ s, (R.dk j).cached s = none) ∧ ∀ s : Nat, (R.dk j).lasts s = f s
theorem Quiet.ticked {R : Rk} {j : Nat} {f : Nat → List Int} (h : Quiet R j f) : Quiet R.ticked j f := by
  unfold Rk.ticked
  split
  · exact h
  · exact h
theorem Quiet.gated {R : Rk} {j : Nat} {f : Nat → List Int} (h : Quiet R j f) (k s size : Int) : Quiet (R.gated k s size) j f := by
  unfold Rk.gated
  split
  · exact h
  · exact h.ticked
theorem Quiet.flush {R : Rk} {j : Nat} {f : Nat → List Int} (h : Quiet R j f) (k : Int) : Quiet (R.flush k) j f := by
  have hg := h.gated k 0 64
  unfold Rk.flush
  split
  · by_cases hj : j = k.toNat
    · subst hj
      refine ⟨fun s => ?_, fun s => ?_⟩
      · simp [Rk.setD, Dk.clean]
      · simp [Rk.setD, Dk.clean, Dk.flushed, hg.1, hg.2]
    · refine ⟨fun s => ?_, fun s => ?_⟩
      · simp only [Rk.setD, if_neg hj]; exact hg.1 s
      · simp only [Rk.setD, if_neg hj]; exact hg.2 s
  · exact hg
theorem Quiet.flushL {j : Nat} {f : Nat → List Int} : ∀ (xs : List Int) {R : Rk}, Quiet R j f → Quiet (flushL xs R).1 j f
  | [], _, h => h
  | d :: xs, R, h => by
    unfold Proofs.Ytldmeimebebllaa.flushL
    split
    · exact h.flush d
    · exact Quiet.flushL xs (h.flush d)
theorem Quiet.doom {R : Rk} {j : Nat} {f : Nat → List Int} (h : Quiet R j f) (k c : Int) : Quiet (R.doom k c) j f := by
  unfold Rk.doom
  split
  · exact h
  · by_cases hj : j = k.toNat
    · subst hj
      refine ⟨fun s => ?_, fun s => ?_⟩
      · simp [Rk.setD, h.1]
      · simp [Rk.setD, h.2]
    · refine ⟨fun s => ?_, fun s => ?_⟩
      · simp only [Rk.setD, if_neg hj]; exact h.1 s
      · simp only [Rk.setD, if_neg hj]; exact h.2 s
theorem oth_of {q m : G3} {R : Rk} {seg r i : Nat} {seq : Int} {l : List BlkA} (E : EncD seq l) (hr : r < 3) (hi : i < 3) (hg : ∀ j, j < 3 → j ≠ i → goodV Q3 m R (spt seg r j) seq = (datAt Q3 seq l r j, true)) :
    othV Q3 m R (spt seg r i) seq (spotsL Q3 seg r) = (datAt Q3 seq l r i, true) := by
  have hs := spotsL_small seg r
  rw [show spotsL Q3 seg r = [spt seg r 0, spt seg r 1, spt seg r 2] from hs]
  have h0 := E.dat (r := r) (i := 0) hr (by decide)
  have h1 := E.dat (r := r) (i := 1) hr (by decide)
  have e0 : datAt Q3 seq l r 0 = encAt seq l (r * 2) := dat_blk (by decide)
  have e1 : datAt Q3 seq l r 1 = encAt seq l (r * 2 + 1) := dat_blk (by decide)
  have ht : (encAt seq l (r * 2 + 1)).take 4 = (encAt seq l (r * 2)).take 4 := by rw [encAt_take, encAt_take]
  have l0 : (encAt seq l (r * 2)).length = 64 := e0 ▸ h0.len
  have l1 : (encAt seq l (r * 2 + 1)).length = 64 := e1 ▸ h1.len
  have hp := dat_par E hr
  unfold othV
  have hi' : i = 0 ∨ i = 1 ∨ i = 2 := by omega
  rcases hi' with rfl | rfl | rfl
  · have n1 := spt_ne (seg := seg) hr (i := 1) (j := 0) (by decide) (by decide) (by decide)
    have n2 := spt_ne (seg := seg) hr (i := 2) (j := 0) (by decide) (by decide) (by decide)
    simp only [othL, if_true, if_neg n1, if_neg n2, hg 1 (by decide) (by decide), hg 2 (by decide) (by decide), Option.map_some]
    rw [e1, hp, e0, lost1 l0 l1 ht (E.by _)]; rfl
  · have n1 := spt_ne (seg := seg) hr (i := 0) (j := 1) (by decide) (by decide) (by decide)
    have n2 := spt_ne (seg := seg) hr (i := 2) (j := 1) (by decide) (by decide) (by decide)
    simp only [othL, if_true, if_neg n1, if_neg n2, hg 0 (by decide) (by decide), hg 2 (by decide) (by decide), Option.map_some]
    rw [e0, hp, e1, lost2 l0 l1 ht (E.by _)]; rfl
  · have n1 := spt_ne (seg := seg) hr (i := 0) (j := 2) (by decide) (by decide) (by decide)
    have n2 := spt_ne (seg := seg) hr (i := 1) (j := 2) (by decide) (by decide) (by decide)
    simp only [othL, if_true, if_neg n1, if_neg n2, hg 0 (by decide) (by decide), hg 1 (by decide) (by decide), Option.map_some]
    rw [e0, e1, parL2 l0 l1 ht, hp]; rfl
theorem there0 {R : Rk} {seg : Nat} (hs : seg < 12) (ho : R.off = false) : thereE Q3 R seg = 0 := by
  unfold thereE
  rw [if_neg (by show ¬ ¬ (0 ≤ (seg : Int) ∧ (seg : Int) < 12); omega), if_neg (by simp [ho])]
end Go.Proofs.Ytldmeimebebllaa
namespace Go.Proofs.Ytldmeimebebllaa
open Go.Mo
set_option linter.unusedVariables false
variable {g : Fr} {cv : CV}
abbrev m1 (slot : Nat) : G3 := (1, (slot : Int), 1)
theorem slot1 {slot i : Nat} (hi : i < 3) : slotV Q3 (m1 slot) (i : Int) = (if slot = i then 3 else (i : Int), true) := by
  have h := slotV_in (m1 slot) i hi
  refine Prod.ext ?_ h.1
  rw [show (slotV Q3 (m1 slot) (i : Int)).1 = _ from h.2]
  by_cases e : slot = i
  · rw [if_pos e, if_pos]
    exact ⟨by simp, by show (slot : Int) = i; omega⟩
  · rw [if_neg e, if_neg]
    rintro ⟨_, h2⟩
    have h2 : (slot : Int) = i := h2
    omega
structure Refi (R : Rk) (slot seg : Nat) (seq : Int) (l : List BlkA) (k : Nat) : Prop where
  set : Settled R (fun j => decide (j = slot))
  n : R.n = 4
  ns : R.ns = 41
  rest : ∀ r i, r < 3 → i < 3 → (spt seg r i).1 ≠ (slot : Int) → (R.dk (spt seg r i).1.toNat).sec (spt seg r i).2 = datAt Q3 seq l r i
  done : ∀ r i, r < k → r < 3 → i < 3 → (spt seg r i).1 = (slot : Int) → (R.dk 3).sec (spt seg r i).2 = datAt Q3 seq l r i
  todo : ∀ r, k ≤ r → r < 3 → (R.dk 3).sec ((5 + (seg * 3 + r) : Nat) : Int) = noughts
  enc : EncD seq l
  s12 : seg < 12
  fit : fitsN 4 seq
  pos : 1 ≤ seq
  s3 : slot < 3
section
variable {R : Rk} {slot seg : Nat} {seq : Int} {l : List BlkA} {k : Nat}
theorem Refi.brd (h : Refi R slot seg seq l k) {r i : Nat} (hr : r < 3) (hi : i < 3) :
    goodV Q3 (m1 slot) R (spt seg r i) seq = ((R.dk (if (spt seg r i).1 = (slot : Int) then 3 else (spt seg r i).1.toNat)).sec (spt seg r i).2, (headOf ((R.dk (if (spt seg r i).1 = (slot : Int) then 3 else (spt seg r i).1.toNat)).sec (spt seg r i).2)).1 == seq) := by
  have hrg := spt_rng h.s12 hr hi
  have hb := sec_brd (m := m1 slot) h.set h.n h.ns (s := spt seg r i) hrg.1 (by omega)
  obtain ⟨j, hj⟩ : ∃ j : Nat, (spt seg r i).1 = (j : Int) := ⟨(spt seg r i).1.toNat, by omega⟩
  have hj3 : j < 3 := by omega
  have hs3 := h.s3
  have hsl : (slotV Q3 (m1 slot) (spt seg r i).1).1.toNat = if (spt seg r i).1 = (slot : Int) then 3 else (spt seg r i).1.toNat := by
    rw [hj, slot1 hj3]
    by_cases e : slot = j
    · rw [if_pos e, if_pos (by omega)]; rfl
    · rw [if_neg e, if_neg (by omega)]
  rw [hsl] at hb
  have hf : decide ((if (spt seg r i).1 = (slot : Int) then 3 else (spt seg r i).1.toNat) = slot) = false := by
    refine decide_eq_false ?_
    split <;> omega
  simp only [hf] at hb
  unfold goodV
  rw [hb.1, if_pos (by decide), hb.2 trivial]
theorem Refi.good_rest (h : Refi R slot seg seq l k) {r i : Nat} (hr : r < 3) (hi : i < 3) (hne : (spt seg r i).1 ≠ (slot : Int)) : goodV Q3 (m1 slot) R (spt seg r i) seq = (datAt Q3 seq l r i, true) := by
  rw [h.brd hr hi, if_neg hne, h.rest r i hr hi hne]
  simp [(h.enc.dat hr hi).head h.fit]
theorem Refi.good_todo (h : Refi R slot seg seq l k) {r i : Nat} (hr : r < 3) (hi : i < 3) (hk : k ≤ r) (he : (spt seg r i).1 = (slot : Int)) : (goodV Q3 (m1 slot) R (spt seg r i) seq).2 = false := by
  rw [h.brd hr hi, if_pos he, show (spt seg r i).2 = ((5 + (seg * 3 + r) : Nat) : Int) from rfl, h.todo r hk hr]
  have hh : (headOf noughts).1 = 0 := by decide
  have := h.pos
  show ((headOf noughts).1 == seq) = false
  rw [hh]
  simp; omega
theorem slotSp3 {slot seg r : Nat} (hs : slot < 3) : ∃ i, i < 3 ∧ slotSp Q3 seg r (slot : Int) = spt seg r i ∧ (spt seg r i).1 = (slot : Int) := by
  have h1 : (3 : Int) ≤ Q3.1 := by decide
  have h2 : (0 : Int) ≤ (slot : Int) ∧ (slot : Int) < Q3.1 := by show (0 : Int) ≤ (slot : Int) ∧ (slot : Int) < 3; omega
  have hg := slotSp_get (q := Q3) (seg := seg) (r := r) h1 h2
  have hf := slotSp_fst (q := Q3) (seg := seg) (r := r) h1 h2
  have hm := List.mem_of_getElem? hg
  rw [show spotsL Q3 seg r = [spt seg r 0, spt seg r 1, spt seg r 2] from spotsL_small seg r] at hm
  simp only [List.mem_cons, List.not_mem_nil, or_false] at hm
  rcases hm with hm | hm | hm <;> rw [hm] at hf ⊢
  · exact ⟨0, by decide, rfl, hf⟩
  · exact ⟨1, by decide, rfl, hf⟩
  · exact ⟨2, by decide, rfl, hf⟩
theorem Settled.put {R : Rk} {f : Nat → Bool} (h : Settled R f) (k s : Int) (b : List Int) : Settled (R.put k s b) f := by
  refine ⟨h.off, h.count, fun j => ?_, fun j => ?_⟩
  · simp only [Rk.put]; split
    · rename_i e; subst e; exact h.failed _
    · exact h.failed j
  · simp only [Rk.put]; split
    · rename_i e; subst e; exact h.counts _
    · exact h.counts j
theorem spt_slot_only {seg r i j : Nat} (hr : r < 3) (hi : i < 3) (hj : j < 3) (h : (spt seg r i).1 = (spt seg r j).1) : i = j := (spt_inj hr hr hi hj (Prod.ext h rfl)).2.2
theorem Refi.step (h : Refi R slot seg seq l k) (hk : k < 3) : ∃ R', (∀ rs, refL Q3 (m1 slot) seg slot seq (k :: rs) R = refL Q3 (m1 slot) seg slot seq rs R') ∧ Refi R' slot seg seq l (k + 1) ∧ (∀ j, j ≠ 3 → R'.dk j = R.dk j) ∧ (R.bys → R'.bys) := by
  obtain ⟨i, hi, hsp, hf⟩ := slotSp3 (slot := slot) (seg := seg) (r := k) h.s3
  have hd := h.enc.dat hk hi
  have hs3 := h.s3
  have hrg := spt_rng h.s12 hk hi
  have hot : othV Q3 (m1 slot) R (spt seg k i) seq (spotsL Q3 seg k) = (datAt Q3 seq l k i, true) := oth_of (q := Q3) h.enc hk hi fun j hj hne => h.good_rest hk hj (by
    rw [← hf]; exact fun e => hne (spt_slot_only hk hj hi e))
  have hsl : slotV Q3 (m1 slot) (spt seg k i).1 = (3, true) := by rw [hf, slot1 h.s3, if_pos rfl]
  have hg0 : R.gate 3 (spt seg k i).2 64 = 0 := by
    rw [h.set.gate (by rw [h.n]; omega) (by rw [h.ns]; omega)]
    rw [show decide ((3 : Int).toNat = slot) = false from decide_eq_false (by show ¬ 3 = slot; omega)]; rfl
  have hl : ((datAt Q3 seq l k i).length : Int) = 64 := by rw [hd.len]; rfl
  have hg : bgate Q3 (m1 slot) R (spt seg k i) (datAt Q3 seq l k i) = 0 := by
    unfold bgate; rw [hsl, if_pos rfl, hl]; exact hg0
  have hb : bwrite Q3 (m1 slot) R (spt seg k i) (datAt Q3 seq l k i) = R.put 3 (spt seg k i).2 (datAt Q3 seq l k i) := by
    unfold bwrite; rw [hsl, if_pos rfl]
    unfold Rk.write
    rw [hl, hg0, if_pos rfl, gated_in h.set.off (by rw [h.n]; omega) (by rw [h.ns]; omega), h.set.tick]
  have hlk : lackB Q3 (m1 slot) R seg slot seq k = true := by
    unfold lackB; rw [hsp, h.good_todo hk hi (Nat.le_refl _) hf]; rfl
  refine ⟨R.put 3 (spt seg k i).2 (datAt Q3 seq l k i), fun rs => ?_, ⟨h.set.put _ _ _, h.n, h.ns, fun r j hr hj hne => ?_, fun r j hrk hr hj he => ?_, fun r hrk hr => ?_, h.enc, h.s12, h.fit, h.pos, h.s3⟩, fun j hj => ?_, fun hby => hby.put hd.byts⟩
  · rw [refL, if_pos hlk, hsp, hot, if_neg (by simp)]
    dsimp only
    rw [hg, hb, if_neg (by decide)]
  · have hr2 := (spt_rng h.s12 hr hj).1
    rw [put_sec, if_neg (by rintro ⟨e, _⟩; have : (3 : Int).toNat = 3 := rfl; omega)]
    exact h.rest r j hr hj hne
  · rw [put_sec]
    by_cases hrk2 : r = k
    · subst hrk2
      have : j = i := spt_slot_only hr hj hi (he.trans hf.symm)
      subst this
      rw [if_pos ⟨rfl, rfl⟩]
    · rw [if_neg]
      · exact h.done r j (by omega) hr hj he
      · rintro ⟨_, e⟩
        have e1 : (spt seg r j).2 = ((5 + (seg * 3 + r) : Nat) : Int) := rfl
        have e2 : (spt seg k i).2 = ((5 + (seg * 3 + k) : Nat) : Int) := rfl
        rw [e1, e2] at e
        omega
  · rw [put_sec, if_neg]
    · exact h.todo r (by omega) hr
    · rintro ⟨_, e⟩
      have e2 : (spt seg k i).2 = ((5 + (seg * 3 + k) : Nat) : Int) := rfl
      rw [e2] at e
      omega
  · simp only [Rk.put]
    rw [if_neg (by show ¬ j = 3; exact hj)]
theorem Refi.all (h : Refi R slot seg seq l 0) : ∃ R', sRefill Q3 (m1 slot) R seg slot seq = (R', 0) ∧ Refi R' slot seg seq l 3 ∧ (∀ j, j ≠ 3 → R'.dk j = R.dk j) ∧ (R.bys → R'.bys) := by
  obtain ⟨Ra, a1, a2, a3, a4⟩ := h.step (by decide)
  obtain ⟨Rb, b1, b2, b3, b4⟩ := a2.step (by decide)
  obtain ⟨Rc, c1, c2, c3, c4⟩ := b2.step (by decide)
  refine ⟨Rc, ?_, c2, fun j hj => (c3 j hj).trans ((b3 j hj).trans (a3 j hj)), fun hb => c4 (b4 (a4 hb))⟩
  have hs3 := h.s3
  have ht : slottedE Q3 R seg slot = 0 := by
    unfold slottedE
    rw [if_neg (by show ¬ ¬ (0 ≤ (slot : Int) ∧ (slot : Int) < 3); omega), there0 h.s12 h.set.off]
  unfold sRefill
  rw [if_neg (by simp [ht]), show List.range Q3.2.1.toNat = [0, 1, 2] from rfl, a1, b1, c1]
  rfl
end
end Go.Proofs.Ytldmeimebebllaa

namespace Go.Proofs.Ytldmeimebebllaa
open Go.Mo
set_option linter.unusedVariables false
variable {g : Fr} {cv : CV}
structure Power (R : Rk) (c : Int) : Prop where
  off : R.off = false
  count : R.count = c
  failed : ∀ j, (R.dk j).failed = false
  counts : ∀ j, (R.dk j).count = -1
theorem Power.tick {R : Rk} {c : Int} (h : Power R c) (hc : 0 < c ∧ c < 9223372036854775808) : R.ticked = { R with count := c - 1 } := by
  have hdk : (fun j => (R.dk j).tick) = R.dk := by
    funext j
    have : (R.dk j).tick = R.dk j := tickD (h.counts j)
    exact this
  have hm : maxI (w64 (R.count - 1)) (-1) = c - 1 := by
    rw [h.count, w64_id (by omega) (by omega)]
    unfold maxI
    split <;> omega
  have h0 : ¬ R.count = 0 := by rw [h.count]; omega
  simp only [Rk.ticked, if_neg h0, hdk, hm]
theorem Power.write {R : Rk} {c : Int} (h : Power R c) (hc : 0 ≤ c ∧ c < 9223372036854775808) {k s : Int} {b : List Int} (hk : 0 ≤ k ∧ k < R.n) (hs : 0 ≤ s ∧ s < R.ns) (hb : b.length = 64) :
    if c = 0 then R.gate k s b.length = 12 ∧ R.write k s b = { R with off := true } else R.gate k s b.length = 0 ∧ R.write k s b = ({ R with count := c - 1 } : Rk).put k s b ∧ Power (({ R with count := c - 1 } : Rk).put k s b) (c - 1) := by
  have hr : ¬ (k < 0 ∨ k ≥ R.n ∨ s < 0 ∨ s ≥ R.ns) := by omega
  have hl : (b.length : Int) = 64 := by rw [hb]; rfl
  rw [hl]
  by_cases h0 : c = 0
  · rw [if_pos h0]
    have hg : R.gate k s 64 = 12 := by
      unfold Rk.gate
      rw [if_neg (by simp [h.off]), if_neg hr, if_neg (by omega), if_pos (by rw [h.count]; exact h0)]
    refine ⟨hg, ?_⟩
    unfold Rk.write
    rw [hl, hg, if_neg (by decide), gated_in h.off hk hs]
    unfold Rk.ticked
    rw [if_pos (by rw [h.count]; exact h0)]
  · rw [if_neg h0]
    have ht := h.tick ⟨by omega, hc.2⟩
    have hg : R.gate k s 64 = 0 := by
      unfold Rk.gate
      rw [if_neg (by simp [h.off]), if_neg hr, if_neg (by omega), if_neg (by rw [h.count]; exact h0), ht, if_neg (by simp [h.failed])]
    refine ⟨hg, ?_, h.off, rfl, fun j => ?_, fun j => ?_⟩
    · unfold Rk.write
      rw [hl, hg, if_pos rfl, gated_in h.off hk hs, ht]
    · simp only [Rk.put]; split <;> exact h.failed _
    · simp only [Rk.put]; split <;> exact h.counts _
def hd2 (W : Nat → Nat → Bool) (r i : Nat) : Int := if W r i then 6 else 5
end Go.Proofs.Ytldmeimebebllaa
namespace Go.Proofs.Ytldmeimebebllaa
open Go.Mo
set_option linter.unusedVariables false
variable {g : Fr} {cv : CV}
structure CallS where
  what : Int
  seg : Int
  k : Int
  seq : Int
  bs : Slc
  bl : List BlkA
  ds : Slc
  data : List Int
  mem : G3
def CallS.cells (c : CallS) : List Value := [.int .i64 c.what, .int .i64 c.seg, .int .i64 c.k, .int .i64 c.seq, .slice c.bs.base c.bs.len c.bs.cap, .slice c.ds.base c.ds.len c.ds.cap, .int .i64 c.mem.1, .int .i64 c.mem.2.1, .int .i64 c.mem.2.2]
def CallS.t (c : CallS) : Int × Int × Int × Int × Slc × Slc × Int × Int × Int := (c.what, c.seg, c.k, c.seq, c.bs, c.ds, c.mem.1, c.mem.2.1, c.mem.2.2)
structure CallS.ok (c : CallS) : Prop where
  seq : c.seq < 9223372036854775808
  len : c.data.length ≤ 140737488355328
  byts : Byts c.data
  many : c.bl.length ≤ 140737488355328
end Go.Proofs.Ytldmeimebebllaa

namespace Go.Proofs.Ytldmeimebebllaa
open Go.Mo
set_option linter.unusedVariables false
variable {g : Fr} {cv : CV}
def rowsP (s : Slc) (l : List (Slc × List Int)) : HP := pr (∀ x ∈ l, Byts x.2 ∧ x.2.length ≤ 140737488355328) * rsl 1 s (l.map fun x => vS x.1) * al fun x : Slc × List Int => imp (x ∈ l) (byt x.1 x.2)
theorem rowsP_ok (s : Slc) (l : List (Slc × List Int)) : Ent (rowsP s l) (pr (∀ x ∈ l, Byts x.2 ∧ x.2.length ≤ 140737488355328)) := Ent.trans (ent_left _ _) (ent_left _ _)
theorem rowsP_rsl (s : Slc) (l : List (Slc × List Int)) : Ent (rowsP s l) (rsl 1 s (l.map fun x => vS x.1)) := Ent.trans (ent_left _ _) (ent_right _ _)
theorem rowsP_get {s : Slc} {l : List (Slc × List Int)} {x : Slc × List Int} (h : x ∈ l) : Ent (rowsP s l) (byt x.1 x.2) := Ent.trans (ent_right _ _) fun o ho => ho x h
theorem rowsP_len (s : Slc) (l : List (Slc × List Int)) : Ent (rowsP s l) (pr (l.length = s.len)) := Ent.trans (rowsP_rsl s l) (Ent.trans (rsl_len _ _ _) fun o ho => by
  have h : (l.map fun x => vS x.1).length = s.len * 1 := ho
  show l.length = s.len
  simpa using h)
theorem ref00_Weigh_spec (s : Slc) (l : List (Slc × List Int)) : wps g (rowsP s l) (ref00_Weigh s 20000) (fun n => pr (n ≤ 20000 → l.length ≤ 20000 ∧ ∀ x ∈ l, x.2.length ≤ 20000) * rowsP s l) := by
  unfold ref00_Weigh
  refine wps_fact (rowsP_len s l) fun hl => wps_fact (rowsP_ok s l) fun hok => ?_
  refine wps_ite (fun h => wps_pure (ent_prr (fun h2 => ?_) (Ent.refl _))) (fun hc => ?_)
  · rw [w64_id (by omega) (by omega)] at h2; omega
  have hc : ¬ ((s.len : Nat) : Int) > 20000 := fun h => hc (decide_eq_true h)
  refine wps_loop (fun st : Int × Int => pr (∃ i : Nat, st.2 = (i : Int) ∧ i ≤ l.length ∧ 0 ≤ st.1 ∧ st.1 ≤ 140737488375328 ∧ (l.length : Int) ≤ st.1 ∧ ∀ j x, j < i → l[j]? = some x → (x.2.length : Int) ≤ st.1) * rowsP s l) (fun st => (l.length - st.2).toNat) (ent_prr ⟨0, rfl, by omega, by dsimp only; omega, by dsimp only; omega, by dsimp only; omega, fun j x hj => by omega⟩ (Ent.refl _)) fun st => ?_
  refine wps_pr fun ⟨i, hi, hin, h0, h1, hll, hall⟩ => ?_
  refine wps_val (v := decide (st.2 < ((s.len : Nat) : Int)) && decide (st.1 ≤ 20000)) (wps_ite (fun h => wps_pure (ent_val (by rw [h]; rfl))) (fun h => wps_pure (ent_val (by rw [show decide (st.2 < ((s.len : Nat) : Int)) = false by simpa using h]; rfl)))) ?_
  refine wps_ite (fun hc2 => ?_) (fun hc2 => ?_)
  · simp only [Bool.and_eq_true, decide_eq_true_eq] at hc2
    have hlt : i < l.length := by omega
    have hg := List.getElem?_eq_getElem hlt
    have hm := List.getElem_mem hlt
    generalize l[i] = x at hg hm
    refine wps_rd (enc := vS) i x.1 (rowsP_rsl s l) hi (by rw [List.getElem?_map, hg]; rfl) ?_
    refine wps_fact (len_of (rowsP_get hm)) fun hxl => ?_
    have hx := (hok x hm).2
    refine wps_pure (ent_prr (by dsimp only; rw [range_add1 hi (by omega)]; omega) (ent_prr ⟨i + 1, range_add1 hi (by omega), by omega, ?_⟩ (Ent.refl _)))
    dsimp only
    rw [w64_id (by omega) (by omega)]
    refine ⟨by omega, by omega, by omega, fun j y hj hy => ?_⟩
    by_cases hji : j = i
    · subst hji
      rw [hg] at hy
      rw [← Option.some.inj hy]; omega
    · have := hall j y (by omega) hy
      omega
  · refine wps_mapR (wps_pure (ent_prr (fun h2 => ⟨by omega, fun x hx => ?_⟩) (Ent.refl _)))
    have hie : i = l.length := by
      simp only [Bool.and_eq_true, decide_eq_true_eq, not_and] at hc2
      apply Classical.byContradiction
      intro hne
      exact hc2 (by omega) h2
    obtain ⟨j, hj⟩ := List.mem_iff_getElem?.1 hx
    have := hall j x (by have := (List.getElem?_eq_some_iff.1 hj).1; omega) hj
    omega
theorem secOf_byts {im : List Int} (h : Byts im) (k : Nat) : Byts (secOf im k) := fun n hn => by
  obtain ⟨i, _, rfl⟩ := List.mem_map.1 hn
  rw [List.getD]
  cases he : im[k * 64 + i]? with
  | none => simp
  | some y => exact h y (List.mem_of_getElem? he)
theorem load_bys {R : Rk} (h : R.bys) {im : List Int} (hi : Byts im) (k : Int) : (R.load k im).bys ∧ (R.load k im).n = R.n ∧ (R.load k im).ns = R.ns := by
  unfold Rk.load
  split
  · exact ⟨h, rfl, rfl⟩
  · refine ⟨fun j => ?_, rfl, rfl⟩
    simp only [Rk.setD]
    split
    · exact ⟨fun s => secOf_byts hi s, fun _ _ e => by simp [Dk.load] at e⟩
    · exact h j
theorem ref06_OpenQ (mb : Nat) (R : Rk) (l1 l2 l3 l4 : Slc) (q m : G3) : wps g (refQ mb R l1 l2 l3 l4) (ref06_Open (ptr mb) q m) (fun x =>
    if OpenB R.n R.ns q m then ex fun bb => pr (x = (ptr bb, 0)) * refQ mb R l1 l2 l3 l4 * bnk bb mb q m else pr (x = (none, 10)) * refQ mb R l1 l2 l3 l4) := by
  unfold refQ refX4
  refine wps_ex fun sl => wps_ex fun cl => wps_ex fun cs => ?_
  refine wps_post (ref06_Open_spec mb (R.n, R.ns, l1, l2, l3, l4, R.count, R.off) R.n R.ns q m rfl rfl) fun x => ?_
  by_cases h : OpenB R.n R.ns q m = true
  · simp only [h, if_true]
    refine ex_ent fun bb => ent_ex bb ?_
    refine Ent.starl ?_
    rw [star_assoc]
    refine Ent.starr ?_
    exact ent_ex sl (ent_ex cl (ent_ex cs (Ent.refl _)))
  · simp only [h, if_false, Bool.false_eq_true]
    rw [star_assoc]
    exact Ent.starr (ent_ex sl (ent_ex cl (ent_ex cs (Ent.refl _))))
end Go.Proofs.Ytldmeimebebllaa
namespace Go.Proofs.Ytldmeimebebllaa
open Go.Mo
set_option linter.unusedVariables false
variable {g : Fr} {cv : CV}
theorem eqL_same (l : List Int) : eqL l l = true := by unfold eqL; simp
end Go.Proofs.Ytldmeimebebllaa
namespace Go.Proofs.Ytldmeimebebllaa
open Go.Mo
set_option linter.unusedVariables false
variable {g : Fr} {cv : CV}
theorem Has.gt {H A H2 : HP} [h : Has H A H2] : Ent H A := by
  rw [h.eq]; exact ent_right _ _
theorem law08_ScanLooks_spec (hcd : DisksOk cv) (hcr : RowsOk cv) (m : G3) (s : Slc) (l : List (Slc × List Int)) (fail : Int) : wps g (rowsP s l) (law08_ScanLooks cv m s fail) (fun b => pr (b = true)) := by
  unfold law08_ScanLooks
  refine wps_fact (rowsP_ok s l) fun hok => wps_fact (rowsP_len s l) fun hl => ?_
  refine wps_alloc fun x3 => ?_
  refine wps_callE (fun _ => law08_alive_spec) fun a => ?_
  refine wps_prP fun ha => ?_
  subst ha
  refine wps_ite (fun h => absurd h (by decide)) (fun _ => ?_)
  refine wps_callH (A := rowsP s l) (fun _ => ref00_Weigh_spec s l) fun n => ?_
  simp only [← star_assoc]
  refine wps_prP fun hn => ?_
  refine wps_ite (fun _ => wps_pure (fun o ho => rfl)) (fun hc => ?_)
  have hn := hn (by have : ¬ n > 20000 := fun h => hc (decide_eq_true h); omega)
  obtain ⟨hll, hn⟩ := hn
  clear hc
  have hS : SectorsI Q3 = 41 := Small_sect
  refine wps_val law08_Small_val ?_
  refine wps_val (geo_Sectors_val _) ?_
  rw [hS]
  refine wps_callE (fun _ => device_New_spec 4 41) fun z => ?_
  rw [if_neg (show ¬ ((4 : Int) < 1 ∨ (4 : Int) > 17 ∨ (41 : Int) < 1 ∨ (41 : Int) > 4096) by decide), show Rk.new (Int.toNat 4) (Int.toNat 41) = Rk.new 4 41 from rfl]
  unfold rack
  refine wps_exP fun rb => ?_
  refine wps_prP fun hz => ?_
  subst hz
  refine wps_exP fun ds => wps_exP fun ps => ?_
  refine wps_val law08_Small_val ?_
  refine wps_val (geo_Sectors_val _) ?_
  rw [hS]
  refine wps_callE (fun _ => ref02_New_spec 4 41) fun v => ?_
  rw [if_neg (show ¬ ((4 : Int) < 1 ∨ (4 : Int) > 17 ∨ (41 : Int) < 1 ∨ (41 : Int) > 4096) by decide), show Rk.new (Int.toNat 4) (Int.toNat 41) = Rk.new 4 41 from rfl]
  refine wps_prP fun hv => ?_
  refine wps_alloc fun c10 => ?_
  refine wps_stA (by simp) (by simp [Value.oneCell']) ?_
  generalize hv1 : v.1 = u
  refine wps_pre (H' := rowsP s l * pc x3 [.int .i64 m.1, .int .i64 m.2.1, .int .i64 m.2.2] * rackP rb (Rk.new 4 41) ds ps * refQ c10 (Rk.new 4 41) u.2.2.1 u.2.2.2.1 u.2.2.2.2.1 u.2.2.2.2.2.1) ?_ ?_
  · simp only [← star_assoc]
    refine Ent.trans (B := rowsP s l * pc x3 [.int .i64 m.1, .int .i64 m.2.1, .int .i64 m.2.2] * rackP rb (Rk.new 4 41) ds ps * refV u (Rk.new 4 41) * pc c10 (refC u)) ?_ ?_
    · refine ent_pickC (by rfl) ?_
      repeat (first
        | (with_reducible exact ent_drop)
        | (with_reducible refine ent_pick ?_)
        | (refine ent_pickC (by rfl) ?_)
        | (refine ent_pickS (by rfl) ?_)
        | (refine ent_pickM (by rfl) ?_)
        | (refine ent_prx ?_ ?_; rotate_left)
        | (refine ent_prq ?_))
    · refine ent_join (A := refV u (Rk.new 4 41)) (B := pc c10 (refC u)) refQ_new ?_
      repeat (first
        | (with_reducible exact ent_drop)
        | (with_reducible refine ent_pick ?_)
        | (refine ent_pickC (by rfl) ?_)
        | (refine ent_pickS (by rfl) ?_)
        | (refine ent_pickM (by rfl) ?_)
        | (refine ent_prx ?_ ?_; rotate_left)
        | (refine ent_prq ?_))
  generalize u.2.2.1 = l1
  generalize u.2.2.2.1 = l2
  generalize u.2.2.2.2.1 = l3
  generalize u.2.2.2.2.2.1 = l4
  clear hv1 hv
  refine wps_val (v := false) (wps_ite (fun h => absurd h (by simp)) (fun _ => wps_pure (ent_val (by simp)))) ?_
  refine wps_ite (fun h => absurd h (by decide)) (fun _ => ?_)
  refine wps_loop (fun st => ex fun i : Nat => ex fun R : Rk => pr (st = (i : Int) ∧ i ≤ l.length ∧ R.bys ∧ R.n = 4 ∧ R.ns = 41) * rowsP s l * pc x3 [.int .i64 m.1, .int .i64 m.2.1, .int .i64 m.2.2] * rackP rb R ds ps * refQ c10 R l1 l2 l3 l4) (fun st => (l.length - st).toNat) ?_ fun st => ?_
  · refine ent_ex 0 (ent_ex (Rk.new 4 41) ?_)
    repeat (first
      | (with_reducible exact ent_drop)
      | (with_reducible refine ent_pick ?_)
      | (refine ent_pickC (by rfl) ?_)
      | (refine ent_pickS (by rfl) ?_)
      | (refine ent_pickM (by rfl) ?_)
      | (refine ent_prx ?_ ?_; rotate_left)
      | (refine ent_prq ?_))
    all_goals first | exact ⟨rfl, by omega, Rk.bys_new 4 41, rfl, rfl⟩ | trivial
  refine wps_ex fun i => wps_ex fun R => wps_prP fun ⟨hi, hin, hby, hRn, hRs⟩ => ?_
  refine wps_ite (fun hc => ?_) (fun hc => ?_)
  · have hlt : i < l.length := by have := of_decide_eq_true hc; omega
    have hg := List.getElem?_eq_getElem hlt
    have hm := List.getElem_mem hlt
    generalize l[i] = x at hg hm
    have hxl := hn x hm
    have hxb := (hok x hm).1
    refine wps_region (rowsP s l) Has.gt ?_
    have hx : (l.map fun x => vS x.1)[i]? = some (vS x.1) := by rw [List.getElem?_map, hg]; rfl
    refine wps_rdI (enc := vS) i x.1 (rowsP_rsl s l) Has.gt hi hx ?_
    refine wps_rdI (enc := vS) i x.1 (rowsP_rsl s l) Has.gt hi hx ?_
    refine wps_bind (R := fun e => (pc x3 [.int .i64 m.1, .int .i64 m.2.1, .int .i64 m.2.2] * refQ c10 R l1 l2 l3 l4) * (pr (e = if st < 0 ∨ st ≥ R.n then 11 else 0) * rowsP s l * rackP rb (R.load st x.2) ds ps)) (wps_stepI (wps_pre (H' := (pc x3 [.int .i64 m.1, .int .i64 m.2.1, .int .i64 m.2.2] * refQ c10 R l1 l2 l3 l4) * (rowsP s l * rackP rb R ds ps)) ?_ (wps_framel fun g2 => device_Rack_Load_spec rb R ds ps st x.1 x.2 (rowsP_get hm) (by omega))) fun e => Ent.trans (ent_right _ _) (Ent.trans (ent_left _ _) (ent_right _ _))) fun e1 => ?_
    · simp only [← star_assoc]
      repeat (first
        | (with_reducible exact ent_drop)
        | (with_reducible refine ent_pick ?_)
        | (refine ent_pickC (by rfl) ?_)
        | (refine ent_pickS (by rfl) ?_)
        | (refine ent_pickM (by rfl) ?_)
        | (refine ent_prx ?_ ?_; rotate_left)
        | (refine ent_prq ?_))
    simp only [← star_assoc]
    refine wps_prP fun he1 => ?_
    refine wps_bind (R := fun e => (pc x3 [.int .i64 m.1, .int .i64 m.2.1, .int .i64 m.2.2] * rackP rb (R.load st x.2) ds ps) * (pr (e = if st < 0 ∨ st ≥ R.n then 11 else 0) * rowsP s l * refQ c10 (R.load st x.2) l1 l2 l3 l4)) (wps_stepI (wps_pre (H' := (pc x3 [.int .i64 m.1, .int .i64 m.2.1, .int .i64 m.2.2] * rackP rb (R.load st x.2) ds ps) * (rowsP s l * refQ c10 R l1 l2 l3 l4)) ?_ (wps_framel fun g2 => ref02_Load_spec c10 R l1 l2 l3 l4 st x.1 x.2 (rowsP_get hm) (by omega))) fun e => Ent.trans (ent_right _ _) (Ent.trans (ent_left _ _) (ent_right _ _))) fun e2 => ?_
    · simp only [← star_assoc]
      repeat (first
        | (with_reducible exact ent_drop)
        | (with_reducible refine ent_pick ?_)
        | (refine ent_pickC (by rfl) ?_)
        | (refine ent_pickS (by rfl) ?_)
        | (refine ent_pickM (by rfl) ?_)
        | (refine ent_prx ?_ ?_; rotate_left)
        | (refine ent_prq ?_))
    simp only [← star_assoc]
    refine wps_prP fun he2 => ?_
    refine wps_ite (fun h => absurd h (by rw [he1, he2]; simp)) (fun _ => ?_)
    have hld := load_bys hby hxb st
    refine wps_pure (ent_prr (by rw [range_add1 hi (by omega)]; omega) (ent_ex (i + 1) (ent_ex (R.load st x.2) ?_)))
    repeat (first
      | (with_reducible exact ent_drop)
      | (with_reducible refine ent_pick ?_)
      | (refine ent_pickC (by rfl) ?_)
      | (refine ent_pickS (by rfl) ?_)
      | (refine ent_pickM (by rfl) ?_)
      | (refine ent_prx ?_ ?_; rotate_left)
      | (refine ent_prq ?_))
    all_goals first | exact ⟨range_add1 hi (by omega), by omega, hld.1, hld.2.1.trans hRn, hld.2.2.trans hRs⟩ | trivial
  refine wps_mapR ?_
  refine wps_callH (A := rackP rb R ds ps) (fun _ => device_Rack_Doom_spec rb R ds ps fail 0) fun e1 => ?_
  simp only [← star_assoc]
  refine wps_prP fun he1 => ?_
  refine wps_callH (A := refQ c10 R l1 l2 l3 l4) (fun _ => ref02_Doom_spec c10 R l1 l2 l3 l4 fail 0 (by decide)) fun e2 => ?_
  simp only [← star_assoc]
  refine wps_prP fun he2 => ?_
  refine wps_ite (fun h => absurd h (by rw [he1, he2]; simp)) (fun _ => ?_)
  have hdn : (R.doom fail 0).n = R.n ∧ (R.doom fail 0).ns = R.ns := ⟨(SameS.doom R fail 0).n, (SameS.doom R fail 0).ns⟩
  have hdb : (R.doom fail 0).bys := (SameS.doom R fail 0).bys hby
  rw [hRn, hRs] at hdn
  generalize R.doom fail 0 = R2 at *
  refine wps_regionH ?_
  refine wps_ldGI m.1 m.2.1 m.2.2 (by rfl) ?_
  refine wps_stepV law08_Small_val ?_
  refine wps_callH (A := rackP rb R2 ds ps) (fun _ => bank_Open_spec rb R2 ds ps Q3 m) fun y => ?_
  rw [hdn.1, hdn.2]
  by_cases ho : OpenB 4 41 Q3 m = true
  rotate_left
  · simp only [ho, if_false, Bool.false_eq_true]
    simp only [← star_assoc]
    refine wps_prP fun hy => ?_
    subst hy
    refine wps_regionH ?_
    refine wps_ldGI m.1 m.2.1 m.2.2 (by rfl) ?_
    refine wps_stepV law08_Small_val ?_
    refine wps_callH (A := refQ c10 R2 l1 l2 l3 l4) (fun _ => ref06_OpenQ c10 R2 l1 l2 l3 l4 Q3 m) fun w => ?_
    rw [hdn.1, hdn.2]
    simp only [ho, if_false, Bool.false_eq_true]
    simp only [← star_assoc]
    refine wps_prP fun hw => ?_
    subst hw
    refine wps_ite (fun h => absurd h (by simp)) (fun _ => ?_)
    refine wps_val (v := true) (wps_ite (fun _ => wps_pure (ent_val rfl)) (fun h => absurd (by simp) h)) ?_
    refine wps_val (v := true) (wps_ite (fun _ => wps_pure (ent_val rfl)) (fun h => absurd rfl h)) ?_
    exact wps_ite (fun _ => wps_pure (fun o ho => rfl)) (fun h => absurd rfl h)
  simp only [ho, if_true]
  refine wps_exP fun bb => ?_
  simp only [← star_assoc]
  refine wps_prP fun hy => ?_
  subst hy
  refine wps_regionH ?_
  refine wps_ldGI m.1 m.2.1 m.2.2 (by rfl) ?_
  refine wps_stepV law08_Small_val ?_
  refine wps_callH (A := refQ c10 R2 l1 l2 l3 l4) (fun _ => ref06_OpenQ c10 R2 l1 l2 l3 l4 Q3 m) fun w => ?_
  rw [hdn.1, hdn.2]
  simp only [ho, if_true]
  refine wps_exP fun yb => ?_
  simp only [← star_assoc]
  refine wps_prP fun hw => ?_
  subst hw
  refine wps_ite (fun h => absurd h (by simp)) (fun _ => ?_)
  refine wps_val (v := false) (wps_ite (fun h => absurd h (by simp)) (fun _ => wps_pure (ent_val (by simp)))) ?_
  refine wps_val (v := false) (wps_ite (fun h => absurd h (by decide)) (fun _ => wps_pure (ent_val (by simp)))) ?_
  refine wps_ite (fun h => absurd h (by decide)) (fun _ => ?_)
  have hQ : RightB Q3 = true := by decide
  refine wps_call2 (A1 := bnk bb rb Q3 m) (A2 := rackP rb R2 ds ps) (fun _ => bank_Flush_spec hcd bb rb Q3 m (by decide) R2 ds ps) fun f1 => ?_
  simp only [← star_assoc]
  refine wps_prP fun hf1 => ?_
  refine wps_call2 (A1 := bnk yb c10 Q3 m) (A2 := refQ c10 R2 l1 l2 l3 l4) (fun _ => ref06_Flush_spec yb c10 Q3 m (by decide) R2 l1 l2 l3 l4) fun f2 => ?_
  simp only [← star_assoc]
  refine wps_prP fun hf2 => ?_
  refine wps_ite (fun h => absurd h (by rw [hf1, hf2]; simp)) (fun _ => ?_)
  have hfb : (flushL (disksL Q3 m) R2).1.bys := (SameS.flushL _ R2).bys hdb
  generalize (flushL (disksL Q3 m) R2).1 = R3 at *
  refine wps_call2 (A1 := bnk bb rb Q3 m) (A2 := rackP rb R3 ds ps) (fun _ => scan_Look_spec hcd hcr bb rb Q3 m hQ R3 hfb ds ps) fun x => ?_
  simp only [← star_assoc]
  refine wps_prP fun hx => ?_
  refine wps_call2 (A1 := bnk yb c10 Q3 m) (A2 := refQ c10 R3 l1 l2 l3 l4) (fun _ => ref08_Look_spec yb c10 Q3 m hQ R3 hfb l1 l2 l3 l4) fun y => ?_
  simp only [← star_assoc]
  refine wps_prP fun hy => ?_
  have hLl : (lookX Q3 m R3).1.length ≤ 1000000 := by
    unfold lookX
    split
    · simp
    · exact Nat.le_trans (infosL_len _ _ _ _) (by decide)
  generalize lookX Q3 m R3 = LX at *
  obtain ⟨L, mo, er⟩ := LX
  obtain ⟨xs, xm, xe⟩ := x
  obtain ⟨ys, ym, ye⟩ := y
  dsimp only at hx hy
  cases hx
  cases hy
  refine wps_fact (Ent.trans (RdS.rd (z := 6) (s := xs)) (rsl_len _ _ _)) fun hxl => ?_
  refine wps_fact (Ent.trans (RdS.rd (z := 6) (s := ys)) (rsl_len _ _ _)) fun hyl => ?_
  rw [flat_len encI6_len] at hxl hyl
  have hxl : L.length * 6 = xs.len * 6 := hxl
  refine wps_val (v := false) (wps_ite (fun h => absurd h (by simp; omega)) (fun _ => wps_pure (ent_val (by simp)))) ?_
  refine wps_val (v := false) (wps_ite (fun h => absurd h (by decide)) (fun _ => wps_pure (ent_val (by simp)))) ?_
  refine wps_ite (fun h => absurd h (by decide)) (fun _ => ?_)
  refine wps_pre (H' := rsl 6 xs (L.flatMap encI6) * rsl 6 ys (L.flatMap encI6)) ?_ ?_
  · refine Ent.trans (B := own 6 xs (L.flatMap encI6) * own 6 ys (L.flatMap encI6)) ?_ (Ent.star (own_rsl _ _ _) (own_rsl _ _ _))
    repeat (first
      | (with_reducible exact ent_drop)
      | (with_reducible refine ent_pick ?_)
      | (refine ent_pickC (by rfl) ?_)
      | (refine ent_pickS (by rfl) ?_)
      | (refine ent_pickM (by rfl) ?_)
      | (refine ent_prx ?_ ?_; rotate_left)
      | (refine ent_prq ?_))
  have hLl : L.length ≤ 1000000 := hLl
  refine wps_loop (fun st => ex fun i : Nat => pr (st = (i : Int) ∧ i ≤ L.length) * (rsl 6 xs (L.flatMap encI6) * rsl 6 ys (L.flatMap encI6))) (fun st => (L.length - st).toNat) (ent_ex 0 (ent_prr ⟨rfl, by omega⟩ (Ent.refl _))) fun st => ?_
  refine wps_ex fun j => wps_pr fun ⟨hj, hjn⟩ => ?_
  refine wps_ite (fun hc2 => ?_) (fun hc2 => wps_mapR (wps_pure (fun o ho => rfl)))
  have hjl : j < L.length := by
    have h2 : st < ((xs.len : Nat) : Int) := of_decide_eq_true hc2
    omega
  have hg := List.getElem?_eq_getElem hjl
  generalize L[j] = e at hg
  have hgv : ∀ k v, (encI6 e)[k]? = some v → (L.flatMap encI6)[j * 6 + k]? = some v := fun k v hk => (flat_get encI6_len hg (List.getElem?_eq_some_iff.1 hk).1).trans hk
  refine wps_regionH ?_
  refine wps_rdAI (enc := encI6) j e (ent_left _ _) (Ent.refl _) hj ⟨by simp [encI6], by simp [encI6]⟩ hgv ?_
  refine wps_rdAI (enc := encI6) j e (ent_right _ _) (Ent.refl _) hj ⟨by simp [encI6], by simp [encI6]⟩ hgv ?_
  refine wps_ite (fun h => absurd h (by rw [eqL_same]; decide)) (fun _ => ?_)
  exact wps_pure (ent_prr (by rw [range_add1 hj (by omega)]; omega) (ent_ex (j + 1) (ent_prr ⟨range_add1 hj (by omega), by omega⟩ (Ent.refl _))))
end Go.Proofs.Ytldmeimebebllaa
