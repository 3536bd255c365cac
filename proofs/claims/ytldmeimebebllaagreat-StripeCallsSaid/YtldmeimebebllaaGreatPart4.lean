/-
  A part of the proof: predicate transformers over the model, and a separation logic over them; what functions of the program do.
-/
import Derived.Test.YtldmeimebebllaaGreatPart3
import Derived.ChangeReads
import Derived.ReadAgain
import Derived.Deep.Frames
import Derived.RowKit3
import Derived.ChangeSame
import Derived.ChangeSlices
import Derived.SizedLaws
import Derived.Deep.Slices
set_option linter.unusedSimpArgs false
namespace Go.Proofs.Ytldmeimebebllaa
open Go.Mo
set_option linter.unusedVariables false
variable {g : Fr} {cv : CV}
structure Power (R : Rk) (c : Int) : Prop where
  off : R.off = false
  count : R.count = c
  failed : ∀ j, (R.dk j).failed = false
  counts : ∀ j, (R.dk j).count = -1
theorem Power.tick {R : Rk} {c : Int} (h : Power R c) (hc : 0 < c ∧ c < 9223372036854775808) : R.ticked = { R with count := c - 1 } := by
  have hdk : (fun j => (R.dk j).tick) = R.dk := by
    funext j
    have : (R.dk j).tick = R.dk j := tickD (h.counts j)
    exact this
  have hm : maxI (w64 (R.count - 1)) (-1) = c - 1 := by
    rw [h.count, w64_id (by omega) (by omega)]
    unfold maxI
    split <;> omega
  have h0 : ¬ R.count = 0 := by rw [h.count]; omega
  simp only [Rk.ticked, if_neg h0, hdk, hm]
theorem Power.write {R : Rk} {c : Int} (h : Power R c) (hc : 0 ≤ c ∧ c < 9223372036854775808) {k s : Int} {b : List Int} (hk : 0 ≤ k ∧ k < R.n) (hs : 0 ≤ s ∧ s < R.ns) (hb : b.length = 64) :
    if c = 0 then R.gate k s b.length = 12 ∧ R.write k s b = { R with off := true } else R.gate k s b.length = 0 ∧ R.write k s b = ({ R with count := c - 1 } : Rk).put k s b ∧ Power (({ R with count := c - 1 } : Rk).put k s b) (c - 1) := by
  have hr : ¬ (k < 0 ∨ k ≥ R.n ∨ s < 0 ∨ s ≥ R.ns) := by omega
  have hl : (b.length : Int) = 64 := by rw [hb]; rfl
  rw [hl]
  by_cases h0 : c = 0
  · rw [if_pos h0]
    have hg : R.gate k s 64 = 12 := by
      unfold Rk.gate
      rw [if_neg (by simp [h.off]), if_neg hr, if_neg (by omega), if_pos (by rw [h.count]; exact h0)]
    refine ⟨hg, ?_⟩
    unfold Rk.write
    rw [hl, hg, if_neg (by decide), gated_in h.off hk hs]
    unfold Rk.ticked
    rw [if_pos (by rw [h.count]; exact h0)]
  · rw [if_neg h0]
    have ht := h.tick ⟨by omega, hc.2⟩
    have hg : R.gate k s 64 = 0 := by
      unfold Rk.gate
      rw [if_neg (by simp [h.off]), if_neg hr, if_neg (by omega), if_neg (by rw [h.count]; exact h0), ht, if_neg (by simp [h.failed])]
    refine ⟨hg, ?_, h.off, rfl, fun j => ?_, fun j => ?_⟩
    · unfold Rk.write
      rw [hl, hg, if_pos rfl, gated_in h.off hk hs, ht]
    · simp only [Rk.put]; split <;> exact h.failed _
    · simp only [Rk.put]; split <;> exact h.counts _
theorem wrAll_bys {q m : G3} : ∀ (es : List ((Int × Int) × List Int)) (R : Rk), R.bys → (∀ e ∈ es, Byts e.2) → (wrAll q m es R).1.bys
  | [], R, h, _ => h
  | e :: es, R, h, he => by
    have hb := bwrite_bys (q := q) (m := m) h e.1 (he e (by simp))
    rw [wrAll]
    split
    · exact hb
    · exact wrAll_bys es _ hb fun e' h' => he e' (by simp [h'])
theorem restore_bys {R : Rk} (h : R.bys) (ks : List Int) : (R.restore ks).bys := fun j => clean_bys (h j) _
def hd2 (W : Nat → Nat → Bool) (r i : Nat) : Int := if W r i then 6 else 5
structure Torn (R : Rk) (la lb : List BlkA) (W : Nat → Nat → Bool) : Prop where
  calm : Calm R
  n : R.n = 4
  ns : R.ns = 41
  lasts : ∀ r i, r < 3 → i < 3 → (R.dk (spt 1 r i).1.toNat).lasts (8 + r) = if W r i then datAt Q3 6 lb r i else datAt Q3 5 la r i
  clean : ∀ j s, (R.dk j).cached s = none
theorem Torn.whole {R : Rk} {la lb : List BlkA} {W : Nat → Nat → Bool} (h : Torn R la lb W) (Ea : EncD 5 la) (Eb : EncD 6 lb) :
    ((∀ t, t < 9 → W (t / 3) (t % 3) = true) → sWhole Q3 m0 R ((1 : Nat) : Int) = (6, true, 0)) ∧ ((∀ t, t < 9 → W (t / 3) (t % 3) = false) → sWhole Q3 m0 R ((1 : Nat) : Int) = (5, true, 0)) ∧
    ((∃ t, t < 9 ∧ W (t / 3) (t % 3) = true) → (∃ t, t < 9 ∧ W (t / 3) (t % 3) = false) → sWhole Q3 m0 R ((1 : Nat) : Int) = (0, false, 0)) := by
  have f5 : fitsN 4 5 := fits4 ⟨by decide, by decide⟩
  have f6 : fitsN 4 6 := fits4 ⟨by decide, by decide⟩
  have hread : ∀ t, t < 9 → brdE Q3 m0 R (spt 1 (t / 3) (t % 3)) = 0 ∧ (headOf (brd Q3 m0 R (spt 1 (t / 3) (t % 3)))).1 = hd2 W (t / 3) (t % 3) := fun t ht => by
    have hrg := spt_rng (seg := 1) (r := t / 3) (i := t % 3) (by decide) (by omega) (by omega)
    have hb := sec_brd (m := m0) h.calm.settled h.n h.ns (s := spt 1 (t / 3) (t % 3)) hrg.1 (by omega)
    refine ⟨hb.1, ?_⟩
    rw [hb.2 rfl, slot0 hrg.1]
    have hsn : (spt 1 (t / 3) (t % 3)).2 = ((8 + t / 3 : Nat) : Int) := by show ((5 + (1 * 3 + t / 3) : Nat) : Int) = _; omega
    have hsec : (R.dk (spt 1 (t / 3) (t % 3)).1.toNat).sec (spt 1 (t / 3) (t % 3)).2 = (R.dk (spt 1 (t / 3) (t % 3)).1.toNat).lasts (8 + t / 3) := by
      unfold Dk.sec
      rw [h.clean, hsn]
      congr 1
    rw [hsec, h.lasts _ _ (by omega) (by omega)]
    unfold hd2
    split
    · exact (Eb.dat (by omega) (by omega)).head f6
    · exact (Ea.dat (by omega) (by omega)).head f5
  have hbad : badI Q3 m0 R = [] := by unfold badI; rw [calm_bad h.calm (by decide)]; rfl
  have hwh : sWhole Q3 m0 R ((1 : Nat) : Int) = match whL Q3 m0 R [] (allS Q3 ((1 : Nat) : Int) 0) 0 with | some s => (s, true, 0) | none => (0, false, 0) := by
    have ht : thereE Q3 R ((1 : Nat) : Int) = 0 := there0 (by decide) h.calm.off
    unfold sWhole
    rw [if_neg (fun hx => hx ht), calm_bad h.calm (by decide), if_neg (by simp), hbad]
    rfl
  have hh : ∀ r i, hd2 W r i ≠ 0 := fun r i => by unfold hd2; split <;> decide
  have hstep : ∀ (ts : List Nat), (∀ t ∈ ts, t < 9) → ∀ s, s ≠ 0 → whL Q3 m0 R [] (ts.map fun t => spt 1 (t / 3) (t % 3)) s = if ts.all (fun t => hd2 W (t / 3) (t % 3) == s) then some s else none := by
    intro ts
    induction ts with
    | nil => intro _ s _; simp [whL]
    | cons t ts ih =>
      intro hts s hs
      obtain ⟨h1, h2⟩ := hread t (hts t (by simp))
      rw [List.map_cons, whL, if_neg (by simp), h1, h2]
      by_cases he : hd2 W (t / 3) (t % 3) = s
      · rw [if_neg (by simp [he, hs]), he, ih (fun t' h' => hts t' (by simp [h'])) s hs]
        simp [he]
      · rw [if_pos (.inr (.inr ⟨hs, he⟩))]
        simp [he]
  have hall : whL Q3 m0 R [] (allS Q3 ((1 : Nat) : Int) 0) 0 = if ([1, 2, 3, 4, 5, 6, 7, 8] : List Nat).all (fun t => hd2 W (t / 3) (t % 3) == hd2 W 0 0) then some (hd2 W 0 0) else none := by
    rw [show allS Q3 ((1 : Nat) : Int) 0 = _ from allS3 1, show List.range 9 = 0 :: [1, 2, 3, 4, 5, 6, 7, 8] from rfl, List.map_cons, whL]
    obtain ⟨h1, h2⟩ := hread 0 (by decide)
    rw [if_neg (by simp), h1, h2, if_neg (by simp [hh]), hstep _ (by decide) _ (hh _ _)]
  rw [hwh, hall]
  have conv : ∀ v : Int, (∀ t, t < 9 → hd2 W (t / 3) (t % 3) = v) → (if ([1, 2, 3, 4, 5, 6, 7, 8] : List Nat).all (fun t => hd2 W (t / 3) (t % 3) == hd2 W 0 0) then some (hd2 W 0 0) else none) = some v := fun v hv => by
    have h0 : hd2 W 0 0 = v := hv 0 (by decide)
    rw [h0, if_pos]
    rw [List.all_eq_true]
    intro t ht
    have : t < 9 := by
      simp only [List.mem_cons, List.not_mem_nil, or_false] at ht
      omega
    simp [hv t this]
  refine ⟨fun hw => ?_, fun hw => ?_, fun ⟨a, ha, hwa⟩ ⟨b, hb, hwb⟩ => ?_⟩
  · rw [conv 6 fun t ht => by unfold hd2; rw [hw t ht]; rfl]
  · rw [conv 5 fun t ht => by unfold hd2; rw [hw t ht]; rfl]
  · rw [if_neg]
    intro hx
    rw [List.all_eq_true] at hx
    have hx2 : ∀ t, t < 9 → hd2 W (t / 3) (t % 3) = hd2 W 0 0 := fun t ht => by
      by_cases h0 : t = 0
      · subst h0; rfl
      · have := hx t (by simp only [List.mem_cons, List.not_mem_nil, or_false]; omega)
        simpa using this
    have h1 := (hx2 a ha).trans (hx2 b hb).symm
    unfold hd2 at h1
    rw [hwa, hwb] at h1
    exact absurd h1 (by decide)
end Go.Proofs.Ytldmeimebebllaa
namespace Go.Proofs.Ytldmeimebebllaa
open Go.Mo
set_option linter.unusedVariables false
variable {g : Fr} {cv : CV}
structure CallS where
  what : Int
  seg : Int
  k : Int
  seq : Int
  bs : Slc
  bl : List BlkA
  ds : Slc
  data : List Int
  mem : G3
def CallS.cells (c : CallS) : List Value := [.int .i64 c.what, .int .i64 c.seg, .int .i64 c.k, .int .i64 c.seq, .slice c.bs.base c.bs.len c.bs.cap, .slice c.ds.base c.ds.len c.ds.cap, .int .i64 c.mem.1, .int .i64 c.mem.2.1, .int .i64 c.mem.2.2]
def CallS.t (c : CallS) : Int × Int × Int × Int × Slc × Slc × Int × Int × Int := (c.what, c.seg, c.k, c.seq, c.bs, c.ds, c.mem.1, c.mem.2.1, c.mem.2.2)
structure CallS.ok (c : CallS) : Prop where
  seq : c.seq < 9223372036854775808
  len : c.data.length ≤ 140737488355328
  byts : Byts c.data
  many : c.bl.length ≤ 140737488355328
def callS (c : CallS) : HP := pr c.ok * byt c.ds c.data * blocksP c.bs c.bl
instance (c : CallS) : Pers (callS c) := by unfold callS; infer_instance
def callsS (s : Slc) (l : List CallS) : HP := rsl 9 s (l.flatMap CallS.cells) * al fun i : Nat => al fun c : CallS => imp (l[i]? = some c) (callS c)
instance (s : Slc) (l : List CallS) : Pers (callsS s l) := by unfold callsS; infer_instance
theorem cellsS_len (c : CallS) : c.cells.length = 9 := rfl
theorem callsS_rsl (s : Slc) (l : List CallS) : Ent (callsS s l) (rsl 9 s (l.flatMap CallS.cells)) := ent_left _ _
theorem callsS_get {s : Slc} {l : List CallS} {i : Nat} {c : CallS} (h : l[i]? = some c) : Ent (callsS s l) (callS c) := fun o ho => ent_right _ _ o ho i c h
theorem callsS_len (s : Slc) (l : List CallS) : Ent (callsS s l) (pr (l.length = s.len)) := Ent.trans (callsS_rsl s l) (Ent.trans (rsl_len _ _ _) fun o ho => by
  have : (l.flatMap CallS.cells).length = s.len * 9 := ho
  rw [flat_len cellsS_len] at this
  show l.length = s.len
  omega)
theorem callS_ok (c : CallS) : Ent (callS c) (pr c.ok) := Ent.trans (ent_left _ _) (ent_left _ _)
theorem callS_data (c : CallS) : Ent (callS c) (byt c.ds c.data) := Ent.trans (ent_left _ _) (ent_right _ _)
theorem callS_bl (c : CallS) : Ent (callS c) (blocksP c.bs c.bl) := ent_right _ _
def sstepR (q : G3) (R : Rk) (m : G3) (c : CallS) : Rk :=
  if c.what = 0 then (swrite q m R c.seg c.seq c.bl).1 else if c.what = 4 then (sRefill q m R c.seg c.k c.seq).1
  else if c.what = 6 then (if (slotV q m c.k).2 then R.write (slotV q m c.k).1 c.seg c.data else R) else if c.what = 8 then R.doom c.k c.seq else if c.what = 9 then R.arm c.seq else if c.what = 10 then R.restore [c.seq, c.k] else R
def sstepM (q : G3) (m : G3) (c : CallS) : G3 := if c.what = 7 then (if FitsB q c.mem then c.mem else m) else m
theorem refL_bys {q m : G3} {seg slot seq : Int} : ∀ (rs : List Nat) (R : Rk), R.bys → (refL q m seg slot seq rs R).1.bys
  | [], R, h => h
  | r :: rs, R, h => by
    have hb := bwrite_bys (q := q) (m := m) h (slotSp q seg r slot) (othV_byts (q := q) (m := m) h (slotSp q seg r slot) seq (spotsL q seg r)).1
    rw [refL]
    split
    · split
      · exact h
      · split
        · exact hb
        · exact refL_bys rs _ hb
    · exact refL_bys rs R h
theorem datAt_byts {q : G3} {seq : Int} {l : List BlkA} (hl : ∀ c ∈ l, Byts c.data) (r i : Nat) : Byts (datAt q seq l r i) := by
  unfold datAt
  split
  · exact encL_byts (blkAt_byts hl _)
  · refine parL_byts fun b hb => ?_
    unfold rowL at hb
    obtain ⟨j, _, rfl⟩ := List.mem_map.1 hb
    exact encL_byts (blkAt_byts hl _)
theorem swrite_bys {q m : G3} {R : Rk} {seg seq : Int} {l : List BlkA} (h : R.bys) (hl : ∀ c ∈ l, Byts c.data) : (swrite q m R seg seq l).1.bys := by
  have hw : (wrAll q m (restW q seg seq l 0) R).1.bys := wrAll_bys _ _ h fun e he => by
    unfold restW at he
    obtain ⟨r, _, he⟩ := List.mem_flatMap.1 he
    unfold rowW at he
    obtain ⟨i, _, rfl⟩ := List.mem_map.1 he
    exact datAt_byts hl r i
  unfold swrite
  split
  · exact h
  · split
    · exact h
    · split
      · exact h
      · split
        · exact hw
        · split <;> exact hw
theorem sRefill_bys {q m : G3} {R : Rk} {seg slot seq : Int} (h : R.bys) : (sRefill q m R seg slot seq).1.bys := by
  unfold sRefill
  split
  · exact h
  · exact refL_bys _ _ h
theorem sstep_bys {q m : G3} {R : Rk} {c : CallS} (h : R.bys) (hd : Byts c.data) (hl : ∀ b ∈ c.bl, Byts b.data) : (sstepR q R m c).bys := by
  unfold sstepR
  split
  · exact swrite_bys h hl
  · split
    · exact sRefill_bys h
    · split
      · exact bwrite_bys (q := q) (m := m) h (c.k, c.seg) hd
      · split
        · exact (SameS.doom R _ _).bys h
        · split
          · exact h
          · split
            · exact restore_bys h _
            · exact h
theorem told7_end {rb bb yb : Nat} {q : G3} {R R1 : Rk} {m m1 : G3} {ds : Slc} {ps : List Nat} {mb : Nat} {l1 l2 l3 l4 : Slc} {c : CallS} {b : Bool} {F : HP} (h1 : b = true) (h2 : R1 = sstepR q R m c) (h3 : m1 = sstepM q m c)
    (h4 : Ent F (callS c * rackP rb R1 ds ps * bnk bb rb q m1 * refQ mb R1 l1 l2 l3 l4 * bnk yb mb q m1)) :
    Ent F (pr (b = true) * callS c * rackP rb (sstepR q R m c) ds ps * bnk bb rb q (sstepM q m c) * refQ mb (sstepR q R m c) l1 l2 l3 l4 * bnk yb mb q (sstepM q m c)) := by
  subst h2 h3
  refine Ent.trans h4 (Ent.trans (ent_pr h1) (Ent.of_eq ?_))
  simp only [star_assoc]
theorem law07_told_spec (hcd : DisksOk cv) (hcr : RowsOk cv) (hcl : LacksOk cv) (hck : KeysOk cv) (rb bb yb mb : Nat) (q : G3) (hq : RightB q = true) (R : Rk) (hby : R.bys) (m : G3) (ds : Slc) (ps : List Nat) (l1 l2 l3 l4 : Slc) (c : CallS) (hd : c.data.length ≤ 20000) :
    wps g (callS c * rackP rb R ds ps * bnk bb rb q m * refQ mb R l1 l2 l3 l4 * bnk yb mb q m) (law07_told cv (ptr rb) (ptr bb) (ptr mb) (ptr yb) c.t)
      (fun b => pr (b = true) * callS c * rackP rb (sstepR q R m c) ds ps * bnk bb rb q (sstepM q m c) * refQ mb (sstepR q R m c) l1 l2 l3 l4 * bnk yb mb q (sstepM q m c)) := by
  unfold law07_told
  refine wps_fact (Ent.trans (ent_pick1 (A := rackP rb R ds ps)) rackP_good) fun hg => ?_
  refine wps_fact (Ent.trans (ent_pick1 (A := callS c)) (callS_ok c)) fun hok => ?_
  refine wps_fact (Ent.trans (ent_pick1 (A := callS c)) (Ent.trans (callS_bl c) blocksP_ok)) fun hbok => ?_
  have hn := hok.seq
  have hbb : ∀ b ∈ c.bl, Byts b.data := fun b hb => (hbok b hb).byts
  refine wps_alloc fun x9 => ?_
  refine wps_eq (H' := callS c * rackP rb R ds ps * bnk bb rb q m * refQ mb R l1 l2 l3 l4 * bnk yb mb q m * pc x9 c.cells) rfl ?_
  refine wps_ld c.what (by rfl) ?_
  refine wps_ite (fun h0 => ?_) (fun h0 => ?_)
  · have hw : c.what = 0 := by simpa using h0
    have e1 : sstepR q R m c = (swrite q m R c.seg c.seq c.bl).1 := by simp [sstepR, hw]
    have e2 : sstepM q m c = m := by simp [sstepM, hw]
    refine wps_region (pc x9 c.cells) ent_pick1 ?_
    refine wps_ldI c.seg (by rfl) ?_
    refine wps_ldI c.seq (by rfl) ?_
    refine wps_ldI c.bs (by rfl) ?_
    refine wps_ldI c.seg (by rfl) ?_
    refine wps_ldI c.seq (by rfl) ?_
    refine wps_ldI c.bs (by rfl) ?_
    refine wps_swap (A := callS c) (B := callS c * blocksP c.bs c.bl) (ent_and (Ent.refl _) (callS_bl c)) ?_
    simp only [← star_assoc]
    refine wps_stepC3 (fun _ => stripe_Write_spec hcr bb rb q m hq R ds ps c.seg c.seq c.bs c.bl hbb) fun a => ?_
    simp only [← star_assoc]
    refine wps_prP fun ha => ?_
    refine wps_stepC3 (fun _ => ref07_Write_spec yb mb q m hq R l1 l2 l3 l4 c.seg c.seq c.bs c.bl hbok) fun b => ?_
    simp only [← star_assoc]
    refine wps_prP fun hb => ?_
    refine wps_pure (told7_end (by rw [ha, hb]; simp) e1.symm e2.symm ?_)
    repeat first | (with_reducible exact ent_drop) | (with_reducible refine ent_pick ?_)
  refine wps_ite (fun h1 => ?_) (fun h1 => ?_)
  · have hw : c.what = 1 := by simpa using h1
    have e1 : sstepR q R m c = R := by simp [sstepR, hw]
    have e2 : sstepM q m c = m := by simp [sstepM, hw]
    refine wps_ld c.seg (by rfl) ?_
    refine wps_ld c.k (by rfl) ?_
    refine wps_ld c.seq (by rfl) ?_
    refine wps_call2 (fun _ => stripe_Read_spec hcr bb rb q m hq R hby ds ps c.seg c.k c.seq) fun a => ?_
    simp only [← star_assoc]
    refine wps_prP fun ⟨a1, a2, a3⟩ => ?_
    refine wps_alloc fun x11 => ?_
    refine wps_stA (by simp) (by simp [Value.oneCell']) ?_
    refine wps_ld c.seg (by rfl) ?_
    refine wps_ld c.k (by rfl) ?_
    refine wps_ld c.seq (by rfl) ?_
    refine wps_call2 (fun _ => ref07_Read_spec yb mb q m hq R hby l1 l2 l3 l4 c.seg c.k c.seq) fun b => ?_
    simp only [← star_assoc]
    refine wps_prP fun ⟨b1, b2, b3⟩ => ?_
    refine wps_alloc fun x13 => ?_
    refine wps_stA (by simp) (by simp [Value.oneCell']) ?_
    have hpay : ∀ b : List Int, (payOf b).length ≤ 64 := fun b => by
      unfold payOf
      split
      · rename_i h64; simp; omega
      · exact Nat.zero_le _
    have hlen : (sRead q m R c.seg c.k c.seq).1.2.2.length ≤ 64 := by
      unfold sRead
      repeat' (first | exact Nat.zero_le _ | exact hpay _ | split | dsimp only)
    generalize sRead q m R c.seg c.k c.seq = rv at *
    refine wps_ld a.1.1 (by rfl) ?_
    refine wps_ld b.1.1 (by rfl) ?_
    refine wps_val (v := true) (wps_ite (fun _ => wps_ld a.1.2.1 (by rfl) (wps_ld b.1.2.1 (by rfl) (wps_pure (ent_val (by rw [a3, b3]; simp))))) (fun h => absurd (by rw [a2, b2]; simp) h)) ?_
    refine wps_val (v := true) (wps_ite (fun _ => wps_ld a.1.2.2 (by rfl) (wps_ld b.1.2.2 (by rfl) (wps_val (ref00_SameBytes_val (x := rv.1.2.2) (y := rv.1.2.2) (Ent.trans (ent_pick1 (A := own 1 a.1.2.2 (bv rv.1.2.2))) (own_rsl _ _ _)) (Ent.trans (ent_pick1 (A := own 1 b.1.2.2 (bv rv.1.2.2))) (own_rsl _ _ _)) (by omega)) (wps_pure (ent_val (by simp)))))) (fun h => absurd rfl h)) ?_
    refine wps_val (v := true) (wps_ite (fun _ => wps_pure (ent_val (by rw [a1, b1]; simp))) (fun h => absurd rfl h)) ?_
    refine wps_pure (told7_end rfl e1.symm e2.symm ?_)
    repeat first | (with_reducible exact ent_drop) | (with_reducible refine ent_pick ?_)
  refine wps_ite (fun h2 => ?_) (fun h2 => ?_)
  · have hw : c.what = 2 := by simpa using h2
    have e1 : sstepR q R m c = R := by simp [sstepR, hw]
    have e2 : sstepM q m c = m := by simp [sstepM, hw]
    refine wps_ld c.seg (by rfl) ?_
    refine wps_call2 (fun _ => stripe_Whole_spec hcr bb rb q m hq R hby ds ps c.seg) fun a => ?_
    simp only [← star_assoc]
    refine wps_prP fun ha => ?_
    refine wps_ld c.seg (by rfl) ?_
    refine wps_call2 (fun _ => ref07_Whole_spec yb mb q m hq R hby l1 l2 l3 l4 c.seg) fun b => ?_
    simp only [← star_assoc]
    refine wps_prP fun hb => ?_
    rw [ha, hb]
    refine wps_val (v := true) (wps_ite (fun _ => wps_pure (ent_val (by simp))) (fun h => absurd (by simp) h)) ?_
    refine wps_val (v := true) (wps_ite (fun _ => wps_pure (ent_val (by simp))) (fun h => absurd rfl h)) ?_
    refine wps_pure (told7_end rfl e1.symm e2.symm ?_)
    repeat first | (with_reducible exact ent_drop) | (with_reducible refine ent_pick ?_)
  refine wps_ite (fun h3 => ?_) (fun h3 => ?_)
  · have hw : c.what = 3 := by simpa using h3
    have e1 : sstepR q R m c = R := by simp [sstepR, hw]
    have e2 : sstepM q m c = m := by simp [sstepM, hw]
    refine wps_ld c.seg (by rfl) ?_
    refine wps_ld c.k (by rfl) ?_
    refine wps_ld c.seq (by rfl) ?_
    refine wps_call2 (fun _ => stripe_Missing_spec hcr hcl bb rb q m hq R hby ds ps c.seg c.k c.seq) fun a => ?_
    simp only [← star_assoc]
    refine wps_prP fun ha => ?_
    refine wps_ld c.seg (by rfl) ?_
    refine wps_ld c.k (by rfl) ?_
    refine wps_ld c.seq (by rfl) ?_
    refine wps_call2 (fun _ => ref07_Missing_spec yb mb q m hq R hby l1 l2 l3 l4 c.seg c.k c.seq) fun b => ?_
    simp only [← star_assoc]
    refine wps_prP fun hb => ?_
    rw [ha, hb]
    refine wps_val (v := true) (wps_ite (fun _ => wps_pure (ent_val (by simp))) (fun h => absurd (by simp) h)) ?_
    refine wps_pure (told7_end rfl e1.symm e2.symm ?_)
    repeat first | (with_reducible exact ent_drop) | (with_reducible refine ent_pick ?_)
  refine wps_ite (fun h4 => ?_) (fun h4 => ?_)
  · have hw : c.what = 4 := by simpa using h4
    have e1 : sstepR q R m c = (sRefill q m R c.seg c.k c.seq).1 := by simp [sstepR, hw]
    have e2 : sstepM q m c = m := by simp [sstepM, hw]
    refine wps_region (pc x9 c.cells) ent_pick1 ?_
    refine wps_ldI c.seg (by rfl) ?_
    refine wps_ldI c.k (by rfl) ?_
    refine wps_ldI c.seq (by rfl) ?_
    refine wps_ldI c.seg (by rfl) ?_
    refine wps_ldI c.k (by rfl) ?_
    refine wps_ldI c.seq (by rfl) ?_
    refine wps_stepQ2 (fun _ => stripe_Refill_spec hcr hcl bb rb q m hq R hby ds ps c.seg c.k c.seq) (fun x => by simp only [← star_assoc]; exact ent_pick1) fun a => ?_
    simp only [← star_assoc]
    refine wps_prP fun ha => ?_
    refine wps_stepQ2 (fun _ => ref07_Refill_spec yb mb q m hq R hby l1 l2 l3 l4 c.seg c.k c.seq) (fun x => by simp only [← star_assoc]; exact ent_pick1) fun b => ?_
    simp only [← star_assoc]
    refine wps_prP fun hb => ?_
    refine wps_pure (told7_end (by rw [ha, hb]; simp) e1.symm e2.symm ?_)
    repeat first | (with_reducible exact ent_drop) | (with_reducible refine ent_pick ?_)
  refine wps_ite (fun h5 => ?_) (fun h5 => ?_)
  · have hw : c.what = 5 := by simpa using h5
    have e1 : sstepR q R m c = R := by simp [sstepR, hw]
    have e2 : sstepM q m c = m := by simp [sstepM, hw]
    refine wps_ld c.seg (by rfl) ?_
    refine wps_ld c.seq (by rfl) ?_
    refine wps_call2 (fun _ => stripe_Sound_spec hcr bb rb q m hq R hby ds ps c.seg c.seq) fun a => ?_
    simp only [← star_assoc]
    refine wps_prP fun ha => ?_
    refine wps_ld c.seg (by rfl) ?_
    refine wps_ld c.seq (by rfl) ?_
    refine wps_call2 (fun _ => ref07_Sound_spec yb mb q m hq R hby l1 l2 l3 l4 c.seg c.seq) fun b => ?_
    simp only [← star_assoc]
    refine wps_prP fun hb => ?_
    rw [ha, hb]
    refine wps_val (v := true) (wps_ite (fun _ => wps_pure (ent_val (by simp))) (fun h => absurd (by simp) h)) ?_
    refine wps_pure (told7_end rfl e1.symm e2.symm ?_)
    repeat first | (with_reducible exact ent_drop) | (with_reducible refine ent_pick ?_)
  refine wps_ite (fun h6 => ?_) (fun h6 => ?_)
  · have hw : c.what = 6 := by simpa using h6
    have e1 : sstepR q R m c = (if (slotV q m c.k).2 then R.write (slotV q m c.k).1 c.seg c.data else R) := by simp [sstepR, hw]
    have e2 : sstepM q m c = m := by simp [sstepM, hw]
    refine wps_region (pc x9 c.cells) ent_pick1 ?_
    refine wps_ldI c.k (by rfl) ?_
    refine wps_ldI c.seg (by rfl) ?_
    refine wps_ldI c.ds (by rfl) ?_
    refine wps_ldI c.k (by rfl) ?_
    refine wps_ldI c.seg (by rfl) ?_
    refine wps_ldI c.ds (by rfl) ?_
    refine wps_stepC3 (fun _ => bank_Write_spec (H := callS c) bb rb q m R ds ps c.k c.seg c.ds c.data (callS_data c) (by omega)) fun a => ?_
    simp only [← star_assoc]
    refine wps_prP fun ha => ?_
    refine wps_stepC3 (fun _ => ref06_Write_spec (H := callS c) yb mb q m R l1 l2 l3 l4 c.k c.seg c.ds c.data (callS_data c) (by omega)) fun b => ?_
    simp only [← star_assoc]
    refine wps_prP fun hb => ?_
    refine wps_pure (told7_end (by rw [ha, hb]; simp) e1.symm e2.symm ?_)
    repeat first | (with_reducible exact ent_drop) | (with_reducible refine ent_pick ?_)
  refine wps_ite (fun h7 => ?_) (fun h7 => ?_)
  · have hw : c.what = 7 := by simpa using h7
    have e1 : sstepR q R m c = R := by simp [sstepR, hw]
    have e2 : sstepM q m c = (if FitsB q c.mem then c.mem else m) := by simp [sstepM, hw]
    refine wps_ldG c.mem.1 c.mem.2.1 c.mem.2.2 (by rfl) ?_
    refine wps_callH (fun _ => bank_Join_spec bb rb q m c.mem) fun _ => ?_
    refine wps_ldG c.mem.1 c.mem.2.1 c.mem.2.2 (by rfl) ?_
    refine wps_callH (fun _ => ref06_Join_spec yb mb q m c.mem) fun _ => wps_pure (told7_end rfl e1.symm e2.symm ?_)
    repeat first | (with_reducible exact ent_drop) | (with_reducible refine ent_pick ?_)
  refine wps_ite (fun h8 => ?_) (fun h8 => ?_)
  · have hw : c.what = 8 := by simpa using h8
    have e1 : sstepR q R m c = R.doom c.k c.seq := by simp [sstepR, hw]
    have e2 : sstepM q m c = m := by simp [sstepM, hw]
    refine wps_region (pc x9 c.cells) ent_pick1 ?_
    refine wps_ldI c.k (by rfl) ?_
    refine wps_ldI c.seq (by rfl) ?_
    refine wps_ldI c.k (by rfl) ?_
    refine wps_ldI c.seq (by rfl) ?_
    refine wps_stepC1 (fun _ => device_Rack_Doom_spec rb R ds ps c.k c.seq) fun a => ?_
    simp only [← star_assoc]
    refine wps_prP fun ha => ?_
    refine wps_stepC1 (fun _ => ref02_Doom_spec mb R l1 l2 l3 l4 c.k c.seq hn) fun b => ?_
    simp only [← star_assoc]
    refine wps_prP fun hb => ?_
    refine wps_pure (told7_end (by rw [ha, hb]; simp) e1.symm e2.symm ?_)
    repeat first | (with_reducible exact ent_drop) | (with_reducible refine ent_pick ?_)
  refine wps_ite (fun h9 => ?_) (fun h9 => ?_)
  · have hw : c.what = 9 := by simpa using h9
    have e1 : sstepR q R m c = R.arm c.seq := by simp [sstepR, hw]
    have e2 : sstepM q m c = m := by simp [sstepM, hw]
    refine wps_ld c.seq (by rfl) ?_
    refine wps_callH (fun _ => device_Rack_Arm_spec rb R ds ps c.seq) fun _ => ?_
    refine wps_ld c.seq (by rfl) ?_
    refine wps_callH (fun _ => ref02_Arm_spec mb R l1 l2 l3 l4 c.seq hn) fun _ => wps_pure (told7_end rfl e1.symm e2.symm ?_)
    repeat first | (with_reducible exact ent_drop) | (with_reducible refine ent_pick ?_)
  refine wps_ite (fun h10 => ?_) (fun h10 => ?_)
  · have hw : c.what = 10 := by simpa using h10
    have e1 : sstepR q R m c = R.restore [c.seq, c.k] := by simp [sstepR, hw]
    have e2 : sstepM q m c = m := by simp [sstepM, hw]
    refine wps_ld c.seq (by rfl) ?_
    refine wps_ld c.k (by rfl) ?_
    refine wps_alloc fun y => ?_
    refine wps_call2 (fun _ => device_Rack_Restore_spec (H := pc y [.int .i64 c.seq, .int .i64 c.k]) hck rb R ds ps ⟨some ⟨y, 0, none⟩, 2, 2⟩ [c.seq, c.k] (rsl_pc rfl)) fun _ => ?_
    simp only [← star_assoc]
    refine wps_ld c.seq (by rfl) ?_
    refine wps_ld c.k (by rfl) ?_
    refine wps_alloc fun z => ?_
    refine wps_call2 (fun _ => ref02_Restore_spec (H := pc z [.int .i64 c.seq, .int .i64 c.k]) mb R l1 l2 l3 l4 ⟨some ⟨z, 0, none⟩, 2, 2⟩ [c.seq, c.k] (rsl_pc rfl)) fun _ => ?_
    simp only [← star_assoc]
    refine wps_pure (told7_end rfl e1.symm e2.symm ?_)
    repeat first | (with_reducible exact ent_drop) | (with_reducible refine ent_pick ?_)
  have hne : ∀ k : Int, (c.what == k) ≠ true → c.what ≠ k := fun k hk => by simpa using hk
  have e1 : sstepR q R m c = R := by simp [sstepR, hne _ h0, hne _ h4, hne _ h6, hne _ h8, hne _ h9, hne _ h10]
  have e2 : sstepM q m c = m := by simp [sstepM, hne _ h7]
  refine wps_pure (told7_end rfl e1.symm e2.symm ?_)
  repeat with_reducible exact ent_drop
end Go.Proofs.Ytldmeimebebllaa
namespace Go.Proofs.Ytldmeimebebllaa
open Go.Mo
set_option linter.unusedVariables false
variable {g : Fr} {cv : CV}
structure FitS (l : List CallS) : Prop where
  len : l.length ≤ 60
  data : ∀ c ∈ l, c.data.length ≤ 20000
theorem law07_great_spec (x : Slc) (l : List CallS) : wps g (callsS x l) (law07_great x) (fun b => pr (b = false → FitS l) * callsS x l) := by
  unfold law07_great
  refine wps_fact (callsS_len x l) fun hl => ?_
  refine wps_ite (fun h => wps_pure (ent_prr (fun h => by cases h) (Ent.refl _))) (fun h => ?_)
  have hlen : l.length ≤ 60 := by simp only [decide_eq_true_eq] at h; omega
  refine wps_loop (fun st => ex fun i : Nat => pr (st.2 = (i : Int) ∧ i ≤ l.length ∧ 0 ≤ st.1 ∧ st.1 ≤ 20000 ∧ ∀ c ∈ l.take i, c.data.length ≤ 20000) * callsS x l) (fun st => (l.length - st.2).toNat) ?_ fun st => ?_
  · exact ent_ex 0 (ent_prr ⟨rfl, by omega, by (try dsimp only); omega, by (try dsimp only); omega, by simp⟩ (Ent.refl _))
  · refine wps_ex fun i => wps_prP fun ⟨hi, hn, h0, h1, hall⟩ => ?_
    rw [emp_star]
    refine wps_ite (fun hc => ?_) (fun hc => ?_)
    · have hlt : i < l.length := by simp only [decide_eq_true_eq] at hc; omega
      have hget : l[i]? = some l[i] := List.getElem?_eq_getElem hlt
      refine wps_fact (Ent.trans (callsS_get hget) (callS_ok _)) fun hok => ?_
      refine wps_fact (Ent.trans (callsS_get hget) (Ent.trans (callS_data _) (len_of (Ent.refl _)))) fun hdl => ?_
      refine wps_fact (Ent.trans (callsS_get hget) (Ent.trans (callS_bl _) (blocksP_len _ _))) fun hbl => ?_
      refine wps_fact (Ent.trans (callsS_get hget) (Ent.trans (callS_bl _) blocksP_ok)) fun hbok => ?_
      have hd := hok.len
      have hk := hok.many
      refine wps_regionH ?_
      refine wps_rdFI (f := 5) i l[i].ds (callsS_rsl x l) (Ent.refl _) hi (by omega) (by rw [flat_get cellsS_len hget (by omega)]; rfl) ?_
      refine wps_rdFI (f := 4) i l[i].bs (callsS_rsl x l) (Ent.refl _) hi (by omega) (by rw [flat_get cellsS_len hget (by omega)]; rfl) ?_
      rw [← hdl, ← hbl, w64_id (n := ((l[i].data.length : Nat) : Int) + _) (by omega) (by omega), w64_id (n := st.1 + _) (by omega) (by omega)]
      refine wps_loop (fun t => ex fun j : Nat => pr (t.2 = (j : Int) ∧ j ≤ l[i].bl.length ∧ (l[i].data.length : Nat) ≤ t.1 ∧ t.1 ≤ 562949953421312) * callsS x l) (fun t => (l[i].bl.length - t.2).toNat) ?_ fun t => ?_
      · exact ent_ex 0 (ent_prr ⟨rfl, by omega, by (try dsimp only); omega, by (try dsimp only); omega⟩ (Ent.refl _))
      refine wps_ex fun j => wps_prP fun ⟨hj, hjn, hlo, hhi⟩ => ?_
      rw [emp_star]
      refine wps_rdF (f := 4) i l[i].bs (callsS_rsl x l) hi (by omega) (by rw [flat_get cellsS_len hget (by omega)]; rfl) ?_
      rw [← hbl]
      refine wps_val (v := decide (t.2 < (l[i].bl.length : Int) ∧ t.1 ≤ 20000)) ?_ ?_
      · refine wps_ite (fun h => wps_pure (ent_val (by simp at h; simp [h]))) (fun h => wps_pure (ent_val (by simp at h; simp; omega)))
      refine wps_ite (fun hb => ?_) (fun hb => ?_)
      · have hb' : t.2 < (l[i].bl.length : Int) ∧ t.1 ≤ 20000 := by simpa using hb
        have hjl : j < l[i].bl.length := by omega
        have hgj : l[i].bl[j]? = some l[i].bl[j] := List.getElem?_eq_getElem hjl
        have hbo := (hbok _ (List.getElem_mem hjl)).len
        refine wps_fact (Ent.trans (callsS_get hget) (Ent.trans (callS_bl _) (Ent.trans (blocksP_get hgj) (Ent.trans (ent_right _ _) (len_of (Ent.refl _)))))) fun hel => ?_
        refine wps_rdF (f := 4) i l[i].bs (callsS_rsl x l) hi (by omega) (by rw [flat_get cellsS_len hget (by omega)]; rfl) ?_
        refine wps_rdF (f := 2) j l[i].bl[j].ds (Ent.trans (callsS_get hget) (Ent.trans (callS_bl _) (blocksP_rsl _ _))) hj (by omega) (by rw [flat_get cellsK_len hgj (by omega)]; rfl) ?_
        rw [← hel, w64_id (n := t.1 + _) (by omega) (by omega), w64_id (n := t.2 + 1) (by omega) (by omega)]
        exact wps_pure (ent_prr (by (try dsimp only); omega) (ent_ex (j + 1) (ent_prr ⟨by (try dsimp only); omega, by omega, by (try dsimp only); omega, by (try dsimp only); omega⟩ (Ent.refl _))))
      · refine wps_mapR (wps_ite (fun hb2 => wps_mapR (wps_pure (ent_prr (fun h => by cases h) (Ent.refl _)))) (fun hb2 => wps_pure ?_))
        have hb2' : ¬ t.1 > 20000 := by simpa using hb2
        refine ent_prr (by (try dsimp only); rw [range_add1 hi (by omega)]; omega) (ent_ex (i + 1) (ent_prr ⟨range_add1 hi (by omega), by omega, by (try dsimp only); omega, by (try dsimp only); omega, fun c hc => ?_⟩ (Ent.refl _)))
        rw [List.take_add_one, hget] at hc
        rcases List.mem_append.1 hc with hc | hc
        · exact hall c hc
        · have : c = l[i] := by simpa using hc
          subst this
          omega
    · have hie : i = l.length := by simp only [decide_eq_true_eq] at hc; omega
      rw [hie, List.take_length] at hall
      exact wps_mapR (wps_pure (ent_prr (fun _ => ⟨hlen, hall⟩) (Ent.refl _)))
theorem ref02_ns {mb : Nat} {R : Rk} {l1 l2 l3 l4 : Slc} {α : Type} {F : HP} {K : Int → M α} {Q : α → HP} (h : wps g (F * refQ mb R l1 l2 l3 l4) (K (R.ns : Int)) Q) : wps g (F * refQ mb R l1 l2 l3 l4) (bindM (ld (Value.int .i64) ⟨mb, 1, none⟩) K) Q := by
  refine wps_val (v := (R.ns : Int)) ?_ h
  show wps g _ (bindM (ld (Value.int .i64) ⟨mb, 1, none⟩) pureM) _
  unfold refQ refX4
  refine wps_exr fun sl => wps_exr fun cl => wps_exr fun cs => ?_
  repeat refine wps_ld _ (by rfl) ?_
  exact wps_pure (ent_prr rfl (Ent.starr (ent_ex sl (ent_ex cl (ent_ex cs (Ent.refl _))))))
theorem law07_StripeCalls_spec (hcd : DisksOk cv) (hcr : RowsOk cv) (hcl : LacksOk cv) (hck : KeysOk cv) (m : G3) (x : Slc) (l : List CallS) : wps g (callsS x l) (law07_StripeCalls cv m x) (fun b => pr (b = true)) := by
  unfold law07_StripeCalls
  refine wps_alloc fun c2 => ?_
  refine wps_callE (fun _ => law07_alive_spec hcd hcr) fun a => ?_
  refine wps_prP fun ha => ?_
  subst ha
  refine wps_ite (fun h => absurd h (by decide)) (fun _ => ?_)
  refine wps_callH (fun _ => law07_great_spec x l) fun b => ?_
  simp only [← star_assoc]
  refine wps_prP fun hfit => ?_
  refine wps_ite (fun _ => wps_pure (ent_prq rfl)) (fun hb => ?_)
  have hf := hfit (by simpa using hb)
  have hlen := hf.len
  have hall := hf.data
  clear hfit hf
  refine wps_fact (Ent.trans (ent_pick1 (A := callsS x l)) (callsS_len x l)) fun hl => ?_
  refine wps_ldG m.1 m.2.1 m.2.2 (by rfl) ?_
  refine wps_callE (fun _ => law07_Open_spec (H := emp) m) fun z => ?_
  refine wps_val law07_Small_val ?_
  refine wps_val (geo_Sectors_val _) ?_
  rw [Small_sect]
  refine wps_callE (fun _ => ref02_New_spec 4 41) fun v => ?_
  rw [if_neg (show ¬ ((4 : Int) < 1 ∨ (4 : Int) > 17 ∨ (41 : Int) < 1 ∨ (41 : Int) > 4096) by decide), show Rk.new (Int.toNat 4) (Int.toNat 41) = Rk.new 4 41 from rfl]
  refine wps_prP fun hv => ?_
  refine wps_alloc fun c10 => ?_
  refine wps_stA (by simp) (by simp [Value.oneCell']) ?_
  generalize hv1 : v.1 = u
  refine wps_fact (p := u.1 = (4 : Nat) ∧ u.2.1 = (41 : Nat)) ?_ fun ⟨hu1, hu2⟩ => ?_
  · subst hv1
    refine Ent.trans (ent_pick1 (A := refV v.1 (Rk.new 4 41))) ?_
    unfold refV refX
    refine ex_ent fun sl => ex_ent fun cl => ?_
    exact ent_prP fun hok => ent_prq ⟨hok.n, hok.ns⟩
  refine wps_pre (H' := callsS x l * (if OpenB 4 41 (3, 3, 12) m then ex fun rb => ex fun bb => ex fun ds => ex fun ps => pr (z = (ptr bb, ptr rb)) * emp * rackP rb (Rk.new 4 41) ds ps * bnk bb rb (3, 3, 12) m else pr (z = (none, none)) * emp) * refV u (Rk.new 4 41) * pc c2 [.int .i64 m.1, .int .i64 m.2.1, .int .i64 m.2.2] * pc c10 (refC u)) ?_ ?_
  · refine ent_pickC (by rfl) ?_
    repeat first | (with_reducible exact ent_drop) | (with_reducible refine ent_pick ?_)
  refine wps_regionH ?_
  refine wps_ldGI m.1 m.2.1 m.2.2 (by rfl) ?_
  refine wps_stepV law07_Small_val ?_
  refine wps_call (F := callsS x l * (if OpenB 4 41 (3, 3, 12) m then ex fun rb => ex fun bb => ex fun ds => ex fun ps => pr (z = (ptr bb, ptr rb)) * emp * rackP rb (Rk.new 4 41) ds ps * bnk bb rb (3, 3, 12) m else pr (z = (none, none)) * emp) * pc c2 [.int .i64 m.1, .int .i64 m.2.1, .int .i64 m.2.2]) (fun _ => ref06_Open_spec (H := refV u (Rk.new 4 41)) c10 u 4 41 (3, 3, 12) m hu1 hu2) (Ent.of_eq (by ac_rfl)) fun w => ?_
  by_cases ho : OpenB 4 41 (3, 3, 12) m = true
  rotate_left
  · simp only [ho, if_false, Bool.false_eq_true]
    simp only [← star_assoc]
    refine wps_prP fun hz => wps_prP fun hw => ?_
    subst hw hz
    refine wps_ite (fun h => absurd h (by simp)) (fun _ => ?_)
    refine wps_val (v := true) (wps_ite (fun _ => wps_pure (ent_val rfl)) (fun h => absurd rfl h)) ?_
    refine wps_val (v := true) (wps_ite (fun _ => wps_pure (ent_val rfl)) (fun h => absurd rfl h)) ?_
    exact wps_ite (fun _ => wps_pure (ent_prq rfl)) (fun h => absurd rfl h)
  simp only [ho, if_true]
  refine wps_exP fun yb => wps_exP fun rb => wps_exP fun bb => wps_exP fun ds => wps_exP fun ps => ?_
  simp only [← star_assoc]
  refine wps_prP fun hw => wps_prP fun hz => ?_
  subst hw hz
  refine wps_ite (fun h => absurd h (by simp)) (fun _ => ?_)
  refine wps_val (v := false) (wps_ite (fun h => absurd h (by simp)) (fun _ => wps_pure (ent_val (by simp)))) ?_
  refine wps_val (v := false) (wps_ite (fun h => absurd h (by simp)) (fun _ => wps_pure (ent_val (by simp)))) ?_
  refine wps_ite (fun h => absurd h (by decide)) (fun _ => ?_)
  refine wps_pre (H' := callsS x l * rackP rb (Rk.new 4 41) ds ps * bnk bb rb (3, 3, 12) m * refQ c10 (Rk.new 4 41) u.2.2.1 u.2.2.2.1 u.2.2.2.2.1 u.2.2.2.2.2.1 * bnk yb c10 (3, 3, 12) m) ?_ ?_
  · refine Ent.trans (B := callsS x l * rackP rb (Rk.new 4 41) ds ps * bnk bb rb (3, 3, 12) m * bnk yb c10 (3, 3, 12) m * refV u (Rk.new 4 41) * pc c10 (refC u)) ?_ ?_
    · repeat first | (with_reducible exact ent_drop) | (with_reducible refine ent_pick ?_)
    · refine Ent.trans (B := callsS x l * rackP rb (Rk.new 4 41) ds ps * bnk bb rb (3, 3, 12) m * bnk yb c10 (3, 3, 12) m * refQ c10 (Rk.new 4 41) u.2.2.1 u.2.2.2.1 u.2.2.2.2.1 u.2.2.2.2.2.1) ?_ ?_
      · refine ent_join (A := refV u (Rk.new 4 41)) (B := pc c10 (refC u)) refQ_new ?_
        repeat with_reducible exact ent_drop
      · repeat first | (with_reducible exact ent_drop) | (with_reducible refine ent_pick ?_)
  generalize u.2.2.1 = l1
  generalize u.2.2.2.1 = l2
  generalize u.2.2.2.2.1 = l3
  generalize u.2.2.2.2.2.1 = l4
  clear hv1 hu1 hu2 hv ho
  refine wps_loop (fun st => ex fun i : Nat => ex fun R : Rk => ex fun m : G3 => pr (st = (i : Int) ∧ i ≤ l.length ∧ R.bys) * callsS x l * rackP rb R ds ps * bnk bb rb (3, 3, 12) m * refQ c10 R l1 l2 l3 l4 * bnk yb c10 (3, 3, 12) m) (fun st => (l.length - st).toNat) ?_ fun st => ?_
  · refine ent_ex 0 (ent_ex (Rk.new 4 41) (ent_ex m ?_))
    repeat first | (with_reducible refine ent_pick ?_) | (refine ent_prq ?_)
    all_goals first | exact ⟨rfl, by omega, Rk.bys_new 4 41⟩ | trivial
  refine wps_ex fun i => wps_ex fun R => wps_ex fun m => wps_prP fun ⟨hi, hn, hby⟩ => ?_
  refine wps_ite (fun hc => ?_) (fun hc => ?_)
  rotate_left
  · refine wps_mapR ?_
    refine wps_pre (H' := rackP rb R ds ps * refQ c10 R l1 l2 l3 l4) ?_ ?_
    · repeat first | (with_reducible exact ent_drop) | (with_reducible refine ent_pick ?_)
    refine wps_fact (Ent.trans (ent_pick1 (A := rackP rb R ds ps)) rackP_good) fun hg => ?_
    refine wps_fact (p := R.ns ≤ 4096) (Ent.trans (ent_pick1 (A := rackP rb R ds ps)) fun o ho => ((ent_left _ _) o ((ent_left _ _) o ((ent_left _ _) o ho))).2.2.2) fun hns => ?_
    refine wps_loop (fun s => pr (0 ≤ s) * (rackP rb R ds ps * refQ c10 R l1 l2 l3 l4)) (fun s => (4 - s).toNat) (ent_prr (by decide) (Ent.refl _)) fun s => ?_
    refine wps_prP fun h0 => ?_
    rw [emp_star]
    refine wps_ite (fun hs => ?_) (fun hs => wps_mapR (wps_pure (ent_prq rfl)))
    have hs4 : s < 4 := of_decide_eq_true hs
    refine wps_loop (fun t => pr (0 ≤ t) * (rackP rb R ds ps * refQ c10 R l1 l2 l3 l4)) (fun t => (R.ns - t).toNat) (ent_prr (by decide) (Ent.refl _)) fun t => ?_
    refine wps_prP fun ht0 => ?_
    rw [emp_star]
    refine ref02_ns ?_
    refine wps_ite (fun ht => ?_) (fun ht => wps_mapR (wps_pure (ent_prr ?_ (ent_prr ?_ (Ent.refl _)))))
    · have htn : t < (R.ns : Int) := of_decide_eq_true ht
      refine wps_callH (fun _ => device_Rack_Read_spec rb R ds ps s t) fun a => ?_
      simp only [← star_assoc]
      refine wps_prP fun ha => ?_
      refine wps_callH (fun _ => ref02_Read_spec c10 R l1 l2 l3 l4 s t) fun b => ?_
      simp only [← star_assoc]
      refine wps_prP fun hb => ?_
      have hrl := hg.rd s t
      generalize hL : R.rd s t = L at *
      refine wps_val (ref00_SameBytes_val (x := L) (y := L) (Ent.trans (ent_pick1 (A := own 1 a.1 (bv L))) (own_rsl _ _ _)) (Ent.trans (ent_pick1 (A := own 1 b.1 (bv L))) (own_rsl _ _ _)) (by omega)) ?_
      refine wps_val (v := false) (wps_ite (fun h => absurd h (by simp)) (fun _ => wps_pure (ent_val (by rw [ha, hb]; simp)))) ?_
      refine wps_ite (fun h => absurd h (by decide)) (fun _ => wps_pure ?_)
      have e1 : w64 (t + 1) = t + 1 := w64_id (by omega) (by omega)
      have k1 : ((R.ns : Int) - w64 (t + 1)).toNat < ((R.ns : Int) - t).toNat := by rw [e1]; omega
      have k2 : 0 ≤ w64 (t + 1) := by rw [e1]; omega
      refine Ent.trans (ent_prr k1 (ent_prr k2 (B := rackP rb R ds ps * refQ c10 R l1 l2 l3 l4) ?_)) (Ent.of_eq ?_)
      · repeat first | (with_reducible exact ent_drop) | (with_reducible refine ent_pick ?_)
      · show _ = _ * _
        simp only [star_assoc]
    · rw [w64_id (by omega) (by omega)]; omega
    · rw [w64_id (by omega) (by omega)]; omega
  have hlt : i < l.length := by simp only [decide_eq_true_eq] at hc; omega
  have hget : l[i]? = some l[i] := List.getElem?_eq_getElem hlt
  refine wps_fact (Ent.trans (ent_pick1 (A := callsS x l)) (Ent.trans (callsS_get hget) (callS_ok _))) fun hok => ?_
  refine wps_fact (Ent.trans (ent_pick1 (A := callsS x l)) (Ent.trans (callsS_get hget) (Ent.trans (callS_bl _) blocksP_ok))) fun hbok => ?_
  have hmem : l[i] ∈ l := List.getElem_mem hlt
  have hby2 : (sstepR (3, 3, 12) R m l[i]).bys := sstep_bys hby hok.byts fun b hb => (hbok b hb).byts
  refine wps_rdA i l[i].t (Ent.trans (ent_pick1 (A := callsS x l)) (callsS_rsl x l)) hi (by simp) (fun j v hj => ?_) ?_
  · have h5 : j < 9 := by have := (List.getElem?_eq_some_iff.1 hj).1; simpa using this
    rw [flat_get cellsS_len hget h5]; exact hj
  refine wps_bind (R := fun b => pr (b = true) * callsS x l * rackP rb (sstepR (3, 3, 12) R m l[i]) ds ps * bnk bb rb (3, 3, 12) (sstepM (3, 3, 12) m l[i]) * refQ c10 (sstepR (3, 3, 12) R m l[i]) l1 l2 l3 l4 * bnk yb c10 (3, 3, 12) (sstepM (3, 3, 12) m l[i])) ?_ fun b => ?_
  · refine wps_tail (F := callsS x l) (fun _ => law07_told_spec hcd hcr hcl hck rb bb yb c10 (3, 3, 12) (by decide) R hby m ds ps l1 l2 l3 l4 l[i] (hall _ hmem)) ?_ fun b => ?_
    · refine Ent.trans (B := callsS x l * (rackP rb R ds ps * bnk bb rb (3, 3, 12) m * refQ c10 R l1 l2 l3 l4 * bnk yb c10 (3, 3, 12) m)) ?_ ?_
      · simp only [← star_assoc]
        repeat first | (with_reducible exact ent_drop) | (with_reducible refine ent_pick ?_)
      · refine Ent.trans (Ent.starl (ent_and (B := callsS x l) (C := callS l[i]) (Ent.refl _) (callsS_get hget))) (Ent.of_eq ?_)
        simp only [star_assoc]
    · simp only [← star_assoc]
      refine ent_prP (p := b = true) fun h => ?_
      repeat first | (with_reducible refine ent_pick ?_) | (refine ent_prq ?_)
      all_goals first | exact h | trivial
  · refine wps_prP fun hb => ?_
    subst hb
    refine wps_ite (fun h => absurd h (by decide)) (fun _ => wps_pure ?_)
    refine ent_prr (by rw [range_add1 hi (by omega)]; omega) (ent_ex (i + 1) (ent_ex (sstepR (3, 3, 12) R m l[i]) (ent_ex (sstepM (3, 3, 12) m l[i]) ?_)))
    repeat first | (with_reducible refine ent_pick ?_) | (refine ent_prq ?_)
    all_goals first | exact ⟨range_add1 hi (by omega), by omega, hby2⟩ | trivial
end Go.Proofs.Ytldmeimebebllaa
namespace Go.Mo
open Go.RowKit
set_option linter.unusedVariables false
def full (W : World) : Hp := fun i => (W.heap[i]?).map fun ob => (ob, true)
def fullF (W : World) : Fr := ⟨full W, W.os, W.output⟩
theorem full_own (W : World) : Own W (full W) (fullF W) := by
  have hok : Hp.ok (full W) W := fun x ob r h => by
    simp only [full, Option.map_eq_some_iff, Prod.mk.injEq] at h
    obtain ⟨ob', h, rfl, _⟩ := h
    exact h
  refine ⟨fun x => ?_, hok, hok, rfl, rfl⟩
  cases h : full W x with
  | none => exact .inl rfl
  | some p =>
    obtain ⟨ob, r⟩ := p
    right; right
    simp only [full, Option.map_eq_some_iff, Prod.mk.injEq] at h
    obtain ⟨ob', h, rfl, rfl⟩ := h
    exact ⟨ob', rfl, by simp [fullF, full, h]⟩
structure Kept (W w' : World) : Prop where
  frame : W.keptBut w' (fun _ => False)
  block : ∀ (i : Nat) ob, W.heap[i]? = some ob → w'.heap[i]? = some ob
theorem kept_of_own {W w' : World} {a : Hp} (h : Own w' a (fullF W)) : Kept W w' := by
  have hh : ∀ (i : Nat) ob, W.heap[i]? = some ob → w'.heap[i]? = some ob := fun i ob hi => h.2.2.1 i ob true (by simp [fullF, full, hi])
  refine ⟨⟨h.2.2.2.os, h.2.2.2.out, fun i hi => ?_⟩, hh⟩
  rw [hh i _ (Array.getElem?_eq_getElem hi), Array.getElem?_eq_getElem hi]
  cases W.heap[i] with
  | cells c t fr => exact ⟨rfl, rfl, rfl, fun _ _ => rfl⟩
  | map es clock => exact .inr ⟨rfl, rfl⟩
  | _ => rfl
theorem Kept.same {W w' : World} (h : Kept W w') {b : Nat} (hb : b < W.heap.size) : w'.heap[b]? = W.heap[b]? :=
  (h.block b _ (Array.getElem?_eq_getElem hb)).trans (Array.getElem?_eq_getElem hb).symm
open Go.ChangeShapes Go.WideShapes in
theorem post_of_kept {H : Type} {enc : TypeId × Value → H} {P : Program} {f : Func} {s : ChangeSpec} {apart fresh handsOn again : Bool} {W W' : World} {args : Array Value} {v : Value} {ds gs : List (DataW H)} {before pa pv : List MemPlace}
    (hW : DataW.Whole enc P f.params.toList s.vars apart W args.toList ds gs before)
    (hres : ∀ (b : Nat) (sp : Nat → Bool) (hd : Bool), DataW.TrodAll enc P W' b sp hd f.resultTypes.toList (v.resultList f.resultTypes.size) (s.fn H (ds ++ gs)).results [])
    (hargs : ∀ sp : Nat → Bool, (∀ p ∈ before, sp p.block = true) → DataW.TrodAll enc P W' 0 sp true f.params.toList args.toList (s.fn H (ds ++ gs)).args pa)
    (hvars : ∀ sp : Nat → Bool, (∀ p ∈ before, sp p.block = true) → DataW.TrodVars enc P W' sp s.vars (s.fn H (ds ++ gs)).vars pv)
    (hps : before = pa ++ pv) (hk : Kept W W')
    (hok : ∀ (j : Nat) (t : TypeId) (r : Value), f.resultTypes[j]? = some t → (v.resultList f.resultTypes.size)[j]? = some r → Value.okWide P W' .any 0 t r) :
    s.post enc P f apart fresh handsOn again W args v W' := by
  have hold : ∀ p ∈ before, (fun b => decide (b < W.heap.size)) p.block = true := fun p hp => by simpa using hW.lt p hp
  refine ⟨ds, gs, before, [], pa, pv, hW, hres _ _ _, hargs _ hold, hvars _ hold, World.keptBut_mono (fun p hp => hp.elim) hk.frame, fun _ => ?_⟩
  have hlt := hW.lt
  obtain ⟨_, _, _, _, _, hz, hn⟩ := hW
  refine ⟨hok, _, _, ([] ++ pa) ++ pv, ⟨[] ++ pa, pv, trodAll_append (hargs _ (fun _ _ => rfl)) (hres _ _ _), hvars _ (fun _ _ => rfl), rfl, ?_, ?_⟩, ?_⟩
  · intro b off hp
    have hp' : MemPlace.cell b off ∈ before := by rw [hps]; simpa using hp
    have hb : b < W.heap.size := hlt _ hp'
    have := hz b off hp'
    unfold World.frozen? at this ⊢
    rw [show W'.heap[(⟨b, off, none⟩ : Addr).block]? = W.heap[(⟨b, off, none⟩ : Addr).block]? from hk.same hb]
    exact this
  · intro ha
    have := hn ha
    rw [hps] at this
    simpa using this
  · intro p hp _
    rw [hps]
    simpa using hp
theorem wps_run {m : M Bool} {H : HP} (h : ∀ g, wps g H m fun b => pr (b = true)) (W : World) (hH : H.p (full W)) : m (fun b w' => b = true ∧ Kept W w') W :=
  h (fullF W) W (full W) _ (full_own W) hH fun x w' a' ho hb => ⟨hb, kept_of_own ho⟩
theorem calls_law {P : Program} {f : FuncId} {args : Array Value} {W : World} (h : Calls P f args W (RetPost Value.bool fun b w' => b = true ∧ Kept W w')) : Calls P f args W fun e w' => e = .returned (.bool true) ∧ Kept W w' :=
  h.mono fun e w' he => by
    cases e with
    | returned v =>
      obtain ⟨b, rfl, rfl, hg⟩ := he
      exact ⟨rfl, hg⟩
    | panicked c => exact he.elim
    | outgrown => exact he.elim
theorem trodAll_carry {H : Type} {enc : TypeId × Value → H} {P : Program} {w w' : World} {base : Nat} {spare : Nat → Bool} {held : Bool} : ∀ {ts : List TypeId} {vs : List Value} {ds : List (DataW H)} {ps : List MemPlace},
    DataW.TrodAll enc P w base spare held ts vs ds ps → (∀ p ∈ ps, w.sameAt w' p) → DataW.TrodAll enc P w' base spare held ts vs ds ps
  | [], [], [], _, h, _ => h
  | _ :: _, _ :: _, _ :: _, _, ⟨p, q, ⟨n, h1⟩, h2, e⟩, hs => ⟨p, q, ⟨n, DataW.trod_carry n _ _ _ h1 fun x hx => hs x (by rw [e]; exact List.mem_append_left _ hx)⟩,
      trodAll_carry h2 (fun x hx => hs x (by rw [e]; exact List.mem_append_right _ hx)), e⟩
theorem args_again {H : Type} {enc : TypeId × Value → H} {P : Program} {W W' : World} (hg : Kept W W') (kids : Kids P (· < P.types.size)) (fulls : ∀ t e, t < P.types.size → P.underlying t = some (.slice e) → 0 < P.cellsOf e)
    {ts : List TypeId} (hts : ∀ t ∈ ts, t < P.types.size) {vs : List Value} {ds : List (DataW H)} {ps : List MemPlace} (h : DataW.TrodAll enc P W 0 (fun _ => true) true ts vs ds ps) {sp : Nat → Bool} (hs : ∀ p ∈ ps, sp p.block = true) (hlt : ∀ p ∈ ps, p.block < W.heap.size) :
    DataW.TrodAll enc P W' 0 sp true ts vs ds ps :=
  trodAll_carry (DataW.TrodAll.respare kids fulls hts h hs) fun p hp => by
    have hb := hlt p hp
    have he := hg.same hb
    cases p with
    | cell b o => simp only [World.sameAt, World.cell?]; rw [show W'.heap[b]? = W.heap[b]? from he]
    | map b => exact he
end Go.Mo
namespace Go.Proofs.Ytldmeimebebllaa
open Go.Mo
set_option linter.unusedVariables false
theorem rsl_full {W : World} {a : Addr} {len cap : Nat} {cs : List Value} (hl : len ≤ cap) (hz : cs.length = len) (hc : ∀ i, i < len → W.cell? (a.add i) = cs[i]?) : (rsl 1 ⟨some a, len, cap⟩ cs).p (full W) := by
  by_cases h0 : len = 0
  · left
    exact ⟨h0, List.eq_nil_of_length_eq_zero (by omega)⟩
  · right
    have hc0 := hc 0 (by omega)
    have ha0 : a.add 0 = a := by simp [Addr.add]
    rw [ha0, List.getElem?_eq_getElem (by omega)] at hc0
    have hsp := World.cell?_spot hc0
    obtain ⟨b, off, sp⟩ := a
    simp only at hsp
    subst hsp
    unfold World.cell? at hc0
    cases hb : W.heap[b]? with
    | none => simp [hb] at hc0
    | some ob =>
      cases ob with
      | cells c e f =>
        refine ⟨⟨b, off, none⟩, c.toList, ent_prr (A := ro b c.toList) (B := ro b c.toList) ⟨rfl, by simpa using hz, hl, ?_⟩ (Ent.refl _) _ ⟨e, f, true, by simp [full, hb]⟩⟩
        apply List.ext_getElem?
        intro i
        simp only [Nat.mul_one]
        rw [List.getElem?_take]
        by_cases hi : i < len
        · rw [if_pos hi, List.getElem?_drop, ← hc i hi, Addr.add_mk]
          simp [World.cell?, hb]
        · rw [if_neg hi, List.getElem?_eq_none (by omega)]
      | _ => simp [hb] at hc0
end Go.Proofs.Ytldmeimebebllaa
namespace Go.Proofs.Ytldmeimebebllaa
open Go.Mo
set_option linter.unusedVariables false
theorem wf_i64 {n : Int} (h : (Lit.int .i64 n).wf = true) : -9223372036854775808 ≤ n ∧ n < 9223372036854775808 := by
  simp only [Lit.wf, Bool.and_eq_true, decide_eq_true_eq] at h
  have h1 : IntKind.i64.min = -9223372036854775808 := rfl
  have h2 : IntKind.i64.max = 9223372036854775807 := rfl
  omega
theorem wf_u8 {n : Int} (h : (Lit.int .u8 n).wf = true) : 0 ≤ n ∧ n < 256 := by
  simp only [Lit.wf, Bool.and_eq_true, decide_eq_true_eq] at h
  have h1 : IntKind.u8.min = 0 := rfl
  have h2 : IntKind.u8.max = 255 := rfl
  omega
theorem full_both {W : World} {A B : HP} (ha : A.p (full W)) (hb : B.p (full W)) : (A * B).p (full W) := by
  refine ⟨full W, full W, fun x => ?_, ?_, ha, hb⟩
  · cases h : full W x with
    | none => exact .inl rfl
    | some p =>
      right; right
      simp only [full, Option.map_eq_some_iff] at h
      obtain ⟨ob, _, rfl⟩ := h
      exact ⟨ob, rfl, rfl⟩
  · rw [Hp.un_self]; exact Hp.le_refl _
end Go.Proofs.Ytldmeimebebllaa
namespace Go.Proofs.Ytldmeimebebllaa
open Go.Mo Go.ChangeShapes Go.Deep 
set_option linter.unusedVariables false
theorem rsl_fullZ {W : World} {z : Nat} {a : Addr} {len cap : Nat} {cs : List Value} (hl : len ≤ cap) (hz : cs.length = len * z) (hzp : 0 < z) (hc : ∀ i, i < len * z → W.cell? (a.add i) = cs[i]?) : (rsl z ⟨some a, len, cap⟩ cs).p (full W) := by
  by_cases h0 : len = 0
  · left
    exact ⟨h0, List.eq_nil_of_length_eq_zero (by rw [hz, h0, Nat.zero_mul])⟩
  · right
    have hpos : 0 < len * z := Nat.mul_pos (by omega) hzp
    have hc0 := hc 0 hpos
    have ha0 : a.add 0 = a := by simp [Addr.add]
    rw [ha0, List.getElem?_eq_getElem (by omega)] at hc0
    have hsp := World.cell?_spot hc0
    obtain ⟨b, off, sp⟩ := a
    simp only at hsp
    subst hsp
    unfold World.cell? at hc0
    cases hb : W.heap[b]? with
    | none => simp [hb] at hc0
    | some ob =>
      cases ob with
      | cells c e f =>
        refine ⟨⟨b, off, none⟩, c.toList, ent_prr (A := ro b c.toList) (B := ro b c.toList) ⟨rfl, by simpa using hz, hl, ?_⟩ (Ent.refl _) _ ⟨e, f, true, by simp [full, hb]⟩⟩
        apply List.ext_getElem?
        intro i
        rw [List.getElem?_take]
        by_cases hi : i < len * z
        · rw [if_pos hi, List.getElem?_drop, ← hc i hi, Addr.add_mk]
          simp [World.cell?, hb]
        · rw [if_neg hi, List.getElem?_eq_none (by omega)]
      | _ => simp [hb] at hc0
section
variable {H : Type} {enc : TypeId × Value → H} {P : Program} {W : World} {base : Nat}
structure Flds (enc : TypeId × Value → H) (P : Program) (W : World) (base n : Nat) (fs : Array Field) (cs : List Value) (xs : List (DataW H × List MemPlace)) : Prop where
  each : ∀ (i : Nat) (f : Field), fs[i]? = some f → DataW.trod enc P W base (fun _ => true) true n f.type ((cs.drop f.offset).take (P.cellsOf f.type)) = xs[i]?
  len : xs.length = fs.size
theorem one_of {cs : List Value} {o : Nat} {v : Value} (h : (cs.drop o).take 1 = [v]) : cs[o]? = some v := by
  have := congrArg (fun l => l[0]?) h
  simpa using this
theorem Flds.int {n : Nat} {fs : Array Field} {cs : List Value} {xs : List (DataW H × List MemPlace)} (h : Flds enc P W base n fs cs xs) (i : Nat) {f : Field} (hf : fs[i]? = some f) (hu : P.underlying f.type = some (.int .i64)) (hc : P.cellsOf f.type = 1) :
    ∃ q : Int, cs[f.offset]? = some (.int .i64 q) ∧ (Lit.int .i64 q).wf = true := by
  have h1 := h.each i f hf
  rw [hc] at h1
  have hi : i < xs.length := by rw [h.len]; exact (Array.getElem?_eq_some_iff.1 hf).1
  rw [List.getElem?_eq_getElem hi] at h1
  obtain ⟨q, hq, _, hw⟩ := DataW.trod_int hu h1
  exact ⟨q, one_of hq, hw⟩
theorem Flds.slice {n : Nat} {fs : Array Field} {cs : List Value} {xs : List (DataW H × List MemPlace)} (h : Flds enc P W base n fs cs xs) (i : Nat) {f : Field} (hf : fs[i]? = some f) {e : TypeId} {k : IntKind} (hu : P.underlying f.type = some (.slice e)) (hc : P.cellsOf f.type = 1)
    (he : P.underlying e = some (.int k)) (hce : P.cellsOf e = 1) (hbe : 0 < P.bytesOf e) (hw : ∀ y, xs[i]? = some y → ∀ q ∈ y.1.weights P f.type, q ≤ reachBytes) :
    ∃ (s : Slc) (b : List Int), cs[f.offset]? = some (.slice s.base s.len s.cap) ∧ (rsl 1 s (b.map (Value.int k))).p (full W) ∧ (∀ q ∈ b, (Lit.int k q).wf = true) ∧ b.length ≤ 140737488355328 := by
  have h1 := h.each i f hf
  rw [hc] at h1
  have hi : i < xs.length := by rw [h.len]; exact (Array.getElem?_eq_some_iff.1 hf).1
  rw [List.getElem?_eq_getElem hi] at h1
  have hwi := hw _ (List.getElem?_eq_getElem hi)
  rcases open_ints hu he hce h1 with ⟨hcs, hx⟩ | ⟨a, len, cap, zs, hcs, hba, hle, hcap, hzl, hx, hcell, hwf⟩
  · exact ⟨⟨none, 0, 0⟩, [], one_of hcs, .inl ⟨rfl, rfl⟩, by simp, by simp⟩
  · have hzl' : zs.length = cap := by simpa using hzl
    refine ⟨⟨some a, len, cap⟩, zs.take len, one_of hcs, ?_, fun q hq => hwf q (List.mem_of_mem_take hq), ?_⟩
    · refine rsl_full hle (by simp; omega) fun j hj => ?_
      rw [hcell j (by omega), List.getElem?_map, List.getElem?_take, if_pos hj, List.getElem?_eq_getElem (by omega)]
      simp [List.getD_eq_getElem?_getD, List.getElem?_eq_getElem (show j < zs.length by omega)]
    · rw [hx] at hwi
      have := hwi (((lits (H := H) k (zs.take len)).length + (lits (H := H) k (zs.drop len)).length) * P.bytesOf e) (by simp [DataW.weights, hu])
      have h2 : reachBytes = 140737488351232 := rfl
      have h3 : (lits (H := H) k (zs.take len)).length + (lits (H := H) k (zs.drop len)).length = zs.length := by simp [lits]; omega
      rw [h3] at this
      have h4 : zs.length * 1 ≤ zs.length * P.bytesOf e := Nat.mul_le_mul_left _ hbe
      simp only [List.length_take]; omega
theorem struct_weights {e : TypeId} {fs : Array Field} {xs : List (DataW H × List MemPlace)} (he : P.underlying e = some (.struct fs)) (hs : ∀ q ∈ (DataW.agg (xs.map (·.1))).weights P e, q ≤ reachBytes) (i : Nat) {f : Field} (hf : fs[i]? = some f) :
    ∀ y, xs[i]? = some y → ∀ q ∈ y.1.weights P f.type, q ≤ reachBytes := by
  intro y hy q hq
  refine hs q ?_
  simp only [DataW.weights, he]
  refine DataW.weights_mem_each (j := i) (t := f.type) (d := y.1) ?_ ?_ q hq
  · rw [List.getElem?_map, Array.getElem?_toList, hf]; rfl
  · rw [List.getElem?_map, hy]; rfl
theorem all_weights {e : TypeId} {ds : List (DataW H)} {d : DataW H} (hd : d ∈ ds) {q : Nat} (hq : q ∈ d.weights P e) : q ∈ DataW.weightsAll P e ds := by
  induction ds with
  | nil => simp at hd
  | cons x ds ih =>
    simp only [DataW.weightsAll, List.mem_append]
    rcases List.mem_cons.1 hd with rfl | hd
    · exact .inl hq
    · exact .inr (ih hd)
theorem sized_arg {ts : List TypeId} {ds : List (DataW H)} {j : Nat} {t : TypeId} {d : DataW H} (h : (DataW.weightsEach P ts ds).all (· ≤ reachBytes) = true) (ht : ts[j]? = some t) (hd : ds[j]? = some d) : ∀ q ∈ d.weights P t, q ≤ reachBytes := fun q hq => by
  have := List.all_eq_true.1 h _ (DataW.weights_mem_each ht hd q hq)
  simpa using this
instance : Inhabited CallA := ⟨⟨0, 0, 0, ⟨none, 0, 0⟩, [], ⟨none, 0, 0⟩, []⟩⟩
theorem open_structs {γ : Type} [Inhabited γ] {cells : γ → List Value} {z : Nat} {ok : γ → Prop} {t e : TypeId} {fuel : Nat} {cs : List Value} {x : DataW H × List MemPlace} (hzp : 0 < z) (hcl : ∀ c, (cells c).length = z) (ht : P.underlying t = some (.slice e)) (hz : P.cellsOf e = z)
    (helem : ∀ (n : Nat) (cs : List Value) (x : DataW H × List MemPlace), DataW.trod enc P W base (fun _ => true) true n e cs = some x → (∀ q ∈ x.1.weights P e, q ≤ reachBytes) → ∃ c, cs = cells c ∧ ok c)
    (h : DataW.trod enc P W base (fun _ => true) true fuel t cs = some x) (hs : ∀ q ∈ x.1.weights P t, q ≤ reachBytes) :
    ∃ (s : Slc) (l : List γ), cs = [.slice s.base s.len s.cap] ∧ (rsl z s (l.flatMap cells)).p (full W) ∧ l.length = s.len ∧ ∀ c ∈ l, ok c := by
  rcases open_slice ht h with ⟨hcs, hx⟩ | ⟨a, len, cap, m, n, D, Pl, hcs, hb, hle, hcap, hm, hx, hel⟩
  · exact ⟨⟨none, 0, 0⟩, [], hcs, .inl ⟨rfl, rfl⟩, rfl, by simp⟩
  · have hm' : m = cap := by simpa using hm
    have hel' : ∀ i, i < len → ∃ c : γ, W.cells? base (a.add (i * z)) z = some (cells c) ∧ ok c := by
      intro i hi
      obtain ⟨cs', h1, h2⟩ := hel i (by omega)
      rw [hz] at h1
      obtain ⟨c, hc, hok⟩ := helem n cs' _ h2 (fun q hq => by
        refine hs q ?_
        rw [hx]
        simp only [DataW.weights, ht]
        refine List.mem_cons_of_mem _ (List.mem_append_left _ (all_weights (d := D i) ?_ hq))
        exact List.mem_map.2 ⟨i, List.mem_range.2 hi, rfl⟩)
      exact ⟨c, hc ▸ h1, hok⟩
    obtain ⟨f, hf⟩ := choose_lt hel'
    refine ⟨⟨some a, len, cap⟩, (List.range len).map f, hcs, ?_, by simp, fun c hc => ?_⟩
    · refine rsl_fullZ hle (by rw [flat_len hcl]; simp) hzp fun i hi => ?_
      have hq : i / z < len := (Nat.div_lt_iff_lt_mul hzp).2 hi
      have hr : i % z < z := Nat.mod_lt _ hzp
      obtain ⟨_, hlen, hcell⟩ := World.cells?_some (hf (i / z) hq).1
      have hc := hcell (i % z) hr
      rw [Addr.add_add] at hc
      have hsplit : i / z * z + i % z = i := by rw [Nat.mul_comm]; exact Nat.div_add_mod i z
      rw [hsplit] at hc
      rw [hc]
      have hg := flat_get hcl (l := (List.range len).map f) (n := i / z) (j := i % z) (c := f (i / z)) (by rw [List.getElem?_map, List.getElem?_range hq]; rfl) hr
      rw [hsplit] at hg
      exact hg.symm
    · obtain ⟨i, hi, rfl⟩ := List.mem_map.1 hc
      exact (hf i (List.mem_range.1 hi)).2
end
end Go.Proofs.Ytldmeimebebllaa
namespace Go.Proofs.Ytldmeimebebllaa
open Go.Mo Go.ChangeShapes Go.Deep 
set_option linter.unusedVariables false
section
variable {H : Type} {enc : TypeId × Value → H} {P : Program} {W : World} {base : Nat}
theorem Flds.g3 {n : Nat} {fs : Array Field} {cs : List Value} {xs : List (DataW H × List MemPlace)} (h : Flds enc P W base n fs cs xs) (i : Nat) {f k0 k1 k2 : Field} (hf : fs[i]? = some f) (hu : P.underlying f.type = some (.struct #[k0, k1, k2])) (hc : P.cellsOf f.type = 3)
    (ho : k0.offset = 0 ∧ k1.offset = 1 ∧ k2.offset = 2) (hk : P.cellsOf k0.type = 1 ∧ P.cellsOf k1.type = 1 ∧ P.cellsOf k2.type = 1) (hi : P.underlying k0.type = some (.int .i64) ∧ P.underlying k1.type = some (.int .i64) ∧ P.underlying k2.type = some (.int .i64)) :
    ∃ q : Int × Int × Int, cs[f.offset]? = some (.int .i64 q.1) ∧ cs[f.offset + 1]? = some (.int .i64 q.2.1) ∧ cs[f.offset + 2]? = some (.int .i64 q.2.2) := by
  have h1 := h.each i f hf
  rw [hc] at h1
  have hlt : i < xs.length := by rw [h.len]; exact (Array.getElem?_eq_some_iff.1 hf).1
  rw [List.getElem?_eq_getElem hlt] at h1
  obtain ⟨ys, n', _, hx, hl, hyl, hf'⟩ := DataW.trod_struct hu h1
  have F : Flds enc P W base n' #[k0, k1, k2] ((cs.drop f.offset).take 3) ys := ⟨hf', hyl⟩
  obtain ⟨q0, a0, _⟩ := F.int 0 (f := k0) rfl hi.1 hk.1
  obtain ⟨q1, a1, _⟩ := F.int 1 (f := k1) rfl hi.2.1 hk.2.1
  obtain ⟨q2, a2, _⟩ := F.int 2 (f := k2) rfl hi.2.2 hk.2.2
  rw [ho.1] at a0
  rw [ho.2.1] at a1
  rw [ho.2.2] at a2
  rw [List.getElem?_take, if_pos (by omega), List.getElem?_drop] at a0 a1 a2
  exact ⟨(q0, q1, q2), a0, a1, a2⟩
instance : Inhabited CallB := ⟨⟨0, 0, 0, ⟨none, 0, 0⟩, [], (0, 0, 0)⟩⟩
end
end Go.Proofs.Ytldmeimebebllaa
namespace Go.Proofs.Ytldmeimebebllaa
open Go.Mo Go.ChangeShapes Go.Deep 
set_option linter.unusedVariables false
section
variable {H : Type} {enc : TypeId × Value → H} {P : Program} {W : World} {base : Nat}
theorem list3 {cs : List Value} {a b c : Value} (hl : cs.length = 3) (h0 : cs[0]? = some a) (h1 : cs[1]? = some b) (h2 : cs[2]? = some c) : cs = [a, b, c] := by
  match cs, hl with
  | [_, _, _], _ => simp at h0 h1 h2; simp [h0, h1, h2]
instance : Inhabited BlkA := ⟨BlkA.nil⟩
theorem wf_byts {b : List Int} (h : ∀ q ∈ b, (Lit.int .u8 q).wf = true) : Byts b := fun n hn => wf_u8 (h n hn)
theorem open_blocks {t e eb : TypeId} {f0 f1 f2 : Field} {fuel : Nat} {cs : List Value} {x : DataW H × List MemPlace} (ht : P.underlying t = some (.slice e)) (hz : P.cellsOf e = 3) (he : P.underlying e = some (.struct #[f0, f1, f2]))
    (ho : f0.offset = 0 ∧ f1.offset = 1 ∧ f2.offset = 2)
    (hc : P.cellsOf f0.type = 1 ∧ P.cellsOf f1.type = 1 ∧ P.cellsOf f2.type = 1)
    (hi : P.underlying f0.type = some (.int .i64) ∧ P.underlying f1.type = some (.int .i64))
    (h3 : P.underlying f2.type = some (.slice eb) ∧ P.underlying eb = some (.int .u8) ∧ P.cellsOf eb = 1 ∧ 0 < P.bytesOf eb)
    (h : DataW.trod enc P W base (fun _ => true) true fuel t cs = some x) (hs : ∀ q ∈ x.1.weights P t, q ≤ reachBytes) :
    ∃ (s : Slc) (l : List BlkA), cs = [.slice s.base s.len s.cap] ∧ (blocksP s l).p (full W) := by
  obtain ⟨s, l, hcs, hr, hlen, hok⟩ := open_structs (γ := BlkA) (cells := BlkA.cells) (z := 3) (ok := fun c => (blkP c).p (full W)) (by decide) cellsK_len ht hz (fun n cs x hx hw => by
    obtain ⟨xs, n', _, rfl, hl, hxl, hf⟩ := DataW.trod_struct he hx
    have F : Flds enc P W base n' #[f0, f1, f2] cs xs := ⟨hf, hxl⟩
    obtain ⟨q0, a0, w0⟩ := F.int 0 (f := f0) rfl hi.1 hc.1
    obtain ⟨q1, a1, w1⟩ := F.int 1 (f := f1) rfl hi.2 hc.2.1
    obtain ⟨s3, b3, a3, r3, w3, n3⟩ := F.slice 2 (f := f2) rfl h3.1 hc.2.2 h3.2.1 h3.2.2.1 h3.2.2.2 (struct_weights he hw 2 rfl)
    rw [ho.1] at a0
    rw [ho.2.1] at a1
    rw [ho.2.2] at a3
    refine ⟨⟨q0, q1, s3, b3⟩, list3 (by rw [hl, hz]) a0 a1 a3, ?_⟩
    exact full_both (A := pr _) ⟨wf_byts w3, n3, (wf_i64 w0).2, (wf_i64 w1).2⟩ r3) h hs
  refine ⟨s, l, hcs, full_both (full_both (A := pr True) trivial hr) fun i c => ?_⟩
  exact fun hc => hok c (List.mem_of_getElem? hc)
end
end Go.Proofs.Ytldmeimebebllaa
namespace Go.Proofs.Ytldmeimebebllaa
open Go.Mo Go.ChangeShapes Go.Deep 
set_option linter.unusedVariables false
section
variable {H : Type} {enc : TypeId × Value → H} {P : Program} {W : World} {base : Nat}
theorem slice_few {t e : TypeId} {fuel : Nat} {cs : List Value} {x : DataW H × List MemPlace} (ht : P.underlying t = some (.slice e)) (hbe : 0 < P.bytesOf e) (h : DataW.trod enc P W base (fun _ => true) true fuel t cs = some x) (hs : ∀ q ∈ x.1.weights P t, q ≤ reachBytes) {s : Slc} (hc : cs = [.slice s.base s.len s.cap]) : s.len ≤ 140737488355328 := by
  rcases open_slice ht h with ⟨hcs, hx⟩ | ⟨a, len, cap, m, n, D, Pl, hcs, hb, hle, hcap, hm, hx, hel⟩
  · rw [hcs] at hc
    obtain ⟨-, h1, -⟩ : none = s.base ∧ 0 = s.len ∧ 0 = s.cap := by simpa using hc
    omega
  · rw [hcs] at hc
    obtain ⟨-, h1, -⟩ : some a = s.base ∧ len = s.len ∧ cap = s.cap := by simpa using hc
    have hm' : m = cap := by simpa using hm
    have h2 := hs (((List.range len).length + (List.range (m - len)).length) * P.bytesOf e) (by rw [hx]; simp [DataW.weights, ht])
    have h3 : reachBytes = 140737488351232 := rfl
    simp only [List.length_range] at h2
    have h4 : (len + (m - len)) * 1 ≤ (len + (m - len)) * P.bytesOf e := Nat.mul_le_mul_left _ hbe
    omega
theorem list9 {cs : List Value} {a b c d e f k l m : Value} (hl : cs.length = 9) (h0 : cs[0]? = some a) (h1 : cs[1]? = some b) (h2 : cs[2]? = some c) (h3 : cs[3]? = some d) (h4 : cs[4]? = some e) (h5 : cs[5]? = some f) (h6 : cs[6]? = some k) (h7 : cs[7]? = some l) (h8 : cs[8]? = some m) : cs = [a, b, c, d, e, f, k, l, m] := by
  match cs, hl with
  | [_, _, _, _, _, _, _, _, _], _ => simp at h0 h1 h2 h3 h4 h5 h6 h7 h8; simp [h0, h1, h2, h3, h4, h5, h6, h7, h8]
instance : Inhabited CallS := ⟨⟨0, 0, 0, 0, ⟨none, 0, 0⟩, [], ⟨none, 0, 0⟩, [], (0, 0, 0)⟩⟩
theorem open_callsS {t e eb ek tk : TypeId} {f0 f1 f2 f3 f4 f5 f6 k0 k1 k2 b0 b1 b2 : Field} {fuel : Nat} {cs : List Value} {x : DataW H × List MemPlace} (ht : P.underlying t = some (.slice e)) (hz : P.cellsOf e = 9) (he : P.underlying e = some (.struct #[f0, f1, f2, f3, f4, f5, f6]))
    (ho : f0.offset = 0 ∧ f1.offset = 1 ∧ f2.offset = 2 ∧ f3.offset = 3 ∧ f4.offset = 4 ∧ f5.offset = 5 ∧ f6.offset = 6)
    (hc : P.cellsOf f0.type = 1 ∧ P.cellsOf f1.type = 1 ∧ P.cellsOf f2.type = 1 ∧ P.cellsOf f3.type = 1 ∧ P.cellsOf f4.type = 1 ∧ P.cellsOf f5.type = 1 ∧ P.cellsOf f6.type = 3)
    (hi : P.underlying f0.type = some (.int .i64) ∧ P.underlying f1.type = some (.int .i64) ∧ P.underlying f2.type = some (.int .i64) ∧ P.underlying f3.type = some (.int .i64))
    (h3 : P.underlying f5.type = some (.slice eb) ∧ P.underlying eb = some (.int .u8) ∧ P.cellsOf eb = 1 ∧ 0 < P.bytesOf eb)
    (hu : P.underlying f6.type = some (.struct #[k0, k1, k2])) (hok : k0.offset = 0 ∧ k1.offset = 1 ∧ k2.offset = 2) (hk : P.cellsOf k0.type = 1 ∧ P.cellsOf k1.type = 1 ∧ P.cellsOf k2.type = 1) (hik : P.underlying k0.type = some (.int .i64) ∧ P.underlying k1.type = some (.int .i64) ∧ P.underlying k2.type = some (.int .i64))
    (tb : P.underlying f4.type = some (.slice ek)) (hbz : P.cellsOf ek = 3) (hbe : 0 < P.bytesOf ek) (hbs : P.underlying ek = some (.struct #[b0, b1, b2]))
    (hbo : b0.offset = 0 ∧ b1.offset = 1 ∧ b2.offset = 2)
    (hbc : P.cellsOf b0.type = 1 ∧ P.cellsOf b1.type = 1 ∧ P.cellsOf b2.type = 1)
    (hbi : P.underlying b0.type = some (.int .i64) ∧ P.underlying b1.type = some (.int .i64))
    (hb3 : P.underlying b2.type = some (.slice tk) ∧ P.underlying tk = some (.int .u8) ∧ P.cellsOf tk = 1 ∧ 0 < P.bytesOf tk)
    (h : DataW.trod enc P W base (fun _ => true) true fuel t cs = some x) (hs : ∀ q ∈ x.1.weights P t, q ≤ reachBytes) :
    ∃ (s : Slc) (l : List CallS), cs = [.slice s.base s.len s.cap] ∧ (callsS s l).p (full W) := by
  obtain ⟨s, l, hcs, hr, hlen, hok⟩ := open_structs (γ := CallS) (cells := CallS.cells) (z := 9) (ok := fun c => (callS c).p (full W)) (by decide) cellsS_len ht hz (fun n cs x hx hw => by
    obtain ⟨xs, n', _, rfl, hl, hxl, hf⟩ := DataW.trod_struct he hx
    have F : Flds enc P W base n' #[f0, f1, f2, f3, f4, f5, f6] cs xs := ⟨hf, hxl⟩
    obtain ⟨q0, a0, _⟩ := F.int 0 (f := f0) rfl hi.1 hc.1
    obtain ⟨q1, a1, _⟩ := F.int 1 (f := f1) rfl hi.2.1 hc.2.1
    obtain ⟨q2, a2, _⟩ := F.int 2 (f := f2) rfl hi.2.2.1 hc.2.2.1
    obtain ⟨q3, a3, w3⟩ := F.int 3 (f := f3) rfl hi.2.2.2 hc.2.2.2.1
    obtain ⟨s5, b5, a5, r5, w5, n5⟩ := F.slice 5 (f := f5) rfl h3.1 hc.2.2.2.2.2.1 h3.2.1 h3.2.2.1 h3.2.2.2 (struct_weights he hw 5 rfl)
    obtain ⟨q6, a6, a7, a8⟩ := F.g3 6 (f := f6) rfl hu hc.2.2.2.2.2.2 hok hk hik
    have h1 := F.each 4 f4 rfl
    rw [hc.2.2.2.2.1] at h1
    have hi4 : 4 < xs.length := by rw [F.len]; exact (Array.getElem?_eq_some_iff.1 (show (#[f0, f1, f2, f3, f4, f5, f6] : Array Field)[4]? = some f4 from rfl)).1
    rw [List.getElem?_eq_getElem hi4] at h1
    have hw4 := struct_weights he hw 4 (f := f4) rfl _ (List.getElem?_eq_getElem hi4)
    obtain ⟨s4, l4, hc4, hp4⟩ := open_blocks tb hbz hbs hbo hbc hbi hb3 h1 hw4
    have few := slice_few tb hbe h1 hw4 hc4
    have a4 := one_of hc4
    have hl4 : l4.length = s4.len := blocksP_len s4 l4 _ hp4
    rw [ho.1] at a0
    rw [ho.2.1] at a1
    rw [ho.2.2.1] at a2
    rw [ho.2.2.2.1] at a3
    rw [ho.2.2.2.2.1] at a4
    rw [ho.2.2.2.2.2.1] at a5
    rw [ho.2.2.2.2.2.2] at a6 a7 a8
    refine ⟨⟨q0, q1, q2, q3, s4, l4, s5, b5, q6⟩, list9 (by rw [hl, hz]) a0 a1 a2 a3 a4 a5 a6 a7 a8, ?_⟩
    exact full_both (full_both (A := pr _) ⟨(wf_i64 w3).2, n5, wf_byts w5, by rw [hl4]; exact few⟩ r5) hp4) h hs
  refine ⟨s, l, hcs, full_both hr fun i c => ?_⟩
  exact fun hc => hok c (List.mem_of_getElem? hc)
end
end Go.Proofs.Ytldmeimebebllaa
