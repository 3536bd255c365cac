/-
  A part of the proof: predicate transformers over the model, and a separation logic over them; what functions of the program do.
-/
import Derived.Test.YtldmeimebebllaaPart2
import Derived.ChangeReads
import Derived.ReadAgain
import Derived.Deep.Frames
import Derived.RowKit3
import Derived.ChangeSame
import Derived.ChangeSlices
import Derived.SizedLaws
import Derived.Deep.Slices
set_option linter.unusedSimpArgs false
namespace Go.Proofs.Ytldmeimebebllaa
open Go.Mo
set_option linter.unusedVariables false
variable {g : Fr} {cv : CV}
abbrev Q3 : G3 := (3, 3, 12)
theorem nBlk3 : nBlk Q3 = 6 := rfl
structure EncD (seq : Int) (l : List BlkA) : Prop where
  all : encAll seq l 6 = true
  byts : ∀ c ∈ l, Byts c.data
theorem EncD.ok {seq : Int} {l : List BlkA} (h : EncD seq l) {k : Nat} (hk : k < 6) : encOk seq (blkAt l k).owner (blkAt l k).index (blkAt l k).data := encAll_iff.1 h.all k hk
theorem blkAt_byts {l : List BlkA} (h : ∀ c ∈ l, Byts c.data) (k : Nat) : Byts (blkAt l k).data := by
  unfold blkAt
  by_cases hk : k < l.length
  · rw [List.getD_eq_getElem?_getD, List.getElem?_eq_getElem hk]; exact h _ (List.getElem_mem hk)
  · rw [List.getD_eq_getElem?_getD, List.getElem?_eq_none (by omega)]; exact fun n hn => by simp [BlkA.nil] at hn
theorem EncD.len {seq : Int} {l : List BlkA} (h : EncD seq l) {k : Nat} (hk : k < 6) : (encAt seq l k).length = 64 := encL_len (h.ok hk).2.2.2
theorem EncD.by {seq : Int} {l : List BlkA} (h : EncD seq l) (k : Nat) : Byts (encAt seq l k) := encL_byts (blkAt_byts h.byts k)
theorem encAt_take {seq : Int} {l : List BlkA} {k : Nat} : (encAt seq l k).take 4 = putL 4 seq := encL_take
theorem dat_blk {seq : Int} {l : List BlkA} {r i : Nat} (hi : i < 2) : datAt Q3 seq l r i = encAt seq l (r * 2 + i) := by
  unfold datAt
  rw [show ((Q3.1 - 1).toNat) = 2 from rfl, if_pos hi]
theorem dat_par {seq : Int} {l : List BlkA} {r : Nat} (h : EncD seq l) (hr : r < 3) : datAt Q3 seq l r 2 = par2 (encAt seq l (r * 2)) (encAt seq l (r * 2 + 1)) := by
  unfold datAt
  rw [show ((Q3.1 - 1).toNat) = 2 from rfl, if_neg (by decide)]
  have e : rowL Q3 seq l r = [encAt seq l (r * 2), encAt seq l (r * 2 + 1)] := by
    unfold rowL
    rw [show ((Q3.1 - 1).toNat) = 2 from rfl]
    rfl
  rw [e, parL2 (h.len (by omega)) (h.len (by omega)) (by rw [encAt_take, encAt_take])]; rfl
structure DatOk (seq : Int) (d : List Int) : Prop where
  len : d.length = 64
  byts : Byts d
  take : d.take 4 = putL 4 seq
theorem EncD.dat {seq : Int} {l : List BlkA} (h : EncD seq l) {r i : Nat} (hr : r < 3) (hi : i < 3) : DatOk seq (datAt Q3 seq l r i) := by
  have h1 := h.len (k := r * 2) (by omega)
  have h2 := h.len (k := r * 2 + 1) (by omega)
  have ht : (encAt seq l (r * 2 + 1)).take 4 = (encAt seq l (r * 2)).take 4 := by rw [encAt_take, encAt_take]
  by_cases h3 : i < 2
  · rw [dat_blk h3]
    exact ⟨h.len (by omega), h.by _, encAt_take⟩
  · obtain rfl : i = 2 := by omega
    rw [dat_par h hr]
    exact ⟨par2_len h1, par2_byts (h.by _) (h.by _) h1 h2 ht, by rw [par2_take h1, encAt_take]⟩
theorem DatOk.head {seq : Int} {d : List Int} (h : DatOk seq d) (hs : fitsN 4 seq) : (headOf d).1 = seq := by
  rw [headOf, if_pos h.len]
  show getB d 0 4 = seq
  unfold getB
  rw [List.drop_zero, h.take, getL_fits hs]
theorem rowW3 (seg : Nat) (seq : Int) (l : List BlkA) (r : Nat) : rowW Q3 seg seq l r = (List.range 3).map fun i => (spt seg r i, datAt Q3 seq l r i) := by
  unfold rowW
  rw [show Q3.1.toNat = 3 from rfl]
  have := spotsL_small seg r
  rw [this]
  rfl
theorem restW3 (seg : Nat) (seq : Int) (l : List BlkA) : restW Q3 seg seq l 0 = (List.range 9).map fun t => (spt seg (t / 3) (t % 3), datAt Q3 seq l (t / 3) (t % 3)) := by
  unfold restW
  rw [List.drop_zero, show Q3.2.1.toNat = 3 from rfl]
  show rowW Q3 seg seq l 0 ++ (rowW Q3 seg seq l 1 ++ (rowW Q3 seg seq l 2 ++ [])) = _
  rw [rowW3, rowW3, rowW3]
  rfl
theorem allS3 (seg : Nat) : allS Q3 seg 0 = (List.range 9).map fun t => spt seg (t / 3) (t % 3) := by
  unfold allS
  rw [List.drop_zero, show Q3.2.1.toNat = 3 from rfl]
  show spotsL Q3 seg ((0 : Nat)) ++ (spotsL Q3 seg ((1 : Nat)) ++ (spotsL Q3 seg ((2 : Nat)) ++ [])) = _
  rw [spotsL_small, spotsL_small, spotsL_small]
  rfl
theorem restW_nodup (seg : Nat) (seq : Int) (l : List BlkA) : ((restW Q3 seg seq l 0).map (·.1)).Nodup := by
  rw [restW3, List.map_map, List.Nodup, List.pairwise_map]
  refine List.Pairwise.imp_of_mem ?_ List.pairwise_lt_range
  intro a b ha hb hlt h
  have ha' : a < 9 := List.mem_range.1 ha
  have hb' : b < 9 := List.mem_range.1 hb
  have := spt_inj (by omega) (by omega) (by omega) (by omega) h
  omega
def Seg (m : G3) (R : Rk) (seg : Nat) (seq : Int) (l : List BlkA) : Prop := ∀ r i, r < 3 → i < 3 → (R.dk (slotV Q3 m (spt seg r i).1).1.toNat).sec (spt seg r i).2 = datAt Q3 seq l r i
theorem spt_slot {seg r i : Nat} (hs : seg < 12) (hr : r < 3) (hi : i < 3) : ∃ j : Nat, j < 3 ∧ (spt seg r i).1 = (j : Int) := ⟨(spt seg r i).1.toNat, by have := (spt_rng hs hr hi).1; omega, by have := (spt_rng hs hr hi).1; omega⟩
theorem seg_wrote {m : G3} {R : Rk} {seg : Nat} {seq : Int} {l : List BlkA} (hs : seg < 12) (h : EncD seq l) (hc : Calm R) (hn : R.n = 4) (hns : R.ns = 41) :
    (wrAll Q3 m (restW Q3 seg seq l 0) R).2 = false ∧ Wrote m (restW Q3 seg seq l 0) R (wrAll Q3 m (restW Q3 seg seq l 0) R).1 ∧ Seg m (wrAll Q3 m (restW Q3 seg seq l 0) R).1 seg seq l ∧
      (R.bys → (wrAll Q3 m (restW Q3 seg seq l 0) R).1.bys) ∧ ∀ seg' seq' l', seg' < 12 → seg' ≠ seg → Seg m R seg' seq' l' → Seg m (wrAll Q3 m (restW Q3 seg seq l 0) R).1 seg' seq' l' := by
  have hmem : ∀ e ∈ restW Q3 seg seq l 0, ∃ r i, r < 3 ∧ i < 3 ∧ e = (spt seg r i, datAt Q3 seq l r i) := fun e he => by
    rw [restW3, List.mem_map] at he
    obtain ⟨t, ht, rfl⟩ := he
    have := List.mem_range.1 ht
    exact ⟨t / 3, t % 3, by omega, by omega, rfl⟩
  have hw := wr_calm m (restW Q3 seg seq l 0) R hc hn hns (fun e he => by
    obtain ⟨r, i, hr, hi, rfl⟩ := hmem e he
    have hrg := spt_rng hs hr hi
    exact ⟨hrg.1, ⟨by have := hrg.2.1; show 0 ≤ (spt seg r i).2; omega, hrg.2.2⟩, (h.dat hr hi).len⟩)
  refine ⟨hw.1, hw.2, fun r i hr hi => ?_, fun hby => hw.2.bys hby fun e he => ?_, fun seg' seq' l' hs' hne hold r i hr hi => ?_⟩
  · obtain ⟨j, hj, hje⟩ := spt_slot hs hr hi
    rw [hje, hw.2.sec j _ hj]
    refine lastW_mem (restW_nodup seg seq l) ?_
    rw [restW3, List.mem_map]
    refine ⟨r * 3 + i, List.mem_range.2 (by omega), ?_⟩
    rw [show (r * 3 + i) / 3 = r by omega, show (r * 3 + i) % 3 = i by omega, ← hje]
  · obtain ⟨r, i, hr, hi, rfl⟩ := hmem e he
    exact (h.dat hr hi).byts
  · obtain ⟨j, hj, hje⟩ := spt_slot hs' hr hi
    rw [hje, hw.2.sec j _ hj, lastW_not, ← hje]
    · exact hold r i hr hi
    · intro e he heq
      obtain ⟨r', i', hr', hi', rfl⟩ := hmem e he
      rw [← hje] at heq
      have := spt_inj (seg := seg) (seg' := seg') hr' hr hi' hi heq
      omega
end Go.Proofs.Ytldmeimebebllaa
namespace Go.Proofs.Ytldmeimebebllaa
open Go.Mo
set_option linter.unusedVariables false
variable {g : Fr} {cv : CV}
theorem tick_same (D : Dk) : D.tick.cached = D.cached ∧ D.tick.lasts = D.lasts := by
  unfold Dk.tick
  repeat' split
  all_goals exact ⟨rfl, rfl⟩
structure SameS (R R1 : Rk) : Prop where
  sec : ∀ j (s : Nat), (R1.dk j).sec (s : Int) = (R.dk j).sec (s : Int)
  bys : R.bys → R1.bys
  n : R1.n = R.n
  ns : R1.ns = R.ns
theorem SameS.refl (R : Rk) : SameS R R := ⟨fun _ _ => rfl, id, rfl, rfl⟩
theorem SameS.trans {A B C : Rk} (h : SameS A B) (h' : SameS B C) : SameS A C := ⟨fun j s => (h'.sec j s).trans (h.sec j s), fun x => h'.bys (h.bys x), h'.n.trans h.n, h'.ns.trans h.ns⟩
theorem SameS.ticked (R : Rk) : SameS R R.ticked := by
  unfold Rk.ticked
  split
  · exact ⟨fun _ _ => rfl, fun h => h, rfl, rfl⟩
  · refine ⟨fun j s => ?_, fun h j => ?_, rfl, rfl⟩
    · show ((R.dk j).tick).sec s = _
      unfold Dk.sec
      rw [(tick_same _).1, (tick_same _).2]
    · have := tick_same (R.dk j)
      show (R.dk j).tick.bys
      unfold Dk.bys
      rw [this.1, this.2]
      exact h j
theorem SameS.gated (R : Rk) (k s size : Int) : SameS R (R.gated k s size) := by
  unfold Rk.gated
  split
  · exact .refl R
  · exact .ticked R
theorem clean_sec (D : Dk) (s : Nat) : ((D.flushed fun _ => true).clean).sec (s : Int) = D.sec (s : Int) := by
  simp only [Dk.flushed, Dk.clean, Dk.sec, Int.toNat_natCast]
  cases D.cached (s : Int) <;> rfl
theorem clean_bys {D : Dk} (h : D.bys) (p : Int → Bool) : ((D.flushed p).clean).bys := by
  refine ⟨fun k => ?_, fun j b hb => by simp [Dk.clean] at hb⟩
  simp only [Dk.flushed, Dk.clean]
  cases hc : D.cached (k : Int) with
  | none => exact h.1 k
  | some b =>
    simp only
    split
    · exact h.2 _ _ hc
    · exact h.1 k
theorem SameS.flush (R : Rk) (k : Int) : SameS R (R.flush k) := by
  unfold Rk.flush
  have hg := SameS.gated R k 0 64
  split
  · refine hg.trans ⟨fun j s => ?_, fun h j => ?_, rfl, rfl⟩
    · simp only [Rk.setD]
      split
      · rename_i hj; subst hj; exact clean_sec _ s
      · rfl
    · simp only [Rk.setD]
      split
      · exact clean_bys (h _) _
      · exact h j
  · exact hg
theorem SameS.flushL : ∀ (xs : List Int) (R : Rk), SameS R (flushL xs R).1
  | [], R => .refl R
  | d :: xs, R => by
    unfold Go.Proofs.Ytldmeimebebllaa.flushL
    split
    · exact .flush R d
    · exact (SameS.flush R d).trans (SameS.flushL xs _)
theorem SameS.doom (R : Rk) (k c : Int) : SameS R (R.doom k c) := by
  unfold Rk.doom
  split
  · exact .refl R
  · refine ⟨fun j s => ?_, fun h j => ?_, rfl, rfl⟩
    · simp only [Rk.setD]
      split
      · rename_i hj; subst hj; rfl
      · rfl
    · simp only [Rk.setD]
      split
      · rename_i hj; subst hj; exact h _
      · exact h j
theorem Seg.same {m : G3} {R R1 : Rk} {seg : Nat} {seq : Int} {l : List BlkA} (h : Seg m R seg seq l) (hs : SameS R R1) : Seg m R1 seg seq l := fun r i hr hi => by
  have e : (spt seg r i).2 = ((5 + (seg * 3 + r) : Nat) : Int) := rfl
  rw [← h r i hr hi, e, hs.sec]
theorem armed_doom {R : Rk} (h : Calm R) {f : Int} (hf : 0 ≤ f ∧ f < R.n) : Armed (R.doom f 0) (fun j => decide (j = f.toNat)) := by
  unfold Rk.doom
  rw [if_neg (by omega)]
  refine ⟨h.off, h.count, fun j => ?_, fun j => ?_⟩
  · simp only [Rk.setD]; split <;> simp [h.failed]
  · simp only [Rk.setD]
    by_cases hj : j = f.toNat
    · subst hj; simp [maxI]
    · simp [hj, h.counts]
theorem sec_brd {m : G3} {R : Rk} {f : Nat → Bool} (h : Settled R f) (hn : R.n = 4) (hns : R.ns = 41) {s : Int × Int} (h1 : 0 ≤ s.1 ∧ s.1 < 3) (h2 : 0 ≤ s.2 ∧ s.2 < 41) :
    brdE Q3 m R s = (if f (slotV Q3 m s.1).1.toNat = true then 13 else 0) ∧ (f (slotV Q3 m s.1).1.toNat = false → brd Q3 m R s = (R.dk (slotV Q3 m s.1).1.toNat).sec s.2) := by
  obtain ⟨i, hi⟩ : ∃ i : Nat, s.1 = (i : Int) := ⟨s.1.toNat, by omega⟩
  have hi3 : i < 3 := by omega
  have hsl := slotV_in m i hi3
  have hrg : 0 ≤ (slotV Q3 m i).1 ∧ (slotV Q3 m i).1 < 4 := slot_range m i hi3
  unfold brdE brd
  rw [hi]
  have hr : ¬ ((slotV Q3 m i).1 < 0 ∨ (slotV Q3 m i).1 ≥ (R.n : Int) ∨ s.2 < 0 ∨ s.2 ≥ (R.ns : Int)) := by
    rw [hn, hns]
    omega
  have hE : R.rdErr (slotV Q3 m i).1 s.2 = if f (slotV Q3 m i).1.toNat = true then 13 else 0 := by
    unfold Rk.rdErr
    rw [if_neg (by simp [h.off]), if_neg hr, h.failed]
  rw [show (slotV Q3 m i).2 = true from hsl.1, if_pos rfl, if_pos rfl]
  refine ⟨hE, fun hf => ?_⟩
  unfold Rk.rd
  rw [hE, hf]
  simp
end Go.Proofs.Ytldmeimebebllaa
namespace Go.Proofs.Ytldmeimebebllaa
open Go.Mo
set_option linter.unusedVariables false
variable {g : Fr} {cv : CV}
structure SegF (m : G3) (R : Rk) (f : Nat → Bool) (seg : Nat) (seq : Int) (l : List BlkA) : Prop where
  set : Settled R f
  n : R.n = 4
  ns : R.ns = 41
  there : Seg m R seg seq l
  enc : EncD seq l
  s12 : seg < 12
  fit : fitsN 4 seq
def lostS (m : G3) (f : Nat → Bool) (i : Nat) : Bool := f (slotV Q3 m i).1.toNat
theorem SegF.good {m : G3} {R : Rk} {f : Nat → Bool} {seg : Nat} {seq : Int} {l : List BlkA} (h : SegF m R f seg seq l) {r i : Nat} (hr : r < 3) (hi : i < 3) :
    goodV Q3 m R (spt seg r i) seq = if lostS m f (spt seg r i).1.toNat = true then ([], false) else (datAt Q3 seq l r i, true) := by
  have hrg := spt_rng h.s12 hr hi
  have hb := sec_brd (m := m) h.set h.n h.ns (s := spt seg r i) hrg.1 (by omega)
  have hL : lostS m f (spt seg r i).1.toNat = f (slotV Q3 m (spt seg r i).1).1.toNat := by
    unfold lostS
    rw [show (((spt seg r i).1.toNat : Nat) : Int) = (spt seg r i).1 by omega]
  unfold goodV
  rw [hL, hb.1]
  cases hf : f (slotV Q3 m (spt seg r i).1).1.toNat with
  | true => simp
  | false =>
    rw [hb.2 hf, h.there r i hr hi]
    have := ((h.enc.dat hr hi).head h.fit)
    simp [this]
def oneLost (m : G3) (f : Nat → Bool) : Prop := ∀ i j, i < 3 → j < 3 → lostS m f i = true → lostS m f j = true → i = j
theorem spt_ne {seg r i j : Nat} (hr : r < 3) (hi : i < 3) (hj : j < 3) (h : i ≠ j) : spt seg r i ≠ spt seg r j := fun e => h (spt_inj hr hr hi hj e).2.2
theorem spt_slot_ne {seg r i j : Nat} (hr : r < 3) (hi : i < 3) (hj : j < 3) (hs : seg < 12) (h : i ≠ j) : (spt seg r i).1.toNat ≠ (spt seg r j).1.toNat := fun e => by
  have h1 := (spt_rng hs hr hi).1
  have h2 := (spt_rng hs hr hj).1
  exact spt_ne (seg := seg) hr hi hj h (Prod.ext (by omega) rfl)
theorem SegF.oth {m : G3} {R : Rk} {f : Nat → Bool} {seg : Nat} {seq : Int} {l : List BlkA} (h : SegF m R f seg seq l) {r i : Nat} (hr : r < 3) (hi : i < 3) (ho : ∀ j, j < 3 → j ≠ i → lostS m f (spt seg r j).1.toNat = false) :
    othV Q3 m R (spt seg r i) seq (spotsL Q3 seg r) = (datAt Q3 seq l r i, true) := by
  have hg : ∀ j, j < 3 → j ≠ i → goodV Q3 m R (spt seg r j) seq = (datAt Q3 seq l r j, true) := fun j hj hne => by
    rw [h.good hr hj, ho j hj hne]; simp
  have hs := spotsL_small seg r
  rw [show spotsL Q3 seg r = [spt seg r 0, spt seg r 1, spt seg r 2] from hs]
  have h0 := h.enc.dat (r := r) (i := 0) hr (by decide)
  have h1 := h.enc.dat (r := r) (i := 1) hr (by decide)
  have e0 : datAt Q3 seq l r 0 = encAt seq l (r * 2) := dat_blk (by decide)
  have e1 : datAt Q3 seq l r 1 = encAt seq l (r * 2 + 1) := dat_blk (by decide)
  have ht : (encAt seq l (r * 2 + 1)).take 4 = (encAt seq l (r * 2)).take 4 := by rw [encAt_take, encAt_take]
  have l0 : (encAt seq l (r * 2)).length = 64 := e0 ▸ h0.len
  have l1 : (encAt seq l (r * 2 + 1)).length = 64 := e1 ▸ h1.len
  have hp := dat_par h.enc hr
  unfold othV
  have hi' : i = 0 ∨ i = 1 ∨ i = 2 := by omega
  rcases hi' with rfl | rfl | rfl
  · have n1 := spt_ne (seg := seg) hr (i := 1) (j := 0) (by decide) (by decide) (by decide)
    have n2 := spt_ne (seg := seg) hr (i := 2) (j := 0) (by decide) (by decide) (by decide)
    simp only [othL, if_true, if_neg n1, if_neg n2, hg 1 (by decide) (by decide), hg 2 (by decide) (by decide), Option.map_some]
    rw [e1, hp, e0, lost1 l0 l1 ht (h.enc.by _)]; rfl
  · have n1 := spt_ne (seg := seg) hr (i := 0) (j := 1) (by decide) (by decide) (by decide)
    have n2 := spt_ne (seg := seg) hr (i := 2) (j := 1) (by decide) (by decide) (by decide)
    simp only [othL, if_true, if_neg n1, if_neg n2, hg 0 (by decide) (by decide), hg 2 (by decide) (by decide), Option.map_some]
    rw [e0, hp, e1, lost2 l0 l1 ht (h.enc.by _)]; rfl
  · have n1 := spt_ne (seg := seg) hr (i := 0) (j := 2) (by decide) (by decide) (by decide)
    have n2 := spt_ne (seg := seg) hr (i := 1) (j := 2) (by decide) (by decide) (by decide)
    simp only [othL, if_true, if_neg n1, if_neg n2, hg 0 (by decide) (by decide), hg 1 (by decide) (by decide), Option.map_some]
    rw [e0, e1, parL2 l0 l1 ht, hp]; rfl
theorem blkSpot3 {seg k : Nat} (hk : k < 6) : blkSpot Q3 seg k = spt seg (k / 2) (k % 2) ∧ ((k : Int) / (Q3.1 - 1)).toNat = k / 2 := by
  refine ⟨?_, ?_⟩
  · have hs := spotsL_small seg (k / 2)
    have e : blkSpot Q3 seg k = (spotsL Q3 seg ((k / 2 : Nat))).getD (k % 2) (0, 0) := by
      unfold spotsL
      rw [show ((Q3.1 - 1).toNat) = 2 from rfl]
      have hlt : k % 2 < 2 := Nat.mod_lt _ (by decide)
      rw [List.getD_eq_getElem?_getD, List.getElem?_append_left (by simp; omega), List.getElem?_map, List.getElem?_range hlt]
      show _ = blkSpot Q3 seg (((k / 2 : Nat) : Int) * (3 - 1) + ((k % 2 : Nat) : Int))
      congr 1
      omega
    rw [e, show spotsL Q3 seg ((k / 2 : Nat)) = _ from hs]
    have : k % 2 = 0 ∨ k % 2 = 1 := by omega
    rcases this with h | h <;> rw [h] <;> rfl
  · show ((k : Int) / (3 - 1)).toNat = k / 2
    omega
theorem SegF.read {m : G3} {R : Rk} {f : Nat → Bool} {seg : Nat} {seq : Int} {l : List BlkA} (h : SegF m R f seg seq l) (h1 : oneLost m f) {k : Nat} (hk : k < 6) :
    sRead Q3 m R seg k seq = (((blkAt l k).owner, (blkAt l k).index, padL (blkAt l k).data 56), 0) := by
  obtain ⟨hsp, hrow⟩ := blkSpot3 (seg := seg) hk
  have hr : k / 2 < 3 := by omega
  have hi : k % 2 < 3 := by omega
  have hbo : blkOkB Q3 seg k = true := by
    have hR : RightB Q3 = true := by decide
    simp only [blkOkB, hR, Bool.true_and, Bool.and_eq_true, decide_eq_true_eq]
    have hpl : placesI Q3 = 5 := rfl
    rw [hpl]
    have := h.s12
    omega
  unfold sRead
  rw [if_neg (by simp [hbo]), if_neg (by simp [h.set.off]), hsp, hrow]
  have hx : (if (goodV Q3 m R (spt seg (k / 2) (k % 2)) seq).2 = true then goodV Q3 m R (spt seg (k / 2) (k % 2)) seq else othV Q3 m R (spt seg (k / 2) (k % 2)) seq (spotsL Q3 seg ((k / 2 : Nat)))) = (datAt Q3 seq l (k / 2) (k % 2), true) := by
    rw [h.good hr hi]
    cases hl : lostS m f (spt seg (k / 2) (k % 2)).1.toNat with
    | false => simp
    | true =>
      rw [h.oth hr hi]
      · simp
      · intro j hj hne
        cases hl2 : lostS m f (spt seg (k / 2) j).1.toNat with
        | false => rfl
        | true =>
          have r1 := (spt_rng h.s12 hr hi).1
          have r2 := (spt_rng h.s12 hr hj).1
          exact absurd (h1 _ _ (by omega) (by omega) hl hl2) (spt_slot_ne hr hi hj h.s12 (fun e => hne e.symm))
  simp only [hx, if_true]
  have hd : datAt Q3 seq l (k / 2) (k % 2) = encAt seq l k := by
    rw [dat_blk (by omega)]
    congr 1
    omega
  have hok := h.enc.ok hk
  rw [hd, encAt, encL_head hok, encL_pay hok.2.2.2]
theorem mem_badI {q m : G3} {R : Rk} {i : Nat} (hi : i < q.1.toNat) : ((i : Int) ∈ badI q m R) ↔ isBad q m R i = true := by
  unfold badI badL
  rw [List.mem_map]
  constructor
  · rintro ⟨j, hj, he⟩
    obtain rfl : j = i := by omega
    exact (List.mem_filter.1 hj).2
  · intro h
    exact ⟨i, List.mem_filter.2 ⟨List.mem_range.2 hi, h⟩, rfl⟩
theorem SegF.wh {m : G3} {R : Rk} {f : Nat → Bool} {seg : Nat} {seq : Int} {l : List BlkA} (h : SegF m R f seg seq l) (bad : List Int) (hb : ∀ i : Nat, i < 3 → (i : Int) ∉ bad → lostS m f i = false) (hs1 : 1 ≤ seq) :
    ∀ (ss : List (Int × Int)) (s : Int), (∀ sp ∈ ss, ∃ r i, r < 3 ∧ i < 3 ∧ sp = spt seg r i) → (s = 0 ∨ s = seq) → ∃ t, whL Q3 m R bad ss s = some t ∧ (s = seq → t = seq) ∧ ((∃ sp ∈ ss, sp.1 ∉ bad) → t = seq)
  | [], s, _, _ => ⟨s, rfl, id, by simp⟩
  | sp :: ss, s, hss, hs => by
    obtain ⟨r, i, hr, hi, he⟩ := hss sp (by simp)
    have hrg := spt_rng h.s12 hr hi
    rw [whL]
    by_cases hm : sp.1 ∈ bad
    · rw [if_pos hm]
      obtain ⟨t, h1, h2, h3⟩ := h.wh bad hb hs1 ss s (fun sp' h' => hss sp' (by simp [h'])) hs
      refine ⟨t, h1, h2, fun ⟨sp', hm', hn'⟩ => h3 ⟨sp', ?_, hn'⟩⟩
      rcases List.mem_cons.1 hm' with rfl | hm'
      · exact absurd hm hn'
      · exact hm'
    · have hl : lostS m f (spt seg r i).1.toNat = false := hb _ (by omega) (by
        rw [show (((spt seg r i).1.toNat : Nat) : Int) = (spt seg r i).1 by omega, ← he]; exact hm)
      have hbr := sec_brd (m := m) h.set h.n h.ns (s := spt seg r i) hrg.1 (by omega)
      unfold lostS at hl
      rw [show (((spt seg r i).1.toNat : Nat) : Int) = (spt seg r i).1 by omega] at hl
      have hE : brdE Q3 m R sp = 0 := by rw [he, hbr.1, hl]; simp
      have hH : (headOf (brd Q3 m R sp)).1 = seq := by rw [he, hbr.2 hl, h.there r i hr hi]; exact (h.enc.dat hr hi).head h.fit
      rw [if_neg hm, hE, hH, if_neg (by omega)]
      obtain ⟨t, h1, h2, h3⟩ := h.wh bad hb hs1 ss seq (fun sp' h' => hss sp' (by simp [h'])) (.inr rfl)
      exact ⟨t, h1, fun _ => h2 rfl, fun _ => h2 rfl⟩
theorem SegF.whole {m : G3} {R : Rk} {f : Nat → Bool} {seg : Nat} {seq : Int} {l : List BlkA} (h : SegF m R f seg seq l) (h1 : oneLost m f) (hm : m.2.2 ≠ 1) (hs1 : 1 ≤ seq) : sWhole Q3 m R seg = (seq, true, 0) := by
  have hbad : ∀ i : Nat, i < 3 → isBad Q3 m R i = lostS m f i := fun i hi => by
    have hrg : 0 ≤ (slotV Q3 m i).1 ∧ (slotV Q3 m i).1 < 4 := slot_range m i hi
    unfold isBad lostS Rk.failedB
    rw [if_pos (by rw [h.n]; omega), h.set.failed]
    simp [hm]
  have hb : ∀ i : Nat, i < 3 → (i : Int) ∉ badI Q3 m R → lostS m f i = false := fun i hi hn => by
    rw [mem_badI (show i < Q3.1.toNat from hi), hbad i hi] at hn
    simpa using hn
  have hle : (badL Q3 m R).length ≤ 1 := by
    unfold badL
    show ((List.range 3).filter (isBad Q3 m R)).length ≤ 1
    have e : ∀ i ∈ List.range 3, isBad Q3 m R i = lostS m f i := fun i hi => hbad i (List.mem_range.1 hi)
    rw [List.filter_congr e]
    have c01 := h1 0 1 (by decide) (by decide)
    have c02 := h1 0 2 (by decide) (by decide)
    have c12 := h1 1 2 (by decide) (by decide)
    simp only [List.range_succ, List.range_zero, List.nil_append, List.cons_append, List.filter_cons, List.filter_nil]
    cases g0 : lostS m f 0 <;> cases g1 : lostS m f 1 <;> cases g2 : lostS m f 2 <;> simp_all
  unfold sWhole
  have ht : thereE Q3 R seg = 0 := by
    unfold thereE
    rw [if_neg (by have := h.s12; show ¬ ¬ (0 ≤ (seg : Int) ∧ (seg : Int) < 12); omega), if_neg (by simp [h.set.off])]
  rw [if_neg (by simp [ht]), if_neg (by omega)]
  obtain ⟨t, e1, _, e3⟩ := h.wh (badI Q3 m R) hb hs1 (allS Q3 seg 0) 0 (fun sp hsp => by
    rw [allS3, List.mem_map] at hsp
    obtain ⟨t, ht, rfl⟩ := hsp
    have := List.mem_range.1 ht
    exact ⟨t / 3, t % 3, by omega, by omega, rfl⟩) (.inl rfl)
  rw [e1]
  refine congrArg (fun t => (t, true, (0 : Int))) (e3 ?_)
  refine Classical.byContradiction fun hno => ?_
  have hall : ∀ i, i < 3 → lostS m f (spt seg 0 i).1.toNat = true := fun i hi => by
    have hrg := spt_rng h.s12 (r := 0) (i := i) (by decide) hi
    refine Classical.byContradiction fun hf => hno ⟨spt seg 0 i, ?_, fun hmem => ?_⟩
    · rw [allS3, List.mem_map]
      refine ⟨i, List.mem_range.2 (by omega), ?_⟩
      rw [Nat.div_eq_of_lt hi, Nat.mod_eq_of_lt hi]
    · rw [show (spt seg 0 i).1 = (((spt seg 0 i).1.toNat : Nat) : Int) by omega, mem_badI (show (spt seg 0 i).1.toNat < 3 by omega), hbad _ (by omega)] at hmem
      exact hf hmem
  have r0 := (spt_rng h.s12 (r := 0) (i := 0) (by decide) (by decide)).1
  have r1 := (spt_rng h.s12 (r := 0) (i := 1) (by decide) (by decide)).1
  exact spt_slot_ne (r := 0) (i := 0) (j := 1) (by decide) (by decide) (by decide) h.s12 (by decide) (h1 _ _ (by omega) (by omega) (hall 0 (by decide)) (hall 1 (by decide)))
end Go.Proofs.Ytldmeimebebllaa
namespace Go.Proofs.Ytldmeimebebllaa
open Go.Mo
set_option linter.unusedVariables false
variable {g : Fr} {cv : CV}
theorem EncD.of_fits {seq : Int} {l : List BlkA} (hs : fitsN 4 seq) (hf : fitsL l) (hb : ∀ c ∈ l, Byts c.data) : EncD seq l := ⟨encAll_iff.2 fun k hk => by
  have hfit : fitC (blkAt l k) := by
    unfold blkAt
    by_cases h : k < l.length
    · rw [List.getD_eq_getElem?_getD, List.getElem?_eq_getElem h]; exact hf.2 _ (List.getElem_mem h)
    · rw [List.getD_eq_getElem?_getD, List.getElem?_eq_none (by omega)]; exact ⟨by simp [BlkA.nil], by simp [BlkA.nil], by simp [BlkA.nil]⟩
  have h65 : ((256 ^ 2 : Nat) : Int) = 65536 := rfl
  exact ⟨hs, ⟨hfit.2.1.1, by rw [h65]; have := hfit.2.1.2; omega⟩, ⟨hfit.2.2.1, by rw [h65]; have := hfit.2.2.2; omega⟩, hfit.1⟩, hb⟩
theorem fits4 {seq : Int} (h : 1 ≤ seq ∧ seq < 4294967296) : fitsN 4 seq := ⟨by omega, by
  have : ((256 ^ 4 : Nat) : Int) = 4294967296 := rfl
  rw [this]; exact h.2⟩
theorem calm_bad {m : G3} {R : Rk} (h : Calm R) (hm : m.2.2 ≠ 1) : badL Q3 m R = [] := by
  unfold badL
  rw [List.filter_eq_nil_iff]
  intro i _
  simp [isBad, h.failedB, hm]
theorem swrite_ok {m : G3} {R : Rk} {seg : Nat} {seq : Int} {l : List BlkA} (hm : m.2.2 ≠ 1) (hs : seg < 12) (hq : 1 ≤ seq ∧ seq < 4294967296) (hl : l.length ≤ 6) (h : EncD seq l) (hc : Calm R) (hn : R.n = 4) (hns : R.ns = 41) :
    swrite Q3 m R seg seq l = ((wrAll Q3 m (restW Q3 seg seq l 0) R).1, 0) := by
  have hw := seg_wrote (m := m) (seg := seg) hs h hc hn hns
  have h1 : ¬ (¬ ((0 : Int) ≤ (seg : Int) ∧ (seg : Int) < Q3.2.2) ∨ seq < 1 ∨ seq > 4294967295) := by
    show ¬ (¬ ((0 : Int) ≤ (seg : Int) ∧ (seg : Int) < 12) ∨ seq < 1 ∨ seq > 4294967295)
    omega
  have h2 : ¬ (encAll seq l (nBlk Q3) = false ∨ nBlk Q3 < l.length) := by
    rw [nBlk3, h.all]
    simp; omega
  unfold swrite
  rw [if_neg h1, if_neg h2, calm_bad hc hm, if_neg (by simp), if_neg (by rw [hw.1]; simp), calm_bad hw.2.1.calm hm, if_neg (by simp)]
theorem lost_seg {m : G3} {R : Rk} {seg : Nat} {seq : Int} {l : List BlkA} (hs : seg < 12) (h : EncD seq l) (hf4 : fitsN 4 seq) (hc : Calm R) (hn : R.n = 4) (hns : R.ns = 41) (hg : Seg m R seg seq l) {f : Int} (hf : 0 ≤ f ∧ f < 4) (xs : List Int) {d : Int} (hx : ∀ d' ∈ d :: xs, 0 ≤ d' ∧ d' < ((4 : Nat) : Int)) :
    (flushL (d :: xs) (R.doom f 0)).2 = 0 ∧ SegF m (flushL (d :: xs) (R.doom f 0)).1 (fun j => decide (j = f.toNat)) seg seq l ∧ SameS R (flushL (d :: xs) (R.doom f 0)).1 := by
  have ha := armed_doom hc (f := f) (by rw [hn]; exact hf)
  have hdn : (R.doom f 0).n = 4 ∧ (R.doom f 0).ns = 41 := by rw [(SameS.doom R f 0).n, (SameS.doom R f 0).ns]; exact ⟨hn, hns⟩
  have hfl := ha.flushL (d := d) (xs := xs) (by rw [hdn.1]; exact hx) (by rw [hdn.2]; omega)
  have hss := (SameS.doom R f 0).trans (SameS.flushL (d :: xs) (R.doom f 0))
  exact ⟨hfl.1, ⟨hfl.2.1, by rw [hfl.2.2.1, hdn.1], by rw [hfl.2.2.2, hdn.2], hg.same hss, h, hs, hf4⟩, hss⟩
theorem one_lost {m : G3} {f : Int} : oneLost m (fun j => decide (j = f.toNat)) := fun i j hi hj h1 h2 => by
  unfold lostS at h1 h2
  simp only [decide_eq_true_eq] at h1 h2
  have r1 := slot_range m i hi
  have r2 := slot_range m j hj
  exact slot_inj m hi hj (by
    have : (slotV (3, 3, 12) m i).1.toNat = (slotV (3, 3, 12) m j).1.toNat := h1.trans h2.symm
    omega)
theorem disksL3 (m : G3) : ∃ d xs, disksL Q3 m = d :: xs ∧ ∀ d' ∈ d :: xs, 0 ≤ d' ∧ d' < ((4 : Nat) : Int) := by
  have h := disks_range m
  cases hd : disksL Q3 m with
  | nil => 
    have : (disksL Q3 m).length = 0 := by rw [hd]; rfl
    unfold disksL at this
    rw [show Q3.1.toNat = 3 from rfl, List.length_append, List.length_map, List.length_range] at this
    omega
  | cons d xs =>
    refine ⟨d, xs, rfl, ?_⟩
    rw [← hd]; exact h
end Go.Proofs.Ytldmeimebebllaa
namespace Go.Proofs.Ytldmeimebebllaa
open Go.Mo
set_option linter.unusedVariables false
variable {g : Fr} {cv : CV}
def m0 : G3 := (0, 0, 0)
theorem open0 : OpenB 4 41 Q3 m0 = true := by decide
def aliveL (x y : Slc) : List BlkA := [⟨1, 0, x, [5]⟩, ⟨2, 3, y, [6]⟩]
theorem alive_blocks {x y z : Nat} : Ent (pc x [.int .u8 5] * pc y [.int .u8 6] * pc z [.int .i64 1, .int .i64 0, .slice (some ⟨x, 0, none⟩) 1 1, .int .i64 2, .int .i64 3, .slice (some ⟨y, 0, none⟩) 1 1]) (blocksP ⟨some ⟨z, 0, none⟩, 2, 2⟩ (aliveL ⟨some ⟨x, 0, none⟩, 1, 1⟩ ⟨some ⟨y, 0, none⟩, 1, 1⟩)) := by
  have e : ∀ (b : Nat) (cs : List Value) (n z : Nat), cs.length = n * z → Ent (pc b cs) (rsl z ⟨some ⟨b, 0, none⟩, n, n⟩ cs) := fun b cs n z h => Ent.trans (pc_own h) (own_rsl _ _ _)
  refine Ent.trans (B := byt ⟨some ⟨x, 0, none⟩, 1, 1⟩ [5] * byt ⟨some ⟨y, 0, none⟩, 1, 1⟩ [6] * rsl 3 ⟨some ⟨z, 0, none⟩, 2, 2⟩ ((aliveL ⟨some ⟨x, 0, none⟩, 1, 1⟩ ⟨some ⟨y, 0, none⟩, 1, 1⟩).flatMap BlkA.cells)) ?_ ?_
  · exact Ent.trans (Ent.starl (Ent.trans (Ent.starl (e x _ 1 1 rfl)) (Ent.starr (e y _ 1 1 rfl)))) (Ent.starr (e z _ 2 3 rfl))
  · unfold blocksP
    refine ent_and (ent_prr trivial (ent_right _ _)) fun o ho i c hc => ?_
    have hx := ent_left _ _ o (ent_left _ _ o ho)
    have hy := ent_right _ _ o (ent_left _ _ o ho)
    match i with
    | 0 =>
      obtain rfl : (⟨1, 0, ⟨some ⟨x, 0, none⟩, 1, 1⟩, [5]⟩ : BlkA) = c := by simpa [aliveL] using hc
      exact ent_pr (A := byt ⟨some ⟨x, 0, none⟩, 1, 1⟩ [5]) (p := BlkA.ok ⟨1, 0, ⟨some ⟨x, 0, none⟩, 1, 1⟩, [5]⟩) ⟨fun n hn => by simp at hn; omega, by simp⟩ o hx
    | 1 =>
      obtain rfl : (⟨2, 3, ⟨some ⟨y, 0, none⟩, 1, 1⟩, [6]⟩ : BlkA) = c := by simpa [aliveL] using hc
      exact ent_pr (A := byt ⟨some ⟨y, 0, none⟩, 1, 1⟩ [6]) (p := BlkA.ok ⟨2, 3, ⟨some ⟨y, 0, none⟩, 1, 1⟩, [6]⟩) ⟨fun n hn => by simp at hn; omega, by simp⟩ o hy
    | i + 2 => simp [aliveL] at hc
theorem law07_alive_spec (hcd : DisksOk cv) (hcr : RowsOk cv) : wps g emp (law07_alive cv) (fun b => pr (b = true)) := by
  unfold law07_alive
  refine wps_bind (law07_Open_spec m0) fun x => ?_
  rw [show OpenB 4 41 (3, 3, 12) m0 = true from open0, if_pos rfl]
  refine wps_ex fun rb => wps_ex fun bb => wps_ex fun ds => wps_ex fun ps => ?_
  refine wps_prP fun hx => ?_
  subst hx
  refine wps_val (v := false) (wps_ite (fun h => absurd h (by simp)) (fun _ => wps_pure (ent_prr rfl (Ent.refl _)))) ?_
  have hbl : ∀ X Y : Slc, fitsL (aliveL X Y) ∧ ∀ c ∈ aliveL X Y, Byts c.data := fun X Y => by
    refine ⟨⟨by simp [aliveL], fun c hc => ?_⟩, fun c hc => ?_⟩
    · simp only [aliveL, List.mem_cons, List.not_mem_nil, or_false] at hc
      rcases hc with rfl | rfl <;> exact ⟨by simp, by simp, by simp⟩
    · simp only [aliveL, List.mem_cons, List.not_mem_nil, or_false] at hc
      rcases hc with rfl | rfl <;> (intro n hn; simp at hn; omega)
  have h7 : (1 : Int) ≤ 7 ∧ (7 : Int) < 4294967296 := by omega
  refine wps_bind (R := fun r => ex fun X : Slc => ex fun Y : Slc => pr (r = false) * bnk bb rb Q3 m0 * rackP rb (wrAll Q3 m0 (restW Q3 ((2 : Nat) : Int) 7 (aliveL X Y) 0) (Rk.new 4 41)).1 ds ps) ?_ fun r => ?_
  · refine wps_ite (fun h => absurd h (by decide)) (fun _ => ?_)
    refine wps_alloc fun x23 => ?_
    refine wps_alloc fun x25 => ?_
    refine wps_alloc fun x27 => ?_
    have hh := hbl ⟨some ⟨x23, 0, none⟩, 1, 1⟩ ⟨some ⟨x25, 0, none⟩, 1, 1⟩
    have hE := EncD.of_fits (fits4 h7) hh.1 hh.2
    have hsw := swrite_ok (m := m0) (R := Rk.new 4 41) (seg := 2) (by decide) (by decide) h7 hh.1.1 hE (Calm.new 4 41) rfl rfl
    refine wps_pre (H' := blocksP ⟨some ⟨x27, 0, none⟩, 2, 2⟩ (aliveL ⟨some ⟨x23, 0, none⟩, 1, 1⟩ ⟨some ⟨x25, 0, none⟩, 1, 1⟩) * bnk bb rb Q3 m0 * rackP rb (Rk.new 4 41) ds ps) ?_ ?_
    · refine ent_pick (ent_pick (Ent.trans ?_ alive_blocks))
      repeat (first
        | (with_reducible exact ent_drop)
        | (with_reducible refine ent_pick ?_)
        | (refine ent_pickC (by rfl) ?_)
        | (refine ent_pickS (by rfl) ?_)
        | (refine ent_pickM (by rfl) ?_)
        | (refine ent_prx ?_ ?_; rotate_left)
        | (refine ent_prq ?_))
    refine wps_bind (stripe_Write_spec hcr bb rb Q3 m0 (by decide) (Rk.new 4 41) ds ps 2 7 _ _ hh.2) fun e => ?_
    refine wps_prP fun he => ?_
    have hsw' : swrite Q3 m0 (Rk.new 4 41) 2 7 (aliveL ⟨some ⟨x23, 0, none⟩, 1, 1⟩ ⟨some ⟨x25, 0, none⟩, 1, 1⟩) = _ := hsw
    rw [hsw'] at he ⊢
    dsimp only at he ⊢
    have he2 : (e != 0) = false := by rw [he]; rfl
    clear hsw hsw'
    refine wps_pure (ent_ex ⟨some ⟨x23, 0, none⟩, 1, 1⟩ (ent_ex ⟨some ⟨x25, 0, none⟩, 1, 1⟩ ?_))
    generalize (wrAll Q3 m0 (restW Q3 ((2 : Nat) : Int) 7 (aliveL ⟨some ⟨x23, 0, none⟩, 1, 1⟩ ⟨some ⟨x25, 0, none⟩, 1, 1⟩) 0) (Rk.new 4 41)).1 = RR
    repeat (first
      | (with_reducible exact ent_drop)
      | (with_reducible refine ent_pick ?_)
      | (refine ent_pickC (by rfl) ?_)
      | (refine ent_pickS (by rfl) ?_)
      | (refine ent_pickM (by rfl) ?_)
      | (refine ent_prx ?_ ?_; rotate_left)
      | (refine ent_prq ?_))
    all_goals first | exact he2 | trivial
  refine wps_ex fun X => wps_ex fun Y => wps_prP fun hr => ?_
  subst hr
  refine wps_ite (fun h => absurd h (by decide)) (fun _ => ?_)
  have hh := hbl X Y
  have hE := EncD.of_fits (fits4 h7) hh.1 hh.2
  have hwr := seg_wrote (m := m0) (R := Rk.new 4 41) (seg := 2) (by decide) hE (Calm.new 4 41) rfl rfl
  generalize (wrAll Q3 m0 (restW Q3 ((2 : Nat) : Int) 7 (aliveL X Y) 0) (Rk.new 4 41)).1 = R1 at *
  obtain ⟨d, xs, hdl, hdr⟩ := disksL3 m0
  have hls := lost_seg (m := m0) (f := 0) (by decide) hE (fits4 h7) hwr.2.1.calm hwr.2.1.n hwr.2.1.ns hwr.2.2.1 (by omega) xs hdr
  refine wps_callH (fun _ => device_Rack_Doom_spec rb R1 ds ps 0 0) fun _ => ?_
  simp only [← star_assoc]
  refine wps_prP fun _ => ?_
  refine wps_call2 (fun _ => bank_Flush_spec hcd bb rb Q3 m0 (by decide) (R1.doom 0 0) ds ps) fun e => ?_
  simp only [← star_assoc]
  refine wps_prP fun he => ?_
  rw [hdl] at he ⊢
  rw [hls.1] at he
  subst he
  refine wps_ite (fun h => absurd h (by decide)) (fun _ => ?_)
  have hby := hls.2.2.bys (hwr.2.2.2.1 (Rk.bys_new 4 41))
  have hS := hls.2.1
  generalize (flushL (d :: xs) (R1.doom 0 0)).1 = R2 at *
  refine wps_call2 (fun _ => stripe_Whole_spec hcr bb rb Q3 m0 (by decide) R2 hby ds ps 2) fun w => ?_
  simp only [← star_assoc]
  refine wps_prP fun hw => ?_
  have hw2 : w = (7, true, 0) := by rw [hw]; exact hS.whole one_lost (by decide) (by omega)
  subst hw2
  refine wps_call2 (fun _ => stripe_Read_spec hcr bb rb Q3 m0 (by decide) R2 hby ds ps 2 1 7) fun a => ?_
  have hr1 := hS.read one_lost (k := 1) (by decide)
  rw [show sRead Q3 m0 R2 2 1 7 = _ from hr1]
  simp only [← star_assoc]
  refine wps_prP fun ⟨a1, a2, a3⟩ => ?_
  refine wps_alloc fun x6 => ?_
  refine wps_stA (by simp) (by simp [Value.oneCell']) ?_
  refine wps_call2 (fun _ => stripe_Read_spec hcr bb rb Q3 m0 (by decide) R2 hby ds ps 2 0 7) fun b => ?_
  have hr0 := hS.read one_lost (k := 0) (by decide)
  rw [show sRead Q3 m0 R2 2 0 7 = _ from hr0]
  simp only [← star_assoc]
  refine wps_prP fun ⟨b1, b2, b3⟩ => ?_
  refine wps_alloc fun x8 => ?_
  refine wps_stA (by simp) (by simp [Value.oneCell']) ?_
  have c1 : (blkAt (aliveL X Y) 1).owner = 2 ∧ (blkAt (aliveL X Y) 1).index = 3 ∧ (blkAt (aliveL X Y) 1).data = [6] := ⟨rfl, rfl, rfl⟩
  have c0 : (blkAt (aliveL X Y) 0).data = [5] := rfl
  rw [c1.1] at a2
  rw [c1.2.1] at a3
  rw [c1.2.2, c0]
  refine wps_fact (Ent.trans (ent_pick1 (A := own 1 a.1.2.2 (bv (padL [6] 56)))) (own_len _ _ _)) fun ⟨hal, _⟩ => ?_
  have hal' : a.1.2.2.len = 56 := by
    rw [bl] at hal; simp [padL] at hal; omega
  refine wps_val (v := true) (wps_ite (fun _ => wps_pure (ent_val rfl)) (fun h => absurd rfl h)) ?_
  refine wps_val (v := true) (wps_ite (fun _ => wps_pure (ent_val rfl)) (fun h => absurd rfl h)) ?_
  refine wps_val (v := true) (wps_ite (fun _ => wps_pure (ent_val (by rw [a1]; rfl))) (fun h => absurd rfl h)) ?_
  refine wps_val (v := true) (wps_ite (fun _ => wps_pure (ent_val (by rw [b1]; rfl))) (fun h => absurd rfl h)) ?_
  refine wps_val (v := true) (wps_ite (fun _ => wps_ld a.1.1 (by rfl) (wps_pure (ent_val (by rw [a2]; rfl)))) (fun h => absurd rfl h)) ?_
  refine wps_val (v := true) (wps_ite (fun _ => wps_ld a.1.2.1 (by rfl) (wps_pure (ent_val (by rw [a3]; rfl)))) (fun h => absurd rfl h)) ?_
  refine wps_val (v := true) (wps_ite (fun _ => wps_ld a.1.2.2 (by rfl) (wps_pure (ent_val (by rw [hal']; rfl)))) (fun h => absurd rfl h)) ?_
  refine wps_val (v := true) (wps_ite (fun _ => wps_ld a.1.2.2 (by rfl) (wps_rd 0 6 (Ent.trans (ent_pick1 (A := own 1 a.1.2.2 (bv (padL [6] 56)))) (own_rsl _ _ _)) rfl rfl (wps_pure (ent_val rfl)))) (fun h => absurd rfl h)) ?_
  refine wps_val (v := true) (wps_ite (fun _ => wps_ld b.1.2.2 (by rfl) (wps_rd 0 5 (Ent.trans (ent_pick1 (A := own 1 b.1.2.2 (bv (padL [5] 56)))) (own_rsl _ _ _)) rfl rfl (wps_pure (ent_val rfl)))) (fun h => absurd rfl h)) ?_
  exact wps_pure (ent_prq rfl)
end Go.Proofs.Ytldmeimebebllaa
namespace Go.Proofs.Ytldmeimebebllaa
open Go.Mo
set_option linter.unusedVariables false
variable {g : Fr} {cv : CV}
theorem blocksP_ok {s : Slc} {l : List BlkA} : Ent (blocksP s l) (pr (∀ c ∈ l, c.ok)) := fun o ho c hc => by
  obtain ⟨i, hi, rfl⟩ := List.getElem_of_mem hc
  have := blocksP_get (List.getElem?_eq_getElem hi) o ho
  exact ent_left _ _ o this
end Go.Proofs.Ytldmeimebebllaa
namespace Go.Proofs.Ytldmeimebebllaa
open Go.Mo
set_option linter.unusedVariables false
variable {g : Fr} {cv : CV}
theorem Calm.settled {R : Rk} (h : Calm R) : Settled R (fun _ => false) := ⟨h.off, h.count, h.failed, h.counts⟩
end Go.Proofs.Ytldmeimebebllaa

namespace Go.Proofs.Ytldmeimebebllaa
open Go.Mo
set_option linter.unusedVariables false
variable {g : Fr} {cv : CV}
theorem Armed.doom {R : Rk} {f : Nat → Bool} (h : Armed R f) {k : Int} (hk : 0 ≤ k ∧ k < R.n) : Armed (R.doom k 0) (fun j => f j || decide (j = k.toNat)) := by
  unfold Rk.doom
  rw [if_neg (by omega)]
  refine ⟨h.off, h.count, fun j => ?_, fun j => ?_⟩
  · simp only [Rk.setD]; split <;> simp [h.failed]
  · simp only [Rk.setD]
    by_cases hj : j = k.toNat
    · subst hj; simp [maxI]
    · simp [hj, h.counts]
end Go.Proofs.Ytldmeimebebllaa
namespace Go.Proofs.Ytldmeimebebllaa
open Go.Mo
set_option linter.unusedVariables false
variable {g : Fr} {cv : CV}
theorem val_orb {H : HP} {r s : Bool} : Val g H (if r = true then pureM true else pureM s) (r || s) := by
  cases r <;> exact wps_pure (ent_pr (by simp))
theorem write_told (hcr : RowsOk cv) {bb rb : Nat} {R : Rk} {ds : Slc} {ps : List Nat} {seg seq : Int} {s : Slc} {l : List BlkA} (hby : ∀ c ∈ l, Byts c.data) {R1 : Rk} {e : Int} (h : swrite Q3 m0 R seg seq l = (R1, e)) :
    wps g (blocksP s l * bnk bb rb Q3 m0 * rackP rb R ds ps) (stripe_Write cv (ptr bb) seg seq s) (fun x => pr (x = e) * (blocksP s l * bnk bb rb Q3 m0 * rackP rb R1 ds ps)) := by
  refine wps_post (stripe_Write_spec hcr bb rb Q3 m0 (by decide) R ds ps seg seq s l hby) fun x => ?_
  rw [h]
  simp only [← star_assoc]
  exact Ent.refl _
end Go.Proofs.Ytldmeimebebllaa
namespace Go.Proofs.Ytldmeimebebllaa
open Go.Mo
set_option linter.unusedVariables false
variable {g : Fr} {cv : CV}
def sndRow (q m : G3) (R : Rk) (seg seq : Int) (r : Nat) : Bool := (goodV q m R (parSpot q seg r) seq).2 && ((othV q m R (parSpot q seg r) seq (spotsL q seg r)).2 && decide ((goodV q m R (parSpot q seg r) seq).1 = (othV q m R (parSpot q seg r) seq (spotsL q seg r)).1))
theorem spotsL_last (q : G3) (seg : Int) (r : Nat) : (spotsL q seg r)[(q.1 - 1).toNat]? = some (parSpot q seg r) := by
  unfold spotsL
  rw [List.getElem?_append_right (by simp)]
  simp
end Go.Proofs.Ytldmeimebebllaa
namespace Go.Proofs.Ytldmeimebebllaa
open Go.Mo
set_option linter.unusedVariables false
variable {g : Fr} {cv : CV}
theorem parSpot3 (seg r : Nat) : parSpot Q3 seg r = spt seg r 2 := by
  have h1 := spotsL_last Q3 seg r
  have h2 := spotsL_small seg r
  rw [show spotsL Q3 seg r = _ from h2, show ((Q3.1 - 1).toNat) = 2 from rfl] at h1
  simpa using h1.symm
structure Row3 (R : Rk) (seg r : Nat) (d : Nat → List Int) : Prop where
  set : Settled R (fun _ => false)
  n : R.n = 4
  ns : R.ns = 41
  s12 : seg < 12
  r3 : r < 3
  sec : ∀ i, i < 3 → (R.dk (slotV Q3 m0 (spt seg r i).1).1.toNat).sec (spt seg r i).2 = d i
theorem Row3.snd {R : Rk} {seg r : Nat} {d : Nat → List Int} (h : Row3 R seg r d) (seq : Int) :
    sndRow Q3 m0 R seg seq r = true ↔ (∀ i, i < 3 → (headOf (d i)).1 = seq) ∧ parL [d 0, d 1] = some (d 2) := by
  have g : ∀ i, i < 3 → goodV Q3 m0 R (spt seg r i) seq = (d i, (headOf (d i)).1 == seq) := fun i hi => by
    have hrg := spt_rng h.s12 h.r3 hi
    have hb := sec_brd (m := m0) h.set h.n h.ns (s := spt seg r i) hrg.1 (by omega)
    unfold goodV
    rw [hb.1, if_pos (by decide), hb.2 rfl, h.sec i hi]
  have n0 := spt_ne (seg := seg) h.r3 (i := 0) (j := 2) (by decide) (by decide) (by decide)
  have n1 := spt_ne (seg := seg) h.r3 (i := 1) (j := 2) (by decide) (by decide) (by decide)
  unfold sndRow
  rw [parSpot3, g 2 (by decide), show spotsL Q3 seg r = [spt seg r 0, spt seg r 1, spt seg r 2] from spotsL_small seg r]
  unfold othV
  simp only [othL, if_true, if_neg n0, if_neg n1, g 0 (by decide), g 1 (by decide)]
  constructor
  · intro hx
    cases e0 : ((headOf (d 0)).1 == seq)
    · rw [e0] at hx; simp at hx
    cases e1 : ((headOf (d 1)).1 == seq)
    · rw [e0, e1] at hx; simp at hx
    rw [e0, e1] at hx
    simp only [if_true, Option.map_some, Bool.and_eq_true, beq_iff_eq, decide_eq_true_eq] at hx
    obtain ⟨h2, h3, h4⟩ := hx
    refine ⟨fun i hi => ?_, ?_⟩
    · have : i = 0 ∨ i = 1 ∨ i = 2 := by omega
      rcases this with rfl | rfl | rfl
      · simpa using e0
      · simpa using e1
      · exact h2
    · obtain ⟨c, hc⟩ := Option.isSome_iff_exists.1 h3
      rw [hc] at h4 ⊢
      rw [h4]; rfl
  · rintro ⟨hh, hp⟩
    have b : ∀ i, i < 3 → ((headOf (d i)).1 == seq) = true := fun i hi => by simp [hh i hi]
    rw [b 0 (by decide), b 1 (by decide), b 2 (by decide)]
    simp [hp]
theorem slot0 {i : Int} (h : 0 ≤ i ∧ i < 3) : (slotV Q3 m0 i).1 = i := by
  obtain ⟨k, rfl⟩ : ∃ k : Nat, i = (k : Int) := ⟨i.toNat, by omega⟩
  exact (slotV_in m0 k (by omega)).2
end Go.Proofs.Ytldmeimebebllaa


namespace Go.Proofs.Ytldmeimebebllaa
open Go.Mo
set_option linter.unusedVariables false
variable {g : Fr} {cv : CV}
def slotK (q : G3) (seg : Int) (r : Nat) (slot : Int) : Nat := (spotsL q seg r).findIdx (fun s => s.1 == slot)
def slotSp (q : G3) (seg : Int) (r : Nat) (slot : Int) : Int × Int := (spotsL q seg r).getD (slotK q seg r slot) (0, 0)
theorem blkSpot_rc {q : G3} {seg : Int} {r c : Nat} (h1 : 3 ≤ q.1) (hc : (c : Int) < q.1 - 1) : (blkSpot q seg ((r : Int) * (q.1 - 1) + (c : Int))).1 = (q.1 - 1 - rowOf q seg r % q.1 + 1 + c) % q.1 := by
  have e1 : ((r : Int) * (q.1 - 1) + (c : Int)) / (q.1 - 1) = r := by
    rw [Int.add_comm, Int.add_mul_ediv_right _ _ (by omega), Int.ediv_eq_zero_of_lt (by omega) hc]; omega
  have e2 : ((r : Int) * (q.1 - 1) + (c : Int)) % (q.1 - 1) = c := by
    rw [Int.add_comm, Int.add_mul_emod_self_right, Int.emod_eq_of_lt (by omega) hc]
  unfold blkSpot
  rw [e1, e2]
theorem slot_mem {q : G3} {seg : Int} {r : Nat} {slot : Int} (h1 : 3 ≤ q.1) (hs : 0 ≤ slot ∧ slot < q.1) : ∃ s ∈ spotsL q seg r, s.1 = slot := by
  have hp0 := Int.emod_nonneg (rowOf q seg r) (b := q.1) (by omega)
  have hp1 := Int.emod_lt_of_pos (rowOf q seg r) (b := q.1) (by omega)
  generalize hp : rowOf q seg r % q.1 = p at *
  by_cases h : slot = q.1 - 1 - p
  · refine ⟨parSpot q seg r, by simp [spotsL], ?_⟩
    unfold parSpot
    rw [hp]; exact h.symm
  · obtain ⟨c, hc, hcm⟩ : ∃ c : Nat, (c : Int) < q.1 - 1 ∧ (q.1 - 1 - p + 1 + (c : Int)) % q.1 = slot := by
      by_cases h2 : q.1 - 1 - p < slot
      · refine ⟨(slot - (q.1 - 1 - p) - 1).toNat, by omega, ?_⟩
        rw [show q.1 - 1 - p + 1 + ((slot - (q.1 - 1 - p) - 1).toNat : Int) = slot by omega]
        exact Int.emod_eq_of_lt hs.1 hs.2
      · refine ⟨(slot + p).toNat, by omega, ?_⟩
        rw [show q.1 - 1 - p + 1 + ((slot + p).toNat : Int) = slot + q.1 by omega, Int.add_emod_right]
        exact Int.emod_eq_of_lt hs.1 hs.2
    refine ⟨blkSpot q seg ((r : Int) * (q.1 - 1) + (c : Int)), ?_, ?_⟩
    · unfold spotsL
      refine List.mem_append_left _ (List.mem_map.2 ⟨c, List.mem_range.2 (by omega), rfl⟩)
    · rw [blkSpot_rc h1 hc, hp, hcm]
theorem slotK_lt {q : G3} {seg : Int} {r : Nat} {slot : Int} (h1 : 3 ≤ q.1) (hs : 0 ≤ slot ∧ slot < q.1) : slotK q seg r slot < (spotsL q seg r).length := by
  obtain ⟨s, hm, he⟩ := slot_mem (q := q) (seg := seg) (r := r) h1 hs
  exact List.findIdx_lt_length_of_exists ⟨s, hm, by simp [he]⟩
theorem slotSp_get {q : G3} {seg : Int} {r : Nat} {slot : Int} (h1 : 3 ≤ q.1) (hs : 0 ≤ slot ∧ slot < q.1) : (spotsL q seg r)[slotK q seg r slot]? = some (slotSp q seg r slot) := by
  have := slotK_lt (q := q) (seg := seg) (r := r) h1 hs
  unfold slotSp
  rw [List.getD_eq_getElem?_getD, List.getElem?_eq_getElem this]; rfl
theorem slotSp_fst {q : G3} {seg : Int} {r : Nat} {slot : Int} (h1 : 3 ≤ q.1) (hs : 0 ≤ slot ∧ slot < q.1) : (slotSp q seg r slot).1 = slot := by
  have hlt := slotK_lt (q := q) (seg := seg) (r := r) h1 hs
  have hf : ((spotsL q seg r)[slotK q seg r slot]'hlt).1 == slot := List.findIdx_getElem (w := hlt)
  have hg := slotSp_get (q := q) (seg := seg) (r := r) h1 hs
  rw [List.getElem?_eq_getElem hlt] at hg
  rw [← Option.some.inj hg]
  simpa using hf
def lackB (q m : G3) (R : Rk) (seg slot seq : Int) (r : Nat) : Bool := !(goodV q m R (slotSp q seg r slot) seq).2
end Go.Proofs.Ytldmeimebebllaa
namespace Go.Proofs.Ytldmeimebebllaa
open Go.Mo
set_option linter.unusedVariables false
variable {g : Fr} {cv : CV}
def slottedE (q : G3) (R : Rk) (seg slot : Int) : Int := if ¬ (0 ≤ slot ∧ slot < q.1) then 28 else thereE q R seg
def refL (q m : G3) (seg slot seq : Int) : List Nat → Rk → Rk × Int
  | [], R => (R, 0)
  | r :: rs, R =>
    if lackB q m R seg slot seq r = true then
      if (othV q m R (slotSp q seg r slot) seq (spotsL q seg r)).2 = false then (R, 14)
      else if bgate q m R (slotSp q seg r slot) (othV q m R (slotSp q seg r slot) seq (spotsL q seg r)).1 ≠ 0 then (bwrite q m R (slotSp q seg r slot) (othV q m R (slotSp q seg r slot) seq (spotsL q seg r)).1, bgate q m R (slotSp q seg r slot) (othV q m R (slotSp q seg r slot) seq (spotsL q seg r)).1)
      else refL q m seg slot seq rs (bwrite q m R (slotSp q seg r slot) (othV q m R (slotSp q seg r slot) seq (spotsL q seg r)).1)
    else refL q m seg slot seq rs R
def sRefill (q m : G3) (R : Rk) (seg slot seq : Int) : Rk × Int := if slottedE q R seg slot ≠ 0 then (R, slottedE q R seg slot) else refL q m seg slot seq (List.range q.2.1.toNat) R
theorem bwrite_bys {q m : G3} {R : Rk} (h : R.bys) (s : Int × Int) {b : List Int} (hb : Byts b) : (bwrite q m R s b).bys := by
  unfold bwrite
  split
  · unfold Rk.write
    split
    · exact ((SameS.gated R _ _ _).bys h).put hb
    · exact (SameS.gated R _ _ _).bys h
  · exact h
end Go.Proofs.Ytldmeimebebllaa
namespace Go.Proofs.Ytldmeimebebllaa
open Go.Mo
set_option linter.unusedVariables false
variable {g : Fr} {cv : CV}
def Quiet (R : Rk) (j : Nat) (f : Nat → List Int) : Prop := (∀ s, (R.dk j).cached s = none) ∧ ∀ s : Nat, (R.dk j).lasts s = f s
theorem Quiet.ticked {R : Rk} {j : Nat} {f : Nat → List Int} (h : Quiet R j f) : Quiet R.ticked j f := by
  unfold Rk.ticked
  split
  · exact h
  · exact h
theorem Quiet.gated {R : Rk} {j : Nat} {f : Nat → List Int} (h : Quiet R j f) (k s size : Int) : Quiet (R.gated k s size) j f := by
  unfold Rk.gated
  split
  · exact h
  · exact h.ticked
theorem Quiet.flush {R : Rk} {j : Nat} {f : Nat → List Int} (h : Quiet R j f) (k : Int) : Quiet (R.flush k) j f := by
  have hg := h.gated k 0 64
  unfold Rk.flush
  split
  · by_cases hj : j = k.toNat
    · subst hj
      refine ⟨fun s => ?_, fun s => ?_⟩
      · simp [Rk.setD, Dk.clean]
      · simp [Rk.setD, Dk.clean, Dk.flushed, hg.1, hg.2]
    · refine ⟨fun s => ?_, fun s => ?_⟩
      · simp only [Rk.setD, if_neg hj]; exact hg.1 s
      · simp only [Rk.setD, if_neg hj]; exact hg.2 s
  · exact hg
theorem Quiet.flushL {j : Nat} {f : Nat → List Int} : ∀ (xs : List Int) {R : Rk}, Quiet R j f → Quiet (flushL xs R).1 j f
  | [], _, h => h
  | d :: xs, R, h => by
    unfold Proofs.Ytldmeimebebllaa.flushL
    split
    · exact h.flush d
    · exact Quiet.flushL xs (h.flush d)
theorem Quiet.doom {R : Rk} {j : Nat} {f : Nat → List Int} (h : Quiet R j f) (k c : Int) : Quiet (R.doom k c) j f := by
  unfold Rk.doom
  split
  · exact h
  · by_cases hj : j = k.toNat
    · subst hj
      refine ⟨fun s => ?_, fun s => ?_⟩
      · simp [Rk.setD, h.1]
      · simp [Rk.setD, h.2]
    · refine ⟨fun s => ?_, fun s => ?_⟩
      · simp only [Rk.setD, if_neg hj]; exact h.1 s
      · simp only [Rk.setD, if_neg hj]; exact h.2 s
theorem settled_flush {R : Rk} (h : Settled R (fun _ => false)) {d : Int} (hd : 0 ≤ d ∧ d < R.n) (hs : 0 < R.ns) : Quiet (R.flush d) d.toNat (fun s => (R.dk d.toNat).sec (s : Int)) := by
  have hg := h.gate hd (s := 0) (by omega)
  unfold Rk.flush
  rw [hg, if_pos (by decide), gated_in h.off hd (by omega), h.tick]
  refine ⟨fun s => ?_, fun s => ?_⟩
  · simp [Rk.setD, Dk.clean]
  · simp only [Rk.setD, if_true, Dk.clean, Dk.flushed, Dk.sec]
    cases (R.dk d.toNat).cached (s : Int) <;> simp
theorem flush_lasts {d : Int} : ∀ {xs : List Int} {R : Rk}, Settled R (fun _ => false) → (∀ d ∈ xs, 0 ≤ d ∧ d < R.n) → 0 < R.ns → d ∈ xs → Quiet (flushL xs R).1 d.toNat (fun s => (R.dk d.toNat).sec (s : Int))
  | [], _, _, _, _, hm => by simp at hm
  | d' :: xs, R, h, hx, hs, hm => by
    have hd := hx d' (by simp)
    have hg := h.gate hd (s := 0) (by omega)
    have h12 : ¬ R.gate d' 0 64 = 12 := by rw [hg]; split <;> omega
    simp only [Proofs.Ytldmeimebebllaa.flushL, if_neg h12]
    have hf := h.flush (R := R) (k := d') (by rw [gated_in h.off hd (by omega), h.tick])
    have hn := flush_n (R := R) d'
    by_cases hin : d ∈ xs
    · have := flush_lasts (d := d) hf (by rw [hn.1]; exact fun d' hd' => hx d' (by simp [hd'])) (by rw [hn.2]; exact hs) hin
      have e : (fun s : Nat => ((R.flush d').dk d.toNat).sec (s : Int)) = fun s : Nat => (R.dk d.toNat).sec (s : Int) := by
        funext s; exact (SameS.flush R d').sec _ s
      rw [e] at this
      exact this
    · obtain rfl : d = d' := by
        rcases List.mem_cons.1 hm with h | h
        · exact h
        · exact absurd h hin
      exact Quiet.flushL xs (settled_flush h hd hs)
theorem oth_of {q m : G3} {R : Rk} {seg r i : Nat} {seq : Int} {l : List BlkA} (E : EncD seq l) (hr : r < 3) (hi : i < 3) (hg : ∀ j, j < 3 → j ≠ i → goodV Q3 m R (spt seg r j) seq = (datAt Q3 seq l r j, true)) :
    othV Q3 m R (spt seg r i) seq (spotsL Q3 seg r) = (datAt Q3 seq l r i, true) := by
  have hs := spotsL_small seg r
  rw [show spotsL Q3 seg r = [spt seg r 0, spt seg r 1, spt seg r 2] from hs]
  have h0 := E.dat (r := r) (i := 0) hr (by decide)
  have h1 := E.dat (r := r) (i := 1) hr (by decide)
  have e0 : datAt Q3 seq l r 0 = encAt seq l (r * 2) := dat_blk (by decide)
  have e1 : datAt Q3 seq l r 1 = encAt seq l (r * 2 + 1) := dat_blk (by decide)
  have ht : (encAt seq l (r * 2 + 1)).take 4 = (encAt seq l (r * 2)).take 4 := by rw [encAt_take, encAt_take]
  have l0 : (encAt seq l (r * 2)).length = 64 := e0 ▸ h0.len
  have l1 : (encAt seq l (r * 2 + 1)).length = 64 := e1 ▸ h1.len
  have hp := dat_par E hr
  unfold othV
  have hi' : i = 0 ∨ i = 1 ∨ i = 2 := by omega
  rcases hi' with rfl | rfl | rfl
  · have n1 := spt_ne (seg := seg) hr (i := 1) (j := 0) (by decide) (by decide) (by decide)
    have n2 := spt_ne (seg := seg) hr (i := 2) (j := 0) (by decide) (by decide) (by decide)
    simp only [othL, if_true, if_neg n1, if_neg n2, hg 1 (by decide) (by decide), hg 2 (by decide) (by decide), Option.map_some]
    rw [e1, hp, e0, lost1 l0 l1 ht (E.by _)]; rfl
  · have n1 := spt_ne (seg := seg) hr (i := 0) (j := 1) (by decide) (by decide) (by decide)
    have n2 := spt_ne (seg := seg) hr (i := 2) (j := 1) (by decide) (by decide) (by decide)
    simp only [othL, if_true, if_neg n1, if_neg n2, hg 0 (by decide) (by decide), hg 2 (by decide) (by decide), Option.map_some]
    rw [e0, hp, e1, lost2 l0 l1 ht (E.by _)]; rfl
  · have n1 := spt_ne (seg := seg) hr (i := 0) (j := 2) (by decide) (by decide) (by decide)
    have n2 := spt_ne (seg := seg) hr (i := 1) (j := 2) (by decide) (by decide) (by decide)
    simp only [othL, if_true, if_neg n1, if_neg n2, hg 0 (by decide) (by decide), hg 1 (by decide) (by decide), Option.map_some]
    rw [e0, e1, parL2 l0 l1 ht, hp]; rfl
theorem there0 {R : Rk} {seg : Nat} (hs : seg < 12) (ho : R.off = false) : thereE Q3 R seg = 0 := by
  unfold thereE
  rw [if_neg (by show ¬ ¬ (0 ≤ (seg : Int) ∧ (seg : Int) < 12); omega), if_neg (by simp [ho])]
end Go.Proofs.Ytldmeimebebllaa
namespace Go.Proofs.Ytldmeimebebllaa
open Go.Mo
set_option linter.unusedVariables false
variable {g : Fr} {cv : CV}
abbrev m1 (slot : Nat) : G3 := (1, (slot : Int), 1)
theorem slot1 {slot i : Nat} (hi : i < 3) : slotV Q3 (m1 slot) (i : Int) = (if slot = i then 3 else (i : Int), true) := by
  have h := slotV_in (m1 slot) i hi
  refine Prod.ext ?_ h.1
  rw [show (slotV Q3 (m1 slot) (i : Int)).1 = _ from h.2]
  by_cases e : slot = i
  · rw [if_pos e, if_pos]
    exact ⟨by simp, by show (slot : Int) = i; omega⟩
  · rw [if_neg e, if_neg]
    rintro ⟨_, h2⟩
    have h2 : (slot : Int) = i := h2
    omega
structure Refi (R : Rk) (slot seg : Nat) (seq : Int) (l : List BlkA) (k : Nat) : Prop where
  set : Settled R (fun j => decide (j = slot))
  n : R.n = 4
  ns : R.ns = 41
  rest : ∀ r i, r < 3 → i < 3 → (spt seg r i).1 ≠ (slot : Int) → (R.dk (spt seg r i).1.toNat).sec (spt seg r i).2 = datAt Q3 seq l r i
  done : ∀ r i, r < k → r < 3 → i < 3 → (spt seg r i).1 = (slot : Int) → (R.dk 3).sec (spt seg r i).2 = datAt Q3 seq l r i
  todo : ∀ r, k ≤ r → r < 3 → (R.dk 3).sec ((5 + (seg * 3 + r) : Nat) : Int) = noughts
  enc : EncD seq l
  s12 : seg < 12
  fit : fitsN 4 seq
  pos : 1 ≤ seq
  s3 : slot < 3
section
variable {R : Rk} {slot seg : Nat} {seq : Int} {l : List BlkA} {k : Nat}
theorem Refi.brd (h : Refi R slot seg seq l k) {r i : Nat} (hr : r < 3) (hi : i < 3) :
    goodV Q3 (m1 slot) R (spt seg r i) seq = ((R.dk (if (spt seg r i).1 = (slot : Int) then 3 else (spt seg r i).1.toNat)).sec (spt seg r i).2, (headOf ((R.dk (if (spt seg r i).1 = (slot : Int) then 3 else (spt seg r i).1.toNat)).sec (spt seg r i).2)).1 == seq) := by
  have hrg := spt_rng h.s12 hr hi
  have hb := sec_brd (m := m1 slot) h.set h.n h.ns (s := spt seg r i) hrg.1 (by omega)
  obtain ⟨j, hj⟩ : ∃ j : Nat, (spt seg r i).1 = (j : Int) := ⟨(spt seg r i).1.toNat, by omega⟩
  have hj3 : j < 3 := by omega
  have hs3 := h.s3
  have hsl : (slotV Q3 (m1 slot) (spt seg r i).1).1.toNat = if (spt seg r i).1 = (slot : Int) then 3 else (spt seg r i).1.toNat := by
    rw [hj, slot1 hj3]
    by_cases e : slot = j
    · rw [if_pos e, if_pos (by omega)]; rfl
    · rw [if_neg e, if_neg (by omega)]
  rw [hsl] at hb
  have hf : decide ((if (spt seg r i).1 = (slot : Int) then 3 else (spt seg r i).1.toNat) = slot) = false := by
    refine decide_eq_false ?_
    split <;> omega
  simp only [hf] at hb
  unfold goodV
  rw [hb.1, if_pos (by decide), hb.2 trivial]
theorem Refi.good_rest (h : Refi R slot seg seq l k) {r i : Nat} (hr : r < 3) (hi : i < 3) (hne : (spt seg r i).1 ≠ (slot : Int)) : goodV Q3 (m1 slot) R (spt seg r i) seq = (datAt Q3 seq l r i, true) := by
  rw [h.brd hr hi, if_neg hne, h.rest r i hr hi hne]
  simp [(h.enc.dat hr hi).head h.fit]
theorem Refi.good_todo (h : Refi R slot seg seq l k) {r i : Nat} (hr : r < 3) (hi : i < 3) (hk : k ≤ r) (he : (spt seg r i).1 = (slot : Int)) : (goodV Q3 (m1 slot) R (spt seg r i) seq).2 = false := by
  rw [h.brd hr hi, if_pos he, show (spt seg r i).2 = ((5 + (seg * 3 + r) : Nat) : Int) from rfl, h.todo r hk hr]
  have hh : (headOf noughts).1 = 0 := by decide
  have := h.pos
  show ((headOf noughts).1 == seq) = false
  rw [hh]
  simp; omega
theorem slotSp3 {slot seg r : Nat} (hs : slot < 3) : ∃ i, i < 3 ∧ slotSp Q3 seg r (slot : Int) = spt seg r i ∧ (spt seg r i).1 = (slot : Int) := by
  have h1 : (3 : Int) ≤ Q3.1 := by decide
  have h2 : (0 : Int) ≤ (slot : Int) ∧ (slot : Int) < Q3.1 := by show (0 : Int) ≤ (slot : Int) ∧ (slot : Int) < 3; omega
  have hg := slotSp_get (q := Q3) (seg := seg) (r := r) h1 h2
  have hf := slotSp_fst (q := Q3) (seg := seg) (r := r) h1 h2
  have hm := List.mem_of_getElem? hg
  rw [show spotsL Q3 seg r = [spt seg r 0, spt seg r 1, spt seg r 2] from spotsL_small seg r] at hm
  simp only [List.mem_cons, List.not_mem_nil, or_false] at hm
  rcases hm with hm | hm | hm <;> rw [hm] at hf ⊢
  · exact ⟨0, by decide, rfl, hf⟩
  · exact ⟨1, by decide, rfl, hf⟩
  · exact ⟨2, by decide, rfl, hf⟩
theorem Settled.put {R : Rk} {f : Nat → Bool} (h : Settled R f) (k s : Int) (b : List Int) : Settled (R.put k s b) f := by
  refine ⟨h.off, h.count, fun j => ?_, fun j => ?_⟩
  · simp only [Rk.put]; split
    · rename_i e; subst e; exact h.failed _
    · exact h.failed j
  · simp only [Rk.put]; split
    · rename_i e; subst e; exact h.counts _
    · exact h.counts j
theorem spt_slot_only {seg r i j : Nat} (hr : r < 3) (hi : i < 3) (hj : j < 3) (h : (spt seg r i).1 = (spt seg r j).1) : i = j := (spt_inj hr hr hi hj (Prod.ext h rfl)).2.2
theorem Refi.step (h : Refi R slot seg seq l k) (hk : k < 3) : ∃ R', (∀ rs, refL Q3 (m1 slot) seg slot seq (k :: rs) R = refL Q3 (m1 slot) seg slot seq rs R') ∧ Refi R' slot seg seq l (k + 1) ∧ (∀ j, j ≠ 3 → R'.dk j = R.dk j) ∧ (R.bys → R'.bys) := by
  obtain ⟨i, hi, hsp, hf⟩ := slotSp3 (slot := slot) (seg := seg) (r := k) h.s3
  have hd := h.enc.dat hk hi
  have hs3 := h.s3
  have hrg := spt_rng h.s12 hk hi
  have hot : othV Q3 (m1 slot) R (spt seg k i) seq (spotsL Q3 seg k) = (datAt Q3 seq l k i, true) := oth_of (q := Q3) h.enc hk hi fun j hj hne => h.good_rest hk hj (by
    rw [← hf]; exact fun e => hne (spt_slot_only hk hj hi e))
  have hsl : slotV Q3 (m1 slot) (spt seg k i).1 = (3, true) := by rw [hf, slot1 h.s3, if_pos rfl]
  have hg0 : R.gate 3 (spt seg k i).2 64 = 0 := by
    rw [h.set.gate (by rw [h.n]; omega) (by rw [h.ns]; omega)]
    rw [show decide ((3 : Int).toNat = slot) = false from decide_eq_false (by show ¬ 3 = slot; omega)]; rfl
  have hl : ((datAt Q3 seq l k i).length : Int) = 64 := by rw [hd.len]; rfl
  have hg : bgate Q3 (m1 slot) R (spt seg k i) (datAt Q3 seq l k i) = 0 := by
    unfold bgate; rw [hsl, if_pos rfl, hl]; exact hg0
  have hb : bwrite Q3 (m1 slot) R (spt seg k i) (datAt Q3 seq l k i) = R.put 3 (spt seg k i).2 (datAt Q3 seq l k i) := by
    unfold bwrite; rw [hsl, if_pos rfl]
    unfold Rk.write
    rw [hl, hg0, if_pos rfl, gated_in h.set.off (by rw [h.n]; omega) (by rw [h.ns]; omega), h.set.tick]
  have hlk : lackB Q3 (m1 slot) R seg slot seq k = true := by
    unfold lackB; rw [hsp, h.good_todo hk hi (Nat.le_refl _) hf]; rfl
  refine ⟨R.put 3 (spt seg k i).2 (datAt Q3 seq l k i), fun rs => ?_, ⟨h.set.put _ _ _, h.n, h.ns, fun r j hr hj hne => ?_, fun r j hrk hr hj he => ?_, fun r hrk hr => ?_, h.enc, h.s12, h.fit, h.pos, h.s3⟩, fun j hj => ?_, fun hby => hby.put hd.byts⟩
  · rw [refL, if_pos hlk, hsp, hot, if_neg (by simp)]
    dsimp only
    rw [hg, hb, if_neg (by decide)]
  · have hr2 := (spt_rng h.s12 hr hj).1
    rw [put_sec, if_neg (by rintro ⟨e, _⟩; have : (3 : Int).toNat = 3 := rfl; omega)]
    exact h.rest r j hr hj hne
  · rw [put_sec]
    by_cases hrk2 : r = k
    · subst hrk2
      have : j = i := spt_slot_only hr hj hi (he.trans hf.symm)
      subst this
      rw [if_pos ⟨rfl, rfl⟩]
    · rw [if_neg]
      · exact h.done r j (by omega) hr hj he
      · rintro ⟨_, e⟩
        have e1 : (spt seg r j).2 = ((5 + (seg * 3 + r) : Nat) : Int) := rfl
        have e2 : (spt seg k i).2 = ((5 + (seg * 3 + k) : Nat) : Int) := rfl
        rw [e1, e2] at e
        omega
  · rw [put_sec, if_neg]
    · exact h.todo r (by omega) hr
    · rintro ⟨_, e⟩
      have e2 : (spt seg k i).2 = ((5 + (seg * 3 + k) : Nat) : Int) := rfl
      rw [e2] at e
      omega
  · simp only [Rk.put]
    rw [if_neg (by show ¬ j = 3; exact hj)]
theorem Refi.all (h : Refi R slot seg seq l 0) : ∃ R', sRefill Q3 (m1 slot) R seg slot seq = (R', 0) ∧ Refi R' slot seg seq l 3 ∧ (∀ j, j ≠ 3 → R'.dk j = R.dk j) ∧ (R.bys → R'.bys) := by
  obtain ⟨Ra, a1, a2, a3, a4⟩ := h.step (by decide)
  obtain ⟨Rb, b1, b2, b3, b4⟩ := a2.step (by decide)
  obtain ⟨Rc, c1, c2, c3, c4⟩ := b2.step (by decide)
  refine ⟨Rc, ?_, c2, fun j hj => (c3 j hj).trans ((b3 j hj).trans (a3 j hj)), fun hb => c4 (b4 (a4 hb))⟩
  have hs3 := h.s3
  have ht : slottedE Q3 R seg slot = 0 := by
    unfold slottedE
    rw [if_neg (by show ¬ ¬ (0 ≤ (slot : Int) ∧ (slot : Int) < 3); omega), there0 h.s12 h.set.off]
  unfold sRefill
  rw [if_neg (by simp [ht]), show List.range Q3.2.1.toNat = [0, 1, 2] from rfl, a1, b1, c1]
  rfl
end
end Go.Proofs.Ytldmeimebebllaa
namespace Go.Proofs.Ytldmeimebebllaa
open Go.Mo
set_option linter.unusedVariables false
variable {g : Fr} {cv : CV}
theorem disks4 : disksL Q3 m0 = [0, 1, 2, 3] := by decide
theorem disks4r : ∀ d ∈ ([0, 1, 2, 3] : List Int), 0 ≤ d ∧ d < ((4 : Nat) : Int) := by decide
end Go.Proofs.Ytldmeimebebllaa
namespace Go.Proofs.Ytldmeimebebllaa
open Go.Mo
set_option linter.unusedVariables false
variable {g : Fr} {cv : CV}
structure Power (R : Rk) (c : Int) : Prop where
  off : R.off = false
  count : R.count = c
  failed : ∀ j, (R.dk j).failed = false
  counts : ∀ j, (R.dk j).count = -1
theorem Power.tick {R : Rk} {c : Int} (h : Power R c) (hc : 0 < c ∧ c < 9223372036854775808) : R.ticked = { R with count := c - 1 } := by
  have hdk : (fun j => (R.dk j).tick) = R.dk := by
    funext j
    have : (R.dk j).tick = R.dk j := tickD (h.counts j)
    exact this
  have hm : maxI (w64 (R.count - 1)) (-1) = c - 1 := by
    rw [h.count, w64_id (by omega) (by omega)]
    unfold maxI
    split <;> omega
  have h0 : ¬ R.count = 0 := by rw [h.count]; omega
  simp only [Rk.ticked, if_neg h0, hdk, hm]
theorem Power.write {R : Rk} {c : Int} (h : Power R c) (hc : 0 ≤ c ∧ c < 9223372036854775808) {k s : Int} {b : List Int} (hk : 0 ≤ k ∧ k < R.n) (hs : 0 ≤ s ∧ s < R.ns) (hb : b.length = 64) :
    if c = 0 then R.gate k s b.length = 12 ∧ R.write k s b = { R with off := true } else R.gate k s b.length = 0 ∧ R.write k s b = ({ R with count := c - 1 } : Rk).put k s b ∧ Power (({ R with count := c - 1 } : Rk).put k s b) (c - 1) := by
  have hr : ¬ (k < 0 ∨ k ≥ R.n ∨ s < 0 ∨ s ≥ R.ns) := by omega
  have hl : (b.length : Int) = 64 := by rw [hb]; rfl
  rw [hl]
  by_cases h0 : c = 0
  · rw [if_pos h0]
    have hg : R.gate k s 64 = 12 := by
      unfold Rk.gate
      rw [if_neg (by simp [h.off]), if_neg hr, if_neg (by omega), if_pos (by rw [h.count]; exact h0)]
    refine ⟨hg, ?_⟩
    unfold Rk.write
    rw [hl, hg, if_neg (by decide), gated_in h.off hk hs]
    unfold Rk.ticked
    rw [if_pos (by rw [h.count]; exact h0)]
  · rw [if_neg h0]
    have ht := h.tick ⟨by omega, hc.2⟩
    have hg : R.gate k s 64 = 0 := by
      unfold Rk.gate
      rw [if_neg (by simp [h.off]), if_neg hr, if_neg (by omega), if_neg (by rw [h.count]; exact h0), ht, if_neg (by simp [h.failed])]
    refine ⟨hg, ?_, h.off, rfl, fun j => ?_, fun j => ?_⟩
    · unfold Rk.write
      rw [hl, hg, if_pos rfl, gated_in h.off hk hs, ht]
    · simp only [Rk.put]; split <;> exact h.failed _
    · simp only [Rk.put]; split <;> exact h.counts _
structure Part (es : List ((Int × Int) × List Int)) (R R' : Rk) : Prop where
  n : R'.n = R.n
  ns : R'.ns = R.ns
  lasts : ∀ j, (R'.dk j).lasts = (R.dk j).lasts
  failed : ∀ j, (R'.dk j).failed = false
  counts : ∀ j, (R'.dk j).count = -1
  cached : ∀ (j : Nat) (s : Int), (R'.dk j).cached s = (R.dk j).cached s ∨ ∃ e ∈ es, e.1 = ((j : Int), s) ∧ (R'.dk j).cached s = some e.2
theorem wr_power : ∀ (es : List ((Int × Int) × List Int)) (R : Rk) (c : Int), Power R c → 0 ≤ c ∧ c < 9223372036854775808 → R.n = 4 → R.ns = 41 → (∀ e ∈ es, (0 ≤ e.1.1 ∧ e.1.1 < 3) ∧ (0 ≤ e.1.2 ∧ e.1.2 < 41) ∧ e.2.length = 64) →
    (wrAll Q3 m0 es R).2 = decide (c < es.length) ∧ Part es R (wrAll Q3 m0 es R).1
  | [], R, c, h, hc, hn, hs, _ => ⟨(decide_eq_false (by simp; omega)).symm, rfl, rfl, fun _ => rfl, h.failed, h.counts, fun _ _ => .inl rfl⟩
  | e :: es, R, c, h, hc, hn, hs, he => by
    obtain ⟨⟨a0, a1⟩, ⟨b0, b1⟩, hl⟩ := he e (by simp)
    have hsl := slot0 ⟨a0, a1⟩
    have h2 : (slotV Q3 m0 e.1.1).2 = true := by
      obtain ⟨i0, hi0⟩ : ∃ i0 : Nat, e.1.1 = (i0 : Int) := ⟨e.1.1.toNat, by omega⟩
      rw [hi0]; exact (slotV_in m0 i0 (by omega)).1
    have hw := h.write hc (k := e.1.1) (s := e.1.2) (b := e.2) (by rw [hn]; omega) (by rw [hs]; omega) hl
    have hgE : bgate Q3 m0 R e.1 e.2 = R.gate e.1.1 e.1.2 e.2.length := by unfold bgate; rw [h2, if_pos rfl, hsl]
    have hbE : bwrite Q3 m0 R e.1 e.2 = R.write e.1.1 e.1.2 e.2 := by unfold bwrite; rw [h2, if_pos rfl, hsl]
    by_cases h0 : c = 0
    · rw [if_pos h0] at hw
      rw [wrAll, hgE, hw.1, if_pos rfl, hbE, hw.2]
      exact ⟨(decide_eq_true (by simp; omega)).symm, rfl, rfl, fun _ => rfl, h.failed, h.counts, fun _ _ => .inl rfl⟩
    · rw [if_neg h0] at hw
      rw [wrAll, hgE, hw.1, if_neg (by decide), hbE, hw.2.1]
      obtain ⟨i1, i2⟩ := wr_power es _ (c - 1) hw.2.2 (by omega) hn hs (fun e' h' => he e' (by simp [h']))
      refine ⟨i1.trans (decide_eq_decide.2 (by simp only [List.length_cons]; omega)), i2.n, i2.ns, fun j => (i2.lasts j).trans ?_, i2.failed, i2.counts, fun j s => ?_⟩
      · simp only [Rk.put]; split <;> rfl
      · rcases i2.cached j s with hcd | ⟨e', he', h1, h3⟩
        · simp only [Rk.put] at hcd
          by_cases hj : j = e.1.1.toNat
          · rw [if_pos hj] at hcd
            dsimp only at hcd
            by_cases hse : s = e.1.2
            · rw [if_pos hse] at hcd
              exact .inr ⟨e, by simp, Prod.ext (by show e.1.1 = (j : Int); omega) hse.symm, hcd⟩
            · rw [if_neg hse] at hcd
              exact .inl hcd
          · rw [if_neg hj] at hcd
            exact .inl hcd
        · exact .inr ⟨e', by simp [he'], h1, h3⟩
theorem wrAll_bys {q m : G3} : ∀ (es : List ((Int × Int) × List Int)) (R : Rk), R.bys → (∀ e ∈ es, Byts e.2) → (wrAll q m es R).1.bys
  | [], R, h, _ => h
  | e :: es, R, h, he => by
    have hb := bwrite_bys (q := q) (m := m) h e.1 (he e (by simp))
    rw [wrAll]
    split
    · exact hb
    · exact wrAll_bys es _ hb fun e' h' => he e' (by simp [h'])
theorem restore_bys {R : Rk} (h : R.bys) (ks : List Int) : (R.restore ks).bys := fun j => clean_bys (h j) _
def hd2 (W : Nat → Nat → Bool) (r i : Nat) : Int := if W r i then 6 else 5
structure Torn (R : Rk) (la lb : List BlkA) (W : Nat → Nat → Bool) : Prop where
  calm : Calm R
  n : R.n = 4
  ns : R.ns = 41
  lasts : ∀ r i, r < 3 → i < 3 → (R.dk (spt 1 r i).1.toNat).lasts (8 + r) = if W r i then datAt Q3 6 lb r i else datAt Q3 5 la r i
  clean : ∀ j s, (R.dk j).cached s = none
theorem torn_of {R R' : Rk} {la lb : List BlkA} (hp : Part (restW Q3 ((1 : Nat) : Int) 6 lb 0) R R') (hn : R.n = 4) (hns : R.ns = 41) (hl : ∀ r i, r < 3 → i < 3 → (R.dk (spt 1 r i).1.toNat).lasts (8 + r) = datAt Q3 5 la r i) (hq : ∀ j, j < 3 → ∀ s, (R.dk j).cached s = none) (ks : List Int) :
    ∃ W, Torn (R'.restore ks) la lb W := by
  classical
  have key : ∀ r i, r < 3 → i < 3 → ((R'.restore ks).dk (spt 1 r i).1.toNat).lasts (8 + r) = datAt Q3 6 lb r i ∨ ((R'.restore ks).dk (spt 1 r i).1.toNat).lasts (8 + r) = datAt Q3 5 la r i := fun r i hr hi => by
    have hrg := (spt_rng (seg := 1) (by decide) hr hi).1
    have hsn : (spt 1 r i).2 = ((8 + r : Nat) : Int) := by show ((5 + (1 * 3 + r) : Nat) : Int) = _; omega
    show (((R'.dk (spt 1 r i).1.toNat).flushed _).clean).lasts (8 + r) = _ ∨ _ = _
    simp only [Rk.restore, Dk.restored, Dk.clean, Dk.flushed]
    rcases hp.cached (spt 1 r i).1.toNat ((8 + r : Nat) : Int) with hc | ⟨e, he, h1, hc⟩
    · rw [hc, hq _ (by omega)]
      right
      rw [hp.lasts]
      exact hl r i hr hi
    · rw [hc]
      dsimp only
      split
      · left
        rw [restW3, List.mem_map] at he
        obtain ⟨t, ht, rfl⟩ := he
        have ht := List.mem_range.1 ht
        dsimp only at h1 ⊢
        have h2 : spt 1 (t / 3) (t % 3) = spt 1 r i := h1.trans (Prod.ext (by show (((spt 1 r i).1.toNat : Nat) : Int) = _; omega) hsn.symm)
        have h3 := spt_inj (by omega) hr (by omega) hi h2
        rw [h3.2.1, h3.2.2]
      · right
        rw [hp.lasts]
        exact hl r i hr hi
  refine ⟨fun r i => decide (((R'.restore ks).dk (spt 1 r i).1.toNat).lasts (8 + r) = datAt Q3 6 lb r i), ⟨rfl, rfl, fun j => hp.failed j, fun j => hp.counts j⟩, by show R'.n = 4; rw [hp.n, hn], by show R'.ns = 41; rw [hp.ns, hns], fun r i hr hi => ?_, fun j s => rfl⟩
  by_cases h : ((R'.restore ks).dk (spt 1 r i).1.toNat).lasts (8 + r) = datAt Q3 6 lb r i
  · rw [decide_eq_true h, if_pos rfl]; exact h
  · rw [decide_eq_false h, if_neg (by decide)]
    exact (key r i hr hi).resolve_left h
theorem Torn.whole {R : Rk} {la lb : List BlkA} {W : Nat → Nat → Bool} (h : Torn R la lb W) (Ea : EncD 5 la) (Eb : EncD 6 lb) :
    ((∀ t, t < 9 → W (t / 3) (t % 3) = true) → sWhole Q3 m0 R ((1 : Nat) : Int) = (6, true, 0)) ∧ ((∀ t, t < 9 → W (t / 3) (t % 3) = false) → sWhole Q3 m0 R ((1 : Nat) : Int) = (5, true, 0)) ∧
    ((∃ t, t < 9 ∧ W (t / 3) (t % 3) = true) → (∃ t, t < 9 ∧ W (t / 3) (t % 3) = false) → sWhole Q3 m0 R ((1 : Nat) : Int) = (0, false, 0)) := by
  have f5 : fitsN 4 5 := fits4 ⟨by decide, by decide⟩
  have f6 : fitsN 4 6 := fits4 ⟨by decide, by decide⟩
  have hread : ∀ t, t < 9 → brdE Q3 m0 R (spt 1 (t / 3) (t % 3)) = 0 ∧ (headOf (brd Q3 m0 R (spt 1 (t / 3) (t % 3)))).1 = hd2 W (t / 3) (t % 3) := fun t ht => by
    have hrg := spt_rng (seg := 1) (r := t / 3) (i := t % 3) (by decide) (by omega) (by omega)
    have hb := sec_brd (m := m0) h.calm.settled h.n h.ns (s := spt 1 (t / 3) (t % 3)) hrg.1 (by omega)
    refine ⟨hb.1, ?_⟩
    rw [hb.2 rfl, slot0 hrg.1]
    have hsn : (spt 1 (t / 3) (t % 3)).2 = ((8 + t / 3 : Nat) : Int) := by show ((5 + (1 * 3 + t / 3) : Nat) : Int) = _; omega
    have hsec : (R.dk (spt 1 (t / 3) (t % 3)).1.toNat).sec (spt 1 (t / 3) (t % 3)).2 = (R.dk (spt 1 (t / 3) (t % 3)).1.toNat).lasts (8 + t / 3) := by
      unfold Dk.sec
      rw [h.clean, hsn]
      congr 1
    rw [hsec, h.lasts _ _ (by omega) (by omega)]
    unfold hd2
    split
    · exact (Eb.dat (by omega) (by omega)).head f6
    · exact (Ea.dat (by omega) (by omega)).head f5
  have hbad : badI Q3 m0 R = [] := by unfold badI; rw [calm_bad h.calm (by decide)]; rfl
  have hwh : sWhole Q3 m0 R ((1 : Nat) : Int) = match whL Q3 m0 R [] (allS Q3 ((1 : Nat) : Int) 0) 0 with | some s => (s, true, 0) | none => (0, false, 0) := by
    have ht : thereE Q3 R ((1 : Nat) : Int) = 0 := there0 (by decide) h.calm.off
    unfold sWhole
    rw [if_neg (fun hx => hx ht), calm_bad h.calm (by decide), if_neg (by simp), hbad]
    rfl
  have hh : ∀ r i, hd2 W r i ≠ 0 := fun r i => by unfold hd2; split <;> decide
  have hstep : ∀ (ts : List Nat), (∀ t ∈ ts, t < 9) → ∀ s, s ≠ 0 → whL Q3 m0 R [] (ts.map fun t => spt 1 (t / 3) (t % 3)) s = if ts.all (fun t => hd2 W (t / 3) (t % 3) == s) then some s else none := by
    intro ts
    induction ts with
    | nil => intro _ s _; simp [whL]
    | cons t ts ih =>
      intro hts s hs
      obtain ⟨h1, h2⟩ := hread t (hts t (by simp))
      rw [List.map_cons, whL, if_neg (by simp), h1, h2]
      by_cases he : hd2 W (t / 3) (t % 3) = s
      · rw [if_neg (by simp [he, hs]), he, ih (fun t' h' => hts t' (by simp [h'])) s hs]
        simp [he]
      · rw [if_pos (.inr (.inr ⟨hs, he⟩))]
        simp [he]
  have hall : whL Q3 m0 R [] (allS Q3 ((1 : Nat) : Int) 0) 0 = if ([1, 2, 3, 4, 5, 6, 7, 8] : List Nat).all (fun t => hd2 W (t / 3) (t % 3) == hd2 W 0 0) then some (hd2 W 0 0) else none := by
    rw [show allS Q3 ((1 : Nat) : Int) 0 = _ from allS3 1, show List.range 9 = 0 :: [1, 2, 3, 4, 5, 6, 7, 8] from rfl, List.map_cons, whL]
    obtain ⟨h1, h2⟩ := hread 0 (by decide)
    rw [if_neg (by simp), h1, h2, if_neg (by simp [hh]), hstep _ (by decide) _ (hh _ _)]
  rw [hwh, hall]
  have conv : ∀ v : Int, (∀ t, t < 9 → hd2 W (t / 3) (t % 3) = v) → (if ([1, 2, 3, 4, 5, 6, 7, 8] : List Nat).all (fun t => hd2 W (t / 3) (t % 3) == hd2 W 0 0) then some (hd2 W 0 0) else none) = some v := fun v hv => by
    have h0 : hd2 W 0 0 = v := hv 0 (by decide)
    rw [h0, if_pos]
    rw [List.all_eq_true]
    intro t ht
    have : t < 9 := by
      simp only [List.mem_cons, List.not_mem_nil, or_false] at ht
      omega
    simp [hv t this]
  refine ⟨fun hw => ?_, fun hw => ?_, fun ⟨a, ha, hwa⟩ ⟨b, hb, hwb⟩ => ?_⟩
  · rw [conv 6 fun t ht => by unfold hd2; rw [hw t ht]; rfl]
  · rw [conv 5 fun t ht => by unfold hd2; rw [hw t ht]; rfl]
  · rw [if_neg]
    intro hx
    rw [List.all_eq_true] at hx
    have hx2 : ∀ t, t < 9 → hd2 W (t / 3) (t % 3) = hd2 W 0 0 := fun t ht => by
      by_cases h0 : t = 0
      · subst h0; rfl
      · have := hx t (by simp only [List.mem_cons, List.not_mem_nil, or_false]; omega)
        simpa using this
    have h1 := (hx2 a ha).trans (hx2 b hb).symm
    unfold hd2 at h1
    rw [hwa, hwb] at h1
    exact absurd h1 (by decide)
end Go.Proofs.Ytldmeimebebllaa
namespace Go.Proofs.Ytldmeimebebllaa
open Go.Mo
set_option linter.unusedVariables false
variable {g : Fr} {cv : CV}
def cntP (P : Nat → Bool) (t : Nat) : Nat := ((List.range t).filter P).length
theorem cntP_succ (P : Nat → Bool) (t : Nat) : cntP P (t + 1) = cntP P t + if P t then 1 else 0 := by
  unfold cntP
  rw [List.range_succ, List.filter_append, List.length_append]
  by_cases h : P t = true <;> simp [h]
theorem cntP_le (P : Nat → Bool) (t : Nat) : cntP P t ≤ t := by
  have := List.length_filter_le P (List.range t)
  simpa [cntP] using this
theorem cntP_all {P : Nat → Bool} {n : Nat} (h : cntP P n = n) : ∀ t, t < n → P t = true := fun t ht => by
  have h1 : ((List.range n).filter P).length = (List.range n).length := by simpa [cntP] using h
  exact List.length_filter_eq_length_iff.1 h1 t (List.mem_range.2 ht)
theorem cntP_none {P : Nat → Bool} {n : Nat} (h : cntP P n = 0) : ∀ t, t < n → P t = false := fun t ht => by
  have h1 : (List.range n).filter P = [] := List.eq_nil_of_length_eq_zero h
  have := List.filter_eq_nil_iff.1 h1 t (List.mem_range.2 ht)
  simpa using this
theorem cntP_full {P : Nat → Bool} {n : Nat} (h : ∀ t, t < n → P t = true) : cntP P n = n := by
  have : (List.range n).filter P = List.range n := List.filter_eq_self.2 fun t ht => h t (List.mem_range.1 ht)
  simp [cntP, this]
theorem cntP_zero {P : Nat → Bool} {n : Nat} (h : ∀ t, t < n → P t = false) : cntP P n = 0 := by
  have : (List.range n).filter P = [] := List.filter_eq_nil_iff.2 fun t ht => by simp [h t (List.mem_range.1 ht)]
  simp [cntP, this]
def io (d r : Nat) : Nat := if (spt 1 r 0).1 = (d : Int) then 0 else if (spt 1 r 1).1 = (d : Int) then 1 else 2
theorem io_ok {d r : Nat} (hd : d < 3) (hr : r < 3) : io d r < 3 ∧ (spt 1 r (io d r)).1 = (d : Int) := by
  have h1 : d = 0 ∨ d = 1 ∨ d = 2 := by omega
  have h2 : r = 0 ∨ r = 1 ∨ r = 2 := by omega
  rcases h1 with rfl | rfl | rfl <;> rcases h2 with rfl | rfl | rfl <;> decide
def tornP (W : Nat → Nat → Bool) (t : Nat) : Bool := W (t % 3) (io (t / 3) (t % 3))
theorem tornP_of {W : Nat → Nat → Bool} {r i : Nat} (hr : r < 3) (hi : i < 3) : ∃ t, t < 9 ∧ tornP W t = W r i := by
  have hrg := (spt_rng (seg := 1) (by decide) hr hi).1
  refine ⟨(spt 1 r i).1.toNat * 3 + r, by omega, ?_⟩
  obtain ⟨h1, h2⟩ := io_ok (d := (spt 1 r i).1.toNat) (r := r) (by omega) hr
  have : io (spt 1 r i).1.toNat r = i := spt_slot_only hr h1 hi (h2.trans (by omega))
  unfold tornP
  rw [show ((spt 1 r i).1.toNat * 3 + r) % 3 = r by omega, show ((spt 1 r i).1.toNat * 3 + r) / 3 = (spt 1 r i).1.toNat by omega, this]
theorem bad_none {R : Rk} (h : ∀ j, (R.dk j).failed = false) : badL Q3 m0 R = [] := by
  unfold badL
  rw [List.filter_eq_nil_iff]
  intro i _
  unfold isBad Rk.failedB
  simp [h, m0]
theorem dat_byte {seq : Int} {d : List Int} (h : DatOk seq d) (v : Int) (hv : putL 4 seq = [v, 0, 0, 0]) : d[0]? = some v := by
  have h1 := h.take
  rw [hv] at h1
  have h2 : (d.take 4)[0]? = some v := by rw [h1]; rfl
  rw [List.getElem?_take] at h2
  simpa using h2
theorem law07_StripeTorn_spec (hcd : DisksOk cv) (hcr : RowsOk cv) (hck : KeysOk cv) (sa : Slc) (la : List BlkA) (s : Slc) (l : List BlkA) (c : Int) (hc63 : c < 9223372036854775808) (sk : Slc) (ks : List Int) :
    wps g (blocksP sa la * blocksP s l * intsP sk ks) (law07_StripeTorn cv sa s c sk) (fun b => pr (b = true)) := by
  unfold law07_StripeTorn
  refine wps_fact (Ent.trans (ent_pick1 (A := blocksP sa la)) blocksP_ok) fun hoka => ?_
  refine wps_fact (Ent.trans (ent_pick1 (A := blocksP s l)) blocksP_ok) fun hok => ?_
  have hbya : ∀ c ∈ la, Byts c.data := fun c hc => (hoka c hc).byts
  have hby : ∀ c ∈ l, Byts c.data := fun c hc => (hok c hc).byts
  refine wps_callE (fun _ => law07_alive_spec hcd hcr) fun a => ?_
  refine wps_prP fun ha => ?_
  subst ha
  refine wps_ite (fun h => absurd h (by decide)) (fun _ => ?_)
  refine wps_pre (H' := blocksP sa la * blocksP s l * intsP sk ks) ?_ ?_
  · repeat (first
      | (with_reducible exact ent_drop)
      | (with_reducible refine ent_pick ?_)
      | (refine ent_pickC (by rfl) ?_)
      | (refine ent_pickS (by rfl) ?_)
      | (refine ent_pickM (by rfl) ?_)
      | (refine ent_prx ?_ ?_; rotate_left)
      | (refine ent_prq ?_))
  refine wps_bind (law07_fits_spec sa la (ent_pick1 (A := blocksP sa la))) fun b0 => wps_pr fun hb0 => ?_
  refine wps_bind (R := fun r => pr (r = false → b0 = true ∧ fitsL l) * (blocksP sa la * blocksP s l * intsP sk ks)) ?_ fun r => wps_pr fun hr => ?_
  · refine wps_ite (fun h => wps_pure (ent_prr (fun h => by cases h) (Ent.refl _))) (fun h => ?_)
    refine wps_bind (law07_fits_spec s l (ent_pick1 (A := blocksP s l))) fun b => wps_pr fun hb => wps_pure ?_
    exact ent_prr (fun hnb => ⟨by simpa using h, hb (by simpa using hnb)⟩) (Ent.refl _)
  refine wps_val val_orb (wps_val val_orb ?_)
  refine wps_ite (fun _ => wps_pure (ent_prq rfl)) (fun hrf => ?_)
  simp only [Bool.or_eq_true, not_or, decide_eq_true_eq, Bool.not_eq_true] at hrf
  obtain ⟨⟨hrf, hk100⟩, hc0⟩ := hrf
  obtain ⟨hb0t, hfit⟩ := hr hrf
  have hfita := hb0 hb0t
  have q5 : (1 : Int) ≤ 5 ∧ (5 : Int) < 4294967296 := by omega
  have q6 : (1 : Int) ≤ 6 ∧ (6 : Int) < 4294967296 := by omega
  have Ea := EncD.of_fits (fits4 q5) hfita hbya
  have Eb := EncD.of_fits (fits4 q6) hfit hby
  refine wps_bind (law07_Open_spec m0) fun x => ?_
  rw [show OpenB 4 41 (3, 3, 12) m0 = true from open0, if_pos rfl]
  refine wps_ex fun rb => wps_ex fun bb => wps_ex fun ds => wps_ex fun ps => ?_
  refine wps_prP fun hx => ?_
  subst hx
  refine wps_val (v := false) (wps_ite (fun h => absurd h (by simp)) (fun _ => wps_pure (ent_prr rfl (Ent.refl _)))) ?_
  have hwr := seg_wrote (m := m0) (R := Rk.new 4 41) (seg := 1) (by decide) Ea (Calm.new 4 41) rfl rfl
  have hsw : swrite Q3 m0 (Rk.new 4 41) 1 5 la = _ := swrite_ok (m := m0) (R := Rk.new 4 41) (seg := 1) (by decide) (by decide) q5 hfita.1 Ea (Calm.new 4 41) rfl rfl
  generalize (wrAll Q3 m0 (restW Q3 ((1 : Nat) : Int) 5 la 0) (Rk.new 4 41)).1 = R1 at *
  have hby1 := hwr.2.2.2.1 (Rk.bys_new 4 41)
  refine wps_pre (H' := blocksP s l * intsP sk ks * (blocksP sa la * bnk bb rb Q3 m0 * rackP rb (Rk.new 4 41) ds ps)) ?_ ?_
  · simp only [← star_assoc]
    repeat (first
      | (with_reducible exact ent_drop)
      | (with_reducible refine ent_pick ?_)
      | (refine ent_pickC (by rfl) ?_)
      | (refine ent_pickS (by rfl) ?_)
      | (refine ent_pickM (by rfl) ?_)
      | (refine ent_prx ?_ ?_; rotate_left)
      | (refine ent_prq ?_))
  refine wps_bind (R := fun r => pr (r = false) * (blocksP s l * intsP sk ks * bnk bb rb Q3 m0 * rackP rb R1 ds ps)) ?_ fun r => wps_pr fun hr => ?_
  · refine wps_ite (fun h => absurd h (by decide)) (fun _ => ?_)
    refine wps_call (fun _ => write_told hcr hbya hsw) (Ent.refl _) fun e => ?_
    simp only [← star_assoc]
    refine wps_prP fun he => wps_pure ?_
    repeat (first
      | (with_reducible exact ent_drop)
      | (with_reducible refine ent_pick ?_)
      | (refine ent_pickC (by rfl) ?_)
      | (refine ent_pickS (by rfl) ?_)
      | (refine ent_pickM (by rfl) ?_)
      | (refine ent_prx ?_ ?_; rotate_left)
      | (refine ent_prq ?_))
    all_goals first | (rw [he]; rfl) | trivial
  subst hr
  have hn1 := hwr.2.1.n
  have hns1 := hwr.2.1.ns
  have hset1 := hwr.2.1.calm.settled
  have hfl := hset1.flushL (xs := [0, 1, 2, 3]) (by rw [hn1]; exact disks4r) (by rw [hns1]; omega)
  have hss1 := SameS.flushL [0, 1, 2, 3] R1
  have hqt : ∀ d : Nat, d < 3 → Quiet (flushL [0, 1, 2, 3] R1).1 d (fun s => (R1.dk d).sec (s : Int)) := fun d hd => by
    have := flush_lasts (d := (d : Int)) hset1 (by rw [hn1]; exact disks4r) (by rw [hns1]; omega) (xs := [0, 1, 2, 3]) (by
      have : d = 0 ∨ d = 1 ∨ d = 2 := by omega
      rcases this with rfl | rfl | rfl <;> decide)
    rw [show ((d : Int)).toNat = d by omega] at this
    exact this
  refine wps_bind (R := fun r => pr (r = false) * (blocksP s l * intsP sk ks * bnk bb rb Q3 m0 * rackP rb (flushL [0, 1, 2, 3] R1).1 ds ps)) ?_ fun r => wps_pr fun hr => ?_
  · refine wps_ite (fun h => absurd h (by decide)) (fun _ => ?_)
    refine wps_call2 (fun _ => bank_Flush_spec hcd bb rb Q3 m0 (by decide) R1 ds ps) fun e => ?_
    simp only [← star_assoc]
    refine wps_prP fun he => ?_
    rw [disks4] at he ⊢
    rw [hfl.1] at he
    refine wps_pure ?_
    repeat (first
      | (with_reducible exact ent_drop)
      | (with_reducible refine ent_pick ?_)
      | (refine ent_pickC (by rfl) ?_)
      | (refine ent_pickS (by rfl) ?_)
      | (refine ent_pickM (by rfl) ?_)
      | (refine ent_prx ?_ ?_; rotate_left)
      | (refine ent_prq ?_))
    all_goals first | (rw [he]; rfl) | trivial
  subst hr
  refine wps_ite (fun h => absurd h (by decide)) (fun _ => ?_)
  have hn2 : (flushL [0, 1, 2, 3] R1).1.n = 4 := by rw [hfl.2.2.1, hn1]
  have hns2 : (flushL [0, 1, 2, 3] R1).1.ns = 41 := by rw [hfl.2.2.2, hns1]
  have hset2 := hfl.2.1
  have hby2 := hss1.bys hby1
  generalize (flushL [0, 1, 2, 3] R1).1 = R2 at *
  have hpw : Power (R2.arm c) c := ⟨hset2.off, by show maxI c (-1) = c; unfold maxI; split <;> omega, hset2.failed, hset2.counts⟩
  have hrest : ∀ e ∈ restW Q3 ((1 : Nat) : Int) 6 l 0, (0 ≤ e.1.1 ∧ e.1.1 < 3) ∧ (0 ≤ e.1.2 ∧ e.1.2 < 41) ∧ e.2.length = 64 ∧ Byts e.2 := fun e he => by
    rw [restW3, List.mem_map] at he
    obtain ⟨t, ht, rfl⟩ := he
    have ht := List.mem_range.1 ht
    have hrg := spt_rng (seg := 1) (r := t / 3) (i := t % 3) (by decide) (by omega) (by omega)
    have hd := Eb.dat (r := t / 3) (i := t % 3) (by omega) (by omega)
    exact ⟨hrg.1, ⟨by have := hrg.2.1; show 0 ≤ (spt 1 (t / 3) (t % 3)).2; omega, hrg.2.2⟩, hd.len, hd.byts⟩
  have hwp := wr_power (restW Q3 ((1 : Nat) : Int) 6 l 0) (R2.arm c) c hpw ⟨by omega, hc63⟩ hn2 hns2 fun e he => ⟨(hrest e he).1, (hrest e he).2.1, (hrest e he).2.2.1⟩
  have hlen9 : (restW Q3 ((1 : Nat) : Int) 6 l 0).length = 9 := by rw [restW3]; simp
  rw [hlen9] at hwp
  have hby3 : (wrAll Q3 m0 (restW Q3 ((1 : Nat) : Int) 6 l 0) (R2.arm c)).1.bys := wrAll_bys _ _ hby2 fun e he => (hrest e he).2.2.2
  have hsw2 : swrite Q3 m0 (R2.arm c) 1 6 l = ((wrAll Q3 m0 (restW Q3 ((1 : Nat) : Int) 6 l 0) (R2.arm c)).1, if c < 9 then 12 else 0) := by
    unfold swrite
    have h1 : ¬ (¬ ((0 : Int) ≤ 1 ∧ (1 : Int) < Q3.2.2) ∨ (6 : Int) < 1 ∨ (6 : Int) > 4294967295) := by decide
    have h2 : ¬ (encAll 6 l (nBlk Q3) = false ∨ nBlk Q3 < l.length) := by
      rw [nBlk3, Eb.all]
      simp; exact hfit.1
    rw [if_neg h1, if_neg h2, bad_none hpw.failed, if_neg (by simp)]
    have hw1 : (wrAll Q3 m0 (restW Q3 1 6 l 0) (R2.arm c)).2 = decide (c < ((9 : Nat) : Int)) := hwp.1
    by_cases h9 : c < 9
    · rw [hw1, if_pos (decide_eq_true (by omega)), if_pos h9]; rfl
    · have hw0 : badL Q3 m0 (wrAll Q3 m0 (restW Q3 1 6 l 0) (R2.arm c)).1 = [] := bad_none hwp.2.failed
      rw [hw1, if_neg (by simp; omega), if_neg h9, hw0, if_neg (by simp)]; rfl
  obtain ⟨W, hT⟩ := torn_of (R := R2.arm c) (la := la) (lb := l) hwp.2 hn2 hns2 (fun r i hr hi => by
    have hrg := (spt_rng (seg := 1) (by decide) hr hi).1
    have h1 := (hqt (spt 1 r i).1.toNat (by omega)).2 (8 + r)
    have h2 := hwr.2.2.1 r i hr hi
    rw [slot0 hrg, show (spt 1 r i).2 = ((8 + r : Nat) : Int) by show ((5 + (1 * 3 + r) : Nat) : Int) = ((8 + r : Nat) : Int); omega] at h2
    exact h1.trans h2) (fun j hj => (hqt j hj).1) ks
  generalize (wrAll Q3 m0 (restW Q3 ((1 : Nat) : Int) 6 l 0) (R2.arm c)).1 = R3 at *
  refine wps_callH (fun _ => device_Rack_Arm_spec rb R2 ds ps c) fun _ => ?_
  refine wps_pre (H' := intsP sk ks * (blocksP s l * bnk bb rb Q3 m0 * rackP rb (R2.arm c) ds ps)) ?_ ?_
  · simp only [← star_assoc]
    repeat (first
      | (with_reducible exact ent_drop)
      | (with_reducible refine ent_pick ?_)
      | (refine ent_pickC (by rfl) ?_)
      | (refine ent_pickS (by rfl) ?_)
      | (refine ent_pickM (by rfl) ?_)
      | (refine ent_prx ?_ ?_; rotate_left)
      | (refine ent_prq ?_))
  refine wps_call (fun _ => write_told hcr hby hsw2) (Ent.refl _) fun e => ?_
  simp only [← star_assoc]
  refine wps_prP fun he => ?_
  refine wps_call2 (fun _ => device_Rack_Restore_spec hck (H := intsP sk ks) rb R3 ds ps sk ks (Ent.refl _)) fun _ => ?_
  simp only [← star_assoc]
  have hby4 := restore_bys hby3 ks
  generalize R3.restore ks = R4 at *
  refine wps_loop (fun st => ex fun d : Nat => pr (st = (((cntP (tornP W) (d * 3) : Nat) : Int), ((d * 3 - cntP (tornP W) (d * 3) : Nat) : Int), (d : Int)) ∧ d ≤ 3) * bnk bb rb Q3 m0 * rackP rb R4 ds ps) (fun st => (3 - st.2.2).toNat) ?_ fun st => ?_
  · refine ent_ex 0 ?_
    repeat (first
      | (with_reducible exact ent_drop)
      | (with_reducible refine ent_pick ?_)
      | (refine ent_pickC (by rfl) ?_)
      | (refine ent_pickS (by rfl) ?_)
      | (refine ent_pickM (by rfl) ?_)
      | (refine ent_prx ?_ ?_; rotate_left)
      | (refine ent_prq ?_))
    all_goals first | exact ⟨rfl, by omega⟩ | trivial
  refine wps_ex fun d => wps_prP fun ⟨hd, hd3⟩ => ?_
  subst hd
  dsimp only
  refine wps_ite (fun hc => ?_) (fun hc => ?_)
  rotate_left
  · have hde : d = 3 := by
      have : ¬ ((d : Int) < 3) := fun h => hc (decide_eq_true h)
      omega
    subst hde
    simp only [Nat.reduceMul]
    have hle := cntP_le (tornP W) 9
    obtain ⟨t1, t2, t3⟩ := hT.whole Ea Eb
    refine wps_mapR ?_
    refine wps_call2 (fun _ => stripe_Whole_spec hcr bb rb Q3 m0 (by decide) R4 hby4 ds ps 1) fun w => ?_
    simp only [← star_assoc]
    refine wps_prP fun hw => ?_
    have hw2 : w.2.2 = 0 := by
      rw [hw]
      unfold sWhole
      have ht : thereE Q3 R4 1 = 0 := there0 (seg := 1) (by decide) hT.calm.off
      rw [if_neg (fun hx => hx ht)]
      split
      · rfl
      · split <;> rfl
    refine wps_val (v := false) (wps_ite (fun h => absurd h (by simp [hw2])) (fun _ => wps_pure (ent_prr ?_ (Ent.refl _)))) ?_
    · rw [w64_id (by omega) (by omega)]
      show (((cntP (tornP W) 9 : Nat) : Int) + ((9 - cntP (tornP W) 9 : Nat) : Int) != 9) = false
      rw [show ((cntP (tornP W) 9 : Nat) : Int) + ((9 - cntP (tornP W) 9 : Nat) : Int) = 9 by omega]; rfl
    refine wps_val (v := false) (wps_ite (fun h => absurd h (by decide)) (fun _ => wps_pure (ent_prr ?_ (Ent.refl _)))) ?_
    · rw [he]
      by_cases h9 : c < 9
      · rw [if_pos h9, decide_eq_true h9]; rfl
      · rw [if_neg h9, decide_eq_false h9]; rfl
    refine wps_ite (fun h => absurd h (by decide)) (fun _ => ?_)
    have hcases : (cntP (tornP W) 9 = 9 ∧ w = (6, true, 0)) ∨ (cntP (tornP W) 9 = 0 ∧ w = (5, true, 0)) ∨ ((cntP (tornP W) 9 ≠ 9 ∧ cntP (tornP W) 9 ≠ 0) ∧ w = (0, false, 0)) := by
      have hback : ∀ t, t < 9 → ∃ r i, r < 3 ∧ i < 3 ∧ W (t / 3) (t % 3) = tornP W (r * 3 + i) ∧ r * 3 + i < 9 := fun t ht => by
        obtain ⟨t', ht', e⟩ := tornP_of (W := W) (r := t / 3) (i := t % 3) (by omega) (by omega)
        exact ⟨t' / 3, t' % 3, by omega, by omega, by rw [← e, show t' / 3 * 3 + t' % 3 = t' by omega], by omega⟩
      by_cases h9 : cntP (tornP W) 9 = 9
      · refine .inl ⟨h9, hw.trans (t1 fun t ht => ?_)⟩
        obtain ⟨r, i, hr, hi, e1, e2⟩ := hback t ht
        rw [e1]; exact cntP_all h9 _ e2
      · by_cases h0 : cntP (tornP W) 9 = 0
        · refine .inr (.inl ⟨h0, hw.trans (t2 fun t ht => ?_)⟩)
          obtain ⟨r, i, hr, hi, e1, e2⟩ := hback t ht
          rw [e1]; exact cntP_none h0 _ e2
        · refine .inr (.inr ⟨⟨h9, h0⟩, hw.trans (t3 ?_ ?_)⟩)
          · refine Classical.byContradiction fun hno => h0 (cntP_zero fun t ht => ?_)
            obtain ⟨i1, i2⟩ := io_ok (d := t / 3) (r := t % 3) (by omega) (by omega)
            cases hP : tornP W t with
            | false => rfl
            | true => exact absurd ⟨t % 3 * 3 + io (t / 3) (t % 3), by omega, by rw [show (t % 3 * 3 + io (t / 3) (t % 3)) / 3 = t % 3 by omega, show (t % 3 * 3 + io (t / 3) (t % 3)) % 3 = io (t / 3) (t % 3) by omega]; exact hP⟩ hno
          · refine Classical.byContradiction fun hno => h9 (cntP_full fun t ht => ?_)
            obtain ⟨i1, i2⟩ := io_ok (d := t / 3) (r := t % 3) (by omega) (by omega)
            cases hP : tornP W t with
            | true => rfl
            | false => exact absurd ⟨t % 3 * 3 + io (t / 3) (t % 3), by omega, by rw [show (t % 3 * 3 + io (t / 3) (t % 3)) / 3 = t % 3 by omega, show (t % 3 * 3 + io (t / 3) (t % 3)) % 3 = io (t / 3) (t % 3) by omega]; exact hP⟩ hno
    rcases hcases with ⟨h1, rfl⟩ | ⟨h1, rfl⟩ | ⟨⟨h1, h2⟩, rfl⟩
    · refine wps_ite (fun _ => ?_) (fun h => absurd (by show (((cntP (tornP W) 9 : Nat) : Int) == 9) = true; rw [h1]; rfl) h)
      refine wps_val (v := true) (wps_ite (fun _ => wps_pure (ent_val rfl)) (fun h => absurd rfl h)) ?_
      exact wps_pure (ent_prq rfl)
    · refine wps_ite (fun h => absurd h (by show ¬ (((cntP (tornP W) 9 : Nat) : Int) == 9) = true; rw [h1]; decide)) (fun _ => ?_)
      refine wps_ite (fun _ => ?_) (fun h => absurd (by show (((9 - cntP (tornP W) 9 : Nat) : Int) == 9) = true; rw [h1]; rfl) h)
      refine wps_val (v := true) (wps_ite (fun _ => wps_pure (ent_val rfl)) (fun h => absurd rfl h)) ?_
      exact wps_pure (ent_prq rfl)
    · refine wps_ite (fun h => absurd h (by show ¬ (((cntP (tornP W) 9 : Nat) : Int) == 9) = true; simp; omega)) (fun _ => ?_)
      refine wps_ite (fun h => absurd h (by show ¬ (((9 - cntP (tornP W) 9 : Nat) : Int) == 9) = true; simp; omega)) (fun _ => ?_)
      refine wps_val (v := true) (wps_ite (fun _ => wps_pure (ent_val rfl)) (fun h => absurd rfl h)) ?_
      exact wps_pure (ent_prq rfl)
  have hd3 : d < 3 := by have := of_decide_eq_true hc; omega
  refine wps_loop (fun st => ex fun r : Nat => pr (st = (((cntP (tornP W) (d * 3 + r) : Nat) : Int), ((d * 3 + r - cntP (tornP W) (d * 3 + r) : Nat) : Int), ((8 + r : Nat) : Int)) ∧ r ≤ 3) * bnk bb rb Q3 m0 * rackP rb R4 ds ps) (fun st => (11 - st.2.2).toNat) ?_ fun st => ?_
  · refine ent_ex 0 ?_
    repeat (first
      | (with_reducible exact ent_drop)
      | (with_reducible refine ent_pick ?_)
      | (refine ent_pickC (by rfl) ?_)
      | (refine ent_pickS (by rfl) ?_)
      | (refine ent_pickM (by rfl) ?_)
      | (refine ent_prx ?_ ?_; rotate_left)
      | (refine ent_prq ?_))
    all_goals first | exact ⟨rfl, by omega⟩ | trivial
  refine wps_ex fun r => wps_prP fun ⟨hst, hr3⟩ => ?_
  subst hst
  dsimp only
  refine wps_ite (fun hc2 => ?_) (fun hc2 => ?_)
  rotate_left
  · have hre : r = 3 := by
      have : ¬ (((8 + r : Nat) : Int) < 11) := fun h => hc2 (decide_eq_true h)
      omega
    subst hre
    refine wps_mapR (wps_pure ?_)
    refine ent_prr (by dsimp only; rw [range_add1 rfl (by omega)]; omega) (ent_ex (d + 1) ?_)
    rw [show (d + 1) * 3 = d * 3 + 3 by omega, range_add1 rfl (by omega)]
    repeat (first
      | (with_reducible exact ent_drop)
      | (with_reducible refine ent_pick ?_)
      | (refine ent_pickC (by rfl) ?_)
      | (refine ent_pickS (by rfl) ?_)
      | (refine ent_pickM (by rfl) ?_)
      | (refine ent_prx ?_ ?_; rotate_left)
      | (refine ent_prq ?_))
    all_goals first | exact ⟨rfl, by omega⟩ | trivial
  have hr : r < 3 := by have := of_decide_eq_true hc2; omega
  obtain ⟨i1, i2⟩ := io_ok (d := d) (r := r) hd3 hr
  have hP : tornP W (d * 3 + r) = W r (io d r) := by
    unfold tornP
    rw [show (d * 3 + r) % 3 = r by omega, show (d * 3 + r) / 3 = d by omega]
  have hlst : R4.lst (d : Int) ((8 + r : Nat) : Int) = if tornP W (d * 3 + r) then datAt Q3 6 l r (io d r) else datAt Q3 5 la r (io d r) := by
    have hle : R4.lErr (d : Int) ((8 + r : Nat) : Int) = 0 := by
      unfold Rk.lErr
      rw [if_neg (by rw [hT.n, hT.ns]; omega)]
    unfold Rk.lst
    have := hT.lasts r (io d r) hr i1
    rw [i2, show ((d : Int)).toNat = d by omega] at this
    rw [hle, if_pos rfl, hP, show ((d : Int)).toNat = d by omega, show (((8 + r : Nat) : Int)).toNat = 8 + r by omega, this]
  have hda := Ea.dat hr i1
  have hdb := Eb.dat hr i1
  have hX : (R4.lst (d : Int) ((8 + r : Nat) : Int)).length = 64 ∧ (R4.lst (d : Int) ((8 + r : Nat) : Int))[0]? = some (if tornP W (d * 3 + r) then (6 : Int) else 5) := by
    rw [hlst]
    cases tornP W (d * 3 + r)
    · exact ⟨hda.len, dat_byte hda 5 (by decide)⟩
    · exact ⟨hdb.len, dat_byte hdb 6 (by decide)⟩
  have hle := cntP_le (tornP W) (d * 3 + r)
  have hsc := cntP_succ (tornP W) (d * 3 + r)
  obtain ⟨X, hXe⟩ : ∃ X, R4.lst (d : Int) ((8 + r : Nat) : Int) = X := ⟨_, rfl⟩
  rw [hXe] at hX
  refine wps_callH (fun _ => device_Rack_Lasting_spec rb R4 ds ps d ((8 + r : Nat) : Int)) fun x => ?_
  simp only [← star_assoc]
  refine wps_prP fun _ => ?_
  rw [hXe]
  refine wps_fact (Ent.trans (ent_pick1 (A := own 1 x.1 (bv X))) (own_len _ _ _)) fun ⟨hxl, _⟩ => ?_
  rw [bl] at hxl
  have hxl' : x.1.len = 64 := by omega
  have hrd : Ent (emp * bnk bb rb Q3 m0 * rackP rb R4 ds ps * own 1 x.1 (bv X)) (rsl 1 x.1 (bv X)) := Ent.trans (ent_right _ _) (own_rsl _ _ _)
  have hget : (bv X)[0]? = some (Value.int .u8 (if tornP W (d * 3 + r) then (6 : Int) else 5)) := by
    unfold bv
    rw [List.getElem?_map, hX.2]; rfl
  generalize hp : tornP W (d * 3 + r) = p at *
  refine wps_val (v := p) (wps_ite (fun _ => wps_rd 0 (if p then (6 : Int) else 5) hrd rfl hget (wps_pure (ent_val (by cases p <;> rfl)))) (fun h => absurd (by rw [hxl']; rfl) h)) ?_
  refine wps_bindV (u := ((cntP (tornP W) (d * 3 + r + 1) : Nat) : Int)) ?_ ?_
  · cases p
    · refine wps_ite (fun h => absurd h (by decide)) (fun _ => wps_pure (ent_prr ?_ (Ent.refl _)))
      rw [hsc]; rfl
    · refine wps_ite (fun _ => wps_pure (ent_prr ?_ (Ent.refl _))) (fun h => absurd rfl h)
      rw [range_add1 rfl (by omega), hsc]; rfl
  refine wps_val (v := !p) (wps_ite (fun _ => wps_rd 0 (if p then (6 : Int) else 5) hrd rfl hget (wps_pure (ent_val (by cases p <;> rfl)))) (fun h => absurd (by rw [hxl']; rfl) h)) ?_
  have e8 : w64 (((8 + r : Nat) : Int) + 1) = ((8 + (r + 1) : Nat) : Int) := by rw [w64_id] <;> omega
  rw [e8]
  cases p
  · refine wps_ite (fun _ => wps_pure ?_) (fun h => absurd rfl h)
    refine ent_prr (by dsimp only; omega) (ent_ex (r + 1) ?_)
    rw [range_add1 rfl (by omega)]
    refine ent_pick (ent_pick (Ent.trans (ent_pr ⟨?_, by omega⟩) (ent_left _ _)))
    simp only [Bool.false_eq_true, if_false] at hsc
    refine Prod.ext rfl (Prod.ext ?_ rfl)
    show ((d * 3 + r - cntP (tornP W) (d * 3 + r) + 1 : Nat) : Int) = ((d * 3 + r + 1 - cntP (tornP W) (d * 3 + r + 1) : Nat) : Int)
    omega
  · refine wps_ite (fun h => absurd h (by decide)) (fun _ => wps_pure ?_)
    refine ent_prr (by dsimp only; omega) (ent_ex (r + 1) ?_)
    refine ent_pick (ent_pick (Ent.trans (ent_pr ⟨?_, by omega⟩) (ent_left _ _)))
    simp only [if_true] at hsc
    refine Prod.ext rfl (Prod.ext ?_ rfl)
    show ((d * 3 + r - cntP (tornP W) (d * 3 + r) : Nat) : Int) = ((d * 3 + r + 1 - cntP (tornP W) (d * 3 + r + 1) : Nat) : Int)
    omega
end Go.Proofs.Ytldmeimebebllaa
namespace Go.Mo
open Go.RowKit
set_option linter.unusedVariables false
def full (W : World) : Hp := fun i => (W.heap[i]?).map fun ob => (ob, true)
def fullF (W : World) : Fr := ⟨full W, W.os, W.output⟩
theorem full_own (W : World) : Own W (full W) (fullF W) := by
  have hok : Hp.ok (full W) W := fun x ob r h => by
    simp only [full, Option.map_eq_some_iff, Prod.mk.injEq] at h
    obtain ⟨ob', h, rfl, _⟩ := h
    exact h
  refine ⟨fun x => ?_, hok, hok, rfl, rfl⟩
  cases h : full W x with
  | none => exact .inl rfl
  | some p =>
    obtain ⟨ob, r⟩ := p
    right; right
    simp only [full, Option.map_eq_some_iff, Prod.mk.injEq] at h
    obtain ⟨ob', h, rfl, rfl⟩ := h
    exact ⟨ob', rfl, by simp [fullF, full, h]⟩
structure Kept (W w' : World) : Prop where
  frame : W.keptBut w' (fun _ => False)
  block : ∀ (i : Nat) ob, W.heap[i]? = some ob → w'.heap[i]? = some ob
theorem kept_of_own {W w' : World} {a : Hp} (h : Own w' a (fullF W)) : Kept W w' := by
  have hh : ∀ (i : Nat) ob, W.heap[i]? = some ob → w'.heap[i]? = some ob := fun i ob hi => h.2.2.1 i ob true (by simp [fullF, full, hi])
  refine ⟨⟨h.2.2.2.os, h.2.2.2.out, fun i hi => ?_⟩, hh⟩
  rw [hh i _ (Array.getElem?_eq_getElem hi), Array.getElem?_eq_getElem hi]
  cases W.heap[i] with
  | cells c t fr => exact ⟨rfl, rfl, rfl, fun _ _ => rfl⟩
  | map es clock => exact .inr ⟨rfl, rfl⟩
  | _ => rfl
theorem Kept.same {W w' : World} (h : Kept W w') {b : Nat} (hb : b < W.heap.size) : w'.heap[b]? = W.heap[b]? :=
  (h.block b _ (Array.getElem?_eq_getElem hb)).trans (Array.getElem?_eq_getElem hb).symm
open Go.ChangeShapes Go.WideShapes in
theorem post_of_kept {H : Type} {enc : TypeId × Value → H} {P : Program} {f : Func} {s : ChangeSpec} {apart fresh handsOn again : Bool} {W W' : World} {args : Array Value} {v : Value} {ds gs : List (DataW H)} {before pa pv : List MemPlace}
    (hW : DataW.Whole enc P f.params.toList s.vars apart W args.toList ds gs before)
    (hres : ∀ (b : Nat) (sp : Nat → Bool) (hd : Bool), DataW.TrodAll enc P W' b sp hd f.resultTypes.toList (v.resultList f.resultTypes.size) (s.fn H (ds ++ gs)).results [])
    (hargs : ∀ sp : Nat → Bool, (∀ p ∈ before, sp p.block = true) → DataW.TrodAll enc P W' 0 sp true f.params.toList args.toList (s.fn H (ds ++ gs)).args pa)
    (hvars : ∀ sp : Nat → Bool, (∀ p ∈ before, sp p.block = true) → DataW.TrodVars enc P W' sp s.vars (s.fn H (ds ++ gs)).vars pv)
    (hps : before = pa ++ pv) (hk : Kept W W')
    (hok : ∀ (j : Nat) (t : TypeId) (r : Value), f.resultTypes[j]? = some t → (v.resultList f.resultTypes.size)[j]? = some r → Value.okWide P W' .any 0 t r) :
    s.post enc P f apart fresh handsOn again W args v W' := by
  have hold : ∀ p ∈ before, (fun b => decide (b < W.heap.size)) p.block = true := fun p hp => by simpa using hW.lt p hp
  refine ⟨ds, gs, before, [], pa, pv, hW, hres _ _ _, hargs _ hold, hvars _ hold, World.keptBut_mono (fun p hp => hp.elim) hk.frame, fun _ => ?_⟩
  have hlt := hW.lt
  obtain ⟨_, _, _, _, _, hz, hn⟩ := hW
  refine ⟨hok, _, _, ([] ++ pa) ++ pv, ⟨[] ++ pa, pv, trodAll_append (hargs _ (fun _ _ => rfl)) (hres _ _ _), hvars _ (fun _ _ => rfl), rfl, ?_, ?_⟩, ?_⟩
  · intro b off hp
    have hp' : MemPlace.cell b off ∈ before := by rw [hps]; simpa using hp
    have hb : b < W.heap.size := hlt _ hp'
    have := hz b off hp'
    unfold World.frozen? at this ⊢
    rw [show W'.heap[(⟨b, off, none⟩ : Addr).block]? = W.heap[(⟨b, off, none⟩ : Addr).block]? from hk.same hb]
    exact this
  · intro ha
    have := hn ha
    rw [hps] at this
    simpa using this
  · intro p hp _
    rw [hps]
    simpa using hp
theorem wps_run {m : M Bool} {H : HP} (h : ∀ g, wps g H m fun b => pr (b = true)) (W : World) (hH : H.p (full W)) : m (fun b w' => b = true ∧ Kept W w') W :=
  h (fullF W) W (full W) _ (full_own W) hH fun x w' a' ho hb => ⟨hb, kept_of_own ho⟩
theorem calls_law {P : Program} {f : FuncId} {args : Array Value} {W : World} (h : Calls P f args W (RetPost Value.bool fun b w' => b = true ∧ Kept W w')) : Calls P f args W fun e w' => e = .returned (.bool true) ∧ Kept W w' :=
  h.mono fun e w' he => by
    cases e with
    | returned v =>
      obtain ⟨b, rfl, rfl, hg⟩ := he
      exact ⟨rfl, hg⟩
    | panicked c => exact he.elim
    | outgrown => exact he.elim
theorem trodAll_carry {H : Type} {enc : TypeId × Value → H} {P : Program} {w w' : World} {base : Nat} {spare : Nat → Bool} {held : Bool} : ∀ {ts : List TypeId} {vs : List Value} {ds : List (DataW H)} {ps : List MemPlace},
    DataW.TrodAll enc P w base spare held ts vs ds ps → (∀ p ∈ ps, w.sameAt w' p) → DataW.TrodAll enc P w' base spare held ts vs ds ps
  | [], [], [], _, h, _ => h
  | _ :: _, _ :: _, _ :: _, _, ⟨p, q, ⟨n, h1⟩, h2, e⟩, hs => ⟨p, q, ⟨n, DataW.trod_carry n _ _ _ h1 fun x hx => hs x (by rw [e]; exact List.mem_append_left _ hx)⟩,
      trodAll_carry h2 (fun x hx => hs x (by rw [e]; exact List.mem_append_right _ hx)), e⟩
theorem args_again {H : Type} {enc : TypeId × Value → H} {P : Program} {W W' : World} (hg : Kept W W') (kids : Kids P (· < P.types.size)) (fulls : ∀ t e, t < P.types.size → P.underlying t = some (.slice e) → 0 < P.cellsOf e)
    {ts : List TypeId} (hts : ∀ t ∈ ts, t < P.types.size) {vs : List Value} {ds : List (DataW H)} {ps : List MemPlace} (h : DataW.TrodAll enc P W 0 (fun _ => true) true ts vs ds ps) {sp : Nat → Bool} (hs : ∀ p ∈ ps, sp p.block = true) (hlt : ∀ p ∈ ps, p.block < W.heap.size) :
    DataW.TrodAll enc P W' 0 sp true ts vs ds ps :=
  trodAll_carry (DataW.TrodAll.respare kids fulls hts h hs) fun p hp => by
    have hb := hlt p hp
    have he := hg.same hb
    cases p with
    | cell b o => simp only [World.sameAt, World.cell?]; rw [show W'.heap[b]? = W.heap[b]? from he]
    | map b => exact he
end Go.Mo
namespace Go.Proofs.Ytldmeimebebllaa
open Go.Mo
set_option linter.unusedVariables false
theorem rsl_full {W : World} {a : Addr} {len cap : Nat} {cs : List Value} (hl : len ≤ cap) (hz : cs.length = len) (hc : ∀ i, i < len → W.cell? (a.add i) = cs[i]?) : (rsl 1 ⟨some a, len, cap⟩ cs).p (full W) := by
  by_cases h0 : len = 0
  · left
    exact ⟨h0, List.eq_nil_of_length_eq_zero (by omega)⟩
  · right
    have hc0 := hc 0 (by omega)
    have ha0 : a.add 0 = a := by simp [Addr.add]
    rw [ha0, List.getElem?_eq_getElem (by omega)] at hc0
    have hsp := World.cell?_spot hc0
    obtain ⟨b, off, sp⟩ := a
    simp only at hsp
    subst hsp
    unfold World.cell? at hc0
    cases hb : W.heap[b]? with
    | none => simp [hb] at hc0
    | some ob =>
      cases ob with
      | cells c e f =>
        refine ⟨⟨b, off, none⟩, c.toList, ent_prr (A := ro b c.toList) (B := ro b c.toList) ⟨rfl, by simpa using hz, hl, ?_⟩ (Ent.refl _) _ ⟨e, f, true, by simp [full, hb]⟩⟩
        apply List.ext_getElem?
        intro i
        simp only [Nat.mul_one]
        rw [List.getElem?_take]
        by_cases hi : i < len
        · rw [if_pos hi, List.getElem?_drop, ← hc i hi, Addr.add_mk]
          simp [World.cell?, hb]
        · rw [if_neg hi, List.getElem?_eq_none (by omega)]
      | _ => simp [hb] at hc0
end Go.Proofs.Ytldmeimebebllaa
namespace Go.Proofs.Ytldmeimebebllaa
open Go.Mo
set_option linter.unusedVariables false
theorem ints_full {W : World} {a : Addr} {len cap : Nat} {zs : List Int} (hl : len ≤ cap) (hz : zs.length = cap) (hc : ∀ i, i < zs.length → W.cell? (a.add i) = some (.int .i64 (zs.getD i 0))) : (intsP ⟨some a, len, cap⟩ (zs.take len)).p (full W) := by
  refine rsl_full hl (by simp [zv]; omega) fun i hi => ?_
  rw [hc i (by omega), zv, List.getElem?_map, List.getElem?_take, if_pos hi, List.getElem?_eq_getElem (by omega)]
  simp [List.getD_eq_getElem?_getD, List.getElem?_eq_getElem (show i < zs.length by omega)]
theorem wf_i64 {n : Int} (h : (Lit.int .i64 n).wf = true) : -9223372036854775808 ≤ n ∧ n < 9223372036854775808 := by
  simp only [Lit.wf, Bool.and_eq_true, decide_eq_true_eq] at h
  have h1 : IntKind.i64.min = -9223372036854775808 := rfl
  have h2 : IntKind.i64.max = 9223372036854775807 := rfl
  omega
theorem wf_u8 {n : Int} (h : (Lit.int .u8 n).wf = true) : 0 ≤ n ∧ n < 256 := by
  simp only [Lit.wf, Bool.and_eq_true, decide_eq_true_eq] at h
  have h1 : IntKind.u8.min = 0 := rfl
  have h2 : IntKind.u8.max = 255 := rfl
  omega
theorem ints_full_nil (W : World) : (intsP ⟨none, 0, 0⟩ []).p (full W) := .inl ⟨rfl, rfl⟩
theorem full_both {W : World} {A B : HP} (ha : A.p (full W)) (hb : B.p (full W)) : (A * B).p (full W) := by
  refine ⟨full W, full W, fun x => ?_, ?_, ha, hb⟩
  · cases h : full W x with
    | none => exact .inl rfl
    | some p =>
      right; right
      simp only [full, Option.map_eq_some_iff] at h
      obtain ⟨ob, _, rfl⟩ := h
      exact ⟨ob, rfl, rfl⟩
  · rw [Hp.un_self]; exact Hp.le_refl _
end Go.Proofs.Ytldmeimebebllaa
namespace Go.Proofs.Ytldmeimebebllaa
open Go.Mo Go.ChangeShapes Go.Deep 
set_option linter.unusedVariables false
theorem rsl_fullZ {W : World} {z : Nat} {a : Addr} {len cap : Nat} {cs : List Value} (hl : len ≤ cap) (hz : cs.length = len * z) (hzp : 0 < z) (hc : ∀ i, i < len * z → W.cell? (a.add i) = cs[i]?) : (rsl z ⟨some a, len, cap⟩ cs).p (full W) := by
  by_cases h0 : len = 0
  · left
    exact ⟨h0, List.eq_nil_of_length_eq_zero (by rw [hz, h0, Nat.zero_mul])⟩
  · right
    have hpos : 0 < len * z := Nat.mul_pos (by omega) hzp
    have hc0 := hc 0 hpos
    have ha0 : a.add 0 = a := by simp [Addr.add]
    rw [ha0, List.getElem?_eq_getElem (by omega)] at hc0
    have hsp := World.cell?_spot hc0
    obtain ⟨b, off, sp⟩ := a
    simp only at hsp
    subst hsp
    unfold World.cell? at hc0
    cases hb : W.heap[b]? with
    | none => simp [hb] at hc0
    | some ob =>
      cases ob with
      | cells c e f =>
        refine ⟨⟨b, off, none⟩, c.toList, ent_prr (A := ro b c.toList) (B := ro b c.toList) ⟨rfl, by simpa using hz, hl, ?_⟩ (Ent.refl _) _ ⟨e, f, true, by simp [full, hb]⟩⟩
        apply List.ext_getElem?
        intro i
        rw [List.getElem?_take]
        by_cases hi : i < len * z
        · rw [if_pos hi, List.getElem?_drop, ← hc i hi, Addr.add_mk]
          simp [World.cell?, hb]
        · rw [if_neg hi, List.getElem?_eq_none (by omega)]
      | _ => simp [hb] at hc0
section
variable {H : Type} {enc : TypeId × Value → H} {P : Program} {W : World} {base : Nat}
structure Flds (enc : TypeId × Value → H) (P : Program) (W : World) (base n : Nat) (fs : Array Field) (cs : List Value) (xs : List (DataW H × List MemPlace)) : Prop where
  each : ∀ (i : Nat) (f : Field), fs[i]? = some f → DataW.trod enc P W base (fun _ => true) true n f.type ((cs.drop f.offset).take (P.cellsOf f.type)) = xs[i]?
  len : xs.length = fs.size
theorem one_of {cs : List Value} {o : Nat} {v : Value} (h : (cs.drop o).take 1 = [v]) : cs[o]? = some v := by
  have := congrArg (fun l => l[0]?) h
  simpa using this
theorem Flds.int {n : Nat} {fs : Array Field} {cs : List Value} {xs : List (DataW H × List MemPlace)} (h : Flds enc P W base n fs cs xs) (i : Nat) {f : Field} (hf : fs[i]? = some f) (hu : P.underlying f.type = some (.int .i64)) (hc : P.cellsOf f.type = 1) :
    ∃ q : Int, cs[f.offset]? = some (.int .i64 q) ∧ (Lit.int .i64 q).wf = true := by
  have h1 := h.each i f hf
  rw [hc] at h1
  have hi : i < xs.length := by rw [h.len]; exact (Array.getElem?_eq_some_iff.1 hf).1
  rw [List.getElem?_eq_getElem hi] at h1
  obtain ⟨q, hq, _, hw⟩ := DataW.trod_int hu h1
  exact ⟨q, one_of hq, hw⟩
theorem Flds.slice {n : Nat} {fs : Array Field} {cs : List Value} {xs : List (DataW H × List MemPlace)} (h : Flds enc P W base n fs cs xs) (i : Nat) {f : Field} (hf : fs[i]? = some f) {e : TypeId} {k : IntKind} (hu : P.underlying f.type = some (.slice e)) (hc : P.cellsOf f.type = 1)
    (he : P.underlying e = some (.int k)) (hce : P.cellsOf e = 1) (hbe : 0 < P.bytesOf e) (hw : ∀ y, xs[i]? = some y → ∀ q ∈ y.1.weights P f.type, q ≤ reachBytes) :
    ∃ (s : Slc) (b : List Int), cs[f.offset]? = some (.slice s.base s.len s.cap) ∧ (rsl 1 s (b.map (Value.int k))).p (full W) ∧ (∀ q ∈ b, (Lit.int k q).wf = true) ∧ b.length ≤ 140737488355328 := by
  have h1 := h.each i f hf
  rw [hc] at h1
  have hi : i < xs.length := by rw [h.len]; exact (Array.getElem?_eq_some_iff.1 hf).1
  rw [List.getElem?_eq_getElem hi] at h1
  have hwi := hw _ (List.getElem?_eq_getElem hi)
  rcases open_ints hu he hce h1 with ⟨hcs, hx⟩ | ⟨a, len, cap, zs, hcs, hba, hle, hcap, hzl, hx, hcell, hwf⟩
  · exact ⟨⟨none, 0, 0⟩, [], one_of hcs, .inl ⟨rfl, rfl⟩, by simp, by simp⟩
  · have hzl' : zs.length = cap := by simpa using hzl
    refine ⟨⟨some a, len, cap⟩, zs.take len, one_of hcs, ?_, fun q hq => hwf q (List.mem_of_mem_take hq), ?_⟩
    · refine rsl_full hle (by simp; omega) fun j hj => ?_
      rw [hcell j (by omega), List.getElem?_map, List.getElem?_take, if_pos hj, List.getElem?_eq_getElem (by omega)]
      simp [List.getD_eq_getElem?_getD, List.getElem?_eq_getElem (show j < zs.length by omega)]
    · rw [hx] at hwi
      have := hwi (((lits (H := H) k (zs.take len)).length + (lits (H := H) k (zs.drop len)).length) * P.bytesOf e) (by simp [DataW.weights, hu])
      have h2 : reachBytes = 140737488351232 := rfl
      have h3 : (lits (H := H) k (zs.take len)).length + (lits (H := H) k (zs.drop len)).length = zs.length := by simp [lits]; omega
      rw [h3] at this
      have h4 : zs.length * 1 ≤ zs.length * P.bytesOf e := Nat.mul_le_mul_left _ hbe
      simp only [List.length_take]; omega
theorem struct_weights {e : TypeId} {fs : Array Field} {xs : List (DataW H × List MemPlace)} (he : P.underlying e = some (.struct fs)) (hs : ∀ q ∈ (DataW.agg (xs.map (·.1))).weights P e, q ≤ reachBytes) (i : Nat) {f : Field} (hf : fs[i]? = some f) :
    ∀ y, xs[i]? = some y → ∀ q ∈ y.1.weights P f.type, q ≤ reachBytes := by
  intro y hy q hq
  refine hs q ?_
  simp only [DataW.weights, he]
  refine DataW.weights_mem_each (j := i) (t := f.type) (d := y.1) ?_ ?_ q hq
  · rw [List.getElem?_map, Array.getElem?_toList, hf]; rfl
  · rw [List.getElem?_map, hy]; rfl
theorem all_weights {e : TypeId} {ds : List (DataW H)} {d : DataW H} (hd : d ∈ ds) {q : Nat} (hq : q ∈ d.weights P e) : q ∈ DataW.weightsAll P e ds := by
  induction ds with
  | nil => simp at hd
  | cons x ds ih =>
    simp only [DataW.weightsAll, List.mem_append]
    rcases List.mem_cons.1 hd with rfl | hd
    · exact .inl hq
    · exact .inr (ih hd)
theorem sized_arg {ts : List TypeId} {ds : List (DataW H)} {j : Nat} {t : TypeId} {d : DataW H} (h : (DataW.weightsEach P ts ds).all (· ≤ reachBytes) = true) (ht : ts[j]? = some t) (hd : ds[j]? = some d) : ∀ q ∈ d.weights P t, q ≤ reachBytes := fun q hq => by
  have := List.all_eq_true.1 h _ (DataW.weights_mem_each ht hd q hq)
  simpa using this
instance : Inhabited CallA := ⟨⟨0, 0, 0, ⟨none, 0, 0⟩, [], ⟨none, 0, 0⟩, []⟩⟩
theorem open_structs {γ : Type} [Inhabited γ] {cells : γ → List Value} {z : Nat} {ok : γ → Prop} {t e : TypeId} {fuel : Nat} {cs : List Value} {x : DataW H × List MemPlace} (hzp : 0 < z) (hcl : ∀ c, (cells c).length = z) (ht : P.underlying t = some (.slice e)) (hz : P.cellsOf e = z)
    (helem : ∀ (n : Nat) (cs : List Value) (x : DataW H × List MemPlace), DataW.trod enc P W base (fun _ => true) true n e cs = some x → (∀ q ∈ x.1.weights P e, q ≤ reachBytes) → ∃ c, cs = cells c ∧ ok c)
    (h : DataW.trod enc P W base (fun _ => true) true fuel t cs = some x) (hs : ∀ q ∈ x.1.weights P t, q ≤ reachBytes) :
    ∃ (s : Slc) (l : List γ), cs = [.slice s.base s.len s.cap] ∧ (rsl z s (l.flatMap cells)).p (full W) ∧ l.length = s.len ∧ ∀ c ∈ l, ok c := by
  rcases open_slice ht h with ⟨hcs, hx⟩ | ⟨a, len, cap, m, n, D, Pl, hcs, hb, hle, hcap, hm, hx, hel⟩
  · exact ⟨⟨none, 0, 0⟩, [], hcs, .inl ⟨rfl, rfl⟩, rfl, by simp⟩
  · have hm' : m = cap := by simpa using hm
    have hel' : ∀ i, i < len → ∃ c : γ, W.cells? base (a.add (i * z)) z = some (cells c) ∧ ok c := by
      intro i hi
      obtain ⟨cs', h1, h2⟩ := hel i (by omega)
      rw [hz] at h1
      obtain ⟨c, hc, hok⟩ := helem n cs' _ h2 (fun q hq => by
        refine hs q ?_
        rw [hx]
        simp only [DataW.weights, ht]
        refine List.mem_cons_of_mem _ (List.mem_append_left _ (all_weights (d := D i) ?_ hq))
        exact List.mem_map.2 ⟨i, List.mem_range.2 hi, rfl⟩)
      exact ⟨c, hc ▸ h1, hok⟩
    obtain ⟨f, hf⟩ := choose_lt hel'
    refine ⟨⟨some a, len, cap⟩, (List.range len).map f, hcs, ?_, by simp, fun c hc => ?_⟩
    · refine rsl_fullZ hle (by rw [flat_len hcl]; simp) hzp fun i hi => ?_
      have hq : i / z < len := (Nat.div_lt_iff_lt_mul hzp).2 hi
      have hr : i % z < z := Nat.mod_lt _ hzp
      obtain ⟨_, hlen, hcell⟩ := World.cells?_some (hf (i / z) hq).1
      have hc := hcell (i % z) hr
      rw [Addr.add_add] at hc
      have hsplit : i / z * z + i % z = i := by rw [Nat.mul_comm]; exact Nat.div_add_mod i z
      rw [hsplit] at hc
      rw [hc]
      have hg := flat_get hcl (l := (List.range len).map f) (n := i / z) (j := i % z) (c := f (i / z)) (by rw [List.getElem?_map, List.getElem?_range hq]; rfl) hr
      rw [hsplit] at hg
      exact hg.symm
    · obtain ⟨i, hi, rfl⟩ := List.mem_map.1 hc
      exact (hf i (List.mem_range.1 hi)).2
end
end Go.Proofs.Ytldmeimebebllaa
namespace Go.Proofs.Ytldmeimebebllaa
open Go.Mo Go.ChangeShapes Go.Deep 
set_option linter.unusedVariables false
section
variable {H : Type} {enc : TypeId × Value → H} {P : Program} {W : World} {base : Nat}
instance : Inhabited CallB := ⟨⟨0, 0, 0, ⟨none, 0, 0⟩, [], (0, 0, 0)⟩⟩
end
end Go.Proofs.Ytldmeimebebllaa
namespace Go.Proofs.Ytldmeimebebllaa
open Go.Mo Go.ChangeShapes Go.Deep 
set_option linter.unusedVariables false
section
variable {H : Type} {enc : TypeId × Value → H} {P : Program} {W : World} {base : Nat}
theorem list3 {cs : List Value} {a b c : Value} (hl : cs.length = 3) (h0 : cs[0]? = some a) (h1 : cs[1]? = some b) (h2 : cs[2]? = some c) : cs = [a, b, c] := by
  match cs, hl with
  | [_, _, _], _ => simp at h0 h1 h2; simp [h0, h1, h2]
instance : Inhabited BlkA := ⟨BlkA.nil⟩
theorem wf_byts {b : List Int} (h : ∀ q ∈ b, (Lit.int .u8 q).wf = true) : Byts b := fun n hn => wf_u8 (h n hn)
theorem open_blocks {t e eb : TypeId} {f0 f1 f2 : Field} {fuel : Nat} {cs : List Value} {x : DataW H × List MemPlace} (ht : P.underlying t = some (.slice e)) (hz : P.cellsOf e = 3) (he : P.underlying e = some (.struct #[f0, f1, f2]))
    (ho : f0.offset = 0 ∧ f1.offset = 1 ∧ f2.offset = 2)
    (hc : P.cellsOf f0.type = 1 ∧ P.cellsOf f1.type = 1 ∧ P.cellsOf f2.type = 1)
    (hi : P.underlying f0.type = some (.int .i64) ∧ P.underlying f1.type = some (.int .i64))
    (h3 : P.underlying f2.type = some (.slice eb) ∧ P.underlying eb = some (.int .u8) ∧ P.cellsOf eb = 1 ∧ 0 < P.bytesOf eb)
    (h : DataW.trod enc P W base (fun _ => true) true fuel t cs = some x) (hs : ∀ q ∈ x.1.weights P t, q ≤ reachBytes) :
    ∃ (s : Slc) (l : List BlkA), cs = [.slice s.base s.len s.cap] ∧ (blocksP s l).p (full W) := by
  obtain ⟨s, l, hcs, hr, hlen, hok⟩ := open_structs (γ := BlkA) (cells := BlkA.cells) (z := 3) (ok := fun c => (blkP c).p (full W)) (by decide) cellsK_len ht hz (fun n cs x hx hw => by
    obtain ⟨xs, n', _, rfl, hl, hxl, hf⟩ := DataW.trod_struct he hx
    have F : Flds enc P W base n' #[f0, f1, f2] cs xs := ⟨hf, hxl⟩
    obtain ⟨q0, a0, _⟩ := F.int 0 (f := f0) rfl hi.1 hc.1
    obtain ⟨q1, a1, _⟩ := F.int 1 (f := f1) rfl hi.2 hc.2.1
    obtain ⟨s3, b3, a3, r3, w3, n3⟩ := F.slice 2 (f := f2) rfl h3.1 hc.2.2 h3.2.1 h3.2.2.1 h3.2.2.2 (struct_weights he hw 2 rfl)
    rw [ho.1] at a0
    rw [ho.2.1] at a1
    rw [ho.2.2] at a3
    refine ⟨⟨q0, q1, s3, b3⟩, list3 (by rw [hl, hz]) a0 a1 a3, ?_⟩
    exact full_both (A := pr _) ⟨wf_byts w3, n3⟩ r3) h hs
  refine ⟨s, l, hcs, full_both (full_both (A := pr True) trivial hr) fun i c => ?_⟩
  exact fun hc => hok c (List.mem_of_getElem? hc)
end
end Go.Proofs.Ytldmeimebebllaa
