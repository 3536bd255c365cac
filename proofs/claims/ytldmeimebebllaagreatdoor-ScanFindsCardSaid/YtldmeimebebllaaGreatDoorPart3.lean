/-
  A part of the proof: predicate transformers over the model, and a separation logic over them; what functions of the program do.
-/
import Derived.Test.YtldmeimebebllaaGreatDoorPart2
import Derived.ChangeReads
import Derived.ReadAgain
import Derived.Deep.Frames
import Derived.RowKit3
import Derived.ChangeSame
import Derived.ChangeSlices
import Derived.SizedLaws
import Derived.Deep.Slices
set_option linter.unusedSimpArgs false
namespace Go.Proofs.Ytldmeimebebllaa
open Go.Mo
set_option linter.unusedVariables false
variable {g : Fr} {cv : CV}
theorem parSpot3 (seg r : Nat) : parSpot Q3 seg r = spt seg r 2 := by
  have h1 := spotsL_last Q3 seg r
  have h2 := spotsL_small seg r
  rw [show spotsL Q3 seg r = _ from h2, show ((Q3.1 - 1).toNat) = 2 from rfl] at h1
  simpa using h1.symm
structure Row3 (R : Rk) (seg r : Nat) (d : Nat → List Int) : Prop where
  set : Settled R (fun _ => false)
  n : R.n = 4
  ns : R.ns = 41
  s12 : seg < 12
  r3 : r < 3
  sec : ∀ i, i < 3 → (R.dk (slotV Q3 m0 (spt seg r i).1).1.toNat).sec (spt seg r i).2 = d i
theorem Row3.snd {R : Rk} {seg r : Nat} {d : Nat → List Int} (h : Row3 R seg r d) (seq : Int) :
    sndRow Q3 m0 R seg seq r = true ↔ (∀ i, i < 3 → (headOf (d i)).1 = seq) ∧ parL [d 0, d 1] = some (d 2) := by
  have g : ∀ i, i < 3 → goodV Q3 m0 R (spt seg r i) seq = (d i, (headOf (d i)).1 == seq) := fun i hi => by
    have hrg := spt_rng h.s12 h.r3 hi
    have hb := sec_brd (m := m0) h.set h.n h.ns (s := spt seg r i) hrg.1 (by omega)
    unfold goodV
    rw [hb.1, if_pos (by decide), hb.2 rfl, h.sec i hi]
  have n0 := spt_ne (seg := seg) h.r3 (i := 0) (j := 2) (by decide) (by decide) (by decide)
  have n1 := spt_ne (seg := seg) h.r3 (i := 1) (j := 2) (by decide) (by decide) (by decide)
  unfold sndRow
  rw [parSpot3, g 2 (by decide), show spotsL Q3 seg r = [spt seg r 0, spt seg r 1, spt seg r 2] from spotsL_small seg r]
  unfold othV
  simp only [othL, if_true, if_neg n0, if_neg n1, g 0 (by decide), g 1 (by decide)]
  constructor
  · intro hx
    cases e0 : ((headOf (d 0)).1 == seq)
    · rw [e0] at hx; simp at hx
    cases e1 : ((headOf (d 1)).1 == seq)
    · rw [e0, e1] at hx; simp at hx
    rw [e0, e1] at hx
    simp only [if_true, Option.map_some, Bool.and_eq_true, beq_iff_eq, decide_eq_true_eq] at hx
    obtain ⟨h2, h3, h4⟩ := hx
    refine ⟨fun i hi => ?_, ?_⟩
    · have : i = 0 ∨ i = 1 ∨ i = 2 := by omega
      rcases this with rfl | rfl | rfl
      · simpa using e0
      · simpa using e1
      · exact h2
    · obtain ⟨c, hc⟩ := Option.isSome_iff_exists.1 h3
      rw [hc] at h4 ⊢
      rw [h4]; rfl
  · rintro ⟨hh, hp⟩
    have b : ∀ i, i < 3 → ((headOf (d i)).1 == seq) = true := fun i hi => by simp [hh i hi]
    rw [b 0 (by decide), b 1 (by decide), b 2 (by decide)]
    simp [hp]
end Go.Proofs.Ytldmeimebebllaa





namespace Go.Proofs.Ytldmeimebebllaa
open Go.Mo
set_option linter.unusedVariables false
variable {g : Fr} {cv : CV}
abbrev S4 := Int × Int × Int × Int
def whereB (q : G3) (a : Int) : Bool := RightB q && decide (1 ≤ a ∧ a ≤ q.2.2 * placesI q)
def sumOk (q : G3) (s : S4) : Bool := RightB q && (decide (1 ≤ s.1 ∧ s.1 ≤ q.2.2 ∧ 0 ≤ s.2.1 ∧ s.2.1 < s.1 ∧ 0 ≤ s.2.2.1 ∧ s.2.2.1 ≤ placesI q) && (if s.2.1 = s.1 - 1 then decide (1 ≤ s.2.2.2 ∧ s.2.2.2 ≤ q.2.2 * placesI q) else decide (s.2.2.2 = 0)))
theorem geo_Places_all {H : HP} (q : G3) : Val g H (geo_Places q) (if RightB q = true then placesI q else 0) := by
  unfold geo_Places
  refine wps_alloc fun c => ?_
  refine wps_ldG q.1 q.2.1 q.2.2 (by rfl) ?_
  refine wps_val (geo_Right_val q) ?_
  by_cases h : RightB q = true
  · rw [if_pos h]
    refine wps_ite (fun h2 => absurd h (by simpa using h2)) (fun _ => ?_)
    refine wps_ldG q.1 q.2.1 q.2.2 (by rfl) ?_
    refine wps_val (geo_places_val q) (wps_pure (ent_val ?_))
    exact (RightB.bnd h).places.1
  · rw [if_neg h]
    exact wps_ite (fun _ => wps_pure (ent_val rfl)) (fun h2 => absurd (by simpa using h2) h)
theorem segs_places {q : G3} (h : RightB q = true) : w64 (q.2.2 * placesI q) = q.2.2 * placesI q ∧ q.2.2 * placesI q ≤ 3776 := by
  have hb := RightB.bnd h
  have h1 := hb.places.2
  have b5 := hb.s12
  have b6 := hb.s64
  have h2 : q.2.2 * placesI q ≤ 64 * 59 := Int.mul_le_mul b6 h1.2 (by omega) (by omega)
  have h3 : 0 ≤ q.2.2 * placesI q := Int.mul_nonneg (by omega) (by omega)
  exact ⟨w64_id (by omega) (by omega), by omega⟩
theorem geo_Where_val {H : HP} (q : G3) (a : Int) : Val g H (geo_Where q a) (if whereB q a = true then (((a - 1) / placesI q, (a - 1) % placesI q + 1, true) : Int × Int × Bool) else (0, 0, false)) := by
  unfold geo_Where
  refine wps_alloc fun c => ?_
  refine wps_bindV (u := !whereB q a) ?_ ?_
  · refine wps_regionH ?_
    refine wps_ldGI q.1 q.2.1 q.2.2 (by rfl) ?_
    refine wps_stepV (geo_Right_val q) ?_
    by_cases h : RightB q = true
    · refine wps_ite (fun h2 => absurd h (by simpa using h2)) (fun _ => ?_)
      refine wps_ldI q.2.2 (by rfl) ?_
      refine wps_ldGI q.1 q.2.1 q.2.2 (by rfl) ?_
      refine wps_stepV (geo_places_val q) ?_
      rw [(RightB.bnd h).places.1, (segs_places h).1]
      refine wps_stepV (geo_within_val _ _ _) (wps_pure (ent_prr ?_ (Ent.refl _)))
      simp [whereB, h]
    · refine wps_ite (fun _ => wps_pure (ent_prr ?_ (Ent.refl _))) (fun h2 => absurd (by simpa using h2) h)
      simp [whereB, h]
  by_cases h : whereB q a = true
  · rw [if_pos h]
    refine wps_ite (fun h2 => absurd h (by simpa using h2)) (fun _ => ?_)
    have hR : RightB q = true ∧ (1 ≤ a ∧ a ≤ q.2.2 * placesI q) := by simpa [whereB] using h
    have hb := (RightB.bnd hR.1).places
    have hs := (segs_places hR.1).2
    refine wps_regionH ?_
    refine wps_ldGI q.1 q.2.1 q.2.2 (by rfl) ?_
    refine wps_ldGI q.1 q.2.1 q.2.2 (by rfl) ?_
    refine wps_stepV (geo_places_val q) ?_
    rw [hb.1]
    refine wps_assert (by omega) ?_
    refine wps_stepV (geo_places_val q) ?_
    rw [hb.1]
    refine wps_assert (by omega) (wps_pure (ent_val ?_))
    have h0 : 0 ≤ (a - 1) / placesI q := Int.ediv_nonneg (by omega) (by omega)
    have h1 : (a - 1) / placesI q ≤ a - 1 := Int.ediv_le_self _ (by omega)
    have h2 := Int.emod_nonneg (a - 1) (b := placesI q) (by omega)
    have h3 := Int.emod_lt_of_pos (a - 1) (b := placesI q) (by omega)
    rw [w64_id (n := a - 1) (by omega) (by omega), Int.tdiv_eq_ediv_of_nonneg (by omega), Int.tmod_eq_emod_of_nonneg (by omega), w64_id (n := (a - 1) / placesI q) (by omega) (by omega), w64_id (by omega) (by omega)]
  · rw [if_neg h]
    exact wps_ite (fun _ => wps_pure (ent_val rfl)) (fun h2 => absurd (by simpa using h2) h)
theorem val_cond {H : HP} {c b : Bool} {m : M Bool} (h : c = false → Val g H m b) : Val g H (if c = true then pureM true else m) (c || b) := by
  refine wps_ite (fun hc => wps_pure (ent_val (by rw [hc]; rfl))) (fun hc => ?_)
  have hc : c = false := by simpa using hc
  rw [hc]
  exact h hc
theorem scan_right_val {H : HP} (q : G3) (s : S4) : Val g H (scan_right q s) (sumOk q s) := by
  unfold scan_right
  obtain ⟨c, x, b, r⟩ := s
  refine wps_alloc fun x2 => ?_
  refine wps_alloc fun x3 => ?_
  refine wps_ldG q.1 q.2.1 q.2.2 (by rfl) ?_
  refine wps_val (geo_Places_all q) ?_
  by_cases hR : RightB q = true
  rotate_left
  · rw [if_neg hR]
    refine wps_val (v := true) (wps_ite (fun _ => wps_pure (ent_val rfl)) (fun h => absurd rfl h)) ?_
    refine wps_val (v := true) (wps_ite (fun _ => wps_pure (ent_val rfl)) (fun h => absurd rfl h)) ?_
    refine wps_val (v := true) (wps_ite (fun _ => wps_pure (ent_val rfl)) (fun h => absurd rfl h)) ?_
    refine wps_val (v := true) (wps_ite (fun _ => wps_pure (ent_val rfl)) (fun h => absurd rfl h)) ?_
    refine wps_val (v := true) (wps_ite (fun _ => wps_pure (ent_val rfl)) (fun h => absurd rfl h)) ?_
    refine wps_val (v := true) (wps_ite (fun _ => wps_pure (ent_val rfl)) (fun h => absurd rfl h)) ?_
    exact wps_ite (fun _ => wps_pure (ent_val (by simp [sumOk, hR]))) (fun h => absurd rfl h)
  rw [if_pos hR]
  have hb := (RightB.bnd hR).places
  have hs := RightB.bnd hR
  have b6 := hs.s64
  refine wps_val (val_cond (b := decide (c < 1)) fun _ => wps_ld c (by rfl) (wps_pure (ent_val rfl))) ?_
  refine wps_val (val_cond (b := decide (c > q.2.2)) fun _ => wps_ld c (by rfl) (wps_ld q.2.2 (by rfl) (wps_pure (ent_val rfl)))) ?_
  refine wps_val (val_cond (b := decide (x < 0)) fun _ => wps_ld x (by rfl) (wps_pure (ent_val rfl))) ?_
  refine wps_val (val_cond (b := decide (x ≥ c)) fun _ => wps_ld x (by rfl) (wps_ld c (by rfl) (wps_pure (ent_val rfl)))) ?_
  refine wps_val (val_cond (b := decide (b < 0)) fun _ => wps_ld b (by rfl) (wps_pure (ent_val rfl))) ?_
  refine wps_val (val_cond (b := decide (b > placesI q)) fun _ => wps_ld b (by rfl) (wps_pure (ent_val rfl))) ?_
  refine wps_ite (fun h => wps_pure (ent_val ?_)) (fun h => ?_)
  · simp only [Bool.or_eq_true, decide_eq_true_eq, beq_iff_eq] at h
    have : ¬ (1 ≤ c ∧ c ≤ q.2.2 ∧ 0 ≤ x ∧ x < c ∧ 0 ≤ b ∧ b ≤ placesI q) := by omega
    simp [sumOk, this]
  · simp only [Bool.or_eq_true, decide_eq_true_eq, beq_iff_eq] at h
    have hk : 1 ≤ c ∧ c ≤ q.2.2 ∧ 0 ≤ x ∧ x < c ∧ 0 ≤ b ∧ b ≤ placesI q := by omega
    refine wps_ld x (by rfl) (wps_ld c (by rfl) ?_)
    rw [w64_id (n := c - 1) (by omega) (by omega)]
    refine wps_ite (fun he => ?_) (fun he => ?_)
    · have he : x = c - 1 := by simpa using he
      refine wps_ldG q.1 q.2.1 q.2.2 (by rfl) (wps_ld r (by rfl) (wps_val (geo_Where_val q r) (wps_pure (ent_val ?_))))
      unfold sumOk whereB
      rw [hR, decide_eq_true hk, if_pos he]
      by_cases hw : 1 ≤ r ∧ r ≤ q.2.2 * placesI q <;> simp [hw]
    · have he : ¬ x = c - 1 := by simpa using he
      refine wps_ld r (by rfl) (wps_pure (ent_val ?_))
      unfold sumOk
      rw [hR, decide_eq_true hk, if_neg he]
      by_cases hr : r = 0 <;> simp [hr]
end Go.Proofs.Ytldmeimebebllaa
namespace Go.Proofs.Ytldmeimebebllaa
open Go.Mo
set_option linter.unusedVariables false
variable {g : Fr} {cv : CV}
def allz (b : List Int) : Bool := b.all fun x => x == 0
theorem allz_take {b : List Int} {n : Nat} (h : n + 1 = b.length) (hz : b[n]? = some 0) : allz (b.take n) = allz b := by
  have e : b = b.take n ++ [0] := by
    have h2 := List.take_append_drop n b
    rw [List.drop_eq_getElem_cons (by omega), List.drop_of_length_le (by omega)] at h2
    rw [List.getElem?_eq_getElem (by omega)] at hz
    rw [Option.some.inj hz] at h2
    exact h2.symm
  rw [e]
  unfold allz
  rw [List.take_append_of_le_length (by simp; omega), List.take_take]
  simp
theorem allz_drop {b : List Int} (h : 0 < b.length) (hz : b[0]? = some 0) : allz (b.drop 1) = allz b := by
  match b, h, hz with
  | x :: b, _, hz =>
    have : x = 0 := by simpa using hz
    subst this
    simp [allz]
theorem allz_no {b : List Int} {n : Nat} {x : Int} (h : b[n]? = some x) (hx : x ≠ 0) : allz b = false := by
  apply Bool.eq_false_iff.2
  intro ha
  unfold allz at ha
  rw [List.all_eq_true] at ha
  exact hx (by simpa using ha x (List.mem_of_getElem? h))
theorem byt_cut {s : Slc} {b : List Int} {l h : Nat} (h1 : l ≤ h) (h2 : h ≤ s.len) : Ent (byt s b) (byt (subS 1 s l h) ((b.drop l).take (h - l))) := by
  refine Ent.trans (rsl_sub h1 h2) (Ent.of_eq ?_)
  unfold byt bv
  rw [Nat.mul_one, Nat.mul_one, List.map_take, List.map_drop]
theorem bytes_trimRightByte_spec {H : HP} {s : Slc} {b : List Int} (hs : Ent H (byt s b)) (hbl : b.length ≤ 1099511627776) : wps g H (bytes_trimRightByte s 0) (fun t => pr (∃ b', Ent H (byt t b') ∧ allz b' = allz b ∧ b'.length ≤ b.length) * H) := by
  unfold bytes_trimRightByte
  refine wps_loop (fun st => pr (∃ b', Ent H (byt st b') ∧ allz b' = allz b ∧ b'.length ≤ b.length) * H) (fun st => st.len) (ent_prr ⟨b, hs, rfl, Nat.le_refl _⟩ (Ent.refl _)) fun st => ?_
  refine wps_pr fun ⟨b', h1, h2, h3⟩ => ?_
  refine wps_fact (len_of h1) fun hl => ?_
  by_cases h0 : st.len = 0
  · refine wps_val (v := false) (wps_ite (fun h => absurd h (by simp [h0])) (fun _ => wps_pure (ent_val rfl))) ?_
    exact wps_ite (fun h => absurd h (by decide)) (fun _ => wps_mapR (wps_pure (ent_prr ⟨b', h1, h2, h3⟩ (Ent.refl _))))
  have hlt : st.len - 1 < b'.length := by omega
  have hw : w64 (((st.len : Nat) : Int) - 1) = ((st.len - 1 : Nat) : Int) := by rw [w64_id (by omega) (by omega)]; omega
  refine wps_val (v := b'[st.len - 1] == 0) (wps_ite (fun _ => wps_rd (st.len - 1) b'[st.len - 1] h1 hw (bv_get (List.getElem?_eq_getElem hlt)) (wps_pure (ent_val rfl))) (fun h => absurd (decide_eq_true (show ((st.len : Nat) : Int) > 0 by omega)) h)) ?_
  refine wps_ite (fun hz => ?_) (fun hz => wps_mapR (wps_pure (ent_prr ⟨b', h1, h2, h3⟩ (Ent.refl _))))
  have hz : b'[st.len - 1] = 0 := by simpa using hz
  refine wps_fact (Ent.trans h1 rsl_room) fun hr => ?_
  have hr := hr h0
  refine wps_slice 0 (st.len - 1) rfl hw (by omega) (by omega) (wps_pure ?_)
  refine ent_prr (by show (subS 1 st 0 (st.len - 1)).len < st.len; simp [subS]; omega) (ent_prr ⟨b'.take (st.len - 1), Ent.trans h1 (Ent.trans (byt_cut (l := 0) (h := st.len - 1) (by omega) (by omega)) (Ent.of_eq (by rw [List.drop_zero, Nat.sub_zero]))), ?_, ?_⟩ (Ent.refl _))
  · rw [allz_take (by omega) (by rw [List.getElem?_eq_getElem hlt, hz]), h2]
  · simp; omega
theorem bytes_trimLeftByte_spec {H : HP} {s : Slc} {b : List Int} (hs : Ent H (byt s b)) (hbl : b.length ≤ 1099511627776) : wps g H (bytes_trimLeftByte s 0) (fun t => pr ((((t.len : Nat) : Int) == 0) = allz b) * H) := by
  unfold bytes_trimLeftByte
  refine wps_loop (fun st => pr (∃ b', Ent H (byt st b') ∧ allz b' = allz b) * H) (fun st => st.len) (ent_prr ⟨b, hs, rfl⟩ (Ent.refl _)) fun st => ?_
  refine wps_pr fun ⟨b', h1, h2⟩ => ?_
  refine wps_fact (len_of h1) fun hl => ?_
  by_cases h0 : st.len = 0
  · have hb : b' = [] := List.eq_nil_of_length_eq_zero (by omega)
    subst hb
    refine wps_val (v := false) (wps_ite (fun h => absurd h (by simp [h0])) (fun _ => wps_pure (ent_val rfl))) ?_
    refine wps_ite (fun h => absurd h (by decide)) (fun _ => wps_mapR (wps_ite (fun _ => wps_pure (ent_prr ?_ (Ent.refl _))) (fun h => absurd (by simp [h0]) h)))
    rw [← h2]; rfl
  have hlt : 0 < b'.length := by omega
  refine wps_val (v := b'[0] == 0) (wps_ite (fun _ => wps_rd 0 b'[0] h1 rfl (bv_get (List.getElem?_eq_getElem hlt)) (wps_pure (ent_val rfl))) (fun h => absurd (decide_eq_true (show ((st.len : Nat) : Int) > 0 by omega)) h)) ?_
  refine wps_ite (fun hz => ?_) (fun hz => wps_mapR ?_)
  · have hz : b'[0] = 0 := by simpa using hz
    refine wps_fact (Ent.trans h1 rsl_room) fun hr => ?_
    have hr := hr h0
    refine wps_slice 1 st.len rfl rfl (by omega) hr (wps_pure ?_)
    refine ent_prr (by show (subS 1 st 1 st.len).len < st.len; simp [subS]; omega) (ent_prr ⟨b'.drop 1, Ent.trans h1 (Ent.trans (byt_cut (l := 1) (h := st.len) (by omega) (by omega)) (Ent.of_eq (by rw [List.take_of_length_le (by simp; omega)]))), ?_⟩ (Ent.refl _))
    rw [allz_drop hlt (by rw [List.getElem?_eq_getElem hlt, hz]), h2]
  · have hz : ¬ b'[0] = 0 := by simpa using hz
    refine wps_ite (fun h => absurd h (by simp; omega)) (fun _ => wps_pure (ent_prr ?_ (Ent.refl _)))
    rw [← h2, allz_no (List.getElem?_eq_getElem hlt) hz]
    simp; omega
theorem bits_Nought_val {H : HP} {s : Slc} {b : List Int} (hs : Ent H (byt s b)) (hbl : b.length ≤ 1099511627776) : Val g H (bits_Nought s) (allz b) := by
  unfold bits_Nought bytes_Trim_0
  refine wps_fact (len_of hs) fun hl => ?_
  refine wps_bind (R := fun t => pr ((((t.len : Nat) : Int) == 0) = allz b) * H) ?_ fun t => wps_pr fun ht => wps_pure (ent_val ht)
  refine wps_ite (fun h => wps_pure (ent_prr ?_ (Ent.refl _))) (fun _ => ?_)
  · have : b = [] := List.eq_nil_of_length_eq_zero (by simp at h; omega)
    subst this; rfl
  refine wps_regionH ?_
  refine wps_bind (bytes_trimRightByte_spec hs hbl) fun t => ?_
  refine wps_pr fun ⟨b', h1, h2, h3⟩ => ?_
  refine wps_bind (bytes_trimLeftByte_spec h1 (by omega)) fun u => ?_
  refine wps_pr fun hu => wps_pure (ent_prr ?_ (Ent.refl _))
  rw [hu, h2]
end Go.Proofs.Ytldmeimebebllaa
namespace Go.Proofs.Ytldmeimebebllaa
open Go.Mo
set_option linter.unusedVariables false
variable {g : Fr} {cv : CV}
theorem wps_arr {α : Type} {H : HP} {Q : α → HP} {k : Int → M α} {l : List Int} {i : Int} (n : Nat) (y : Int) (hi : i = (n : Int)) (hy : l[n]? = some y) (h : wps g H (k y) Q) : wps g H (bindM (arrM l i) k) Q := fun w a Qf ho ha hq => ⟨n, y, hi, hy, h w a Qf ho ha hq⟩
def sumL (s : S4) : List Int := [21331, s.1, s.2.1, s.2.2.1, s.2.2.2]
def sumHead (s : S4) (i : Nat) : List Int := ((sumL s).take i).flatMap (putB 2)
def sumData (s : S4) : List Int := padL (sumHead s 5) 56
theorem sumHead_len (s : S4) : ∀ i, (sumHead s i).length ≤ 2 * i := by
  have : ∀ l : List Int, (l.flatMap (putB 2)).length ≤ 2 * l.length := fun l => by
    induction l with
    | nil => simp
    | cons x l ih =>
      rw [List.flatMap_cons, List.length_append, putB_len, List.length_cons]
      split <;> omega
  intro i
  have h := this ((sumL s).take i)
  unfold sumHead
  simp at h ⊢
  omega
theorem sumHead_snoc {s : S4} {i : Nat} {x : Int} (h : (sumL s)[i]? = some x) : sumHead s (i + 1) = sumHead s i ++ putB 2 x := by
  unfold sumHead
  rw [List.take_add_one, h]
  simp
theorem sumL_get (s : S4) {i : Nat} (hi : i < 5) : ∃ x, (sumL s)[i]? = some x := ⟨_, List.getElem?_eq_getElem (by simpa [sumL] using hi)⟩
theorem sumOk_bnd {q : G3} {s : S4} (h : sumOk q s = true) : ∀ x ∈ sumL s, 0 ≤ x ∧ x < 65536 := by
  unfold sumOk at h
  simp only [Bool.and_eq_true, decide_eq_true_eq] at h
  obtain ⟨hR, hk, hr⟩ := h
  have hb := RightB.bnd hR
  have b6 := hb.s64
  have hp := hb.places.2
  have hs := (segs_places hR).2
  have h4 : 0 ≤ s.2.2.2 ∧ s.2.2.2 ≤ 3776 := by
    split at hr
    · have := of_decide_eq_true hr; omega
    · have := of_decide_eq_true hr; omega
  intro x hx
  simp only [sumL, List.mem_cons, List.not_mem_nil, or_false] at hx
  rcases hx with rfl | rfl | rfl | rfl | rfl <;> omega
def putPost (q : G3) (s : S4) (H : HP) (x : (Int × Int × Slc) × Bool) : HP := if sumOk q s = true then pr (x.1.1 = 65535 ∧ x.1.2.1 = 0 ∧ x.2 = true) * H * own 1 x.1.2.2 (bv (sumData s)) else pr (x = ((0, 0, ⟨none, 0, 0⟩), false)) * H
theorem scan_PutSummary_spec {H : HP} (q : G3) (s : S4) : wps g H (scan_PutSummary q s) (putPost q s H) := by
  unfold scan_PutSummary putPost
  obtain ⟨c, x, b, r⟩ := s
  refine wps_alloc fun x2 => ?_
  refine wps_alloc fun x3 => ?_
  refine wps_alloc fun x4 => ?_
  refine wps_ldG q.1 q.2.1 q.2.2 (by rfl) ?_
  refine wps_ldA (c, x, b, r) (by rfl) ?_
  refine wps_val (scan_right_val q (c, x, b, r)) ?_
  by_cases hok : sumOk q (c, x, b, r) = true
  rotate_left
  · simp only [if_neg hok]
    refine wps_ite (fun _ => ?_) (fun h2 => absurd (by simpa using h2) hok)
    refine wps_stA (by simp) (by simp [Value.oneCell']) ?_
    refine wps_ldA (enc := fun y : (Int × Int × Slc) => [(.int .i64 y.1), (.int .i64 y.2.1), (.slice y.2.2.base y.2.2.len y.2.2.cap)]) (0, 0, ⟨none, 0, 0⟩) (by rfl) (wps_pure (ent_prr rfl ?_))
    exact Ent.trans (Ent.trans (ent_left _ _) (ent_left _ _)) (ent_left _ _)
  simp only [if_pos hok]
  refine wps_ite (fun h2 => absurd hok (by simpa using h2)) (fun _ => ?_)
  refine wps_ld c (by rfl) ?_
  refine wps_ld x (by rfl) ?_
  refine wps_ld b (by rfl) ?_
  refine wps_ld r (by rfl) ?_
  refine wps_loop (fun st => ex fun i : Nat => pr (st.2 = (i : Int) ∧ i ≤ 5) * H * pc x2 [.int .i64 q.1, .int .i64 q.2.1, .int .i64 q.2.2] * pc x3 [.int .i64 c, .int .i64 x, .int .i64 b, .int .i64 r] * pc x4 [.int .i64 0, .int .i64 0, .slice none 0 0] * own 1 st.1 (bv (sumHead (c, x, b, r) i))) (fun st => (5 - st.2).toNat) ?_ fun st => ?_
  · refine ent_ex 0 (ent_own0 (z := 1) ?_)
    simp only [star_assoc]
    exact ent_pr ⟨rfl, by omega⟩
  refine wps_ex fun i => wps_prP fun ⟨hi, hin⟩ => ?_
  refine wps_fact (Ent.trans (ent_right _ _) (own_len _ _ _)) fun hol => ?_
  have hhl := sumHead_len (c, x, b, r) i
  rw [bl, Nat.mul_one] at hol
  refine wps_ite (fun hc => ?_) (fun hc => ?_)
  · have hlt : i < 5 := by have := of_decide_eq_true hc; omega
    obtain ⟨y, hy⟩ := sumL_get (c, x, b, r) hlt
    refine wps_arr i y hi hy ?_
    refine wps_bind (bits_Put_spec 2 y (by decide) (by decide)) fun t => ?_
    have hpl := putB_len 2 y
    refine wps_fact (Ent.trans (ent_right _ _) (own_len _ _ _)) fun hot => ?_
    rw [bl, Nat.mul_one] at hot
    refine wps_app 1 (bv (putB 2 y)) rfl (by decide) (Ent.trans (ent_right _ _) (own_rsl _ _ _)) (by simp [bv, Value.oneCell']) (by split at hpl <;> omega) fun s' hs' => ?_
    refine wps_pure ?_
    refine ent_prr (by dsimp only; rw [range_add1 hi (by omega)]; omega) (ent_ex (i + 1) ?_)
    rw [sumHead_snoc hy, show bv (sumHead (c, x, b, r) i ++ putB 2 y) = bv (sumHead (c, x, b, r) i) ++ bv (putB 2 y) by simp [bv]]
    repeat (first
      | (with_reducible exact ent_drop)
      | (with_reducible refine ent_pick ?_)
      | (refine ent_pickC (by rfl) ?_)
      | (refine ent_pickS (by rfl) ?_)
      | (refine ent_pickM (by rfl) ?_)
      | (refine ent_prx ?_ ?_; rotate_left)
      | (refine ent_prq ?_))
    all_goals exact ⟨range_add1 hi (by omega), by omega⟩
  · have hie : i = 5 := by
      have : ¬ st.2 < 5 := fun h => hc (decide_eq_true h)
      omega
    subst hie
    refine wps_mapR ?_
    refine wps_bind (bits_Pad_spec 56 (Ent.trans (ent_right _ _) (own_rsl _ _ _)) (by decide)) fun t => ?_
    rw [if_pos (by omega)]
    refine wps_prP fun ht => ?_
    refine wps_stA (by simp) (by simp [Value.oneCell']) ?_
    refine wps_ldA (enc := fun y : (Int × Int × Slc) => [(.int .i64 y.1), (.int .i64 y.2.1), (.slice y.2.2.base y.2.2.len y.2.2.cap)]) (65535, 0, t.1) (by rfl) (wps_pure ?_)
    unfold sumData
    repeat (first
      | (with_reducible exact ent_drop)
      | (with_reducible refine ent_pick ?_)
      | (refine ent_pickC (by rfl) ?_)
      | (refine ent_pickS (by rfl) ?_)
      | (refine ent_pickM (by rfl) ?_)
      | (refine ent_prx ?_ ?_; rotate_left)
      | (refine ent_prq ?_))
    all_goals exact ⟨rfl, rfl, rfl⟩
end Go.Proofs.Ytldmeimebebllaa
namespace Go.Proofs.Ytldmeimebebllaa
open Go.Mo
set_option linter.unusedVariables false
variable {g : Fr} {cv : CV}
def getS (b : List Int) : S4 := (getB b 2 2, getB b 4 2, getB b 6 2, getB b 8 2)
def sumIs (q : G3) (ow ix : Int) (b : List Int) : Bool := decide (ow = 65535 ∧ ix = 0 ∧ b.length = 56) && (allz (b.drop 10) && (decide (getB b 0 2 = 21331) && sumOk q (getS b)))
def getP (q : G3) (ow ix : Int) (b : List Int) : S4 × Bool := if sumIs q ow ix b = true then (getS b, true) else ((0, 0, 0, 0), false)
def gotL (b : List Int) (i : Nat) : List Int := (List.range 5).map fun j => if j < i then getB b (2 * j) 2 else 0
theorem gotL_set (b : List Int) {i : Nat} (hi : i < 5) : (zv (gotL b i)).set i (.int .i64 (getB b (2 * i) 2)) = zv (gotL b (i + 1)) := by
  apply List.ext_getElem?
  intro j
  simp only [zv, gotL, List.getElem?_set, List.getElem?_map, List.length_map, List.length_range]
  by_cases hj : i = j
  · subst hj; simp [hi]
  · rw [if_neg hj]
    by_cases hjw : j < 5
    · rw [List.getElem?_range hjw]
      have : j < i + 1 ↔ j < i := by omega
      simp [this]
    · simp [List.getElem?_eq_none, Nat.le_of_not_lt hjw]
theorem gotL_all (b : List Int) : zv (gotL b 5) = [.int .i64 (getB b 0 2), .int .i64 (getB b 2 2), .int .i64 (getB b 4 2), .int .i64 (getB b 6 2), .int .i64 (getB b 8 2)] := rfl
theorem scan_GetSummary_val {H : HP} {s : Slc} {b : List Int} (q : G3) (ow ix : Int) (hs : Ent H (byt s b)) (hb : Byts b) (hl : b.length ≤ 1000000) : Val g H (scan_GetSummary q (ow, ix, s)) (getP q ow ix b) := by
  unfold scan_GetSummary
  refine wps_fact (len_of hs) fun hls => ?_
  refine wps_alloc fun x2 => ?_
  refine wps_alloc fun x3 => ?_
  refine wps_alloc fun x4 => ?_
  refine wps_ld ow (by rfl) ?_
  refine wps_val (val_cond (b := ix != 0) fun _ => wps_ld ix (by rfl) (wps_pure (ent_val rfl))) ?_
  refine wps_val (val_cond (b := (((s.len : Nat) : Int) != 56)) fun _ => wps_ld s (by rfl) (wps_pure (ent_val rfl))) ?_
  refine wps_val (v := (ow != 65535 || ix != 0 || (((s.len : Nat) : Int) != 56)) || !allz (b.drop 10)) (val_cond fun hc => ?_) ?_
  · simp only [Bool.or_eq_false_iff, bne_eq_false_iff_eq] at hc
    have h56 : s.len = 56 := by omega
    refine wps_ld s (by rfl) ?_
    refine wps_fact (Ent.trans (Ent.trans (ent_left _ _) (Ent.trans (ent_left _ _) (Ent.trans (ent_left _ _) hs))) rsl_room) fun hr => ?_
    have hr := hr (by omega)
    refine wps_slice 10 s.len rfl rfl (by omega) hr ?_
    refine wps_val (bits_Nought_val (b := b.drop 10) (Ent.trans (Ent.trans (ent_left _ _) (Ent.trans (ent_left _ _) (Ent.trans (ent_left _ _) hs))) (Ent.trans (byt_cut (l := 10) (h := s.len) (by omega) (by omega)) (Ent.of_eq (by rw [List.take_of_length_le (by simp; omega)])))) (by simp; omega)) (wps_pure (ent_val rfl))
  by_cases hc : ow = 65535 ∧ ix = 0 ∧ s.len = 56 ∧ allz (b.drop 10) = true
  rotate_left
  · refine wps_ite (fun _ => ?_) (fun h => absurd ?_ hc)
    · refine wps_stA (by simp) (by simp [Value.oneCell']) ?_
      refine wps_ldA (0, 0, 0, 0) (by rfl) (wps_pure (ent_val ?_))
      unfold getP
      rw [if_neg]
      intro h
      unfold sumIs at h
      simp only [Bool.and_eq_true, decide_eq_true_eq] at h
      exact hc ⟨h.1.1, h.1.2.1, by omega, h.2.1⟩
    · simp only [Bool.or_eq_true, not_or, bne_iff_ne, ne_eq, Decidable.not_not, Bool.not_eq_true', Bool.not_eq_false] at h
      exact ⟨h.1.1.1, h.1.1.2, by omega, h.2⟩
  obtain ⟨rfl, rfl, h56, hz⟩ := hc
  refine wps_ite (fun h => absurd h (by simp [h56, hz])) (fun _ => ?_)
  refine wps_alloc fun x6 => ?_
  refine wps_loop (fun st => ex fun i : Nat => pr (st = (i : Int) ∧ i ≤ 5) * H * pc x2 [.int .i64 q.1, .int .i64 q.2.1, .int .i64 q.2.2] * pc x3 [.int .i64 65535, .int .i64 0, vS s] * pc x4 [.int .i64 0, .int .i64 0, .int .i64 0, .int .i64 0] * pc x6 (zv (gotL b i))) (fun st => (5 - st).toNat) ?_ fun st => ?_
  · refine ent_ex 0 ?_
    repeat (first
      | (with_reducible exact ent_drop)
      | (with_reducible refine ent_pick ?_)
      | (refine ent_pickC (by rfl) ?_)
      | (refine ent_pickS (by rfl) ?_)
      | (refine ent_pickM (by rfl) ?_)
      | (refine ent_prx ?_ ?_; rotate_left)
      | (refine ent_prq ?_))
    all_goals exact ⟨rfl, by omega⟩
  refine wps_ex fun i => wps_prP fun ⟨hi, hin⟩ => ?_
  refine wps_ite (fun hc => ?_) (fun hc => ?_)
  · have hlt : i < 5 := by have := of_decide_eq_true hc; omega
    refine wps_ld s (by rfl) ?_
    have hw : w64 (2 * st) = ((2 * i : Nat) : Int) := by rw [w64_id (by omega) (by omega)]; omega
    rw [hw]
    refine wps_val (bits_Get_val (2 * i) 2 (Ent.trans (ent_left _ _) (Ent.trans (ent_left _ _) (Ent.trans (ent_left _ _) (Ent.trans (ent_left _ _) (Ent.trans (ent_right _ _) hs))))) hb (by decide) (by decide) (by omega) (by omega)) ?_
    refine wps_idxA i hi hlt ?_
    refine wps_st (by simp [zv, gotL]; omega) (wps_pure ?_)
    rw [show 0 + i * 1 = i by omega, gotL_set b hlt]
    refine ent_prr (by rw [range_add1 hi (by omega)]; omega) (ent_ex (i + 1) ?_)
    repeat (first
      | (with_reducible exact ent_drop)
      | (with_reducible refine ent_pick ?_)
      | (refine ent_pickC (by rfl) ?_)
      | (refine ent_pickS (by rfl) ?_)
      | (refine ent_pickM (by rfl) ?_)
      | (refine ent_prx ?_ ?_; rotate_left)
      | (refine ent_prq ?_))
    all_goals exact ⟨range_add1 hi (by omega), by omega⟩
  have hie : i = 5 := by
    have : ¬ st < 5 := fun h => hc (decide_eq_true h)
    omega
  subst hie
  rw [gotL_all]
  refine wps_mapR ?_
  refine wps_ld (getB b 2 2) (by rfl) (wps_ld (getB b 4 2) (by rfl) (wps_ld (getB b 6 2) (by rfl) (wps_ld (getB b 8 2) (by rfl) ?_)))
  refine wps_alloc fun x8 => ?_
  refine wps_stA (by simp) (by simp [Value.oneCell']) ?_
  refine wps_ld (getB b 0 2) (by rfl) ?_
  have hdef : sumIs q 65535 0 b = (decide (getB b 0 2 = 21331) && sumOk q (getS b)) := by
    unfold sumIs
    rw [decide_eq_true (show (65535 : Int) = 65535 ∧ (0 : Int) = 0 ∧ b.length = 56 from ⟨rfl, rfl, by omega⟩), hz]; rfl
  refine wps_val (val_cond (b := !sumOk q (getS b)) fun _ => ?_) ?_
  · refine wps_ldG q.1 q.2.1 q.2.2 (by rfl) ?_
    refine wps_ldA (getS b) (by rfl) ?_
    exact wps_val (scan_right_val q (getS b)) (wps_pure (ent_val rfl))
  unfold getP
  rw [hdef]
  refine wps_ite (fun h => ?_) (fun h => ?_)
  · refine wps_stA (by simp) (by simp [Value.oneCell']) ?_
    refine wps_ldA (0, 0, 0, 0) (by rfl) (wps_pure (ent_val ?_))
    rw [if_neg]
    intro h2
    simp only [Bool.or_eq_true, bne_iff_ne, ne_eq, Bool.not_eq_true', Bool.and_eq_true, decide_eq_true_eq] at h h2
    rcases h with h | h
    · exact h h2.1
    · rw [h2.2] at h; cases h
  · refine wps_ldA (getS b) (by rfl) ?_
    refine wps_stA (by simp) (by simp [Value.oneCell']) ?_
    refine wps_ldA (getS b) (by rfl) (wps_pure (ent_val ?_))
    simp only [Bool.or_eq_true, not_or, bne_iff_ne, ne_eq, Decidable.not_not, Bool.not_eq_true', Bool.not_eq_false] at h
    rw [if_pos (by simp [h.1, h.2])]
end Go.Proofs.Ytldmeimebebllaa
namespace Go.Proofs.Ytldmeimebebllaa
open Go.Mo
set_option linter.unusedVariables false
variable {g : Fr} {cv : CV}
theorem addr0 (a : Addr) : Addr.add a 0 = a := by
  cases a; simp [Addr.add]
theorem wps_rdG {α β : Type} {H : HP} {Q : α → HP} {enc : β → Value} {k : β → M α} {z : Nat} {s : Slc} {i : Int} {cs : List Value} (n : Nat) (x : β) (hp : Ent H (rsl z s cs)) (hi : i = (n : Int)) (hz : 0 < z) (hv : cs[n * z]? = some (enc x)) (h : wps g H (k x) Q) :
    wps g H (bindM (idxM s i z) fun a => bindM (ld enc a) k) Q := by
  have h2 := wps_rdF (f := 0) (g := g) (k := k) n x hp hi hz hv h
  simp only [addr0] at h2
  exact h2
theorem wps_rdGI {α β : Type} {H R : HP} {Q : α → HP} {enc : β → Value} {k : β → M α} {z : Nat} {s : Slc} {i : Int} {cs : List Value} (n : Nat) (x : β) (hp : Ent R (rsl z s cs)) (hR : Ent H R) (hi : i = (n : Int)) (hz : 0 < z) (hv : cs[n * z]? = some (enc x)) (h : wps g H (k x) Q) :
    wps g H (bindM (idxM s i z) fun a => bindM (ldI (Iv g R) enc a) k) Q := by
  have h2 := wps_rdFI (f := 0) (g := g) (k := k) n x hp hR hi hz hv h
  simp only [addr0] at h2
  exact h2
theorem law08_Small_val {H : HP} : Val g H law08_Small Q3 := by
  unfold law08_Small
  refine wps_alloc fun c => ?_
  refine wps_stA (by simp) (by simp [Value.oneCell']) ?_
  exact wps_ldG 3 3 12 (by rfl) (wps_pure (ent_val rfl))
theorem zv_get {b : List Int} {n : Nat} {v : Int} (h : b[n]? = some v) : (zv b)[n]? = some (Value.int .i64 v) := by simp [zv, h]
theorem intsP_len {H : HP} {s : Slc} {b : List Int} (h : Ent H (intsP s b)) : Ent H (pr (b.length = s.len)) := Ent.trans h (Ent.trans (rsl_len 1 s (zv b)) fun o ho => by
  have : (zv b).length = s.len * 1 := ho
  show b.length = s.len
  simpa [zv] using this)
theorem ref00_SameInts_val {H : HP} {a b : Slc} {x y : List Int} (ha : Ent H (intsP a x)) (hb : Ent H (intsP b y)) (hx : x.length < 4611686018427387904) : Val g H (ref00_SameInts a b) (decide (x = y)) := by
  unfold ref00_SameInts
  refine wps_fact (intsP_len ha) fun hla => wps_fact (intsP_len hb) fun hlb => ?_
  refine wps_ite (fun hne => ?_) (fun hne => ?_)
  · refine wps_pure (ent_val ?_)
    have hne' : ¬ a.len = b.len := by
      have : ¬ (a.len : Int) = b.len := by simpa using hne
      omega
    have : ¬ x = y := fun e => hne' (by rw [← hla, ← hlb, e])
    simp [this]
  have heq : a.len = b.len := by
    have : (a.len : Int) = b.len := by simpa using hne
    omega
  refine wps_loop (fun i => ex fun n : Nat => pr (i = (n : Int) ∧ n ≤ x.length ∧ x.take n = y.take n) * H) (fun i => (x.length - i).toNat) (ent_ex 0 (ent_prr ⟨rfl, by omega, by simp⟩ (Ent.refl _))) fun i => ?_
  refine wps_ex fun n => wps_pr fun ⟨hi, hn, ht⟩ => ?_
  refine wps_ite (fun hc => ?_) (fun hc => ?_)
  · have hlt : n < x.length := by simp only [decide_eq_true_eq] at hc; omega
    have hlt2 : n < y.length := by omega
    refine wps_regionH ?_
    refine wps_rdI n x[n] ha (Ent.refl _) hi (zv_get (List.getElem?_eq_getElem hlt)) ?_
    refine wps_rdI n y[n] hb (Ent.refl _) hi (zv_get (List.getElem?_eq_getElem hlt2)) ?_
    refine wps_ite (fun hd => ?_) (fun hd => ?_)
    · have hd' : ¬ x[n] = y[n] := by simpa using hd
      refine wps_mapR (wps_pure (ent_prr ?_ (Ent.refl _)))
      have : ¬ x = y := fun e => hd' (by subst e; rfl)
      simp [this]
    · have hd' : x[n] = y[n] := by simpa using hd
      refine wps_pure (ent_prr (by rw [range_add1 hi (by omega)]; omega) (ent_ex (n + 1) (ent_prr ⟨range_add1 hi (by omega), by omega, ?_⟩ (Ent.refl _))))
      rw [List.take_add_one, List.take_add_one, ht, List.getElem?_eq_getElem hlt, List.getElem?_eq_getElem hlt2, hd']
  · have hne : n = x.length := by simp only [decide_eq_true_eq] at hc; omega
    refine wps_mapR (wps_pure (ent_prr ?_ (Ent.refl _)))
    have : x = y := by
      rw [hne, List.take_length] at ht
      rw [ht, List.take_of_length_le (by omega)]
    simp [this]
def grC (zs : List (Gr × Slc)) : List Value := (zs.map grRow).flatMap encG3
theorem grC_len (zs : List (Gr × Slc)) : (grC zs).length = zs.length * 3 := by
  unfold grC
  rw [flat_len encG3_len, List.length_map]
theorem grC_get {zs : List (Gr × Slc)} {n : Nat} {z : Gr × Slc} (h : zs[n]? = some z) {f : Nat} (hf : f < 3) : (grC zs)[n * 3 + f]? = (encG3 (grRow z))[f]? := by
  unfold grC
  exact flat_get encG3_len (by rw [List.getElem?_map, h]; rfl) hf
theorem law08_same_val {H : HP} {a b : Slc} {za zb : List (Gr × Slc)} (h1 : Ent H (segsP za)) (h2 : Ent H (rsl 3 a (grC za))) (h3 : Ent H (segsP zb)) (h4 : Ent H (rsl 3 b (grC zb))) (hx : za.length < 1000000) (hseg : ∀ z ∈ za, z.1.2.2.length < 1000000) : Val g H (law08_same a b) (decide (za.map (·.1) = zb.map (·.1))) := by
  unfold law08_same
  refine wps_fact (Ent.trans h2 (rsl_len _ _ _)) fun hla => wps_fact (Ent.trans h4 (rsl_len _ _ _)) fun hlb => ?_
  rw [grC_len] at hla hlb
  refine wps_ite (fun hne => ?_) (fun hne => ?_)
  · refine wps_pure (ent_val ?_)
    have hne' : ¬ a.len = b.len := by
      have : ¬ (a.len : Int) = b.len := by simpa using hne
      omega
    have : ¬ za.map (·.1) = zb.map (·.1) := fun e => hne' (by
      have := congrArg List.length e
      simp only [List.length_map] at this
      omega)
    simp [this]
  have heq : a.len = b.len := by
    have : (a.len : Int) = b.len := by simpa using hne
    omega
  refine wps_loop (fun i => ex fun n : Nat => pr (i = (n : Int) ∧ n ≤ za.length ∧ (za.map (·.1)).take n = (zb.map (·.1)).take n) * H) (fun i => (za.length - i).toNat) (ent_ex 0 (ent_prr ⟨rfl, by omega, by simp⟩ (Ent.refl _))) fun i => ?_
  refine wps_ex fun n => wps_pr fun ⟨hi, hn, ht⟩ => ?_
  refine wps_ite (fun hc => ?_) (fun hc => ?_)
  · have hlt : n < za.length := by simp only [decide_eq_true_eq] at hc; omega
    have hlt2 : n < zb.length := by omega
    have ga := List.getElem?_eq_getElem hlt
    have gb := List.getElem?_eq_getElem hlt2
    have hma := List.getElem_mem hlt
    have hmb := List.getElem_mem hlt2
    generalize za[n] = u at ga hma
    generalize zb[n] = v at gb hmb
    have hno : u.1 ≠ v.1 → ¬ za.map (·.1) = zb.map (·.1) := fun h e => h (by
      have := congrArg (fun l => l[n]?) e
      simp only [List.getElem?_map, ga, gb, Option.map_some, Option.some.injEq] at this
      exact this)
    refine wps_regionH ?_
    refine wps_rdGI n u.1.1 h2 (Ent.refl _) hi (by decide) ((grC_get ga (f := 0) (by decide)).trans rfl) ?_
    refine wps_rdGI n v.1.1 h4 (Ent.refl _) hi (by decide) ((grC_get gb (f := 0) (by decide)).trans rfl) ?_
    refine wps_ite (fun hd => ?_) (fun hd => ?_)
    · have hd' : ¬ u.1.1 = v.1.1 := by simpa using hd
      refine wps_mapR (wps_pure (ent_prr ?_ (Ent.refl _)))
      simp [hno fun e => hd' (by rw [e])]
    have e1 : u.1.1 = v.1.1 := by simpa using hd
    refine wps_rdFI (f := 1) n u.1.2.1 h2 (Ent.refl _) hi (by decide) ((grC_get ga (f := 1) (by decide)).trans rfl) ?_
    refine wps_rdFI (f := 1) n v.1.2.1 h4 (Ent.refl _) hi (by decide) ((grC_get gb (f := 1) (by decide)).trans rfl) ?_
    refine wps_ite (fun hd => ?_) (fun hd => ?_)
    · have hd' : ¬ u.1.2.1 = v.1.2.1 := by simpa using hd
      refine wps_mapR (wps_pure (ent_prr ?_ (Ent.refl _)))
      simp [hno fun e => hd' (by rw [e])]
    have e2 : u.1.2.1 = v.1.2.1 := by simpa using hd
    refine wps_rdFI (enc := vS) (f := 2) n u.2 h2 (Ent.refl _) hi (by decide) ((grC_get ga (f := 2) (by decide)).trans rfl) ?_
    refine wps_rdFI (enc := vS) (f := 2) n v.2 h4 (Ent.refl _) hi (by decide) ((grC_get gb (f := 2) (by decide)).trans rfl) ?_
    refine wps_stepV (ref00_SameInts_val (Ent.trans h1 (segsP_get hma)) (Ent.trans h3 (segsP_get hmb)) (by have := hseg u hma; omega)) ?_
    refine wps_ite (fun hd => ?_) (fun hd => ?_)
    · have hd' : ¬ u.1.2.2 = v.1.2.2 := by simpa using hd
      refine wps_mapR (wps_pure (ent_prr ?_ (Ent.refl _)))
      simp [hno fun e => hd' (by rw [e])]
    have e3 : u.1.2.2 = v.1.2.2 := by simpa using hd
    refine wps_pure (ent_prr (by rw [range_add1 hi (by omega)]; omega) (ent_ex (n + 1) (ent_prr ⟨range_add1 hi (by omega), by omega, ?_⟩ (Ent.refl _))))
    rw [List.take_add_one, List.take_add_one, ht, List.getElem?_map, List.getElem?_map, ga, gb]
    have : u.1 = v.1 := Prod.ext e1 (Prod.ext e2 e3)
    simp [this]
  · have hne : n = za.length := by simp only [decide_eq_true_eq] at hc; omega
    refine wps_mapR (wps_pure (ent_prr ?_ (Ent.refl _)))
    have : za.map (·.1) = zb.map (·.1) := by
      rw [List.take_of_length_le (by simp; omega), List.take_of_length_le (by simp; omega)] at ht
      exact ht
    simp [this]
def aliveI : List I6 := [(5, 8, 2, 1, 0, 3), (2, 7, 2, 0, 0, 0)]
theorem aliveI_isG : IsG aliveI [(7, 3, [2, 5])] := by
  have h : IsG ([([2, 5], 7, 3)].flatMap chk) ([([2, 5], 7, 3)].map gOf) := Lay.isG ⟨by simp, by simp⟩
  exact h.perm (List.Perm.swap (2, 7, 2, 0, 0, 0) (5, 8, 2, 1, 0, 3) [])
theorem sumD9 : sumOk Q3 (1, 0, 2, 9) = true ∧ getP Q3 65535 0 (sumData (1, 0, 2, 9)) = ((1, 0, 2, 9), true) ∧ (sumData (1, 0, 2, 9)).length = 56 ∧ Byts (sumData (1, 0, 2, 9)) := by
  refine ⟨by decide, by decide, by decide, ?_⟩
  have : ∀ n ∈ sumData (1, 0, 2, 9), 0 ≤ n ∧ n < 256 := by decide
  exact this
theorem law08_alive_spec : Val g emp law08_alive true := by
  unfold law08_alive
  refine wps_alloc fun x10 => ?_
  refine wps_swap (A := pc x10 [(.int .i64 5), (.int .i64 8), (.int .i64 2), (.int .i64 1), (.int .i64 0), (.int .i64 3), (.int .i64 2), (.int .i64 7), (.int .i64 2), (.int .i64 0), (.int .i64 0), (.int .i64 0)]) (B := infosP ⟨some ⟨x10, 0, none⟩, 2, 2⟩ aliveI) (ent_prr (by decide) (Ent.trans (pc_own (n := 2) (z := 6) rfl) (own_rsl _ _ _))) ?_
  refine wps_callH (fun g2 => scan_Groups_spec _ aliveI _ aliveI_isG (by decide)) fun x11 => ?_
  unfold groupsO
  refine wps_exP fun zs => ?_
  refine wps_prP fun hz => ?_
  obtain ⟨u, rfl⟩ : ∃ u, zs = [((7, 3, [2, 5]), u)] := by
    match zs, hz with
    | [(z, u)], hz => exact ⟨u, by simp at hz; rw [hz]⟩
  refine wps_swap (A := segsP [(((7, 3, [2, 5]) : Gr), u)]) (B := intsP u [2, 5]) (segsP_get (x := ((7, 3, [2, 5]), u)) (by simp)) ?_
  refine wps_fact (Ent.trans (RdS.rd (z := 3) (s := x11)) (rsl_len _ _ _)) fun hol => ?_
  have hl1 : x11.len = 1 := by simp [encG3, grRow] at hol; omega
  refine wps_val law08_Small_val ?_
  refine wps_bind (scan_PutSummary_spec Q3 (1, 0, 2, 9)) fun x15 => ?_
  unfold putPost
  rw [if_pos sumD9.1]
  refine wps_prP fun ⟨hx1, hx2, hx3⟩ => ?_
  obtain ⟨⟨w1, w2, t⟩, ok⟩ := x15
  dsimp only at hx1 hx2 hx3
  subst hx1 hx2 hx3
  refine wps_alloc fun x2 => ?_
  refine wps_stA (by simp) (by simp [Value.oneCell']) ?_
  refine wps_regionH ?_
  refine wps_ldAI (enc := fun y : (Int × Int × Slc) => [(.int .i64 y.1), (.int .i64 y.2.1), (.slice y.2.2.base y.2.2.len y.2.2.cap)]) (65535, 0, t) (by rfl) ?_
  have hget : ∀ {H : HP} [h : RdS 1 t H (bv (sumData (1, 0, 2, 9)))], Val g H (scan_GetSummary Q3 (65535, 0, t)) ((1, 0, 2, 9), true) := fun {H} h => val_eq (scan_GetSummary_val Q3 65535 0 h.rd sumD9.2.2.2 (by rw [sumD9.2.2.1]; decide)) sumD9.2.1
  refine wps_both (wps_stepV law08_Small_val (wps_both ?_ ?_)) ?_
  · refine wps_stepV hget (wps_stepAlloc fun x4 => ?_)
    refine wps_stA (by simp) (by simp [Value.oneCell']) ?_
    refine wps_val (v := true) (wps_ite (fun _ => wps_rdG 0 7 (RdS.rd (z := 3) (s := x11)) rfl (by decide) rfl (wps_pure (ent_val rfl))) (fun h => absurd (by simp [hl1]) h)) ?_
    refine wps_val (v := true) (wps_ite (fun _ => wps_rdF (f := 1) 0 3 (RdS.rd (z := 3) (s := x11)) rfl (by decide) rfl (wps_pure (ent_val rfl))) (fun h => absurd rfl h)) ?_
    refine wps_val (v := true) (wps_ite (fun _ => wps_rdF (enc := vS) (f := 2) 0 u (RdS.rd (z := 3) (s := x11)) rfl (by decide) rfl (wps_alloc fun x46 => wps_val (ref00_SameInts_val (x := [2, 5]) (y := [2, 5]) (RdS.rd (z := 1) (s := u)) (rsl_pc (cs := zv [2, 5]) rfl) (by decide)) (wps_pure (ent_val rfl)))) (fun h => absurd rfl h)) ?_
    refine wps_val (v := true) (wps_ite (fun _ => wps_pure (ent_val rfl)) (fun h => absurd rfl h)) ?_
    refine wps_val (v := true) (wps_ite (fun _ => wps_pure (ent_val rfl)) (fun h => absurd rfl h)) ?_
    refine wps_val (v := true) (wps_ite (fun _ => wps_ldA (1, 0, 2, 9) (by rfl) (wps_pure (ent_val rfl))) (fun h => absurd rfl h)) ?_
    exact wps_pure (ent_val rfl)
  · refine wps_stepAlloc fun x4 => wps_stepV hget ?_
    refine wps_stA (by simp) (by simp [Value.oneCell']) ?_
    refine wps_val (v := true) (wps_ite (fun _ => wps_rdG 0 7 (RdS.rd (z := 3) (s := x11)) rfl (by decide) rfl (wps_pure (ent_val rfl))) (fun h => absurd (by simp [hl1]) h)) ?_
    refine wps_val (v := true) (wps_ite (fun _ => wps_rdF (f := 1) 0 3 (RdS.rd (z := 3) (s := x11)) rfl (by decide) rfl (wps_pure (ent_val rfl))) (fun h => absurd rfl h)) ?_
    refine wps_val (v := true) (wps_ite (fun _ => wps_rdF (enc := vS) (f := 2) 0 u (RdS.rd (z := 3) (s := x11)) rfl (by decide) rfl (wps_alloc fun x46 => wps_val (ref00_SameInts_val (x := [2, 5]) (y := [2, 5]) (RdS.rd (z := 1) (s := u)) (rsl_pc (cs := zv [2, 5]) rfl) (by decide)) (wps_pure (ent_val rfl)))) (fun h => absurd rfl h)) ?_
    refine wps_val (v := true) (wps_ite (fun _ => wps_pure (ent_val rfl)) (fun h => absurd rfl h)) ?_
    refine wps_val (v := true) (wps_ite (fun _ => wps_pure (ent_val rfl)) (fun h => absurd rfl h)) ?_
    refine wps_val (v := true) (wps_ite (fun _ => wps_ldA (1, 0, 2, 9) (by rfl) (wps_pure (ent_val rfl))) (fun h => absurd rfl h)) ?_
    exact wps_pure (ent_val rfl)
  · refine wps_stepAlloc fun x4 => wps_stepV law08_Small_val (wps_stepV hget ?_)
    refine wps_stA (by simp) (by simp [Value.oneCell']) ?_
    refine wps_val (v := true) (wps_ite (fun _ => wps_rdG 0 7 (RdS.rd (z := 3) (s := x11)) rfl (by decide) rfl (wps_pure (ent_val rfl))) (fun h => absurd (by simp [hl1]) h)) ?_
    refine wps_val (v := true) (wps_ite (fun _ => wps_rdF (f := 1) 0 3 (RdS.rd (z := 3) (s := x11)) rfl (by decide) rfl (wps_pure (ent_val rfl))) (fun h => absurd rfl h)) ?_
    refine wps_val (v := true) (wps_ite (fun _ => wps_rdF (enc := vS) (f := 2) 0 u (RdS.rd (z := 3) (s := x11)) rfl (by decide) rfl (wps_alloc fun x46 => wps_val (ref00_SameInts_val (x := [2, 5]) (y := [2, 5]) (RdS.rd (z := 1) (s := u)) (rsl_pc (cs := zv [2, 5]) rfl) (by decide)) (wps_pure (ent_val rfl)))) (fun h => absurd rfl h)) ?_
    refine wps_val (v := true) (wps_ite (fun _ => wps_pure (ent_val rfl)) (fun h => absurd rfl h)) ?_
    refine wps_val (v := true) (wps_ite (fun _ => wps_pure (ent_val rfl)) (fun h => absurd rfl h)) ?_
    refine wps_val (v := true) (wps_ite (fun _ => wps_ldA (1, 0, 2, 9) (by rfl) (wps_pure (ent_val rfl))) (fun h => absurd rfl h)) ?_
    exact wps_pure (ent_val rfl)
end Go.Proofs.Ytldmeimebebllaa

namespace Go.Proofs.Ytldmeimebebllaa
open Go.Mo
set_option linter.unusedVariables false
variable {g : Fr} {cv : CV}
def topL (a : Int) (l : List (List Int)) : Int := l.foldl (fun a b => maxI a (headOf b).1) a
def topR (q m : G3) (R : Rk) (seg a : Int) (n : Nat) : Int := (List.range n).foldl (fun a (r : Nat) => topL a (allL (5 + seg * q.2.1 + r) (disksL q m) R)) a
theorem topR_snoc (q m : G3) (R : Rk) (seg a : Int) (n : Nat) : topR q m R seg a (n + 1) = topL (topR q m R seg a n) (allL (5 + seg * q.2.1 + n) (disksL q m) R) := by
  unfold topR
  rw [List.range_succ, List.foldl_append]; rfl
theorem maxI_assoc (a b c : Int) : maxI (maxI a b) c = maxI a (maxI b c) := by
  unfold maxI
  split <;> split <;> (try split) <;> (try split) <;> omega
theorem topL_max (a b : Int) : ∀ l : List (List Int), topL (maxI a b) l = maxI a (topL b l)
  | [] => rfl
  | x :: l => by
    show topL (maxI (maxI a b) (headOf x).1) l = maxI a (topL (maxI b (headOf x).1) l)
    rw [maxI_assoc, topL_max a _ l]
theorem topR_max (q m : G3) (R : Rk) (seg a b : Int) : ∀ n, topR q m R seg (maxI a b) n = maxI a (topR q m R seg b n)
  | 0 => rfl
  | n + 1 => by rw [topR_snoc, topR_snoc, topR_max q m R seg a b n, topL_max]
theorem topL_ge (a : Int) : ∀ l, a ≤ topL a l
  | [] => Int.le_refl _
  | x :: l => Int.le_trans (by unfold maxI; split <;> omega) (topL_ge (maxI a (headOf x).1) l)
theorem topR_ge (q m : G3) (R : Rk) (seg a : Int) : ∀ n, a ≤ topR q m R seg a n
  | 0 => Int.le_refl _
  | n + 1 => by rw [topR_snoc]; exact Int.le_trans (topR_ge q m R seg a n) (topL_ge _ _)
theorem topR_zero (q m : G3) (R : Rk) (seg : Int) {a : Int} (h : 0 ≤ a) (n : Nat) : maxI a (topR q m R seg 0 n) = topR q m R seg a n := by
  rw [← topR_max]
  congr 1
  unfold maxI; split <;> omega
theorem top_loop {α : Type} {H : HP} {Q : α → HP} {t : Slc} {sl : List Slc} {l : List (List Int)} {D : Slc → M (G3 × Slc × Bool)} {K : Int → M α} (a : Int)
    (hD : ∀ {H : HP} {s : Slc} {b : List Int}, Ent H (byt s b) → Byts b → b.length ≤ 1099511627776 → wps g H (D s) (fun x => pr (x.1 = headOf b) * H * emp))
    (h1 : Ent H (rsl 1 t (sl.map vS))) (h2 : Ent H (seqp sl fun i => l.getD i [])) (hs : sl.length = l.length) (ht : t.len = l.length) (hb : ∀ b ∈ l, Byts b ∧ b.length ≤ 1099511627776) (hl : l.length ≤ 1000)
    (hK : wps g H (K (topL a l)) Q) :
    wps g H (loopM (fun (s2 : (Int × Int)) =>
      (if (decide (s2.2 < ((t.len : Nat) : Int))) = true then
        bindM (idxM t s2.2 1) fun x31 =>
          bindM (ld vS x31) fun x32 =>
          bindM (D x32) fun x35 =>
          bindM (allocM [(.int .i64 0), (.int .i64 0), (.int .i64 0)]) fun x9 =>
          bindM (stA x9 [(.int .i64 x35.1.1), (.int .i64 x35.1.2.1), (.int .i64 x35.1.2.2)]) fun _ =>
          bindM (ld (Value.int .i64) x9) fun x41 =>
          pureM (.inl (maxI s2.1 x41, w64 (s2.2 + 1)))
        else
        mapR (K s2.1))) (a, 0)) Q := by
  refine wps_loop (fun st : Int × Int => ex fun i : Nat => pr (st.2 = (i : Int) ∧ i ≤ l.length ∧ topL st.1 (l.drop i) = topL a l) * H) (fun st => (l.length - st.2).toNat) (ent_ex 0 (ent_prr ⟨rfl, by omega, rfl⟩ (Ent.refl _))) fun st => ?_
  refine wps_ex fun i => wps_pr fun ⟨hi, hin, htop⟩ => ?_
  refine wps_ite (fun hc => ?_) (fun hc => ?_)
  · have hlt : i < l.length := by have := of_decide_eq_true hc; omega
    have hlt2 : i < sl.length := by omega
    have hg := List.getElem?_eq_getElem hlt2
    refine wps_rd (enc := vS) i sl[i] h1 hi (by rw [List.getElem?_map, hg]; rfl) ?_
    have hby := hb l[i] (List.getElem_mem hlt)
    have hent : Ent H (byt sl[i] l[i]) := Ent.trans h2 (Ent.trans (seqp_get hg) (Ent.of_eq (by simp [List.getD, List.getElem?_eq_getElem hlt])))
    refine wps_bind (hD hent hby.1 hby.2) fun x => ?_
    rw [star_assoc]
    refine wps_pr fun hx => ?_
    refine wps_alloc fun x9 => ?_
    refine wps_stA (by simp) (by simp [Value.oneCell']) ?_
    refine wps_ld x.1.1 (by rfl) (wps_pure ?_)
    refine ent_prr (by dsimp only; rw [range_add1 hi (by omega)]; omega) (ent_ex (i + 1) (ent_prr ⟨range_add1 hi (by omega), by omega, ?_⟩ (Ent.trans (ent_left _ _) (ent_left _ _))))
    rw [← htop, List.drop_eq_getElem_cons hlt, hx]
    rfl
  · have hie : i = l.length := by
      have : ¬ st.2 < ((t.len : Nat) : Int) := fun h => hc (decide_eq_true h)
      omega
    subst hie
    rw [List.drop_length] at htop
    have htop : st.1 = topL a l := htop
    refine wps_mapR ?_
    rw [htop]
    exact hK
theorem dec1 {H : HP} {s : Slc} {b : List Int} (hs : Ent H (byt s b)) (hb : Byts b) (hl : b.length ≤ 1099511627776) : wps g H (sector_Decode s) (fun x => pr (x.1 = headOf b) * H * emp) :=
  wps_post (sector_Decode_spec hs hb hl) fun x => Ent.star (Ent.star (fun o ho => ho.1) (Ent.refl _)) (ent_emp _)
theorem all_bys {q m : G3} {R : Rk} (hby : R.bys) (hg : R.good) {s : Int} : ∀ b ∈ allL s (disksL q m) R, Byts b ∧ b.length ≤ 1099511627776 := fun b hb => by
  obtain ⟨d, _, rfl⟩ := List.mem_map.1 hb
  exact ⟨hby.rd d s, by have := hg.rd d s; omega⟩
theorem all_len {q m : G3} {R : Rk} {s : Int} (hq : q.1 ≤ 16) : (allL s (disksL q m) R).length ≤ 17 := by
  unfold allL
  rw [List.length_map]
  exact Nat.le_trans (List.length_filter_le _ _) (disksL_len q m hq)
theorem scan_greatest_spec (hcv : DisksOk cv) (bb rb : Nat) (q m : G3) (hq : RightB q = true) (R : Rk) (hby : R.bys) (ds : Slc) (ps : List Nat) (seg : Int) (hs : 0 ≤ seg ∧ seg < q.2.2) :
    wps g (bnk bb rb q m * rackP rb R ds ps) (scan_greatest cv (ptr bb) seg) (fun x => pr (x = topR q m R seg 0 q.2.1.toNat) * bnk bb rb q m * rackP rb R ds ps) := by
  unfold scan_greatest
  have hb := RightB.bnd hq
  have b2 := hb.d16
  have b3 := hb.r1
  have b4 := hb.r4
  have b6 := hb.s64
  refine wps_fact (Ent.trans (ent_right _ _) rackP_good) fun hg => ?_
  refine wps_valH (fun _ => bank_Geo_val bb rb q m) ?_
  refine wps_loop (fun st : Int × Int => ex fun i : Nat => pr (st.2 = (i : Int) ∧ (i : Int) ≤ q.2.1 ∧ st.1 = topR q m R seg 0 i) * bnk bb rb q m * rackP rb R ds ps) (fun st => (q.2.1 - st.2).toNat) ?_ fun st => ?_
  · refine ent_ex 0 ?_
    repeat (first
      | (with_reducible exact ent_drop)
      | (with_reducible refine ent_pick ?_)
      | (refine ent_pickC (by rfl) ?_)
      | (refine ent_pickS (by rfl) ?_)
      | (refine ent_pickM (by rfl) ?_)
      | (refine ent_prx ?_ ?_; rotate_left)
      | (refine ent_prq ?_))
    all_goals first | exact ⟨rfl, by omega, rfl⟩ | trivial
  refine wps_ex fun i => wps_prP fun ⟨hi, hin, ha⟩ => ?_
  refine wps_ite (fun hc => ?_) (fun hc => ?_)
  · have hlt : (i : Int) < q.2.1 := by have := of_decide_eq_true hc; omega
    refine wps_valH (fun _ => bank_Geo_val bb rb q m) ?_
    have h0 : 0 ≤ seg * q.2.1 := Int.mul_nonneg hs.1 (by omega)
    have h1 : seg * q.2.1 ≤ 64 * 4 := Int.mul_le_mul (by omega) b4 (by omega) (by omega)
    have hw : w64 (w64 (5 + w64 (seg * q.2.1)) + st.2) = 5 + seg * q.2.1 + i := by
      rw [w64_id (n := seg * q.2.1) (by omega) (by omega), w64_id (n := 5 + seg * q.2.1) (by omega) (by omega), hi, w64_id (by omega) (by omega)]
    rw [hw]
    refine wps_call2 (fun _ => bank_All_spec hcv bb rb q m b2 R ds ps (5 + seg * q.2.1 + i)) fun t => ?_
    have hlen := all_len (m := m) (R := R) (s := 5 + seg * q.2.1 + i) b2
    have hal := all_bys (q := q) (m := m) hby hg (s := 5 + seg * q.2.1 + i)
    unfold rows
    refine wps_exP fun sl => wps_prP fun ⟨hsl, htl⟩ => ?_
    generalize hL : allL (5 + seg * q.2.1 + i) (disksL q m) R = L at *
    refine wps_pre (H' := bnk bb rb q m * rackP rb R ds ps * seqp sl (fun i => L.getD i []) * own 1 t (sl.map vS)) ?_ ?_
    · simp only [← star_assoc]
      repeat (first
        | (with_reducible exact ent_drop)
        | (with_reducible refine ent_pick ?_)
        | (refine ent_pickC (by rfl) ?_)
        | (refine ent_pickS (by rfl) ?_)
        | (refine ent_pickM (by rfl) ?_)
        | (refine ent_prx ?_ ?_; rotate_left)
        | (refine ent_prq ?_))
    refine top_loop (H := bnk bb rb q m * rackP rb R ds ps * seqp sl (fun i => L.getD i []) * own 1 t (sl.map vS)) (sl := sl) (l := L) (K := fun v => pureM (Sum.inl (v, w64 (st.2 + 1)))) st.1 (fun h1 h2 h3 => dec1 h1 h2 h3) (RdS.rd (z := 1) (s := t)) (Ent.trans (ent_left _ _) (ent_right _ _)) hsl htl hal (by omega) ?_
    refine wps_pure (ent_prr (by dsimp only; rw [range_add1 hi (by omega)]; omega) (ent_ex (i + 1) ?_))
    rw [ha]
    repeat (first
      | (with_reducible exact ent_drop)
      | (with_reducible refine ent_pick ?_)
      | (refine ent_pickC (by rfl) ?_)
      | (refine ent_pickS (by rfl) ?_)
      | (refine ent_pickM (by rfl) ?_)
      | (refine ent_prx ?_ ?_; rotate_left)
      | (refine ent_prq ?_))
    all_goals first | exact ⟨range_add1 hi (by omega), by omega, by rw [topR_snoc, hL]⟩ | trivial
  · have hie : q.2.1.toNat = i := by
      have : ¬ st.2 < q.2.1 := fun h => hc (decide_eq_true h)
      omega
    refine wps_mapR ?_
    refine wps_pure ?_
    rw [ha, hie]
    show Ent _ (pr (_ = _) * bnk bb rb q m * rackP rb R ds ps)
    repeat (first
      | (with_reducible exact ent_drop)
      | (with_reducible refine ent_pick ?_)
      | (refine ent_pickC (by rfl) ?_)
      | (refine ent_pickS (by rfl) ?_)
      | (refine ent_pickM (by rfl) ?_)
      | (refine ent_prx ?_ ?_; rotate_left)
      | (refine ent_prq ?_))
    all_goals first | rfl | trivial
end Go.Proofs.Ytldmeimebebllaa
namespace Go.Proofs.Ytldmeimebebllaa
open Go.Mo
set_option linter.unusedVariables false
variable {g : Fr} {cv : CV}
theorem payOf_byts {b : List Int} (h : Byts b) : Byts (payOf b) ∧ (payOf b).length ≤ 56 := by
  unfold payOf
  split
  · exact ⟨h.drop 8, by simp; omega⟩
  · exact ⟨fun x hx => by simp at hx, by simp⟩
theorem sRead_byts {q m : G3} {R : Rk} (hby : R.bys) (seg k seq : Int) : Byts (sRead q m R seg k seq).1.2.2 ∧ (sRead q m R seg k seq).1.2.2.length ≤ 56 := by
  have hn : Byts ([] : List Int) ∧ ([] : List Int).length ≤ 56 := ⟨fun x hx => by simp at hx, by simp⟩
  unfold sRead
  dsimp only
  split
  · exact hn
  split
  · exact hn
  have key : ∀ x : List Int × Bool, Byts x.1 → Byts (if x.2 = true then (((headOf x.1).2.1, (headOf x.1).2.2, payOf x.1), (0 : Int)) else ((0, 0, []), 14)).1.2.2 ∧ (if x.2 = true then (((headOf x.1).2.1, (headOf x.1).2.2, payOf x.1), (0 : Int)) else ((0, 0, []), 14)).1.2.2.length ≤ 56 := fun x hx => by
    split
    · exact payOf_byts hx
    · exact hn
  refine key (if (goodV q m R (blkSpot q seg k) seq).2 = true then goodV q m R (blkSpot q seg k) seq else othV q m R (blkSpot q seg k) seq (spotsL q seg (k / (q.1 - 1)).toNat)) ?_
  split
  · exact goodV_byts hby _ _
  · exact (othV_byts hby _ _ _).1
def lookI (q m : G3) (R : Rk) (seg : Int) : I6 × Bool :=
  if (sWhole q m R seg).2.1 = true then
    let rd := sRead q m R seg 0 (sWhole q m R seg).1
    let P := getP q rd.1.1 rd.1.2.1 rd.1.2.2
    ((seg, (sWhole q m R seg).1, P.1.1, P.1.2.1, P.1.2.2.1, P.1.2.2.2), P.2 && (rd.2 == 0))
  else ((0, 0, 0, 0, 0, 0), false)
theorem scan_look_spec (hcr : RowsOk cv) (bb rb : Nat) (q m : G3) (hq : RightB q = true) (R : Rk) (hby : R.bys) (ds : Slc) (ps : List Nat) (seg : Int) :
    wps g (bnk bb rb q m * rackP rb R ds ps) (scan_look cv (ptr bb) seg) (fun x => pr (x = lookI q m R seg) * bnk bb rb q m * rackP rb R ds ps) := by
  unfold scan_look
  refine wps_alloc fun x4 => ?_
  refine wps_call2 (fun _ => stripe_Whole_spec hcr bb rb q m hq R hby ds ps seg) fun w => ?_
  simp only [← star_assoc]
  refine wps_prP fun hw => ?_
  subst hw
  by_cases hok : (sWhole q m R seg).2.1 = true
  rotate_left
  · have hno : (sWhole q m R seg).2.1 = false := by simpa using hok
    refine wps_ite (fun _ => ?_) (fun h => absurd (by rw [hno]; rfl) h)
    refine wps_stA (by simp) (by simp [Value.oneCell']) ?_
    refine wps_ldA (enc := encI6) (0, 0, 0, 0, 0, 0) (by rfl) (wps_pure ?_)
    unfold lookI
    rw [if_neg hok]
    repeat (first
      | (with_reducible exact ent_drop)
      | (with_reducible refine ent_pick ?_)
      | (refine ent_pickC (by rfl) ?_)
      | (refine ent_pickS (by rfl) ?_)
      | (refine ent_pickM (by rfl) ?_)
      | (refine ent_prx ?_ ?_; rotate_left)
      | (refine ent_prq ?_))
    all_goals first | rfl | trivial
  refine wps_ite (fun h => absurd h (by rw [hok]; decide)) (fun _ => ?_)
  have hl : lookI q m R seg = ((seg, (sWhole q m R seg).1, (getP q (sRead q m R seg 0 (sWhole q m R seg).1).1.1 (sRead q m R seg 0 (sWhole q m R seg).1).1.2.1 (sRead q m R seg 0 (sWhole q m R seg).1).1.2.2).1.1, (getP q (sRead q m R seg 0 (sWhole q m R seg).1).1.1 (sRead q m R seg 0 (sWhole q m R seg).1).1.2.1 (sRead q m R seg 0 (sWhole q m R seg).1).1.2.2).1.2.1, (getP q (sRead q m R seg 0 (sWhole q m R seg).1).1.1 (sRead q m R seg 0 (sWhole q m R seg).1).1.2.1 (sRead q m R seg 0 (sWhole q m R seg).1).1.2.2).1.2.2.1, (getP q (sRead q m R seg 0 (sWhole q m R seg).1).1.1 (sRead q m R seg 0 (sWhole q m R seg).1).1.2.1 (sRead q m R seg 0 (sWhole q m R seg).1).1.2.2).1.2.2.2), (getP q (sRead q m R seg 0 (sWhole q m R seg).1).1.1 (sRead q m R seg 0 (sWhole q m R seg).1).1.2.1 (sRead q m R seg 0 (sWhole q m R seg).1).1.2.2).2 && ((sRead q m R seg 0 (sWhole q m R seg).1).2 == 0)) := by
    unfold lookI; rw [if_pos hok]
  rw [hl]
  refine wps_call2 (fun _ => stripe_Read_spec hcr bb rb q m hq R hby ds ps seg 0 (sWhole q m R seg).1) fun y => ?_
  simp only [← star_assoc]
  refine wps_prP fun ⟨hy1, hy2, hy3⟩ => ?_
  obtain ⟨⟨y1, y2, t⟩, e⟩ := y
  dsimp only at hy1 hy2 hy3
  subst hy1 hy2 hy3
  have hrb := sRead_byts (q := q) (m := m) hby seg 0 (sWhole q m R seg).1
  generalize sRead q m R seg 0 (sWhole q m R seg).1 = rd at *
  generalize (sWhole q m R seg).1 = wq at *
  dsimp only
  refine wps_alloc fun x9 => ?_
  refine wps_stA (by simp) (by simp [Value.oneCell']) ?_
  refine wps_regionH ?_
  refine wps_ldAI (enc := fun y : (Int × Int × Slc) => [(.int .i64 y.1), (.int .i64 y.2.1), (.slice y.2.2.base y.2.2.len y.2.2.cap)]) (rd.1.1, rd.1.2.1, t) (by rfl) ?_
  have hget : ∀ {H : HP} [h : RdS 1 t H (bv rd.1.2.2)], Val g H (scan_GetSummary q (rd.1.1, rd.1.2.1, t)) (getP q rd.1.1 rd.1.2.1 rd.1.2.2) := fun {H} h => scan_GetSummary_val q rd.1.1 rd.1.2.1 h.rd hrb.1 (by omega)
  generalize getP q rd.1.1 rd.1.2.1 rd.1.2.2 = P at *
  refine wps_both (wps_stepVH (fun _ => bank_Geo_val bb rb q m) (wps_both ?_ ?_)) ?_
  · refine wps_stepV hget (wps_stepAlloc fun x11 => ?_)
    refine wps_stA (by simp) (by simp [Value.oneCell']) ?_
    refine wps_ldA (enc := fun y : S4 => [(.int .i64 y.1), (.int .i64 y.2.1), (.int .i64 y.2.2.1), (.int .i64 y.2.2.2)]) P.1 (by rfl) ?_
    refine wps_val (v := P.2 && (rd.2 == 0)) (wps_ite (fun h => wps_pure (ent_val (by rw [h]; rfl))) (fun h => wps_pure (ent_val (by rw [show P.2 = false by simpa using h]; rfl)))) ?_
    refine wps_stA (by simp) (by simp [Value.oneCell']) ?_
    refine wps_ldA (enc := encI6) (seg, wq, P.1.1, P.1.2.1, P.1.2.2.1, P.1.2.2.2) (by rfl) (wps_pure ?_)
    repeat (first
      | (with_reducible exact ent_drop)
      | (with_reducible refine ent_pick ?_)
      | (refine ent_pickC (by rfl) ?_)
      | (refine ent_pickS (by rfl) ?_)
      | (refine ent_pickM (by rfl) ?_)
      | (refine ent_prx ?_ ?_; rotate_left)
      | (refine ent_prq ?_))
    all_goals first | rfl | trivial
  · refine wps_stepAlloc fun x11 => wps_stepV hget ?_
    refine wps_stA (by simp) (by simp [Value.oneCell']) ?_
    refine wps_ldA (enc := fun y : S4 => [(.int .i64 y.1), (.int .i64 y.2.1), (.int .i64 y.2.2.1), (.int .i64 y.2.2.2)]) P.1 (by rfl) ?_
    refine wps_val (v := P.2 && (rd.2 == 0)) (wps_ite (fun h => wps_pure (ent_val (by rw [h]; rfl))) (fun h => wps_pure (ent_val (by rw [show P.2 = false by simpa using h]; rfl)))) ?_
    refine wps_stA (by simp) (by simp [Value.oneCell']) ?_
    refine wps_ldA (enc := encI6) (seg, wq, P.1.1, P.1.2.1, P.1.2.2.1, P.1.2.2.2) (by rfl) (wps_pure ?_)
    repeat (first
      | (with_reducible exact ent_drop)
      | (with_reducible refine ent_pick ?_)
      | (refine ent_pickC (by rfl) ?_)
      | (refine ent_pickS (by rfl) ?_)
      | (refine ent_pickM (by rfl) ?_)
      | (refine ent_prx ?_ ?_; rotate_left)
      | (refine ent_prq ?_))
    all_goals first | rfl | trivial
  · refine wps_stepAlloc fun x11 => wps_stepVH (fun _ => bank_Geo_val bb rb q m) (wps_stepV hget ?_)
    refine wps_stA (by simp) (by simp [Value.oneCell']) ?_
    refine wps_ldA (enc := fun y : S4 => [(.int .i64 y.1), (.int .i64 y.2.1), (.int .i64 y.2.2.1), (.int .i64 y.2.2.2)]) P.1 (by rfl) ?_
    refine wps_val (v := P.2 && (rd.2 == 0)) (wps_ite (fun h => wps_pure (ent_val (by rw [h]; rfl))) (fun h => wps_pure (ent_val (by rw [show P.2 = false by simpa using h]; rfl)))) ?_
    refine wps_stA (by simp) (by simp [Value.oneCell']) ?_
    refine wps_ldA (enc := encI6) (seg, wq, P.1.1, P.1.2.1, P.1.2.2.1, P.1.2.2.2) (by rfl) (wps_pure ?_)
    repeat (first
      | (with_reducible exact ent_drop)
      | (with_reducible refine ent_pick ?_)
      | (refine ent_pickC (by rfl) ?_)
      | (refine ent_pickS (by rfl) ?_)
      | (refine ent_pickM (by rfl) ?_)
      | (refine ent_prx ?_ ?_; rotate_left)
      | (refine ent_prq ?_))
    all_goals first | rfl | trivial
end Go.Proofs.Ytldmeimebebllaa
namespace Go.Proofs.Ytldmeimebebllaa
open Go.Mo
set_option linter.unusedVariables false
variable {g : Fr} {cv : CV}
def infosL (q m : G3) (R : Rk) (n : Nat) : List I6 := (List.range n).filterMap fun s : Nat => if (lookI q m R s).2 = true then some (lookI q m R s).1 else none
def mostL (q m : G3) (R : Rk) (n : Nat) : Int := (List.range n).foldl (fun a (s : Nat) => topR q m R s a q.2.1.toNat) 0
def lookX (q m : G3) (R : Rk) : List I6 × Int × Int := if R.off = true then ([], 0, 12) else (infosL q m R q.2.2.toNat, mostL q m R q.2.2.toNat, 0)
theorem infosL_yes {q m : G3} {R : Rk} {n : Nat} (h : (lookI q m R n).2 = true) : infosL q m R (n + 1) = infosL q m R n ++ [(lookI q m R n).1] := by
  unfold infosL
  rw [List.range_succ, List.filterMap_append]
  simp [h]
theorem infosL_no {q m : G3} {R : Rk} {n : Nat} (h : (lookI q m R n).2 = false) : infosL q m R (n + 1) = infosL q m R n := by
  unfold infosL
  rw [List.range_succ, List.filterMap_append]
  simp [h]
theorem infosL_len (q m : G3) (R : Rk) (n : Nat) : (infosL q m R n).length ≤ n := by
  unfold infosL
  exact Nat.le_trans (List.length_filterMap_le _ _) (by simp)
theorem mostL_snoc (q m : G3) (R : Rk) (n : Nat) : mostL q m R (n + 1) = topR q m R n (mostL q m R n) q.2.1.toNat := by
  unfold mostL
  rw [List.range_succ, List.foldl_append]; rfl
theorem mostL_ge (q m : G3) (R : Rk) : ∀ n, 0 ≤ mostL q m R n
  | 0 => Int.le_refl _
  | n + 1 => by rw [mostL_snoc]; exact Int.le_trans (mostL_ge q m R n) (topR_ge _ _ _ _ _ _)
theorem scan_Look_spec (hcv : DisksOk cv) (hcr : RowsOk cv) (bb rb : Nat) (q m : G3) (hq : RightB q = true) (R : Rk) (hby : R.bys) (ds : Slc) (ps : List Nat) :
    wps g (bnk bb rb q m * rackP rb R ds ps) (scan_Look cv (ptr bb)) (fun x => pr (x.2 = (lookX q m R).2) * bnk bb rb q m * rackP rb R ds ps * own 6 x.1 ((lookX q m R).1.flatMap encI6)) := by
  unfold scan_Look
  have hb := RightB.bnd hq
  have b5 := hb.s12
  have b6 := hb.s64
  refine wps_val (bank_Off_val bb rb q m R ds ps) ?_
  by_cases hoff : R.off = true
  · have hx : lookX q m R = ([], 0, 12) := by unfold lookX; rw [if_pos hoff]
    rw [hx, hoff]
    refine wps_ite (fun _ => wps_pure ?_) (fun h => absurd rfl h)
    refine ent_own0 ?_
    repeat (first
      | (with_reducible exact ent_drop)
      | (with_reducible refine ent_pick ?_)
      | (refine ent_pickC (by rfl) ?_)
      | (refine ent_pickS (by rfl) ?_)
      | (refine ent_pickM (by rfl) ?_)
      | (refine ent_prx ?_ ?_; rotate_left)
      | (refine ent_prq ?_))
    all_goals first | rfl | trivial
  have hx : lookX q m R = (infosL q m R q.2.2.toNat, mostL q m R q.2.2.toNat, 0) := by unfold lookX; rw [if_neg hoff]
  rw [hx]
  refine wps_ite (fun h => absurd h hoff) (fun _ => ?_)
  refine wps_valH (fun _ => bank_Geo_val bb rb q m) ?_
  refine wps_loop (fun st : Slc × Int × Int => ex fun i : Nat => pr (st.2.2 = (i : Int) ∧ (i : Int) ≤ q.2.2 ∧ st.2.1 = mostL q m R i) * bnk bb rb q m * rackP rb R ds ps * own 6 st.1 ((infosL q m R i).flatMap encI6)) (fun st => (q.2.2 - st.2.2).toNat) ?_ fun st => ?_
  · refine ent_ex 0 (ent_own0 (z := 6) ?_)
    repeat (first
      | (with_reducible exact ent_drop)
      | (with_reducible refine ent_pick ?_)
      | (refine ent_pickC (by rfl) ?_)
      | (refine ent_pickS (by rfl) ?_)
      | (refine ent_pickM (by rfl) ?_)
      | (refine ent_prx ?_ ?_; rotate_left)
      | (refine ent_prq ?_))
    all_goals first | exact ⟨rfl, by omega, rfl⟩ | trivial
  refine wps_ex fun i => wps_prP fun ⟨hi, hin, ha⟩ => ?_
  refine wps_fact (Ent.trans (RdS.rd (z := 6) (s := st.1)) (rsl_len _ _ _)) fun hol => ?_
  rw [flat_len encI6_len] at hol
  have hil := infosL_len q m R i
  refine wps_ite (fun hc => ?_) (fun hc => ?_)
  · have hlt : (i : Int) < q.2.2 := by have := of_decide_eq_true hc; omega
    refine wps_call2 (A1 := bnk bb rb q m) (A2 := rackP rb R ds ps) (fun _ => scan_greatest_spec hcv bb rb q m hq R hby ds ps st.2.2 (by omega)) fun x21 => ?_
    simp only [← star_assoc]
    refine wps_prP fun hx21 => ?_
    subst hx21
    refine wps_call2 (A1 := bnk bb rb q m) (A2 := rackP rb R ds ps) (fun _ => scan_look_spec hcr bb rb q m hq R hby ds ps st.2.2) fun x26 => ?_
    simp only [← star_assoc]
    refine wps_prP fun hx26 => ?_
    subst hx26
    rw [hi]
    have hmost : maxI st.2.1 (topR q m R i 0 q.2.1.toNat) = mostL q m R (i + 1) := by rw [ha, topR_zero q m R i (mostL_ge q m R i), mostL_snoc]
    rw [hmost]
    refine wps_alloc fun x8 => ?_
    refine wps_stA (by simp) (by simp [Value.oneCell']) ?_
    refine wps_ite (fun hok => ?_) (fun hok => ?_)
    · refine wps_ldA (enc := encI6) (lookI q m R i).1 (by rfl) ?_
      refine wps_append1 (v := encI6 (lookI q m R i).1) 6 rfl (by decide) rfl (PickS.eq (z := 6) (s := st.1)) (by simp [encI6, Value.oneCell']) (by omega) fun s' hs' => ?_
      refine wps_pure (ent_prr (by dsimp only; rw [range_add1 rfl (by omega)]; omega) (ent_ex (i + 1) ?_))
      rw [infosL_yes hok, List.flatMap_append]
      show Ent _ (_ * _ * _ * own 6 s' (_ ++ encI6 (lookI q m R i).1))
      repeat (first
        | (with_reducible exact ent_drop)
        | (with_reducible refine ent_pick ?_)
        | (refine ent_pickC (by rfl) ?_)
        | (refine ent_pickS (by rfl) ?_)
        | (refine ent_pickM (by rfl) ?_)
        | (refine ent_prx ?_ ?_; rotate_left)
        | (refine ent_prq ?_))
      all_goals first | exact ⟨range_add1 rfl (by omega), by omega, rfl⟩ | trivial
    · have hno : (lookI q m R i).2 = false := by simpa using hok
      refine wps_pure (ent_prr (by dsimp only; rw [range_add1 rfl (by omega)]; omega) (ent_ex (i + 1) ?_))
      rw [infosL_no hno]
      repeat (first
        | (with_reducible exact ent_drop)
        | (with_reducible refine ent_pick ?_)
        | (refine ent_pickC (by rfl) ?_)
        | (refine ent_pickS (by rfl) ?_)
        | (refine ent_pickM (by rfl) ?_)
        | (refine ent_prx ?_ ?_; rotate_left)
        | (refine ent_prq ?_))
      all_goals first | exact ⟨range_add1 rfl (by omega), by omega, rfl⟩ | trivial
  · have hie : q.2.2.toNat = i := by
      have : ¬ st.2.2 < q.2.2 := fun h => hc (decide_eq_true h)
      omega
    refine wps_mapR ?_
    refine wps_pure ?_
    rw [ha, hie]
    show Ent _ (pr (_ = _) * bnk bb rb q m * rackP rb R ds ps * own 6 st.1 _)
    repeat (first
      | (with_reducible exact ent_drop)
      | (with_reducible refine ent_pick ?_)
      | (refine ent_pickC (by rfl) ?_)
      | (refine ent_pickS (by rfl) ?_)
      | (refine ent_pickM (by rfl) ?_)
      | (refine ent_prx ?_ ?_; rotate_left)
      | (refine ent_prq ?_))
    all_goals first | rfl | trivial
end Go.Proofs.Ytldmeimebebllaa

namespace Go.Proofs.Ytldmeimebebllaa
open Go.Mo
set_option linter.unusedVariables false
variable {g : Fr} {cv : CV}
structure Rows4 (cs : List C3) (sq : Nat) : Prop where
  lay : Lay cs
  top : ∀ c ∈ cs, c.2.1 + c.1.length ≤ sq
  four : ∀ c ∈ cs, c.1.length ≤ 4
  sqb : sq ≤ 3 + 5 * cs.length
theorem Rows4.nil : Rows4 [] 3 := ⟨⟨by simp, by simp⟩, by simp, by simp, by simp⟩
theorem Rows4.seq {cs : List C3} {sq : Nat} (h : Rows4 cs sq) : ∀ x ∈ cs.flatMap chk, I6.seq x < sq := fun x hx => by
  obtain ⟨c, hc, hx⟩ := List.mem_flatMap.1 hx
  obtain ⟨k, hk, rfl⟩ := List.mem_map.1 hx
  have := h.top c hc
  have hk := List.mem_range.1 hk
  simp only [I6.seq, chkE]
  omega
def groupsR (y : Slc) (gs : List Gr) : HP := ex fun zs : List (Gr × Slc) => pr (zs.map (·.1) = gs) * (segsP zs * rsl 3 y (grC zs))
theorem scan_Groups_read (s : Slc) (l : List I6) (gs : List Gr) (hg : IsG l gs) (hl : l.length ≤ 100000) : wps g (infosP s l) (scan_Groups s) (fun y => infosP s l * groupsR y gs) := wps_post (scan_Groups_spec s l gs hg hl) fun y => Ent.starr (by
  unfold groupsO groupsR
  refine ex_ent fun zs => ent_ex zs ?_
  rw [star_assoc]
  exact Ent.starr (Ent.starr (own_rsl _ _ _)))
end Go.Proofs.Ytldmeimebebllaa
namespace Go.Proofs.Ytldmeimebebllaa
open Go.Mo
set_option linter.unusedVariables false
variable {g : Fr} {cv : CV}
theorem allz_rep (n : Nat) : allz (List.replicate n 0) = true := by
  unfold allz
  rw [List.all_eq_true]
  intro x hx
  rw [List.eq_of_mem_replicate hx]; rfl
theorem sum_round {q : G3} {s : S4} (h : sumOk q s = true) : getP q 65535 0 (padL (sumData s) 56) = (s, true) ∧ (sumData s).length = 56 ∧ Byts (sumData s) := by
  have hb := sumOk_bnd h
  have hf : ∀ x ∈ sumL s, fitsN 2 x := fun x hx => ⟨(hb x hx).1, (hb x hx).2⟩
  obtain ⟨c, x, b, r⟩ := s
  have f0 := hf 21331 (by simp [sumL])
  have f1 := hf c (by simp [sumL])
  have f2 := hf x (by simp [sumL])
  have f3 := hf b (by simp [sumL])
  have f4 := hf r (by simp [sumL])
  have hhead : sumHead (c, x, b, r) 5 = putL 2 21331 ++ (putL 2 c ++ (putL 2 x ++ (putL 2 b ++ putL 2 r))) := by
    unfold sumHead sumL
    simp only [List.take, List.flatMap_cons, List.flatMap_nil, List.append_nil, putB, if_pos f0, if_pos f1, if_pos f2, if_pos f3, if_pos f4]
  have hlen : (sumHead (c, x, b, r) 5).length = 10 := by rw [hhead]; simp [putL_len]
  have hd : sumData (c, x, b, r) = putL 2 21331 ++ (putL 2 c ++ (putL 2 x ++ (putL 2 b ++ (putL 2 r ++ List.replicate 46 0)))) := by
    unfold sumData padL
    rw [hlen, hhead]
    simp only [List.append_assoc]
  have hl : (sumData (c, x, b, r)).length = 56 := by rw [hd]; simp [putL_len]
  have hpad : padL (sumData (c, x, b, r)) 56 = sumData (c, x, b, r) := by unfold padL; rw [hl]; simp
  have hby : Byts (sumData (c, x, b, r)) := by
    rw [hd]
    exact (putL_byts 2 _).app ((putL_byts 2 _).app ((putL_byts 2 _).app ((putL_byts 2 _).app ((putL_byts 2 _).app (Byts.rep _)))))
  refine ⟨?_, hl, hby⟩
  rw [hpad]
  have tk : ∀ (n : Int) (t : List Int), (putL 2 n ++ t).take 2 = putL 2 n := fun n t => by rw [List.take_append_of_le_length (by simp [putL_len]), List.take_of_length_le (by simp [putL_len])]
  have dr : ∀ (n : Int) (t : List Int) (k : Nat), (putL 2 n ++ t).drop (k + 2) = t.drop k := fun n t k => by
    rw [List.drop_append, List.drop_of_length_le (by simp [putL_len]), List.nil_append, putL_len]
    congr 1
  have g0 : getB (sumData (c, x, b, r)) 0 2 = 21331 := by unfold getB; rw [hd, List.drop_zero, tk, getL_fits f0]
  have g1 : getB (sumData (c, x, b, r)) 2 2 = c := by unfold getB; rw [hd, dr _ _ 0, List.drop_zero, tk, getL_fits f1]
  have g2 : getB (sumData (c, x, b, r)) 4 2 = x := by unfold getB; rw [hd, dr _ _ 2, dr _ _ 0, List.drop_zero, tk, getL_fits f2]
  have g3 : getB (sumData (c, x, b, r)) 6 2 = b := by unfold getB; rw [hd, dr _ _ 4, dr _ _ 2, dr _ _ 0, List.drop_zero, tk, getL_fits f3]
  have g4 : getB (sumData (c, x, b, r)) 8 2 = r := by unfold getB; rw [hd, dr _ _ 6, dr _ _ 4, dr _ _ 2, dr _ _ 0, List.drop_zero, tk, getL_fits f4]
  have hz : allz ((sumData (c, x, b, r)).drop 10) = true := by rw [hd, dr _ _ 8, dr _ _ 6, dr _ _ 4, dr _ _ 2, dr _ _ 0, List.drop_zero]; exact allz_rep _
  have hg : getS (sumData (c, x, b, r)) = (c, x, b, r) := by unfold getS; rw [g1, g2, g3, g4]
  unfold getP sumIs
  rw [hg, g0, hz, h, hl]
  rfl
def s4Of (x : I6) : S4 := (x.2.2.1, x.2.2.2.1, x.2.2.2.2.1, x.2.2.2.2.2)
def Zer (R : Rk) (seg : Nat) : Prop := ∀ r i, r < 3 → i < 3 → (R.dk (slotV Q3 m0 (spt seg r i).1).1.toNat).sec (spt seg r i).2 = noughts
def Put1 (R : Rk) (x : I6) : Prop := ∃ l : List BlkA, Seg m0 R x.1.toNat x.2.1 l ∧ EncD x.2.1 l ∧ fitsN 4 x.2.1 ∧ 1 ≤ x.2.1 ∧ (0 ≤ x.1 ∧ x.1 < 12) ∧ ((blkAt l 0).owner = 65535 ∧ (blkAt l 0).index = 0 ∧ (blkAt l 0).data = sumData (s4Of x)) ∧ sumOk Q3 (s4Of x) = true
structure FinR (frm : Nat) (L : List I6) (R : Rk) : Prop where
  calm : Calm R
  n : R.n = 4
  ns : R.ns = 41
  bys : R.bys
  ats : ∀ (j : Nat) (x : I6), L[j]? = some x → x.1 = (j : Int) ∧ x.2.1 = ((frm + j : Nat) : Int) ∧ Put1 R x
  zer : ∀ seg, L.length ≤ seg → seg < 12 → Zer R seg
  spare : ∀ s : Nat, (R.dk 3).sec (s : Int) = noughts
theorem FinR.new (frm : Nat) : FinR frm [] (Rk.new 4 41) := ⟨Calm.new 4 41, rfl, rfl, Rk.bys_new 4 41, fun j x h => by simp at h, fun seg _ _ r i _ _ => rfl, fun s => rfl⟩
theorem wr_spare : ∀ (es : List ((Int × Int) × List Int)) (R : Rk), Calm R → R.n = 4 → R.ns = 41 → (∀ e ∈ es, (0 ≤ e.1.1 ∧ e.1.1 < 3) ∧ (0 ≤ e.1.2 ∧ e.1.2 < 41) ∧ e.2.length = 64) → (wrAll Q3 m0 es R).1.dk 3 = R.dk 3
  | [], R, _, _, _, _ => rfl
  | e :: es, R, h, hn, hs, he => by
    obtain ⟨⟨a0, a1⟩, ⟨b0, b1⟩, hl⟩ := he e (by simp)
    obtain ⟨i0, hi0⟩ : ∃ i0 : Nat, e.1.1 = (i0 : Int) := ⟨e.1.1.toNat, by omega⟩
    have hi3 : i0 < 3 := by omega
    have hsl := slotV_in m0 i0 hi3
    have hrg := slot_range m0 i0 hi3
    have hw := h.write (k := (slotV (3, 3, 12) m0 e.1.1).1) (s := e.1.2) (b := e.2) (by rw [hi0, hn]; exact hrg) (by rw [hs]; omega) hl
    have hg : bgate (3, 3, 12) m0 R e.1 e.2 = 0 := by unfold bgate; rw [hi0, hsl.1, if_pos rfl, ← hi0]; exact hw.1
    have hb : bwrite (3, 3, 12) m0 R e.1 e.2 = R.put (slotV (3, 3, 12) m0 e.1.1).1 e.1.2 e.2 := by unfold bwrite; rw [hi0, hsl.1, if_pos rfl, ← hi0]; exact hw.2
    rw [wrAll, hg, if_neg (by decide), hb, wr_spare es _ (h.put _ _ _) hn hs fun e' h' => he e' (by simp [h'])]
    have hk : (slotV (3, 3, 12) m0 e.1.1).1 = e.1.1 := by
      unfold slotV
      rw [if_neg (by show ¬ (e.1.1 < 0 ∨ e.1.1 ≥ 3); omega), if_neg (by simp [m0])]
    simp only [Rk.put]
    rw [if_neg (by rw [hk]; omega)]
theorem FinR.step {frm : Nat} {L : List I6} {R : Rk} (h : FinR frm L R) (hl : L.length < 12) (h1 : 1 ≤ frm) (h2 : frm ≤ 1048576) {x : I6} (hx1 : x.1 = (L.length : Int)) (hx2 : x.2.1 = ((frm + L.length : Nat) : Int)) {l : List BlkA} (hf : fitsL l) (hby : ∀ c ∈ l, Byts c.data)
    (h0 : (blkAt l 0).owner = 65535 ∧ (blkAt l 0).index = 0 ∧ (blkAt l 0).data = sumData (s4Of x)) (hs : sumOk Q3 (s4Of x) = true) :
    swrite Q3 m0 R (L.length : Nat) ((frm + L.length : Nat) : Int) l = ((wrAll Q3 m0 (restW Q3 (L.length : Nat) ((frm + L.length : Nat) : Int) l 0) R).1, 0) ∧ FinR frm (L ++ [x]) (wrAll Q3 m0 (restW Q3 (L.length : Nat) ((frm + L.length : Nat) : Int) l 0) R).1 := by
  have hsq : 1 ≤ ((frm + L.length : Nat) : Int) ∧ ((frm + L.length : Nat) : Int) < 4294967296 := by omega
  have hE := EncD.of_fits (fits4 hsq) hf hby
  have hw := seg_wrote (m := m0) (seg := L.length) hl hE h.calm h.n h.ns
  have hsw := swrite_ok (m := m0) (seg := L.length) (by decide) hl hsq hf.1 hE h.calm h.n h.ns
  have hmem : ∀ e ∈ restW Q3 (L.length : Nat) ((frm + L.length : Nat) : Int) l 0, ∃ r i, r < 3 ∧ i < 3 ∧ e = (spt L.length r i, datAt Q3 ((frm + L.length : Nat) : Int) l r i) := fun e he => by
    rw [restW3, List.mem_map] at he
    obtain ⟨t, ht, rfl⟩ := he
    have := List.mem_range.1 ht
    exact ⟨t / 3, t % 3, by omega, by omega, rfl⟩
  refine ⟨hsw, hw.2.1.calm, hw.2.1.n, hw.2.1.ns, hw.2.2.2.1 h.bys, fun j y hj => ?_, fun seg hse hs12 r i hr hi => ?_, fun s => ?_⟩
  · by_cases hjl : j < L.length
    · rw [List.getElem?_append_left hjl] at hj
      obtain ⟨a1, a2, l', b1, b2⟩ := h.ats j y hj
      refine ⟨a1, a2, l', hw.2.2.2.2 y.1.toNat y.2.1 l' (by omega) (by omega) b1, b2⟩
    · have hje : j = L.length := by
        have := (List.getElem?_eq_some_iff.1 hj).1
        simp at this; omega
      subst hje
      rw [List.getElem?_append_right (by omega), Nat.sub_self] at hj
      have hy : x = y := by simpa using hj
      subst hy
      refine ⟨hx1, hx2, l, ?_, ?_, ?_, by omega, by omega, h0, hs⟩
      · rw [show x.1.toNat = L.length by omega, hx2]; exact hw.2.2.1
      · rw [hx2]; exact hE
      · rw [hx2]; exact fits4 hsq
  · rw [List.length_append, List.length_singleton] at hse
    obtain ⟨j, hj, hje⟩ := spt_slot (seg := seg) hs12 hr hi
    rw [hje, hw.2.1.sec j _ hj, lastW_not, ← hje]
    · exact h.zer seg (by omega) hs12 r i hr hi
    · intro e he heq
      obtain ⟨r', i', hr', hi', rfl⟩ := hmem e he
      rw [← hje] at heq
      have := spt_inj (seg := L.length) (seg' := seg) hr' hr hi' hi heq
      omega
  · rw [wr_spare _ R h.calm h.n h.ns fun e he => by
      obtain ⟨r, i, hr, hi, rfl⟩ := hmem e he
      have hrg := spt_rng hl hr hi
      exact ⟨hrg.1, ⟨by have := hrg.2.1; show 0 ≤ (spt L.length r i).2; omega, hrg.2.2⟩, (hE.dat hr hi).len⟩]
    exact h.spare s
end Go.Proofs.Ytldmeimebebllaa
namespace Go.Proofs.Ytldmeimebebllaa
open Go.Mo
set_option linter.unusedVariables false
variable {g : Fr} {cv : CV}
theorem topL_mem {a : Int} : ∀ {l : List (List Int)} {b : List Int}, b ∈ l → (headOf b).1 ≤ topL a l
  | x :: l, b, h => by
    show _ ≤ topL (maxI a (headOf x).1) l
    rcases List.mem_cons.1 h with rfl | h
    · exact Int.le_trans (by unfold maxI; split <;> omega) (topL_ge _ l)
    · exact topL_mem h
theorem topL_le {M : Int} : ∀ {l : List (List Int)} {a : Int}, a ≤ M → (∀ b ∈ l, (headOf b).1 ≤ M) → topL a l ≤ M
  | [], a, h, _ => h
  | x :: l, a, h, hb => by
    show topL (maxI a (headOf x).1) l ≤ M
    exact topL_le (by have := hb x (by simp); unfold maxI; split <;> omega) fun b h' => hb b (by simp [h'])
theorem topR_mem {q m : G3} {R : Rk} {seg a : Int} {r : Nat} {b : List Int} (hb : b ∈ allL (5 + seg * q.2.1 + r) (disksL q m) R) : ∀ {n : Nat}, r < n → (headOf b).1 ≤ topR q m R seg a n
  | n + 1, h => by
    rw [topR_snoc]
    by_cases hr : r = n
    · subst hr; exact topL_mem hb
    · exact Int.le_trans (topR_mem hb (by omega)) (topL_ge _ _)
theorem topR_le {q m : G3} {R : Rk} {seg a M : Int} (h : a ≤ M) : ∀ {n : Nat}, (∀ r, r < n → ∀ b ∈ allL (5 + seg * q.2.1 + (r : Nat)) (disksL q m) R, (headOf b).1 ≤ M) → topR q m R seg a n ≤ M
  | 0, _ => h
  | n + 1, hb => by
    rw [topR_snoc]
    exact topL_le (topR_le h fun r hr => hb r (by omega)) (hb n (by omega))
theorem mostL_mem {q m : G3} {R : Rk} {s r : Nat} {b : List Int} (hb : b ∈ allL (5 + (s : Int) * q.2.1 + r) (disksL q m) R) (hr : r < q.2.1.toNat) : ∀ {n : Nat}, s < n → (headOf b).1 ≤ mostL q m R n
  | n + 1, h => by
    rw [mostL_snoc]
    by_cases hs : s = n
    · subst hs; exact topR_mem hb hr
    · exact Int.le_trans (mostL_mem hb hr (by omega)) (topR_ge _ _ _ _ _ _)
theorem mostL_le {q m : G3} {R : Rk} {M : Int} (h0 : 0 ≤ M) : ∀ {n : Nat}, (∀ (s r : Nat), s < n → r < q.2.1.toNat → ∀ b ∈ allL (5 + (s : Int) * q.2.1 + r) (disksL q m) R, (headOf b).1 ≤ M) → mostL q m R n ≤ M
  | 0, _ => h0
  | n + 1, hb => by
    rw [mostL_snoc]
    exact topR_le (mostL_le h0 fun s r hs hr => hb s r (by omega) hr) fun r hr b h' => hb n r (by omega) hr b h'
theorem slotM0 {i : Int} (h : 0 ≤ i ∧ i < 3) : (slotV Q3 m0 i).1 = i := by
  unfold slotV
  rw [if_neg (by show ¬ (i < 0 ∨ i ≥ 3); omega), if_neg (by simp [m0])]
structure LostR (frm : Nat) (L : List I6) (R : Rk) (f : Int) : Prop where
  set : Settled R (fun j => decide (j = f.toNat))
  n : R.n = 4
  ns : R.ns = 41
  bys : R.bys
  ats : ∀ (j : Nat) (x : I6), L[j]? = some x → x.1 = (j : Int) ∧ x.2.1 = ((frm + j : Nat) : Int) ∧ Put1 R x
  zer : ∀ seg, L.length ≤ seg → seg < 12 → Zer R seg
  spare : ∀ s : Nat, (R.dk 3).sec (s : Int) = noughts
theorem FinR.lost {frm : Nat} {L : List I6} {R : Rk} (h : FinR frm L R) {f : Int} (hf : 0 ≤ f ∧ f < 4) : (flushL (disksL Q3 m0) (R.doom f 0)).2 = 0 ∧ LostR frm L (flushL (disksL Q3 m0) (R.doom f 0)).1 f := by
  obtain ⟨d, xs, hdl, hdr⟩ := disksL3 m0
  rw [hdl]
  have ha := armed_doom h.calm (f := f) (by rw [h.n]; exact hf)
  have hdn : (R.doom f 0).n = 4 ∧ (R.doom f 0).ns = 41 := by rw [(SameS.doom R f 0).n, (SameS.doom R f 0).ns]; exact ⟨h.n, h.ns⟩
  have hfl := ha.flushL (d := d) (xs := xs) (by rw [hdn.1]; exact hdr) (by rw [hdn.2]; omega)
  have hss := (SameS.doom R f 0).trans (SameS.flushL (d :: xs) (R.doom f 0))
  refine ⟨hfl.1, hfl.2.1, by rw [hfl.2.2.1, hdn.1], by rw [hfl.2.2.2, hdn.2], hss.bys h.bys, fun j x hj => ?_, fun seg h1 h2 r i hr hi => ?_, fun s => by rw [hss.sec]; exact h.spare s⟩
  · obtain ⟨a1, a2, l, b1, b2⟩ := h.ats j x hj
    exact ⟨a1, a2, l, b1.same hss, b2⟩
  · have e : (spt seg r i).2 = ((5 + (seg * 3 + r) : Nat) : Int) := rfl
    rw [← h.zer seg h1 h2 r i hr hi, e, hss.sec]
theorem LostR.look {frm : Nat} {L : List I6} {R : Rk} {f : Int} (h : LostR frm L R f) {j : Nat} {x : I6} (hj : L[j]? = some x) : lookI Q3 m0 R j = (x, true) := by
  obtain ⟨a1, a2, l, b1, b2, b3, b4, b5, b6, b7⟩ := h.ats j x hj
  have hS : SegF m0 R (fun j => decide (j = f.toNat)) x.1.toNat x.2.1 l := ⟨h.set, h.n, h.ns, b1, b2, by omega, b3⟩
  have hje : ((x.1.toNat : Nat) : Int) = (j : Int) := by omega
  have hw : sWhole Q3 m0 R j = (x.2.1, true, 0) := by rw [← hje]; exact hS.whole one_lost (by decide) b4
  have hr : sRead Q3 m0 R j 0 x.2.1 = (((blkAt l 0).owner, (blkAt l 0).index, padL (blkAt l 0).data 56), 0) := by rw [← hje]; exact hS.read one_lost (k := 0) (by decide)
  have hP := (sum_round b7).1
  unfold lookI
  rw [hw]
  dsimp only
  rw [hr, b6.1, b6.2.1, b6.2.2, if_pos rfl]
  dsimp only
  rw [hP]
  obtain ⟨x1, x2, x3, x4, x5, x6⟩ := x
  simp only at a1
  simp [s4Of, a1]
theorem head_noughts : (headOf noughts).1 = 0 := by decide
theorem whL_zero {m : G3} {R : Rk} {bad : List Int} : ∀ {ss : List (Int × Int)} {s : Int}, (∀ sp ∈ ss, brdE Q3 m R sp ≠ 0 ∨ (headOf (brd Q3 m R sp)).1 = 0) → (∃ sp ∈ ss, sp.1 ∉ bad) → whL Q3 m R bad ss s = none
  | [], _, _, h => by obtain ⟨sp, hs, _⟩ := h; simp at hs
  | sp :: ss, s, ha, hex => by
    rw [whL]
    by_cases hm : sp.1 ∈ bad
    · rw [if_pos hm]
      refine whL_zero (fun sp' h' => ha sp' (by simp [h'])) ?_
      obtain ⟨sp', h1, h2⟩ := hex
      rcases List.mem_cons.1 h1 with rfl | h1
      · exact absurd hm h2
      · exact ⟨sp', h1, h2⟩
    · rw [if_neg hm, if_pos]
      rcases ha sp (by simp) with h1 | h1
      · exact .inl h1
      · exact .inr (.inl h1)
theorem LostR.nolook {frm : Nat} {L : List I6} {R : Rk} {f : Int} (h : LostR frm L R f) {j : Nat} (hj : L.length ≤ j) (h12 : j < 12) : (lookI Q3 m0 R j).2 = false := by
  have hw : (sWhole Q3 m0 R j).2.1 = false := by
    unfold sWhole
    split
    · rfl
    split
    · rfl
    rename_i h1
    rw [whL_zero]
    · intro sp hsp
      rw [allS3, List.mem_map] at hsp
      obtain ⟨t, ht, rfl⟩ := hsp
      have := List.mem_range.1 ht
      have hrg := spt_rng h12 (r := t / 3) (i := t % 3) (by omega) (by omega)
      have hb := sec_brd (m := m0) h.set h.n h.ns (s := spt j (t / 3) (t % 3)) hrg.1 (by omega)
      cases hfl : (fun j => decide (j = f.toNat)) (slotV Q3 m0 (spt j (t / 3) (t % 3)).1).1.toNat with
      | true => left; rw [hb.1, if_pos hfl]; decide
      | false =>
        right
        rw [hb.2 hfl, h.zer j hj h12 _ _ (by omega) (by omega)]
        exact head_noughts
    · apply Classical.byContradiction
      intro hno
      have hall : ∀ i, i < 3 → (spt j 0 i).1 ∈ badI Q3 m0 R := fun i hi => by
        apply Classical.byContradiction
        intro hni
        refine hno ⟨spt j 0 i, ?_, hni⟩
        rw [allS3, List.mem_map]
        exact ⟨i, List.mem_range.2 (by omega), by rw [Nat.div_eq_of_lt hi, Nat.mod_eq_of_lt hi]⟩
      have c0 := hall 0 (by decide)
      have c1 := hall 1 (by decide)
      have hl : (badI Q3 m0 R).length ≤ 1 := by unfold badI; rw [List.length_map]; omega
      have he : (spt j 0 0).1 = (spt j 0 1).1 := by
        generalize badI Q3 m0 R = B at *
        match B, hl with
        | [], _ => simp at c0
        | [b], _ => rw [List.mem_singleton.1 c0, List.mem_singleton.1 c1]
      exact spt_slot_ne (seg := j) (r := 0) (i := 0) (j := 1) (by decide) (by decide) (by decide) h12 (by decide) (by rw [he])
  unfold lookI
  rw [if_neg (by rw [hw]; decide)]
theorem LostR.infos {frm : Nat} {L : List I6} {R : Rk} {f : Int} (h : LostR frm L R f) : ∀ n, n ≤ 12 → infosL Q3 m0 R n = L.take n
  | 0, _ => by simp [infosL]
  | n + 1, hn => by
    have ih := h.infos n (by omega)
    by_cases hl : n < L.length
    · have hg := List.getElem?_eq_getElem hl
      have := h.look hg
      rw [infosL_yes (by rw [this]), ih, this, List.take_add_one, hg]; rfl
    · rw [infosL_no (h.nolook (by omega) (by omega)), ih, List.take_of_length_le (by omega), List.take_of_length_le (by omega)]
theorem LostR.infos12 {frm : Nat} {L : List I6} {R : Rk} {f : Int} (h : LostR frm L R f) (hl : L.length ≤ 12) : infosL Q3 m0 R 12 = L := by
  rw [h.infos 12 (by omega), List.take_of_length_le hl]
theorem spt_onto {seg r : Nat} {d : Int} (h : 0 ≤ d ∧ d < 3) : ∃ i, i < 3 ∧ spt seg r i = (d, ((5 + (seg * 3 + r) : Nat) : Int)) := by
  have h0 : (spt seg r 0).1 = d ∨ (spt seg r 1).1 = d ∨ (spt seg r 2).1 = d := by
    unfold spt
    simp only [show ¬ (0 : Nat) = 2 by decide, show ¬ (1 : Nat) = 2 by decide, if_false, if_true]
    omega
  rcases h0 with h0 | h0 | h0
  · exact ⟨0, by decide, Prod.ext h0 rfl⟩
  · exact ⟨1, by decide, Prod.ext h0 rfl⟩
  · exact ⟨2, by decide, Prod.ext h0 rfl⟩
theorem disks0 : disksL Q3 m0 = [0, 1, 2, 3] := by decide
theorem LostR.sec {frm : Nat} {L : List I6} {R : Rk} {f : Int} (h : LostR frm L R f) {s r : Nat} (hs : s < 12) (hr : r < 3) {d : Int} (hd : 0 ≤ d ∧ d < 3) : (headOf ((R.dk d.toNat).sec ((5 + (s * 3 + r) : Nat) : Int))).1 = if s < L.length then ((frm + s : Nat) : Int) else 0 := by
  obtain ⟨i, hi, he⟩ := spt_onto (seg := s) (r := r) hd
  have e1 : (spt s r i).1 = d := by rw [he]
  have e2 : (spt s r i).2 = ((5 + (s * 3 + r) : Nat) : Int) := by rw [he]
  by_cases hl : s < L.length
  · rw [if_pos hl]
    obtain ⟨a1, a2, l, b1, b2, b3, _⟩ := h.ats s _ (List.getElem?_eq_getElem hl)
    have hsg := b1 r i hr hi
    rw [show (L[s].1.toNat) = s by omega, e1, e2, slotM0 hd] at hsg
    rw [hsg, (b2.dat hr hi).head b3, a2]
  · rw [if_neg hl]
    have hz := h.zer s (by omega) hs r i hr hi
    rw [e1, e2, slotM0 hd] at hz
    rw [hz]; exact head_noughts
theorem LostR.most {frm : Nat} {L : List I6} {R : Rk} {f : Int} (h : LostR frm L R f) (hl : L.length ≤ 12) : mostL Q3 m0 R 12 = if L.length = 0 then 0 else ((frm + L.length - 1 : Nat) : Int) := by
  have hsp : ∀ s r : Nat, (5 + (s : Int) * Q3.2.1 + (r : Int)) = ((5 + (s * 3 + r) : Nat) : Int) := fun s r => by
    show (5 + (s : Int) * 3 + (r : Int)) = _
    omega
  have hup : ∀ (s r : Nat), s < 12 → r < 3 → ∀ b ∈ allL (5 + (s : Int) * Q3.2.1 + r) (disksL Q3 m0) R, (headOf b).1 = 0 ∨ (s < L.length ∧ (headOf b).1 = ((frm + s : Nat) : Int)) := fun s r hs hr b hb => by
    rw [hsp] at hb
    unfold allL at hb
    obtain ⟨d, hd, rfl⟩ := List.mem_map.1 hb
    obtain ⟨hd1, hd2⟩ := List.mem_filter.1 hd
    have hd2 : R.rdErr d ((5 + (s * 3 + r) : Nat) : Int) = 0 := by simpa using hd2
    have hrd : R.rd d ((5 + (s * 3 + r) : Nat) : Int) = (R.dk d.toNat).sec ((5 + (s * 3 + r) : Nat) : Int) := by unfold Rk.rd; rw [if_pos hd2]
    rw [hrd]
    rw [disks0] at hd1
    have hd4 : d = 3 ∨ (0 ≤ d ∧ d < 3) := by
      simp only [List.mem_cons, List.not_mem_nil, or_false] at hd1
      omega
    rcases hd4 with rfl | hd3
    · left
      show (headOf ((R.dk 3).sec _)).1 = 0
      rw [h.spare]; exact head_noughts
    · rw [h.sec hs hr hd3]
      by_cases hlt : s < L.length
      · rw [if_pos hlt]; exact .inr ⟨hlt, rfl⟩
      · rw [if_neg hlt]; exact .inl rfl
  by_cases h0 : L.length = 0
  · rw [if_pos h0]
    refine Int.le_antisymm (mostL_le (Int.le_refl _) fun s r hs hr b hb => ?_) (mostL_ge _ _ _ _)
    rcases hup s r hs hr b hb with h1 | h1
    · omega
    · omega
  · rw [if_neg h0]
    refine Int.le_antisymm (mostL_le (by omega) fun s r hs hr b hb => ?_) ?_
    · rcases hup s r hs hr b hb with h1 | h1
      · omega
      · omega
    · obtain ⟨d, hd, hdf⟩ : ∃ d : Int, (0 ≤ d ∧ d < 3) ∧ d.toNat ≠ f.toNat := by
        by_cases hf0 : f.toNat = 0
        · exact ⟨1, by omega, by omega⟩
        · exact ⟨0, by omega, by omega⟩
      have hE : R.rdErr d ((5 + ((L.length - 1) * 3 + 0) : Nat) : Int) = 0 := by
        unfold Rk.rdErr
        rw [if_neg (by simp [h.set.off]), if_neg (by rw [h.n, h.ns]; omega), h.set.failed]
        simp [hdf]
      have hmem : R.rd d ((5 + ((L.length - 1) * 3 + 0) : Nat) : Int) ∈ allL (5 + ((L.length - 1 : Nat) : Int) * Q3.2.1 + ((0 : Nat) : Int)) (disksL Q3 m0) R := by
        rw [hsp]
        unfold allL
        refine List.mem_map.2 ⟨d, List.mem_filter.2 ⟨?_, by rw [hE]; rfl⟩, rfl⟩
        rw [disks0]
        simp only [List.mem_cons, List.not_mem_nil, or_false]
        omega
      have := mostL_mem hmem (by decide) (n := 12) (by omega)
      have hrd : R.rd d ((5 + ((L.length - 1) * 3 + 0) : Nat) : Int) = (R.dk d.toNat).sec ((5 + ((L.length - 1) * 3 + 0) : Nat) : Int) := by unfold Rk.rd; rw [if_pos hE]
      rw [hrd, h.sec (by omega) (by decide) hd, if_pos (by omega)] at this
      rw [show frm + L.length - 1 = frm + (L.length - 1) by omega]
      exact this
end Go.Proofs.Ytldmeimebebllaa
namespace Go.Proofs.Ytldmeimebebllaa
open Go.Mo
set_option linter.unusedVariables false
variable {g : Fr} {cv : CV}
theorem Has.get {H A H2 : HP} [h : Has H A H2] : Ent H A := by
  rw [h.eq]; exact ent_right _ _
end Go.Proofs.Ytldmeimebebllaa
namespace Go.Proofs.Ytldmeimebebllaa
open Go.Mo
set_option linter.unusedVariables false
variable {g : Fr} {cv : CV}
theorem put_ok {H : HP} {q : G3} {s : S4} (h : sumOk q s = true) : wps g H (scan_PutSummary q s) (fun x => H * (pr (x.1.1 = 65535 ∧ x.1.2.1 = 0 ∧ x.2 = true) * own 1 x.1.2.2 (bv (sumData s)))) := wps_post (scan_PutSummary_spec q s) fun x => by
  unfold putPost
  rw [if_pos h, star_comm (pr _) H, star_assoc]
  exact Ent.refl _
theorem fin_blocks {t : Slc} {D : List Int} {x y : Nat} {b : Int} (hD : Byts D ∧ D.length = 56) (hb : 0 ≤ b ∧ b < 256) : Ent (byt t D * pc x [.int .u8 b] * pc y [.int .i64 65535, .int .i64 0, .slice t.base t.len t.cap, .int .i64 1, .int .i64 0, .slice (some ⟨x, 0, none⟩) 1 1]) (blocksP ⟨some ⟨y, 0, none⟩, 2, 2⟩ [⟨65535, 0, t, D⟩, ⟨1, 0, ⟨some ⟨x, 0, none⟩, 1, 1⟩, [b]⟩]) := by
  have e : ∀ (b : Nat) (cs : List Value) (n z : Nat), cs.length = n * z → Ent (pc b cs) (rsl z ⟨some ⟨b, 0, none⟩, n, n⟩ cs) := fun b cs n z h => Ent.trans (pc_own h) (own_rsl _ _ _)
  refine Ent.trans (B := byt t D * byt ⟨some ⟨x, 0, none⟩, 1, 1⟩ [b] * rsl 3 ⟨some ⟨y, 0, none⟩, 2, 2⟩ ([(⟨65535, 0, t, D⟩ : BlkA), ⟨1, 0, ⟨some ⟨x, 0, none⟩, 1, 1⟩, [b]⟩].flatMap BlkA.cells)) ?_ ?_
  · exact Ent.trans (Ent.starl (Ent.starr (e x _ 1 1 rfl))) (Ent.starr (e y _ 2 3 rfl))
  · unfold blocksP
    refine ent_and (ent_prr trivial (ent_right _ _)) fun o ho i c hc => ?_
    have hx := ent_left _ _ o (ent_left _ _ o ho)
    have hy := ent_right _ _ o (ent_left _ _ o ho)
    match i with
    | 0 =>
      obtain rfl : (⟨65535, 0, t, D⟩ : BlkA) = c := by simpa using hc
      exact ent_pr (A := byt t D) (p := BlkA.ok ⟨65535, 0, t, D⟩) ⟨hD.1, by show D.length ≤ _; omega, by simp, by simp⟩ o hx
    | 1 =>
      obtain rfl : (⟨1, 0, ⟨some ⟨x, 0, none⟩, 1, 1⟩, [b]⟩ : BlkA) = c := by simpa using hc
      exact ent_pr (A := byt ⟨some ⟨x, 0, none⟩, 1, 1⟩ [b]) (p := BlkA.ok ⟨1, 0, ⟨some ⟨x, 0, none⟩, 1, 1⟩, [b]⟩) ⟨fun n hn => by simp at hn; omega, by simp, by simp, by simp⟩ o hy
    | i + 2 => simp at hc
theorem flat_le2 : ∀ {cs : List C3}, (∀ c ∈ cs, 1 ≤ c.1.length ∧ c.1.length ≤ 2) → (cs.flatMap chk).length ≤ 2 * cs.length ∧ cs.length ≤ (cs.flatMap chk).length
  | [], _ => by simp
  | c :: cs, h => by
    have := flat_le2 (cs := cs) fun d hd => h d (by simp [hd])
    have h2 := h c (by simp)
    rw [List.flatMap_cons, List.length_append, chk_len, List.length_cons]
    omega
def wideR (b sq n r : Nat) : C3 := ((List.range n).map fun j => ((b + j : Nat) : Int), sq, r)
theorem wideR_len (b sq n r : Nat) : (wideR b sq n r).1.length = n := by simp [wideR]
theorem wideR_E {b sq n r k : Nat} (h : k < n) : chkE (wideR b sq n r) k = (((b + k : Nat) : Int), ((sq + k : Nat) : Int), (n : Int), (k : Int), 0, if k + 1 = n then (r : Int) else 0) := by
  unfold chkE
  rw [wideR_len]
  have : (wideR b sq n r).1.getD k 0 = ((b + k : Nat) : Int) := by simp [wideR, List.getD, List.getElem?_range h]
  rw [this]
  rfl
theorem wideR_take {b sq n r k : Nat} (h : k < n) : (wideR b sq n r).1.take (k + 1) = (wideR b sq n r).1.take k ++ [((b + k : Nat) : Int)] := by
  rw [List.take_add_one]
  simp [wideR, List.getElem?_range h]
theorem sum3 {n k r : Nat} (hn : n ≤ 2) (hk : k < n) (hr : 1 ≤ r ∧ r ≤ 5) : sumOk Q3 ((n : Int), (k : Int), 0, if k + 1 = n then (r : Int) else 0) = true := by
  have hR : RightB Q3 = true := by decide
  have hp : placesI Q3 = 5 := rfl
  unfold sumOk
  rw [hR, hp, decide_eq_true (show 1 ≤ (n : Int) ∧ (n : Int) ≤ Q3.2.2 ∧ 0 ≤ (k : Int) ∧ (k : Int) < n ∧ 0 ≤ (0 : Int) ∧ (0 : Int) ≤ 5 by
    show 1 ≤ (n : Int) ∧ (n : Int) ≤ 12 ∧ _
    omega)]
  by_cases h : k + 1 = n
  · rw [if_pos (show (k : Int) = (n : Int) - 1 by omega), if_pos h, decide_eq_true (show 1 ≤ (r : Int) ∧ (r : Int) ≤ Q3.2.2 * 5 by show 1 ≤ (r : Int) ∧ (r : Int) ≤ 12 * 5; omega)]; rfl
  · rw [if_neg (show ¬ (k : Int) = (n : Int) - 1 by omega), if_neg h]; rfl
structure FinI (fn : Nat) (zs : List Int) (st : Int × Int × Slc × Int) (cs : List C3) (zw : List (Gr × Slc)) (R : Rk) : Prop where
  fin : FinR fn (cs.flatMap chk) R
  seg : st.1 = ((cs.flatMap chk).length : Int)
  seq : st.2.1 = ((fn + (cs.flatMap chk).length : Nat) : Int)
  i : st.2.2.2 = (cs.length : Int)
  le : cs.length ≤ zs.length
  want : zw.map (·.1) = cs.map gOf
  two : ∀ c ∈ cs, 1 ≤ c.1.length ∧ c.1.length ≤ 2
  top : ∀ c ∈ cs, c.2.1 + c.1.length ≤ fn + (cs.flatMap chk).length
  rise : cs.Pairwise fun c d => c.2.1 + c.1.length ≤ d.2.1
theorem law08_ScanFinds_spec (hcd : DisksOk cv) (hcr : RowsOk cv) (s : Slc) (zs : List Int) (frm fail : Int) : wps g (intsP s zs) (law08_ScanFinds cv s frm fail) (fun x => pr (x = true)) := by
  unfold law08_ScanFinds
  refine wps_fact (intsP_len (Ent.refl _)) fun hl => ?_
  refine wps_callE (fun _ => law08_alive_spec) fun a => ?_
  refine wps_prP fun ha => ?_
  subst ha
  refine wps_ite (fun h => absurd h (by decide)) (fun _ => ?_)
  refine wps_val (val_cond (b := decide (frm < 1)) fun _ => wps_pure (ent_val rfl)) ?_
  refine wps_val (val_cond (b := decide (frm > 1048576)) fun _ => wps_pure (ent_val rfl)) ?_
  refine wps_ite (fun _ => wps_pure (fun o ho => rfl)) (fun hc => ?_)
  simp only [Bool.or_eq_true, decide_eq_true_eq, not_or] at hc
  obtain ⟨fn, rfl⟩ : ∃ fn : Nat, frm = fn := ⟨frm.toNat, by omega⟩
  have hle : zs.length ≤ 5 := by omega
  have hf1 : 1 ≤ fn := by omega
  have hf2 : fn ≤ 1048576 := by omega
  clear hc
  have hS : SectorsI Q3 = 41 := Small_sect
  refine wps_val law08_Small_val ?_
  refine wps_val (geo_Sectors_val _) ?_
  rw [hS]
  refine wps_callE (fun _ => device_New_spec 4 41) fun z => ?_
  rw [if_neg (show ¬ ((4 : Int) < 1 ∨ (4 : Int) > 17 ∨ (41 : Int) < 1 ∨ (41 : Int) > 4096) by decide), show Rk.new (Int.toNat 4) (Int.toNat 41) = Rk.new 4 41 from rfl]
  unfold rack
  refine wps_exP fun rb => ?_
  refine wps_prP fun hz => ?_
  subst hz
  refine wps_exP fun ds => wps_exP fun ps => ?_
  refine wps_val (v := false) (wps_ite (fun h => absurd h (by simp)) (fun _ => wps_pure (ent_val (by simp)))) ?_
  refine wps_ite (fun h => absurd h (by decide)) (fun _ => ?_)
  refine wps_val law08_Small_val ?_
  refine wps_callH (A := rackP rb (Rk.new 4 41) ds ps) (fun _ => bank_Open_spec rb (Rk.new 4 41) ds ps Q3 m0) fun y => ?_
  rw [show OpenB (Rk.new 4 41).n (Rk.new 4 41).ns Q3 m0 = true from open0, if_pos rfl]
  refine wps_exP fun bb => ?_
  simp only [← star_assoc]
  refine wps_prP fun hy => ?_
  subst hy
  refine wps_val (v := false) (wps_ite (fun h => absurd h (by simp)) (fun _ => wps_pure (ent_val (by simp)))) ?_
  refine wps_ite (fun h => absurd h (by decide)) (fun _ => ?_)
  refine wps_alloc fun x61 => ?_
  refine wps_swap (A := pc x61 []) (B := own 3 ⟨some ⟨x61, 0, none⟩, 0, 0⟩ []) (pc_own rfl) ?_
  refine wps_loop (fun st : Int × Int × Slc × Int => ex fun cs : List C3 => ex fun zw : List (Gr × Slc) => ex fun R : Rk => pr (FinI fn zs st cs zw R) * intsP s zs * bnk bb rb Q3 m0 * rackP rb R ds ps * segsP zw * own 3 st.2.2.1 (grC zw)) (fun st => (zs.length - st.2.2.2).toNat) ?_ fun st => ?_
  · refine ent_ex [] (ent_ex [] (ent_ex (Rk.new 4 41) ?_))
    refine Ent.trans (B := intsP s zs * bnk bb rb Q3 m0 * rackP rb (Rk.new 4 41) ds ps * own 3 ⟨some ⟨x61, 0, none⟩, 0, 0⟩ []) ?_ ?_
    · repeat (first
        | (with_reducible exact ent_drop)
        | (with_reducible refine ent_pick ?_)
        | (refine ent_pickC (by rfl) ?_)
        | (refine ent_pickS (by rfl) ?_)
        | (refine ent_pickM (by rfl) ?_)
        | (refine ent_prx ?_ ?_; rotate_left)
        | (refine ent_prq ?_))
    refine Ent.trans (B := intsP s zs * bnk bb rb Q3 m0 * rackP rb (Rk.new 4 41) ds ps * (segsP [] * own 3 ⟨some ⟨x61, 0, none⟩, 0, 0⟩ [])) (Ent.starr (Ent.trans (Ent.of_eq (emp_star _).symm) (Ent.starl (segsP_nil _)))) ?_
    simp only [star_assoc]
    exact ent_pr ⟨FinR.new fn, rfl, by simp, rfl, by simp, rfl, by simp, by simp, by simp⟩
  refine wps_ex fun cs => wps_ex fun zw => wps_ex fun R => wps_prP fun hI => ?_
  have hfl := flat_le2 hI.two
  have hcsl := hI.le
  have hi := hI.i
  have hseg := hI.seg
  have hseq := hI.seq
  refine wps_fact (Ent.trans (RdS.rd (z := 3) (s := st.2.2.1)) (rsl_len _ _ _)) fun hol => ?_
  rw [grC_len] at hol
  have hzw : zw.length = cs.length := by have := congrArg List.length hI.want; simpa using this
  refine wps_ite (fun hc => ?_) (fun hc => ?_)
  · have hlt : cs.length < zs.length := by have := of_decide_eq_true hc; omega
    refine wps_rd cs.length zs[cs.length] (RdS.rd (z := 1) (s := s)) hi (zv_get (List.getElem?_eq_getElem hlt)) ?_
    have hb1 := bAnd_le zs[cs.length] 1 (by omega)
    generalize hy : bAnd .i64 zs[cs.length] ((1 : Nat) : Int) = y at hb1
    obtain ⟨n, hn⟩ : ∃ n : Nat, (n : Int) = 1 + y := ⟨(1 + y).toNat, by omega⟩
    have hwn : w64 (1 + y) = (n : Int) := by rw [w64_id (by omega) (by omega)]; omega
    have hwn1 : w64 ((n : Int) - 1) = (n : Int) - 1 := w64_id (by omega) (by omega)
    rw [hwn, hwn1]
    have hroot : w64 (1 + st.2.2.2) = ((cs.length + 1 : Nat) : Int) := by rw [w64_id (by omega) (by omega)]; omega
    rw [hroot]
    have hfin := hI.fin
    have htop := hI.top
    generalize hL : cs.flatMap chk = L at *
    generalize hcc : wideR L.length (fn + L.length) n (cs.length + 1) = c
    have hE : ∀ k, k < n → chkE c k = (((L.length + k : Nat) : Int), ((fn + L.length + k : Nat) : Int), (n : Int), (k : Int), 0, if k + 1 = n then ((cs.length + 1 : Nat) : Int) else 0) := fun k hk => by rw [← hcc, wideR_E hk]
    have hclen : c.1.length = n := by rw [← hcc, wideR_len]
    have hctk : ∀ k, k < n → c.1.take (k + 1) = c.1.take k ++ [((L.length + k : Nat) : Int)] := fun k hk => by rw [← hcc]; exact wideR_take hk
    refine wps_alloc fun x15 => ?_
    refine wps_stA (by simp) (by simp [Value.oneCell']) ?_
    refine wps_loop (fun s6 : Int × Int × Int => ex fun k : Nat => ex fun R : Rk => ex fun sl : Slc => pr (k ≤ n ∧ s6.1 = ((L.length + k : Nat) : Int) ∧ s6.2.1 = ((fn + L.length + k : Nat) : Int) ∧ s6.2.2 = (k : Int) ∧ FinR fn (L ++ (List.range k).map (chkE c)) R) * intsP s zs * bnk bb rb Q3 m0 * rackP rb R ds ps * segsP zw * own 3 st.2.2.1 (grC zw) * pc x15 [.int .i64 ((fn + L.length : Nat) : Int), .int .i64 ((cs.length + 1 : Nat) : Int), vS sl] * own 1 sl (zv (c.1.take k))) (fun s6 => (n - s6.2.2).toNat) ?_ fun s6 => ?_
    · refine ent_ex 0 (ent_ex R (ent_ex ⟨none, 0, 0⟩ (ent_own0 (z := 1) ?_)))
      rw [hseq]
      repeat (first
        | (with_reducible exact ent_drop)
        | (with_reducible refine ent_pick ?_)
        | (refine ent_pickC (by rfl) ?_)
        | (refine ent_pickS (by rfl) ?_)
        | (refine ent_pickM (by rfl) ?_)
        | (refine ent_prx ?_ ?_; rotate_left)
        | (refine ent_prq ?_))
      all_goals first | exact ⟨by omega, hseg, rfl, rfl, by simpa using hfin⟩ | trivial
    refine wps_ex fun k => wps_ex fun R => wps_ex fun sl => wps_prP fun ⟨hkn, hk1, hk2, hk3, hfk⟩ => ?_
    refine wps_fact (Ent.trans (RdS.rd (z := 1) (s := sl)) (rsl_len _ _ _)) fun hsl => ?_
    have hsl : sl.len ≤ 2 := by
      have h1 : (zv (c.1.take k)).length = sl.len * 1 := hsl
      simp [zv] at h1
      omega
    refine wps_ite (fun hc2 => ?_) (fun hc2 => ?_)
    · have hkl : k < n := by have := of_decide_eq_true hc2; omega
      have hsum := sum3 (n := n) (k := k) (r := cs.length + 1) (by omega) hkl (by omega)
      have hEk := hE k hkl
      have hs4 : s4Of (chkE c k) = ((n : Int), (k : Int), 0, if k + 1 = n then ((cs.length + 1 : Nat) : Int) else 0) := by rw [hEk]; rfl
      rw [← hs4] at hsum
      generalize hU : s4Of (chkE c k) = U at *
      refine wps_alloc fun x17 => ?_
      refine wps_stA (by simp) (by simp [Value.oneCell']) ?_
      refine wps_bindS (R := fun _ => emp * intsP s zs * bnk bb rb Q3 m0 * rackP rb R ds ps * segsP zw * own 3 st.2.2.1 (grC zw) * pc x15 [.int .i64 ((fn + L.length : Nat) : Int), .int .i64 ((cs.length + 1 : Nat) : Int), vS sl] * own 1 sl (zv (c.1.take k)) * pc x17 [.int .i64 U.1, .int .i64 U.2.1, .int .i64 U.2.2.1, .int .i64 U.2.2.2]) ?_ fun b7 => ?_
      · rw [hs4]
        refine wps_ite (fun he => ?_) (fun he => ?_)
        · have he : k + 1 = n := by have : s6.2.2 = (n : Int) - 1 := by simpa using he
                                    omega
          refine wps_ld ((cs.length + 1 : Nat) : Int) (by rfl) ?_
          refine wps_st (by show 3 < 4; decide) (wps_pure ?_)
          rw [if_pos he, hk3]
          exact Ent.of_eq rfl
        · have he : ¬ k + 1 = n := fun h => he (by simp; omega)
          refine wps_pure ?_
          rw [if_neg he, hk3]
          exact Ent.of_eq rfl
      refine wps_regionH ?_
      refine wps_ldAI (enc := fun y : S4 => [(.int .i64 y.1), (.int .i64 y.2.1), (.int .i64 y.2.2.1), (.int .i64 y.2.2.2)]) U (by rfl) ?_
      have hstep : ∀ (t : Slc) (x108 : Nat), FinR fn ((L ++ (List.range k).map (chkE c)) ++ [chkE c k]) (swrite Q3 m0 R s6.1 s6.2.1 [⟨65535, 0, t, sumData U⟩, ⟨1, 0, ⟨some ⟨x108, 0, none⟩, 1, 1⟩, [(cs.length : Int)]⟩]).1 ∧ (swrite Q3 m0 R s6.1 s6.2.1 [⟨65535, 0, t, sumData U⟩, ⟨1, 0, ⟨some ⟨x108, 0, none⟩, 1, 1⟩, [(cs.length : Int)]⟩]).2 = 0 := fun t x108 => by
        have hll : (L ++ (List.range k).map (chkE c)).length = L.length + k := by simp
        have hst := hfk.step (by rw [hll]; omega) hf1 hf2 (x := chkE c k) (by rw [hEk, hll]) (by rw [hEk, hll]; show ((fn + L.length + k : Nat) : Int) = _; rw [Nat.add_assoc]) (l := [⟨65535, 0, t, sumData U⟩, ⟨1, 0, ⟨some ⟨x108, 0, none⟩, 1, 1⟩, [(cs.length : Int)]⟩]) ⟨by simp, fun c' hc' => by
            have hs56 := (sum_round hsum).2.1
            simp only [List.mem_cons, List.not_mem_nil, or_false] at hc'
            rcases hc' with rfl | rfl
            · exact ⟨by show (sumData U).length ≤ 56; omega, by simp, by simp⟩
            · exact ⟨by simp, by simp, by simp⟩⟩ (fun c' hc' => by
            simp only [List.mem_cons, List.not_mem_nil, or_false] at hc'
            rcases hc' with rfl | rfl
            · exact (sum_round hsum).2.2
            · exact fun x hx => by simp at hx; omega) ⟨rfl, rfl, by rw [hU]; rfl⟩ (by rw [hU]; exact hsum)
        rw [hk1, hk2, ← hll, Nat.add_assoc, ← hll, hst.1]
        exact ⟨hst.2, rfl⟩
      have hbyt : IntKind.wrap .u8 st.2.2.2 = (cs.length : Int) := by
        rw [hi]
        simp only [IntKind.wrap, IntKind.bits, IntKind.signed]
        simp
        omega
      rw [hbyt]
      have hround := (sum_round hsum).2
      refine wps_both (wps_stepV law08_Small_val (wps_both ?_ ?_)) ?_
      · refine wps_step1 (put_ok hsum) fun x96 => ?_
        refine wps_stepAlloc fun x18 => ?_
        refine wps_prP fun ⟨hx1, hx2, hx3⟩ => ?_
        obtain ⟨⟨w1, w2, t⟩, ok⟩ := x96
        dsimp only at hx1 hx2 hx3
        subst hx1 hx2 hx3
        refine wps_stA (by simp) (by simp [Value.oneCell']) ?_
        refine wps_bind (R := fun q9 => ex fun R2 : Rk => pr (q9 = false ∧ FinR fn ((L ++ (List.range k).map (chkE c)) ++ [chkE c k]) R2) * (intsP s zs * bnk bb rb Q3 m0 * rackP rb R2 ds ps * segsP zw * own 3 st.2.2.1 (grC zw) * pc x15 [.int .i64 ((fn + L.length : Nat) : Int), .int .i64 ((cs.length + 1 : Nat) : Int), vS sl] * own 1 sl (zv (c.1.take k)))) ?_ fun q9 => ?_
        · refine wps_ite (fun h => absurd h (by simp)) (fun _ => ?_)
          refine wps_ldA (enc := fun y : (Int × Int × Slc) => [(.int .i64 y.1), (.int .i64 y.2.1), (.slice y.2.2.base y.2.2.len y.2.2.cap)]) (65535, 0, t) (by rfl) ?_
          refine wps_alloc fun x108 => ?_
          refine wps_alloc fun x110 => ?_
          have hst := hstep t x108
          have hfb := fin_blocks (t := t) (D := sumData U) (x := x108) (y := x110) (b := (cs.length : Int)) ⟨hround.2, hround.1⟩ (by omega)
          have hbl : ∀ c' ∈ [(⟨65535, 0, t, sumData U⟩ : BlkA), ⟨1, 0, ⟨some ⟨x108, 0, none⟩, 1, 1⟩, [(cs.length : Int)]⟩], Byts c'.data := fun c' hc' => by
            simp only [List.mem_cons, List.not_mem_nil, or_false] at hc'
            rcases hc' with rfl | rfl
            · exact hround.2
            · exact fun x hx => by simp at hx; omega
          refine wps_pre (H' := (intsP s zs * segsP zw * own 3 st.2.2.1 (grC zw) * pc x15 [.int .i64 ((fn + L.length : Nat) : Int), .int .i64 ((cs.length + 1 : Nat) : Int), vS sl] * own 1 sl (zv (c.1.take k))) * (blocksP ⟨some ⟨x110, 0, none⟩, 2, 2⟩ [⟨65535, 0, t, sumData U⟩, ⟨1, 0, ⟨some ⟨x108, 0, none⟩, 1, 1⟩, [(cs.length : Int)]⟩] * bnk bb rb Q3 m0 * rackP rb R ds ps)) ?_ ?_
          · refine Ent.trans (B := (intsP s zs * segsP zw * own 3 st.2.2.1 (grC zw) * pc x15 [.int .i64 ((fn + L.length : Nat) : Int), .int .i64 ((cs.length + 1 : Nat) : Int), vS sl] * own 1 sl (zv (c.1.take k)) * bnk bb rb Q3 m0 * rackP rb R ds ps) * (own 1 t (bv (sumData U)) * pc x108 [.int .u8 (cs.length : Int)] * pc x110 [.int .i64 65535, .int .i64 0, .slice t.base t.len t.cap, .int .i64 1, .int .i64 0, .slice (some ⟨x108, 0, none⟩) 1 1])) ?_ ?_
            · simp only [← star_assoc]
              repeat (first
                | (with_reducible exact ent_drop)
                | (with_reducible refine ent_pick ?_)
                | (refine ent_pickC (by rfl) ?_)
                | (refine ent_pickS (by rfl) ?_)
                | (refine ent_pickM (by rfl) ?_)
                | (refine ent_prx ?_ ?_; rotate_left)
                | (refine ent_prq ?_))
            · refine Ent.trans (Ent.starr (Ent.trans (Ent.starl (Ent.starl (own_rsl _ _ _))) hfb)) ?_
              simp only [← star_assoc]
              repeat (first
                | (with_reducible exact ent_drop)
                | (with_reducible refine ent_pick ?_)
                | (refine ent_pickC (by rfl) ?_)
                | (refine ent_pickS (by rfl) ?_)
                | (refine ent_pickM (by rfl) ?_)
                | (refine ent_prx ?_ ?_; rotate_left)
                | (refine ent_prq ?_))
          generalize [(⟨65535, 0, t, sumData U⟩ : BlkA), ⟨1, 0, ⟨some ⟨x108, 0, none⟩, 1, 1⟩, [(cs.length : Int)]⟩] = l at *
          refine wps_bind (wps_framel fun g2 => stripe_Write_spec hcr bb rb Q3 m0 (by decide) R ds ps s6.1 s6.2.1 _ l hbl) fun e => ?_
          simp only [← star_assoc]
          refine wps_prP fun he => ?_
          rw [hst.2] at he
          have hq9 : (e != 0) = false := by rw [he]; rfl
          refine wps_pure (ent_ex (swrite Q3 m0 R s6.1 s6.2.1 l).1 ?_)
          repeat (first
            | (with_reducible exact ent_drop)
            | (with_reducible refine ent_pick ?_)
            | (refine ent_pickC (by rfl) ?_)
            | (refine ent_pickS (by rfl) ?_)
            | (refine ent_pickM (by rfl) ?_)
            | (refine ent_prx ?_ ?_; rotate_left)
            | (refine ent_prq ?_))
          all_goals first | exact ⟨hq9, hst.1⟩ | trivial
        refine wps_ex fun R2 => wps_pr fun ⟨hq9, hF⟩ => ?_
        subst hq9
        refine wps_ite (fun h => absurd h (by decide)) (fun _ => ?_)
        refine wps_ld (enc := vS) sl (by rfl) ?_
        refine wps_append1 1 rfl (by decide) rfl (PickS.eq (z := 1) (s := sl)) (by simp [Value.oneCell']) (by omega) fun s' hs' => ?_
        refine wps_st (by show 2 < 3; decide) (wps_pure ?_)
        refine ent_prr (by dsimp only; rw [range_add1 hk3 (by omega)]; omega) (ent_ex (k + 1) (ent_ex R2 (ent_ex s' ?_)))
        rw [hctk k hkl, show zv (c.1.take k ++ [((L.length + k : Nat) : Int)]) = zv (c.1.take k) ++ [.int .i64 s6.1] by rw [hk1]; simp [zv]]
        show Ent _ (_ * _ * _ * _ * _ * _ * pc x15 ([.int .i64 ((fn + L.length : Nat) : Int), .int .i64 ((cs.length + 1 : Nat) : Int), vS sl].set 2 (vS s')) * _)
        repeat (first
          | (with_reducible exact ent_drop)
          | (with_reducible refine ent_pick ?_)
          | (refine ent_pickC (by rfl) ?_)
          | (refine ent_pickS (by rfl) ?_)
          | (refine ent_pickM (by rfl) ?_)
          | (refine ent_prx ?_ ?_; rotate_left)
          | (refine ent_prq ?_))
        all_goals first | exact ⟨by omega, by dsimp only; rw [hk1, w64_id] <;> omega, by dsimp only; rw [hk2, w64_id] <;> omega, range_add1 hk3 (by omega), by rw [List.range_succ, List.map_append, ← List.append_assoc]; exact hF⟩ | trivial
      · refine wps_stepAlloc fun x18 => ?_
        refine wps_step1 (put_ok hsum) fun x96 => ?_
        refine wps_prP fun ⟨hx1, hx2, hx3⟩ => ?_
        obtain ⟨⟨w1, w2, t⟩, ok⟩ := x96
        dsimp only at hx1 hx2 hx3
        subst hx1 hx2 hx3
        refine wps_stA (by simp) (by simp [Value.oneCell']) ?_
        refine wps_bind (R := fun q9 => ex fun R2 : Rk => pr (q9 = false ∧ FinR fn ((L ++ (List.range k).map (chkE c)) ++ [chkE c k]) R2) * (intsP s zs * bnk bb rb Q3 m0 * rackP rb R2 ds ps * segsP zw * own 3 st.2.2.1 (grC zw) * pc x15 [.int .i64 ((fn + L.length : Nat) : Int), .int .i64 ((cs.length + 1 : Nat) : Int), vS sl] * own 1 sl (zv (c.1.take k)))) ?_ fun q9 => ?_
        · refine wps_ite (fun h => absurd h (by simp)) (fun _ => ?_)
          refine wps_ldA (enc := fun y : (Int × Int × Slc) => [(.int .i64 y.1), (.int .i64 y.2.1), (.slice y.2.2.base y.2.2.len y.2.2.cap)]) (65535, 0, t) (by rfl) ?_
          refine wps_alloc fun x108 => ?_
          refine wps_alloc fun x110 => ?_
          have hst := hstep t x108
          have hfb := fin_blocks (t := t) (D := sumData U) (x := x108) (y := x110) (b := (cs.length : Int)) ⟨hround.2, hround.1⟩ (by omega)
          have hbl : ∀ c' ∈ [(⟨65535, 0, t, sumData U⟩ : BlkA), ⟨1, 0, ⟨some ⟨x108, 0, none⟩, 1, 1⟩, [(cs.length : Int)]⟩], Byts c'.data := fun c' hc' => by
            simp only [List.mem_cons, List.not_mem_nil, or_false] at hc'
            rcases hc' with rfl | rfl
            · exact hround.2
            · exact fun x hx => by simp at hx; omega
          refine wps_pre (H' := (intsP s zs * segsP zw * own 3 st.2.2.1 (grC zw) * pc x15 [.int .i64 ((fn + L.length : Nat) : Int), .int .i64 ((cs.length + 1 : Nat) : Int), vS sl] * own 1 sl (zv (c.1.take k))) * (blocksP ⟨some ⟨x110, 0, none⟩, 2, 2⟩ [⟨65535, 0, t, sumData U⟩, ⟨1, 0, ⟨some ⟨x108, 0, none⟩, 1, 1⟩, [(cs.length : Int)]⟩] * bnk bb rb Q3 m0 * rackP rb R ds ps)) ?_ ?_
          · refine Ent.trans (B := (intsP s zs * segsP zw * own 3 st.2.2.1 (grC zw) * pc x15 [.int .i64 ((fn + L.length : Nat) : Int), .int .i64 ((cs.length + 1 : Nat) : Int), vS sl] * own 1 sl (zv (c.1.take k)) * bnk bb rb Q3 m0 * rackP rb R ds ps) * (own 1 t (bv (sumData U)) * pc x108 [.int .u8 (cs.length : Int)] * pc x110 [.int .i64 65535, .int .i64 0, .slice t.base t.len t.cap, .int .i64 1, .int .i64 0, .slice (some ⟨x108, 0, none⟩) 1 1])) ?_ ?_
            · simp only [← star_assoc]
              repeat (first
                | (with_reducible exact ent_drop)
                | (with_reducible refine ent_pick ?_)
                | (refine ent_pickC (by rfl) ?_)
                | (refine ent_pickS (by rfl) ?_)
                | (refine ent_pickM (by rfl) ?_)
                | (refine ent_prx ?_ ?_; rotate_left)
                | (refine ent_prq ?_))
            · refine Ent.trans (Ent.starr (Ent.trans (Ent.starl (Ent.starl (own_rsl _ _ _))) hfb)) ?_
              simp only [← star_assoc]
              repeat (first
                | (with_reducible exact ent_drop)
                | (with_reducible refine ent_pick ?_)
                | (refine ent_pickC (by rfl) ?_)
                | (refine ent_pickS (by rfl) ?_)
                | (refine ent_pickM (by rfl) ?_)
                | (refine ent_prx ?_ ?_; rotate_left)
                | (refine ent_prq ?_))
          generalize [(⟨65535, 0, t, sumData U⟩ : BlkA), ⟨1, 0, ⟨some ⟨x108, 0, none⟩, 1, 1⟩, [(cs.length : Int)]⟩] = l at *
          refine wps_bind (wps_framel fun g2 => stripe_Write_spec hcr bb rb Q3 m0 (by decide) R ds ps s6.1 s6.2.1 _ l hbl) fun e => ?_
          simp only [← star_assoc]
          refine wps_prP fun he => ?_
          rw [hst.2] at he
          have hq9 : (e != 0) = false := by rw [he]; rfl
          refine wps_pure (ent_ex (swrite Q3 m0 R s6.1 s6.2.1 l).1 ?_)
          repeat (first
            | (with_reducible exact ent_drop)
            | (with_reducible refine ent_pick ?_)
            | (refine ent_pickC (by rfl) ?_)
            | (refine ent_pickS (by rfl) ?_)
            | (refine ent_pickM (by rfl) ?_)
            | (refine ent_prx ?_ ?_; rotate_left)
            | (refine ent_prq ?_))
          all_goals first | exact ⟨hq9, hst.1⟩ | trivial
        refine wps_ex fun R2 => wps_pr fun ⟨hq9, hF⟩ => ?_
        subst hq9
        refine wps_ite (fun h => absurd h (by decide)) (fun _ => ?_)
        refine wps_ld (enc := vS) sl (by rfl) ?_
        refine wps_append1 1 rfl (by decide) rfl (PickS.eq (z := 1) (s := sl)) (by simp [Value.oneCell']) (by omega) fun s' hs' => ?_
        refine wps_st (by show 2 < 3; decide) (wps_pure ?_)
        refine ent_prr (by dsimp only; rw [range_add1 hk3 (by omega)]; omega) (ent_ex (k + 1) (ent_ex R2 (ent_ex s' ?_)))
        rw [hctk k hkl, show zv (c.1.take k ++ [((L.length + k : Nat) : Int)]) = zv (c.1.take k) ++ [.int .i64 s6.1] by rw [hk1]; simp [zv]]
        show Ent _ (_ * _ * _ * _ * _ * _ * pc x15 ([.int .i64 ((fn + L.length : Nat) : Int), .int .i64 ((cs.length + 1 : Nat) : Int), vS sl].set 2 (vS s')) * _)
        repeat (first
          | (with_reducible exact ent_drop)
          | (with_reducible refine ent_pick ?_)
          | (refine ent_pickC (by rfl) ?_)
          | (refine ent_pickS (by rfl) ?_)
          | (refine ent_pickM (by rfl) ?_)
          | (refine ent_prx ?_ ?_; rotate_left)
          | (refine ent_prq ?_))
        all_goals first | exact ⟨by omega, by dsimp only; rw [hk1, w64_id] <;> omega, by dsimp only; rw [hk2, w64_id] <;> omega, range_add1 hk3 (by omega), by rw [List.range_succ, List.map_append, ← List.append_assoc]; exact hF⟩ | trivial
      · refine wps_stepAlloc fun x18 => ?_
        refine wps_stepV law08_Small_val ?_
        refine wps_step1 (put_ok hsum) fun x96 => ?_
        refine wps_prP fun ⟨hx1, hx2, hx3⟩ => ?_
        obtain ⟨⟨w1, w2, t⟩, ok⟩ := x96
        dsimp only at hx1 hx2 hx3
        subst hx1 hx2 hx3
        refine wps_stA (by simp) (by simp [Value.oneCell']) ?_
        refine wps_bind (R := fun q9 => ex fun R2 : Rk => pr (q9 = false ∧ FinR fn ((L ++ (List.range k).map (chkE c)) ++ [chkE c k]) R2) * (intsP s zs * bnk bb rb Q3 m0 * rackP rb R2 ds ps * segsP zw * own 3 st.2.2.1 (grC zw) * pc x15 [.int .i64 ((fn + L.length : Nat) : Int), .int .i64 ((cs.length + 1 : Nat) : Int), vS sl] * own 1 sl (zv (c.1.take k)))) ?_ fun q9 => ?_
        · refine wps_ite (fun h => absurd h (by simp)) (fun _ => ?_)
          refine wps_ldA (enc := fun y : (Int × Int × Slc) => [(.int .i64 y.1), (.int .i64 y.2.1), (.slice y.2.2.base y.2.2.len y.2.2.cap)]) (65535, 0, t) (by rfl) ?_
          refine wps_alloc fun x108 => ?_
          refine wps_alloc fun x110 => ?_
          have hst := hstep t x108
          have hfb := fin_blocks (t := t) (D := sumData U) (x := x108) (y := x110) (b := (cs.length : Int)) ⟨hround.2, hround.1⟩ (by omega)
          have hbl : ∀ c' ∈ [(⟨65535, 0, t, sumData U⟩ : BlkA), ⟨1, 0, ⟨some ⟨x108, 0, none⟩, 1, 1⟩, [(cs.length : Int)]⟩], Byts c'.data := fun c' hc' => by
            simp only [List.mem_cons, List.not_mem_nil, or_false] at hc'
            rcases hc' with rfl | rfl
            · exact hround.2
            · exact fun x hx => by simp at hx; omega
          refine wps_pre (H' := (intsP s zs * segsP zw * own 3 st.2.2.1 (grC zw) * pc x15 [.int .i64 ((fn + L.length : Nat) : Int), .int .i64 ((cs.length + 1 : Nat) : Int), vS sl] * own 1 sl (zv (c.1.take k))) * (blocksP ⟨some ⟨x110, 0, none⟩, 2, 2⟩ [⟨65535, 0, t, sumData U⟩, ⟨1, 0, ⟨some ⟨x108, 0, none⟩, 1, 1⟩, [(cs.length : Int)]⟩] * bnk bb rb Q3 m0 * rackP rb R ds ps)) ?_ ?_
          · refine Ent.trans (B := (intsP s zs * segsP zw * own 3 st.2.2.1 (grC zw) * pc x15 [.int .i64 ((fn + L.length : Nat) : Int), .int .i64 ((cs.length + 1 : Nat) : Int), vS sl] * own 1 sl (zv (c.1.take k)) * bnk bb rb Q3 m0 * rackP rb R ds ps) * (own 1 t (bv (sumData U)) * pc x108 [.int .u8 (cs.length : Int)] * pc x110 [.int .i64 65535, .int .i64 0, .slice t.base t.len t.cap, .int .i64 1, .int .i64 0, .slice (some ⟨x108, 0, none⟩) 1 1])) ?_ ?_
            · simp only [← star_assoc]
              repeat (first
                | (with_reducible exact ent_drop)
                | (with_reducible refine ent_pick ?_)
                | (refine ent_pickC (by rfl) ?_)
                | (refine ent_pickS (by rfl) ?_)
                | (refine ent_pickM (by rfl) ?_)
                | (refine ent_prx ?_ ?_; rotate_left)
                | (refine ent_prq ?_))
            · refine Ent.trans (Ent.starr (Ent.trans (Ent.starl (Ent.starl (own_rsl _ _ _))) hfb)) ?_
              simp only [← star_assoc]
              repeat (first
                | (with_reducible exact ent_drop)
                | (with_reducible refine ent_pick ?_)
                | (refine ent_pickC (by rfl) ?_)
                | (refine ent_pickS (by rfl) ?_)
                | (refine ent_pickM (by rfl) ?_)
                | (refine ent_prx ?_ ?_; rotate_left)
                | (refine ent_prq ?_))
          generalize [(⟨65535, 0, t, sumData U⟩ : BlkA), ⟨1, 0, ⟨some ⟨x108, 0, none⟩, 1, 1⟩, [(cs.length : Int)]⟩] = l at *
          refine wps_bind (wps_framel fun g2 => stripe_Write_spec hcr bb rb Q3 m0 (by decide) R ds ps s6.1 s6.2.1 _ l hbl) fun e => ?_
          simp only [← star_assoc]
          refine wps_prP fun he => ?_
          rw [hst.2] at he
          have hq9 : (e != 0) = false := by rw [he]; rfl
          refine wps_pure (ent_ex (swrite Q3 m0 R s6.1 s6.2.1 l).1 ?_)
          repeat (first
            | (with_reducible exact ent_drop)
            | (with_reducible refine ent_pick ?_)
            | (refine ent_pickC (by rfl) ?_)
            | (refine ent_pickS (by rfl) ?_)
            | (refine ent_pickM (by rfl) ?_)
            | (refine ent_prx ?_ ?_; rotate_left)
            | (refine ent_prq ?_))
          all_goals first | exact ⟨hq9, hst.1⟩ | trivial
        refine wps_ex fun R2 => wps_pr fun ⟨hq9, hF⟩ => ?_
        subst hq9
        refine wps_ite (fun h => absurd h (by decide)) (fun _ => ?_)
        refine wps_ld (enc := vS) sl (by rfl) ?_
        refine wps_append1 1 rfl (by decide) rfl (PickS.eq (z := 1) (s := sl)) (by simp [Value.oneCell']) (by omega) fun s' hs' => ?_
        refine wps_st (by show 2 < 3; decide) (wps_pure ?_)
        refine ent_prr (by dsimp only; rw [range_add1 hk3 (by omega)]; omega) (ent_ex (k + 1) (ent_ex R2 (ent_ex s' ?_)))
        rw [hctk k hkl, show zv (c.1.take k ++ [((L.length + k : Nat) : Int)]) = zv (c.1.take k) ++ [.int .i64 s6.1] by rw [hk1]; simp [zv]]
        show Ent _ (_ * _ * _ * _ * _ * _ * pc x15 ([.int .i64 ((fn + L.length : Nat) : Int), .int .i64 ((cs.length + 1 : Nat) : Int), vS sl].set 2 (vS s')) * _)
        repeat (first
          | (with_reducible exact ent_drop)
          | (with_reducible refine ent_pick ?_)
          | (refine ent_pickC (by rfl) ?_)
          | (refine ent_pickS (by rfl) ?_)
          | (refine ent_pickM (by rfl) ?_)
          | (refine ent_prx ?_ ?_; rotate_left)
          | (refine ent_prq ?_))
        all_goals first | exact ⟨by omega, by dsimp only; rw [hk1, w64_id] <;> omega, by dsimp only; rw [hk2, w64_id] <;> omega, range_add1 hk3 (by omega), by rw [List.range_succ, List.map_append, ← List.append_assoc]; exact hF⟩ | trivial
    · have hke : k = n := by
        have : ¬ s6.2.2 < (n : Int) := fun h => hc2 (decide_eq_true h)
        omega
      subst hke
      have hchk : chk c = (List.range k).map (chkE c) := by unfold chk; rw [hclen]
      have hfc : (cs ++ [c]).flatMap chk = L ++ chk c := by rw [List.flatMap_append, hL]; simp
      have hll : ((cs ++ [c]).flatMap chk).length = L.length + k := by rw [hfc, List.length_append, chk_len, hclen]
      have hgof : gOf c = (((fn + L.length : Nat) : Int), ((cs.length + 1 : Nat) : Int), c.1) := by rw [← hcc]; rfl
      have htk : c.1.take k = c.1 := List.take_of_length_le (by omega)
      rw [htk]
      refine wps_mapR ?_
      refine wps_ldA (enc := fun y : (Int × Int × Slc) => [(.int .i64 y.1), (.int .i64 y.2.1), (.slice y.2.2.base y.2.2.len y.2.2.cap)]) (((fn + L.length : Nat) : Int), ((cs.length + 1 : Nat) : Int), sl) (by rfl) ?_
      refine wps_append1 3 rfl (by decide) rfl (PickS.eq (z := 3) (s := st.2.2.1)) (by simp [Value.oneCell']) (by omega) fun s' hs' => ?_
      refine wps_pure ?_
      refine ent_prr (by dsimp only; rw [range_add1 hi (by omega)]; omega) (ent_ex (cs ++ [c]) (ent_ex (zw ++ [(gOf c, sl)]) (ent_ex R ?_)))
      have hgr : grC (zw ++ [(gOf c, sl)]) = grC zw ++ [.int .i64 ((fn + L.length : Nat) : Int), .int .i64 ((cs.length + 1 : Nat) : Int), .slice sl.base sl.len sl.cap] := by
        rw [hgof]; simp [grC, grRow, encG3, vS]
      rw [hgr]
      have hsg : Ent (segsP zw * own 1 sl (zv c.1)) (segsP (zw ++ [(gOf c, sl)])) := segsP_snoc (ent_left _ _) (Ent.trans (ent_right _ _) (by rw [hgof]; exact own_rsl _ _ _))
      refine Ent.trans (B := (intsP s zs * bnk bb rb Q3 m0 * rackP rb R ds ps * own 3 s' (grC zw ++ [.int .i64 ((fn + L.length : Nat) : Int), .int .i64 ((cs.length + 1 : Nat) : Int), .slice sl.base sl.len sl.cap])) * (segsP zw * own 1 sl (zv c.1))) ?_ ?_
      · simp only [← star_assoc]
        repeat (first
          | (with_reducible exact ent_drop)
          | (with_reducible refine ent_pick ?_)
          | (refine ent_pickC (by rfl) ?_)
          | (refine ent_pickS (by rfl) ?_)
          | (refine ent_pickM (by rfl) ?_)
          | (refine ent_prx ?_ ?_; rotate_left)
          | (refine ent_prq ?_))
      refine Ent.trans (Ent.starr hsg) ?_
      repeat (first
        | (with_reducible exact ent_drop)
        | (with_reducible refine ent_pick ?_)
        | (refine ent_pickC (by rfl) ?_)
        | (refine ent_pickS (by rfl) ?_)
        | (refine ent_pickM (by rfl) ?_)
        | (refine ent_prx ?_ ?_; rotate_left)
        | (refine ent_prq ?_))
      all_goals first | trivial | skip
      refine ⟨by rw [hfc, hchk]; exact hfk, ?_, ?_, ?_, ?_, ?_, fun c' hc' => ?_, fun c' hc' => ?_, ?_⟩
      · dsimp only; rw [hk1, hll]
      · dsimp only; rw [hk2, hll, Nat.add_assoc]
      · dsimp only; rw [range_add1 hi (by omega), List.length_append]; rfl
      · rw [List.length_append]; simp; omega
      · rw [List.map_append, List.map_append, hI.want]; rfl
      · rcases List.mem_append.1 hc' with h | h
        · exact hI.two c' h
        · rw [List.mem_singleton.1 h]; omega
      · rw [hll]
        rcases List.mem_append.1 hc' with h | h
        · have := htop c' h; omega
        · rw [List.mem_singleton.1 h, hclen, ← hcc]; show fn + L.length + k ≤ _; omega
      · rw [List.pairwise_append]
        refine ⟨hI.rise, by simp, fun a ha d hd => ?_⟩
        rw [List.mem_singleton.1 hd, ← hcc]
        exact htop a ha
  have hie : cs.length = zs.length := by
    have : ¬ st.2.2.2 < ((s.len : Nat) : Int) := fun h => hc (decide_eq_true h)
    omega
  have hfin := hI.fin
  have hlay : Lay cs := ⟨fun c hc => (hI.two c hc).1, hI.rise⟩
  have hisG := hlay.isG
  have hwant := hI.want
  have hlens : ∀ x ∈ cs, x.1.length ≤ 2 := fun x hx => (hI.two x hx).2
  generalize hL : cs.flatMap chk = L at *
  have h3 := bAnd_le fail 3 (by omega)
  generalize bAnd .i64 fail ((3 : Nat) : Int) = f at h3
  refine wps_mapR ?_
  refine wps_callH (A := rackP rb R ds ps) (fun _ => device_Rack_Doom_spec rb R ds ps f 0) fun _ => ?_
  simp only [← star_assoc]
  refine wps_prP fun _ => ?_
  refine wps_call2 (A1 := bnk bb rb Q3 m0) (A2 := rackP rb (R.doom f 0) ds ps) (fun _ => bank_Flush_spec hcd bb rb Q3 m0 (by decide) (R.doom f 0) ds ps) fun e => ?_
  simp only [← star_assoc]
  refine wps_prP fun he => ?_
  have hlost := hfin.lost (f := f) (by omega)
  rw [hlost.1] at he
  subst he
  refine wps_ite (fun h => absurd h (by decide)) (fun _ => ?_)
  have hlr := hlost.2
  generalize (flushL (disksL Q3 m0) (R.doom f 0)).1 = R3 at *
  refine wps_call2 (A1 := bnk bb rb Q3 m0) (A2 := rackP rb R3 ds ps) (fun _ => scan_Look_spec hcd hcr bb rb Q3 m0 (by decide) R3 hlr.bys ds ps) fun x => ?_
  simp only [← star_assoc]
  refine wps_prP fun hx => ?_
  have hL12 : L.length ≤ 12 := by omega
  have hlx : lookX Q3 m0 R3 = (L, if L.length = 0 then 0 else ((fn + L.length - 1 : Nat) : Int), 0) := by
    unfold lookX
    rw [if_neg (by simp [hlr.set.off])]
    show (infosL Q3 m0 R3 12, mostL Q3 m0 R3 12, (0 : Int)) = _
    rw [hlr.infos12 hL12, hlr.most hL12]
  rw [hlx] at hx ⊢
  obtain ⟨xs, xm, xe⟩ := x
  dsimp only at hx
  cases hx
  refine wps_val (v := false) (wps_ite (fun h => absurd h (by simp)) (fun _ => wps_val (v := false) (wps_ite (fun h => wps_pure (ent_val ?_)) (fun _ => wps_pure (ent_val rfl))) (wps_pure (ent_val rfl)))) ?_
  · have hpos : ((s.len : Nat) : Int) > 0 := of_decide_eq_true h
    rw [if_neg (by omega), hI.seq, hL, w64_id (by omega) (by omega)]
    simp; omega
  refine wps_val (v := false) (wps_ite (fun h => absurd h (by simp)) (fun _ => wps_val (v := false) (wps_ite (fun h => wps_pure (ent_val ?_)) (fun _ => wps_pure (ent_val rfl))) (wps_pure (ent_val rfl)))) ?_
  · have hz : s.len = 0 := by simpa using h
    rw [if_pos (by omega)]; rfl
  refine wps_ite (fun h => absurd h (by decide)) (fun _ => ?_)
  refine wps_pre (H' := segsP zw * rsl 3 st.2.2.1 (grC zw) * infosP xs L) ?_ ?_
  · refine Ent.trans (B := segsP zw * own 3 st.2.2.1 (grC zw) * own 6 xs (L.flatMap encI6)) ?_ ?_
    · repeat (first
        | (with_reducible exact ent_drop)
        | (with_reducible refine ent_pick ?_)
        | (refine ent_pickC (by rfl) ?_)
        | (refine ent_pickS (by rfl) ?_)
        | (refine ent_pickM (by rfl) ?_)
        | (refine ent_prx ?_ ?_; rotate_left)
        | (refine ent_prq ?_))
    · refine Ent.star (Ent.starr (own_rsl _ _ _)) (Ent.trans (own_rsl _ _ _) (ent_prr (p := ∀ x ∈ L, I6.seq x < 9223372036854775808) (fun x hx => ?_) (Ent.refl _)))
      obtain ⟨j, hj⟩ := List.mem_iff_getElem?.1 hx
      have hjl := (List.getElem?_eq_some_iff.1 hj).1
      have := (hlr.ats j x hj).2.1
      show x.2.1 < _
      omega
  refine wps_callH (A := infosP xs L) (fun g2 => scan_Groups_read xs L _ hisG (by omega)) fun x164 => ?_
  unfold groupsR
  refine wps_exP fun zc => wps_prP fun hzc => ?_
  have hzcl : zc.length = cs.length := by have := congrArg List.length hzc; simpa using this
  refine wps_val (law08_same_val (za := zc) (zb := zw) (Has.get (A := segsP zc)) (RdS.rd (z := 3) (s := x164)) (Has.get (A := segsP zw)) (RdS.rd (z := 3) (s := st.2.2.1)) (by omega) fun z hz => ?_) (wps_pure fun o ho => ?_)
  · have h1 : z.1 ∈ cs.map gOf := by rw [← hzc]; exact List.mem_map_of_mem hz
    obtain ⟨c, hc, he⟩ := List.mem_map.1 h1
    have := hlens c hc
    rw [← he]
    show c.1.length < _
    omega
  · show decide _ = true
    rw [decide_eq_true_eq, hzc, hwant]
end Go.Proofs.Ytldmeimebebllaa
namespace Go.Mo
open Go.RowKit
set_option linter.unusedVariables false
def full (W : World) : Hp := fun i => (W.heap[i]?).map fun ob => (ob, true)
def fullF (W : World) : Fr := ⟨full W, W.os, W.output⟩
theorem full_own (W : World) : Own W (full W) (fullF W) := by
  have hok : Hp.ok (full W) W := fun x ob r h => by
    simp only [full, Option.map_eq_some_iff, Prod.mk.injEq] at h
    obtain ⟨ob', h, rfl, _⟩ := h
    exact h
  refine ⟨fun x => ?_, hok, hok, rfl, rfl⟩
  cases h : full W x with
  | none => exact .inl rfl
  | some p =>
    obtain ⟨ob, r⟩ := p
    right; right
    simp only [full, Option.map_eq_some_iff, Prod.mk.injEq] at h
    obtain ⟨ob', h, rfl, rfl⟩ := h
    exact ⟨ob', rfl, by simp [fullF, full, h]⟩
structure Kept (W w' : World) : Prop where
  frame : W.keptBut w' (fun _ => False)
  block : ∀ (i : Nat) ob, W.heap[i]? = some ob → w'.heap[i]? = some ob
theorem kept_of_own {W w' : World} {a : Hp} (h : Own w' a (fullF W)) : Kept W w' := by
  have hh : ∀ (i : Nat) ob, W.heap[i]? = some ob → w'.heap[i]? = some ob := fun i ob hi => h.2.2.1 i ob true (by simp [fullF, full, hi])
  refine ⟨⟨h.2.2.2.os, h.2.2.2.out, fun i hi => ?_⟩, hh⟩
  rw [hh i _ (Array.getElem?_eq_getElem hi), Array.getElem?_eq_getElem hi]
  cases W.heap[i] with
  | cells c t fr => exact ⟨rfl, rfl, rfl, fun _ _ => rfl⟩
  | map es clock => exact .inr ⟨rfl, rfl⟩
  | _ => rfl
theorem Kept.same {W w' : World} (h : Kept W w') {b : Nat} (hb : b < W.heap.size) : w'.heap[b]? = W.heap[b]? :=
  (h.block b _ (Array.getElem?_eq_getElem hb)).trans (Array.getElem?_eq_getElem hb).symm
open Go.ChangeShapes Go.WideShapes in
theorem post_of_kept {H : Type} {enc : TypeId × Value → H} {P : Program} {f : Func} {s : ChangeSpec} {apart fresh handsOn again : Bool} {W W' : World} {args : Array Value} {v : Value} {ds gs : List (DataW H)} {before pa pv : List MemPlace}
    (hW : DataW.Whole enc P f.params.toList s.vars apart W args.toList ds gs before)
    (hres : ∀ (b : Nat) (sp : Nat → Bool) (hd : Bool), DataW.TrodAll enc P W' b sp hd f.resultTypes.toList (v.resultList f.resultTypes.size) (s.fn H (ds ++ gs)).results [])
    (hargs : ∀ sp : Nat → Bool, (∀ p ∈ before, sp p.block = true) → DataW.TrodAll enc P W' 0 sp true f.params.toList args.toList (s.fn H (ds ++ gs)).args pa)
    (hvars : ∀ sp : Nat → Bool, (∀ p ∈ before, sp p.block = true) → DataW.TrodVars enc P W' sp s.vars (s.fn H (ds ++ gs)).vars pv)
    (hps : before = pa ++ pv) (hk : Kept W W')
    (hok : ∀ (j : Nat) (t : TypeId) (r : Value), f.resultTypes[j]? = some t → (v.resultList f.resultTypes.size)[j]? = some r → Value.okWide P W' .any 0 t r) :
    s.post enc P f apart fresh handsOn again W args v W' := by
  have hold : ∀ p ∈ before, (fun b => decide (b < W.heap.size)) p.block = true := fun p hp => by simpa using hW.lt p hp
  refine ⟨ds, gs, before, [], pa, pv, hW, hres _ _ _, hargs _ hold, hvars _ hold, World.keptBut_mono (fun p hp => hp.elim) hk.frame, fun _ => ?_⟩
  have hlt := hW.lt
  obtain ⟨_, _, _, _, _, hz, hn⟩ := hW
  refine ⟨hok, _, _, ([] ++ pa) ++ pv, ⟨[] ++ pa, pv, trodAll_append (hargs _ (fun _ _ => rfl)) (hres _ _ _), hvars _ (fun _ _ => rfl), rfl, ?_, ?_⟩, ?_⟩
  · intro b off hp
    have hp' : MemPlace.cell b off ∈ before := by rw [hps]; simpa using hp
    have hb : b < W.heap.size := hlt _ hp'
    have := hz b off hp'
    unfold World.frozen? at this ⊢
    rw [show W'.heap[(⟨b, off, none⟩ : Addr).block]? = W.heap[(⟨b, off, none⟩ : Addr).block]? from hk.same hb]
    exact this
  · intro ha
    have := hn ha
    rw [hps] at this
    simpa using this
  · intro p hp _
    rw [hps]
    simpa using hp
theorem wps_run {m : M Bool} {H : HP} (h : ∀ g, wps g H m fun b => pr (b = true)) (W : World) (hH : H.p (full W)) : m (fun b w' => b = true ∧ Kept W w') W :=
  h (fullF W) W (full W) _ (full_own W) hH fun x w' a' ho hb => ⟨hb, kept_of_own ho⟩
theorem calls_law {P : Program} {f : FuncId} {args : Array Value} {W : World} (h : Calls P f args W (RetPost Value.bool fun b w' => b = true ∧ Kept W w')) : Calls P f args W fun e w' => e = .returned (.bool true) ∧ Kept W w' :=
  h.mono fun e w' he => by
    cases e with
    | returned v =>
      obtain ⟨b, rfl, rfl, hg⟩ := he
      exact ⟨rfl, hg⟩
    | panicked c => exact he.elim
    | outgrown => exact he.elim
theorem trodAll_carry {H : Type} {enc : TypeId × Value → H} {P : Program} {w w' : World} {base : Nat} {spare : Nat → Bool} {held : Bool} : ∀ {ts : List TypeId} {vs : List Value} {ds : List (DataW H)} {ps : List MemPlace},
    DataW.TrodAll enc P w base spare held ts vs ds ps → (∀ p ∈ ps, w.sameAt w' p) → DataW.TrodAll enc P w' base spare held ts vs ds ps
  | [], [], [], _, h, _ => h
  | _ :: _, _ :: _, _ :: _, _, ⟨p, q, ⟨n, h1⟩, h2, e⟩, hs => ⟨p, q, ⟨n, DataW.trod_carry n _ _ _ h1 fun x hx => hs x (by rw [e]; exact List.mem_append_left _ hx)⟩,
      trodAll_carry h2 (fun x hx => hs x (by rw [e]; exact List.mem_append_right _ hx)), e⟩
theorem args_again {H : Type} {enc : TypeId × Value → H} {P : Program} {W W' : World} (hg : Kept W W') (kids : Kids P (· < P.types.size)) (fulls : ∀ t e, t < P.types.size → P.underlying t = some (.slice e) → 0 < P.cellsOf e)
    {ts : List TypeId} (hts : ∀ t ∈ ts, t < P.types.size) {vs : List Value} {ds : List (DataW H)} {ps : List MemPlace} (h : DataW.TrodAll enc P W 0 (fun _ => true) true ts vs ds ps) {sp : Nat → Bool} (hs : ∀ p ∈ ps, sp p.block = true) (hlt : ∀ p ∈ ps, p.block < W.heap.size) :
    DataW.TrodAll enc P W' 0 sp true ts vs ds ps :=
  trodAll_carry (DataW.TrodAll.respare kids fulls hts h hs) fun p hp => by
    have hb := hlt p hp
    have he := hg.same hb
    cases p with
    | cell b o => simp only [World.sameAt, World.cell?]; rw [show W'.heap[b]? = W.heap[b]? from he]
    | map b => exact he
end Go.Mo
namespace Go.Proofs.Ytldmeimebebllaa
open Go.Mo
set_option linter.unusedVariables false
theorem rsl_full {W : World} {a : Addr} {len cap : Nat} {cs : List Value} (hl : len ≤ cap) (hz : cs.length = len) (hc : ∀ i, i < len → W.cell? (a.add i) = cs[i]?) : (rsl 1 ⟨some a, len, cap⟩ cs).p (full W) := by
  by_cases h0 : len = 0
  · left
    exact ⟨h0, List.eq_nil_of_length_eq_zero (by omega)⟩
  · right
    have hc0 := hc 0 (by omega)
    have ha0 : a.add 0 = a := by simp [Addr.add]
    rw [ha0, List.getElem?_eq_getElem (by omega)] at hc0
    have hsp := World.cell?_spot hc0
    obtain ⟨b, off, sp⟩ := a
    simp only at hsp
    subst hsp
    unfold World.cell? at hc0
    cases hb : W.heap[b]? with
    | none => simp [hb] at hc0
    | some ob =>
      cases ob with
      | cells c e f =>
        refine ⟨⟨b, off, none⟩, c.toList, ent_prr (A := ro b c.toList) (B := ro b c.toList) ⟨rfl, by simpa using hz, hl, ?_⟩ (Ent.refl _) _ ⟨e, f, true, by simp [full, hb]⟩⟩
        apply List.ext_getElem?
        intro i
        simp only [Nat.mul_one]
        rw [List.getElem?_take]
        by_cases hi : i < len
        · rw [if_pos hi, List.getElem?_drop, ← hc i hi, Addr.add_mk]
          simp [World.cell?, hb]
        · rw [if_neg hi, List.getElem?_eq_none (by omega)]
      | _ => simp [hb] at hc0
end Go.Proofs.Ytldmeimebebllaa
namespace Go.Proofs.Ytldmeimebebllaa
open Go.Mo
set_option linter.unusedVariables false
theorem ints_full {W : World} {a : Addr} {len cap : Nat} {zs : List Int} (hl : len ≤ cap) (hz : zs.length = cap) (hc : ∀ i, i < zs.length → W.cell? (a.add i) = some (.int .i64 (zs.getD i 0))) : (intsP ⟨some a, len, cap⟩ (zs.take len)).p (full W) := by
  refine rsl_full hl (by simp [zv]; omega) fun i hi => ?_
  rw [hc i (by omega), zv, List.getElem?_map, List.getElem?_take, if_pos hi, List.getElem?_eq_getElem (by omega)]
  simp [List.getD_eq_getElem?_getD, List.getElem?_eq_getElem (show i < zs.length by omega)]
theorem ints_full_nil (W : World) : (intsP ⟨none, 0, 0⟩ []).p (full W) := .inl ⟨rfl, rfl⟩
end Go.Proofs.Ytldmeimebebllaa
namespace Go.Proofs.Ytldmeimebebllaa
open Go.Mo Go.ChangeShapes Go.Deep 
set_option linter.unusedVariables false
section
variable {H : Type} {enc : TypeId × Value → H} {P : Program} {W : World} {base : Nat}
structure Flds (enc : TypeId × Value → H) (P : Program) (W : World) (base n : Nat) (fs : Array Field) (cs : List Value) (xs : List (DataW H × List MemPlace)) : Prop where
  each : ∀ (i : Nat) (f : Field), fs[i]? = some f → DataW.trod enc P W base (fun _ => true) true n f.type ((cs.drop f.offset).take (P.cellsOf f.type)) = xs[i]?
  len : xs.length = fs.size
theorem one_of {cs : List Value} {o : Nat} {v : Value} (h : (cs.drop o).take 1 = [v]) : cs[o]? = some v := by
  have := congrArg (fun l => l[0]?) h
  simpa using this
theorem Flds.int {n : Nat} {fs : Array Field} {cs : List Value} {xs : List (DataW H × List MemPlace)} (h : Flds enc P W base n fs cs xs) (i : Nat) {f : Field} (hf : fs[i]? = some f) (hu : P.underlying f.type = some (.int .i64)) (hc : P.cellsOf f.type = 1) :
    ∃ q : Int, cs[f.offset]? = some (.int .i64 q) ∧ (Lit.int .i64 q).wf = true := by
  have h1 := h.each i f hf
  rw [hc] at h1
  have hi : i < xs.length := by rw [h.len]; exact (Array.getElem?_eq_some_iff.1 hf).1
  rw [List.getElem?_eq_getElem hi] at h1
  obtain ⟨q, hq, _, hw⟩ := DataW.trod_int hu h1
  exact ⟨q, one_of hq, hw⟩
theorem Flds.slice {n : Nat} {fs : Array Field} {cs : List Value} {xs : List (DataW H × List MemPlace)} (h : Flds enc P W base n fs cs xs) (i : Nat) {f : Field} (hf : fs[i]? = some f) {e : TypeId} {k : IntKind} (hu : P.underlying f.type = some (.slice e)) (hc : P.cellsOf f.type = 1)
    (he : P.underlying e = some (.int k)) (hce : P.cellsOf e = 1) (hbe : 0 < P.bytesOf e) (hw : ∀ y, xs[i]? = some y → ∀ q ∈ y.1.weights P f.type, q ≤ reachBytes) :
    ∃ (s : Slc) (b : List Int), cs[f.offset]? = some (.slice s.base s.len s.cap) ∧ (rsl 1 s (b.map (Value.int k))).p (full W) ∧ (∀ q ∈ b, (Lit.int k q).wf = true) ∧ b.length ≤ 140737488355328 := by
  have h1 := h.each i f hf
  rw [hc] at h1
  have hi : i < xs.length := by rw [h.len]; exact (Array.getElem?_eq_some_iff.1 hf).1
  rw [List.getElem?_eq_getElem hi] at h1
  have hwi := hw _ (List.getElem?_eq_getElem hi)
  rcases open_ints hu he hce h1 with ⟨hcs, hx⟩ | ⟨a, len, cap, zs, hcs, hba, hle, hcap, hzl, hx, hcell, hwf⟩
  · exact ⟨⟨none, 0, 0⟩, [], one_of hcs, .inl ⟨rfl, rfl⟩, by simp, by simp⟩
  · have hzl' : zs.length = cap := by simpa using hzl
    refine ⟨⟨some a, len, cap⟩, zs.take len, one_of hcs, ?_, fun q hq => hwf q (List.mem_of_mem_take hq), ?_⟩
    · refine rsl_full hle (by simp; omega) fun j hj => ?_
      rw [hcell j (by omega), List.getElem?_map, List.getElem?_take, if_pos hj, List.getElem?_eq_getElem (by omega)]
      simp [List.getD_eq_getElem?_getD, List.getElem?_eq_getElem (show j < zs.length by omega)]
    · rw [hx] at hwi
      have := hwi (((lits (H := H) k (zs.take len)).length + (lits (H := H) k (zs.drop len)).length) * P.bytesOf e) (by simp [DataW.weights, hu])
      have h2 : reachBytes = 140737488351232 := rfl
      have h3 : (lits (H := H) k (zs.take len)).length + (lits (H := H) k (zs.drop len)).length = zs.length := by simp [lits]; omega
      rw [h3] at this
      have h4 : zs.length * 1 ≤ zs.length * P.bytesOf e := Nat.mul_le_mul_left _ hbe
      simp only [List.length_take]; omega
instance : Inhabited CallA := ⟨⟨0, 0, 0, ⟨none, 0, 0⟩, [], ⟨none, 0, 0⟩, []⟩⟩
end
end Go.Proofs.Ytldmeimebebllaa
namespace Go.Proofs.Ytldmeimebebllaa
open Go.Mo Go.ChangeShapes Go.Deep 
set_option linter.unusedVariables false
section
variable {H : Type} {enc : TypeId × Value → H} {P : Program} {W : World} {base : Nat}
theorem Flds.g3 {n : Nat} {fs : Array Field} {cs : List Value} {xs : List (DataW H × List MemPlace)} (h : Flds enc P W base n fs cs xs) (i : Nat) {f k0 k1 k2 : Field} (hf : fs[i]? = some f) (hu : P.underlying f.type = some (.struct #[k0, k1, k2])) (hc : P.cellsOf f.type = 3)
    (ho : k0.offset = 0 ∧ k1.offset = 1 ∧ k2.offset = 2) (hk : P.cellsOf k0.type = 1 ∧ P.cellsOf k1.type = 1 ∧ P.cellsOf k2.type = 1) (hi : P.underlying k0.type = some (.int .i64) ∧ P.underlying k1.type = some (.int .i64) ∧ P.underlying k2.type = some (.int .i64)) :
    ∃ q : Int × Int × Int, cs[f.offset]? = some (.int .i64 q.1) ∧ cs[f.offset + 1]? = some (.int .i64 q.2.1) ∧ cs[f.offset + 2]? = some (.int .i64 q.2.2) := by
  have h1 := h.each i f hf
  rw [hc] at h1
  have hlt : i < xs.length := by rw [h.len]; exact (Array.getElem?_eq_some_iff.1 hf).1
  rw [List.getElem?_eq_getElem hlt] at h1
  obtain ⟨ys, n', _, hx, hl, hyl, hf'⟩ := DataW.trod_struct hu h1
  have F : Flds enc P W base n' #[k0, k1, k2] ((cs.drop f.offset).take 3) ys := ⟨hf', hyl⟩
  obtain ⟨q0, a0, _⟩ := F.int 0 (f := k0) rfl hi.1 hk.1
  obtain ⟨q1, a1, _⟩ := F.int 1 (f := k1) rfl hi.2.1 hk.2.1
  obtain ⟨q2, a2, _⟩ := F.int 2 (f := k2) rfl hi.2.2 hk.2.2
  rw [ho.1] at a0
  rw [ho.2.1] at a1
  rw [ho.2.2] at a2
  rw [List.getElem?_take, if_pos (by omega), List.getElem?_drop] at a0 a1 a2
  exact ⟨(q0, q1, q2), a0, a1, a2⟩
instance : Inhabited CallB := ⟨⟨0, 0, 0, ⟨none, 0, 0⟩, [], (0, 0, 0)⟩⟩
end
end Go.Proofs.Ytldmeimebebllaa
