/-
  a part of the proof: what functions of the program do, in a separation logic.
-/
import Derived.Test.YtldmeimebebllaaCalm
namespace Go.Proofs.Ytldmeimebebllaa
open Go.Mo
set_option linter.unusedVariables false
variable {g : Fr} {cv : CV}
theorem rows_len (t : Slc) (l : List (List Int)) : Ent (rows t l) (pr (t.len = l.length)) := ex_ent fun sl o ho => (ent_left _ _ o (ent_left _ _ o ho)).2
theorem spare_pure {slot s : Int} {b : List Int} (h0 : 0 ≤ slot ∧ slot ≤ 2) : True := trivial
theorem law06_BankSpare_spec (hcv : DisksOk cv) (slot s : Int) (d : Slc) (b : List Int) (state : Int) : wps g (byt d b) (law06_BankSpare cv slot s d state) (fun r => pr (r = true)) := by
  unfold law06_BankSpare
  refine wps_callE (fun _ => law06_alive_spec) fun x => ?_
  refine wps_prP fun hx => ?_
  subst hx
  refine wps_fact (len_of (H := byt d b) (Ent.refl _)) fun hlen => ?_
  refine wps_ite (fun h => absurd h (by decide)) (fun _ => ?_)
  repeat (first
    | (with_reducible refine wps_bindpure ?_)
    | (with_reducible refine wps_assoc ?_)
    | (with_reducible refine wps_nil ?_)
    | (with_reducible refine wps_stepAlloc fun _ => ?_)
    | (with_reducible refine wps_alloc fun _ => ?_)
    | (with_reducible refine wps_newO fun _ => ?_)
    | (refine wps_ld _ (by rfl) ?_)
    | (refine wps_ldG _ _ _ (by rfl) ?_)
    | (refine wps_ldA _ (by rfl) ?_)
    | (refine wps_ldI _ (by rfl) ?_)
    | (refine wps_ldGI _ _ _ (by rfl) ?_)
    | (refine wps_ldAI _ (by rfl) ?_)
    | (refine wps_st (by simp) ?_)
    | (refine wps_stA (by simp) (by simp [Value.oneCell']) ?_)
    | ((with_reducible apply wps_val); apply val_ite; rotate_left; refine fun (_ : ¬ _) => ?_; rotate_right; refine fun (_ : _ = true) => ?_)
    | ((with_reducible apply val_ite); rotate_left; refine fun (_ : ¬ _) => ?_; rotate_right; refine fun (_ : _ = true) => ?_)
    | (with_reducible refine wps_regionH ?_)
    | ((with_reducible apply wps_bindV); apply val_iteL; rotate_left; refine fun (_ : ¬ _) => ?_; rotate_right; refine fun (_ : _ = true) => ?_)
    | ((with_reducible apply val_iteL); rotate_left; refine fun (_ : ¬ _) => ?_; rotate_right; refine fun (_ : _ = true) => ?_)
    | (with_reducible exact wps_pure (ent_val rfl)))
  refine wps_ite (fun _ => wps_pure (ent_prq rfl)) (fun hd => ?_)
  have hd1 : ((d.len : Int) = 64) ∧ 0 ≤ slot ∧ slot ≤ 2 ∧ 0 ≤ s ∧ s < 41 ∧ 1 ≤ state ∧ state ≤ 2 := by
    by_cases a1 : (d.len : Int) = 64
    · by_cases a2 : slot < 0
      · simp [a1, a2] at hd
      · by_cases a3 : slot > 2
        · simp [a1, a2, a3] at hd
        · by_cases a4 : s < 0
          · simp [a1, a2, a3, a4] at hd
          · by_cases a5 : s ≥ 41
            · simp [a1, a2, a3, a4, a5] at hd
            · by_cases a6 : state < 1
              · simp [a1, a2, a3, a4, a5, a6] at hd
              · by_cases a7 : state > 2
                · simp [a1, a2, a3, a4, a5, a6, a7] at hd
                · omega
    · simp [a1] at hd
  obtain ⟨hl, hs0, hs2, hc0, hc41, ht1, ht2⟩ := hd1
  have hb64 : b.length = 64 := by omega
  repeat (first
    | (with_reducible refine wps_val (law06_Small_val) ?_)
    | (with_reducible refine wps_stepV (law06_Small_val) ?_)
    | (with_reducible refine wps_val (geo_Sectors_val _) ?_)
    | (with_reducible refine wps_stepV (geo_Sectors_val _) ?_)
    | (with_reducible refine wps_bindpure ?_)
    | (with_reducible refine wps_assoc ?_)
    | (with_reducible refine wps_nil ?_)
    | (with_reducible refine wps_stepAlloc fun _ => ?_)
    | (with_reducible refine wps_alloc fun _ => ?_)
    | (with_reducible refine wps_newO fun _ => ?_)
    | (refine wps_ld _ (by rfl) ?_)
    | (refine wps_ldG _ _ _ (by rfl) ?_)
    | (refine wps_ldA _ (by rfl) ?_)
    | (refine wps_ldI _ (by rfl) ?_)
    | (refine wps_ldGI _ _ _ (by rfl) ?_)
    | (refine wps_ldAI _ (by rfl) ?_)
    | (refine wps_st (by simp) ?_)
    | (refine wps_stA (by simp) (by simp [Value.oneCell']) ?_)
    | ((with_reducible apply wps_val); apply val_ite; rotate_left; refine fun (_ : ¬ _) => ?_; rotate_right; refine fun (_ : _ = true) => ?_)
    | ((with_reducible apply val_ite); rotate_left; refine fun (_ : ¬ _) => ?_; rotate_right; refine fun (_ : _ = true) => ?_)
    | (with_reducible refine wps_regionH ?_)
    | ((with_reducible apply wps_bindV); apply val_iteL; rotate_left; refine fun (_ : ¬ _) => ?_; rotate_right; refine fun (_ : _ = true) => ?_)
    | ((with_reducible apply val_iteL); rotate_left; refine fun (_ : ¬ _) => ?_; rotate_right; refine fun (_ : _ = true) => ?_)
    | (with_reducible exact wps_pure (ent_val rfl)))
  rw [Small_sect]
  rename_i c9
  refine wps_callE (fun _ => device_New_spec 4 41) fun x => ?_
  rw [if_neg (by decide), show Rk.new (Int.toNat 4) (Int.toNat 41) = Rk.new 4 41 from rfl]
  refine wps_exP fun rb => ?_
  rw [← star_assoc]
  refine wps_prP fun hx => ?_
  subst hx
  unfold rack
  refine wps_exP fun ds => wps_exP fun ps => ?_
  repeat (first
    | (with_reducible refine wps_bindpure ?_)
    | (with_reducible refine wps_assoc ?_)
    | (with_reducible refine wps_nil ?_)
    | (with_reducible refine wps_stepAlloc fun _ => ?_)
    | (with_reducible refine wps_alloc fun _ => ?_)
    | (with_reducible refine wps_newO fun _ => ?_)
    | (refine wps_ld _ (by rfl) ?_)
    | (refine wps_ldG _ _ _ (by rfl) ?_)
    | (refine wps_ldA _ (by rfl) ?_)
    | (refine wps_ldI _ (by rfl) ?_)
    | (refine wps_ldGI _ _ _ (by rfl) ?_)
    | (refine wps_ldAI _ (by rfl) ?_)
    | (refine wps_st (by simp) ?_)
    | (refine wps_stA (by simp) (by simp [Value.oneCell']) ?_)
    | ((with_reducible apply wps_val); apply val_ite; rotate_left; refine fun (_ : ¬ _) => ?_; rotate_right; refine fun (_ : _ = true) => ?_)
    | ((with_reducible apply val_ite); rotate_left; refine fun (_ : ¬ _) => ?_; rotate_right; refine fun (_ : _ = true) => ?_)
    | (with_reducible refine wps_regionH ?_)
    | ((with_reducible apply wps_bindV); apply val_iteL; rotate_left; refine fun (_ : ¬ _) => ?_; rotate_right; refine fun (_ : _ = true) => ?_)
    | ((with_reducible apply val_iteL); rotate_left; refine fun (_ : ¬ _) => ?_; rotate_right; refine fun (_ : _ = true) => ?_)
    | (with_reducible exact wps_pure (ent_val rfl)))
  refine wps_callH (fun _ => bank_Open_spec rb (Rk.new 4 41) ds ps (3, 3, 12) (0, 0, 0)) fun x => ?_
  rw [if_pos (by decide)]
  refine wps_exP fun bb => ?_
  simp only [← star_assoc]
  refine wps_prP fun hx => ?_
  subst hx
  have hC0 : Calm (Rk.new 4 41) := Calm.new 4 41
  have hsr : 0 ≤ s ∧ s < ((Rk.new 4 41).ns : Int) := ⟨hc0, hc41⟩
  have hdl : disksL (3, 3, 12) (0, 0, 0) = [0, 1, 2, 3] := by decide
  have hev := hC0.every (s := s) (b := b) (xs := [0, 1, 2, 3]) (by decide) hsr hb64
  generalize hR1 : [0, 1, 2, 3].foldl (fun R d => R.put d s b) (Rk.new 4 41) = R1 at hev
  have hC1 : Calm R1 := by
    rw [← hR1]; exact (((hC0.put 0 s b).put 1 s b).put 2 s b).put 3 s b
  have hn1 : R1.n = 4 := by rw [← hR1]; rfl
  have hns1 : R1.ns = 41 := by rw [← hR1]; rfl
  have hsec1 : ∀ i : Nat, i < 4 → (R1.dk i).sec s = b := by
    intro i hi
    rw [← hR1]
    simp only [List.foldl, put_sec]
    have : i = 0 ∨ i = 1 ∨ i = 2 ∨ i = 3 := by omega
    rcases this with e | e | e | e <;> subst e <;> simp
  have hsr1 : 0 ≤ s ∧ s < (R1.ns : Int) := by rw [hns1]; exact ⟨hc0, hc41⟩
  refine wps_val (v := false) (wps_ite (fun h => absurd h (by simp)) (fun _ => wps_pure (ent_val (by simp)))) ?_
  refine wps_bite (fun h => absurd h (by simp)) (fun _ => wps_assoc ?_)
  refine wps_call (fun _ => bank_Everywhere_spec (H := byt d b) hcv bb rb (3, 3, 12) (0, 0, 0) (by decide) (Rk.new 4 41) ds ps s d b (Ent.refl _) (by omega)) (by rw [← star_assoc, ← star_assoc]; exact ent_pick (ent_pick (ent_pick (Ent.refl _)))) fun e => ?_
  rw [hdl, hev]
  simp only [← star_assoc]
  refine wps_prP fun he => ?_
  subst he
  refine wps_bindpure ?_
  refine wps_bite (fun h => absurd h (by simp)) (fun _ => wps_assoc ?_)
  refine wps_call (fun _ => bank_All_spec hcv bb rb (3, 3, 12) (0, 0, 0) (by decide) R1 ds ps s) (by rw [← star_assoc]; exact ent_pick (ent_pick (Ent.refl _))) fun t => ?_
  rw [hdl, ← star_assoc, ← star_assoc]
  refine wps_fact (Ent.trans (ent_right _ _) (rows_len _ _)) fun hl4 => ?_
  have hl4' : t.len = 4 := by rw [hl4, hC1.all_len (by rw [hn1]; decide) hsr1]; rfl
  refine wps_bindpure ?_
  rw [hl4']
  refine wps_ite (fun h => absurd h (by decide)) (fun _ => ?_)
  refine wps_loop (fun i => ex fun n : Nat => pr (i = (n : Int) ∧ n ≤ 4) * byt d b * bnk bb rb (3, 3, 12) (0, 0, 0) * rackP rb R1 ds ps) (fun i => (4 - i).toNat) ?_ fun i => ?_
  · refine ent_ex 0 (ent_pick (ent_pick (ent_pick ?_)))
    exact ent_prq ⟨rfl, by omega⟩
  · refine wps_ex fun n => wps_prP fun ⟨hi, hn⟩ => ?_
    refine wps_ite (fun hc => ?_) (fun hc => ?_)
    · have hlt : n < 4 := by simp only [decide_eq_true_eq] at hc; omega
      have hk : 0 ≤ i ∧ i < (R1.n : Int) := by rw [hn1]; omega
      refine wps_callH (fun _ => device_Rack_Read_spec rb R1 ds ps i s) fun x => ?_
      rw [hC1.rdErr hk hsr1, hC1.rd hk hsr1, hsec1 i.toNat (by omega)]
      simp only [← star_assoc]
      refine wps_prP fun hx => ?_
      rw [hx]
      refine wps_val (v := false) (wps_ite (fun h => absurd h (by simp)) (fun _ => ?_)) ?_
      · refine wps_val (ref00_SameBytes_val (x := b) (y := b) ?_ ?_ (by omega)) (wps_pure (ent_val (by simp)))
        · exact Ent.trans (ent_right _ _) (own_rsl _ _ _)
        · exact ent_drop
      · refine wps_ite (fun h => absurd h (by simp)) (fun _ => wps_pure ?_)
        refine ent_prr (by rw [range_add1 hi (by omega)]; omega) (ent_ex (n + 1) (ent_pick (ent_pick (ent_pick ?_))))
        exact ent_prq ⟨range_add1 hi (by omega), by omega⟩
    · refine wps_mapR ?_
      refine wps_callH (fun _ => bank_Join_spec bb rb (3, 3, 12) (0, 0, 0) (1, slot, state)) fun _ => ?_
      have hfit : FitsB (3, 3, 12) (1, slot, state) = true := by
        have : state = 1 ∨ state = 2 := by omega
        have hh : slot < 3 := by omega
        rcases this with e | e <;> subst e <;> simp [FitsB, hs0, hh]
      rw [if_pos hfit]
      repeat (first
        | (with_reducible refine wps_bindpure ?_)
        | (with_reducible refine wps_assoc ?_)
        | (with_reducible refine wps_nil ?_)
        | (with_reducible refine wps_stepAlloc fun _ => ?_)
        | (with_reducible refine wps_alloc fun _ => ?_)
        | (with_reducible refine wps_newO fun _ => ?_)
        | (refine wps_ld _ (by rfl) ?_)
        | (refine wps_ldG _ _ _ (by rfl) ?_)
        | (refine wps_ldA _ (by rfl) ?_)
        | (refine wps_ldI _ (by rfl) ?_)
        | (refine wps_ldGI _ _ _ (by rfl) ?_)
        | (refine wps_ldAI _ (by rfl) ?_)
        | (refine wps_st (by simp) ?_)
        | (refine wps_stA (by simp) (by simp [Value.oneCell']) ?_)
        | ((with_reducible apply wps_val); apply val_ite; rotate_left; refine fun (_ : ¬ _) => ?_; rotate_right; refine fun (_ : _ = true) => ?_)
        | ((with_reducible apply val_ite); rotate_left; refine fun (_ : ¬ _) => ?_; rotate_right; refine fun (_ : _ = true) => ?_)
        | (with_reducible refine wps_regionH ?_)
        | ((with_reducible apply wps_bindV); apply val_iteL; rotate_left; refine fun (_ : ¬ _) => ?_; rotate_right; refine fun (_ : _ = true) => ?_)
        | ((with_reducible apply val_iteL); rotate_left; refine fun (_ : ¬ _) => ?_; rotate_right; refine fun (_ : _ = true) => ?_)
        | (with_reducible exact wps_pure (ent_val rfl)))
      rename_i z
      have hsl : slotV (3, 3, 12) (1, slot, state) slot = (3, true) := by
        have h1 : ¬ (slot < 0 ∨ slot ≥ 3) := by omega
        have h2 : state ≠ 0 := by omega
        simp only [slotV]
        rw [if_neg h1, if_pos ⟨h2, trivial⟩]
      have h3 : (0 : Int) ≤ 3 ∧ (3 : Int) < (R1.n : Int) := by rw [hn1]; decide
      have hw := hC1.write (b := noughts) h3 hsr1 (by simp [noughts])
      refine wps_swap (A := pc z (List.replicate 64 (Value.int .u8 0))) (B := byt ⟨some ⟨z, 0, none⟩, 64, 64⟩ noughts) (Ent.trans (Ent.trans (pc_own (n := 64) (z := 1) (by simp)) (own_rsl _ _ _)) (Ent.of_eq (by rw [byt, bv_noughts]))) ?_
      refine wps_call (fun _ => bank_Write_spec (H := byt ⟨some ⟨z, 0, none⟩, 64, 64⟩ noughts) bb rb (3, 3, 12) (1, slot, state) R1 ds ps slot s _ noughts (Ent.refl _) (by decide)) (by rw [← star_assoc, ← star_assoc]; exact ent_pick (ent_pick (ent_pick (Ent.refl _)))) fun e => ?_
      simp only [hsl, if_true, hw.1, hw.2, ← star_assoc]
      refine wps_prP fun he => ?_
      subst he
      have hC2 : Calm (R1.put 3 s noughts) := hC1.put _ _ _
      have hn2 : (R1.put 3 s noughts).n = 4 := hn1
      have hsr2 : 0 ≤ s ∧ s < ((R1.put 3 s noughts).ns : Int) := hsr1
      have hst0 : ¬ state = 0 := by omega
      have hdl2 : disksL (3, 3, 12) (1, slot, state) = [0, 1, 2].map fun i : Nat => (slotV (3, 3, 12) (1, slot, state) i).1 := by
        simp only [disksL, if_neg hst0, List.append_nil]
        rfl
      have hsv : ∀ i : Nat, i < 3 → 0 ≤ (slotV (3, 3, 12) (1, slot, state) i).1 ∧ (slotV (3, 3, 12) (1, slot, state) i).1 < 4 := by
        intro i hi
        simp only [slotV]
        split
        · omega
        · split <;> omega
      have hdr : ∀ d ∈ disksL (3, 3, 12) (1, slot, state), 0 ≤ d ∧ d < ((R1.put 3 s noughts).n : Int) := by
        rw [hdl2, hn2]
        intro d hd
        simp only [List.mem_map] at hd
        obtain ⟨i, hi, rfl⟩ := hd
        exact hsv i (by simp at hi; omega)
      refine wps_bite (fun h => absurd h (by simp)) (fun _ => wps_assoc ?_)
      refine wps_call (fun _ => bank_All_spec hcv bb rb (3, 3, 12) (1, slot, state) (by decide) (R1.put 3 s noughts) ds ps s) (by rw [← star_assoc]; exact ent_pick (ent_pick (Ent.refl _))) fun t2 => ?_
      rw [← star_assoc, ← star_assoc]
      refine wps_fact (Ent.trans (ent_right _ _) (rows_len _ _)) fun hl3 => ?_
      have hl3' : t2.len = 3 := by rw [hl3, hC2.all_len hdr hsr2, hdl2]; rfl
      refine wps_bindpure ?_
      rw [hl3']
      refine wps_ite (fun h => absurd h (by decide)) (fun _ => ?_)
      have hks : 0 ≤ slot ∧ slot < ((R1.put 3 s noughts).n : Int) := by rw [hn2]; omega
      have hk3 : (0 : Int) ≤ 3 ∧ (3 : Int) < ((R1.put 3 s noughts).n : Int) := by rw [hn2]; decide
      have hr1 : (R1.put 3 s noughts).rd slot s = b := by
        rw [hC2.rd hks hsr2, put_sec, if_neg (by rintro ⟨h, _⟩; simp at h; omega)]
        exact hsec1 slot.toNat (by omega)
      have hr2 : (R1.put 3 s noughts).rd 3 s = noughts := by
        rw [hC2.rd hk3 hsr2, put_sec, if_pos ⟨rfl, rfl⟩]
      refine wps_callH (fun _ => device_Rack_Read_spec rb (R1.put 3 s noughts) ds ps slot s) fun y1 => ?_
      rw [hr1]
      simp only [← star_assoc]
      refine wps_prP fun _ => ?_
      refine wps_callH (fun _ => device_Rack_Read_spec rb (R1.put 3 s noughts) ds ps 3 s) fun y2 => ?_
      rw [hr2]
      simp only [← star_assoc]
      refine wps_prP fun _ => ?_
      refine wps_val (ref00_SameBytes_val (x := b) (y := b) ?_ ?_ (by omega)) ?_
      · exact Ent.trans (ent_drop (B := own 1 y1.1 (bv b))) (own_rsl _ _ _)
      · exact ent_drop
      rw [decide_eq_true rfl]
      refine wps_bite (fun _ => wps_assoc ?_) (fun h => absurd rfl h)
      refine wps_val (ref00_SameBytes_val (x := noughts) (y := noughts) ?_ ?_ (by simp [noughts])) ?_
      · exact Ent.trans (ent_drop (B := own 1 y2.1 (bv noughts))) (own_rsl _ _ _)
      · exact ent_drop
      rw [decide_eq_true rfl]
      refine wps_bindpure (wps_bite (fun _ => wps_assoc ?_) (fun h => absurd rfl h))
      refine wps_call (fun _ => bank_Bad_spec bb rb (3, 3, 12) (1, slot, state) (R1.put 3 s noughts) ds ps (by decide)) (by rw [← star_assoc]; exact ent_pick (ent_pick (Ent.refl _))) fun y3 => ?_
      rw [← star_assoc]
      refine wps_fact (Ent.trans (ent_right _ _) (own_len _ _ _)) fun ⟨hbl, _⟩ => ?_
      refine wps_bindpure (wps_pure (ent_prq ?_))
      have hbad : badL (3, 3, 12) (1, slot, state) (R1.put 3 s noughts) = [0, 1, 2].filter fun i : Nat => state == 1 && slot == i := by
        simp only [badL]
        congr 1
        funext i
        simp [isBad, hC2.failedB]
      have hlb : y3.len = ([0, 1, 2].filter fun i : Nat => state == 1 && slot == (i : Int)).length := by
        rw [← hbad]
        simpa [iv] using hbl.symm
      rw [hlb]
      have hslot : slot = 0 ∨ slot = 1 ∨ slot = 2 := by omega
      have hstate : state = 1 ∨ state = 2 := by omega
      rcases hslot with e | e | e <;> rcases hstate with e' | e' <;> subst e e' <;> rfl
end Go.Proofs.Ytldmeimebebllaa
