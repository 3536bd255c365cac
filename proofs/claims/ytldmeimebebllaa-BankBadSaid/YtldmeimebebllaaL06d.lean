/-
  a part of the proof: what functions of the program do, in a separation logic.
-/
import Derived.Test.YtldmeimebebllaaSettle
namespace Go.Proofs.Ytldmeimebebllaa
open Go.Mo
set_option linter.unusedVariables false
variable {g : Fr} {cv : CV}
def bitB (fails i : Int) : Bool := bAnd .i64 (bShr .i64 fails (IntKind.wrap .u64 i)) 1 == 1
def armedTo (fails : Int) (n : Nat) : Rk := { Rk.new 4 41 with dk := fun j => { Dk.new with count := if j < n ∧ bitB fails j = true then 0 else -1 } }
theorem armedTo_succ (fails : Int) {n : Nat} (hn : n < 4) : armedTo fails (n + 1) = if bitB fails n = true then (armedTo fails n).doom n 0 else armedTo fails n := by
  have hr : ¬ ((n : Int) < 0 ∨ (n : Int) ≥ ((armedTo fails n).n : Int)) := by
    show ¬ ((n : Int) < 0 ∨ (n : Int) ≥ ((4 : Nat) : Int))
    omega
  by_cases hb : bitB fails n = true
  · rw [if_pos hb, Rk.doom, if_neg hr]
    simp only [armedTo, Rk.setD, Rk.mk.injEq, true_and, and_true]
    funext j
    by_cases hj : j = n
    · subst hj; simp [hb, maxI]
    · have : j < n + 1 ↔ j < n := by omega
      simp [hj, this]
  · rw [if_neg hb]
    simp only [armedTo, Rk.mk.injEq, true_and, and_true]
    funext j
    by_cases hj : j = n
    · subst hj; simp [hb]
    · have : j < n + 1 ↔ j < n := by omega
      simp [this]
theorem armedTo_armed (fails : Int) : Armed (armedTo fails 4) (fun j => decide (j < 4) && bitB fails j) := ⟨rfl, rfl, fun _ => rfl, fun j => by
  simp only [armedTo]
  by_cases h1 : j < 4 <;> by_cases h2 : bitB fails j = true <;> simp [h1, h2]⟩
theorem filter_at (p : Nat → Bool) {k : Nat} (hk : k < 3) (hp : p k = true) : ((List.range 3).filter p)[((List.range k).filter p).length]? = some k := by
  have hsplit : List.range 3 = List.range k ++ (k :: (List.range 3).drop (k + 1)) := by
    have : k = 0 ∨ k = 1 ∨ k = 2 := by omega
    rcases this with e | e | e <;> subst e <;> rfl
  rw [hsplit, List.filter_append, List.getElem?_append_right (Nat.le_refl _), Nat.sub_self, List.filter_cons, if_pos hp]
  rfl
theorem slotV_in (m : G3) (i : Nat) (hi : i < 3) : (slotV (3, 3, 12) m i).2 = true ∧ (slotV (3, 3, 12) m i).1 = (if m.2.2 ≠ 0 ∧ m.2.1 = i then 3 else (i : Int)) := by
  have h : ¬ ((i : Int) < 0 ∨ (i : Int) ≥ 3) := by omega
  simp only [slotV]
  rw [if_neg h]
  split <;> exact ⟨rfl, rfl⟩
theorem slot_range (m : G3) (i : Nat) (hi : i < 3) : 0 ≤ (slotV (3, 3, 12) m i).1 ∧ (slotV (3, 3, 12) m i).1 < 4 := by
  rw [(slotV_in m i hi).2]
  split <;> omega
theorem disks_range (m : G3) : ∀ d ∈ disksL (3, 3, 12) m, 0 ≤ d ∧ d < ((4 : Nat) : Int) := by
  intro d hd
  simp only [disksL, List.mem_append, List.mem_map, List.mem_range] at hd
  rcases hd with ⟨i, hi, rfl⟩ | hd
  · exact slot_range m i (by omega)
  · split at hd
    · simp at hd; omega
    · simp at hd
theorem law06_BankBad_spec (hcv : DisksOk cv) (fails : Int) (m : G3) : wps g emp (law06_BankBad cv fails m) (fun r => pr (r = true)) := by
  unfold law06_BankBad
  repeat (first
    | (with_reducible refine wps_bindpure ?_)
    | (with_reducible refine wps_assoc ?_)
    | (with_reducible refine wps_nil ?_)
    | (with_reducible refine wps_stepAlloc fun _ => ?_)
    | (with_reducible refine wps_alloc fun _ => ?_)
    | (with_reducible refine wps_newO fun _ => ?_)
    | (refine wps_ld _ (by rfl) ?_)
    | (refine wps_ldG _ _ _ (by rfl) ?_)
    | (refine wps_ldA _ (by rfl) ?_)
    | (refine wps_ldI _ (by rfl) ?_)
    | (refine wps_ldGI _ _ _ (by rfl) ?_)
    | (refine wps_ldAI _ (by rfl) ?_)
    | (refine wps_st (by simp) ?_)
    | (refine wps_stA (by simp) (by simp [Value.oneCell']) ?_)
    | ((with_reducible apply wps_val); apply val_ite; rotate_left; refine fun (_ : ¬ _) => ?_; rotate_right; refine fun (_ : _ = true) => ?_)
    | ((with_reducible apply val_ite); rotate_left; refine fun (_ : ¬ _) => ?_; rotate_right; refine fun (_ : _ = true) => ?_)
    | (with_reducible refine wps_regionH ?_)
    | ((with_reducible apply wps_bindV); apply val_iteL; rotate_left; refine fun (_ : ¬ _) => ?_; rotate_right; refine fun (_ : _ = true) => ?_)
    | ((with_reducible apply val_iteL); rotate_left; refine fun (_ : ¬ _) => ?_; rotate_right; refine fun (_ : _ = true) => ?_)
    | (with_reducible exact wps_pure (ent_val rfl)))
  refine wps_callE (fun _ => law06_alive_spec) fun x => ?_
  refine wps_prP fun hx => ?_
  subst hx
  refine wps_ite (fun h => absurd h (by decide)) (fun _ => ?_)
  repeat (first
    | (with_reducible refine wps_val (law06_Small_val) ?_)
    | (with_reducible refine wps_stepV (law06_Small_val) ?_)
    | (with_reducible refine wps_val (geo_Sectors_val _) ?_)
    | (with_reducible refine wps_stepV (geo_Sectors_val _) ?_)
    | (with_reducible refine wps_bindpure ?_)
    | (with_reducible refine wps_assoc ?_)
    | (with_reducible refine wps_nil ?_)
    | (with_reducible refine wps_stepAlloc fun _ => ?_)
    | (with_reducible refine wps_alloc fun _ => ?_)
    | (with_reducible refine wps_newO fun _ => ?_)
    | (refine wps_ld _ (by rfl) ?_)
    | (refine wps_ldG _ _ _ (by rfl) ?_)
    | (refine wps_ldA _ (by rfl) ?_)
    | (refine wps_ldI _ (by rfl) ?_)
    | (refine wps_ldGI _ _ _ (by rfl) ?_)
    | (refine wps_ldAI _ (by rfl) ?_)
    | (refine wps_st (by simp) ?_)
    | (refine wps_stA (by simp) (by simp [Value.oneCell']) ?_)
    | ((with_reducible apply wps_val); apply val_ite; rotate_left; refine fun (_ : ¬ _) => ?_; rotate_right; refine fun (_ : _ = true) => ?_)
    | ((with_reducible apply val_ite); rotate_left; refine fun (_ : ¬ _) => ?_; rotate_right; refine fun (_ : _ = true) => ?_)
    | (with_reducible refine wps_regionH ?_)
    | ((with_reducible apply wps_bindV); apply val_iteL; rotate_left; refine fun (_ : ¬ _) => ?_; rotate_right; refine fun (_ : _ = true) => ?_)
    | ((with_reducible apply val_iteL); rotate_left; refine fun (_ : ¬ _) => ?_; rotate_right; refine fun (_ : _ = true) => ?_)
    | (with_reducible exact wps_pure (ent_val rfl)))
  rw [Small_sect]
  rename_i c3 _ c5
  refine wps_callE (fun _ => device_New_spec 4 41) fun x => ?_
  rw [if_neg (by decide), show Rk.new (Int.toNat 4) (Int.toNat 41) = Rk.new 4 41 from rfl]
  refine wps_exP fun rb => ?_
  rw [← star_assoc]
  refine wps_prP fun hx => ?_
  subst hx
  unfold rack
  refine wps_exP fun ds => wps_exP fun ps => ?_
  repeat (first
    | (with_reducible refine wps_bindpure ?_)
    | (with_reducible refine wps_assoc ?_)
    | (with_reducible refine wps_nil ?_)
    | (with_reducible refine wps_stepAlloc fun _ => ?_)
    | (with_reducible refine wps_alloc fun _ => ?_)
    | (with_reducible refine wps_newO fun _ => ?_)
    | (refine wps_ld _ (by rfl) ?_)
    | (refine wps_ldG _ _ _ (by rfl) ?_)
    | (refine wps_ldA _ (by rfl) ?_)
    | (refine wps_ldI _ (by rfl) ?_)
    | (refine wps_ldGI _ _ _ (by rfl) ?_)
    | (refine wps_ldAI _ (by rfl) ?_)
    | (refine wps_st (by simp) ?_)
    | (refine wps_stA (by simp) (by simp [Value.oneCell']) ?_)
    | ((with_reducible apply wps_val); apply val_ite; rotate_left; refine fun (_ : ¬ _) => ?_; rotate_right; refine fun (_ : _ = true) => ?_)
    | ((with_reducible apply val_ite); rotate_left; refine fun (_ : ¬ _) => ?_; rotate_right; refine fun (_ : _ = true) => ?_)
    | (with_reducible refine wps_regionH ?_)
    | ((with_reducible apply wps_bindV); apply val_iteL; rotate_left; refine fun (_ : ¬ _) => ?_; rotate_right; refine fun (_ : _ = true) => ?_)
    | ((with_reducible apply val_iteL); rotate_left; refine fun (_ : ¬ _) => ?_; rotate_right; refine fun (_ : _ = true) => ?_)
    | (with_reducible exact wps_pure (ent_val rfl)))
  refine wps_callH (fun _ => bank_Open_spec rb (Rk.new 4 41) ds ps (3, 3, 12) m) fun x => ?_
  by_cases ho : OpenB (Rk.new 4 41).n (Rk.new 4 41).ns (3, 3, 12) m = true
  · simp only [ho, if_true]
    refine wps_exP fun bb => ?_
    simp only [← star_assoc]
    refine wps_prP fun hx => ?_
    subst hx
    refine wps_val (v := false) (wps_ite (fun h => absurd h (by simp)) (fun _ => wps_pure (ent_val (by simp)))) ?_
    refine wps_ite (fun h => absurd h (by simp)) (fun _ => ?_)
    refine wps_loop (fun i => ex fun n : Nat => pr (i = (n : Int) ∧ n ≤ 4) * pc c3 [.int .i64 m.1, .int .i64 m.2.1, .int .i64 m.2.2] * rackP rb (armedTo fails n) ds ps * bnk bb rb (3, 3, 12) m) (fun i => (4 - i).toNat) ?_ fun i => ?_
    · have h0 : armedTo fails 0 = Rk.new 4 41 := by
        simp only [armedTo, Rk.new, Rk.mk.injEq, true_and, and_true]
        funext j
        simp [Dk.new]
      refine ent_ex 0 (ent_pick ?_)
      rw [h0]
      exact ent_pick (ent_pick (ent_prq ⟨rfl, by omega⟩))
    · refine wps_ex fun n => wps_prP fun ⟨hi, hn⟩ => ?_
      refine wps_ite (fun hc => ?_) (fun hc => ?_)
      · have hlt : n < 4 := by simp only [decide_eq_true_eq] at hc; omega
        have hw : IntKind.wrap .u64 i = i := by
          have : n = 0 ∨ n = 1 ∨ n = 2 ∨ n = 3 := by omega
          rcases this with e | e | e | e <;> subst e <;> subst hi <;> rfl
        refine wps_assert (by rw [hw]; omega) ?_
        have hsucc := armedTo_succ fails hlt
        refine wps_ite (fun hb => ?_) (fun hb => ?_)
        · have hb' : bitB fails n = true := by rw [← hi]; exact hb
          rw [if_pos hb'] at hsucc
          refine wps_callH (fun _ => device_Rack_Doom_spec rb (armedTo fails n) ds ps i 0) fun e => ?_
          rw [← star_assoc]
          refine wps_prP fun _ => wps_pure ?_
          refine ent_prr (by rw [range_add1 hi (by omega)]; omega) (ent_ex (n + 1) ?_)
          rw [hsucc, ← hi]
          exact ent_pick (ent_pick (ent_pick (ent_prq ⟨by rw [hi, ← range_add1 rfl (by omega)], by omega⟩)))
        · have hb' : ¬ bitB fails n = true := by rw [← hi]; exact hb
          rw [if_neg hb'] at hsucc
          refine wps_pure ?_
          refine ent_prr (by rw [range_add1 hi (by omega)]; omega) (ent_ex (n + 1) ?_)
          rw [hsucc]
          exact ent_pick (ent_pick (ent_pick (ent_prq ⟨range_add1 hi (by omega), by omega⟩)))
      · have hne : n = 4 := by simp only [decide_eq_true_eq] at hc; omega
        subst hne
        refine wps_mapR ?_
        refine wps_call (fun _ => bank_Flush_spec hcv bb rb (3, 3, 12) m (by decide) (armedTo fails 4) ds ps) (by rw [← star_assoc]; exact ent_pick (ent_pick (Ent.refl _))) fun e => ?_
        simp only [← star_assoc]
        refine wps_prP fun he => ?_
        have hcons : disksL (3, 3, 12) m = (slotV (3, 3, 12) m (0 : Nat)).1 :: (disksL (3, 3, 12) m).drop 1 := rfl
        obtain ⟨hz, hS, hn4, hn41⟩ := (armedTo_armed fails).flushL (d := (slotV (3, 3, 12) m (0 : Nat)).1) (xs := (disksL (3, 3, 12) m).drop 1) (by rw [← hcons]; exact disks_range m) (show 0 < 41 by decide)
        rw [← hcons] at hz hS hn4 hn41
        rw [hz] at he
        subst he
        generalize (flushL (disksL (3, 3, 12) m) (armedTo fails 4)).1 = R2 at hS hn4 hn41
        refine wps_ite (fun h => absurd h (by decide)) (fun _ => ?_)
        refine wps_call (fun _ => bank_Bad_spec bb rb (3, 3, 12) m R2 ds ps (by decide)) (by rw [← star_assoc]; exact ent_pick (ent_pick (Ent.refl _))) fun bs => ?_
        simp only [← star_assoc]
        have hn4' : R2.n = 4 := hn4
        have hn41' : R2.ns = 41 := hn41
        refine wps_fact (Ent.trans (ent_right _ _) (own_len _ _ _)) fun ⟨hbl, _⟩ => ?_
        have hbl' : bs.len = (badL (3, 3, 12) m R2).length := by simpa [iv] using hbl.symm
        have hbadL : badL (3, 3, 12) m R2 = (List.range 3).filter (isBad (3, 3, 12) m R2) := rfl
        have hfail : ∀ k : Nat, k < 3 → R2.failedB (slotV (3, 3, 12) m k).1 = bitB fails (slotV (3, 3, 12) m k).1 := by
          intro k hk
          have hr := slot_range m k hk
          rw [Rk.failedB, if_pos (by rw [hn4']; exact hr), hS.failed]
          have : ((slotV (3, 3, 12) m k).1.toNat : Int) = (slotV (3, 3, 12) m k).1 := by omega
          rw [this]
          have h4 : (slotV (3, 3, 12) m k).1.toNat < 4 := by omega
          simp [h4]
        refine wps_loop (fun s4 => ex fun k : Nat => pr (s4.2 = (k : Int) ∧ k ≤ 3 ∧ s4.1 = ((((List.range k).filter (isBad (3, 3, 12) m R2)).length : Nat) : Int)) * pc c3 [.int .i64 m.1, .int .i64 m.2.1, .int .i64 m.2.2] * bnk bb rb (3, 3, 12) m * rackP rb R2 ds ps * own 1 bs (iv (badL (3, 3, 12) m R2))) (fun s4 => (3 - s4.2).toNat) ?_ fun s4 => ?_
        · refine ent_ex 0 (ent_pick (ent_pick (ent_pick (ent_pick (ent_prq ⟨rfl, by omega, rfl⟩)))))
        · refine wps_ex fun k => wps_prP fun ⟨hk, hk3, hs1⟩ => ?_
          refine wps_ite (fun hc2 => ?_) (fun hc2 => ?_)
          · have hlt : k < 3 := by simp only [decide_eq_true_eq] at hc2; omega
            obtain ⟨hsv2, hsv1⟩ := slotV_in m k hlt
            have e6 : (if (if (m.2.2 != 0) = true then m.2.1 == s4.2 else false) = true then (3 : Int) else s4.2) = (slotV (3, 3, 12) m k).1 := by
              rw [hsv1, hk]
              by_cases h1 : m.2.2 = 0
              · simp [h1]
              · by_cases h2 : m.2.1 = (k : Int) <;> simp [h1, h2]
            repeat (first
              | (with_reducible refine wps_bindpure ?_)
              | (with_reducible refine wps_assoc ?_)
              | (with_reducible refine wps_nil ?_)
              | (with_reducible refine wps_stepAlloc fun _ => ?_)
              | (with_reducible refine wps_alloc fun _ => ?_)
              | (with_reducible refine wps_newO fun _ => ?_)
              | (refine wps_ld _ (by rfl) ?_)
              | (refine wps_ldG _ _ _ (by rfl) ?_)
              | (refine wps_ldA _ (by rfl) ?_)
              | (refine wps_ldI _ (by rfl) ?_)
              | (refine wps_ldGI _ _ _ (by rfl) ?_)
              | (refine wps_ldAI _ (by rfl) ?_)
              | (refine wps_st (by simp) ?_)
              | (refine wps_stA (by simp) (by simp [Value.oneCell']) ?_)
              | ((with_reducible apply wps_val); apply val_ite; rotate_left; refine fun (_ : ¬ _) => ?_; rotate_right; refine fun (_ : _ = true) => ?_)
              | ((with_reducible apply val_ite); rotate_left; refine fun (_ : ¬ _) => ?_; rotate_right; refine fun (_ : _ = true) => ?_)
              | (with_reducible refine wps_regionH ?_)
              | ((with_reducible apply wps_bindV); apply val_iteL; rotate_left; refine fun (_ : ¬ _) => ?_; rotate_right; refine fun (_ : _ = true) => ?_)
              | ((with_reducible apply val_iteL); rotate_left; refine fun (_ : ¬ _) => ?_; rotate_right; refine fun (_ : _ = true) => ?_)
              | (with_reducible exact wps_pure (ent_val rfl)))
            rw [e6]
            have hdr := slot_range m k hlt
            generalize hdk : (slotV (3, 3, 12) m k).1 = dk at *
            have hw : IntKind.wrap .u64 dk = dk := by
              have : dk = 0 ∨ dk = 1 ∨ dk = 2 ∨ dk = 3 := by omega
              rcases this with e | e | e | e <;> rw [e] <;> rfl
            refine wps_assert (by rw [hw]; omega) ?_
            refine wps_val (v := isBad (3, 3, 12) m R2 k) ?_ ?_
            · apply val_eq
              · repeat (first
                  | (with_reducible refine wps_bindpure ?_)
                  | (with_reducible refine wps_assoc ?_)
                  | (with_reducible refine wps_nil ?_)
                  | (with_reducible refine wps_stepAlloc fun _ => ?_)
                  | (with_reducible refine wps_alloc fun _ => ?_)
                  | (with_reducible refine wps_newO fun _ => ?_)
                  | (refine wps_ld _ (by rfl) ?_)
                  | (refine wps_ldG _ _ _ (by rfl) ?_)
                  | (refine wps_ldA _ (by rfl) ?_)
                  | (refine wps_ldI _ (by rfl) ?_)
                  | (refine wps_ldGI _ _ _ (by rfl) ?_)
                  | (refine wps_ldAI _ (by rfl) ?_)
                  | (refine wps_st (by simp) ?_)
                  | (refine wps_stA (by simp) (by simp [Value.oneCell']) ?_)
                  | ((with_reducible apply wps_val); apply val_ite; rotate_left; refine fun (_ : ¬ _) => ?_; rotate_right; refine fun (_ : _ = true) => ?_)
                  | ((with_reducible apply val_ite); rotate_left; refine fun (_ : ¬ _) => ?_; rotate_right; refine fun (_ : _ = true) => ?_)
                  | (with_reducible refine wps_regionH ?_)
                  | ((with_reducible apply wps_bindV); apply val_iteL; rotate_left; refine fun (_ : ¬ _) => ?_; rotate_right; refine fun (_ : _ = true) => ?_)
                  | ((with_reducible apply val_iteL); rotate_left; refine fun (_ : ¬ _) => ?_; rotate_right; refine fun (_ : _ = true) => ?_)
                  | (with_reducible exact wps_pure (ent_val rfl)))
              · have hf := hfail k hlt
                rw [hdk] at hf
                simp only [isBad, hdk, hf, hk]
                show (if bitB fails dk = true then true else if (m.2.2 == 1) = true then m.2.1 == (k : Int) else false) = _
                by_cases h1 : bitB fails dk = true
                · simp [h1]
                · by_cases h2 : m.2.2 = 1 <;> simp [h1, h2]
            · have hf1 : (List.range (k + 1)).filter (isBad (3, 3, 12) m R2) = (List.range k).filter (isBad (3, 3, 12) m R2) ++ if isBad (3, 3, 12) m R2 k then [k] else [] := by
                rw [List.range_succ, List.filter_append]
                by_cases h : isBad (3, 3, 12) m R2 k = true <;> simp [h]
              have hcount : ((List.range k).filter (isBad (3, 3, 12) m R2)).length ≤ 3 := by
                have := List.length_filter_le (isBad (3, 3, 12) m R2) (List.range k)
                rw [List.length_range] at this; omega
              refine wps_bindV (u := ((((List.range (k + 1)).filter (isBad (3, 3, 12) m R2)).length : Nat) : Int)) ?_ ?_
              · refine wps_ite (fun hbk => ?_) (fun hbk => ?_)
                · have hget := filter_at (isBad (3, 3, 12) m R2) hlt hbk
                  rw [← hbadL] at hget
                  have hltb := (List.getElem?_eq_some_iff.1 hget).1
                  refine wps_val (v := false) (wps_ite (fun h => ?_) (fun _ => ?_)) ?_
                  · have h' : s4.1 ≥ (bs.len : Int) := by simpa using h
                    omega
                  · refine wps_rdS ((List.range k).filter (isBad (3, 3, 12) m R2)).length (k : Int) hs1 (by simp [iv, hget]) ?_
                    exact wps_pure (ent_val (by simp [hk]))
                  · refine wps_ite (fun h => absurd h (by simp)) (fun _ => wps_pure (ent_val ?_))
                    rw [hf1, if_pos hbk, range_add1 hs1 (by omega)]
                    simp
                · refine wps_pure (ent_val ?_)
                  rw [hf1, if_neg hbk, hs1]; simp
              · refine wps_call (fun _ => bank_Read_spec bb rb (3, 3, 12) m R2 ds ps s4.2 0) (by rw [← star_assoc]; exact ent_pick (ent_pick (Ent.refl _))) fun y => ?_
                rw [hk, hdk, hsv2]
                simp only [if_true, ← star_assoc]
                refine wps_prP fun hy => ?_
                refine wps_assert (by rw [hw]; omega) ?_
                have hre : R2.rdErr dk 0 = if bitB fails dk then 13 else 0 := by
                  have hf := hfail k hlt
                  rw [hdk] at hf
                  rw [Rk.failedB, if_pos (by rw [hn4']; exact hdr)] at hf
                  unfold Rk.rdErr
                  have hr : ¬ (dk < 0 ∨ dk ≥ R2.n ∨ (0 : Int) < 0 ∨ (0 : Int) ≥ R2.ns) := by rw [hn4', hn41']; omega
                  rw [if_neg (by simp [hS.off]), if_neg hr, hf]
                rw [hy, hre]
                refine wps_ite (fun h => absurd h ?_) (fun _ => wps_pure ?_)
                · show ¬ (!((if bitB fails dk = true then (13 : Int) else 0) == 13) == bitB fails dk) = true
                  by_cases hb : bitB fails dk = true <;> simp [hb]
                · refine ent_prr (by (try dsimp only); rw [range_add1 rfl (by omega)]; omega) (ent_ex (k + 1) ?_)
                  exact ent_pick (ent_pick (ent_pick (ent_pick (ent_prq ⟨range_add1 rfl (by omega), by omega, rfl⟩))))
          · have hke : k = 3 := by simp only [decide_eq_true_eq] at hc2; omega
            subst hke
            refine wps_mapR ?_
            have heq : s4.1 = (bs.len : Int) := by rw [hs1, hbl', hbadL]
            refine wps_val (v := true) (wps_ite (fun _ => ?_) (fun h => absurd (by simpa using heq) h)) ?_
            · refine wps_val (val_frame (F := emp * pc c3 [.int .i64 m.1, .int .i64 m.2.1, .int .i64 m.2.2] * own 1 bs (iv (badL (3, 3, 12) m R2))) (fun _ => bank_SpareFailed_val bb rb (3, 3, 12) m R2 ds ps) (by ac_rfl)) ?_
              refine wps_pure (ent_val ?_)
              have h3 : R2.failedB 3 = bitB fails 3 := by
                rw [Rk.failedB, if_pos (by rw [hn4']; decide), hS.failed]
                rfl
              show (R2.failedB 3 == bitB fails 3) = true
              rw [h3]; simp
            · exact wps_pure (ent_prq rfl)
  · simp only [ho, if_false, Bool.false_eq_true]
    simp only [← star_assoc]
    refine wps_prP fun hx => ?_
    subst hx
    refine wps_val (v := true) (wps_ite (fun _ => wps_pure (ent_val rfl)) (fun h => absurd rfl h)) ?_
    exact wps_pure (ent_prq rfl)
end Go.Proofs.Ytldmeimebebllaa
