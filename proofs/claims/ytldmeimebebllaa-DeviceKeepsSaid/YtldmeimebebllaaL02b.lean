/-
  a part of the proof: what functions of the program do, in a separation logic.
-/
import Derived.Test.YtldmeimebebllaaL02a
namespace Go.Proofs.Ytldmeimebebllaa
open Go.Mo
set_option linter.unusedVariables false
variable {g : Fr} {cv : CV}
/-- a calm rack of two disks of four sectors, each of which has one byte at its head -/
structure Wr (R : Rk) (sure : Nat → Int) (last : Nat → Option Int) : Prop where
  calm : Calm R
  n : R.n = 2
  ns : R.ns = 4
  lasts : ∀ j k : Nat, j < 2 → k < 4 → (R.dk j).lasts k = one (sure (j * 4 + k))
  cached : ∀ j k : Nat, j < 2 → k < 4 → (R.dk j).cached (k : Int) = (last (j * 4 + k)).map one
theorem noughts_one : noughts = one 0 := rfl
theorem Wr.new : Wr (Rk.new 2 4) (fun _ => 0) (fun _ => none) := ⟨Calm.new 2 4, rfl, rfl, fun _ _ _ _ => rfl, fun _ _ _ _ => rfl⟩
theorem Wr.put {R : Rk} {sure : Nat → Int} {last : Nat → Option Int} (h : Wr R sure last) {i : Nat} (hi : i < 8) (v : Int) :
    R.gate ((i / 4 : Nat) : Int) ((i % 4 : Nat) : Int) (one v).length = 0 ∧ Wr (R.write ((i / 4 : Nat) : Int) ((i % 4 : Nat) : Int) (one v)) sure (fun q => if q = i then some v else last q) := by
  have hw := h.calm.write (k := ((i / 4 : Nat) : Int)) (s := ((i % 4 : Nat) : Int)) (b := one v) (by rw [h.n]; omega) (by rw [h.ns]; omega) (one_len v)
  refine ⟨hw.1, ?_⟩
  rw [hw.2]
  refine ⟨h.calm.put _ _ _, h.n, h.ns, fun j k hj hk => ?_, fun j k hj hk => ?_⟩
  · simp only [Rk.put]
    split
    · exact h.lasts j k hj hk
    · exact h.lasts j k hj hk
  · simp only [Rk.put]
    by_cases hji : j = i / 4
    · rw [if_pos (by omega)]
      by_cases hki : k = i % 4
      · simp only [show (k : Int) = ((i % 4 : Nat) : Int) by omega, if_true]
        rw [if_pos (by omega)]; rfl
      · simp only [show ¬ (k : Int) = ((i % 4 : Nat) : Int) by omega, if_false]
        rw [if_neg (by omega)]
        exact h.cached j k hj hk
    · rw [if_neg (by omega), if_neg (by omega)]
      exact h.cached j k hj hk
theorem Wr.restore {R : Rk} {sure : Nat → Int} {last : Nat → Option Int} (h : Wr R sure last) (ks : List Int) {i : Nat} (hi : i < 8) :
    (R.restore ks).lst ((i / 4 : Nat) : Int) ((i % 4 : Nat) : Int) = one (if keepB ks (rank R i) = true then (last i).getD (sure i) else sure i) ∧ (R.restore ks).lErr ((i / 4 : Nat) : Int) ((i % 4 : Nat) : Int) = 0 := by
  have he : (R.restore ks).lErr ((i / 4 : Nat) : Int) ((i % 4 : Nat) : Int) = 0 := by
    rw [Rk.lErr, if_neg]
    show ¬ (_ ∨ _ ≥ (R.n : Int) ∨ _ ∨ _ ≥ (R.ns : Int))
    rw [h.n, h.ns]; omega
  refine ⟨?_, he⟩
  rw [Rk.lst, if_pos he]
  show (Dk.restored R ks ((i / 4 : Nat) : Int).toNat).lasts ((i % 4 : Nat) : Int).toNat = _
  rw [show ((i / 4 : Nat) : Int).toNat = i / 4 by omega, show ((i % 4 : Nat) : Int).toNat = i % 4 by omega]
  simp only [Dk.restored, Dk.clean, Dk.flushed, h.cached (i / 4) (i % 4) (by omega) (by omega), h.lasts (i / 4) (i % 4) (by omega) (by omega), h.calm.failed, h.ns]
  have h1 : i / 4 * 4 + i % 4 = i := by omega
  have h2 : ((i % 4 : Nat) : Int).toNat = i % 4 := by omega
  rw [h1, h2, h1]
  cases last i with
  | none => simp
  | some v => cases keepB ks (rank R i) <;> simp
theorem keep3 (n : Nat) : keepB [3] n = true := by
  rw [keepB, if_neg (by decide), show n % [(3 : Int)].length = 0 from Nat.mod_one n]; decide
theorem keep0 (n : Nat) : keepB [] n = false := rfl
theorem idx7 (x : Int) : ∃ i : Nat, i < 8 ∧ bAnd .i64 x 7 = (i : Int) ∧ w64 (Int.tdiv (bAnd .i64 x 7) 4) = ((i / 4 : Nat) : Int) ∧ Int.tmod (bAnd .i64 x 7) 4 = ((i % 4 : Nat) : Int) := by
  have h := bAnd_le x 7 (by omega)
  have h' : ((7 : Nat) : Int) = 7 := rfl
  rw [h'] at h
  obtain ⟨i, hi⟩ : ∃ i : Nat, bAnd .i64 x 7 = (i : Int) := ⟨(bAnd .i64 x 7).toNat, by omega⟩
  refine ⟨i, by omega, hi, ?_, ?_⟩
  · rw [hi, show Int.tdiv (i : Int) 4 = ((i / 4 : Nat) : Int) from rfl, w64_id] <;> omega
  · rw [hi]; rfl
theorem idx8 {s : Int} {i : Nat} (h : s = (i : Int)) (hi : i < 8) : w64 (Int.tdiv s 4) = ((i / 4 : Nat) : Int) ∧ Int.tmod s 4 = ((i % 4 : Nat) : Int) := by
  subst h
  refine ⟨?_, rfl⟩
  rw [show Int.tdiv (i : Int) 4 = ((i / 4 : Nat) : Int) from rfl, w64_id] <;> omega
/-- eight bytes -/
def eight (f : Nat → Int) : List Value := (List.range 8).map fun i => .int .u8 (f i)
theorem eight_set (f : Nat → Int) {i : Nat} (hi : i < 8) (v : Int) : (eight f).set (0 + i * 1) (.int .u8 v) = eight fun q => if q = i then v else f q := by
  apply List.ext_getElem?
  intro q
  rw [Nat.zero_add, Nat.mul_one, List.getElem?_set]
  unfold eight
  simp only [List.getElem?_map, List.length_map, List.length_range]
  by_cases hq : q < 8
  · rw [List.getElem?_range hq]
    by_cases h : i = q
    · subst h; simp [hq]
    · have : ¬ q = i := fun e => h e.symm
      simp [h, this]
  · rw [List.getElem?_eq_none (by simpa using hq)]
    have : ¬ i = q := by omega
    simp [this]
theorem eight_get (f : Nat → Int) {i : Nat} (hi : i < 8) : (eight f)[0 + i * 1]? = some (.int .u8 (f i)) := by
  rw [Nat.zero_add, Nat.mul_one]
  unfold eight
  rw [List.getElem?_map, List.getElem?_range hi]; rfl
def keepW (all : Bool) (last : Nat → Option Int) (i : Nat) : Int := if all = true then (last i).getD 0 else 0
theorem law02_DeviceKeeps_spec (hcv : KeysOk cv) (x : Slc) (xs : List Int) (all : Bool) : wps g (intsP x xs) (law02_DeviceKeeps cv x all) (fun b => pr (b = true)) := by
  unfold law02_DeviceKeeps
  refine wps_callE (fun _ => law02_alive_spec hcv) fun a => ?_
  refine wps_prP fun ha => ?_
  subst ha
  refine wps_fact (ilen_of (H := intsP x xs) (Ent.refl _)) fun hl => ?_
  refine wps_ite (fun h => absurd h (by decide)) (fun _ => ?_)
  refine wps_ite (fun _ => wps_pure (ent_prq rfl)) (fun hle => ?_)
  have hle' : xs.length ≤ 100 := by simp only [decide_eq_true_eq] at hle; omega
  refine wps_callE (fun _ => device_New_spec 2 4) fun y => ?_
  rw [if_neg (by decide), show Rk.new (Int.toNat 2) (Int.toNat 4) = Rk.new 2 4 from rfl]
  refine wps_exP fun rb => ?_
  simp only [← star_assoc]
  refine wps_prP fun hy => ?_
  subst hy
  unfold rack
  refine wps_exP fun ds => wps_exP fun ps => ?_
  repeat (first
    | (with_reducible refine wps_bindpure ?_)
    | (with_reducible refine wps_assoc ?_)
    | (with_reducible refine wps_nil ?_)
    | (with_reducible refine wps_stepAlloc fun _ => ?_)
    | (with_reducible refine wps_alloc fun _ => ?_)
    | (with_reducible refine wps_newO fun _ => ?_)
    | (refine wps_ld _ (by rfl) ?_)
    | (refine wps_ldG _ _ _ (by rfl) ?_)
    | (refine wps_ldA _ (by rfl) ?_)
    | (refine wps_ldI _ (by rfl) ?_)
    | (refine wps_ldGI _ _ _ (by rfl) ?_)
    | (refine wps_ldAI _ (by rfl) ?_)
    | (refine wps_st (by simp) ?_)
    | (refine wps_stA (by simp) (by simp [Value.oneCell']) ?_)
    | ((with_reducible apply wps_val); apply val_ite; rotate_left; refine fun (_ : ¬ _) => ?_; rotate_right; refine fun (_ : _ = true) => ?_)
    | ((with_reducible apply val_ite); rotate_left; refine fun (_ : ¬ _) => ?_; rotate_right; refine fun (_ : _ = true) => ?_)
    | (with_reducible refine wps_regionH ?_)
    | ((with_reducible apply wps_bindV); apply val_iteL; rotate_left; refine fun (_ : ¬ _) => ?_; rotate_right; refine fun (_ : _ = true) => ?_)
    | ((with_reducible apply val_iteL); rotate_left; refine fun (_ : ¬ _) => ?_; rotate_right; refine fun (_ : _ = true) => ?_)
    | (with_reducible exact wps_pure (ent_val rfl)))
  refine wps_ite (fun h => absurd h (by simp)) (fun _ => ?_)
  repeat (first
    | (with_reducible refine wps_bindpure ?_)
    | (with_reducible refine wps_assoc ?_)
    | (with_reducible refine wps_nil ?_)
    | (with_reducible refine wps_stepAlloc fun _ => ?_)
    | (with_reducible refine wps_alloc fun _ => ?_)
    | (with_reducible refine wps_newO fun _ => ?_)
    | (refine wps_ld _ (by rfl) ?_)
    | (refine wps_ldG _ _ _ (by rfl) ?_)
    | (refine wps_ldA _ (by rfl) ?_)
    | (refine wps_ldI _ (by rfl) ?_)
    | (refine wps_ldGI _ _ _ (by rfl) ?_)
    | (refine wps_ldAI _ (by rfl) ?_)
    | (refine wps_st (by simp) ?_)
    | (refine wps_stA (by simp) (by simp [Value.oneCell']) ?_)
    | ((with_reducible apply wps_val); apply val_ite; rotate_left; refine fun (_ : ¬ _) => ?_; rotate_right; refine fun (_ : _ = true) => ?_)
    | ((with_reducible apply val_ite); rotate_left; refine fun (_ : ¬ _) => ?_; rotate_right; refine fun (_ : _ = true) => ?_)
    | (with_reducible refine wps_regionH ?_)
    | ((with_reducible apply wps_bindV); apply val_iteL; rotate_left; refine fun (_ : ¬ _) => ?_; rotate_right; refine fun (_ : _ = true) => ?_)
    | ((with_reducible apply val_iteL); rotate_left; refine fun (_ : ¬ _) => ?_; rotate_right; refine fun (_ : _ = true) => ?_)
    | (with_reducible exact wps_pure (ent_val rfl)))
  rename_i c7
  refine wps_loop (fun s => ex fun n : Nat => ex fun last : Nat → Option Int => ex fun R : Rk => pr (s = (n : Int) ∧ n ≤ xs.length ∧ Wr R (fun _ => 0) last) * intsP x xs * rackP rb R ds ps * pc c7 (eight (keepW all last))) (fun s => (xs.length - s).toNat) ?_ fun s => ?_
  · refine ent_ex 0 (ent_ex (fun _ => none) (ent_ex (Rk.new 2 4) ?_))
    refine ent_pickC ?_ ?_
    · show _ = eight _
      cases all <;> rfl
    · repeat (first
        | (with_reducible exact ent_drop)
        | (with_reducible refine ent_pick ?_)
        | (refine ent_pickC (by rfl) ?_)
        | (refine ent_pickS (by rfl) ?_)
        | (refine ent_pickM (by rfl) ?_)
        | (refine ent_prx ?_ ?_; rotate_left)
        | (refine ent_prq ?_))
      all_goals first | exact ⟨rfl, by omega, Wr.new⟩ | trivial
  · refine wps_ex fun n => wps_ex fun last => wps_ex fun R => wps_prP fun ⟨hs, hn, hW⟩ => ?_
    refine wps_ite (fun hc => ?_) (fun hc => ?_)
    · have hlt : n < xs.length := by simp only [decide_eq_true_eq] at hc; omega
      refine wps_rdS n xs[n] hs (by simp [zv]) ?_
      obtain ⟨i, hi, e1, e2, e3⟩ := idx7 xs[n]
      rw [e2, e3, e1]
      generalize IntKind.wrap .u8 (w64 (s + 1)) = v
      repeat (first
        | (with_reducible refine wps_bindpure ?_)
        | (with_reducible refine wps_assoc ?_)
        | (with_reducible refine wps_nil ?_)
        | (with_reducible refine wps_stepAlloc fun _ => ?_)
        | (with_reducible refine wps_alloc fun _ => ?_)
        | (with_reducible refine wps_newO fun _ => ?_)
        | (refine wps_ld _ (by rfl) ?_)
        | (refine wps_ldG _ _ _ (by rfl) ?_)
        | (refine wps_ldA _ (by rfl) ?_)
        | (refine wps_ldI _ (by rfl) ?_)
        | (refine wps_ldGI _ _ _ (by rfl) ?_)
        | (refine wps_ldAI _ (by rfl) ?_)
        | (refine wps_st (by simp) ?_)
        | (refine wps_stA (by simp) (by simp [Value.oneCell']) ?_)
        | ((with_reducible apply wps_val); apply val_ite; rotate_left; refine fun (_ : ¬ _) => ?_; rotate_right; refine fun (_ : _ = true) => ?_)
        | ((with_reducible apply val_ite); rotate_left; refine fun (_ : ¬ _) => ?_; rotate_right; refine fun (_ : _ = true) => ?_)
        | (with_reducible refine wps_regionH ?_)
        | ((with_reducible apply wps_bindV); apply val_iteL; rotate_left; refine fun (_ : ¬ _) => ?_; rotate_right; refine fun (_ : _ = true) => ?_)
        | ((with_reducible apply val_iteL); rotate_left; refine fun (_ : ¬ _) => ?_; rotate_right; refine fun (_ : _ = true) => ?_)
        | (with_reducible exact wps_pure (ent_val rfl)))
      rename_i b
      refine wps_idx 0 rfl rfl (by (try dsimp only); omega) ?_
      repeat (first
        | (with_reducible refine wps_bindpure ?_)
        | (with_reducible refine wps_assoc ?_)
        | (with_reducible refine wps_nil ?_)
        | (with_reducible refine wps_stepAlloc fun _ => ?_)
        | (with_reducible refine wps_alloc fun _ => ?_)
        | (with_reducible refine wps_newO fun _ => ?_)
        | (refine wps_ld _ (by rfl) ?_)
        | (refine wps_ldG _ _ _ (by rfl) ?_)
        | (refine wps_ldA _ (by rfl) ?_)
        | (refine wps_ldI _ (by rfl) ?_)
        | (refine wps_ldGI _ _ _ (by rfl) ?_)
        | (refine wps_ldAI _ (by rfl) ?_)
        | (refine wps_st (by simp) ?_)
        | (refine wps_stA (by simp) (by simp [Value.oneCell']) ?_)
        | ((with_reducible apply wps_val); apply val_ite; rotate_left; refine fun (_ : ¬ _) => ?_; rotate_right; refine fun (_ : _ = true) => ?_)
        | ((with_reducible apply val_ite); rotate_left; refine fun (_ : ¬ _) => ?_; rotate_right; refine fun (_ : _ = true) => ?_)
        | (with_reducible refine wps_regionH ?_)
        | ((with_reducible apply wps_bindV); apply val_iteL; rotate_left; refine fun (_ : ¬ _) => ?_; rotate_right; refine fun (_ : _ = true) => ?_)
        | ((with_reducible apply val_iteL); rotate_left; refine fun (_ : ¬ _) => ?_; rotate_right; refine fun (_ : _ = true) => ?_)
        | (with_reducible exact wps_pure (ent_val rfl)))
      refine wps_swap (pc_one (b := b) v) ?_
      have hp := hW.put hi v
      refine wps_call2 (fun _ => device_Rack_Write_spec (H := byt ⟨some ⟨b, 0, none⟩, 64, 64⟩ (one v)) rb R ds ps _ _ _ (one v) (Ent.refl _) (by rw [one_len]; omega)) fun e => ?_
      simp only [← star_assoc]
      refine wps_prP fun he => ?_
      rw [hp.1] at he
      subst he
      refine wps_ite (fun h => absurd h (by decide)) (fun _ => ?_)
      have hend : ∀ W, W = eight (keepW all fun q => if q = i then some v else last q) → Ent (emp * intsP x xs * pc c7 W * byt ⟨some ⟨b, 0, none⟩, 64, 64⟩ (one v) * rackP rb (R.write ((i / 4 : Nat) : Int) ((i % 4 : Nat) : Int) (one v)) ds ps)
          (pr ((xs.length - w64 (s + 1)).toNat < (xs.length - s).toNat) * ex fun n : Nat => ex fun last : Nat → Option Int => ex fun R : Rk => pr (w64 (s + 1) = (n : Int) ∧ n ≤ xs.length ∧ Wr R (fun _ => 0) last) * intsP x xs * rackP rb R ds ps * pc c7 (eight (keepW all last))) := by
        intro W hW'
        refine ent_prr (by rw [range_add1 hs (by omega)]; omega) (ent_ex (n + 1) (ent_ex (fun q => if q = i then some v else last q) (ent_ex (R.write ((i / 4 : Nat) : Int) ((i % 4 : Nat) : Int) (one v)) ?_)))
        refine ent_pickC hW' (ent_pick ?_)
        repeat (first
          | (with_reducible exact ent_drop)
          | (with_reducible refine ent_pick ?_)
          | (refine ent_pickC (by rfl) ?_)
          | (refine ent_pickS (by rfl) ?_)
          | (refine ent_pickM (by rfl) ?_)
          | (refine ent_prx ?_ ?_; rotate_left)
          | (refine ent_prq ?_))
        all_goals first | exact ⟨range_add1 hs (by omega), by omega, hp.2⟩ | trivial
      refine wps_ite (fun hall => ?_) (fun hall => ?_)
      · refine wps_idxA i rfl hi ?_
        refine wps_st (by simp [eight]; omega) (wps_pure ?_)
        refine Ent.trans (Ent.of_eq ?_) (hend _ rfl)
        rw [eight_set _ hi]
        have : (fun q => if q = i then v else keepW all last q) = keepW all fun q => if q = i then some v else last q := by
          funext q; by_cases hq : q = i <;> simp [keepW, hall, hq]
        rw [this]
        ac_rfl
      · refine wps_pure (Ent.trans (Ent.of_eq ?_) (hend _ rfl))
        have : keepW all last = keepW all fun q => if q = i then some v else last q := by
          funext q; simp [keepW, hall]
        rw [this]
    · refine wps_mapR ?_
      refine wps_alloc fun k => ?_
      refine wps_bindS (R := fun b => intsP x xs * rackP rb R ds ps * pc c7 (eight (keepW all last)) * intsP b (if all = true then [3] else [])) ?_ fun b => ?_
      · refine wps_swap (A := pc k []) (B := own 1 ⟨some ⟨k, 0, none⟩, 0, 0⟩ []) (pc_own (n := 0) (z := 1) rfl) ?_
        refine wps_ite (fun hall => ?_) (fun hall => ?_)
        · repeat (first
            | (with_reducible refine wps_bindpure ?_)
            | (with_reducible refine wps_assoc ?_)
            | (with_reducible refine wps_nil ?_)
            | (with_reducible refine wps_stepAlloc fun _ => ?_)
            | (with_reducible refine wps_alloc fun _ => ?_)
            | (with_reducible refine wps_newO fun _ => ?_)
            | (refine wps_ld _ (by rfl) ?_)
            | (refine wps_ldG _ _ _ (by rfl) ?_)
            | (refine wps_ldA _ (by rfl) ?_)
            | (refine wps_ldI _ (by rfl) ?_)
            | (refine wps_ldGI _ _ _ (by rfl) ?_)
            | (refine wps_ldAI _ (by rfl) ?_)
            | (refine wps_st (by simp) ?_)
            | (refine wps_stA (by simp) (by simp [Value.oneCell']) ?_)
            | ((with_reducible apply wps_val); apply val_ite; rotate_left; refine fun (_ : ¬ _) => ?_; rotate_right; refine fun (_ : _ = true) => ?_)
            | ((with_reducible apply val_ite); rotate_left; refine fun (_ : ¬ _) => ?_; rotate_right; refine fun (_ : _ = true) => ?_)
            | (with_reducible refine wps_regionH ?_)
            | ((with_reducible apply wps_bindV); apply val_iteL; rotate_left; refine fun (_ : ¬ _) => ?_; rotate_right; refine fun (_ : _ = true) => ?_)
            | ((with_reducible apply val_iteL); rotate_left; refine fun (_ : ¬ _) => ?_; rotate_right; refine fun (_ : _ = true) => ?_)
            | (with_reducible exact wps_pure (ent_val rfl)))
          refine wps_app 1 [Value.int .i64 3] rfl (by decide) (rsl_pc rfl) (by simp [Value.oneCell']) (by (try dsimp only); omega) fun u hu => ?_
          refine wps_pure ?_
          show Ent _ (_ * intsP u _)
          rw [if_pos hall]
          refine ent_swap (A := own 1 u ([] ++ [Value.int .i64 3])) (B := intsP u [3]) (own_rsl _ _ _) ?_
          repeat (first
            | (with_reducible exact ent_drop)
            | (with_reducible refine ent_pick ?_)
            | (refine ent_pickC (by rfl) ?_)
            | (refine ent_pickS (by rfl) ?_)
            | (refine ent_pickM (by rfl) ?_)
            | (refine ent_prx ?_ ?_; rotate_left)
            | (refine ent_prq ?_))
        · refine wps_pure ?_
          show Ent _ (_ * intsP _ _)
          rw [if_neg hall]
          refine ent_swap (A := own 1 ⟨some ⟨k, 0, none⟩, 0, 0⟩ []) (B := intsP ⟨some ⟨k, 0, none⟩, 0, 0⟩ []) (own_rsl _ _ _) ?_
          repeat (first
            | (with_reducible exact ent_drop)
            | (with_reducible refine ent_pick ?_)
            | (refine ent_pickC (by rfl) ?_)
            | (refine ent_pickS (by rfl) ?_)
            | (refine ent_pickM (by rfl) ?_)
            | (refine ent_prx ?_ ?_; rotate_left)
            | (refine ent_prq ?_))
      · refine wps_call2 (fun _ => device_Rack_Restore_spec (H := intsP b (if all = true then [3] else [])) hcv rb R ds ps b _ (Ent.refl _)) fun _ => ?_
        simp only [← star_assoc]
        refine wps_loop (fun s => ex fun n : Nat => pr (s = (n : Int) ∧ n ≤ 8) * pc c7 (eight (keepW all last)) * rackP rb (R.restore (if all = true then [3] else [])) ds ps) (fun s => (8 - s).toNat) ?_ fun s => ?_
        · refine ent_ex 0 ?_
          repeat (first
            | (with_reducible exact ent_drop)
            | (with_reducible refine ent_pick ?_)
            | (refine ent_pickC (by rfl) ?_)
            | (refine ent_pickS (by rfl) ?_)
            | (refine ent_pickM (by rfl) ?_)
            | (refine ent_prx ?_ ?_; rotate_left)
            | (refine ent_prq ?_))
          all_goals first | exact ⟨rfl, by omega⟩ | trivial
        · refine wps_ex fun n => wps_prP fun ⟨hs, hn⟩ => ?_
          refine wps_ite (fun hc => ?_) (fun hc => ?_)
          · have hlt : n < 8 := by simp only [decide_eq_true_eq] at hc; omega
            obtain ⟨e2, e3⟩ := idx8 hs hlt
            rw [e2, e3]
            obtain ⟨r1, r2⟩ := hW.restore (if all = true then [3] else []) hlt
            refine wps_callH (fun _ => device_Rack_Lasting_spec rb (R.restore (if all = true then [3] else [])) ds ps _ _) fun y => ?_
            rw [r1, r2]
            have hv : (if keepB (if all = true then [3] else []) (rank R n) = true then (last n).getD 0 else 0) = keepW all last n := by
              cases all
              · simp [keep0, keepW]
              · simp [keep3, keepW]
            rw [hv]
            simp only [← star_assoc]
            refine wps_prP fun hy => ?_
            rw [hy]
            refine wps_fact (Ent.trans (ent_right _ _) (own_len _ _ _)) fun ⟨hl1, _⟩ => ?_
            have hl1' : y.1.len = 64 := by simpa [bv, one] using hl1.symm
            refine wps_regionH ?_
            refine wps_ite (fun h => absurd h (by decide)) (fun _ => ?_)
            refine wps_ite (fun h => absurd h (by simp [hl1'])) (fun _ => ?_)
            refine wps_rdI 0 (keepW all last n) (Ent.trans (ent_right _ _) (own_rsl _ _ _)) (Ent.refl _) rfl rfl ?_
            refine wps_idxA n hs hlt ?_
            refine wps_ldI (keepW all last n) (eight_get _ hlt) ?_
            refine wps_ite (fun h => absurd h (by simp)) (fun _ => wps_pure ?_)
            refine ent_prr (by rw [range_add1 hs (by omega)]; omega) (ent_ex (n + 1) ?_)
            repeat (first
              | (with_reducible exact ent_drop)
              | (with_reducible refine ent_pick ?_)
              | (refine ent_pickC (by rfl) ?_)
              | (refine ent_pickS (by rfl) ?_)
              | (refine ent_pickM (by rfl) ?_)
              | (refine ent_prx ?_ ?_; rotate_left)
              | (refine ent_prq ?_))
            all_goals first | exact ⟨range_add1 hs (by omega), by omega⟩ | trivial
          · exact wps_mapR (wps_pure (ent_prq rfl))
end Go.Proofs.Ytldmeimebebllaa
