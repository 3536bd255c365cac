/-
  a part of the proof: what functions of the program do, in a separation logic.
-/
import Derived.Test.YtldmeimebebllaaL06b
namespace Go.Proofs.Ytldmeimebebllaa
open Go.Mo
set_option linter.unusedVariables false
variable {g : Fr} {cv : CV}
def DisksOk (cv : CV) : Prop := ∀ (b : Option Addr) (yv : Value) (Q : Value → World → Prop) (w : World), bank_Bank_disks cv b yv (fun _ w' => Q (.tuple #[]) w') w → cv.enter (.func (.func fid_bank_Bank_disks) #[.pointer b] #[]) #[yv] Q w
theorem wps_enter {H : HP} {m : M Unit} {fv yv : Value} {Q : Value → HP} (hcv : ∀ (Q : Value → World → Prop) (w : World), m (fun _ w' => Q (.tuple #[]) w') w → cv.enter fv #[yv] Q w) (h : wps g H m fun _ => Q (.tuple #[])) : wps g H (cv.enter fv #[yv]) Q :=
  fun w a Qf ho ha hq => hcv Qf w (h w a (fun _ w' => Qf (.tuple #[]) w') ho ha fun x w' a' ho' hb => hq _ w' a' ho' hb)
def disksL (q m : G3) : List Int := (List.range q.1.toNat).map (fun i : Nat => (slotV q m i).1) ++ if m.2.2 = 0 then [q.1] else []
theorem disks_iter (hcv : DisksOk cv) (bb rb : Nat) (q m : G3) (hq : q.1 ≤ 16) : Iter cv (.func (.func fid_bank_Bank_disks) #[.pointer (ptr bb)] #[]) (fun x : Int => #[.int .i64 x]) (disksL q m) (bnk bb rb q m) := by
  intro yv I E hstep g
  refine wps_enter (m := bank_Bank_disks cv (ptr bb) yv) (fun Q w h => hcv _ _ _ _ h) ?_
  unfold bank_Bank_disks
  simp only [Addr.add_add, Nat.reduceAdd]
  repeat (first
    | (with_reducible refine wps_bindpure ?_)
    | (with_reducible refine wps_assoc ?_)
    | (with_reducible refine wps_nil ?_)
    | (with_reducible refine wps_stepAlloc fun _ => ?_)
    | (with_reducible refine wps_alloc fun _ => ?_)
    | (with_reducible refine wps_newO fun _ => ?_)
    | (refine wps_ld _ (by rfl) ?_)
    | (refine wps_ldG _ _ _ (by rfl) ?_)
    | (refine wps_ldA _ (by rfl) ?_)
    | (refine wps_ldI _ (by rfl) ?_)
    | (refine wps_ldGI _ _ _ (by rfl) ?_)
    | (refine wps_ldAI _ (by rfl) ?_)
    | (refine wps_st (by simp) ?_)
    | (refine wps_stA (by simp) (by simp [Value.oneCell']) ?_)
    | ((with_reducible apply wps_val); apply val_ite; rotate_left; refine fun (_ : ¬ _) => ?_; rotate_right; refine fun (_ : _ = true) => ?_)
    | ((with_reducible apply val_ite); rotate_left; refine fun (_ : ¬ _) => ?_; rotate_right; refine fun (_ : _ = true) => ?_)
    | (with_reducible refine wps_regionH ?_)
    | ((with_reducible apply wps_bindV); apply val_iteL; rotate_left; refine fun (_ : ¬ _) => ?_; rotate_right; refine fun (_ : _ = true) => ?_)
    | ((with_reducible apply val_iteL); rotate_left; refine fun (_ : ¬ _) => ?_; rotate_right; refine fun (_ : _ = true) => ?_)
    | (with_reducible exact wps_pure (ent_val rfl)))
  refine wps_loop (fun i => ex fun n : Nat => pr (i = (n : Int) ∧ (n : Int) ≤ max 0 q.1) * (bnk bb rb q m * I n)) (fun i => (q.1 - i).toNat) ?_ fun i => ?_
  · exact ent_ex 0 (ent_prr ⟨rfl, by omega⟩ (Ent.refl _))
  · refine wps_ex fun n => wps_pr fun ⟨hi, hn⟩ => ?_
    refine wps_ite (fun hc => ?_) (fun hc => ?_)
    · have hc' : i < q.1 := by simpa using hc
      refine wps_valH (fun _ => bank_disk_val bb rb q m i) ?_
      have hx : (disksL q m)[n]? = some (slotV q m i).1 := by
        unfold disksL
        rw [List.getElem?_append_left (by simp; omega), List.getElem?_map, List.getElem?_range (by omega)]
        simp [hi]
      refine wps_bind (wps_yield (hstep n _ hx g)) fun y => ?_
      cases y with
      | true =>
        refine wps_ite (fun h => absurd h (by simp)) (fun _ => wps_pure ?_)
        exact ent_prr (by rw [range_add1 hi (by omega)]; omega) (ent_ex (n + 1) (ent_prr ⟨range_add1 hi (by omega), by omega⟩ (Ent.refl _)))
      | false =>
        refine wps_ite (fun _ => wps_mapR (wps_pure ?_)) (fun h => absurd rfl h)
        exact Ent.starr (ent_orr (Ent.refl _))
    · have hc' : ¬ i < q.1 := by simpa using hc
      have hne : n = q.1.toNat := by omega
      refine wps_mapR ?_
      repeat (first
        | (with_reducible refine wps_bindpure ?_)
        | (with_reducible refine wps_assoc ?_)
        | (with_reducible refine wps_nil ?_)
        | (with_reducible refine wps_stepAlloc fun _ => ?_)
        | (with_reducible refine wps_alloc fun _ => ?_)
        | (with_reducible refine wps_newO fun _ => ?_)
        | (refine wps_ld _ (by rfl) ?_)
        | (refine wps_ldG _ _ _ (by rfl) ?_)
        | (refine wps_ldA _ (by rfl) ?_)
        | (refine wps_ldI _ (by rfl) ?_)
        | (refine wps_ldGI _ _ _ (by rfl) ?_)
        | (refine wps_ldAI _ (by rfl) ?_)
        | (refine wps_st (by simp) ?_)
        | (refine wps_stA (by simp) (by simp [Value.oneCell']) ?_)
        | ((with_reducible apply wps_val); apply val_ite; rotate_left; refine fun (_ : ¬ _) => ?_; rotate_right; refine fun (_ : _ = true) => ?_)
        | ((with_reducible apply val_ite); rotate_left; refine fun (_ : ¬ _) => ?_; rotate_right; refine fun (_ : _ = true) => ?_)
        | (with_reducible refine wps_regionH ?_)
        | ((with_reducible apply wps_bindV); apply val_iteL; rotate_left; refine fun (_ : ¬ _) => ?_; rotate_right; refine fun (_ : _ = true) => ?_)
        | ((with_reducible apply val_iteL); rotate_left; refine fun (_ : ¬ _) => ?_; rotate_right; refine fun (_ : _ = true) => ?_)
        | (with_reducible exact wps_pure (ent_val rfl)))
      refine wps_ite (fun h0 => ?_) (fun h0 => ?_)
      · have h0' : m.2.2 = 0 := by simpa using h0
        repeat (first
          | (with_reducible refine wps_bindpure ?_)
          | (with_reducible refine wps_assoc ?_)
          | (with_reducible refine wps_nil ?_)
          | (with_reducible refine wps_stepAlloc fun _ => ?_)
          | (with_reducible refine wps_alloc fun _ => ?_)
          | (with_reducible refine wps_newO fun _ => ?_)
          | (refine wps_ld _ (by rfl) ?_)
          | (refine wps_ldG _ _ _ (by rfl) ?_)
          | (refine wps_ldA _ (by rfl) ?_)
          | (refine wps_ldI _ (by rfl) ?_)
          | (refine wps_ldGI _ _ _ (by rfl) ?_)
          | (refine wps_ldAI _ (by rfl) ?_)
          | (refine wps_st (by simp) ?_)
          | (refine wps_stA (by simp) (by simp [Value.oneCell']) ?_)
          | ((with_reducible apply wps_val); apply val_ite; rotate_left; refine fun (_ : ¬ _) => ?_; rotate_right; refine fun (_ : _ = true) => ?_)
          | ((with_reducible apply val_ite); rotate_left; refine fun (_ : ¬ _) => ?_; rotate_right; refine fun (_ : _ = true) => ?_)
          | (with_reducible refine wps_regionH ?_)
          | ((with_reducible apply wps_bindV); apply val_iteL; rotate_left; refine fun (_ : ¬ _) => ?_; rotate_right; refine fun (_ : _ = true) => ?_)
          | ((with_reducible apply val_iteL); rotate_left; refine fun (_ : ¬ _) => ?_; rotate_right; refine fun (_ : _ = true) => ?_)
          | (with_reducible exact wps_pure (ent_val rfl)))
        have hx : (disksL q m)[n]? = some q.1 := by
          unfold disksL
          rw [List.getElem?_append_right (by simp; omega), if_pos h0']
          simp [hne]
        have hlen : (disksL q m).length = n + 1 := by simp [disksL, h0', hne]
        refine wps_bind (wps_yield (hstep n _ hx g)) fun y => wps_pure ?_
        rw [hlen]
        cases y with
        | true => exact Ent.starr (ent_orl (Ent.refl _))
        | false => exact Ent.starr (ent_orr (Ent.refl _))
      · have h0' : ¬ m.2.2 = 0 := by simpa using h0
        have hlen : (disksL q m).length = n := by simp [disksL, h0', hne]
        refine wps_pure ?_
        rw [hlen]
        exact Ent.starr (ent_orl (Ent.refl _))
end Go.Proofs.Ytldmeimebebllaa
