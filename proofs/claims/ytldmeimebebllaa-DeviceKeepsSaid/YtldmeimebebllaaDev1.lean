/-
  a part of the proof: what functions of the program do, in a separation logic.
-/
import Derived.Test.YtldmeimebebllaaRep
namespace Go.Proofs.Ytldmeimebebllaa
open Go.Mo
set_option linter.unusedVariables false
theorem range_add1 {n : Nat} {i : Int} (h : i = (n : Int)) (h2 : n < 4611686018427387904) : w64 (i + 1) = ((n + 1 : Nat) : Int) := by
  subst h; rw [w64_id] <;> omega

theorem bv_noughts : bv noughts = List.replicate 64 (Value.int .u8 0) := by simp [bv, noughts]
def dwd (p0_disks p1_sectors : Int) (x24 : Nat) : Int → HP := fun i => ex fun ds : Slc => ex fun ps : List Nat =>
  pr (i = (ps.length : Int) ∧ ps.length ≤ p0_disks.toNat ∧ ds.len = ps.length) * bst ps.length (rackF p1_sectors.toNat (fun _ => Dk.new) ps) * own 1 ds (ps.map pv) * pc x24 [vS ds, .int .i64 p1_sectors, .int .i64 (-1), .bool false]
def dws (p1_sectors : Int) (F : HP) (d m : Nat) : Int → HP := fun k => ex fun ls : Slc => ex fun sl : List Slc =>
  pr (k = (sl.length : Int) ∧ sl.length ≤ p1_sectors.toNat ∧ ls.len = sl.length) * F * seqp sl (fun _ => noughts) * imap m (fun _ => none) * own 1 ls (sl.map vS) * pc d [vS ls, .map (some m), .bool false, .int .i64 (-1)]
theorem device_New_spec {g : Fr} (n s : Int) : wps g emp (device_New n s) (fun x =>
    if n < 1 ∨ n > 17 ∨ s < 1 ∨ s > 4096 then pr (x = (none, 10)) else ex fun rb => pr (x = (ptr rb, 0)) * rack rb (Rk.new n.toNat s.toNat)) := by
  unfold device_New
  repeat (first
    | (with_reducible refine wps_bindpure ?_)
    | (with_reducible refine wps_assoc ?_)
    | (with_reducible refine wps_nil ?_)
    | (with_reducible refine wps_stepAlloc fun _ => ?_)
    | (with_reducible refine wps_alloc fun _ => ?_)
    | (with_reducible refine wps_newO fun _ => ?_)
    | (refine wps_ld _ (by rfl) ?_)
    | (refine wps_ldG _ _ _ (by rfl) ?_)
    | (refine wps_ldA _ (by rfl) ?_)
    | (refine wps_ldI _ (by rfl) ?_)
    | (refine wps_ldGI _ _ _ (by rfl) ?_)
    | (refine wps_ldAI _ (by rfl) ?_)
    | (refine wps_st (by simp) ?_)
    | (refine wps_stA (by simp) (by simp [Value.oneCell']) ?_)
    | ((with_reducible apply wps_val); apply val_ite; rotate_left; refine fun (_ : ¬ _) => ?_; rotate_right; refine fun (_ : _ = true) => ?_)
    | ((with_reducible apply val_ite); rotate_left; refine fun (_ : ¬ _) => ?_; rotate_right; refine fun (_ : _ = true) => ?_)
    | (with_reducible refine wps_regionH ?_)
    | ((with_reducible apply wps_bindV); apply val_iteL; rotate_left; refine fun (_ : ¬ _) => ?_; rotate_right; refine fun (_ : _ = true) => ?_)
    | ((with_reducible apply val_iteL); rotate_left; refine fun (_ : ¬ _) => ?_; rotate_right; refine fun (_ : _ = true) => ?_)
    | (with_reducible exact wps_pure (ent_val rfl)))
  refine wps_ite (fun h1 => ?_) (fun h1 => ?_)
  · refine wps_pure ?_
    rw [if_pos]
    · exact fun _ _ => rfl
    · by_cases a1 : n < 1
      · exact .inl a1
      · by_cases a2 : n > 17
        · exact .inr (.inl a2)
        · by_cases a3 : s < 1
          · exact .inr (.inr (.inl a3))
          · by_cases a4 : s > 4096
            · exact .inr (.inr (.inr a4))
            · simp [a1, a2, a3, a4] at h1
  · have hb : ¬ (n < 1 ∨ n > 17 ∨ s < 1 ∨ s > 4096) := by
      intro hx
      apply h1
      rcases hx with a | a | a | a <;> simp [a]
    simp only [if_neg hb]
    obtain ⟨N, rfl⟩ : ∃ N : Nat, n = (N : Int) := ⟨n.toNat, by omega⟩
    obtain ⟨S, rfl⟩ : ∃ S : Nat, s = (S : Int) := ⟨s.toNat, by omega⟩
    have hN : N ≤ 17 := by omega
    have hS : S ≤ 4096 := by omega
    refine wps_alloc fun x24 => ?_
    refine wps_loop (dwd N S x24) (fun i => (N - i).toNat) ?_ fun i => ?_
    · refine ent_ex nilS (ent_ex [] (ent_pickC (by rfl) (ent_own0 ?_)))
      exact ent_prr (by simp [nilS]) (ent_emp _)
    · unfold dwd
      refine wps_ex fun ds => wps_ex fun ps => wps_prP fun ⟨hi, hle, hlen⟩ => ?_
      refine wps_ite (fun h2 => ?_) (fun h2 => ?_)
      · have hlt : ps.length < N := by simp only [decide_eq_true_eq] at h2; omega
        repeat (first
          | (with_reducible refine wps_bindpure ?_)
          | (with_reducible refine wps_assoc ?_)
          | (with_reducible refine wps_nil ?_)
          | (with_reducible refine wps_stepAlloc fun _ => ?_)
          | (with_reducible refine wps_alloc fun _ => ?_)
          | (with_reducible refine wps_newO fun _ => ?_)
          | (refine wps_ld _ (by rfl) ?_)
          | (refine wps_ldG _ _ _ (by rfl) ?_)
          | (refine wps_ldA _ (by rfl) ?_)
          | (refine wps_ldI _ (by rfl) ?_)
          | (refine wps_ldGI _ _ _ (by rfl) ?_)
          | (refine wps_ldAI _ (by rfl) ?_)
          | (refine wps_st (by simp) ?_)
          | (refine wps_stA (by simp) (by simp [Value.oneCell']) ?_)
          | ((with_reducible apply wps_val); apply val_ite; rotate_left; refine fun (_ : ¬ _) => ?_; rotate_right; refine fun (_ : _ = true) => ?_)
          | ((with_reducible apply val_ite); rotate_left; refine fun (_ : ¬ _) => ?_; rotate_right; refine fun (_ : _ = true) => ?_)
          | (with_reducible refine wps_regionH ?_)
          | ((with_reducible apply wps_bindV); apply val_iteL; rotate_left; refine fun (_ : ¬ _) => ?_; rotate_right; refine fun (_ : _ = true) => ?_)
          | ((with_reducible apply val_iteL); rotate_left; refine fun (_ : ¬ _) => ?_; rotate_right; refine fun (_ : _ = true) => ?_)
          | (with_reducible exact wps_pure (ent_val rfl)))
        rename_i m d
        refine wps_loop (dws S (bst ps.length (rackF (S : Int).toNat (fun _ => Dk.new) ps) * own 1 ds (ps.map pv) * pc x24 [vS ds, .int .i64 S, .int .i64 (-1), .bool false]) d m) (fun k => (S - k).toNat) ?_ fun k => ?_
        · refine ent_ex nilS (ent_ex [] (ent_pickC (by rfl) (ent_own0 ?_)))
          refine ent_swap (imap_new m) (ent_pick (ent_pers ?_ (seqp_nil _ _)))
          exact ent_prr (by simp [nilS]) (Ent.of_eq (by simp only [emp_star]))
        · unfold dws
          refine wps_ex fun ls => wps_ex fun sl => wps_prP fun ⟨hk, hsle, hslen⟩ => ?_
          refine wps_ite (fun h3 => ?_) (fun h3 => ?_)
          · have hslt : sl.length < S := by simp only [decide_eq_true_eq] at h3; omega
            repeat (first
              | (with_reducible refine wps_bindpure ?_)
              | (with_reducible refine wps_assoc ?_)
              | (with_reducible refine wps_nil ?_)
              | (with_reducible refine wps_stepAlloc fun _ => ?_)
              | (with_reducible refine wps_alloc fun _ => ?_)
              | (with_reducible refine wps_newO fun _ => ?_)
              | (refine wps_ld _ (by rfl) ?_)
              | (refine wps_ldG _ _ _ (by rfl) ?_)
              | (refine wps_ldA _ (by rfl) ?_)
              | (refine wps_ldI _ (by rfl) ?_)
              | (refine wps_ldGI _ _ _ (by rfl) ?_)
              | (refine wps_ldAI _ (by rfl) ?_)
              | (refine wps_st (by simp) ?_)
              | (refine wps_stA (by simp) (by simp [Value.oneCell']) ?_)
              | ((with_reducible apply wps_val); apply val_ite; rotate_left; refine fun (_ : ¬ _) => ?_; rotate_right; refine fun (_ : _ = true) => ?_)
              | ((with_reducible apply val_ite); rotate_left; refine fun (_ : ¬ _) => ?_; rotate_right; refine fun (_ : _ = true) => ?_)
              | (with_reducible refine wps_regionH ?_)
              | ((with_reducible apply wps_bindV); apply val_iteL; rotate_left; refine fun (_ : ¬ _) => ?_; rotate_right; refine fun (_ : _ = true) => ?_)
              | ((with_reducible apply val_iteL); rotate_left; refine fun (_ : ¬ _) => ?_; rotate_right; refine fun (_ : _ = true) => ?_)
              | (with_reducible exact wps_pure (ent_val rfl)))
            rename_i x c
            refine wps_app 1 [Value.slice (some ⟨x, 0, none⟩) 64 64] rfl (by decide) (rsl_pc rfl) (by simp [Value.oneCell']) (by (try dsimp only); omega) fun ls' hls => ?_
            repeat (first
              | (with_reducible refine wps_bindpure ?_)
              | (with_reducible refine wps_assoc ?_)
              | (with_reducible refine wps_nil ?_)
              | (with_reducible refine wps_stepAlloc fun _ => ?_)
              | (with_reducible refine wps_alloc fun _ => ?_)
              | (with_reducible refine wps_newO fun _ => ?_)
              | (refine wps_ld _ (by rfl) ?_)
              | (refine wps_ldG _ _ _ (by rfl) ?_)
              | (refine wps_ldA _ (by rfl) ?_)
              | (refine wps_ldI _ (by rfl) ?_)
              | (refine wps_ldGI _ _ _ (by rfl) ?_)
              | (refine wps_ldAI _ (by rfl) ?_)
              | (refine wps_st (by simp) ?_)
              | (refine wps_stA (by simp) (by simp [Value.oneCell']) ?_)
              | ((with_reducible apply wps_val); apply val_ite; rotate_left; refine fun (_ : ¬ _) => ?_; rotate_right; refine fun (_ : _ = true) => ?_)
              | ((with_reducible apply val_ite); rotate_left; refine fun (_ : ¬ _) => ?_; rotate_right; refine fun (_ : _ = true) => ?_)
              | (with_reducible refine wps_regionH ?_)
              | ((with_reducible apply wps_bindV); apply val_iteL; rotate_left; refine fun (_ : ¬ _) => ?_; rotate_right; refine fun (_ : _ = true) => ?_)
              | ((with_reducible apply val_iteL); rotate_left; refine fun (_ : ¬ _) => ?_; rotate_right; refine fun (_ : _ = true) => ?_)
              | (with_reducible exact wps_pure (ent_val rfl)))
            refine wps_pure (ent_prr (by rw [range_add1 hk (by omega)]; omega) (ent_ex ls' (ent_ex (sl ++ [⟨some ⟨x, 0, none⟩, 64, 64⟩]) (ent_pickC (by rfl) (ent_pickS (by simp [vS]) (ent_pickM rfl ?_))))))
            refine ent_swap (A := pc x (List.replicate 64 (Value.int .u8 0))) (B := byt ⟨some ⟨x, 0, none⟩, 64, 64⟩ noughts) (Ent.trans (Ent.trans (pc_own (n := 64) (z := 1) (by simp)) (own_rsl _ _ _)) (Ent.of_eq (by rw [byt, bv_noughts]))) ?_
            exact ent_join (A := seqp sl fun _ => noughts) (B := byt ⟨some ⟨x, 0, none⟩, 64, 64⟩ noughts) (seqp_snoc (ent_left _ _) (ent_right _ _)) (ent_prr ⟨by rw [range_add1 hk (by omega)]; simp, by simp; omega, by simp [hls, hslen]⟩ ent_drop)
          · have hse : sl.length = S := by simp only [decide_eq_true_eq] at h3; omega
            refine wps_mapR ?_
            repeat (first
              | (with_reducible refine wps_bindpure ?_)
              | (with_reducible refine wps_assoc ?_)
              | (with_reducible refine wps_nil ?_)
              | (with_reducible refine wps_stepAlloc fun _ => ?_)
              | (with_reducible refine wps_alloc fun _ => ?_)
              | (with_reducible refine wps_newO fun _ => ?_)
              | (refine wps_ld _ (by rfl) ?_)
              | (refine wps_ldG _ _ _ (by rfl) ?_)
              | (refine wps_ldA _ (by rfl) ?_)
              | (refine wps_ldI _ (by rfl) ?_)
              | (refine wps_ldGI _ _ _ (by rfl) ?_)
              | (refine wps_ldAI _ (by rfl) ?_)
              | (refine wps_st (by simp) ?_)
              | (refine wps_stA (by simp) (by simp [Value.oneCell']) ?_)
              | ((with_reducible apply wps_val); apply val_ite; rotate_left; refine fun (_ : ¬ _) => ?_; rotate_right; refine fun (_ : _ = true) => ?_)
              | ((with_reducible apply val_ite); rotate_left; refine fun (_ : ¬ _) => ?_; rotate_right; refine fun (_ : _ = true) => ?_)
              | (with_reducible refine wps_regionH ?_)
              | ((with_reducible apply wps_bindV); apply val_iteL; rotate_left; refine fun (_ : ¬ _) => ?_; rotate_right; refine fun (_ : _ = true) => ?_)
              | ((with_reducible apply val_iteL); rotate_left; refine fun (_ : ¬ _) => ?_; rotate_right; refine fun (_ : _ = true) => ?_)
              | (with_reducible exact wps_pure (ent_val rfl)))
            rename_i c
            refine wps_app 1 [pv d] rfl (by decide) (rsl_pc rfl) (by simp [Value.oneCell', pv]) (by (try dsimp only); omega) fun ds' hds => ?_
            repeat (first
              | (with_reducible refine wps_bindpure ?_)
              | (with_reducible refine wps_assoc ?_)
              | (with_reducible refine wps_nil ?_)
              | (with_reducible refine wps_stepAlloc fun _ => ?_)
              | (with_reducible refine wps_alloc fun _ => ?_)
              | (with_reducible refine wps_newO fun _ => ?_)
              | (refine wps_ld _ (by rfl) ?_)
              | (refine wps_ldG _ _ _ (by rfl) ?_)
              | (refine wps_ldA _ (by rfl) ?_)
              | (refine wps_ldI _ (by rfl) ?_)
              | (refine wps_ldGI _ _ _ (by rfl) ?_)
              | (refine wps_ldAI _ (by rfl) ?_)
              | (refine wps_st (by simp) ?_)
              | (refine wps_stA (by simp) (by simp [Value.oneCell']) ?_)
              | ((with_reducible apply wps_val); apply val_ite; rotate_left; refine fun (_ : ¬ _) => ?_; rotate_right; refine fun (_ : _ = true) => ?_)
              | ((with_reducible apply val_ite); rotate_left; refine fun (_ : ¬ _) => ?_; rotate_right; refine fun (_ : _ = true) => ?_)
              | (with_reducible refine wps_regionH ?_)
              | ((with_reducible apply wps_bindV); apply val_iteL; rotate_left; refine fun (_ : ¬ _) => ?_; rotate_right; refine fun (_ : _ = true) => ?_)
              | ((with_reducible apply val_iteL); rotate_left; refine fun (_ : ¬ _) => ?_; rotate_right; refine fun (_ : _ = true) => ?_)
              | (with_reducible exact wps_pure (ent_val rfl)))
            refine wps_pure (ent_prr (by rw [range_add1 hi (by omega)]; omega) (ent_ex ds' (ent_ex (ps ++ [d]) (ent_pickC (by rfl) (ent_pickS (by simp [pv]) ?_)))))
            have hdk : Ent (seqp sl (fun _ => noughts) * imap m (fun _ => none) * own 1 ls (sl.map vS) * pc d [vS ls, .map (some m), .bool false, .int .i64 (-1)]) (dskAt S d Dk.new) := by
              refine ent_ex ls (ent_ex m (ent_ex sl (ent_ex (fun _ => nilS) (ent_pickC (by rfl) (ent_pick (ent_pickM (by rfl) ?_))))))
              refine ent_prr ⟨hse, by omega, fun k _ => by simp [Dk.new, noughts], fun j b hj => by cases hj⟩ ?_
              exact ent_pers (Ent.refl _) (cachep_nil _ _)
            have hbb : bst (ps ++ [d]).length (rackF (S : Int).toNat (fun _ => Dk.new) (ps ++ [d])) = bst ps.length (rackF (S : Int).toNat (fun _ => Dk.new) ps) * dskAt S d Dk.new := by
              rw [List.length_append, List.length_singleton]
              simp only [bst]
              congr 1
              · exact bst_congr fun i hi => by simp [rackF, List.getD_eq_getElem?_getD, List.getElem?_append_left hi]
              · simp [rackF, List.getD_eq_getElem?_getD]
            rw [hbb]
            refine ent_prr ⟨by rw [range_add1 hi (by omega)]; simp, by simp; omega, by simp [hds, hlen]⟩ ?_
            refine Ent.trans (B := bst ps.length (rackF (S : Int).toNat (fun _ => Dk.new) ps) * (seqp sl (fun _ => noughts) * imap m (fun _ => none) * own 1 ls (sl.map vS) * pc d [vS ls, .map (some m), .bool false, .int .i64 (-1)])) ?_ (Ent.starr hdk)
            simp only [← star_assoc]
            refine ent_pick (ent_pick (ent_pick (ent_pick (ent_drop))))
      · have hpe : ps.length = N := by simp only [decide_eq_true_eq] at h2; omega
        refine wps_mapR (wps_pure (ent_ex x24 (ent_prr rfl (ent_ex ds (ent_ex ps (ent_pickC (by rfl) (ent_pick ?_)))))))
        exact ent_prr ⟨hpe, by rw [hlen, hpe]; rfl, hN, hS⟩ (by subst hpe; exact ent_pick1 (A := bst ps.length (rackF (S : Int).toNat (fun _ => Dk.new) ps)))
end Go.Proofs.Ytldmeimebebllaa
