/-
  a part of the proof: what functions of the program do, in a separation logic.
-/
import Derived.Test.YtldmeimebebllaaL06c
import Derived.Test.YtldmeimebebllaaMoSL6
namespace Go.Proofs.Ytldmeimebebllaa
open Go.Mo
set_option linter.unusedVariables false
variable {g : Fr}
/-- what is cached lasts, where p says so -/
def Dk.flushed (D : Dk) (p : Int → Bool) : Dk := { D with lasts := fun k => match D.cached k with | some b => if p k then b else D.lasts k | none => D.lasts k }
def Dk.clean (D : Dk) : Dk := { D with cached := fun _ => none }
theorem Dk.ok_flushed {D : Dk} {ns : Nat} (h : D.ok ns) (p : Int → Bool) : (D.flushed p).ok ns := by
  refine ⟨fun k hk => ?_, h.2⟩
  simp only [Dk.flushed]
  cases hc : D.cached k with
  | none => exact h.1 k hk
  | some b =>
    simp only
    split
    · exact (h.2 k b hc).1
    · exact h.1 k hk
def Rk.setD (R : Rk) (j : Nat) (D : Dk) : Rk := { R with dk := fun i => if i = j then D else R.dk i }
def Rk.flush (R : Rk) (k : Int) : Rk := if R.gate k 0 64 = 0 then (R.gated k 0 64).setD k.toNat (((R.gated k 0 64).dk k.toNat).flushed fun _ => true).clean else R.gated k 0 64
theorem rackP_set {rb : Nat} {R : Rk} {ds : Slc} {ps : List Nat} {j : Nat} (D : Dk) (hj : j < R.n) :
    pr (ps.length = R.n ∧ ds.len = R.n ∧ R.n ≤ 17 ∧ R.ns ≤ 4096) * bst R.n (hole j (rackF R.ns R.dk ps)) * own 1 ds (ps.map pv) * pc rb [vS ds, .int .i64 R.ns, .int .i64 R.count, .bool R.off] * dskAt R.ns (ps.getD j 0) D = rackP rb (R.setD j D) ds ps := by
  rw [rackP_focus rb (R.setD j D) ds ps (j := j) hj]
  have hho : bst R.n (hole j (rackF R.ns R.dk ps)) = bst R.n (hole j (rackF R.ns (R.setD j D).dk ps)) := hole_congr fun i _ hne => by
    simp only [rackF, Rk.setD, if_neg hne]
  rw [hho]
  simp only [Rk.setD, if_true]
theorem device_Rack_Flush_spec (rb : Nat) (R : Rk) (ds : Slc) (ps : List Nat) (k : Int) :
    wps g (rackP rb R ds ps) (device_Rack_Flush (ptr rb) k) (fun e => pr (e = R.gate k 0 64) * rackP rb (R.flush k) ds ps) := by
  unfold device_Rack_Flush
  refine wps_bind (device_Rack_counted_spec rb R ds ps k 0 64) fun x => wps_pr fun hx => ?_
  subst hx
  by_cases h0 : R.gate k 0 64 = 0
  · obtain ⟨ho, hr, hs, hc, hgd⟩ := gate_ok h0
    refine wps_ite (fun _ => ?_) (fun h => absurd (by simp [gateV, h0]) h)
    have hlt : k.toNat < (R.gated k 0 64).n := by rw [hgd]; simp [Rk.ticked, hc]; omega
    have hfl : R.flush k = (R.gated k 0 64).setD k.toNat (((R.gated k 0 64).dk k.toNat).flushed fun _ => true).clean := by rw [Rk.flush, if_pos h0]
    have hgv : (gateV R ps k 0 64).1 = ptr (ps.getD k.toNat 0) := by simp [gateV, h0]
    have hgv2 : (gateV R ps k 0 64).2 = R.gate k 0 64 := rfl
    rw [hfl, hgv, hgv2, ← rackP_set _ hlt, rackP_focus rb (R.gated k 0 64) ds ps hlt]
    generalize R.gated k 0 64 = R1 at *
    generalize R1.dk k.toNat = D at *
    refine wps_tail (F := pr (ps.length = R1.n ∧ ds.len = R1.n ∧ R1.n ≤ 17 ∧ R1.ns ≤ 4096) * bst R1.n (hole k.toNat (rackF R1.ns R1.dk ps)) * own 1 ds (ps.map pv) * pc rb [vS ds, .int .i64 R1.ns, .int .i64 R1.count, .bool R1.off])
      (A := dskAt R1.ns (ps.getD k.toNat 0) D) (Q' := fun e => pr (e = R.gate k 0 64) * dskAt R1.ns (ps.getD k.toNat 0) (D.flushed fun _ => true).clean) (fun g => ?_) (Ent.refl _) (fun e => by rw [star_left_comm]; exact Ent.refl _)
    generalize ps.getD k.toNat 0 = p
    generalize R.gate k 0 64 = e0
    unfold dskAt dskX
    refine wps_ex fun ls => wps_ex fun mb => wps_ex fun sl => wps_ex fun sc => wps_prP fun hd => ?_
    repeat (first
      | (with_reducible refine wps_bindpure ?_)
      | (with_reducible refine wps_assoc ?_)
      | (with_reducible refine wps_nil ?_)
      | (with_reducible refine wps_stepAlloc fun _ => ?_)
      | (with_reducible refine wps_alloc fun _ => ?_)
      | (with_reducible refine wps_newO fun _ => ?_)
      | (refine wps_ld _ (by rfl) ?_)
      | (refine wps_ldG _ _ _ (by rfl) ?_)
      | (refine wps_ldA _ (by rfl) ?_)
      | (refine wps_ldI _ (by rfl) ?_)
      | (refine wps_ldGI _ _ _ (by rfl) ?_)
      | (refine wps_ldAI _ (by rfl) ?_)
      | (refine wps_st (by simp) ?_)
      | (refine wps_stA (by simp) (by simp [Value.oneCell']) ?_)
      | ((with_reducible apply wps_val); apply val_ite; rotate_left; refine fun (_ : ¬ _) => ?_; rotate_right; refine fun (_ : _ = true) => ?_)
      | ((with_reducible apply val_ite); rotate_left; refine fun (_ : ¬ _) => ?_; rotate_right; refine fun (_ : _ = true) => ?_)
      | (with_reducible refine wps_regionH ?_)
      | ((with_reducible apply wps_bindV); apply val_iteL; rotate_left; refine fun (_ : ¬ _) => ?_; rotate_right; refine fun (_ : _ = true) => ?_)
      | ((with_reducible apply val_iteL); rotate_left; refine fun (_ : ¬ _) => ?_; rotate_right; refine fun (_ : _ = true) => ?_)
      | (with_reducible exact wps_pure (ent_val rfl)))
    refine wps_rangeMap fun it => ?_
    have hD : D.ok R1.ns := hd.2.2
    refine wps_loopg (γ := (Int → Bool) × List Slc) (fun c _ => pr (c.2.length = R1.ns) * seqp c.2 (D.flushed c.1).lasts * cachep sc D.cached * own 1 ls (c.2.map vS) * pc p [vS ls, .map (some mb), .bool D.failed, .int .i64 D.count] * itr it mb (fun j => Option.map (fun _ => vS (sc j)) (D.cached j)) c.1) (fun c _ => toCome R1.ns c.1) (fun _ => false, sl) ?_ fun c _ => ?_
    · refine ent_pick (ent_pick (ent_pick (ent_pick ?_)))
      refine ent_prr hd.1 (Ent.trans (ent_drop (B := seqp sl D.lasts)) (seqp_ext fun i _ => ?_))
      simp only [Dk.flushed]
      cases D.cached i <;> rfl
    · obtain ⟨V, sl'⟩ := c
      simp only
      refine wps_prP fun hsl => ?_
      refine wps_next rfl (fun hall => ?_) (fun j v hj hV => ?_)
      · refine wps_mapR ?_
        repeat (first
          | (with_reducible refine wps_bindpure ?_)
          | (with_reducible refine wps_assoc ?_)
          | (with_reducible refine wps_nil ?_)
          | (with_reducible refine wps_stepAlloc fun _ => ?_)
          | (with_reducible refine wps_alloc fun _ => ?_)
          | (with_reducible refine wps_newO fun _ => ?_)
          | (refine wps_ld _ (by rfl) ?_)
          | (refine wps_ldG _ _ _ (by rfl) ?_)
          | (refine wps_ldA _ (by rfl) ?_)
          | (refine wps_ldI _ (by rfl) ?_)
          | (refine wps_ldGI _ _ _ (by rfl) ?_)
          | (refine wps_ldAI _ (by rfl) ?_)
          | (refine wps_st (by simp) ?_)
          | (refine wps_stA (by simp) (by simp [Value.oneCell']) ?_)
          | ((with_reducible apply wps_val); apply val_ite; rotate_left; refine fun (_ : ¬ _) => ?_; rotate_right; refine fun (_ : _ = true) => ?_)
          | ((with_reducible apply val_ite); rotate_left; refine fun (_ : ¬ _) => ?_; rotate_right; refine fun (_ : _ = true) => ?_)
          | (with_reducible refine wps_regionH ?_)
          | ((with_reducible apply wps_bindV); apply val_iteL; rotate_left; refine fun (_ : ¬ _) => ?_; rotate_right; refine fun (_ : _ = true) => ?_)
          | ((with_reducible apply val_iteL); rotate_left; refine fun (_ : ¬ _) => ?_; rotate_right; refine fun (_ : _ = true) => ?_)
          | (with_reducible exact wps_pure (ent_val rfl)))
        refine wps_swap (itr_imap it mb (fun j => Option.map (fun _ => vS (sc j)) (D.cached j)) V) (wps_clearS (wps_pure ?_))
        refine ent_prr rfl (ent_ex ls (ent_ex mb (ent_ex sl' (ent_ex sc ?_))))
        simp only [← star_assoc]
        refine ent_pickC (by rfl) (ent_pick (ent_pickM rfl (ent_pers ?_ (cachep_nil _ _))))
        refine ent_prr ⟨hsl, hd.2.1, ?_⟩ (Ent.trans (ent_drop (B := seqp sl' (D.flushed V).lasts)) (seqp_ext fun i _ => ?_))
        · exact ⟨(Dk.ok_flushed hD fun _ => true).1, fun j b h => by cases h⟩
        · show (D.flushed V).lasts i = (D.flushed fun _ => true).lasts i
          simp only [Dk.flushed]
          cases hci : D.cached i with
          | none => rfl
          | some b =>
            have := hall i (vS (sc i)) (by rw [hci]; rfl)
            simp [this]
      · cases hcj : D.cached j with
        | none => rw [hcj] at hj; cases hj
        | some b =>
          rw [hcj] at hj
          have hv : v = vS (sc j) := (Option.some.inj hj).symm
          obtain ⟨hb, hj0, hjn⟩ := hD.2 j b hcj
          refine wps_entry (sc j) rfl hv ?_
          repeat (first
            | (with_reducible refine wps_bindpure ?_)
            | (with_reducible refine wps_assoc ?_)
            | (with_reducible refine wps_nil ?_)
            | (with_reducible refine wps_stepAlloc fun _ => ?_)
            | (with_reducible refine wps_alloc fun _ => ?_)
            | (with_reducible refine wps_newO fun _ => ?_)
            | (refine wps_ld _ (by rfl) ?_)
            | (refine wps_ldG _ _ _ (by rfl) ?_)
            | (refine wps_ldA _ (by rfl) ?_)
            | (refine wps_ldI _ (by rfl) ?_)
            | (refine wps_ldGI _ _ _ (by rfl) ?_)
            | (refine wps_ldAI _ (by rfl) ?_)
            | (refine wps_st (by simp) ?_)
            | (refine wps_stA (by simp) (by simp [Value.oneCell']) ?_)
            | ((with_reducible apply wps_val); apply val_ite; rotate_left; refine fun (_ : ¬ _) => ?_; rotate_right; refine fun (_ : _ = true) => ?_)
            | ((with_reducible apply val_ite); rotate_left; refine fun (_ : ¬ _) => ?_; rotate_right; refine fun (_ : _ = true) => ?_)
            | (with_reducible refine wps_regionH ?_)
            | ((with_reducible apply wps_bindV); apply val_iteL; rotate_left; refine fun (_ : ¬ _) => ?_; rotate_right; refine fun (_ : _ = true) => ?_)
            | ((with_reducible apply val_iteL); rotate_left; refine fun (_ : ¬ _) => ?_; rotate_right; refine fun (_ : _ = true) => ?_)
            | (with_reducible exact wps_pure (ent_val rfl)))
          refine wps_wrS j.toNat (by simp; omega) (by omega) ?_
          refine wps_pure ?_
          refine Ent.trans ?_ (ent_ex (fun i => V i || i == j, sl'.set j.toNat (sc j)) (ent_prr (toCome_lt ⟨hj0, hjn⟩ hV) (Ent.refl _)))
          simp only
          refine ent_pick (ent_pick (ent_pickS (by rw [List.map_set]; rfl) ?_))
          refine ent_and (ent_prr (by simpa using hsl) (Ent.trans (seqp_set (k := j.toNat) (ent_drop (B := seqp sl' (D.flushed V).lasts)) (Ent.trans (ent_drop (B := cachep sc D.cached)) (cachep_get hcj))) (seqp_ext fun i _ => ?_))) ent_drop
          simp only [Dk.flushed]
          by_cases hij : i = j.toNat
          · have hij' : (i : Int) = j := by omega
            rw [if_pos hij, hij', hcj]
            simp
          · have hij' : ¬ (i : Int) = j := by omega
            rw [if_neg hij]
            cases D.cached i with
            | none => rfl
            | some b2 => simp [hij']
  · refine wps_ite (fun h => absurd (by simpa [gateV] using h) h0) (fun _ => wps_pure ?_)
    rw [Rk.flush, if_neg h0]
    exact ent_prr rfl (Ent.refl _)
end Go.Proofs.Ytldmeimebebllaa
