/-
  a part of the proof: what functions of the program do, in a separation logic.
-/
import Derived.Test.YtldmeimebebllaaDev3
import Derived.Test.YtldmeimebebllaaKeys
namespace Go.Proofs.Ytldmeimebebllaa
open Go.Mo
set_option linter.unusedVariables false
variable {g : Fr} {cv : CV}
def zv (b : List Int) : List Value := b.map (Value.int .i64)
def intsP (s : Slc) (b : List Int) : HP := rsl 1 s (zv b)
instance (s : Slc) (b : List Int) : Pers (intsP s b) := by unfold intsP; infer_instance
instance (s : Slc) (b : List Int) : RdS 1 s (intsP s b) (zv b) := ⟨Ent.refl _⟩
instance (s : Slc) (b : List Int) : RdS 1 s (byt s b) (bv b) := ⟨Ent.refl _⟩
theorem zv_one (b : List Int) : ∀ v ∈ zv b, v.oneCell' = true := by
  intro v hv
  simp only [zv, List.mem_map] at hv
  obtain ⟨n, _, rfl⟩ := hv
  rfl
theorem ilen_of {H : HP} {s : Slc} {b : List Int} (h : Ent H (intsP s b)) : Ent H (pr (b.length = s.len)) := Ent.trans h (Ent.trans (rsl_len 1 s (zv b)) fun o ho => by
  have : (zv b).length = s.len * 1 := ho
  show b.length = s.len
  simpa [zv] using this)
theorem cap_of {H : HP} {z : Nat} {s : Slc} {cs : List Value} (h : Ent H (rsl z s cs)) : Ent H (pr (s.len ≤ s.cap)) := Ent.trans h fun o ho => by
  rcases ho with ho | ⟨ad, all, ho⟩
  · show s.len ≤ s.cap
    have := ho.1
    omega
  · exact (ent_left _ _ o ho).2.2.1
theorem val_lookS {β : Type} {enc : β → Value} {z : β} {m : Nat} {j : Int} {f : Int → Option Value} {H H' : HP} [hp : PickM m H f H'] (c : Option β) (hc : f j = c.map enc) : Val g H (lookM enc z (some m) j) (match c with | some y => (y, true) | none => (z, false)) := by
  have := wps_lookS (hp := hp) (g := g) (enc := enc) (z := z) (k := fun y => pureM y) (Q := fun x => pr (x = match c with | some y => (y, true) | none => (z, false)) * H) (H := H) c hc (wps_pure (ent_pr rfl))
  exact this
/-! Arm, Off, Lasting, Load -/
def Rk.arm (R : Rk) (c : Int) : Rk := { R with count := maxI c (-1) }
theorem device_Rack_Arm_spec (rb : Nat) (R : Rk) (ds : Slc) (ps : List Nat) (c : Int) : wps g (rackP rb R ds ps) (device_Rack_Arm (ptr rb) c) (fun _ => rackP rb (R.arm c) ds ps) := by
  unfold device_Rack_Arm rackP
  repeat (first
    | (with_reducible refine wps_bindpure ?_)
    | (with_reducible refine wps_assoc ?_)
    | (with_reducible refine wps_nil ?_)
    | (with_reducible refine wps_stepAlloc fun _ => ?_)
    | (with_reducible refine wps_alloc fun _ => ?_)
    | (with_reducible refine wps_newO fun _ => ?_)
    | (refine wps_ld _ (by rfl) ?_)
    | (refine wps_ldG _ _ _ (by rfl) ?_)
    | (refine wps_ldA _ (by rfl) ?_)
    | (refine wps_ldI _ (by rfl) ?_)
    | (refine wps_ldGI _ _ _ (by rfl) ?_)
    | (refine wps_ldAI _ (by rfl) ?_)
    | (refine wps_st (by simp) ?_)
    | (refine wps_stA (by simp) (by simp [Value.oneCell']) ?_)
    | ((with_reducible apply wps_val); apply val_ite; rotate_left; refine fun (_ : ¬ _) => ?_; rotate_right; refine fun (_ : _ = true) => ?_)
    | ((with_reducible apply val_ite); rotate_left; refine fun (_ : ¬ _) => ?_; rotate_right; refine fun (_ : _ = true) => ?_)
    | (with_reducible refine wps_regionH ?_)
    | ((with_reducible apply wps_bindV); apply val_iteL; rotate_left; refine fun (_ : ¬ _) => ?_; rotate_right; refine fun (_ : _ = true) => ?_)
    | ((with_reducible apply val_iteL); rotate_left; refine fun (_ : ¬ _) => ?_; rotate_right; refine fun (_ : _ = true) => ?_)
    | (with_reducible exact wps_pure (ent_val rfl)))
  refine wps_pure ?_
  simp only [Rk.arm]
  repeat (first
    | (with_reducible exact ent_drop)
    | (with_reducible refine ent_pick ?_)
    | (refine ent_pickC (by rfl) ?_)
    | (refine ent_pickS (by rfl) ?_)
    | (refine ent_pickM (by rfl) ?_)
    | (refine ent_prx ?_ ?_; rotate_left)
    | (refine ent_prq ?_))
theorem device_Rack_Off_val (rb : Nat) (R : Rk) (ds : Slc) (ps : List Nat) : Val g (rackP rb R ds ps) (device_Rack_Off (ptr rb)) R.off := by
  unfold device_Rack_Off rackP
  repeat (first
    | (with_reducible refine wps_bindpure ?_)
    | (with_reducible refine wps_assoc ?_)
    | (with_reducible refine wps_nil ?_)
    | (with_reducible refine wps_stepAlloc fun _ => ?_)
    | (with_reducible refine wps_alloc fun _ => ?_)
    | (with_reducible refine wps_newO fun _ => ?_)
    | (refine wps_ld _ (by rfl) ?_)
    | (refine wps_ldG _ _ _ (by rfl) ?_)
    | (refine wps_ldA _ (by rfl) ?_)
    | (refine wps_ldI _ (by rfl) ?_)
    | (refine wps_ldGI _ _ _ (by rfl) ?_)
    | (refine wps_ldAI _ (by rfl) ?_)
    | (refine wps_st (by simp) ?_)
    | (refine wps_stA (by simp) (by simp [Value.oneCell']) ?_)
    | ((with_reducible apply wps_val); apply val_ite; rotate_left; refine fun (_ : ¬ _) => ?_; rotate_right; refine fun (_ : _ = true) => ?_)
    | ((with_reducible apply val_ite); rotate_left; refine fun (_ : ¬ _) => ?_; rotate_right; refine fun (_ : _ = true) => ?_)
    | (with_reducible refine wps_regionH ?_)
    | ((with_reducible apply wps_bindV); apply val_iteL; rotate_left; refine fun (_ : ¬ _) => ?_; rotate_right; refine fun (_ : _ = true) => ?_)
    | ((with_reducible apply val_iteL); rotate_left; refine fun (_ : ¬ _) => ?_; rotate_right; refine fun (_ : _ = true) => ?_)
    | (with_reducible exact wps_pure (ent_val rfl)))
def Rk.lErr (R : Rk) (k s : Int) : Int := if k < 0 ∨ k ≥ R.n ∨ s < 0 ∨ s ≥ R.ns then 11 else 0
def Rk.lst (R : Rk) (k s : Int) : List Int := if R.lErr k s = 0 then (R.dk k.toNat).lasts s.toNat else []
theorem device_Rack_Lasting_spec (rb : Nat) (R : Rk) (ds : Slc) (ps : List Nat) (k s : Int) :
    wps g (rackP rb R ds ps) (device_Rack_Lasting (ptr rb) k s) (fun x => pr (x.2 = R.lErr k s) * rackP rb R ds ps * own 1 x.1 (bv (R.lst k s))) := by
  unfold device_Rack_Lasting
  have hp : Ent (rackP rb R ds ps) (pr (ps.length = R.n ∧ ds.len = R.n ∧ R.n ≤ 17 ∧ R.ns ≤ 4096)) := Ent.trans (ent_left _ _) (Ent.trans (ent_left _ _) (ent_left _ _))
  refine wps_fact hp fun ⟨h1, h2, h17, hns⟩ => ?_
  refine wps_val (v := if k < 0 then true else decide (k ≥ (ds.len : Int))) ?_ ?_
  · unfold rackP
    refine val_eq (u := if decide (k < 0) = true then true else decide (k ≥ (ds.len : Int))) ?_ (by by_cases h : k < 0 <;> simp [h])
    repeat (first
      | (with_reducible refine wps_bindpure ?_)
      | (with_reducible refine wps_assoc ?_)
      | (with_reducible refine wps_nil ?_)
      | (with_reducible refine wps_stepAlloc fun _ => ?_)
      | (with_reducible refine wps_alloc fun _ => ?_)
      | (with_reducible refine wps_newO fun _ => ?_)
      | (refine wps_ld _ (by rfl) ?_)
      | (refine wps_ldG _ _ _ (by rfl) ?_)
      | (refine wps_ldA _ (by rfl) ?_)
      | (refine wps_ldI _ (by rfl) ?_)
      | (refine wps_ldGI _ _ _ (by rfl) ?_)
      | (refine wps_ldAI _ (by rfl) ?_)
      | (refine wps_st (by simp) ?_)
      | (refine wps_stA (by simp) (by simp [Value.oneCell']) ?_)
      | ((with_reducible apply wps_val); apply val_ite; rotate_left; refine fun (_ : ¬ _) => ?_; rotate_right; refine fun (_ : _ = true) => ?_)
      | ((with_reducible apply val_ite); rotate_left; refine fun (_ : ¬ _) => ?_; rotate_right; refine fun (_ : _ = true) => ?_)
      | (with_reducible refine wps_regionH ?_)
      | ((with_reducible apply wps_bindV); apply val_iteL; rotate_left; refine fun (_ : ¬ _) => ?_; rotate_right; refine fun (_ : _ = true) => ?_)
      | ((with_reducible apply val_iteL); rotate_left; refine fun (_ : ¬ _) => ?_; rotate_right; refine fun (_ : _ = true) => ?_)
      | (with_reducible exact wps_pure (ent_val rfl)))
  refine wps_val (v := if (if k < 0 then true else decide (k ≥ (ds.len : Int))) = true then true else decide (s < 0)) ?_ ?_
  · repeat (first
      | (with_reducible refine wps_bindpure ?_)
      | (with_reducible refine wps_assoc ?_)
      | (with_reducible refine wps_nil ?_)
      | (with_reducible refine wps_stepAlloc fun _ => ?_)
      | (with_reducible refine wps_alloc fun _ => ?_)
      | (with_reducible refine wps_newO fun _ => ?_)
      | (refine wps_ld _ (by rfl) ?_)
      | (refine wps_ldG _ _ _ (by rfl) ?_)
      | (refine wps_ldA _ (by rfl) ?_)
      | (refine wps_ldI _ (by rfl) ?_)
      | (refine wps_ldGI _ _ _ (by rfl) ?_)
      | (refine wps_ldAI _ (by rfl) ?_)
      | (refine wps_st (by simp) ?_)
      | (refine wps_stA (by simp) (by simp [Value.oneCell']) ?_)
      | ((with_reducible apply wps_val); apply val_ite; rotate_left; refine fun (_ : ¬ _) => ?_; rotate_right; refine fun (_ : _ = true) => ?_)
      | ((with_reducible apply val_ite); rotate_left; refine fun (_ : ¬ _) => ?_; rotate_right; refine fun (_ : _ = true) => ?_)
      | (with_reducible refine wps_regionH ?_)
      | ((with_reducible apply wps_bindV); apply val_iteL; rotate_left; refine fun (_ : ¬ _) => ?_; rotate_right; refine fun (_ : _ = true) => ?_)
      | ((with_reducible apply val_iteL); rotate_left; refine fun (_ : ¬ _) => ?_; rotate_right; refine fun (_ : _ = true) => ?_)
      | (with_reducible exact wps_pure (ent_val rfl)))
  refine wps_val (v := decide (k < 0 ∨ k ≥ R.n ∨ s < 0 ∨ s ≥ R.ns)) ?_ ?_
  · unfold rackP
    apply val_eq
    · repeat (first
        | (with_reducible refine wps_bindpure ?_)
        | (with_reducible refine wps_assoc ?_)
        | (with_reducible refine wps_nil ?_)
        | (with_reducible refine wps_stepAlloc fun _ => ?_)
        | (with_reducible refine wps_alloc fun _ => ?_)
        | (with_reducible refine wps_newO fun _ => ?_)
        | (refine wps_ld _ (by rfl) ?_)
        | (refine wps_ldG _ _ _ (by rfl) ?_)
        | (refine wps_ldA _ (by rfl) ?_)
        | (refine wps_ldI _ (by rfl) ?_)
        | (refine wps_ldGI _ _ _ (by rfl) ?_)
        | (refine wps_ldAI _ (by rfl) ?_)
        | (refine wps_st (by simp) ?_)
        | (refine wps_stA (by simp) (by simp [Value.oneCell']) ?_)
        | ((with_reducible apply wps_val); apply val_ite; rotate_left; refine fun (_ : ¬ _) => ?_; rotate_right; refine fun (_ : _ = true) => ?_)
        | ((with_reducible apply val_ite); rotate_left; refine fun (_ : ¬ _) => ?_; rotate_right; refine fun (_ : _ = true) => ?_)
        | (with_reducible refine wps_regionH ?_)
        | ((with_reducible apply wps_bindV); apply val_iteL; rotate_left; refine fun (_ : ¬ _) => ?_; rotate_right; refine fun (_ : _ = true) => ?_)
        | ((with_reducible apply val_iteL); rotate_left; refine fun (_ : ¬ _) => ?_; rotate_right; refine fun (_ : _ = true) => ?_)
        | (with_reducible exact wps_pure (ent_val rfl)))
    · rw [h2]
      by_cases a : k < 0 <;> by_cases b : k ≥ (R.n : Int) <;> by_cases c : s < 0 <;> by_cases d : s ≥ (R.ns : Int) <;> simp [a, b, c, d]
  by_cases hr : k < 0 ∨ k ≥ R.n ∨ s < 0 ∨ s ≥ R.ns
  · have he : R.lErr k s = 11 := by simp only [Rk.lErr, if_pos hr]
    refine wps_ite (fun _ => wps_pure ?_) (fun h => absurd (by simpa using hr) h)
    simp only [Rk.lst, he]
    exact ent_own0 (ent_prr (by simp) (Ent.refl _))
  · have he : R.lErr k s = 0 := by simp only [Rk.lErr, if_neg hr]
    refine wps_ite (fun h => absurd (by simpa using h) hr) (fun _ => ?_)
    have hlt : k.toNat < R.n := by omega
    simp only [Rk.lst, he, if_true]
    rw [rackP_focus rb R ds ps hlt]
    generalize R.dk k.toNat = D at *
    unfold dskAt dskX
    refine wps_exP fun ls => wps_exP fun mb => wps_exP fun sl => wps_exP fun sc => ?_
    simp only [← star_assoc]
    refine wps_prP fun hd => ?_
    refine wps_prP fun hd2 => ?_
    repeat (first
      | (with_reducible refine wps_bindpure ?_)
      | (with_reducible refine wps_assoc ?_)
      | (with_reducible refine wps_nil ?_)
      | (with_reducible refine wps_stepAlloc fun _ => ?_)
      | (with_reducible refine wps_alloc fun _ => ?_)
      | (with_reducible refine wps_newO fun _ => ?_)
      | (refine wps_ld _ (by rfl) ?_)
      | (refine wps_ldG _ _ _ (by rfl) ?_)
      | (refine wps_ldA _ (by rfl) ?_)
      | (refine wps_ldI _ (by rfl) ?_)
      | (refine wps_ldGI _ _ _ (by rfl) ?_)
      | (refine wps_ldAI _ (by rfl) ?_)
      | (refine wps_st (by simp) ?_)
      | (refine wps_stA (by simp) (by simp [Value.oneCell']) ?_)
      | ((with_reducible apply wps_val); apply val_ite; rotate_left; refine fun (_ : ¬ _) => ?_; rotate_right; refine fun (_ : _ = true) => ?_)
      | ((with_reducible apply val_ite); rotate_left; refine fun (_ : ¬ _) => ?_; rotate_right; refine fun (_ : _ = true) => ?_)
      | (with_reducible refine wps_regionH ?_)
      | ((with_reducible apply wps_bindV); apply val_iteL; rotate_left; refine fun (_ : ¬ _) => ?_; rotate_right; refine fun (_ : _ = true) => ?_)
      | ((with_reducible apply val_iteL); rotate_left; refine fun (_ : ¬ _) => ?_; rotate_right; refine fun (_ : _ = true) => ?_)
      | (with_reducible exact wps_pure (ent_val rfl)))
    refine wps_rdS k.toNat (ptr (ps.getD k.toNat 0)) (by omega) (pv_get (by omega)) ?_
    repeat (first
      | (with_reducible refine wps_bindpure ?_)
      | (with_reducible refine wps_assoc ?_)
      | (with_reducible refine wps_nil ?_)
      | (with_reducible refine wps_stepAlloc fun _ => ?_)
      | (with_reducible refine wps_alloc fun _ => ?_)
      | (with_reducible refine wps_newO fun _ => ?_)
      | (refine wps_ld _ (by rfl) ?_)
      | (refine wps_ldG _ _ _ (by rfl) ?_)
      | (refine wps_ldA _ (by rfl) ?_)
      | (refine wps_ldI _ (by rfl) ?_)
      | (refine wps_ldGI _ _ _ (by rfl) ?_)
      | (refine wps_ldAI _ (by rfl) ?_)
      | (refine wps_st (by simp) ?_)
      | (refine wps_stA (by simp) (by simp [Value.oneCell']) ?_)
      | ((with_reducible apply wps_val); apply val_ite; rotate_left; refine fun (_ : ¬ _) => ?_; rotate_right; refine fun (_ : _ = true) => ?_)
      | ((with_reducible apply val_ite); rotate_left; refine fun (_ : ¬ _) => ?_; rotate_right; refine fun (_ : _ = true) => ?_)
      | (with_reducible refine wps_regionH ?_)
      | ((with_reducible apply wps_bindV); apply val_iteL; rotate_left; refine fun (_ : ¬ _) => ?_; rotate_right; refine fun (_ : _ = true) => ?_)
      | ((with_reducible apply val_iteL); rotate_left; refine fun (_ : ¬ _) => ?_; rotate_right; refine fun (_ : _ = true) => ?_)
      | (with_reducible exact wps_pure (ent_val rfl)))
    have hsl : s.toNat < sl.length := by omega
    have hlen := hd.2.2.1 s.toNat (by omega)
    refine wps_rdS s.toNat sl[s.toNat] (by omega) (by rw [List.getElem?_map, List.getElem?_eq_getElem hsl]; rfl) ?_
    refine wps_bind1 (slices_Clone_b_spec (b := D.lasts s.toNat) (Ent.trans (ent_drop (B := seqp sl D.lasts)) (seqp_get (List.getElem?_eq_getElem hsl))) (by omega)) fun s' => wps_pure ?_
    refine ent_pick ?_
    refine ent_exr ls ?_
    refine ent_exr mb ?_
    refine ent_exr sl ?_
    refine ent_exr sc ?_
    simp only [← star_assoc]
    repeat (first
      | (with_reducible exact ent_drop)
      | (with_reducible refine ent_pick ?_)
      | (refine ent_pickC (by rfl) ?_)
      | (refine ent_pickS (by rfl) ?_)
      | (refine ent_pickM (by rfl) ?_)
      | (refine ent_prx ?_ ?_; rotate_left)
      | (refine ent_prq ?_))
    all_goals first | assumption | trivial
def secOf (im : List Int) (k : Nat) : List Int := (List.range 64).map fun i => im.getD (k * 64 + i) 0
theorem secOf_len (im : List Int) (k : Nat) : (secOf im k).length = 64 := by simp [secOf]
theorem ovw_sec (im : List Int) (n : Nat) : ovw (List.replicate 64 (Value.int .u8 0)) 0 ((((bv im).drop (min (n * 64) im.length * 1)).take ((im.length - min (n * 64) im.length) * 1)).take (min (im.length - min (n * 64) im.length) 64 * 1)) = bv (secOf im n) := by
  apply List.ext_getElem?
  intro i
  simp only [Nat.mul_one]
  generalize hl : min (n * 64) im.length = l
  have hsz : (((bv im).drop l).take (im.length - l)).length = im.length - l := by simp [bv]
  simp only [ovw, List.take_zero, List.nil_append, Nat.zero_add, List.length_take, hsz]
  simp only [bv, secOf, List.getElem?_map]
  by_cases hi : i < 64
  · rw [List.getElem?_range hi]
    simp only [Option.map_some]
    by_cases hin : i < min (im.length - l) 64
    · rw [List.getElem?_append_left (by simp; omega), List.getElem?_take, if_pos hin, List.getElem?_take, if_pos (by omega), List.getElem?_drop, List.getElem?_map]
      have hln : l = n * 64 := by omega
      have hlt : n * 64 + i < im.length := by omega
      rw [hln, List.getElem?_eq_getElem hlt]
      simp [List.getD_eq_getElem?_getD, List.getElem?_eq_getElem hlt]
    · rw [List.getElem?_append_right (by simp; omega), List.getElem?_drop]
      have hge : ¬ n * 64 + i < im.length := by omega
      rw [List.getElem?_replicate, if_pos (by simp; omega), List.getD_eq_getElem?_getD, List.getElem?_eq_none (by omega)]
      rfl
  · rw [List.getElem?_eq_none (by simp; omega), List.getElem?_eq_none (by simp; omega)]
    rfl
def Dk.load (D : Dk) (im : List Int) : Dk := { D with lasts := fun s => secOf im s, cached := fun _ => none }
def Rk.load (R : Rk) (k : Int) (im : List Int) : Rk := if k < 0 ∨ k ≥ R.n then R else R.setD k.toNat ((R.dk k.toNat).load im)
theorem device_Rack_Load_spec {H : HP} (rb : Nat) (R : Rk) (ds : Slc) (ps : List Nat) (k : Int) (x : Slc) (im : List Int) (hx : Ent H (byt x im)) (him : im.length ≤ 1099511627776) :
    wps g (H * rackP rb R ds ps) (device_Rack_Load (ptr rb) k x) (fun e => pr (e = if k < 0 ∨ k ≥ R.n then 11 else 0) * H * rackP rb (R.load k im) ds ps) := by
  unfold device_Rack_Load
  have hp : Ent (rackP rb R ds ps) (pr (ps.length = R.n ∧ ds.len = R.n ∧ R.n ≤ 17 ∧ R.ns ≤ 4096)) := Ent.trans (ent_left _ _) (Ent.trans (ent_left _ _) (ent_left _ _))
  refine wps_fact (Ent.trans (ent_right _ _) hp) fun ⟨h1, h2, h17, hns⟩ => ?_
  refine wps_fact (Ent.trans (ent_left _ _) (len_of hx)) fun hl => ?_
  refine wps_fact (Ent.trans (ent_left _ _) (cap_of hx)) fun hcap => ?_
  refine wps_val (v := decide (k < 0 ∨ k ≥ R.n)) ?_ ?_
  · unfold rackP
    apply val_eq
    · repeat (first
        | (with_reducible refine wps_bindpure ?_)
        | (with_reducible refine wps_assoc ?_)
        | (with_reducible refine wps_nil ?_)
        | (with_reducible refine wps_stepAlloc fun _ => ?_)
        | (with_reducible refine wps_alloc fun _ => ?_)
        | (with_reducible refine wps_newO fun _ => ?_)
        | (refine wps_ld _ (by rfl) ?_)
        | (refine wps_ldG _ _ _ (by rfl) ?_)
        | (refine wps_ldA _ (by rfl) ?_)
        | (refine wps_ldI _ (by rfl) ?_)
        | (refine wps_ldGI _ _ _ (by rfl) ?_)
        | (refine wps_ldAI _ (by rfl) ?_)
        | (refine wps_st (by simp) ?_)
        | (refine wps_stA (by simp) (by simp [Value.oneCell']) ?_)
        | ((with_reducible apply wps_val); apply val_ite; rotate_left; refine fun (_ : ¬ _) => ?_; rotate_right; refine fun (_ : _ = true) => ?_)
        | ((with_reducible apply val_ite); rotate_left; refine fun (_ : ¬ _) => ?_; rotate_right; refine fun (_ : _ = true) => ?_)
        | (with_reducible refine wps_regionH ?_)
        | ((with_reducible apply wps_bindV); apply val_iteL; rotate_left; refine fun (_ : ¬ _) => ?_; rotate_right; refine fun (_ : _ = true) => ?_)
        | ((with_reducible apply val_iteL); rotate_left; refine fun (_ : ¬ _) => ?_; rotate_right; refine fun (_ : _ = true) => ?_)
        | (with_reducible exact wps_pure (ent_val rfl)))
    · rw [h2]
      by_cases h : k < 0 <;> by_cases h' : k ≥ (R.n : Int) <;> simp [h, h']
  by_cases hk : k < 0 ∨ k ≥ R.n
  · rw [if_pos hk, Rk.load, if_pos hk]
    exact wps_ite (fun _ => wps_pure (ent_pick (ent_prr rfl ent_drop))) (fun h => absurd (by simpa using hk) h)
  · rw [if_neg hk, Rk.load, if_neg hk]
    refine wps_ite (fun h => absurd (by simpa using h) hk) (fun _ => ?_)
    have hlt : k.toNat < R.n := by omega
    rw [← rackP_set _ hlt, rackP_focus rb R ds ps hlt]
    generalize R.dk k.toNat = D at *
    generalize hpd : ps.getD k.toNat 0 = p at *
    simp only [dskAt, dskX, ← star_assoc]
    refine wps_exP fun ls => wps_exP fun mb => wps_exP fun sl => wps_exP fun sc => ?_
    simp only [← star_assoc]
    refine wps_prP fun hd => ?_
    refine wps_prP fun hd2 => ?_
    repeat (first
      | (with_reducible refine wps_bindpure ?_)
      | (with_reducible refine wps_assoc ?_)
      | (with_reducible refine wps_nil ?_)
      | (with_reducible refine wps_stepAlloc fun _ => ?_)
      | (with_reducible refine wps_alloc fun _ => ?_)
      | (with_reducible refine wps_newO fun _ => ?_)
      | (refine wps_ld _ (by rfl) ?_)
      | (refine wps_ldG _ _ _ (by rfl) ?_)
      | (refine wps_ldA _ (by rfl) ?_)
      | (refine wps_ldI _ (by rfl) ?_)
      | (refine wps_ldGI _ _ _ (by rfl) ?_)
      | (refine wps_ldAI _ (by rfl) ?_)
      | (refine wps_st (by simp) ?_)
      | (refine wps_stA (by simp) (by simp [Value.oneCell']) ?_)
      | ((with_reducible apply wps_val); apply val_ite; rotate_left; refine fun (_ : ¬ _) => ?_; rotate_right; refine fun (_ : _ = true) => ?_)
      | ((with_reducible apply val_ite); rotate_left; refine fun (_ : ¬ _) => ?_; rotate_right; refine fun (_ : _ = true) => ?_)
      | (with_reducible refine wps_regionH ?_)
      | ((with_reducible apply wps_bindV); apply val_iteL; rotate_left; refine fun (_ : ¬ _) => ?_; rotate_right; refine fun (_ : _ = true) => ?_)
      | ((with_reducible apply val_iteL); rotate_left; refine fun (_ : ¬ _) => ?_; rotate_right; refine fun (_ : _ = true) => ?_)
      | (with_reducible exact wps_pure (ent_val rfl)))
    refine wps_rdS k.toNat (ptr p) (by omega) (by rw [pv_get (by omega), hpd]) ?_
    repeat (first
      | (with_reducible refine wps_bindpure ?_)
      | (with_reducible refine wps_assoc ?_)
      | (with_reducible refine wps_nil ?_)
      | (with_reducible refine wps_stepAlloc fun _ => ?_)
      | (with_reducible refine wps_alloc fun _ => ?_)
      | (with_reducible refine wps_newO fun _ => ?_)
      | (refine wps_ld _ (by rfl) ?_)
      | (refine wps_ldG _ _ _ (by rfl) ?_)
      | (refine wps_ldA _ (by rfl) ?_)
      | (refine wps_ldI _ (by rfl) ?_)
      | (refine wps_ldGI _ _ _ (by rfl) ?_)
      | (refine wps_ldAI _ (by rfl) ?_)
      | (refine wps_st (by simp) ?_)
      | (refine wps_stA (by simp) (by simp [Value.oneCell']) ?_)
      | ((with_reducible apply wps_val); apply val_ite; rotate_left; refine fun (_ : ¬ _) => ?_; rotate_right; refine fun (_ : _ = true) => ?_)
      | ((with_reducible apply val_ite); rotate_left; refine fun (_ : ¬ _) => ?_; rotate_right; refine fun (_ : _ = true) => ?_)
      | (with_reducible refine wps_regionH ?_)
      | ((with_reducible apply wps_bindV); apply val_iteL; rotate_left; refine fun (_ : ¬ _) => ?_; rotate_right; refine fun (_ : _ = true) => ?_)
      | ((with_reducible apply val_iteL); rotate_left; refine fun (_ : ¬ _) => ?_; rotate_right; refine fun (_ : _ = true) => ?_)
      | (with_reducible exact wps_pure (ent_val rfl)))
    refine wps_clearS ?_
    repeat (first
      | (with_reducible refine wps_bindpure ?_)
      | (with_reducible refine wps_assoc ?_)
      | (with_reducible refine wps_nil ?_)
      | (with_reducible refine wps_stepAlloc fun _ => ?_)
      | (with_reducible refine wps_alloc fun _ => ?_)
      | (with_reducible refine wps_newO fun _ => ?_)
      | (refine wps_ld _ (by rfl) ?_)
      | (refine wps_ldG _ _ _ (by rfl) ?_)
      | (refine wps_ldA _ (by rfl) ?_)
      | (refine wps_ldI _ (by rfl) ?_)
      | (refine wps_ldGI _ _ _ (by rfl) ?_)
      | (refine wps_ldAI _ (by rfl) ?_)
      | (refine wps_st (by simp) ?_)
      | (refine wps_stA (by simp) (by simp [Value.oneCell']) ?_)
      | ((with_reducible apply wps_val); apply val_ite; rotate_left; refine fun (_ : ¬ _) => ?_; rotate_right; refine fun (_ : _ = true) => ?_)
      | ((with_reducible apply val_ite); rotate_left; refine fun (_ : ¬ _) => ?_; rotate_right; refine fun (_ : _ = true) => ?_)
      | (with_reducible refine wps_regionH ?_)
      | ((with_reducible apply wps_bindV); apply val_iteL; rotate_left; refine fun (_ : ¬ _) => ?_; rotate_right; refine fun (_ : _ = true) => ?_)
      | ((with_reducible apply val_iteL); rotate_left; refine fun (_ : ¬ _) => ?_; rotate_right; refine fun (_ : _ = true) => ?_)
      | (with_reducible exact wps_pure (ent_val rfl)))
    refine wps_loop (fun i => ex fun n : Nat => ex fun sl' : List Slc => pr (i = (n : Int) ∧ n ≤ R.ns ∧ sl'.length = R.ns) * H * bst R.n (hole k.toNat (rackF R.ns R.dk ps)) * own 1 ds (ps.map pv) * pc rb [vS ds, .int .i64 R.ns, .int .i64 R.count, .bool R.off]
        * seqp sl' (fun s => if s < n then secOf im s else D.lasts s) * imap mb (fun _ => none) * own 1 ls (sl'.map vS) * pc p [vS ls, .map (some mb), .bool D.failed, .int .i64 D.count]) (fun i => (R.ns - i).toNat) ?_ fun i => ?_
    · refine ent_ex 0 (ent_ex sl ?_)
      have : (fun s : Nat => if s < 0 then secOf im s else D.lasts s) = D.lasts := by funext s; simp
      rw [this]
      repeat (first
        | (with_reducible exact ent_drop)
        | (with_reducible refine ent_pick ?_)
        | (refine ent_pickC (by rfl) ?_)
        | (refine ent_pickS (by rfl) ?_)
        | (refine ent_pickM (by rfl) ?_)
        | (refine ent_prx ?_ ?_; rotate_left)
        | (refine ent_prq ?_))
      all_goals first | exact ⟨rfl, by omega, hd.1⟩ | trivial
    · refine wps_ex fun n => wps_ex fun sl' => wps_prP fun ⟨hi, hn, hsl'⟩ => ?_
      refine wps_ite (fun hc => ?_) (fun hc => ?_)
      · have hc' : n < R.ns := by simp only [decide_eq_true_eq] at hc; omega
        repeat (first
          | (with_reducible refine wps_bindpure ?_)
          | (with_reducible refine wps_assoc ?_)
          | (with_reducible refine wps_nil ?_)
          | (with_reducible refine wps_stepAlloc fun _ => ?_)
          | (with_reducible refine wps_alloc fun _ => ?_)
          | (with_reducible refine wps_newO fun _ => ?_)
          | (refine wps_ld _ (by rfl) ?_)
          | (refine wps_ldG _ _ _ (by rfl) ?_)
          | (refine wps_ldA _ (by rfl) ?_)
          | (refine wps_ldI _ (by rfl) ?_)
          | (refine wps_ldGI _ _ _ (by rfl) ?_)
          | (refine wps_ldAI _ (by rfl) ?_)
          | (refine wps_st (by simp) ?_)
          | (refine wps_stA (by simp) (by simp [Value.oneCell']) ?_)
          | ((with_reducible apply wps_val); apply val_ite; rotate_left; refine fun (_ : ¬ _) => ?_; rotate_right; refine fun (_ : _ = true) => ?_)
          | ((with_reducible apply val_ite); rotate_left; refine fun (_ : ¬ _) => ?_; rotate_right; refine fun (_ : _ = true) => ?_)
          | (with_reducible refine wps_regionH ?_)
          | ((with_reducible apply wps_bindV); apply val_iteL; rotate_left; refine fun (_ : ¬ _) => ?_; rotate_right; refine fun (_ : _ = true) => ?_)
          | ((with_reducible apply val_iteL); rotate_left; refine fun (_ : ¬ _) => ?_; rotate_right; refine fun (_ : _ = true) => ?_)
          | (with_reducible exact wps_pure (ent_val rfl)))
        rename_i b
        have hw : w64 (i * 64) = ((n * 64 : Nat) : Int) := by rw [w64_id] <;> omega
        have hmin : minI (w64 (i * 64)) (x.len : Int) = ((min (n * 64) im.length : Nat) : Int) := by
          rw [hw, minI]; split <;> omega
        refine wps_slice (min (n * 64) im.length) im.length hmin (by simp [hl]) (by omega) (by omega) ?_
        refine wps_swap (A := pc b (List.replicate 64 (Value.int .u8 0))) (B := own 1 ⟨some ⟨b, 0, none⟩, 64, 64⟩ (List.replicate 64 (Value.int .u8 0))) (pc_own (n := 64) (z := 1) (by simp)) ?_
        refine wps_copyS (new := ((bv im).drop (min (n * 64) im.length * 1)).take ((im.length - min (n * 64) im.length) * 1)) ?_ ?_ ?_
        · exact Ent.trans (ent_drop (B := H)) (Ent.trans hx (rsl_sub (by omega) (by omega)))
        · exact fun v hv => bv_one im v (List.mem_of_mem_drop (List.mem_of_mem_take hv))
        have hov : ovw (List.replicate 64 (Value.int .u8 0)) 0 ((((bv im).drop (min (n * 64) im.length * 1)).take ((im.length - min (n * 64) im.length) * 1)).take (min (subS 1 x (min (n * 64) im.length) im.length).len 64 * 1)) = bv (secOf im n) := ovw_sec im n
        rw [hov]
        repeat (first
          | (with_reducible refine wps_bindpure ?_)
          | (with_reducible refine wps_assoc ?_)
          | (with_reducible refine wps_nil ?_)
          | (with_reducible refine wps_stepAlloc fun _ => ?_)
          | (with_reducible refine wps_alloc fun _ => ?_)
          | (with_reducible refine wps_newO fun _ => ?_)
          | (refine wps_ld _ (by rfl) ?_)
          | (refine wps_ldG _ _ _ (by rfl) ?_)
          | (refine wps_ldA _ (by rfl) ?_)
          | (refine wps_ldI _ (by rfl) ?_)
          | (refine wps_ldGI _ _ _ (by rfl) ?_)
          | (refine wps_ldAI _ (by rfl) ?_)
          | (refine wps_st (by simp) ?_)
          | (refine wps_stA (by simp) (by simp [Value.oneCell']) ?_)
          | ((with_reducible apply wps_val); apply val_ite; rotate_left; refine fun (_ : ¬ _) => ?_; rotate_right; refine fun (_ : _ = true) => ?_)
          | ((with_reducible apply val_ite); rotate_left; refine fun (_ : ¬ _) => ?_; rotate_right; refine fun (_ : _ = true) => ?_)
          | (with_reducible refine wps_regionH ?_)
          | ((with_reducible apply wps_bindV); apply val_iteL; rotate_left; refine fun (_ : ¬ _) => ?_; rotate_right; refine fun (_ : _ = true) => ?_)
          | ((with_reducible apply val_iteL); rotate_left; refine fun (_ : ¬ _) => ?_; rotate_right; refine fun (_ : _ = true) => ?_)
          | (with_reducible exact wps_pure (ent_val rfl)))
        refine wps_wrS n hi (by omega) ?_
        refine wps_pure (ent_prr (by rw [range_add1 hi (by omega)]; omega) (ent_ex (n + 1) (ent_ex (sl'.set n ⟨some ⟨b, 0, none⟩, 64, 64⟩) ?_)))
        refine ent_pick (ent_pickS (by rw [List.map_set]; rfl) (ent_pick ?_))
        refine ent_swap (A := own 1 ⟨some ⟨b, 0, none⟩, 64, 64⟩ (bv (secOf im n))) (own_rsl _ _ _) ?_
        refine ent_join (A := seqp sl' fun s => if s < n then secOf im s else D.lasts s) (B := rsl 1 ⟨some ⟨b, 0, none⟩, 64, 64⟩ (bv (secOf im n))) (Ent.trans (seqp_set (k := n) (b := secOf im n) (ent_left _ _) (ent_right _ _)) (seqp_ext fun s _ => ?_)) ?_
        · by_cases hs : s = n
          · subst hs; simp
          · have : s < n + 1 ↔ s < n := by omega
            simp [hs, this]
        · repeat (first
            | (with_reducible exact ent_drop)
            | (with_reducible refine ent_pick ?_)
            | (refine ent_pickC (by rfl) ?_)
            | (refine ent_pickS (by rfl) ?_)
            | (refine ent_pickM (by rfl) ?_)
            | (refine ent_prx ?_ ?_; rotate_left)
            | (refine ent_prq ?_))
          all_goals first | exact ⟨range_add1 hi (by omega), by omega, by simpa using hsl'⟩ | trivial
      · have hne : n = R.ns := by simp only [decide_eq_true_eq] at hc; omega
        subst hne
        refine wps_mapR (wps_pure ?_)
        refine ent_exr ls ?_
        refine ent_exr mb ?_
        refine ent_exr sl' ?_
        refine ent_exr sc ?_
        simp only [← star_assoc]
        refine ent_pickC (by rfl) (ent_pick (ent_pickM (by rfl) (ent_pers ?_ (cachep_nil _ _))))
        have hq : Ent (seqp sl' fun s => if s < R.ns then secOf im s else D.lasts s) (seqp sl' (D.load im).lasts) := seqp_ext fun s hs => by
          rw [if_pos (by omega)]; rfl
        refine ent_swap (A := seqp sl' fun s => if s < R.ns then secOf im s else D.lasts s) hq ?_
        repeat (first
          | (with_reducible exact ent_drop)
          | (with_reducible refine ent_pick ?_)
          | (refine ent_pickC (by rfl) ?_)
          | (refine ent_pickS (by rfl) ?_)
          | (refine ent_pickM (by rfl) ?_)
          | (refine ent_prx ?_ ?_; rotate_left)
          | (refine ent_prq ?_))
        all_goals first | exact hd2 | rfl | trivial | exact ⟨hsl', hd.2.1, fun k _ => secOf_len im k, fun j b h => by cases h⟩
end Go.Proofs.Ytldmeimebebllaa
