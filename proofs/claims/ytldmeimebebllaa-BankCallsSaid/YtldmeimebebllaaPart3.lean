/-
  A part of the proof: predicate transformers over the model, and a separation logic over them; what functions of the program do.
-/
import Derived.Test.YtldmeimebebllaaPart2
import Derived.ChangeReads
import Derived.ReadAgain
import Derived.Deep.Frames
import Derived.RowKit3
import Derived.ChangeSame
import Derived.ChangeSlices
import Derived.SizedLaws
import Derived.Deep.Slices
set_option linter.unusedSimpArgs false
namespace Go.Proofs.Ytldmeimebebllaa
open Go.Mo
set_option linter.unusedVariables false
variable {g : Fr} {cv : CV}
theorem wps_stepC3 {α β : Type} {H : HP} {Q : α → HP} {R : HP} {m : M β} {k : β → M α} {A1 A2 A3 H1 H2 H3 : HP} {Q' : β → HP} [h1 : Has H A3 H1] [h2 : Has H1 A2 H2] [h3 : Has H2 A1 H3] [d : Drops H3 R] (hs : ∀ g', wps g' (A1 * A2 * A3) m Q') (h' : ∀ x, wps g (H3 * Q' x) (k x) Q) : wps g H (bindM (stepI (Iv g R) m) k) Q :=
  wps_stepC hs (Ent.of_eq (by rw [h1.eq, h2.eq, h3.eq]; simp only [star_assoc])) d.ent h'
theorem wps_stepQ2 {α β : Type} {H : HP} {Q : α → HP} {R : HP} {m : M β} {k : β → M α} {A1 A2 H1 H2 : HP} {Q' : β → HP} [h1 : Has H A2 H1] [h2 : Has H1 A1 H2] (hs : ∀ g', wps g' (A1 * A2) m Q') (hR : ∀ x, Ent (H2 * Q' x) R) (h' : ∀ x, wps g (H2 * Q' x) (k x) Q) : wps g H (bindM (stepI (Iv g R) m) k) Q :=
  wps_bind (wps_stepI (wps_tail2 hs fun x => Ent.refl _) hR) h'
theorem val2 {β : Type} {H : HP} {m : M β} {A1 A2 H1 H2 : HP} {v : β} [h1 : Has H A2 H1] [h2 : Has H1 A1 H2] (hs : ∀ g', Val g' (A1 * A2) m v) : Val g H m v := val_frame hs (by rw [h1.eq, h2.eq, star_assoc])
structure CallB where
  what : Int
  slot : Int
  n : Int
  ds : Slc
  data : List Int
  mem : G3
def CallB.cells (c : CallB) : List Value := [.int .i64 c.what, .int .i64 c.slot, .int .i64 c.n, .slice c.ds.base c.ds.len c.ds.cap, .int .i64 c.mem.1, .int .i64 c.mem.2.1, .int .i64 c.mem.2.2]
def CallB.t (c : CallB) : Int × Int × Int × Slc × Int × Int × Int := (c.what, c.slot, c.n, c.ds, c.mem.1, c.mem.2.1, c.mem.2.2)
structure CallB.ok (c : CallB) : Prop where
  n : c.n < 9223372036854775808
  data : c.data.length ≤ 140737488355328
def callB (c : CallB) : HP := pr c.ok * byt c.ds c.data
instance (c : CallB) : Pers (callB c) := by unfold callB; infer_instance
def callsB (s : Slc) (l : List CallB) : HP := rsl 7 s (l.flatMap CallB.cells) * al fun i : Nat => al fun c : CallB => imp (l[i]? = some c) (callB c)
instance (s : Slc) (l : List CallB) : Pers (callsB s l) := by unfold callsB; infer_instance
theorem cellsB_len (c : CallB) : c.cells.length = 7 := rfl
theorem callsB_rsl (s : Slc) (l : List CallB) : Ent (callsB s l) (rsl 7 s (l.flatMap CallB.cells)) := ent_left _ _
theorem callsB_get {s : Slc} {l : List CallB} {i : Nat} {c : CallB} (h : l[i]? = some c) : Ent (callsB s l) (callB c) := fun o ho => ent_right _ _ o ho i c h
theorem callsB_len (s : Slc) (l : List CallB) : Ent (callsB s l) (pr (l.length = s.len)) := Ent.trans (callsB_rsl s l) (Ent.trans (rsl_len _ _ _) fun o ho => by
  have : (l.flatMap CallB.cells).length = s.len * 7 := ho
  rw [flat_len cellsB_len] at this
  show l.length = s.len
  omega)
theorem callB_ok (c : CallB) : Ent (callB c) (pr c.ok) := ent_left _ _
theorem callB_data (c : CallB) : Ent (callB c) (byt c.ds c.data) := ent_right _ _
def bstepR (q : G3) (R : Rk) (m : G3) (c : CallB) : Rk :=
  if c.what = 1 then (if (slotV q m c.slot).2 then R.write (slotV q m c.slot).1 c.n c.data else R) else if c.what = 2 then (flushL (disksL q m) R).1
  else if c.what = 4 then (everyL c.n c.data (disksL q m) R 0).1 else if c.what = 7 then R.arm c.n else if c.what = 8 then R.doom c.slot c.n else if c.what = 9 then R.restore [c.n] else R
def bstepM (q : G3) (m : G3) (c : CallB) : G3 := if c.what = 6 then (if FitsB q c.mem then c.mem else m) else m
theorem bank_Member_val (bb rb : Nat) (q m : G3) : Val g (bnk bb rb q m) (bank_Bank_Member (ptr bb)) m := by
  unfold bank_Bank_Member
  repeat (first
    | (with_reducible refine wps_bindpure ?_)
    | (with_reducible refine wps_assoc ?_)
    | (with_reducible refine wps_nil ?_)
    | (with_reducible refine wps_stepAlloc fun _ => ?_)
    | (with_reducible refine wps_alloc fun _ => ?_)
    | (with_reducible refine wps_newO fun _ => ?_)
    | (refine wps_ld _ (by rfl) ?_)
    | (refine wps_ldG _ _ _ (by rfl) ?_)
    | (refine wps_ldA _ (by rfl) ?_)
    | (refine wps_ldI _ (by rfl) ?_)
    | (refine wps_ldGI _ _ _ (by rfl) ?_)
    | (refine wps_ldAI _ (by rfl) ?_)
    | (refine wps_st (by simp) ?_)
    | (refine wps_stA (by simp) (by simp [Value.oneCell']) ?_)
    | ((with_reducible apply wps_val); apply val_ite; rotate_left; refine fun (_ : ¬ _) => ?_; rotate_right; refine fun (_ : _ = true) => ?_)
    | ((with_reducible apply val_ite); rotate_left; refine fun (_ : ¬ _) => ?_; rotate_right; refine fun (_ : _ = true) => ?_)
    | (with_reducible refine wps_regionH ?_)
    | ((with_reducible apply wps_bindV); apply val_iteL; rotate_left; refine fun (_ : ¬ _) => ?_; rotate_right; refine fun (_ : _ = true) => ?_)
    | ((with_reducible apply val_iteL); rotate_left; refine fun (_ : ¬ _) => ?_; rotate_right; refine fun (_ : _ = true) => ?_)
    | (with_reducible exact wps_pure (ent_val rfl)))
theorem bank_Off_val (bb rb : Nat) (q m : G3) (R : Rk) (ds : Slc) (ps : List Nat) : Val g (bnk bb rb q m * rackP rb R ds ps) (bank_Bank_Off (ptr bb)) R.off := by
  unfold bank_Bank_Off
  repeat (first
    | (with_reducible refine wps_bindpure ?_)
    | (with_reducible refine wps_assoc ?_)
    | (with_reducible refine wps_nil ?_)
    | (with_reducible refine wps_stepAlloc fun _ => ?_)
    | (with_reducible refine wps_alloc fun _ => ?_)
    | (with_reducible refine wps_newO fun _ => ?_)
    | (refine wps_ld _ (by rfl) ?_)
    | (refine wps_ldG _ _ _ (by rfl) ?_)
    | (refine wps_ldA _ (by rfl) ?_)
    | (refine wps_ldI _ (by rfl) ?_)
    | (refine wps_ldGI _ _ _ (by rfl) ?_)
    | (refine wps_ldAI _ (by rfl) ?_)
    | (refine wps_st (by simp) ?_)
    | (refine wps_stA (by simp) (by simp [Value.oneCell']) ?_)
    | ((with_reducible apply wps_val); apply val_ite; rotate_left; refine fun (_ : ¬ _) => ?_; rotate_right; refine fun (_ : _ = true) => ?_)
    | ((with_reducible apply val_ite); rotate_left; refine fun (_ : ¬ _) => ?_; rotate_right; refine fun (_ : _ = true) => ?_)
    | (with_reducible refine wps_regionH ?_)
    | ((with_reducible apply wps_bindV); apply val_iteL; rotate_left; refine fun (_ : ¬ _) => ?_; rotate_right; refine fun (_ : _ = true) => ?_)
    | ((with_reducible apply val_iteL); rotate_left; refine fun (_ : ¬ _) => ?_; rotate_right; refine fun (_ : _ = true) => ?_)
    | (with_reducible exact wps_pure (ent_val rfl)))
  refine wps_tailH (fun _ => device_Rack_Off_val rb R ds ps) fun x => ?_
  refine ent_prP fun h => ?_
  refine ent_prr h ?_
  simp only [← star_assoc]
  repeat (first
    | (with_reducible exact ent_drop)
    | (with_reducible refine ent_pick ?_)
    | (refine ent_pickC (by rfl) ?_)
    | (refine ent_pickS (by rfl) ?_)
    | (refine ent_pickM (by rfl) ?_)
    | (refine ent_prx ?_ ?_; rotate_left)
    | (refine ent_prq ?_))
theorem told6_end {rb bb yb : Nat} {q : G3} {R R1 : Rk} {m m1 : G3} {ds : Slc} {ps : List Nat} {mb : Nat} {l1 l2 l3 l4 : Slc} {c : CallB} {b : Bool} {F : HP} (h1 : b = true) (h2 : R1 = bstepR q R m c) (h3 : m1 = bstepM q m c)
    (h4 : Ent F (callB c * rackP rb R1 ds ps * bnk bb rb q m1 * refQ mb R1 l1 l2 l3 l4 * bnk yb mb q m1)) :
    Ent F (pr (b = true) * callB c * rackP rb (bstepR q R m c) ds ps * bnk bb rb q (bstepM q m c) * refQ mb (bstepR q R m c) l1 l2 l3 l4 * bnk yb mb q (bstepM q m c)) := by
  subst h2 h3
  refine Ent.trans h4 (Ent.trans (ent_pr h1) (Ent.of_eq ?_))
  simp only [star_assoc]
theorem badL_len (q m : G3) (R : Rk) (hq : q.1 ≤ 16) : (badL q m R).length ≤ 16 := by
  have := List.length_filter_le (isBad q m R) (List.range q.1.toNat)
  unfold badL
  rw [List.length_range] at this
  omega
theorem iv_zv (l : List Nat) : iv l = zv (l.map fun i : Nat => (i : Int)) := by simp [iv, zv]
theorem law06_told_spec (hcd : DisksOk cv) (hcv : KeysOk cv) (rb bb yb mb : Nat) (q : G3) (hq : q.1 ≤ 16) (R : Rk) (m : G3) (ds : Slc) (ps : List Nat) (l1 l2 l3 l4 : Slc) (c : CallB) (hd : c.data.length ≤ 20000) (hn : c.n < 9223372036854775808) :
    wps g (callB c * rackP rb R ds ps * bnk bb rb q m * refQ mb R l1 l2 l3 l4 * bnk yb mb q m) (law06_told cv (ptr rb) (ptr bb) (ptr mb) (ptr yb) (c.what, c.slot, c.n, c.ds, c.mem.1, c.mem.2.1, c.mem.2.2))
      (fun b => pr (b = true) * callB c * rackP rb (bstepR q R m c) ds ps * bnk bb rb q (bstepM q m c) * refQ mb (bstepR q R m c) l1 l2 l3 l4 * bnk yb mb q (bstepM q m c)) := by
  unfold law06_told
  refine wps_fact (Ent.trans (ent_pick1 (A := rackP rb R ds ps)) rackP_good) fun hg => ?_
  refine wps_alloc fun x5 => ?_
  refine wps_eq (H' := callB c * rackP rb R ds ps * bnk bb rb q m * refQ mb R l1 l2 l3 l4 * bnk yb mb q m * pc x5 c.cells) rfl ?_
  refine wps_ld c.what (by rfl) ?_
  refine wps_bindS (R := fun _ => callB c * rackP rb (bstepR q R m c) ds ps * bnk bb rb q (bstepM q m c) * refQ mb (bstepR q R m c) l1 l2 l3 l4 * bnk yb mb q (bstepM q m c) * pc x5 c.cells) ?_ fun _ => ?_
  · refine wps_ite (fun h0 => ?_) (fun h0 => ?_)
    · have hw : c.what = 0 := by simpa using h0
      have e1 : bstepR q R m c = R := by simp [bstepR, hw]
      have e2 : bstepM q m c = m := by simp [bstepM, hw]
      refine wps_ld c.slot (by rfl) ?_
      refine wps_ld c.n (by rfl) ?_
      refine wps_call2 (fun _ => bank_Read_spec bb rb q m R ds ps c.slot c.n) fun a => ?_
      simp only [← star_assoc]
      refine wps_prP fun ha => ?_
      refine wps_ld c.slot (by rfl) ?_
      refine wps_ld c.n (by rfl) ?_
      refine wps_call2 (fun _ => ref06_Read_spec yb mb q m R l1 l2 l3 l4 c.slot c.n) fun b => ?_
      simp only [← star_assoc]
      refine wps_prP fun hb => ?_
      have hl1 := hg.rd (slotV q m c.slot).1 c.n
      have hl2 : (if (slotV q m c.slot).2 = true then R.rd (slotV q m c.slot).1 c.n else []).length ≤ 64 := by split <;> simp [hl1]
      generalize (if (slotV q m c.slot).2 = true then R.rd (slotV q m c.slot).1 c.n else []) = L at *
      refine wps_val (ref00_SameBytes_val (x := L) (y := L) (Ent.trans (ent_pick1 (A := own 1 a.1 (bv L))) (own_rsl _ _ _)) (Ent.trans (ent_pick1 (A := own 1 b.1 (bv L))) (own_rsl _ _ _)) (by omega)) ?_
      refine wps_val (v := true) (wps_ite (fun _ => wps_pure (ent_val (by rw [ha, hb]; simp))) (fun h => absurd (by simp) h)) ?_
      refine wps_mapR (wps_pure (told6_end rfl e1.symm e2.symm ?_))
      repeat (first
        | (with_reducible exact ent_drop)
        | (with_reducible refine ent_pick ?_)
        | (refine ent_pickC (by rfl) ?_)
        | (refine ent_pickS (by rfl) ?_)
        | (refine ent_pickM (by rfl) ?_)
        | (refine ent_prx ?_ ?_; rotate_left)
        | (refine ent_prq ?_))
    · refine wps_ite (fun h1 => ?_) (fun h1 => ?_)
      · have hw : c.what = 1 := by simpa using h1
        have e1 : bstepR q R m c = (if (slotV q m c.slot).2 then R.write (slotV q m c.slot).1 c.n c.data else R) := by simp [bstepR, hw]
        have e2 : bstepM q m c = m := by simp [bstepM, hw]
        refine wps_region (pc x5 c.cells) ent_pick1 ?_
        refine wps_ldI c.slot (by rfl) ?_
        refine wps_ldI c.n (by rfl) ?_
        refine wps_ldI c.ds (by rfl) ?_
        refine wps_ldI c.slot (by rfl) ?_
        refine wps_ldI c.n (by rfl) ?_
        refine wps_ldI c.ds (by rfl) ?_
        refine wps_step1 (ref00_CopyBytes_spec (b := c.data) (Ent.trans (ent_pick1 (A := callB c)) (callB_data c)) (by omega)) fun z => ?_
        refine wps_swap (A := own 1 z (bv c.data)) (B := byt z c.data) (own_rsl _ _ _) ?_
        refine wps_stepC3 (fun _ => bank_Write_spec (H := byt z c.data) bb rb q m R ds ps c.slot c.n z c.data (Ent.refl _) (by omega)) fun a => ?_
        simp only [← star_assoc]
        refine wps_prP fun ha => ?_
        refine wps_stepC3 (fun _ => ref06_Write_spec (H := callB c) yb mb q m R l1 l2 l3 l4 c.slot c.n c.ds c.data (callB_data c) (by omega)) fun b => ?_
        simp only [← star_assoc]
        refine wps_prP fun hb => ?_
        refine wps_mapR (wps_pure (told6_end (by rw [ha, hb]; simp) e1.symm e2.symm ?_))
        repeat (first
          | (with_reducible exact ent_drop)
          | (with_reducible refine ent_pick ?_)
          | (refine ent_pickC (by rfl) ?_)
          | (refine ent_pickS (by rfl) ?_)
          | (refine ent_pickM (by rfl) ?_)
          | (refine ent_prx ?_ ?_; rotate_left)
          | (refine ent_prq ?_))
      · refine wps_ite (fun h2 => ?_) (fun h2 => ?_)
        · have hw : c.what = 2 := by simpa using h2
          have e1 : bstepR q R m c = (flushL (disksL q m) R).1 := by simp [bstepR, hw]
          have e2 : bstepM q m c = m := by simp [bstepM, hw]
          refine wps_call2 (fun _ => bank_Flush_spec hcd bb rb q m hq R ds ps) fun a => ?_
          simp only [← star_assoc]
          refine wps_prP fun ha => ?_
          refine wps_call2 (fun _ => ref06_Flush_spec yb mb q m hq R l1 l2 l3 l4) fun b => ?_
          simp only [← star_assoc]
          refine wps_prP fun hb => ?_
          refine wps_mapR (wps_pure (told6_end (by rw [ha, hb]; simp) e1.symm e2.symm ?_))
          repeat (first
            | (with_reducible exact ent_drop)
            | (with_reducible refine ent_pick ?_)
            | (refine ent_pickC (by rfl) ?_)
            | (refine ent_pickS (by rfl) ?_)
            | (refine ent_pickM (by rfl) ?_)
            | (refine ent_prx ?_ ?_; rotate_left)
            | (refine ent_prq ?_))
        · refine wps_ite (fun h4 => ?_) (fun h4 => ?_)
          · have hw : c.what = 4 := by simpa using h4
            have e1 : bstepR q R m c = (everyL c.n c.data (disksL q m) R 0).1 := by simp [bstepR, hw]
            have e2 : bstepM q m c = m := by simp [bstepM, hw]
            refine wps_region (pc x5 c.cells) ent_pick1 ?_
            refine wps_ldI c.n (by rfl) ?_
            refine wps_ldI c.ds (by rfl) ?_
            refine wps_ldI c.n (by rfl) ?_
            refine wps_ldI c.ds (by rfl) ?_
            refine wps_step1 (ref00_CopyBytes_spec (b := c.data) (Ent.trans (ent_pick1 (A := callB c)) (callB_data c)) (by omega)) fun z => ?_
            refine wps_swap (A := own 1 z (bv c.data)) (B := byt z c.data) (own_rsl _ _ _) ?_
            refine wps_stepC3 (fun _ => bank_Everywhere_spec (H := byt z c.data) hcd bb rb q m hq R ds ps c.n z c.data (Ent.refl _) (by omega)) fun a => ?_
            simp only [← star_assoc]
            refine wps_prP fun ha => ?_
            refine wps_stepC3 (fun _ => ref06_Everywhere_spec (H := callB c) yb mb q m hq R l1 l2 l3 l4 c.n c.ds c.data (callB_data c) (by omega)) fun b => ?_
            simp only [← star_assoc]
            refine wps_prP fun hb => ?_
            refine wps_mapR (wps_pure (told6_end (by rw [ha, hb]; simp) e1.symm e2.symm ?_))
            repeat (first
              | (with_reducible exact ent_drop)
              | (with_reducible refine ent_pick ?_)
              | (refine ent_pickC (by rfl) ?_)
              | (refine ent_pickS (by rfl) ?_)
              | (refine ent_pickM (by rfl) ?_)
              | (refine ent_prx ?_ ?_; rotate_left)
              | (refine ent_prq ?_))
          · refine wps_ite (fun h5 => ?_) (fun h5 => ?_)
            · have hw : c.what = 5 := by simpa using h5
              have e1 : bstepR q R m c = R := by simp [bstepR, hw]
              have e2 : bstepM q m c = m := by simp [bstepM, hw]
              refine wps_region (pc x5 c.cells) ent_pick1 ?_
              refine wps_ldI c.n (by rfl) ?_
              refine wps_ldI c.n (by rfl) ?_
              refine wps_stepC2 (fun _ => bank_All_spec hcd bb rb q m hq R ds ps c.n) fun a => ?_
              simp only [← star_assoc]
              refine wps_stepC2 (fun _ => ref06_All_spec yb mb q m hq R l1 l2 l3 l4 c.n) fun b => ?_
              simp only [← star_assoc]
              have h17 := disksL_len q m hq
              have hal : (allL c.n (disksL q m) R).length ≤ 17 := by
                simp only [allL, List.length_map]
                have h1 := List.length_filter_le (fun d => R.rdErr d c.n == 0) (disksL q m)
                omega
              refine wps_stepC2 (fun _ => ref00_SameRows_spec (x := a) (y := b) (l := allL c.n (disksL q m) R) (by omega) (fun b hb => ?_)) fun e => ?_
              · simp only [allL, List.mem_map] at hb
                obtain ⟨d, _, rfl⟩ := hb
                have := hg.rd d c.n
                omega
              refine wps_prP fun he => ?_
              refine wps_mapR (wps_pure (told6_end he e1.symm e2.symm ?_))
              repeat (first
                | (with_reducible exact ent_drop)
                | (with_reducible refine ent_pick ?_)
                | (refine ent_pickC (by rfl) ?_)
                | (refine ent_pickS (by rfl) ?_)
                | (refine ent_pickM (by rfl) ?_)
                | (refine ent_prx ?_ ?_; rotate_left)
                | (refine ent_prq ?_))
            · refine wps_ite (fun h6 => ?_) (fun h6 => ?_)
              · have hw : c.what = 6 := by simpa using h6
                have e1 : bstepR q R m c = R := by simp [bstepR, hw]
                have e2 : bstepM q m c = (if FitsB q c.mem then c.mem else m) := by simp [bstepM, hw]
                refine wps_ldG c.mem.1 c.mem.2.1 c.mem.2.2 (by rfl) ?_
                refine wps_callH (fun _ => bank_Join_spec bb rb q m c.mem) fun _ => ?_
                refine wps_ldG c.mem.1 c.mem.2.1 c.mem.2.2 (by rfl) ?_
                refine wps_callH (fun _ => ref06_Join_spec yb mb q m c.mem) fun _ => wps_pure ?_
                rw [e1, e2]
                show Ent _ (_ * _)
                repeat (first
                  | (with_reducible exact ent_drop)
                  | (with_reducible refine ent_pick ?_)
                  | (refine ent_pickC (by rfl) ?_)
                  | (refine ent_pickS (by rfl) ?_)
                  | (refine ent_pickM (by rfl) ?_)
                  | (refine ent_prx ?_ ?_; rotate_left)
                  | (refine ent_prq ?_))
              · refine wps_ite (fun h7 => ?_) (fun h7 => ?_)
                · have hw : c.what = 7 := by simpa using h7
                  have e1 : bstepR q R m c = R.arm c.n := by simp [bstepR, hw]
                  have e2 : bstepM q m c = m := by simp [bstepM, hw]
                  refine wps_ld c.n (by rfl) ?_
                  refine wps_callH (fun _ => device_Rack_Arm_spec rb R ds ps c.n) fun _ => ?_
                  refine wps_ld c.n (by rfl) ?_
                  refine wps_callH (fun _ => ref02_Arm_spec mb R l1 l2 l3 l4 c.n hn) fun _ => wps_pure ?_
                  rw [e1, e2]
                  show Ent _ (_ * _)
                  repeat (first
                    | (with_reducible exact ent_drop)
                    | (with_reducible refine ent_pick ?_)
                    | (refine ent_pickC (by rfl) ?_)
                    | (refine ent_pickS (by rfl) ?_)
                    | (refine ent_pickM (by rfl) ?_)
                    | (refine ent_prx ?_ ?_; rotate_left)
                    | (refine ent_prq ?_))
                · refine wps_ite (fun h8 => ?_) (fun h8 => ?_)
                  · have hw : c.what = 8 := by simpa using h8
                    have e1 : bstepR q R m c = R.doom c.slot c.n := by simp [bstepR, hw]
                    have e2 : bstepM q m c = m := by simp [bstepM, hw]
                    refine wps_region (pc x5 c.cells) ent_pick1 ?_
                    refine wps_ldI c.slot (by rfl) ?_
                    refine wps_ldI c.n (by rfl) ?_
                    refine wps_ldI c.slot (by rfl) ?_
                    refine wps_ldI c.n (by rfl) ?_
                    refine wps_stepC1 (fun _ => device_Rack_Doom_spec rb R ds ps c.slot c.n) fun a => ?_
                    simp only [← star_assoc]
                    refine wps_prP fun ha => ?_
                    refine wps_stepC1 (fun _ => ref02_Doom_spec mb R l1 l2 l3 l4 c.slot c.n hn) fun b => ?_
                    simp only [← star_assoc]
                    refine wps_prP fun hb => ?_
                    refine wps_mapR (wps_pure (told6_end (by rw [ha, hb]; simp) e1.symm e2.symm ?_))
                    repeat (first
                      | (with_reducible exact ent_drop)
                      | (with_reducible refine ent_pick ?_)
                      | (refine ent_pickC (by rfl) ?_)
                      | (refine ent_pickS (by rfl) ?_)
                      | (refine ent_pickM (by rfl) ?_)
                      | (refine ent_prx ?_ ?_; rotate_left)
                      | (refine ent_prq ?_))
                  · refine wps_ite (fun h9 => ?_) (fun h9 => ?_)
                    · have hw : c.what = 9 := by simpa using h9
                      have e1 : bstepR q R m c = R.restore [c.n] := by simp [bstepR, hw]
                      have e2 : bstepM q m c = m := by simp [bstepM, hw]
                      refine wps_ld c.n (by rfl) ?_
                      refine wps_alloc fun y => ?_
                      refine wps_call2 (fun _ => device_Rack_Restore_spec (H := pc y [.int .i64 c.n]) hcv rb R ds ps ⟨some ⟨y, 0, none⟩, 1, 1⟩ [c.n] (rsl_pc rfl)) fun _ => ?_
                      simp only [← star_assoc]
                      refine wps_ld c.n (by rfl) ?_
                      refine wps_alloc fun z => ?_
                      refine wps_call2 (fun _ => ref02_Restore_spec (H := pc z [.int .i64 c.n]) mb R l1 l2 l3 l4 ⟨some ⟨z, 0, none⟩, 1, 1⟩ [c.n] (rsl_pc rfl)) fun _ => wps_pure ?_
                      simp only [← star_assoc]
                      rw [e1, e2]
                      show Ent _ (_ * _)
                      repeat (first
                        | (with_reducible exact ent_drop)
                        | (with_reducible refine ent_pick ?_)
                        | (refine ent_pickC (by rfl) ?_)
                        | (refine ent_pickS (by rfl) ?_)
                        | (refine ent_pickM (by rfl) ?_)
                        | (refine ent_prx ?_ ?_; rotate_left)
                        | (refine ent_prq ?_))
                    · have hne : ∀ k : Int, (c.what == k) ≠ true → c.what ≠ k := fun k hk => by simpa using hk
                      have e1 : bstepR q R m c = R := by simp [bstepR, hne _ h1, hne _ h2, hne _ h4, hne _ h7, hne _ h8, hne _ h9]
                      have e2 : bstepM q m c = m := by simp [bstepM, hne _ h6]
                      refine wps_pure ?_
                      rw [e1, e2]
                      show Ent _ (_ * _)
                      repeat (first
                        | (with_reducible exact ent_drop)
                        | (with_reducible refine ent_pick ?_)
                        | (refine ent_pickC (by rfl) ?_)
                        | (refine ent_pickS (by rfl) ?_)
                        | (refine ent_pickM (by rfl) ?_)
                        | (refine ent_prx ?_ ?_; rotate_left)
                        | (refine ent_prq ?_))
  · generalize hR2 : bstepR q R m c = R2
    generalize hm2 : bstepM q m c = m2
    refine wps_region (refQ mb R2 l1 l2 l3 l4 * bnk yb mb q m2) (ent_pick ent_pick1) ?_
    refine wps_stepQ2 (fun _ => bank_Bad_spec bb rb q m2 R2 ds ps hq) (fun x => by simp only [← star_assoc]; exact ent_pick ent_pick1) fun a => ?_
    simp only [← star_assoc]
    refine wps_stepQ2 (fun _ => ref06_Bad_spec yb mb q m2 hq R2 l1 l2 l3 l4) (fun x => by simp only [← star_assoc]; exact ent_pick ent_pick1) fun b => ?_
    simp only [← star_assoc]
    rw [iv_zv]
    have hbl := badL_len q m2 R2 hq
    refine wps_stepQ2 (fun _ => ref00_SameInts_spec (x := a) (y := b) (l := (badL q m2 R2).map fun i : Nat => (i : Int)) (by simp; omega)) (fun x => by exact Ent.trans (ent_left _ _) (ent_pick ent_pick1)) fun e => ?_
    refine wps_prP fun he => ?_
    subst he
    refine wps_ite (fun _ => ?_) (fun h => absurd rfl h)
    refine wps_nil ?_
    refine wps_ldGI m2.1 m2.2.1 m2.2.2 (by rfl) ?_
    refine wps_stepVH (d := ⟨ent_pick ent_pick1⟩) (fun _ => bank_Member_val bb rb q m2) ?_
    refine wps_ite (fun _ => ?_) (fun h => absurd (by simp [eq3]) h)
    refine wps_nil ?_
    refine wps_ldI R2.off (by rfl) ?_
    refine wps_stepV (d := ⟨ent_pick ent_pick1⟩) (val2 fun _ => bank_Off_val bb rb q m2 R2 ds ps) ?_
    refine wps_ite (fun _ => ?_) (fun h => absurd (by simp) h)
    refine wps_nil ?_
    refine wps_ldI q.1 (by rfl) ?_
    refine wps_stepV (d := ⟨ent_pick ent_pick1⟩) (val2 fun _ => bank_SpareFailed_val bb rb q m2 R2 ds ps) ?_
    refine wps_stepVH (d := ⟨ent_pick ent_pick1⟩) (fun _ => ref02_Failed_val mb R2 l1 l2 l3 l4 q.1) ?_
    refine wps_pure ?_
    refine Ent.trans (B := callB c * rackP rb R2 ds ps * bnk bb rb q m2 * refQ mb R2 l1 l2 l3 l4 * bnk yb mb q m2) ?_ (Ent.trans (ent_pr (p := (R2.failedB q.1 == R2.failedB q.1) = true) (by simp)) (Ent.of_eq (by simp only [star_assoc])))
    repeat (first
      | (with_reducible exact ent_drop)
      | (with_reducible refine ent_pick ?_)
      | (refine ent_pickC (by rfl) ?_)
      | (refine ent_pickS (by rfl) ?_)
      | (refine ent_pickM (by rfl) ?_)
      | (refine ent_prx ?_ ?_; rotate_left)
      | (refine ent_prq ?_))
theorem law06_BankCalls_spec (hcd : DisksOk cv) (hcv : KeysOk cv) (m : G3) (x : Slc) (l : List CallB) : wps g (callsB x l) (law06_BankCalls cv m x) (fun b => pr (b = true)) := by
  unfold law06_BankCalls
  refine wps_alloc fun c2 => ?_
  refine wps_callE (fun _ => law06_alive_spec) fun a => ?_
  refine wps_prP fun ha => ?_
  subst ha
  refine wps_ite (fun h => absurd h (by decide)) (fun _ => ?_)
  refine wps_fact (Ent.trans (ent_pick1 (A := callsB x l)) (callsB_len x l)) fun hl => ?_
  refine wps_ite (fun _ => wps_pure (ent_prq rfl)) (fun h100 => ?_)
  have hl100 : l.length ≤ 100 := by simp only [decide_eq_true_eq] at h100; omega
  refine wps_loop (fun st => ex fun i : Nat => pr (st.2 = (i : Int) ∧ i ≤ l.length ∧ 0 ≤ st.1 ∧ st.1 ≤ 20000 ∧ ∀ c ∈ l.take i, c.data.length ≤ 20000) * callsB x l * pc c2 [.int .i64 m.1, .int .i64 m.2.1, .int .i64 m.2.2]) (fun st => (l.length - st.2).toNat) ?_ fun st => ?_
  · refine ent_ex 0 ?_
    repeat (first
      | (with_reducible exact ent_drop)
      | (with_reducible refine ent_pick ?_)
      | (refine ent_pickC (by rfl) ?_)
      | (refine ent_pickS (by rfl) ?_)
      | (refine ent_pickM (by rfl) ?_)
      | (refine ent_prx ?_ ?_; rotate_left)
      | (refine ent_prq ?_))
    all_goals first | exact ⟨rfl, by omega, by (try dsimp only); omega, by (try dsimp only); omega, by simp⟩ | trivial
  refine wps_ex fun i => wps_prP fun ⟨hi, hn, h0, h1, hall⟩ => ?_
  refine wps_ite (fun hc => ?_) (fun hc => ?_)
  · have hlt : i < l.length := by simp only [decide_eq_true_eq] at hc; omega
    have hget : l[i]? = some l[i] := List.getElem?_eq_getElem hlt
    refine wps_fact (Ent.trans (ent_pick1 (A := callsB x l)) (Ent.trans (callsB_get hget) (callB_ok _))) fun hok => ?_
    refine wps_fact (Ent.trans (ent_pick1 (A := callsB x l)) (Ent.trans (callsB_get hget) (Ent.trans (callB_data _) (len_of (Ent.refl _))))) fun hdl => ?_
    have hd := hok.data
    refine wps_rdF (f := 3) i l[i].ds (Ent.trans (ent_pick1 (A := callsB x l)) (callsB_rsl x l)) hi (by omega) (by rw [flat_get cellsB_len hget (by omega)]; rfl) ?_
    rw [← hdl, w64_id (n := st.1 + _) (by omega) (by omega)]
    refine wps_ite (fun hb => wps_mapR (wps_pure (ent_prq rfl))) (fun hb => wps_pure ?_)
    have hb' : ¬ (st.1 + (l[i].data.length : Nat) > 20000) := by simpa using hb
    refine ent_prr (by (try dsimp only); rw [range_add1 hi (by omega)]; omega) (ent_ex (i + 1) ?_)
    repeat (first
      | (with_reducible exact ent_drop)
      | (with_reducible refine ent_pick ?_)
      | (refine ent_pickC (by rfl) ?_)
      | (refine ent_pickS (by rfl) ?_)
      | (refine ent_pickM (by rfl) ?_)
      | (refine ent_prx ?_ ?_; rotate_left)
      | (refine ent_prq ?_))
    all_goals first | trivial | skip
    refine ⟨range_add1 hi (by omega), by omega, by (try dsimp only); omega, by (try dsimp only); omega, fun c hc => ?_⟩
    rw [List.take_add_one, hget] at hc
    rcases List.mem_append.1 hc with hc | hc
    · exact hall c hc
    · have : c = l[i] := by simpa using hc
      subst this
      omega
  have hie : i = l.length := by simp only [decide_eq_true_eq] at hc; omega
  rw [hie, List.take_length] at hall
  refine wps_mapR ?_
  repeat (first
    | (with_reducible refine wps_val (law06_Small_val) ?_)
    | (with_reducible refine wps_stepV (law06_Small_val) ?_)
    | (with_reducible refine wps_val (geo_Sectors_val _) ?_)
    | (with_reducible refine wps_stepV (geo_Sectors_val _) ?_)
    | (with_reducible refine wps_bindpure ?_)
    | (with_reducible refine wps_assoc ?_)
    | (with_reducible refine wps_nil ?_)
    | (with_reducible refine wps_stepAlloc fun _ => ?_)
    | (with_reducible refine wps_alloc fun _ => ?_)
    | (with_reducible refine wps_newO fun _ => ?_)
    | (refine wps_ld _ (by rfl) ?_)
    | (refine wps_ldG _ _ _ (by rfl) ?_)
    | (refine wps_ldA _ (by rfl) ?_)
    | (refine wps_ldI _ (by rfl) ?_)
    | (refine wps_ldGI _ _ _ (by rfl) ?_)
    | (refine wps_ldAI _ (by rfl) ?_)
    | (refine wps_st (by simp) ?_)
    | (refine wps_stA (by simp) (by simp [Value.oneCell']) ?_)
    | (with_reducible refine wps_regionH ?_)
    | (with_reducible exact wps_pure (ent_val rfl)))
  rw [Small_sect]
  refine wps_callE (fun _ => device_New_spec 4 41) fun z => ?_
  rw [if_neg (by decide), show Rk.new (Int.toNat 4) (Int.toNat 41) = Rk.new 4 41 from rfl]
  refine wps_exP fun rb => ?_
  simp only [← star_assoc]
  refine wps_prP fun hz => ?_
  subst hz
  unfold rack
  refine wps_exP fun ds => wps_exP fun ps => ?_
  repeat (first
    | (with_reducible refine wps_val (geo_Sectors_val _) ?_)
    | (with_reducible refine wps_stepV (geo_Sectors_val _) ?_)
    | (with_reducible refine wps_bindpure ?_)
    | (with_reducible refine wps_assoc ?_)
    | (with_reducible refine wps_nil ?_)
    | (with_reducible refine wps_stepAlloc fun _ => ?_)
    | (with_reducible refine wps_alloc fun _ => ?_)
    | (with_reducible refine wps_newO fun _ => ?_)
    | (refine wps_ld _ (by rfl) ?_)
    | (refine wps_ldG _ _ _ (by rfl) ?_)
    | (refine wps_ldA _ (by rfl) ?_)
    | (refine wps_ldI _ (by rfl) ?_)
    | (refine wps_ldGI _ _ _ (by rfl) ?_)
    | (refine wps_ldAI _ (by rfl) ?_)
    | (refine wps_st (by simp) ?_)
    | (refine wps_stA (by simp) (by simp [Value.oneCell']) ?_)
    | (with_reducible refine wps_regionH ?_)
    | (with_reducible exact wps_pure (ent_val rfl)))
  rw [Small_sect]
  refine wps_callE (fun _ => ref02_New_spec 4 41) fun v => ?_
  rw [if_neg (by decide), show Rk.new (Int.toNat 4) (Int.toNat 41) = Rk.new 4 41 from rfl]
  refine wps_prP fun hv => ?_
  refine wps_alloc fun c10 => ?_
  refine wps_stA (by simp) (by simp [Value.oneCell']) ?_
  refine wps_val (v := false) (wps_ite (fun h => absurd h (by simp)) (fun _ => wps_pure (ent_val rfl))) ?_
  refine wps_ite (fun h => absurd h (by decide)) (fun _ => ?_)
  repeat (first
    | (with_reducible refine wps_bindpure ?_)
    | (with_reducible refine wps_assoc ?_)
    | (with_reducible refine wps_nil ?_)
    | (with_reducible refine wps_stepAlloc fun _ => ?_)
    | (with_reducible refine wps_alloc fun _ => ?_)
    | (with_reducible refine wps_newO fun _ => ?_)
    | (refine wps_ld _ (by rfl) ?_)
    | (refine wps_ldG _ _ _ (by rfl) ?_)
    | (refine wps_ldA _ (by rfl) ?_)
    | (refine wps_ldI _ (by rfl) ?_)
    | (refine wps_ldGI _ _ _ (by rfl) ?_)
    | (refine wps_ldAI _ (by rfl) ?_)
    | (refine wps_st (by simp) ?_)
    | (refine wps_stA (by simp) (by simp [Value.oneCell']) ?_)
    | (with_reducible refine wps_regionH ?_)
    | (with_reducible exact wps_pure (ent_val rfl)))
  refine wps_callH (fun _ => bank_Open_spec rb (Rk.new 4 41) ds ps (3, 3, 12) m) fun z => ?_
  repeat (first
    | (with_reducible refine wps_bindpure ?_)
    | (with_reducible refine wps_assoc ?_)
    | (with_reducible refine wps_nil ?_)
    | (with_reducible refine wps_stepAlloc fun _ => ?_)
    | (with_reducible refine wps_alloc fun _ => ?_)
    | (with_reducible refine wps_newO fun _ => ?_)
    | (refine wps_ld _ (by rfl) ?_)
    | (refine wps_ldG _ _ _ (by rfl) ?_)
    | (refine wps_ldA _ (by rfl) ?_)
    | (refine wps_ldI _ (by rfl) ?_)
    | (refine wps_ldGI _ _ _ (by rfl) ?_)
    | (refine wps_ldAI _ (by rfl) ?_)
    | (refine wps_st (by simp) ?_)
    | (refine wps_stA (by simp) (by simp [Value.oneCell']) ?_)
    | (with_reducible refine wps_regionH ?_)
    | (with_reducible exact wps_pure (ent_val rfl)))
  generalize hv1 : v.1 = u
  refine wps_fact (p := u.1 = (4 : Nat) ∧ u.2.1 = (41 : Nat)) ?_ fun ⟨hu1, hu2⟩ => ?_
  · subst hv1
    refine Ent.trans (ent_pick1 (A := refV v.1 (Rk.new 4 41))) ?_
    unfold refV refX
    refine ex_ent fun sl => ex_ent fun cl => ?_
    exact ent_prP fun hok => ent_prq ⟨hok.n, hok.ns⟩
  refine wps_pre (H' := callsB x l * (if OpenB (Rk.new 4 41).n (Rk.new 4 41).ns (3, 3, 12) m then ex fun bb => pr (z = (ptr bb, 0)) * rackP rb (Rk.new 4 41) ds ps * bnk bb rb (3, 3, 12) m else pr (z = (none, 10)) * rackP rb (Rk.new 4 41) ds ps) * refV u (Rk.new 4 41) * pc c10 (refC u)) ?_ ?_
  · refine ent_pickC (by rfl) ?_
    repeat (first
      | (with_reducible exact ent_drop)
      | (with_reducible refine ent_pick ?_)
      | (refine ent_pickC (by rfl) ?_)
      | (refine ent_pickS (by rfl) ?_)
      | (refine ent_pickM (by rfl) ?_)
      | (refine ent_prx ?_ ?_; rotate_left)
      | (refine ent_prq ?_))
  refine wps_call (F := callsB x l * (if OpenB (Rk.new 4 41).n (Rk.new 4 41).ns (3, 3, 12) m then ex fun bb => pr (z = (ptr bb, 0)) * rackP rb (Rk.new 4 41) ds ps * bnk bb rb (3, 3, 12) m else pr (z = (none, 10)) * rackP rb (Rk.new 4 41) ds ps)) (fun _ => ref06_Open_spec (H := refV u (Rk.new 4 41)) c10 u 4 41 (3, 3, 12) m hu1 hu2) (Ent.of_eq (by simp only [star_assoc])) fun w => ?_
  by_cases ho : OpenB 4 41 (3, 3, 12) m = true
  rotate_left
  · rw [show (Rk.new 4 41).n = 4 from rfl, show (Rk.new 4 41).ns = 41 from rfl]
    simp only [ho, if_false, Bool.false_eq_true]
    simp only [← star_assoc]
    refine wps_prP fun hw => wps_prP fun hz => ?_
    subst hw hz
    refine wps_val (v := false) (wps_ite (fun h => absurd h (by simp)) (fun _ => wps_pure (ent_val (by simp)))) ?_
    refine wps_ite (fun h => absurd h (by decide)) (fun _ => ?_)
    refine wps_val (v := true) (wps_ite (fun _ => wps_pure (ent_val rfl)) (fun h => absurd rfl h)) ?_
    refine wps_val (v := true) (wps_ite (fun _ => wps_pure (ent_val rfl)) (fun h => absurd rfl h)) ?_
    exact wps_ite (fun _ => wps_pure (ent_prq rfl)) (fun h => absurd rfl h)
  rw [show (Rk.new 4 41).n = 4 from rfl, show (Rk.new 4 41).ns = 41 from rfl]
  simp only [ho, if_true]
  refine wps_exP fun yb => wps_exP fun bb => ?_
  simp only [← star_assoc]
  refine wps_prP fun hw => wps_prP fun hz => ?_
  subst hw hz
  refine wps_val (v := false) (wps_ite (fun h => absurd h (by simp)) (fun _ => wps_pure (ent_val (by simp)))) ?_
  refine wps_ite (fun h => absurd h (by decide)) (fun _ => ?_)
  refine wps_val (v := false) (wps_ite (fun h => absurd h (by simp)) (fun _ => wps_pure (ent_val (by simp)))) ?_
  refine wps_val (v := false) (wps_ite (fun h => absurd h (by simp)) (fun _ => wps_pure (ent_val (by simp)))) ?_
  refine wps_ite (fun h => absurd h (by decide)) (fun _ => ?_)
  refine wps_pre (H' := callsB x l * rackP rb (Rk.new 4 41) ds ps * bnk bb rb (3, 3, 12) m * refQ c10 (Rk.new 4 41) u.2.2.1 u.2.2.2.1 u.2.2.2.2.1 u.2.2.2.2.2.1 * bnk yb c10 (3, 3, 12) m) ?_ ?_
  · refine Ent.trans (B := callsB x l * rackP rb (Rk.new 4 41) ds ps * bnk bb rb (3, 3, 12) m * bnk yb c10 (3, 3, 12) m * refV u (Rk.new 4 41) * pc c10 (refC u)) ?_ ?_
    · repeat (first
        | (with_reducible exact ent_drop)
        | (with_reducible refine ent_pick ?_)
        | (refine ent_pickC (by rfl) ?_)
        | (refine ent_pickS (by rfl) ?_)
        | (refine ent_pickM (by rfl) ?_)
        | (refine ent_prx ?_ ?_; rotate_left)
        | (refine ent_prq ?_))
    · refine Ent.trans (B := callsB x l * rackP rb (Rk.new 4 41) ds ps * bnk bb rb (3, 3, 12) m * bnk yb c10 (3, 3, 12) m * refQ c10 (Rk.new 4 41) u.2.2.1 u.2.2.2.1 u.2.2.2.2.1 u.2.2.2.2.2.1) ?_ ?_
      · refine ent_join (A := refV u (Rk.new 4 41)) (B := pc c10 (refC u)) refQ_new ?_
        repeat (first
          | (with_reducible exact ent_drop)
          | (with_reducible refine ent_pick ?_)
          | (refine ent_pickC (by rfl) ?_)
          | (refine ent_pickS (by rfl) ?_)
          | (refine ent_pickM (by rfl) ?_)
          | (refine ent_prx ?_ ?_; rotate_left)
          | (refine ent_prq ?_))
      · repeat (first
          | (with_reducible exact ent_drop)
          | (with_reducible refine ent_pick ?_)
          | (refine ent_pickC (by rfl) ?_)
          | (refine ent_pickS (by rfl) ?_)
          | (refine ent_pickM (by rfl) ?_)
          | (refine ent_prx ?_ ?_; rotate_left)
          | (refine ent_prq ?_))
  generalize u.2.2.1 = l1
  generalize u.2.2.2.1 = l2
  generalize u.2.2.2.2.1 = l3
  generalize u.2.2.2.2.2.1 = l4
  clear hv1 hu1 hu2 hv ho
  refine wps_loop (fun st => ex fun i : Nat => ex fun R : Rk => ex fun m : G3 => pr (st = (i : Int) ∧ i ≤ l.length) * callsB x l * rackP rb R ds ps * bnk bb rb (3, 3, 12) m * refQ c10 R l1 l2 l3 l4 * bnk yb c10 (3, 3, 12) m) (fun st => (l.length - st).toNat) ?_ fun st => ?_
  · refine ent_ex 0 (ent_ex (Rk.new 4 41) (ent_ex m ?_))
    repeat (first
      | (with_reducible exact ent_drop)
      | (with_reducible refine ent_pick ?_)
      | (refine ent_pickC (by rfl) ?_)
      | (refine ent_pickS (by rfl) ?_)
      | (refine ent_pickM (by rfl) ?_)
      | (refine ent_prx ?_ ?_; rotate_left)
      | (refine ent_prq ?_))
    all_goals first | exact ⟨rfl, by omega⟩ | trivial
  refine wps_ex fun i => wps_ex fun R => wps_ex fun m => wps_prP fun ⟨hi, hn⟩ => ?_
  refine wps_ite (fun hc => ?_) (fun hc => wps_mapR (wps_pure (ent_prq rfl)))
  have hlt : i < l.length := by simp only [decide_eq_true_eq] at hc; omega
  have hget : l[i]? = some l[i] := List.getElem?_eq_getElem hlt
  refine wps_fact (Ent.trans (ent_pick1 (A := callsB x l)) (Ent.trans (callsB_get hget) (callB_ok _))) fun hok => ?_
  have hmem : l[i] ∈ l := List.getElem_mem hlt
  refine wps_rdA i l[i].t (Ent.trans (ent_pick1 (A := callsB x l)) (callsB_rsl x l)) hi (by simp) (fun j v hj => ?_) ?_
  · have h5 : j < 7 := by have := (List.getElem?_eq_some_iff.1 hj).1; simpa using this
    rw [flat_get cellsB_len hget h5]; exact hj
  refine wps_bind (R := fun b => pr (b = true) * callsB x l * rackP rb (bstepR (3, 3, 12) R m l[i]) ds ps * bnk bb rb (3, 3, 12) (bstepM (3, 3, 12) m l[i]) * refQ c10 (bstepR (3, 3, 12) R m l[i]) l1 l2 l3 l4 * bnk yb c10 (3, 3, 12) (bstepM (3, 3, 12) m l[i])) ?_ fun b => ?_
  · refine wps_tail (F := callsB x l) (fun _ => law06_told_spec hcd hcv rb bb yb c10 (3, 3, 12) (by decide) R m ds ps l1 l2 l3 l4 l[i] (hall _ hmem) hok.n) ?_ fun b => ?_
    · refine Ent.trans (B := callsB x l * (rackP rb R ds ps * bnk bb rb (3, 3, 12) m * refQ c10 R l1 l2 l3 l4 * bnk yb c10 (3, 3, 12) m)) ?_ ?_
      · simp only [← star_assoc]
        repeat (first
          | (with_reducible exact ent_drop)
          | (with_reducible refine ent_pick ?_)
          | (refine ent_pickC (by rfl) ?_)
          | (refine ent_pickS (by rfl) ?_)
          | (refine ent_pickM (by rfl) ?_)
          | (refine ent_prx ?_ ?_; rotate_left)
          | (refine ent_prq ?_))
      · refine Ent.trans (Ent.starl (ent_and (B := callsB x l) (C := callB l[i]) (Ent.refl _) (callsB_get hget))) (Ent.of_eq ?_)
        simp only [star_assoc]
    · simp only [← star_assoc]
      refine ent_prP (p := b = true) fun h => ?_
      repeat (first
        | (with_reducible exact ent_drop)
        | (with_reducible refine ent_pick ?_)
        | (refine ent_pickC (by rfl) ?_)
        | (refine ent_pickS (by rfl) ?_)
        | (refine ent_pickM (by rfl) ?_)
        | (refine ent_prx ?_ ?_; rotate_left)
        | (refine ent_prq ?_))
      all_goals first | exact h | trivial
  · refine wps_prP fun hb => ?_
    subst hb
    refine wps_ite (fun h => absurd h (by decide)) (fun _ => wps_pure ?_)
    refine ent_prr (by rw [range_add1 hi (by omega)]; omega) (ent_ex (i + 1) (ent_ex (bstepR (3, 3, 12) R m l[i]) (ent_ex (bstepM (3, 3, 12) m l[i]) ?_)))
    repeat (first
      | (with_reducible exact ent_drop)
      | (with_reducible refine ent_pick ?_)
      | (refine ent_pickC (by rfl) ?_)
      | (refine ent_pickS (by rfl) ?_)
      | (refine ent_pickM (by rfl) ?_)
      | (refine ent_prx ?_ ?_; rotate_left)
      | (refine ent_prq ?_))
    all_goals first | exact ⟨range_add1 hi (by omega), by omega⟩ | trivial
end Go.Proofs.Ytldmeimebebllaa
namespace Go.Mo
open Go.RowKit
set_option linter.unusedVariables false
def full (W : World) : Hp := fun i => (W.heap[i]?).map fun ob => (ob, true)
def fullF (W : World) : Fr := ⟨full W, W.os, W.output⟩
theorem full_own (W : World) : Own W (full W) (fullF W) := by
  have hok : Hp.ok (full W) W := fun x ob r h => by
    simp only [full, Option.map_eq_some_iff, Prod.mk.injEq] at h
    obtain ⟨ob', h, rfl, _⟩ := h
    exact h
  refine ⟨fun x => ?_, hok, hok, rfl, rfl⟩
  cases h : full W x with
  | none => exact .inl rfl
  | some p =>
    obtain ⟨ob, r⟩ := p
    right; right
    simp only [full, Option.map_eq_some_iff, Prod.mk.injEq] at h
    obtain ⟨ob', h, rfl, rfl⟩ := h
    exact ⟨ob', rfl, by simp [fullF, full, h]⟩
structure Kept (W w' : World) : Prop where
  frame : W.keptBut w' (fun _ => False)
  block : ∀ (i : Nat) ob, W.heap[i]? = some ob → w'.heap[i]? = some ob
theorem kept_of_own {W w' : World} {a : Hp} (h : Own w' a (fullF W)) : Kept W w' := by
  have hh : ∀ (i : Nat) ob, W.heap[i]? = some ob → w'.heap[i]? = some ob := fun i ob hi => h.2.2.1 i ob true (by simp [fullF, full, hi])
  refine ⟨⟨h.2.2.2.os, h.2.2.2.out, fun i hi => ?_⟩, hh⟩
  rw [hh i _ (Array.getElem?_eq_getElem hi), Array.getElem?_eq_getElem hi]
  cases W.heap[i] with
  | cells c t fr => exact ⟨rfl, rfl, rfl, fun _ _ => rfl⟩
  | map es clock => exact .inr ⟨rfl, rfl⟩
  | _ => rfl
theorem Kept.same {W w' : World} (h : Kept W w') {b : Nat} (hb : b < W.heap.size) : w'.heap[b]? = W.heap[b]? :=
  (h.block b _ (Array.getElem?_eq_getElem hb)).trans (Array.getElem?_eq_getElem hb).symm
open Go.ChangeShapes Go.WideShapes in
theorem post_of_kept {H : Type} {enc : TypeId × Value → H} {P : Program} {f : Func} {s : ChangeSpec} {apart fresh handsOn again : Bool} {W W' : World} {args : Array Value} {v : Value} {ds gs : List (DataW H)} {before pa pv : List MemPlace}
    (hW : DataW.Whole enc P f.params.toList s.vars apart W args.toList ds gs before)
    (hres : ∀ (b : Nat) (sp : Nat → Bool) (hd : Bool), DataW.TrodAll enc P W' b sp hd f.resultTypes.toList (v.resultList f.resultTypes.size) (s.fn H (ds ++ gs)).results [])
    (hargs : ∀ sp : Nat → Bool, (∀ p ∈ before, sp p.block = true) → DataW.TrodAll enc P W' 0 sp true f.params.toList args.toList (s.fn H (ds ++ gs)).args pa)
    (hvars : ∀ sp : Nat → Bool, (∀ p ∈ before, sp p.block = true) → DataW.TrodVars enc P W' sp s.vars (s.fn H (ds ++ gs)).vars pv)
    (hps : before = pa ++ pv) (hk : Kept W W')
    (hok : ∀ (j : Nat) (t : TypeId) (r : Value), f.resultTypes[j]? = some t → (v.resultList f.resultTypes.size)[j]? = some r → Value.okWide P W' .any 0 t r) :
    s.post enc P f apart fresh handsOn again W args v W' := by
  have hold : ∀ p ∈ before, (fun b => decide (b < W.heap.size)) p.block = true := fun p hp => by simpa using hW.lt p hp
  refine ⟨ds, gs, before, [], pa, pv, hW, hres _ _ _, hargs _ hold, hvars _ hold, World.keptBut_mono (fun p hp => hp.elim) hk.frame, fun _ => ?_⟩
  have hlt := hW.lt
  obtain ⟨_, _, _, _, _, hz, hn⟩ := hW
  refine ⟨hok, _, _, ([] ++ pa) ++ pv, ⟨[] ++ pa, pv, trodAll_append (hargs _ (fun _ _ => rfl)) (hres _ _ _), hvars _ (fun _ _ => rfl), rfl, ?_, ?_⟩, ?_⟩
  · intro b off hp
    have hp' : MemPlace.cell b off ∈ before := by rw [hps]; simpa using hp
    have hb : b < W.heap.size := hlt _ hp'
    have := hz b off hp'
    unfold World.frozen? at this ⊢
    rw [show W'.heap[(⟨b, off, none⟩ : Addr).block]? = W.heap[(⟨b, off, none⟩ : Addr).block]? from hk.same hb]
    exact this
  · intro ha
    have := hn ha
    rw [hps] at this
    simpa using this
  · intro p hp _
    rw [hps]
    simpa using hp
theorem wps_run {m : M Bool} {H : HP} (h : ∀ g, wps g H m fun b => pr (b = true)) (W : World) (hH : H.p (full W)) : m (fun b w' => b = true ∧ Kept W w') W :=
  h (fullF W) W (full W) _ (full_own W) hH fun x w' a' ho hb => ⟨hb, kept_of_own ho⟩
theorem calls_law {P : Program} {f : FuncId} {args : Array Value} {W : World} (h : Calls P f args W (RetPost Value.bool fun b w' => b = true ∧ Kept W w')) : Calls P f args W fun e w' => e = .returned (.bool true) ∧ Kept W w' :=
  h.mono fun e w' he => by
    cases e with
    | returned v =>
      obtain ⟨b, rfl, rfl, hg⟩ := he
      exact ⟨rfl, hg⟩
    | panicked c => exact he.elim
    | outgrown => exact he.elim
theorem trodAll_carry {H : Type} {enc : TypeId × Value → H} {P : Program} {w w' : World} {base : Nat} {spare : Nat → Bool} {held : Bool} : ∀ {ts : List TypeId} {vs : List Value} {ds : List (DataW H)} {ps : List MemPlace},
    DataW.TrodAll enc P w base spare held ts vs ds ps → (∀ p ∈ ps, w.sameAt w' p) → DataW.TrodAll enc P w' base spare held ts vs ds ps
  | [], [], [], _, h, _ => h
  | _ :: _, _ :: _, _ :: _, _, ⟨p, q, ⟨n, h1⟩, h2, e⟩, hs => ⟨p, q, ⟨n, DataW.trod_carry n _ _ _ h1 fun x hx => hs x (by rw [e]; exact List.mem_append_left _ hx)⟩,
      trodAll_carry h2 (fun x hx => hs x (by rw [e]; exact List.mem_append_right _ hx)), e⟩
theorem args_again {H : Type} {enc : TypeId × Value → H} {P : Program} {W W' : World} (hg : Kept W W') (kids : Kids P (· < P.types.size)) (fulls : ∀ t e, t < P.types.size → P.underlying t = some (.slice e) → 0 < P.cellsOf e)
    {ts : List TypeId} (hts : ∀ t ∈ ts, t < P.types.size) {vs : List Value} {ds : List (DataW H)} {ps : List MemPlace} (h : DataW.TrodAll enc P W 0 (fun _ => true) true ts vs ds ps) {sp : Nat → Bool} (hs : ∀ p ∈ ps, sp p.block = true) (hlt : ∀ p ∈ ps, p.block < W.heap.size) :
    DataW.TrodAll enc P W' 0 sp true ts vs ds ps :=
  trodAll_carry (DataW.TrodAll.respare kids fulls hts h hs) fun p hp => by
    have hb := hlt p hp
    have he := hg.same hb
    cases p with
    | cell b o => simp only [World.sameAt, World.cell?]; rw [show W'.heap[b]? = W.heap[b]? from he]
    | map b => exact he
end Go.Mo
namespace Go.Proofs.Ytldmeimebebllaa
open Go.Mo
set_option linter.unusedVariables false
theorem rsl_full {W : World} {a : Addr} {len cap : Nat} {cs : List Value} (hl : len ≤ cap) (hz : cs.length = len) (hc : ∀ i, i < len → W.cell? (a.add i) = cs[i]?) : (rsl 1 ⟨some a, len, cap⟩ cs).p (full W) := by
  by_cases h0 : len = 0
  · left
    exact ⟨h0, List.eq_nil_of_length_eq_zero (by omega)⟩
  · right
    have hc0 := hc 0 (by omega)
    have ha0 : a.add 0 = a := by simp [Addr.add]
    rw [ha0, List.getElem?_eq_getElem (by omega)] at hc0
    have hsp := World.cell?_spot hc0
    obtain ⟨b, off, sp⟩ := a
    simp only at hsp
    subst hsp
    unfold World.cell? at hc0
    cases hb : W.heap[b]? with
    | none => simp [hb] at hc0
    | some ob =>
      cases ob with
      | cells c e f =>
        refine ⟨⟨b, off, none⟩, c.toList, ent_prr (A := ro b c.toList) (B := ro b c.toList) ⟨rfl, by simpa using hz, hl, ?_⟩ (Ent.refl _) _ ⟨e, f, true, by simp [full, hb]⟩⟩
        apply List.ext_getElem?
        intro i
        simp only [Nat.mul_one]
        rw [List.getElem?_take]
        by_cases hi : i < len
        · rw [if_pos hi, List.getElem?_drop, ← hc i hi, Addr.add_mk]
          simp [World.cell?, hb]
        · rw [if_neg hi, List.getElem?_eq_none (by omega)]
      | _ => simp [hb] at hc0
end Go.Proofs.Ytldmeimebebllaa
namespace Go.Proofs.Ytldmeimebebllaa
open Go.Mo
set_option linter.unusedVariables false
theorem wf_i64 {n : Int} (h : (Lit.int .i64 n).wf = true) : -9223372036854775808 ≤ n ∧ n < 9223372036854775808 := by
  simp only [Lit.wf, Bool.and_eq_true, decide_eq_true_eq] at h
  have h1 : IntKind.i64.min = -9223372036854775808 := rfl
  have h2 : IntKind.i64.max = 9223372036854775807 := rfl
  omega
theorem full_both {W : World} {A B : HP} (ha : A.p (full W)) (hb : B.p (full W)) : (A * B).p (full W) := by
  refine ⟨full W, full W, fun x => ?_, ?_, ha, hb⟩
  · cases h : full W x with
    | none => exact .inl rfl
    | some p =>
      right; right
      simp only [full, Option.map_eq_some_iff] at h
      obtain ⟨ob, _, rfl⟩ := h
      exact ⟨ob, rfl, rfl⟩
  · rw [Hp.un_self]; exact Hp.le_refl _
end Go.Proofs.Ytldmeimebebllaa
namespace Go.Proofs.Ytldmeimebebllaa
open Go.Mo Go.ChangeShapes Go.Deep 
set_option linter.unusedVariables false
theorem rsl_fullZ {W : World} {z : Nat} {a : Addr} {len cap : Nat} {cs : List Value} (hl : len ≤ cap) (hz : cs.length = len * z) (hzp : 0 < z) (hc : ∀ i, i < len * z → W.cell? (a.add i) = cs[i]?) : (rsl z ⟨some a, len, cap⟩ cs).p (full W) := by
  by_cases h0 : len = 0
  · left
    exact ⟨h0, List.eq_nil_of_length_eq_zero (by rw [hz, h0, Nat.zero_mul])⟩
  · right
    have hpos : 0 < len * z := Nat.mul_pos (by omega) hzp
    have hc0 := hc 0 hpos
    have ha0 : a.add 0 = a := by simp [Addr.add]
    rw [ha0, List.getElem?_eq_getElem (by omega)] at hc0
    have hsp := World.cell?_spot hc0
    obtain ⟨b, off, sp⟩ := a
    simp only at hsp
    subst hsp
    unfold World.cell? at hc0
    cases hb : W.heap[b]? with
    | none => simp [hb] at hc0
    | some ob =>
      cases ob with
      | cells c e f =>
        refine ⟨⟨b, off, none⟩, c.toList, ent_prr (A := ro b c.toList) (B := ro b c.toList) ⟨rfl, by simpa using hz, hl, ?_⟩ (Ent.refl _) _ ⟨e, f, true, by simp [full, hb]⟩⟩
        apply List.ext_getElem?
        intro i
        rw [List.getElem?_take]
        by_cases hi : i < len * z
        · rw [if_pos hi, List.getElem?_drop, ← hc i hi, Addr.add_mk]
          simp [World.cell?, hb]
        · rw [if_neg hi, List.getElem?_eq_none (by omega)]
      | _ => simp [hb] at hc0
section
variable {H : Type} {enc : TypeId × Value → H} {P : Program} {W : World} {base : Nat}
structure Flds (enc : TypeId × Value → H) (P : Program) (W : World) (base n : Nat) (fs : Array Field) (cs : List Value) (xs : List (DataW H × List MemPlace)) : Prop where
  each : ∀ (i : Nat) (f : Field), fs[i]? = some f → DataW.trod enc P W base (fun _ => true) true n f.type ((cs.drop f.offset).take (P.cellsOf f.type)) = xs[i]?
  len : xs.length = fs.size
theorem one_of {cs : List Value} {o : Nat} {v : Value} (h : (cs.drop o).take 1 = [v]) : cs[o]? = some v := by
  have := congrArg (fun l => l[0]?) h
  simpa using this
theorem Flds.int {n : Nat} {fs : Array Field} {cs : List Value} {xs : List (DataW H × List MemPlace)} (h : Flds enc P W base n fs cs xs) (i : Nat) {f : Field} (hf : fs[i]? = some f) (hu : P.underlying f.type = some (.int .i64)) (hc : P.cellsOf f.type = 1) :
    ∃ q : Int, cs[f.offset]? = some (.int .i64 q) ∧ (Lit.int .i64 q).wf = true := by
  have h1 := h.each i f hf
  rw [hc] at h1
  have hi : i < xs.length := by rw [h.len]; exact (Array.getElem?_eq_some_iff.1 hf).1
  rw [List.getElem?_eq_getElem hi] at h1
  obtain ⟨q, hq, _, hw⟩ := DataW.trod_int hu h1
  exact ⟨q, one_of hq, hw⟩
theorem Flds.slice {n : Nat} {fs : Array Field} {cs : List Value} {xs : List (DataW H × List MemPlace)} (h : Flds enc P W base n fs cs xs) (i : Nat) {f : Field} (hf : fs[i]? = some f) {e : TypeId} {k : IntKind} (hu : P.underlying f.type = some (.slice e)) (hc : P.cellsOf f.type = 1)
    (he : P.underlying e = some (.int k)) (hce : P.cellsOf e = 1) (hbe : 0 < P.bytesOf e) (hw : ∀ y, xs[i]? = some y → ∀ q ∈ y.1.weights P f.type, q ≤ reachBytes) :
    ∃ (s : Slc) (b : List Int), cs[f.offset]? = some (.slice s.base s.len s.cap) ∧ (rsl 1 s (b.map (Value.int k))).p (full W) ∧ (∀ q ∈ b, (Lit.int k q).wf = true) ∧ b.length ≤ 140737488355328 := by
  have h1 := h.each i f hf
  rw [hc] at h1
  have hi : i < xs.length := by rw [h.len]; exact (Array.getElem?_eq_some_iff.1 hf).1
  rw [List.getElem?_eq_getElem hi] at h1
  have hwi := hw _ (List.getElem?_eq_getElem hi)
  rcases open_ints hu he hce h1 with ⟨hcs, hx⟩ | ⟨a, len, cap, zs, hcs, hba, hle, hcap, hzl, hx, hcell, hwf⟩
  · exact ⟨⟨none, 0, 0⟩, [], one_of hcs, .inl ⟨rfl, rfl⟩, by simp, by simp⟩
  · have hzl' : zs.length = cap := by simpa using hzl
    refine ⟨⟨some a, len, cap⟩, zs.take len, one_of hcs, ?_, fun q hq => hwf q (List.mem_of_mem_take hq), ?_⟩
    · refine rsl_full hle (by simp; omega) fun j hj => ?_
      rw [hcell j (by omega), List.getElem?_map, List.getElem?_take, if_pos hj, List.getElem?_eq_getElem (by omega)]
      simp [List.getD_eq_getElem?_getD, List.getElem?_eq_getElem (show j < zs.length by omega)]
    · rw [hx] at hwi
      have := hwi (((lits (H := H) k (zs.take len)).length + (lits (H := H) k (zs.drop len)).length) * P.bytesOf e) (by simp [DataW.weights, hu])
      have h2 : reachBytes = 140737488351232 := rfl
      have h3 : (lits (H := H) k (zs.take len)).length + (lits (H := H) k (zs.drop len)).length = zs.length := by simp [lits]; omega
      rw [h3] at this
      have h4 : zs.length * 1 ≤ zs.length * P.bytesOf e := Nat.mul_le_mul_left _ hbe
      simp only [List.length_take]; omega
theorem struct_weights {e : TypeId} {fs : Array Field} {xs : List (DataW H × List MemPlace)} (he : P.underlying e = some (.struct fs)) (hs : ∀ q ∈ (DataW.agg (xs.map (·.1))).weights P e, q ≤ reachBytes) (i : Nat) {f : Field} (hf : fs[i]? = some f) :
    ∀ y, xs[i]? = some y → ∀ q ∈ y.1.weights P f.type, q ≤ reachBytes := by
  intro y hy q hq
  refine hs q ?_
  simp only [DataW.weights, he]
  refine DataW.weights_mem_each (j := i) (t := f.type) (d := y.1) ?_ ?_ q hq
  · rw [List.getElem?_map, Array.getElem?_toList, hf]; rfl
  · rw [List.getElem?_map, hy]; rfl
theorem all_weights {e : TypeId} {ds : List (DataW H)} {d : DataW H} (hd : d ∈ ds) {q : Nat} (hq : q ∈ d.weights P e) : q ∈ DataW.weightsAll P e ds := by
  induction ds with
  | nil => simp at hd
  | cons x ds ih =>
    simp only [DataW.weightsAll, List.mem_append]
    rcases List.mem_cons.1 hd with rfl | hd
    · exact .inl hq
    · exact .inr (ih hd)
theorem sized_arg {ts : List TypeId} {ds : List (DataW H)} {j : Nat} {t : TypeId} {d : DataW H} (h : (DataW.weightsEach P ts ds).all (· ≤ reachBytes) = true) (ht : ts[j]? = some t) (hd : ds[j]? = some d) : ∀ q ∈ d.weights P t, q ≤ reachBytes := fun q hq => by
  have := List.all_eq_true.1 h _ (DataW.weights_mem_each ht hd q hq)
  simpa using this
instance : Inhabited CallA := ⟨⟨0, 0, 0, ⟨none, 0, 0⟩, [], ⟨none, 0, 0⟩, []⟩⟩
theorem open_structs {γ : Type} [Inhabited γ] {cells : γ → List Value} {z : Nat} {ok : γ → Prop} {t e : TypeId} {fuel : Nat} {cs : List Value} {x : DataW H × List MemPlace} (hzp : 0 < z) (hcl : ∀ c, (cells c).length = z) (ht : P.underlying t = some (.slice e)) (hz : P.cellsOf e = z)
    (helem : ∀ (n : Nat) (cs : List Value) (x : DataW H × List MemPlace), DataW.trod enc P W base (fun _ => true) true n e cs = some x → (∀ q ∈ x.1.weights P e, q ≤ reachBytes) → ∃ c, cs = cells c ∧ ok c)
    (h : DataW.trod enc P W base (fun _ => true) true fuel t cs = some x) (hs : ∀ q ∈ x.1.weights P t, q ≤ reachBytes) :
    ∃ (s : Slc) (l : List γ), cs = [.slice s.base s.len s.cap] ∧ (rsl z s (l.flatMap cells)).p (full W) ∧ l.length = s.len ∧ ∀ c ∈ l, ok c := by
  rcases open_slice ht h with ⟨hcs, hx⟩ | ⟨a, len, cap, m, n, D, Pl, hcs, hb, hle, hcap, hm, hx, hel⟩
  · exact ⟨⟨none, 0, 0⟩, [], hcs, .inl ⟨rfl, rfl⟩, rfl, by simp⟩
  · have hm' : m = cap := by simpa using hm
    have hel' : ∀ i, i < len → ∃ c : γ, W.cells? base (a.add (i * z)) z = some (cells c) ∧ ok c := by
      intro i hi
      obtain ⟨cs', h1, h2⟩ := hel i (by omega)
      rw [hz] at h1
      obtain ⟨c, hc, hok⟩ := helem n cs' _ h2 (fun q hq => by
        refine hs q ?_
        rw [hx]
        simp only [DataW.weights, ht]
        refine List.mem_cons_of_mem _ (List.mem_append_left _ (all_weights (d := D i) ?_ hq))
        exact List.mem_map.2 ⟨i, List.mem_range.2 hi, rfl⟩)
      exact ⟨c, hc ▸ h1, hok⟩
    obtain ⟨f, hf⟩ := choose_lt hel'
    refine ⟨⟨some a, len, cap⟩, (List.range len).map f, hcs, ?_, by simp, fun c hc => ?_⟩
    · refine rsl_fullZ hle (by rw [flat_len hcl]; simp) hzp fun i hi => ?_
      have hq : i / z < len := (Nat.div_lt_iff_lt_mul hzp).2 hi
      have hr : i % z < z := Nat.mod_lt _ hzp
      obtain ⟨_, hlen, hcell⟩ := World.cells?_some (hf (i / z) hq).1
      have hc := hcell (i % z) hr
      rw [Addr.add_add] at hc
      have hsplit : i / z * z + i % z = i := by rw [Nat.mul_comm]; exact Nat.div_add_mod i z
      rw [hsplit] at hc
      rw [hc]
      have hg := flat_get hcl (l := (List.range len).map f) (n := i / z) (j := i % z) (c := f (i / z)) (by rw [List.getElem?_map, List.getElem?_range hq]; rfl) hr
      rw [hsplit] at hg
      exact hg.symm
    · obtain ⟨i, hi, rfl⟩ := List.mem_map.1 hc
      exact (hf i (List.mem_range.1 hi)).2
end
end Go.Proofs.Ytldmeimebebllaa
namespace Go.Proofs.Ytldmeimebebllaa
open Go.Mo Go.ChangeShapes Go.Deep 
set_option linter.unusedVariables false
section
variable {H : Type} {enc : TypeId × Value → H} {P : Program} {W : World} {base : Nat}
theorem Flds.g3 {n : Nat} {fs : Array Field} {cs : List Value} {xs : List (DataW H × List MemPlace)} (h : Flds enc P W base n fs cs xs) (i : Nat) {f k0 k1 k2 : Field} (hf : fs[i]? = some f) (hu : P.underlying f.type = some (.struct #[k0, k1, k2])) (hc : P.cellsOf f.type = 3)
    (ho : k0.offset = 0 ∧ k1.offset = 1 ∧ k2.offset = 2) (hk : P.cellsOf k0.type = 1 ∧ P.cellsOf k1.type = 1 ∧ P.cellsOf k2.type = 1) (hi : P.underlying k0.type = some (.int .i64) ∧ P.underlying k1.type = some (.int .i64) ∧ P.underlying k2.type = some (.int .i64)) :
    ∃ q : Int × Int × Int, cs[f.offset]? = some (.int .i64 q.1) ∧ cs[f.offset + 1]? = some (.int .i64 q.2.1) ∧ cs[f.offset + 2]? = some (.int .i64 q.2.2) := by
  have h1 := h.each i f hf
  rw [hc] at h1
  have hlt : i < xs.length := by rw [h.len]; exact (Array.getElem?_eq_some_iff.1 hf).1
  rw [List.getElem?_eq_getElem hlt] at h1
  obtain ⟨ys, n', _, hx, hl, hyl, hf'⟩ := DataW.trod_struct hu h1
  have F : Flds enc P W base n' #[k0, k1, k2] ((cs.drop f.offset).take 3) ys := ⟨hf', hyl⟩
  obtain ⟨q0, a0, _⟩ := F.int 0 (f := k0) rfl hi.1 hk.1
  obtain ⟨q1, a1, _⟩ := F.int 1 (f := k1) rfl hi.2.1 hk.2.1
  obtain ⟨q2, a2, _⟩ := F.int 2 (f := k2) rfl hi.2.2 hk.2.2
  rw [ho.1] at a0
  rw [ho.2.1] at a1
  rw [ho.2.2] at a2
  rw [List.getElem?_take, if_pos (by omega), List.getElem?_drop] at a0 a1 a2
  exact ⟨(q0, q1, q2), a0, a1, a2⟩
theorem list7 {cs : List Value} {a b c d e f k : Value} (hl : cs.length = 7) (h0 : cs[0]? = some a) (h1 : cs[1]? = some b) (h2 : cs[2]? = some c) (h3 : cs[3]? = some d) (h4 : cs[4]? = some e) (h5 : cs[5]? = some f) (h6 : cs[6]? = some k) : cs = [a, b, c, d, e, f, k] := by
  match cs, hl with
  | [_, _, _, _, _, _, _], _ => simp at h0 h1 h2 h3 h4 h5 h6; simp [h0, h1, h2, h3, h4, h5, h6]
instance : Inhabited CallB := ⟨⟨0, 0, 0, ⟨none, 0, 0⟩, [], (0, 0, 0)⟩⟩
theorem open_callsB {t e eb : TypeId} {f0 f1 f2 f3 f4 k0 k1 k2 : Field} {fuel : Nat} {cs : List Value} {x : DataW H × List MemPlace} (ht : P.underlying t = some (.slice e)) (hz : P.cellsOf e = 7) (he : P.underlying e = some (.struct #[f0, f1, f2, f3, f4]))
    (ho : f0.offset = 0 ∧ f1.offset = 1 ∧ f2.offset = 2 ∧ f3.offset = 3 ∧ f4.offset = 4)
    (hc : P.cellsOf f0.type = 1 ∧ P.cellsOf f1.type = 1 ∧ P.cellsOf f2.type = 1 ∧ P.cellsOf f3.type = 1 ∧ P.cellsOf f4.type = 3)
    (hi : P.underlying f0.type = some (.int .i64) ∧ P.underlying f1.type = some (.int .i64) ∧ P.underlying f2.type = some (.int .i64))
    (h3 : P.underlying f3.type = some (.slice eb) ∧ P.underlying eb = some (.int .u8) ∧ P.cellsOf eb = 1 ∧ 0 < P.bytesOf eb)
    (hu : P.underlying f4.type = some (.struct #[k0, k1, k2])) (hok : k0.offset = 0 ∧ k1.offset = 1 ∧ k2.offset = 2) (hk : P.cellsOf k0.type = 1 ∧ P.cellsOf k1.type = 1 ∧ P.cellsOf k2.type = 1) (hik : P.underlying k0.type = some (.int .i64) ∧ P.underlying k1.type = some (.int .i64) ∧ P.underlying k2.type = some (.int .i64))
    (h : DataW.trod enc P W base (fun _ => true) true fuel t cs = some x) (hs : ∀ q ∈ x.1.weights P t, q ≤ reachBytes) :
    ∃ (s : Slc) (l : List CallB), cs = [.slice s.base s.len s.cap] ∧ (callsB s l).p (full W) := by
  obtain ⟨s, l, hcs, hr, hlen, hok⟩ := open_structs (γ := CallB) (cells := CallB.cells) (z := 7) (ok := fun c => (callB c).p (full W)) (by decide) cellsB_len ht hz (fun n cs x hx hw => by
    obtain ⟨xs, n', _, rfl, hl, hxl, hf⟩ := DataW.trod_struct he hx
    have F : Flds enc P W base n' #[f0, f1, f2, f3, f4] cs xs := ⟨hf, hxl⟩
    obtain ⟨q0, a0, _⟩ := F.int 0 (f := f0) rfl hi.1 hc.1
    obtain ⟨q1, a1, _⟩ := F.int 1 (f := f1) rfl hi.2.1 hc.2.1
    obtain ⟨q2, a2, w2⟩ := F.int 2 (f := f2) rfl hi.2.2 hc.2.2.1
    obtain ⟨s3, b3, a3, r3, _, n3⟩ := F.slice 3 (f := f3) rfl h3.1 hc.2.2.2.1 h3.2.1 h3.2.2.1 h3.2.2.2 (struct_weights he hw 3 rfl)
    obtain ⟨q4, a4, a5, a6⟩ := F.g3 4 (f := f4) rfl hu hc.2.2.2.2 hok hk hik
    rw [ho.1] at a0
    rw [ho.2.1] at a1
    rw [ho.2.2.1] at a2
    rw [ho.2.2.2.1] at a3
    rw [ho.2.2.2.2] at a4 a5 a6
    refine ⟨⟨q0, q1, q2, s3, b3, q4⟩, list7 (by rw [hl, hz]) a0 a1 a2 a3 a4 a5 a6, ?_⟩
    exact full_both (A := pr _) ⟨(wf_i64 w2).2, n3⟩ r3) h hs
  refine ⟨s, l, hcs, full_both hr fun i c => ?_⟩
  exact fun hc => hok c (List.mem_of_getElem? hc)
end
end Go.Proofs.Ytldmeimebebllaa
