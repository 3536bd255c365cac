/-
  finding parts of an assertion.
-/
import Derived.Test.YtldmeimebebllaaMoSL3
namespace Go.Mo
set_option linter.unusedVariables false

/-! ## Finding chunks -/
class Has (H A : HP) (H' : outParam HP) : Prop where
  eq : H = H' * A
instance Has.self (A : HP) : Has A A emp := ⟨(emp_star _).symm⟩
instance Has.here (H A : HP) : Has (H * A) A H := ⟨rfl⟩
instance (priority := low) Has.there (H B A H' : HP) [h : Has H A H'] : Has (H * B) A (H' * B) := ⟨by rw [h.eq, star_right_comm]⟩
instance (priority := low) Has.thereR (B H A H' : HP) [h : Has H A H'] : Has (B * H) A (B * H') := ⟨by rw [h.eq, star_assoc]⟩
class PickP (H : HP) (p : outParam Prop) (H' : outParam HP) : Prop where
  eq : H = H' * pr p
instance PickP.self (p : Prop) : PickP (pr p) p emp := ⟨(emp_star _).symm⟩
instance PickP.here (H : HP) (p : Prop) : PickP (H * pr p) p H := ⟨rfl⟩
instance (priority := low) PickP.there (H B : HP) (p : Prop) (H' : HP) [h : PickP H p H'] : PickP (H * B) p (H' * B) := ⟨by rw [h.eq, star_right_comm]⟩
instance (priority := low) PickP.thereR (B H : HP) (p : Prop) (H' : HP) [h : PickP H p H'] : PickP (B * H) p (B * H') := ⟨by rw [h.eq, star_assoc]⟩
class PickE (H : HP) (α : outParam Type) (A : outParam (α → HP)) (H' : outParam HP) : Prop where
  eq : H = H' * ex A
instance PickE.self (α : Type) (A : α → HP) : PickE (ex A) α A emp := ⟨(emp_star _).symm⟩
instance PickE.here (H : HP) (α : Type) (A : α → HP) : PickE (H * ex A) α A H := ⟨rfl⟩
instance (priority := low) PickE.there (H B : HP) (α : Type) (A : α → HP) (H' : HP) [h : PickE H α A H'] : PickE (H * B) α A (H' * B) := ⟨by rw [h.eq, star_right_comm]⟩
instance (priority := low) PickE.thereR (B H : HP) (α : Type) (A : α → HP) (H' : HP) [h : PickE H α A H'] : PickE (B * H) α A (B * H') := ⟨by rw [h.eq, star_assoc]⟩
class PickS (z : Nat) (s : Slc) (H : HP) (cs : outParam (List Value)) (H' : outParam HP) : Prop where
  eq : H = H' * own z s cs
instance PickS.self (z : Nat) (s : Slc) (cs : List Value) : PickS z s (own z s cs) cs emp := ⟨(emp_star _).symm⟩
instance PickS.here (z : Nat) (s : Slc) (cs : List Value) (H : HP) : PickS z s (H * own z s cs) cs H := ⟨rfl⟩
instance (priority := low) PickS.there (z : Nat) (s : Slc) (cs : List Value) (H B H' : HP) [h : PickS z s H cs H'] : PickS z s (H * B) cs (H' * B) := ⟨by rw [h.eq, star_right_comm]⟩
instance (priority := low) PickS.thereR (z : Nat) (s : Slc) (cs : List Value) (B H H' : HP) [h : PickS z s H cs H'] : PickS z s (B * H) cs (B * H') := ⟨by rw [h.eq, star_assoc]⟩
class PickM (m : Nat) (H : HP) (f : outParam (Int → Option Value)) (H' : outParam HP) : Prop where
  eq : H = H' * imap m f
instance PickM.self (m : Nat) (f : Int → Option Value) : PickM m (imap m f) f emp := ⟨(emp_star _).symm⟩
instance PickM.here (m : Nat) (f : Int → Option Value) (H : HP) : PickM m (H * imap m f) f H := ⟨rfl⟩
instance (priority := low) PickM.there (m : Nat) (f : Int → Option Value) (H B H' : HP) [h : PickM m H f H'] : PickM m (H * B) f (H' * B) := ⟨by rw [h.eq, star_right_comm]⟩
instance (priority := low) PickM.thereR (m : Nat) (f : Int → Option Value) (B H H' : HP) [h : PickM m H f H'] : PickM m (B * H) f (B * H') := ⟨by rw [h.eq, star_assoc]⟩
/-- a slice that is read -/
class RdS (z : Nat) (s : Slc) (H : HP) (cs : outParam (List Value)) : Prop where
  rd : Ent H (rsl z s cs)
instance (z : Nat) (s : Slc) (cs : List Value) : RdS z s (own z s cs) cs := ⟨own_rsl z s cs⟩
instance (z : Nat) (s : Slc) (cs : List Value) : RdS z s (rsl z s cs) cs := ⟨Ent.refl _⟩
instance RdS.right (z : Nat) (s : Slc) (cs : List Value) (A B : HP) [h : RdS z s B cs] : RdS z s (A * B) cs := ⟨Ent.trans (ent_right A B) h.rd⟩
instance (priority := low) RdS.left (z : Nat) (s : Slc) (cs : List Value) (A B : HP) [h : RdS z s A cs] : RdS z s (A * B) cs := ⟨Ent.trans (ent_left A B) h.rd⟩

theorem ent_pick {H A H' B : HP} [h : Has H A H'] (h' : Ent H' B) : Ent H (B * A) := by rw [h.eq]; exact Ent.starl h'
theorem ent_pick1 {H A H' : HP} [h : Has H A H'] : Ent H A := by rw [h.eq]; exact ent_right _ _
theorem ent_pickC {b : Nat} {H H' B : HP} {cs cs' : List Value} [h : PickC b H cs H'] (e : cs = cs') (h' : Ent H' B) : Ent H (B * pc b cs') := by rw [h.eq, e]; exact Ent.starl h'
theorem ent_pickS {z : Nat} {s : Slc} {H H' B : HP} {cs cs' : List Value} [h : PickS z s H cs H'] (e : cs = cs') (h' : Ent H' B) : Ent H (B * own z s cs') := by rw [h.eq, e]; exact Ent.starl h'
theorem ent_pickM {m : Nat} {H H' B : HP} {f f' : Int → Option Value} [h : PickM m H f H'] (e : f = f') (h' : Ent H' B) : Ent H (B * imap m f') := by rw [h.eq, e]; exact Ent.starl h'
theorem ent_own0 {z : Nat} {H B : HP} (h' : Ent H B) : Ent H (B * own z ⟨none, 0, 0⟩ []) := by
  refine Ent.trans (Ent.of_eq (star_emp H).symm) (Ent.star h' (own_nil z))
theorem ent_pers {H A B : HP} (h' : Ent H B) (ha : Ent emp A) : Ent H (B * A) := by
  refine Ent.trans (Ent.of_eq (star_emp H).symm) (Ent.star h' ha)
theorem ent_add {H A C : HP} (ha : Ent emp A) (h' : Ent (H * A) C) : Ent H C :=
  Ent.trans (Ent.trans (Ent.of_eq (star_emp H).symm) (Ent.star (Ent.refl H) ha)) h'
theorem ent_exr {α : Type} {A : α → HP} {B H : HP} (x : α) (h : Ent H (B * A x)) : Ent H (B * ex A) := Ent.trans h (Ent.starr (ent_ex x (Ent.refl _)))
theorem ent_prx {p : Prop} {H B : HP} (hp : p) (h : Ent H B) : Ent H (B * pr p) := by rw [star_comm]; exact ent_prr hp h
/-- a chunk in another's place -/
theorem ent_swap {H A H' B C : HP} [h : Has H A H'] (hs : Ent A B) (h' : Ent (H' * B) C) : Ent H C := by
  rw [h.eq]; exact Ent.trans (Ent.starr hs) h'
theorem ent_join {H A B C D H1 H2 : HP} [h1 : Has H A H1] [h2 : Has H1 B H2] (h : Ent (A * B) C) (h' : Ent H2 D) : Ent H (D * C) := by
  rw [h1.eq, h2.eq, star_assoc, star_comm B A]; exact Ent.star h' h
theorem ent_prP {H H' B : HP} {p : Prop} [h : PickP H p H'] (h' : p → Ent H' B) : Ent H B := by
  rw [h.eq, star_comm]; exact pr_ent h'
theorem ent_exP {H H' B : HP} {α : Type} {A : α → HP} [h : PickE H α A H'] (h' : ∀ x, Ent (H' * A x) B) : Ent H B := by
  rw [h.eq, star_ex]; exact ex_ent h'
theorem ent_prq {p : Prop} {A : HP} (h : p) : Ent A (pr p) := fun _ _ => h
section
variable {α β σ : Type} {g : Fr} {H H' : HP} {Q : α → HP}
theorem wps_prP {p : Prop} {m : M α} [h : PickP H p H'] (h' : p → wps g H' m Q) : wps g H m Q := by
  rw [h.eq]; exact wps_prr h'
theorem wps_factP {p : Prop} {m : M α} [h : PickP H p H'] (h' : p → wps g H m Q) : wps g H m Q :=
  wps_fact (by rw [h.eq]; exact ent_right _ _) h'
theorem wps_exP {γ : Type} {A : γ → HP} {m : M α} [h : PickE H γ A H'] (h' : ∀ x, wps g (H' * A x) m Q) : wps g H m Q := by
  rw [h.eq]; exact wps_exr h'
theorem wps_swap {A B : HP} {m : M α} [h : Has H A H'] (hs : Ent A B) (h' : wps g (H' * B) m Q) : wps g H m Q := wps_pre (ent_swap hs (Ent.refl _)) h'
/-- a call whose precondition is one chunk -/
theorem wps_callH {m : M β} {k : β → M α} {A : HP} {Q' : β → HP} [h : Has H A H'] (hs : ∀ g', wps g' A m Q') (h' : ∀ x, wps g (H' * Q' x) (k x) Q) : wps g H (bindM m k) Q :=
  wps_call hs (Ent.of_eq h.eq) h'
/-- a value that one chunk tells -/
theorem wps_valH {m : M β} {k : β → M α} {A : HP} {v : β} [h : Has H A H'] (hs : ∀ g', Val g' A m v) (h' : wps g H (k v) Q) : wps g H (bindM m k) Q :=
  wps_val (val_frame hs h.eq) h'
theorem wps_tailH {m : M α} {A : HP} {Q' : α → HP} [h : Has H A H'] (hs : ∀ g', wps g' A m Q') (h' : ∀ x, Ent (H' * Q' x) (Q x)) : wps g H m Q :=
  wps_tail hs (Ent.of_eq h.eq) h'
/-- a call that takes nothing -/
theorem wps_callE {m : M β} {k : β → M α} {Q' : β → HP} (h : ∀ g', wps g' emp m Q') (h' : ∀ x, wps g (H * Q' x) (k x) Q) : wps g H (bindM m k) Q := wps_call h (Ent.of_eq (star_emp H).symm) h'
theorem wps_stepVH {R : HP} [d : Drops H R] {m : M β} {k : β → M α} {A : HP} {v : β} [h : Has H A H'] (hs : ∀ g', Val g' A m v) (h' : wps g H (k v) Q) : wps g H (bindM (stepI (Iv g R) m) k) Q := wps_stepV (val_frame hs h.eq) h'
theorem wps_stepAlloc {R : HP} {cs : List Value} {k : Addr → M α} [d : Drops H R] (h : ∀ b, wps g (H * pc b cs) (k ⟨b, 0, none⟩) Q) : wps g H (bindM (stepI (Iv g R) (allocM cs)) k) Q :=
  fun w a Qf ho ha hq elem => by
    have hp := own_push ho (.cells cs.toArray elem) (World.allocC w cs.toArray elem) rfl ⟨rfl, rfl⟩ (fun _ _ _ h => by cases h; rfl)
    have ha' : (H * pc w.heap.size cs).p (Hp.un a fun y => if y = w.heap.size then some (.cells cs.toArray elem, false) else none) := ⟨a, _, hp.2, Hp.le_refl _, ha, ⟨elem, by simp⟩⟩
    exact ⟨⟨_, hp.1, Ent.trans (ent_left _ _) d.ent _ ha'⟩, h w.heap.size _ _ Qf hp.1 ha' hq⟩
theorem wps_step1 {R : HP} {m : M β} {k : β → M α} {R' : β → HP} [d : Drops H R] (h : wps g H m fun x => H * R' x) (h' : ∀ x, wps g (H * R' x) (k x) Q) : wps g H (bindM (stepI (Iv g R) m) k) Q :=
  wps_bind (wps_stepI h fun x => Ent.trans (ent_left _ _) d.ent) h'
/-- a call inside a region: what remains tells the region's condition -/
theorem wps_stepC {R : HP} {m : M β} {k : β → M α} {A F : HP} {Q' : β → HP} (h : ∀ g', wps g' A m Q') (hp : Ent H (F * A)) (hR : Ent F R) (h' : ∀ x, wps g (F * Q' x) (k x) Q) : wps g H (bindM (stepI (Iv g R) m) k) Q :=
  wps_bind (wps_stepI (wps_pre hp (wps_framel h)) fun x => Ent.trans (ent_left _ _) hR) h'
theorem wps_bind1 {m : M β} {k : β → M α} {R' : β → HP} (h : wps g H m fun x => H * R' x) (h' : ∀ x, wps g (H * R' x) (k x) Q) : wps g H (bindM m k) Q := wps_bind h h'
theorem rsl_pc {b n z : Nat} {cs : List Value} [h : RdC b H cs] (hl : cs.length = n * z) : Ent H (rsl z ⟨some ⟨b, 0, none⟩, n, n⟩ cs) :=
  Ent.trans h.rd (ent_orr (ent_ex ⟨b, 0, none⟩ (ent_ex cs (ent_prr ⟨rfl, hl, Nat.le_refl _, by simp [← hl]⟩ (Ent.refl _)))))
theorem wps_app {k : Slc → M α} {z : List Value} {bytes : Nat} {s x : Slc} {old : List Value} (zl : Nat) (new : List Value) [hp : PickS zl s H old H'] (hzl : z.length = zl) (hz : 0 < zl) (hx : Ent H (rsl zl x new)) (hv : ∀ v ∈ new, v.oneCell' = true)
    (hb : (16 * (s.len + x.len) + 4096) * bytes ≤ 2 ^ 48) (h : ∀ s', s'.len = s.len + x.len → wps g (H' * own zl s' (old ++ new)) (k s') Q) : wps g H (bindM (appendM z bytes s x) k) Q :=
  wps_append old new zl hzl hz hx hp.eq hv hb h
/-- an element of an owned slice is written -/
theorem wps_wrS {k : Unit → M α} {s : Slc} {i : Int} {cs : List Value} {v : Value} (n : Nat) [hp : PickS 1 s H cs H'] (hi : i = (n : Int)) (hn : n < s.len) (h : wps g (H' * own 1 s (cs.set n v)) (k ()) Q) :
    wps g H (bindM (idxM s i 1) fun a => bindM (st a v) k) Q := wps_wr n hp.eq hi hn h
theorem wps_rdS {enc : β → Value} {k : β → M α} {s : Slc} {i : Int} {cs : List Value} (n : Nat) (x : β) [hp : RdS 1 s H cs] (hi : i = (n : Int)) (hv : cs[n]? = some (enc x)) (h : wps g H (k x) Q) :
    wps g H (bindM (idxM s i 1) fun a => bindM (ld enc a) k) Q := wps_rd n x hp.rd hi hv h
theorem wps_lookS {enc : β → Value} {z : β} {k : β × Bool → M α} {m : Nat} {j : Int} {f : Int → Option Value} [hp : PickM m H f H'] (c : Option β) (hc : f j = c.map enc) (h : wps g H (k (match c with | some y => (y, true) | none => (z, false))) Q) :
    wps g H (bindM (lookM enc z (some m) j) k) Q := wps_look c hp.eq hc h
theorem wps_updS {k : Unit → M α} {m : Nat} {j : Int} {v : Value} {f : Int → Option Value} [hp : PickM m H f H'] (h : wps g (H' * imap m (fun i => if i = j then some v else f i)) (k ()) Q) :
    wps g H (bindM (updM (some m) j v) k) Q := wps_upd hp.eq h
theorem wps_clearS {k : Unit → M α} {m : Nat} {f : Int → Option Value} [hp : PickM m H f H'] (h : wps g (H' * imap m (fun _ => none)) (k ()) Q) :
    wps g H (bindM (clearM (some m)) k) Q := wps_clear hp.eq h
end
end Go.Mo
