/-
  a separation logic over these transformers.
-/
import Derived.Test.YtldmeimebebllaaMoRange
namespace Go.Mo
set_option linter.unusedVariables false

/-! ## Heaps: what is owned; a shared part is only read -/
abbrev Hp := Nat → Option (Obj × Bool)
def Hp.dis (a b : Hp) : Prop := ∀ x, a x = none ∨ b x = none ∨ ∃ ob, a x = some (ob, true) ∧ b x = some (ob, true)
def Hp.un (a b : Hp) : Hp := fun x => (a x).or (b x)
def Hp.le (a b : Hp) : Prop := ∀ (x : Nat) (ob : Obj) (r : Bool), a x = some (ob, r) → ∃ r', b x = some (ob, r') ∧ (r = false → r' = false)
def Hp.core (a : Hp) : Hp := fun x => (a x).map fun p => (p.1, true)
def Hp.nil : Hp := fun _ => none
def Hp.ok (a : Hp) (w : World) : Prop := ∀ (x : Nat) (ob : Obj) (r : Bool), a x = some (ob, r) → w.heap[x]? = some ob

theorem Hp.le_refl (a : Hp) : Hp.le a a := fun x ob r h => ⟨r, h, fun h => h⟩
theorem Hp.le_trans {a b c : Hp} (h : Hp.le a b) (h' : Hp.le b c) : Hp.le a c := fun x ob r hx => by
  obtain ⟨r1, h1, i1⟩ := h x ob r hx
  obtain ⟨r2, h2, i2⟩ := h' x ob r1 h1
  exact ⟨r2, h2, fun h => i2 (i1 h)⟩
theorem Hp.dis_symm {a b : Hp} (h : Hp.dis a b) : Hp.dis b a := fun x => by
  rcases h x with h | h | ⟨ob, h, h'⟩
  · exact .inr (.inl h)
  · exact .inl h
  · exact .inr (.inr ⟨ob, h', h⟩)
theorem Hp.un_comm {a b : Hp} (h : Hp.dis a b) : Hp.un a b = Hp.un b a := by
  funext x
  rcases h x with h | h | ⟨ob, h, h'⟩ <;> simp [Hp.un, *]
theorem Hp.un_assoc (a b c : Hp) : Hp.un (Hp.un a b) c = Hp.un a (Hp.un b c) := by
  funext x; simp [Hp.un, Option.or_assoc]
theorem Hp.le_un_left (a b : Hp) : Hp.le a (Hp.un a b) := fun x ob r h => ⟨r, by simp [Hp.un, h], fun h => h⟩
theorem Hp.le_un_right {a b : Hp} (hd : Hp.dis a b) : Hp.le b (Hp.un a b) := fun x ob r h => by
  rcases hd x with h' | h' | ⟨ob', h1, h2⟩
  · exact ⟨r, by simp [Hp.un, h', h], fun h => h⟩
  · rw [h'] at h; cases h
  · rw [h2] at h; cases h
    exact ⟨true, by simp [Hp.un, h1], fun h => h⟩
theorem Hp.un_le {a b c : Hp} (ha : Hp.le a c) (hb : Hp.le b c) : Hp.le (Hp.un a b) c := fun x ob r h => by
  simp only [Hp.un, Option.or_eq_some_iff] at h
  rcases h with h | ⟨_, h⟩
  · exact ha x ob r h
  · exact hb x ob r h
theorem Hp.dis_le {a a' b : Hp} (h : Hp.dis a b) (hl : Hp.le a' a) : Hp.dis a' b := fun x => by
  cases hx : a' x with
  | none => exact .inl rfl
  | some p =>
    obtain ⟨ob', r⟩ := p
    obtain ⟨r', h1, i1⟩ := hl x ob' r hx
    rcases h x with h | h | ⟨ob, h, h'⟩
    · rw [h] at h1; cases h1
    · exact .inr (.inl h)
    · rw [h1] at h; cases h
      cases r with
      | true => exact .inr (.inr ⟨_, rfl, h'⟩)
      | false => exact absurd (i1 rfl) (by simp)
theorem Hp.un_mono {a a' b b' : Hp} (ha : Hp.le a a') (hb : Hp.le b b') (hd : Hp.dis a' b') : Hp.le (Hp.un a b) (Hp.un a' b') :=
  Hp.un_le (Hp.le_trans ha (Hp.le_un_left a' b')) (Hp.le_trans hb (Hp.le_un_right hd))
theorem Hp.dis_un {a b c : Hp} (h1 : Hp.dis a c) (h2 : Hp.dis b c) : Hp.dis (Hp.un a b) c := fun x => by
  cases ha : a x with
  | none =>
    have : Hp.un a b x = b x := by simp [Hp.un, ha]
    rw [this]; exact h2 x
  | some p =>
    have : Hp.un a b x = a x := by simp [Hp.un, ha]
    rw [this]; exact h1 x
theorem Hp.dis_un_left {a b c : Hp} (h : Hp.dis (Hp.un a b) c) : Hp.dis a c := Hp.dis_le h (Hp.le_un_left a b)
theorem Hp.dis_un_right {a b c : Hp} (hd : Hp.dis a b) (h : Hp.dis (Hp.un a b) c) : Hp.dis b c := Hp.dis_le h (Hp.le_un_right hd)
theorem Hp.core_le (a : Hp) : Hp.le (Hp.core a) a := fun x ob r h => by
  simp only [Hp.core, Option.map_eq_some_iff] at h
  obtain ⟨⟨ob', r'⟩, h1, h2⟩ := h
  cases h2
  exact ⟨r', h1, fun h => by cases h⟩
theorem Hp.core_dis (a : Hp) : Hp.dis (Hp.core a) (Hp.core a) := fun x => by
  cases h : a x with
  | none => left; simp [Hp.core, h]
  | some p => right; right; exact ⟨p.1, by simp [Hp.core, h]⟩
theorem Hp.un_self (a : Hp) : Hp.un a a = a := by funext x; simp [Hp.un]
theorem Hp.un_nil (a : Hp) : Hp.un a Hp.nil = a := by funext x; simp [Hp.un, Hp.nil]
theorem Hp.nil_un (a : Hp) : Hp.un Hp.nil a = a := by funext x; simp [Hp.un, Hp.nil]
theorem Hp.dis_nil (a : Hp) : Hp.dis a Hp.nil := fun _ => .inr (.inl rfl)
theorem Hp.nil_dis (a : Hp) : Hp.dis Hp.nil a := fun _ => .inl rfl
theorem Hp.nil_le (a : Hp) : Hp.le Hp.nil a := fun _ _ _ h => by cases h
theorem Hp.core_mono {a b : Hp} (h : Hp.le a b) : Hp.le (Hp.core a) (Hp.core b) := fun x ob r hx => by
  simp only [Hp.core, Option.map_eq_some_iff] at hx
  obtain ⟨⟨ob', r'⟩, h1, h2⟩ := hx
  cases h2
  obtain ⟨r2, h3, _⟩ := h x _ _ h1
  exact ⟨true, by simp [Hp.core, h3], fun h => h⟩
theorem Hp.core_core (a : Hp) : Hp.core (Hp.core a) = Hp.core a := by
  funext x; cases h : a x <;> simp [Hp.core, h]
theorem Hp.core_dis2 {a b : Hp} (h : Hp.dis a b) : Hp.dis (Hp.core a) (Hp.core b) := fun x => by
  rcases h x with h | h | ⟨ob, h, h'⟩
  · left; simp [Hp.core, h]
  · right; left; simp [Hp.core, h]
  · right; right; exact ⟨ob, by simp [Hp.core, h], by simp [Hp.core, h']⟩
theorem Hp.ok_le {a b : Hp} {w : World} (h : Hp.ok b w) (hl : Hp.le a b) : Hp.ok a w := fun x ob r hx => by
  obtain ⟨r', h1, _⟩ := hl x ob r hx
  exact h x ob r' h1
theorem Hp.ok_un {a b : Hp} {w : World} (ha : Hp.ok a w) (hb : Hp.ok b w) : Hp.ok (Hp.un a b) w := fun x ob r h => by
  simp only [Hp.un, Option.or_eq_some_iff] at h
  rcases h with h | ⟨_, h⟩
  · exact ha x ob r h
  · exact hb x ob r h

/-! ## Assertions -/
structure HP where
  p : Hp → Prop
  up : ∀ {a b : Hp}, Hp.le a b → p a → p b
theorem HP.eq {A B : HP} (h : ∀ o, A.p o ↔ B.p o) : A = B := by
  cases A; cases B; congr; funext o; exact propext (h o)
def Ent (A B : HP) : Prop := ∀ o, A.p o → B.p o
def star (A B : HP) : HP := ⟨fun o => ∃ a b : Hp, Hp.dis a b ∧ Hp.le (Hp.un a b) o ∧ A.p a ∧ B.p b, fun hl ⟨a, b, hd, h, ha, hb⟩ => ⟨a, b, hd, Hp.le_trans h hl, ha, hb⟩⟩
instance : Mul HP := ⟨star⟩
def emp : HP := ⟨fun _ => True, fun _ h => h⟩
def pr (p : Prop) : HP := ⟨fun _ => p, fun _ h => h⟩
def ex {α : Type} (A : α → HP) : HP := ⟨fun o => ∃ x, (A x).p o, fun hl ⟨x, h⟩ => ⟨x, (A x).up hl h⟩⟩
/-- all at once, of what may be read -/
def al {α : Type} (A : α → HP) : HP := ⟨fun o => ∀ x, (A x).p o, fun hl h x => (A x).up hl (h x)⟩
def po (b : Nat) (ob : Obj) : HP := ⟨fun o => o b = some (ob, false), fun hl h => by
  obtain ⟨r, h1, h2⟩ := hl _ _ _ h
  rw [h1, h2 rfl]⟩
def pc (b : Nat) (cs : List Value) : HP := ⟨fun o => ∃ e, o b = some (.cells cs.toArray e, false), fun hl ⟨e, h⟩ => by
  obtain ⟨r, h1, h2⟩ := hl _ _ _ h
  exact ⟨e, by rw [h1, h2 rfl]⟩⟩
def ro (b : Nat) (cs : List Value) : HP := ⟨fun o => ∃ e f r, o b = some (.cells cs.toArray e f, r), fun hl ⟨e, f, r, h⟩ => by
  obtain ⟨r, h1, h2⟩ := hl _ _ _ h
  exact ⟨e, f, r, h1⟩⟩

theorem Ent.refl (A : HP) : Ent A A := fun _ h => h
theorem Ent.trans {A B C : HP} (h : Ent A B) (h' : Ent B C) : Ent A C := fun o ho => h' o (h o ho)
theorem Ent.antisymm {A B : HP} (h : Ent A B) (h' : Ent B A) : A = B := HP.eq fun o => ⟨h o, h' o⟩
theorem Ent.of_eq {A B : HP} (h : A = B) : Ent A B := h ▸ Ent.refl A
theorem star_comm (A B : HP) : A * B = B * A := by
  have : ∀ A B : HP, Ent (A * B) (B * A) := fun A B o ⟨a, b, hd, hl, ha, hb⟩ => ⟨b, a, Hp.dis_symm hd, by rw [← Hp.un_comm hd]; exact hl, hb, ha⟩
  exact Ent.antisymm (this A B) (this B A)
theorem star_assoc (A B C : HP) : A * B * C = A * (B * C) := by
  have key : ∀ A B C : HP, Ent (A * B * C) (A * (B * C)) := by
    rintro A B C o ⟨ab, c, hd, hl, ⟨a, b, hd', hl', ha, hb⟩, hc⟩
    have h1 := Hp.dis_le hd hl'
    have hac := Hp.dis_un_left h1
    have hbc := Hp.dis_un_right hd' h1
    refine ⟨a, Hp.un b c, Hp.dis_symm (Hp.dis_un (Hp.dis_symm hd') (Hp.dis_symm hac)), ?_, ha, b, c, hbc, Hp.le_refl _, hb, hc⟩
    rw [← Hp.un_assoc]
    exact Hp.le_trans (Hp.un_mono hl' (Hp.le_refl c) hd) hl
  refine Ent.antisymm (key A B C) ?_
  rw [star_comm A (B * C), star_comm B C, star_comm (A * B) C, star_comm A B]
  exact key C B A
theorem star_left_comm (A B C : HP) : A * (B * C) = B * (A * C) := by rw [← star_assoc, star_comm A B, star_assoc]
theorem star_right_comm (A B C : HP) : A * B * C = A * C * B := by rw [star_assoc, star_comm B C, ← star_assoc]
instance : Std.Associative (fun A B : HP => A * B) := ⟨star_assoc⟩
instance : Std.Commutative (fun A B : HP => A * B) := ⟨star_comm⟩
theorem Ent.star {A A' B B' : HP} (h : Ent A A') (h' : Ent B B') : Ent (A * B) (A' * B') := fun o ⟨a, b, hd, hl, ha, hb⟩ => ⟨a, b, hd, hl, h a ha, h' b hb⟩
theorem Ent.starl {A A' B : HP} (h : Ent A A') : Ent (A * B) (A' * B) := Ent.star h (Ent.refl B)
theorem Ent.starr {A B B' : HP} (h : Ent B B') : Ent (A * B) (A * B') := Ent.star (Ent.refl A) h
theorem ent_emp (A : HP) : Ent A emp := fun _ _ => trivial
theorem ent_left (A B : HP) : Ent (A * B) A := fun o ⟨a, b, hd, hl, ha, hb⟩ => A.up (Hp.le_trans (Hp.le_un_left a b) hl) ha
theorem ent_right (A B : HP) : Ent (A * B) B := fun o ⟨a, b, hd, hl, ha, hb⟩ => B.up (Hp.le_trans (Hp.le_un_right hd) hl) hb
theorem star_emp (A : HP) : A * emp = A := Ent.antisymm (ent_left A emp) fun o h => ⟨o, Hp.nil, Hp.dis_nil o, by rw [Hp.un_nil]; exact Hp.le_refl o, h, trivial⟩
theorem emp_star (A : HP) : emp * A = A := by rw [star_comm, star_emp]
theorem ent_pr {p : Prop} {A : HP} (h : p) : Ent A (pr p * A) := fun o ho => ⟨Hp.nil, o, Hp.nil_dis o, by rw [Hp.nil_un]; exact Hp.le_refl o, h, ho⟩
theorem ent_prr {p : Prop} {A B : HP} (h : p) (h' : Ent A B) : Ent A (pr p * B) := Ent.trans h' (ent_pr h)
theorem pr_star {p : Prop} (A : HP) (h : p) : pr p * A = A := Ent.antisymm (ent_right _ _) (ent_pr h)
theorem ent_ex {α : Type} {A : HP} {B : α → HP} (x : α) (h : Ent A (B x)) : Ent A (ex B) := fun o ho => ⟨x, h o ho⟩
theorem ex_ent {α : Type} {A : α → HP} {B : HP} (h : ∀ x, Ent (A x) B) : Ent (ex A) B := fun o ⟨x, ho⟩ => h x o ho
theorem ex_star {α : Type} (A : α → HP) (B : HP) : ex A * B = ex fun x => A x * B := Ent.antisymm
  (fun o ⟨a, b, hd, hl, ⟨x, ha⟩, hb⟩ => ⟨x, a, b, hd, hl, ha, hb⟩) (fun o ⟨x, a, b, hd, hl, ha, hb⟩ => ⟨a, b, hd, hl, ⟨x, ha⟩, hb⟩)
theorem star_ex {α : Type} (A : α → HP) (B : HP) : B * ex A = ex fun x => B * A x := by
  rw [star_comm, ex_star]
  congr; funext x; rw [star_comm]
theorem pr_ent {p : Prop} {A B : HP} (h : p → Ent A B) : Ent (pr p * A) B := fun o ⟨a, b, hd, hl, ha, hb⟩ => h ha o (A.up (Hp.le_trans (Hp.le_un_right hd) hl) hb)
theorem ent_pure {p : Prop} {A B : HP} (h : Ent A (pr p)) (h' : p → Ent A B) : Ent A B := fun o ho => h' (h o ho) o ho

/-! what may be read may be read twice -/
class Pers (A : HP) : Prop where
  core : ∀ o, A.p o → A.p (Hp.core o)
instance : Pers emp := ⟨fun _ h => h⟩
instance (p : Prop) : Pers (pr p) := ⟨fun _ h => h⟩
instance (b : Nat) (cs : List Value) : Pers (ro b cs) := ⟨fun o ⟨e, f, r, h⟩ => ⟨e, f, true, by simp [Hp.core, h]⟩⟩
instance {α : Type} (A : α → HP) [h : ∀ x, Pers (A x)] : Pers (ex A) := ⟨fun o ⟨x, ho⟩ => ⟨x, (h x).core o ho⟩⟩
instance {α : Type} (A : α → HP) [h : ∀ x, Pers (A x)] : Pers (al A) := ⟨fun o ho x => (h x).core o (ho x)⟩
instance (A B : HP) [h : Pers A] [h' : Pers B] : Pers (A * B) := ⟨fun o ⟨a, b, hd, hl, ha, hb⟩ => ⟨Hp.core a, Hp.core b, Hp.core_dis2 hd, fun x ob r hx => by
  simp only [Hp.un, Option.or_eq_some_iff] at hx
  have := Hp.core_mono hl x ob r
  apply this
  simp only [Hp.core, Hp.un, Option.map_eq_some_iff] at hx ⊢
  rcases hx with ⟨p, h1, h2⟩ | ⟨h0, p, h1, h2⟩
  · exact ⟨p, by simp [h1], h2⟩
  · have h0' : a x = none := by simpa [Hp.core] using h0
    exact ⟨p, by simp [h0', h1], h2⟩, h.core a ha, h'.core b hb⟩⟩
theorem dup (A : HP) [h : Pers A] : A = A * A := Ent.antisymm
  (fun o ho => ⟨Hp.core o, Hp.core o, Hp.core_dis o, by rw [Hp.un_self]; exact Hp.core_le o, h.core o ho, h.core o ho⟩) (ent_left A A)
/-- of two things that may be read: both -/
theorem ent_and {A B C : HP} [hb : Pers B] [hc : Pers C] [ha : Pers A] (h : Ent A B) (h' : Ent A C) : Ent A (B * C) := by
  rw [dup A]; exact Ent.star h h'
theorem pc_ro (b : Nat) (cs : List Value) : Ent (pc b cs) (ro b cs) := fun o ⟨e, h⟩ => ⟨e, _, _, h⟩

/-! ## The world -/
/-- the frame: blocks that stay, what the outer world is -/
structure Fr where
  hp : Hp
  os : Os
  out : Array (Nat × ByteArray)
structure Same (w : World) (g : Fr) : Prop where
  os : w.os = g.os
  out : w.output = g.out
def Own (w : World) (a : Hp) (g : Fr) : Prop := Hp.dis a g.hp ∧ Hp.ok a w ∧ Hp.ok g.hp w ∧ Same w g
theorem Own.le {w : World} {a a' : Hp} {g : Fr} (h : Own w a g) (hl : Hp.le a' a) : Own w a' g := ⟨Hp.dis_le h.1 hl, Hp.ok_le h.2.1 hl, h.2.2⟩
def wps {α : Type} (g : Fr) (H : HP) (m : M α) (Q : α → HP) : Prop :=
  ∀ (w : World) (a : Hp) (Qf : α → World → Prop), Own w a g → H.p a → (∀ x w' a', Own w' a' g → (Q x).p a' → Qf x w') → m Qf w
/-- where H holds -/
def Iv (g : Fr) (H : HP) (w : World) : Prop := ∃ a, Own w a g ∧ H.p a
def sumPost {α β : Type} (R : β → HP) (Q : α → HP) : β ⊕ α → HP
  | .inl b => R b
  | .inr x => Q x
section
variable {α β σ : Type} {g : Fr} {H H' : HP} {Q : α → HP}
theorem wps_conseq {m : M α} {Q' : α → HP} (h : wps g H' m Q') (h1 : Ent H H') (h2 : ∀ x, Ent (Q' x) (Q x)) : wps g H m Q := fun w a Qf ho ha hq =>
  h w a Qf ho (h1 a ha) fun x w' b ho' hb => hq x w' b ho' (h2 x b hb)
theorem wps_pre {m : M α} (h1 : Ent H H') (h : wps g H' m Q) : wps g H m Q := wps_conseq h h1 fun x => Ent.refl _
theorem wps_eq {m : M α} (h1 : H = H') (h : wps g H' m Q) : wps g H m Q := h1 ▸ h
theorem wps_post {m : M α} {Q' : α → HP} (h : wps g H m Q') (h2 : ∀ x, Ent (Q' x) (Q x)) : wps g H m Q := wps_conseq h (Ent.refl _) h2
theorem wps_bind {m : M β} {k : β → M α} {R : β → HP} (h : wps g H m R) (h' : ∀ x, wps g (R x) (k x) Q) : wps g H (bindM m k) Q := fun w a Qf ho ha hq =>
  h w a (fun x w' => k x Qf w') ho ha fun x w' b ho' hb => h' x w' b Qf ho' hb hq
theorem wps_pure {x : α} (h : Ent H (Q x)) : wps g H (pureM x) Q := fun w a Qf ho ha hq => hq x w a ho (h a ha)
theorem wps_bindpure {x : β} {k : β → M α} (h : wps g H (k x) Q) : wps g H (bindM (pureM x) k) Q := h
theorem wps_assoc {m : M β} {k : β → M σ} {l : σ → M α} (h : wps g H (bindM m fun x => bindM (k x) l) Q) : wps g H (bindM (bindM m k) l) Q := h
theorem bindM_assoc {α β σ : Type} (m : M β) (k : β → M σ) (l : σ → M α) : bindM (bindM m k) l = bindM m fun x => bindM (k x) l := rfl
theorem bindM_pureM {α β : Type} (x : β) (k : β → M α) : bindM (pureM x) k = k x := rfl
theorem wps_fail (h : Ent H (pr False)) : wps g H (failM : M α) Q := fun w a Qf ho ha hq => (h a ha).elim
theorem wps_false {m : M α} (h : Ent H (pr False)) : wps g H m Q := fun w a Qf ho ha hq => (h a ha).elim
theorem wps_ex {A : β → HP} {m : M α} (h : ∀ x, wps g (A x) m Q) : wps g (ex A) m Q := fun w a Qf ho ⟨x, ha⟩ hq => h x w a Qf ho ha hq
theorem wps_pr {p : Prop} {m : M α} (h : p → wps g H m Q) : wps g (pr p * H) m Q := fun w a Qf ho ha hq => by
  obtain ⟨a1, b1, hd, hl, hp, hb⟩ := ha
  exact h hp w a Qf ho (H.up (Hp.le_trans (Hp.le_un_right hd) hl) hb) hq
theorem wps_prr {p : Prop} {m : M α} (h : p → wps g H m Q) : wps g (H * pr p) m Q := wps_eq (star_comm _ _) (wps_pr h)
theorem wps_exl {A : β → HP} {m : M α} (h : ∀ x, wps g (A x * H) m Q) : wps g (ex A * H) m Q := wps_eq (ex_star _ _) (wps_ex h)
theorem wps_exr {A : β → HP} {m : M α} (h : ∀ x, wps g (H * A x) m Q) : wps g (H * ex A) m Q := wps_eq (star_ex _ _) (wps_ex h)
theorem wps_fact {p : Prop} {m : M α} (h : Ent H (pr p)) (h' : p → wps g H m Q) : wps g H m Q := fun w a Qf ho ha hq => h' (h a ha) w a Qf ho ha hq
theorem wps_assert {p : Prop} {m : M α} (hp : p) (h : wps g H m Q) : wps g H (assertM p m) Q := fun w a Qf ho ha hq => ⟨hp, h w a Qf ho ha hq⟩
theorem wps_both {m m' : M α} (h : wps g H m Q) (h' : wps g H m' Q) : wps g H (bothM m m') Q := fun w a Qf ho ha hq => ⟨h w a Qf ho ha hq, h' w a Qf ho ha hq⟩
theorem wps_ite {c : Prop} [Decidable c] {m m' : M α} (h : c → wps g H m Q) (h' : ¬c → wps g H m' Q) : wps g H (if c then m else m') Q := by
  by_cases hc : c
  · rw [if_pos hc]; exact h hc
  · rw [if_neg hc]; exact h' hc
theorem wps_bite {c : Prop} [Decidable c] {m m' : M β} {k : β → M α} (h : c → wps g H (bindM m k) Q) (h' : ¬c → wps g H (bindM m' k) Q) : wps g H (bindM (if c then m else m') k) Q := by
  by_cases hc : c
  · rw [if_pos hc]; exact h hc
  · rw [if_neg hc]; exact h' hc
theorem wps_mapR {m : M α} {Q : σ ⊕ α → HP} (h : wps g H m (fun x => Q (.inr x))) : wps g H (mapR m) Q := fun w a Qf ho ha hq => h w a (fun x w' => Qf (.inr x) w') ho ha fun x w' b ho' hb => hq (.inr x) w' b ho' hb
theorem wps_bindS {m : M (β ⊕ α)} {k : β → M α} {R : β → HP} (h : wps g H m (sumPost R Q)) (h' : ∀ b, wps g (R b) (k b) Q) : wps g H (bindS m k) Q := fun w a Qf ho ha hq =>
  h w a (joinPost k Qf) ho ha fun x w' b ho' hb => by
    cases x with
    | inl y => exact h' y w' b Qf ho' hb hq
    | inr y => exact hq y w' b ho' hb
theorem wps_loop {body : σ → M (σ ⊕ α)} {s : σ} (I : σ → HP) (μ : σ → Nat) (h0 : Ent H (I s)) (h : ∀ s, wps g (I s) (body s) (sumPost (fun s' => pr (μ s' < μ s) * I s') Q)) : wps g H (loopM body s) Q := fun w a Qf ho ha hq => by
  refine ⟨fun s w => Iv g (I s) w, fun s _ => μ s, ⟨a, ho, h0 a ha⟩, fun s w ⟨a, ho, hi⟩ => ?_⟩
  refine h s w a _ ho hi fun r w' b ho' hb => ?_
  cases r with
  | inl s' =>
    have := (ent_left _ _) b hb
    exact ⟨⟨b, ho', (ent_right _ _) b hb⟩, this⟩
  | inr x => exact hq x w' b ho' hb
theorem wps_frame {m : M α} {A F : HP} {Q' : α → HP} (h : ∀ g', wps g' A m Q') : wps g (A * F) m (fun x => Q' x * F) := fun w a Qf ho ha hq => by
  obtain ⟨a1, f, hd, hl, ha1, hf⟩ := ha
  have hog := ho.le hl
  have hd1 : Hp.dis a1 g.hp := Hp.dis_un_left hog.1
  have hdf : Hp.dis f g.hp := Hp.dis_un_right hd hog.1
  have hle2 : Hp.le g.hp (Hp.un f g.hp) := Hp.le_un_right hdf
  have hokf : Hp.ok f w := Hp.ok_le hog.2.1 (Hp.le_un_right hd)
  have hsame : Same w ⟨Hp.un f g.hp, g.os, g.out⟩ := ⟨ho.2.2.2.os, ho.2.2.2.out⟩
  refine h ⟨Hp.un f g.hp, g.os, g.out⟩ w a1 Qf ⟨Hp.dis_symm (Hp.dis_un (Hp.dis_symm hd) (Hp.dis_symm hd1)), Hp.ok_le hog.2.1 (Hp.le_un_left a1 f), Hp.ok_un hokf ho.2.2.1, hsame⟩ ha1 fun x w' b ho' hb => ?_
  have hbf : Hp.dis b f := Hp.dis_symm (Hp.dis_un_left (Hp.dis_symm ho'.1))
  have hbg : Hp.dis b g.hp := Hp.dis_symm (Hp.dis_un_right hdf (Hp.dis_symm ho'.1))
  have hokf' : Hp.ok f w' := Hp.ok_le ho'.2.2.1 (Hp.le_un_left f g.hp)
  refine hq x w' (Hp.un b f) ⟨Hp.dis_un hbg hdf, Hp.ok_un ho'.2.1 hokf', Hp.ok_le ho'.2.2.1 hle2, ⟨ho'.2.2.2.os, ho'.2.2.2.out⟩⟩ ⟨b, f, hbf, Hp.le_refl _, hb, hf⟩
theorem wps_framel {m : M α} {A F : HP} {Q' : α → HP} (h : ∀ g', wps g' A m Q') : wps g (F * A) m (fun x => F * Q' x) := by
  have := wps_frame (g := g) (F := F) h
  rw [star_comm F A]
  exact wps_post this fun x => Ent.of_eq (star_comm _ _)
/-- a call: the precondition A out of H, what remains is F -/
theorem wps_call {m : M β} {k : β → M α} {A F : HP} {Q' : β → HP} (h : ∀ g', wps g' A m Q') (hp : Ent H (F * A)) (h' : ∀ x, wps g (F * Q' x) (k x) Q) : wps g H (bindM m k) Q :=
  wps_bind (wps_pre hp (wps_framel h)) h'
theorem wps_tail {m : M α} {A F : HP} {Q' : α → HP} (h : ∀ g', wps g' A m Q') (hp : Ent H (F * A)) (h' : ∀ x, Ent (F * Q' x) (Q x)) : wps g H m Q :=
  wps_post (wps_pre hp (wps_framel h)) h'

/-! values of what only reads -/
/-- what is dropped -/
class Drops (A B : HP) : Prop where
  ent : Ent A B
instance (A : HP) : Drops A A := ⟨Ent.refl A⟩
instance (priority := low) Drops.left (A B C : HP) [h : Drops A B] : Drops (A * C) B := ⟨Ent.trans (ent_left A C) h.ent⟩
instance (priority := low) Drops.right (A B C : HP) [h : Drops C B] : Drops (A * C) B := ⟨Ent.trans (ent_right A C) h.ent⟩
instance (priority := low) Drops.emp (A : HP) : Drops A emp := ⟨ent_emp A⟩
theorem ent_drop {A B : HP} [h : Drops A B] : Ent A B := h.ent
theorem ent_val {α : Type} {x v : α} {A H : HP} [h : Drops A H] (e : x = v) : Ent A (pr (x = v) * H) := ent_prr e h.ent
abbrev Val (g : Fr) (H : HP) (m : M α) (v : α) : Prop := wps g H m fun x => pr (x = v) * H
theorem wps_val {m : M β} {k : β → M α} {v : β} (h : Val g H m v) (h' : wps g H (k v) Q) : wps g H (bindM m k) Q := wps_bind h fun x => wps_pr fun e => e ▸ h'
theorem val_pure {x : α} : Val g H (pureM x) x := wps_pure (ent_pr rfl)
theorem val_bind {m : M β} {k : β → M α} {v : β} {u : α} (h : Val g H m v) (h' : Val g H (k v) u) : Val g H (bindM m k) u := wps_val h h'
theorem val_ite {c : Prop} [Decidable c] {m m' : M α} {u v : α} {H0 : HP} (h : c → wps g H m fun x => pr (x = u) * H0) (h' : ¬c → wps g H m' fun x => pr (x = v) * H0) : wps g H (if c then m else m') fun x => pr (x = if c then u else v) * H0 := by
  by_cases hc : c
  · simp only [if_pos hc]; exact h hc
  · simp only [if_neg hc]; exact h' hc
theorem val_eq {m : M α} {u v : α} (h : Val g H m u) (e : u = v) : Val g H m v := e ▸ h
/-- a value that a part of H tells -/
theorem val_frame {m : M α} {A F : HP} {v : α} (h : ∀ g', Val g' A m v) (hp : H = F * A) : Val g H m v := by
  subst hp
  exact wps_post (wps_framel h) fun x => by
    rw [star_left_comm]; exact Ent.refl _
theorem wps_bindV {m : M (β ⊕ α)} {k : β → M α} {u : β} (h : wps g H m fun x => pr (x = .inl u) * H) (h' : wps g H (k u) Q) : wps g H (bindS m k) Q :=
  wps_bindS (R := fun b => pr (b = u) * H) (wps_post h fun x => by
    cases x with
    | inl b => exact pr_ent fun e => ent_prr (by cases e; rfl) (Ent.refl _)
    | inr b => exact pr_ent fun e => by cases e) fun b => wps_pr fun e => e ▸ h'
theorem val_iteL {c : Prop} [Decidable c] {m m' : M (β ⊕ α)} {u v : β} {H0 : HP} (h : c → wps g H m fun x => pr (x = .inl u) * H0) (h' : ¬c → wps g H m' fun x => pr (x = .inl v) * H0) : wps g H (if c then m else m') fun x => pr (x = .inl (if c then u else v)) * H0 := by
  by_cases hc : c
  · simp only [if_pos hc]; exact h hc
  · simp only [if_neg hc]; exact h' hc

theorem inl_eq {m : M (β ⊕ α)} {u v : β} {A : HP} (h : wps g H m fun x => pr (x = .inl u) * A) (e : u = v) : wps g H m fun x => pr (x = .inl v) * A := e ▸ h
/-! regions that draw -/
theorem own_draw {w : World} {a : Hp} {g : Fr} (h : Own w a g) : Own (drawW w) a g := ⟨h.1, h.2.1, h.2.2.1, h.2.2.2.os, h.2.2.2.out⟩
theorem wps_region (R : HP) {body : (World → Prop) → M α} (hR : Ent H R) (h : wps g H (body (Iv g R)) Q) : wps g H (regionM body) Q := fun w a Qf ho ha hq =>
  ⟨Iv g R, ⟨a, own_draw ho, hR a ha⟩, h (drawW w) a Qf (own_draw ho) ha hq⟩
theorem wps_stepI {R : HP} {m : M α} (h : wps g H m Q) (hR : ∀ x, Ent (Q x) R) : wps g H (stepI (Iv g R) m) Q := fun w a Qf ho ha hq =>
  h w a _ ho ha fun x w' b ho' hb => ⟨⟨b, ho', hR x b hb⟩, hq x w' b ho' hb⟩
theorem wps_regionH {body : (World → Prop) → M α} (h : wps g H (body (Iv g H)) Q) : wps g H (regionM body) Q := wps_region H (Ent.refl H) h
theorem wps_stepV {R : HP} [d : Drops H R] {m : M β} {k : β → M α} {v : β} (h : Val g H m v) (h' : wps g H (k v) Q) : wps g H (bindM (stepI (Iv g R) m) k) Q :=
  wps_val (wps_stepI h fun x => Ent.trans (ent_right _ _) d.ent) h'
theorem val_stepI {R : HP} {m : M α} {v : α} (h : Val g H m v) (hR : Ent H R) : Val g H (stepI (Iv g R) m) v := wps_stepI h fun x => Ent.trans (ent_right _ _) hR
end

/-! ## Chunks -/
class RdC (b : Nat) (H : HP) (cs : outParam (List Value)) : Prop where
  rd : Ent H (ro b cs)
instance (b : Nat) (cs : List Value) : RdC b (pc b cs) cs := ⟨pc_ro b cs⟩
instance (b : Nat) (cs : List Value) : RdC b (ro b cs) cs := ⟨Ent.refl _⟩
instance (priority := low) RdC.left (b : Nat) (A B : HP) (cs : List Value) [h : RdC b A cs] : RdC b (A * B) cs := ⟨Ent.trans (ent_left A B) h.rd⟩
instance RdC.right (b : Nat) (A B : HP) (cs : List Value) [h : RdC b B cs] : RdC b (A * B) cs := ⟨Ent.trans (ent_right A B) h.rd⟩
class PickC (b : Nat) (H : HP) (cs : outParam (List Value)) (H' : outParam HP) : Prop where
  eq : H = H' * pc b cs
instance (b : Nat) (cs : List Value) : PickC b (pc b cs) cs emp := ⟨(emp_star _).symm⟩
instance PickC.here (b : Nat) (cs : List Value) (H : HP) : PickC b (H * pc b cs) cs H := ⟨rfl⟩
instance (priority := low) PickC.there (b : Nat) (A H : HP) (cs : List Value) (H' : HP) [h : PickC b H cs H'] : PickC b (H * A) cs (H' * A) := ⟨by rw [h.eq, star_right_comm]⟩
instance (priority := low) PickC.thereR (b : Nat) (A H : HP) (cs : List Value) (H' : HP) [h : PickC b H cs H'] : PickC b (A * H) cs (A * H') := ⟨by rw [h.eq, star_assoc]⟩
class PickO (b : Nat) (H : HP) (ob : outParam Obj) (H' : outParam HP) : Prop where
  eq : H = H' * po b ob
instance (b : Nat) (ob : Obj) : PickO b (po b ob) ob emp := ⟨(emp_star _).symm⟩
instance PickO.here (b : Nat) (ob : Obj) (H : HP) : PickO b (H * po b ob) ob H := ⟨rfl⟩
instance (priority := low) PickO.there (b : Nat) (A H : HP) (ob : Obj) (H' : HP) [h : PickO b H ob H'] : PickO b (H * A) ob (H' * A) := ⟨by rw [h.eq, star_right_comm]⟩

instance (priority := low) PickO.thereR (b : Nat) (A H : HP) (ob : Obj) (H' : HP) [h : PickO b H ob H'] : PickO b (A * H) ob (A * H') := ⟨by rw [h.eq, star_assoc]⟩

theorem Addr.add_mk (b o n : Nat) : Addr.add ⟨b, o, none⟩ n = ⟨b, o + n, none⟩ := by
  unfold Addr.add; split
  · rename_i h; subst h; rfl
  · rfl
theorem Addr.add_add (a : Addr) (n m : Nat) : Addr.add (Addr.add a n) m = Addr.add a (n + m) := by
  by_cases hn : n = 0
  · subst hn; simp [Addr.add]
  · by_cases hm : m = 0
    · subst hm; simp [Addr.add]
    · simp [Addr.add, hn, hm, Nat.add_assoc]
theorem cell_of {w : World} {b off : Nat} {cs : List Value} {e : TypeId} {v : Value} {f : Nat × Nat} (h : w.heap[b]? = some (.cells cs.toArray e f)) (hv : cs[off]? = some v) : w.cell? ⟨b, off, none⟩ = some v := by
  simp [World.cell?, h, hv]
theorem rd_cell {w : World} {a : Hp} {g : Fr} {H : HP} {b off : Nat} {cs : List Value} {v : Value} (hr : Ent H (ro b cs)) (ho : Own w a g) (ha : H.p a) (hv : cs[off]? = some v) : w.cell? ⟨b, off, none⟩ = some v := by
  obtain ⟨e, f, r, h⟩ := hr a ha
  exact cell_of (ho.2.1 b _ _ h) hv
section
variable {α β σ : Type} {g : Fr} {H H' : HP} {Q : α → HP}
theorem wps_ldr {enc : β → Value} {k : β → M α} {b off : Nat} {cs : List Value} (x : β) (hp : Ent H (ro b cs)) (hv : cs[off]? = some (enc x)) (h : wps g H (k x) Q) : wps g H (bindM (ld enc ⟨b, off, none⟩) k) Q := fun w a Qf ho ha hq =>
  ⟨x, rd_cell hp ho ha hv, h w _ Qf ho ha hq⟩
theorem wps_ld {enc : β → Value} {k : β → M α} {b off : Nat} {cs : List Value} (x : β) [hp : RdC b H cs] (hv : cs[off]? = some (enc x)) (h : wps g H (k x) Q) : wps g H (bindM (ld enc ⟨b, off, none⟩) k) Q := wps_ldr x hp.rd hv h
theorem wps_ldI {R : HP} {enc : β → Value} {k : β → M α} {b off : Nat} {cs : List Value} (x : β) [hp : RdC b R cs] (hv : cs[off]? = some (enc x)) (h : wps g H (k x) Q) : wps g H (bindM (ldI (Iv g R) enc ⟨b, off, none⟩) k) Q := fun w a Qf ho ha hq =>
  ⟨x, fun w' ⟨a', ho', ha'⟩ => rd_cell hp.rd ho' ha' hv, h w _ Qf ho ha hq⟩
theorem wps_ldA {enc : β → List Value} {k : β → M α} {b off : Nat} {cs : List Value} (x : β) [hp : RdC b H cs] (hv : (cs.drop off).take (enc x).length = enc x) (h : wps g H (k x) Q) : wps g H (bindM (ldA enc ⟨b, off, none⟩) k) Q := fun w a Qf ho ha hq =>
  ⟨x, (fun j v hj => by
    rw [Addr.add_mk]
    refine rd_cell hp.rd ho ha ?_
    rw [← hv, List.getElem?_take] at hj
    split at hj
    · simpa using hj
    · cases hj), h w _ Qf ho ha hq⟩
theorem wps_ldAI {R : HP} {enc : β → List Value} {k : β → M α} {b off : Nat} {cs : List Value} (x : β) [hp : RdC b R cs] (hv : (cs.drop off).take (enc x).length = enc x) (h : wps g H (k x) Q) : wps g H (bindM (ldAI (Iv g R) enc ⟨b, off, none⟩) k) Q := fun w a Qf ho ha hq =>
  ⟨x, (fun w' ⟨a', ho', ha'⟩ j v hj => by
    rw [Addr.add_mk]
    refine rd_cell hp.rd ho' ha' ?_
    rw [← hv, List.getElem?_take] at hj
    split at hj
    · simpa using hj
    · cases hj), h w _ Qf ho ha hq⟩

theorem wps_ldG {k : Int × Int × Int → M α} {b off : Nat} {cs : List Value} (x y z : Int) [hp : RdC b H cs] (hv : (cs.drop off).take 3 = [.int .i64 x, .int .i64 y, .int .i64 z]) (h : wps g H (k (x, y, z)) Q) :
    wps g H (bindM (ldA (fun y : Int × Int × Int => [(.int .i64 y.1), (.int .i64 y.2.1), (.int .i64 y.2.2)]) ⟨b, off, none⟩) k) Q := wps_ldA (x, y, z) hv h
theorem wps_ldGI {R : HP} {k : Int × Int × Int → M α} {b off : Nat} {cs : List Value} (x y z : Int) [hp : RdC b R cs] (hv : (cs.drop off).take 3 = [.int .i64 x, .int .i64 y, .int .i64 z]) (h : wps g H (k (x, y, z)) Q) :
    wps g H (bindM (ldAI (Iv g R) (fun y : Int × Int × Int => [(.int .i64 y.1), (.int .i64 y.2.1), (.int .i64 y.2.2)]) ⟨b, off, none⟩) k) Q := wps_ldAI (x, y, z) hv h
/-- the owned cells of a block, changed -/
abbrev Obj.soft (ob : Obj) : Prop := ∀ cs e f, ob = .cells cs e f → f = (0, 0)
theorem own_set {w : World} {a1 a2 a : Hp} {g : Fr} {b : Nat} {ob ob' : Obj} (ho : Own w a g) (hd : Hp.dis a1 a2) (hl : Hp.le (Hp.un a1 a2) a) (h1 : a1 b = some (ob, false)) (w' : World)
    (hw' : ∀ y : Nat, w'.heap[y]? = if y = b then some ob' else w.heap[y]?) (hsm : w'.os = w.os ∧ w'.output = w.output) (hsf : Obj.soft ob') :
    let a1' : Hp := fun y => if y = b then some (ob', false) else none
    Own w' (Hp.un a2 a1') g ∧ Hp.dis a2 a1' := by
  intro a1'
  have h2b : a2 b = none := by
    rcases hd b with h | h | ⟨_, h, _⟩
    · rw [h1] at h; cases h
    · exact h
    · rw [h1] at h; cases h
  have hab : a b = some (ob, false) := by
    obtain ⟨r, h, hr⟩ := hl b ob false (by simp [Hp.un, h1])
    rw [h, hr rfl]
  have hgb : g.hp b = none := by
    rcases ho.1 b with h | h | ⟨_, h, _⟩
    · rw [hab] at h; cases h
    · exact h
    · rw [hab] at h; cases h
  have hdis : Hp.dis a2 a1' := fun y => by
    by_cases hy : y = b
    · subst hy; exact .inl h2b
    · right; left; simp [a1', hy]
  refine ⟨⟨Hp.dis_un (Hp.dis_un_right hd (ho.le hl).1) fun y => ?_, Hp.ok_un ?_ ?_, ?_, ⟨hsm.1.trans ho.2.2.2.os, hsm.2.trans ho.2.2.2.out⟩⟩, hdis⟩
  · by_cases hy : y = b
    · subst hy; exact .inr (.inl hgb)
    · left; simp [a1', hy]
  · intro y ob2 r hy
    rw [hw']
    by_cases hyb : y = b
    · subst hyb; rw [h2b] at hy; cases hy
    · rw [if_neg hyb]; exact Hp.ok_le (ho.le hl).2.1 (Hp.le_un_right hd) y ob2 r hy
  · intro y ob2 r hy
    rw [hw']
    by_cases hyb : y = b
    · subst hyb; simp [a1'] at hy; simp [hy.1]
    · simp [a1', hyb] at hy
  · intro y ob2 r hy
    rw [hw']
    by_cases hyb : y = b
    · subst hyb; rw [hgb] at hy; cases hy
    · rw [if_neg hyb]; exact ho.2.2.1 y ob2 r hy
theorem setCell_heap {w : World} {b off : Nat} {cs : List Value} {e : TypeId} {v : Value} (hb : w.heap[b]? = some (.cells cs.toArray e)) (y : Nat) :
    (w.setCell ⟨b, off, none⟩ v).heap[y]? = if y = b then some (.cells (cs.set off v).toArray e) else w.heap[y]? := by
  simp only [World.setCell]
  rw [Array.getElem?_modify]
  by_cases hy : y = b
  · subst hy
    simp only [if_true]
    rw [hb]
    simp
  · rw [if_neg (fun e => hy e.symm), if_neg hy]
theorem wps_st {k : Unit → M α} {b off : Nat} {cs : List Value} {v : Value} [hp : PickC b H cs H'] (hlt : off < cs.length) (h : wps g (H' * pc b (cs.set off v)) (k ()) Q) : wps g H (bindM (st ⟨b, off, none⟩ v) k) Q := fun w a Qf ho ha hq => by
  rw [hp.eq] at ha
  obtain ⟨a2, a1, hd, hl, h2, e, h1⟩ := ha
  have hl' : Hp.le (Hp.un a1 a2) a := by rw [← Hp.un_comm hd]; exact hl
  have hb : w.heap[b]? = some (.cells cs.toArray e) := by
    obtain ⟨r, h3, _⟩ := hl' b (.cells cs.toArray e) false (by simp [Hp.un, h1])
    exact ho.2.1 b _ _ h3
  refine ⟨⟨cs[off], cell_of hb (List.getElem?_eq_getElem hlt)⟩, by simp [World.frozen?, hb], ?_⟩
  have := own_set ho (Hp.dis_symm hd) hl' h1 _ (setCell_heap (off := off) (v := v) hb) ⟨rfl, rfl⟩ (fun _ _ _ h => by cases h; rfl)
  exact h _ _ Qf this.1 ⟨a2, _, this.2, Hp.le_refl _, h2, e, by simp⟩ hq

/-- a new block -/
theorem own_push {w : World} {a : Hp} {g : Fr} (ho : Own w a g) (ob : Obj) (w' : World) (hw : w'.heap = w.heap.push ob) (hsm : w'.os = w.os ∧ w'.output = w.output) (hsf : Obj.soft ob) :
    let n : Hp := fun y => if y = w.heap.size then some (ob, false) else none
    Own w' (Hp.un a n) g ∧ Hp.dis a n := by
  intro n
  have hbound : ∀ (f : Hp), Hp.ok f w → f w.heap.size = none := by
    intro f hf
    cases hx : f w.heap.size with
    | none => rfl
    | some p => have := hf _ _ _ hx; simp at this
  have hold : ∀ (f : Hp), Hp.ok f w → Hp.ok f w' := by
    intro f hf y ob' r hy
    have hy := hf y ob' r hy
    have hlt := (Array.getElem?_eq_some_iff.1 hy).1
    rw [hw, Array.getElem?_push, if_neg (by omega)]
    exact hy
  have hdn : ∀ (f : Hp), Hp.ok f w → Hp.dis f n := fun f hf y => by
    by_cases hy : y = w.heap.size
    · subst hy; exact .inl (hbound f hf)
    · right; left; simp [n, hy]
  refine ⟨⟨Hp.dis_un ho.1 (Hp.dis_symm (hdn g.hp ho.2.2.1)), Hp.ok_un (hold a ho.2.1) ?_, hold g.hp ho.2.2.1, ⟨hsm.1.trans ho.2.2.2.os, hsm.2.trans ho.2.2.2.out⟩⟩, hdn a ho.2.1⟩
  intro y ob' r hy
  by_cases hyb : y = w.heap.size
  · subst hyb
    simp [n] at hy
    rw [hw]; simp [hy.1]
  · simp [n, hyb] at hy
theorem wps_alloc {k : Addr → M α} {cs : List Value} (h : ∀ b, wps g (H * pc b cs) (k ⟨b, 0, none⟩) Q) : wps g H (bindM (allocM cs) k) Q := fun w a Qf ho ha hq elem => by
  have := own_push ho (.cells cs.toArray elem) (World.allocC w cs.toArray elem) rfl ⟨rfl, rfl⟩ (fun _ _ _ h => by cases h; rfl)
  exact h w.heap.size _ _ Qf this.1 ⟨a, _, this.2, Hp.le_refl _, ha, ⟨elem, by simp⟩⟩ hq
theorem wps_newO {k : Nat → M α} {ob : Obj} (h : ∀ b, wps g (H * po b ob) (k b) Q) (hsf : Obj.soft ob := by intro _ _ _ h; cases h) : wps g H (bindM (newO ob) k) Q := fun w a Qf ho ha hq => by
  have := own_push ho ob (World.pushO w ob) rfl ⟨rfl, rfl⟩ hsf
  exact h w.heap.size _ _ Qf this.1 ⟨a, _, this.2, Hp.le_refl _, ha, by simp [po]⟩ hq
theorem wps_nil {k : Addr → M α} {ad : Addr} (h : wps g H (k ad) Q) : wps g H (bindM (nilM (some ad)) k) Q := fun w a Qf ho ha hq => ⟨ad, rfl, h w a Qf ho ha hq⟩
theorem wps_idx {k : Addr → M α} {s : Slc} {b off : Nat} {i : Int} {size : Nat} (n : Nat) (hb : s.base = some ⟨b, off, none⟩) (hi : i = (n : Int)) (hn : n < s.len) (h : wps g H (k ⟨b, off + n * size, none⟩) Q) : wps g H (bindM (idxM s i size) k) Q := fun w a Qf ho ha hq => by
  subst hi
  refine ⟨⟨b, off, none⟩, hb, by omega, by omega, ?_⟩
  rw [Addr.add_mk]
  simpa using h w a Qf ho ha hq
theorem wps_idxA {k : Addr → M α} {b off len size : Nat} {i : Int} (n : Nat) (hi : i = (n : Int)) (hn : n < len) (h : wps g H (k ⟨b, off + n * size, none⟩) Q) : wps g H (bindM (idxA ⟨b, off, none⟩ len i size) k) Q := fun w a Qf ho ha hq => by
  subst hi
  refine ⟨by omega, by omega, ?_⟩
  rw [Addr.add_mk]
  simpa using h w a Qf ho ha hq
end
end Go.Mo
