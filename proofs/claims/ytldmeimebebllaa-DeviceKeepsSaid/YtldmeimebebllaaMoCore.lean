/-
  predicate transformers over the model, judgements for code.
-/
import Derived.Tactics
import Derived.OrdersHeld
import Derived.OrdersIn
import Derived.TacticsIn
import Derived.RangeFuncIn
import Derived.RangeFuncLeaves
import Derived.RangeFuncRecord
import Derived.KernelRfl
import Derived.Laws.Wrap64
namespace Go.Mo

/-! ## The monad: predicate transformers over the model's world -/
abbrev M (α : Type) := (α → World → Prop) → World → Prop
def pureM {α : Type} (a : α) : M α := fun Q w => Q a w
def bindM {α β : Type} (m : M α) (k : α → M β) : M β := fun Q w => m (fun a w' => k a Q w') w
def failM {α : Type} : M α := fun _ _ => False
def mapR {α σ : Type} (m : M α) : M (σ ⊕ α) := fun Q w => m (fun x w' => Q (.inr x) w') w
def joinPost {α β : Type} (k : β → M α) (Q : α → World → Prop) : β ⊕ α → World → Prop
  | .inl b, w => k b Q w
  | .inr x, w => Q x w
/-- a join: the left results go on with 'k', the right ones are the whole's result -/
def bindS {α β : Type} (m : M (β ⊕ α)) (k : β → M α) : M α := fun Q w => m (joinPost k Q) w
def loopPost {σ α : Type} (I : σ → World → Prop) (lt : Nat) (μ : σ → World → Nat) (Q : α → World → Prop) : σ ⊕ α → World → Prop
  | .inl s, w => I s w ∧ μ s w < lt
  | .inr x, w => Q x w
def loopM {σ α : Type} (body : σ → M (σ ⊕ α)) (s : σ) : M α := fun Q w =>
  ∃ (I : σ → World → Prop) (μ : σ → World → Nat), I s w ∧ ∀ s w, I s w → body s (loopPost I (μ s w) μ Q) w
def drawW (w : World) : World := { w with drawn := w.drawn + 1 }
/-- a region that draws its order: a condition on the world is chosen, which holds at each of its points -/
def regionM {α : Type} (body : (World → Prop) → M α) : M α := fun Q w => ∃ I : World → Prop, I (drawW w) ∧ body I Q (drawW w)
def stepI {α : Type} (I : World → Prop) (m : M α) : M α := fun Q w => m (fun x w' => I w' ∧ Q x w') w
def bothM {α : Type} (m m' : M α) : M α := fun Q w => m Q w ∧ m' Q w
def assertM {α : Type} (p : Prop) (m : M α) : M α := fun Q w => p ∧ m Q w

/-! ## Values -/
structure Slc where
  base : Option Addr
  len : Nat
  cap : Nat
def vS (s : Slc) : Value := .slice s.base s.len s.cap
abbrev vI (n : Int) : Value := .int .i64 n

def ld {α : Type} (enc : α → Value) (a : Addr) : M α := fun Q w => ∃ x, w.cell? a = some (enc x) ∧ Q x w
def ldI {α : Type} (I : World → Prop) (enc : α → Value) (a : Addr) : M α := fun Q w => ∃ x, (∀ w', I w' → w'.cell? a = some (enc x)) ∧ Q x w
def st (a : Addr) (v : Value) : M Unit := fun Q w => (∃ u, w.cell? a = some u) ∧ w.frozen? a = false ∧ Q () (w.setCell a v)
def World.allocC (w : World) (cs : Array Value) (elem : TypeId) : World := { w with heap := w.heap.push (.cells cs elem) }
def allocM (cs : List Value) : M Addr := fun Q w => ∀ elem, Q ⟨w.heap.size, 0, none⟩ (World.allocC w cs.toArray elem)
def nilM (p : Option Addr) : M Addr := fun Q w => ∃ a, p = some a ∧ Q a w
def idxM (s : Slc) (i : Int) (size : Nat) : M Addr := fun Q w => ∃ a, s.base = some a ∧ 0 ≤ i ∧ i < s.len ∧ Q (a.add (i.toNat * size)) w

/-! ## Symbolic temporaries -/
abbrev Tm := List (Nat × Value)
def lk : Tm → Nat → Option Value
  | [], _ => none
  | (j, v) :: T, i => bif Nat.beq i j then some v else lk T i
/-- how many temporaries; the marks of ranges over functions -/
structure Nd where
  n : Nat
  ds : List Nat
def mark (D : Nat) : Deferred := { target := .collected D, args := #[] }
structure Agrees (n : Nd) (a : Act) (T : Tm) : Prop where
  size : a.tmps.size = n.n
  defers : a.defers = n.ds.map mark
  look : ∀ i v, lk T i = some v → a.tmps[i]? = some v
def ev (T : Tm) : Operand → Option Value
  | .tmp t => lk T t
  | .const v => some v
  | .global g => some (.pointer (some ⟨g, 0, none⟩))
  | .func f => some (.func (.func f) #[] #[])

theorem Agrees.ev {n : Nd} {a : Act} {T : Tm} (h : Agrees n a T) {x : Operand} {v : Value} (hv : ev T x = some v) : a.eval x = v := by
  cases x with
  | tmp t => have := h.look t v hv; simp [Act.eval, Array.getD_eq_getD_getElem?, this]
  | const u => simpa [Mo.ev, Act.eval] using hv
  | global g => simpa [Mo.ev, Act.eval] using hv
  | func f => simpa [Mo.ev, Act.eval] using hv

theorem beq_ff {i j : Nat} (h : i ≠ j) : Nat.beq i j = false := by
  cases e : Nat.beq i j with
  | false => rfl
  | true => exact absurd (Nat.eq_of_beq_eq_true e) h
theorem beq_ne {i j : Nat} (h : Nat.beq i j = false) : i ≠ j := fun e => by rw [e, Nat.beq_refl] at h; cases h

theorem Agrees.put {n : Nd} {a : Act} {T : Tm} (h : Agrees n a T) {d : Nat} (hd : Nat.blt d n.n = true) (v : Value) : Agrees n (a.put (some d) v) ((d, v) :: T) := by
  have hd' : d < n.n := by simpa using hd
  refine ⟨by simp [Act.put, h.size], h.defers, fun i u hu => ?_⟩
  have hs := h.size
  simp only [lk] at hu
  simp only [Act.put]
  by_cases hi : i = d
  · subst hi
    simp only [Nat.beq_refl, cond_true, Option.some.injEq] at hu
    subst hu
    rw [Array.getElem?_setIfInBounds_self]
    simp [hs, hd']
  · have hb : Nat.beq i d = false := beq_ff hi
    simp only [hb, cond_false] at hu
    rw [Array.getElem?_setIfInBounds_ne (fun e => hi e.symm)]
    exact h.look i u hu
theorem Agrees.put_none {n : Nd} {a : Act} {T : Tm} (h : Agrees n a T) (v : Value) : Agrees n (a.put none v) T := h

inductive Sub (T : Tm) : Tm → Prop where
  | nil : Sub T []
  | cons {i : Nat} {v : Value} {T' : Tm} (h : lk T i = some v) (r : Sub T T') : Sub T ((i, v) :: T')
theorem Sub.lk {T T' : Tm} (h : Sub T T') : ∀ i v, lk T' i = some v → lk T i = some v := by
  induction h with
  | nil => intro i v h; simp [Mo.lk] at h
  | cons h r ih =>
    intro i v hv
    simp only [Mo.lk] at hv
    rename_i j u T'
    by_cases hi : i = j
    · subst hi
      simp only [Nat.beq_refl, cond_true, Option.some.injEq] at hv
      subst hv
      exact h
    · have hb : Nat.beq i j = false := beq_ff hi
      simp only [hb, cond_false] at hv
      exact ih i v hv
theorem Agrees.sub {n : Nd} {a : Act} {T T' : Tm} (h : Agrees n a T) (hs : Sub T T') : Agrees n a T' :=
  ⟨h.size, h.defers, fun i v hv => h.look i v (hs.lk i v hv)⟩

/-! ## The judgements: in a plain frame (rd = none), or in a round of a range over a function -/
abbrev FW (rd : Option Nat) : Fence := { Fence.wide with round := rd }
abbrev Wp (rd : Option Nat) (P : Program) (c : Code) (Q : Exit → Act → World → Prop) (a : Act) (w : World) : Prop := c.wpIn (FW rd) 0 P Q a w
abbrev WL (rd : Option Nat) (P : Program) (ops : Array Oper) (Q : Exit → Act → World → Prop) (os : List Oper) (a : Act) (w : World) : Prop := wpListIn (FW rd) 0 P ops Q os a w
theorem room_FW (rd : Option Nat) (n : Nat) : (FW rd).room n := fun _ h => by simp [Fence.wide] at h
section
variable {rd : Option Nat} {P : Program} {n : Nd} {Q : Exit → Act → World → Prop} {α β σ : Type} {Qf : α → World → Prop} {ops : Array Oper}

/-- code -/
def SC (rd : Option Nat) (P : Program) (n : Nd) (Q : Exit → Act → World → Prop) (Qf : α → World → Prop) (c : Code) (T : Tm) (m : M α) : Prop :=
  ∀ a w, Agrees n a T → m Qf w → Wp rd P c Q a w
/-- a way out -/
def SX (n : Nd) (e : Exit) (Q : Exit → Act → World → Prop) (Qf : α → World → Prop) (T : Tm) (m : M α) : Prop :=
  ∀ a w, Agrees n a T → m Qf w → Q e a w

theorem SC.seq {c c' : Code} {T : Tm} {m : M α} (h : SC rd P n (Exit.then (Wp rd P c' Q) Q) Qf c T m) : SC rd P n Q Qf (.seq c c') T m :=
  fun a w hA hm => wpIn_seq (h a w hA hm)
theorem SC.skip {T : Tm} {m : M α} (h : SX n .normal Q Qf T m) : SC rd P n Q Qf .skip T m := fun a w hA hm => wpIn_skip (h a w hA hm)
theorem SC.ret {T : Tm} {m : M α} (h : SX n .ret Q Qf T m) : SC rd P n Q Qf .ret T m := fun a w hA hm => wpIn_ret (h a w hA hm)
theorem SC.exit {id : Nat} {T : Tm} {m : M α} (h : SX n (.exit id) Q Qf T m) : SC rd P n Q Qf (.exit id) T m := fun a w hA hm => wpIn_exit (h a w hA hm)
theorem SC.block {id : Nat} {c : Code} {T : Tm} {m : M α} (h : SC rd P n (Exit.inBlock id Q) Qf c T m) : SC rd P n Q Qf (.block id c) T m :=
  fun a w hA hm => wpIn_block (h a w hA hm)
theorem SC.cond {c : Operand} {x y : Code} {T : Tm} {b : Bool} {m m' : M α} (hc : ev T c = some (.bool b)) (h : SC rd P n Q Qf x T m) (h' : SC rd P n Q Qf y T m') :
    SC rd P n Q Qf (.cond c x y) T (if b = true then m else m') := by
  intro a w hA hm
  cases b with
  | true => exact wpIn_cond_true (hA.ev hc) (h a w hA hm)
  | false => exact wpIn_cond_false (hA.ev hc) (h' a w hA hm)
theorem SC.join {c : Code} {T : Tm} {m : M (β ⊕ α)} {k : β → M α} (T0 : β → Tm) (h2 : ∀ b, SX n .normal Q Qf (T0 b) (k b))
    (h : (∀ b, SX n .normal Q Qf (T0 b) (k b)) → SC rd P n Q (joinPost k Qf) c T m) : SC rd P n Q Qf c T (bindS m k) :=
  fun a w hA hm => h h2 a w hA hm
/-- a join whose ways bear marks of their own -/
theorem SC.joinN {c : Code} {T : Tm} {m : M (β ⊕ α)} {k : β → M α} (N0 : β → Nd) (T0 : β → Tm) (h2 : ∀ b, SX (N0 b) .normal Q Qf (T0 b) (k b))
    (h : (∀ b, SX (N0 b) .normal Q Qf (T0 b) (k b)) → SC rd P n Q (joinPost k Qf) c T m) : SC rd P n Q Qf c T (bindS m k) :=
  fun a w hA hm => h h2 a w hA hm
theorem SX.leafN {T : Tm} {k : β → M α} {b : β} {N0 : β → Nd} {T0 : β → Tm} {e : Exit} (h : ∀ b, SX (N0 b) e Q Qf (T0 b) (k b)) (hn : N0 b = n) (hs : Sub T (T0 b)) : SX n e Q (joinPost k Qf) T (pureM (.inl b)) :=
  fun a w hA hm => h b a w (hn ▸ hA.sub hs) hm
theorem SX.leafS {T : Tm} {k : β → M α} {b : β} {T0 : β → Tm} {e : Exit} (h : ∀ b, SX n e Q Qf (T0 b) (k b)) (hs : Sub T (T0 b)) : SX n e Q (joinPost k Qf) T (pureM (.inl b)) :=
  fun a w hA hm => h b a w (hA.sub hs) hm
/-- the right results: the whole's -/
theorem SX.right {T : Tm} {k : β → M α} {x : α} {e : Exit} (h : SX n e Q Qf T (pureM x)) : SX n e Q (joinPost k Qf) T (pureM (.inr x)) :=
  fun a w hA hm => h a w hA hm
theorem SX.rightM {T : Tm} {k : β → M α} {m : M α} {e : Exit} (h : SX n e Q Qf T m) : SX n e Q (joinPost k Qf) T (mapR m) :=
  fun a w hA hm => h a w hA hm
theorem SX.sub {T T' : Tm} {m : M α} {e : Exit} (hs : Sub T T') (h : SX n e Q Qf T' m) : SX n e Q Qf T m := fun a w hA hm => h a w (hA.sub hs) hm

/-! ways out, through what stands around -/
theorem SX.seq {c : Code} {T : Tm} {m : M α} (h : SC rd P n Q Qf c T m) : SX n .normal (Exit.then (Wp rd P c Q) Q) Qf T m := fun a w hA hm => h a w hA hm
theorem SX.then_exit {K : Act → World → Prop} {T : Tm} {m : M α} {id : Nat} (h : SX n (.exit id) Q Qf T m) : SX n (.exit id) (Exit.then K Q) Qf T m := h
theorem SX.then_ret {K : Act → World → Prop} {T : Tm} {m : M α} (h : SX n .ret Q Qf T m) : SX n .ret (Exit.then K Q) Qf T m := h
theorem SX.block {id : Nat} {T : Tm} {m : M α} (h : SX n .normal Q Qf T m) : SX n .normal (Exit.inBlock id Q) Qf T m := h
theorem SX.block_ret {id : Nat} {T : Tm} {m : M α} (h : SX n .ret Q Qf T m) : SX n .ret (Exit.inBlock id Q) Qf T m := h
theorem SX.block_hit {id : Nat} {T : Tm} {m : M α} (h : SX n .normal Q Qf T m) : SX n (.exit id) (Exit.inBlock id Q) Qf T m :=
  fun a w hA hm => by simpa [Exit.inBlock] using h a w hA hm
theorem SX.block_pass {id id' : Nat} {T : Tm} {m : M α} (hne : Nat.beq id' id = false) (h : SX n (.exit id') Q Qf T m) : SX n (.exit id') (Exit.inBlock id Q) Qf T m :=
  fun a w hA hm => by
    have : id' ≠ id := beq_ne hne
    simpa [Exit.inBlock, this] using h a w hA hm

/-! ## Loops -/
theorem wpIn_loop_ix {c : Code} {a : Act} {w : World} (I : σ → Act → World → Prop) (μ : σ → World → Nat) (s : σ) (h₀ : I s a w)
    (round : ∀ s a w, I s a w → Wp rd P c (Exit.then (fun a' w' => ∃ s', I s' a' w' ∧ μ s' w' < μ s w) Q) a w) : Wp rd P (.loop c) Q a w := by
  intro b k cs hro hb hr
  have key : ∀ j s a w, μ s w = j → I s a w →
      ∃ e a' w', Q e a' w' ∧ ArrivesIn (Machine.fenced P (FW rd)) P (lone (b.atR a (.code c :: .inLoop c :: k)) cs w) b k cs e a' w' := by
    intro j
    induction j using Nat.strongRecOn with
    | _ j ih =>
      intro s a w hn hI
      obtain ⟨e, a₁, w₁, hq, harr⟩ := round s a w hI b (.inLoop c :: k) cs hro hb hr
      have pass : ∀ e', e' ≠ Exit.normal → ArrivesIn (Machine.fenced P (FW rd)) P (lone (b.atR a (.code c :: .inLoop c :: k)) cs w) b (.inLoop c :: k) cs e' a₁ w₁ →
          ArrivesIn (Machine.fenced P (FW rd)) P (lone (b.atR a (.code c :: .inLoop c :: k)) cs w) b k cs e' a₁ w₁ := fun e' he' h => .pass (x := .inLoop c) rfl (fun _ _ => .inl he') h
      cases e with
      | normal =>
        obtain ⟨s', hI₁, hlt⟩ := hq
        obtain ⟨e₂, a₂, w₂, hq₂, harr₂⟩ := ih (μ s' w₁) (hn ▸ hlt) s' a₁ w₁ rfl hI₁
        exact ⟨e₂, a₂, w₂, hq₂, .of_steps (StepsIn.trans harr (.one (fenced_calm hb hr rfl) stepR_inLoop)) harr₂⟩
      | exit id => exact ⟨_, a₁, w₁, hq, pass _ (by simp) harr⟩
      | goto l => exact ⟨_, a₁, w₁, hq, pass _ (by simp) harr⟩
      | ret => exact ⟨_, a₁, w₁, hq, pass _ (by simp) harr⟩
      | panic ch => exact ⟨_, a₁, w₁, hq, pass _ (by simp) harr⟩
      | outgrown => exact ⟨_, a₁, w₁, hq, pass _ (by simp) harr⟩
  obtain ⟨e, a', w', hq, harr⟩ := key _ s a w rfl h₀
  exact ⟨e, a', w', hq, .of_steps (.one (fenced_calm hb hr rfl) stepR_loop) harr⟩

/-- the post of a loop's body -/
def loopQ (N0 : σ → Nd) (T0 : σ → Tm) (I : σ → World → Prop) (lt : Nat) (μ : σ → World → Nat) (Q : Exit → Act → World → Prop) : Exit → Act → World → Prop :=
  Exit.then (fun a' w' => ∃ s', (Agrees (N0 s') a' (T0 s') ∧ I s' w') ∧ μ s' w' < lt) Q
theorem SC.loopN {c : Code} {T : Tm} {body : σ → M (σ ⊕ α)} {s : σ} (N0 : σ → Nd) (T0 : σ → Tm) (hn : N0 s = n) (hs : Sub T (T0 s))
    (h : ∀ (I : σ → World → Prop) (lt : Nat) (μ : σ → World → Nat) (s : σ), SC rd P (N0 s) (loopQ N0 T0 I lt μ Q) (loopPost I lt μ Qf) c (T0 s) (body s)) :
    SC rd P n Q Qf (.loop c) T (loopM body s) := by
  intro a w hA hm
  obtain ⟨I, μ, h0, hr⟩ := hm
  exact wpIn_loop_ix (fun s a w => Agrees (N0 s) a (T0 s) ∧ I s w) μ s ⟨hn ▸ hA.sub hs, h0⟩ fun s a w hI => h I _ μ s a w hI.1 (hr s w hI.2)
theorem SC.loop {c : Code} {T : Tm} {body : σ → M (σ ⊕ α)} {s : σ} (T0 : σ → Tm) (hs : Sub T (T0 s))
    (h : ∀ (I : σ → World → Prop) (lt : Nat) (μ : σ → World → Nat) (s : σ), SC rd P n (loopQ (fun _ => n) T0 I lt μ Q) (loopPost I lt μ Qf) c (T0 s) (body s)) :
    SC rd P n Q Qf (.loop c) T (loopM body s) := SC.loopN (fun _ => n) T0 rfl hs h
theorem SX.loop_next {I : σ → World → Prop} {lt : Nat} {μ : σ → World → Nat} {N0 : σ → Nd} {T0 : σ → Tm} {s : σ} {T : Tm} (hs : Sub T (T0 s)) (hn : N0 s = n := by rfl) :
    SX n .normal (loopQ N0 T0 I lt μ Q) (loopPost I lt μ Qf) T (pureM (.inl s)) := fun _ _ hA hm => ⟨s, ⟨hn ▸ hA.sub hs, hm.1⟩, hm.2⟩
theorem SX.loop_exit {I : σ → World → Prop} {lt : Nat} {μ : σ → World → Nat} {N0 : σ → Nd} {T0 : σ → Tm} {T : Tm} {m : M α} {id : Nat} (h : SX n (.exit id) Q Qf T m) :
    SX n (.exit id) (loopQ N0 T0 I lt μ Q) (loopPost I lt μ Qf) T (mapR m) := h
theorem SX.loop_ret {I : σ → World → Prop} {lt : Nat} {μ : σ → World → Nat} {N0 : σ → Nd} {T0 : σ → Tm} {T : Tm} {m : M α} (h : SX n .ret Q Qf T m) :
    SX n .ret (loopQ N0 T0 I lt μ Q) (loopPost I lt μ Qf) T (mapR m) := h

end
end Go.Mo
