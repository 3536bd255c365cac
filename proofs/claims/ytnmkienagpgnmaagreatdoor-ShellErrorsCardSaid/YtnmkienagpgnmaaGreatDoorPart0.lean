/-
  A part of the proof: what functions of the program do, a symbolic executor of the code with its proof, and closed runs.
-/
import Derived.Tactics
import Derived.OrdersHeld
import Derived.OrdersIn
import Derived.TacticsIn
import Derived.RangeFuncIn
import Derived.RangeFuncLeaves
import Derived.RangeFuncRecord
import Derived.KernelRfl
import Derived.Laws.Wrap64
import Derived.Laws.Cells
import Derived.Laws.Pointers
import Derived.Laws.AppendOwn
import Derived.Laws.StructEq
import Derived.Laws.BytesString
import Derived.Laws.Externs
import Derived.Lib.MakeNoZero
import Derived.Test.YtnmkienagpgnmaaGreatDoorProg
namespace Go.Mo
abbrev M (α : Type) := (α → World → Prop) → World → Prop
def pureM {α : Type} (a : α) : M α := fun Q w => Q a w
def bindM {α β : Type} (m : M α) (k : α → M β) : M β := fun Q w => m (fun a w' => k a Q w') w
def failM {α : Type} : M α := fun _ _ => False
def mapR {α σ : Type} (m : M α) : M (σ ⊕ α) := fun Q w => m (fun x w' => Q (.inr x) w') w
def joinPost {α β : Type} (k : β → M α) (Q : α → World → Prop) : β ⊕ α → World → Prop
  | .inl b, w => k b Q w
  | .inr x, w => Q x w
def bindS {α β : Type} (m : M (β ⊕ α)) (k : β → M α) : M α := fun Q w => m (joinPost k Q) w
def loopPost {σ α : Type} (I : σ → World → Prop) (lt : Nat) (μ : σ → World → Nat) (Q : α → World → Prop) : σ ⊕ α → World → Prop
  | .inl s, w => I s w ∧ μ s w < lt
  | .inr x, w => Q x w
def loopM {σ α : Type} (body : σ → M (σ ⊕ α)) (s : σ) : M α := fun Q w =>
  ∃ (I : σ → World → Prop) (μ : σ → World → Nat), I s w ∧ ∀ s w, I s w → body s (loopPost I (μ s w) μ Q) w
def drawW (w : World) : World := { w with drawn := w.drawn + 1 }
def regionM {α : Type} (body : (World → Prop) → M α) : M α := fun Q w => ∃ I : World → Prop, I (drawW w) ∧ body I Q (drawW w)
def stepI {α : Type} (I : World → Prop) (m : M α) : M α := fun Q w => m (fun x w' => I w' ∧ Q x w') w
def assertM {α : Type} (p : Prop) (m : M α) : M α := fun Q w => p ∧ m Q w
structure Slc where
  base : Option Addr
  len : Nat
  cap : Nat
def vS (s : Slc) : Value := .slice s.base s.len s.cap
def ld {α : Type} (enc : α → Value) (a : Addr) : M α := fun Q w => ∃ x, w.cell? a = some (enc x) ∧ Q x w
def ldI {α : Type} (I : World → Prop) (enc : α → Value) (a : Addr) : M α := fun Q w => ∃ x, (∀ w', I w' → w'.cell? a = some (enc x)) ∧ Q x w
def st (a : Addr) (v : Value) : M Unit := fun Q w => (∃ u, w.cell? a = some u) ∧ w.frozen? a = false ∧ Q () (w.setCell a v)
def World.allocC (w : World) (cs : Array Value) (elem : TypeId) : World := { w with heap := w.heap.push (.cells cs elem) }
def allocM (cs : List Value) : M Addr := fun Q w => ∀ elem, Q ⟨w.heap.size, 0, none⟩ (World.allocC w cs.toArray elem)
def nilM (p : Option Addr) : M Addr := fun Q w => ∃ a, p = some a ∧ Q a w
def idxM (s : Slc) (i : Int) (size : Nat) : M Addr := fun Q w => ∃ a, s.base = some a ∧ 0 ≤ i ∧ i < s.len ∧ Q (a.add (i.toNat * size)) w
abbrev Tm := List (Nat × Value)
def lk : Tm → Nat → Option Value
  | [], _ => none
  | (j, v) :: T, i => bif Nat.beq i j then some v else lk T i
structure Nd where
  n : Nat
  ds : List Nat
def mark (D : Nat) : Deferred := { target := .collected D, args := #[] }
structure Agrees (n : Nd) (a : Act) (T : Tm) : Prop where
  size : a.tmps.size = n.n
  defers : a.defers = n.ds.map mark
  look : ∀ i v, lk T i = some v → a.tmps[i]? = some v
def ev (T : Tm) : Operand → Option Value
  | .tmp t => lk T t
  | .const v => some v
  | .global g => some (.pointer (some ⟨g, 0, none⟩))
  | .func f => some (.func (.func f) #[] #[])
theorem Agrees.ev {n : Nd} {a : Act} {T : Tm} (h : Agrees n a T) {x : Operand} {v : Value} (hv : ev T x = some v) : a.eval x = v := by
  cases x with
  | tmp t => have := h.look t v hv; simp [Act.eval, Array.getD_eq_getD_getElem?, this]
  | const u => simpa [Mo.ev, Act.eval] using hv
  | global g => simpa [Mo.ev, Act.eval] using hv
  | func f => simpa [Mo.ev, Act.eval] using hv
theorem beq_ff {i j : Nat} (h : i ≠ j) : Nat.beq i j = false := by
  cases e : Nat.beq i j with
  | false => rfl
  | true => exact absurd (Nat.eq_of_beq_eq_true e) h
theorem Agrees.put {n : Nd} {a : Act} {T : Tm} (h : Agrees n a T) {d : Nat} (hd : Nat.blt d n.n = true) (v : Value) : Agrees n (a.put (some d) v) ((d, v) :: T) := by
  have hd' : d < n.n := by simpa using hd
  refine ⟨by simp [Act.put, h.size], h.defers, fun i u hu => ?_⟩
  have hs := h.size
  simp only [lk] at hu
  simp only [Act.put]
  by_cases hi : i = d
  · subst hi
    simp only [Nat.beq_refl, cond_true, Option.some.injEq] at hu
    subst hu
    rw [Array.getElem?_setIfInBounds_self]
    simp [hs, hd']
  · have hb : Nat.beq i d = false := beq_ff hi
    simp only [hb, cond_false] at hu
    rw [Array.getElem?_setIfInBounds_ne (fun e => hi e.symm)]
    exact h.look i u hu
inductive Sub (T : Tm) : Tm → Prop where
  | nil : Sub T []
  | cons {i : Nat} {v : Value} {T' : Tm} (h : lk T i = some v) (r : Sub T T') : Sub T ((i, v) :: T')
theorem Sub.lk {T T' : Tm} (h : Sub T T') : ∀ i v, lk T' i = some v → lk T i = some v := by
  induction h with
  | nil => intro i v h; simp [Mo.lk] at h
  | cons h r ih =>
    intro i v hv
    simp only [Mo.lk] at hv
    rename_i j u T'
    by_cases hi : i = j
    · subst hi
      simp only [Nat.beq_refl, cond_true, Option.some.injEq] at hv
      subst hv
      exact h
    · have hb : Nat.beq i j = false := beq_ff hi
      simp only [hb, cond_false] at hv
      exact ih i v hv
theorem Agrees.sub {n : Nd} {a : Act} {T T' : Tm} (h : Agrees n a T) (hs : Sub T T') : Agrees n a T' :=
  ⟨h.size, h.defers, fun i v hv => h.look i v (hs.lk i v hv)⟩
abbrev FW (rd : Option Nat) : Fence := { Fence.wide with round := rd }
abbrev Wp (rd : Option Nat) (P : Program) (c : Code) (Q : Exit → Act → World → Prop) (a : Act) (w : World) : Prop := c.wpIn (FW rd) 0 P Q a w
abbrev WL (rd : Option Nat) (P : Program) (ops : Array Oper) (Q : Exit → Act → World → Prop) (os : List Oper) (a : Act) (w : World) : Prop := wpListIn (FW rd) 0 P ops Q os a w
section
variable {rd : Option Nat} {P : Program} {n : Nd} {Q : Exit → Act → World → Prop} {α β σ : Type} {Qf : α → World → Prop} {ops : Array Oper}
def SC (rd : Option Nat) (P : Program) (n : Nd) (Q : Exit → Act → World → Prop) (Qf : α → World → Prop) (c : Code) (T : Tm) (m : M α) : Prop :=
  ∀ a w, Agrees n a T → m Qf w → Wp rd P c Q a w
def SX (n : Nd) (e : Exit) (Q : Exit → Act → World → Prop) (Qf : α → World → Prop) (T : Tm) (m : M α) : Prop :=
  ∀ a w, Agrees n a T → m Qf w → Q e a w
theorem SC.seq {c c' : Code} {T : Tm} {m : M α} (h : SC rd P n (Exit.then (Wp rd P c' Q) Q) Qf c T m) : SC rd P n Q Qf (.seq c c') T m :=
  fun a w hA hm => wpIn_seq (h a w hA hm)
theorem SC.skip {T : Tm} {m : M α} (h : SX n .normal Q Qf T m) : SC rd P n Q Qf .skip T m := fun a w hA hm => wpIn_skip (h a w hA hm)
theorem SC.ret {T : Tm} {m : M α} (h : SX n .ret Q Qf T m) : SC rd P n Q Qf .ret T m := fun a w hA hm => wpIn_ret (h a w hA hm)
theorem SC.exit {id : Nat} {T : Tm} {m : M α} (h : SX n (.exit id) Q Qf T m) : SC rd P n Q Qf (.exit id) T m := fun a w hA hm => wpIn_exit (h a w hA hm)
theorem SC.block {id : Nat} {c : Code} {T : Tm} {m : M α} (h : SC rd P n (Exit.inBlock id Q) Qf c T m) : SC rd P n Q Qf (.block id c) T m :=
  fun a w hA hm => wpIn_block (h a w hA hm)
theorem SC.cond {c : Operand} {x y : Code} {T : Tm} {b : Bool} {m m' : M α} (hc : ev T c = some (.bool b)) (h : SC rd P n Q Qf x T m) (h' : SC rd P n Q Qf y T m') :
    SC rd P n Q Qf (.cond c x y) T (if b = true then m else m') := by
  intro a w hA hm
  cases b with
  | true => exact wpIn_cond_true (hA.ev hc) (h a w hA hm)
  | false => exact wpIn_cond_false (hA.ev hc) (h' a w hA hm)
theorem SX.right {T : Tm} {k : β → M α} {x : α} {e : Exit} (h : SX n e Q Qf T (pureM x)) : SX n e Q (joinPost k Qf) T (pureM (.inr x)) :=
  fun a w hA hm => h a w hA hm
theorem SX.sub {T T' : Tm} {m : M α} {e : Exit} (hs : Sub T T') (h : SX n e Q Qf T' m) : SX n e Q Qf T m := fun a w hA hm => h a w (hA.sub hs) hm
theorem SX.seq {c : Code} {T : Tm} {m : M α} (h : SC rd P n Q Qf c T m) : SX n .normal (Exit.then (Wp rd P c Q) Q) Qf T m := fun a w hA hm => h a w hA hm
theorem SX.then_exit {K : Act → World → Prop} {T : Tm} {m : M α} {id : Nat} (h : SX n (.exit id) Q Qf T m) : SX n (.exit id) (Exit.then K Q) Qf T m := h
theorem SX.block {id : Nat} {T : Tm} {m : M α} (h : SX n .normal Q Qf T m) : SX n .normal (Exit.inBlock id Q) Qf T m := h
theorem SX.block_ret {id : Nat} {T : Tm} {m : M α} (h : SX n .ret Q Qf T m) : SX n .ret (Exit.inBlock id Q) Qf T m := h
theorem SX.block_hit {id : Nat} {T : Tm} {m : M α} (h : SX n .normal Q Qf T m) : SX n (.exit id) (Exit.inBlock id Q) Qf T m :=
  fun a w hA hm => by simpa [Exit.inBlock] using h a w hA hm
theorem wpIn_loop_ix {c : Code} {a : Act} {w : World} (I : σ → Act → World → Prop) (μ : σ → World → Nat) (s : σ) (h₀ : I s a w)
    (round : ∀ s a w, I s a w → Wp rd P c (Exit.then (fun a' w' => ∃ s', I s' a' w' ∧ μ s' w' < μ s w) Q) a w) : Wp rd P (.loop c) Q a w := by
  intro b k cs hro hb hr
  have key : ∀ j s a w, μ s w = j → I s a w →
      ∃ e a' w', Q e a' w' ∧ ArrivesIn (Machine.fenced P (FW rd)) P (lone (b.atR a (.code c :: .inLoop c :: k)) cs w) b k cs e a' w' := by
    intro j
    induction j using Nat.strongRecOn with
    | _ j ih =>
      intro s a w hn hI
      obtain ⟨e, a₁, w₁, hq, harr⟩ := round s a w hI b (.inLoop c :: k) cs hro hb hr
      have pass : ∀ e', e' ≠ Exit.normal → ArrivesIn (Machine.fenced P (FW rd)) P (lone (b.atR a (.code c :: .inLoop c :: k)) cs w) b (.inLoop c :: k) cs e' a₁ w₁ →
          ArrivesIn (Machine.fenced P (FW rd)) P (lone (b.atR a (.code c :: .inLoop c :: k)) cs w) b k cs e' a₁ w₁ := fun e' he' h => .pass (x := .inLoop c) rfl (fun _ _ => .inl he') h
      cases e with
      | normal =>
        obtain ⟨s', hI₁, hlt⟩ := hq
        obtain ⟨e₂, a₂, w₂, hq₂, harr₂⟩ := ih (μ s' w₁) (hn ▸ hlt) s' a₁ w₁ rfl hI₁
        exact ⟨e₂, a₂, w₂, hq₂, .of_steps (StepsIn.trans harr (.one (fenced_calm hb hr rfl) stepR_inLoop)) harr₂⟩
      | exit id => exact ⟨_, a₁, w₁, hq, pass _ (by simp) harr⟩
      | goto l => exact ⟨_, a₁, w₁, hq, pass _ (by simp) harr⟩
      | ret => exact ⟨_, a₁, w₁, hq, pass _ (by simp) harr⟩
      | panic ch => exact ⟨_, a₁, w₁, hq, pass _ (by simp) harr⟩
      | outgrown => exact ⟨_, a₁, w₁, hq, pass _ (by simp) harr⟩
  obtain ⟨e, a', w', hq, harr⟩ := key _ s a w rfl h₀
  exact ⟨e, a', w', hq, .of_steps (.one (fenced_calm hb hr rfl) stepR_loop) harr⟩
def loopQ (N0 : σ → Nd) (T0 : σ → Tm) (I : σ → World → Prop) (lt : Nat) (μ : σ → World → Nat) (Q : Exit → Act → World → Prop) : Exit → Act → World → Prop :=
  Exit.then (fun a' w' => ∃ s', (Agrees (N0 s') a' (T0 s') ∧ I s' w') ∧ μ s' w' < lt) Q
theorem SC.loopN {c : Code} {T : Tm} {body : σ → M (σ ⊕ α)} {s : σ} (N0 : σ → Nd) (T0 : σ → Tm) (hn : N0 s = n) (hs : Sub T (T0 s))
    (h : ∀ (I : σ → World → Prop) (lt : Nat) (μ : σ → World → Nat) (s : σ), SC rd P (N0 s) (loopQ N0 T0 I lt μ Q) (loopPost I lt μ Qf) c (T0 s) (body s)) :
    SC rd P n Q Qf (.loop c) T (loopM body s) := by
  intro a w hA hm
  obtain ⟨I, μ, h0, hr⟩ := hm
  exact wpIn_loop_ix (fun s a w => Agrees (N0 s) a (T0 s) ∧ I s w) μ s ⟨hn ▸ hA.sub hs, h0⟩ fun s a w hI => h I _ μ s a w hI.1 (hr s w hI.2)
theorem SC.loop {c : Code} {T : Tm} {body : σ → M (σ ⊕ α)} {s : σ} (T0 : σ → Tm) (hs : Sub T (T0 s))
    (h : ∀ (I : σ → World → Prop) (lt : Nat) (μ : σ → World → Nat) (s : σ), SC rd P n (loopQ (fun _ => n) T0 I lt μ Q) (loopPost I lt μ Qf) c (T0 s) (body s)) :
    SC rd P n Q Qf (.loop c) T (loopM body s) := SC.loopN (fun _ => n) T0 rfl hs h
theorem SX.loop_next {I : σ → World → Prop} {lt : Nat} {μ : σ → World → Nat} {N0 : σ → Nd} {T0 : σ → Tm} {s : σ} {T : Tm} (hs : Sub T (T0 s)) (hn : N0 s = n := by rfl) :
    SX n .normal (loopQ N0 T0 I lt μ Q) (loopPost I lt μ Qf) T (pureM (.inl s)) := fun _ _ hA hm => ⟨s, ⟨hn ▸ hA.sub hs, hm.1⟩, hm.2⟩
theorem SX.loop_exit {I : σ → World → Prop} {lt : Nat} {μ : σ → World → Nat} {N0 : σ → Nd} {T0 : σ → Tm} {T : Tm} {m : M α} {id : Nat} (h : SX n (.exit id) Q Qf T m) :
    SX n (.exit id) (loopQ N0 T0 I lt μ Q) (loopPost I lt μ Qf) T (mapR m) := h
theorem SX.loop_ret {I : σ → World → Prop} {lt : Nat} {μ : σ → World → Nat} {N0 : σ → Nd} {T0 : σ → Tm} {T : Tm} {m : M α} (h : SX n .ret Q Qf T m) :
    SX n .ret (loopQ N0 T0 I lt μ Q) (loopPost I lt μ Qf) T (mapR m) := h
end
end Go.Mo
namespace Go.Mo
section
variable {rd : Option Nat} {P : Program} {n : Nd} {Q : Exit → Act → World → Prop} {α β σ : Type} {Qf : α → World → Prop} {ops : Array Oper}
def KT (n : Nd) (Qf : α → World → Prop) (T : Tm) (m : M α) (K : Act → World → Prop) : Prop := ∀ a w, Agrees n a T → m Qf w → K a w
def rho (T : Tm) (x : Operand) : Value := (ev T x).getD undef
def callAll (f : Operand → Bool) (c : Call) : Bool := (match c.callee with | .value x => f x | .invoke r _ => f r | .builtin _ => true) && c.args.toList.all f
def opAll (f : Operand → Bool) : Op → Bool
  | .alloc _ | .ready _ | .waits _ => true
  | .move x | .assign x | .box _ x | .load _ x | .nilCheck x | .unOp _ _ x | .convert _ _ x | .sliceToArrayPointer _ x | .makeInterface _ x
  | .makeChan _ x | .fieldAddr _ x _ | .field _ x _ | .range _ x | .next x _ | .entry x | .typeAssert x _ _ _ | .extract x _ | .panic x | .recv _ x _ => f x
  | .pick c a b => f c && f a && f b
  | .build _ ps | .buildSlice _ _ ps => ps.toList.all fun p => f p.2
  | .store _ a v | .binOp _ _ a v _ | .makeSlice _ a v | .indexAddr _ a v | .index _ a v | .lookup _ a v _ | .mapEntry _ a v | .send a v => f a && f v
  | .makeFunc _ first captured => first.toList.all f && captured.toList.all f
  | .makeMap _ r => r.all f
  | .slice _ x l h m => f x && l.all f && h.all f && m.all f
  | .mapUpdate _ m k v | .entryStore _ m k v | .insert _ m k v => f m && f k && f v
  | .call c | .go c => callAll f c
  | .select _ _ | .defer _ => false
theorem callAll_spec {f : Operand → Bool} {c : Call} (h : callAll f c = true) (x : Operand) (hx : x ∈ c.operands) : f x = true := by
  simp only [callAll, Bool.and_eq_true, List.all_eq_true] at h
  simp only [Call.operands, Array.mem_append] at hx
  rcases hx with hx | hx
  · cases hc : c.callee <;> rw [hc] at hx h <;> simp at hx <;> (subst hx; exact h.1)
  · exact h.2 x (by simpa using hx)
theorem opAll_spec {f : Operand → Bool} {op : Op} (h : opAll f op = true) (x : Operand) (hx : x ∈ op.operands) : f x = true := by
  cases op <;> simp only [opAll, Bool.and_eq_true, List.all_eq_true] at h <;> simp only [Op.operands] at hx
  case call c => exact callAll_spec h x hx
  case go c => exact callAll_spec h x hx
  case defer c => cases h
  case build t ps => simp at hx; obtain ⟨a, ha⟩ := hx; exact h _ (by simpa using ha)
  case buildSlice t m ps => simp at hx; obtain ⟨a, ha⟩ := hx; exact h _ (by simpa using ha)
  case makeFunc fn a b => rcases Array.mem_append.1 hx with hx | hx; exact h.1 x (by simpa using hx); exact h.2 x (by simpa using hx)
  case makeMap t r => cases r <;> simp_all
  case slice t a l hh m => cases l <;> cases hh <;> cases m <;> simp_all <;> (rcases hx with hx | hx | hx | hx <;> simp_all)
  case select cs b => cases h
  all_goals simp at hx
  all_goals first
    | (subst hx; exact h)
    | (rcases hx with rfl | rfl; exact h.1; exact h.2)
    | (rcases hx with rfl | rfl | rfl; exact h.1.1; exact h.1.2; exact h.2)
def defined (T : Tm) (o : Oper) : Bool := opAll (fun x => (ev T x).isSome) o.op
theorem exec_rho {a : Act} {T : Tm} {o : Oper} (hA : Agrees n a T) (hd : defined T o = true) : execOp a.eval o = execOp (rho T) o := by
  refine execOp_congr o (fun cs b h => by simp [defined, h, opAll] at hd) fun x hx => ?_
  have h1 := opAll_spec hd x hx
  cases h : ev T x with
  | none => rw [h] at h1; simp at h1
  | some v => simp [rho, h, hA.ev h]
def wantedB (ops : Array Oper) (T : Tm) (o : Oper) : Option Bool :=
  match o.guard with
  | none => some true
  | some (j, want) => match (ops[j]?).bind (·.dst) with
    | some t => match lk T t with
      | some (.bool b) => some (b == want)
      | some (.tuple _) => some false
      | _ => none
    | none => none
theorem wanted_of {a : Act} {T : Tm} {o : Oper} {b : Bool} (hA : Agrees n a T) (h : wantedB ops T o = some b) : Region.wanted o (yielded ops a.tmps) = b := by
  unfold wantedB at h
  unfold Region.wanted
  cases hg : o.guard with
  | none => rw [hg] at h; simpa using h
  | some gw =>
    obtain ⟨j, want⟩ := gw
    rw [hg] at h
    simp only at h ⊢
    unfold yielded
    cases ht : (ops[j]?).bind (·.dst) with
    | none => rw [ht] at h; cases h
    | some t =>
      rw [ht] at h
      simp only at h
      cases hl : lk T t with
      | none => rw [hl] at h; cases h
      | some v =>
        rw [hl] at h
        have := hA.look t v hl
        cases v <;> simp at h
        · simp [this, h]
        · simp [this, h]
theorem notDefer_defined {T : Tm} {o : Oper} (h : defined T o = true) (c : Call) : o.op ≠ .defer c := fun e => by simp [defined, e, opAll] at h
theorem notDefer_value {ρ : Operand → Value} {o : Oper} {v : Value} {w w' : World} (h : (execOp ρ o).run P w = .ok (.value v) w') (c : Call) : o.op ≠ .defer c := fun e => by
  unfold execOp at h
  rw [e] at h
  simp only [Sem.run_bind] at h
  cases hr : (resolve ρ c o.type).run P w <;> rw [hr] at h <;> simp at h
theorem wpIn_run {o : Oper} {a : Act} {w : World} {K : Act → World → Prop} (hd : ∀ c, o.op ≠ .defer c) (h : o.uponIn (FW rd) 0 P a K Q ((execOp a.eval o).run P w)) : o.wpIn (FW rd) 0 P a w K Q :=
  ⟨fun _ _ => trivial, by rw [Oper.semAt_eq _ _ _ hd]; exact h⟩
theorem wpIn_value {o : Oper} {a : Act} {w w' : World} {v : Value} {K : Act → World → Prop} (h : (execOp a.eval o).run P w = .ok (.value v) w') (hk : K (a.put o.dst v) w') : o.wpIn (FW rd) 0 P a w K Q :=
  wpIn_run (notDefer_value h) (by rw [h]; exact hk)
def OW (rd : Option Nat) (P : Program) (Q : Exit → Act → World → Prop) (n : Nd) (Qf : α → World → Prop) (o : Oper) (T : Tm) (m : M α) (K : Act → World → Prop) : Prop :=
  ∀ a w, Agrees n a T → m Qf w → o.wpIn (FW rd) 0 P a w K Q
def OY (P : Program) (n : Nd) (S : World → Prop) (Qf : α → World → Prop) (o : Oper) (T : Tm) (m : M α) (K : Act → World → Prop) : Prop :=
  ∀ a w, Agrees n a T → m Qf w → ∃ v, (∀ w', S w' → (execOp a.eval o).run P w' = .ok (.value v) w') ∧ K (a.put o.dst v) w
theorem KT.ow {o : Oper} {os : List Oper} {T : Tm} {m : M α} (hw : wantedB ops T o = some true) (h : OW rd P Q n Qf o T m (WL rd P ops Q os)) :
    KT n Qf T m (WL rd P ops Q (o :: os)) := fun a w hA hm => by
  unfold WL wpListIn
  rw [if_pos (wanted_of hA hw)]
  exact h a w hA hm
theorem KT.oy {o : Oper} {os : List Oper} {T : Tm} {m : M α} (hw : wantedB ops T o = some true) (h : OY P n (fun _ => True) Qf o T m (WL rd P ops Q os)) :
    KT n Qf T m (WL rd P ops Q (o :: os)) := KT.ow hw fun a w hA hm => by
  obtain ⟨v, hv, hK⟩ := h a w hA hm
  exact wpIn_value (hv w trivial) hK
def dstOK (n : Nd) : Option Nat → Bool
  | some d => Nat.blt d n.n
  | none => true
def dstT (T : Tm) (v : Value) : Option Nat → Tm
  | some d => (d, v) :: T
  | none => T
theorem put_undef {a : Act} {T : Tm} (hA : Agrees n a T) (d : Option Nat) (hd : dstOK n d = true) :
    Agrees n (a.put d undef) (dstT T undef d) := by
  cases d with
  | none => exact hA
  | some d => exact hA.put hd undef
theorem KT.skip {o : Oper} {os : List Oper} {T : Tm} {m : M α} (hw : wantedB ops T o = some false) (hd : dstOK n o.dst = true)
    (h : KT n Qf (dstT T undef o.dst) m (WL rd P ops Q os)) : KT n Qf T m (WL rd P ops Q (o :: os)) := fun a w hA hm => by
  unfold WL wpListIn
  rw [if_neg (by rw [wanted_of hA hw]; simp)]
  exact ⟨fun _ _ => trivial, h _ w (put_undef hA o.dst hd) hm⟩
theorem KT.nil {T : Tm} {m : M α} (h : SX n .normal Q Qf T m) : KT n Qf T m (WL rd P ops Q []) := fun a w hA hm => h a w hA hm
theorem SC.region' {id : Nat} {l : List Oper} {T : Tm} {m : M α} (h : KT n Qf T m (WL rd P l.toArray Q l)) : SC rd P n Q Qf (.region id l.toArray false) T m :=
  fun a w hA hm => wpIn_region_lit (h a w hA hm)
theorem KT.sub {T T' : Tm} {m : M α} {K : Act → World → Prop} (hs : Sub T T') (h : KT n Qf T' m K) : KT n Qf T m K := fun a w hA hm => h a w (hA.sub hs) hm
section
variable {o : Oper} {T : Tm} {K : Act → World → Prop} {S : World → Prop} {d : Nat}
theorem OY.pv {m : M α} (v : Value) (hd : defined T o = true) (hv : ∀ w, (execOp (rho T) o).run P w = .ok (.value v) w) (hn : o.dst = some d) (hb : Nat.blt d n.n = true)
    (h : KT n Qf ((d, v) :: T) m K) : OY P n S Qf o T m K := fun a w hA hm =>
  ⟨v, fun w' _ => by rw [exec_rho hA hd]; exact hv w', by rw [hn]; exact h _ w (hA.put hb v) hm⟩
theorem OY.assert {m : M α} {p : Prop} (h : p → OY P n S Qf o T m K) : OY P n S Qf o T (assertM p m) K := fun a w hA hm => h hm.1 a w hA hm.2
theorem OY.nil {k : Addr → M α} {p : Option Addr} (x : Operand) (ho : o.op = .nilCheck x) (hx : ev T x = some (.pointer p)) (hn : o.dst = some d) (hb : Nat.blt d n.n = true)
    (h : ∀ ad, KT n Qf ((d, .pointer (some ad)) :: T) (k ad) K) : OY P n S Qf o T (bindM (nilM p) k) K := fun a w hA hm => by
  obtain ⟨ad, rfl, hm⟩ := hm
  refine ⟨.pointer (some ad), fun w' _ => ?_, by rw [hn]; exact h ad _ w (hA.put hb _) hm⟩
  unfold execOp
  rw [ho]
  simp only [hA.ev hx, Sem.run_pure]
theorem OY.idx {k : Addr → M α} {s : Slc} {i : Int} {ki : IntKind} {size : Nat} {elem : TypeId} (t : TypeId) (x ix : Operand) (ho : o.op = .indexAddr t x ix)
    (hx : ev T x = some (.slice s.base s.len s.cap)) (hi : ev T ix = some (.int ki i)) (ht : P.underlying t = some (.slice elem)) (hs : (P.info? elem).map (·.size) = some size)
    (hn : o.dst = some d) (hb : Nat.blt d n.n = true) (h : ∀ ad, KT n Qf ((d, .pointer (some ad)) :: T) (k ad) K) : OY P n S Qf o T (bindM (idxM s i size) k) K := fun a w hA hm => by
  obtain ⟨ad, hbase, h0, h1, hm⟩ := hm
  refine ⟨.pointer (some (ad.add (i.toNat * size))), fun w' _ => ?_, by rw [hn]; exact h _ _ w (hA.put hb _) hm⟩
  unfold execOp
  rw [ho]
  obtain ⟨inf, hinf, hsz⟩ := Option.map_eq_some_iff.1 hs
  simp [hA.ev hx, hA.ev hi, Instr.indexAt, asIntOf, underlying, ht, hbase, h0, h1, sizeOf, typeInfo, hinf, hsz]
end
section
variable {o : Oper} {T : Tm} {K : Act → World → Prop} {d : Nat}
theorem OW.oy {m : M α} (h : OY P n (fun _ => True) Qf o T m K) : OW rd P Q n Qf o T m K := fun a w hA hm => by
  obtain ⟨v, hv, hK⟩ := h a w hA hm
  exact wpIn_value (hv w trivial) hK
def plainT (P : Program) (t : TypeId) : Bool := match P.underlying t with | some (.struct _) | some (.array _ _) | none => false | _ => true
theorem run_isAgg_plain {t : TypeId} (h : plainT P t = true) (w : World) : (isAgg t).run P w = .ok false w := by
  unfold plainT at h
  unfold isAgg underlying
  simp only [Sem.run_bind, run_program, Result.andThen_ok]
  cases hu : P.underlying t with
  | none => rw [hu] at h; cases h
  | some x => rw [hu] at h; cases x <;> simp_all
theorem OW.ld {k : β → M α} {enc : β → Value} {ad : Addr} (t : TypeId) (x : Operand) (ho : o.op = .load t x) (hx : ev T x = some (.pointer (some ad))) (ht : plainT P t = true)
    (hn : o.dst = some d) (hb : Nat.blt d n.n = true) (h : ∀ y, KT n Qf ((d, enc y) :: T) (k y) K) : OW rd P Q n Qf o T (bindM (ld enc ad) k) K := fun a w hA hm => by
  obtain ⟨y, hc, hm⟩ := hm
  have : (execOp a.eval o).run P w = .ok (.value (enc y)) w := by
    unfold execOp
    rw [ho]
    simp [hA.ev hx, Instr.loadAt, Instr.sureAddr, loadVar, run_isAgg_plain ht, hc]
  refine wpIn_value this ?_
  rw [hn]
  exact h y _ w (hA.put hb _) hm
theorem OY.ldI {S : World → Prop} {k : β → M α} {enc : β → Value} {ad : Addr} (t : TypeId) (x : Operand) (ho : o.op = .load t x) (hx : ev T x = some (.pointer (some ad))) (ht : plainT P t = true)
    (hn : o.dst = some d) (hb : Nat.blt d n.n = true) (h : ∀ y, KT n Qf ((d, enc y) :: T) (k y) K) : OY P n S Qf o T (bindM (Mo.ldI S enc ad) k) K := fun a w hA hm => by
  obtain ⟨y, hc, hm⟩ := hm
  refine ⟨enc y, fun w' hw' => ?_, by rw [hn]; exact h y _ w (hA.put hb _) hm⟩
  unfold execOp
  rw [ho]
  simp [hA.ev hx, Instr.loadAt, Instr.sureAddr, loadVar, run_isAgg_plain ht, hc w' hw']
theorem run_sizeOf {t : TypeId} {s : Nat} (h : (P.info? t).map (·.size) = some s) (w : World) : (sizeOf t).run P w = .ok s w := by
  obtain ⟨i, hi, rfl⟩ := Option.map_eq_some_iff.1 h
  simp [sizeOf, typeInfo, hi]
theorem OW.st {k : Unit → M α} {ad : Addr} {v : Value} (t : TypeId) (x y : Operand) (ho : o.op = .store t x y) (hx : ev T x = some (.pointer (some ad))) (hy : ev T y = some v)
    (hv : v.oneCell' = true) (ht : (P.info? t).map (·.size) = some 1) (hn : o.dst = none) (h : KT n Qf T (k ()) K) : OW rd P Q n Qf o T (bindM (st ad v) k) K := fun a w hA hm => by
  obtain ⟨⟨u, hc⟩, hf, hm⟩ := hm
  have : (execOp a.eval o).run P w = .ok .skip (w.setCell ad v) := by
    unfold execOp
    rw [ho]
    have hcs : v.cells = #[v] := by cases v <;> first | rfl | (simp [Value.oneCell'] at hv)
    have hst := run_store P w ad v .plain hv
    rw [hc] at hst
    simp only [hf, Bool.false_eq_true, if_false] at hst
    simp only [hA.ev hx, hA.ev hy, Instr.storeAt, Instr.sureAddr, storeVar, Sem.run_bind, run_sizeOf ht, hcs, Result.andThen_ok, Sem.run_pure]
    simp [storeCells, Addr.add, hst]
  refine wpIn_run (fun c e => by rw [ho] at e; cases e) ?_
  rw [this, Oper.uponIn_skip, hn]
  exact h _ _ hA hm
theorem OW.new {k : Addr → M α} (cs : List Value) (vf : Addr → Value) (elem : TypeId) (hd : defined T o = true)
    (he : ∀ w, (execOp (rho T) o).run P w = .ok (.value (vf ⟨w.heap.size, 0, none⟩)) (World.allocC w cs.toArray elem)) (hn : o.dst = some d) (hb : Nat.blt d n.n = true)
    (h : ∀ ad, KT n Qf ((d, vf ad) :: T) (k ad) K) : OW rd P Q n Qf o T (bindM (allocM cs) k) K := fun a w hA hm => by
  have hm := hm elem
  refine wpIn_run (notDefer_defined hd) ?_
  rw [exec_rho hA hd, he w, Oper.uponIn_value, hn]
  exact h _ _ _ (hA.put hb _) hm
def RetPost {ρ : Type} (enc : ρ → Value) (Qf : ρ → World → Prop) : Ending → World → Prop
  | .returned v, w => ∃ x, v = enc x ∧ Qf x w
  | _, _ => False
theorem callsIn_FW {f : FuncId} {args : Array Value} {w : World} {R : Ending → World → Prop} {m : Nat} (rd : Option Nat) (h : Calls P f args w R) : CallsIn (FW rd) m P f args w R :=
  (callsIn_wide (n := m)).2 h
theorem OW.call {k : β → M α} {callee : M β} {enc : β → Value} (f : FuncId) (vs : Array Value) (hd : defined T o = true)
    (he : ∀ w, (execOp (rho T) o).run P w = .ok (.enter f vs) w) (hc : ∀ (Qf' : β → World → Prop) (w : World), callee Qf' w → Calls P f vs w (RetPost enc Qf'))
    (hn : o.dst = some d) (hb : Nat.blt d n.n = true) (h : ∀ y, KT n Qf ((d, enc y) :: T) (k y) K) : OW rd P Q n Qf o T (bindM callee k) K := fun a w hA hm => by
  refine wpIn_run (notDefer_defined hd) ?_
  rw [exec_rho hA hd, he w, Oper.uponIn_enter]
  refine ⟨fun h => by simp [Fence.wide] at h, (callsIn_FW rd (hc _ w hm)).mono fun e w' hr => ?_⟩
  cases e with
  | returned v =>
    obtain ⟨y, rfl, hq⟩ := hr
    rw [hn]
    exact h y _ w' (hA.put hb _) hq
  | panicked c => exact hr.elim
  | outgrown => exact hr.elim
end
def wpF (rd : Option Nat) (P : Program) (ops : Array Oper) (Q : Exit → Act → World → Prop) (S : World → Prop) (F : Nat → Bool) : Nat → Array Bool → Act → World → Prop
  | 0, listed, a, w => Region.ready .any ops listed = [] ∧ Q .normal a w
  | fuel + 1, listed, a, w => (Region.ready .any ops listed = [] → Q .normal a w) ∧
    ∀ i ∈ Region.ready .any ops listed, wpOpIn (FW rd) 0 P ops Q i (fun a' w' => (S w → F i = false → S w') ∧ wpF rd P ops Q S F fuel (listed.setIfInBounds i true) a' w') a w
theorem wpF_any {S : World → Prop} {F : Nat → Bool} : ∀ (fuel : Nat) (listed : Array Bool) (a : Act) (w : World), wpF rd P ops Q S F fuel listed a w → wpAnyIn (FW rd) 0 P .any ops Q fuel listed a w
  | 0, _, _, _, h => h
  | fuel + 1, _, _, _, h => ⟨h.1, fun i hi => wpOpIn_mono (fun a' w' h' => wpF_any fuel _ a' w' h'.2) (h.2 i hi)⟩
theorem yieldsF {S : World → Prop} {i : Nat} {o : Oper} {v : Value} {a : Act} (hi : ops[i]? = some o) (hy : YieldsIf P ops S o v a)
    {K : Act → World → Prop} {w : World} (hS : S w) (h : K (a.put o.dst v) w) : wpOpIn (FW rd) 0 P ops Q i K a w := by
  unfold wpOpIn
  simp only [hi]
  rcases hy with ⟨hw, hv⟩ | ⟨hw, rfl⟩
  · rw [if_pos hw]; exact wpIn_value (hv w hS) h
  · rw [if_neg (by rw [hw]; simp)]; exact ⟨fun _ _ => trivial, h⟩
theorem wpOpF_putIf {S : World → Prop} {j : Nat} {oi oj : Oper} {v : Value} (hj : ops[j]? = some oj) (hap : oi.apart ops oj = true)
    (hsi : ∀ cs b, oi.op ≠ .select cs b) (hsj : ∀ cs b, oj.op ≠ .select cs b) (hdj : ∀ c, oj.op ≠ .defer c)
    (hQ : ∀ c a w, Q (.panic c) (a.put oi.dst v) w → Q (.panic c) a w) {K : Act → World → Prop} {a : Act} {w : World}
    (hy : YieldsIf P ops S oi v a) (h : wpOpIn (FW rd) 0 P ops Q j K (a.put oi.dst v) w) :
    wpOpIn (FW rd) 0 P ops Q j (fun a' w' => YieldsIf P ops S oi v a' ∧ K (a'.put oi.dst v) w') a w := by
  obtain ⟨h1, h2, h3⟩ := Oper.apart_spec hap
  have keep : ∀ (a : Act), YieldsIf P ops S oi v a → ∀ u, YieldsIf P ops S oi v (a.put oj.dst u) := fun a hy u =>
    hy.of_same (execOp_put oi hsi a oj.dst u h3) (wanted_put oi a oj.dst u h3)
  unfold wpOpIn at h ⊢
  simp only [hj] at h ⊢
  rw [wanted_put oj a oi.dst v h1] at h
  by_cases hw : Region.wanted oj (yielded ops a.tmps) = true
  · rw [if_pos hw] at h ⊢
    refine wpIn_run hdj ?_
    have hu := h.2
    rw [Oper.semAt_eq _ _ _ hdj, execOp_put oj hsj a oi.dst v h1] at hu
    have keepD : ∀ d, YieldsIf P ops S oi v { a with defers := d :: a.defers } := fun d => hy.of_same rfl rfl
    generalize (execOp a.eval oj).run P w = r at hu ⊢
    cases r with
    | ok x w' =>
      cases x <;> simp only [Oper.uponIn] at hu ⊢
      case value u => exact ⟨keep a hy u, by rw [← Act.put_comm a v u h2]; exact hu⟩
      case skip => exact ⟨keep a hy _, by rw [← Act.put_comm a v undef h2]; exact hu⟩
      case defer dd =>
        refine ⟨keep _ (keepD dd) _, ?_⟩
        rw [← Act.put_comm _ v undef h2, ← Act.put_defers]
        exact hu
      case enter f args => exact ⟨hu.1, CallsIn.mono hu.2 fun e w'' he => by
        cases e with
        | returned u => exact ⟨keep a hy u, by rw [← Act.put_comm a v u h2]; exact he⟩
        | panicked c => exact hQ _ _ _ he
        | outgrown => exact he⟩
      case row row args => exact ⟨hu.1, RowsIn.mono hu.2 fun u w'' he => ⟨keep a hy u, by rw [← Act.put_comm a v u h2]; exact he⟩⟩
      case round l f tmps asg body => exact ⟨hu.1, RoundIn.mono hu.2 fun e w'' he => by
        cases e with
        | returned u => exact ⟨keep a hy u, by rw [← Act.put_comm a v u h2]; exact he⟩
        | panicked c => exact hQ _ _ _ he
        | outgrown => exact he⟩
    | halt x w' =>
      cases x <;> simp only [Oper.uponIn] at hu ⊢
      case panic u => exact hQ _ _ _ hu
  · rw [if_neg hw] at h ⊢
    exact ⟨fun _ _ => trivial, keep a hy _, by rw [← Act.put_comm a v undef h2]; exact h.2⟩
theorem wpF_first {S S' : World → Prop} {F : Nat → Bool} {i : Nat} {oi : Oper} {v : Value} (hi : ops[i]? = some oi) (hsel : ∀ (j : Nat) (o : Oper) cs b, ops[j]? = some o → o.op ≠ .select cs b) (hdf : ∀ (j : Nat) (o : Oper) c, ops[j]? = some o → o.op ≠ .defer c)
    (hQ : ∀ c a w, Q (.panic c) (a.put oi.dst v) w → Q (.panic c) a w)
    (hF : (∀ w, S' w) ∨ (∀ w, S w → S' w) ∧ ∀ f of, F f = true → ops[f]? = some of → ∃ e ∈ of.after, Region.binds .any e = true ∧ e.on = i) :
    ∀ (fuel : Nat) (listed : Array Bool) (a : Act) (w : World),
      (∀ j oj, ops[j]? = some oj → j ≠ i → listed.getD j true = false → (∀ e ∈ oj.after, Region.binds .any e = true → e.on ≠ i) → oi.apart ops oj = true) →
      i ∈ Region.ready .any ops listed → YieldsIf P ops S' oi v a → (S w ∨ ∀ w, S' w) →
      wpF rd P ops Q S F fuel (listed.setIfInBounds i true) (a.put oi.dst v) w → wpF rd P ops Q S F (fuel + 1) listed a w := by
  have notAfter : ∀ (listed : Array Bool) (j : Nat) (oj : Oper), ops[j]? = some oj → i ∈ Region.ready .any ops listed → j ∈ Region.ready .any ops listed →
      ∀ e ∈ oj.after, Region.binds .any e = true → e.on ≠ i := by
    intro listed j oj hoj hr hj e he hb heq
    obtain ⟨_, oj', hoj', hall⟩ := mem_ready.1 hj
    rw [hoj] at hoj'
    cases hoj'
    have h1 := hall e he hb
    have h0 := (mem_ready.1 hr).1
    rw [heq] at h1
    rcases Nat.lt_or_ge i listed.size with h' | h'
    · simp [h'] at h0 h1; rw [h0] at h1; cases h1
    · simp [Array.getElem?_eq_none h'] at h1
  have hof : ∀ w, (S w ∨ ∀ w, S' w) → S' w := fun w h => by
    rcases hF with h' | h'
    · exact h' w
    · exact h.elim (h'.1 w) (fun h => h w)
  intro fuel
  induction fuel with
  | zero =>
    intro listed a w _ hr hy hS H
    refine ⟨fun h => (by rw [h] at hr; cases hr), fun j hj => ?_⟩
    by_cases hji : j = i
    · subst hji; exact yieldsF hi hy (hof w hS) ⟨fun h _ => h, H⟩
    · have := ready_mono hj hji
      rw [H.1] at this
      cases this
  | succ fuel ih =>
    intro listed a w hfree hr hy hS H
    refine ⟨fun h => (by rw [h] at hr; cases hr), fun j hj => ?_⟩
    by_cases hji : j = i
    · subst hji; exact yieldsF hi hy (hof w hS) ⟨fun h _ => h, H⟩
    · have h1 := H.2 j (ready_mono hj hji)
      obtain ⟨hjun, oj, hoj, _⟩ := mem_ready.1 hj
      have hnot := notAfter listed j oj hoj hr hj
      have h2 := wpOpF_putIf hoj (hfree j oj hoj hji hjun hnot) (fun cs b => hsel i oi cs b hi) (fun cs b => hsel j oj cs b hoj) (fun c => hdf j oj c hoj) hQ hy h1
      have hFj : (∀ w, S' w) ∨ F j = false := by
        rcases hF with h' | h'
        · exact .inl h'
        · right
          cases hfj : F j with
          | false => rfl
          | true =>
            obtain ⟨e, he, hb, heq⟩ := h'.2 j oj hfj hoj
            exact absurd heq (hnot e he hb)
      have hfree' : ∀ k ok, ops[k]? = some ok → k ≠ i → (listed.setIfInBounds j true).getD k true = false →
          (∀ e ∈ ok.after, Region.binds .any e = true → e.on ≠ i) → oi.apart ops ok = true := fun k ok hk hki hun hno => by
        refine hfree k ok hk hki ?_ hno
        by_cases hjk : j = k
        · subst hjk; exact hjun
        · rw [getD_set_ne true hjk] at hun; exact hun
      refine wpOpIn_mono (fun a' w' h3 => ⟨h3.2.1, ih (listed.setIfInBounds j true) a' w' hfree' (ready_mono hr (Ne.symm hji)) h3.1 (hFj.elim .inr fun hFj => hS.elim (fun hS => .inl (h3.2.1 hS hFj)) .inr) ?_⟩) h2
      rw [Array.setIfInBounds_comm _ _ hji]
      exact h3.2.2
def waits (ops : Array Oper) (F : Nat → Bool) (i : Nat) : Bool := (List.range ops.size).all fun f => !F f || match ops[f]? with
  | some of => of.after.toList.any fun e => Region.binds .any e && e.on == i
  | none => true
theorem waits_spec {F : Nat → Bool} {i : Nat} (h : waits ops F i = true) (f : Nat) (of : Oper) (hf : F f = true) (ho : ops[f]? = some of) : ∃ e ∈ of.after, Region.binds .any e = true ∧ e.on = i := by
  simp only [waits, List.all_eq_true, List.mem_range] at h
  have := h f (Array.getElem?_eq_some_iff.1 ho).1
  simp only [hf, ho, Bool.not_true, Bool.false_or, List.any_eq_true, Bool.and_eq_true, beq_iff_eq] at this
  obtain ⟨e, he, h1, h2⟩ := this
  exact ⟨e, Array.mem_toList_iff.1 he, h1, h2⟩
def AH (rd : Option Nat) (P : Program) (ops : Array Oper) (Q : Exit → Act → World → Prop) (S : World → Prop) (F : Nat → Bool) (fuel : Nat) (listed : Array Bool) (a : Act) (w : World) : Prop :=
  S w → wpF rd P ops Q S F fuel listed a w
def AS (rd : Option Nat) (P : Program) (ops : Array Oper) (Q : Exit → Act → World → Prop) (S : World → Prop) (F : Nat → Bool) (fuel : Nat) (listed : Array Bool) (a : Act) (w : World) : Prop :=
  S w ∧ wpF rd P ops Q S F fuel listed a w
def andM (S : World → Prop) (m : M α) : M α := fun Q w => S w ∧ m Q w
theorem SC.draw {id : Nat} {l : List Oper} {T : Tm} {body : (World → Prop) → M α} (N : Nat) (F : Nat → Bool) (hN : l.length = N) (hm : P.follows .mixedOrders = true)
    (h : ∀ S, KT n Qf T (body S) (AH rd P l.toArray Q S F N (Array.replicate N false))) : SC rd P n Q Qf (.region id l.toArray true) T (regionM body) := fun a w hA hmm => by
  obtain ⟨S, hS, hq⟩ := hmm
  refine wpIn_region_any hm ?_
  have := wpF_any _ _ _ _ (h S a (drawW w) hA hq hS)
  subst hN
  simpa [drawW] using this
section
variable {o : Oper} {T : Tm} {S : World → Prop} {F : Nat → Bool} {fuel : Nat} {listed : Array Bool}
class PanicOK (Q : Exit → Act → World → Prop) : Prop where
  ok : ∀ c a d v w, Q (.panic c) (Act.put a d v) w → Q (.panic c) a w
def noDefer (ops : Array Oper) : Bool := ops.toList.all fun o => match o.op with | .defer _ => false | _ => true
theorem noDefer_spec (h : noDefer ops = true) (j : Nat) (o : Oper) (c : Call) (ho : ops[j]? = some o) : o.op ≠ .defer c := by
  intro heq
  have := List.all_eq_true.1 h o (Array.mem_toList_iff.2 (Array.mem_of_getElem? ho))
  simp [heq] at this
def takeOKp (ops : Array Oper) (_F : Nat → Bool) (listed : Array Bool) (i : Nat) : Bool :=
  noDefer ops && Region.noSelect ops && Region.free .any ops listed i && (Region.ready .any ops listed).contains i
def takeOK (ops : Array Oper) (F : Nat → Bool) (listed : Array Bool) (i : Nat) : Bool :=
  takeOKp ops F listed i && waits ops F i
theorem wpF_take {oi : Oper} {v : Value} {i : Nat} {a : Act} {w : World} (hi : ops[i]? = some oi) (hc : takeOK ops F listed i = true)
    (hQ : PanicOK Q) (hy : YieldsIf P ops S oi v a) (hS : S w)
    (h : wpF rd P ops Q S F fuel (listed.setIfInBounds i true) (a.put oi.dst v) w) : wpF rd P ops Q S F (fuel + 1) listed a w := by
  simp only [takeOK, takeOKp, Bool.and_eq_true] at hc
  exact wpF_first hi (Region.noSelect_spec hc.1.1.1.2) (noDefer_spec hc.1.1.1.1) (fun c a w => hQ.ok c a _ _ w) (.inr ⟨fun _ h => h, waits_spec hc.2⟩) fuel listed a w (Region.free_spec hi hc.1.1.2) (by simpa using hc.1.2) hy (.inl hS) h
theorem KT.take {m : M α} (i : Nat) (hi : ops[i]? = some o) (hc : takeOK ops F listed i = true)
    (hQ : PanicOK Q) (hw : wantedB ops T o = some true) (h : OY P n S Qf o T m (AH rd P ops Q S F fuel (listed.setIfInBounds i true))) :
    KT n Qf T m (AH rd P ops Q S F (fuel + 1) listed) := fun a w hA hm hS => by
  obtain ⟨v, hv, hK⟩ := h a w hA hm
  exact wpF_take hi hc hQ (.inl ⟨wanted_of hA hw, hv⟩) hS (hK hS)
theorem wpF_one {a : Act} {w : World} (i : Nat) (hi : ops[i]? = some o) (hr : Region.ready .any ops listed = [i]) (hw : Region.wanted o (yielded ops a.tmps) = true)
    (h : o.wpIn (FW rd) 0 P a w (fun a' w' => (S w → F i = false → S w') ∧ wpF rd P ops Q S F fuel (listed.setIfInBounds i true) a' w') Q) : wpF rd P ops Q S F (fuel + 1) listed a w := by
  refine ⟨fun h0 => (by rw [hr] at h0; cases h0), fun j hj => ?_⟩
  rw [hr] at hj
  obtain rfl : j = i := by simpa using hj
  unfold wpOpIn
  rw [hi]
  simp only
  rw [if_pos hw]
  exact h
theorem KT.one {m : M α} (i : Nat) (hi : ops[i]? = some o) (hr : Region.ready .any ops listed = [i]) (hw : wantedB ops T o = some true)
    (h : OW rd P Q n Qf o T m (AS rd P ops Q S F fuel (listed.setIfInBounds i true))) : KT n Qf T m (AH rd P ops Q S F (fuel + 1) listed) := fun a w hA hm _ =>
  wpF_one i hi hr (wanted_of hA hw) (Oper.wpIn_mono (fun _ _ h' => ⟨fun _ _ => h'.1, h'.2⟩) (h a w hA hm))
theorem KT.last {m : M α} (i : Nat) (hi : ops[i]? = some o) (hr : Region.ready .any ops listed = [i]) (hF : F i = true) (hw : wantedB ops T o = some true)
    (h : OW rd P Q n Qf o T m (wpF rd P ops Q S F fuel (listed.setIfInBounds i true))) : KT n Qf T m (AH rd P ops Q S F (fuel + 1) listed) := fun a w hA hm _ =>
  wpF_one i hi hr (wanted_of hA hw) (Oper.wpIn_mono (fun _ _ h' => ⟨fun _ e => (by rw [hF] at e; cases e), h'⟩) (h a w hA hm))
theorem OW.step {pr : M β} {k : β → M α} {K : Act → World → Prop} (h : OW rd P Q n Qf o T (bindM pr (fun x => andM S (k x))) K) : OW rd P Q n Qf o T (bindM (stepI S pr) k) K :=
  fun a w hA hm => h a w hA hm
theorem KT.and {m : M α} (h : KT n Qf T m (AH rd P ops Q S F fuel listed)) : KT n Qf T (andM S m) (AS rd P ops Q S F fuel listed) := fun a w hA hm =>
  ⟨hm.1, h a w hA hm.2 hm.1⟩
end
def ixT : Nat → List Value → Tm
  | _, [] => []
  | i, v :: vs => (i, v) :: ixT (i + 1) vs
theorem lk_ixT (l : List Value) : ∀ (k i : Nat) (v : Value), lk (ixT k l) i = some v → k ≤ i ∧ l[i - k]? = some v := by
  induction l with
  | nil => intro k i v h; simp [ixT, lk] at h
  | cons x l ih =>
    intro k i v h
    simp only [ixT, lk] at h
    by_cases hi : i = k
    · subst hi
      simp only [Nat.beq_refl, cond_true] at h
      simpa using h
    · simp only [beq_ff hi, cond_false] at h
      obtain ⟨h1, h2⟩ := ih (k + 1) i v h
      refine ⟨by omega, ?_⟩
      rw [show i - k = (i - (k + 1)) + 1 from by omega]
      simpa using h2
theorem init_agrees (l : List Value) (n : Nat) (h : l.length ≤ n) : Agrees ⟨n, []⟩ { tmps := l.toArray ++ Array.replicate (n - l.toArray.size) undef, defers := [] } (ixT 0 l) := by
  refine ⟨by simp; omega, rfl, fun i v hv => ?_⟩
  obtain ⟨_, h2⟩ := lk_ixT l 0 i v hv
  simp only [Nat.sub_zero] at h2
  have hlt : i < l.length := (List.getElem?_eq_some_iff.1 h2).1
  rw [Array.getElem?_append_left (by simpa using hlt)]
  simpa using h2
def bodyQ (P : Program) (fn : Func) (R : Ending → World → Prop) : Exit → Act → World → Prop
  | .panic _, _, _ => False
  | e, a, w => bodyPostM (FW none) 0 P fn R e a w
theorem bodyQ_post {fn : Func} {R : Ending → World → Prop} (e : Exit) (a : Act) (w : World) (h : bodyQ P fn R e a w) : bodyPostM (FW none) 0 P fn R e a w := by
  cases e <;> first | exact h | exact (h : False).elim
theorem calls_of {ρ : Type} {enc : ρ → Value} {f : FuncId} {fn : Func} {c : Code} {l : List Value} {m : M ρ} (n : Nat) (hf : P.funcs[f]? = some fn) (hb : fn.body = some c) (hn : fn.ntmps = n) (hl : Nat.ble l.length n = true)
    (h : ∀ Qf : ρ → World → Prop, SC none P ⟨n, []⟩ (bodyQ P fn (RetPost enc Qf)) Qf c (ixT 0 l) m) (Qf : ρ → World → Prop) (w : World) (hm : m Qf w) : Calls P f l.toArray w (RetPost enc Qf) := by
  subst hn
  exact (callsIn_wide (n := 0)).1 (callsIn_of_wp_marks (F := Fence.wide) hf hb trivial (wpIn_mono (h Qf _ w (init_agrees l fn.ntmps (by simpa using hl)) hm) bodyQ_post))
def resV (tmps : Array Value) : ResultVar → Sem Value
  | .tmp t => pure (tmps.getD t undef)
  | .cell b t => do loadVar t (← asAddr (tmps.getD b undef))
def RS {ρ : Type} (P : Program) (n : Nd) (enc : ρ → Value) (Qf : ρ → World → Prop) (rs : List ResultVar) (acc : List Value) (T : Tm) (m : M ρ) : Prop :=
  ∀ a w, Agrees n a T → m Qf w → ∃ vs : List Value, (rs.mapM (resV a.tmps)).run P w = .ok vs w ∧
    ∃ x, (if h : (acc ++ vs).length = 1 then (acc ++ vs)[0] else .tuple (acc ++ vs).toArray) = enc x ∧ Qf x w
theorem run_results {fn : Func} {rs : List ResultVar} (h : fn.results = rs.toArray) (tmps : Array Value) (w w' : World) (vs : List Value)
    (hr : (rs.mapM (resV tmps)).run P w = .ok vs w') :
    (results fn tmps).run P w = .ok (if h : vs.length = 1 then vs[0] else .tuple vs.toArray) w' := by
  have he : (fun r : ResultVar => match r with | .tmp t => (pure (tmps.getD t undef) : Sem Value) | .cell a t => do loadVar t (← asAddr (tmps.getD a undef))) = resV tmps := by
    funext r; cases r <;> rfl
  unfold results
  rw [h]
  have he2 : ∀ f : ResultVar → Sem Value, f = resV tmps → (do let vs ← rs.toArray.mapM f; pure (if h : vs.size = 1 then vs[0] else Value.tuple vs) : Sem Value).run P w = .ok (if h : vs.length = 1 then vs[0] else .tuple vs.toArray) w' := by
    intro f hf
    subst hf
    simp only [List.mapM_toArray, bind_pure_comp, Sem.run_map, hr, Result.andThen_ok]
    simp
  exact he2 _ he
def takesM {ρ : Type} : List Nat → M ρ → M ρ
  | [], m => m
  | D :: ds, m => fun Q w => w.heap[D]? = some (.deferred (some [])) ∧ takesM ds m Q (w.putObj D (.deferred none))
theorem leaves_of {ρ : Type} {enc : ρ → Value} {Qf : ρ → World → Prop} {T : Tm} {m : M ρ} {fn : Func} {rs : List ResultVar} (hrs : fn.results = rs.toArray) {a : Act} (hA : Agrees n a T) (h : RS P n enc Qf rs [] T m) :
    ∀ (ds : List Nat) (w : World), takesM ds m Qf w → LeavesInM (FW none) 0 P fn a.tmps (RetPost enc Qf) (ds.map mark) .returning w
  | [], w, hm => by
    obtain ⟨vs, h1, x, h2, h3⟩ := h a w hA hm
    exact ⟨_, run_results hrs a.tmps w w vs h1, x, h2, h3⟩
  | D :: ds, w, hm => by
    refine ⟨by simp, .inl ⟨D, w.putObj D (.deferred none), rfl, ?_, leaves_of hrs hA h ds _ hm.2⟩⟩
    simp [Instr.takeDeferred, getObj, setObj, Sem.run, hm.1, World.putObj]
theorem SX.ret {ρ : Type} {enc : ρ → Value} {Qf : ρ → World → Prop} {T : Tm} {m : M ρ} {fn : Func} (rs : List ResultVar) (hrs : fn.results = rs.toArray) (h : RS P n enc Qf rs [] T m) :
    SX n .ret (bodyQ P fn (RetPost enc Qf)) Qf T (takesM n.ds m) := fun a w hA hm => by
  show LeavesInM _ _ _ _ _ _ a.defers _ _
  rw [hA.defers]
  exact leaves_of hrs hA h n.ds w hm
theorem SX.endBody {ρ : Type} {enc : ρ → Value} {Qf : ρ → World → Prop} {T : Tm} {m : M ρ} {fn : Func} (rs : List ResultVar) (hrs : fn.results = rs.toArray) (h : RS P n enc Qf rs [] T m) :
    SX n .normal (bodyQ P fn (RetPost enc Qf)) Qf T (takesM n.ds m) := fun a w hA hm => by
  show LeavesInM _ _ _ _ _ _ a.defers _ _
  rw [hA.defers]
  exact leaves_of hrs hA h n.ds w hm
section
variable {ρ : Type} {enc : ρ → Value} {Qf : ρ → World → Prop} {rs : List ResultVar} {acc : List Value} {T : Tm}
theorem RS.nil {x : ρ} (h : (if h : acc.length = 1 then acc[0] else .tuple acc.toArray) = enc x) : RS P n enc Qf [] acc T (pureM x) := fun a w _ hm =>
  ⟨[], by simp, x, by simpa using h, hm⟩
theorem RS.tmp {m : M ρ} {t : Nat} (v : Value) (hv : lk T t = some v) (h : RS P n enc Qf rs (acc ++ [v]) T m) : RS P n enc Qf (.tmp t :: rs) acc T m := fun a w hA hm => by
  obtain ⟨vs, h1, x, h2, h3⟩ := h a w hA hm
  have he : a.tmps.getD t undef = v := by simp [Array.getD_eq_getD_getElem?, hA.look t v hv]
  refine ⟨v :: vs, ?_, x, by simpa using h2, h3⟩
  rw [List.mapM_cons]
  simp only [resV, he, pure_bind, Sem.run_bind]
  rw [h1]
  simp
theorem RS.cell {γ : Type} {e : γ → Value} {k : γ → M ρ} {t : Nat} {ad : Addr} {ty : TypeId} (hv : lk T t = some (.pointer (some ad))) (ht : plainT P ty = true) (h : ∀ y, RS P n enc Qf rs (acc ++ [e y]) T (k y)) :
    RS P n enc Qf (.cell t ty :: rs) acc T (bindM (ld e ad) k) := fun a w hA hm => by
  obtain ⟨y, hc, hm⟩ := hm
  obtain ⟨vs, h1, x, h2, h3⟩ := h y a w hA hm
  have he : a.tmps.getD t undef = .pointer (some ad) := by simp [Array.getD_eq_getD_getElem?, hA.look t _ hv]
  refine ⟨e y :: vs, ?_, x, by simpa using h2, h3⟩
  rw [List.mapM_cons]
  have hl : (resV a.tmps (.cell t ty)).run P w = .ok (e y) w := by
    simp only [resV, he, Sem.run_bind, asAddr, Sem.run_pure, Result.andThen_ok, loadVar, run_isAgg_plain ht, Bool.false_eq_true, if_false, run_load, hc]
  simp only [Sem.run_bind, hl, Result.andThen_ok, h1]
  simp
end
end
end Go.Mo
namespace Go.Mo
set_option linter.unusedVariables false
def bShl (k : IntKind) (x y : Int) : Int := k.wrap (x * 2 ^ (min y.toNat k.bits))
def bShr (k : IntKind) (x y : Int) : Int := x.fdiv (2 ^ (min y.toNat k.bits))
def ldA {β : Type} (enc : β → List Value) (a : Addr) : M β := fun Q w => ∃ y, (∀ j v, (enc y)[j]? = some v → w.cell? (a.add j) = some v) ∧ Q y w
def ldAI {β : Type} (I : World → Prop) (enc : β → List Value) (a : Addr) : M β := fun Q w => ∃ y, (∀ w', I w' → ∀ j v, (enc y)[j]? = some v → w'.cell? (a.add j) = some v) ∧ Q y w
def storable (w : World) (a : Addr) : Nat → List Value → Prop
  | _, [] => True
  | i, v :: r => v.oneCell' = true ∧ (∃ u, w.cell? (a.add i) = some u) ∧ w.frozen? (a.add i) = false ∧ storable (w.setCell (a.add i) v) a (i + 1) r
def storeRow (w : World) (a : Addr) : Nat → List Value → World
  | _, [] => w
  | i, v :: r => storeRow (w.setCell (a.add i) v) a (i + 1) r
def stA (a : Addr) (vs : List Value) : M Unit := fun Q w => storable w a 0 vs ∧ Q () (storeRow w a 0 vs)
def zs (z : List Value) (n : Nat) : List Value := (List.range (n * z.length)).map fun i => z.getD (i % z.length) undef
def makeM (z : List Value) (bytes : Nat) (n : Int) : M Slc := fun Q w => 0 ≤ n ∧ bytes * n ≤ 2 ^ 48 ∧ ∀ elem, Q ⟨some ⟨w.heap.size, 0, none⟩, n.toNat, n.toNat⟩ (World.allocC w (zs z n.toNat).toArray elem)
def cellsAt (w : World) (base : Option Addr) (l : List Value) : Prop := match base with
  | some a => ∀ j v, l[j]? = some v → w.cell? (a.add j) = some v
  | none => l = []
def appendM (z : List Value) (bytes : Nat) (s x : Slc) : M Slc := fun Q w =>
  ∃ new, cellsAt w x.base new ∧ (x.base.isSome = true → new.length = x.len * z.length) ∧
    if s.len + x.len ≤ s.cap then
      match s.base with
      | some a => storable w (a.add (s.len * z.length)) 0 new ∧ Q ⟨some a, s.len + x.len, s.cap⟩ (storeRow w (a.add (s.len * z.length)) 0 new)
      | none => Q ⟨none, s.len + x.len, s.cap⟩ w
    else Builtin.nextslicecap (s.len + x.len) s.cap * bytes ≤ 2 ^ 48 ∧ ∃ old, cellsAt w s.base old ∧ (s.base.isSome = true → old.length = s.len * z.length) ∧
      ∀ newCap elem, s.len + x.len ≤ newCap → Q ⟨some ⟨w.heap.size, 0, none⟩, s.len + x.len, newCap⟩ (World.allocC (drawW w) (old ++ new ++ zs z (newCap - (s.len + x.len))).toArray elem)
def copyM (size : Nat) (d s : Slc) : M Int := fun Q w =>
  ∃ new, cellsAt w s.base new ∧ (s.base.isSome = true → new.length = Nat.min s.len d.len * size) ∧ match d.base with
    | some a => storable w a 0 new ∧ Q (Nat.min s.len d.len : Nat) (storeRow w a 0 new)
    | none => Q (Nat.min s.len d.len : Nat) w
section
variable {rd : Option Nat} {P : Program} {n : Nd} {Q : Exit → Act → World → Prop} {α β σ : Type} {Qf : α → World → Prop} {ops : Array Oper}
theorem SC.cond_true {c : Operand} {x y : Code} {T : Tm} {m : M α} (hc : ev T c = some (.bool true)) (h : SC rd P n Q Qf x T m) : SC rd P n Q Qf (.cond c x y) T m :=
  fun a w hA hm => wpIn_cond_true (hA.ev hc) (h a w hA hm)
theorem SC.cond_false {c : Operand} {x y : Code} {T : Tm} {m : M α} (hc : ev T c = some (.bool false)) (h : SC rd P n Q Qf y T m) : SC rd P n Q Qf (.cond c x y) T m :=
  fun a w hA hm => wpIn_cond_false (hA.ev hc) (h a w hA hm)
instance instPanicBody (fn : Func) (R : Ending → World → Prop) : PanicOK (bodyQ P fn R) := ⟨fun c a d v w h => h⟩
instance instPanicThen (K : Act → World → Prop) (Q : Exit → Act → World → Prop) [h : PanicOK Q] : PanicOK (Exit.then K Q) := ⟨fun c a d v w hq => h.ok c a d v w hq⟩
instance instPanicBlock (id : Nat) (Q : Exit → Act → World → Prop) [h : PanicOK Q] : PanicOK (Exit.inBlock id Q) := ⟨fun c a d v w hq => h.ok c a d v w hq⟩
instance instPanicLoop (N0 : σ → Nd) (T0 : σ → Tm) (I : σ → World → Prop) (lt : Nat) (μ : σ → World → Nat) (Q : Exit → Act → World → Prop) [h : PanicOK Q] : PanicOK (loopQ N0 T0 I lt μ Q) :=
  ⟨fun c a d v w hq => h.ok c a d v w hq⟩
section
variable {o : Oper} {T : Tm} {K : Act → World → Prop} {S : World → Prop} {d : Nat}
theorem OY.run {m : M α} (v : Value) (hv : ∀ a w, Agrees n a T → (execOp a.eval o).run P w = .ok (.value v) w) (hn : o.dst = some d) (hb : Nat.blt d n.n = true)
    (h : KT n Qf ((d, v) :: T) m K) : OY P n S Qf o T m K := fun a w hA hm =>
  ⟨v, fun w' _ => hv a w' hA, by rw [hn]; exact h _ w (hA.put hb v) hm⟩
theorem eqGuard_int (op : BinOp) (t : TypeId) (x y : Operand) (k k' : IntKind) (u v : Int) (w : World) : (eqGuard op t x y (.int k u) (.int k' v)).run P w = .ok () w := by
  unfold eqGuard; cases op <;> simp
theorem OY.quo {m : M α} {x y : Int} {k : IntKind} (t : TypeId) (xo yo : Operand) (t2 : TypeId) (r : Int) (hr : r = k.wrap (x.tdiv y)) (ho : o.op = .binOp .quo t xo yo t2) (hx : ev T xo = some (.int k x)) (hy : ev T yo = some (.int k y))
    (hn : o.dst = some d) (hb : Nat.blt d n.n = true) (h : KT n Qf ((d, .int k r) :: T) m K) : OY P n S Qf o T (assertM (y ≠ 0) m) K := OY.assert fun hne => OY.run _ (fun a w hA => by
  subst hr
  unfold execOp
  rw [ho]
  simp [hA.ev hx, hA.ev hy, eqGuard_int, binOp, Op.intDiv, hne]) hn hb h
theorem OY.rem {m : M α} {x y : Int} {k : IntKind} (t : TypeId) (xo yo : Operand) (t2 : TypeId) (r : Int) (hr : r = x.tmod y) (ho : o.op = .binOp .rem t xo yo t2) (hx : ev T xo = some (.int k x)) (hy : ev T yo = some (.int k y))
    (hn : o.dst = some d) (hb : Nat.blt d n.n = true) (h : KT n Qf ((d, .int k r) :: T) m K) : OY P n S Qf o T (assertM (y ≠ 0) m) K := OY.assert fun hne => OY.run _ (fun a w hA => by
  subst hr
  unfold execOp
  rw [ho]
  simp [hA.ev hx, hA.ev hy, eqGuard_int, binOp, Op.intDiv, hne]) hn hb h
theorem OY.shl {m : M α} {x y : Int} {k k' : IntKind} (t : TypeId) (xo yo : Operand) (t2 : TypeId) (r : Int) (hr : r = bShl k x y) (ho : o.op = .binOp .shl t xo yo t2) (hx : ev T xo = some (.int k x)) (hy : ev T yo = some (.int k' y))
    (hn : o.dst = some d) (hb : Nat.blt d n.n = true) (h : KT n Qf ((d, .int k r) :: T) m K) : OY P n S Qf o T (assertM (0 ≤ y) m) K := OY.assert fun hne => OY.run _ (fun a w hA => by
  subst hr
  have hne' : ¬ y < 0 := by omega
  unfold execOp
  rw [ho]
  simp [hA.ev hx, hA.ev hy, eqGuard_int, binOp, Op.shift, hne', bShl]) hn hb h
theorem OY.shr {m : M α} {x y : Int} {k k' : IntKind} (t : TypeId) (xo yo : Operand) (t2 : TypeId) (r : Int) (hr : r = bShr k x y) (ho : o.op = .binOp .shr t xo yo t2) (hx : ev T xo = some (.int k x)) (hy : ev T yo = some (.int k' y))
    (hn : o.dst = some d) (hb : Nat.blt d n.n = true) (h : KT n Qf ((d, .int k r) :: T) m K) : OY P n S Qf o T (assertM (0 ≤ y) m) K := OY.assert fun hne => OY.run _ (fun a w hA => by
  subst hr
  have hne' : ¬ y < 0 := by omega
  unfold execOp
  rw [ho]
  simp [hA.ev hx, hA.ev hy, eqGuard_int, binOp, Op.shift, hne', bShr]) hn hb h
def aggT (P : Program) (t : TypeId) : Bool := match P.underlying t with | some (.struct _) | some (.array _ _) => true | _ => false
theorem run_isAgg_agg {t : TypeId} (h : aggT P t = true) (w : World) : (isAgg t).run P w = .ok true w := by
  unfold aggT at h
  unfold isAgg underlying
  simp only [Sem.run_bind, run_program, Result.andThen_ok]
  cases hu : P.underlying t with
  | none => rw [hu] at h; cases h
  | some x => rw [hu] at h; cases x <;> simp_all
theorem run_loadVar_agg {t : TypeId} {N : Nat} (ha : aggT P t = true) (hs : (P.info? t).map (·.size) = some N) (ad : Addr) (cs : List Value) (hl : cs.length = N) (w : World)
    (h : ∀ j v, cs[j]? = some v → w.cell? (ad.add j) = some v) : (loadVar t ad).run P w = .ok (.agg cs.toArray) w := by
  subst hl
  simp only [loadVar, Sem.run_bind, run_isAgg_agg ha, Result.andThen_ok, if_true, run_sizeOf hs, run_loadCells_list w ad cs h, Sem.run_pure]
theorem OW.ldA {k : β → M α} {enc : β → List Value} {ad : Addr} (N : Nat) (t : TypeId) (x : Operand) (ho : o.op = .load t x) (hx : ev T x = some (.pointer (some ad))) (ha : aggT P t = true)
    (hs : (P.info? t).map (·.size) = some N) (hl : ∀ y, (enc y).length = N) (hn : o.dst = some d) (hb : Nat.blt d n.n = true) (h : ∀ y, KT n Qf ((d, .agg (enc y).toArray) :: T) (k y) K) :
    OW rd P Q n Qf o T (bindM (Mo.ldA enc ad) k) K := fun a w hA hm => by
  obtain ⟨y, hc, hm⟩ := hm
  have : (execOp a.eval o).run P w = .ok (.value (.agg (enc y).toArray)) w := by
    unfold execOp
    rw [ho]
    simp [hA.ev hx, Instr.loadAt, Instr.sureAddr, run_loadVar_agg ha hs ad (enc y) (hl y) w hc]
  refine wpIn_value this ?_
  rw [hn]
  exact h y _ w (hA.put hb _) hm
theorem OY.ldAI {k : β → M α} {enc : β → List Value} {ad : Addr} (N : Nat) (t : TypeId) (x : Operand) (ho : o.op = .load t x) (hx : ev T x = some (.pointer (some ad))) (ha : aggT P t = true)
    (hs : (P.info? t).map (·.size) = some N) (hl : ∀ y, (enc y).length = N) (hn : o.dst = some d) (hb : Nat.blt d n.n = true) (h : ∀ y, KT n Qf ((d, .agg (enc y).toArray) :: T) (k y) K) :
    OY P n S Qf o T (bindM (Mo.ldAI S enc ad) k) K := fun a w hA hm => by
  obtain ⟨y, hc, hm⟩ := hm
  refine ⟨.agg (enc y).toArray, fun w' hw' => ?_, by rw [hn]; exact h y _ w (hA.put hb _) hm⟩
  unfold execOp
  rw [ho]
  simp [hA.ev hx, Instr.loadAt, Instr.sureAddr, run_loadVar_agg ha hs ad (enc y) (hl y) w' (hc w' hw')]
theorem run_storeCells_row (a : Addr) (vs : List Value) : ∀ (i : Nat) (w : World), storable w a i vs → (storeCells a vs i).run P w = .ok () (storeRow w a i vs) := by
  induction vs with
  | nil => intro i w _; simp [storeCells, storeRow]
  | cons v r ih =>
    intro i w h
    obtain ⟨h1, ⟨u, h2⟩, h3, h4⟩ := h
    have hst := run_store P w (a.add i) v .plain h1
    rw [h2] at hst
    simp only [h3, Bool.false_eq_true, if_false] at hst
    simp only [storeCells, Sem.run_bind, hst, Result.andThen_ok, storeRow]
    exact ih _ _ h4
theorem OW.stA {k : Unit → M α} {ad : Addr} {vs : List Value} {N : Nat} (t : TypeId) (x y : Operand) (ho : o.op = .store t x y) (hx : ev T x = some (.pointer (some ad))) (hy : ev T y = some (.agg vs.toArray))
    (hl : vs.length = N) (hn : o.dst = none) (ht : (P.info? t).map (·.size) = some N) (h : KT n Qf T (k ()) K) : OW rd P Q n Qf o T (bindM (Mo.stA ad vs) k) K := fun a w hA hm => by
  obtain ⟨hst, hm⟩ := hm
  subst hl
  have : (execOp a.eval o).run P w = .ok .skip (storeRow w ad 0 vs) := by
    unfold execOp
    rw [ho]
    simp [hA.ev hx, hA.ev hy, Instr.storeAt, Instr.sureAddr, storeVar, run_sizeOf ht, Value.cells, run_storeCells_row ad vs 0 w hst]
  refine wpIn_run (fun c e => by rw [ho] at e; cases e) ?_
  rw [this, Oper.uponIn_skip, hn]
  exact h _ _ hA hm
theorem KT.pv {os : List Oper} {m : M α} (d : Nat) (v : Value) (h : KT n Qf ((d, v) :: T) m (WL rd P ops Q os)) (hw : wantedB ops T o = some true := by kernel_rfl) (hd : defined T o = true := by kernel_rfl)
    (hv : ∀ w, (execOp (rho T) o).run P w = .ok (.value v) w := by intro _; kernel_rfl) (hn : o.dst = some d := by rfl) (hb : Nat.blt d n.n = true := by rfl) : KT n Qf T m (WL rd P ops Q (o :: os)) :=
  KT.oy hw (OY.pv v hd hv hn hb h)
theorem KT.nm {os : List Oper} {k : Addr → M α} {p : Option Addr} {x : Operand} (d : Nat) (h : ∀ ad, KT n Qf ((d, .pointer (some ad)) :: T) (k ad) (WL rd P ops Q os)) (hw : wantedB ops T o = some true := by kernel_rfl)
    (ho : o.op = .nilCheck x := by rfl) (hx : ev T x = some (.pointer p) := by rfl) (hn : o.dst = some d := by rfl) (hb : Nat.blt d n.n = true := by rfl) : KT n Qf T (bindM (nilM p) k) (WL rd P ops Q (o :: os)) :=
  KT.oy hw (OY.nil x ho hx hn hb h)
theorem KT.l {os : List Oper} {k : β → M α} {enc : β → Value} {ad : Addr} {t : TypeId} {x : Operand} (d : Nat) (h : ∀ y, KT n Qf ((d, enc y) :: T) (k y) (WL rd P ops Q os)) (hw : wantedB ops T o = some true := by kernel_rfl)
    (ho : o.op = .load t x := by rfl) (hx : ev T x = some (.pointer (some ad)) := by rfl) (ht : plainT P t = true := by kernel_rfl) (hn : o.dst = some d := by rfl) (hb : Nat.blt d n.n = true := by rfl) :
    KT n Qf T (bindM (ld enc ad) k) (WL rd P ops Q (o :: os)) := KT.ow hw (OW.ld t x ho hx ht hn hb h)
theorem KT.s {os : List Oper} {k : Unit → M α} {ad : Addr} {v : Value} {t : TypeId} {x y : Operand} (h : KT n Qf T (k ()) (WL rd P ops Q os)) (hw : wantedB ops T o = some true := by kernel_rfl)
    (ho : o.op = .store t x y := by rfl) (hx : ev T x = some (.pointer (some ad)) := by rfl) (hy : ev T y = some v := by rfl) (hv : v.oneCell' = true := by rfl) (ht : (P.info? t).map (·.size) = some 1 := by kernel_rfl) (hn : o.dst = none := by rfl) :
    KT n Qf T (bindM (st ad v) k) (WL rd P ops Q (o :: os)) := KT.ow hw (OW.st t x y ho hx hy hv ht hn h)
theorem KT.nw {os : List Oper} {k : Addr → M α} {cs : List Value} (d : Nat) (vf : Addr → Value) (elem : TypeId) (h : ∀ ad, KT n Qf ((d, vf ad) :: T) (k ad) (WL rd P ops Q os)) (hw : wantedB ops T o = some true := by kernel_rfl)
    (hd : defined T o = true := by kernel_rfl) (he : ∀ w, (execOp (rho T) o).run P w = .ok (.value (vf ⟨w.heap.size, 0, none⟩)) (World.allocC w cs.toArray elem) := by intro _; kernel_rfl) (hn : o.dst = some d := by rfl) (hb : Nat.blt d n.n = true := by rfl) :
    KT n Qf T (bindM (allocM cs) k) (WL rd P ops Q (o :: os)) := KT.ow hw (OW.new cs vf elem hd he hn hb h)
theorem KT.cl {os : List Oper} {k : β → M α} {callee : M β} (enc : β → Value) (d f : Nat) (vs : Array Value) (hc : ∀ (Qf' : β → World → Prop) (w : World), callee Qf' w → Calls P f vs w (RetPost enc Qf'))
    (h : ∀ y, KT n Qf ((d, enc y) :: T) (k y) (WL rd P ops Q os)) (hw : wantedB ops T o = some true := by kernel_rfl) (hd : defined T o = true := by kernel_rfl) (he : ∀ w, (execOp (rho T) o).run P w = .ok (.enter f vs) w := by intro _; kernel_rfl)
    (hn : o.dst = some d := by rfl) (hb : Nat.blt d n.n = true := by rfl) : KT n Qf T (bindM callee k) (WL rd P ops Q (o :: os)) := KT.ow hw (OW.call f vs hd he hc hn hb h)
section
variable {F : Nat → Bool} {fuel : Nat} {listed : Array Bool}
end
end
end
end Go.Mo
namespace Go.Mo
set_option linter.unusedSimpArgs false
section
variable {rd : Option Nat} {P : Program} {n : Nd} {Q : Exit → Act → World → Prop} {α β σ : Type} {Qf : α → World → Prop} {ops : Array Oper}
variable {o : Oper} {T : Tm} {K : Act → World → Prop} {S : World → Prop} {d : Nat}
theorem getElem!_arr (a : Array Value) (i : Nat) (h : i < a.size) : a[i]! = a.toList.getD i undef := by
  rw [getElem!_pos a i h]
  simp [List.getD, h]
theorem zs_eq (z : Array Value) (m : Nat) : ((Array.range (m * z.size)).map fun i => z[i % z.size]!) = (zs z.toList m).toArray := by
  apply Array.ext'
  simp only [zs, Array.toList_map, Array.toList_range, Array.length_toList]
  apply List.map_congr_left
  intro i hi
  have h0 : 0 < z.size := by
    rcases Nat.eq_zero_or_pos z.size with h | h
    · rw [h] at hi; simp at hi
    · exact h
  exact getElem!_arr z _ (Nat.mod_lt _ h0)
theorem wrap_i64 {x : Int} (h0 : -9223372036854775808 ≤ x) (h1 : x ≤ 9223372036854775807) : IntKind.i64.wrap x = x := by
  have e : IntKind.i64.wrap x = if x % 18446744073709551616 ≥ 9223372036854775808 then x % 18446744073709551616 - 18446744073709551616 else x % 18446744073709551616 := by
    simp [IntKind.wrap, IntKind.bits, IntKind.signed]
  rw [e]
  split <;> omega
theorem run_under {t : TypeId} {x : TypeDesc} (h : P.underlying t = some x) (w : World) : (underlying t).run P w = .ok x w := by simp [underlying, h]
theorem OW.make {k : Slc → M α} {nn : Int} {kn : IntKind} (z : List Value) (bytes : Nat) (elem : TypeId) (t : TypeId) (xl xc : Operand) (ho : o.op = .makeSlice t xl xc) (hl : ev T xl = some (.int kn nn)) (hc : ev T xc = some (.int kn nn))
    (ht : P.underlying t = some (.slice elem)) (hz : (P.info? elem).map (fun i => (i.zero.map (·.cells.toList), i.size, i.bytes)) = some (some z, z.length, bytes)) (hb0 : Nat.blt 0 bytes = true)
    (hn : o.dst = some d) (hb : Nat.blt d n.n = true) (h : ∀ s, KT n Qf ((d, vS s) :: T) (k s) K) : OW rd P Q n Qf o T (bindM (makeM z bytes nn) k) K := fun a w hA hm => by
  obtain ⟨h0, h1, hm⟩ := hm
  have hm := hm elem
  have hbp : 0 < bytes := by simpa using hb0
  have hle : nn ≤ 2 ^ 48 := by
    have : (1 : Int) * nn ≤ bytes * nn := Int.mul_le_mul_of_nonneg_right (by omega) h0
    omega
  obtain ⟨i, hi, hzz⟩ := Option.map_eq_some_iff.1 hz
  simp only [Prod.mk.injEq] at hzz
  obtain ⟨hz1, hz2, hz3⟩ := hzz
  obtain ⟨zv, hzv, hzc⟩ := Option.map_eq_some_iff.1 hz1
  have : (execOp a.eval o).run P w = .ok (.value (.slice (some ⟨w.heap.size, 0, none⟩) nn.toNat nn.toNat)) (World.allocC w (zs z nn.toNat).toArray elem) := by
    unfold execOp
    rw [ho]
    have hw : IntKind.i64.wrap nn = nn := wrap_i64 (by omega) (by omega)
    have ht1 : (nn < 0 || decide ((bytes : Int) * nn > 2 ^ 48)) = false := by
      simp only [Bool.or_eq_false_iff, decide_eq_false_iff_not]; omega
    have hcells : ((Array.range (nn.toNat * i.size)).map fun j => zv.cells[j % zv.cells.size]!) = (zs z nn.toNat).toArray := by
      have := zs_eq zv.cells nn.toNat
      rw [hzc] at this
      have hsz : zv.cells.size = i.size := by rw [hz2, ← hzc]; simp
      rw [← hsz]; exact this
    have hti : ∀ w', (typeInfo elem).run P w' = .ok i w' := fun w' => by simp [typeInfo, hi]
    simp only [hA.ev hl, hA.ev hc, Instr.makeSlice, run_under ht, Sem.run_bind, Result.andThen_ok, Sem.run_pure, asInt, asIntOf, hti, hz3, hw, sizeOf, ht1, Bool.false_or]
    rw [if_neg (by simp; omega)]
    simp only [Sem.run_pure, Result.andThen_ok, run_askRoom, Sem.run_bind, hti]
    by_cases hn0 : nn.toNat * i.size = 0
    · have hzn : (zs z nn.toNat) = [] := by
        have : nn.toNat * z.length = 0 := by rw [← hz2]; exact hn0
        simp [zs, this]
      have hr0 : Array.range 0 = #[] := rfl
      simp [hn0, newRow, World.allocC, hzn, hr0]
    · have hzr : (zeroValue elem).run P w = .ok zv w := by simp [zeroValue, typeInfo, hi, hzv]
      simp only [hn0, if_false, Sem.run_bind, hzr, Result.andThen_ok, Sem.run_pure, newRow, run_newObj, hcells, World.allocC]
  refine wpIn_value this ?_
  rw [hn]
  exact h _ _ _ (hA.put hb _) hm
theorem run_firstCells {w : World} {base : Option Addr} {l : List Value} {size m cap len : Nat} (hc : cellsAt w base l) (hl : base.isSome = true → l.length = m * size) :
    (Builtin.firstCells size m (.slice base len cap)).run P w = .ok l.toArray w := by
  cases base with
  | none => have : l = [] := hc; subst this; simp [Builtin.firstCells]
  | some a =>
    have := hl rfl
    simp only [Builtin.firstCells]
    rw [← this]
    exact run_loadCells_list w a l hc
theorem builtin_exec {ρ : Operand → Value} {o : Oper} {b : Builtin} {args : Array Operand} {tys : Array TypeId} (ho : o.op = .call ⟨.builtin b, args, tys⟩) (w : World) :
    (execOp ρ o).run P w = (Go.builtin b tys o.type (args.map fun | .const _ => true | _ => false) (args.map ρ)).run P w := by
  unfold execOp
  rw [ho]
  simp [resolve, invoke]
  rfl
theorem OW.append {k : Slc → M α} {s x : Slc} (z : List Value) (bytes : Nat) (elem : TypeId) (t t' : TypeId) (xs xx : Operand) (ho : o.op = .call ⟨.builtin .append, #[xs, xx], #[t, t']⟩) (hs : ev T xs = some (.slice s.base s.len s.cap)) (hx : ev T xx = some (.slice x.base x.len x.cap))
    (hty : t' = t) (ht : P.underlying t = some (.slice elem)) (hz : (P.info? elem).map (fun i => (i.zero.map (·.cells.toList), i.size, i.bytes)) = some (some z, z.length, bytes)) (hb0 : Nat.blt 0 bytes = true)
    (hn : o.dst = some d) (hb : Nat.blt d n.n = true) (h : ∀ s, KT n Qf ((d, vS s) :: T) (k s) K) : OW rd P Q n Qf o T (bindM (appendM z bytes s x) k) K := fun a w hA hm => by
  obtain ⟨new, hnew, hnl, hm⟩ := hm
  subst hty
  have hbp : 0 < bytes := by simpa using hb0
  obtain ⟨i, hi, hzz⟩ := Option.map_eq_some_iff.1 hz
  simp only [Prod.mk.injEq] at hzz
  obtain ⟨hz1, hz2, hz3⟩ := hzz
  obtain ⟨zv, hzv, hzc⟩ := Option.map_eq_some_iff.1 hz1
  have hsz : zv.cells.size = z.length := by rw [← hzc]; simp
  have hnew' : ∀ w' : World, w'.heap = w.heap → (Builtin.firstCells z.length x.len (.slice x.base x.len x.cap)).run P w' = .ok new.toArray w' := fun w' hw' => by
    refine run_firstCells ?_ hnl
    unfold cellsAt at hnew ⊢
    cases hb : x.base with
    | none => rw [hb] at hnew; exact hnew
    | some b => rw [hb] at hnew; intro j v hj; have := hnew j v hj; simpa [World.cell?, hw'] using this
  have hrun : ∀ (R : Result Next → Prop), (R ((Go.builtin .append #[t', t'] o.type (#[xs, xx].map fun | .const _ => true | _ => false) #[.slice s.base s.len s.cap, .slice x.base x.len x.cap]).run P w)) → R ((execOp a.eval o).run P w) := fun R hR => by
    rw [builtin_exec ho]
    simpa [hA.ev hs, hA.ev hx] using hR
  refine wpIn_run (fun c e => by rw [ho] at e; cases e) ?_
  refine hrun _ ?_
  have hsize : (P.info? elem).map (·.size) = some z.length := by rw [hi]; simp [hz2]
  simp only [Go.builtin, Builtin.append_, Sem.run_bind, List.getElem?_toArray, List.getElem?_cons_zero, List.getElem?_cons_succ, run_under ht, Sem.run_pure, Result.andThen_ok, run_sizeOf hsize, Builtin.lenOf,
    Bool.false_eq_true, if_false]
  by_cases hle : s.len + x.len ≤ s.cap
  · rw [if_pos hle] at hm
    rw [if_pos hle]
    simp only [Bool.not_false, if_true, Sem.run_bind, hnew' w rfl, Result.andThen_ok]
    cases hbase : s.base with
    | none =>
      rw [hbase] at hm
      simp only [Sem.run_pure, Result.andThen_ok, Oper.uponIn_value]
      rw [hn]
      exact h ⟨none, s.len + x.len, s.cap⟩ _ _ (hA.put hb _) hm
    | some b =>
      rw [hbase] at hm
      obtain ⟨hst, hm⟩ := hm
      simp only [Sem.run_bind, run_storeCells_row _ new 0 w hst, Result.andThen_ok, Sem.run_pure, Oper.uponIn_value]
      rw [hn]
      exact h ⟨some b, s.len + x.len, s.cap⟩ _ _ (hA.put hb _) hm
  · rw [if_neg hle] at hm
    rw [if_neg hle]
    obtain ⟨hcap, old, hold, hol, hm⟩ := hm
    have hold' : ∀ w' : World, w'.heap = w.heap → (Builtin.firstCells z.length s.len (.slice s.base s.len s.cap)).run P w' = .ok old.toArray w' := fun w' hw' => by
      refine run_firstCells ?_ hol
      unfold cellsAt at hold ⊢
      cases hb : s.base with
      | none => rw [hb] at hold; exact hold
      | some b => rw [hb] at hold; intro j v hj; have := hold j v hj; simpa [World.cell?, hw'] using this
    have hti : ∀ w', (typeInfo elem).run P w' = .ok i w' := fun w' => by simp [typeInfo, hi]
    have hzr : ∀ w', (zeroValue elem).run P w' = .ok zv w' := fun w' => by simp [zeroValue, typeInfo, hi, hzv]
    simp only [Sem.run_bind, hti, Result.andThen_ok, hz3, Sem.run_ite, Sem.run_pure]
    rw [if_neg (by simp; omega)]
    rw [if_neg (by omega)]
    simp only [Result.andThen_ok, Sem.run_pure, run_choose, Question.forced, Bool.false_eq_true, if_false, Question.cut, run_askRoom, hold' (drawW w) rfl, hnew' (drawW w) rfl, Bool.not_false, if_true]
    have hd : ({ w with drawn := w.drawn + 1 } : World) = drawW w := rfl
    simp only [hd, hold' (drawW w) rfl, Result.andThen_ok, hnew' (drawW w) rfl, hzr]
    have hzz : ∀ m, Builtin.zeroCells zv.cells m = (zs z m).toArray := fun m => by
      have := zs_eq zv.cells m
      rw [hzc] at this
      exact this
    simp only [newRow, Sem.run_bind, run_newObj, Result.andThen_ok, Sem.run_pure, Oper.uponIn_value, hzz]
    rw [hn]
    generalize hnc : s.len + x.len + w.tape w.drawn (Question.appendCap (s.len + x.len) s.cap elem) % (2 ^ 63 - (s.len + x.len)) = nc
    have := hm nc elem (by omega)
    have hh := h ⟨some ⟨w.heap.size, 0, none⟩, s.len + x.len, nc⟩ _ _ (hA.put hb _) this
    simpa [World.allocC, drawW, vS] using hh
theorem OW.copy {k : Int → M α} {s x : Slc} (size : Nat) (elem : TypeId) (t t' : TypeId) (xs xx : Operand) (ho : o.op = .call ⟨.builtin .copy, #[xs, xx], #[t, t']⟩) (hs : ev T xs = some (.slice s.base s.len s.cap)) (hx : ev T xx = some (.slice x.base x.len x.cap))
    (hty : t' = t) (ht : P.underlying t = some (.slice elem)) (hz : (P.info? elem).map (·.size) = some size)
    (hn : o.dst = some d) (hb : Nat.blt d n.n = true) (h : ∀ y, KT n Qf ((d, .int .i64 y) :: T) (k y) K) : OW rd P Q n Qf o T (bindM (copyM size s x) k) K := fun a w hA hm => by
  obtain ⟨new, hnew, hnl, hm⟩ := hm
  subst hty
  have hrun : ∀ (R : Result Next → Prop), (R ((Go.builtin .copy #[t', t'] o.type (#[xs, xx].map fun | .const _ => true | _ => false) #[.slice s.base s.len s.cap, .slice x.base x.len x.cap]).run P w)) → R ((execOp a.eval o).run P w) := fun R hR => by
    rw [builtin_exec ho]
    simpa [hA.ev hs, hA.ev hx] using hR
  refine wpIn_run (fun c e => by rw [ho] at e; cases e) ?_
  refine hrun _ ?_
  simp only [Go.builtin, Builtin.copy_, Sem.run_bind, List.getElem?_toArray, List.getElem?_cons_zero, List.getElem?_cons_succ, run_under ht, Sem.run_pure, Result.andThen_ok, run_sizeOf hz, Builtin.lenOf, run_firstCells hnew hnl]
  cases hbase : s.base with
  | none =>
    rw [hbase] at hm
    simp only [Sem.run_pure, Result.andThen_ok, Oper.uponIn_value]
    rw [hn]
    exact h _ _ _ (hA.put hb _) hm
  | some b =>
    rw [hbase] at hm
    obtain ⟨hst, hm⟩ := hm
    simp only [Sem.run_bind, run_storeCells_row _ new 0 w hst, Result.andThen_ok, Sem.run_pure, Oper.uponIn_value]
    rw [hn]
    exact h _ _ _ (hA.put hb _) hm
end
end Go.Mo
namespace Go.Mo
set_option linter.unusedSimpArgs false
set_option linter.unusedVariables false
def intKeys (es : List MapEntry) : Prop := ∀ e ∈ es, ∃ n, e.key = .int .i64 n
def keyIs (k : Int) (e : MapEntry) : Bool := match e.key with | .int _ n => k == n | _ => false
def mfind (es : List MapEntry) (k : Int) : Option Value := (es.find? (keyIs k)).map (·.val)
def mapPut (es : Array MapEntry) (clock : Nat) (k : Int) (v : Value) : Obj := match es.toList.findIdx? (keyIs k) with
  | some i => .map (es.modify i fun e => { e with key := .int .i64 k, val := v }) clock
  | none => .map (es.push { key := .int .i64 k, val := v, born := clock }) (clock + 1)
def World.pushO (w : World) (o : Obj) : World := { w with heap := w.heap.push o }
def newO (o : Obj) : M Nat := fun Q w => Q w.heap.size (World.pushO w o)
def lookM {β : Type} (enc : β → Value) (z : β) (m : Option Nat) (k : Int) : M (β × Bool) := fun Q w => match m with
  | none => Q (z, false) w
  | some r => ∃ es clock, w.heap[r]? = some (.map es clock) ∧ intKeys es.toList ∧ ((∃ y, mfind es.toList k = some (enc y) ∧ Q (y, true) w) ∨ (mfind es.toList k = none ∧ Q (z, false) w))
def updM (m : Option Nat) (k : Int) (v : Value) : M Unit := fun Q w => ∃ r es clock, m = some r ∧ w.heap[r]? = some (.map es clock) ∧ intKeys es.toList ∧ Q () (w.putObj r (mapPut es clock k v))
def clearM (m : Option Nat) : M Unit := fun Q w => match m with
  | none => Q () w
  | some r => ∃ es clock, w.heap[r]? = some (.map es clock) ∧ Q () (w.putObj r (.map #[] clock))
def rangeMapM (m : Option Nat) : M Addr := fun Q w => match m with
  | none => Q ⟨w.heap.size, 0, none⟩ (World.pushO w (.mapIter none 0 #[] 0))
  | some r => ∃ es clock, w.heap[r]? = some (.map es clock) ∧ Q ⟨w.heap.size, 0, none⟩ (World.pushO w (.mapIter (some r) clock #[] clock))
def iterLeft (es : Array MapEntry) (seen : Array Nat) : Array MapEntry := es.filter fun e => !seen.contains e.born
def iterCands (es : Array MapEntry) (since : Nat) (seen : Array Nat) : Array (Option MapEntry) :=
  let left := iterLeft es seen
  let old := left.filter (·.born < since)
  let new := left.filter (·.born ≥ since)
  (if old.isEmpty then #[none] else #[]) ++ (old ++ new).map some
def nextPost (Q : Option (Value × Value) → World → Prop) (it m since : Nat) (seen : Array Nat) (clock : Nat) (w : World) : Option MapEntry → Prop
  | none => Q none w
  | some e => Q (some (e.key, e.val)) (w.putObj it (.mapIter (some m) since (seen.push e.born) clock))
def nextM (a : Addr) : M (Option (Value × Value)) := fun Q w => a.off = 0 ∧
  ((∃ since seen last, w.heap[a.block]? = some (.mapIter none since seen last) ∧ Q none w) ∨
   ∃ m since seen last es clock, w.heap[a.block]? = some (.mapIter (some m) since seen last) ∧ w.heap[m]? = some (.map es clock) ∧ (!seen.isEmpty && !es.isEmpty && es.all (·.born ≥ last)) = false ∧
     (iterCands es since seen).size ≠ 0 ∧ ∀ c ∈ iterCands es since seen, nextPost Q a.block m since seen clock w c ∧ nextPost Q a.block m since seen clock (drawW w) c)
def nextV : Option (Value × Value) → Value
  | none => .tuple #[.bool false]
  | some (k, v) => .tuple #[.bool true, k, v]
def entryM {κ β : Type} (ek : κ → Value) (ev : β → Value) (a : Addr) : M (κ × β) := fun Q w => a.off = 0 ∧
  ∃ m since seen last es clock stamp e k v, w.heap[a.block]? = some (.mapIter (some m) since seen last) ∧ seen.back? = some stamp ∧ w.heap[m]? = some (.map es clock) ∧ clock = last ∧ es.find? (·.born == stamp) = some e ∧
    e.key = ek k ∧ e.val = ev v ∧ Q (k, v) w
section
variable {rd : Option Nat} {P : Program} {n : Nd} {Q : Exit → Act → World → Prop} {α β σ : Type} {Qf : α → World → Prop} {ops : Array Oper}
variable {o : Oper} {T : Tm} {K : Act → World → Prop} {S : World → Prop} {d : Nat}
theorem findNow_int {t : TypeDesc} {ki : IntKind} (ht : t = .int ki) (k : Int) : ∀ (es : List MapEntry) (i : Nat), intKeys es →
    Instr.findNow t (.int .i64 k) es i = some (match es.findIdx? (keyIs k) with | some j => (es[j]?).map fun e => (i + j, e.val) | none => none) := by
  subst ht
  intro es
  induction es with
  | nil => intro i _; rfl
  | cons e es ih =>
    intro i h
    obtain ⟨m, hm⟩ := h e (by simp)
    have ih' := ih (i + 1) (fun e he => h e (by simp [he]))
    simp only [Instr.findNow, hm, Instr.sameNow, if_true, List.findIdx?_cons, keyIs]
    by_cases hk : k = m
    · subst hk; simp
    · have : (k == m) = false := by simpa using hk
      simp only [this, Bool.false_eq_true, if_false]
      rw [ih']
      congr 1
      cases hf : List.findIdx? (keyIs k) es with
      | none => simp
      | some j => simp [Nat.add_assoc, Nat.add_comm 1 j]
theorem mfind_idx (k : Int) (es : List MapEntry) : mfind es k = (match es.findIdx? (keyIs k) with | some j => (es[j]?).map (·.val) | none => none) := by
  unfold mfind
  induction es with
  | nil => rfl
  | cons e es ih =>
    simp only [List.find?_cons, List.findIdx?_cons]
    cases keyIs k e with
    | true => simp
    | false =>
      rw [ih]
      cases hf : List.findIdx? (keyIs k) es <;> simp [hf]
theorem run_checkKey_int {t : TypeId} {ki : IntKind} (ht : P.underlying t = some (.int ki)) (e : Bool) (k : Int) (w : World) : (Instr.checkKey e 10000 t (.int .i64 k)).run P w = .ok () w := by
  have : ∀ m : Nat, (Instr.checkKey e (m + 1) t (.int .i64 k)).run P w = .ok () w := fun m => by simp [Instr.checkKey, run_under ht]
  exact this 9999
theorem run_findKey_int {t : TypeId} {ki : IntKind} (ht : P.underlying t = some (.int ki)) (k : Int) (es : List MapEntry) (h : intKeys es) (w : World) :
    (Instr.findKey t (.int .i64 k) es).run P w = .ok (match es.findIdx? (keyIs k) with | some j => (es[j]?).map fun e => (j, e.val) | none => none) w := by
  simp only [Instr.findKey, Sem.run_bind, run_under ht, Result.andThen_ok, findNow_int rfl k es 0 h, Sem.run_pure]
  cases List.findIdx? (keyIs k) es <;> first | rfl | simp
theorem run_getObj {r : Nat} {ob : Obj} {w : World} (h : w.heap[r]? = some ob) (hc : ∀ c e f, ob ≠ .cells c e f) : (getObj r).run P w = .ok ob w := by
  unfold getObj
  rw [Sem.run, h]
  cases ob <;> first | rfl | exact absurd rfl (hc _ _ _)
theorem run_setObj {r : Nat} {ob ob' : Obj} {w : World} (h : w.heap[r]? = some ob) (hc : ∀ c e f, ob ≠ .cells c e f) : (setObj r ob').run P w = .ok () (w.putObj r ob') := by
  unfold setObj
  rw [Sem.run, h]
  cases ob <;> first | rfl | exact absurd rfl (hc _ _ _)
theorem OW.newO {k : Nat → M α} (ob : Obj) (vf : Nat → Value) (hd : defined T o = true) (he : ∀ w, (execOp (rho T) o).run P w = .ok (.value (vf w.heap.size)) (World.pushO w ob)) (hn : o.dst = some d) (hb : Nat.blt d n.n = true)
    (h : ∀ r, KT n Qf ((d, vf r) :: T) (k r) K) : OW rd P Q n Qf o T (bindM (Mo.newO ob) k) K := fun a w hA hm => by
  refine wpIn_value (by rw [exec_rho hA hd]; exact he w) ?_
  rw [hn]
  exact h _ _ _ (hA.put hb _) hm
theorem run_lookM {t : TypeId} {kt et : TypeId} {ki : IntKind} {enc : β → Value} {z : β} {m : Option Nat} {k : Int} (ok : Bool) (ht : P.underlying t = some (.map kt et)) (hk : P.underlying kt = some (.int ki))
    (hz : (P.info? et).bind (·.zero) = some (enc z)) {w : World} {Q' : β × Bool → World → Prop} (hm : lookM enc z m k Q' w) :
    ∃ y, Q' y w ∧ (Instr.lookup t (.map m) (.int .i64 k) ok).run P w = .ok (if ok then .tuple #[enc y.1, .bool y.2] else enc y.1) w := by
  obtain ⟨i, hi, hz⟩ := Option.bind_eq_some_iff.1 hz
  have hzr : (zeroValue et).run P w = .ok (enc z) w := by simp [zeroValue, typeInfo, hi, hz]
  cases m with
  | none =>
    refine ⟨(z, false), hm, ?_⟩
    simp only [Instr.lookup, Sem.run_bind, run_under ht, Result.andThen_ok, Sem.run_pure, run_checkKey_int hk, run_findKey_int hk k [] (fun e he => by cases he), List.findIdx?_nil, hzr]
  | some r =>
    obtain ⟨es, clock, hr, hik, hq⟩ := hm
    have hg := run_getObj (P := P) hr (by intros; simp)
    have hmf := mfind_idx k es.toList
    rcases hq with ⟨y, hy, hq⟩ | ⟨hno, hq⟩
    · refine ⟨(y, true), hq, ?_⟩
      simp only [Instr.lookup, Sem.run_bind, run_under ht, Result.andThen_ok, Sem.run_pure, hg, run_checkKey_int hk, run_findKey_int hk k es.toList hik]
      rw [hy] at hmf
      cases hf : List.findIdx? (keyIs k) es.toList with
      | none => rw [hf] at hmf; cases hmf
      | some j =>
        rw [hf] at hmf
        simp only at hmf ⊢
        cases he : es.toList[j]? with
        | none => rw [he] at hmf; cases hmf
        | some e =>
          rw [he] at hmf
          simp only [Option.map_some, Option.some.injEq] at hmf
          simp only [Option.map_some, Result.andThen_ok, Sem.run_pure, ← hmf]
          cases ok <;> simp
    · refine ⟨(z, false), hq, ?_⟩
      simp only [Instr.lookup, Sem.run_bind, run_under ht, Result.andThen_ok, Sem.run_pure, hg, run_checkKey_int hk, run_findKey_int hk k es.toList hik]
      rw [hno] at hmf
      cases hf : List.findIdx? (keyIs k) es.toList with
      | none =>
        simp only [Result.andThen_ok, Sem.run_pure, Sem.run_bind, hzr]
      | some j =>
        rw [hf] at hmf
        simp only at hmf ⊢
        cases he : es.toList[j]? with
        | none =>
          simp only [Option.map_none, Sem.run_bind, hzr, Result.andThen_ok, Sem.run_pure]
        | some e => rw [he] at hmf; cases hmf
theorem OW.look {k : β × Bool → M α} {enc : β → Value} {m : Option Nat} {key : Int} (z : β) (kt et : TypeId) (ki : IntKind) (t : TypeId) (x ix : Operand) (ho : o.op = .lookup t x ix false) (hx : ev T x = some (.map m)) (hi : ev T ix = some (.int .i64 key))
    (ht : P.underlying t = some (.map kt et)) (hk : P.underlying kt = some (.int ki)) (hz : (P.info? et).bind (·.zero) = some (enc z)) (hn : o.dst = some d) (hb : Nat.blt d n.n = true)
    (h : ∀ y, KT n Qf ((d, enc y.1) :: T) (k y) K) : OW rd P Q n Qf o T (bindM (lookM enc z m key) k) K := fun a w hA hm => by
  obtain ⟨y, hq, hr⟩ := run_lookM (P := P) false ht hk hz hm
  refine wpIn_value (w' := w) (v := enc y.1) ?_ ?_
  · unfold execOp
    rw [ho]
    simp [hA.ev hx, hA.ev hi, hr]
  · rw [hn]; exact h y _ w (hA.put hb _) hq
theorem OW.upd {k : Unit → M α} {m : Option Nat} {key : Int} {v : Value} (kt et : TypeId) (ki : IntKind) (t : TypeId) (x ix y : Operand) (ho : o.op = .mapUpdate t x ix y) (hx : ev T x = some (.map m)) (hi : ev T ix = some (.int .i64 key)) (hy : ev T y = some v)
    (ht : P.underlying t = some (.map kt et)) (hk : P.underlying kt = some (.int ki)) (hn : o.dst = none) (h : KT n Qf T (k ()) K) : OW rd P Q n Qf o T (bindM (updM m key v) k) K := fun a w hA hm => by
  obtain ⟨r, es, clock, rfl, hr, hik, hq⟩ := hm
  have hg := run_getObj (P := P) hr (by intros; simp)
  have hs : ∀ ob', (setObj r ob').run P w = .ok () (w.putObj r ob') := fun ob' => run_setObj hr (by intros; simp)
  have : (execOp a.eval o).run P w = .ok .skip (w.putObj r (mapPut es clock key v)) := by
    unfold execOp
    rw [ho]
    simp only [hA.ev hx, hA.ev hi, hA.ev hy, Instr.mapUpdate, Sem.run_bind, run_under ht, Result.andThen_ok, hg, run_checkKey_int hk, run_findKey_int hk key es.toList hik]
    unfold mapPut
    cases hf : List.findIdx? (keyIs key) es.toList with
    | none => simp [hs]
    | some j =>
      obtain ⟨hlt, hkey, _⟩ := List.findIdx?_eq_some_iff_getElem.1 hf
      have hlt' : j < es.size := by simpa using hlt
      have he : es.toList[j]? = some es[j] := by rw [List.getElem?_eq_getElem hlt]; simp
      obtain ⟨m, hm⟩ := hik es[j] (by simp)
      have hkm : key = m := by simpa [keyIs, hm] using hkey
      subst hkm
      have hks : (Instr.keyThatStays (((es[j]?).map (·.key)).getD (.int .i64 key)) (.int .i64 key)).run P w = .ok (.int .i64 key) w := by
        simp [Instr.keyThatStays, hlt', hm, Instr.sameBits]
      simp only [he, Option.map_some, Sem.run_bind, hks, Result.andThen_ok, hs, Sem.run_pure]
  refine wpIn_run (fun c e => by rw [ho] at e; cases e) ?_
  rw [this, Oper.uponIn_skip, hn]
  exact h _ _ hA hq
theorem OW.clearMap0 {k : Unit → M α} {m : Option Nat} (t : TypeId) (x : Operand) (kt et : TypeId) (ho : o.op = .call ⟨.builtin .clear, #[x], #[t]⟩) (hx : ev T x = some (.map m)) (ht : P.underlying t = some (.map kt et))
    (hn : o.dst = none) (h : KT n Qf T (k ()) K) : OW rd P Q n Qf o T (bindM (clearM m) k) K := fun a w hA hm => by
  have key : ∃ w', (execOp a.eval o).run P w = .ok (.value (.tuple #[])) w' ∧ k () Qf w' := by
    rw [builtin_exec ho]
    cases m with
    | none =>
      refine ⟨w, ?_, hm⟩
      simp [Go.builtin, Builtin.clear_, hA.ev hx, run_under ht]
    | some r =>
      obtain ⟨es, clock, hr, hq⟩ := hm
      have hg := run_getObj (P := P) hr (by intros; simp)
      have hs : ∀ ob', (setObj r ob').run P w = .ok () (w.putObj r ob') := fun ob' => run_setObj hr (by intros; simp)
      refine ⟨_, ?_, hq⟩
      simp [Go.builtin, Builtin.clear_, hA.ev hx, run_under ht, hg, hs]
  obtain ⟨w', h1, h2⟩ := key
  refine wpIn_value h1 ?_
  rw [hn]
  exact h _ _ hA h2
theorem OW.rangeMap {k : Addr → M α} {m : Option Nat} (t : TypeId) (x : Operand) (kt et : TypeId) (ho : o.op = .range t x) (hx : ev T x = some (.map m)) (ht : P.underlying t = some (.map kt et))
    (hn : o.dst = some d) (hb : Nat.blt d n.n = true) (h : ∀ ad, KT n Qf ((d, .pointer (some ad)) :: T) (k ad) K) : OW rd P Q n Qf o T (bindM (rangeMapM m) k) K := fun a w hA hm => by
  have key : ∃ w', (execOp a.eval o).run P w = .ok (.value (.pointer (some ⟨w.heap.size, 0, none⟩))) w' ∧ k ⟨w.heap.size, 0, none⟩ Qf w' := by
    unfold execOp
    rw [ho]
    cases m with
    | none =>
      refine ⟨_, ?_, hm⟩
      simp [Instr.range, hA.ev hx, run_under ht, World.pushO]
    | some r =>
      obtain ⟨es, clock, hr, hq⟩ := hm
      have hg := run_getObj (P := P) hr (by intros; simp)
      refine ⟨_, ?_, hq⟩
      simp [Instr.range, hA.ev hx, run_under ht, hg, World.pushO]
  obtain ⟨w', h1, h2⟩ := key
  refine wpIn_value h1 ?_
  rw [hn]
  exact h _ _ _ (hA.put hb _) h2
theorem OW.next {k : Option (Value × Value) → M α} {ad : Addr} (x : Operand) (ho : o.op = .next x false) (hx : ev T x = some (.pointer (some ad)))
    (hn : o.dst = some d) (hb : Nat.blt d n.n = true) (h : ∀ y, KT n Qf ((d, nextV y) :: T) (k y) K) : OW rd P Q n Qf o T (bindM (nextM ad) k) K := fun a w hA hm => by
  obtain ⟨h0, hm⟩ := hm
  have key : ∃ y w', (execOp a.eval o).run P w = .ok (.value (nextV y)) w' ∧ k y Qf w' := by
    unfold execOp
    rw [ho]
    obtain ⟨bl, off, spot⟩ := ad
    simp only at h0 hm
    subst h0
    rcases hm with ⟨since, seen, last, hit, hq⟩ | ⟨m, since, seen, last, es, clock, hit, hmm, hno, hne, hall⟩
    · refine ⟨none, w, ?_, hq⟩
      have hg := run_getObj (P := P) hit (by intros; simp)
      simp [Instr.next, hA.ev hx, hg, nextV]
    · have hg := run_getObj (P := P) hit (by intros; simp)
      have hg2 := run_getObj (P := P) hmm (by intros; simp)
      have hrun : ∃ c w', (choose (.mapNext (iterCands es since seen).size)).run P w = .ok c w' ∧ c < (iterCands es since seen).size ∧ (w' = w ∨ w' = drawW w) := by
        rw [run_choose]
        by_cases hf : (Question.mapNext (iterCands es since seen).size).forced = true
        · rw [if_pos hf]; exact ⟨0, w, rfl, by omega, .inl rfl⟩
        · rw [if_neg hf]; exact ⟨_, _, rfl, Nat.mod_lt _ (by omega), .inr rfl⟩
      obtain ⟨c, w', hc, hlt, hw'⟩ := hrun
      have hcand : (iterCands es since seen)[c]? = some (iterCands es since seen)[c] := Array.getElem?_eq_getElem hlt
      have hpost : nextPost (fun y w => k y Qf w) bl m since seen clock w' (iterCands es since seen)[c] := by
        have := hall _ (Array.getElem_mem hlt)
        rcases hw' with rfl | rfl
        · exact this.1
        · exact this.2
      have hit' : w'.heap[bl]? = some (.mapIter (some m) since seen last) := by rcases hw' with rfl | rfl <;> exact hit
      have hs : ∀ ob', (setObj bl ob').run P w' = .ok () (w'.putObj bl ob') := fun ob' => run_setObj hit' (by intros; simp)
      have e1 : (Instr.next (.pointer (some ⟨bl, 0, spot⟩)) false o.type).run P w = ((match (iterCands es since seen)[c]? with
          | some (some e) => do setObj bl (.mapIter (some m) since (seen.push e.born) clock); pure (.tuple #[.bool true, e.key, e.val])
          | some none => pure (.tuple #[.bool false])
          | none => stuck "Next: no such candidate" : Sem Value)).run P w' := by
        simp only [Instr.next, Sem.run_bind, hg, Result.andThen_ok, hg2]
        rw [if_neg (by rw [hno]; simp)]
        rw [Sem.run_bind]
        show ((choose (.mapNext (iterCands es since seen).size)).run P w).andThen _ = _
        rw [hc]
        rfl
      simp only [hA.ev hx, Sem.run_bind, e1, hcand]
      cases hce : (iterCands es since seen)[c] with
      | none =>
        rw [hce] at hpost
        exact ⟨none, w', by simp [nextV], hpost⟩
      | some e =>
        rw [hce] at hpost
        exact ⟨some (e.key, e.val), _, by simp [hs, nextV], hpost⟩
  obtain ⟨y, w', h1, h2⟩ := key
  refine wpIn_value h1 ?_
  rw [hn]
  exact h _ _ _ (hA.put hb _) h2
theorem OW.entry {κ : Type} {ek : κ → Value} {evv : β → Value} {k : κ × β → M α} {ad : Addr} (x : Operand) (ho : o.op = .entry x) (hx : ev T x = some (.pointer (some ad)))
    (hn : o.dst = some d) (hb : Nat.blt d n.n = true) (h : ∀ y, KT n Qf ((d, .tuple #[ek y.1, evv y.2]) :: T) (k y) K) : OW rd P Q n Qf o T (bindM (entryM ek evv ad) k) K := fun a w hA hm => by
  obtain ⟨h0, m, since, seen, last, es, clock, stamp, e, kk, v, hit, hst, hmm, hcl, he, hek, hev, hq⟩ := hm
  obtain ⟨bl, off, spot⟩ := ad
  simp only at h0 hit
  subst h0 hcl
  have hg := run_getObj (P := P) hit (by intros; simp)
  have hg2 := run_getObj (P := P) hmm (by intros; simp)
  refine wpIn_value (w' := w) (v := .tuple #[ek kk, evv v]) ?_ ?_
  · unfold execOp
    rw [ho]
    simp [Instr.entry, hA.ev hx, hg, hg2, hst, he, hek, hev]
  · rw [hn]
    exact h (kk, v) _ _ (hA.put hb _) hq
theorem KT.opt {m : M α} {m' : Value × Value → M α} {y : Option (Value × Value)} (t : Nat) (ht : lk T t = some (nextV y)) (h : KT n Qf ((t, .tuple #[.bool false]) :: T) m K) (h' : ∀ e, KT n Qf ((t, .tuple #[.bool true, e.1, e.2]) :: T) (m' e) K) :
    KT n Qf T (match y with | none => m | some e => m' e) K := by
  intro a w hA hm
  have key : Agrees n a ((t, nextV y) :: T) := by
    refine ⟨hA.size, hA.defers, fun i v hv => ?_⟩
    simp only [lk] at hv
    by_cases hi : i = t
    · subst hi
      simp only [Nat.beq_refl, cond_true, Option.some.injEq] at hv
      subst hv
      exact hA.look _ _ ht
    · simp only [beq_ff hi, cond_false] at hv
      exact hA.look i v hv
  cases y with
  | none => exact h a w key hm
  | some e => exact h' e a w key hm
def intField (P : Program) (f : Field) (off : Nat) : Bool := f.name != "_" && f.offset == off && (match P.underlying f.type with | some (.int _) => true | _ => false)
theorem run_part_int {f : Field} {off : Nat} (h : intField P f off = true) (cs : Array Value) (v : Value) (hv : cs[off]? = some v) (w : World) : (part f.type cs f.offset).run P w = .ok v w := by
  simp only [intField, Bool.and_eq_true, beq_iff_eq] at h
  have hp : plainT P f.type = true := by
    unfold plainT
    cases hu : P.underlying f.type with
    | none => rw [hu] at h; cases h.2
    | some x => rw [hu] at h; cases x <;> first | rfl | cases h.2
  simp [part, run_isAgg_plain hp, h.1.2, hv]
theorem intField_under {f : Field} {off : Nat} (h : intField P f off = true) : ∃ k, P.underlying f.type = some (.int k) := by
  simp only [intField, Bool.and_eq_true, beq_iff_eq] at h
  cases hu : P.underlying f.type with
  | none => rw [hu] at h; cases h.2
  | some x =>
    rw [hu] at h
    cases x <;> first | exact ⟨_, rfl⟩ | cases h.2
theorem intField_name {f : Field} {off : Nat} (h : intField P f off = true) : f.name ≠ "_" := by
  simp only [intField, Bool.and_eq_true, bne_iff_ne] at h; exact h.1.1
theorem run_eqField {f : Field} {off : Nat} (h : intField P f off = true) (m : Nat) (fs : List Field) (xs ys : Array Value) (a b : Int) (ha : xs[off]? = some (.int .i64 a)) (hb : ys[off]? = some (.int .i64 b)) (w : World) :
    (Op.eqFields (m + 1) xs ys (f :: fs)).run P w = if (a == b) = true then (Op.eqFields (m + 1) xs ys fs).run P w else .ok false w := by
  obtain ⟨k, hk⟩ := intField_under h
  simp only [Op.eqFields, intField_name h, ne_eq, not_false_eq_true, if_true, Sem.run_bind, run_part_int h xs _ ha, run_part_int h ys _ hb, Result.andThen_ok, run_equalIn_int w m f.type .i64 k a b hk]
  cases a == b <;> simp
def eq2 (x y : Int × Int) : Bool := x.1 == y.1 && x.2 == y.2
theorem run_eq2 {t : TypeId} {f0 f1 : Field} (ht : P.underlying t = some (.struct #[f0, f1])) (hst : P.stoodInHeld t = false) (h0 : intField P f0 0 = true) (h1 : intField P f1 1 = true)
    (x y : Int × Int) (w : World) : (Op.equal t (.agg #[.int .i64 x.1, .int .i64 x.2]) (.agg #[.int .i64 y.1, .int .i64 y.2])).run P w = .ok (eq2 x y) w := by
  have hf : P.fieldsOf t = #[f0, f1] := by simp [Program.fieldsOf, ht]
  show (Op.equalIn (9999 + 1) t _ _).run P w = _
  rw [run_equalIn_struct w 9999 t _ _ (by rw [hf]; exact ht) hst, hf]
  show (Op.eqFields (9998 + 1) _ _ [f0, f1]).run P w = _
  rw [run_eqField h0 9998 _ _ _ x.1 y.1 rfl rfl, run_eqField h1 9998 _ _ _ x.2 y.2 rfl rfl]
  unfold eq2
  cases x.1 == y.1 <;> cases x.2 == y.2 <;> simp [Op.eqFields]
def vB (l : List UInt8) : Value := .string ⟨l.toArray⟩
end
end Go.Mo
namespace Go.Mo
set_option linter.unusedSimpArgs false
set_option linter.unusedVariables false
def CallE (P : Program) (fv : Value) (args : Array Value) (w : World) (R : Ending → World → Prop) : Prop :=
  ∃ f ags w', (do let d ← Deferred.ofValue fv args; invoke d.target d.args : Sem Next).run P w = .ok (.enter f ags) w' ∧ Calls P f ags w' R
def CallR (P : Program) (fv : Value) (args : Array Value) (w : World) (R : Ending → World → Prop) : Prop :=
  ∃ l f tmps assign body w', (do let d ← Deferred.ofValue fv args; invoke d.target d.args : Sem Next).run P w = .ok (.round l f tmps assign body) w' ∧ RoundIn Fence.wide 0 P l f tmps assign body w' R
structure CV where
  call : Value → Array Value → M Value
  enter : Value → Array Value → M Value
def cvOf (P : Program) : CV where
  call := fun fv args Q w => CallE P fv args w (RetPost (fun v => v) Q) ∨ CallR P fv args w (RetPost (fun v => v) Q)
  enter := fun fv args Q w => CallE P fv args w (RetPost (fun v => v) Q)
def cvT {β : Type} (cv : CV) (enc : β → Value) (fv : Value) (args : Array Value) : M β := fun Q w => cv.call fv args (fun v w' => ∃ y, v = enc y ∧ Q y w') w
def yieldV (L : Nat) : Value := .func (.yield L) #[] #[]
inductive Jump where
  | ret
  | exit (id : Nat)
def Jump.code : Jump → Code
  | .ret => .ret
  | .exit id => .exit id
section
variable {ξ τ α : Type}
def roundPostM (mk : LoopState → Option Code → Obj) (L : Nat) (Q : Value → World → Prop) : Unit ⊕ Jump → World → Prop
  | .inl _, w => ∃ p, w.heap[L]? = some (mk .busy p) ∧ Q (.bool true) (w.putObj L (mk .ready none))
  | .inr j, w => ∃ p, w.heap[L]? = some (mk .busy p) ∧ Q (.bool false) (w.putObj L (mk .done (some j.code)))
def roundM (mk : LoopState → Option Code → Obj) (L : Nat) (asg : ξ → M τ) (body : τ → M (Unit ⊕ Jump)) (x : ξ) : M Value := fun Q w =>
  (∃ p, w.heap[L]? = some (mk .ready p)) ∧ asg x (fun t w0 => ∃ p, w0.heap[L]? = some (mk .ready p) ∧ body t (roundPostM mk L Q) (w0.putObj L (mk .busy p))) w
def rangeEnd (mk : LoopState → Option Code → Obj) (L : Nat) (kn kr : M α) (ke : Nat → M α) : M α := fun Q w =>
  ∃ st p, w.heap[L]? = some (mk st p) ∧ st ≠ .busy ∧ match p with
    | none => kn Q (w.putObj L (mk .exhausted none))
    | some c => ∃ j : Jump, c = j.code ∧ (match j with | .ret => kr Q (w.putObj L (mk .exhausted (some c))) | .exit id => ke id Q (w.putObj L (mk .exhausted (some c))))
def rangeFM (cv : CV) (fv : Value) (encX : ξ → Array Value) (asg : ξ → M τ) (body : τ → M (Unit ⊕ Jump)) (kn kr : Nat → M α) (ke : Nat → Nat → M α) : M α := fun Q w =>
  ∀ mk : LoopState → Option Code → Obj, (∀ st p cs e f, mk st p ≠ .cells cs e f) →
    (∀ (x : ξ) Q' w', roundM mk (w.heap.size + 1) asg body x Q' w' → cv.call (yieldV (w.heap.size + 1)) (encX x) Q' w') →
    cv.enter fv #[yieldV (w.heap.size + 1)] (fun _ w2 => rangeEnd mk (w.heap.size + 1) (kn w.heap.size) (kr w.heap.size) (ke w.heap.size) Q w2)
      (World.pushO (World.pushO w (.deferred (some []))) (mk .ready none))
end
section
variable {rd : Option Nat} {P : Program} {n : Nd} {Q : Exit → Act → World → Prop} {α β σ ξ τ : Type} {Qf : α → World → Prop} {ops : Array Oper}
variable {o : Oper} {T : Tm} {K : Act → World → Prop} {S : World → Prop} {d : Nat}
theorem call_exec {ρ : Operand → Value} {o : Oper} {x : Operand} {args : Array Operand} {tys : Array TypeId} (ho : o.op = .call ⟨.value x, args, tys⟩) :
    execOp ρ o = (do let d ← Deferred.ofValue (ρ x) (args.map ρ); invoke d.target d.args) := by
  unfold execOp
  rw [ho]
  rfl
theorem wp_callv {a : Act} {w : World} {x : Operand} {args : Array Operand} {tys : Array TypeId} {enc : β → Value} {fv : Value} {vs : Array Value} {K : Act → World → Prop} (ho : o.op = .call ⟨.value x, args, tys⟩)
    (hx : a.eval x = fv) (hv : args.map a.eval = vs) (Q' : β → World → Prop) (hm : cvT (cvOf P) enc fv vs Q' w) (hK : ∀ y w', Q' y w' → K (a.put o.dst (enc y)) w') : o.wpIn (FW rd) 0 P a w K Q := by
  have hend : ∀ (e : Ending) (w' : World), RetPost (fun v => v) (fun v w' => ∃ y, v = enc y ∧ Q' y w') e w' → ∃ y, e = .returned (enc y) ∧ Q' y w' := by
    intro e w' he
    cases e with
    | returned v => obtain ⟨v', rfl, y, rfl, hq⟩ := he; exact ⟨y, rfl, hq⟩
    | panicked c => exact he.elim
    | outgrown => exact he.elim
  refine wpIn_run (fun c e => by rw [ho] at e; cases e) ?_
  rw [call_exec ho, hx, hv]
  rcases hm with ⟨f, ags, w1, hr, hc⟩ | ⟨l, f, tmps, asg, body, w1, hr, hc⟩
  · rw [hr, Oper.uponIn_enter]
    refine ⟨fun h => by simp [Fence.wide] at h, (callsIn_FW rd hc).mono fun e w' he => ?_⟩
    obtain ⟨y, rfl, hq⟩ := hend e w' he
    exact hK y w' hq
  · rw [hr, Oper.uponIn_round]
    refine ⟨fun h => by simp [Fence.wide] at h, RoundIn.mono (F := FW rd) (n := 0) hc fun e w' he => ?_⟩
    obtain ⟨y, rfl, hq⟩ := hend e w' he
    exact hK y w' hq
theorem evs_of {a : Act} (hA : Agrees n a T) : ∀ (l : List Operand) (vs : List Value), l.map (ev T) = vs.map some → l.map a.eval = vs
  | [], [], _ => rfl
  | [], _ :: _, h => by cases h
  | _ :: _, [], h => by cases h
  | x :: l, v :: vs, h => by
    simp only [List.map_cons, List.cons.injEq] at h ⊢
    exact ⟨hA.ev h.1, evs_of hA l vs h.2⟩
theorem OW.callv {k : β → M α} {enc : β → Value} {fv : Value} {vs : List Value} (x : Operand) (args : List Operand) (tys : Array TypeId) (ho : o.op = .call ⟨.value x, args.toArray, tys⟩) (hx : ev T x = some fv) (hv : args.map (ev T) = vs.map some)
    (hn : o.dst = some d) (hb : Nat.blt d n.n = true) (h : ∀ y, KT n Qf ((d, enc y) :: T) (k y) K) : OW rd P Q n Qf o T (bindM (cvT (cvOf P) enc fv vs.toArray) k) K := fun a w hA hm =>
  wp_callv ho (hA.ev hx) (by simp [evs_of hA args vs hv]) _ hm fun y w' hq => by rw [hn]; exact h y _ w' (hA.put hb _) hq
def mkOf (r : Loop) (st : LoopState) (p : Option Code) : Obj := .loop { r with state := st, pending := p }
def roundQ (P : Program) (L : Nat) (Q' : Value → World → Prop) : Exit → Act → World → Prop := roundPost P L (RetPost (fun v => v) Q')
instance instPanicRound (L : Nat) (Q' : Value → World → Prop) : PanicOK (roundQ P L Q') := ⟨fun _ _ _ _ _ h => h⟩
theorem run_endRound {r : Loop} {L : Nat} {p : Option Code} {j : Option Code} {w : World} (h : w.heap[L]? = some (mkOf r .busy p)) :
    (Instr.endRound L j).run P w = .ok (.bool j.isNone) (w.putObj L (mkOf r (if j.isNone then .ready else .done) j)) := by
  have hg := run_getObj (P := P) h (by intros; simp [mkOf])
  have hs : ∀ ob', (setObj L ob').run P w = .ok () (w.putObj L ob') := fun ob' => run_setObj h (by intros; simp [mkOf])
  simp [Instr.endRound, Instr.getLoop, hg, mkOf, hs]
theorem SX.round_next {r : Loop} {L : Nat} {Q' : Value → World → Prop} {m : Nd} : SX m .normal (roundQ P L Q') (roundPostM (mkOf r) L Q') T (pureM (.inl ())) := fun a w _ hm => by
  obtain ⟨p, hp, hq⟩ := hm
  exact ⟨_, _, run_endRound hp, _, rfl, hq⟩
theorem SX.leafP {Q' : Exit → Act → World → Prop} {Qf' : τ → World → Prop} {t : τ} {T1 : τ → Tm} (h : ∀ t, SX n .normal Q' Qf' (T1 t) (pureM t)) (hs : Sub T (T1 t)) : SX n .normal Q' Qf' T (pureM t) :=
  fun a w hA hm => h t a w (hA.sub hs) hm
def pushT (T : Tm) : List (Nat × Value) → Tm
  | [] => T
  | p :: ps => pushT (p :: T) ps
theorem agrees_push {a : Act} : ∀ (ps : List (Nat × Value)) (T : Tm) (tmps : Array Value), Agrees ⟨n.n, []⟩ { tmps := tmps, defers := [] } T → (∀ p ∈ ps, p.1 < n.n) →
    Agrees ⟨n.n, []⟩ { tmps := ps.foldl (fun t p => t.setIfInBounds p.1 p.2) tmps, defers := [] } (pushT T ps)
  | [], T, tmps, h, _ => h
  | p :: ps, T, tmps, h, hp => by
    refine agrees_push (a := a) ps (p :: T) _ ?_ (fun q hq => hp q (by simp [hq]))
    have := h.put (d := p.1) (by simpa using hp p (by simp)) p.2
    simpa [Act.put] using this
theorem SC.rangeF {g : Operand} {ps : List Tmp} {assign body : Code} {fv : Value} {encX : ξ → List Value} {asg : ξ → M τ} {bd : τ → M (Unit ⊕ Jump)} {kn kr : Nat → M α} {ke : Nat → Nat → M α} (T1 : τ → Tm)
    (hg : ev T g = some fv) (hps : ∀ x, (encX x).length = ps.length) (hpn : ps.all (fun p => Nat.blt p n.n) = true)
    (ha : ∀ (L : Nat) (x : ξ) (Q' : Exit → Act → World → Prop) (Qf' : τ → World → Prop), (∀ t, SX ⟨n.n, []⟩ .normal Q' Qf' (T1 t) (pureM t)) → SC (some L) P ⟨n.n, []⟩ Q' Qf' assign (pushT T (ps.zip (encX x))) (asg x))
    (hb : ∀ (L : Nat) (r : Loop) (Q' : Value → World → Prop) (t : τ), SC (some L) P ⟨n.n, []⟩ (roundQ P L Q') (roundPostM (mkOf r) L Q') body (T1 t) (bd t))
    (hn : ∀ D, SX ⟨n.n, D :: n.ds⟩ .normal Q Qf T (kn D)) (hr : ∀ D, SX ⟨n.n, D :: n.ds⟩ .ret Q Qf T (kr D)) (he : ∀ D id, SX ⟨n.n, D :: n.ds⟩ (.exit id) Q Qf T (ke D id)) :
    SC none P n Q Qf (.rangeFunc g ps.toArray assign body) T (rangeFM (cvOf P) fv (fun x => (encX x).toArray) asg bd kn kr ke) := fun a w hA hm => by
  refine wpIn_rangeFunc (F := FW none) (n := 0) fun fn _ => ?_
  let r : Loop := { state := .ready, pending := none, fn := fn, tmps := a.tmps, params := ps.toArray, assign := assign, body := body, defers := w.heap.size }
  have hyield : ∀ (x : ξ) Q' w', roundM (mkOf r) (w.heap.size + 1) asg bd x Q' w' → (cvOf P).call (yieldV (w.heap.size + 1)) (encX x).toArray Q' w' := by
    intro x Q' w' ⟨⟨p, hp⟩, hmm⟩
    refine .inr ⟨w.heap.size + 1, fn, (ps.zip (encX x)).foldl (fun t p => t.setIfInBounds p.1 p.2) a.tmps, assign, body, w', ?_, ?_⟩
    · have hgo := run_getObj (P := P) hp (by intros; simp [mkOf])
      have hsz : (encX x).length = ps.length := hps x
      simp [Deferred.ofValue, yieldV, invoke, Instr.yield, Instr.getLoop, hgo, mkOf, r, hsz]
    · refine roundIn_of_wpIn (F := Fence.wide) trivial ?_
      have hA0 : Agrees ⟨n.n, []⟩ { tmps := a.tmps, defers := [] } T := ⟨hA.size, rfl, hA.look⟩
      have hA1 := agrees_push (n := n) (a := a) (ps.zip (encX x)) T a.tmps hA0 (fun q hq => by
        have := List.all_eq_true.1 hpn q.1 (List.of_mem_zip hq).1
        simpa using this)
      refine ha (w.heap.size + 1) x _ _ (fun t a1 w1 hA2 hm2 => ?_) _ w' hA1 hmm
      obtain ⟨p1, hp1, hbd⟩ := hm2
      have hgo := run_getObj (P := P) hp1 (by intros; simp [mkOf])
      have hs : ∀ ob', (setObj (w.heap.size + 1) ob').run P w1 = .ok () (w1.putObj (w.heap.size + 1) ob') := fun ob' => run_setObj hp1 (by intros; simp [mkOf])
      refine ⟨w1.putObj (w.heap.size + 1) (mkOf r .busy p1), ?_, ?_⟩
      · simp [Instr.beginRound, Instr.getLoop, hgo, mkOf, hs]
      · exact hb (w.heap.size + 1) r Q' t a1 _ hA2 hbd
  have hm := hm (mkOf r) (fun _ _ _ _ _ h => by cases h) hyield
  obtain ⟨f, ags, w', hrun, hcall⟩ := hm
  refine ⟨w.heap.size + 1, [mark w.heap.size], World.pushO (World.pushO w (.deferred (some []))) (mkOf r .ready none), ?_⟩
  have henter : (Instr.enterLoop fn a.tmps ps.toArray assign body (FW none).round).run P w = .ok (w.heap.size + 1, [mark w.heap.size]) (World.pushO (World.pushO w (.deferred (some []))) (mkOf r .ready none)) := by
    simp [Instr.enterLoop, World.pushO, mkOf, r, mark]
    rfl
  have hres : resolve a.eval (rangeCall g (w.heap.size + 1)) 0 = Deferred.ofValue fv #[yieldV (w.heap.size + 1)] := by
    have hge := hA.ev hg
    show Deferred.ofValue (a.eval g) _ = _
    rw [hge]
    simp [yieldV, Act.eval]
  have hd : ∃ d w1', (Deferred.ofValue fv #[yieldV (w.heap.size + 1)]).run P (World.pushO (World.pushO w (.deferred (some []))) (mkOf r .ready none)) = .ok d w1' ∧ (invoke d.target d.args).run P w1' = .ok (.enter f ags) w' := by
    rw [Sem.run_bind] at hrun
    cases hdd : (Deferred.ofValue fv #[yieldV (w.heap.size + 1)]).run P (World.pushO (World.pushO w (.deferred (some []))) (mkOf r .ready none)) with
    | ok d w1' => rw [hdd] at hrun; exact ⟨d, w1', rfl, hrun⟩
    | halt x w1' => rw [hdd] at hrun; simp at hrun
  obtain ⟨d, w1', hd1, hd2⟩ := hd
  refine ⟨d, w1', f, ags, w', henter, by rw [hres]; exact hd1, fun _ _ => trivial, hd2, fun h => by simp [Fence.wide] at h, (callsIn_FW none hcall).mono fun e w2 hre => ?_⟩
  cases e with
  | panicked c => exact hre.elim
  | outgrown => exact hre.elim
  | returned v =>
    obtain ⟨_, _, st, p, hw2, hst, hmm⟩ := hre
    have hgo := run_getObj (P := P) hw2 (by intros; simp [mkOf])
    have hs : ∀ ob', (setObj (w.heap.size + 1) ob').run P w2 = .ok () (w2.putObj (w.heap.size + 1) ob') := fun ob' => run_setObj hw2 (by intros; simp [mkOf])
    have hA' : Agrees ⟨n.n, w.heap.size :: n.ds⟩ { a with defers := [mark w.heap.size] ++ a.defers } T := ⟨hA.size, by simp [hA.defers], hA.look⟩
    have hend : (Instr.endLoop (w.heap.size + 1)).run P w2 = .ok p (w2.putObj (w.heap.size + 1) (mkOf r .exhausted p)) := by
      have hsb : (st == LoopState.busy) = false := by cases st <;> first | rfl | exact absurd rfl hst
      simp only [Instr.endLoop, Instr.getLoop, Sem.run_bind, hgo, Result.andThen_ok, mkOf, Sem.run_pure, hsb, Bool.false_eq_true, if_false]
      simp [hs, mkOf]
    refine ⟨p, _, hend, ?_⟩
    cases p with
    | none => exact hn _ _ _ hA' hmm
    | some c =>
      obtain ⟨j, rfl, hj⟩ := hmm
      cases j with
      | ret => exact wpIn_ret (hr _ _ _ hA' hj)
      | exit id => exact wpIn_exit (he _ id _ _ hA' hj)
end
end Go.Mo
namespace Go.Mo
section
variable {rd : Option Nat} {P : Program} {n : Nd} {Q : Exit → Act → World → Prop} {α β σ ξ τ : Type} {Qf : α → World → Prop} {T : Tm}
theorem SX.fail {e : Exit} : SX n e Q Qf T failM := fun _ _ _ hm => hm.elim
theorem enter_of {f : FuncId} {ags vs : Array Value} {fv : Value} {w : World} {β : Type} {enc : β → Value} {m : M β} (he : (do let d ← Deferred.ofValue fv vs; invoke d.target d.args : Sem Next).run P w = .ok (.enter f ags) w)
    (hs : ∀ (Qf' : β → World → Prop), m Qf' w → Calls P f ags w (RetPost enc Qf')) (Q' : Value → World → Prop) (hm : m (fun y w' => Q' (enc y) w') w) : (cvOf P).enter fv vs Q' w :=
  ⟨f, ags, w, he, (hs _ hm).mono fun e w' h => by
    cases e with
    | returned v => obtain ⟨y, rfl, hq⟩ := h; exact ⟨_, rfl, hq⟩
    | panicked c => exact h.elim
    | outgrown => exact h.elim⟩
end
end Go.Mo
namespace Go.Mo
set_option linter.unusedVariables false
abbrev Hp := Nat → Option (Obj × Bool)
def Hp.dis (a b : Hp) : Prop := ∀ x, a x = none ∨ b x = none ∨ ∃ ob, a x = some (ob, true) ∧ b x = some (ob, true)
def Hp.un (a b : Hp) : Hp := fun x => (a x).or (b x)
def Hp.le (a b : Hp) : Prop := ∀ (x : Nat) (ob : Obj) (r : Bool), a x = some (ob, r) → ∃ r', b x = some (ob, r') ∧ (r = false → r' = false)
def Hp.nil : Hp := fun _ => none
def Hp.ok (a : Hp) (w : World) : Prop := ∀ (x : Nat) (ob : Obj) (r : Bool), a x = some (ob, r) → w.heap[x]? = some ob
theorem Hp.le_refl (a : Hp) : Hp.le a a := fun x ob r h => ⟨r, h, fun h => h⟩
theorem Hp.le_trans {a b c : Hp} (h : Hp.le a b) (h' : Hp.le b c) : Hp.le a c := fun x ob r hx => by
  obtain ⟨r1, h1, i1⟩ := h x ob r hx
  obtain ⟨r2, h2, i2⟩ := h' x ob r1 h1
  exact ⟨r2, h2, fun h => i2 (i1 h)⟩
theorem Hp.dis_symm {a b : Hp} (h : Hp.dis a b) : Hp.dis b a := fun x => by
  rcases h x with h | h | ⟨ob, h, h'⟩
  · exact .inr (.inl h)
  · exact .inl h
  · exact .inr (.inr ⟨ob, h', h⟩)
theorem Hp.un_comm {a b : Hp} (h : Hp.dis a b) : Hp.un a b = Hp.un b a := by
  funext x
  rcases h x with h | h | ⟨ob, h, h'⟩ <;> simp [Hp.un, *]
theorem Hp.un_assoc (a b c : Hp) : Hp.un (Hp.un a b) c = Hp.un a (Hp.un b c) := by
  funext x; simp [Hp.un, Option.or_assoc]
theorem Hp.le_un_left (a b : Hp) : Hp.le a (Hp.un a b) := fun x ob r h => ⟨r, by simp [Hp.un, h], fun h => h⟩
theorem Hp.le_un_right {a b : Hp} (hd : Hp.dis a b) : Hp.le b (Hp.un a b) := fun x ob r h => by
  rcases hd x with h' | h' | ⟨ob', h1, h2⟩
  · exact ⟨r, by simp [Hp.un, h', h], fun h => h⟩
  · rw [h'] at h; cases h
  · rw [h2] at h; cases h
    exact ⟨true, by simp [Hp.un, h1], fun h => h⟩
theorem Hp.un_le {a b c : Hp} (ha : Hp.le a c) (hb : Hp.le b c) : Hp.le (Hp.un a b) c := fun x ob r h => by
  simp only [Hp.un, Option.or_eq_some_iff] at h
  rcases h with h | ⟨_, h⟩
  · exact ha x ob r h
  · exact hb x ob r h
theorem Hp.dis_le {a a' b : Hp} (h : Hp.dis a b) (hl : Hp.le a' a) : Hp.dis a' b := fun x => by
  cases hx : a' x with
  | none => exact .inl rfl
  | some p =>
    obtain ⟨ob', r⟩ := p
    obtain ⟨r', h1, i1⟩ := hl x ob' r hx
    rcases h x with h | h | ⟨ob, h, h'⟩
    · rw [h] at h1; cases h1
    · exact .inr (.inl h)
    · rw [h1] at h; cases h
      cases r with
      | true => exact .inr (.inr ⟨_, rfl, h'⟩)
      | false => exact absurd (i1 rfl) (by simp)
theorem Hp.un_mono {a a' b b' : Hp} (ha : Hp.le a a') (hb : Hp.le b b') (hd : Hp.dis a' b') : Hp.le (Hp.un a b) (Hp.un a' b') :=
  Hp.un_le (Hp.le_trans ha (Hp.le_un_left a' b')) (Hp.le_trans hb (Hp.le_un_right hd))
theorem Hp.dis_un {a b c : Hp} (h1 : Hp.dis a c) (h2 : Hp.dis b c) : Hp.dis (Hp.un a b) c := fun x => by
  cases ha : a x with
  | none =>
    have : Hp.un a b x = b x := by simp [Hp.un, ha]
    rw [this]; exact h2 x
  | some p =>
    have : Hp.un a b x = a x := by simp [Hp.un, ha]
    rw [this]; exact h1 x
theorem Hp.dis_un_left {a b c : Hp} (h : Hp.dis (Hp.un a b) c) : Hp.dis a c := Hp.dis_le h (Hp.le_un_left a b)
theorem Hp.dis_un_right {a b c : Hp} (hd : Hp.dis a b) (h : Hp.dis (Hp.un a b) c) : Hp.dis b c := Hp.dis_le h (Hp.le_un_right hd)
theorem Hp.un_nil (a : Hp) : Hp.un a Hp.nil = a := by funext x; simp [Hp.un, Hp.nil]
theorem Hp.nil_un (a : Hp) : Hp.un Hp.nil a = a := by funext x; simp [Hp.un, Hp.nil]
theorem Hp.dis_nil (a : Hp) : Hp.dis a Hp.nil := fun _ => .inr (.inl rfl)
theorem Hp.nil_dis (a : Hp) : Hp.dis Hp.nil a := fun _ => .inl rfl
theorem Hp.ok_le {a b : Hp} {w : World} (h : Hp.ok b w) (hl : Hp.le a b) : Hp.ok a w := fun x ob r hx => by
  obtain ⟨r', h1, _⟩ := hl x ob r hx
  exact h x ob r' h1
theorem Hp.ok_un {a b : Hp} {w : World} (ha : Hp.ok a w) (hb : Hp.ok b w) : Hp.ok (Hp.un a b) w := fun x ob r h => by
  simp only [Hp.un, Option.or_eq_some_iff] at h
  rcases h with h | ⟨_, h⟩
  · exact ha x ob r h
  · exact hb x ob r h
structure HP where
  p : Hp → Prop
  up : ∀ {a b : Hp}, Hp.le a b → p a → p b
theorem HP.eq {A B : HP} (h : ∀ o, A.p o ↔ B.p o) : A = B := by
  cases A; cases B; congr; funext o; exact propext (h o)
def Ent (A B : HP) : Prop := ∀ o, A.p o → B.p o
def star (A B : HP) : HP := ⟨fun o => ∃ a b : Hp, Hp.dis a b ∧ Hp.le (Hp.un a b) o ∧ A.p a ∧ B.p b, fun hl ⟨a, b, hd, h, ha, hb⟩ => ⟨a, b, hd, Hp.le_trans h hl, ha, hb⟩⟩
instance : Mul HP := ⟨star⟩
def emp : HP := ⟨fun _ => True, fun _ h => h⟩
def pr (p : Prop) : HP := ⟨fun _ => p, fun _ h => h⟩
def ex {α : Type} (A : α → HP) : HP := ⟨fun o => ∃ x, (A x).p o, fun hl ⟨x, h⟩ => ⟨x, (A x).up hl h⟩⟩
def al {α : Type} (A : α → HP) : HP := ⟨fun o => ∀ x, (A x).p o, fun hl h x => (A x).up hl (h x)⟩
def po (b : Nat) (ob : Obj) : HP := ⟨fun o => o b = some (ob, false), fun hl h => by
  obtain ⟨r, h1, h2⟩ := hl _ _ _ h
  rw [h1, h2 rfl]⟩
def pc (b : Nat) (cs : List Value) : HP := ⟨fun o => ∃ e, o b = some (.cells cs.toArray e, false), fun hl ⟨e, h⟩ => by
  obtain ⟨r, h1, h2⟩ := hl _ _ _ h
  exact ⟨e, by rw [h1, h2 rfl]⟩⟩
def ro (b : Nat) (cs : List Value) : HP := ⟨fun o => ∃ e f r, o b = some (.cells cs.toArray e f, r), fun hl ⟨e, f, r, h⟩ => by
  obtain ⟨r, h1, h2⟩ := hl _ _ _ h
  exact ⟨e, f, r, h1⟩⟩
theorem Ent.refl (A : HP) : Ent A A := fun _ h => h
theorem Ent.trans {A B C : HP} (h : Ent A B) (h' : Ent B C) : Ent A C := fun o ho => h' o (h o ho)
theorem Ent.antisymm {A B : HP} (h : Ent A B) (h' : Ent B A) : A = B := HP.eq fun o => ⟨h o, h' o⟩
theorem Ent.of_eq {A B : HP} (h : A = B) : Ent A B := h ▸ Ent.refl A
theorem star_comm (A B : HP) : A * B = B * A := by
  have : ∀ A B : HP, Ent (A * B) (B * A) := fun A B o ⟨a, b, hd, hl, ha, hb⟩ => ⟨b, a, Hp.dis_symm hd, by rw [← Hp.un_comm hd]; exact hl, hb, ha⟩
  exact Ent.antisymm (this A B) (this B A)
theorem star_assoc (A B C : HP) : A * B * C = A * (B * C) := by
  have key : ∀ A B C : HP, Ent (A * B * C) (A * (B * C)) := by
    rintro A B C o ⟨ab, c, hd, hl, ⟨a, b, hd', hl', ha, hb⟩, hc⟩
    have h1 := Hp.dis_le hd hl'
    have hac := Hp.dis_un_left h1
    have hbc := Hp.dis_un_right hd' h1
    refine ⟨a, Hp.un b c, Hp.dis_symm (Hp.dis_un (Hp.dis_symm hd') (Hp.dis_symm hac)), ?_, ha, b, c, hbc, Hp.le_refl _, hb, hc⟩
    rw [← Hp.un_assoc]
    exact Hp.le_trans (Hp.un_mono hl' (Hp.le_refl c) hd) hl
  refine Ent.antisymm (key A B C) ?_
  rw [star_comm A (B * C), star_comm B C, star_comm (A * B) C, star_comm A B]
  exact key C B A
theorem star_left_comm (A B C : HP) : A * (B * C) = B * (A * C) := by rw [← star_assoc, star_comm A B, star_assoc]
theorem star_right_comm (A B C : HP) : A * B * C = A * C * B := by rw [star_assoc, star_comm B C, ← star_assoc]
instance : Std.Associative (fun A B : HP => A * B) := ⟨star_assoc⟩
instance : Std.Commutative (fun A B : HP => A * B) := ⟨star_comm⟩
theorem Ent.star {A A' B B' : HP} (h : Ent A A') (h' : Ent B B') : Ent (A * B) (A' * B') := fun o ⟨a, b, hd, hl, ha, hb⟩ => ⟨a, b, hd, hl, h a ha, h' b hb⟩
theorem Ent.starl {A A' B : HP} (h : Ent A A') : Ent (A * B) (A' * B) := Ent.star h (Ent.refl B)
theorem Ent.starr {A B B' : HP} (h : Ent B B') : Ent (A * B) (A * B') := Ent.star (Ent.refl A) h
theorem ent_emp (A : HP) : Ent A emp := fun _ _ => trivial
theorem ent_left (A B : HP) : Ent (A * B) A := fun o ⟨a, b, hd, hl, ha, hb⟩ => A.up (Hp.le_trans (Hp.le_un_left a b) hl) ha
theorem ent_right (A B : HP) : Ent (A * B) B := fun o ⟨a, b, hd, hl, ha, hb⟩ => B.up (Hp.le_trans (Hp.le_un_right hd) hl) hb
theorem star_emp (A : HP) : A * emp = A := Ent.antisymm (ent_left A emp) fun o h => ⟨o, Hp.nil, Hp.dis_nil o, by rw [Hp.un_nil]; exact Hp.le_refl o, h, trivial⟩
theorem emp_star (A : HP) : emp * A = A := by rw [star_comm, star_emp]
theorem ent_pr {p : Prop} {A : HP} (h : p) : Ent A (pr p * A) := fun o ho => ⟨Hp.nil, o, Hp.nil_dis o, by rw [Hp.nil_un]; exact Hp.le_refl o, h, ho⟩
theorem ent_prr {p : Prop} {A B : HP} (h : p) (h' : Ent A B) : Ent A (pr p * B) := Ent.trans h' (ent_pr h)
theorem ent_ex {α : Type} {A : HP} {B : α → HP} (x : α) (h : Ent A (B x)) : Ent A (ex B) := fun o ho => ⟨x, h o ho⟩
theorem ex_ent {α : Type} {A : α → HP} {B : HP} (h : ∀ x, Ent (A x) B) : Ent (ex A) B := fun o ⟨x, ho⟩ => h x o ho
theorem ex_star {α : Type} (A : α → HP) (B : HP) : ex A * B = ex fun x => A x * B := Ent.antisymm
  (fun o ⟨a, b, hd, hl, ⟨x, ha⟩, hb⟩ => ⟨x, a, b, hd, hl, ha, hb⟩) (fun o ⟨x, a, b, hd, hl, ha, hb⟩ => ⟨a, b, hd, hl, ⟨x, ha⟩, hb⟩)
theorem star_ex {α : Type} (A : α → HP) (B : HP) : B * ex A = ex fun x => B * A x := by
  rw [star_comm, ex_star]
  congr; funext x; rw [star_comm]
theorem pr_ent {p : Prop} {A B : HP} (h : p → Ent A B) : Ent (pr p * A) B := fun o ⟨a, b, hd, hl, ha, hb⟩ => h ha o (A.up (Hp.le_trans (Hp.le_un_right hd) hl) hb)
theorem pc_ro (b : Nat) (cs : List Value) : Ent (pc b cs) (ro b cs) := fun o ⟨e, h⟩ => ⟨e, _, _, h⟩
structure Fr where
  hp : Hp
  os : Os
  out : Array (Nat × ByteArray)
structure Same (w : World) (g : Fr) : Prop where
  os : w.os = g.os
  out : w.output = g.out
def Own (w : World) (a : Hp) (g : Fr) : Prop := Hp.dis a g.hp ∧ Hp.ok a w ∧ Hp.ok g.hp w ∧ Same w g
theorem Own.le {w : World} {a a' : Hp} {g : Fr} (h : Own w a g) (hl : Hp.le a' a) : Own w a' g := ⟨Hp.dis_le h.1 hl, Hp.ok_le h.2.1 hl, h.2.2⟩
def wps {α : Type} (g : Fr) (H : HP) (m : M α) (Q : α → HP) : Prop :=
  ∀ (w : World) (a : Hp) (Qf : α → World → Prop), Own w a g → H.p a → (∀ x w' a', Own w' a' g → (Q x).p a' → Qf x w') → m Qf w
def Iv (g : Fr) (H : HP) (w : World) : Prop := ∃ a, Own w a g ∧ H.p a
def sumPost {α β : Type} (R : β → HP) (Q : α → HP) : β ⊕ α → HP
  | .inl b => R b
  | .inr x => Q x
section
variable {α β σ : Type} {g : Fr} {H H' : HP} {Q : α → HP}
theorem wps_conseq {m : M α} {Q' : α → HP} (h : wps g H' m Q') (h1 : Ent H H') (h2 : ∀ x, Ent (Q' x) (Q x)) : wps g H m Q := fun w a Qf ho ha hq =>
  h w a Qf ho (h1 a ha) fun x w' b ho' hb => hq x w' b ho' (h2 x b hb)
theorem wps_pre {m : M α} (h1 : Ent H H') (h : wps g H' m Q) : wps g H m Q := wps_conseq h h1 fun x => Ent.refl _
theorem wps_eq {m : M α} (h1 : H = H') (h : wps g H' m Q) : wps g H m Q := h1 ▸ h
theorem wps_post {m : M α} {Q' : α → HP} (h : wps g H m Q') (h2 : ∀ x, Ent (Q' x) (Q x)) : wps g H m Q := wps_conseq h (Ent.refl _) h2
theorem wps_bind {m : M β} {k : β → M α} {R : β → HP} (h : wps g H m R) (h' : ∀ x, wps g (R x) (k x) Q) : wps g H (bindM m k) Q := fun w a Qf ho ha hq =>
  h w a (fun x w' => k x Qf w') ho ha fun x w' b ho' hb => h' x w' b Qf ho' hb hq
theorem wps_pure {x : α} (h : Ent H (Q x)) : wps g H (pureM x) Q := fun w a Qf ho ha hq => hq x w a ho (h a ha)
theorem wps_bindpure {x : β} {k : β → M α} (h : wps g H (k x) Q) : wps g H (bindM (pureM x) k) Q := h
theorem wps_assoc {m : M β} {k : β → M σ} {l : σ → M α} (h : wps g H (bindM m fun x => bindM (k x) l) Q) : wps g H (bindM (bindM m k) l) Q := h
theorem wps_false {m : M α} (h : Ent H (pr False)) : wps g H m Q := fun w a Qf ho ha hq => (h a ha).elim
theorem wps_ex {A : β → HP} {m : M α} (h : ∀ x, wps g (A x) m Q) : wps g (ex A) m Q := fun w a Qf ho ⟨x, ha⟩ hq => h x w a Qf ho ha hq
theorem wps_pr {p : Prop} {m : M α} (h : p → wps g H m Q) : wps g (pr p * H) m Q := fun w a Qf ho ha hq => by
  obtain ⟨a1, b1, hd, hl, hp, hb⟩ := ha
  exact h hp w a Qf ho (H.up (Hp.le_trans (Hp.le_un_right hd) hl) hb) hq
theorem wps_prr {p : Prop} {m : M α} (h : p → wps g H m Q) : wps g (H * pr p) m Q := wps_eq (star_comm _ _) (wps_pr h)
theorem wps_exr {A : β → HP} {m : M α} (h : ∀ x, wps g (H * A x) m Q) : wps g (H * ex A) m Q := wps_eq (star_ex _ _) (wps_ex h)
theorem wps_ite {c : Prop} [Decidable c] {m m' : M α} (h : c → wps g H m Q) (h' : ¬c → wps g H m' Q) : wps g H (if c then m else m') Q := by
  by_cases hc : c
  · rw [if_pos hc]; exact h hc
  · rw [if_neg hc]; exact h' hc
theorem wps_mapR {m : M α} {Q : σ ⊕ α → HP} (h : wps g H m (fun x => Q (.inr x))) : wps g H (mapR m) Q := fun w a Qf ho ha hq => h w a (fun x w' => Qf (.inr x) w') ho ha fun x w' b ho' hb => hq (.inr x) w' b ho' hb
theorem wps_bindS {m : M (β ⊕ α)} {k : β → M α} {R : β → HP} (h : wps g H m (sumPost R Q)) (h' : ∀ b, wps g (R b) (k b) Q) : wps g H (bindS m k) Q := fun w a Qf ho ha hq =>
  h w a (joinPost k Qf) ho ha fun x w' b ho' hb => by
    cases x with
    | inl y => exact h' y w' b Qf ho' hb hq
    | inr y => exact hq y w' b ho' hb
theorem wps_frame {m : M α} {A F : HP} {Q' : α → HP} (h : ∀ g', wps g' A m Q') : wps g (A * F) m (fun x => Q' x * F) := fun w a Qf ho ha hq => by
  obtain ⟨a1, f, hd, hl, ha1, hf⟩ := ha
  have hog := ho.le hl
  have hd1 : Hp.dis a1 g.hp := Hp.dis_un_left hog.1
  have hdf : Hp.dis f g.hp := Hp.dis_un_right hd hog.1
  have hle2 : Hp.le g.hp (Hp.un f g.hp) := Hp.le_un_right hdf
  have hokf : Hp.ok f w := Hp.ok_le hog.2.1 (Hp.le_un_right hd)
  have hsame : Same w ⟨Hp.un f g.hp, g.os, g.out⟩ := ⟨ho.2.2.2.os, ho.2.2.2.out⟩
  refine h ⟨Hp.un f g.hp, g.os, g.out⟩ w a1 Qf ⟨Hp.dis_symm (Hp.dis_un (Hp.dis_symm hd) (Hp.dis_symm hd1)), Hp.ok_le hog.2.1 (Hp.le_un_left a1 f), Hp.ok_un hokf ho.2.2.1, hsame⟩ ha1 fun x w' b ho' hb => ?_
  have hbf : Hp.dis b f := Hp.dis_symm (Hp.dis_un_left (Hp.dis_symm ho'.1))
  have hbg : Hp.dis b g.hp := Hp.dis_symm (Hp.dis_un_right hdf (Hp.dis_symm ho'.1))
  have hokf' : Hp.ok f w' := Hp.ok_le ho'.2.2.1 (Hp.le_un_left f g.hp)
  refine hq x w' (Hp.un b f) ⟨Hp.dis_un hbg hdf, Hp.ok_un ho'.2.1 hokf', Hp.ok_le ho'.2.2.1 hle2, ⟨ho'.2.2.2.os, ho'.2.2.2.out⟩⟩ ⟨b, f, hbf, Hp.le_refl _, hb, hf⟩
theorem wps_framel {m : M α} {A F : HP} {Q' : α → HP} (h : ∀ g', wps g' A m Q') : wps g (F * A) m (fun x => F * Q' x) := by
  have := wps_frame (g := g) (F := F) h
  rw [star_comm F A]
  exact wps_post this fun x => Ent.of_eq (star_comm _ _)
theorem wps_call {m : M β} {k : β → M α} {A F : HP} {Q' : β → HP} (h : ∀ g', wps g' A m Q') (hp : Ent H (F * A)) (h' : ∀ x, wps g (F * Q' x) (k x) Q) : wps g H (bindM m k) Q :=
  wps_bind (wps_pre hp (wps_framel h)) h'
class Drops (A B : HP) : Prop where
  ent : Ent A B
instance (A : HP) : Drops A A := ⟨Ent.refl A⟩
instance (priority := low) Drops.left (A B C : HP) [h : Drops A B] : Drops (A * C) B := ⟨Ent.trans (ent_left A C) h.ent⟩
instance (priority := low) Drops.right (A B C : HP) [h : Drops C B] : Drops (A * C) B := ⟨Ent.trans (ent_right A C) h.ent⟩
instance (priority := low) Drops.emp (A : HP) : Drops A emp := ⟨ent_emp A⟩
theorem ent_drop {A B : HP} [h : Drops A B] : Ent A B := h.ent
theorem ent_val {α : Type} {x v : α} {A H : HP} [h : Drops A H] (e : x = v) : Ent A (pr (x = v) * H) := ent_prr e h.ent
abbrev Val (g : Fr) (H : HP) (m : M α) (v : α) : Prop := wps g H m fun x => pr (x = v) * H
theorem wps_val {m : M β} {k : β → M α} {v : β} (h : Val g H m v) (h' : wps g H (k v) Q) : wps g H (bindM m k) Q := wps_bind h fun x => wps_pr fun e => e ▸ h'
theorem val_ite {c : Prop} [Decidable c] {m m' : M α} {u v : α} {H0 : HP} (h : c → wps g H m fun x => pr (x = u) * H0) (h' : ¬c → wps g H m' fun x => pr (x = v) * H0) : wps g H (if c then m else m') fun x => pr (x = if c then u else v) * H0 := by
  by_cases hc : c
  · simp only [if_pos hc]; exact h hc
  · simp only [if_neg hc]; exact h' hc
theorem wps_bindV {m : M (β ⊕ α)} {k : β → M α} {u : β} (h : wps g H m fun x => pr (x = .inl u) * H) (h' : wps g H (k u) Q) : wps g H (bindS m k) Q :=
  wps_bindS (R := fun b => pr (b = u) * H) (wps_post h fun x => by
    cases x with
    | inl b => exact pr_ent fun e => ent_prr (by cases e; rfl) (Ent.refl _)
    | inr b => exact pr_ent fun e => by cases e) fun b => wps_pr fun e => e ▸ h'
theorem val_iteL {c : Prop} [Decidable c] {m m' : M (β ⊕ α)} {u v : β} {H0 : HP} (h : c → wps g H m fun x => pr (x = .inl u) * H0) (h' : ¬c → wps g H m' fun x => pr (x = .inl v) * H0) : wps g H (if c then m else m') fun x => pr (x = .inl (if c then u else v)) * H0 := by
  by_cases hc : c
  · simp only [if_pos hc]; exact h hc
  · simp only [if_neg hc]; exact h' hc
theorem own_draw {w : World} {a : Hp} {g : Fr} (h : Own w a g) : Own (drawW w) a g := ⟨h.1, h.2.1, h.2.2.1, h.2.2.2.os, h.2.2.2.out⟩
theorem wps_region (R : HP) {body : (World → Prop) → M α} (hR : Ent H R) (h : wps g H (body (Iv g R)) Q) : wps g H (regionM body) Q := fun w a Qf ho ha hq =>
  ⟨Iv g R, ⟨a, own_draw ho, hR a ha⟩, h (drawW w) a Qf (own_draw ho) ha hq⟩
theorem wps_regionH {body : (World → Prop) → M α} (h : wps g H (body (Iv g H)) Q) : wps g H (regionM body) Q := wps_region H (Ent.refl H) h
end
class RdC (b : Nat) (H : HP) (cs : outParam (List Value)) : Prop where
  rd : Ent H (ro b cs)
instance (b : Nat) (cs : List Value) : RdC b (pc b cs) cs := ⟨pc_ro b cs⟩
instance (b : Nat) (cs : List Value) : RdC b (ro b cs) cs := ⟨Ent.refl _⟩
instance (priority := low) RdC.left (b : Nat) (A B : HP) (cs : List Value) [h : RdC b A cs] : RdC b (A * B) cs := ⟨Ent.trans (ent_left A B) h.rd⟩
instance RdC.right (b : Nat) (A B : HP) (cs : List Value) [h : RdC b B cs] : RdC b (A * B) cs := ⟨Ent.trans (ent_right A B) h.rd⟩
class PickC (b : Nat) (H : HP) (cs : outParam (List Value)) (H' : outParam HP) : Prop where
  eq : H = H' * pc b cs
instance (b : Nat) (cs : List Value) : PickC b (pc b cs) cs emp := ⟨(emp_star _).symm⟩
instance PickC.here (b : Nat) (cs : List Value) (H : HP) : PickC b (H * pc b cs) cs H := ⟨rfl⟩
instance (priority := low) PickC.there (b : Nat) (A H : HP) (cs : List Value) (H' : HP) [h : PickC b H cs H'] : PickC b (H * A) cs (H' * A) := ⟨by rw [h.eq, star_right_comm]⟩
instance (priority := low) PickC.thereR (b : Nat) (A H : HP) (cs : List Value) (H' : HP) [h : PickC b H cs H'] : PickC b (A * H) cs (A * H') := ⟨by rw [h.eq, star_assoc]⟩
class PickO (b : Nat) (H : HP) (ob : outParam Obj) (H' : outParam HP) : Prop where
  eq : H = H' * po b ob
instance (b : Nat) (ob : Obj) : PickO b (po b ob) ob emp := ⟨(emp_star _).symm⟩
instance PickO.here (b : Nat) (ob : Obj) (H : HP) : PickO b (H * po b ob) ob H := ⟨rfl⟩
instance (priority := low) PickO.there (b : Nat) (A H : HP) (ob : Obj) (H' : HP) [h : PickO b H ob H'] : PickO b (H * A) ob (H' * A) := ⟨by rw [h.eq, star_right_comm]⟩
instance (priority := low) PickO.thereR (b : Nat) (A H : HP) (ob : Obj) (H' : HP) [h : PickO b H ob H'] : PickO b (A * H) ob (A * H') := ⟨by rw [h.eq, star_assoc]⟩
theorem Addr.add_mk (b o n : Nat) : Addr.add ⟨b, o, none⟩ n = ⟨b, o + n, none⟩ := by
  unfold Addr.add; split
  · rename_i h; subst h; rfl
  · rfl
theorem cell_of {w : World} {b off : Nat} {cs : List Value} {e : TypeId} {v : Value} {f : Nat × Nat} (h : w.heap[b]? = some (.cells cs.toArray e f)) (hv : cs[off]? = some v) : w.cell? ⟨b, off, none⟩ = some v := by
  simp [World.cell?, h, hv]
theorem rd_cell {w : World} {a : Hp} {g : Fr} {H : HP} {b off : Nat} {cs : List Value} {v : Value} (hr : Ent H (ro b cs)) (ho : Own w a g) (ha : H.p a) (hv : cs[off]? = some v) : w.cell? ⟨b, off, none⟩ = some v := by
  obtain ⟨e, f, r, h⟩ := hr a ha
  exact cell_of (ho.2.1 b _ _ h) hv
section
variable {α β σ : Type} {g : Fr} {H H' : HP} {Q : α → HP}
theorem wps_ldr {enc : β → Value} {k : β → M α} {b off : Nat} {cs : List Value} (x : β) (hp : Ent H (ro b cs)) (hv : cs[off]? = some (enc x)) (h : wps g H (k x) Q) : wps g H (bindM (ld enc ⟨b, off, none⟩) k) Q := fun w a Qf ho ha hq =>
  ⟨x, rd_cell hp ho ha hv, h w _ Qf ho ha hq⟩
theorem wps_ld {enc : β → Value} {k : β → M α} {b off : Nat} {cs : List Value} (x : β) [hp : RdC b H cs] (hv : cs[off]? = some (enc x)) (h : wps g H (k x) Q) : wps g H (bindM (ld enc ⟨b, off, none⟩) k) Q := wps_ldr x hp.rd hv h
theorem wps_ldI {R : HP} {enc : β → Value} {k : β → M α} {b off : Nat} {cs : List Value} (x : β) [hp : RdC b R cs] (hv : cs[off]? = some (enc x)) (h : wps g H (k x) Q) : wps g H (bindM (ldI (Iv g R) enc ⟨b, off, none⟩) k) Q := fun w a Qf ho ha hq =>
  ⟨x, fun w' ⟨a', ho', ha'⟩ => rd_cell hp.rd ho' ha' hv, h w _ Qf ho ha hq⟩
theorem wps_ldA {enc : β → List Value} {k : β → M α} {b off : Nat} {cs : List Value} (x : β) [hp : RdC b H cs] (hv : (cs.drop off).take (enc x).length = enc x) (h : wps g H (k x) Q) : wps g H (bindM (ldA enc ⟨b, off, none⟩) k) Q := fun w a Qf ho ha hq =>
  ⟨x, (fun j v hj => by
    rw [Addr.add_mk]
    refine rd_cell hp.rd ho ha ?_
    rw [← hv, List.getElem?_take] at hj
    split at hj
    · simpa using hj
    · cases hj), h w _ Qf ho ha hq⟩
theorem wps_ldAI {R : HP} {enc : β → List Value} {k : β → M α} {b off : Nat} {cs : List Value} (x : β) [hp : RdC b R cs] (hv : (cs.drop off).take (enc x).length = enc x) (h : wps g H (k x) Q) : wps g H (bindM (ldAI (Iv g R) enc ⟨b, off, none⟩) k) Q := fun w a Qf ho ha hq =>
  ⟨x, (fun w' ⟨a', ho', ha'⟩ j v hj => by
    rw [Addr.add_mk]
    refine rd_cell hp.rd ho' ha' ?_
    rw [← hv, List.getElem?_take] at hj
    split at hj
    · simpa using hj
    · cases hj), h w _ Qf ho ha hq⟩
theorem wps_ldG {k : Int × Int × Int → M α} {b off : Nat} {cs : List Value} (x y z : Int) [hp : RdC b H cs] (hv : (cs.drop off).take 3 = [.int .i64 x, .int .i64 y, .int .i64 z]) (h : wps g H (k (x, y, z)) Q) :
    wps g H (bindM (ldA (fun y : Int × Int × Int => [(.int .i64 y.1), (.int .i64 y.2.1), (.int .i64 y.2.2)]) ⟨b, off, none⟩) k) Q := wps_ldA (x, y, z) hv h
theorem wps_ldGI {R : HP} {k : Int × Int × Int → M α} {b off : Nat} {cs : List Value} (x y z : Int) [hp : RdC b R cs] (hv : (cs.drop off).take 3 = [.int .i64 x, .int .i64 y, .int .i64 z]) (h : wps g H (k (x, y, z)) Q) :
    wps g H (bindM (ldAI (Iv g R) (fun y : Int × Int × Int => [(.int .i64 y.1), (.int .i64 y.2.1), (.int .i64 y.2.2)]) ⟨b, off, none⟩) k) Q := wps_ldAI (x, y, z) hv h
abbrev Obj.soft (ob : Obj) : Prop := ∀ cs e f, ob = .cells cs e f → f = (0, 0)
theorem own_set {w : World} {a1 a2 a : Hp} {g : Fr} {b : Nat} {ob ob' : Obj} (ho : Own w a g) (hd : Hp.dis a1 a2) (hl : Hp.le (Hp.un a1 a2) a) (h1 : a1 b = some (ob, false)) (w' : World)
    (hw' : ∀ y : Nat, w'.heap[y]? = if y = b then some ob' else w.heap[y]?) (hsm : w'.os = w.os ∧ w'.output = w.output) (hsf : Obj.soft ob') :
    let a1' : Hp := fun y => if y = b then some (ob', false) else none
    Own w' (Hp.un a2 a1') g ∧ Hp.dis a2 a1' := by
  intro a1'
  have h2b : a2 b = none := by
    rcases hd b with h | h | ⟨_, h, _⟩
    · rw [h1] at h; cases h
    · exact h
    · rw [h1] at h; cases h
  have hab : a b = some (ob, false) := by
    obtain ⟨r, h, hr⟩ := hl b ob false (by simp [Hp.un, h1])
    rw [h, hr rfl]
  have hgb : g.hp b = none := by
    rcases ho.1 b with h | h | ⟨_, h, _⟩
    · rw [hab] at h; cases h
    · exact h
    · rw [hab] at h; cases h
  have hdis : Hp.dis a2 a1' := fun y => by
    by_cases hy : y = b
    · subst hy; exact .inl h2b
    · right; left; simp [a1', hy]
  refine ⟨⟨Hp.dis_un (Hp.dis_un_right hd (ho.le hl).1) fun y => ?_, Hp.ok_un ?_ ?_, ?_, ⟨hsm.1.trans ho.2.2.2.os, hsm.2.trans ho.2.2.2.out⟩⟩, hdis⟩
  · by_cases hy : y = b
    · subst hy; exact .inr (.inl hgb)
    · left; simp [a1', hy]
  · intro y ob2 r hy
    rw [hw']
    by_cases hyb : y = b
    · subst hyb; rw [h2b] at hy; cases hy
    · rw [if_neg hyb]; exact Hp.ok_le (ho.le hl).2.1 (Hp.le_un_right hd) y ob2 r hy
  · intro y ob2 r hy
    rw [hw']
    by_cases hyb : y = b
    · subst hyb; simp [a1'] at hy; simp [hy.1]
    · simp [a1', hyb] at hy
  · intro y ob2 r hy
    rw [hw']
    by_cases hyb : y = b
    · subst hyb; rw [hgb] at hy; cases hy
    · rw [if_neg hyb]; exact ho.2.2.1 y ob2 r hy
theorem setCell_heap {w : World} {b off : Nat} {cs : List Value} {e : TypeId} {v : Value} (hb : w.heap[b]? = some (.cells cs.toArray e)) (y : Nat) :
    (w.setCell ⟨b, off, none⟩ v).heap[y]? = if y = b then some (.cells (cs.set off v).toArray e) else w.heap[y]? := by
  simp only [World.setCell]
  rw [Array.getElem?_modify]
  by_cases hy : y = b
  · subst hy
    simp only [if_true]
    rw [hb]
    simp
  · rw [if_neg (fun e => hy e.symm), if_neg hy]
theorem wps_st {k : Unit → M α} {b off : Nat} {cs : List Value} {v : Value} [hp : PickC b H cs H'] (hlt : off < cs.length) (h : wps g (H' * pc b (cs.set off v)) (k ()) Q) : wps g H (bindM (st ⟨b, off, none⟩ v) k) Q := fun w a Qf ho ha hq => by
  rw [hp.eq] at ha
  obtain ⟨a2, a1, hd, hl, h2, e, h1⟩ := ha
  have hl' : Hp.le (Hp.un a1 a2) a := by rw [← Hp.un_comm hd]; exact hl
  have hb : w.heap[b]? = some (.cells cs.toArray e) := by
    obtain ⟨r, h3, _⟩ := hl' b (.cells cs.toArray e) false (by simp [Hp.un, h1])
    exact ho.2.1 b _ _ h3
  refine ⟨⟨cs[off], cell_of hb (List.getElem?_eq_getElem hlt)⟩, by simp [World.frozen?, hb], ?_⟩
  have := own_set ho (Hp.dis_symm hd) hl' h1 _ (setCell_heap (off := off) (v := v) hb) ⟨rfl, rfl⟩ (fun _ _ _ h => by cases h; rfl)
  exact h _ _ Qf this.1 ⟨a2, _, this.2, Hp.le_refl _, h2, e, by simp⟩ hq
theorem own_push {w : World} {a : Hp} {g : Fr} (ho : Own w a g) (ob : Obj) (w' : World) (hw : w'.heap = w.heap.push ob) (hsm : w'.os = w.os ∧ w'.output = w.output) (hsf : Obj.soft ob) :
    let n : Hp := fun y => if y = w.heap.size then some (ob, false) else none
    Own w' (Hp.un a n) g ∧ Hp.dis a n := by
  intro n
  have hbound : ∀ (f : Hp), Hp.ok f w → f w.heap.size = none := by
    intro f hf
    cases hx : f w.heap.size with
    | none => rfl
    | some p => have := hf _ _ _ hx; simp at this
  have hold : ∀ (f : Hp), Hp.ok f w → Hp.ok f w' := by
    intro f hf y ob' r hy
    have hy := hf y ob' r hy
    have hlt := (Array.getElem?_eq_some_iff.1 hy).1
    rw [hw, Array.getElem?_push, if_neg (by omega)]
    exact hy
  have hdn : ∀ (f : Hp), Hp.ok f w → Hp.dis f n := fun f hf y => by
    by_cases hy : y = w.heap.size
    · subst hy; exact .inl (hbound f hf)
    · right; left; simp [n, hy]
  refine ⟨⟨Hp.dis_un ho.1 (Hp.dis_symm (hdn g.hp ho.2.2.1)), Hp.ok_un (hold a ho.2.1) ?_, hold g.hp ho.2.2.1, ⟨hsm.1.trans ho.2.2.2.os, hsm.2.trans ho.2.2.2.out⟩⟩, hdn a ho.2.1⟩
  intro y ob' r hy
  by_cases hyb : y = w.heap.size
  · subst hyb
    simp [n] at hy
    rw [hw]; simp [hy.1]
  · simp [n, hyb] at hy
theorem wps_alloc {k : Addr → M α} {cs : List Value} (h : ∀ b, wps g (H * pc b cs) (k ⟨b, 0, none⟩) Q) : wps g H (bindM (allocM cs) k) Q := fun w a Qf ho ha hq elem => by
  have := own_push ho (.cells cs.toArray elem) (World.allocC w cs.toArray elem) rfl ⟨rfl, rfl⟩ (fun _ _ _ h => by cases h; rfl)
  exact h w.heap.size _ _ Qf this.1 ⟨a, _, this.2, Hp.le_refl _, ha, ⟨elem, by simp⟩⟩ hq
theorem wps_newO {k : Nat → M α} {ob : Obj} (h : ∀ b, wps g (H * po b ob) (k b) Q) (hsf : Obj.soft ob := by intro _ _ _ h; cases h) : wps g H (bindM (newO ob) k) Q := fun w a Qf ho ha hq => by
  have := own_push ho ob (World.pushO w ob) rfl ⟨rfl, rfl⟩ hsf
  exact h w.heap.size _ _ Qf this.1 ⟨a, _, this.2, Hp.le_refl _, ha, by simp [po]⟩ hq
theorem wps_nil {k : Addr → M α} {ad : Addr} (h : wps g H (k ad) Q) : wps g H (bindM (nilM (some ad)) k) Q := fun w a Qf ho ha hq => ⟨ad, rfl, h w a Qf ho ha hq⟩
theorem wps_idx {k : Addr → M α} {s : Slc} {b off : Nat} {i : Int} {size : Nat} (n : Nat) (hb : s.base = some ⟨b, off, none⟩) (hi : i = (n : Int)) (hn : n < s.len) (h : wps g H (k ⟨b, off + n * size, none⟩) Q) : wps g H (bindM (idxM s i size) k) Q := fun w a Qf ho ha hq => by
  subst hi
  refine ⟨⟨b, off, none⟩, hb, by omega, by omega, ?_⟩
  rw [Addr.add_mk]
  simpa using h w a Qf ho ha hq
end
end Go.Mo
namespace Go.Mo
set_option linter.unusedVariables false
def orp (A B : HP) : HP := ⟨fun o => A.p o ∨ B.p o, fun hl h => h.elim (fun h => .inl (A.up hl h)) (fun h => .inr (B.up hl h))⟩
theorem ent_orl {A B C : HP} (h : Ent A B) : Ent A (orp B C) := fun o ho => .inl (h o ho)
theorem ent_orr {A B C : HP} (h : Ent A C) : Ent A (orp B C) := fun o ho => .inr (h o ho)
theorem or_ent {A B C : HP} (h : Ent A C) (h' : Ent B C) : Ent (orp A B) C := fun o ho => ho.elim (h o) (h' o)
def rslB (z : Nat) (s : Slc) (cs : List Value) : HP := ex fun ad : Addr => ex fun all : List Value => pr (s.base = some ⟨ad.block, ad.off, none⟩ ∧ cs.length = s.len * z ∧ s.len ≤ s.cap ∧ (all.drop ad.off).take (s.len * z) = cs) * ro ad.block all
def rsl (z : Nat) (s : Slc) (cs : List Value) : HP := orp (pr (s.len = 0 ∧ cs = [])) (rslB z s cs)
def own (z : Nat) (s : Slc) (cs : List Value) : HP := match s.base with
  | none => pr (s.len = 0 ∧ s.cap = 0 ∧ cs = [])
  | some ad => ex fun rest => pr (ad = ⟨ad.block, 0, none⟩ ∧ cs.length = s.len * z ∧ cs.length + rest.length = s.cap * z ∧ s.len ≤ s.cap) * pc ad.block (cs ++ rest)
def nilS : Slc := ⟨none, 0, 0⟩
theorem own_nil (z : Nat) : Ent emp (own z ⟨none, 0, 0⟩ []) := fun o _ => ⟨rfl, rfl, rfl⟩
theorem own_rsl (z : Nat) (s : Slc) (cs : List Value) : Ent (own z s cs) (rsl z s cs) := by
  obtain ⟨base, len, cap⟩ := s
  cases base with
  | none => exact fun o ho => .inl ⟨ho.1, ho.2.2⟩
  | some ad =>
    refine Ent.trans ?_ (ent_orr (Ent.refl _))
    show Ent (ex _) _
    refine ex_ent fun rest => pr_ent fun ⟨h1, h2, h3, h4⟩ => ent_ex ad (ent_ex (cs ++ rest) (ent_prr ⟨?_, h2, h4, ?_⟩ (pc_ro _ _)))
    · rw [h1]
    · have : ad.off = 0 := by rw [h1]
      simp only at h2 ⊢
      simp [this, ← h2]
theorem own_len (z : Nat) (s : Slc) (cs : List Value) : Ent (own z s cs) (pr (cs.length = s.len * z ∧ s.len ≤ s.cap)) := by
  unfold own
  cases h : s.base with
  | none => intro o ho; obtain ⟨h1, h2, h3⟩ := ho; subst h3; exact ⟨by simp [h1], by omega⟩
  | some ad => exact ex_ent fun rest => pr_ent fun h o _ => ⟨h.2.1, h.2.2.2⟩
section
variable {α β σ : Type} {g : Fr} {H H' : HP} {Q : α → HP}
theorem wps_wr {k : Unit → M α} {s : Slc} {i : Int} {cs : List Value} {v : Value} (n : Nat) (hp : H = H' * own 1 s cs) (hi : i = (n : Int)) (hn : n < s.len) (h : wps g (H' * own 1 s (cs.set n v)) (k ()) Q) :
    wps g H (bindM (idxM s i 1) fun a => bindM (st a v) k) Q := by
  subst hp
  obtain ⟨base, len, cap⟩ := s
  cases base with
  | none =>
    refine wps_false ?_
    refine Ent.trans (ent_right _ _) fun o ho => ?_
    have := ho.1
    simp only at this hn
    omega
  | some ad =>
    show wps g (H' * ex _) _ _
    refine wps_exr fun rest => ?_
    rw [star_left_comm]
    refine wps_pr fun ⟨h1, h2, h3, h4⟩ => ?_
    rw [h1]
    refine wps_idx n rfl hi hn ?_
    have h2' : cs.length = len := by simpa using h2
    have hn' : n < len := hn
    refine wps_st (by simp only [List.length_append]; omega) (wps_pre ?_ h)
    refine Ent.starr ?_
    show Ent _ (ex _)
    refine ent_ex rest (ent_prr ⟨h1, by simpa using h2, by simpa using h3, h4⟩ ?_)
    simp only [Nat.zero_add, Nat.mul_one]
    rw [List.set_append_left _ _ (by omega)]
    exact Ent.refl _
def ovw (cs : List Value) (off : Nat) (new : List Value) : List Value := cs.take off ++ new ++ cs.drop (off + new.length)
theorem ovw_nil (cs : List Value) (off : Nat) : ovw cs off [] = cs := by simp [ovw]
theorem ovw_cons {cs : List Value} {off : Nat} {v : Value} {new : List Value} (h : off + (new.length + 1) ≤ cs.length) : ovw (cs.set off v) (off + 1) new = ovw cs off (v :: new) := by
  have hlt : off < cs.length := by omega
  simp only [ovw, List.length_cons, List.append_assoc, List.cons_append]
  rw [List.take_set, List.drop_set_of_lt (by omega)]
  have : List.set (cs.take (off + 1)) off v = cs.take off ++ [v] := by
    rw [List.take_add_one, List.getElem?_eq_getElem hlt]
    rw [List.set_append_right _ _ (by rw [List.length_take]; omega)]
    simp [Nat.min_eq_left (Nat.le_of_lt hlt)]
  rw [this, List.append_assoc, List.singleton_append]
  congr 3
  congr 1
  omega
theorem storeRow_heap {b : Nat} : ∀ (new : List Value) (w : World) (off i : Nat) (cs : List Value) (e : TypeId), w.heap[b]? = some (.cells cs.toArray e) → off + i + new.length ≤ cs.length → (∀ v ∈ new, v.oneCell' = true) →
    storable w ⟨b, off, none⟩ i new ∧ ((storeRow w ⟨b, off, none⟩ i new).os = w.os ∧ (storeRow w ⟨b, off, none⟩ i new).output = w.output) ∧ ∀ y : Nat, (storeRow w ⟨b, off, none⟩ i new).heap[y]? = if y = b then some (.cells (ovw cs (off + i) new).toArray e) else w.heap[y]?
  | [], w, off, i, cs, e, hb, hl, hv => ⟨trivial, ⟨rfl, rfl⟩, fun y => by
      simp only [storeRow, ovw_nil]
      split
      · rename_i h; rw [h, hb]
      · rfl⟩
  | v :: new, w, off, i, cs, e, hb, hl, hv => by
    have hlt : off + i < cs.length := by simp only [List.length_cons] at hl; omega
    have hb' := setCell_heap (off := off + i) (v := v) hb
    have ih := storeRow_heap new (w.setCell ⟨b, off + i, none⟩ v) off (i + 1) (cs.set (off + i) v) e (by rw [hb' b]; simp) (by simp only [List.length_set, List.length_cons] at hl ⊢; omega) (fun v hv' => hv v (List.mem_cons_of_mem _ hv'))
    refine ⟨⟨hv v (List.mem_cons_self ..), ⟨cs[off + i], ?_⟩, ?_, ?_⟩, ?_, fun y => ?_⟩
    · rw [Addr.add_mk]; exact cell_of hb (List.getElem?_eq_getElem hlt)
    · rw [Addr.add_mk]; simp [World.frozen?, hb]
    · rw [Addr.add_mk]; exact ih.1
    · simp only [storeRow, Addr.add_mk]; exact ih.2.1
    · simp only [storeRow, Addr.add_mk]
      rw [ih.2.2 y]
      split
      · rename_i hy
        rw [← Nat.add_assoc, ovw_cons (by simp only [List.length_cons] at hl; omega)]
      · rename_i hy
        rw [hb', if_neg hy]
theorem own_row {w : World} {a : Hp} {g : Fr} {b off : Nat} {cs new : List Value} (ho : Own w a g) (ha : (H * pc b cs).p a) (hl : off + new.length ≤ cs.length) (hv : ∀ v ∈ new, v.oneCell' = true) :
    storable w ⟨b, off, none⟩ 0 new ∧ ∃ a', Own (storeRow w ⟨b, off, none⟩ 0 new) a' g ∧ (H * pc b (ovw cs off new)).p a' := by
  obtain ⟨a2, a1, hd, hl0, h2, e, h1⟩ := ha
  have hl' : Hp.le (Hp.un a1 a2) a := by rw [← Hp.un_comm hd]; exact hl0
  have hb : w.heap[b]? = some (.cells cs.toArray e) := by
    obtain ⟨r, h3, _⟩ := hl' b (.cells cs.toArray e) false (by simp [Hp.un, h1])
    exact ho.2.1 b _ _ h3
  obtain ⟨hs, hso, hh⟩ := storeRow_heap new w off 0 cs e hb (by omega) hv
  have := own_set ho (Hp.dis_symm hd) hl' h1 _ hh hso (fun _ _ _ h => by cases h; rfl)
  exact ⟨hs, _, this.1, a2, _, this.2, Hp.le_refl _, h2, e, by simp⟩
theorem wps_stA {k : Unit → M α} {b off : Nat} {cs vs : List Value} [hp : PickC b H cs H'] (hl : off + vs.length ≤ cs.length) (hv : ∀ v ∈ vs, v.oneCell' = true) (h : wps g (H' * pc b (ovw cs off vs)) (k ()) Q) :
    wps g H (bindM (stA ⟨b, off, none⟩ vs) k) Q := fun w a Qf ho ha hq => by
  rw [hp.eq] at ha
  obtain ⟨hs, a', ho', ha'⟩ := own_row ho ha hl hv
  exact ⟨hs, h _ a' Qf ho' ha' hq⟩
theorem zs_len (z : List Value) (n : Nat) : (zs z n).length = n * z.length := by simp [zs]
theorem growBy_le (n : Nat) : ∀ (r c d : Nat), c ≤ d → Builtin.growBy n r c ≤ d * 2 ^ r + 256 * 2 ^ r
  | 0, c, d, h => by simp [Builtin.growBy]; omega
  | r + 1, c, d, h => by
    simp only [Builtin.growBy]
    have h0 : d + 256 ≤ (d + 256) * 2 ^ (r + 1) := Nat.le_mul_of_pos_right _ (Nat.two_pow_pos _)
    split
    · rw [← Nat.add_mul]; omega
    · have := growBy_le n r (c + (c + 768) / 4) (2 * d + 256) (by omega)
      rw [← Nat.add_mul] at this ⊢
      refine Nat.le_trans this ?_
      rw [Nat.pow_succ, ← Nat.mul_assoc]
      have : (2 * d + 256 + 256) = (d + 256) * 2 := by omega
      rw [this, Nat.mul_right_comm]
      exact Nat.le_refl _
theorem nextcap_le {n c : Nat} (h : c ≤ n) : Builtin.nextslicecap n c ≤ 16 * n + 4096 := by
  unfold Builtin.nextslicecap
  split
  · omega
  · split
    · omega
    · have := growBy_le n 4 c n h
      omega
theorem cellsAt_rsl {w : World} {a : Hp} {g : Fr} {z : Nat} {s : Slc} {cs : List Value} (hp : Ent H (rsl z s cs)) (ho : Own w a g) (ha : H.p a) : cellsAt w s.base cs ∧ cs.length = s.len * z := by
  rcases hp a ha with hx | ⟨ad, all, hx⟩
  · rw [hx.2]
    refine ⟨?_, by simp [hx.1]⟩
    unfold cellsAt
    split
    · intro j v hj; simp at hj
    · rfl
  · have hpr := ent_left _ _ a hx
    have hro := ent_right _ _ a hx
    obtain ⟨h1, h2, h3, h4⟩ := hpr
    refine ⟨?_, h2⟩
    rw [h1]
    intro j v hj
    rw [Addr.add_mk]
    refine rd_cell (H := ro ad.block all) (Ent.refl _) ho hro ?_
    rw [← h4, List.getElem?_take] at hj
    split at hj
    · simpa using hj
    · cases hj
theorem wps_append {k : Slc → M α} {z : List Value} {bytes : Nat} {s x : Slc} (old new : List Value) (zl : Nat) (hzl : z.length = zl) (hz : 0 < zl) (hx : Ent H (rsl zl x new)) (hs : H = H' * own zl s old) (hv : ∀ v ∈ new, v.oneCell' = true)
    (hb : (16 * (s.len + x.len) + 4096) * bytes ≤ 2 ^ 48) (h : ∀ s', s'.len = s.len + x.len → wps g (H' * own zl s' (old ++ new)) (k s') Q) :
    wps g H (bindM (appendM z bytes s x) k) Q := fun w a Qf ho ha hq => by
  subst hzl
  obtain ⟨hc, hlx⟩ := cellsAt_rsl hx ho ha
  rw [hs] at ha
  refine ⟨new, hc, fun _ => hlx, ?_⟩
  obtain ⟨base, len, cap⟩ := s
  have hlen := own_len _ _ _ a (ent_right _ _ a ha)
  simp only at hlen h ⊢
  split
  · rename_i hle
    cases base with
    | none =>
      have : own z.length ⟨none, len, cap⟩ old = pr (len = 0 ∧ cap = 0 ∧ old = []) := rfl
      rw [this] at ha
      obtain ⟨h1, h2, h3⟩ := ent_right _ _ a ha
      subst h1 h2 h3
      have hx0 : x.len = 0 := by omega
      rw [hx0, Nat.zero_mul] at hlx
      have hn : new = [] := List.eq_nil_of_length_eq_zero hlx
      subst hn
      refine h ⟨none, 0 + x.len, 0⟩ rfl w a Qf ho ?_ hq
      have h0 := ent_left _ _ a ha
      rw [← star_emp H'] at h0
      refine Ent.starr ?_ a h0
      intro o _
      exact ⟨by simp [hx0], rfl, rfl⟩
    | some ad =>
      have hown : own z.length ⟨some ad, len, cap⟩ old = ex fun rest => pr (ad = ⟨ad.block, 0, none⟩ ∧ old.length = len * z.length ∧ old.length + rest.length = cap * z.length ∧ len ≤ cap) * pc ad.block (old ++ rest) := rfl
      rw [hown, star_ex] at ha
      obtain ⟨rest, ha⟩ := ha
      simp only at ha
      rw [star_left_comm] at ha
      obtain ⟨h1, h2, h3, h4⟩ := ent_left _ _ a ha
      have ha := ent_right _ _ a ha
      have hfit : new.length ≤ rest.length := by
        have : (len + x.len) * z.length ≤ cap * z.length := Nat.mul_le_mul_right _ hle
        rw [Nat.add_mul] at this; omega
      obtain ⟨hst, a', ho', ha'⟩ := own_row (off := len * z.length) ho ha (new := new) (by simp only [List.length_append]; omega) hv
      have had : Addr.add ad (len * z.length) = ⟨ad.block, len * z.length, none⟩ := by rw [h1, Addr.add_mk]; simp
      simp only [had]
      refine ⟨hst, ?_⟩
      refine h ⟨some ad, len + x.len, cap⟩ rfl _ a' Qf ho' ?_ hq
      refine Ent.starr ?_ a' ha'
      show Ent _ (ex _)
      refine ent_ex (rest.drop new.length) (ent_prr ⟨h1, ?_, ?_, hle⟩ ?_)
      · simp only [List.length_append, Nat.add_mul]; omega
      · simp only [List.length_append, List.length_drop]; omega
      · refine Ent.of_eq ?_
        congr 1
        simp only [ovw, ← h2, List.take_left', List.drop_append, List.append_assoc]
        congr 1
        congr 1
        rw [List.drop_eq_nil_of_le (by omega), List.nil_append]
        congr 1; omega
  · rename_i hgt
    refine ⟨?_, old, ?_, fun _ => hlen.1, fun newCap elem hcap => ?_⟩
    · have := nextcap_le (n := len + x.len) (c := cap) (by omega)
      exact Nat.le_trans (Nat.mul_le_mul_right _ this) hb
    · have := cellsAt_rsl (H := own z.length ⟨base, len, cap⟩ old) (own_rsl _ _ _) ho (ent_right _ _ a ha)
      exact this.1
    · have hp := own_push (own_draw ho) (.cells (old ++ new ++ zs z (newCap - (len + x.len))).toArray elem) (World.allocC (drawW w) (old ++ new ++ zs z (newCap - (len + x.len))).toArray elem) rfl ⟨rfl, rfl⟩ (fun _ _ _ h => by cases h; rfl)
      refine h ⟨some ⟨w.heap.size, 0, none⟩, len + x.len, newCap⟩ rfl _ _ Qf hp.1 ?_ hq
      refine ⟨a, _, hp.2, Hp.le_refl _, ent_left _ _ a ha, ?_⟩
      refine ⟨zs z (newCap - (len + x.len)), ?_⟩
      refine (ent_pr (A := pc w.heap.size (old ++ new ++ zs z (newCap - (len + x.len)))) ?_) _ ⟨elem, by simp [drawW]⟩
      refine ⟨rfl, ?_, ?_, hcap⟩
      · simp only [List.length_append, Nat.add_mul]; have := hlen.1; omega
      · simp only [List.length_append, zs_len]
        rw [hlen.1, hlx, ← Nat.add_mul, ← Nat.add_mul]
        congr 1; omega
end
end Go.Mo
namespace Go.Mo
set_option linter.unusedVariables false
theorem least {p : Nat → Prop} (h : ∃ n, p n) : ∃ n, p n ∧ ∀ m, p m → n ≤ m := by
  obtain ⟨n, hn⟩ := h
  induction n using Nat.strongRecOn with
  | _ n ih =>
    by_cases hx : ∃ m, m < n ∧ p m
    · obtain ⟨m, hm, hp⟩ := hx
      exact ih m hm hp
    · exact ⟨n, hn, fun m hm => Nat.le_of_not_lt fun hlt => hx ⟨m, hlt, hm⟩⟩
section
variable {α β σ γ : Type} {g : Fr} {H H' : HP} {Q : α → HP}
open Classical in
theorem wps_loopg {body : σ → M (σ ⊕ α)} {s : σ} (I : γ → σ → HP) (μ : γ → σ → Nat) (c : γ) (h0 : Ent H (I c s))
    (h : ∀ c s, wps g (I c s) (body s) (sumPost (fun s' => ex fun c' => pr (μ c' s' < μ c s) * I c' s') Q)) : wps g H (loopM body s) Q := fun w a Qf ho ha hq => by
  let pp : σ → World → Nat → Prop := fun s w n => ∃ c, μ c s = n ∧ Iv g (I c s) w
  let mu : σ → World → Nat := fun s w => if h : ∃ n, pp s w n then (least h).choose else 0
  have hmu : ∀ s w c, Iv g (I c s) w → mu s w ≤ μ c s ∧ pp s w (mu s w) := by
    intro s w c hc
    have hex : ∃ n, pp s w n := ⟨μ c s, c, rfl, hc⟩
    have : mu s w = (least hex).choose := dif_pos hex
    rw [this]
    exact ⟨(least hex).choose_spec.2 _ ⟨c, rfl, hc⟩, (least hex).choose_spec.1⟩
  refine ⟨fun s w => ∃ c, Iv g (I c s) w, mu, ⟨c, a, ho, h0 a ha⟩, fun s w ⟨c, hc⟩ => ?_⟩
  obtain ⟨c1, h1, a1, ho1, hi1⟩ := (hmu s w c hc).2
  refine h c1 s w a1 _ ho1 hi1 fun r w' b ho' hb => ?_
  cases r with
  | inl s' =>
    obtain ⟨c', hb⟩ := hb
    have hlt : μ c' s' < μ c1 s := (ent_left _ _) b hb
    have hiv : Iv g (I c' s') w' := ⟨b, ho', (ent_right _ _) b hb⟩
    exact ⟨⟨c', hiv⟩, by have := (hmu s' w' c' hiv).1; omega⟩
  | inr x => exact hq x w' b ho' hb
end
structure MapOk (es : List MapEntry) (clock : Nat) (f : Int → Option Value) : Prop where
  keys : intKeys es
  find : ∀ k v, f k = some v ↔ ∃ e ∈ es, keyIs k e = true ∧ e.val = v
  born : (es.map (·.born)).Pairwise (· < ·)
  below : ∀ e ∈ es, e.born < clock
  once : ∀ (i j : Nat) e e' k, es[i]? = some e → es[j]? = some e' → keyIs k e = true → keyIs k e' = true → i = j
theorem MapOk.mfind {es : List MapEntry} {clock : Nat} {f : Int → Option Value} (h : MapOk es clock f) (k : Int) : mfind es k = f k := by
  unfold Mo.mfind
  cases hf : es.find? (keyIs k) with
  | some e => exact ((h.find k e.val).2 ⟨e, List.mem_of_find?_eq_some hf, List.find?_some hf, rfl⟩).symm
  | none =>
    rw [List.find?_eq_none] at hf
    cases hk : f k with
    | none => rfl
    | some v =>
      obtain ⟨e, he, h1, _⟩ := (h.find k v).1 hk
      exact absurd h1 (hf e he)
def imap (m : Nat) (f : Int → Option Value) : HP := ex fun es : Array MapEntry => ex fun clock : Nat => pr (MapOk es.toList clock f) * po m (.map es clock)
theorem own_po {w : World} {a : Hp} {g : Fr} {H : HP} {b : Nat} {ob : Obj} (ho : Own w a g) (ha : (H * po b ob).p a) : w.heap[b]? = some ob := by
  obtain ⟨a2, a1, hd, hl, h2, h1⟩ := ha
  obtain ⟨r, h3, _⟩ := hl b ob false (by rw [Hp.un_comm hd]; simp [Hp.un]; left; exact h1)
  exact ho.2.1 b _ _ h3
theorem putObj_heap {w : World} {b : Nat} {ob ob' : Obj} (hb : w.heap[b]? = some ob) (y : Nat) : (w.putObj b ob').heap[y]? = if y = b then some ob' else w.heap[y]? := by
  have hlt := (Array.getElem?_eq_some_iff.1 hb).1
  simp only [World.putObj]
  rw [Array.getElem?_setIfInBounds]
  by_cases hy : y = b
  · subst hy; simp [hlt]
  · rw [if_neg (fun e => hy e.symm), if_neg hy]
theorem own_put {w : World} {a : Hp} {g : Fr} {H : HP} {b : Nat} {ob : Obj} (ob' : Obj) (hsf : Obj.soft ob') (ho : Own w a g) (ha : (H * po b ob).p a) : ∃ a', Own (w.putObj b ob') a' g ∧ (H * po b ob').p a' := by
  have hb := own_po ho ha
  obtain ⟨a2, a1, hd, hl, h2, h1⟩ := ha
  have := own_set ho (Hp.dis_symm hd) (by rw [← Hp.un_comm hd]; exact hl) h1 _ (putObj_heap (ob' := ob') hb) ⟨rfl, rfl⟩ hsf
  exact ⟨_, this.1, a2, _, this.2, Hp.le_refl _, h2, by simp [po]⟩
section
variable {α β σ γ κ : Type} {g : Fr} {H H' : HP} {Q : α → HP}
theorem keyIs_int {e : MapEntry} {n k : Int} (h : e.key = .int .i64 n) : keyIs k e = (k == n) := by simp [keyIs, h]
end
end Go.Mo
namespace Go.Mo
set_option linter.unusedVariables false
class Has (H A : HP) (H' : outParam HP) : Prop where
  eq : H = H' * A
instance Has.self (A : HP) : Has A A emp := ⟨(emp_star _).symm⟩
instance Has.here (H A : HP) : Has (H * A) A H := ⟨rfl⟩
instance (priority := low) Has.there (H B A H' : HP) [h : Has H A H'] : Has (H * B) A (H' * B) := ⟨by rw [h.eq, star_right_comm]⟩
instance (priority := low) Has.thereR (B H A H' : HP) [h : Has H A H'] : Has (B * H) A (B * H') := ⟨by rw [h.eq, star_assoc]⟩
class PickP (H : HP) (p : outParam Prop) (H' : outParam HP) : Prop where
  eq : H = H' * pr p
instance PickP.self (p : Prop) : PickP (pr p) p emp := ⟨(emp_star _).symm⟩
instance PickP.here (H : HP) (p : Prop) : PickP (H * pr p) p H := ⟨rfl⟩
instance (priority := low) PickP.there (H B : HP) (p : Prop) (H' : HP) [h : PickP H p H'] : PickP (H * B) p (H' * B) := ⟨by rw [h.eq, star_right_comm]⟩
instance (priority := low) PickP.thereR (B H : HP) (p : Prop) (H' : HP) [h : PickP H p H'] : PickP (B * H) p (B * H') := ⟨by rw [h.eq, star_assoc]⟩
class PickE (H : HP) (α : outParam Type) (A : outParam (α → HP)) (H' : outParam HP) : Prop where
  eq : H = H' * ex A
instance PickE.self (α : Type) (A : α → HP) : PickE (ex A) α A emp := ⟨(emp_star _).symm⟩
instance PickE.here (H : HP) (α : Type) (A : α → HP) : PickE (H * ex A) α A H := ⟨rfl⟩
instance (priority := low) PickE.there (H B : HP) (α : Type) (A : α → HP) (H' : HP) [h : PickE H α A H'] : PickE (H * B) α A (H' * B) := ⟨by rw [h.eq, star_right_comm]⟩
instance (priority := low) PickE.thereR (B H : HP) (α : Type) (A : α → HP) (H' : HP) [h : PickE H α A H'] : PickE (B * H) α A (B * H') := ⟨by rw [h.eq, star_assoc]⟩
class PickS (z : Nat) (s : Slc) (H : HP) (cs : outParam (List Value)) (H' : outParam HP) : Prop where
  eq : H = H' * own z s cs
instance PickS.self (z : Nat) (s : Slc) (cs : List Value) : PickS z s (own z s cs) cs emp := ⟨(emp_star _).symm⟩
instance PickS.here (z : Nat) (s : Slc) (cs : List Value) (H : HP) : PickS z s (H * own z s cs) cs H := ⟨rfl⟩
instance (priority := low) PickS.there (z : Nat) (s : Slc) (cs : List Value) (H B H' : HP) [h : PickS z s H cs H'] : PickS z s (H * B) cs (H' * B) := ⟨by rw [h.eq, star_right_comm]⟩
instance (priority := low) PickS.thereR (z : Nat) (s : Slc) (cs : List Value) (B H H' : HP) [h : PickS z s H cs H'] : PickS z s (B * H) cs (B * H') := ⟨by rw [h.eq, star_assoc]⟩
class PickM (m : Nat) (H : HP) (f : outParam (Int → Option Value)) (H' : outParam HP) : Prop where
  eq : H = H' * imap m f
instance PickM.self (m : Nat) (f : Int → Option Value) : PickM m (imap m f) f emp := ⟨(emp_star _).symm⟩
instance PickM.here (m : Nat) (f : Int → Option Value) (H : HP) : PickM m (H * imap m f) f H := ⟨rfl⟩
instance (priority := low) PickM.there (m : Nat) (f : Int → Option Value) (H B H' : HP) [h : PickM m H f H'] : PickM m (H * B) f (H' * B) := ⟨by rw [h.eq, star_right_comm]⟩
instance (priority := low) PickM.thereR (m : Nat) (f : Int → Option Value) (B H H' : HP) [h : PickM m H f H'] : PickM m (B * H) f (B * H') := ⟨by rw [h.eq, star_assoc]⟩
class RdS (z : Nat) (s : Slc) (H : HP) (cs : outParam (List Value)) : Prop where
  rd : Ent H (rsl z s cs)
instance (z : Nat) (s : Slc) (cs : List Value) : RdS z s (own z s cs) cs := ⟨own_rsl z s cs⟩
instance (z : Nat) (s : Slc) (cs : List Value) : RdS z s (rsl z s cs) cs := ⟨Ent.refl _⟩
instance RdS.right (z : Nat) (s : Slc) (cs : List Value) (A B : HP) [h : RdS z s B cs] : RdS z s (A * B) cs := ⟨Ent.trans (ent_right A B) h.rd⟩
instance (priority := low) RdS.left (z : Nat) (s : Slc) (cs : List Value) (A B : HP) [h : RdS z s A cs] : RdS z s (A * B) cs := ⟨Ent.trans (ent_left A B) h.rd⟩
theorem ent_pick {H A H' B : HP} [h : Has H A H'] (h' : Ent H' B) : Ent H (B * A) := by rw [h.eq]; exact Ent.starl h'
theorem ent_pickC {b : Nat} {H H' B : HP} {cs cs' : List Value} [h : PickC b H cs H'] (e : cs = cs') (h' : Ent H' B) : Ent H (B * pc b cs') := by rw [h.eq, e]; exact Ent.starl h'
theorem ent_pickS {z : Nat} {s : Slc} {H H' B : HP} {cs cs' : List Value} [h : PickS z s H cs H'] (e : cs = cs') (h' : Ent H' B) : Ent H (B * own z s cs') := by rw [h.eq, e]; exact Ent.starl h'
theorem ent_exr {α : Type} {A : α → HP} {B H : HP} (x : α) (h : Ent H (B * A x)) : Ent H (B * ex A) := Ent.trans h (Ent.starr (ent_ex x (Ent.refl _)))
theorem ent_prx {p : Prop} {H B : HP} (hp : p) (h : Ent H B) : Ent H (B * pr p) := by rw [star_comm]; exact ent_prr hp h
theorem ent_prq {p : Prop} {A : HP} (h : p) : Ent A (pr p) := fun _ _ => h
section
variable {α β σ : Type} {g : Fr} {H H' : HP} {Q : α → HP}
theorem wps_prP {p : Prop} {m : M α} [h : PickP H p H'] (h' : p → wps g H' m Q) : wps g H m Q := by
  rw [h.eq]; exact wps_prr h'
theorem wps_exP {γ : Type} {A : γ → HP} {m : M α} [h : PickE H γ A H'] (h' : ∀ x, wps g (H' * A x) m Q) : wps g H m Q := by
  rw [h.eq]; exact wps_exr h'
theorem wps_stepAlloc {R : HP} {cs : List Value} {k : Addr → M α} [d : Drops H R] (h : ∀ b, wps g (H * pc b cs) (k ⟨b, 0, none⟩) Q) : wps g H (bindM (stepI (Iv g R) (allocM cs)) k) Q :=
  fun w a Qf ho ha hq elem => by
    have hp := own_push ho (.cells cs.toArray elem) (World.allocC w cs.toArray elem) rfl ⟨rfl, rfl⟩ (fun _ _ _ h => by cases h; rfl)
    have ha' : (H * pc w.heap.size cs).p (Hp.un a fun y => if y = w.heap.size then some (.cells cs.toArray elem, false) else none) := ⟨a, _, hp.2, Hp.le_refl _, ha, ⟨elem, by simp⟩⟩
    exact ⟨⟨_, hp.1, Ent.trans (ent_left _ _) d.ent _ ha'⟩, h w.heap.size _ _ Qf hp.1 ha' hq⟩
theorem rsl_pc {b n z : Nat} {cs : List Value} [h : RdC b H cs] (hl : cs.length = n * z) : Ent H (rsl z ⟨some ⟨b, 0, none⟩, n, n⟩ cs) :=
  Ent.trans h.rd (ent_orr (ent_ex ⟨b, 0, none⟩ (ent_ex cs (ent_prr ⟨rfl, hl, Nat.le_refl _, by simp [← hl]⟩ (Ent.refl _)))))
theorem wps_app {k : Slc → M α} {z : List Value} {bytes : Nat} {s x : Slc} {old : List Value} (zl : Nat) (new : List Value) [hp : PickS zl s H old H'] (hzl : z.length = zl) (hz : 0 < zl) (hx : Ent H (rsl zl x new)) (hv : ∀ v ∈ new, v.oneCell' = true)
    (hb : (16 * (s.len + x.len) + 4096) * bytes ≤ 2 ^ 48) (h : ∀ s', s'.len = s.len + x.len → wps g (H' * own zl s' (old ++ new)) (k s') Q) : wps g H (bindM (appendM z bytes s x) k) Q :=
  wps_append old new zl hzl hz hx hp.eq hv hb h
theorem wps_wrS {k : Unit → M α} {s : Slc} {i : Int} {cs : List Value} {v : Value} (n : Nat) [hp : PickS 1 s H cs H'] (hi : i = (n : Int)) (hn : n < s.len) (h : wps g (H' * own 1 s (cs.set n v)) (k ()) Q) :
    wps g H (bindM (idxM s i 1) fun a => bindM (st a v) k) Q := wps_wr n hp.eq hi hn h
end
end Go.Mo
namespace Go.Mo
set_option linter.unusedVariables false
section
variable {α β σ τ ξ : Type} {g : Fr} {H H' : HP} {Q : α → HP}
theorem wps_take {m : M α} {D : Nat} [hp : PickO D H (.deferred (some [])) H'] (h : wps g H' m Q) : wps g H (takesM [D] m) Q := fun w a Qf ho ha hq => by
  rw [hp.eq] at ha
  obtain ⟨a', ho', ha'⟩ := own_put (.deferred none) (fun _ _ _ h => by cases h) ho ha
  exact ⟨own_po ho ha, h _ a' Qf ho' (ent_left _ _ a' ha') hq⟩
theorem wps_cvT {cv : CV} {enc : β → Value} {fv : Value} {args : Array Value} {R : β → HP} (h : wps g H (cv.call fv args) (fun v => ex fun y => pr (v = enc y) * R y)) : wps g H (cvT cv enc fv args) R := fun w a Qf ho ha hq =>
  h w a _ ho ha fun v w' a' ho' hb => by
    obtain ⟨y, hb⟩ := hb
    exact ⟨y, ent_left _ _ a' hb, hq y w' a' ho' (ent_right _ _ a' hb)⟩
theorem wps_yield {cv : CV} {yv : Value} {args : Array Value} {A B C : HP} (h : wps g A (cv.call yv args) fun v => orp (pr (v = .bool true) * B) (pr (v = .bool false) * C)) :
    wps g A (cvT cv Value.bool yv args) fun y => if y = true then B else C :=
  wps_cvT (wps_post h fun v => or_ent (ent_ex true (Ent.refl _)) (ent_ex false (Ent.refl _)))
theorem wps_round {mk : LoopState → Option Code → Obj} (hmk : ∀ st p, Obj.soft (mk st p)) {L : Nat} {asg : ξ → M τ} {body : τ → M (Unit ⊕ Jump)} {x : ξ} {B C : HP} {R : τ → HP} {E : Jump → HP}
    (hasg : ∀ g, wps g B (asg x) R) (hbody : ∀ t g, wps g (R t) (body t) fun r => match r with | .inl _ => C | .inr j => E j) :
    wps g (B * po L (mk .ready none)) (roundM mk L asg body x) fun v => orp (pr (v = .bool true) * (C * po L (mk .ready none))) (pr (v = .bool false) * ex fun j => E j * po L (mk .done (some j.code))) := fun w a Qf ho ha hq => by
  refine ⟨⟨none, own_po ho ha⟩, ?_⟩
  refine wps_frame (F := po L (mk .ready none)) (fun g' => hasg g') w a _ ho ha fun t w1 a1 ho1 ha1 => ?_
  refine ⟨none, own_po ho1 ha1, ?_⟩
  obtain ⟨a2, ho2, ha2⟩ := own_put (mk .busy none) (hmk _ _) ho1 ha1
  refine wps_frame (F := po L (mk .busy none)) (fun g' => hbody t g') _ a2 _ ho2 ha2 fun r w3 a3 ho3 ha3 => ?_
  cases r with
  | inl u =>
    refine ⟨none, own_po ho3 ha3, ?_⟩
    obtain ⟨a4, ho4, ha4⟩ := own_put (mk .ready none) (hmk _ _) ho3 ha3
    exact hq _ _ a4 ho4 (.inl (ent_pr rfl a4 ha4))
  | inr j =>
    refine ⟨none, own_po ho3 ha3, ?_⟩
    obtain ⟨a4, ho4, ha4⟩ := own_put (mk .done (some j.code)) (hmk _ _) ho3 ha3
    exact hq _ _ a4 ho4 (.inr (ent_pr rfl a4 ⟨j, ha4⟩))
end
end Go.Mo
namespace Go.Mo
set_option linter.unusedVariables false
structure ItrOk (es : Array MapEntry) (clock : Nat) (seen : Array Nat) (f : Int → Option Value) (V : Int → Bool) : Prop where
  map : MapOk es.toList clock f
  seen : ∀ e ∈ es.toList, ∀ k, keyIs k e = true → seen.contains e.born = V k
def itrC (it m : Nat) (es : Array MapEntry) (clock : Nat) (seen : Array Nat) : HP := po it (.mapIter (some m) clock seen clock) * po m (.map es clock)
theorem MapOk.one {es : List MapEntry} {clock : Nat} {f : Int → Option Value} (h : MapOk es clock f) {e e' : MapEntry} (he : e ∈ es) (he' : e' ∈ es) (hb : e.born = e'.born) : e = e' := by
  obtain ⟨i, hi, rfl⟩ := List.mem_iff_getElem.1 he
  obtain ⟨j, hj, rfl⟩ := List.mem_iff_getElem.1 he'
  have hp := List.pairwise_iff_getElem.1 h.born
  rcases Nat.lt_trichotomy i j with hlt | heq | hgt
  · have := hp i j (by simpa using hi) (by simpa using hj) hlt
    simp only [List.getElem_map] at this
    omega
  · subst heq; rfl
  · have := hp j i (by simpa using hj) (by simpa using hi) hgt
    simp only [List.getElem_map] at this
    omega
section
variable {α β σ γ κ : Type} {g : Fr} {H H' : HP} {Q : α → HP}
end
def toCome (n : Nat) (V : Int → Bool) : Nat := ((List.range n).filter fun i : Nat => !V (i : Int)).length
theorem toCome_lt {n : Nat} {V : Int → Bool} {j : Int} (hj : 0 ≤ j ∧ j < n) (hV : V j = false) : toCome n (fun i => V i || i == j) < toCome n V := by
  unfold toCome
  have hsub : ∀ l : List Nat, (l.filter fun i : Nat => !(V (i : Int) || (i : Int) == j)).length ≤ (l.filter fun i : Nat => !V (i : Int)).length := by
    intro l
    rw [← List.countP_eq_length_filter, ← List.countP_eq_length_filter]
    exact List.countP_mono_left fun x _ h => by
      cases hx : V (x : Int) with
      | true => rw [hx] at h; cases h
      | false => rfl
  obtain ⟨k, rfl⟩ : ∃ k : Nat, j = (k : Int) := ⟨j.toNat, by omega⟩
  have hk : k < n := by omega
  have hsplit : List.range n = List.range k ++ (k :: (List.range n).drop (k + 1)) := by
    have h1 := List.take_append_drop k (List.range n)
    rw [List.take_range, Nat.min_eq_left (by omega), List.drop_eq_getElem_cons (by simpa using hk)] at h1
    simpa using h1.symm
  rw [hsplit]
  simp only [List.filter_append, List.length_append, List.filter_cons]
  have a1 := hsub (List.range k)
  have a2 := hsub ((List.range n).drop (k + 1))
  simp [hV]
  simp at a1 a2
  omega
end Go.Mo
namespace Go.Mo
set_option linter.unusedVariables false
section
variable {α β σ τ ξ : Type} {g : Fr} {H H' : HP} {Q : α → HP}
def IterG {ς : Type} (cv : CV) (fv : Value) (encX : ξ → Array Value) (s0 : ς) (nx : ς → ξ → ς → Prop) (fin : ς → Prop) (A : HP) : Prop :=
  ∀ (yv : Value) (I : ς → HP) (E : HP),
    (∀ (s : ς) (x : ξ) (s' : ς), nx s x s' → ∀ g, wps g (A * I s) (cv.call yv (encX x)) fun v => orp (pr (v = .bool true) * (A * I s')) (pr (v = .bool false) * (A * E))) →
    ∀ g, wps g (A * I s0) (cv.enter fv #[yv]) fun _ => A * orp (ex fun s => pr (fin s) * I s) E
theorem wps_rangeG {cv : CV} {fv : Value} {encX : ξ → Array Value} {asg : ξ → M τ} {body : τ → M (Unit ⊕ Jump)} {kn kr : Nat → M α} {ke : Nat → Nat → M α} {ς : Type} {s0 : ς} {nx : ς → ξ → ς → Prop} {fin : ς → Prop} {A F : HP} (I : ς → HP) (E : Jump → HP) (R : ς → ξ → ς → τ → HP)
    (hit : IterG cv fv encX s0 nx fin A) (h0 : Ent H (F * (A * I s0)))
    (hasg : ∀ (s : ς) (x : ξ) (s' : ς), nx s x s' → ∀ g, wps g (A * I s) (asg x) (R s x s'))
    (hbody : ∀ (s : ς) (x : ξ) (s' : ς), nx s x s' → ∀ t g, wps g (R s x s' t) (body t) fun r => match r with | .inl _ => A * I s' | .inr j => A * E j)
    (hn : ∀ D, wps g (F * (A * ex fun s => pr (fin s) * I s) * po D (.deferred (some []))) (kn D) Q)
    (hr : ∀ D, wps g (F * (A * E .ret) * po D (.deferred (some []))) (kr D) Q)
    (he : ∀ D id, wps g (F * (A * E (.exit id)) * po D (.deferred (some []))) (ke D id) Q) : wps g H (rangeFM cv fv encX asg body kn kr ke) Q := fun w a Qf ho ha hq => by
  intro mk hmk0 hyield
  have hmk : ∀ st p, Obj.soft (mk st p) := fun st p cs e f h => absurd h (hmk0 st p cs e f)
  have ha := h0 a ha
  have p1 := own_push ho (.deferred (some [])) (World.pushO w (.deferred (some []))) rfl ⟨rfl, rfl⟩ (fun _ _ _ h => by cases h)
  have q1 : (F * (A * I s0) * po w.heap.size (.deferred (some []))).p _ := ⟨a, _, p1.2, Hp.le_refl _, ha, by simp [po]⟩
  have p2 := own_push p1.1 (mk .ready none) (World.pushO (World.pushO w (.deferred (some []))) (mk .ready none)) rfl ⟨rfl, rfl⟩ (hmk _ _)
  have hsz : (World.pushO w (.deferred (some []))).heap.size = w.heap.size + 1 := by simp [World.pushO]
  have q2 : (F * (A * I s0) * po w.heap.size (.deferred (some [])) * po (w.heap.size + 1) (mk .ready none)).p _ := ⟨_, _, p2.2, Hp.le_refl _, q1, by rw [← hsz]; simp [po]⟩
  have hgo := hit (yieldV (w.heap.size + 1)) (fun i => I i * po (w.heap.size + 1) (mk .ready none)) (ex fun j => E j * po (w.heap.size + 1) (mk .done (some j.code))) (fun s x s' hx g' => by
    intro w1 a1 Qf1 ho1 ha1 hq1
    refine hyield x Qf1 w1 ?_
    refine wps_round hmk (hasg s x s' hx) (hbody s x s' hx) w1 a1 Qf1 ho1 (by rw [star_assoc]; exact ha1) fun v w2 a2 ho2 ha2 => hq1 v w2 a2 ho2 ?_
    rcases ha2 with ha2 | ha2
    · left; rw [star_assoc] at ha2; exact ha2
    · right
      refine Ent.starr ?_ a2 ha2
      refine ex_ent fun j => ?_
      rw [star_assoc]
      exact Ent.starr (ent_ex j (Ent.refl _)))
  have hfr := wps_frame (g := g) (F := F * po w.heap.size (.deferred (some []))) hgo
  refine hfr _ _ _ p2.1 ?_ fun v w3 a3 ho3 ha3 => ?_
  · refine Ent.of_eq ?_ _ q2
    simp only [star_assoc]
    ac_rfl
  · have hsplit : ∀ B : HP, ∀ ob, (A * (B * po (w.heap.size + 1) ob) * (F * po w.heap.size (.deferred (some [])))) = (F * (A * B) * po w.heap.size (.deferred (some [])) * po (w.heap.size + 1) ob) := by
      intro B ob; ac_rfl
    have ha3' : (orp (F * (A * ex fun s => pr (fin s) * I s) * po w.heap.size (.deferred (some [])) * po (w.heap.size + 1) (mk .ready none))
        (ex fun j => F * (A * E j) * po w.heap.size (.deferred (some [])) * po (w.heap.size + 1) (mk .done (some j.code)))).p a3 := by
      obtain ⟨x1, x2, hd, hl, ⟨y1, y2, hd', hl', hA, hor⟩, hF⟩ := ha3
      rcases hor with hor | hor
      · left
        rw [← hsplit]
        obtain ⟨s, hs⟩ := hor
        have hor' : ((ex fun s => pr (fin s) * I s) * po (w.heap.size + 1) (mk .ready none)).p y2 := by
          rw [ex_star]; refine ⟨s, ?_⟩
          show HP.p (pr (fin s) * I s * _) _
          rw [star_assoc]; exact hs
        exact ⟨x1, x2, hd, hl, ⟨y1, y2, hd', hl', hA, hor'⟩, hF⟩
      · right
        obtain ⟨j, hor⟩ := hor
        refine ⟨j, ?_⟩
        show (F * (A * E j) * po w.heap.size (.deferred (some [])) * po (w.heap.size + 1) (mk .done (some j.code))).p a3
        rw [← hsplit]
        exact ⟨x1, x2, hd, hl, ⟨y1, y2, hd', hl', hA, hor⟩, hF⟩
    rcases ha3' with ha3 | ⟨j, ha3⟩
    · refine ⟨.ready, none, own_po ho3 ha3, by simp, ?_⟩
      obtain ⟨a4, ho4, ha4⟩ := own_put (mk .exhausted none) (hmk _ _) ho3 ha3
      exact hn _ _ a4 Qf ho4 (ent_left _ _ a4 ha4) hq
    · refine ⟨.done, some j.code, own_po ho3 ha3, by simp, j, rfl, ?_⟩
      obtain ⟨a4, ho4, ha4⟩ := own_put (mk .exhausted (some j.code)) (hmk _ _) ho3 ha3
      have ha5 := ent_left _ _ a4 ha4
      cases j with
      | ret => exact hr _ _ a4 Qf ho4 ha5 hq
      | exit id => exact he _ id _ a4 Qf ho4 ha5 hq
def itrF (it m : Nat) (es : Array MapEntry) (clock : Nat) (f : Int → Option Value) (V : Int → Bool) : HP := ex fun seen : Array Nat => pr (ItrOk es clock seen f V) * itrC it m es clock seen
def itrAtF (it m : Nat) (es : Array MapEntry) (clock : Nat) (f : Int → Option Value) (V : Int → Bool) (j : Int) (v : Value) : HP := ex fun seen : Array Nat =>
  pr (ItrOk es clock seen f (fun i => V i || i == j) ∧ ∃ e ∈ es.toList, e.key = .int .i64 j ∧ e.val = v ∧ seen.back? = some e.born) * itrC it m es clock seen
theorem wps_rangeMapF {k : Addr → M α} {m : Nat} {es : Array MapEntry} {clock : Nat} {f : Int → Option Value} (hm : MapOk es.toList clock f) [hp : PickO m H (.map es clock) H'] (h : ∀ it, wps g (H' * itrF it m es clock f (fun _ => false)) (k ⟨it, 0, none⟩) Q) : wps g H (bindM (rangeMapM (some m)) k) Q := fun w a Qf ho ha hq => by
  rw [hp.eq] at ha
  refine ⟨es, clock, own_po ho ha, ?_⟩
  have hpu := own_push ho (.mapIter (some m) clock #[] clock) (World.pushO w (.mapIter (some m) clock #[] clock)) rfl ⟨rfl, rfl⟩ (fun _ _ _ h => by cases h)
  have q1 : (H' * po m (.map es clock) * po w.heap.size (.mapIter (some m) clock #[] clock)).p _ := ⟨a, _, hpu.2, Hp.le_refl _, ha, by simp [po]⟩
  refine h w.heap.size _ _ Qf hpu.1 (?_ : HP.p _ _) hq
  refine Ent.trans (Ent.of_eq (star_assoc _ _ _)) (Ent.starr ?_) _ q1
  refine ent_ex #[] (ent_prr ⟨hm, fun e he k hk => by simp⟩ ?_)
  rw [star_comm]; exact Ent.refl _
theorem wps_nextF {k : Option (Value × Value) → M α} {it m : Nat} {f : Int → Option Value} {V : Int → Bool} {es : Array MapEntry} {clock : Nat} (hH : H = H' * itrF it m es clock f V)
    (h0 : (∀ j v, f j = some v → V j = true) → wps g (H' * itrF it m es clock f V) (k none) Q)
    (h1 : ∀ j v, f j = some v → V j = false → wps g (H' * itrAtF it m es clock f V j v) (k (some (.int .i64 j, v))) Q) : wps g H (bindM (nextM ⟨it, 0, none⟩) k) Q := fun w a Qf ho ha hq => by
  rw [hH] at ha
  unfold itrF at ha
  rw [star_ex] at ha
  obtain ⟨seen, ha⟩ := ha
  simp only at ha
  rw [star_left_comm] at ha
  have hok : ItrOk es clock seen f V := ent_left _ _ a ha
  have ha := ent_right _ _ a ha
  have ham : (H' * po it (.mapIter (some m) clock seen clock) * po m (.map es clock)).p a := by rw [star_assoc]; exact ha
  have hai : (H' * po m (.map es clock) * po it (.mapIter (some m) clock seen clock)).p a := by rw [star_right_comm]; exact ham
  have hmem := own_po ho ham
  have hit := own_po ho hai
  refine ⟨rfl, .inr ⟨m, clock, seen, clock, es, clock, hit, hmem, ?_, ?_, ?_⟩⟩
  · cases hes : es.isEmpty with
    | true => simp
    | false =>
      have : ¬ (es.all fun e => decide (e.born ≥ clock)) = true := by
        intro hall
        rw [Array.all_eq_true_iff_forall_mem] at hall
        have hne : es.size ≠ 0 := by
          intro h0; simp at h0; simp [h0] at hes
        have h1 := hall es[0] (Array.getElem_mem (by omega))
        have h2 := hok.map.below es[0] (by rw [Array.mem_toList_iff]; exact Array.getElem_mem (by omega))
        simp at h1; omega
      simp only [Bool.and_eq_false_iff]
      right
      simpa using this
  · unfold iterCands
    simp only
    split
    · simp
    · rename_i hne
      have h2 : 0 < ((iterLeft es seen).filter fun x => decide (x.born < clock)).size := by
        rw [Array.isEmpty_iff_size_eq_zero] at hne
        omega
      simp only [Array.size_append, Array.size_map]
      omega
  · intro c hc
    have hmemc : (c = none ∧ ∀ e ∈ es.toList, seen.contains e.born = true) ∨ ∃ e ∈ es.toList, seen.contains e.born = false ∧ c = some e := by
      unfold iterCands at hc
      simp only at hc
      rw [Array.mem_append] at hc
      rcases hc with hc | hc
      · split at hc
        · rename_i hem
          left
          refine ⟨by simpa using hc, fun e he => ?_⟩
          rw [Array.isEmpty_iff_size_eq_zero, Array.size_eq_zero_iff, Array.filter_eq_empty_iff] at hem
          cases hs : seen.contains e.born with
          | true => rfl
          | false =>
            have hl : e ∈ iterLeft es seen := by
              unfold iterLeft
              rw [Array.mem_filter]
              exact ⟨Array.mem_toList_iff.1 he, by simp only [hs]; rfl⟩
            exact absurd (decide_eq_true (hok.map.below e he)) (hem e hl)
        · simp at hc
      · right
        rw [Array.mem_map] at hc
        obtain ⟨e, he, rfl⟩ := hc
        have hl : e ∈ iterLeft es seen := by
          rw [Array.mem_append] at he
          rcases he with he | he
          · exact (Array.mem_filter.1 he).1
          · exact (Array.mem_filter.1 he).1
        unfold iterLeft at hl
        rw [Array.mem_filter] at hl
        exact ⟨e, Array.mem_toList_iff.2 hl.1, by simpa using hl.2, rfl⟩
    rcases hmemc with ⟨rfl, hall⟩ | ⟨e, he, hs, rfl⟩
    · have hall' : ∀ j v, f j = some v → V j = true := fun j v hj => by
        obtain ⟨e, he, hk, _⟩ := (hok.map.find j v).1 hj
        rw [← hok.seen e he j hk]
        exact hall e he
      have hpost : (H' * itrF it m es clock f V).p a := by
        refine Ent.starr ?_ a ha
        exact ent_ex seen (ent_prr hok (Ent.refl _))
      exact ⟨h0 hall' w a Qf ho hpost hq, h0 hall' (drawW w) a Qf (own_draw ho) hpost hq⟩
    · obtain ⟨j, hj⟩ := hok.map.keys e he
      have hkj : keyIs j e = true := by rw [keyIs_int hj]; simp
      have hfj : f j = some e.val := (hok.map.find j e.val).2 ⟨e, he, hkj, rfl⟩
      have hVj : V j = false := by rw [← hok.seen e he j hkj]; exact hs
      have hok' : ItrOk es clock (seen.push e.born) f (fun i => V i || i == j) := ⟨hok.map, fun e' he' i hi => by
        have h2 := hok.seen e' he' i hi
        obtain ⟨n', hn'⟩ := hok.map.keys e' he'
        have hni : i = n' := by rw [keyIs_int hn'] at hi; simpa using hi
        have hcp : (seen.push e.born).contains e'.born = (seen.contains e'.born || e'.born == e.born) := by
          rw [Bool.eq_iff_iff]; simp [Array.mem_push]
        rw [hcp, h2]
        congr 1
        by_cases hb : e'.born = e.born
        · have := hok.map.one he' he hb
          subst this
          rw [hj] at hn'; cases hn'
          simp [hni]
        · have : ¬ i = j := by
            intro hij
            subst hij
            obtain ⟨x, hx⟩ := List.mem_iff_getElem?.1 he'
            obtain ⟨y, hy⟩ := List.mem_iff_getElem?.1 he
            have hxy := hok.map.once x y e' e i hx hy hi hkj
            subst hxy
            rw [hx] at hy
            exact hb (by rw [Option.some.inj hy])
          rw [show (e'.born == e.born) = false from by simpa using hb, show (i == j) = false from by simpa using this]⟩
      have step : ∀ w1, Own w1 a g → nextPost (fun y w' => k y Qf w') it m clock seen clock w1 (some e) := by
        intro w1 ho1
        obtain ⟨a', ho', ha'⟩ := own_put (.mapIter (some m) clock (seen.push e.born) clock) (fun _ _ _ h => by cases h) ho1 hai
        show k (some (e.key, e.val)) Qf _
        rw [hj]
        refine h1 j e.val hfj hVj _ a' Qf ho' ?_ hq
        refine Ent.trans (Ent.of_eq (star_assoc _ _ _)) (Ent.starr ?_) a' ha'
        refine ent_ex (seen.push e.born) (ent_prr ⟨hok', e, he, hj, rfl, by simp⟩ ?_)
        unfold itrC
        rw [star_comm]; exact Ent.refl _
      exact ⟨step w ho, step (drawW w) (own_draw ho)⟩
theorem wps_entryF {ev : β → Value} {k : Int × β → M α} {it m : Nat} {f : Int → Option Value} {V : Int → Bool} {j : Int} {v : Value} {es : Array MapEntry} {clock : Nat} (y : β) (hH : H = H' * itrAtF it m es clock f V j v) (hy : v = ev y)
    (h : wps g (H' * itrF it m es clock f (fun i => V i || i == j)) (k (j, y)) Q) : wps g H (bindM (entryM (Value.int .i64) ev ⟨it, 0, none⟩) k) Q := fun w a Qf ho ha hq => by
  rw [hH] at ha
  unfold itrAtF at ha
  rw [star_ex] at ha
  obtain ⟨seen, ha⟩ := ha
  simp only at ha
  rw [star_left_comm] at ha
  obtain ⟨hok, e, he, hk, hv, hb⟩ := ent_left _ _ a ha
  have ha := ent_right _ _ a ha
  have ham : (H' * po it (.mapIter (some m) clock seen clock) * po m (.map es clock)).p a := by rw [star_assoc]; exact ha
  have hai : (H' * po m (.map es clock) * po it (.mapIter (some m) clock seen clock)).p a := by rw [star_right_comm]; exact ham
  refine ⟨rfl, m, clock, seen, clock, es, clock, e.born, e, j, y, own_po ho hai, hb, own_po ho ham, rfl, ?_, hk, by rw [hv, hy], h w a Qf ho ?_ hq⟩
  · have : es.find? (fun x => x.born == e.born) = some e := by
      rw [← Array.find?_toList]
      cases hf : es.toList.find? (fun x => x.born == e.born) with
      | none =>
        rw [List.find?_eq_none] at hf
        exact absurd (by simp) (hf e he)
      | some e' =>
        have h1 := List.find?_some hf
        have h2 := List.mem_of_find?_eq_some hf
        rw [hok.map.one h2 he (by simpa using h1)]
    exact this
  · refine Ent.starr ?_ a ha
    exact ent_ex seen (ent_prr hok (Ent.refl _))
end
end Go.Mo
namespace Go.Mo
set_option linter.unusedVariables false
section
variable {rd : Option Nat} {P : Program} {n : Nd} {Q : Exit → Act → World → Prop} {α β : Type} {Qf : α → World → Prop} {ops : Array Oper} {T : Tm} {o : Oper} {K : Act → World → Prop} {S : World → Prop} {d : Nat}
theorem wpF_sub {S S2 : World → Prop} {F : Nat → Bool} (hF : ∀ i, F i = false) (hs : ∀ w, S2 w → S w) : ∀ (fuel : Nat) (listed : Array Bool) (a : Act) (w : World), S2 w → wpF rd P ops Q S2 F fuel listed a w → wpF rd P ops Q S F fuel listed a w
  | 0, _, _, _, _, h => h
  | fuel + 1, _, _, w, h0, h => ⟨h.1, fun i hi => wpOpIn_mono (fun a' w' h' => ⟨fun _ _ => hs _ (h'.1 h0 (hF i)), wpF_sub hF hs fuel _ a' w' (h'.1 h0 (hF i)) h'.2⟩) (h.2 i hi)⟩
def againM (I : World → Prop) (body : (World → Prop) → M α) : M α := fun Q w => ∃ I2 : World → Prop, (∀ w', I2 w' → I w') ∧ I2 w ∧ body I2 Q w
theorem KT.again {F : Nat → Bool} {fuel : Nat} {listed : Array Bool} {body : (World → Prop) → M α} (hF : ∀ i, F i = false) (h : ∀ S2, KT n Qf T (body S2) (AH rd P ops Q S2 F fuel listed)) :
    KT n Qf T (againM S body) (AH rd P ops Q S F fuel listed) := fun a w hA ⟨S2, hs, h2, hm⟩ _ => wpF_sub hF hs _ _ _ _ h2 (h S2 a w hA hm h2)
end
end Go.Mo

namespace Go.Mo
set_option linter.unusedVariables false
variable {α : Type} {rd : Option Nat} {P : Program} {Q : Exit → Act → World → Prop} {n : Nd} {Qf : α → World → Prop} {o : Oper} {T : Tm} {K : Act → World → Prop} {d : Nat} {S : World → Prop}
def noZeroM (n : Int) : M Slc := fun Q w => 0 ≤ n ∧ n ≤ 281474976710656 ∧ ∀ (cs : List Value) (elem : TypeId), n.toNat ≤ cs.length → Q ⟨some ⟨w.heap.size, 0, none⟩, n.toNat, cs.length⟩ (World.allocC (drawW (drawW w)) cs.toArray elem)
theorem OW.noZero {k : Slc → M α} {nn : Int} (f : FuncId) (ps : Array TypeId) (t e : TypeId) (hd : defined T o = true) (he : ∀ w, (execOp (rho T) o).run P w = (callFunc f #[.int .i64 nn]).run P w)
    (hr : ∀ w, (callFunc f #[.int .i64 nn]).run P w = ((Extern.BytealgMakeNoZero.makeNoZero ps #[t] #[.int .i64 nn]).run P w).andThen fun v w' => .ok (.value v) w') (ht : P.underlying t = some (.slice e))
    (hn : o.dst = some d) (hb : Nat.blt d n.n = true) (h : ∀ s, KT n Qf ((d, vS s) :: T) (k s) K) : OW rd P Q n Qf o T (bindM (noZeroM nn) k) K := fun a w hA hm => by
  obtain ⟨h0, h1, hm⟩ := hm
  obtain ⟨m, rfl⟩ : ∃ m : Nat, nn = (m : Int) := ⟨nn.toNat, by omega⟩
  obtain ⟨cs, hrun, hle, _⟩ := Lib.run_makeNoZero (P := P) w ps t e ht m (by omega)
  have hm := hm cs.toList e (by simpa using hle)
  have hx : (execOp a.eval o).run P w = .ok (.value (.slice (some ⟨w.heap.size, 0, none⟩) m cs.size)) (World.allocC (drawW (drawW w)) cs.toList.toArray e) := by
    rw [exec_rho hA hd, he, hr, hrun]
    rfl
  refine wpIn_value hx ?_
  rw [hn]
  have := h ⟨some ⟨w.heap.size, 0, none⟩, m, cs.size⟩ _ _ (hA.put hb _) (by simpa using hm)
  exact this
end Go.Mo
namespace Go.Mo
set_option linter.unusedSimpArgs false
set_option linter.unusedVariables false
def key2 (k : Int × Int) : Value := .agg #[.int .i64 k.1, .int .i64 k.2]
def pairOf : Value → Int × Int
  | .agg ⟨[.int _ a, .int _ b]⟩ => (a, b)
  | _ => (0, 0)
theorem pairOf_key2 (k : Int × Int) : pairOf (key2 k) = k := rfl
def pairKeys (es : List MapEntry) : Prop := ∀ e ∈ es, ∃ k, e.key = key2 k
def keyIs2 (k : Int × Int) (e : MapEntry) : Bool := k == pairOf e.key
theorem keyIs2_pair {e : MapEntry} {n k : Int × Int} (h : e.key = key2 n) : keyIs2 k e = (k == n) := by rw [keyIs2, h, pairOf_key2]
def entM {β : Type} (enc : β → Value) (z : β) (m : Option Nat) (k : Int × Int) : M (β × Int) := fun Q w => ∃ r es clock, m = some r ∧ w.heap[r]? = some (.map es clock) ∧ pairKeys es.toList ∧
  ((∃ y i e, es.toList.findIdx? (keyIs2 k) = some i ∧ es.toList[i]? = some e ∧ e.val = enc y ∧ Q (y, (e.born : Int)) (w.putObj r (.map es clock))) ∨
   (es.toList.findIdx? (keyIs2 k) = none ∧ Q (z, (clock : Int)) (w.putObj r (.map (es.push { key := key2 k, val := enc z, born := clock }) (clock + 1)))))
section
variable {rd : Option Nat} {P : Program} {n : Nd} {Q : Exit → Act → World → Prop} {α β σ : Type} {Qf : α → World → Prop} {ops : Array Oper}
variable {o : Oper} {T : Tm} {K : Act → World → Prop} {S : World → Prop} {d : Nat}
theorem run_checkKey_intD {t : TypeId} {ki : IntKind} (ht : P.underlying t = some (.int ki)) (e : Bool) (m : Nat) (k : Int) (w : World) : (Instr.checkKey e (m + 1) t (.int .i64 k)).run P w = .ok () w := by simp [Instr.checkKey, run_under ht]
theorem run_checkKey2 {t : TypeId} {f0 f1 : Field} (ht : P.underlying t = some (.struct #[f0, f1])) (h0 : intField P f0 0 = true) (h1 : intField P f1 1 = true) (e : Bool) (k : Int × Int) (w : World) : (Instr.checkKey e 10000 t (key2 k)).run P w = .ok () w := by
  obtain ⟨k0, u0⟩ := intField_under h0
  obtain ⟨k1, u1⟩ := intField_under h1
  have p0 := run_part_int h0 #[.int .i64 k.1, .int .i64 k.2] (.int .i64 k.1) rfl w
  have p1 := run_part_int h1 #[.int .i64 k.1, .int .i64 k.2] (.int .i64 k.2) rfl w
  have key : ∀ m : Nat, (Instr.checkKey e (m + 2) t (.agg #[.int .i64 k.1, .int .i64 k.2])).run P w = .ok () w := fun m => by
    rw [show m + 2 = (m + 1) + 1 from rfl]
    unfold Instr.checkKey
    simp only [Sem.run_bind, run_under ht, Result.andThen_ok]
    rw [← Array.forIn_toList]
    simp [intField_name h0, intField_name h1, Sem.run_bind, p0, p1, run_checkKey_intD u0 e m, run_checkKey_intD u1 e m]
  exact key 9998
theorem run_findAsking2 {t : TypeId} {f0 f1 : Field} (ht : P.underlying t = some (.struct #[f0, f1])) (hst : P.stoodInHeld t = false) (h0 : intField P f0 0 = true) (h1 : intField P f1 1 = true) (k : Int × Int) (w : World) : ∀ (es : List MapEntry) (i : Nat), pairKeys es →
    (Instr.findAsking t (key2 k) es i).run P w = .ok (match es.findIdx? (keyIs2 k) with | some j => (es[j]?).map fun e => (i + j, e.val) | none => none) w := by
  intro es
  induction es with
  | nil => intro i _; simp [Instr.findAsking]
  | cons e es ih =>
    intro i h
    obtain ⟨m, hm⟩ := h e (by simp)
    have ih' := ih (i + 1) (fun e he => h e (by simp [he]))
    have he := run_eq2 ht hst h0 h1 k m w
    have hk2 : keyIs2 k e = eq2 k m := by rw [keyIs2_pair hm]; rfl
    simp only [Instr.findAsking, hm, Sem.run_bind, List.findIdx?_cons, hk2]
    rw [show (Op.equal t (key2 k) (key2 m)).run P w = .ok (eq2 k m) w from he]
    simp only [Result.andThen_ok]
    cases hq : eq2 k m with
    | true => simp
    | false =>
      simp only [Bool.false_eq_true, if_false]
      rw [ih']
      congr 1
      cases hf : List.findIdx? (keyIs2 k) es with
      | none => simp
      | some j => simp [Nat.add_assoc, Nat.add_comm 1 j]
theorem run_findKey2 {t : TypeId} {f0 f1 : Field} (ht : P.underlying t = some (.struct #[f0, f1])) (hst : P.stoodInHeld t = false) (h0 : intField P f0 0 = true) (h1 : intField P f1 1 = true) (k : Int × Int) (es : List MapEntry) (h : pairKeys es) (w : World) :
    (Instr.findKey t (key2 k) es).run P w = .ok (match es.findIdx? (keyIs2 k) with | some j => (es[j]?).map fun e => (j, e.val) | none => none) w := by
  have ha := run_findAsking2 ht hst h0 h1 k w es 0 h
  simp only [Nat.zero_add] at ha
  cases es with
  | nil => simp [Instr.findKey, Instr.findNow, run_under ht]
  | cons e es =>
    simp only [Instr.findKey, Sem.run_bind, run_under ht, Result.andThen_ok]
    have : Instr.findNow (.struct #[f0, f1]) (key2 k) (e :: es) 0 = none := by simp [Instr.findNow, Instr.sameNow]
    rw [this]
    exact ha
theorem keyStays2 (k : Int × Int) (w : World) : (Instr.keyThatStays (key2 k) (key2 k)).run P w = .ok (key2 k) w := by
  have : Instr.sameBits 10000 (key2 k) (key2 k) = true := by simp [Instr.sameBits, key2]
  simp [Instr.keyThatStays, this]
theorem modify_same {es : Array MapEntry} {i : Nat} {e : MapEntry} {k : Value} (h : es[i]? = some e) (hk : e.key = k) : (es.modify i fun e => { e with key := k }) = es := by
  apply Array.ext_getElem?
  intro j
  rw [Array.getElem?_modify]
  by_cases hj : i = j
  · subst hj
    rw [if_pos rfl, h]
    subst hk
    rfl
  · rw [if_neg hj]
def structKeys (P : Program) (kt : TypeId) (f0 f1 : Field) : Bool := !P.stoodInHeld kt && intField P f0 0 && intField P f1 1
theorem OW.ent {k : β × Int → M α} {enc : β → Value} {m : Option Nat} {key : Int × Int} (z : β) (kt et : TypeId) (f0 f1 : Field) (t : TypeId) (x ix : Operand) (ho : o.op = .mapEntry t x ix) (hx : ev T x = some (.map m)) (hi : ev T ix = some (key2 key))
    (ht : P.underlying t = some (.map kt et)) (hk : P.underlying kt = some (.struct #[f0, f1])) (hc : structKeys P kt f0 f1 = true) (hz : (P.info? et).bind (·.zero) = some (enc z)) (hn : o.dst = some d) (hb : Nat.blt d n.n = true)
    (h : ∀ y, KT n Qf ((d, .tuple #[enc y.1, .int .i64 y.2]) :: T) (k y) K) : OW rd P Q n Qf o T (bindM (entM enc z m key) k) K := fun a w hA hm => by
  obtain ⟨r, es, clock, rfl, hr, hpk, hm⟩ := hm
  simp only [structKeys, Bool.and_eq_true, Bool.not_eq_true'] at hc
  obtain ⟨i, hi', hz'⟩ := Option.bind_eq_some_iff.1 hz
  have hzr : (zeroValue et).run P w = .ok (enc z) w := by simp [zeroValue, typeInfo, hi', hz']
  have hg := run_getObj (P := P) hr (by intros; simp)
  have hs : ∀ ob', (setObj r ob').run P w = .ok () (w.putObj r ob') := fun ob' => run_setObj hr (by intros; simp)
  have hfk := run_findKey2 hk hc.1.1 hc.1.2 hc.2 key es.toList hpk w
  rcases hm with ⟨y, j, e, hf, he, hv, hq⟩ | ⟨hf, hq⟩
  · obtain ⟨hlt, hkey, _⟩ := List.findIdx?_eq_some_iff_getElem.1 hf
    have he' : es[j]? = some e := by rw [← Array.getElem?_toList]; exact he
    have hek : e.key = key2 key := by
      obtain ⟨q, hq⟩ := hpk e (List.mem_of_getElem? he)
      have : es.toList[j] = e := by rw [List.getElem?_eq_getElem hlt] at he; exact Option.some.inj he
      rw [this, keyIs2_pair hq] at hkey
      rw [hq, show key = q by simpa using hkey]
    refine wpIn_value (w' := w.putObj r (.map es clock)) (v := .tuple #[enc y, .int .i64 (e.born : Int)]) ?_ ?_
    · unfold execOp
      rw [ho]
      simp only [hA.ev hx, hA.ev hi, Instr.mapEntry, Sem.run_bind, run_under ht, Result.andThen_ok, hg, run_checkKey2 hk hc.1.2 hc.2, hfk, hf, he, Option.map_some, he', Option.getD_some, hek, keyStays2, modify_same he' hek, hs, Sem.run_pure, hv]
      rfl
    · rw [hn]; exact h (y, (e.born : Int)) _ _ (hA.put hb _) hq
  · refine wpIn_value (w' := w.putObj r (.map (es.push { key := key2 key, val := enc z, born := clock }) (clock + 1))) (v := .tuple #[enc z, .int .i64 (clock : Int)]) ?_ ?_
    · unfold execOp
      rw [ho]
      simp only [hA.ev hx, hA.ev hi, Instr.mapEntry, Sem.run_bind, run_under ht, Result.andThen_ok, hg, run_checkKey2 hk hc.1.2 hc.2, hfk, hf, hzr, hs, Sem.run_pure]
      rfl
    · rw [hn]; exact h (z, (clock : Int)) _ _ (hA.put hb _) hq
end
end Go.Mo

namespace Go.Ex
open Go.Mo
open Go.Proofs
set_option linter.unusedVariables false
abbrev encF (y : (Option Addr) × Int) : Value := .tuple #[(.pointer y.1), (.int .i64 y.2)]
def callM {α : Type} (f : FuncId) (args : Array Value) (enc : α → Value) : M α := fun Q w => Calls Tryz.prog f args w (RetPost enc Q)
def flushR (x12 : (Option Addr) × Int) : M Int :=
  (if (x12.2 == 0) = true then
  bindM (nilM x12.1) fun x18 =>
    bindM (ld Value.map (Addr.add x18 1)) fun x20 =>
    bindM (rangeMapM x20) fun x21 =>
    loopM (fun (s1 : Unit) =>
    bindM (nextM x21) fun y22 =>
      (match y22 with
      | none =>
        mapR (bindM (nilM x12.1) fun x35 =>
          bindM (ld Value.map (Addr.add x35 1)) fun x37 =>
          bindM (clearM x37) fun _ =>
          pureM x12.2)
      | some e22 =>
        bindM (entryM (Value.int .i64) vS x21) fun x24 =>
          bindM (nilM x12.1) fun x28 =>
          bindM (ld vS x28) fun x30 =>
          bindM (idxM x30 x24.1 1) fun x33 =>
          bindM (st x33 (.slice x24.2.base x24.2.len x24.2.cap)) fun _ =>
          pureM (.inl ()))) ()
  else
  pureM x12.2)
def flushF (p0_r : (Option Addr)) (p1_disk : Int) : M Int := bindM (callM 184 #[(.pointer p0_r), (.int .i64 p1_disk), (.int .i64 0), (.int .i64 64)] encF) flushR
set_option maxRecDepth 100000 in
theorem flushF_sim (p0_r : (Option Addr)) (p1_disk : Int) (Qf : Int → World → Prop) (w : World) (hm : flushF p0_r p1_disk Qf w) : Calls Tryz.prog 108 #[(.pointer p0_r), (.int .i64 p1_disk)] w (RetPost (Value.int .i64) Qf) := by
  refine calls_of (fn := Tryz.f108) (l := [(.pointer p0_r), (.int .i64 p1_disk)]) (m := flushF p0_r p1_disk) 39 (by kernel_rfl) rfl rfl rfl (fun Qf0 => ?_) Qf w hm
  clear hm w Qf
  unfold flushF flushR
  refine SC.seq ?_
  refine SC.region' ?_
  refine KT.pv 4 (.int .i64 0) ?_
  refine KT.nil ?_
  refine SX.seq ?_
  refine SC.seq ?_
  refine SC.region' ?_
  refine KT.pv 10 (.pointer p0_r) ?_
  refine KT.pv 11 (.int .i64 p1_disk) ?_
  refine KT.cl (fun y : ((Option Addr) × Int) => (.tuple #[(.pointer y.1), (.int .i64 y.2)])) 12 184 #[(.pointer p0_r), (.int .i64 p1_disk), (.int .i64 0), (.int .i64 64)] (fun _ _ h => h) (fun x12 => ?_)
  refine KT.pv 9 (.tuple #[(.pointer x12.1), (.int .i64 x12.2)]) ?_
  refine KT.pv 13 (.pointer x12.1) ?_
  refine KT.pv 14 (.int .i64 x12.2) ?_
  refine KT.pv 5 (.pointer x12.1) ?_
  refine KT.pv 6 (.int .i64 x12.2) ?_
  refine KT.nil ?_
  refine SX.seq ?_
  refine SC.seq ?_
  refine SC.seq ?_
  refine SC.region' ?_
  refine KT.pv 15 (.int .i64 x12.2) ?_
  refine KT.pv 16 (.bool (x12.2 == 0)) ?_
  refine KT.nil ?_
  refine SX.seq ?_
  refine SC.cond (b := x12.2 == 0) rfl ?_ ?_
  refine SC.seq ?_
  refine SC.seq ?_
  refine SC.region' ?_
  refine KT.pv 17 (.pointer x12.1) ?_
  refine KT.nm 18 (fun x18 => ?_)
  refine KT.pv 19 (.pointer (some (Addr.add x18 1))) ?_
  refine KT.l 20 (fun x20 => ?_)
  refine KT.ow rfl (OW.rangeMap (d := 21) _ _ 3 30 rfl rfl (by kernel_rfl) rfl rfl (fun x21 => ?_))
  refine KT.nil ?_
  refine SX.seq ?_
  refine SC.block ?_
  refine SC.loop (σ := Unit) (fun s1 => [(5, (.pointer x12.1)), (6, (.int .i64 x12.2)), (21, (.pointer (some x21)))]) (.cons rfl (.cons rfl (.cons rfl (.nil)))) (fun _ _ _ s1 => ?_)
  refine SC.seq ?_
  refine SC.region' ?_
  refine KT.ow rfl (OW.next (d := 22) _ rfl rfl rfl rfl (fun y22 => ?_))
  refine KT.opt (y := y22) 22 rfl ?_ (fun e22 => ?_)
  refine KT.pv 23 (.bool false) ?_
  refine KT.nil ?_
  refine SX.seq ?_
  refine SC.seq ?_
  refine SC.cond_false rfl ?_
  refine SC.exit ?_
  refine SX.then_exit ?_
  refine SX.loop_exit ?_
  refine SX.block_hit ?_
  refine SX.seq ?_
  refine SC.region' ?_
  refine KT.pv 34 (.pointer x12.1) ?_
  refine KT.nm 35 (fun x35 => ?_)
  refine KT.pv 36 (.pointer (some (Addr.add x35 1))) ?_
  refine KT.l 37 (fun x37 => ?_)
  refine KT.ow rfl (OW.clearMap0 _ _ 3 30 rfl rfl (by kernel_rfl) rfl ?_)
  refine KT.nil ?_
  refine SX.seq ?_
  refine SC.seq ?_
  refine SC.region' ?_
  refine KT.pv 38 (.int .i64 x12.2) ?_
  refine KT.pv 4 (.int .i64 x12.2) ?_
  refine KT.nil ?_
  refine SX.seq ?_
  refine SC.ret ?_
  refine SX.ret [.tmp 4] rfl ?_
  refine RS.tmp (.int .i64 x12.2) rfl ?_
  exact RS.nil rfl
  refine KT.pv 23 (.bool true) ?_
  refine KT.nil ?_
  refine SX.seq ?_
  refine SC.seq ?_
  refine SC.cond_true rfl ?_
  refine SC.skip ?_
  refine SX.seq ?_
  refine SC.block ?_
  refine SC.seq ?_
  refine SC.region' ?_
  refine KT.ow rfl (OW.entry (d := 24) (ek := (Value.int .i64)) (evv := vS) _ rfl rfl rfl rfl (fun x24 => ?_))
  refine KT.pv 25 (.int .i64 x24.1) ?_
  refine KT.pv 26 (.slice x24.2.base x24.2.len x24.2.cap) ?_
  refine KT.pv 7 (.int .i64 x24.1) ?_
  refine KT.pv 8 (.slice x24.2.base x24.2.len x24.2.cap) ?_
  refine KT.nil ?_
  refine SX.seq ?_
  refine SC.region' ?_
  refine KT.pv 27 (.pointer x12.1) ?_
  refine KT.nm 28 (fun x28 => ?_)
  refine KT.pv 29 (.pointer (some x28)) ?_
  refine KT.l 30 (fun x30 => ?_)
  refine KT.pv 31 (.int .i64 x24.1) ?_
  refine KT.pv 32 (.slice x24.2.base x24.2.len x24.2.cap) ?_
  refine KT.oy rfl (OY.idx (d := 33) (s := x30) (i := x24.1) (size := 1) (elem := 30) _ _ _ rfl rfl rfl (by kernel_rfl) (by kernel_rfl) rfl rfl (fun x33 => ?_))
  refine KT.s ?_
  refine KT.nil ?_
  refine SX.block ?_
  exact SX.loop_next (.cons rfl (.cons rfl (.cons rfl (.nil))))
  refine SC.skip ?_
  refine SX.seq ?_
  refine SC.seq ?_
  refine SC.region' ?_
  refine KT.pv 38 (.int .i64 x12.2) ?_
  refine KT.pv 4 (.int .i64 x12.2) ?_
  refine KT.nil ?_
  refine SX.seq ?_
  refine SC.ret ?_
  refine SX.ret [.tmp 4] rfl ?_
  refine RS.tmp (.int .i64 x12.2) rfl ?_
  exact RS.nil rfl
def Up (f : Int → Option Value) (us : List Value) (V : Int → Bool) (us' : List Value) : Prop := us'.length = us.length ∧ ∀ i, i < us.length → us'[i]? = match f i with | some v => if V i then some v else us[i]? | none => us[i]?
theorem wps_clearP {α : Type} {g : Fr} {H H' : HP} {Q : α → HP} {k : Unit → M α} {m clk : Nat} {es : Array MapEntry} (hH : H = H' * po m (.map es clk)) (h : wps g (H' * po m (.map #[] clk)) (k ()) Q) :
    wps g H (bindM (clearM (some m)) k) Q := fun w a Qf ho ha hq => by
  rw [hH] at ha
  refine ⟨es, clk, own_po ho ha, ?_⟩
  obtain ⟨a', ho', ha'⟩ := own_put (.map #[] clk) (fun _ _ _ h => by cases h) ho ha
  exact h _ a' Qf ho' ha' hq
theorem wps_itrF {α : Type} {g : Fr} {H' : HP} {M0 : M α} {Q : α → HP} {it m clk : Nat} {es : Array MapEntry} {f : Int → Option Value} {V : Int → Bool} (h : ∀ seen, wps g (H' * po it (.mapIter (some m) clk seen clk) * po m (.map es clk)) M0 Q) : wps g (H' * itrF it m es clk f V) M0 Q := fun w a Qf ho ha hq => by
  unfold itrF at ha
  rw [star_ex] at ha
  obtain ⟨seen, ha⟩ := ha
  simp only at ha
  rw [star_left_comm] at ha
  have ha := ent_right _ _ a ha
  refine h seen w a Qf ho ?_ hq
  rw [star_assoc]
  exact ha
variable {g : Fr}
theorem flush_rest {p mb clk : Nat} {x3 x4 : Value} {ls : Slc} {us : List Value} {es : Array MapEntry} {f : Int → Option Value} (hm : MapOk es.toList clk f) (hv : ∀ j v, f j = some v → (∃ s : Slc, v = vS s) ∧ 0 ≤ j ∧ j < us.length) (hl : ls.len = us.length) :
    wps g (own 1 ls us * pc p [vS ls, .map (some mb), x3, x4] * po mb (.map es clk)) (flushR (some ⟨p, 0, none⟩, 0)) fun e => ex fun us' : List Value => pr (e = 0 ∧ Up f us (fun _ => true) us') * (own 1 ls us' * pc p [vS ls, .map (some mb), x3, x4] * po mb (.map #[] clk)) := by
  unfold flushR
  refine wps_ite (fun _ => ?_) (fun h => absurd (by rfl) h)
  repeat (first
    | (with_reducible refine wps_bindpure ?_)
    | (with_reducible refine wps_assoc ?_)
    | (with_reducible refine wps_nil ?_)
    | (with_reducible refine wps_stepAlloc fun _ => ?_)
    | (with_reducible refine wps_alloc fun _ => ?_)
    | (with_reducible refine wps_newO fun _ => ?_)
    | (refine wps_ld _ (by rfl) ?_)
    | (refine wps_ldG _ _ _ (by rfl) ?_)
    | (refine wps_ldA _ (by rfl) ?_)
    | (refine wps_ldI _ (by rfl) ?_)
    | (refine wps_ldGI _ _ _ (by rfl) ?_)
    | (refine wps_ldAI _ (by rfl) ?_)
    | (refine wps_st (by simp) ?_)
    | (refine wps_stA (by simp) (by simp [Value.oneCell']) ?_)
    | ((with_reducible apply wps_val); apply val_ite; rotate_left; refine fun (_ : ¬ _) => ?_; rotate_right; refine fun (_ : _ = true) => ?_)
    | ((with_reducible apply val_ite); rotate_left; refine fun (_ : ¬ _) => ?_; rotate_right; refine fun (_ : _ = true) => ?_)
    | (with_reducible refine wps_regionH ?_)
    | ((with_reducible apply wps_bindV); apply val_iteL; rotate_left; refine fun (_ : ¬ _) => ?_; rotate_right; refine fun (_ : _ = true) => ?_)
    | ((with_reducible apply val_iteL); rotate_left; refine fun (_ : ¬ _) => ?_; rotate_right; refine fun (_ : _ = true) => ?_)
    | (with_reducible exact wps_pure (ent_val rfl)))
  refine wps_rangeMapF hm fun it => ?_
  refine wps_loopg (γ := (Int → Bool) × List Value) (fun c _ => pr (Up f us c.1 c.2) * own 1 ls c.2 * pc p [vS ls, .map (some mb), x3, x4] * itrF it mb es clk f c.1) (fun c _ => toCome us.length c.1) (fun _ => false, us) ?_ fun c _ => ?_
  · refine ent_pick (ent_pick ?_)
    refine ent_prr ⟨rfl, fun i hi => by cases f i <;> rfl⟩ (ent_drop)
  · obtain ⟨V, us'⟩ := c
    simp only
    refine wps_prP fun hup => ?_
    refine wps_nextF rfl (fun hend => ?_) (fun j v hj hV => ?_)
    · refine wps_mapR ?_
      repeat (first
        | (with_reducible refine wps_bindpure ?_)
        | (with_reducible refine wps_assoc ?_)
        | (with_reducible refine wps_nil ?_)
        | (with_reducible refine wps_stepAlloc fun _ => ?_)
        | (with_reducible refine wps_alloc fun _ => ?_)
        | (with_reducible refine wps_newO fun _ => ?_)
        | (refine wps_ld _ (by rfl) ?_)
        | (refine wps_ldG _ _ _ (by rfl) ?_)
        | (refine wps_ldA _ (by rfl) ?_)
        | (refine wps_ldI _ (by rfl) ?_)
        | (refine wps_ldGI _ _ _ (by rfl) ?_)
        | (refine wps_ldAI _ (by rfl) ?_)
        | (refine wps_st (by simp) ?_)
        | (refine wps_stA (by simp) (by simp [Value.oneCell']) ?_)
        | ((with_reducible apply wps_val); apply val_ite; rotate_left; refine fun (_ : ¬ _) => ?_; rotate_right; refine fun (_ : _ = true) => ?_)
        | ((with_reducible apply val_ite); rotate_left; refine fun (_ : ¬ _) => ?_; rotate_right; refine fun (_ : _ = true) => ?_)
        | (with_reducible refine wps_regionH ?_)
        | ((with_reducible apply wps_bindV); apply val_iteL; rotate_left; refine fun (_ : ¬ _) => ?_; rotate_right; refine fun (_ : _ = true) => ?_)
        | ((with_reducible apply val_iteL); rotate_left; refine fun (_ : ¬ _) => ?_; rotate_right; refine fun (_ : _ = true) => ?_)
        | (with_reducible exact wps_pure (ent_val rfl)))
      refine wps_itrF fun seen => wps_clearP rfl (wps_pure ?_)
      refine ent_ex us' (ent_prr ⟨rfl, hup.1, fun i hi => ?_⟩ ?_)
      · rw [hup.2 i hi]
        cases hfi : f i with
        | none => rfl
        | some v => simp only [hend i v hfi]
      · exact Ent.trans (Ent.of_eq (star_right_comm _ _ _)) (Ent.trans (ent_left _ _) (Ent.of_eq (by simp only [emp_star])))
    · obtain ⟨⟨s, rfl⟩, hj0, hjn⟩ := hv j v hj
      refine wps_entryF (ev := vS) s rfl rfl ?_
      repeat (first
        | (with_reducible refine wps_bindpure ?_)
        | (with_reducible refine wps_assoc ?_)
        | (with_reducible refine wps_nil ?_)
        | (with_reducible refine wps_stepAlloc fun _ => ?_)
        | (with_reducible refine wps_alloc fun _ => ?_)
        | (with_reducible refine wps_newO fun _ => ?_)
        | (refine wps_ld _ (by rfl) ?_)
        | (refine wps_ldG _ _ _ (by rfl) ?_)
        | (refine wps_ldA _ (by rfl) ?_)
        | (refine wps_ldI _ (by rfl) ?_)
        | (refine wps_ldGI _ _ _ (by rfl) ?_)
        | (refine wps_ldAI _ (by rfl) ?_)
        | (refine wps_st (by simp) ?_)
        | (refine wps_stA (by simp) (by simp [Value.oneCell']) ?_)
        | ((with_reducible apply wps_val); apply val_ite; rotate_left; refine fun (_ : ¬ _) => ?_; rotate_right; refine fun (_ : _ = true) => ?_)
        | ((with_reducible apply val_ite); rotate_left; refine fun (_ : ¬ _) => ?_; rotate_right; refine fun (_ : _ = true) => ?_)
        | (with_reducible refine wps_regionH ?_)
        | ((with_reducible apply wps_bindV); apply val_iteL; rotate_left; refine fun (_ : ¬ _) => ?_; rotate_right; refine fun (_ : _ = true) => ?_)
        | ((with_reducible apply val_iteL); rotate_left; refine fun (_ : ¬ _) => ?_; rotate_right; refine fun (_ : _ = true) => ?_)
        | (with_reducible exact wps_pure (ent_val rfl)))
      refine wps_wrS j.toNat (by simp; omega) (by have := hup.1; omega) ?_
      refine wps_pure ?_
      refine Ent.trans ?_ (ent_ex (fun i => V i || i == j, us'.set j.toNat (vS s)) (ent_prr (toCome_lt ⟨hj0, hjn⟩ hV) (Ent.refl _)))
      have hup2 : Up f us (fun i => V i || i == j) (us'.set j.toNat (vS s)) := by
        refine ⟨by rw [List.length_set]; exact hup.1, fun i hi => ?_⟩
        rw [List.getElem?_set]
        by_cases e : j.toNat = i
        · have e2 : (i : Int) = j := by omega
          rw [if_pos e, if_pos (by have := hup.1; omega), e2, hj]
          simp
        · have e2 : ((i : Int) == j) = false := by simp; omega
          rw [if_neg e, hup.2 i hi]
          simp only [e2, Bool.or_false]
      have e : pr (Up f us (fun i => V i || i == j) (us'.set j.toNat (vS s))) * (emp * pc p [vS ls, .map (some mb), x3, x4] * itrF it mb es clk f (fun i => V i || i == j) * own 1 ls (us'.set j.toNat (vS s))) = pr (Up f us (fun i => V i || i == j) (us'.set j.toNat (vS s))) * own 1 ls (us'.set j.toNat (vS s)) * pc p [vS ls, .map (some mb), x3, x4] * itrF it mb es clk f (fun i => V i || i == j) := by
        rw [emp_star]
        ac_rfl
      exact Ent.trans (ent_prr hup2 (Ent.refl _)) (Ent.of_eq e)
end Go.Ex
namespace Go.Ex
set_option linter.unusedVariables false
set_option linter.constructorNameAsVariable false
inductive Dg where
  | a | b | c | d
structure Ix where
  a : Dg
  b : Dg
  c : Dg
  d : Dg
structure Id where
  a : Dg
  b : Dg
  c : Dg
  d : Dg
  e : Dg
  f : Dg
  g : Dg
  h : Dg
inductive V0 (X : Type) where
  | n (a : Nat)
  | u (a : Nat)
  | b (x : Bool)
  | p (i : Id) (o : Nat)
  | s (i : Id) (o l c : Nat)
  | q (i : Id) (l : Nat)
  | w (x : X)
inductive W where
  | k (v : Value)
  | r (i : Id) (o l : Nat)
  | z
  | m (i : Id)
  | f (g : Fn) (fs cs : List (V0 W))
  | y (i : Id)
  | i (t : TypeId) (v : V0 W)
  | a (vs : List (V0 W))
  | t (vs : List (V0 W))
  | x (j : Nat)
  | any
abbrev V := V0 W
structure N4 (α : Type) where
  a : α
  b : α
  c : α
  d : α
abbrev N16 (α : Type) := N4 (N4 (N4 (N4 α)))
structure Lf where
  v : V
abbrev TT := N16 Lf
inductive A where
  | t (i : Ix)
  | v (v : V)
structure G where
  o : Oper
  s : Nat × List (Nat × A)
inductive KK where
  | i | s
inductive NK where
  | p | s | m | f
inductive Y where
  | ge (g : G)
  | not (x : A)
  | ep (neg : Bool) (k : NK) (x y : A)
  | fd (agg : Bool) (off len : Nat) (x : A)
  | iA (sz len : Nat) (x i : A)
  | iv (agg : Bool) (sz len : Nat) (x i : A)
  | sa (sz len : Nat) (x : A) (lo hi mx : Option A)
  | bd (z : List V) (ps : List (Nat × Nat × A))
  | mf (g : Fn) (fs cs : List A)
  | mi (t : TypeId) (x : A)
  | ta (t : TypeId) (x : A)
  | cp (x : A)
  | lm (x : A)
  | lk (kk : KK) (ok : Bool) (z : V) (x i : A)
  | bs (x : A)
  | al (cs : List V)
  | bl (len sz : Nat) (z : List V) (ps : List (Nat × Nat × A))
  | ms (z : List V) (l c : A)
  | mm
  | mu (kk : KK) (x k v : A)
  | me (kk : KK) (z : V) (x k : A)
  | et (x s v : A)
  | rg (x : A)
  | nx (x : A)
  | en (x : A)
  | cl (f : A) (aas : List A)
  | io (r : A) (name : String) (aas : List A)
  | az (sz : Nat) (z : List V) (x y : A)
  | cy (sz : Nat) (x y : A)
  | cr (z : List V) (x : A)
  | de (kk : KK) (x k : A)
  | df (f : A) (aas : List A)
  | rc
  | pn (x : A)
  | no
inductive IOp where
  | add | sub | mul | quo | rem | eql | neq | lss | leq | gtr | geq | other
inductive X where
  | mv (x : A)
  | ii (o : IOp) (x y : A) (g : G)
  | pk (c a b : A)
  | cv (src : Bool) (x : A) (g : G)
  | nil (x : A)
  | fa (off : Nat) (x : A)
  | ia (sz : Nat) (x i : A)
  | sl (sz : Nat) (x : A) (lo hi mx : Option A)
  | ex (x : A) (i : Nat)
  | ln (x : A)
  | ld (x : A)
  | lA (len : Nat) (x : A)
  | st (sz : Nat) (x y : A)
  | bx (x : A)
  | ca (f : FuncId) (aas : List A)
  | ap (sz : Nat) (z : List V) (x y : A)
  | o (y : Y)
inductive Kd where
  | p | l | m
inductive Dk where
  | p | l | m | z | e
structure XI where
  g : Option (Ix × Bool)
  d : Ix
  x : X
inductive XC where
  | skip | ret
  | exit (i : Nat)
  | seq (a b : XC)
  | cond (x : A) (a b : XC)
  | block (i : Nat) (c : XC)
  | loop (c : XC)
  | ops (l : List XI)
  | draw (l : List (Dk × XI))
  | rf (g : A) (ps : List Ix) (asg body : XC)
  | no
inductive XR where
  | t (i : Ix)
  | c (i : Ix) (agg : Bool) (len : Nat)
structure XF where
  body : XC
  res : List XR
  n : Nat
inductive J where
  | r
  | x (i : Nat)
inductive Ext where
  | n | r
  | x (i : Nat)
  | p (v : V)
inductive En where
  | r (v : V)
  | p (v : V)
inductive LS where
  | ready | busy | done | exhausted
inductive O where
  | no
  | c (cs : List V) (ext : Nat)
  | m (es : List (V × V × Nat)) (clock : Nat)
  | it (map : Option Id) (since : Nat) (seen : List Nat) (last : Nat)
  | lp (t : TT) (ps : List Ix) (asg body : XC) (st : LS) (pend : Option J)
  | df (taken : Bool)
abbrev H := N16 (N16 O)
structure St where
  h : H
  nx : Id
inductive FI where
  | fn (f : Option XF)
  | ext (k : Nat)
structure Bd where
  lo : Option Int
  hi : Option Int
structure Env where
  P : Program
  bd : Nat → Bd
  tb : Nat → FI
  sm : Nat → List V → St → Option ((V → St → Bool) → Bool)
  cl : Nat → Option (Ix × Ix × XC × Nat)
section
variable {β α : Type}
noncomputable def dgC (x : Dg) (a b c d : β) : β := Dg.rec (motive := fun _ => β) a b c d x
noncomputable def booC (x : Bool) (t f : β) : β := Bool.rec (motive := fun _ => β) f t x
noncomputable def optC (x : Option α) (s : α → β) (n : β) : β := Option.rec (motive := fun _ => β) n s x
noncomputable def natC (x : Nat) (z : β) (s : Nat → β) : β := Nat.rec (motive := fun _ => β) z (fun m _ => s m) x
noncomputable def vC (v : V) (n u : Nat → β) (b : Bool → β) (p : Id → Nat → β) (s : Id → Nat → Nat → Nat → β) (q : Id → Nat → β) (w : W → β) : β :=
  V0.rec (motive := fun _ => β) n u b p s q w v
noncomputable def n4C (t : N4 α) (k : α → α → α → α → β) : β := N4.rec (motive := fun _ => β) k t
noncomputable def aC (x : A) (t : Ix → β) (v : V → β) : β := A.rec (motive := fun _ => β) t v x
noncomputable def extC (e : Ext) (n : β) (o : Ext → β) : β := Ext.rec (motive := fun _ => β) n (o .r) (fun i => o (.x i)) (fun v => o (.p v)) e
noncomputable def ixC (i : Ix) (k : Dg → Dg → Dg → Dg → β) : β := Ix.rec (motive := fun _ => β) k i
noncomputable def idC (i : Id) (k : Dg → Dg → Dg → Dg → Dg → Dg → Dg → Dg → β) : β := Id.rec (motive := fun _ => β) k i
noncomputable def stC (s : St) (k : H → Id → β) : β := St.rec (motive := fun _ => β) k s
noncomputable def oCells (o : O) (k : List V → Nat → β) (f : β) : β := O.rec (motive := fun _ => β) f k (fun _ _ => f) (fun _ _ _ _ => f) (fun _ _ _ _ _ _ => f) (fun _ => f) o
noncomputable def ioC (o : IOp) (a b c d e f g h i j k l : β) : β := IOp.rec (motive := fun _ => β) a b c d e f g h i j k l o
noncomputable def listC (l : List α) (n : β) (c : α → List α → β) : β := List.rec (motive := fun _ => β) n (fun x l _ => c x l) l
noncomputable def foldC (l : List α) (n : β) (c : α → β → β) : β := List.rec (motive := fun _ => β) n (fun x _ r => c x r) l
noncomputable def iterC (n : Nat) (z : β) (s : β → β) : β := Nat.rec (motive := fun _ => β) z (fun _ r => s r) n
end
noncomputable def xC {β : Type} (x : X) (mv : A → β) (ii : IOp → A → A → G → β) (pk : A → A → A → β) (cv : Bool → A → G → β) (nil : A → β) (fa : Nat → A → β) (ia : Nat → A → A → β) (sl : Nat → A → Option A → Option A → Option A → β)
    (ex : A → Nat → β) (ln ld : A → β) (lA : Nat → A → β) (st : Nat → A → A → β) (bx : A → β) (ca : FuncId → List A → β) (ap : Nat → List V → A → A → β) (o : Y → β) : β :=
  X.rec (motive := fun _ => β) mv ii pk cv nil fa ia sl ex ln ld lA st bx ca ap o x
noncomputable def ccC {β : Type} (c : XC) (skip ret : β) (exit : Nat → β) (seq : XC → XC → β) (cond : A → XC → XC → β) (block : Nat → XC → β) (loop : XC → β) (ops : List XI → β) (draw : List (Dk × XI) → β) (rf : A → List Ix → XC → XC → β) (no : β) : β :=
  XC.rec (motive := fun _ => β) skip ret exit (fun a b _ _ => seq a b) (fun x a b _ _ => cond x a b) (fun i c _ => block i c) (fun c _ => loop c) ops draw (fun g ps a b _ _ => rf g ps a b) no c
end Go.Ex
namespace Go.Ex
set_option linter.unusedVariables false
set_option linter.constructorNameAsVariable false
noncomputable section
def pureRun {α : Type} (P : Program) : Sem α → Option α
  | .pure a => some a
  | .program k => pureRun P (k P)
  | _ => none
def dgOf (n : Nat) : Dg := match n % 4 with
  | 0 => .a
  | 1 => .b
  | 2 => .c
  | _ => .d
def ixOf (n : Nat) : Ix := ⟨dgOf n, dgOf (n / 4), dgOf (n / 16), dgOf (n / 64)⟩
def ixDs : Ix := ⟨.c, .d, .d, .d⟩
def ixPn : Ix := ⟨.d, .d, .d, .d⟩
def inc8 {R : Type} (i : Id) (κ : Id → R) (fl : R) : R := idC i fun a b c d e f g h =>
  dgC a (κ ⟨.b, b, c, d, e, f, g, h⟩) (κ ⟨.c, b, c, d, e, f, g, h⟩) (κ ⟨.d, b, c, d, e, f, g, h⟩)
    (dgC b (κ ⟨.a, .b, c, d, e, f, g, h⟩) (κ ⟨.a, .c, c, d, e, f, g, h⟩) (κ ⟨.a, .d, c, d, e, f, g, h⟩)
      (dgC c (κ ⟨.a, .a, .b, d, e, f, g, h⟩) (κ ⟨.a, .a, .c, d, e, f, g, h⟩) (κ ⟨.a, .a, .d, d, e, f, g, h⟩)
        (dgC d (κ ⟨.a, .a, .a, .b, e, f, g, h⟩) (κ ⟨.a, .a, .a, .c, e, f, g, h⟩) (κ ⟨.a, .a, .a, .d, e, f, g, h⟩)
          (dgC e (κ ⟨.a, .a, .a, .a, .b, f, g, h⟩) (κ ⟨.a, .a, .a, .a, .c, f, g, h⟩) (κ ⟨.a, .a, .a, .a, .d, f, g, h⟩)
            (dgC f (κ ⟨.a, .a, .a, .a, .a, .b, g, h⟩) (κ ⟨.a, .a, .a, .a, .a, .c, g, h⟩) (κ ⟨.a, .a, .a, .a, .a, .d, g, h⟩)
              (dgC g (κ ⟨.a, .a, .a, .a, .a, .a, .b, h⟩) (κ ⟨.a, .a, .a, .a, .a, .a, .c, h⟩) (κ ⟨.a, .a, .a, .a, .a, .a, .d, h⟩)
                (dgC h (κ ⟨.a, .a, .a, .a, .a, .a, .a, .b⟩) (κ ⟨.a, .a, .a, .a, .a, .a, .a, .c⟩) (κ ⟨.a, .a, .a, .a, .a, .a, .a, .d⟩) fl)))))))
def eqD (x y : Dg) : Bool := dgC x (dgC y true false false false) (dgC y false true false false) (dgC y false false true false) (dgC y false false false true)
def eqI (i j : Id) : Bool := idC i fun a b c d e f g h => idC j fun a' b' c' d' e' f' g' h' =>
  eqD a a' && (eqD b b' && (eqD c c' && (eqD d d' && (eqD e e' && (eqD f f' && (eqD g g' && eqD h h'))))))
section
variable {α R : Type}
def fill4 (x : α) : N4 α := ⟨x, x, x, x⟩
def fill16 (x : α) : N16 α := fill4 (fill4 (fill4 (fill4 x)))
def g16 (i : Ix) (t : N16 α) : α := Ix.rec (motive := fun _ => α) (fun a b c d =>
  N4.rec (motive := fun _ => α) (fun x y z w => Dg.rec (motive := fun _ => α) x y z w d)
    (N4.rec (motive := fun _ => N4 α) (fun x y z w => Dg.rec (motive := fun _ => N4 α) x y z w c)
      (N4.rec (motive := fun _ => N4 (N4 α)) (fun x y z w => Dg.rec (motive := fun _ => N4 (N4 α)) x y z w b)
        (N4.rec (motive := fun _ => N4 (N4 (N4 α))) (fun x y z w => Dg.rec (motive := fun _ => N4 (N4 (N4 α))) x y z w a) t)))) i
def up1 (d : Dg) (v : α) (t : N4 α) (κ : N4 α → R) : R := N4.rec (motive := fun _ => R) (fun x y z w => Dg.rec (motive := fun _ => R) (κ ⟨v, y, z, w⟩) (κ ⟨x, v, z, w⟩) (κ ⟨x, y, v, w⟩) (κ ⟨x, y, z, v⟩) d) t
def up2 (c d : Dg) (v : α) (t : N4 (N4 α)) (κ : N4 (N4 α) → R) : R := N4.rec (motive := fun _ => R) (fun x y z w => Dg.rec (motive := fun _ => R)
  (up1 d v x fun x => κ ⟨x, y, z, w⟩) (up1 d v y fun y => κ ⟨x, y, z, w⟩) (up1 d v z fun z => κ ⟨x, y, z, w⟩) (up1 d v w fun w => κ ⟨x, y, z, w⟩) c) t
def up3 (b c d : Dg) (v : α) (t : N4 (N4 (N4 α))) (κ : N4 (N4 (N4 α)) → R) : R := N4.rec (motive := fun _ => R) (fun x y z w => Dg.rec (motive := fun _ => R)
  (up2 c d v x fun x => κ ⟨x, y, z, w⟩) (up2 c d v y fun y => κ ⟨x, y, z, w⟩) (up2 c d v z fun z => κ ⟨x, y, z, w⟩) (up2 c d v w fun w => κ ⟨x, y, z, w⟩) b) t
def put16 (i : Ix) (v : α) (t : N16 α) (κ : N16 α → R) : R := Ix.rec (motive := fun _ => R) (fun a b c d => N4.rec (motive := fun _ => R) (fun x y z w => Dg.rec (motive := fun _ => R)
  (up3 b c d v x fun x => κ ⟨x, y, z, w⟩) (up3 b c d v y fun y => κ ⟨x, y, z, w⟩) (up3 b c d v z fun z => κ ⟨x, y, z, w⟩) (up3 b c d v w fun w => κ ⟨x, y, z, w⟩) a) t) i
end
def obj (i : Id) (σ : St) : O := Id.rec (motive := fun _ => O) (fun a b c d e f g h => St.rec (motive := fun _ => O) (fun H _ => g16 ⟨e, f, g, h⟩ (g16 ⟨a, b, c, d⟩ H)) σ) i
def setO {R : Type} (i : Id) (o : O) (σ : St) (κ : St → R) : R := Id.rec (motive := fun _ => R) (fun a b c d e f g h => St.rec (motive := fun _ => R) (fun H n =>
  put16 ⟨e, f, g, h⟩ o (g16 ⟨a, b, c, d⟩ H) fun t => put16 ⟨a, b, c, d⟩ t H fun H => κ ⟨H, n⟩) σ) i
def undefV : V := .w (.t [])
def anyV : V := .w .any
def T0 : TT := fill16 ⟨anyV⟩
def σ0 : St := ⟨fill16 (fill16 .no), ⟨.a, .a, .a, .a, .a, .a, .a, .a⟩⟩
def oneW (w : W) : Bool := match w with
  | .k (.agg _) => false
  | .k (.tuple _) => false
  | .a _ => false
  | .t _ => false
  | .any => false
  | _ => true
def oneV (v : V) : Bool := match v with
  | .w w => oneW w
  | _ => true
def allOne : List V → Bool
  | [] => true
  | v :: l => match oneV v with
    | true => allOne l
    | false => false
def viewF : Nat → Value → V
  | _, .int .i64 (.ofNat a) => .n a
  | _, .int .u8 (.ofNat a) => .u a
  | _, .bool x => .b x
  | d + 1, .agg cs => .w (.a (cs.toList.map (viewF d)))
  | _, v => .w (.k v)
abbrev Sb := Nat × List (Nat × A)
def atL (loc : Nat) : List (Nat × A) → Nat → A
  | [], t => match Nat.testBit loc t with
    | true => .v anyV
    | false => .t (ixOf t)
  | (u, a) :: s, t => match Nat.beq u t with
    | true => a
    | false => atL loc s t
def atS (s : Sb) (t : Nat) : A := atL s.1 s.2 t
def cA (s : Sb) : Operand → Option A
  | .tmp t => some (atS s t)
  | .const v => some (.v (viewF 3 v))
  | .func f => some (.v (.w (.f (.func f) [] [])))
  | .global _ => none
def optA (s : Sb) : Option Operand → Option (Option A)
  | none => some none
  | some x => (cA s x).map some
def cells (P : Program) (t : TypeId) : Option (List V) := (pureRun P (zeroValue t)).map fun v => v.cells.toList.map (viewF 3)
def size (P : Program) (t : TypeId) : Option Nat := pureRun P (sizeOf t)
def agg (P : Program) (t : TypeId) : Option Bool := pureRun P (isAgg t)
def cParts (s : Sb) (pl : Nat → Option (Nat × Nat)) : List (Nat × Operand) → Option (List (Nat × Nat × A))
  | [] => some []
  | (i, x) :: r => do
    let (o, z1) ← pl i
    let a ← cA s x
    let r ← cParts s pl r
    match Nat.ble 1 z1 with
    | true => some ((o, z1, a) :: r)
    | false => none
def zeroV (P : Program) (t : TypeId) : Option V := (pureRun P (zeroValue t)).map (viewF 3)
def isCmp : BinOp → Bool
  | .eql | .neq => true
  | _ => false
def cI : BinOp → IOp
  | .add => .add | .sub => .sub | .mul => .mul | .quo => .quo | .rem => .rem | .eql => .eql | .neq => .neq
  | .lss => .lss | .leq => .leq | .gtr => .gtr | .geq => .geq | _ => .other
def cBin (s : Sb) (P : Program) (o : Oper) (op : BinOp) (t : TypeId) (x y : Operand) : Option X := do
  let a ← cA s x
  let b ← cA s y
  match ← P.underlying t, isCmp op with
  | .int _, _ => some (.ii (cI op) a b ⟨o, s⟩)
  | .pointer _, true => some (.o (.ep (op matches .neq) .p a b))
  | .slice _, true => some (.o (.ep (op matches .neq) .s a b))
  | .map _ _, true => some (.o (.ep (op matches .neq) .m a b))
  | .func .., true => some (.o (.ep (op matches .neq) .f a b))
  | _, _ => some (.o (.ge ⟨o, s⟩))
def intF (P : Program) (f : Field) (off : Nat) : Bool := f.name != "_" && Nat.beq f.offset off && match P.underlying f.type with
  | some (.int .i64) => true
  | _ => false
def kkOf (P : Program) (t : TypeId) : Option KK := match P.underlying t with
  | some (.int .i64) => some .i
  | some (.struct fs) => match fs.toList with
    | [f0, f1] => match intF P f0 0 && (intF P f1 1 && !P.stoodInHeld t) with
      | true => some .s
      | false => none
    | _ => none
  | _ => none
def elemZ (P : Program) (e : TypeId) : Option (Nat × List V) := do
  let z ← size P e
  let cs ← cells P e
  match Nat.ble 1 z && (Nat.beq cs.length z && allOne cs && ((pureRun P (typeInfo e)).any fun i => Nat.ble i.bytes 1048576 && Nat.ble 1 i.bytes)) with
  | true => some (z, cs)
  | false => none
def ty0 (P : Program) (c : Call) : Option TypeDesc := (c.argTypes[0]?).bind P.underlying
def ty1 (P : Program) (c : Call) : Option TypeDesc := (c.argTypes[1]?).bind P.underlying
def cApp (P : Program) (c : Call) (x y : A) : Option X := match ty0 P c, ty1 P c with
  | some (.slice e), some (.int _) => do
    let (z, cs) ← elemZ P e
    some (.o (.az z cs x y))
  | some (.slice e), some (.slice _) => do
    let (z, cs) ← elemZ P e
    some (.ap z cs x y)
  | some (.slice e), some .string => do
    let (z, cs) ← elemZ P e
    some (.ap z cs x y)
  | _, _ => none
def cBlt (s : Sb) (P : Program) (o : Oper) (c : Call) (b : Builtin) (aas : List A) : Option X := match b, aas with
  | .len, [x] => match ty0 P c with
    | some (.slice _) => some (.ln x)
    | some (.map _ _) => some (.o (.lm x))
    | _ => some (.o (.ge ⟨o, s⟩))
  | .cap, [x] => match ty0 P c with
    | some (.slice _) => some (.o (.cp x))
    | _ => none
  | .append, [x, y] => cApp P c x y
  | .copy, [x, y] => match ty0 P c with
    | some (.slice e) => do
      let (z, _) ← elemZ P e
      some (.o (.cy z x y))
    | _ => none
  | .clear, [x] => match ty0 P c with
    | some (.slice e) => do
      let (_, cs) ← elemZ P e
      some (.o (.cr cs x))
    | some (.map _ _) => some (.o (.cr [] x))
    | _ => none
  | .delete, [x, y] => match ty0 P c with
    | some (.map kt _) => do some (.o (.de (← kkOf P kt) x y))
    | _ => none
  | .recover, [] => some (.o .rc)
  | _, _ => some (.o (.ge ⟨o, s⟩))
def cCall (s : Sb) (P : Program) (o : Oper) (c : Call) : Option X := do
  let aas ← c.args.toList.mapM (cA s)
  match c.callee with
  | .value (.func f) => some (.ca f aas)
  | .value x => do some (.o (.cl (← cA s x) aas))
  | .invoke r n => do some (.o (.io (← cA s r) n aas))
  | .builtin b => cBlt s P o c b aas
def cOp (s : Sb) (P : Program) (o : Oper) : Option X :=
  match o.op with
  | .move x | .assign x => (cA s x).map .mv
  | .pick c a b => do some (.pk (← cA s c) (← cA s a) (← cA s b))
  | .alloc t => (cells P t).map fun cs => .o (.al cs)
  | .box _ x => (cA s x).map .bx
  | .build t ps => do
    let z ← cells P t
    match ← P.underlying t with
    | .struct fs => do
      let pl ← fs.toList.mapM fun f => do some (f.offset, ← size P f.type)
      some (.o (.bd z (← cParts s (fun i => pl[i]?) ps.toList)))
    | .array _ e => do
      let z1 ← size P e
      some (.o (.bd z (← cParts s (fun i => some (i * z1, z1)) ps.toList)))
    | _ => none
  | .buildSlice t len ps => do
    let .slice e ← P.underlying t | none
    let (z1, cs) ← elemZ P e
    match Nat.ble (len * z1) 65536 with
    | true => some (.o (.bl len z1 cs (← cParts s (fun i => some (i * z1, z1)) ps.toList)))
    | false => none
  | .load t x => do
    let a ← cA s x
    match ← agg P t with
    | true => some (.lA (← size P t) a)
    | false => some (.ld a)
  | .store t x y => do some (.st (← size P t) (← cA s x) (← cA s y))
  | .nilCheck x => (cA s x).map .nil
  | .binOp op t x y _ => cBin s P o op t x y
  | .unOp .not _ x => (cA s x).map fun a => .o (.not a)
  | .unOp _ _ _ => some (.o (.ge ⟨o, s⟩))
  | .convert src dst x => match P.underlying src, P.underlying dst with
    | some (.int .i64), some (.int .u8) => do some (.cv true (← cA s x) ⟨o, s⟩)
    | some (.int .u8), some (.int .i64) => do some (.cv false (← cA s x) ⟨o, s⟩)
    | some (.slice e), some .string => match P.underlying e with
      | some (.int .u8) => do some (.o (.bs (← cA s x)))
      | _ => none
    | _, _ => some (.o (.ge ⟨o, s⟩))
  | .makeInterface t x => match P.underlying t with
    | some (.interface _) => none
    | some _ => do some (.o (.mi t (← cA s x)))
    | none => none
  | .makeFunc fn first cap => do some (.o (.mf fn (← first.toList.mapM (cA s)) (← cap.toList.mapM (cA s))))
  | .makeMap _ none => some (.o .mm)
  | .makeSlice t l c => do
    let .slice e ← P.underlying t | none
    let (_, cs) ← elemZ P e
    some (.o (.ms cs (← cA s l) (← cA s c)))
  | .slice t x lo hi mx => do
    let a ← cA s x
    let lo ← optA s lo
    let hi ← optA s hi
    let mx ← optA s mx
    match ← P.underlying t with
    | .slice e => match mx, hi with
      | some _, none => none
      | _, _ => do some (.sl (← size P e) a lo hi mx)
    | .array n e => match mx with
      | some _ => none
      | none => do some (.o (.sa (← size P e) n a lo hi none))
    | _ => some (.o (.ge ⟨o, s⟩))
  | .fieldAddr t x i => do
    let .struct fs ← P.underlying t | none
    let f ← fs[i]?
    let z ← size P f.type
    if z = 0 then none else some (.fa f.offset (← cA s x))
  | .field t x i => do
    let .struct fs ← P.underlying t | none
    let f ← fs[i]?
    some (.o (.fd (← agg P f.type) f.offset (← size P f.type) (← cA s x)))
  | .indexAddr t x i => do
    match ← P.underlying t with
    | .slice e => do some (.ia (← size P e) (← cA s x) (← cA s i))
    | .array n e => do some (.o (.iA (← size P e) n (← cA s x) (← cA s i)))
    | _ => none
  | .index t x i => do
    match ← P.underlying t with
    | .array n e => do some (.o (.iv (← agg P e) (← size P e) n (← cA s x) (← cA s i)))
    | _ => some (.o (.ge ⟨o, s⟩))
  | .lookup t x i ok => do
    let .map kt e ← P.underlying t | none
    some (.o (.lk (← kkOf P kt) ok (← zeroV P e) (← cA s x) (← cA s i)))
  | .mapUpdate t m k v => do
    let .map kt _ ← P.underlying t | none
    some (.o (.mu (← kkOf P kt) (← cA s m) (← cA s k) (← cA s v)))
  | .mapEntry t m k => do
    let .map kt e ← P.underlying t | none
    some (.o (.me (← kkOf P kt) (← zeroV P e) (← cA s m) (← cA s k)))
  | .entryStore _ m st v => do some (.o (.et (← cA s m) (← cA s st) (← cA s v)))
  | .range t x => do
    let .map _ _ ← P.underlying t | none
    some (.o (.rg (← cA s x)))
  | .next x false => do some (.o (.nx (← cA s x)))
  | .entry x => do some (.o (.en (← cA s x)))
  | .typeAssert x _ t false => match P.underlying t with
    | some (.interface _) => none
    | some _ => do some (.o (.ta t (← cA s x)))
    | none => none
  | .extract x i => do some (.ex (← cA s x) i)
  | .call c => cCall s P o c
  | .defer c => match c.callee with
    | .value x => do some (.o (.df (← cA s x) (← c.args.toList.mapM (cA s))))
    | _ => none
  | .panic x => (cA s x).map fun a => .o (.pn a)
  | _ => none
def kdY : Y → Kd
  | .lm _ | .lk .. => .l
  | .ge _ | .not _ | .ep .. | .fd .. | .iA .. | .iv .. | .sa .. | .bd .. | .mf .. | .mi .. | .ta .. | .cp _ => .p
  | _ => .m
def kdX : X → Kd
  | .ld _ | .lA .. => .l
  | .st .. | .bx _ | .ca .. | .ap .. => .m
  | .o y => kdY y
  | _ => .p
def xOf (s : Sb) (P : Program) (o : Oper) : X := (cOp s P o).getD (.o .no)
def ixD : Option Nat → Ix
  | some d => ixOf d
  | none => ixOf 253
def cXI (s : Sb) (P : Program) (ops : Array Oper) (o : Oper) : XI :=
  { d := ixD o.dst, g := match o.guard with | none => none | some (j, w) => some (ixOf (((ops[j]?).bind (·.dst)).getD 252), w), x := xOf s P o }
def killA (d : Nat) : A → Bool
  | .t i => match i, ixOf d with
    | ⟨a, b, c, e⟩, ⟨a', b', c', e'⟩ => eqD a a' && eqD b b' && eqD c c' && eqD e e'
  | _ => false
def kill (d : Option Nat) (s : Sb) : Sb := match d with
  | none => s
  | some d => (s.1, s.2.filter fun (t, a) => !(Nat.beq t d || killA d a))
def isMove (loc : Nat) (o : Oper) : Option (Nat × Operand) := match o.guard, o.dst, o.op with
  | none, some d, .move x => if loc.testBit d then some (d, x) else none
  | none, some d, .assign x => if loc.testBit d then some (d, x) else none
  | _, _, _ => none
def cOps (P : Program) (loc : Nat) (ops : Array Oper) : List Oper → Sb → List XI
  | [], _ => []
  | o :: r, s => match isMove loc o with
    | some (d, x) => match cA s x with
      | some a => cOps P loc ops r (s.1, (d, a) :: (kill (some d) s).2)
      | none => cXI s P ops o :: cOps P loc ops r (kill o.dst s)
    | none => cXI s P ops o :: cOps P loc ops r (kill o.dst s)
def ready (ops : List Oper) (done : List Nat) : List Nat :=
  (List.range ops.length).filter fun i => !done.contains i && match ops[i]? with
    | some o => o.after.toList.all fun e => !Region.binds .any e || done.contains e.on
    | none => false
def kdI (P : Program) (loc : Nat) (ops : List Oper) (i : Nat) : Kd := match ops[i]? with
  | some o => kdX (xOf (loc, []) P o)
  | none => .m
def order (P : Program) (loc : Nat) (ops : List Oper) : Nat → List Nat → List Nat
  | 0, done => done.reverse
  | n + 1, done =>
    let r := ready ops done
    match r.find? fun i => (kdI P loc ops i matches .p), r.find? fun i => (kdI P loc ops i matches .l), r with
    | some i, _, _ => order P loc ops n (i :: done)
    | none, some i, _ => order P loc ops n (i :: done)
    | none, none, i :: _ => order P loc ops n (i :: done)
    | none, none, [] => done.reverse
def afterX (ops : List Oper) (i : Nat) : List Nat := match ops[i]? with
  | some o => (o.after.toList.filter fun e => Region.binds .any e).map (·.on)
  | none => []
def ahead (ops : List Oper) : Nat → List Nat → List Nat
  | 0, s => s
  | n + 1, s => ahead ops n ((s.flatMap (afterX ops)).foldl (fun s i => if s.contains i then s else i :: s) s)
def dkI (P : Program) (loc : Nat) (ops : List Oper) (i : Nat) : Dk := match kdI P loc ops i with
  | .p => .p
  | .l => .l
  | .m =>
    let s := ahead ops 6 (afterX ops i)
    match (List.range ops.length).all fun j => match kdI P loc ops j with
      | .l => s.contains j
      | _ => true with
      | true => .z
      | false => .m
def isNew (x : X) : Bool := match x with
  | .o (.al _) | .o (.ms ..) => true
  | _ => false
def plan (P : Program) (loc : Nat) (ops : List Oper) : List Nat → List Nat → List (Dk × Nat)
  | [], _ => []
  | i :: r, done => match dkI P loc ops i with
    | .p => (.p, i) :: plan P loc ops r (i :: done)
    | .l => (.l, i) :: plan P loc ops r (i :: done)
    | k => match ready ops done with
      | [_, j] => match isNew (xOf (loc, []) P (ops.getD j default)) && !Nat.beq i j with
        | true => (.e, j) :: (k, i) :: r.map fun i => (dkI P loc ops i, i)
        | false => (k, i) :: plan P loc ops r (i :: done)
      | _ => (k, i) :: plan P loc ops r (i :: done)
def cC (P : Program) (loc : Nat) : Code → XC
  | .skip => .skip
  | .ret => .ret
  | .exit i => .exit i
  | .seq a b => .seq (cC P loc a) (cC P loc b)
  | .cond x a b => match cA (loc, []) x with
    | some x => .cond x (cC P loc a) (cC P loc b)
    | none => .no
  | .block i c => .block i (cC P loc c)
  | .loop c => .loop (cC P loc c)
  | .region _ ops draw => if draw then .draw ((plan P loc ops.toList (order P loc ops.toList ops.size []) []).map fun (k, i) => (k, cXI (loc, []) P ops (ops.getD i default))) else .ops (cOps P loc ops ops.toList (loc, []))
  | .rangeFunc g ps a b => match cA (loc, []) g with
    | some g => .rf g (ps.toList.map ixOf) (cC P loc a) (cC P loc b)
    | none => .no
  | _ => .no
def cR (P : Program) : ResultVar → XR
  | .tmp t => .t (ixOf t)
  | .cell t ty => .c (ixOf t) ((agg P ty).getD false) ((size P ty).getD 1)
def clOf (P : Program) (loc : Nat) (f : Func) : Option (Ix × Ix × XC × Nat) := match f.body with
  | some (.seq (.region _ ops false) b) => match ops.toList with
    | [o0, o1] => match o0.op, o0.dst, o1.op, o1.dst with
      | .call ⟨.builtin .recover, _, _⟩, some d0, .assign (.tmp t), some d1 => match Nat.beq t d0 with
        | true => some (ixOf d0, ixOf d1, cC P loc b, f.ntmps)
        | false => none
      | _, _, _, _ => none
    | _ => none
  | _ => none
def cF (P : Program) (loc : Nat) (f : Func) : Option XF := f.body.map fun c => { body := cC P loc c, res := f.results.toList.map (cR P), n := f.ntmps }
abbrev Ans := Bool
def no : Ans := false
def both (a b : Ans) : Ans := a && b
abbrev K := Ext → TT → St → Ans
abbrev KN := TT → St → Ans
structure Cx where
  E : Env
  call : Nat → List V → St → (En → St → Ans) → Ans
  run : XC → TT → St → K → Ans
def new (o : O) (σ : St) (κ : Id → St → Ans) : Ans := stC σ fun _ n => setO n o σ fun σ => stC σ fun H _ => inc8 n (fun m => κ n ⟨H, m⟩) no
def ev (T : TT) (x : A) : V := A.rec (motive := fun _ => V) (fun i => (g16 i T).v) (fun v => v) x
def evK {R : Type} (T : TT) (x : A) (κ : V → R) : R := A.rec (motive := fun _ => R) (fun i => Lf.rec (motive := fun _ => R) κ (g16 i T)) κ x
def vNat (v : V) (κ : Nat → Ans) : Ans := vC v κ κ (fun _ => no) (fun _ _ => no) (fun _ _ _ _ => no) (fun _ _ => no) (fun _ => no)
def frcV {R : Type} (v : V) (κ : V → R) : R := vC v (fun a => natC a (κ (.n 0)) fun m => κ (.n (Nat.succ m))) (fun a => natC a (κ (.u 0)) fun m => κ (.u (Nat.succ m))) (fun x => booC x (κ (.b true)) (κ (.b false)))
  (fun i o => natC o (κ (.p i 0)) fun m => κ (.p i (Nat.succ m))) (fun i o l c => κ (.s i o l c)) (fun i l => κ (.q i l)) (fun w => κ (.w w))
def putV (d : Ix) (v : V) (T : TT) (σ : St) (κ : KN) : Ans := put16 d ⟨v⟩ T fun T => κ T σ
def putD (d : Ix) (v : V) (T : TT) (σ : St) (κ : KN) : Ans := frcV v fun v => putV d v T σ κ
def putN (d : Ix) (a : Nat) (T : TT) (σ : St) (κ : KN) : Ans := Nat.rec (motive := fun _ => Ans) (putV d (.n 0) T σ κ) (fun m _ => putV d (.n (Nat.succ m)) T σ κ) a
def putU (d : Ix) (a : Nat) (T : TT) (σ : St) (κ : KN) : Ans := Nat.rec (motive := fun _ => Ans) (putV d (.u 0) T σ κ) (fun m _ => putV d (.u (Nat.succ m)) T σ κ) a
def putB (d : Ix) (x : Bool) (T : TT) (σ : St) (κ : KN) : Ans := Bool.rec (motive := fun _ => Ans) (putV d (.b false) T σ κ) (putV d (.b true) T σ κ) x
def putP (d : Ix) (b : Id) (o : Nat) (T : TT) (σ : St) (κ : KN) : Ans := Nat.rec (motive := fun _ => Ans) (putV d (.p b 0) T σ κ) (fun m _ => putV d (.p b (Nat.succ m)) T σ κ) o
def putO (d : Ix) (v : Option V) (T : TT) (σ : St) (κ : KN) : Ans := optC v (fun v => putD d v T σ κ) no
def exL (f : V → Option Value) : List V → Option (List Value)
  | [] => some []
  | v :: l => match f v, exL f l with
    | some u, some r => some (u :: r)
    | _, _ => none
def exV : Nat → V → Option Value
  | _, .n a => some (.int .i64 (.ofNat a))
  | _, .u a => some (.int .u8 (.ofNat a))
  | _, .b x => some (.bool x)
  | _, .w (.k v) => some v
  | d + 1, .w (.a vs) => match exL (exV d) vs with
    | some us => some (.agg us.toArray)
    | none => none
  | d + 1, .w (.i t v) => match exV d v with
    | some u => some (.iface t u)
    | none => none
  | _, _ => none
def rhoE (T : TT) (s : Sb) (x : Operand) : Value := match x with
  | .const v => v
  | .tmp t => (exV 3 (ev T (atS s t))).getD (.tuple #[])
  | _ => .tuple #[]
def exOp (T : TT) (s : Sb) (x : Operand) : Bool := match x with
  | .const _ => true
  | .tmp t => (exV 3 (ev T (atS s t))).isSome
  | _ => false
def gen (P : Program) (T : TT) (g : G) : Option V := match g.o.op.operands.toList.all (exOp T g.s) with
  | true => match pureRun P (execOp (rhoE T g.s) g.o) with
    | some (.value v) => some (viewF 1 v)
    | _ => none
  | false => none
def lim : Nat := 9223372036854775808
def ltB (bd : Bd) (c : Int) : Option Bool := match bd.hi, bd.lo with
  | some h, some l => if h < c then some true else if c ≤ l then some false else none
  | some h, none => if h < c then some true else none
  | none, some l => if c ≤ l then some false else none
  | none, none => none
def gtB (bd : Bd) (c : Int) : Option Bool := match bd.hi, bd.lo with
  | some h, some l => if c < l then some true else if h ≤ c then some false else none
  | some h, none => if h ≤ c then some false else none
  | none, some l => if c < l then some true else none
  | none, none => none
def iiX (bd : Nat → Bd) (op : IOp) (j : Nat) (c : Int) : Option V := match op with
  | .lss => (ltB (bd j) c).map .b
  | .geq => (ltB (bd j) c).map fun x => .b (!x)
  | .gtr => (gtB (bd j) c).map .b
  | .leq => (gtB (bd j) c).map fun x => .b (!x)
  | .eql => match ltB (bd j) c, gtB (bd j) c with
    | some true, _ => some (.b false)
    | _, some true => some (.b false)
    | _, _ => none
  | .neq => match ltB (bd j) c, gtB (bd j) c with
    | some true, _ => some (.b true)
    | _, some true => some (.b true)
    | _, _ => none
  | _ => none
def iiG (E : Env) (op : IOp) (x y : V) (T : TT) (g : G) : Option V := match x, y with
  | .w (.x j), .n c => iiX E.bd op j (.ofNat c)
  | .w (.x j), .w (.k (.int .i64 c)) => iiX E.bd op j c
  | _, _ => gen E.P T g
abbrev OpF := Ix → Cx → TT → St → KN → K → Ans
def viaG (op : IOp) (g : G) (v w : V) (d : Ix) (C : Cx) (T : TT) (σ : St) (κ : KN) : Ans := putO d (iiG C.E op v w T g) T σ κ
abbrev JF := Nat → Nat → G → Ix → Cx → TT → St → KN → Ans
def jAdd : JF := fun a b g d C T σ κ => booC (Nat.ble lim (Nat.add a b)) no (putN d (Nat.add a b) T σ κ)
def jSub : JF := fun a b g d C T σ κ => booC (Nat.ble b a) (booC (Nat.ble lim a) no (putN d (Nat.sub a b) T σ κ)) (putO d (gen C.E.P T g) T σ κ)
def jMul : JF := fun a b g d C T σ κ => booC (Nat.ble lim (Nat.mul a b)) no (putN d (Nat.mul a b) T σ κ)
def jQuo : JF := fun a b g d C T σ κ => natC b no fun m => booC (Nat.ble lim a) no (putN d (Nat.div a (Nat.succ m)) T σ κ)
def jRem : JF := fun a b g d C T σ κ => natC b no fun m => putN d (Nat.mod a (Nat.succ m)) T σ κ
def jEql : JF := fun a b g d C T σ κ => putB d (Nat.beq a b) T σ κ
def jNeq : JF := fun a b g d C T σ κ => booC (Nat.beq a b) (putV d (.b false) T σ κ) (putV d (.b true) T σ κ)
def jLss : JF := fun a b g d C T σ κ => putB d (Nat.ble (Nat.succ a) b) T σ κ
def jLeq : JF := fun a b g d C T σ κ => putB d (Nat.ble a b) T σ κ
def jGtr : JF := fun a b g d C T σ κ => putB d (Nat.ble (Nat.succ b) a) T σ κ
def jGeq : JF := fun a b g d C T σ κ => putB d (Nat.ble b a) T σ κ
def jGen : JF := fun a b g d C T σ κ => putO d (gen C.E.P T g) T σ κ
def iN (op : IOp) (a b : Nat) (g : G) (d : Ix) (C : Cx) (T : TT) (σ : St) (κ : KN) : Ans :=
  (IOp.rec (motive := fun _ => JF) jAdd jSub jMul jQuo jRem jEql jNeq jLss jLeq jGtr jGeq jGen op) a b g d C T σ κ
def iU (op : IOp) (a b : Nat) (g : G) (d : Ix) (C : Cx) (T : TT) (σ : St) (κ : KN) : Ans :=
  (IOp.rec (motive := fun _ => JF) jGen jGen jGen jGen jGen jEql jNeq jLss jLeq jGtr jGeq jGen op) a b g d C T σ κ
abbrev VF := IOp → V → G → Ix → Cx → TT → St → KN → Ans
def vNb (a : Nat) : VF := fun op w g d C T σ κ => vC w (fun b => iN op a b g d C T σ κ) (fun _ => no) (fun _ => no) (fun _ _ => no) (fun _ _ _ _ => no) (fun _ _ => no) (fun _ => viaG op g (.n a) w d C T σ κ)
def vUb (a : Nat) : VF := fun op w g d C T σ κ => vC w (fun _ => no) (fun b => iU op a b g d C T σ κ) (fun _ => no) (fun _ _ => no) (fun _ _ _ _ => no) (fun _ _ => no) (fun _ => viaG op g (.u a) w d C T σ κ)
def vBb (_ : Bool) : VF := fun op w g d C T σ κ => no
def vPb (_ : Id) (_ : Nat) : VF := fun op w g d C T σ κ => no
def vSb (_ : Id) (_ _ _ : Nat) : VF := fun op w g d C T σ κ => no
def vWb (x : W) : VF := fun op w g d C T σ κ => viaG op g (.w x) w d C T σ κ
def iV (v : V) : VF := fun op w g d C T σ κ => (V0.rec (motive := fun _ => VF) vNb vUb vBb vPb vSb vPb vWb v) op w g d C T σ κ
def oII (op : IOp) (x y : A) (g : G) : OpF := fun d C T σ κ κp => evK T x fun v => evK T y fun w => iV v op w g d C T σ κ
def oMv (x : A) : OpF := fun d C T σ κ _ => evK T x fun v => putV d v T σ κ
def vB (v : V) (t f : Ans) : Ans := vC v (fun _ => no) (fun _ => no) (fun x => booC x t f) (fun _ _ => no) (fun _ _ _ _ => no) (fun _ _ => no) (fun _ => no)
def oPk (c a b : A) : OpF := fun d C T σ κ _ => evK T c fun v => vB v (evK T a fun v => putV d v T σ κ) (evK T b fun v => putV d v T σ κ)
def vN (v : V) (n u : Nat → Ans) (f : Ans) : Ans := vC v n u (fun _ => f) (fun _ _ => f) (fun _ _ _ _ => f) (fun _ _ => f) (fun _ => f)
def oCv (s : Bool) (x : A) (g : G) : OpF := fun d C T σ κ _ =>
  vN (ev T x) (fun a => booC s (putU d (Nat.mod a 256) T σ κ) no) (fun a => booC s no (booC (Nat.ble lim a) no (putN d a T σ κ))) (putO d (gen C.E.P T g) T σ κ)
def vP (v : V) (p : Id → Nat → Ans) : Ans := vC v (fun _ => no) (fun _ => no) (fun _ => no) p (fun _ _ _ _ => no) (fun _ _ => no) (fun _ => no)
def notNil (w : W) : Bool := match w with
  | .f (.func _) _ _ | .y _ | .i _ _ => true
  | _ => false
def oNil (x : A) : OpF := fun d C T σ κ _ =>
  vC (ev T x) (fun _ => no) (fun _ => no) (fun _ => no) (fun i o => putV d (.p i o) T σ κ) (fun _ _ _ _ => no) (fun _ _ => no) (fun w => booC (notNil w) (putV d (.w w) T σ κ) no)
def oFa (off : Nat) (x : A) : OpF := fun d C T σ κ _ => vP (ev T x) fun i o => putP d i (Nat.add o off) T σ κ
def slP (v : V) (κ : Id → Nat → Nat → Ans) (w : W → Ans) : Ans := vC v (fun _ => no) (fun _ => no) (fun _ => no) (fun _ _ => no) (fun i o l _ => κ i o l) (fun i l => κ i 0 l) w
def slW (w : W) : Option (Id × Nat × Nat) := match w with
  | .r i o l => some (i, o, l)
  | _ => none
def oIa (sz : Nat) (x i : A) : OpF := fun d C T σ κ _ => vNat (ev T i) fun a =>
  slP (ev T x) (fun b o l => booC (Nat.ble l a) no (putP d b (Nat.add o (Nat.mul a sz)) T σ κ))
    fun w => match slW w with
      | some (b, o, l) => booC (Nat.ble l a) no (putP d b (Nat.add o (Nat.mul a sz)) T σ κ)
      | none => no
def lenW (w : W) : Option Nat := match w with
  | .r _ _ l => some l
  | .z => some 0
  | .k (.slice none l _) => some l
  | _ => none
def oLn (x : A) : OpF := fun d C T σ κ _ => vC (ev T x) (fun _ => no) (fun _ => no) (fun _ => no) (fun _ _ => no) (fun _ _ l _ => putN d l T σ κ) (fun _ l => putN d l T σ κ)
  fun w => optC (lenW w) (fun l => putN d l T σ κ) no
def nth {α β : Type} (l : List α) (n : Nat) (κ : α → β) (f : β) : β :=
  foldC (β := Nat → β) l (fun _ => f) (fun x r n => natC n (κ x) r) n
def oLd (x : A) : OpF := fun d C T σ κ _ => vP (ev T x) fun i o => oCells (obj i σ) (fun cs _ => nth cs o (fun v => putD d v T σ κ) no) no
def takeX {α : Type} : Nat → List α → Option (List α)
  | 0, _ => some []
  | n + 1, x :: l => match takeX n l with
    | some r => some (x :: r)
    | none => none
  | _ + 1, [] => none
def dropX {α : Type} : Nat → List α → Option (List α)
  | 0, l => some l
  | n + 1, _ :: l => dropX n l
  | _ + 1, [] => none
def sub {α : Type} (o n : Nat) (l : List α) : Option (List α) := match dropX o l with
  | some l => takeX n l
  | none => none
def frc {α R : Type} (l : List α) (κ : List α → R) : R := foldC (β := (List α → R) → R) l (fun κ => κ []) (fun x r κ => r fun l => κ (x :: l)) κ
def subC {α : Type} (o n : Nat) (l : List α) (κ : List α → Ans) : Ans := optC (sub o n l) (fun l => frc l κ) no
def oLA (len : Nat) (x : A) : OpF := fun d C T σ κ _ => vP (ev T x) fun i o => oCells (obj i σ) (fun cs _ => subC o len cs fun l => putD d (.w (.a l)) T σ κ) no
def cellsW (w : W) : List V := match w with
  | .a vs => vs
  | .k (.agg cs) => cs.toList.map (viewF 3)
  | w => [.w w]
def cellsV (v : V) : List V := match v with
  | .w w => cellsW w
  | v => [v]
def putL (vs : List V) (l : List V) (n : Nat) (κ : List V → Ans) : Ans :=
  foldC (β := List V → Nat → (List V → Ans) → Ans) l (fun vs _ κ => listC vs (κ []) fun _ _ => no)
    (fun y r vs n κ => natC n (listC vs (r [] 0 fun l => κ (y :: l)) fun v vs => r vs 0 fun l => κ (v :: l)) fun m => r vs m fun l => κ (y :: l)) vs n κ
def put1 (v : V) (l : List V) (n : Nat) (κ : List V → Ans) : Ans :=
  foldC (β := List V → Nat → (List V → Ans) → Ans) l (fun _ _ _ => no) (fun y r tl n κ => listC tl no fun _ tl => natC n (κ (v :: tl)) fun m => r tl m fun l => κ (y :: l)) l n κ
def isAnyW (w : W) : Bool := match w with
  | .any => true
  | _ => false
def isAny (v : V) : Bool := match v with
  | .w w => isAnyW w
  | _ => false
def isAggV (w : W) : Bool := match w with
  | .a _ | .k (.agg _) => true
  | _ => false
def stMany (sz : Nat) (w : W) (cs : List V) (e : Nat) (i : Id) (o : Nat) (σ : St) (κ : St → Ans) : Ans := match Nat.beq (cellsW w).length sz && allOne (cellsW w) with
  | true => putL (cellsW w) cs o fun cs => setO i (.c cs e) σ κ
  | false => no
def st1 (v : V) (sz : Nat) (cs : List V) (e : Nat) (i : Id) (o : Nat) (σ : St) (κ : St → Ans) : Ans := booC (Nat.beq sz 1) (frcV v fun v => put1 v cs o fun cs => setO i (.c cs e) σ κ) no
def oSt (sz : Nat) (x y : A) : OpF := fun d C T σ κ _ => vP (ev T x) fun i o => oCells (obj i σ) (fun cs e =>
  vC (ev T y) (fun a => st1 (.n a) sz cs e i o σ (κ T)) (fun a => st1 (.u a) sz cs e i o σ (κ T)) (fun a => st1 (.b a) sz cs e i o σ (κ T)) (fun a b => st1 (.p a b) sz cs e i o σ (κ T))
    (fun a b c f => st1 (.s a b c f) sz cs e i o σ (κ T)) (fun a b => st1 (.q a b) sz cs e i o σ (κ T)) (fun w => booC (isAggV w) (stMany sz w cs e i o σ (κ T)) (booC (oneW w) (st1 (.w w) sz cs e i o σ (κ T)) no))) no
def oBx (x : A) : OpF := fun d C T σ κ _ => evK T x fun v => booC (isAny v) no (frc (cellsV v) fun cs => booC (allOne cs) (new (.c cs 0) σ fun i σ => putV d (.p i 0) T σ κ) no)
def compW (w : W) : Option (List V) := match w with
  | .t vs => some vs
  | _ => none
def oEx (x : A) (i : Nat) : OpF := fun d C T σ κ _ => vC (ev T x) (fun _ => no) (fun _ => no) (fun _ => no) (fun _ _ => no) (fun _ _ _ _ => no) (fun _ _ => no)
  fun w => optC (compW w) (fun vs => nth vs i (fun v => putD d v T σ κ) no) no
def evL (T : TT) (l : List A) (κ : List V → Ans) : Ans := foldC (β := (List V → Ans) → Ans) l (fun κ => κ []) (fun x r κ => frcV (ev T x) fun v => r fun l => κ (v :: l)) κ
def endC (d : Ix) (T : TT) (κ : KN) (κp : K) (e : En) (σ : St) : Ans := match e with
  | .r v => putD d v T σ κ
  | .p v => κp (.p v) T σ
def oCa (f : FuncId) (aas : List A) : OpF := fun d C T σ κ κp => evL T aas fun vs => C.call f vs σ (endC d T κ κp)
def evO (T : TT) (x : Option A) (k : Nat) (κ : Nat → Ans) : Ans := optC x (fun x => vNat (ev T x) κ) (κ k)
def sliceS (sz : Nat) (i : Id) (o lo h m : Nat) : Option V := some (.s i (Nat.add o (Nat.mul lo sz)) (Nat.sub h lo) (Nat.sub m lo))
def sliceR (sz : Nat) (i : Id) (o lo h : Nat) : Option V := match Nat.ble h lo with
  | false => some (.w (.r i (Nat.add o (Nat.mul lo sz)) (Nat.sub h lo)))
  | true => some (.w .z)
def sliceN (i : Id) (l lo h : Nat) (sz : Nat) (mx : Option Nat) : Option V := match Nat.ble lo h && Nat.ble h l with
  | true => match mx, lo with
    | none, 0 => some (.q i h)
    | none, _ => sliceR sz i 0 lo h
    | some m, _ => match Nat.ble h m && Nat.ble m l && Nat.ble (Nat.succ lo) m with
      | true => sliceS sz i 0 lo h m
      | false => none
  | false => none
def sliceK (i : Id) (o l c lo h : Nat) (sz : Nat) (mx : Option Nat) : Option V :=
  let m := mx.getD c
  match Nat.ble lo h && Nat.ble h m && Nat.ble m c with
  | true => match Nat.beq m lo with
    | true => some (.s i o 0 0)
    | false => sliceS sz i o lo h m
  | false => none
def sliceQ (i : Id) (o l lo h : Nat) (sz : Nat) (mx : Option Nat) : Option V := match Nat.ble lo h && Nat.ble h l with
  | true => match mx with
    | none => sliceR sz i o lo h
    | some m => match Nat.ble h m && Nat.ble m l && Nat.ble (Nat.succ lo) m with
      | true => sliceS sz i o lo h m
      | false => none
  | false => none
def sliceV (sz : Nat) (v : V) (lo : Nat) (hi : Option Nat) (mx : Option Nat) : Option V := match v with
  | .s i o l c => sliceK i o l c lo (hi.getD l) sz mx
  | .q i l => sliceN i l lo (hi.getD l) sz mx
  | .w (.r i o l) => sliceQ i o l lo (hi.getD l) sz mx
  | .w .z => match lo, hi.getD 0, mx with
    | 0, 0, none => some (.w .z)
    | _, _, _ => none
  | .w (.k (.slice none l c)) => match lo, hi.getD l, mx.getD c with
    | 0, 0, 0 => some (.w (.k (.slice none 0 0)))
    | _, _, _ => none
  | _ => none
def frcS (v : V) (κ : V → Ans) : Ans := match v with
  | .s i o l c => natC o (natC l (natC c (κ (.s i 0 0 0)) fun c => κ (.s i 0 0 (Nat.succ c))) fun l => natC c (κ (.s i 0 (Nat.succ l) 0)) fun c => κ (.s i 0 (Nat.succ l) (Nat.succ c)))
      fun o => natC l (natC c (κ (.s i (Nat.succ o) 0 0)) fun c => κ (.s i (Nat.succ o) 0 (Nat.succ c))) fun l => natC c (κ (.s i (Nat.succ o) (Nat.succ l) 0)) fun c => κ (.s i (Nat.succ o) (Nat.succ l) (Nat.succ c))
  | .q i l => natC l (κ (.q i 0)) fun l => κ (.q i (Nat.succ l))
  | .w (.r i o l) => natC o (natC l (κ (.w (.r i 0 0))) fun l => κ (.w (.r i 0 (Nat.succ l)))) fun o => natC l (κ (.w (.r i (Nat.succ o) 0))) fun l => κ (.w (.r i (Nat.succ o) (Nat.succ l)))
  | v => κ v
def oSl (sz : Nat) (x : A) (lo hi mx : Option A) : OpF := fun d C T σ κ _ => evO T lo 0 fun l => evO T hi 0 fun h => evO T mx 0 fun m =>
  optC (sliceV sz (ev T x) l (hi.map fun _ => h) (mx.map fun _ => m)) (fun v => frcS v fun v => putV d v T σ κ) no
def bytesL : List UInt8 → List V
  | [] => []
  | x :: l => .u x.toNat :: bytesL l
def contents (sz : Nat) (v : V) (σ : St) (κ : List V → Nat → Ans) : Ans :=
  slP v (fun i o l => oCells (obj i σ) (fun cs _ => subC o (Nat.mul l sz) cs fun cs => κ cs l) no)
    fun w => match w with
      | .r i o l => oCells (obj i σ) (fun cs _ => subC o (Nat.mul l sz) cs fun cs => κ cs l) no
      | .z => κ [] 0
      | .k (.slice none 0 _) => κ [] 0
      | .k (.string b) => booC (Nat.beq sz 1) (frc (bytesL b.data.toList) fun cs => κ cs b.size) no
      | _ => no
def grown (sz l n : Nat) (old cs : List V) (σ : St) (κ : V → St → Ans) : Ans := booC (Nat.ble (Nat.add l n) 1048576) (
  frc (old ++ cs) fun cs => new (.c cs sz) σ fun j σ => natC (Nat.add l n) (κ (.q j 0) σ) fun l => κ (.q j (Nat.succ l)) σ) no
def app (sz : Nat) (v : V) (cs : List V) (n : Nat) (σ : St) (κ : V → St → Ans) : Ans := match v with
  | .s i o l c => match Nat.ble (Nat.add l n) c with
    | true => oCells (obj i σ) (fun old e => putL cs old (Nat.add o (Nat.mul l sz)) fun cs => setO i (.c cs e) σ fun σ => natC (Nat.add l n) (κ (.s i o 0 c) σ) fun l => κ (.s i o (Nat.succ l) c) σ) no
    | false => contents sz v σ fun old _ => grown sz l n old cs σ κ
  | .q i l => match n with
    | 0 => κ v σ
    | _ + 1 => oCells (obj i σ) (fun _ e => booC (Nat.beq e sz) (contents sz v σ fun old _ => setO i .no σ fun σ => grown sz l n old cs σ κ) no) no
  | .w (.k (.slice none 0 0)) => match n with
    | 0 => κ v σ
    | _ + 1 => grown sz 0 n [] cs σ κ
  | _ => no
def oAp (sz : Nat) (z : List V) (x y : A) : OpF := fun d C T σ κ _ => contents sz (ev T y) σ fun cs n => app sz (ev T x) cs n σ fun v σ => putD d v T σ κ
def nilV (k : NK) (v : V) : Option Bool := match k, v with
  | .p, .p _ _ => some false
  | .p, .w (.k (.pointer none)) => some true
  | .s, .s _ _ _ _ => some false
  | .s, .q _ _ => some false
  | .s, .w (.r _ _ _) => some false
  | .s, .w .z => some false
  | .s, .w (.k (.slice none _ _)) => some true
  | .m, .w (.m _) => some false
  | .m, .w (.k (.map none)) => some true
  | .f, .w (.f _ _ _) => some false
  | .f, .w (.y _) => some false
  | .f, .w (.k .nilFunc) => some true
  | _, _ => none
def epX (k : NK) (x y : V) : Option Bool := match nilV k x, nilV k y with
  | some true, some b => some b
  | some false, some true => some false
  | _, _ => none
def negO (neg : Bool) (x : Option Bool) : Option V := match x with
  | some b => match neg with
    | true => some (.b (!b))
    | false => some (.b b)
  | none => none
def nthO {α : Type} : List α → Nat → Option α
  | [], _ => none
  | x :: l, n => match n with
    | 0 => some x
    | m + 1 => nthO l m
def aggO (l : Option (List V)) : Option V := match l with
  | some vs => some (.w (.a vs))
  | none => none
def evN (T : TT) (x : A) : Option Nat := match ev T x with
  | .n a => some a
  | .u a => some a
  | _ => none
def putLO (vs l : List V) (n : Nat) : Option (List V) := match l with
  | [] => match vs with
    | [] => some []
    | _ :: _ => none
  | y :: l => match n with
    | m + 1 => (putLO vs l m).map (y :: ·)
    | 0 => match vs with
      | [] => some (y :: l)
      | v :: vs => (putLO vs l 0).map (v :: ·)
def fpart (T : TT) : List (Nat × Nat × A) → List V → Option (List V)
  | [], z => some z
  | (o, s, x) :: r, z => match Nat.beq (cellsV (ev T x)).length s && !isAny (ev T x) with
    | true => match putLO (cellsV (ev T x)) z o with
      | some z => fpart T r z
      | none => none
    | false => none
def fdW (ag : Bool) (off len : Nat) (vs : List V) : Option V := match ag with
  | true => aggO (sub off len vs)
  | false => nthO vs off
def aggV (v : V) : Option (List V) := match v with
  | .w (.a vs) => some vs
  | .w (.k (.agg cs)) => some (cs.toList.map (viewF 3))
  | _ => none
def opsA (T : TT) : List A → List V
  | [] => []
  | x :: l => ev T x :: opsA T l
def pur (E : Env) (T : TT) (y : Y) : Option V := match y with
  | .ge g => gen E.P T g
  | .not x => match ev T x with
    | .b b => some (.b (!b))
    | _ => none
  | .ep neg k x y => negO neg (epX k (ev T x) (ev T y))
  | .fd ag off len x => match aggV (ev T x) with
    | some vs => fdW ag off len vs
    | none => none
  | .iA sz len x i => match ev T x, evN T i with
    | .p b o, some a => match Nat.ble len a with
      | true => none
      | false => some (.p b (Nat.add o (Nat.mul a sz)))
    | _, _ => none
  | .iv ag sz len x i => match evN T i with
    | some a => match Nat.ble len a with
      | true => none
      | false => match aggV (ev T x) with
        | some vs => fdW ag (Nat.mul a sz) sz vs
        | none => none
    | none => none
  | .sa sz len x lo hi mx => match ev T x, lo, hi, mx with
    | .p i o, none, none, none => sliceV sz (.s i o len len) 0 none none
    | .p i o, some x, none, none => match evN T x with
      | some l => sliceV sz (.s i o len len) l none none
      | none => none
    | .p i o, none, some x, none => match evN T x with
      | some h => sliceV sz (.s i o len len) 0 (some h) none
      | none => none
    | _, _, _, _ => none
  | .bd z ps => aggO (fpart T ps z)
  | .mf g fs cs => some (.w (.f g (opsA T fs) (opsA T cs)))
  | .mi t x => some (.w (.i t (ev T x)))
  | .ta t x => match ev T x with
    | .w (.i s v) => if s = t then some v else none
    | .w (.k (.iface s v)) => if s = t then some (viewF 3 v) else none
    | _ => none
  | .cp x => match ev T x with
    | .s _ _ _ c => some (.n c)
    | .w (.k (.slice none _ c)) => some (.n c)
    | _ => none
  | _ => none
def keyI (kk : KK) (v : V) : Option (Nat × Nat) := match kk, v with
  | .i, .n a => some (a, 0)
  | .s, .w (.a [.n a, .n b]) => some (a, b)
  | _, _ => none
def eqK (kk : KK) (v w : V) : Option Bool := match keyI kk v, keyI kk w with
  | some (a, b), some (c, d) => some (Nat.beq a c && Nat.beq b d)
  | _, _ => none
def findE (kk : KK) (k : V) : List (V × V × Nat) → Option (Option V)
  | [] => some none
  | (k', v, _) :: r => match eqK kk k k' with
    | some true => some (some v)
    | some no => findE kk k r
    | none => none
def lkV (ok : Bool) (z : V) (r : Option (Option V)) : Option V := match r with
  | some (some v) => match ok with
    | true => some (.w (.t [v, .b true]))
    | false => some v
  | some none => match ok with
    | true => some (.w (.t [z, .b false]))
    | false => some z
  | none => none
def mapAt (v : V) (σ : St) : Option (Option (List (V × V × Nat))) := match v with
  | .w (.m i) => match obj i σ with
    | .m es _ => some (some es)
    | _ => none
  | .w (.k (.map none)) => some none
  | _ => none
def loa (T : TT) (σ : St) (y : Y) : Option V := match y with
  | .lk kk ok z x k => match mapAt (ev T x) σ, keyI kk (ev T k) with
    | some (some es), some _ => lkV ok z (findE kk (ev T k) es)
    | some none, some _ => lkV ok z (some none)
    | _, _ => none
  | .lm x => match mapAt (ev T x) σ with
    | some (some es) => some (.n es.length)
    | some none => some (.n 0)
    | none => none
  | _ => none
def rep {α : Type} (z : List α) : Nat → List α → List α
  | 0, l => l
  | n + 1, l => rep z n (z ++ l)
def over (v : V) (cs : List V) (σ : St) (κ : St → Ans) : Ans :=
  slP v (fun i o _ => oCells (obj i σ) (fun old e => putL cs old o fun cs => setO i (.c cs e) σ κ) no)
    fun w => match w with
      | .r i o _ => oCells (obj i σ) (fun old e => putL cs old o fun cs => setO i (.c cs e) σ κ) no
      | _ => listC cs (κ σ) fun _ _ => no
def putE (kk : KK) (k v : V) (clock : Nat) : List (V × V × Nat) → Option (List (V × V × Nat) × Bool)
  | [] => some ([(k, v, clock)], true)
  | (k', w, c) :: r => match eqK kk k k' with
    | some true => some ((k, v, c) :: r, false)
    | some no => match putE kk k v clock r with
      | some (r, b) => some ((k', w, c) :: r, b)
      | none => none
    | none => none
def delE (kk : KK) (k : V) : List (V × V × Nat) → Option (List (V × V × Nat))
  | [] => some []
  | (k', w, c) :: r => match eqK kk k k' with
    | some true => some r
    | some no => (delE kk k r).map ((k', w, c) :: ·)
    | none => none
def stampE (s : Nat) (v : V) : List (V × V × Nat) → Option (List (V × V × Nat))
  | [] => none
  | (k', w, c) :: r => match Nat.beq s c with
    | true => some ((k', v, c) :: r)
    | false => (stampE s v r).map ((k', w, c) :: ·)
def findK (kk : KK) (k : V) : List (V × V × Nat) → Option (Option (V × Nat))
  | [] => some none
  | (k', v, c) :: r => match eqK kk k k' with
    | some true => some (some (v, c))
    | some no => findK kk k r
    | none => none
def left (since : Nat) (seen : List Nat) : List (V × V × Nat) → Option (List (V × V × Nat))
  | [] => some []
  | (k, v, c) :: r => match left since seen r with
    | some r => match seen.any (Nat.beq c) with
      | true => some r
      | false => match Nat.blt c since with
        | true => some ((k, v, c) :: r)
        | false => none
    | none => none
def elder (last : Nat) (seen : List Nat) (es : List (V × V × Nat)) : Bool := match seen, es with
  | [], _ => true
  | _, [] => true
  | _, es => es.any fun e => Nat.blt e.2.2 last
def notStr (v : V) : Bool := match v with
  | .w (.k (.string _)) => false
  | _ => true
def isNil {α : Type} (l : List α) : Bool := match l with
  | [] => true
  | _ => false
def branch (κ : V × V × Nat → Ans) : V × V × Nat → List (V × V × Nat) → Ans
  | e, [] => κ e
  | e, e' :: r => both (κ e) (branch κ e' r)
def next (i : Id) (σ : St) (κ : V → St → Ans) : Ans := match obj i σ with
  | .it none _ _ _ => κ (.w (.t [.b false])) σ
  | .it (some m) since seen last => match obj m σ with
    | .m es clock => match left since seen es, elder last seen es with
      | some [], true => κ (.w (.t [.b false])) σ
      | some (e :: r), true => branch (fun e => setO i (.it (some m) since (e.2.2 :: seen) clock) σ fun σ => κ (.w (.t [.b true, e.1, e.2.1])) σ) e r
      | _, _ => no
    | _ => no
  | _ => no
def stampV (s : Nat) : List (V × V × Nat) → Option V
  | [] => none
  | (k, v, c) :: r => match Nat.beq s c with
    | true => some (.w (.t [k, v]))
    | false => stampV s r
def byteL : List V → Option (List UInt8)
  | [] => some []
  | .u a :: l => (byteL l).map (UInt8.ofNat a :: ·)
  | _ => none
def unitV : V := .w (.t [])
def act (P : Program) (T : TT) (σ : St) (y : Y) (κ : V → St → Ans) : Ans := match y with
  | .al cs => booC (allOne cs) (frc cs fun cs => new (.c cs 0) σ fun i σ => κ (.p i 0) σ) no
  | .bl len sz z ps => match fpart T ps (rep z len []) with
    | some cs => frc cs fun cs => booC (allOne cs) (new (.c cs 0) σ fun i σ => κ (.s i 0 len len) σ) no
    | none => no
  | .ms z l c => match evN T l, evN T c with
    | some l, some c => match Nat.ble l c && (Nat.ble c 65536 && allOne z) with
      | true => frc (rep z c []) fun cs => new (.c cs 0) σ fun i σ => frcS (.s i 0 l c) fun v => κ v σ
      | false => no
    | _, _ => no
  | .mm => new (.m [] 0) σ fun i σ => κ (.w (.m i)) σ
  | .mu kk m k v => match ev T m, keyI kk (ev T k) with
    | .w (.m i), some _ => match obj i σ with
      | .m es c => match putE kk (ev T k) (ev T v) c es with
        | some (es', true) => frc es' fun es' => setO i (.m es' (Nat.succ c)) σ fun σ => κ unitV σ
        | some (es', false) => frc es' fun es' => setO i (.m es' c) σ fun σ => κ unitV σ
        | none => no
      | _ => no
    | _, _ => no
  | .me kk z m k => match ev T m, keyI kk (ev T k) with
    | .w (.m i), some _ => match obj i σ with
      | .m es c => match findK kk (ev T k) es with
        | some (some (v, s)) => match putE kk (ev T k) v c es with
          | some (es', _) => setO i (.m es' c) σ fun σ => κ (.w (.t [v, .n s])) σ
          | none => no
        | some none => match putE kk (ev T k) z c es with
          | some (es', _) => setO i (.m es' (Nat.succ c)) σ fun σ => κ (.w (.t [z, .n c])) σ
          | none => no
        | none => no
      | _ => no
    | _, _ => no
  | .et m s v => match ev T m, evN T s with
    | .w (.m i), some s => match obj i σ with
      | .m es c => match stampE s (ev T v) es with
        | some es => setO i (.m es c) σ fun σ => κ unitV σ
        | none => no
      | _ => no
    | _, _ => no
  | .rg x => match ev T x with
    | .w (.m i) => match obj i σ with
      | .m es c => new (.it (some i) c [] c) σ fun j σ => κ (.p j 0) σ
      | _ => no
    | .w (.k (.map none)) => new (.it none 0 [] 0) σ fun j σ => κ (.p j 0) σ
    | _ => no
  | .nx x => match ev T x with
    | .p i 0 => next i σ κ
    | _ => no
  | .en x => match ev T x with
    | .p i 0 => match obj i σ with
      | .it (some m) _ (s :: _) last => match obj m σ with
        | .m es clock => match Nat.beq clock last, stampV s es with
          | true, some v => κ v σ
          | _, _ => no
        | _ => no
      | _ => no
    | _ => no
  | .bs x => booC (notStr (ev T x)) (contents 1 (ev T x) σ fun cs _ => match byteL cs with
    | some bs => κ (.w (.k (.string ⟨bs.toArray⟩))) σ
    | none => no) no
  | .az sz z x y => match evN T y with
    | some n => booC (allOne z && Nat.ble n 65536) (frc (rep z n []) fun cs => app sz (ev T x) cs n σ κ) no
    | none => no
  | .cy sz x y => booC (notStr (ev T x)) (contents sz (ev T x) σ fun _ l => contents sz (ev T y) σ fun cs n => match Nat.ble n l with
    | true => over (ev T x) cs σ fun σ => κ (.n n) σ
    | false => match takeX (Nat.mul l sz) cs with
      | some cs => over (ev T x) cs σ fun σ => κ (.n l) σ
      | none => no) no
  | .cr z x => match ev T x with
    | .w (.m i) => match obj i σ with
      | .m _ c => setO i (.m [] c) σ fun σ => κ unitV σ
      | _ => no
    | .w (.k (.map none)) => κ unitV σ
    | v => booC (isNil z || !notStr v) no (contents z.length v σ fun _ l => frc (rep z l []) fun cs => over v cs σ fun σ => κ unitV σ)
  | .de kk m k => match ev T m, keyI kk (ev T k) with
    | .w (.m i), some _ => match obj i σ with
      | .m es c => match delE kk (ev T k) es with
        | some es => setO i (.m es c) σ fun σ => κ unitV σ
        | none => no
      | _ => no
    | _, _ => no
  | _ => no
def pushL (vs : List V) (n : Nat) (T : TT) (κ : TT → Ans) : Ans := match vs with
  | [] => κ T
  | v :: vs => put16 (ixOf n) ⟨v⟩ T fun T => pushL vs (Nat.succ n) T κ
def pushP (ps : List Ix) (vs : List V) (T : TT) (κ : TT → Ans) : Ans := match ps, vs with
  | [], [] => κ T
  | p :: ps, v :: vs => put16 p ⟨v⟩ T fun T => pushP ps vs T κ
  | _, _ => no
def cellAt (v : V) (ag : Bool) (len : Nat) (σ : St) : Option V := match v with
  | .p i o => match obj i σ with
    | .c cs _ => fdW ag o len cs
    | _ => none
  | _ => none
def resX (T : TT) (σ : St) : List XR → Option (List V)
  | [] => some []
  | .t i :: r => match resX T σ r with
    | some l => some ((g16 i T).v :: l)
    | none => none
  | .c i ag len :: r => match cellAt (g16 i T).v ag len σ, resX T σ r with
    | some v, some l => some (v :: l)
    | _, _ => none
def tup (l : List V) : V := match l with
  | [v] => v
  | l => .w (.t l)
def meth (P : Program) (t : TypeId) (name : String) : Option FuncId := do
  let i ← pureRun P (typeInfo t)
  let m ← i.methods.find? (·.name == name)
  if m.path.size = 0 then match P.underlying t, m.func with
    | some (.pointer _), some (f, true) => some f
    | _, _ => none
  else none
def valK (v : Option Value) (σ : St) (κ : V → St → Ans) : Ans := match v with
  | some v => κ (viewF 1 v) σ
  | none => no
def extX (P : Program) (k : Nat) (vs : List V) (σ : St) (κ : V → St → Ans) : Ans := match k, vs with
  | 0, [.n n] => match Nat.ble n 65536 with                                  -- MakeNoZero
    | true => frc (rep [.w .any] n []) fun cs => new (.c cs 1) σ fun j σ => κ (.q j n) σ
    | false => no
  | 1, [.w (.i t (.w (.m i)))] => match obj i σ with                                   -- maps.clone
    | .m es c => new (.m es c) σ fun j σ => κ (.w (.i t (.w (.m j)))) σ
    | _ => no
  | 2, [.w (.k (.string a)), .w (.k (.string b))] => valK (pureRun P (Extern.BytealgCompare.compare #[.string a, .string b])) σ κ      -- cmpstring
  | 3, [.w (.k (.string a)), .u c] => valK (pureRun P (Extern.BytealgCount.count #[.string a, .int .u8 (.ofNat c)])) σ κ       -- CountString
  | 4, [.w (.k (.string a)), .u c] => valK (pureRun P (Extern.BytealgIndexByte.indexByte #[.string a, .int .u8 (.ofNat c)])) σ κ       -- IndexByteString
  | _, _ => no
def setL (i : Id) (T : TT) (ps : List Ix) (asg body : XC) (s : LS) (p : Option J) (σ : St) (κ : St → Ans) : Ans := setO i (.lp T ps asg body s p) σ κ
def endR (C : Cx) (i : Id) (e : Ext) (σ : St) (κ : En → St → Ans) : Ans := match obj i σ with
  | .lp T ps asg body .busy _ => match e with
    | .n => setL i T ps asg body .ready none σ fun σ => κ (.r (.b true)) σ
    | .r => setL i T ps asg body .done (some .r) σ fun σ => κ (.r (.b false)) σ
    | .x j => setL i T ps asg body .done (some (.x j)) σ fun σ => κ (.r (.b false)) σ
    | .p _ => no
  | _ => no
def midR (C : Cx) (i : Id) (bd : XC) (T1 : TT) (σ : St) (κ : En → St → Ans) : Ans := match obj i σ with
  | .lp T ps asg body .ready pend => setL i T ps asg body .busy pend σ fun σ => C.run bd T1 σ fun e _ σ => endR C i e σ κ
  | _ => no
def roundC (C : Cx) (i : Id) (T : TT) (ps : List Ix) (asg body : XC) (vs : List V) (σ : St) (κ : En → St → Ans) : Ans :=
  pushP ps vs T fun T1 => put16 ixDs ⟨.w (.t [])⟩ T1 fun T1 => C.run asg T1 σ fun e T1 σ => match e with
    | .n => midR C i body T1 σ κ
    | _ => no
def callV (C : Cx) (v : V) (vs : List V) (σ : St) (κ : En → St → Ans) : Ans := match v with
  | .w (.f (.func f) fs cs) => frc (fs ++ (vs ++ cs)) fun l => C.call f l σ κ
  | .w (.k (.func (.func f) ⟨[]⟩ ⟨[]⟩)) => C.call f vs σ κ
  | .w (.y i) => match obj i σ with
    | .lp T ps asg body .ready _ => roundC C i T ps asg body vs σ κ
    | _ => no
  | _ => no
def isFn (f : FI) : Bool := match f with
  | .fn (some _) => true
  | _ => false
def isText (C : Cx) (v : V) : Bool := match v with
  | .w (.f (.func f) _ _) => isFn (C.E.tb f)
  | .w (.k (.func (.func f) ⟨[]⟩ ⟨[]⟩)) => isFn (C.E.tb f)
  | _ => false
def dsOf (T : TT) : List V := match (g16 ixDs T).v with
  | .w (.t l) => l
  | _ => []
def ioF (C : Cx) (v : V) (name : String) (vs : List V) (σ : St) (κ : En → St → Ans) : Ans := match v with
  | .w (.i t v) => match meth C.E.P t name with
    | some f => C.call f (v :: vs) σ κ
    | none => no
  | _ => no
def isClo (v : V) : Bool := match v with
  | .w (.f (.func _) _ _) => true
  | _ => false
def isI (v : V) : Bool := match v with
  | .w (.i _ _) => true
  | _ => false
def oY (y : Y) : OpF := fun d C T σ κ κp => match kdY y with
  | .p => putO d (pur C.E T y) T σ κ
  | .l => putO d (loa T σ y) T σ κ
  | _ => match y with
    | .cl g aas => evL T aas fun vs => callV C (ev T g) vs σ (endC d T κ κp)
    | .io r name aas => evL T aas fun vs => ioF C (ev T r) name vs σ (endC d T κ κp)
    | .df g aas => evL T aas fun vs => frcV (ev T g) fun g => booC (!isClo g) no <| put16 ixDs ⟨.w (.t (.w (.t (g :: vs)) :: dsOf T))⟩ T fun T => κ T σ
    | .rc => no
    | .pn x => frcV (ev T x) fun v => booC (isI v) (κp (.p v) T σ) no
    | y => act C.E.P T σ y fun v σ => putD d v T σ κ
def doX (x : X) : OpF := fun d C T σ κ κp => (X.rec (motive := fun _ => OpF) oMv oII oPk oCv oNil oFa oIa oSl oEx oLn oLd oLA oSt oBx oCa oAp oY x) d C T σ κ κp
def wantsW (w : W) (f : Ans) : Ans := match w with
  | .t _ => f
  | .k (.tuple _) => f
  | _ => no
def wants (v : V) (w : Bool) (t f : Ans) : Ans := vC v (fun _ => no) (fun _ => no) (fun x => booC x (booC w t f) (booC w f t)) (fun _ _ => no) (fun _ _ _ _ => no) (fun _ _ => no) fun z => wantsW z f
def guarded (gw : Ix × Bool) (x : X) (d : Ix) (C : Cx) (T : TT) (σ : St) (κ : KN) (κp : K) : Ans := match gw with
  | (i, w) => wants (g16 i T).v w (doX x d C T σ κ κp) (putV d undefV T σ κ)
def opsE (C : Cx) (T : TT) (σ : St) (κ : K) : Ans := κ .n T σ
def opsS (o : XI) (r : Cx → TT → St → K → Ans) (C : Cx) (T : TT) (σ : St) (κ : K) : Ans := XI.rec (motive := fun _ => Ans)
  (fun g d x => Option.rec (motive := fun _ => Ans) (doX x d C T σ (fun T σ => r C T σ κ) κ) (fun gw => guarded gw x d C T σ (fun T σ => r C T σ κ) κ) g) o
def rOps (l : List XI) (C : Cx) (T : TT) (σ : St) (κ : K) : Ans := (List.rec (motive := fun _ => Cx → TT → St → K → Ans) opsE (fun o _ r => opsS o r) l) C T σ κ
def noK : K := fun _ _ _ => no
def opsN (o : XI) (r : Cx → TT → St → K → Ans) (C : Cx) (T : TT) (σ : St) (κ : K) : Ans := match o.g with
  | none => doX o.x o.d C T σ (fun T σ => r C T σ κ) noK
  | some gw => guarded gw o.x o.d C T σ (fun T σ => r C T σ κ) noK
def sameK (v w : Value) : Bool := match v, w with
  | .pointer none, .pointer none => true
  | .slice none l c, .slice none l' c' => Nat.beq l l' && Nat.beq c c'
  | .map none, .map none => true
  | .nilFunc, .nilFunc => true
  | .nilIface, .nilIface => true
  | .string a, .string b => a.data.toList == b.data.toList
  | .int k a, .int k' b => k == k' && a == b
  | _, _ => false
def sameV : Nat → V → V → Bool
  | _, .n a, .n b => Nat.beq a b
  | _, .u a, .u b => Nat.beq a b
  | _, .b a, .b b => a == b
  | _, .p i o, .p j u => eqI i j && Nat.beq o u
  | _, .s i o l c, .s j u m e => eqI i j && (Nat.beq o u && (Nat.beq l m && Nat.beq c e))
  | _, .q i l, .q j m => eqI i j && Nat.beq l m
  | _, .w (.m i), .w (.m j) => eqI i j
  | _, .w (.k v), .w (.k w) => sameK v w
  | d + 1, .w (.i t v), .w (.i u w) => Nat.beq t u && sameV d v w
  | d + 1, .w (.a vs), .w (.a ws) => Nat.beq vs.length ws.length && (vs.zip ws).all fun p => sameV d p.1 p.2
  | _, _, _ => false
def ldV (T : TT) (σ : St) (x : X) : Option V := match x with
  | .ld x => match ev T x with
    | .p i o => match obj i σ with
      | .c cs _ => nthO cs o
      | _ => none
    | _ => none
  | .lA len x => match ev T x with
    | .p i o => match obj i σ with
      | .c cs _ => aggO (sub o len cs)
      | _ => none
    | _ => none
  | .o y => loa T σ y
  | _ => none
def stays (T : TT) (σ : St) : List (Ix × X) → Bool
  | [] => true
  | (d, x) :: r => match ldV T σ x with
    | some v => match sameV 4 v (g16 d T).v with
      | true => stays T σ r
      | false => false
    | none => false
def wanted (T : TT) (g : Option (Ix × Bool)) : Bool := match g with
  | none => true
  | some (i, w) => match (g16 i T).v with
    | .b x => x == w
    | _ => false
def earlyOK (T : TT) (x : X) : Bool := match x with
  | .o (.al cs) => allOne cs
  | .o (.ms z l c) => match evN T l, evN T c with
    | some l, some c => Nat.ble l c && (Nat.ble c 65536 && allOne z)
    | _, _ => false
  | _ => false
def rDraw : List (Dk × XI) → List (Ix × X) → Cx → TT → St → K → Ans
  | [], _, C, T, σ, κ => κ .n T σ
  | (k, o) :: r, acc, C, T, σ, κ => match k with
    | .p => opsN o (rDraw r acc) C T σ κ
    | .l => match wanted T o.g with
      | true => opsN o (rDraw r ((o.d, o.x) :: acc)) C T σ κ
      | false => opsN o (rDraw r acc) C T σ κ
    | .m => opsN o (fun C T σ κ => match stays T σ acc with
      | true => rDraw r acc C T σ κ
      | false => no) C T σ κ
    | .z => opsN o (rDraw r []) C T σ κ
    | .e => match earlyOK T o.x with
      | true => rDraw r acc C T σ κ
      | false => no
def rDraws (l : List (Dk × XI)) (C : Cx) (T : TT) (σ : St) (κ : K) : Ans := rDraw l [] C T σ κ
def rSkip (C : Cx) (T : TT) (σ : St) (κ : K) : Ans := κ .n T σ
def rRet (C : Cx) (T : TT) (σ : St) (κ : K) : Ans := κ .r T σ
def rExit (i : Nat) (C : Cx) (T : TT) (σ : St) (κ : K) : Ans := κ (.x i) T σ
def rSeq (a b : XC) (C : Cx) (T : TT) (σ : St) (κ : K) : Ans := C.run a T σ fun e T σ => extC e (C.run b T σ κ) fun e => κ e T σ
def rCond (x : A) (a b : XC) (C : Cx) (T : TT) (σ : St) (κ : K) : Ans := vB (ev T x) (C.run a T σ κ) (C.run b T σ κ)
def hit (i : Nat) (κ : K) (e : Ext) (T : TT) (σ : St) : Ans := match e with
  | .x j => match Nat.beq i j with
    | true => κ .n T σ
    | false => κ (.x j) T σ
  | e => κ e T σ
def rBlock (i : Nat) (c : XC) (C : Cx) (T : TT) (σ : St) (κ : K) : Ans := C.run c T σ fun e T σ => extC e (κ .n T σ) fun e => hit i κ e T σ
def rLoop (c : XC) (C : Cx) (T : TT) (σ : St) (κ : K) : Ans := C.run c T σ fun e T σ => extC e (C.run (.loop c) T σ κ) fun e => κ e T σ
def endL (l d : Id) (T : TT) (e : En) (σ : St) (κ : K) : Ans := match e, obj l σ with
  | .r _, .lp _ _ _ _ .busy _ => no
  | .r _, .lp T2 ps asg body _ pend => setL l T2 ps asg body .exhausted pend σ fun σ => put16 ixDs ⟨.w (.t (.w (.m d) :: dsOf T))⟩ T fun T => match pend with
    | none => κ .n T σ
    | some .r => κ .r T σ
    | some (.x i) => κ (.x i) T σ
  | _, _ => no
def rRf (g : A) (ps : List Ix) (asg body : XC) (C : Cx) (T : TT) (σ : St) (κ : K) : Ans := booC (isText C (ev T g))
  (new (.df false) σ fun d σ => new (.lp T ps asg body .ready none) σ fun l σ => callV C (ev T g) [.w (.y l)] σ fun e σ => endL l d T e σ κ) no
def rNo (C : Cx) (T : TT) (σ : St) (κ : K) : Ans := no
def runC (C : Cx) (c : XC) (T : TT) (σ : St) (κ : K) : Ans := (ccC (β := Cx → TT → St → K → Ans) c rSkip rRet rExit rSeq rCond rBlock rLoop rOps rDraws rRf rNo) C T σ κ
def isNilL {α : Type} (l : List α) : Bool := match l with
  | [] => true
  | _ => false
def leave (C : Cx) : List V → Option V → St → (Option V → St → Ans) → Ans
  | [], p, σ, κ => κ p σ
  | d :: ds, p, σ, κ => match d with
    | .w (.m i) => match obj i σ with
      | .df false => setO i (.df true) σ fun σ => leave C ds p σ κ
      | _ => no
    | .w (.t (.w (.f (.func f) fs cs) :: vs)) => match C.E.cl f with
      | some (d0, d1, b, n) => frc (fs ++ (vs ++ cs)) fun l => match Nat.ble l.length n with
        | true => pushL l 0 T0 fun T => put16 d0 ⟨p.getD (.w (.k .nilIface))⟩ T fun T => put16 d1 ⟨p.getD (.w (.k .nilIface))⟩ T fun T => C.run b T σ fun e T σ => match e with
          | .n => booC (isNilL (dsOf T)) (leave C ds none σ κ) no
          | .r => booC (isNilL (dsOf T)) (leave C ds none σ κ) no
          | _ => no
        | false => no
      | none => no
    | _ => no
def results (res : List XR) (T : TT) (σ : St) (κ : En → St → Ans) : Ans := match resX T σ res with
  | some l => frcV (tup l) fun v => κ (.r v) σ
  | none => no
def leftK (res : List XR) (T : TT) (κ : En → St → Ans) (p : Option V) (σ : St) : Ans := match p with
  | none => results res T σ κ
  | some v => κ (.p v) σ
def leftF (C : Cx) (res : List XR) (T : TT) (p : Option V) (σ : St) (κ : En → St → Ans) : Ans := leave C (dsOf T) p σ (leftK res T κ)
def bodyF (C : Cx) (xf : XF) (vs : List V) (σ : St) (κ : En → St → Ans) : Ans :=
  pushL vs 0 T0 fun T => put16 ixDs ⟨.w (.t [])⟩ T fun T => C.run xf.body T σ fun e T σ => match e with
    | .x _ => no
    | .p v => leftF C xf.res T (some v) σ κ
    | .n => leftF C xf.res T none σ κ
    | .r => leftF C xf.res T none σ κ
def callF (C : Cx) (f : Nat) (vs : List V) (σ : St) (κ : En → St → Ans) : Ans := match C.E.sm f vs σ with
  | some r => r fun v σ => κ (.r v) σ
  | none => match C.E.tb f with
    | .fn (some xf) => match Nat.ble vs.length xf.n with
      | true => bodyF C xf vs σ κ
      | false => no
    | .ext k => extX C.E.P k vs σ fun v σ => κ (.r v) σ
    | _ => no
def newO (o : O) (σ : St) : Option (Id × St) := setO σ.nx o σ fun σ' => inc8 σ.nx (fun m => some (σ.nx, ⟨σ'.h, m⟩)) none
def keysN : List (V × V × Nat) → Option (List Nat)
  | [] => some []
  | (.n a, _, _) :: r => (keysN r).map (a :: ·)
  | _ => none
def insN (a : Nat) : List Nat → List Nat
  | [] => [a]
  | b :: l => match Nat.ble a b with
    | true => a :: b :: l
    | false => b :: insN a l
def sortN : List Nat → List Nat
  | [] => []
  | a :: l => insN a (sortN l)
def natsV : List Nat → List V
  | [] => []
  | a :: l => .n a :: natsV l
def go (E : Env) (n : Nat) : Cx := iterC n ⟨E, fun _ _ _ _ => no, fun _ _ _ _ => no⟩ fun C => ⟨E, callF C, runC C⟩
end
end Go.Ex
