/-
  operations as predicate transformers.
-/
import Derived.Test.YtldmeimebebllaaMoCore
import Derived.Laws.Cells
namespace Go.Mo

section
variable {rd : Option Nat} {P : Program} {n : Nd} {Q : Exit → Act → World → Prop} {α β σ : Type} {Qf : α → World → Prop} {ops : Array Oper}

def KT (n : Nd) (Qf : α → World → Prop) (T : Tm) (m : M α) (K : Act → World → Prop) : Prop := ∀ a w, Agrees n a T → m Qf w → K a w
def rho (T : Tm) (x : Operand) : Value := (ev T x).getD undef
def callAll (f : Operand → Bool) (c : Call) : Bool := (match c.callee with | .value x => f x | .invoke r _ => f r | .builtin _ => true) && c.args.toList.all f
def opAll (f : Operand → Bool) : Op → Bool
  | .alloc _ | .ready _ | .waits _ => true
  | .move x | .assign x | .box _ x | .load _ x | .nilCheck x | .unOp _ _ x | .convert _ _ x | .sliceToArrayPointer _ x | .makeInterface _ x
  | .makeChan _ x | .fieldAddr _ x _ | .field _ x _ | .range _ x | .next x _ | .entry x | .typeAssert x _ _ _ | .extract x _ | .panic x | .recv _ x _ => f x
  | .pick c a b => f c && f a && f b
  | .build _ ps | .buildSlice _ _ ps => ps.toList.all fun p => f p.2
  | .store _ a v | .binOp _ _ a v _ | .makeSlice _ a v | .indexAddr _ a v | .index _ a v | .lookup _ a v _ | .mapEntry _ a v | .send a v => f a && f v
  | .makeFunc _ first captured => first.toList.all f && captured.toList.all f
  | .makeMap _ r => r.all f
  | .slice _ x l h m => f x && l.all f && h.all f && m.all f
  | .mapUpdate _ m k v | .entryStore _ m k v | .insert _ m k v => f m && f k && f v
  | .call c | .go c => callAll f c
  | .select _ _ | .defer _ => false
theorem callAll_spec {f : Operand → Bool} {c : Call} (h : callAll f c = true) (x : Operand) (hx : x ∈ c.operands) : f x = true := by
  simp only [callAll, Bool.and_eq_true, List.all_eq_true] at h
  simp only [Call.operands, Array.mem_append] at hx
  rcases hx with hx | hx
  · cases hc : c.callee <;> rw [hc] at hx h <;> simp at hx <;> (subst hx; exact h.1)
  · exact h.2 x (by simpa using hx)
theorem opAll_spec {f : Operand → Bool} {op : Op} (h : opAll f op = true) (x : Operand) (hx : x ∈ op.operands) : f x = true := by
  cases op <;> simp only [opAll, Bool.and_eq_true, List.all_eq_true] at h <;> simp only [Op.operands] at hx
  case call c => exact callAll_spec h x hx
  case go c => exact callAll_spec h x hx
  case defer c => cases h
  case build t ps => simp at hx; obtain ⟨a, ha⟩ := hx; exact h _ (by simpa using ha)
  case buildSlice t m ps => simp at hx; obtain ⟨a, ha⟩ := hx; exact h _ (by simpa using ha)
  case makeFunc fn a b => rcases Array.mem_append.1 hx with hx | hx; exact h.1 x (by simpa using hx); exact h.2 x (by simpa using hx)
  case makeMap t r => cases r <;> simp_all
  case slice t a l hh m => cases l <;> cases hh <;> cases m <;> simp_all <;> (rcases hx with hx | hx | hx | hx <;> simp_all)
  case select cs b => cases h
  all_goals simp at hx
  all_goals first
    | (subst hx; exact h)
    | (rcases hx with rfl | rfl; exact h.1; exact h.2)
    | (rcases hx with rfl | rfl | rfl; exact h.1.1; exact h.1.2; exact h.2)
def defined (T : Tm) (o : Oper) : Bool := opAll (fun x => (ev T x).isSome) o.op
theorem exec_rho {a : Act} {T : Tm} {o : Oper} (hA : Agrees n a T) (hd : defined T o = true) : execOp a.eval o = execOp (rho T) o := by
  refine execOp_congr o (fun cs b h => by simp [defined, h, opAll] at hd) fun x hx => ?_
  have h1 := opAll_spec hd x hx
  cases h : ev T x with
  | none => rw [h] at h1; simp at h1
  | some v => simp [rho, h, hA.ev h]

def wantedB (ops : Array Oper) (T : Tm) (o : Oper) : Option Bool :=
  match o.guard with
  | none => some true
  | some (j, want) => match (ops[j]?).bind (·.dst) with
    | some t => match lk T t with
      | some (.bool b) => some (b == want)
      | some (.tuple _) => some false
      | _ => none
    | none => none
theorem wanted_of {a : Act} {T : Tm} {o : Oper} {b : Bool} (hA : Agrees n a T) (h : wantedB ops T o = some b) : Region.wanted o (yielded ops a.tmps) = b := by
  unfold wantedB at h
  unfold Region.wanted
  cases hg : o.guard with
  | none => rw [hg] at h; simpa using h
  | some gw =>
    obtain ⟨j, want⟩ := gw
    rw [hg] at h
    simp only at h ⊢
    unfold yielded
    cases ht : (ops[j]?).bind (·.dst) with
    | none => rw [ht] at h; cases h
    | some t =>
      rw [ht] at h
      simp only at h
      cases hl : lk T t with
      | none => rw [hl] at h; cases h
      | some v =>
        rw [hl] at h
        have := hA.look t v hl
        cases v <;> simp at h
        · simp [this, h]
        · simp [this, h]

/-! ## one operation -/
theorem notDefer_defined {T : Tm} {o : Oper} (h : defined T o = true) (c : Call) : o.op ≠ .defer c := fun e => by simp [defined, e, opAll] at h
theorem notDefer_value {ρ : Operand → Value} {o : Oper} {v : Value} {w w' : World} (h : (execOp ρ o).run P w = .ok (.value v) w') (c : Call) : o.op ≠ .defer c := fun e => by
  unfold execOp at h
  rw [e] at h
  simp only [Sem.run_bind] at h
  cases hr : (resolve ρ c o.type).run P w <;> rw [hr] at h <;> simp at h
theorem wpIn_run {o : Oper} {a : Act} {w : World} {K : Act → World → Prop} (hd : ∀ c, o.op ≠ .defer c) (h : o.uponIn (FW rd) 0 P a K Q ((execOp a.eval o).run P w)) : o.wpIn (FW rd) 0 P a w K Q :=
  ⟨fun _ _ => trivial, by rw [Oper.semAt_eq _ _ _ hd]; exact h⟩
theorem wpIn_value {o : Oper} {a : Act} {w w' : World} {v : Value} {K : Act → World → Prop} (h : (execOp a.eval o).run P w = .ok (.value v) w') (hk : K (a.put o.dst v) w') : o.wpIn (FW rd) 0 P a w K Q :=
  wpIn_run (notDefer_value h) (by rw [h]; exact hk)
def OW (rd : Option Nat) (P : Program) (Q : Exit → Act → World → Prop) (n : Nd) (Qf : α → World → Prop) (o : Oper) (T : Tm) (m : M α) (K : Act → World → Prop) : Prop :=
  ∀ a w, Agrees n a T → m Qf w → o.wpIn (FW rd) 0 P a w K Q
def OY (P : Program) (n : Nd) (S : World → Prop) (Qf : α → World → Prop) (o : Oper) (T : Tm) (m : M α) (K : Act → World → Prop) : Prop :=
  ∀ a w, Agrees n a T → m Qf w → ∃ v, (∀ w', S w' → (execOp a.eval o).run P w' = .ok (.value v) w') ∧ K (a.put o.dst v) w

theorem KT.ow {o : Oper} {os : List Oper} {T : Tm} {m : M α} (hw : wantedB ops T o = some true) (h : OW rd P Q n Qf o T m (WL rd P ops Q os)) :
    KT n Qf T m (WL rd P ops Q (o :: os)) := fun a w hA hm => by
  unfold WL wpListIn
  rw [if_pos (wanted_of hA hw)]
  exact h a w hA hm
theorem KT.oy {o : Oper} {os : List Oper} {T : Tm} {m : M α} (hw : wantedB ops T o = some true) (h : OY P n (fun _ => True) Qf o T m (WL rd P ops Q os)) :
    KT n Qf T m (WL rd P ops Q (o :: os)) := KT.ow hw fun a w hA hm => by
  obtain ⟨v, hv, hK⟩ := h a w hA hm
  exact wpIn_value (hv w trivial) hK
def dstOK (n : Nd) : Option Nat → Bool
  | some d => Nat.blt d n.n
  | none => true
def dstT (T : Tm) (v : Value) : Option Nat → Tm
  | some d => (d, v) :: T
  | none => T
theorem put_undef {a : Act} {T : Tm} (hA : Agrees n a T) (d : Option Nat) (hd : dstOK n d = true) :
    Agrees n (a.put d undef) (dstT T undef d) := by
  cases d with
  | none => exact hA
  | some d => exact hA.put hd undef
theorem KT.skip {o : Oper} {os : List Oper} {T : Tm} {m : M α} (hw : wantedB ops T o = some false) (hd : dstOK n o.dst = true)
    (h : KT n Qf (dstT T undef o.dst) m (WL rd P ops Q os)) : KT n Qf T m (WL rd P ops Q (o :: os)) := fun a w hA hm => by
  unfold WL wpListIn
  rw [if_neg (by rw [wanted_of hA hw]; simp)]
  exact ⟨fun _ _ => trivial, h _ w (put_undef hA o.dst hd) hm⟩
theorem KT.nil {T : Tm} {m : M α} (h : SX n .normal Q Qf T m) : KT n Qf T m (WL rd P ops Q []) := fun a w hA hm => h a w hA hm
theorem SC.region' {id : Nat} {l : List Oper} {T : Tm} {m : M α} (h : KT n Qf T m (WL rd P l.toArray Q l)) : SC rd P n Q Qf (.region id l.toArray false) T m :=
  fun a w hA hm => wpIn_region_lit (h a w hA hm)

/-- a test whose outcome is in a temporary -/
theorem KT.ite {T : Tm} {m m' : M α} {K : Act → World → Prop} {b : Bool} (t : Nat) (ht : lk T t = some (.bool b)) (h : KT n Qf ((t, .bool true) :: T) m K) (h' : KT n Qf ((t, .bool false) :: T) m' K) :
    KT n Qf T (if b = true then m else m') K := by
  intro a w hA hm
  have key : ∀ b', b = b' → Agrees n a ((t, .bool b') :: T) := by
    intro b' hb
    subst hb
    refine ⟨hA.size, hA.defers, fun i v hv => ?_⟩
    simp only [lk] at hv
    by_cases hi : i = t
    · subst hi
      simp only [Nat.beq_refl, cond_true, Option.some.injEq] at hv
      subst hv
      exact hA.look _ _ ht
    · simp only [beq_ff hi, cond_false] at hv
      exact hA.look i v hv
  cases b with
  | true => exact h a w (key _ rfl) hm
  | false => exact h' a w (key _ rfl) hm

theorem wpListIn_append (l₁ l₂ : List Oper) : ∀ a w, WL rd P ops (Exit.then (WL rd P ops Q l₂) Q) l₁ a w → WL rd P ops Q (l₁ ++ l₂) a w := by
  induction l₁ with
  | nil => intro a w h; exact h
  | cons o l ih =>
    intro a w h
    simp only [WL, List.cons_append, wpListIn] at h ih ⊢
    by_cases hw : Region.wanted o (yielded ops a.tmps) = true
    · rw [if_pos hw] at h ⊢
      refine ⟨h.1, ?_⟩
      have h := h.2
      generalize (o.semAt (FW rd).round a.eval).run P w = r at h ⊢
      cases r with
      | ok nx w' =>
        cases nx <;> simp only [Oper.uponIn] at h ⊢ <;> first
          | exact ih _ _ h
          | exact ⟨h.1, CallsIn.mono h.2 (fun e w'' he => by cases e <;> first | exact ih _ _ he | exact he)⟩
          | exact ⟨h.1, RowsIn.mono h.2 (fun _ _ he => ih _ _ he)⟩
          | exact ⟨h.1, RoundIn.mono h.2 (fun e w'' he => by cases e <;> first | exact ih _ _ he | exact he)⟩
      | halt x w' => cases x <;> simp only [Oper.uponIn] at h ⊢ <;> exact h
    · rw [if_neg hw] at h ⊢
      exact ⟨h.1, ih _ _ h.2⟩
/-- a join among the operations: the first k are one part -/
theorem KT.joinO {os : List Oper} {T : Tm} {m : M β} {k : β → M α} (j : Nat) (T0 : β → Tm)
    (h2 : ∀ b, KT n Qf (T0 b) (k b) (WL rd P ops Q (os.drop j)))
    (h : (∀ b, KT n Qf (T0 b) (k b) (WL rd P ops Q (os.drop j))) → KT n (fun b w => k b Qf w) T m (WL rd P ops (Exit.then (WL rd P ops Q (os.drop j)) Q) (os.take j))) :
    KT n Qf T (bindM m k) (WL rd P ops Q os) := fun a w hA hm => by
  have := wpListIn_append (rd := rd) (P := P) (ops := ops) (Q := Q) (os.take j) (os.drop j) a w (h h2 a w hA hm)
  rwa [List.take_append_drop] at this
theorem KT.leafO {rest : List Oper} {T : Tm} {k : β → M α} {b : β} {T0 : β → Tm} (h : ∀ b, KT n Qf (T0 b) (k b) (WL rd P ops Q rest)) (hs : Sub T (T0 b)) :
    KT n (fun b w => k b Qf w) T (pureM b) (WL rd P ops (Exit.then (WL rd P ops Q rest) Q) []) := fun a w hA hm => h b a w (hA.sub hs) hm
theorem KT.sub {T T' : Tm} {m : M α} {K : Act → World → Prop} (hs : Sub T T') (h : KT n Qf T' m K) : KT n Qf T m K := fun a w hA hm => h a w (hA.sub hs) hm

/-! ## operations that yield in whatever world -/
section
variable {o : Oper} {T : Tm} {K : Act → World → Prop} {S : World → Prop} {d : Nat}
theorem OY.pv {m : M α} (v : Value) (hd : defined T o = true) (hv : ∀ w, (execOp (rho T) o).run P w = .ok (.value v) w) (hn : o.dst = some d) (hb : Nat.blt d n.n = true)
    (h : KT n Qf ((d, v) :: T) m K) : OY P n S Qf o T m K := fun a w hA hm =>
  ⟨v, fun w' _ => by rw [exec_rho hA hd]; exact hv w', by rw [hn]; exact h _ w (hA.put hb v) hm⟩
theorem OY.pv0 {m : M α} (v : Value) (hd : defined T o = true) (hv : ∀ w, (execOp (rho T) o).run P w = .ok (.value v) w) (hn : o.dst = none)
    (h : KT n Qf T m K) : OY P n S Qf o T m K := fun a w hA hm =>
  ⟨v, fun w' _ => by rw [exec_rho hA hd]; exact hv w', by rw [hn]; exact h _ w hA hm⟩
theorem OY.assert {m : M α} {p : Prop} (h : p → OY P n S Qf o T m K) : OY P n S Qf o T (assertM p m) K := fun a w hA hm => h hm.1 a w hA hm.2
theorem OY.nil {k : Addr → M α} {p : Option Addr} (x : Operand) (ho : o.op = .nilCheck x) (hx : ev T x = some (.pointer p)) (hn : o.dst = some d) (hb : Nat.blt d n.n = true)
    (h : ∀ ad, KT n Qf ((d, .pointer (some ad)) :: T) (k ad) K) : OY P n S Qf o T (bindM (nilM p) k) K := fun a w hA hm => by
  obtain ⟨ad, rfl, hm⟩ := hm
  refine ⟨.pointer (some ad), fun w' _ => ?_, by rw [hn]; exact h ad _ w (hA.put hb _) hm⟩
  unfold execOp
  rw [ho]
  simp only [hA.ev hx, Sem.run_pure]
theorem OY.idx {k : Addr → M α} {s : Slc} {i : Int} {ki : IntKind} {size : Nat} {elem : TypeId} (t : TypeId) (x ix : Operand) (ho : o.op = .indexAddr t x ix)
    (hx : ev T x = some (.slice s.base s.len s.cap)) (hi : ev T ix = some (.int ki i)) (ht : P.underlying t = some (.slice elem)) (hs : (P.info? elem).map (·.size) = some size)
    (hn : o.dst = some d) (hb : Nat.blt d n.n = true) (h : ∀ ad, KT n Qf ((d, .pointer (some ad)) :: T) (k ad) K) : OY P n S Qf o T (bindM (idxM s i size) k) K := fun a w hA hm => by
  obtain ⟨ad, hbase, h0, h1, hm⟩ := hm
  refine ⟨.pointer (some (ad.add (i.toNat * size))), fun w' _ => ?_, by rw [hn]; exact h _ _ w (hA.put hb _) hm⟩
  unfold execOp
  rw [ho]
  obtain ⟨inf, hinf, hsz⟩ := Option.map_eq_some_iff.1 hs
  simp [hA.ev hx, hA.ev hi, Instr.indexAt, asIntOf, underlying, ht, hbase, h0, h1, sizeOf, typeInfo, hinf, hsz]
end

/-! ## operations that act -/
section
variable {o : Oper} {T : Tm} {K : Act → World → Prop} {d : Nat}
theorem OW.oy {m : M α} (h : OY P n (fun _ => True) Qf o T m K) : OW rd P Q n Qf o T m K := fun a w hA hm => by
  obtain ⟨v, hv, hK⟩ := h a w hA hm
  exact wpIn_value (hv w trivial) hK

/-- the type is not a struct, not an array -/
def plainT (P : Program) (t : TypeId) : Bool := match P.underlying t with | some (.struct _) | some (.array _ _) | none => false | _ => true
theorem run_isAgg_plain {t : TypeId} (h : plainT P t = true) (w : World) : (isAgg t).run P w = .ok false w := by
  unfold plainT at h
  unfold isAgg underlying
  simp only [Sem.run_bind, run_program, Result.andThen_ok]
  cases hu : P.underlying t with
  | none => rw [hu] at h; cases h
  | some x => rw [hu] at h; cases x <;> simp_all
theorem OW.ld {k : β → M α} {enc : β → Value} {ad : Addr} (t : TypeId) (x : Operand) (ho : o.op = .load t x) (hx : ev T x = some (.pointer (some ad))) (ht : plainT P t = true)
    (hn : o.dst = some d) (hb : Nat.blt d n.n = true) (h : ∀ y, KT n Qf ((d, enc y) :: T) (k y) K) : OW rd P Q n Qf o T (bindM (ld enc ad) k) K := fun a w hA hm => by
  obtain ⟨y, hc, hm⟩ := hm
  have : (execOp a.eval o).run P w = .ok (.value (enc y)) w := by
    unfold execOp
    rw [ho]
    simp [hA.ev hx, Instr.loadAt, Instr.sureAddr, loadVar, run_isAgg_plain ht, hc]
  refine wpIn_value this ?_
  rw [hn]
  exact h y _ w (hA.put hb _) hm
theorem OY.ldI {S : World → Prop} {k : β → M α} {enc : β → Value} {ad : Addr} (t : TypeId) (x : Operand) (ho : o.op = .load t x) (hx : ev T x = some (.pointer (some ad))) (ht : plainT P t = true)
    (hn : o.dst = some d) (hb : Nat.blt d n.n = true) (h : ∀ y, KT n Qf ((d, enc y) :: T) (k y) K) : OY P n S Qf o T (bindM (Mo.ldI S enc ad) k) K := fun a w hA hm => by
  obtain ⟨y, hc, hm⟩ := hm
  refine ⟨enc y, fun w' hw' => ?_, by rw [hn]; exact h y _ w (hA.put hb _) hm⟩
  unfold execOp
  rw [ho]
  simp [hA.ev hx, Instr.loadAt, Instr.sureAddr, loadVar, run_isAgg_plain ht, hc w' hw']

theorem run_sizeOf {t : TypeId} {s : Nat} (h : (P.info? t).map (·.size) = some s) (w : World) : (sizeOf t).run P w = .ok s w := by
  obtain ⟨i, hi, rfl⟩ := Option.map_eq_some_iff.1 h
  simp [sizeOf, typeInfo, hi]
theorem run_newVar' (t : TypeId) (v : Value) (w : World) : (newVar t v).run P w = .ok ⟨w.heap.size, 0, none⟩ (World.allocC w v.cells t) := by
  simp [newVar, newRow, World.allocC]

theorem OW.st {k : Unit → M α} {ad : Addr} {v : Value} (t : TypeId) (x y : Operand) (ho : o.op = .store t x y) (hx : ev T x = some (.pointer (some ad))) (hy : ev T y = some v)
    (hv : v.oneCell' = true) (ht : (P.info? t).map (·.size) = some 1) (hn : o.dst = none) (h : KT n Qf T (k ()) K) : OW rd P Q n Qf o T (bindM (st ad v) k) K := fun a w hA hm => by
  obtain ⟨⟨u, hc⟩, hf, hm⟩ := hm
  have : (execOp a.eval o).run P w = .ok .skip (w.setCell ad v) := by
    unfold execOp
    rw [ho]
    have hcs : v.cells = #[v] := by cases v <;> first | rfl | (simp [Value.oneCell'] at hv)
    have hst := run_store P w ad v .plain hv
    rw [hc] at hst
    simp only [hf, Bool.false_eq_true, if_false] at hst
    simp only [hA.ev hx, hA.ev hy, Instr.storeAt, Instr.sureAddr, storeVar, Sem.run_bind, run_sizeOf ht, hcs, Result.andThen_ok, Sem.run_pure]
    simp [storeCells, Addr.add, hst]
  refine wpIn_run (fun c e => by rw [ho] at e; cases e) ?_
  rw [this, Oper.uponIn_skip, hn]
  exact h _ _ hA hm
theorem OW.new {k : Addr → M α} (cs : List Value) (vf : Addr → Value) (elem : TypeId) (hd : defined T o = true)
    (he : ∀ w, (execOp (rho T) o).run P w = .ok (.value (vf ⟨w.heap.size, 0, none⟩)) (World.allocC w cs.toArray elem)) (hn : o.dst = some d) (hb : Nat.blt d n.n = true)
    (h : ∀ ad, KT n Qf ((d, vf ad) :: T) (k ad) K) : OW rd P Q n Qf o T (bindM (allocM cs) k) K := fun a w hA hm => by
  have hm := hm elem
  refine wpIn_run (notDefer_defined hd) ?_
  rw [exec_rho hA hd, he w, Oper.uponIn_value, hn]
  exact h _ _ _ (hA.put hb _) hm

/-- how a function's return is told -/
def RetPost {ρ : Type} (enc : ρ → Value) (Qf : ρ → World → Prop) : Ending → World → Prop
  | .returned v, w => ∃ x, v = enc x ∧ Qf x w
  | _, _ => False
theorem callsIn_FW {f : FuncId} {args : Array Value} {w : World} {R : Ending → World → Prop} {m : Nat} (rd : Option Nat) (h : Calls P f args w R) : CallsIn (FW rd) m P f args w R :=
  (callsIn_wide (n := m)).2 h
theorem OW.call {k : β → M α} {callee : M β} {enc : β → Value} (f : FuncId) (vs : Array Value) (hd : defined T o = true)
    (he : ∀ w, (execOp (rho T) o).run P w = .ok (.enter f vs) w) (hc : ∀ (Qf' : β → World → Prop) (w : World), callee Qf' w → Calls P f vs w (RetPost enc Qf'))
    (hn : o.dst = some d) (hb : Nat.blt d n.n = true) (h : ∀ y, KT n Qf ((d, enc y) :: T) (k y) K) : OW rd P Q n Qf o T (bindM callee k) K := fun a w hA hm => by
  refine wpIn_run (notDefer_defined hd) ?_
  rw [exec_rho hA hd, he w, Oper.uponIn_enter]
  refine ⟨fun h => by simp [Fence.wide] at h, (callsIn_FW rd (hc _ w hm)).mono fun e w' hr => ?_⟩
  cases e with
  | returned v =>
    obtain ⟨y, rfl, hq⟩ := hr
    rw [hn]
    exact h y _ w' (hA.put hb _) hq
  | panicked c => exact hr.elim
  | outgrown => exact hr.elim
theorem OW.call0 {k : β → M α} {callee : M β} {enc : β → Value} (f : FuncId) (vs : Array Value) (hd : defined T o = true)
    (he : ∀ w, (execOp (rho T) o).run P w = .ok (.enter f vs) w) (hc : ∀ (Qf' : β → World → Prop) (w : World), callee Qf' w → Calls P f vs w (RetPost enc Qf'))
    (hn : o.dst = none) (h : ∀ y, KT n Qf T (k y) K) : OW rd P Q n Qf o T (bindM callee k) K := fun a w hA hm => by
  refine wpIn_run (notDefer_defined hd) ?_
  rw [exec_rho hA hd, he w, Oper.uponIn_enter]
  refine ⟨fun h => by simp [Fence.wide] at h, (callsIn_FW rd (hc _ w hm)).mono fun e w' hr => ?_⟩
  cases e with
  | returned v =>
    obtain ⟨y, rfl, hq⟩ := hr
    rw [hn]
    exact h y _ w' hA hq
  | panicked c => exact hr.elim
  | outgrown => exact hr.elim
end

/-! ## drawn regions
  'S': a condition on the world. It is to be shown behind each operation that is not final ('F': the final ones wait for all that is read under S). -/
def wpF (rd : Option Nat) (P : Program) (ops : Array Oper) (Q : Exit → Act → World → Prop) (S : World → Prop) (F : Nat → Bool) : Nat → Array Bool → Act → World → Prop
  | 0, listed, a, w => Region.ready .any ops listed = [] ∧ Q .normal a w
  | fuel + 1, listed, a, w => (Region.ready .any ops listed = [] → Q .normal a w) ∧
    ∀ i ∈ Region.ready .any ops listed, wpOpIn (FW rd) 0 P ops Q i (fun a' w' => (S w → F i = false → S w') ∧ wpF rd P ops Q S F fuel (listed.setIfInBounds i true) a' w') a w
theorem wpF_any {S : World → Prop} {F : Nat → Bool} : ∀ (fuel : Nat) (listed : Array Bool) (a : Act) (w : World), wpF rd P ops Q S F fuel listed a w → wpAnyIn (FW rd) 0 P .any ops Q fuel listed a w
  | 0, _, _, _, h => h
  | fuel + 1, _, _, _, h => ⟨h.1, fun i hi => wpOpIn_mono (fun a' w' h' => wpF_any fuel _ a' w' h'.2) (h.2 i hi)⟩

theorem yieldsF {S : World → Prop} {i : Nat} {o : Oper} {v : Value} {a : Act} (hi : ops[i]? = some o) (hy : YieldsIf P ops S o v a)
    {K : Act → World → Prop} {w : World} (hS : S w) (h : K (a.put o.dst v) w) : wpOpIn (FW rd) 0 P ops Q i K a w := by
  unfold wpOpIn
  simp only [hi]
  rcases hy with ⟨hw, hv⟩ | ⟨hw, rfl⟩
  · rw [if_pos hw]; exact wpIn_value (hv w hS) h
  · rw [if_neg (by rw [hw]; simp)]; exact ⟨fun _ _ => trivial, h⟩
/-- an operation apart from 'oi': it makes no difference whether oi's value is there already -/
theorem wpOpF_putIf {S : World → Prop} {j : Nat} {oi oj : Oper} {v : Value} (hj : ops[j]? = some oj) (hap : oi.apart ops oj = true)
    (hsi : ∀ cs b, oi.op ≠ .select cs b) (hsj : ∀ cs b, oj.op ≠ .select cs b) (hdj : ∀ c, oj.op ≠ .defer c)
    (hQ : ∀ c a w, Q (.panic c) (a.put oi.dst v) w → Q (.panic c) a w) {K : Act → World → Prop} {a : Act} {w : World}
    (hy : YieldsIf P ops S oi v a) (h : wpOpIn (FW rd) 0 P ops Q j K (a.put oi.dst v) w) :
    wpOpIn (FW rd) 0 P ops Q j (fun a' w' => YieldsIf P ops S oi v a' ∧ K (a'.put oi.dst v) w') a w := by
  obtain ⟨h1, h2, h3⟩ := Oper.apart_spec hap
  have keep : ∀ (a : Act), YieldsIf P ops S oi v a → ∀ u, YieldsIf P ops S oi v (a.put oj.dst u) := fun a hy u =>
    hy.of_same (execOp_put oi hsi a oj.dst u h3) (wanted_put oi a oj.dst u h3)
  unfold wpOpIn at h ⊢
  simp only [hj] at h ⊢
  rw [wanted_put oj a oi.dst v h1] at h
  by_cases hw : Region.wanted oj (yielded ops a.tmps) = true
  · rw [if_pos hw] at h ⊢
    refine wpIn_run hdj ?_
    have hu := h.2
    rw [Oper.semAt_eq _ _ _ hdj, execOp_put oj hsj a oi.dst v h1] at hu
    have keepD : ∀ d, YieldsIf P ops S oi v { a with defers := d :: a.defers } := fun d => hy.of_same rfl rfl
    generalize (execOp a.eval oj).run P w = r at hu ⊢
    cases r with
    | ok x w' =>
      cases x <;> simp only [Oper.uponIn] at hu ⊢
      case value u => exact ⟨keep a hy u, by rw [← Act.put_comm a v u h2]; exact hu⟩
      case skip => exact ⟨keep a hy _, by rw [← Act.put_comm a v undef h2]; exact hu⟩
      case defer dd =>
        refine ⟨keep _ (keepD dd) _, ?_⟩
        rw [← Act.put_comm _ v undef h2, ← Act.put_defers]
        exact hu
      case enter f args => exact ⟨hu.1, CallsIn.mono hu.2 fun e w'' he => by
        cases e with
        | returned u => exact ⟨keep a hy u, by rw [← Act.put_comm a v u h2]; exact he⟩
        | panicked c => exact hQ _ _ _ he
        | outgrown => exact he⟩
      case row row args => exact ⟨hu.1, RowsIn.mono hu.2 fun u w'' he => ⟨keep a hy u, by rw [← Act.put_comm a v u h2]; exact he⟩⟩
      case round l f tmps asg body => exact ⟨hu.1, RoundIn.mono hu.2 fun e w'' he => by
        cases e with
        | returned u => exact ⟨keep a hy u, by rw [← Act.put_comm a v u h2]; exact he⟩
        | panicked c => exact hQ _ _ _ he
        | outgrown => exact he⟩
    | halt x w' =>
      cases x <;> simp only [Oper.uponIn] at hu ⊢
      case panic u => exact hQ _ _ _ hu
  · rw [if_neg hw] at h ⊢
    exact ⟨fun _ _ => trivial, keep a hy _, by rw [← Act.put_comm a v undef h2]; exact h.2⟩

/-- operation i may be taken first -/
theorem wpF_first {S S' : World → Prop} {F : Nat → Bool} {i : Nat} {oi : Oper} {v : Value} (hi : ops[i]? = some oi) (hsel : ∀ (j : Nat) (o : Oper) cs b, ops[j]? = some o → o.op ≠ .select cs b) (hdf : ∀ (j : Nat) (o : Oper) c, ops[j]? = some o → o.op ≠ .defer c)
    (hQ : ∀ c a w, Q (.panic c) (a.put oi.dst v) w → Q (.panic c) a w)
    (hF : (∀ w, S' w) ∨ (∀ w, S w → S' w) ∧ ∀ f of, F f = true → ops[f]? = some of → ∃ e ∈ of.after, Region.binds .any e = true ∧ e.on = i) :
    ∀ (fuel : Nat) (listed : Array Bool) (a : Act) (w : World),
      (∀ j oj, ops[j]? = some oj → j ≠ i → listed.getD j true = false → (∀ e ∈ oj.after, Region.binds .any e = true → e.on ≠ i) → oi.apart ops oj = true) →
      i ∈ Region.ready .any ops listed → YieldsIf P ops S' oi v a → (S w ∨ ∀ w, S' w) →
      wpF rd P ops Q S F fuel (listed.setIfInBounds i true) (a.put oi.dst v) w → wpF rd P ops Q S F (fuel + 1) listed a w := by
  have notAfter : ∀ (listed : Array Bool) (j : Nat) (oj : Oper), ops[j]? = some oj → i ∈ Region.ready .any ops listed → j ∈ Region.ready .any ops listed →
      ∀ e ∈ oj.after, Region.binds .any e = true → e.on ≠ i := by
    intro listed j oj hoj hr hj e he hb heq
    obtain ⟨_, oj', hoj', hall⟩ := mem_ready.1 hj
    rw [hoj] at hoj'
    cases hoj'
    have h1 := hall e he hb
    have h0 := (mem_ready.1 hr).1
    rw [heq] at h1
    rcases Nat.lt_or_ge i listed.size with h' | h'
    · simp [h'] at h0 h1; rw [h0] at h1; cases h1
    · simp [Array.getElem?_eq_none h'] at h1
  have hof : ∀ w, (S w ∨ ∀ w, S' w) → S' w := fun w h => by
    rcases hF with h' | h'
    · exact h' w
    · exact h.elim (h'.1 w) (fun h => h w)
  intro fuel
  induction fuel with
  | zero =>
    intro listed a w _ hr hy hS H
    refine ⟨fun h => (by rw [h] at hr; cases hr), fun j hj => ?_⟩
    by_cases hji : j = i
    · subst hji; exact yieldsF hi hy (hof w hS) ⟨fun h _ => h, H⟩
    · have := ready_mono hj hji
      rw [H.1] at this
      cases this
  | succ fuel ih =>
    intro listed a w hfree hr hy hS H
    refine ⟨fun h => (by rw [h] at hr; cases hr), fun j hj => ?_⟩
    by_cases hji : j = i
    · subst hji; exact yieldsF hi hy (hof w hS) ⟨fun h _ => h, H⟩
    · have h1 := H.2 j (ready_mono hj hji)
      obtain ⟨hjun, oj, hoj, _⟩ := mem_ready.1 hj
      have hnot := notAfter listed j oj hoj hr hj
      have h2 := wpOpF_putIf hoj (hfree j oj hoj hji hjun hnot) (fun cs b => hsel i oi cs b hi) (fun cs b => hsel j oj cs b hoj) (fun c => hdf j oj c hoj) hQ hy h1
      have hFj : (∀ w, S' w) ∨ F j = false := by
        rcases hF with h' | h'
        · exact .inl h'
        · right
          cases hfj : F j with
          | false => rfl
          | true =>
            obtain ⟨e, he, hb, heq⟩ := h'.2 j oj hfj hoj
            exact absurd heq (hnot e he hb)
      have hfree' : ∀ k ok, ops[k]? = some ok → k ≠ i → (listed.setIfInBounds j true).getD k true = false →
          (∀ e ∈ ok.after, Region.binds .any e = true → e.on ≠ i) → oi.apart ops ok = true := fun k ok hk hki hun hno => by
        refine hfree k ok hk hki ?_ hno
        by_cases hjk : j = k
        · subst hjk; exact hjun
        · rw [getD_set_ne true hjk] at hun; exact hun
      refine wpOpIn_mono (fun a' w' h3 => ⟨h3.2.1, ih (listed.setIfInBounds j true) a' w' hfree' (ready_mono hr (Ne.symm hji)) h3.1 (hFj.elim .inr fun hFj => hS.elim (fun hS => .inl (h3.2.1 hS hFj)) .inr) ?_⟩) h2
      rw [Array.setIfInBounds_comm _ _ hji]
      exact h3.2.2

/-- every final operation waits for number i -/
def waits (ops : Array Oper) (F : Nat → Bool) (i : Nat) : Bool := (List.range ops.size).all fun f => !F f || match ops[f]? with
  | some of => of.after.toList.any fun e => Region.binds .any e && e.on == i
  | none => true
theorem waits_spec {F : Nat → Bool} {i : Nat} (h : waits ops F i = true) (f : Nat) (of : Oper) (hf : F f = true) (ho : ops[f]? = some of) : ∃ e ∈ of.after, Region.binds .any e = true ∧ e.on = i := by
  simp only [waits, List.all_eq_true, List.mem_range] at h
  have := h f (Array.getElem?_eq_some_iff.1 ho).1
  simp only [hf, ho, Bool.not_true, Bool.false_or, List.any_eq_true, Bool.and_eq_true, beq_iff_eq] at this
  obtain ⟨e, he, h1, h2⟩ := this
  exact ⟨e, Array.mem_toList_iff.1 he, h1, h2⟩

def AH (rd : Option Nat) (P : Program) (ops : Array Oper) (Q : Exit → Act → World → Prop) (S : World → Prop) (F : Nat → Bool) (fuel : Nat) (listed : Array Bool) (a : Act) (w : World) : Prop :=
  S w → wpF rd P ops Q S F fuel listed a w
def AS (rd : Option Nat) (P : Program) (ops : Array Oper) (Q : Exit → Act → World → Prop) (S : World → Prop) (F : Nat → Bool) (fuel : Nat) (listed : Array Bool) (a : Act) (w : World) : Prop :=
  S w ∧ wpF rd P ops Q S F fuel listed a w
def andM (S : World → Prop) (m : M α) : M α := fun Q w => S w ∧ m Q w
theorem SC.draw {id : Nat} {l : List Oper} {T : Tm} {body : (World → Prop) → M α} (N : Nat) (F : Nat → Bool) (hN : l.length = N) (hm : P.follows .mixedOrders = true)
    (h : ∀ S, KT n Qf T (body S) (AH rd P l.toArray Q S F N (Array.replicate N false))) : SC rd P n Q Qf (.region id l.toArray true) T (regionM body) := fun a w hA hmm => by
  obtain ⟨S, hS, hq⟩ := hmm
  refine wpIn_region_any hm ?_
  have := wpF_any _ _ _ _ (h S a (drawW w) hA hq hS)
  subst hN
  simpa [drawW] using this
section
variable {o : Oper} {T : Tm} {S : World → Prop} {F : Nat → Bool} {fuel : Nat} {listed : Array Bool}
class PanicOK (Q : Exit → Act → World → Prop) : Prop where
  ok : ∀ c a d v w, Q (.panic c) (Act.put a d v) w → Q (.panic c) a w
def noDefer (ops : Array Oper) : Bool := ops.toList.all fun o => match o.op with | .defer _ => false | _ => true
theorem noDefer_spec (h : noDefer ops = true) (j : Nat) (o : Oper) (c : Call) (ho : ops[j]? = some o) : o.op ≠ .defer c := by
  intro heq
  have := List.all_eq_true.1 h o (Array.mem_toList_iff.2 (Array.mem_of_getElem? ho))
  simp [heq] at this
def takeOKp (ops : Array Oper) (_F : Nat → Bool) (listed : Array Bool) (i : Nat) : Bool :=
  noDefer ops && Region.noSelect ops && Region.free .any ops listed i && (Region.ready .any ops listed).contains i
def takeOK (ops : Array Oper) (F : Nat → Bool) (listed : Array Bool) (i : Nat) : Bool :=
  takeOKp ops F listed i && waits ops F i
theorem wpF_take {oi : Oper} {v : Value} {i : Nat} {a : Act} {w : World} (hi : ops[i]? = some oi) (hc : takeOK ops F listed i = true)
    (hQ : PanicOK Q) (hy : YieldsIf P ops S oi v a) (hS : S w)
    (h : wpF rd P ops Q S F fuel (listed.setIfInBounds i true) (a.put oi.dst v) w) : wpF rd P ops Q S F (fuel + 1) listed a w := by
  simp only [takeOK, takeOKp, Bool.and_eq_true] at hc
  exact wpF_first hi (Region.noSelect_spec hc.1.1.1.2) (noDefer_spec hc.1.1.1.1) (fun c a w => hQ.ok c a _ _ w) (.inr ⟨fun _ h => h, waits_spec hc.2⟩) fuel listed a w (Region.free_spec hi hc.1.1.2) (by simpa using hc.1.2) hy (.inl hS) h
/-- what reads nothing of the world may be taken at once -/
theorem wpF_takeP {oi : Oper} {v : Value} {i : Nat} {a : Act} {w : World} (hi : ops[i]? = some oi) (hc : takeOKp ops F listed i = true)
    (hQ : PanicOK Q) (hy : YieldsIf P ops (fun _ => True) oi v a)
    (h : wpF rd P ops Q S F fuel (listed.setIfInBounds i true) (a.put oi.dst v) w) : wpF rd P ops Q S F (fuel + 1) listed a w := by
  simp only [takeOKp, Bool.and_eq_true] at hc
  exact wpF_first (S' := fun _ => True) hi (Region.noSelect_spec hc.1.1.2) (noDefer_spec hc.1.1.1) (fun c a w => hQ.ok c a _ _ w) (.inl fun _ => trivial) fuel listed a w (Region.free_spec hi hc.1.2) (by simpa using hc.2) hy (.inr fun _ => trivial) h
theorem KT.take {m : M α} (i : Nat) (hi : ops[i]? = some o) (hc : takeOK ops F listed i = true)
    (hQ : PanicOK Q) (hw : wantedB ops T o = some true) (h : OY P n S Qf o T m (AH rd P ops Q S F fuel (listed.setIfInBounds i true))) :
    KT n Qf T m (AH rd P ops Q S F (fuel + 1) listed) := fun a w hA hm hS => by
  obtain ⟨v, hv, hK⟩ := h a w hA hm
  exact wpF_take hi hc hQ (.inl ⟨wanted_of hA hw, hv⟩) hS (hK hS)
theorem KT.takeP {m : M α} (i : Nat) (hi : ops[i]? = some o) (hc : takeOKp ops F listed i = true)
    (hQ : PanicOK Q) (hw : wantedB ops T o = some true) (h : OY P n (fun _ => True) Qf o T m (AH rd P ops Q S F fuel (listed.setIfInBounds i true))) :
    KT n Qf T m (AH rd P ops Q S F (fuel + 1) listed) := fun a w hA hm hS => by
  obtain ⟨v, hv, hK⟩ := h a w hA hm
  exact wpF_takeP hi hc hQ (.inl ⟨wanted_of hA hw, hv⟩) (hK hS)
theorem KT.takeSkip {m : M α} (i : Nat) (hi : ops[i]? = some o) (hc : takeOKp ops F listed i = true)
    (hQ : PanicOK Q) (hw : wantedB ops T o = some false) (hd : dstOK n o.dst = true)
    (h : KT n Qf (dstT T undef o.dst) m (AH rd P ops Q S F fuel (listed.setIfInBounds i true))) :
    KT n Qf T m (AH rd P ops Q S F (fuel + 1) listed) := fun a w hA hm hS => by
  exact wpF_takeP hi hc hQ (.inr ⟨wanted_of hA hw, rfl⟩) (h _ w (put_undef hA o.dst hd) hm hS)
theorem KT.takePN {m : M α} (i : Nat) (hi : ops[i]? = some o) (hc : takeOKp ops F listed i = true)
    (hQ : PanicOK Q) (hw : wantedB ops T o = some true) (h : OY P n (fun _ => True) Qf o T m (wpF rd P ops Q S F fuel (listed.setIfInBounds i true))) :
    KT n Qf T m (wpF rd P ops Q S F (fuel + 1) listed) := fun a w hA hm => by
  obtain ⟨v, hv, hK⟩ := h a w hA hm
  exact wpF_takeP hi hc hQ (.inl ⟨wanted_of hA hw, hv⟩) hK
theorem KT.takeSkipN {m : M α} (i : Nat) (hi : ops[i]? = some o) (hc : takeOKp ops F listed i = true)
    (hQ : PanicOK Q) (hw : wantedB ops T o = some false) (hd : dstOK n o.dst = true)
    (h : KT n Qf (dstT T undef o.dst) m (wpF rd P ops Q S F fuel (listed.setIfInBounds i true))) :
    KT n Qf T m (wpF rd P ops Q S F (fuel + 1) listed) := fun a w hA hm => by
  exact wpF_takeP hi hc hQ (.inr ⟨wanted_of hA hw, rfl⟩) (h _ w (put_undef hA o.dst hd) hm)
theorem wpF_one {a : Act} {w : World} (i : Nat) (hi : ops[i]? = some o) (hr : Region.ready .any ops listed = [i]) (hw : Region.wanted o (yielded ops a.tmps) = true)
    (h : o.wpIn (FW rd) 0 P a w (fun a' w' => (S w → F i = false → S w') ∧ wpF rd P ops Q S F fuel (listed.setIfInBounds i true) a' w') Q) : wpF rd P ops Q S F (fuel + 1) listed a w := by
  refine ⟨fun h0 => (by rw [hr] at h0; cases h0), fun j hj => ?_⟩
  rw [hr] at hj
  obtain rfl : j = i := by simpa using hj
  unfold wpOpIn
  rw [hi]
  simp only
  rw [if_pos hw]
  exact h
theorem KT.one {m : M α} (i : Nat) (hi : ops[i]? = some o) (hr : Region.ready .any ops listed = [i]) (hw : wantedB ops T o = some true)
    (h : OW rd P Q n Qf o T m (AS rd P ops Q S F fuel (listed.setIfInBounds i true))) : KT n Qf T m (AH rd P ops Q S F (fuel + 1) listed) := fun a w hA hm _ =>
  wpF_one i hi hr (wanted_of hA hw) (Oper.wpIn_mono (fun _ _ h' => ⟨fun _ _ => h'.1, h'.2⟩) (h a w hA hm))
/-- a final operation: behind it no condition holds -/
theorem KT.last {m : M α} (i : Nat) (hi : ops[i]? = some o) (hr : Region.ready .any ops listed = [i]) (hF : F i = true) (hw : wantedB ops T o = some true)
    (h : OW rd P Q n Qf o T m (wpF rd P ops Q S F fuel (listed.setIfInBounds i true))) : KT n Qf T m (AH rd P ops Q S F (fuel + 1) listed) := fun a w hA hm _ =>
  wpF_one i hi hr (wanted_of hA hw) (Oper.wpIn_mono (fun _ _ h' => ⟨fun _ e => (by rw [hF] at e; cases e), h'⟩) (h a w hA hm))
theorem KT.lastN {m : M α} (i : Nat) (hi : ops[i]? = some o) (hr : Region.ready .any ops listed = [i]) (hF : F i = true) (hw : wantedB ops T o = some true)
    (h : OW rd P Q n Qf o T m (wpF rd P ops Q S F fuel (listed.setIfInBounds i true))) : KT n Qf T m (wpF rd P ops Q S F (fuel + 1) listed) := fun a w hA hm =>
  wpF_one i hi hr (wanted_of hA hw) (Oper.wpIn_mono (fun _ _ h' => ⟨fun _ e => (by rw [hF] at e; cases e), h'⟩) (h a w hA hm))
theorem wpF_two {a : Act} {w : World} {o' : Oper} (i j : Nat) (hi : ops[i]? = some o) (hj : ops[j]? = some o') (hr : Region.ready .any ops listed = [i, j]) (hw : Region.wanted o (yielded ops a.tmps) = true) (hw' : Region.wanted o' (yielded ops a.tmps) = true)
    (h : o.wpIn (FW rd) 0 P a w (fun a' w' => (S w → F i = false → S w') ∧ wpF rd P ops Q S F fuel (listed.setIfInBounds i true) a' w') Q)
    (h' : o'.wpIn (FW rd) 0 P a w (fun a' w' => (S w → F j = false → S w') ∧ wpF rd P ops Q S F fuel (listed.setIfInBounds j true) a' w') Q) : wpF rd P ops Q S F (fuel + 1) listed a w := by
  refine ⟨fun h0 => (by rw [hr] at h0; cases h0), fun l hl => ?_⟩
  rw [hr] at hl
  have hl' : l = i ∨ l = j := by simpa using hl
  unfold wpOpIn
  rcases hl' with rfl | rfl
  · rw [hi]
    simp only
    rw [if_pos hw]
    exact h
  · rw [hj]
    simp only
    rw [if_pos hw']
    exact h'
theorem KT.two {m m' : M α} {o' : Oper} (i j : Nat) (hi : ops[i]? = some o) (hj : ops[j]? = some o') (hr : Region.ready .any ops listed = [i, j]) (hw : wantedB ops T o = some true) (hw' : wantedB ops T o' = some true)
    (h : OW rd P Q n Qf o T m (AS rd P ops Q S F fuel (listed.setIfInBounds i true))) (h' : OW rd P Q n Qf o' T m' (AS rd P ops Q S F fuel (listed.setIfInBounds j true))) :
    KT n Qf T (bothM m m') (AH rd P ops Q S F (fuel + 1) listed) := fun a w hA hm _ =>
  wpF_two i j hi hj hr (wanted_of hA hw) (wanted_of hA hw') (Oper.wpIn_mono (fun _ _ h' => ⟨fun _ _ => h'.1, h'.2⟩) (h a w hA hm.1)) (Oper.wpIn_mono (fun _ _ h' => ⟨fun _ _ => h'.1, h'.2⟩) (h' a w hA hm.2))
/-- the operation's step, with the condition shown behind it -/
theorem OW.step {pr : M β} {k : β → M α} {K : Act → World → Prop} (h : OW rd P Q n Qf o T (bindM pr (fun x => andM S (k x))) K) : OW rd P Q n Qf o T (bindM (stepI S pr) k) K :=
  fun a w hA hm => h a w hA hm
theorem KT.and {m : M α} (h : KT n Qf T m (AH rd P ops Q S F fuel listed)) : KT n Qf T (andM S m) (AS rd P ops Q S F fuel listed) := fun a w hA hm =>
  ⟨hm.1, h a w hA hm.2 hm.1⟩
theorem wpF_done {a : Act} {w : World} (hr : Region.ready .any ops listed = []) (h : Q .normal a w) : ∀ fuel, wpF rd P ops Q S F fuel listed a w
  | 0 => ⟨hr, h⟩
  | _ + 1 => ⟨fun _ => h, by rw [hr]; simp⟩
theorem KT.doneA {m : M α} (hr : Region.ready .any ops listed = []) (h : SX n .normal Q Qf T m) : KT n Qf T m (AH rd P ops Q S F fuel listed) := fun a w hA hm _ =>
  wpF_done hr (h a w hA hm) _
theorem KT.doneN {m : M α} (hr : Region.ready .any ops listed = []) (h : SX n .normal Q Qf T m) : KT n Qf T m (wpF rd P ops Q S F fuel listed) := fun a w hA hm =>
  wpF_done hr (h a w hA hm) _
end

/-! ## the whole function -/
def ixT : Nat → List Value → Tm
  | _, [] => []
  | i, v :: vs => (i, v) :: ixT (i + 1) vs
theorem lk_ixT (l : List Value) : ∀ (k i : Nat) (v : Value), lk (ixT k l) i = some v → k ≤ i ∧ l[i - k]? = some v := by
  induction l with
  | nil => intro k i v h; simp [ixT, lk] at h
  | cons x l ih =>
    intro k i v h
    simp only [ixT, lk] at h
    by_cases hi : i = k
    · subst hi
      simp only [Nat.beq_refl, cond_true] at h
      simpa using h
    · simp only [beq_ff hi, cond_false] at h
      obtain ⟨h1, h2⟩ := ih (k + 1) i v h
      refine ⟨by omega, ?_⟩
      rw [show i - k = (i - (k + 1)) + 1 from by omega]
      simpa using h2
theorem init_agrees (l : List Value) (n : Nat) (h : l.length ≤ n) : Agrees ⟨n, []⟩ { tmps := l.toArray ++ Array.replicate (n - l.toArray.size) undef, defers := [] } (ixT 0 l) := by
  refine ⟨by simp; omega, rfl, fun i v hv => ?_⟩
  obtain ⟨_, h2⟩ := lk_ixT l 0 i v hv
  simp only [Nat.sub_zero] at h2
  have hlt : i < l.length := (List.getElem?_eq_some_iff.1 h2).1
  rw [Array.getElem?_append_left (by simpa using hlt)]
  simpa using h2
/-- what the body must achieve; it does not panic -/
def bodyQ (P : Program) (fn : Func) (R : Ending → World → Prop) : Exit → Act → World → Prop
  | .panic _, _, _ => False
  | e, a, w => bodyPostM (FW none) 0 P fn R e a w
theorem bodyQ_post {fn : Func} {R : Ending → World → Prop} (e : Exit) (a : Act) (w : World) (h : bodyQ P fn R e a w) : bodyPostM (FW none) 0 P fn R e a w := by
  cases e <;> first | exact h | exact (h : False).elim
theorem calls_of {ρ : Type} {enc : ρ → Value} {f : FuncId} {fn : Func} {c : Code} {l : List Value} {m : M ρ} (n : Nat) (hf : P.funcs[f]? = some fn) (hb : fn.body = some c) (hn : fn.ntmps = n) (hl : Nat.ble l.length n = true)
    (h : ∀ Qf : ρ → World → Prop, SC none P ⟨n, []⟩ (bodyQ P fn (RetPost enc Qf)) Qf c (ixT 0 l) m) (Qf : ρ → World → Prop) (w : World) (hm : m Qf w) : Calls P f l.toArray w (RetPost enc Qf) := by
  subst hn
  exact (callsIn_wide (n := 0)).1 (callsIn_of_wp_marks (F := Fence.wide) hf hb trivial (wpIn_mono (h Qf _ w (init_agrees l fn.ntmps (by simpa using hl)) hm) bodyQ_post))

/-- the results -/
def resV (tmps : Array Value) : ResultVar → Sem Value
  | .tmp t => pure (tmps.getD t undef)
  | .cell b t => do loadVar t (← asAddr (tmps.getD b undef))
def RS {ρ : Type} (P : Program) (n : Nd) (enc : ρ → Value) (Qf : ρ → World → Prop) (rs : List ResultVar) (acc : List Value) (T : Tm) (m : M ρ) : Prop :=
  ∀ a w, Agrees n a T → m Qf w → ∃ vs : List Value, (rs.mapM (resV a.tmps)).run P w = .ok vs w ∧
    ∃ x, (if h : (acc ++ vs).length = 1 then (acc ++ vs)[0] else .tuple (acc ++ vs).toArray) = enc x ∧ Qf x w
theorem run_results {fn : Func} {rs : List ResultVar} (h : fn.results = rs.toArray) (tmps : Array Value) (w w' : World) (vs : List Value)
    (hr : (rs.mapM (resV tmps)).run P w = .ok vs w') :
    (results fn tmps).run P w = .ok (if h : vs.length = 1 then vs[0] else .tuple vs.toArray) w' := by
  have he : (fun r : ResultVar => match r with | .tmp t => (pure (tmps.getD t undef) : Sem Value) | .cell a t => do loadVar t (← asAddr (tmps.getD a undef))) = resV tmps := by
    funext r; cases r <;> rfl
  unfold results
  rw [h]
  have he2 : ∀ f : ResultVar → Sem Value, f = resV tmps → (do let vs ← rs.toArray.mapM f; pure (if h : vs.size = 1 then vs[0] else Value.tuple vs) : Sem Value).run P w = .ok (if h : vs.length = 1 then vs[0] else .tuple vs.toArray) w' := by
    intro f hf
    subst hf
    simp only [List.mapM_toArray, bind_pure_comp, Sem.run_map, hr, Result.andThen_ok]
    simp
  exact he2 _ he
/-- the marks are taken up -/
def takesM {ρ : Type} : List Nat → M ρ → M ρ
  | [], m => m
  | D :: ds, m => fun Q w => w.heap[D]? = some (.deferred (some [])) ∧ takesM ds m Q (w.putObj D (.deferred none))
theorem leaves_of {ρ : Type} {enc : ρ → Value} {Qf : ρ → World → Prop} {T : Tm} {m : M ρ} {fn : Func} {rs : List ResultVar} (hrs : fn.results = rs.toArray) {a : Act} (hA : Agrees n a T) (h : RS P n enc Qf rs [] T m) :
    ∀ (ds : List Nat) (w : World), takesM ds m Qf w → LeavesInM (FW none) 0 P fn a.tmps (RetPost enc Qf) (ds.map mark) .returning w
  | [], w, hm => by
    obtain ⟨vs, h1, x, h2, h3⟩ := h a w hA hm
    exact ⟨_, run_results hrs a.tmps w w vs h1, x, h2, h3⟩
  | D :: ds, w, hm => by
    refine ⟨by simp, .inl ⟨D, w.putObj D (.deferred none), rfl, ?_, leaves_of hrs hA h ds _ hm.2⟩⟩
    simp [Instr.takeDeferred, getObj, setObj, Sem.run, hm.1, World.putObj]
theorem SX.ret {ρ : Type} {enc : ρ → Value} {Qf : ρ → World → Prop} {T : Tm} {m : M ρ} {fn : Func} (rs : List ResultVar) (hrs : fn.results = rs.toArray) (h : RS P n enc Qf rs [] T m) :
    SX n .ret (bodyQ P fn (RetPost enc Qf)) Qf T (takesM n.ds m) := fun a w hA hm => by
  show LeavesInM _ _ _ _ _ _ a.defers _ _
  rw [hA.defers]
  exact leaves_of hrs hA h n.ds w hm
theorem SX.endBody {ρ : Type} {enc : ρ → Value} {Qf : ρ → World → Prop} {T : Tm} {m : M ρ} {fn : Func} (rs : List ResultVar) (hrs : fn.results = rs.toArray) (h : RS P n enc Qf rs [] T m) :
    SX n .normal (bodyQ P fn (RetPost enc Qf)) Qf T (takesM n.ds m) := fun a w hA hm => by
  show LeavesInM _ _ _ _ _ _ a.defers _ _
  rw [hA.defers]
  exact leaves_of hrs hA h n.ds w hm
section
variable {ρ : Type} {enc : ρ → Value} {Qf : ρ → World → Prop} {rs : List ResultVar} {acc : List Value} {T : Tm}
theorem RS.nil {x : ρ} (h : (if h : acc.length = 1 then acc[0] else .tuple acc.toArray) = enc x) : RS P n enc Qf [] acc T (pureM x) := fun a w _ hm =>
  ⟨[], by simp, x, by simpa using h, hm⟩
theorem RS.tmp {m : M ρ} {t : Nat} (v : Value) (hv : lk T t = some v) (h : RS P n enc Qf rs (acc ++ [v]) T m) : RS P n enc Qf (.tmp t :: rs) acc T m := fun a w hA hm => by
  obtain ⟨vs, h1, x, h2, h3⟩ := h a w hA hm
  have he : a.tmps.getD t undef = v := by simp [Array.getD_eq_getD_getElem?, hA.look t v hv]
  refine ⟨v :: vs, ?_, x, by simpa using h2, h3⟩
  rw [List.mapM_cons]
  simp only [resV, he, pure_bind, Sem.run_bind]
  rw [h1]
  simp
theorem RS.cell {γ : Type} {e : γ → Value} {k : γ → M ρ} {t : Nat} {ad : Addr} {ty : TypeId} (hv : lk T t = some (.pointer (some ad))) (ht : plainT P ty = true) (h : ∀ y, RS P n enc Qf rs (acc ++ [e y]) T (k y)) :
    RS P n enc Qf (.cell t ty :: rs) acc T (bindM (ld e ad) k) := fun a w hA hm => by
  obtain ⟨y, hc, hm⟩ := hm
  obtain ⟨vs, h1, x, h2, h3⟩ := h y a w hA hm
  have he : a.tmps.getD t undef = .pointer (some ad) := by simp [Array.getD_eq_getD_getElem?, hA.look t _ hv]
  refine ⟨e y :: vs, ?_, x, by simpa using h2, h3⟩
  rw [List.mapM_cons]
  have hl : (resV a.tmps (.cell t ty)).run P w = .ok (e y) w := by
    simp only [resV, he, Sem.run_bind, asAddr, Sem.run_pure, Result.andThen_ok, loadVar, run_isAgg_plain ht, Bool.false_eq_true, if_false, run_load, hc]
  simp only [Sem.run_bind, hl, Result.andThen_ok, h1]
  simp
end
end
end Go.Mo
