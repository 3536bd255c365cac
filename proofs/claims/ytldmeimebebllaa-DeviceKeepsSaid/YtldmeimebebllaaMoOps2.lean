/-
  more operations: slices, aggregates.
-/
import Derived.Test.YtldmeimebebllaaMoOps
import Derived.Laws.Pointers
import Derived.Laws.AppendOwn
namespace Go.Mo
set_option linter.unusedVariables false
def w64 (n : Int) : Int := IntKind.i64.wrap n
def bAnd (k : IntKind) (x y : Int) : Int := k.wrap (BitVec.ofInt k.bits x &&& BitVec.ofInt k.bits y).toNat
def bOr (k : IntKind) (x y : Int) : Int := k.wrap (BitVec.ofInt k.bits x ||| BitVec.ofInt k.bits y).toNat
def bXor (k : IntKind) (x y : Int) : Int := k.wrap (BitVec.ofInt k.bits x ^^^ BitVec.ofInt k.bits y).toNat
def bAndNot (k : IntKind) (x y : Int) : Int := k.wrap (BitVec.ofInt k.bits x &&& ~~~(BitVec.ofInt k.bits y)).toNat
def bShl (k : IntKind) (x y : Int) : Int := k.wrap (x * 2 ^ (min y.toNat k.bits))
def bShr (k : IntKind) (x y : Int) : Int := x.fdiv (2 ^ (min y.toNat k.bits))
def maxI (x y : Int) : Int := if y > x then y else x
def minI (x y : Int) : Int := if y < x then y else x
def eq3 (x y : Int × Int × Int) : Bool := x.1 == y.1 && x.2.1 == y.2.1 && x.2.2 == y.2.2

def idxA (a : Addr) (len : Nat) (i : Int) (size : Nat) : M Addr := fun Q w => 0 ≤ i ∧ i < len ∧ Q (a.add (i.toNat * size)) w
def sliceM (s : Slc) (lo hi : Option Int) (size : Nat) : M Slc := fun Q w => ∃ l h : Nat, lo.getD 0 = (l : Int) ∧ hi.getD s.len = (h : Int) ∧ l ≤ h ∧ h ≤ s.cap ∧
  Q ⟨if s.cap = l then s.base else s.base.map (·.add (l * size)), h - l, s.cap - l⟩ w
def ldA {β : Type} (enc : β → List Value) (a : Addr) : M β := fun Q w => ∃ y, (∀ j v, (enc y)[j]? = some v → w.cell? (a.add j) = some v) ∧ Q y w
def ldAI {β : Type} (I : World → Prop) (enc : β → List Value) (a : Addr) : M β := fun Q w => ∃ y, (∀ w', I w' → ∀ j v, (enc y)[j]? = some v → w'.cell? (a.add j) = some v) ∧ Q y w
def storable (w : World) (a : Addr) : Nat → List Value → Prop
  | _, [] => True
  | i, v :: r => v.oneCell' = true ∧ (∃ u, w.cell? (a.add i) = some u) ∧ w.frozen? (a.add i) = false ∧ storable (w.setCell (a.add i) v) a (i + 1) r
def storeRow (w : World) (a : Addr) : Nat → List Value → World
  | _, [] => w
  | i, v :: r => storeRow (w.setCell (a.add i) v) a (i + 1) r
def stA (a : Addr) (vs : List Value) : M Unit := fun Q w => storable w a 0 vs ∧ Q () (storeRow w a 0 vs)
/-- n zero values, as cells -/
def zs (z : List Value) (n : Nat) : List Value := (List.range (n * z.length)).map fun i => z.getD (i % z.length) undef
def makeM (z : List Value) (bytes : Nat) (n : Int) : M Slc := fun Q w => 0 ≤ n ∧ bytes * n ≤ 2 ^ 48 ∧ ∀ elem, Q ⟨some ⟨w.heap.size, 0, none⟩, n.toNat, n.toNat⟩ (World.allocC w (zs z n.toNat).toArray elem)
def cellsAt (w : World) (base : Option Addr) (l : List Value) : Prop := match base with
  | some a => ∀ j v, l[j]? = some v → w.cell? (a.add j) = some v
  | none => l = []
def appendM (z : List Value) (bytes : Nat) (s x : Slc) : M Slc := fun Q w =>
  ∃ new, cellsAt w x.base new ∧ (x.base.isSome = true → new.length = x.len * z.length) ∧
    if s.len + x.len ≤ s.cap then
      match s.base with
      | some a => storable w (a.add (s.len * z.length)) 0 new ∧ Q ⟨some a, s.len + x.len, s.cap⟩ (storeRow w (a.add (s.len * z.length)) 0 new)
      | none => Q ⟨none, s.len + x.len, s.cap⟩ w
    else Builtin.nextslicecap (s.len + x.len) s.cap * bytes ≤ 2 ^ 48 ∧ ∃ old, cellsAt w s.base old ∧ (s.base.isSome = true → old.length = s.len * z.length) ∧
      ∀ newCap elem, s.len + x.len ≤ newCap → Q ⟨some ⟨w.heap.size, 0, none⟩, s.len + x.len, newCap⟩ (World.allocC (drawW w) (old ++ new ++ zs z (newCap - (s.len + x.len))).toArray elem)
def copyM (size : Nat) (d s : Slc) : M Int := fun Q w =>
  ∃ new, cellsAt w s.base new ∧ (s.base.isSome = true → new.length = Nat.min s.len d.len * size) ∧ match d.base with
    | some a => storable w a 0 new ∧ Q (Nat.min s.len d.len : Nat) (storeRow w a 0 new)
    | none => Q (Nat.min s.len d.len : Nat) w

section
variable {rd : Option Nat} {P : Program} {n : Nd} {Q : Exit → Act → World → Prop} {α β σ : Type} {Qf : α → World → Prop} {ops : Array Oper}
theorem SC.cond_true {c : Operand} {x y : Code} {T : Tm} {m : M α} (hc : ev T c = some (.bool true)) (h : SC rd P n Q Qf x T m) : SC rd P n Q Qf (.cond c x y) T m :=
  fun a w hA hm => wpIn_cond_true (hA.ev hc) (h a w hA hm)
theorem SC.cond_false {c : Operand} {x y : Code} {T : Tm} {m : M α} (hc : ev T c = some (.bool false)) (h : SC rd P n Q Qf y T m) : SC rd P n Q Qf (.cond c x y) T m :=
  fun a w hA hm => wpIn_cond_false (hA.ev hc) (h a w hA hm)

instance instPanicBody (fn : Func) (R : Ending → World → Prop) : PanicOK (bodyQ P fn R) := ⟨fun c a d v w h => h⟩
instance instPanicThen (K : Act → World → Prop) (Q : Exit → Act → World → Prop) [h : PanicOK Q] : PanicOK (Exit.then K Q) := ⟨fun c a d v w hq => h.ok c a d v w hq⟩
instance instPanicBlock (id : Nat) (Q : Exit → Act → World → Prop) [h : PanicOK Q] : PanicOK (Exit.inBlock id Q) := ⟨fun c a d v w hq => h.ok c a d v w hq⟩
instance instPanicLoop (N0 : σ → Nd) (T0 : σ → Tm) (I : σ → World → Prop) (lt : Nat) (μ : σ → World → Nat) (Q : Exit → Act → World → Prop) [h : PanicOK Q] : PanicOK (loopQ N0 T0 I lt μ Q) :=
  ⟨fun c a d v w hq => h.ok c a d v w hq⟩

section
variable {o : Oper} {T : Tm} {K : Act → World → Prop} {S : World → Prop} {d : Nat}
theorem OY.run {m : M α} (v : Value) (hv : ∀ a w, Agrees n a T → (execOp a.eval o).run P w = .ok (.value v) w) (hn : o.dst = some d) (hb : Nat.blt d n.n = true)
    (h : KT n Qf ((d, v) :: T) m K) : OY P n S Qf o T m K := fun a w hA hm =>
  ⟨v, fun w' _ => hv a w' hA, by rw [hn]; exact h _ w (hA.put hb v) hm⟩
theorem OY.idxA {k : Addr → M α} {ad : Addr} {i : Int} {ki : IntKind} {size len : Nat} {elem : TypeId} (t : TypeId) (x ix : Operand) (ho : o.op = .indexAddr t x ix)
    (hx : ev T x = some (.pointer (some ad))) (hi : ev T ix = some (.int ki i)) (ht : P.underlying t = some (.array len elem)) (hs : (P.info? elem).map (·.size) = some size)
    (hl : Nat.blt 1 len = true) (hn : o.dst = some d) (hb : Nat.blt d n.n = true) (h : ∀ ad, KT n Qf ((d, .pointer (some ad)) :: T) (k ad) K) : OY P n S Qf o T (bindM (Mo.idxA ad len i size) k) K := fun a w hA hm => by
  obtain ⟨h0, h1, hm⟩ := hm
  refine ⟨.pointer (some (ad.add (i.toNat * size))), fun w' _ => ?_, by rw [hn]; exact h _ _ w (hA.put hb _) hm⟩
  unfold execOp
  rw [ho]
  obtain ⟨inf, hinf, hsz⟩ := Option.map_eq_some_iff.1 hs
  simp [hA.ev hx, hA.ev hi, Instr.indexAt, Instr.sureAddr, asIntOf, underlying, ht, h0, h1, sizeOf, typeInfo, hinf, hsz]
theorem eqGuard_int (op : BinOp) (t : TypeId) (x y : Operand) (k k' : IntKind) (u v : Int) (w : World) : (eqGuard op t x y (.int k u) (.int k' v)).run P w = .ok () w := by
  unfold eqGuard; cases op <;> simp
theorem OY.quo {m : M α} {x y : Int} {k : IntKind} (t : TypeId) (xo yo : Operand) (t2 : TypeId) (r : Int) (hr : r = k.wrap (x.tdiv y)) (ho : o.op = .binOp .quo t xo yo t2) (hx : ev T xo = some (.int k x)) (hy : ev T yo = some (.int k y))
    (hn : o.dst = some d) (hb : Nat.blt d n.n = true) (h : KT n Qf ((d, .int k r) :: T) m K) : OY P n S Qf o T (assertM (y ≠ 0) m) K := OY.assert fun hne => OY.run _ (fun a w hA => by
  subst hr
  unfold execOp
  rw [ho]
  simp [hA.ev hx, hA.ev hy, eqGuard_int, binOp, Op.intDiv, hne]) hn hb h
theorem OY.rem {m : M α} {x y : Int} {k : IntKind} (t : TypeId) (xo yo : Operand) (t2 : TypeId) (r : Int) (hr : r = x.tmod y) (ho : o.op = .binOp .rem t xo yo t2) (hx : ev T xo = some (.int k x)) (hy : ev T yo = some (.int k y))
    (hn : o.dst = some d) (hb : Nat.blt d n.n = true) (h : KT n Qf ((d, .int k r) :: T) m K) : OY P n S Qf o T (assertM (y ≠ 0) m) K := OY.assert fun hne => OY.run _ (fun a w hA => by
  subst hr
  unfold execOp
  rw [ho]
  simp [hA.ev hx, hA.ev hy, eqGuard_int, binOp, Op.intDiv, hne]) hn hb h
theorem OY.shl {m : M α} {x y : Int} {k k' : IntKind} (t : TypeId) (xo yo : Operand) (t2 : TypeId) (r : Int) (hr : r = bShl k x y) (ho : o.op = .binOp .shl t xo yo t2) (hx : ev T xo = some (.int k x)) (hy : ev T yo = some (.int k' y))
    (hn : o.dst = some d) (hb : Nat.blt d n.n = true) (h : KT n Qf ((d, .int k r) :: T) m K) : OY P n S Qf o T (assertM (0 ≤ y) m) K := OY.assert fun hne => OY.run _ (fun a w hA => by
  subst hr
  have hne' : ¬ y < 0 := by omega
  unfold execOp
  rw [ho]
  simp [hA.ev hx, hA.ev hy, eqGuard_int, binOp, Op.shift, hne', bShl]) hn hb h
theorem OY.shr {m : M α} {x y : Int} {k k' : IntKind} (t : TypeId) (xo yo : Operand) (t2 : TypeId) (r : Int) (hr : r = bShr k x y) (ho : o.op = .binOp .shr t xo yo t2) (hx : ev T xo = some (.int k x)) (hy : ev T yo = some (.int k' y))
    (hn : o.dst = some d) (hb : Nat.blt d n.n = true) (h : KT n Qf ((d, .int k r) :: T) m K) : OY P n S Qf o T (assertM (0 ≤ y) m) K := OY.assert fun hne => OY.run _ (fun a w hA => by
  subst hr
  have hne' : ¬ y < 0 := by omega
  unfold execOp
  rw [ho]
  simp [hA.ev hx, hA.ev hy, eqGuard_int, binOp, Op.shift, hne', bShr]) hn hb h
/-- a pointer against nil -/
theorem OY.eqlNil {m : M α} {p : Option Addr} (t : TypeId) (xo yo : Operand) (t2 : TypeId) (ho : o.op = .binOp .eql t xo yo t2) (hx : ev T xo = some (.pointer p)) (hy : ev T yo = some (.pointer none)) (ht : P.underlying t = some (.pointer (P.pointee t)))
    (hn : o.dst = some d) (hb : Nat.blt d n.n = true) (h : KT n Qf ((d, .bool p.isNone) :: T) m K) : OY P n S Qf o T m K := OY.run _ (fun a w hA => by
  unfold execOp
  rw [ho]
  have := run_eql_pointer_nil w t p ht
  simp only [hA.ev hx, hA.ev hy, Sem.run_bind, eqGuard]
  simp [this]) hn hb h
theorem OY.neqNil {m : M α} {p : Option Addr} (t : TypeId) (xo yo : Operand) (t2 : TypeId) (ho : o.op = .binOp .neq t xo yo t2) (hx : ev T xo = some (.pointer p)) (hy : ev T yo = some (.pointer none)) (ht : P.underlying t = some (.pointer (P.pointee t)))
    (hn : o.dst = some d) (hb : Nat.blt d n.n = true) (h : KT n Qf ((d, .bool (!p.isNone)) :: T) m K) : OY P n S Qf o T m K := OY.run _ (fun a w hA => by
  unfold execOp
  rw [ho]
  have := run_neq_pointer_nil w t p ht
  simp only [hA.ev hx, hA.ev hy, Sem.run_bind, eqGuard]
  simp [this]) hn hb h

/-! slices -/
theorem run_bound {k : IntKind} (i : Int) (l y : Nat) (c : BoundsCode) (hi : i = (l : Int)) (h : l ≤ y) (w : World) : (Instr.sliceBound (.int k i) y c).run P w = .ok l w := by
  subst hi
  have h' : (0 : Int) ≤ (l : Int) ∧ (l : Int) ≤ (y : Int) := ⟨by omega, by omega⟩
  simp only [Instr.sliceBound, asIntOf, Sem.run_bind, Sem.run_pure, Result.andThen_ok]
  rw [if_pos h']
  simp
theorem run_slice {lo hi : Option Int} {vlo vhi : Option Value} {s : Slc} {size l h : Nat} {elem : TypeId} (t : TypeId) (ht : P.underlying t = some (.slice elem)) (hs : (P.info? elem).map (·.size) = some size)
    (hlo : match lo, vlo with | none, none => True | some i, some v => ∃ k, v = .int k i | _, _ => False) (hhi : match hi, vhi with | none, none => True | some i, some v => ∃ k, v = .int k i | _, _ => False)
    (h1 : lo.getD 0 = (l : Int)) (h2 : hi.getD s.len = (h : Int)) (h3 : l ≤ h) (h4 : h ≤ s.cap) (w : World) :
    (Instr.sliceAt t (.slice s.base s.len s.cap) vlo vhi none).run P w = .ok (vS ⟨if s.cap = l then s.base else s.base.map (·.add (l * size)), h - l, s.cap - l⟩) w := by
  have hb : (Instr.sliceBounds true s.len s.cap vlo vhi none).run P w = .ok (l, h, s.cap) w := by
    unfold Instr.sliceBounds
    cases hi with
    | none =>
      cases vhi with
      | some v => exact hhi.elim
      | none =>
        have : h = s.len := by simp at h2; omega
        subst this
        cases lo with
        | none =>
          cases vlo with
          | some v => exact hlo.elim
          | none =>
            have : l = 0 := by simp at h1; omega
            subst this
            simp
        | some i =>
          cases vlo with
          | none => exact hlo.elim
          | some v =>
            obtain ⟨k, rfl⟩ := hlo
            simp [run_bound i l s.len _ (by simpa using h1) h3]
    | some j =>
      cases vhi with
      | none => exact hhi.elim
      | some v =>
        obtain ⟨k, rfl⟩ := hhi
        have hj : j = (h : Int) := by simpa using h2
        cases lo with
        | none =>
          cases vlo with
          | some v => exact hlo.elim
          | none =>
            have : l = 0 := by simp at h1; omega
            subst this
            simp [run_bound j h s.cap _ hj h4]
        | some i =>
          cases vlo with
          | none => exact hlo.elim
          | some v =>
            obtain ⟨k', rfl⟩ := hlo
            simp [run_bound j h s.cap _ hj h4, run_bound i l h _ (by simpa using h1) h3]
  unfold Instr.sliceAt
  simp only [underlying, Sem.run_bind, run_program, Result.andThen_ok, ht, Sem.run_pure]
  unfold Instr.slice
  simp only [underlying, Sem.run_bind, run_program, Result.andThen_ok, ht, Sem.run_pure, hb, run_sizeOf hs]
  rfl
theorem OY.slice00 {k : Slc → M α} {s : Slc} {size : Nat} {elem : TypeId} (t : TypeId) (x : Operand) (ho : o.op = .slice t x none none none) (hx : ev T x = some (.slice s.base s.len s.cap))
    (ht : P.underlying t = some (.slice elem)) (hs : (P.info? elem).map (·.size) = some size) (hn : o.dst = some d) (hb : Nat.blt d n.n = true)
    (h : ∀ s', KT n Qf ((d, vS s') :: T) (k s') K) : OY P n S Qf o T (bindM (sliceM s none none size) k) K := fun a w hA hm => by
  obtain ⟨l, hh, h1, h2, h3, h4, hm⟩ := hm
  refine ⟨_, fun w' _ => ?_, by rw [hn]; exact h _ _ w (hA.put hb _) hm⟩
  unfold execOp
  rw [ho]
  simp [hA.ev hx, run_slice (P := P) (lo := none) (hi := none) (vlo := none) (vhi := none) (s := s) t ht hs trivial trivial h1 h2 h3 h4]
theorem OY.slice10 {k : Slc → M α} {s : Slc} {size : Nat} {elem : TypeId} {lo : Int} {ki : IntKind} (t : TypeId) (x xl : Operand) (ho : o.op = .slice t x (some xl) none none) (hx : ev T x = some (.slice s.base s.len s.cap))
    (hl : ev T xl = some (.int ki lo)) (ht : P.underlying t = some (.slice elem)) (hs : (P.info? elem).map (·.size) = some size) (hn : o.dst = some d) (hb : Nat.blt d n.n = true)
    (h : ∀ s', KT n Qf ((d, vS s') :: T) (k s') K) : OY P n S Qf o T (bindM (sliceM s (some lo) none size) k) K := fun a w hA hm => by
  obtain ⟨l, hh, h1, h2, h3, h4, hm⟩ := hm
  refine ⟨_, fun w' _ => ?_, by rw [hn]; exact h _ _ w (hA.put hb _) hm⟩
  unfold execOp
  rw [ho]
  simp [hA.ev hx, hA.ev hl, run_slice (P := P) (lo := some lo) (hi := none) (vlo := some (.int ki lo)) (vhi := none) (s := s) t ht hs ⟨ki, rfl⟩ trivial h1 h2 h3 h4]
theorem OY.slice01 {k : Slc → M α} {s : Slc} {size : Nat} {elem : TypeId} {hi : Int} {kj : IntKind} (t : TypeId) (x xh : Operand) (ho : o.op = .slice t x none (some xh) none) (hx : ev T x = some (.slice s.base s.len s.cap))
    (hhi : ev T xh = some (.int kj hi)) (ht : P.underlying t = some (.slice elem)) (hs : (P.info? elem).map (·.size) = some size) (hn : o.dst = some d) (hb : Nat.blt d n.n = true)
    (h : ∀ s', KT n Qf ((d, vS s') :: T) (k s') K) : OY P n S Qf o T (bindM (sliceM s none (some hi) size) k) K := fun a w hA hm => by
  obtain ⟨l, hh, h1, h2, h3, h4, hm⟩ := hm
  refine ⟨_, fun w' _ => ?_, by rw [hn]; exact h _ _ w (hA.put hb _) hm⟩
  unfold execOp
  rw [ho]
  simp [hA.ev hx, hA.ev hhi, run_slice (P := P) (lo := none) (hi := some hi) (vlo := none) (vhi := some (.int kj hi)) (s := s) t ht hs trivial ⟨kj, rfl⟩ h1 h2 h3 h4]
theorem OY.slice11 {k : Slc → M α} {s : Slc} {size : Nat} {elem : TypeId} {lo hi : Int} {ki kj : IntKind} (t : TypeId) (x xl xh : Operand) (ho : o.op = .slice t x (some xl) (some xh) none) (hx : ev T x = some (.slice s.base s.len s.cap))
    (hl : ev T xl = some (.int ki lo)) (hhi : ev T xh = some (.int kj hi)) (ht : P.underlying t = some (.slice elem)) (hs : (P.info? elem).map (·.size) = some size) (hn : o.dst = some d) (hb : Nat.blt d n.n = true)
    (h : ∀ s', KT n Qf ((d, vS s') :: T) (k s') K) : OY P n S Qf o T (bindM (sliceM s (some lo) (some hi) size) k) K := fun a w hA hm => by
  obtain ⟨l, hh, h1, h2, h3, h4, hm⟩ := hm
  refine ⟨_, fun w' _ => ?_, by rw [hn]; exact h _ _ w (hA.put hb _) hm⟩
  unfold execOp
  rw [ho]
  simp [hA.ev hx, hA.ev hl, hA.ev hhi, run_slice (P := P) (lo := some lo) (hi := some hi) (vlo := some (.int ki lo)) (vhi := some (.int kj hi)) (s := s) t ht hs ⟨ki, rfl⟩ ⟨kj, rfl⟩ h1 h2 h3 h4]

/-! rows of cells -/
def aggT (P : Program) (t : TypeId) : Bool := match P.underlying t with | some (.struct _) | some (.array _ _) => true | _ => false
theorem run_isAgg_agg {t : TypeId} (h : aggT P t = true) (w : World) : (isAgg t).run P w = .ok true w := by
  unfold aggT at h
  unfold isAgg underlying
  simp only [Sem.run_bind, run_program, Result.andThen_ok]
  cases hu : P.underlying t with
  | none => rw [hu] at h; cases h
  | some x => rw [hu] at h; cases x <;> simp_all
theorem run_loadVar_agg {t : TypeId} {N : Nat} (ha : aggT P t = true) (hs : (P.info? t).map (·.size) = some N) (ad : Addr) (cs : List Value) (hl : cs.length = N) (w : World)
    (h : ∀ j v, cs[j]? = some v → w.cell? (ad.add j) = some v) : (loadVar t ad).run P w = .ok (.agg cs.toArray) w := by
  subst hl
  simp only [loadVar, Sem.run_bind, run_isAgg_agg ha, Result.andThen_ok, if_true, run_sizeOf hs, run_loadCells_list w ad cs h, Sem.run_pure]
theorem OW.ldA {k : β → M α} {enc : β → List Value} {ad : Addr} (N : Nat) (t : TypeId) (x : Operand) (ho : o.op = .load t x) (hx : ev T x = some (.pointer (some ad))) (ha : aggT P t = true)
    (hs : (P.info? t).map (·.size) = some N) (hl : ∀ y, (enc y).length = N) (hn : o.dst = some d) (hb : Nat.blt d n.n = true) (h : ∀ y, KT n Qf ((d, .agg (enc y).toArray) :: T) (k y) K) :
    OW rd P Q n Qf o T (bindM (Mo.ldA enc ad) k) K := fun a w hA hm => by
  obtain ⟨y, hc, hm⟩ := hm
  have : (execOp a.eval o).run P w = .ok (.value (.agg (enc y).toArray)) w := by
    unfold execOp
    rw [ho]
    simp [hA.ev hx, Instr.loadAt, Instr.sureAddr, run_loadVar_agg ha hs ad (enc y) (hl y) w hc]
  refine wpIn_value this ?_
  rw [hn]
  exact h y _ w (hA.put hb _) hm
theorem OY.ldAI {k : β → M α} {enc : β → List Value} {ad : Addr} (N : Nat) (t : TypeId) (x : Operand) (ho : o.op = .load t x) (hx : ev T x = some (.pointer (some ad))) (ha : aggT P t = true)
    (hs : (P.info? t).map (·.size) = some N) (hl : ∀ y, (enc y).length = N) (hn : o.dst = some d) (hb : Nat.blt d n.n = true) (h : ∀ y, KT n Qf ((d, .agg (enc y).toArray) :: T) (k y) K) :
    OY P n S Qf o T (bindM (Mo.ldAI S enc ad) k) K := fun a w hA hm => by
  obtain ⟨y, hc, hm⟩ := hm
  refine ⟨.agg (enc y).toArray, fun w' hw' => ?_, by rw [hn]; exact h y _ w (hA.put hb _) hm⟩
  unfold execOp
  rw [ho]
  simp [hA.ev hx, Instr.loadAt, Instr.sureAddr, run_loadVar_agg ha hs ad (enc y) (hl y) w' (hc w' hw')]
theorem RS.cellA {ρ : Type} {enc : ρ → Value} {Qf : ρ → World → Prop} {rs : List ResultVar} {acc : List Value} {γ : Type} {e : γ → List Value} {k : γ → M ρ} {t : Nat} {ad : Addr} {ty : TypeId} (N : Nat) (ha : aggT P ty = true)
    (hv : lk T t = some (.pointer (some ad))) (hs : (P.info? ty).map (·.size) = some N) (hl : ∀ y, (e y).length = N) (h : ∀ y, RS P n enc Qf rs (acc ++ [.agg (e y).toArray]) T (k y)) :
    RS P n enc Qf (.cell t ty :: rs) acc T (bindM (Mo.ldA e ad) k) := fun a w hA hm => by
  obtain ⟨y, hc, hm⟩ := hm
  obtain ⟨vs, h1, x, h2, h3⟩ := h y a w hA hm
  have he : a.tmps.getD t undef = .pointer (some ad) := by simp [Array.getD_eq_getD_getElem?, hA.look t _ hv]
  refine ⟨.agg (e y).toArray :: vs, ?_, x, by simpa using h2, h3⟩
  rw [List.mapM_cons]
  have hl : (resV a.tmps (.cell t ty)).run P w = .ok (.agg (e y).toArray) w := by
    simp only [resV, he, Sem.run_bind, asAddr, Sem.run_pure, Result.andThen_ok, run_loadVar_agg ha hs ad (e y) (hl y) w hc]
  simp only [Sem.run_bind, hl, Result.andThen_ok, h1]
  simp
theorem run_storeCells_row (a : Addr) (vs : List Value) : ∀ (i : Nat) (w : World), storable w a i vs → (storeCells a vs i).run P w = .ok () (storeRow w a i vs) := by
  induction vs with
  | nil => intro i w _; simp [storeCells, storeRow]
  | cons v r ih =>
    intro i w h
    obtain ⟨h1, ⟨u, h2⟩, h3, h4⟩ := h
    have hst := run_store P w (a.add i) v .plain h1
    rw [h2] at hst
    simp only [h3, Bool.false_eq_true, if_false] at hst
    simp only [storeCells, Sem.run_bind, hst, Result.andThen_ok, storeRow]
    exact ih _ _ h4
theorem OW.stA {k : Unit → M α} {ad : Addr} {vs : List Value} {N : Nat} (t : TypeId) (x y : Operand) (ho : o.op = .store t x y) (hx : ev T x = some (.pointer (some ad))) (hy : ev T y = some (.agg vs.toArray))
    (hl : vs.length = N) (hn : o.dst = none) (ht : (P.info? t).map (·.size) = some N) (h : KT n Qf T (k ()) K) : OW rd P Q n Qf o T (bindM (Mo.stA ad vs) k) K := fun a w hA hm => by
  obtain ⟨hst, hm⟩ := hm
  subst hl
  have : (execOp a.eval o).run P w = .ok .skip (storeRow w ad 0 vs) := by
    unfold execOp
    rw [ho]
    simp [hA.ev hx, hA.ev hy, Instr.storeAt, Instr.sureAddr, storeVar, run_sizeOf ht, Value.cells, run_storeCells_row ad vs 0 w hst]
  refine wpIn_run (fun c e => by rw [ho] at e; cases e) ?_
  rw [this, Oper.uponIn_skip, hn]
  exact h _ _ hA hm

/-! ## front ends: the side conditions by themselves -/
theorem KT.pv {os : List Oper} {m : M α} (d : Nat) (v : Value) (h : KT n Qf ((d, v) :: T) m (WL rd P ops Q os)) (hw : wantedB ops T o = some true := by kernel_rfl) (hd : defined T o = true := by kernel_rfl)
    (hv : ∀ w, (execOp (rho T) o).run P w = .ok (.value v) w := by intro _; kernel_rfl) (hn : o.dst = some d := by rfl) (hb : Nat.blt d n.n = true := by rfl) : KT n Qf T m (WL rd P ops Q (o :: os)) :=
  KT.oy hw (OY.pv v hd hv hn hb h)
theorem KT.sk {os : List Oper} {m : M α} (h : KT n Qf (dstT T undef o.dst) m (WL rd P ops Q os)) (hw : wantedB ops T o = some false := by kernel_rfl) (hd : dstOK n o.dst = true := by rfl) :
    KT n Qf T m (WL rd P ops Q (o :: os)) := KT.skip hw hd h
theorem KT.nm {os : List Oper} {k : Addr → M α} {p : Option Addr} {x : Operand} (d : Nat) (h : ∀ ad, KT n Qf ((d, .pointer (some ad)) :: T) (k ad) (WL rd P ops Q os)) (hw : wantedB ops T o = some true := by kernel_rfl)
    (ho : o.op = .nilCheck x := by rfl) (hx : ev T x = some (.pointer p) := by rfl) (hn : o.dst = some d := by rfl) (hb : Nat.blt d n.n = true := by rfl) : KT n Qf T (bindM (nilM p) k) (WL rd P ops Q (o :: os)) :=
  KT.oy hw (OY.nil x ho hx hn hb h)
theorem KT.l {os : List Oper} {k : β → M α} {enc : β → Value} {ad : Addr} {t : TypeId} {x : Operand} (d : Nat) (h : ∀ y, KT n Qf ((d, enc y) :: T) (k y) (WL rd P ops Q os)) (hw : wantedB ops T o = some true := by kernel_rfl)
    (ho : o.op = .load t x := by rfl) (hx : ev T x = some (.pointer (some ad)) := by rfl) (ht : plainT P t = true := by kernel_rfl) (hn : o.dst = some d := by rfl) (hb : Nat.blt d n.n = true := by rfl) :
    KT n Qf T (bindM (ld enc ad) k) (WL rd P ops Q (o :: os)) := KT.ow hw (OW.ld t x ho hx ht hn hb h)
theorem KT.s {os : List Oper} {k : Unit → M α} {ad : Addr} {v : Value} {t : TypeId} {x y : Operand} (h : KT n Qf T (k ()) (WL rd P ops Q os)) (hw : wantedB ops T o = some true := by kernel_rfl)
    (ho : o.op = .store t x y := by rfl) (hx : ev T x = some (.pointer (some ad)) := by rfl) (hy : ev T y = some v := by rfl) (hv : v.oneCell' = true := by rfl) (ht : (P.info? t).map (·.size) = some 1 := by kernel_rfl) (hn : o.dst = none := by rfl) :
    KT n Qf T (bindM (st ad v) k) (WL rd P ops Q (o :: os)) := KT.ow hw (OW.st t x y ho hx hy hv ht hn h)
theorem KT.nw {os : List Oper} {k : Addr → M α} {cs : List Value} (d : Nat) (vf : Addr → Value) (elem : TypeId) (h : ∀ ad, KT n Qf ((d, vf ad) :: T) (k ad) (WL rd P ops Q os)) (hw : wantedB ops T o = some true := by kernel_rfl)
    (hd : defined T o = true := by kernel_rfl) (he : ∀ w, (execOp (rho T) o).run P w = .ok (.value (vf ⟨w.heap.size, 0, none⟩)) (World.allocC w cs.toArray elem) := by intro _; kernel_rfl) (hn : o.dst = some d := by rfl) (hb : Nat.blt d n.n = true := by rfl) :
    KT n Qf T (bindM (allocM cs) k) (WL rd P ops Q (o :: os)) := KT.ow hw (OW.new cs vf elem hd he hn hb h)
theorem KT.cl {os : List Oper} {k : β → M α} {callee : M β} (enc : β → Value) (d f : Nat) (vs : Array Value) (hc : ∀ (Qf' : β → World → Prop) (w : World), callee Qf' w → Calls P f vs w (RetPost enc Qf'))
    (h : ∀ y, KT n Qf ((d, enc y) :: T) (k y) (WL rd P ops Q os)) (hw : wantedB ops T o = some true := by kernel_rfl) (hd : defined T o = true := by kernel_rfl) (he : ∀ w, (execOp (rho T) o).run P w = .ok (.enter f vs) w := by intro _; kernel_rfl)
    (hn : o.dst = some d := by rfl) (hb : Nat.blt d n.n = true := by rfl) : KT n Qf T (bindM callee k) (WL rd P ops Q (o :: os)) := KT.ow hw (OW.call f vs hd he hc hn hb h)
section
variable {F : Nat → Bool} {fuel : Nat} {listed : Array Bool}
theorem KT.pvA {m : M α} (i d : Nat) (v : Value) (h : KT n Qf ((d, v) :: T) m (AH rd P ops Q S F fuel (listed.setIfInBounds i true))) [hQ : PanicOK Q] (hi : ops[i]? = some o := by rfl) (hc : takeOKp ops F listed i = true := by kernel_rfl)
    (hw : wantedB ops T o = some true := by kernel_rfl) (hd : defined T o = true := by kernel_rfl)
    (hv : ∀ w, (execOp (rho T) o).run P w = .ok (.value v) w := by intro _; kernel_rfl) (hn : o.dst = some d := by rfl) (hb : Nat.blt d n.n = true := by rfl) : KT n Qf T m (AH rd P ops Q S F (fuel + 1) listed) :=
  KT.takeP i hi hc hQ hw (OY.pv v hd hv hn hb h)
theorem KT.skA {m : M α} (i : Nat) (h : KT n Qf (dstT T undef o.dst) m (AH rd P ops Q S F fuel (listed.setIfInBounds i true))) [hQ : PanicOK Q] (hi : ops[i]? = some o := by rfl) (hc : takeOKp ops F listed i = true := by kernel_rfl)
    (hw : wantedB ops T o = some false := by kernel_rfl) (hd : dstOK n o.dst = true := by rfl) : KT n Qf T m (AH rd P ops Q S F (fuel + 1) listed) := KT.takeSkip i hi hc hQ hw hd h
theorem KT.tk {m : M α} (i : Nat) (h : OY P n S Qf o T m (AH rd P ops Q S F fuel (listed.setIfInBounds i true))) [hQ : PanicOK Q] (hi : ops[i]? = some o := by rfl) (hc : takeOK ops F listed i = true := by kernel_rfl)
    (hw : wantedB ops T o = some true := by kernel_rfl) : KT n Qf T m (AH rd P ops Q S F (fuel + 1) listed) := KT.take i hi hc hQ hw h
theorem KT.tp {m : M α} (i : Nat) (h : OY P n (fun _ => True) Qf o T m (AH rd P ops Q S F fuel (listed.setIfInBounds i true))) [hQ : PanicOK Q] (hi : ops[i]? = some o := by rfl) (hc : takeOKp ops F listed i = true := by kernel_rfl)
    (hw : wantedB ops T o = some true := by kernel_rfl) : KT n Qf T m (AH rd P ops Q S F (fuel + 1) listed) := KT.takeP i hi hc hQ hw h
theorem KT.pvN {m : M α} (i d : Nat) (v : Value) (h : KT n Qf ((d, v) :: T) m (wpF rd P ops Q S F fuel (listed.setIfInBounds i true))) [hQ : PanicOK Q] (hi : ops[i]? = some o := by rfl) (hc : takeOKp ops F listed i = true := by kernel_rfl)
    (hw : wantedB ops T o = some true := by kernel_rfl) (hd : defined T o = true := by kernel_rfl)
    (hv : ∀ w, (execOp (rho T) o).run P w = .ok (.value v) w := by intro _; kernel_rfl) (hn : o.dst = some d := by rfl) (hb : Nat.blt d n.n = true := by rfl) : KT n Qf T m (wpF rd P ops Q S F (fuel + 1) listed) :=
  KT.takePN i hi hc hQ hw (OY.pv v hd hv hn hb h)
theorem KT.skN {m : M α} (i : Nat) (h : KT n Qf (dstT T undef o.dst) m (wpF rd P ops Q S F fuel (listed.setIfInBounds i true))) [hQ : PanicOK Q] (hi : ops[i]? = some o := by rfl) (hc : takeOKp ops F listed i = true := by kernel_rfl)
    (hw : wantedB ops T o = some false := by kernel_rfl) (hd : dstOK n o.dst = true := by rfl) : KT n Qf T m (wpF rd P ops Q S F (fuel + 1) listed) := KT.takeSkipN i hi hc hQ hw hd h
theorem KT.tpN {m : M α} (i : Nat) (h : OY P n (fun _ => True) Qf o T m (wpF rd P ops Q S F fuel (listed.setIfInBounds i true))) [hQ : PanicOK Q] (hi : ops[i]? = some o := by rfl) (hc : takeOKp ops F listed i = true := by kernel_rfl)
    (hw : wantedB ops T o = some true := by kernel_rfl) : KT n Qf T m (wpF rd P ops Q S F (fuel + 1) listed) := KT.takePN i hi hc hQ hw h
end
end
end
end Go.Mo
