/-
  strings.
-/
import Derived.Test.YtldmeimebebllaaMoOps4
import Derived.Laws.BytesString
import Derived.Laws.StructEq
namespace Go.Mo
set_option linter.unusedVariables false
section
variable {rd : Option Nat} {P : Program} {n : Nd} {Q : Exit → Act → World → Prop} {α β : Type} {Qf : α → World → Prop} {ops : Array Oper} {T : Tm} {o : Oper} {K : Act → World → Prop} {S : World → Prop} {d : Nat}
/-! ## bytes as a string; strings against each other -/
def strB (ns : List Int) : ByteArray := ns.foldl (fun r n => r.push (UInt8.ofNat n.toNat)) ByteArray.empty
def bstrM (s : Slc) : M ByteArray := fun Q w => ∃ ns : List Int, cellsAt w s.base (ns.map (Value.int .u8)) ∧ (s.base.isSome = true → ns.length = s.len) ∧ Q (strB ns) w
theorem OW.bstr {k : ByteArray → M α} {s : Slc} (src dst e : TypeId) (x : Operand) (ho : o.op = .convert src dst x) (hx : ev T x = some (.slice s.base s.len s.cap)) (hs : P.underlying src = some (.slice e)) (he : P.underlying e = some (.int .u8)) (hd : P.underlying dst = some .string)
    (hn : o.dst = some d) (hb : Nat.blt d n.n = true) (h : ∀ y, KT n Qf ((d, .string y) :: T) (k y) K) : OW rd P Q n Qf o T (bindM (bstrM s) k) K := fun a w hA hm => by
  obtain ⟨ns, hc, hl, hm⟩ := hm
  have : (execOp a.eval o).run P w = .ok (.value (.string (strB ns))) w := by
    unfold execOp
    rw [ho]
    simp only [hA.ev hx, Sem.run_bind, run_convert_bytes_string w src dst e s.base s.len s.cap hs he hd]
    obtain ⟨base, len, cap⟩ := s
    cases base with
    | none =>
      have : ns = [] := by simpa [cellsAt] using hc
      subst this
      simp [Conv.bytesToString, strB]
    | some ad =>
      have hl' := hl rfl
      simp only at hl' hc ⊢
      subst hl'
      have := run_loadCells_list (P := P) w ad (ns.map (Value.int .u8)) (fun j v hj => hc j v hj)
      rw [List.length_map] at this
      rw [run_bytesToString w ad _ cap ns this]
      simp [strB]
  refine wpIn_value this ?_
  rw [hn]
  exact h _ _ _ (hA.put hb _) hm
def strEq (x y : ByteArray) : Bool := x.toList == y.toList
theorem OY.eqlStr {m : M α} {x y : ByteArray} (t : TypeId) (xo yo : Operand) (t2 : TypeId) (ho : o.op = .binOp .eql t xo yo t2) (hx : ev T xo = some (.string x)) (hy : ev T yo = some (.string y)) (ht : P.underlying t = some .string)
    (hn : o.dst = some d) (hb : Nat.blt d n.n = true) (h : KT n Qf ((d, .bool (strEq x y)) :: T) m K) : OY P n S Qf o T m K := OY.run _ (fun a w hA => by
  unfold execOp
  rw [ho]
  simp [hA.ev hx, hA.ev hy, eqGuard, binOp, Op.stringOp, strEq]) hn hb h
end
end Go.Mo
