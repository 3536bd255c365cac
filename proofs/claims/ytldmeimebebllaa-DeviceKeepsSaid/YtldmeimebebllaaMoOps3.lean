/-
  more operations.
-/
import Derived.Test.YtldmeimebebllaaMoOps2
namespace Go.Mo
set_option linter.unusedSimpArgs false
section
variable {rd : Option Nat} {P : Program} {n : Nd} {Q : Exit → Act → World → Prop} {α β σ : Type} {Qf : α → World → Prop} {ops : Array Oper}
variable {o : Oper} {T : Tm} {K : Act → World → Prop} {S : World → Prop} {d : Nat}

theorem getElem!_arr (a : Array Value) (i : Nat) (h : i < a.size) : a[i]! = a.toList.getD i undef := by
  rw [getElem!_pos a i h]
  simp [List.getD, h]
theorem zs_eq (z : Array Value) (m : Nat) : ((Array.range (m * z.size)).map fun i => z[i % z.size]!) = (zs z.toList m).toArray := by
  apply Array.ext'
  simp only [zs, Array.toList_map, Array.toList_range, Array.length_toList]
  apply List.map_congr_left
  intro i hi
  have h0 : 0 < z.size := by
    rcases Nat.eq_zero_or_pos z.size with h | h
    · rw [h] at hi; simp at hi
    · exact h
  exact getElem!_arr z _ (Nat.mod_lt _ h0)
theorem wrap_i64 {x : Int} (h0 : -9223372036854775808 ≤ x) (h1 : x ≤ 9223372036854775807) : IntKind.i64.wrap x = x := by
  have e : IntKind.i64.wrap x = if x % 18446744073709551616 ≥ 9223372036854775808 then x % 18446744073709551616 - 18446744073709551616 else x % 18446744073709551616 := by
    simp [IntKind.wrap, IntKind.bits, IntKind.signed]
  rw [e]
  split <;> omega
theorem run_under {t : TypeId} {x : TypeDesc} (h : P.underlying t = some x) (w : World) : (underlying t).run P w = .ok x w := by simp [underlying, h]

theorem OW.make {k : Slc → M α} {nn : Int} {kn : IntKind} (z : List Value) (bytes : Nat) (elem : TypeId) (t : TypeId) (xl xc : Operand) (ho : o.op = .makeSlice t xl xc) (hl : ev T xl = some (.int kn nn)) (hc : ev T xc = some (.int kn nn))
    (ht : P.underlying t = some (.slice elem)) (hz : (P.info? elem).map (fun i => (i.zero.map (·.cells.toList), i.size, i.bytes)) = some (some z, z.length, bytes)) (hb0 : Nat.blt 0 bytes = true)
    (hn : o.dst = some d) (hb : Nat.blt d n.n = true) (h : ∀ s, KT n Qf ((d, vS s) :: T) (k s) K) : OW rd P Q n Qf o T (bindM (makeM z bytes nn) k) K := fun a w hA hm => by
  obtain ⟨h0, h1, hm⟩ := hm
  have hm := hm elem
  have hbp : 0 < bytes := by simpa using hb0
  have hle : nn ≤ 2 ^ 48 := by
    have : (1 : Int) * nn ≤ bytes * nn := Int.mul_le_mul_of_nonneg_right (by omega) h0
    omega
  obtain ⟨i, hi, hzz⟩ := Option.map_eq_some_iff.1 hz
  simp only [Prod.mk.injEq] at hzz
  obtain ⟨hz1, hz2, hz3⟩ := hzz
  obtain ⟨zv, hzv, hzc⟩ := Option.map_eq_some_iff.1 hz1
  have : (execOp a.eval o).run P w = .ok (.value (.slice (some ⟨w.heap.size, 0, none⟩) nn.toNat nn.toNat)) (World.allocC w (zs z nn.toNat).toArray elem) := by
    unfold execOp
    rw [ho]
    have hw : IntKind.i64.wrap nn = nn := wrap_i64 (by omega) (by omega)
    have ht1 : (nn < 0 || decide ((bytes : Int) * nn > 2 ^ 48)) = false := by
      simp only [Bool.or_eq_false_iff, decide_eq_false_iff_not]; omega
    have hcells : ((Array.range (nn.toNat * i.size)).map fun j => zv.cells[j % zv.cells.size]!) = (zs z nn.toNat).toArray := by
      have := zs_eq zv.cells nn.toNat
      rw [hzc] at this
      have hsz : zv.cells.size = i.size := by rw [hz2, ← hzc]; simp
      rw [← hsz]; exact this
    have hti : ∀ w', (typeInfo elem).run P w' = .ok i w' := fun w' => by simp [typeInfo, hi]
    simp only [hA.ev hl, hA.ev hc, Instr.makeSlice, run_under ht, Sem.run_bind, Result.andThen_ok, Sem.run_pure, asInt, asIntOf, hti, hz3, hw, sizeOf, ht1, Bool.false_or]
    rw [if_neg (by simp; omega)]
    simp only [Sem.run_pure, Result.andThen_ok, run_askRoom, Sem.run_bind, hti]
    by_cases hn0 : nn.toNat * i.size = 0
    · have hzn : (zs z nn.toNat) = [] := by
        have : nn.toNat * z.length = 0 := by rw [← hz2]; exact hn0
        simp [zs, this]
      have hr0 : Array.range 0 = #[] := rfl
      simp [hn0, newRow, World.allocC, hzn, hr0]
    · have hzr : (zeroValue elem).run P w = .ok zv w := by simp [zeroValue, typeInfo, hi, hzv]
      simp only [hn0, if_false, Sem.run_bind, hzr, Result.andThen_ok, Sem.run_pure, newRow, run_newObj, hcells, World.allocC]
  refine wpIn_value this ?_
  rw [hn]
  exact h _ _ _ (hA.put hb _) hm

theorem run_firstCells {w : World} {base : Option Addr} {l : List Value} {size m cap len : Nat} (hc : cellsAt w base l) (hl : base.isSome = true → l.length = m * size) :
    (Builtin.firstCells size m (.slice base len cap)).run P w = .ok l.toArray w := by
  cases base with
  | none => have : l = [] := hc; subst this; simp [Builtin.firstCells]
  | some a =>
    have := hl rfl
    simp only [Builtin.firstCells]
    rw [← this]
    exact run_loadCells_list w a l hc
theorem builtin_exec {ρ : Operand → Value} {o : Oper} {b : Builtin} {args : Array Operand} {tys : Array TypeId} (ho : o.op = .call ⟨.builtin b, args, tys⟩) (w : World) :
    (execOp ρ o).run P w = (Go.builtin b tys o.type (args.map fun | .const _ => true | _ => false) (args.map ρ)).run P w := by
  unfold execOp
  rw [ho]
  simp [resolve, invoke]
  rfl

theorem OW.append {k : Slc → M α} {s x : Slc} (z : List Value) (bytes : Nat) (elem : TypeId) (t t' : TypeId) (xs xx : Operand) (ho : o.op = .call ⟨.builtin .append, #[xs, xx], #[t, t']⟩) (hs : ev T xs = some (.slice s.base s.len s.cap)) (hx : ev T xx = some (.slice x.base x.len x.cap))
    (hty : t' = t) (ht : P.underlying t = some (.slice elem)) (hz : (P.info? elem).map (fun i => (i.zero.map (·.cells.toList), i.size, i.bytes)) = some (some z, z.length, bytes)) (hb0 : Nat.blt 0 bytes = true)
    (hn : o.dst = some d) (hb : Nat.blt d n.n = true) (h : ∀ s, KT n Qf ((d, vS s) :: T) (k s) K) : OW rd P Q n Qf o T (bindM (appendM z bytes s x) k) K := fun a w hA hm => by
  obtain ⟨new, hnew, hnl, hm⟩ := hm
  subst hty
  have hbp : 0 < bytes := by simpa using hb0
  obtain ⟨i, hi, hzz⟩ := Option.map_eq_some_iff.1 hz
  simp only [Prod.mk.injEq] at hzz
  obtain ⟨hz1, hz2, hz3⟩ := hzz
  obtain ⟨zv, hzv, hzc⟩ := Option.map_eq_some_iff.1 hz1
  have hsz : zv.cells.size = z.length := by rw [← hzc]; simp
  have hnew' : ∀ w' : World, w'.heap = w.heap → (Builtin.firstCells z.length x.len (.slice x.base x.len x.cap)).run P w' = .ok new.toArray w' := fun w' hw' => by
    refine run_firstCells ?_ hnl
    unfold cellsAt at hnew ⊢
    cases hb : x.base with
    | none => rw [hb] at hnew; exact hnew
    | some b => rw [hb] at hnew; intro j v hj; have := hnew j v hj; simpa [World.cell?, hw'] using this
  have hrun : ∀ (R : Result Next → Prop), (R ((Go.builtin .append #[t', t'] o.type (#[xs, xx].map fun | .const _ => true | _ => false) #[.slice s.base s.len s.cap, .slice x.base x.len x.cap]).run P w)) → R ((execOp a.eval o).run P w) := fun R hR => by
    rw [builtin_exec ho]
    simpa [hA.ev hs, hA.ev hx] using hR
  refine wpIn_run (fun c e => by rw [ho] at e; cases e) ?_
  refine hrun _ ?_
  have hsize : (P.info? elem).map (·.size) = some z.length := by rw [hi]; simp [hz2]
  simp only [Go.builtin, Builtin.append_, Sem.run_bind, List.getElem?_toArray, List.getElem?_cons_zero, List.getElem?_cons_succ, run_under ht, Sem.run_pure, Result.andThen_ok, run_sizeOf hsize, Builtin.lenOf,
    Bool.false_eq_true, if_false]
  by_cases hle : s.len + x.len ≤ s.cap
  · rw [if_pos hle] at hm
    rw [if_pos hle]
    simp only [Bool.not_false, if_true, Sem.run_bind, hnew' w rfl, Result.andThen_ok]
    cases hbase : s.base with
    | none =>
      rw [hbase] at hm
      simp only [Sem.run_pure, Result.andThen_ok, Oper.uponIn_value]
      rw [hn]
      exact h ⟨none, s.len + x.len, s.cap⟩ _ _ (hA.put hb _) hm
    | some b =>
      rw [hbase] at hm
      obtain ⟨hst, hm⟩ := hm
      simp only [Sem.run_bind, run_storeCells_row _ new 0 w hst, Result.andThen_ok, Sem.run_pure, Oper.uponIn_value]
      rw [hn]
      exact h ⟨some b, s.len + x.len, s.cap⟩ _ _ (hA.put hb _) hm
  · rw [if_neg hle] at hm
    rw [if_neg hle]
    obtain ⟨hcap, old, hold, hol, hm⟩ := hm
    have hold' : ∀ w' : World, w'.heap = w.heap → (Builtin.firstCells z.length s.len (.slice s.base s.len s.cap)).run P w' = .ok old.toArray w' := fun w' hw' => by
      refine run_firstCells ?_ hol
      unfold cellsAt at hold ⊢
      cases hb : s.base with
      | none => rw [hb] at hold; exact hold
      | some b => rw [hb] at hold; intro j v hj; have := hold j v hj; simpa [World.cell?, hw'] using this
    have hti : ∀ w', (typeInfo elem).run P w' = .ok i w' := fun w' => by simp [typeInfo, hi]
    have hzr : ∀ w', (zeroValue elem).run P w' = .ok zv w' := fun w' => by simp [zeroValue, typeInfo, hi, hzv]
    simp only [Sem.run_bind, hti, Result.andThen_ok, hz3, Sem.run_ite, Sem.run_pure]
    rw [if_neg (by simp; omega)]
    rw [if_neg (by omega)]
    simp only [Result.andThen_ok, Sem.run_pure, run_choose, Question.forced, Bool.false_eq_true, if_false, Question.cut, run_askRoom, hold' (drawW w) rfl, hnew' (drawW w) rfl, Bool.not_false, if_true]
    have hd : ({ w with drawn := w.drawn + 1 } : World) = drawW w := rfl
    simp only [hd, hold' (drawW w) rfl, Result.andThen_ok, hnew' (drawW w) rfl, hzr]
    have hzz : ∀ m, Builtin.zeroCells zv.cells m = (zs z m).toArray := fun m => by
      have := zs_eq zv.cells m
      rw [hzc] at this
      exact this
    simp only [newRow, Sem.run_bind, run_newObj, Result.andThen_ok, Sem.run_pure, Oper.uponIn_value, hzz]
    rw [hn]
    generalize hnc : s.len + x.len + w.tape w.drawn (Question.appendCap (s.len + x.len) s.cap elem) % (2 ^ 63 - (s.len + x.len)) = nc
    have := hm nc elem (by omega)
    have hh := h ⟨some ⟨w.heap.size, 0, none⟩, s.len + x.len, nc⟩ _ _ (hA.put hb _) this
    simpa [World.allocC, drawW, vS] using hh
theorem OW.copy {k : Int → M α} {s x : Slc} (size : Nat) (elem : TypeId) (t t' : TypeId) (xs xx : Operand) (ho : o.op = .call ⟨.builtin .copy, #[xs, xx], #[t, t']⟩) (hs : ev T xs = some (.slice s.base s.len s.cap)) (hx : ev T xx = some (.slice x.base x.len x.cap))
    (hty : t' = t) (ht : P.underlying t = some (.slice elem)) (hz : (P.info? elem).map (·.size) = some size)
    (hn : o.dst = some d) (hb : Nat.blt d n.n = true) (h : ∀ y, KT n Qf ((d, .int .i64 y) :: T) (k y) K) : OW rd P Q n Qf o T (bindM (copyM size s x) k) K := fun a w hA hm => by
  obtain ⟨new, hnew, hnl, hm⟩ := hm
  subst hty
  have hrun : ∀ (R : Result Next → Prop), (R ((Go.builtin .copy #[t', t'] o.type (#[xs, xx].map fun | .const _ => true | _ => false) #[.slice s.base s.len s.cap, .slice x.base x.len x.cap]).run P w)) → R ((execOp a.eval o).run P w) := fun R hR => by
    rw [builtin_exec ho]
    simpa [hA.ev hs, hA.ev hx] using hR
  refine wpIn_run (fun c e => by rw [ho] at e; cases e) ?_
  refine hrun _ ?_
  simp only [Go.builtin, Builtin.copy_, Sem.run_bind, List.getElem?_toArray, List.getElem?_cons_zero, List.getElem?_cons_succ, run_under ht, Sem.run_pure, Result.andThen_ok, run_sizeOf hz, Builtin.lenOf, run_firstCells hnew hnl]
  cases hbase : s.base with
  | none =>
    rw [hbase] at hm
    simp only [Sem.run_pure, Result.andThen_ok, Oper.uponIn_value]
    rw [hn]
    exact h _ _ _ (hA.put hb _) hm
  | some b =>
    rw [hbase] at hm
    obtain ⟨hst, hm⟩ := hm
    simp only [Sem.run_bind, run_storeCells_row _ new 0 w hst, Result.andThen_ok, Sem.run_pure, Oper.uponIn_value]
    rw [hn]
    exact h _ _ _ (hA.put hb _) hm
theorem OW.copy0 {k : Int → M α} {s x : Slc} (size : Nat) (elem : TypeId) (t t' : TypeId) (xs xx : Operand) (ho : o.op = .call ⟨.builtin .copy, #[xs, xx], #[t, t']⟩) (hs : ev T xs = some (.slice s.base s.len s.cap)) (hx : ev T xx = some (.slice x.base x.len x.cap))
    (hty : t' = t) (ht : P.underlying t = some (.slice elem)) (hz : (P.info? elem).map (·.size) = some size)
    (hn : o.dst = none) (h : ∀ y, KT n Qf T (k y) K) : OW rd P Q n Qf o T (bindM (copyM size s x) k) K := fun a w hA hm => by
  obtain ⟨new, hnew, hnl, hm⟩ := hm
  subst hty
  have hrun : ∀ (R : Result Next → Prop), (R ((Go.builtin .copy #[t', t'] o.type (#[xs, xx].map fun | .const _ => true | _ => false) #[.slice s.base s.len s.cap, .slice x.base x.len x.cap]).run P w)) → R ((execOp a.eval o).run P w) := fun R hR => by
    rw [builtin_exec ho]
    simpa [hA.ev hs, hA.ev hx] using hR
  refine wpIn_run (fun c e => by rw [ho] at e; cases e) ?_
  refine hrun _ ?_
  simp only [Go.builtin, Builtin.copy_, Sem.run_bind, List.getElem?_toArray, List.getElem?_cons_zero, List.getElem?_cons_succ, run_under ht, Sem.run_pure, Result.andThen_ok, run_sizeOf hz, Builtin.lenOf, run_firstCells hnew hnl]
  cases hbase : s.base with
  | none =>
    rw [hbase] at hm
    simp only [Sem.run_pure, Result.andThen_ok, Oper.uponIn_value]
    rw [hn]
    exact h _ _ _ hA hm
  | some b =>
    rw [hbase] at hm
    obtain ⟨hst, hm⟩ := hm
    simp only [Sem.run_bind, run_storeCells_row _ new 0 w hst, Result.andThen_ok, Sem.run_pure, Oper.uponIn_value]
    rw [hn]
    exact h _ _ _ hA hm
end
end Go.Mo
