/-
  operations on maps.
-/
import Derived.Test.YtldmeimebebllaaMoOps3
import Derived.Laws.StructEq
namespace Go.Mo
set_option linter.unusedSimpArgs false
set_option linter.unusedVariables false

/-! ## maps with int keys -/
def intKeys (es : List MapEntry) : Prop := ∀ e ∈ es, ∃ n, e.key = .int .i64 n
def keyIs (k : Int) (e : MapEntry) : Bool := match e.key with | .int _ n => k == n | _ => false
def mfind (es : List MapEntry) (k : Int) : Option Value := (es.find? (keyIs k)).map (·.val)
def mapPut (es : Array MapEntry) (clock : Nat) (k : Int) (v : Value) : Obj := match es.toList.findIdx? (keyIs k) with
  | some i => .map (es.modify i fun e => { e with key := .int .i64 k, val := v }) clock
  | none => .map (es.push { key := .int .i64 k, val := v, born := clock }) (clock + 1)
def World.pushO (w : World) (o : Obj) : World := { w with heap := w.heap.push o }
def newO (o : Obj) : M Nat := fun Q w => Q w.heap.size (World.pushO w o)
def lookM {β : Type} (enc : β → Value) (z : β) (m : Option Nat) (k : Int) : M (β × Bool) := fun Q w => match m with
  | none => Q (z, false) w
  | some r => ∃ es clock, w.heap[r]? = some (.map es clock) ∧ intKeys es.toList ∧ ((∃ y, mfind es.toList k = some (enc y) ∧ Q (y, true) w) ∨ (mfind es.toList k = none ∧ Q (z, false) w))
def updM (m : Option Nat) (k : Int) (v : Value) : M Unit := fun Q w => ∃ r es clock, m = some r ∧ w.heap[r]? = some (.map es clock) ∧ intKeys es.toList ∧ Q () (w.putObj r (mapPut es clock k v))
def clearM (m : Option Nat) : M Unit := fun Q w => match m with
  | none => Q () w
  | some r => ∃ es clock, w.heap[r]? = some (.map es clock) ∧ Q () (w.putObj r (.map #[] clock))
def rangeMapM (m : Option Nat) : M Addr := fun Q w => match m with
  | none => Q ⟨w.heap.size, 0, none⟩ (World.pushO w (.mapIter none 0 #[] 0))
  | some r => ∃ es clock, w.heap[r]? = some (.map es clock) ∧ Q ⟨w.heap.size, 0, none⟩ (World.pushO w (.mapIter (some r) clock #[] clock))
def iterLeft (es : Array MapEntry) (seen : Array Nat) : Array MapEntry := es.filter fun e => !seen.contains e.born
def iterCands (es : Array MapEntry) (since : Nat) (seen : Array Nat) : Array (Option MapEntry) :=
  let left := iterLeft es seen
  let old := left.filter (·.born < since)
  let new := left.filter (·.born ≥ since)
  (if old.isEmpty then #[none] else #[]) ++ (old ++ new).map some
def nextPost (Q : Option (Value × Value) → World → Prop) (it m since : Nat) (seen : Array Nat) (clock : Nat) (w : World) : Option MapEntry → Prop
  | none => Q none w
  | some e => Q (some (e.key, e.val)) (w.putObj it (.mapIter (some m) since (seen.push e.born) clock))
def nextM (a : Addr) : M (Option (Value × Value)) := fun Q w => a.off = 0 ∧
  ((∃ since seen last, w.heap[a.block]? = some (.mapIter none since seen last) ∧ Q none w) ∨
   ∃ m since seen last es clock, w.heap[a.block]? = some (.mapIter (some m) since seen last) ∧ w.heap[m]? = some (.map es clock) ∧ (!seen.isEmpty && !es.isEmpty && es.all (·.born ≥ last)) = false ∧
     (iterCands es since seen).size ≠ 0 ∧ ∀ c ∈ iterCands es since seen, nextPost Q a.block m since seen clock w c ∧ nextPost Q a.block m since seen clock (drawW w) c)
def nextV : Option (Value × Value) → Value
  | none => .tuple #[.bool false]
  | some (k, v) => .tuple #[.bool true, k, v]
def entryM {κ β : Type} (ek : κ → Value) (ev : β → Value) (a : Addr) : M (κ × β) := fun Q w => a.off = 0 ∧
  ∃ m since seen last es clock stamp e k v, w.heap[a.block]? = some (.mapIter (some m) since seen last) ∧ seen.back? = some stamp ∧ w.heap[m]? = some (.map es clock) ∧ clock = last ∧ es.find? (·.born == stamp) = some e ∧
    e.key = ek k ∧ e.val = ev v ∧ Q (k, v) w
def lenMapM (m : Option Nat) : M Int := fun Q w => match m with
  | none => Q 0 w
  | some r => ∃ es clock, w.heap[r]? = some (.map es clock) ∧ Q es.size w

section
variable {rd : Option Nat} {P : Program} {n : Nd} {Q : Exit → Act → World → Prop} {α β σ : Type} {Qf : α → World → Prop} {ops : Array Oper}
variable {o : Oper} {T : Tm} {K : Act → World → Prop} {S : World → Prop} {d : Nat}

theorem findNow_int {t : TypeDesc} {ki : IntKind} (ht : t = .int ki) (k : Int) : ∀ (es : List MapEntry) (i : Nat), intKeys es →
    Instr.findNow t (.int .i64 k) es i = some (match es.findIdx? (keyIs k) with | some j => (es[j]?).map fun e => (i + j, e.val) | none => none) := by
  subst ht
  intro es
  induction es with
  | nil => intro i _; rfl
  | cons e es ih =>
    intro i h
    obtain ⟨m, hm⟩ := h e (by simp)
    have ih' := ih (i + 1) (fun e he => h e (by simp [he]))
    simp only [Instr.findNow, hm, Instr.sameNow, if_true, List.findIdx?_cons, keyIs]
    by_cases hk : k = m
    · subst hk; simp
    · have : (k == m) = false := by simpa using hk
      simp only [this, Bool.false_eq_true, if_false]
      rw [ih']
      congr 1
      cases hf : List.findIdx? (keyIs k) es with
      | none => simp
      | some j => simp [Nat.add_assoc, Nat.add_comm 1 j]
theorem mfind_idx (k : Int) (es : List MapEntry) : mfind es k = (match es.findIdx? (keyIs k) with | some j => (es[j]?).map (·.val) | none => none) := by
  unfold mfind
  induction es with
  | nil => rfl
  | cons e es ih =>
    simp only [List.find?_cons, List.findIdx?_cons]
    cases keyIs k e with
    | true => simp
    | false =>
      rw [ih]
      cases hf : List.findIdx? (keyIs k) es <;> simp [hf]
theorem run_checkKey_int {t : TypeId} {ki : IntKind} (ht : P.underlying t = some (.int ki)) (e : Bool) (k : Int) (w : World) : (Instr.checkKey e 10000 t (.int .i64 k)).run P w = .ok () w := by
  have : ∀ m : Nat, (Instr.checkKey e (m + 1) t (.int .i64 k)).run P w = .ok () w := fun m => by simp [Instr.checkKey, run_under ht]
  exact this 9999
theorem run_findKey_int {t : TypeId} {ki : IntKind} (ht : P.underlying t = some (.int ki)) (k : Int) (es : List MapEntry) (h : intKeys es) (w : World) :
    (Instr.findKey t (.int .i64 k) es).run P w = .ok (match es.findIdx? (keyIs k) with | some j => (es[j]?).map fun e => (j, e.val) | none => none) w := by
  simp only [Instr.findKey, Sem.run_bind, run_under ht, Result.andThen_ok, findNow_int rfl k es 0 h, Sem.run_pure]
  cases List.findIdx? (keyIs k) es <;> first | rfl | simp
theorem run_getObj {r : Nat} {ob : Obj} {w : World} (h : w.heap[r]? = some ob) (hc : ∀ c e f, ob ≠ .cells c e f) : (getObj r).run P w = .ok ob w := by
  unfold getObj
  rw [Sem.run, h]
  cases ob <;> first | rfl | exact absurd rfl (hc _ _ _)
theorem run_setObj {r : Nat} {ob ob' : Obj} {w : World} (h : w.heap[r]? = some ob) (hc : ∀ c e f, ob ≠ .cells c e f) : (setObj r ob').run P w = .ok () (w.putObj r ob') := by
  unfold setObj
  rw [Sem.run, h]
  cases ob <;> first | rfl | exact absurd rfl (hc _ _ _)

theorem OW.newO {k : Nat → M α} (ob : Obj) (vf : Nat → Value) (hd : defined T o = true) (he : ∀ w, (execOp (rho T) o).run P w = .ok (.value (vf w.heap.size)) (World.pushO w ob)) (hn : o.dst = some d) (hb : Nat.blt d n.n = true)
    (h : ∀ r, KT n Qf ((d, vf r) :: T) (k r) K) : OW rd P Q n Qf o T (bindM (Mo.newO ob) k) K := fun a w hA hm => by
  refine wpIn_value (by rw [exec_rho hA hd]; exact he w) ?_
  rw [hn]
  exact h _ _ _ (hA.put hb _) hm
theorem run_lookM {t : TypeId} {kt et : TypeId} {ki : IntKind} {enc : β → Value} {z : β} {m : Option Nat} {k : Int} (ok : Bool) (ht : P.underlying t = some (.map kt et)) (hk : P.underlying kt = some (.int ki))
    (hz : (P.info? et).bind (·.zero) = some (enc z)) {w : World} {Q' : β × Bool → World → Prop} (hm : lookM enc z m k Q' w) :
    ∃ y, Q' y w ∧ (Instr.lookup t (.map m) (.int .i64 k) ok).run P w = .ok (if ok then .tuple #[enc y.1, .bool y.2] else enc y.1) w := by
  obtain ⟨i, hi, hz⟩ := Option.bind_eq_some_iff.1 hz
  have hzr : (zeroValue et).run P w = .ok (enc z) w := by simp [zeroValue, typeInfo, hi, hz]
  cases m with
  | none =>
    refine ⟨(z, false), hm, ?_⟩
    simp only [Instr.lookup, Sem.run_bind, run_under ht, Result.andThen_ok, Sem.run_pure, run_checkKey_int hk, run_findKey_int hk k [] (fun e he => by cases he), List.findIdx?_nil, hzr]
  | some r =>
    obtain ⟨es, clock, hr, hik, hq⟩ := hm
    have hg := run_getObj (P := P) hr (by intros; simp)
    have hmf := mfind_idx k es.toList
    rcases hq with ⟨y, hy, hq⟩ | ⟨hno, hq⟩
    · refine ⟨(y, true), hq, ?_⟩
      simp only [Instr.lookup, Sem.run_bind, run_under ht, Result.andThen_ok, Sem.run_pure, hg, run_checkKey_int hk, run_findKey_int hk k es.toList hik]
      rw [hy] at hmf
      cases hf : List.findIdx? (keyIs k) es.toList with
      | none => rw [hf] at hmf; cases hmf
      | some j =>
        rw [hf] at hmf
        simp only at hmf ⊢
        cases he : es.toList[j]? with
        | none => rw [he] at hmf; cases hmf
        | some e =>
          rw [he] at hmf
          simp only [Option.map_some, Option.some.injEq] at hmf
          simp only [Option.map_some, Result.andThen_ok, Sem.run_pure, ← hmf]
          cases ok <;> simp
    · refine ⟨(z, false), hq, ?_⟩
      simp only [Instr.lookup, Sem.run_bind, run_under ht, Result.andThen_ok, Sem.run_pure, hg, run_checkKey_int hk, run_findKey_int hk k es.toList hik]
      rw [hno] at hmf
      cases hf : List.findIdx? (keyIs k) es.toList with
      | none =>
        simp only [Result.andThen_ok, Sem.run_pure, Sem.run_bind, hzr]
      | some j =>
        rw [hf] at hmf
        simp only at hmf ⊢
        cases he : es.toList[j]? with
        | none =>
          simp only [Option.map_none, Sem.run_bind, hzr, Result.andThen_ok, Sem.run_pure]
        | some e => rw [he] at hmf; cases hmf
theorem OW.look {k : β × Bool → M α} {enc : β → Value} {m : Option Nat} {key : Int} (z : β) (kt et : TypeId) (ki : IntKind) (t : TypeId) (x ix : Operand) (ho : o.op = .lookup t x ix false) (hx : ev T x = some (.map m)) (hi : ev T ix = some (.int .i64 key))
    (ht : P.underlying t = some (.map kt et)) (hk : P.underlying kt = some (.int ki)) (hz : (P.info? et).bind (·.zero) = some (enc z)) (hn : o.dst = some d) (hb : Nat.blt d n.n = true)
    (h : ∀ y, KT n Qf ((d, enc y.1) :: T) (k y) K) : OW rd P Q n Qf o T (bindM (lookM enc z m key) k) K := fun a w hA hm => by
  obtain ⟨y, hq, hr⟩ := run_lookM (P := P) false ht hk hz hm
  refine wpIn_value (w' := w) (v := enc y.1) ?_ ?_
  · unfold execOp
    rw [ho]
    simp [hA.ev hx, hA.ev hi, hr]
  · rw [hn]; exact h y _ w (hA.put hb _) hq
theorem OW.lookOk {k : β × Bool → M α} {enc : β → Value} {m : Option Nat} {key : Int} (z : β) (kt et : TypeId) (ki : IntKind) (t : TypeId) (x ix : Operand) (ho : o.op = .lookup t x ix true) (hx : ev T x = some (.map m)) (hi : ev T ix = some (.int .i64 key))
    (ht : P.underlying t = some (.map kt et)) (hk : P.underlying kt = some (.int ki)) (hz : (P.info? et).bind (·.zero) = some (enc z)) (hn : o.dst = some d) (hb : Nat.blt d n.n = true)
    (h : ∀ y, KT n Qf ((d, .tuple #[enc y.1, .bool y.2]) :: T) (k y) K) : OW rd P Q n Qf o T (bindM (lookM enc z m key) k) K := fun a w hA hm => by
  obtain ⟨y, hq, hr⟩ := run_lookM (P := P) true ht hk hz hm
  refine wpIn_value (w' := w) (v := .tuple #[enc y.1, .bool y.2]) ?_ ?_
  · unfold execOp
    rw [ho]
    simp [hA.ev hx, hA.ev hi, hr]
  · rw [hn]; exact h y _ w (hA.put hb _) hq
theorem OW.upd {k : Unit → M α} {m : Option Nat} {key : Int} {v : Value} (kt et : TypeId) (ki : IntKind) (t : TypeId) (x ix y : Operand) (ho : o.op = .mapUpdate t x ix y) (hx : ev T x = some (.map m)) (hi : ev T ix = some (.int .i64 key)) (hy : ev T y = some v)
    (ht : P.underlying t = some (.map kt et)) (hk : P.underlying kt = some (.int ki)) (hn : o.dst = none) (h : KT n Qf T (k ()) K) : OW rd P Q n Qf o T (bindM (updM m key v) k) K := fun a w hA hm => by
  obtain ⟨r, es, clock, rfl, hr, hik, hq⟩ := hm
  have hg := run_getObj (P := P) hr (by intros; simp)
  have hs : ∀ ob', (setObj r ob').run P w = .ok () (w.putObj r ob') := fun ob' => run_setObj hr (by intros; simp)
  have : (execOp a.eval o).run P w = .ok .skip (w.putObj r (mapPut es clock key v)) := by
    unfold execOp
    rw [ho]
    simp only [hA.ev hx, hA.ev hi, hA.ev hy, Instr.mapUpdate, Sem.run_bind, run_under ht, Result.andThen_ok, hg, run_checkKey_int hk, run_findKey_int hk key es.toList hik]
    unfold mapPut
    cases hf : List.findIdx? (keyIs key) es.toList with
    | none => simp [hs]
    | some j =>
      obtain ⟨hlt, hkey, _⟩ := List.findIdx?_eq_some_iff_getElem.1 hf
      have hlt' : j < es.size := by simpa using hlt
      have he : es.toList[j]? = some es[j] := by rw [List.getElem?_eq_getElem hlt]; simp
      obtain ⟨m, hm⟩ := hik es[j] (by simp)
      have hkm : key = m := by simpa [keyIs, hm] using hkey
      subst hkm
      have hks : (Instr.keyThatStays (((es[j]?).map (·.key)).getD (.int .i64 key)) (.int .i64 key)).run P w = .ok (.int .i64 key) w := by
        simp [Instr.keyThatStays, hlt', hm, Instr.sameBits]
      simp only [he, Option.map_some, Sem.run_bind, hks, Result.andThen_ok, hs, Sem.run_pure]
  refine wpIn_run (fun c e => by rw [ho] at e; cases e) ?_
  rw [this, Oper.uponIn_skip, hn]
  exact h _ _ hA hq
theorem OW.clearMap0 {k : Unit → M α} {m : Option Nat} (t : TypeId) (x : Operand) (kt et : TypeId) (ho : o.op = .call ⟨.builtin .clear, #[x], #[t]⟩) (hx : ev T x = some (.map m)) (ht : P.underlying t = some (.map kt et))
    (hn : o.dst = none) (h : KT n Qf T (k ()) K) : OW rd P Q n Qf o T (bindM (clearM m) k) K := fun a w hA hm => by
  have key : ∃ w', (execOp a.eval o).run P w = .ok (.value (.tuple #[])) w' ∧ k () Qf w' := by
    rw [builtin_exec ho]
    cases m with
    | none =>
      refine ⟨w, ?_, hm⟩
      simp [Go.builtin, Builtin.clear_, hA.ev hx, run_under ht]
    | some r =>
      obtain ⟨es, clock, hr, hq⟩ := hm
      have hg := run_getObj (P := P) hr (by intros; simp)
      have hs : ∀ ob', (setObj r ob').run P w = .ok () (w.putObj r ob') := fun ob' => run_setObj hr (by intros; simp)
      refine ⟨_, ?_, hq⟩
      simp [Go.builtin, Builtin.clear_, hA.ev hx, run_under ht, hg, hs]
  obtain ⟨w', h1, h2⟩ := key
  refine wpIn_value h1 ?_
  rw [hn]
  exact h _ _ hA h2
theorem OW.rangeMap {k : Addr → M α} {m : Option Nat} (t : TypeId) (x : Operand) (kt et : TypeId) (ho : o.op = .range t x) (hx : ev T x = some (.map m)) (ht : P.underlying t = some (.map kt et))
    (hn : o.dst = some d) (hb : Nat.blt d n.n = true) (h : ∀ ad, KT n Qf ((d, .pointer (some ad)) :: T) (k ad) K) : OW rd P Q n Qf o T (bindM (rangeMapM m) k) K := fun a w hA hm => by
  have key : ∃ w', (execOp a.eval o).run P w = .ok (.value (.pointer (some ⟨w.heap.size, 0, none⟩))) w' ∧ k ⟨w.heap.size, 0, none⟩ Qf w' := by
    unfold execOp
    rw [ho]
    cases m with
    | none =>
      refine ⟨_, ?_, hm⟩
      simp [Instr.range, hA.ev hx, run_under ht, World.pushO]
    | some r =>
      obtain ⟨es, clock, hr, hq⟩ := hm
      have hg := run_getObj (P := P) hr (by intros; simp)
      refine ⟨_, ?_, hq⟩
      simp [Instr.range, hA.ev hx, run_under ht, hg, World.pushO]
  obtain ⟨w', h1, h2⟩ := key
  refine wpIn_value h1 ?_
  rw [hn]
  exact h _ _ _ (hA.put hb _) h2
theorem OW.next {k : Option (Value × Value) → M α} {ad : Addr} (x : Operand) (ho : o.op = .next x false) (hx : ev T x = some (.pointer (some ad)))
    (hn : o.dst = some d) (hb : Nat.blt d n.n = true) (h : ∀ y, KT n Qf ((d, nextV y) :: T) (k y) K) : OW rd P Q n Qf o T (bindM (nextM ad) k) K := fun a w hA hm => by
  obtain ⟨h0, hm⟩ := hm
  have key : ∃ y w', (execOp a.eval o).run P w = .ok (.value (nextV y)) w' ∧ k y Qf w' := by
    unfold execOp
    rw [ho]
    obtain ⟨bl, off, spot⟩ := ad
    simp only at h0 hm
    subst h0
    rcases hm with ⟨since, seen, last, hit, hq⟩ | ⟨m, since, seen, last, es, clock, hit, hmm, hno, hne, hall⟩
    · refine ⟨none, w, ?_, hq⟩
      have hg := run_getObj (P := P) hit (by intros; simp)
      simp [Instr.next, hA.ev hx, hg, nextV]
    · have hg := run_getObj (P := P) hit (by intros; simp)
      have hg2 := run_getObj (P := P) hmm (by intros; simp)
      have hrun : ∃ c w', (choose (.mapNext (iterCands es since seen).size)).run P w = .ok c w' ∧ c < (iterCands es since seen).size ∧ (w' = w ∨ w' = drawW w) := by
        rw [run_choose]
        by_cases hf : (Question.mapNext (iterCands es since seen).size).forced = true
        · rw [if_pos hf]; exact ⟨0, w, rfl, by omega, .inl rfl⟩
        · rw [if_neg hf]; exact ⟨_, _, rfl, Nat.mod_lt _ (by omega), .inr rfl⟩
      obtain ⟨c, w', hc, hlt, hw'⟩ := hrun
      have hcand : (iterCands es since seen)[c]? = some (iterCands es since seen)[c] := Array.getElem?_eq_getElem hlt
      have hpost : nextPost (fun y w => k y Qf w) bl m since seen clock w' (iterCands es since seen)[c] := by
        have := hall _ (Array.getElem_mem hlt)
        rcases hw' with rfl | rfl
        · exact this.1
        · exact this.2
      have hit' : w'.heap[bl]? = some (.mapIter (some m) since seen last) := by rcases hw' with rfl | rfl <;> exact hit
      have hs : ∀ ob', (setObj bl ob').run P w' = .ok () (w'.putObj bl ob') := fun ob' => run_setObj hit' (by intros; simp)
      have e1 : (Instr.next (.pointer (some ⟨bl, 0, spot⟩)) false o.type).run P w = ((match (iterCands es since seen)[c]? with
          | some (some e) => do setObj bl (.mapIter (some m) since (seen.push e.born) clock); pure (.tuple #[.bool true, e.key, e.val])
          | some none => pure (.tuple #[.bool false])
          | none => stuck "Next: no such candidate" : Sem Value)).run P w' := by
        simp only [Instr.next, Sem.run_bind, hg, Result.andThen_ok, hg2]
        rw [if_neg (by rw [hno]; simp)]
        rw [Sem.run_bind]
        show ((choose (.mapNext (iterCands es since seen).size)).run P w).andThen _ = _
        rw [hc]
        rfl
      simp only [hA.ev hx, Sem.run_bind, e1, hcand]
      cases hce : (iterCands es since seen)[c] with
      | none =>
        rw [hce] at hpost
        exact ⟨none, w', by simp [nextV], hpost⟩
      | some e =>
        rw [hce] at hpost
        exact ⟨some (e.key, e.val), _, by simp [hs, nextV], hpost⟩
  obtain ⟨y, w', h1, h2⟩ := key
  refine wpIn_value h1 ?_
  rw [hn]
  exact h _ _ _ (hA.put hb _) h2
theorem OW.entry {κ : Type} {ek : κ → Value} {evv : β → Value} {k : κ × β → M α} {ad : Addr} (x : Operand) (ho : o.op = .entry x) (hx : ev T x = some (.pointer (some ad)))
    (hn : o.dst = some d) (hb : Nat.blt d n.n = true) (h : ∀ y, KT n Qf ((d, .tuple #[ek y.1, evv y.2]) :: T) (k y) K) : OW rd P Q n Qf o T (bindM (entryM ek evv ad) k) K := fun a w hA hm => by
  obtain ⟨h0, m, since, seen, last, es, clock, stamp, e, kk, v, hit, hst, hmm, hcl, he, hek, hev, hq⟩ := hm
  obtain ⟨bl, off, spot⟩ := ad
  simp only at h0 hit
  subst h0 hcl
  have hg := run_getObj (P := P) hit (by intros; simp)
  have hg2 := run_getObj (P := P) hmm (by intros; simp)
  refine wpIn_value (w' := w) (v := .tuple #[ek kk, evv v]) ?_ ?_
  · unfold execOp
    rw [ho]
    simp [Instr.entry, hA.ev hx, hg, hg2, hst, he, hek, hev]
  · rw [hn]
    exact h (kk, v) _ _ (hA.put hb _) hq
theorem KT.opt {m : M α} {m' : Value × Value → M α} {y : Option (Value × Value)} (t : Nat) (ht : lk T t = some (nextV y)) (h : KT n Qf ((t, .tuple #[.bool false]) :: T) m K) (h' : ∀ e, KT n Qf ((t, .tuple #[.bool true, e.1, e.2]) :: T) (m' e) K) :
    KT n Qf T (match y with | none => m | some e => m' e) K := by
  intro a w hA hm
  have key : Agrees n a ((t, nextV y) :: T) := by
    refine ⟨hA.size, hA.defers, fun i v hv => ?_⟩
    simp only [lk] at hv
    by_cases hi : i = t
    · subst hi
      simp only [Nat.beq_refl, cond_true, Option.some.injEq] at hv
      subst hv
      exact hA.look _ _ ht
    · simp only [beq_ff hi, cond_false] at hv
      exact hA.look i v hv
  cases y with
  | none => exact h a w key hm
  | some e => exact h' e a w key hm

/-! ## slices against nil; structs of three ints; bytes as a string -/
theorem run_eqSl {t elem : TypeId} (b : Option Addr) (l c : Nat) (ht : P.underlying t = some (.slice elem)) (w : World) : (Op.equal t (.slice b l c) (.slice none 0 0)).run P w = .ok b.isNone w := by
  have : ∀ m : Nat, (Op.equalIn (m + 1) t (.slice b l c) (.slice none 0 0)).run P w = .ok b.isNone w := fun m => by cases b <;> simp [Op.equalIn, run_under ht]
  exact this 9999
theorem OY.eqlSl {m : M α} {s : Slc} (t : TypeId) (xo yo : Operand) (t2 : TypeId) (elem : TypeId) (ho : o.op = .binOp .eql t xo yo t2) (hx : ev T xo = some (.slice s.base s.len s.cap)) (hy : ev T yo = some (.slice none 0 0)) (ht : P.underlying t = some (.slice elem))
    (hn : o.dst = some d) (hb : Nat.blt d n.n = true) (h : KT n Qf ((d, .bool s.base.isNone) :: T) m K) : OY P n S Qf o T m K := OY.run _ (fun a w hA => by
  unfold execOp
  rw [ho]
  simp [hA.ev hx, hA.ev hy, eqGuard, binOp, run_eqSl _ _ _ ht]) hn hb h
theorem OY.neqSl {m : M α} {s : Slc} (t : TypeId) (xo yo : Operand) (t2 : TypeId) (elem : TypeId) (ho : o.op = .binOp .neq t xo yo t2) (hx : ev T xo = some (.slice s.base s.len s.cap)) (hy : ev T yo = some (.slice none 0 0)) (ht : P.underlying t = some (.slice elem))
    (hn : o.dst = some d) (hb : Nat.blt d n.n = true) (h : KT n Qf ((d, .bool (!s.base.isNone)) :: T) m K) : OY P n S Qf o T m K := OY.run _ (fun a w hA => by
  unfold execOp
  rw [ho]
  simp [hA.ev hx, hA.ev hy, eqGuard, binOp, run_eqSl _ _ _ ht]) hn hb h

def intField (P : Program) (f : Field) (off : Nat) : Bool := f.name != "_" && f.offset == off && (match P.underlying f.type with | some (.int _) => true | _ => false)
theorem run_part_int {f : Field} {off : Nat} (h : intField P f off = true) (cs : Array Value) (v : Value) (hv : cs[off]? = some v) (w : World) : (part f.type cs f.offset).run P w = .ok v w := by
  simp only [intField, Bool.and_eq_true, beq_iff_eq] at h
  have hp : plainT P f.type = true := by
    unfold plainT
    cases hu : P.underlying f.type with
    | none => rw [hu] at h; cases h.2
    | some x => rw [hu] at h; cases x <;> first | rfl | cases h.2
  simp [part, run_isAgg_plain hp, h.1.2, hv]
theorem intField_under {f : Field} {off : Nat} (h : intField P f off = true) : ∃ k, P.underlying f.type = some (.int k) := by
  simp only [intField, Bool.and_eq_true, beq_iff_eq] at h
  cases hu : P.underlying f.type with
  | none => rw [hu] at h; cases h.2
  | some x =>
    rw [hu] at h
    cases x <;> first | exact ⟨_, rfl⟩ | cases h.2
theorem intField_name {f : Field} {off : Nat} (h : intField P f off = true) : f.name ≠ "_" := by
  simp only [intField, Bool.and_eq_true, bne_iff_ne] at h; exact h.1.1
theorem run_eqField {f : Field} {off : Nat} (h : intField P f off = true) (m : Nat) (fs : List Field) (xs ys : Array Value) (a b : Int) (ha : xs[off]? = some (.int .i64 a)) (hb : ys[off]? = some (.int .i64 b)) (w : World) :
    (Op.eqFields (m + 1) xs ys (f :: fs)).run P w = if (a == b) = true then (Op.eqFields (m + 1) xs ys fs).run P w else .ok false w := by
  obtain ⟨k, hk⟩ := intField_under h
  simp only [Op.eqFields, intField_name h, ne_eq, not_false_eq_true, if_true, Sem.run_bind, run_part_int h xs _ ha, run_part_int h ys _ hb, Result.andThen_ok, run_equalIn_int w m f.type .i64 k a b hk]
  cases a == b <;> simp
theorem run_eq3 {t : TypeId} {f0 f1 f2 : Field} (ht : P.underlying t = some (.struct #[f0, f1, f2])) (hst : P.stoodInHeld t = false) (h0 : intField P f0 0 = true) (h1 : intField P f1 1 = true) (h2 : intField P f2 2 = true)
    (x y : Int × Int × Int) (w : World) : (Op.equal t (.agg #[.int .i64 x.1, .int .i64 x.2.1, .int .i64 x.2.2]) (.agg #[.int .i64 y.1, .int .i64 y.2.1, .int .i64 y.2.2])).run P w = .ok (eq3 x y) w := by
  have hf : P.fieldsOf t = #[f0, f1, f2] := by simp [Program.fieldsOf, ht]
  show (Op.equalIn (9999 + 1) t _ _).run P w = _
  rw [run_equalIn_struct w 9999 t _ _ (by rw [hf]; exact ht) hst, hf]
  show (Op.eqFields (9998 + 1) _ _ [f0, f1, f2]).run P w = _
  rw [run_eqField h0 9998 _ _ _ x.1 y.1 rfl rfl, run_eqField h1 9998 _ _ _ x.2.1 y.2.1 rfl rfl, run_eqField h2 9998 _ _ _ x.2.2 y.2.2 rfl rfl]
  unfold eq3
  cases x.1 == y.1 <;> cases x.2.1 == y.2.1 <;> cases x.2.2 == y.2.2 <;> simp [Op.eqFields]
def eq2 (x y : Int × Int) : Bool := x.1 == y.1 && x.2 == y.2
theorem run_eq2 {t : TypeId} {f0 f1 : Field} (ht : P.underlying t = some (.struct #[f0, f1])) (hst : P.stoodInHeld t = false) (h0 : intField P f0 0 = true) (h1 : intField P f1 1 = true)
    (x y : Int × Int) (w : World) : (Op.equal t (.agg #[.int .i64 x.1, .int .i64 x.2]) (.agg #[.int .i64 y.1, .int .i64 y.2])).run P w = .ok (eq2 x y) w := by
  have hf : P.fieldsOf t = #[f0, f1] := by simp [Program.fieldsOf, ht]
  show (Op.equalIn (9999 + 1) t _ _).run P w = _
  rw [run_equalIn_struct w 9999 t _ _ (by rw [hf]; exact ht) hst, hf]
  show (Op.eqFields (9998 + 1) _ _ [f0, f1]).run P w = _
  rw [run_eqField h0 9998 _ _ _ x.1 y.1 rfl rfl, run_eqField h1 9998 _ _ _ x.2 y.2 rfl rfl]
  unfold eq2
  cases x.1 == y.1 <;> cases x.2 == y.2 <;> simp [Op.eqFields]
theorem eqGuard_agg {op : BinOp} {t : TypeId} {x y : Operand} {a b : Array Value} (h : P.eqGuardType P.depth t = false) (w : World) : (eqGuard op t x y (.agg a) (.agg b)).run P w = .ok () w := by
  unfold eqGuard
  cases op <;> simp [h]
theorem OY.eqlAgg3 {m : M α} {x y : Int × Int × Int} (t : TypeId) (xo yo : Operand) (t2 : TypeId) (f0 f1 f2 : Field) (ho : o.op = .binOp .eql t xo yo t2) (hx : ev T xo = some (.agg #[.int .i64 x.1, .int .i64 x.2.1, .int .i64 x.2.2])) (hy : ev T yo = some (.agg #[.int .i64 y.1, .int .i64 y.2.1, .int .i64 y.2.2]))
    (ht : P.underlying t = some (.struct #[f0, f1, f2])) (hc : (!P.stoodInHeld t && intField P f0 0 && intField P f1 1 && intField P f2 2 && !P.eqGuardType P.depth t) = true)
    (hn : o.dst = some d) (hb : Nat.blt d n.n = true) (h : KT n Qf ((d, .bool (eq3 x y)) :: T) m K) : OY P n S Qf o T m K := OY.run _ (fun a w hA => by
  simp only [Bool.and_eq_true, Bool.not_eq_true'] at hc
  unfold execOp
  rw [ho]
  simp [hA.ev hx, hA.ev hy, binOp, eqGuard_agg hc.2, run_eq3 ht hc.1.1.1.1 hc.1.1.1.2 hc.1.1.2 hc.1.2]) hn hb h
theorem OY.neqAgg3 {m : M α} {x y : Int × Int × Int} (t : TypeId) (xo yo : Operand) (t2 : TypeId) (f0 f1 f2 : Field) (ho : o.op = .binOp .neq t xo yo t2) (hx : ev T xo = some (.agg #[.int .i64 x.1, .int .i64 x.2.1, .int .i64 x.2.2])) (hy : ev T yo = some (.agg #[.int .i64 y.1, .int .i64 y.2.1, .int .i64 y.2.2]))
    (ht : P.underlying t = some (.struct #[f0, f1, f2])) (hc : (!P.stoodInHeld t && intField P f0 0 && intField P f1 1 && intField P f2 2 && !P.eqGuardType P.depth t) = true)
    (hn : o.dst = some d) (hb : Nat.blt d n.n = true) (h : KT n Qf ((d, .bool (!eq3 x y)) :: T) m K) : OY P n S Qf o T m K := OY.run _ (fun a w hA => by
  simp only [Bool.and_eq_true, Bool.not_eq_true'] at hc
  unfold execOp
  rw [ho]
  simp [hA.ev hx, hA.ev hy, binOp, eqGuard_agg hc.2, run_eq3 ht hc.1.1.1.1 hc.1.1.1.2 hc.1.1.2 hc.1.2]) hn hb h
theorem OY.eqlAgg2 {m : M α} {x y : Int × Int} (t : TypeId) (xo yo : Operand) (t2 : TypeId) (f0 f1 : Field) (ho : o.op = .binOp .eql t xo yo t2) (hx : ev T xo = some (.agg #[.int .i64 x.1, .int .i64 x.2])) (hy : ev T yo = some (.agg #[.int .i64 y.1, .int .i64 y.2]))
    (ht : P.underlying t = some (.struct #[f0, f1])) (hc : (!P.stoodInHeld t && intField P f0 0 && intField P f1 1 && !P.eqGuardType P.depth t) = true)
    (hn : o.dst = some d) (hb : Nat.blt d n.n = true) (h : KT n Qf ((d, .bool (eq2 x y)) :: T) m K) : OY P n S Qf o T m K := OY.run _ (fun a w hA => by
  simp only [Bool.and_eq_true, Bool.not_eq_true'] at hc
  unfold execOp
  rw [ho]
  simp [hA.ev hx, hA.ev hy, binOp, eqGuard_agg hc.2, run_eq2 ht hc.1.1.1 hc.1.1.2 hc.1.2]) hn hb h
theorem OY.neqAgg2 {m : M α} {x y : Int × Int} (t : TypeId) (xo yo : Operand) (t2 : TypeId) (f0 f1 : Field) (ho : o.op = .binOp .neq t xo yo t2) (hx : ev T xo = some (.agg #[.int .i64 x.1, .int .i64 x.2])) (hy : ev T yo = some (.agg #[.int .i64 y.1, .int .i64 y.2]))
    (ht : P.underlying t = some (.struct #[f0, f1])) (hc : (!P.stoodInHeld t && intField P f0 0 && intField P f1 1 && !P.eqGuardType P.depth t) = true)
    (hn : o.dst = some d) (hb : Nat.blt d n.n = true) (h : KT n Qf ((d, .bool (!eq2 x y)) :: T) m K) : OY P n S Qf o T m K := OY.run _ (fun a w hA => by
  simp only [Bool.and_eq_true, Bool.not_eq_true'] at hc
  unfold execOp
  rw [ho]
  simp [hA.ev hx, hA.ev hy, binOp, eqGuard_agg hc.2, run_eq2 ht hc.1.1.1 hc.1.1.2 hc.1.2]) hn hb h

/-- a function value, or an interface's, put into a box -/
def boxV (v : Value) : M Addr := fun Q w => v.oneCell' = true ∧ allocM [v] Q w
theorem OW.boxVal {k : Addr → M α} {v : Value} (t : TypeId) (x : Operand) (ho : o.op = .box t x) (hx : ev T x = some v) (hn : o.dst = some d) (hb : Nat.blt d n.n = true)
    (h : ∀ ad, KT n Qf ((d, .pointer (some ad)) :: T) (k ad) K) : OW rd P Q n Qf o T (bindM (boxV v) k) K := fun a w hA hm => by
  obtain ⟨hv, hm⟩ := hm
  have hm := hm t
  have hcs : v.cells = #[v] := by cases v <;> first | rfl | (simp [Value.oneCell'] at hv)
  have : (execOp a.eval o).run P w = .ok (.value (.pointer (some ⟨w.heap.size, 0, none⟩))) (World.allocC w [v].toArray t) := by
    unfold execOp
    rw [ho]
    simp [Instr.box, run_newVar', hcs, hA.ev hx]
  refine wpIn_value this ?_
  rw [hn]
  exact h _ _ _ (hA.put hb _) hm

/-- the bytes of a slice, as a string -/
def bytesM (s : Slc) : M (List UInt8) := fun Q w => ∃ l : List UInt8, cellsAt w s.base (l.map fun b => .int .u8 b.toNat) ∧ (s.base.isSome = true → l.length = s.len) ∧ Q l w
def vB (l : List UInt8) : Value := .string ⟨l.toArray⟩
end
end Go.Mo
