/-
  calls of function values and ranges over functions.
-/
import Derived.Test.YtldmeimebebllaaMoOps4
namespace Go.Mo
set_option linter.unusedSimpArgs false
set_option linter.unusedVariables false

/-! ## calls of function values -/
def CallE (P : Program) (fv : Value) (args : Array Value) (w : World) (R : Ending → World → Prop) : Prop :=
  ∃ f as w', (do let d ← Deferred.ofValue fv args; invoke d.target d.args : Sem Next).run P w = .ok (.enter f as) w' ∧ Calls P f as w' R
def CallR (P : Program) (fv : Value) (args : Array Value) (w : World) (R : Ending → World → Prop) : Prop :=
  ∃ l f tmps assign body w', (do let d ← Deferred.ofValue fv args; invoke d.target d.args : Sem Next).run P w = .ok (.round l f tmps assign body) w' ∧ RoundIn Fence.wide 0 P l f tmps assign body w' R
/-- what calls of function values do: 'call' at large, 'enter' of a function of the text -/
structure CV where
  call : Value → Array Value → M Value
  enter : Value → Array Value → M Value
def cvOf (P : Program) : CV where
  call := fun fv args Q w => CallE P fv args w (RetPost (fun v => v) Q) ∨ CallR P fv args w (RetPost (fun v => v) Q)
  enter := fun fv args Q w => CallE P fv args w (RetPost (fun v => v) Q)
def cvT {β : Type} (cv : CV) (enc : β → Value) (fv : Value) (args : Array Value) : M β := fun Q w => cv.call fv args (fun v w' => ∃ y, v = enc y ∧ Q y w') w

def yieldV (L : Nat) : Value := .func (.yield L) #[] #[]
inductive Jump where
  | ret
  | exit (id : Nat)
def Jump.code : Jump → Code
  | .ret => .ret
  | .exit id => .exit id
section
variable {ξ τ α : Type}
def roundPostM (mk : LoopState → Option Code → Obj) (L : Nat) (Q : Value → World → Prop) : Unit ⊕ Jump → World → Prop
  | .inl _, w => ∃ p, w.heap[L]? = some (mk .busy p) ∧ Q (.bool true) (w.putObj L (mk .ready none))
  | .inr j, w => ∃ p, w.heap[L]? = some (mk .busy p) ∧ Q (.bool false) (w.putObj L (mk .done (some j.code)))
def roundM (mk : LoopState → Option Code → Obj) (L : Nat) (asg : ξ → M τ) (body : τ → M (Unit ⊕ Jump)) (x : ξ) : M Value := fun Q w =>
  (∃ p, w.heap[L]? = some (mk .ready p)) ∧ asg x (fun t w0 => ∃ p, w0.heap[L]? = some (mk .ready p) ∧ body t (roundPostM mk L Q) (w0.putObj L (mk .busy p))) w
def rangeEnd (mk : LoopState → Option Code → Obj) (L : Nat) (kn kr : M α) (ke : Nat → M α) : M α := fun Q w =>
  ∃ st p, w.heap[L]? = some (mk st p) ∧ st ≠ .busy ∧ match p with
    | none => kn Q (w.putObj L (mk .exhausted none))
    | some c => ∃ j : Jump, c = j.code ∧ (match j with | .ret => kr Q (w.putObj L (mk .exhausted (some c))) | .exit id => ke id Q (w.putObj L (mk .exhausted (some c))))
/-- 'for .. := range f': D is the mark's block, D + 1 the loop's record -/
def rangeFM (cv : CV) (fv : Value) (encX : ξ → Array Value) (asg : ξ → M τ) (body : τ → M (Unit ⊕ Jump)) (kn kr : Nat → M α) (ke : Nat → Nat → M α) : M α := fun Q w =>
  ∀ mk : LoopState → Option Code → Obj, (∀ st p cs e f, mk st p ≠ .cells cs e f) →
    (∀ (x : ξ) Q' w', roundM mk (w.heap.size + 1) asg body x Q' w' → cv.call (yieldV (w.heap.size + 1)) (encX x) Q' w') →
    cv.enter fv #[yieldV (w.heap.size + 1)] (fun _ w2 => rangeEnd mk (w.heap.size + 1) (kn w.heap.size) (kr w.heap.size) (ke w.heap.size) Q w2)
      (World.pushO (World.pushO w (.deferred (some []))) (mk .ready none))
end

section
variable {rd : Option Nat} {P : Program} {n : Nd} {Q : Exit → Act → World → Prop} {α β σ ξ τ : Type} {Qf : α → World → Prop} {ops : Array Oper}
variable {o : Oper} {T : Tm} {K : Act → World → Prop} {S : World → Prop} {d : Nat}

theorem call_exec {ρ : Operand → Value} {o : Oper} {x : Operand} {args : Array Operand} {tys : Array TypeId} (ho : o.op = .call ⟨.value x, args, tys⟩) :
    execOp ρ o = (do let d ← Deferred.ofValue (ρ x) (args.map ρ); invoke d.target d.args) := by
  unfold execOp
  rw [ho]
  rfl
theorem wp_callv {a : Act} {w : World} {x : Operand} {args : Array Operand} {tys : Array TypeId} {enc : β → Value} {fv : Value} {vs : Array Value} {K : Act → World → Prop} (ho : o.op = .call ⟨.value x, args, tys⟩)
    (hx : a.eval x = fv) (hv : args.map a.eval = vs) (Q' : β → World → Prop) (hm : cvT (cvOf P) enc fv vs Q' w) (hK : ∀ y w', Q' y w' → K (a.put o.dst (enc y)) w') : o.wpIn (FW rd) 0 P a w K Q := by
  have hend : ∀ (e : Ending) (w' : World), RetPost (fun v => v) (fun v w' => ∃ y, v = enc y ∧ Q' y w') e w' → ∃ y, e = .returned (enc y) ∧ Q' y w' := by
    intro e w' he
    cases e with
    | returned v => obtain ⟨v', rfl, y, rfl, hq⟩ := he; exact ⟨y, rfl, hq⟩
    | panicked c => exact he.elim
    | outgrown => exact he.elim
  refine wpIn_run (fun c e => by rw [ho] at e; cases e) ?_
  rw [call_exec ho, hx, hv]
  rcases hm with ⟨f, as, w1, hr, hc⟩ | ⟨l, f, tmps, asg, body, w1, hr, hc⟩
  · rw [hr, Oper.uponIn_enter]
    refine ⟨fun h => by simp [Fence.wide] at h, (callsIn_FW rd hc).mono fun e w' he => ?_⟩
    obtain ⟨y, rfl, hq⟩ := hend e w' he
    exact hK y w' hq
  · rw [hr, Oper.uponIn_round]
    refine ⟨fun h => by simp [Fence.wide] at h, RoundIn.mono (F := FW rd) (n := 0) hc fun e w' he => ?_⟩
    obtain ⟨y, rfl, hq⟩ := hend e w' he
    exact hK y w' hq
theorem evs_of {a : Act} (hA : Agrees n a T) : ∀ (l : List Operand) (vs : List Value), l.map (ev T) = vs.map some → l.map a.eval = vs
  | [], [], _ => rfl
  | [], _ :: _, h => by cases h
  | _ :: _, [], h => by cases h
  | x :: l, v :: vs, h => by
    simp only [List.map_cons, List.cons.injEq] at h ⊢
    exact ⟨hA.ev h.1, evs_of hA l vs h.2⟩
theorem OW.callv {k : β → M α} {enc : β → Value} {fv : Value} {vs : List Value} (x : Operand) (args : List Operand) (tys : Array TypeId) (ho : o.op = .call ⟨.value x, args.toArray, tys⟩) (hx : ev T x = some fv) (hv : args.map (ev T) = vs.map some)
    (hn : o.dst = some d) (hb : Nat.blt d n.n = true) (h : ∀ y, KT n Qf ((d, enc y) :: T) (k y) K) : OW rd P Q n Qf o T (bindM (cvT (cvOf P) enc fv vs.toArray) k) K := fun a w hA hm =>
  wp_callv ho (hA.ev hx) (by simp [evs_of hA args vs hv]) _ hm fun y w' hq => by rw [hn]; exact h y _ w' (hA.put hb _) hq
theorem OW.callv0 {k : β → M α} {enc : β → Value} {fv : Value} {vs : List Value} (x : Operand) (args : List Operand) (tys : Array TypeId) (ho : o.op = .call ⟨.value x, args.toArray, tys⟩) (hx : ev T x = some fv) (hv : args.map (ev T) = vs.map some)
    (hn : o.dst = none) (h : ∀ y, KT n Qf T (k y) K) : OW rd P Q n Qf o T (bindM (cvT (cvOf P) enc fv vs.toArray) k) K := fun a w hA hm =>
  wp_callv ho (hA.ev hx) (by simp [evs_of hA args vs hv]) _ hm fun y w' hq => by rw [hn]; exact h y _ w' hA hq

/-! ## ranges over functions -/
def mkOf (r : Loop) (st : LoopState) (p : Option Code) : Obj := .loop { r with state := st, pending := p }
def roundQ (P : Program) (L : Nat) (Q' : Value → World → Prop) : Exit → Act → World → Prop := roundPost P L (RetPost (fun v => v) Q')
instance instPanicRound (L : Nat) (Q' : Value → World → Prop) : PanicOK (roundQ P L Q') := ⟨fun _ _ _ _ _ h => h⟩
theorem run_endRound {r : Loop} {L : Nat} {p : Option Code} {j : Option Code} {w : World} (h : w.heap[L]? = some (mkOf r .busy p)) :
    (Instr.endRound L j).run P w = .ok (.bool j.isNone) (w.putObj L (mkOf r (if j.isNone then .ready else .done) j)) := by
  have hg := run_getObj (P := P) h (by intros; simp [mkOf])
  have hs : ∀ ob', (setObj L ob').run P w = .ok () (w.putObj L ob') := fun ob' => run_setObj h (by intros; simp [mkOf])
  simp [Instr.endRound, Instr.getLoop, hg, mkOf, hs]
theorem SX.round_next {r : Loop} {L : Nat} {Q' : Value → World → Prop} {m : Nd} : SX m .normal (roundQ P L Q') (roundPostM (mkOf r) L Q') T (pureM (.inl ())) := fun a w _ hm => by
  obtain ⟨p, hp, hq⟩ := hm
  exact ⟨_, _, run_endRound hp, _, rfl, hq⟩
theorem SX.round_ret {r : Loop} {L : Nat} {Q' : Value → World → Prop} {m : Nd} : SX m .ret (roundQ P L Q') (roundPostM (mkOf r) L Q') T (pureM (.inr .ret)) := fun a w _ hm => by
  obtain ⟨p, hp, hq⟩ := hm
  exact ⟨_, _, run_endRound hp, _, rfl, hq⟩
theorem SX.round_exit {r : Loop} {L : Nat} {Q' : Value → World → Prop} {m : Nd} {id : Nat} : SX m (.exit id) (roundQ P L Q') (roundPostM (mkOf r) L Q') T (pureM (.inr (.exit id))) := fun a w _ hm => by
  obtain ⟨p, hp, hq⟩ := hm
  exact ⟨_, _, run_endRound hp, _, rfl, hq⟩
theorem SX.leafP {Q' : Exit → Act → World → Prop} {Qf' : τ → World → Prop} {t : τ} {T1 : τ → Tm} (h : ∀ t, SX n .normal Q' Qf' (T1 t) (pureM t)) (hs : Sub T (T1 t)) : SX n .normal Q' Qf' T (pureM t) :=
  fun a w hA hm => h t a w (hA.sub hs) hm

def pushT (T : Tm) : List (Nat × Value) → Tm
  | [] => T
  | p :: ps => pushT (p :: T) ps
theorem agrees_push {a : Act} : ∀ (ps : List (Nat × Value)) (T : Tm) (tmps : Array Value), Agrees ⟨n.n, []⟩ { tmps := tmps, defers := [] } T → (∀ p ∈ ps, p.1 < n.n) →
    Agrees ⟨n.n, []⟩ { tmps := ps.foldl (fun t p => t.setIfInBounds p.1 p.2) tmps, defers := [] } (pushT T ps)
  | [], T, tmps, h, _ => h
  | p :: ps, T, tmps, h, hp => by
    refine agrees_push (a := a) ps (p :: T) _ ?_ (fun q hq => hp q (by simp [hq]))
    have := h.put (d := p.1) (by simpa using hp p (by simp)) p.2
    simpa [Act.put] using this

theorem SC.rangeF {g : Operand} {ps : List Tmp} {assign body : Code} {fv : Value} {encX : ξ → List Value} {asg : ξ → M τ} {bd : τ → M (Unit ⊕ Jump)} {kn kr : Nat → M α} {ke : Nat → Nat → M α} (T1 : τ → Tm)
    (hg : ev T g = some fv) (hps : ∀ x, (encX x).length = ps.length) (hpn : ps.all (fun p => Nat.blt p n.n) = true)
    (ha : ∀ (L : Nat) (x : ξ) (Q' : Exit → Act → World → Prop) (Qf' : τ → World → Prop), (∀ t, SX ⟨n.n, []⟩ .normal Q' Qf' (T1 t) (pureM t)) → SC (some L) P ⟨n.n, []⟩ Q' Qf' assign (pushT T (ps.zip (encX x))) (asg x))
    (hb : ∀ (L : Nat) (r : Loop) (Q' : Value → World → Prop) (t : τ), SC (some L) P ⟨n.n, []⟩ (roundQ P L Q') (roundPostM (mkOf r) L Q') body (T1 t) (bd t))
    (hn : ∀ D, SX ⟨n.n, D :: n.ds⟩ .normal Q Qf T (kn D)) (hr : ∀ D, SX ⟨n.n, D :: n.ds⟩ .ret Q Qf T (kr D)) (he : ∀ D id, SX ⟨n.n, D :: n.ds⟩ (.exit id) Q Qf T (ke D id)) :
    SC none P n Q Qf (.rangeFunc g ps.toArray assign body) T (rangeFM (cvOf P) fv (fun x => (encX x).toArray) asg bd kn kr ke) := fun a w hA hm => by
  refine wpIn_rangeFunc (F := FW none) (n := 0) fun fn _ => ?_
  let r : Loop := { state := .ready, pending := none, fn := fn, tmps := a.tmps, params := ps.toArray, assign := assign, body := body, defers := w.heap.size }
  have hyield : ∀ (x : ξ) Q' w', roundM (mkOf r) (w.heap.size + 1) asg bd x Q' w' → (cvOf P).call (yieldV (w.heap.size + 1)) (encX x).toArray Q' w' := by
    intro x Q' w' ⟨⟨p, hp⟩, hmm⟩
    refine .inr ⟨w.heap.size + 1, fn, (ps.zip (encX x)).foldl (fun t p => t.setIfInBounds p.1 p.2) a.tmps, assign, body, w', ?_, ?_⟩
    · have hgo := run_getObj (P := P) hp (by intros; simp [mkOf])
      have hsz : (encX x).length = ps.length := hps x
      simp [Deferred.ofValue, yieldV, invoke, Instr.yield, Instr.getLoop, hgo, mkOf, r, hsz]
    · refine roundIn_of_wpIn (F := Fence.wide) trivial ?_
      have hA0 : Agrees ⟨n.n, []⟩ { tmps := a.tmps, defers := [] } T := ⟨hA.size, rfl, hA.look⟩
      have hA1 := agrees_push (n := n) (a := a) (ps.zip (encX x)) T a.tmps hA0 (fun q hq => by
        have := List.all_eq_true.1 hpn q.1 (List.of_mem_zip hq).1
        simpa using this)
      refine ha (w.heap.size + 1) x _ _ (fun t a1 w1 hA2 hm2 => ?_) _ w' hA1 hmm
      obtain ⟨p1, hp1, hbd⟩ := hm2
      have hgo := run_getObj (P := P) hp1 (by intros; simp [mkOf])
      have hs : ∀ ob', (setObj (w.heap.size + 1) ob').run P w1 = .ok () (w1.putObj (w.heap.size + 1) ob') := fun ob' => run_setObj hp1 (by intros; simp [mkOf])
      refine ⟨w1.putObj (w.heap.size + 1) (mkOf r .busy p1), ?_, ?_⟩
      · simp [Instr.beginRound, Instr.getLoop, hgo, mkOf, hs]
      · exact hb (w.heap.size + 1) r Q' t a1 _ hA2 hbd
  have hm := hm (mkOf r) (fun _ _ _ _ _ h => by cases h) hyield
  obtain ⟨f, as, w', hrun, hcall⟩ := hm
  refine ⟨w.heap.size + 1, [mark w.heap.size], World.pushO (World.pushO w (.deferred (some []))) (mkOf r .ready none), ?_⟩
  have henter : (Instr.enterLoop fn a.tmps ps.toArray assign body (FW none).round).run P w = .ok (w.heap.size + 1, [mark w.heap.size]) (World.pushO (World.pushO w (.deferred (some []))) (mkOf r .ready none)) := by
    simp [Instr.enterLoop, World.pushO, mkOf, r, mark]
    rfl
  have hres : resolve a.eval (rangeCall g (w.heap.size + 1)) 0 = Deferred.ofValue fv #[yieldV (w.heap.size + 1)] := by
    have hge := hA.ev hg
    show Deferred.ofValue (a.eval g) _ = _
    rw [hge]
    simp [yieldV, Act.eval]
  have hd : ∃ d w1', (Deferred.ofValue fv #[yieldV (w.heap.size + 1)]).run P (World.pushO (World.pushO w (.deferred (some []))) (mkOf r .ready none)) = .ok d w1' ∧ (invoke d.target d.args).run P w1' = .ok (.enter f as) w' := by
    rw [Sem.run_bind] at hrun
    cases hdd : (Deferred.ofValue fv #[yieldV (w.heap.size + 1)]).run P (World.pushO (World.pushO w (.deferred (some []))) (mkOf r .ready none)) with
    | ok d w1' => rw [hdd] at hrun; exact ⟨d, w1', rfl, hrun⟩
    | halt x w1' => rw [hdd] at hrun; simp at hrun
  obtain ⟨d, w1', hd1, hd2⟩ := hd
  refine ⟨d, w1', f, as, w', henter, by rw [hres]; exact hd1, fun _ _ => trivial, hd2, fun h => by simp [Fence.wide] at h, (callsIn_FW none hcall).mono fun e w2 hre => ?_⟩
  cases e with
  | panicked c => exact hre.elim
  | outgrown => exact hre.elim
  | returned v =>
    obtain ⟨_, _, st, p, hw2, hst, hmm⟩ := hre
    have hgo := run_getObj (P := P) hw2 (by intros; simp [mkOf])
    have hs : ∀ ob', (setObj (w.heap.size + 1) ob').run P w2 = .ok () (w2.putObj (w.heap.size + 1) ob') := fun ob' => run_setObj hw2 (by intros; simp [mkOf])
    have hA' : Agrees ⟨n.n, w.heap.size :: n.ds⟩ { a with defers := [mark w.heap.size] ++ a.defers } T := ⟨hA.size, by simp [hA.defers], hA.look⟩
    have hend : (Instr.endLoop (w.heap.size + 1)).run P w2 = .ok p (w2.putObj (w.heap.size + 1) (mkOf r .exhausted p)) := by
      have hsb : (st == LoopState.busy) = false := by cases st <;> first | rfl | exact absurd rfl hst
      simp only [Instr.endLoop, Instr.getLoop, Sem.run_bind, hgo, Result.andThen_ok, mkOf, Sem.run_pure, hsb, Bool.false_eq_true, if_false]
      simp [hs, mkOf]
    refine ⟨p, _, hend, ?_⟩
    cases p with
    | none => exact hn _ _ _ hA' hmm
    | some c =>
      obtain ⟨j, rfl, hj⟩ := hmm
      cases j with
      | ret => exact wpIn_ret (hr _ _ _ hA' hj)
      | exit id => exact wpIn_exit (he _ id _ _ hA' hj)
end
end Go.Mo
namespace Go.Mo
section
variable {rd : Option Nat} {P : Program} {n : Nd} {Q : Exit → Act → World → Prop} {α β σ ξ τ : Type} {Qf : α → World → Prop} {T : Tm}
theorem SX.fail {e : Exit} : SX n e Q Qf T failM := fun _ _ _ hm => hm.elim
theorem SX.ifExit {id k : Nat} {m m' : M α} (h : SX n (.exit k) Q Qf T m) (h' : SX n (.exit id) Q Qf T m') : SX n (.exit id) Q Qf T (if id = k then m else m') := fun a w hA hm => by
  by_cases e : id = k
  · subst e; rw [if_pos rfl] at hm; exact h a w hA hm
  · rw [if_neg e] at hm; exact h' a w hA hm
theorem enter_of {f : FuncId} {as vs : Array Value} {fv : Value} {w : World} {β : Type} {enc : β → Value} {m : M β} (he : (do let d ← Deferred.ofValue fv vs; invoke d.target d.args : Sem Next).run P w = .ok (.enter f as) w)
    (hs : ∀ (Qf' : β → World → Prop), m Qf' w → Calls P f as w (RetPost enc Qf')) (Q' : Value → World → Prop) (hm : m (fun y w' => Q' (enc y) w') w) : (cvOf P).enter fv vs Q' w :=
  ⟨f, as, w, he, (hs _ hm).mono fun e w' h => by
    cases e with
    | returned v => obtain ⟨y, rfl, hq⟩ := h; exact ⟨_, rfl, hq⟩
    | panicked c => exact h.elim
    | outgrown => exact h.elim⟩
theorem call_of_enter {fv : Value} {vs : Array Value} {w : World} {Q' : Value → World → Prop} (h : (cvOf P).enter fv vs Q' w) : (cvOf P).call fv vs Q' w := .inl h
end
end Go.Mo
