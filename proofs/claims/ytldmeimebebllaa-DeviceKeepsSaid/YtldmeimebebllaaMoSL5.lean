/-
  ranges over functions in the logic.
-/
import Derived.Test.YtldmeimebebllaaMoSL4
namespace Go.Mo
set_option linter.unusedVariables false

/-! ## Ranges over functions -/
section
variable {α β σ τ ξ : Type} {g : Fr} {H H' : HP} {Q : α → HP}
theorem wps_or {A B : HP} {m : M α} (h : wps g A m Q) (h' : wps g B m Q) : wps g (orp A B) m Q := fun w a Qf ho ha hq => ha.elim (fun ha => h w a Qf ho ha hq) (fun ha => h' w a Qf ho ha hq)
theorem wps_orR {A B : HP} {m : M α} (h : wps g (H * A) m Q) (h' : wps g (H * B) m Q) : wps g (H * orp A B) m Q := wps_pre (H' := orp (H * A) (H * B))
  (fun o ⟨a, b, hd, hl, ha, hb⟩ => hb.elim (fun hb => .inl ⟨a, b, hd, hl, ha, hb⟩) (fun hb => .inr ⟨a, b, hd, hl, ha, hb⟩)) (wps_or h h')
theorem wps_put {m : M α} {b : Nat} {ob : Obj} (ob' : Obj) (hsf : Obj.soft ob') {P : World → Prop} (hP : ∀ w a, Own w a g → (H * po b ob).p a → P w)
    (h : wps g (H * po b ob') m Q) : wps g (H * po b ob) (fun Q w => P w ∧ m Q (w.putObj b ob')) Q := fun w a Qf ho ha hq => by
  obtain ⟨a', ho', ha'⟩ := own_put ob' hsf ho ha
  exact ⟨hP w a ho ha, h _ a' Qf ho' ha' hq⟩
theorem wps_take {m : M α} {D : Nat} [hp : PickO D H (.deferred (some [])) H'] (h : wps g H' m Q) : wps g H (takesM [D] m) Q := fun w a Qf ho ha hq => by
  rw [hp.eq] at ha
  obtain ⟨a', ho', ha'⟩ := own_put (.deferred none) (fun _ _ _ h => by cases h) ho ha
  exact ⟨own_po ho ha, h _ a' Qf ho' (ent_left _ _ a' ha') hq⟩
theorem wps_cvT {cv : CV} {enc : β → Value} {fv : Value} {args : Array Value} {R : β → HP} (h : wps g H (cv.call fv args) (fun v => ex fun y => pr (v = enc y) * R y)) : wps g H (cvT cv enc fv args) R := fun w a Qf ho ha hq =>
  h w a _ ho ha fun v w' a' ho' hb => by
    obtain ⟨y, hb⟩ := hb
    exact ⟨y, ent_left _ _ a' hb, hq y w' a' ho' (ent_right _ _ a' hb)⟩
/-- a function value that hands xs to what it is called with, one by one, till that says no; A is what it needs -/
def Iter (cv : CV) (fv : Value) (encX : ξ → Array Value) (xs : List ξ) (A : HP) : Prop :=
  ∀ (yv : Value) (I : Nat → HP) (E : HP),
    (∀ (i : Nat) (x : ξ), xs[i]? = some x → ∀ g, wps g (A * I i) (cv.call yv (encX x)) fun v => orp (pr (v = .bool true) * (A * I (i + 1))) (pr (v = .bool false) * (A * E))) →
    ∀ g, wps g (A * I 0) (cv.enter fv #[yv]) fun _ => A * orp (I xs.length) E
/-- what an iterator's call of its yield comes to -/
theorem wps_yield {cv : CV} {yv : Value} {args : Array Value} {A B C : HP} (h : wps g A (cv.call yv args) fun v => orp (pr (v = .bool true) * B) (pr (v = .bool false) * C)) :
    wps g A (cvT cv Value.bool yv args) fun y => if y = true then B else C :=
  wps_cvT (wps_post h fun v => or_ent (ent_ex true (Ent.refl _)) (ent_ex false (Ent.refl _)))
theorem wps_round {mk : LoopState → Option Code → Obj} (hmk : ∀ st p, Obj.soft (mk st p)) {L : Nat} {asg : ξ → M τ} {body : τ → M (Unit ⊕ Jump)} {x : ξ} {B C : HP} {R : τ → HP} {E : Jump → HP}
    (hasg : ∀ g, wps g B (asg x) R) (hbody : ∀ t g, wps g (R t) (body t) fun r => match r with | .inl _ => C | .inr j => E j) :
    wps g (B * po L (mk .ready none)) (roundM mk L asg body x) fun v => orp (pr (v = .bool true) * (C * po L (mk .ready none))) (pr (v = .bool false) * ex fun j => E j * po L (mk .done (some j.code))) := fun w a Qf ho ha hq => by
  refine ⟨⟨none, own_po ho ha⟩, ?_⟩
  refine wps_frame (F := po L (mk .ready none)) (fun g' => hasg g') w a _ ho ha fun t w1 a1 ho1 ha1 => ?_
  refine ⟨none, own_po ho1 ha1, ?_⟩
  obtain ⟨a2, ho2, ha2⟩ := own_put (mk .busy none) (hmk _ _) ho1 ha1
  refine wps_frame (F := po L (mk .busy none)) (fun g' => hbody t g') _ a2 _ ho2 ha2 fun r w3 a3 ho3 ha3 => ?_
  cases r with
  | inl u =>
    refine ⟨none, own_po ho3 ha3, ?_⟩
    obtain ⟨a4, ho4, ha4⟩ := own_put (mk .ready none) (hmk _ _) ho3 ha3
    exact hq _ _ a4 ho4 (.inl (ent_pr rfl a4 ha4))
  | inr j =>
    refine ⟨none, own_po ho3 ha3, ?_⟩
    obtain ⟨a4, ho4, ha4⟩ := own_put (mk .done (some j.code)) (hmk _ _) ho3 ha3
    exact hq _ _ a4 ho4 (.inr (ent_pr rfl a4 ⟨j, ha4⟩))
theorem wps_rangeF {cv : CV} {fv : Value} {encX : ξ → Array Value} {asg : ξ → M τ} {body : τ → M (Unit ⊕ Jump)} {kn kr : Nat → M α} {ke : Nat → Nat → M α} {xs : List ξ} {A F : HP} (I : Nat → HP) (E : Jump → HP) (R : Nat → ξ → τ → HP)
    (hit : Iter cv fv encX xs A) (h0 : Ent H (F * (A * I 0)))
    (hasg : ∀ (i : Nat) (x : ξ), xs[i]? = some x → ∀ g, wps g (A * I i) (asg x) (R i x))
    (hbody : ∀ (i : Nat) (x : ξ), xs[i]? = some x → ∀ t g, wps g (R i x t) (body t) fun r => match r with | .inl _ => A * I (i + 1) | .inr j => A * E j)
    (hn : ∀ D, wps g (F * (A * I xs.length) * po D (.deferred (some []))) (kn D) Q)
    (hr : ∀ D, wps g (F * (A * E .ret) * po D (.deferred (some []))) (kr D) Q)
    (he : ∀ D id, wps g (F * (A * E (.exit id)) * po D (.deferred (some []))) (ke D id) Q) : wps g H (rangeFM cv fv encX asg body kn kr ke) Q := fun w a Qf ho ha hq => by
  intro mk hmk0 hyield
  have hmk : ∀ st p, Obj.soft (mk st p) := fun st p cs e f h => absurd h (hmk0 st p cs e f)
  have ha := h0 a ha
  have p1 := own_push ho (.deferred (some [])) (World.pushO w (.deferred (some []))) rfl ⟨rfl, rfl⟩ (fun _ _ _ h => by cases h)
  have q1 : (F * (A * I 0) * po w.heap.size (.deferred (some []))).p _ := ⟨a, _, p1.2, Hp.le_refl _, ha, by simp [po]⟩
  have p2 := own_push p1.1 (mk .ready none) (World.pushO (World.pushO w (.deferred (some []))) (mk .ready none)) rfl ⟨rfl, rfl⟩ (hmk _ _)
  have hsz : (World.pushO w (.deferred (some []))).heap.size = w.heap.size + 1 := by simp [World.pushO]
  have q2 : (F * (A * I 0) * po w.heap.size (.deferred (some [])) * po (w.heap.size + 1) (mk .ready none)).p _ := ⟨_, _, p2.2, Hp.le_refl _, q1, by rw [← hsz]; simp [po]⟩
  have hgo := hit (yieldV (w.heap.size + 1)) (fun i => I i * po (w.heap.size + 1) (mk .ready none)) (ex fun j => E j * po (w.heap.size + 1) (mk .done (some j.code))) (fun i x hx g' => by
    intro w1 a1 Qf1 ho1 ha1 hq1
    refine hyield x Qf1 w1 ?_
    refine wps_round hmk (hasg i x hx) (hbody i x hx) w1 a1 Qf1 ho1 (by rw [star_assoc]; exact ha1) fun v w2 a2 ho2 ha2 => hq1 v w2 a2 ho2 ?_
    rcases ha2 with ha2 | ha2
    · left; rw [star_assoc] at ha2; exact ha2
    · right
      refine Ent.starr ?_ a2 ha2
      refine ex_ent fun j => ?_
      rw [star_assoc]
      exact Ent.starr (ent_ex j (Ent.refl _)))
  have hfr := wps_frame (g := g) (F := F * po w.heap.size (.deferred (some []))) hgo
  refine hfr _ _ _ p2.1 ?_ fun v w3 a3 ho3 ha3 => ?_
  · refine Ent.of_eq ?_ _ q2
    simp only [star_assoc]
    ac_rfl
  · have hsplit : ∀ B : HP, ∀ ob, (A * (B * po (w.heap.size + 1) ob) * (F * po w.heap.size (.deferred (some [])))) = (F * (A * B) * po w.heap.size (.deferred (some [])) * po (w.heap.size + 1) ob) := by
      intro B ob; ac_rfl
    have ha3' : (orp (F * (A * I xs.length) * po w.heap.size (.deferred (some [])) * po (w.heap.size + 1) (mk .ready none))
        (ex fun j => F * (A * E j) * po w.heap.size (.deferred (some [])) * po (w.heap.size + 1) (mk .done (some j.code)))).p a3 := by
      obtain ⟨x1, x2, hd, hl, ⟨y1, y2, hd', hl', hA, hor⟩, hF⟩ := ha3
      rcases hor with hor | hor
      · left
        rw [← hsplit]
        exact ⟨x1, x2, hd, hl, ⟨y1, y2, hd', hl', hA, hor⟩, hF⟩
      · right
        obtain ⟨j, hor⟩ := hor
        refine ⟨j, ?_⟩
        show (F * (A * E j) * po w.heap.size (.deferred (some [])) * po (w.heap.size + 1) (mk .done (some j.code))).p a3
        rw [← hsplit]
        exact ⟨x1, x2, hd, hl, ⟨y1, y2, hd', hl', hA, hor⟩, hF⟩
    rcases ha3' with ha3 | ⟨j, ha3⟩
    · refine ⟨.ready, none, own_po ho3 ha3, by simp, ?_⟩
      obtain ⟨a4, ho4, ha4⟩ := own_put (mk .exhausted none) (hmk _ _) ho3 ha3
      exact hn _ _ a4 Qf ho4 (ent_left _ _ a4 ha4) hq
    · refine ⟨.done, some j.code, own_po ho3 ha3, by simp, j, rfl, ?_⟩
      obtain ⟨a4, ho4, ha4⟩ := own_put (mk .exhausted (some j.code)) (hmk _ _) ho3 ha3
      have ha5 := ent_left _ _ a4 ha4
      cases j with
      | ret => exact hr _ _ a4 Qf ho4 ha5 hq
      | exit id => exact he _ id _ a4 Qf ho4 ha5 hq
end
end Go.Mo
