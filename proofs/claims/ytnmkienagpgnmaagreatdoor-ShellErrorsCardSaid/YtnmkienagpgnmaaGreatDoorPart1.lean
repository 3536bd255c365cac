/-
  A part of the proof: what functions of the program do, a symbolic executor of the code with its proof, and closed runs.
-/
import Derived.Test.YtnmkienagpgnmaaGreatDoorPart0
namespace Go.Ex
set_option linter.unusedVariables false
set_option linter.constructorNameAsVariable false
section
variable {α : Type}
noncomputable def pk (g : Dg) (t : N4 α) : α := N4.rec (motive := fun _ => α) (fun x y z w => Dg.rec (motive := fun _ => α) x y z w g) t
theorem g16_pk (a b c d : Dg) (t : N16 α) : g16 ⟨a, b, c, d⟩ t = pk d (pk c (pk b (pk a t))) := rfl
structure Upd (g : Dg) (v : α) (t t' : N4 α) : Prop where
  here : pk g t' = v
  other : ∀ g', g' ≠ g → pk g' t' = pk g' t
theorem up1_upd (d : Dg) (v : α) (t : N4 α) : ∃ t', (∀ (R : Type) (κ : N4 α → R), up1 d v t κ = κ t') ∧ Upd d v t t' := by
  obtain ⟨x, y, z, w⟩ := t
  cases d
  · exact ⟨⟨v, y, z, w⟩, fun _ _ => rfl, rfl, fun g' h => by cases g' <;> first | rfl | exact absurd rfl h⟩
  · exact ⟨⟨x, v, z, w⟩, fun _ _ => rfl, rfl, fun g' h => by cases g' <;> first | rfl | exact absurd rfl h⟩
  · exact ⟨⟨x, y, v, w⟩, fun _ _ => rfl, rfl, fun g' h => by cases g' <;> first | rfl | exact absurd rfl h⟩
  · exact ⟨⟨x, y, z, v⟩, fun _ _ => rfl, rfl, fun g' h => by cases g' <;> first | rfl | exact absurd rfl h⟩
theorem upS {β : Type} (g : Dg) (t : N4 β) (f : β → {R : Type} → (β → R) → R) (P : β → β → Prop) (hf : ∀ x, ∃ x', (∀ (R : Type) (κ : β → R), f x κ = κ x') ∧ P x x') :
    ∃ t', (∀ (R : Type) (κ : N4 β → R), N4.rec (motive := fun _ => R) (fun x y z w => Dg.rec (motive := fun _ => R)
      (f x fun x => κ ⟨x, y, z, w⟩) (f y fun y => κ ⟨x, y, z, w⟩) (f z fun z => κ ⟨x, y, z, w⟩) (f w fun w => κ ⟨x, y, z, w⟩) g) t = κ t') ∧ P (pk g t) (pk g t') ∧ ∀ g', g' ≠ g → pk g' t' = pk g' t := by
  obtain ⟨x, y, z, w⟩ := t
  cases g
  · obtain ⟨x', h1, h2⟩ := hf x
    exact ⟨⟨x', y, z, w⟩, fun _ κ => h1 _ _, h2, fun g' h => by cases g' <;> first | rfl | exact absurd rfl h⟩
  · obtain ⟨x', h1, h2⟩ := hf y
    exact ⟨⟨x, x', z, w⟩, fun _ κ => h1 _ _, h2, fun g' h => by cases g' <;> first | rfl | exact absurd rfl h⟩
  · obtain ⟨x', h1, h2⟩ := hf z
    exact ⟨⟨x, y, x', w⟩, fun _ κ => h1 _ _, h2, fun g' h => by cases g' <;> first | rfl | exact absurd rfl h⟩
  · obtain ⟨x', h1, h2⟩ := hf w
    exact ⟨⟨x, y, z, x'⟩, fun _ κ => h1 _ _, h2, fun g' h => by cases g' <;> first | rfl | exact absurd rfl h⟩
theorem put16_spec (i : Ix) (v : α) (t : N16 α) : ∃ t', (∀ (R : Type) (κ : N16 α → R), put16 i v t κ = κ t') ∧ g16 i t' = v ∧ ∀ j, j ≠ i → g16 j t' = g16 j t := by
  obtain ⟨a, b, c, d⟩ := i
  have h1 : ∀ x : N4 α, ∃ x', (∀ (R : Type) (κ : N4 α → R), up1 d v x κ = κ x') ∧ (pk d x' = v ∧ ∀ g, g ≠ d → pk g x' = pk g x) := fun x => by
    obtain ⟨x', h, u⟩ := up1_upd d v x
    exact ⟨x', h, u.here, u.other⟩
  have h2 : ∀ x : N4 (N4 α), ∃ x', (∀ (R : Type) (κ : N4 (N4 α) → R), up2 c d v x κ = κ x') ∧ (pk d (pk c x') = v ∧ ∀ c' d', ¬(c' = c ∧ d' = d) → pk d' (pk c' x') = pk d' (pk c' x)) := fun x => by
    obtain ⟨x', h, hh, ho⟩ := upS c x (fun x _ κ => up1 d v x κ) (fun x x' => pk d x' = v ∧ ∀ g, g ≠ d → pk g x' = pk g x) h1
    refine ⟨x', h, hh.1, fun c' d' hn => ?_⟩
    by_cases hc : c' = c
    · subst hc; exact hh.2 d' fun e => hn ⟨rfl, e⟩
    · rw [ho c' hc]
  have h3 : ∀ x : N4 (N4 (N4 α)), ∃ x', (∀ (R : Type) (κ : N4 (N4 (N4 α)) → R), up3 b c d v x κ = κ x') ∧ (pk d (pk c (pk b x')) = v ∧ ∀ b' c' d', ¬(b' = b ∧ c' = c ∧ d' = d) → pk d' (pk c' (pk b' x')) = pk d' (pk c' (pk b' x))) := fun x => by
    obtain ⟨x', h, hh, ho⟩ := upS b x (fun x _ κ => up2 c d v x κ) (fun x x' => pk d (pk c x') = v ∧ ∀ c' d', ¬(c' = c ∧ d' = d) → pk d' (pk c' x') = pk d' (pk c' x)) h2
    refine ⟨x', h, hh.1, fun b' c' d' hn => ?_⟩
    by_cases hb : b' = b
    · subst hb; exact hh.2 c' d' fun e => hn ⟨rfl, e⟩
    · rw [ho b' hb]
  obtain ⟨t', h, hh, ho⟩ := upS a t (fun x _ κ => up3 b c d v x κ) (fun x x' => pk d (pk c (pk b x')) = v ∧ ∀ b' c' d', ¬(b' = b ∧ c' = c ∧ d' = d) → pk d' (pk c' (pk b' x')) = pk d' (pk c' (pk b' x))) h3
  refine ⟨t', h, hh.1, fun j hj => ?_⟩
  obtain ⟨a', b', c', d'⟩ := j
  simp only [g16_pk]
  by_cases ha : a' = a
  · subst ha
    exact hh.2 b' c' d' fun e => hj (by obtain ⟨rfl, rfl, rfl⟩ := e; rfl)
  · rw [ho a' ha]
end
theorem pk_fill {α : Type} (g : Dg) (x : α) : pk g (fill4 x) = x := by cases g <;> rfl
theorem g16_fill {α : Type} (i : Ix) (x : α) : g16 i (fill16 x) = x := by
  obtain ⟨a, b, c, d⟩ := i
  simp only [g16_pk, fill16, pk_fill]
theorem setO_def {R : Type} (a b c d e f g h : Dg) (o : O) (Hh : H) (n : Id) (κ : St → R) : setO ⟨a, b, c, d, e, f, g, h⟩ o ⟨Hh, n⟩ κ =
    put16 ⟨e, f, g, h⟩ o (g16 ⟨a, b, c, d⟩ Hh) (fun t => put16 ⟨a, b, c, d⟩ t Hh fun H => κ ⟨H, n⟩) := rfl
theorem obj_def (a b c d e f g h : Dg) (Hh : H) (n : Id) : obj ⟨a, b, c, d, e, f, g, h⟩ ⟨Hh, n⟩ = g16 ⟨e, f, g, h⟩ (g16 ⟨a, b, c, d⟩ Hh) := rfl
theorem setO_spec (i : Id) (o : O) (σ : St) : ∃ σ', (∀ (R : Type) (κ : St → R), setO i o σ κ = κ σ') ∧ σ'.nx = σ.nx ∧ obj i σ' = o ∧ ∀ j, j ≠ i → obj j σ' = obj j σ := by
  obtain ⟨a, b, c, d, e, f, g, h⟩ := i
  obtain ⟨Hh, n⟩ := σ
  obtain ⟨t1, p1, q1, r1⟩ := put16_spec ⟨e, f, g, h⟩ o (g16 ⟨a, b, c, d⟩ Hh)
  obtain ⟨H1, p2, q2, r2⟩ := put16_spec ⟨a, b, c, d⟩ t1 Hh
  refine ⟨⟨H1, n⟩, fun R κ => ?_, rfl, ?_, ?_⟩
  · rw [setO_def, p1, p2]
  · rw [obj_def, q2, q1]
  · rintro ⟨a', b', c', d', e', f', g', h'⟩ hj
    rw [obj_def, obj_def]
    by_cases he : (⟨a', b', c', d'⟩ : Ix) = ⟨a, b, c, d⟩
    · rw [he, q2]
      exact r1 _ fun e' => hj (by cases he; cases e'; rfl)
    · rw [r2 _ he]
theorem obj_σ0 (i : Id) : obj i σ0 = .no := by
  obtain ⟨a, b, c, d, e, f, g, h⟩ := i
  unfold σ0
  rw [obj_def, g16_fill, g16_fill]
def dgN : Dg → Nat
  | .a => 0
  | .b => 1
  | .c => 2
  | .d => 3
theorem dgN_lt (d : Dg) : dgN d < 4 := by cases d <;> decide
def idN (i : Id) : Nat := dgN i.a + 4 * (dgN i.b + 4 * (dgN i.c + 4 * (dgN i.d + 4 * (dgN i.e + 4 * (dgN i.f + 4 * (dgN i.g + 4 * dgN i.h))))))
theorem dgN_inj {d e : Dg} (h : dgN d = dgN e) : d = e := by cases d <;> cases e <;> first | rfl | (simp [dgN] at h)
theorem idN_inj {i j : Id} (h : idN i = idN j) : i = j := by
  obtain ⟨a, b, c, d, e, f, g, k⟩ := i
  obtain ⟨a', b', c', d', e', f', g', k'⟩ := j
  simp only [idN] at h
  have := dgN_lt a; have := dgN_lt a'; have := dgN_lt b; have := dgN_lt b'; have := dgN_lt c; have := dgN_lt c'; have := dgN_lt d; have := dgN_lt d'
  have := dgN_lt e; have := dgN_lt e'; have := dgN_lt f; have := dgN_lt f'; have := dgN_lt g; have := dgN_lt g'; have := dgN_lt k; have := dgN_lt k'
  have h1 : dgN a = dgN a' := by omega
  have h2 : dgN b = dgN b' := by omega
  have h3 : dgN c = dgN c' := by omega
  have h4 : dgN d = dgN d' := by omega
  have h5 : dgN e = dgN e' := by omega
  have h6 : dgN f = dgN f' := by omega
  have h7 : dgN g = dgN g' := by omega
  have h8 : dgN k = dgN k' := by omega
  rw [dgN_inj h1, dgN_inj h2, dgN_inj h3, dgN_inj h4, dgN_inj h5, dgN_inj h6, dgN_inj h7, dgN_inj h8]
theorem inc8_spec {R : Type} (i : Id) (κ : Id → R) (fl : R) : inc8 i κ fl = fl ∨ ∃ j, inc8 i κ fl = κ j ∧ idN i < idN j := by
  obtain ⟨a, b, c, d, e, f, g, h⟩ := i
  cases a <;> first | exact .inr ⟨_, rfl, by simp only [idN, dgN]; omega⟩ | skip
  cases b <;> first | exact .inr ⟨_, rfl, by simp only [idN, dgN]; omega⟩ | skip
  cases c <;> first | exact .inr ⟨_, rfl, by simp only [idN, dgN]; omega⟩ | skip
  cases d <;> first | exact .inr ⟨_, rfl, by simp only [idN, dgN]; omega⟩ | skip
  cases e <;> first | exact .inr ⟨_, rfl, by simp only [idN, dgN]; omega⟩ | skip
  cases f <;> first | exact .inr ⟨_, rfl, by simp only [idN, dgN]; omega⟩ | skip
  cases g <;> first | exact .inr ⟨_, rfl, by simp only [idN, dgN]; omega⟩ | skip
  cases h <;> first | exact .inr ⟨_, rfl, by simp only [idN, dgN]; omega⟩ | exact .inl rfl
theorem new_spec (o : O) (σ : St) (κ : Id → St → Bool) (h : new o σ κ = true) : ∃ σ', κ σ.nx σ' = true ∧ idN σ.nx < idN σ'.nx ∧ obj σ.nx σ' = o ∧ ∀ j, j ≠ σ.nx → obj j σ' = obj j σ := by
  obtain ⟨Hh, n⟩ := σ
  obtain ⟨⟨H1, n1⟩, h1, h2, h3, h4⟩ := setO_spec n o ⟨Hh, n⟩
  have h5 : new o ⟨Hh, n⟩ κ = setO n o ⟨Hh, n⟩ (fun σ => stC σ fun H _ => inc8 n (fun m => κ n ⟨H, m⟩) no) := rfl
  rw [h5, h1] at h
  have h6 : (stC (⟨H1, n1⟩ : St) fun H _ => inc8 n (fun m => κ n ⟨H, m⟩) no) = inc8 n (fun m => κ n ⟨H1, m⟩) no := rfl
  rw [h6] at h
  rcases inc8_spec n (fun m => κ n ⟨H1, m⟩) no with e | ⟨j, e, hj⟩
  · rw [e] at h; cases h
  · rw [e] at h
    exact ⟨⟨H1, j⟩, h, hj, h3, h4⟩
end Go.Ex
namespace Go.Ex
open Go.Mo
set_option linter.unusedVariables false
set_option linter.constructorNameAsVariable false
def opdLt : Operand → Bool
  | .tmp t => Nat.blt t 250
  | _ => true
def opdsLt (o : Oper) : Bool := o.op.operands.toList.all opdLt
def noRF : Code → Bool
  | .seq a b => noRF a && noRF b
  | .cond _ a b => noRF a && noRF b
  | .block _ c => noRF c
  | .loop c => noRF c
  | .rangeFunc .. => false
  | .region _ ops _ => noDefer ops
  | _ => true
def guardOK (loc : Nat) (ops : Array Oper) (o : Oper) : Bool := match o.guard with
  | none => true
  | some (j, _) => match (ops[j]?).bind (·.dst) with
    | some t => Nat.blt t 250 && !Nat.testBit loc t
    | none => false
def skips (op : Op) : Bool := match op with
  | .store .. | .mapUpdate .. | .entryStore .. | .insert .. | .defer _ => true
  | _ => false
def opOK (loc n : Nat) (ops : Array Oper) (o : Oper) : Bool :=
  (!skips o.op || o.dst.isNone) && (match o.dst with | some d => Nat.blt d n | none => true) && (opdsLt o && guardOK loc ops o)
def notW (ops : List Oper) (d : Nat) (r : List Nat) : Bool := r.all fun j => match ops[j]? with
  | some o => o.dst != some d
  | none => true
def loadFree (ops : List Oper) (i : Nat) (ir r : List Nat) : Bool := match ops[i]? with
  | some o => (match o.dst with
    | some d => Nat.blt d 250 && notW ops d r
    | none => false) && o.op.operands.toList.all fun x => match x with
    | .tmp t => notW ops t ir
    | _ => true
  | none => false
def isK (P : Program) (loc : Nat) (ops : Array Oper) (k : Dk) (i : Nat) : Bool := match k, dkI P loc ops.toList i with
  | .p, .p | .l, .l | .m, .m | .z, .z => true
  | _, _ => false
def earlyI (P : Program) (loc : Nat) (ops : Array Oper) (i : Nat) : Bool := match ops[i]? with
  | some o => isNew (xOf (loc, []) P o) && (o.guard.isNone && o.dst.isSome)
  | none => false
def sepE (ops : List Oper) (j : Nat) : List (Dk × Nat) → Bool
  | [] => true
  | (_, i) :: r => match Nat.beq i j with
    | true => true
    | false => (match ops[j]? with
      | some oj => oj.op.operands.toList.all fun x => match x with
        | .tmp t => notW ops t [i]
        | _ => true
      | none => false) && sepE ops j r
def drawS (P : Program) (loc : Nat) (ops : Array Oper) : Option Nat → List (Dk × Nat) → Array Bool → Bool
  | b, [], listed => (Region.ready .any ops listed).isEmpty && b.isNone
  | b, (k, i) :: r, listed => match k with
    | .e => b.isNone && (Region.ready .any ops listed).contains i && earlyI P loc ops i && isK P loc ops .m i && sepE ops.toList i r && drawS P loc ops (some i) r listed
    | .p => isK P loc ops .p i && Region.free .any ops listed i && (Region.ready .any ops listed).contains i && drawS P loc ops b r (listed.setIfInBounds i true)
    | .l => isK P loc ops .l i && Region.free .any ops listed i && (Region.ready .any ops listed).contains i && loadFree ops.toList i (i :: r.map (·.2)) (r.map (·.2)) && drawS P loc ops b r (listed.setIfInBounds i true)
    | k => isK P loc ops k i && (match b with
      | none => Region.ready .any ops listed == [i] && drawS P loc ops none r (listed.setIfInBounds i true)
      | some j => match Nat.beq i j with
        | true => Region.ready .any ops listed == [i] && drawS P loc ops none r (listed.setIfInBounds i true)
        | false => Region.ready .any ops listed == [i, j] && (Region.ready .any ops (listed.setIfInBounds j true) == [i] && Region.free .any ops listed i) && drawS P loc ops b r (listed.setIfInBounds i true))
def counts : List (Dk × Nat) → Nat
  | [] => 0
  | (.e, _) :: r => counts r
  | _ :: r => counts r + 1
def drawOK (P : Program) (loc : Nat) (ops : Array Oper) : Bool :=
  let l := plan P loc ops.toList (order P loc ops.toList ops.size []) []
  noDefer ops && Region.noSelect ops && drawS P loc ops none l (Array.replicate ops.size false) && Nat.ble (counts l) ops.size && P.follows .mixedOrders
def regOK (P : Program) (loc n : Nat) (ops : Array Oper) (draw : Bool) : Bool := ops.toList.all (opOK loc n ops) && (!draw || drawOK P loc ops)
def okC (P : Program) (loc n : Nat) : Code → Bool
  | .seq a b => okC P loc n a && okC P loc n b
  | .cond x a b => opdLt x && (okC P loc n a && okC P loc n b)
  | .block _ c => okC P loc n c
  | .loop c => okC P loc n c
  | .region _ ops draw => regOK P loc n ops draw
  | .rangeFunc f ps a b => opdLt f && (ps.toList.all (fun p => Nat.blt p n) && (okC P loc n a && okC P loc n b)) && (noRF a && noRF b)
  | .skip | .ret | .exit _ => true
  | _ => false
def resOK (loc : Nat) : ResultVar → Bool
  | .tmp t => Nat.blt t 250 && !Nat.testBit loc t
  | .cell t _ => Nat.blt t 250 && !Nat.testBit loc t
def okF (P : Program) (loc : Nat) (f : Func) (c : Code) : Bool := Nat.ble f.ntmps 250 && (okC P loc f.ntmps c && (f.results.toList.all fun r => resOK loc r && (match r with
  | .tmp _ => true
  | .cell _ t => (agg P t).isSome && (size P t).isSome)))
end Go.Ex
namespace Go.Ex
open Go.Mo
set_option linter.unusedVariables false
set_option linter.constructorNameAsVariable false
instance : DecidableEq Id := fun i j => if h : idN i = idN j then .isTrue (idN_inj h) else .isFalse fun e => h (e ▸ rfl)
abbrev Rho := Id → Option (Nat × Nat)
def Rho.le (ρ ρ' : Rho) : Prop := ∀ i p, ρ i = some p → ρ' i = some p
theorem Rho.le_refl (ρ : Rho) : ρ.le ρ := fun _ _ h => h
theorem Rho.le.trans {ρ ρ' ρ'' : Rho} (h : ρ.le ρ') (h' : ρ'.le ρ'') : ρ.le ρ'' := fun i p hp => h' i p (h i p hp)
mutual
inductive VR (ξ : Nat → Int) (ρ : Rho) : V → Value → Prop
  | n (a : Nat) : VR ξ ρ (.n a) (.int .i64 (.ofNat a))
  | u (a : Nat) : VR ξ ρ (.u a) (.int .u8 (.ofNat a))
  | b (x : Bool) : VR ξ ρ (.b x) (.bool x)
  | p {i : Id} {o b c : Nat} (h : ρ i = some (b, c)) : VR ξ ρ (.p i o) (.pointer (some ⟨b, o, none⟩))
  | s {i : Id} {o l c b d : Nat} (h : ρ i = some (b, d)) : VR ξ ρ (.s i o l c) (.slice (some ⟨b, o, none⟩) l c)
  | q {i : Id} {l b c : Nat} (h : ρ i = some (b, c)) (hl : l ≤ c) : VR ξ ρ (.q i l) (.slice (some ⟨b, 0, none⟩) l c)
  | k (v : Value) : VR ξ ρ (.w (.k v)) v
  | r {i : Id} {o l b d c : Nat} (h : ρ i = some (b, d)) (hl : l ≤ c) : VR ξ ρ (.w (.r i o l)) (.slice (some ⟨b, o, none⟩) l c)
  | z (ad : Addr) (c : Nat) : VR ξ ρ (.w .z) (.slice (some ad) 0 c)
  | m {i : Id} {b c : Nat} (h : ρ i = some (b, c)) : VR ξ ρ (.w (.m i)) (.map (some b))
  | f {g : Fn} {fs cs : List V} {us vs : List Value} (h1 : VRs ξ ρ fs us) (h2 : VRs ξ ρ cs vs) : VR ξ ρ (.w (.f g fs cs)) (.func g us.toArray vs.toArray)
  | y {i : Id} {b c : Nat} (h : ρ i = some (b, c)) : VR ξ ρ (.w (.y i)) (.func (.yield b) #[] #[])
  | i {t : TypeId} {v : V} {u : Value} (h : VR ξ ρ v u) : VR ξ ρ (.w (.i t v)) (.iface t u)
  | a {vs : List V} {us : List Value} (h : VRs ξ ρ vs us) : VR ξ ρ (.w (.a vs)) (.agg us.toArray)
  | t {vs : List V} {us : List Value} (h : VRs ξ ρ vs us) : VR ξ ρ (.w (.t vs)) (.tuple us.toArray)
  | x (j : Nat) : VR ξ ρ (.w (.x j)) (.int .i64 (ξ j))
  | any (v : Value) : VR ξ ρ (.w .any) v
inductive VRs (ξ : Nat → Int) (ρ : Rho) : List V → List Value → Prop
  | nil : VRs ξ ρ [] []
  | cons {v : V} {u : Value} {vs : List V} {us : List Value} (h : VR ξ ρ v u) (r : VRs ξ ρ vs us) : VRs ξ ρ (v :: vs) (u :: us)
end
section
variable {ξ : Nat → Int} {ρ ρ' : Rho}
mutual
theorem VR.mono (hl : ρ.le ρ') {v : V} {u : Value} (h : VR ξ ρ v u) : VR ξ ρ' v u := by
  cases h with
  | n a => exact .n a
  | u a => exact .u a
  | b x => exact .b x
  | p h => exact .p (hl _ _ h)
  | s h => exact .s (hl _ _ h)
  | q h h' => exact .q (hl _ _ h) h'
  | k => exact .k _
  | r h h' => exact .r (hl _ _ h) h'
  | z ad c => exact .z ad c
  | m h => exact .m (hl _ _ h)
  | f h1 h2 => exact .f (VRs.mono hl h1) (VRs.mono hl h2)
  | y h => exact .y (hl _ _ h)
  | i h => exact .i (VR.mono hl h)
  | a h => exact .a (VRs.mono hl h)
  | t h => exact .t (VRs.mono hl h)
  | x j => exact .x j
  | any => exact .any _
theorem VRs.mono (hl : ρ.le ρ') {v : List V} {u : List Value} (h : VRs ξ ρ v u) : VRs ξ ρ' v u := by
  cases h with
  | nil => exact .nil
  | cons h r => exact .cons (VR.mono hl h) (VRs.mono hl r)
end
theorem VRs.length {vs : List V} {us : List Value} (h : VRs ξ ρ vs us) : vs.length = us.length := by
  induction vs generalizing us with
  | nil => cases h; rfl
  | cons v vs ih => cases h with | cons h r => simp [ih r]
theorem VRs.append {vs vs' : List V} {us us' : List Value} (h : VRs ξ ρ vs us) (h' : VRs ξ ρ vs' us') : VRs ξ ρ (vs ++ vs') (us ++ us') := by
  induction vs generalizing us with
  | nil => cases h; exact h'
  | cons v vs ih => cases h with | cons h r => exact .cons h (ih r)
theorem VRs.get {vs : List V} {us : List Value} (h : VRs ξ ρ vs us) {n : Nat} {v : V} (hv : vs[n]? = some v) : ∃ u, us[n]? = some u ∧ VR ξ ρ v u := by
  induction vs generalizing us n with
  | nil => cases hv
  | cons x vs ih =>
    cases h with
    | cons h r =>
      cases n with
      | zero => simp at hv; subst hv; exact ⟨_, rfl, h⟩
      | succ n => simpa using ih r (by simpa using hv)
theorem VRs.drop {vs : List V} {us : List Value} (h : VRs ξ ρ vs us) (n : Nat) : VRs ξ ρ (vs.drop n) (us.drop n) := by
  induction vs generalizing us n with
  | nil => cases h; simp; exact .nil
  | cons x vs ih =>
    cases h with
    | cons h r => cases n with
      | zero => exact .cons h r
      | succ n => simpa using ih r n
theorem VRs.take {vs : List V} {us : List Value} (h : VRs ξ ρ vs us) (n : Nat) : VRs ξ ρ (vs.take n) (us.take n) := by
  induction vs generalizing us n with
  | nil => cases h; simp; exact .nil
  | cons x vs ih =>
    cases h with
    | cons h r => cases n with
      | zero => exact .nil
      | succ n => simpa using VRs.cons h (ih r n)
theorem viewL {d : Nat} (ih : ∀ v, VR ξ ρ (viewF d v) v) (l : List Value) : VRs ξ ρ (l.map (viewF d)) l := by
  induction l with
  | nil => exact .nil
  | cons x l h => exact .cons (ih x) h
theorem view_ok : ∀ (d : Nat) (v : Value), VR ξ ρ (viewF d v) v := by
  intro d
  induction d with
  | zero => intro v; unfold viewF; split <;> first | exact .n _ | exact .u _ | exact .b _ | exact .k _ | contradiction
  | succ d ih =>
    intro v
    unfold viewF
    split
    · exact .n _
    · exact .u _
    · exact .b _
    · rename_i d' cs he
      cases he
      have := VR.a (viewL (ξ := ξ) (ρ := ρ) ih (Array.toList cs))
      simpa using this
    · exact .k _
structure ER (ξ : Nat → Int) (ρ : Rho) (e : V × V × Nat) (m : MapEntry) : Prop where
  key : VR ξ ρ e.1 m.key
  val : VR ξ ρ e.2.1 m.val
  born : m.born = e.2.2
inductive ERs (ξ : Nat → Int) (ρ : Rho) : List (V × V × Nat) → List MapEntry → Prop
  | nil : ERs ξ ρ [] []
  | cons {e : V × V × Nat} {m : MapEntry} {es : List (V × V × Nat)} {ms : List MapEntry} (h : ER ξ ρ e m) (r : ERs ξ ρ es ms) : ERs ξ ρ (e :: es) (m :: ms)
theorem ER.mono (hl : ρ.le ρ') {e : V × V × Nat} {m : MapEntry} (h : ER ξ ρ e m) : ER ξ ρ' e m := ⟨h.key.mono hl, h.val.mono hl, h.born⟩
theorem ERs.mono (hl : ρ.le ρ') {es : List (V × V × Nat)} {ms : List MapEntry} (h : ERs ξ ρ es ms) : ERs ξ ρ' es ms := by
  induction h with
  | nil => exact .nil
  | cons h r ih => exact .cons (h.mono hl) ih
def TR (ξ : Nat → Int) (ρ : Rho) (loc : Nat) (T : TT) (tmps : Array Value) : Prop := ∀ t, t < 250 → Nat.testBit loc t = false → VR ξ ρ (g16 (ixOf t) T).v (tmps.getD t undef)
theorem TR.mono (hl : ρ.le ρ') {loc : Nat} {T : TT} {tmps : Array Value} (h : TR ξ ρ loc T tmps) : TR ξ ρ' loc T tmps := fun t ht hc => (h t ht hc).mono hl
def LSR : LS → LoopState → Prop
  | .ready, .ready | .busy, .busy | .done, .done | .exhausted, .exhausted => True
  | _, _ => False
def JR : Option J → Option Code → Prop
  | none, none => True
  | some .r, some .ret => True
  | some (.x i), some (.exit j) => i = j
  | _, _ => False
structure LR (P : Program) (ξ : Nat → Int) (ρ : Rho) (loc : Nat) (T : TT) (ps : List Ix) (asg body : XC) (st : LS) (pend : Option J) (r : Loop) : Prop where
  tmps : TR ξ ρ loc T r.tmps
  params : r.params.toList.map ixOf = ps
  small : ∀ p ∈ r.params.toList, p < r.tmps.size
  size : r.tmps.size ≤ 250
  asg : cC P loc r.assign = asg
  body : cC P loc r.body = body
  ok : okC P loc r.tmps.size r.assign = true ∧ okC P loc r.tmps.size r.body = true ∧ noRF r.assign = true ∧ noRF r.body = true
  state : LSR st r.state
  pend : JR pend r.pending
inductive OR (P : Program) (ξ : Nat → Int) (ρ : Rho) (cap : Nat) : O → Option Obj → Prop
  | no (x : Option Obj) : OR P ξ ρ cap .no x
  | c {cs : List V} {us : List Value} {elem : TypeId} (h : VRs ξ ρ cs us) (h1 : ∀ u ∈ us, u.oneCell' = true) : OR P ξ ρ cap (.c cs 0) (some (.cells us.toArray elem))
  | e {cs : List V} {us rest : List Value} {sz : Nat} {elem : TypeId} (h : VRs ξ ρ cs us) (h1 : ∀ u ∈ us, u.oneCell' = true) (hl : us.length + rest.length = cap * (sz + 1)) : OR P ξ ρ cap (.c cs (sz + 1)) (some (.cells (us ++ rest).toArray elem))
  | m {es : List (V × V × Nat)} {ms : List MapEntry} {clock : Nat} (h : ERs ξ ρ es ms) : OR P ξ ρ cap (.m es clock) (some (.map ms.toArray clock))
  | it0 {since last : Nat} {seen : List Nat} : OR P ξ ρ cap (.it none since seen last) (some (.mapIter none since seen.reverse.toArray last))
  | it {i : Id} {b c since last : Nat} {seen : List Nat} (h : ρ i = some (b, c)) : OR P ξ ρ cap (.it (some i) since seen last) (some (.mapIter (some b) since seen.reverse.toArray last))
  | lp {T : TT} {ps : List Ix} {asg body : XC} {st : LS} {pend : Option J} {r : Loop} {loc : Nat} (h : LR P ξ ρ loc T ps asg body st pend r) : OR P ξ ρ cap (.lp T ps asg body st pend) (some (.loop r))
  | df0 : OR P ξ ρ cap (.df false) (some (.deferred (some [])))
  | df1 : OR P ξ ρ cap (.df true) (some (.deferred none))
theorem OR.mono {P : Program} (hl : ρ.le ρ') {cap : Nat} {o : O} {x : Option Obj} (h : OR P ξ ρ cap o x) : OR P ξ ρ' cap o x := by
  cases h with
  | no x => exact .no x
  | c h h1 => exact .c (h.mono hl) h1
  | e h h1 h' => exact .e (h.mono hl) h1 h'
  | m h => exact .m (h.mono hl)
  | it0 => exact .it0
  | it h => exact .it (hl _ _ h)
  | lp h => exact .lp ⟨h.tmps.mono hl, h.params, h.small, h.size, h.asg, h.body, h.ok, h.state, h.pend⟩
  | df0 => exact .df0
  | df1 => exact .df1
end
structure Kp where
  kept : Nat → Option Obj
  os : Os
  output : Array (Nat × ByteArray)
def Kp.of (W : World) : Kp := ⟨fun b => W.heap[b]?, W.os, W.output⟩
def Kp.and (W : Kp) (b : Nat) (ob : Obj) : Kp := { W with kept := fun c => if c = b then some ob else W.kept c }
structure Rel (P : Program) (W : Kp) (ξ : Nat → Int) (ρ : Rho) (σ : St) (w : World) : Prop where
  dom : ∀ i p, ρ i = some p → idN i < idN σ.nx ∧ W.kept p.1 = none ∧ p.1 < w.heap.size
  inj : ∀ i j p q, ρ i = some p → ρ j = some q → p.1 = q.1 → obj i σ ≠ .no → obj j σ ≠ .no → i = j
  ob : ∀ i p, ρ i = some p → OR P ξ ρ p.2 (obj i σ) w.heap[p.1]?
  frame : ∀ b ob, W.kept b = some ob → w.heap[b]? = some ob
  os : w.os = W.os
  out : w.output = W.output
section
variable {P : Program} {W : Kp} {ξ : Nat → Int} {ρ : Rho} {σ : St} {w : World}
theorem Rel.draw (h : Rel P W ξ ρ σ w) (n : Nat) : Rel P W ξ ρ σ { w with drawn := n } := ⟨h.dom, h.inj, h.ob, h.frame, h.os, h.out⟩
def Rho.put (ρ : Rho) (i : Id) (p : Nat × Nat) : Rho := fun j => if j = i then some p else ρ j
end
end Go.Ex
namespace Go.Ex
open Go.Mo
set_option linter.unusedVariables false
set_option linter.constructorNameAsVariable false
theorem dgN_dgOf (n : Nat) : dgN (dgOf n) = n % 4 := by
  have : n % 4 < 4 := Nat.mod_lt _ (by decide)
  have h : n % 4 = 0 ∨ n % 4 = 1 ∨ n % 4 = 2 ∨ n % 4 = 3 := by omega
  rcases h with h | h | h | h <;> simp [dgOf, h, dgN]
def ixN (i : Ix) : Nat := dgN i.a + 4 * (dgN i.b + 4 * (dgN i.c + 4 * dgN i.d))
theorem ixN_ixOf {n : Nat} (h : n < 256) : ixN (ixOf n) = n := by
  simp only [ixN, ixOf, dgN_dgOf]
  omega
theorem ixOf_inj {m n : Nat} (hm : m < 256) (hn : n < 256) (h : ixOf m = ixOf n) : m = n := by
  rw [← ixN_ixOf hm, ← ixN_ixOf hn, h]
theorem ixDs_eq : ixDs = ixOf 254 := rfl
theorem ixPn_eq : ixPn = ixOf 255 := rfl
section
variable {ξ : Nat → Int} {ρ ρ' : Rho} {T : TT} {a : Act} {loc : Nat}
theorem TR.put {d : Nat} {v : V} {u : Value} (h : TR ξ ρ loc T a.tmps) (hv : VR ξ ρ v u) (hd : d < 250) (hs : d < a.tmps.size) {R : Type} (κ : TT → R) :
    ∃ T', put16 (ixOf d) ⟨v⟩ T κ = κ T' ∧ TR ξ ρ loc T' (a.put (some d) u).tmps ∧ (∀ t, 250 ≤ t → t < 256 → g16 (ixOf t) T' = g16 (ixOf t) T) := by
  obtain ⟨T', h1, h2, h3⟩ := put16_spec (ixOf d) (⟨v⟩ : Lf) T
  refine ⟨T', h1 R κ, fun t ht hc => ?_, fun t ht ht' => h3 _ fun e => ?_⟩
  · by_cases e : t = d
    · subst e
      rw [h2]
      simpa [Act.put, Array.getD_eq_getD_getElem?, hs] using hv
    · rw [h3 _ fun e' => e (ixOf_inj (by omega) (by omega) e')]
      have := h t ht hc
      have hg : (a.put (some d) u).tmps.getD t undef = a.tmps.getD t undef := by
        simp only [Act.put, Array.getD_eq_getD_getElem?]
        rw [Array.getElem?_setIfInBounds_ne (fun e' => e e'.symm)]
      rw [hg]
      exact this
  · have := ixOf_inj (by omega) (by omega) e
    omega
def SR (ξ : Nat → Int) (ρ : Rho) (T : TT) (s : List (Nat × A)) (tmps : Array Value) : Prop := ∀ t A, (t, A) ∈ s → VR ξ ρ (ev T A) (tmps.getD t undef)
theorem SR.mono (hl : ρ.le ρ') {s : List (Nat × A)} {tmps : Array Value} (h : SR ξ ρ T s tmps) : SR ξ ρ' T s tmps := fun t A hA => (h t A hA).mono hl
theorem SR.nil {tmps : Array Value} : SR ξ ρ T [] tmps := fun _ _ h => by cases h
theorem atL_ok {s : List (Nat × A)} (h : TR ξ ρ loc T a.tmps) (hs : SR ξ ρ T s a.tmps) {t : Nat} (ht : t < 250) : VR ξ ρ (ev T (atL loc s t)) (a.tmps.getD t undef) := by
  induction s with
  | nil =>
    unfold atL
    split
    · exact .any _
    · rename_i e
      exact h t ht e
  | cons p s ih =>
    obtain ⟨u, A⟩ := p
    unfold atL
    split
    · rename_i e
      have : u = t := Nat.eq_of_beq_eq_true e
      subst this
      exact hs u A (by simp)
    · exact ih fun t A hA => hs t A (by simp [hA])
theorem atS_ok {s : Sb} (h : TR ξ ρ s.1 T a.tmps) (hs : SR ξ ρ T s.2 a.tmps) {t : Nat} (ht : t < 250) : VR ξ ρ (ev T (atS s t)) (a.tmps.getD t undef) := atL_ok h hs ht
theorem cA_ok {s : Sb} (h : TR ξ ρ s.1 T a.tmps) (hs : SR ξ ρ T s.2 a.tmps) {x : Operand} {A : A} (hx : cA s x = some A) (hl : opdLt x = true) : VR ξ ρ (ev T A) (a.eval x) := by
  cases x with
  | tmp t =>
    simp only [cA, Option.some.injEq] at hx
    subst hx
    exact atS_ok h hs (by simpa [opdLt] using hl)
  | const v =>
    simp only [cA, Option.some.injEq] at hx
    subst hx
    exact view_ok 3 v
  | func f =>
    simp only [cA, Option.some.injEq] at hx
    subst hx
    exact VR.f .nil .nil
  | global g => cases hx
theorem evK_eq {R : Type} (T : TT) (x : A) (κ : V → R) : evK T x κ = κ (ev T x) := by
  cases x with
  | t i => rfl
  | v v => rfl
end
end Go.Ex
namespace Go.Ex
open Go.Mo
set_option linter.unusedVariables false
set_option linter.constructorNameAsVariable false
set_option linter.unusedSimpArgs false
theorem pureRun_ok {α : Type} {P : Program} : ∀ {s : Sem α} {a : α}, pureRun P s = some a → ∀ w, s.run P w = .ok a w
  | .pure b, a, h, w => by
    simp only [pureRun, Option.some.injEq] at h
    subst h
    rfl
  | .program k, a, h, w => by
    have := pureRun_ok (s := k P) (by simpa [pureRun] using h) w
    simpa [Sem.run] using this
  | .load .., _, h, _ => by cases h
  | .store .., _, h, _ => by cases h
  | .new .., _, h, _ => by cases h
  | .shape .., _, h, _ => by cases h
  | .freeze .., _, h, _ => by cases h
  | .frozen .., _, h, _ => by cases h
  | .getObj .., _, h, _ => by cases h
  | .setObj .., _, h, _ => by cases h
  | .choose .., _, h, _ => by cases h
  | .sys .., _, h, _ => by cases h
  | .mark .., _, h, _ => by cases h
  | .halt .., _, h, _ => by cases h
theorem natC_eq {β : Type} (a : Nat) (κ : Nat → β) : natC a (κ 0) (fun m => κ (Nat.succ m)) = κ a := by cases a <;> rfl
section
variable {d : Ix} {T : TT} {σ : St} {κ : KN}
theorem putN_eq (a : Nat) : putN d a T σ κ = putV d (.n a) T σ κ := by cases a <;> rfl
theorem putU_eq (a : Nat) : putU d a T σ κ = putV d (.u a) T σ κ := by cases a <;> rfl
theorem putB_eq (x : Bool) : putB d x T σ κ = putV d (.b x) T σ κ := by cases x <;> rfl
theorem putP_eq (b : Id) (o : Nat) : putP d b o T σ κ = putV d (.p b o) T σ κ := by cases o <;> rfl
theorem frcV_eq {R : Type} (v : V) (κ : V → R) : frcV v κ = κ v := by
  cases v with
  | n a => cases a <;> rfl
  | u a => cases a <;> rfl
  | b x => cases x <;> rfl
  | p i o => cases o <;> rfl
  | s i o l c => rfl
  | q i l => rfl
  | w x => rfl
theorem putD_eq (v : V) : putD d v T σ κ = putV d v T σ κ := frcV_eq v _
theorem putO_eq {v : Option V} (h : putO d v T σ κ = true) : ∃ x, v = some x ∧ putV d x T σ κ = true := by
  cases v with
  | none => cases h
  | some x => exact ⟨x, rfl, by rw [← putD_eq]; exact h⟩
theorem booC_t {x : Bool} {t f : Ans} (h : booC x t f = true) : x = true ∧ t = true ∨ x = false ∧ f = true := by
  cases x
  · exact .inr ⟨rfl, h⟩
  · exact .inl ⟨rfl, h⟩
theorem booC_no {x : Bool} {f : Ans} (h : booC x no f = true) : x = false ∧ f = true := by
  cases x
  · exact ⟨rfl, h⟩
  · cases h
theorem booC_yes {x : Bool} {t : Ans} (h : booC x t no = true) : x = true ∧ t = true := by
  cases x
  · cases h
  · exact ⟨rfl, h⟩
theorem natC_no {a : Nat} {s : Nat → Ans} (h : natC a no s = true) : ∃ m, a = m + 1 ∧ s m = true := by
  cases a with
  | zero => cases h
  | succ m => exact ⟨m, rfl, h⟩
end
def Yl (P : Program) (ξ : Nat → Int) (ρ : Rho) (o : Oper) (a : Act) (d : Ix) (T : TT) (σ : St) (κ : KN) : Prop :=
  ∃ x v, (∀ w, (execOp a.eval o).run P w = .ok (.value v) w) ∧ VR ξ ρ x v ∧ putV d x T σ κ = true
section
variable {P : Program} {ξ : Nat → Int} {ρ : Rho} {o : Oper} {a : Act} {d : Ix} {T : TT} {σ : St} {κ : KN} {κp : K} {s : Sb}
theorem Yl.mk (x : V) (v : Value) (hr : ∀ w, (execOp a.eval o).run P w = .ok (.value v) w) (hv : VR ξ ρ x v) (hp : putV d x T σ κ = true) : Yl P ξ ρ o a d T σ κ := ⟨x, v, hr, hv, hp⟩
theorem exL_ok {f : V → Option Value} (hf : ∀ x v u, f x = some v → VR ξ ρ x u → u = v) : ∀ (l : List V) (r us : List Value), exL f l = some r → VRs ξ ρ l us → us = r
  | [], r, us, h, hu => by
    simp only [exL, Option.some.injEq] at h
    subst h
    cases hu
    rfl
  | v :: l, r, us, h, hu => by
    simp only [exL] at h
    split at h
    · rename_i a b e1 e2
      simp only [Option.some.injEq] at h
      subst h
      cases hu with
      | cons h1 h2 => rw [hf _ _ _ e1 h1, exL_ok hf l _ _ e2 h2]
    · cases h
theorem exV_ok : ∀ (d : Nat) (x : V) (v u : Value), exV d x = some v → VR ξ ρ x u → u = v := by
  intro d
  induction d with
  | zero =>
    intro x v u h hx
    unfold exV at h
    split at h <;> first | contradiction | (simp only [Option.some.injEq] at h; subst h; cases hx; rfl) | (cases h)
  | succ d ih =>
    intro x v u h hx
    unfold exV at h
    split at h
    · simp only [Option.some.injEq] at h; subst h; cases hx; rfl
    · simp only [Option.some.injEq] at h; subst h; cases hx; rfl
    · simp only [Option.some.injEq] at h; subst h; cases hx; rfl
    · simp only [Option.some.injEq] at h; subst h; cases hx; rfl
    · rename_i he
      cases he
      split at h
      · rename_i us e
        simp only [Option.some.injEq] at h
        subst h
        cases hx with
        | a hs => rw [exL_ok ih _ _ _ e hs]
      · cases h
    · rename_i he
      cases he
      split at h
      · rename_i us e
        simp only [Option.some.injEq] at h
        subst h
        cases hx with
        | i hs => rw [ih _ _ _ e hs]
      · cases h
    · cases h
theorem gen_ok {x : V} {g : G} (ht : TR ξ ρ g.s.1 T a.tmps) (hs : SR ξ ρ T g.s.2 a.tmps) (hl : g.o.op.operands.toList.all opdLt = true) (hsel : ∀ cs b, g.o.op ≠ .select cs b) (h : gen P T g = some x) :
    ∃ v, (∀ w, (execOp a.eval g.o).run P w = .ok (.value v) w) ∧ VR ξ ρ x v := by
  unfold gen at h
  split at h
  · rename_i hall
    split at h
    · rename_i v hv
      simp only [Option.some.injEq] at h
      subst h
      refine ⟨v, fun w => ?_, view_ok 1 v⟩
      have hc : execOp a.eval g.o = execOp (rhoE T g.s) g.o := by
        refine execOp_congr g.o (fun cs b e => absurd e (hsel cs b)) fun y hy => ?_
        have h1 := List.all_eq_true.1 hall y (by simpa using hy)
        have h2 := List.all_eq_true.1 hl y (by simpa using hy)
        cases y with
        | const v => rfl
        | tmp t =>
          simp only [exOp, Option.isSome_iff_exists] at h1
          obtain ⟨z, hz⟩ := h1
          have := atS_ok (a := a) ht hs (t := t) (by simpa [opdLt] using h2)
          rw [show a.eval (.tmp t) = a.tmps.getD t undef from rfl, exV_ok _ _ _ _ hz this]
          simp [rhoE, hz]
        | global g => cases h1
        | func f => cases h1
      rw [hc]
      exact pureRun_ok hv w
    · cases h
  · cases h
theorem VR.n_inv {m : Nat} {u : Value} (h : VR ξ ρ (.n m) u) : u = .int .i64 (.ofNat m) := by cases h; rfl
theorem VR.u_inv {m : Nat} {u : Value} (h : VR ξ ρ (.u m) u) : u = .int .u8 (.ofNat m) := by cases h; rfl
theorem VR.b_inv {x : Bool} {u : Value} (h : VR ξ ρ (.b x) u) : u = .bool x := by cases h; rfl
theorem VR.p_inv {i : Id} {n : Nat} {u : Value} (h : VR ξ ρ (.p i n) u) : ∃ b c, ρ i = some (b, c) ∧ u = .pointer (some ⟨b, n, none⟩) := by cases h with | p h => exact ⟨_, _, h, rfl⟩
theorem VR.x_inv {j : Nat} {u : Value} (h : VR ξ ρ (.w (.x j)) u) : u = .int .i64 (ξ j) := by cases h; rfl
theorem VR.k_inv {v u : Value} (h : VR ξ ρ (.w (.k v)) u) : u = v := by cases h; rfl
theorem mv_ok {x : A} {y : Operand} (ho : o.op = .move y ∨ o.op = .assign y) (hx : VR ξ ρ (ev T x) (a.eval y)) {C : Cx} (h : oMv x d C T σ κ κp = true) : Yl P ξ ρ o a d T σ κ := by
  unfold oMv at h
  rw [evK_eq] at h
  refine .mk _ _ (fun w => ?_) hx h
  unfold execOp
  rcases ho with ho | ho <;> rw [ho] <;> rfl
theorem vB_t {v : V} {t f : Ans} (h : vB v t f = true) : v = .b true ∧ t = true ∨ v = .b false ∧ f = true := by
  cases v with
  | b x => cases x
           · exact .inr ⟨rfl, h⟩
           · exact .inl ⟨rfl, h⟩
  | _ => cases h
theorem pk_ok {c x y : A} {c' x' y' : Operand} (ho : o.op = .pick c' x' y') (hc : VR ξ ρ (ev T c) (a.eval c')) (hx : VR ξ ρ (ev T x) (a.eval x')) (hy : VR ξ ρ (ev T y) (a.eval y')) {C : Cx} (h : oPk c x y d C T σ κ κp = true) : Yl P ξ ρ o a d T σ κ := by
  unfold oPk at h
  rw [evK_eq] at h
  rcases vB_t h with ⟨e, h⟩ | ⟨e, h⟩
  · rw [evK_eq] at h
    rw [e] at hc
    refine .mk _ _ (fun w => ?_) hx h
    unfold execOp
    rw [ho]
    simp [asBool, hc.b_inv]
  · rw [evK_eq] at h
    rw [e] at hc
    refine .mk _ _ (fun w => ?_) hy h
    unfold execOp
    rw [ho]
    simp [asBool, hc.b_inv]
theorem wrap_id {n : Nat} (h : n < lim) : IntKind.i64.wrap (Int.ofNat n) = Int.ofNat n := by
  unfold lim at h
  have e : (Int.ofNat n) = (n : Int) := rfl
  have h1 : (n : Int) % 18446744073709551616 = n := Int.emod_eq_of_lt (by omega) (by omega)
  simp only [IntKind.wrap, IntKind.bits, IntKind.signed, e]
  simp only [show ((2 : Int) ^ 64) = 18446744073709551616 from by decide, show ((2 : Int) ^ (64 - 1)) = 9223372036854775808 from by decide, h1]
  rw [if_neg (by simp; omega)]
theorem ble_f {m n : Nat} (h : Nat.ble m n = false) : n < m := by
  rcases Nat.lt_or_ge n m with h' | h'
  · exact h'
  · rw [Nat.ble_eq_true_of_le h'] at h; cases h
theorem ble_t {m n : Nat} (h : Nat.ble m n = true) : m ≤ n := Nat.le_of_ble_eq_true h
theorem run_bin {op : BinOp} {t yt : TypeId} {x y : Operand} {k : IntKind} {m n : Int} {v : Value} (ho : o.op = .binOp op t x y yt) (hx : a.eval x = .int k m) (hy : a.eval y = .int k n)
    (hs : op ≠ .shl) (hs' : op ≠ .shr) (hv : (match op with
      | .add | .sub | .mul => Op.intArith op k m n
      | .quo | .rem => Op.intDiv op k m n
      | .and | .or | .xor | .andNot => Op.intBits op k m n
      | _ => Op.intCmp op m n) = .pure v) (w : World) : (execOp a.eval o).run P w = .ok (.value v) w := by
  unfold execOp
  rw [ho]
  simp only [hx, hy]
  cases op <;> simp [eqGuard, binOp] at hs hs' hv ⊢ <;> rw [hv] <;> simp [Sem.run]
theorem cI_of {op : BinOp} {t yt : TypeId} {x y : Operand} {m n : Nat} {C : Cx} {g : G} (hP : C.E.P = P) (ho : o.op = .binOp op t x y yt) (hx : a.eval x = .int .i64 (.ofNat m)) (hy : a.eval y = .int .i64 (.ofNat n))
    (hg : g.o = o) (ht : TR ξ ρ g.s.1 T a.tmps) (hs : SR ξ ρ T g.s.2 a.tmps) (hl : o.op.operands.toList.all opdLt = true) (h : iN (cI op) m n g d C T σ κ = true) : Yl P ξ ρ o a d T σ κ := by
  have hgen : putO d (gen C.E.P T g) T σ κ = true → Yl P ξ ρ o a d T σ κ := fun h => by
    obtain ⟨v, e, hp⟩ := putO_eq h
    rw [hP] at e
    obtain ⟨u, h1, h2⟩ := gen_ok ht hs (by rw [hg]; exact hl) (fun cs b e => by rw [hg, ho] at e; cases e) e
    rw [hg] at h1
    exact .mk _ _ h1 h2 hp
  have hn : ∀ r : Nat, (∀ w, (execOp a.eval o).run P w = .ok (.value (.int .i64 (.ofNat r))) w) → putN d r T σ κ = true → Yl P ξ ρ o a d T σ κ := fun r hr hp =>
    .mk _ _ hr (.n r) (by rw [← putN_eq]; exact hp)
  have hb : ∀ r : Bool, (∀ w, (execOp a.eval o).run P w = .ok (.value (.bool r)) w) → putV d (.b r) T σ κ = true → Yl P ξ ρ o a d T σ κ := fun r hr hp => .mk _ _ hr (.b r) hp
  cases op
  case add =>
    obtain ⟨e, h⟩ := booC_no (show booC (Nat.ble lim (Nat.add m n)) no (putN d (Nat.add m n) T σ κ) = true from h)
    refine hn (m + n) (run_bin ho hx hy (by simp) (by simp) ?_) h
    simp only [Op.intArith]
    rw [show (Int.ofNat m + Int.ofNat n) = Int.ofNat (m + n) from rfl, wrap_id (n := m + n) (ble_f e)]
    rfl
  case sub =>
    rcases booC_t (show booC (Nat.ble n m) (booC (Nat.ble lim m) no (putN d (Nat.sub m n) T σ κ)) (putO d (gen C.E.P T g) T σ κ) = true from h) with ⟨e, h⟩ | ⟨_, h⟩
    · obtain ⟨e', h⟩ := booC_no h
      have hle := ble_t e
      have hlt := ble_f e'
      refine hn (m - n) (run_bin ho hx hy (by simp) (by simp) ?_) h
      simp only [Op.intArith]
      rw [show (Int.ofNat m - Int.ofNat n) = Int.ofNat (m - n) from by simp only [Int.ofNat_eq_natCast]; omega, wrap_id (by omega)]
      rfl
    · exact hgen h
  case mul =>
    obtain ⟨e, h⟩ := booC_no (show booC (Nat.ble lim (Nat.mul m n)) no (putN d (Nat.mul m n) T σ κ) = true from h)
    refine hn (m * n) (run_bin ho hx hy (by simp) (by simp) ?_) h
    simp only [Op.intArith]
    rw [show (Int.ofNat m * Int.ofNat n) = Int.ofNat (m * n) from rfl, wrap_id (n := m * n) (ble_f e)]
    rfl
  case quo =>
    obtain ⟨j, rfl, h⟩ := natC_no (show natC n no (fun j => booC (Nat.ble lim m) no (putN d (Nat.div m (Nat.succ j)) T σ κ)) = true from h)
    obtain ⟨e', h⟩ := booC_no h
    have hlt := ble_f e'
    refine hn (m / (j + 1)) (run_bin ho hx hy (by simp) (by simp) ?_) h
    have : m / (j + 1) ≤ m := Nat.div_le_self _ _
    simp only [Op.intDiv]
    rw [if_neg (by simp only [Int.ofNat_eq_natCast]; omega), show (Int.ofNat m).tdiv (Int.ofNat (j + 1)) = Int.ofNat (m / (j + 1)) from rfl, wrap_id (by omega)]
    rfl
  case rem =>
    obtain ⟨j, rfl, h⟩ := natC_no (show natC n no (fun j => putN d (Nat.mod m (Nat.succ j)) T σ κ) = true from h)
    refine hn (m % (j + 1)) (run_bin ho hx hy (by simp) (by simp) ?_) h
    simp only [Op.intDiv]
    rw [if_neg (by simp only [Int.ofNat_eq_natCast]; omega), show (Int.ofNat m).tmod (Int.ofNat (j + 1)) = Int.ofNat (m % (j + 1)) from rfl]
    rfl
  case eql =>
    have h : putB d (Nat.beq m n) T σ κ = true := h
    rw [putB_eq] at h
    refine hb _ (run_bin ho hx hy (by simp) (by simp) ?_) h
    simp only [Op.intCmp]
    rw [show (Int.ofNat m == Int.ofNat n) = Nat.beq m n from by
      cases e : Nat.beq m n with
      | true => rw [Nat.eq_of_beq_eq_true e]; simp
      | false => have := Nat.ne_of_beq_eq_false e; simp; omega]
    rfl
  case neq =>
    have key : ∀ r, Nat.beq m n = !r → putV d (.b r) T σ κ = true → Yl P ξ ρ o a d T σ κ := fun r e h => by
      refine hb r (run_bin ho hx hy (by simp) (by simp) ?_) h
      simp only [Op.intCmp]
      rw [show (Int.ofNat m != Int.ofNat n) = r from by
        cases r with
        | false => rw [Nat.eq_of_beq_eq_true e]; simp
        | true => have := Nat.ne_of_beq_eq_false e; simp; omega]
      rfl
    rcases booC_t (show booC (Nat.beq m n) (putV d (.b false) T σ κ) (putV d (.b true) T σ κ) = true from h) with ⟨e, h⟩ | ⟨e, h⟩
    · exact key false e h
    · exact key true e h
  case lss =>
    have h : putB d (Nat.ble (Nat.succ m) n) T σ κ = true := h
    rw [putB_eq] at h
    refine hb _ (run_bin ho hx hy (by simp) (by simp) ?_) h
    simp only [Op.intCmp]
    rw [show decide (Int.ofNat m < Int.ofNat n) = Nat.ble (Nat.succ m) n from by
      cases e : Nat.ble (Nat.succ m) n with
      | true => have := ble_t e; simp; omega
      | false => have := ble_f e; simp; omega]
    rfl
  case leq =>
    have h : putB d (Nat.ble m n) T σ κ = true := h
    rw [putB_eq] at h
    refine hb _ (run_bin ho hx hy (by simp) (by simp) ?_) h
    simp only [Op.intCmp]
    rw [show decide (Int.ofNat m ≤ Int.ofNat n) = Nat.ble m n from by
      cases e : Nat.ble m n with
      | true => have := ble_t e; simp; omega
      | false => have := ble_f e; simp; omega]
    rfl
  case gtr =>
    have h : putB d (Nat.ble (Nat.succ n) m) T σ κ = true := h
    rw [putB_eq] at h
    refine hb _ (run_bin ho hx hy (by simp) (by simp) ?_) h
    simp only [Op.intCmp]
    rw [show decide (Int.ofNat m > Int.ofNat n) = Nat.ble (Nat.succ n) m from by
      cases e : Nat.ble (Nat.succ n) m with
      | true => have := ble_t e; simp; omega
      | false => have := ble_f e; simp; omega]
    rfl
  case geq =>
    have h : putB d (Nat.ble n m) T σ κ = true := h
    rw [putB_eq] at h
    refine hb _ (run_bin ho hx hy (by simp) (by simp) ?_) h
    simp only [Op.intCmp]
    rw [show decide (Int.ofNat m ≥ Int.ofNat n) = Nat.ble n m from by
      cases e : Nat.ble n m with
      | true => have := ble_t e; simp; omega
      | false => have := ble_f e; simp; omega]
    rfl
  all_goals exact hgen h
end
end Go.Ex
namespace Go.Ex
open Go.Mo
set_option linter.unusedVariables false
set_option linter.constructorNameAsVariable false
set_option linter.unusedSimpArgs false
def BdOK (bd : Nat → Bd) (ξ : Nat → Int) : Prop := ∀ j, (∀ l, (bd j).lo = some l → l ≤ ξ j) ∧ (∀ h, (bd j).hi = some h → ξ j ≤ h)
theorem ltB_ok {b : Bd} {z c : Int} {r : Bool} (hl : ∀ l, b.lo = some l → l ≤ z) (hh : ∀ h, b.hi = some h → z ≤ h) (h : ltB b c = some r) : r = decide (z < c) := by
  unfold ltB at h
  split at h
  · rename_i h' l' e1 e2
    have := hh _ e1; have := hl _ e2
    split at h
    · cases h; simp; omega
    · split at h
      · cases h; simp; omega
      · cases h
  · rename_i h' e1 e2
    have := hh _ e1
    split at h
    · cases h; simp; omega
    · cases h
  · rename_i l' e1 e2
    have := hl _ e2
    split at h
    · cases h; simp; omega
    · cases h
  · cases h
theorem gtB_ok {b : Bd} {z c : Int} {r : Bool} (hl : ∀ l, b.lo = some l → l ≤ z) (hh : ∀ h, b.hi = some h → z ≤ h) (h : gtB b c = some r) : r = decide (c < z) := by
  unfold gtB at h
  split at h
  · rename_i h' l' e1 e2
    have := hh _ e1; have := hl _ e2
    split at h
    · cases h; simp; omega
    · split at h
      · cases h; simp; omega
      · cases h
  · rename_i h' e1 e2
    have := hh _ e1
    split at h
    · cases h; simp; omega
    · cases h
  · rename_i l' e1 e2
    have := hl _ e2
    split at h
    · cases h; simp; omega
    · cases h
  · cases h
section
variable {P : Program} {ξ : Nat → Int} {ρ : Rho} {o : Oper} {a : Act} {d : Ix} {T : TT} {σ : St} {κ : KN} {κp : K}
theorem iiX_ok {bd : Nat → Bd} {op : BinOp} {j : Nat} {c : Int} {x : V} (hbd : BdOK bd ξ) {t yt : TypeId} {y z : Operand} (ho : o.op = .binOp op t y z yt) (hy : a.eval y = .int .i64 (ξ j)) (hz : a.eval z = .int .i64 c)
    (h : iiX bd (cI op) j c = some x) : ∃ v, (∀ w, (execOp a.eval o).run P w = .ok (.value v) w) ∧ VR ξ ρ x v := by
  have hl := (hbd j).1
  have hh := (hbd j).2
  have hb : ∀ r : Bool, x = .b r → (match op with
      | .add | .sub | .mul => Op.intArith op .i64 (ξ j) c
      | .quo | .rem => Op.intDiv op .i64 (ξ j) c
      | .and | .or | .xor | .andNot => Op.intBits op .i64 (ξ j) c
      | _ => Op.intCmp op (ξ j) c) = .pure (.bool r) → op ≠ .shl → op ≠ .shr → ∃ v, (∀ w, (execOp a.eval o).run P w = .ok (.value v) w) ∧ VR ξ ρ x v := fun r e hr h1 h2 =>
    ⟨_, run_bin ho hy hz h1 h2 hr, by rw [e]; exact .b r⟩
  cases op <;> simp only [cI, iiX] at h <;> try (cases h)
  case lss =>
    obtain ⟨r, e, rfl⟩ := Option.map_eq_some_iff.1 h
    refine hb r rfl ?_ (by simp) (by simp)
    rw [ltB_ok hl hh e]; rfl
  case geq =>
    obtain ⟨r, e, rfl⟩ := Option.map_eq_some_iff.1 h
    refine hb (!r) rfl ?_ (by simp) (by simp)
    rw [ltB_ok hl hh e]
    simp only [Op.intCmp]
    rw [show (!decide (ξ j < c)) = decide (ξ j ≥ c) from by by_cases e : ξ j < c <;> simp [e] <;> omega]
    rfl
  case gtr =>
    obtain ⟨r, e, rfl⟩ := Option.map_eq_some_iff.1 h
    refine hb r rfl ?_ (by simp) (by simp)
    rw [gtB_ok hl hh e]; rfl
  case leq =>
    obtain ⟨r, e, rfl⟩ := Option.map_eq_some_iff.1 h
    refine hb (!r) rfl ?_ (by simp) (by simp)
    rw [gtB_ok hl hh e]
    simp only [Op.intCmp]
    rw [show (!decide (c < ξ j)) = decide (ξ j ≤ c) from by by_cases e : c < ξ j <;> simp [e] <;> omega]
    rfl
  case eql =>
    have key : ξ j ≠ c → x = .b false → ∃ v, (∀ w, (execOp a.eval o).run P w = .ok (.value v) w) ∧ VR ξ ρ x v := fun hne e =>
      hb false e (by simp only [Op.intCmp]; rw [show (ξ j == c) = false from by simpa using hne]; rfl) (by simp) (by simp)
    split at h
    · rename_i e
      have := ltB_ok hl hh e
      simp only [Option.some.injEq] at h
      exact key (by have h2 : ξ j < c := (by simpa using this.symm); omega) h.symm
    · rename_i e _
      have := gtB_ok hl hh e
      simp only [Option.some.injEq] at h
      exact key (by have h2 : c < ξ j := (by simpa using this.symm); omega) h.symm
    · cases h
  case neq =>
    have key : ξ j ≠ c → x = .b true → ∃ v, (∀ w, (execOp a.eval o).run P w = .ok (.value v) w) ∧ VR ξ ρ x v := fun hne e =>
      hb true e (by simp only [Op.intCmp]; rw [show (ξ j != c) = true from by simpa using hne]; rfl) (by simp) (by simp)
    split at h
    · rename_i e
      have := ltB_ok hl hh e
      simp only [Option.some.injEq] at h
      exact key (by have h2 : ξ j < c := (by simpa using this.symm); omega) h.symm
    · rename_i e _
      have := gtB_ok hl hh e
      simp only [Option.some.injEq] at h
      exact key (by have h2 : c < ξ j := (by simpa using this.symm); omega) h.symm
    · cases h
theorem viaG_ok {C : Cx} {op : BinOp} {g : G} {v w : V} (hP : C.E.P = P) (hbd : BdOK C.E.bd ξ) {t yt : TypeId} {y z : Operand} (ho : o.op = .binOp op t y z yt) (hv : VR ξ ρ v (a.eval y)) (hw : VR ξ ρ w (a.eval z))
    (hg : g.o = o) (ht : TR ξ ρ g.s.1 T a.tmps) (hs : SR ξ ρ T g.s.2 a.tmps) (hl : o.op.operands.toList.all opdLt = true) (h : viaG (cI op) g v w d C T σ κ = true) : Yl P ξ ρ o a d T σ κ := by
  unfold viaG at h
  obtain ⟨x, e, hp⟩ := putO_eq h
  have hgen : gen C.E.P T g = some x → Yl P ξ ρ o a d T σ κ := fun e => by
    rw [hP] at e
    obtain ⟨u, h1, h2⟩ := gen_ok ht hs (by rw [hg]; exact hl) (fun cs b e => by rw [hg, ho] at e; cases e) e
    rw [hg] at h1
    exact .mk _ _ h1 h2 hp
  unfold iiG at e
  split at e
  · obtain ⟨u, h1, h2⟩ := iiX_ok hbd ho hv.x_inv hw.n_inv e
    exact .mk _ _ h1 h2 hp
  · obtain ⟨u, h1, h2⟩ := iiX_ok hbd ho hv.x_inv hw.k_inv e
    exact .mk _ _ h1 h2 hp
  · exact hgen e
theorem iU_ok {op : BinOp} {t yt : TypeId} {x y : Operand} {m n : Nat} {C : Cx} {g : G} (hP : C.E.P = P) (ho : o.op = .binOp op t x y yt) (hx : a.eval x = .int .u8 (.ofNat m)) (hy : a.eval y = .int .u8 (.ofNat n))
    (hg : g.o = o) (ht : TR ξ ρ g.s.1 T a.tmps) (hs : SR ξ ρ T g.s.2 a.tmps) (hl : o.op.operands.toList.all opdLt = true) (h : iU (cI op) m n g d C T σ κ = true) : Yl P ξ ρ o a d T σ κ := by
  have hgen : putO d (gen C.E.P T g) T σ κ = true → Yl P ξ ρ o a d T σ κ := fun h => by
    obtain ⟨v, e, hp⟩ := putO_eq h
    rw [hP] at e
    obtain ⟨u, h1, h2⟩ := gen_ok ht hs (by rw [hg]; exact hl) (fun cs b e => by rw [hg, ho] at e; cases e) e
    rw [hg] at h1
    exact .mk _ _ h1 h2 hp
  have hb : ∀ r : Bool, (∀ w, (execOp a.eval o).run P w = .ok (.value (.bool r)) w) → putV d (.b r) T σ κ = true → Yl P ξ ρ o a d T σ κ := fun r hr hp => .mk _ _ hr (.b r) hp
  cases op
  case eql =>
    have h : putB d (Nat.beq m n) T σ κ = true := h
    rw [putB_eq] at h
    refine hb _ (run_bin ho hx hy (by simp) (by simp) ?_) h
    simp only [Op.intCmp]
    rw [show (Int.ofNat m == Int.ofNat n) = Nat.beq m n from by
      cases e : Nat.beq m n with
      | true => rw [Nat.eq_of_beq_eq_true e]; simp
      | false => have := Nat.ne_of_beq_eq_false e; simp; omega]
    rfl
  case neq =>
    have key : ∀ r, Nat.beq m n = !r → putV d (.b r) T σ κ = true → Yl P ξ ρ o a d T σ κ := fun r e h => by
      refine hb r (run_bin ho hx hy (by simp) (by simp) ?_) h
      simp only [Op.intCmp]
      rw [show (Int.ofNat m != Int.ofNat n) = r from by
        cases r with
        | false => rw [Nat.eq_of_beq_eq_true e]; simp
        | true => have := Nat.ne_of_beq_eq_false e; simp; omega]
      rfl
    rcases booC_t (show booC (Nat.beq m n) (putV d (.b false) T σ κ) (putV d (.b true) T σ κ) = true from h) with ⟨e, h⟩ | ⟨e, h⟩
    · exact key false e h
    · exact key true e h
  case lss =>
    have h : putB d (Nat.ble (Nat.succ m) n) T σ κ = true := h
    rw [putB_eq] at h
    refine hb _ (run_bin ho hx hy (by simp) (by simp) ?_) h
    simp only [Op.intCmp]
    rw [show decide (Int.ofNat m < Int.ofNat n) = Nat.ble (Nat.succ m) n from by
      cases e : Nat.ble (Nat.succ m) n with
      | true => have := ble_t e; simp; omega
      | false => have := ble_f e; simp; omega]
    rfl
  case leq =>
    have h : putB d (Nat.ble m n) T σ κ = true := h
    rw [putB_eq] at h
    refine hb _ (run_bin ho hx hy (by simp) (by simp) ?_) h
    simp only [Op.intCmp]
    rw [show decide (Int.ofNat m ≤ Int.ofNat n) = Nat.ble m n from by
      cases e : Nat.ble m n with
      | true => have := ble_t e; simp; omega
      | false => have := ble_f e; simp; omega]
    rfl
  case gtr =>
    have h : putB d (Nat.ble (Nat.succ n) m) T σ κ = true := h
    rw [putB_eq] at h
    refine hb _ (run_bin ho hx hy (by simp) (by simp) ?_) h
    simp only [Op.intCmp]
    rw [show decide (Int.ofNat m > Int.ofNat n) = Nat.ble (Nat.succ n) m from by
      cases e : Nat.ble (Nat.succ n) m with
      | true => have := ble_t e; simp; omega
      | false => have := ble_f e; simp; omega]
    rfl
  case geq =>
    have h : putB d (Nat.ble n m) T σ κ = true := h
    rw [putB_eq] at h
    refine hb _ (run_bin ho hx hy (by simp) (by simp) ?_) h
    simp only [Op.intCmp]
    rw [show decide (Int.ofNat m ≥ Int.ofNat n) = Nat.ble n m from by
      cases e : Nat.ble n m with
      | true => have := ble_t e; simp; omega
      | false => have := ble_f e; simp; omega]
    rfl
  all_goals exact hgen h
theorem ii_ok {C : Cx} {op : BinOp} {g : G} {x y : A} (hP : C.E.P = P) (hbd : BdOK C.E.bd ξ) {t yt : TypeId} {x' y' : Operand} (ho : o.op = .binOp op t x' y' yt) (hx : VR ξ ρ (ev T x) (a.eval x')) (hy : VR ξ ρ (ev T y) (a.eval y'))
    (hg : g.o = o) (ht : TR ξ ρ g.s.1 T a.tmps) (hs : SR ξ ρ T g.s.2 a.tmps) (hl : o.op.operands.toList.all opdLt = true) (h : oII (cI op) x y g d C T σ κ κp = true) : Yl P ξ ρ o a d T σ κ := by
  have h : iV (ev T x) (cI op) (ev T y) g d C T σ κ = true := by
    unfold oII at h
    rw [evK_eq, evK_eq] at h
    exact h
  generalize hv : ev T x = v at h hx
  generalize hw : ev T y = w at h hy
  cases v with
  | n m =>
    cases w with
    | n n => exact cI_of hP ho hx.n_inv hy.n_inv hg ht hs hl h
    | w z => exact viaG_ok hP hbd ho hx hy hg ht hs hl h
    | _ => cases h
  | u m =>
    cases w with
    | u n => exact iU_ok hP ho hx.u_inv hy.u_inv hg ht hs hl h
    | w z => exact viaG_ok hP hbd ho hx hy hg ht hs hl h
    | _ => cases h
  | w z => exact viaG_ok hP hbd ho hx hy hg ht hs hl h
  | _ => cases h
end
end Go.Ex
namespace Go.Ex
open Go.Mo
set_option linter.unusedVariables false
set_option linter.constructorNameAsVariable false
set_option linter.unusedSimpArgs false
section
variable {P : Program} {ξ : Nat → Int} {ρ : Rho} {o : Oper} {a : Act} {d : Ix} {T : TT} {σ : St} {κ : KN} {κp : K}
theorem size_ok {t : TypeId} {n : Nat} (h : size P t = some n) (w : World) : (sizeOf t).run P w = .ok n w := pureRun_ok h w
theorem agg_ok {t : TypeId} {b : Bool} (h : agg P t = some b) (w : World) : (isAgg t).run P w = .ok b w := pureRun_ok h w
theorem run_und {t : TypeId} {x : TypeDesc} (h : P.underlying t = some x) (w : World) : (underlying t).run P w = .ok x w := by simp [underlying, h]
theorem vP_t {v : V} {p : Id → Nat → Ans} (h : vP v p = true) : ∃ i n, v = .p i n ∧ p i n = true := by
  cases v with
  | p i n => exact ⟨i, n, rfl, h⟩
  | _ => cases h
theorem vNat_t {v : V} {k : Nat → Ans} {u : Value} (hv : VR ξ ρ v u) (h : vNat v k = true) : ∃ n kk, u = .int kk (Int.ofNat n) ∧ k n = true := by
  cases v with
  | n m => exact ⟨m, _, hv.n_inv, h⟩
  | u m => exact ⟨m, _, hv.u_inv, h⟩
  | _ => cases h
theorem add_addr (b o n : Nat) : Addr.add ⟨b, o, none⟩ n = ⟨b, o + n, none⟩ := by
  unfold Addr.add
  split
  · rename_i h; rw [h]; rfl
  · rfl
theorem fa_ok {x : A} {x' : Operand} {t : TypeId} {i off z : Nat} {fs : Array Field} {f : Field} {C : Cx} (ho : o.op = .fieldAddr t x' i) (ht : P.underlying t = some (.struct fs)) (hf : fs[i]? = some f) (hz : size P f.type = some z) (hz0 : z ≠ 0)
    (hx : VR ξ ρ (ev T x) (a.eval x')) (h : oFa f.offset x d C T σ κ κp = true) : Yl P ξ ρ o a d T σ κ := by
  unfold oFa at h
  obtain ⟨b, n, e, h⟩ := vP_t h
  rw [e] at hx
  obtain ⟨bb, c, hb, hu⟩ := hx.p_inv
  rw [putP_eq] at h
  refine .mk _ (.pointer (some ⟨bb, n + f.offset, none⟩)) (fun w => ?_) (.p hb) h
  unfold execOp
  rw [ho]
  simp only [hu, Instr.fieldAt, Sem.run_bind, run_und ht, Result.andThen_ok, hf, Instr.sureAddr, Sem.run_pure, fieldPlace, size_ok hz, if_neg hz0, add_addr]
theorem nil_ok {x : A} {x' : Operand} {C : Cx} (ho : o.op = .nilCheck x') (hx : VR ξ ρ (ev T x) (a.eval x')) (h : oNil x d C T σ κ κp = true) : Yl P ξ ρ o a d T σ κ := by
  unfold oNil at h
  generalize hv : ev T x = v at h hx
  cases v with
  | p i n =>
    obtain ⟨b, c, hb, hu⟩ := hx.p_inv
    refine .mk _ _ (fun w => ?_) (.p hb) h
    unfold execOp
    rw [ho]
    simp only [hu]
    rfl
  | w z =>
    obtain ⟨hz, h⟩ := booC_yes (show booC (notNil z) (putV d (.w z) T σ κ) no = true from h)
    refine .mk _ (a.eval x') (fun w => ?_) hx h
    unfold execOp
    rw [ho]
    simp only
    generalize a.eval x' = u at hx
    unfold notNil at hz
    split at hz
    · cases hx with
      | f h1 h2 => rfl
    · cases hx; rfl
    · cases hx; rfl
    · cases hz
  | _ => cases h
theorem cv_ok {x : A} {x' : Operand} {src dst : TypeId} {b : Bool} {g : G} {C : Cx} (hP : C.E.P = P) (ho : o.op = .convert src dst x') (hb : (b = true ∧ P.underlying src = some (.int .i64) ∧ P.underlying dst = some (.int .u8)) ∨ (b = false ∧ P.underlying src = some (.int .u8) ∧ P.underlying dst = some (.int .i64)))
    (hx : VR ξ ρ (ev T x) (a.eval x')) (hg : g.o = o) (ht : TR ξ ρ g.s.1 T a.tmps) (hs : SR ξ ρ T g.s.2 a.tmps) (hl : o.op.operands.toList.all opdLt = true) (h : oCv b x g d C T σ κ κp = true) : Yl P ξ ρ o a d T σ κ := by
  have hgen : putO d (gen C.E.P T g) T σ κ = true → Yl P ξ ρ o a d T σ κ := fun h => by
    obtain ⟨v, e, hp⟩ := putO_eq h
    rw [hP] at e
    obtain ⟨u, h1, h2⟩ := gen_ok ht hs (by rw [hg]; exact hl) (fun cs b e => by rw [hg, ho] at e; cases e) e
    rw [hg] at h1
    exact .mk _ _ h1 h2 hp
  unfold oCv at h
  generalize hv : ev T x = v at h hx
  cases v with
  | n m =>
    obtain ⟨eb, h'⟩ := booC_yes (show booC b (putU d (Nat.mod m 256) T σ κ) no = true from h)
    obtain ⟨_, h1, h2⟩ | ⟨e, _, _⟩ := hb
    · rw [putU_eq] at h'
      refine .mk _ (.int .u8 (Int.ofNat (m % 256))) (fun w => ?_) (.u _) h'
      unfold execOp
      rw [ho]
      simp only [hx.n_inv, convert, Sem.run_bind, run_und h1, run_und h2, Result.andThen_ok, Conv.intToInt, Sem.run_pure]
      rfl
    · rw [eb] at e; cases e
  | u m =>
    obtain ⟨eb, h'⟩ := booC_no (show booC b no (booC (Nat.ble lim m) no (putN d m T σ κ)) = true from h)
    obtain ⟨e, _, _⟩ | ⟨_, h1, h2⟩ := hb
    · rw [eb] at e; cases e
    · obtain ⟨e, h'⟩ := booC_no h'
      rw [putN_eq] at h'
      refine .mk _ (.int .i64 (Int.ofNat m)) (fun w => ?_) (.n _) h'
      unfold execOp
      rw [ho]
      simp only [hx.u_inv, convert, Sem.run_bind, run_und h1, run_und h2, Result.andThen_ok, Conv.intToInt, Sem.run_pure, wrap_id (ble_f e)]
  | _ => exact hgen h
theorem slP_t {v : V} {k : Id → Nat → Nat → Ans} {kw : W → Ans} {u : Value} (hv : VR ξ ρ v u) (h : slP v k kw = true) :
    (∃ i n l b cc c, ρ i = some (b, cc) ∧ u = .slice (some ⟨b, n, none⟩) l c ∧ k i n l = true) ∨ ∃ z, v = .w z ∧ kw z = true := by
  cases v with
  | s i n l c =>
    cases hv with
    | s hb => exact .inl ⟨_, _, _, _, _, _, hb, rfl, h⟩
  | q i l =>
    cases hv with
    | q hb hl => exact .inl ⟨_, _, _, _, _, _, hb, rfl, h⟩
  | w z => exact .inr ⟨z, rfl, h⟩
  | _ => cases h
theorem run_index {t elem : TypeId} {x' i' : Operand} {b n l c m sz : Nat} {kk : IntKind} (ho : o.op = .indexAddr t x' i') (ht : P.underlying t = some (.slice elem)) (hz : size P elem = some sz)
    (hx : a.eval x' = .slice (some ⟨b, n, none⟩) l c) (hi : a.eval i' = .int kk (Int.ofNat m)) (hl : m < l) (w : World) : (execOp a.eval o).run P w = .ok (.value (.pointer (some ⟨b, n + m * sz, none⟩))) w := by
  unfold execOp
  rw [ho]
  have h0 : (0 : Int) ≤ Int.ofNat m ∧ Int.ofNat m < (l : Int) := ⟨by simp, by simp; omega⟩
  simp only [hx, hi, Instr.indexAt, asIntOf, Sem.run_bind, Sem.run_pure, Result.andThen_ok, run_und ht, if_pos h0, size_ok hz]
  rw [show (Int.ofNat m).toNat = m from rfl, add_addr]
theorem ia_ok {x i : A} {x' i' : Operand} {t elem : TypeId} {sz : Nat} {C : Cx} (ho : o.op = .indexAddr t x' i') (ht : P.underlying t = some (.slice elem)) (hz : size P elem = some sz)
    (hx : VR ξ ρ (ev T x) (a.eval x')) (hi : VR ξ ρ (ev T i) (a.eval i')) (h : oIa sz x i d C T σ κ κp = true) : Yl P ξ ρ o a d T σ κ := by
  unfold oIa at h
  obtain ⟨m, kk, hm, h⟩ := vNat_t hi h
  rcases slP_t hx h with ⟨id, n, l, b, cc, c, hb, hu, h⟩ | ⟨z, hz', h⟩
  · obtain ⟨e, h⟩ := booC_no h
    rw [putP_eq] at h
    exact .mk _ _ (run_index ho ht hz hu hm (ble_f e)) (.p hb) h
  · cases z with
    | r b' n l =>
      have h : booC (Nat.ble l m) no (putP d b' (Nat.add n (Nat.mul m sz)) T σ κ) = true := h
      obtain ⟨e', h⟩ := booC_no h
      rw [putP_eq] at h
      rw [hz'] at hx
      generalize hu : a.eval x' = u at hx
      cases hx with
      | r hb hl => exact .mk _ _ (run_index ho ht hz hu hm (ble_f e')) (.p hb) h
    | _ => cases h
theorem run_len {t : TypeId} {x' : Operand} {e : TypeId} {b : Option Addr} {l c : Nat} {tys : Array TypeId} (ho : o.op = .call ⟨.builtin .len, #[x'], tys⟩) (hty : tys.getD 0 0 = t) (hsz : 0 < tys.size) (ht : P.underlying t = some (.slice e))
    (hx : a.eval x' = .slice b l c) (w : World) : (execOp a.eval o).run P w = .ok (.value (.int .i64 l)) w := by
  have h0 : tys[0]? = some t := by
    rw [← hty]
    simp [Array.getD_eq_getD_getElem?, hsz]
  unfold execOp
  rw [ho]
  simp [resolve, invoke, builtin, Builtin.len_, h0, hx, run_und ht, goInt]
theorem ln_ok {x : A} {x' : Operand} {t e : TypeId} {tys : Array TypeId} {C : Cx} (ho : o.op = .call ⟨.builtin .len, #[x'], tys⟩) (hty : tys.getD 0 0 = t) (hsz : 0 < tys.size) (ht : P.underlying t = some (.slice e))
    (hx : VR ξ ρ (ev T x) (a.eval x')) (h : oLn x d C T σ κ κp = true) : Yl P ξ ρ o a d T σ κ := by
  unfold oLn at h
  generalize hv : ev T x = v at h hx
  generalize hu : a.eval x' = u at hx
  have hn : ∀ b l c, u = .slice b l c → putN d l T σ κ = true → Yl P ξ ρ o a d T σ κ := fun b l c e h => by
    rw [putN_eq] at h
    exact .mk _ _ (run_len ho hty hsz ht (hu.trans e)) (.n l) h
  cases v with
  | s i n l c => cases hx with | s hb => exact hn _ _ _ rfl h
  | q i l => cases hx with | q hb hl => exact hn _ _ _ rfl h
  | w z =>
    have h : optC (lenW z) (fun l => putN d l T σ κ) no = true := h
    unfold lenW at h
    split at h
    · cases hx with | r hb hl => exact hn _ _ _ rfl h
    · cases hx with | z ad c => exact hn _ _ _ rfl h
    · cases hx; exact hn _ _ _ rfl h
    · cases h
  | _ => cases h
end
end Go.Ex
namespace Go.Ex
open Go.Mo
set_option linter.unusedVariables false
set_option linter.constructorNameAsVariable false
set_option linter.unusedSimpArgs false
section
variable {α β : Type}
theorem nth_t {l : List α} {n : Nat} {κ : α → Ans} (h : nth l n κ no = true) : ∃ x, l[n]? = some x ∧ κ x = true := by
  induction l generalizing n with
  | nil => cases h
  | cons y l ih =>
    cases n with
    | zero => exact ⟨y, rfl, h⟩
    | succ m =>
      have h : nth l m κ no = true := h
      simpa using ih h
theorem takeX_some {n : Nat} {l r : List α} (h : takeX n l = some r) : r = l.take n ∧ n ≤ l.length := by
  induction n generalizing l r with
  | zero => simp only [takeX, Option.some.injEq] at h; subst h; simp
  | succ n ih =>
    cases l with
    | nil => simp [takeX] at h
    | cons x l =>
      simp only [takeX] at h
      split at h
      · rename_i r' e
        simp only [Option.some.injEq] at h
        obtain ⟨h1, h2⟩ := ih e
        subst h h1
        simp; omega
      · cases h
theorem dropX_some {n : Nat} {l r : List α} (h : dropX n l = some r) : r = l.drop n ∧ n ≤ l.length := by
  induction n generalizing l r with
  | zero => simp only [dropX, Option.some.injEq] at h; subst h; simp
  | succ n ih =>
    cases l with
    | nil => simp [dropX] at h
    | cons x l =>
      simp only [dropX] at h
      obtain ⟨h1, h2⟩ := ih h
      subst h1
      simp; omega
theorem sub_some {o n : Nat} {l r : List α} (h : sub o n l = some r) : r = (l.drop o).take n ∧ o + n ≤ l.length := by
  unfold sub at h
  split at h
  · rename_i l' e
    obtain ⟨rfl, h1⟩ := dropX_some e
    obtain ⟨rfl, h2⟩ := takeX_some h
    simp at h2
    exact ⟨rfl, by omega⟩
  · cases h
theorem frc_eq {R : Type} (l : List α) (κ : List α → R) : frc l κ = κ l := by
  induction l generalizing κ with
  | nil => rfl
  | cons x l ih => exact ih fun l => κ (x :: l)
theorem subC_t {o n : Nat} {l : List α} {κ : List α → Ans} (h : subC o n l κ = true) : κ ((l.drop o).take n) = true ∧ o + n ≤ l.length := by
  unfold subC at h
  cases e : sub o n l with
  | none => rw [e] at h; cases h
  | some r =>
    rw [e] at h
    have h : frc r κ = true := h
    rw [frc_eq] at h
    obtain ⟨rfl, h1⟩ := sub_some e
    exact ⟨h, h1⟩
theorem putL_t {vs l : List V} {n : Nat} {κ : List V → Ans} (h : putL vs l n κ = true) : ∃ l', κ l' = true ∧ l' = l.take n ++ vs ++ l.drop (n + vs.length) ∧ l'.length = l.length ∧ (vs ≠ [] → n + vs.length ≤ l.length) := by
  induction l generalizing vs n κ with
  | nil =>
    cases vs with
    | nil => exact ⟨[], h, by simp, rfl, fun e => absurd rfl e⟩
    | cons v vs => cases h
  | cons y l ih =>
    cases n with
    | succ m =>
      have h : putL vs l m (fun l => κ (y :: l)) = true := h
      obtain ⟨l', h1, h2, h3, h4⟩ := ih h
      refine ⟨_, h1, ?_, by simp [h3], fun e => by have := h4 e; simp; omega⟩
      rw [h2, show m + 1 + vs.length = (m + vs.length) + 1 from by omega]
      simp
    | zero =>
      cases vs with
      | nil =>
        have h : putL [] l 0 (fun l => κ (y :: l)) = true := h
        obtain ⟨l', h1, h2, h3, h4⟩ := ih h
        exact ⟨_, h1, by rw [h2]; simp, by simp [h3], fun e => absurd rfl e⟩
      | cons v vs =>
        have h : putL vs l 0 (fun l => κ (v :: l)) = true := h
        obtain ⟨l', h1, h2, h3, h4⟩ := ih h
        refine ⟨_, h1, by rw [h2]; simp, by simp [h3], fun _ => ?_⟩
        cases vs with
        | nil => simp
        | cons w ws => have := h4 (by simp); simp at this ⊢; omega
theorem put1_t {v : V} {l : List V} {n : Nat} {κ : List V → Ans} (h : put1 v l n κ = true) : n < l.length ∧ κ (l.set n v) = true := by
  have key : ∀ (l tl : List V) (n : Nat) (κ : List V → Ans), foldC (β := List V → Nat → (List V → Ans) → Ans) l (fun _ _ _ => no) (fun y r tl n κ => listC tl no fun _ tl => natC n (κ (v :: tl)) fun m => r tl m fun l => κ (y :: l)) tl n κ = true →
      tl = l → n < l.length ∧ κ (l.set n v) = true := by
    intro l
    induction l with
    | nil => intro tl n κ h _; cases h
    | cons y l ih =>
      intro tl n κ h e
      subst e
      cases n with
      | zero => exact ⟨by simp, h⟩
      | succ m =>
        obtain ⟨h1, h2⟩ := ih l m (fun l => κ (y :: l)) h rfl
        exact ⟨by simp; omega, by simpa using h2⟩
  exact key l l n κ h rfl
end
section
variable {P : Program} {ξ : Nat → Int} {ρ : Rho} {o : Oper} {a : Act} {d : Ix} {T : TT} {σ : St} {κ : KN} {κp : K}
theorem ex_ok {x : A} {x' : Operand} {i : Nat} {C : Cx} (ho : o.op = .extract x' i) (hx : VR ξ ρ (ev T x) (a.eval x')) (h : oEx x i d C T σ κ κp = true) : Yl P ξ ρ o a d T σ κ := by
  unfold oEx at h
  generalize hv : ev T x = v at h hx
  cases v with
  | w z =>
    cases z with
    | t vs =>
      have h : nth vs i (fun v => putD d v T σ κ) no = true := h
      obtain ⟨v, h1, h2⟩ := nth_t h
      rw [putD_eq] at h2
      generalize hu : a.eval x' = u at hx
      cases hx with
      | t hs =>
        obtain ⟨u, h3, h4⟩ := hs.get h1
        refine .mk _ u (fun w => ?_) h4 h2
        unfold execOp
        rw [ho]
        simp [hu, Instr.extract, h3]
    | _ => cases h
  | _ => cases h
theorem frcS_eq (v : V) (κ : V → Ans) : frcS v κ = κ v := by
  unfold frcS
  split
  · rename_i i o l c; cases o <;> cases l <;> cases c <;> rfl
  · rename_i i l; cases l <;> rfl
  · rename_i i o l; cases o <;> cases l <;> rfl
  · rfl
theorem evO_t {x : Option A} {x' : Option Operand} {s : Sb} {k : Nat} {κ : Nat → Ans} (hc : optA s x' = some x) (ht : TR ξ ρ s.1 T a.tmps) (hs : SR ξ ρ T s.2 a.tmps) (hl : ∀ y, x' = some y → opdLt y = true) (h : evO T x k κ = true) :
    ∃ n, κ n = true ∧ ((x = none ∧ x' = none ∧ n = k) ∨ ∃ y kk, x' = some y ∧ a.eval y = .int kk (Int.ofNat n) ∧ x ≠ none) := by
  cases x' with
  | none =>
    simp only [optA, Option.some.injEq] at hc
    subst hc
    exact ⟨k, h, .inl ⟨rfl, rfl, rfl⟩⟩
  | some y =>
    simp only [optA, Option.map_eq_some_iff] at hc
    obtain ⟨A, h1, rfl⟩ := hc
    obtain ⟨n, kk, h2, h3⟩ := vNat_t (cA_ok ht hs h1 (hl y rfl)) h
    exact ⟨n, h3, .inr ⟨y, kk, rfl, h2, by simp⟩⟩
theorem bound_ok {m n : Nat} {kk : IntKind} {c : BoundsCode} (h : n ≤ m) (w : World) : (Instr.sliceBound (.int kk (Int.ofNat n)) m c).run P w = .ok n w := by
  unfold Instr.sliceBound
  simp only [asIntOf, Sem.run_bind, Sem.run_pure, Result.andThen_ok]
  rw [if_pos (by constructor <;> simp <;> omega)]
  rfl
theorem bound_ok' {m n : Nat} {kk : IntKind} {c : BoundsCode} (h : n ≤ m) (w : World) : (Instr.sliceBound (.int kk (n : Int)) m c).run P w = .ok n w := bound_ok h w
inductive BO : Option Value → Option Nat → Prop
  | none : BO none none
  | some (kk : IntKind) (n : Nat) : BO (some (.int kk (Int.ofNat n))) (some n)
theorem bounds_ok {b : Bool} {len cap : Nat} {lo hi mx : Option Value} {l h m : Option Nat} (hl : BO lo l) (hh : BO hi h) (hm : BO mx m) (h1 : l.getD 0 ≤ h.getD len) (h2 : h.getD len ≤ m.getD cap) (h3 : m.getD cap ≤ cap) (hn : m ≠ none → h ≠ none) (w : World) :
    (Instr.sliceBounds b len cap lo hi mx).run P w = .ok (l.getD 0, h.getD len, m.getD cap) w := by
  unfold Instr.sliceBounds
  cases hm with
  | none =>
    cases hh with
    | none => cases hl with
      | none => simp
      | some kk n => simp [bound_ok' (show n ≤ len from h1)]
    | some kh nh => cases hl with
      | none => simp [bound_ok' (show nh ≤ cap from h2)]
      | some kk n => simp [bound_ok' (show nh ≤ cap from h2), bound_ok' (show n ≤ nh from h1)]
  | some km nm =>
    cases hh with
    | none => exact absurd rfl (hn (by simp))
    | some kh nh => cases hl with
      | none => simp [bound_ok' (show nm ≤ cap from h3), bound_ok' (show nh ≤ nm from h2)]
      | some kk n => simp [bound_ok' (show nm ≤ cap from h3), bound_ok' (show nh ≤ nm from h2), bound_ok' (show n ≤ nh from h1)]
theorem run_slice1 {t elem : TypeId} {sz len cap : Nat} {base : Option Addr} {lo hi mx : Option Value} {l h m : Option Nat} (ht : P.underlying t = some (.slice elem)) (hz : size P elem = some sz)
    (hl : BO lo l) (hh : BO hi h) (hm : BO mx m) (h1 : l.getD 0 ≤ h.getD len) (h2 : h.getD len ≤ m.getD cap) (h3 : m.getD cap ≤ cap) (hn : m ≠ none → h ≠ none) (w : World) :
    (Instr.sliceAt t (.slice base len cap) lo hi mx).run P w = .ok (.slice (if m.getD cap = l.getD 0 then base else base.map (·.add (l.getD 0 * sz))) (h.getD len - l.getD 0) (m.getD cap - l.getD 0)) w := by
  unfold Instr.sliceAt
  simp only [Sem.run_bind, run_und ht, Result.andThen_ok]
  unfold Instr.slice
  simp only [Sem.run_bind, run_und ht, Result.andThen_ok, bounds_ok hl hh hm h1 h2 h3 hn, size_ok hz, Sem.run_pure]
theorem run_slice2 {t elem : TypeId} {sz n : Nat} {ad : Addr} {lo hi mx : Option Value} {l h m : Option Nat} (ht : P.underlying t = some (.array n elem)) (hz : size P elem = some sz)
    (hl : BO lo l) (hh : BO hi h) (hm : BO mx m) (h1 : l.getD 0 ≤ h.getD n) (h2 : h.getD n ≤ m.getD n) (h3 : m.getD n ≤ n) (hn : m ≠ none → h ≠ none) (w : World) :
    (Instr.sliceAt t (.pointer (some ad)) lo hi mx).run P w = .ok (.slice (some (if m.getD n = l.getD 0 then ad else ad.add (l.getD 0 * sz))) (h.getD n - l.getD 0) (m.getD n - l.getD 0)) w := by
  unfold Instr.sliceAt
  simp only [Sem.run_bind, run_und ht, Result.andThen_ok, Instr.sureAddr, Sem.run_pure, bounds_ok hl hh hm h1 h2 h3 hn, size_ok hz]
theorem sliceV_ok {sz : Nat} {v x : V} {u : Value} {l : Option Nat} {h m : Option Nat} (hv : VR ξ ρ v u) (hmh : m ≠ none → h ≠ none) (hs : sliceV sz v (l.getD 0) h m = some x) :
    ∃ base len cap, u = .slice base len cap ∧ l.getD 0 ≤ h.getD len ∧ h.getD len ≤ m.getD cap ∧ m.getD cap ≤ cap ∧
      VR ξ ρ x (.slice (if m.getD cap = l.getD 0 then base else base.map (·.add (l.getD 0 * sz))) (h.getD len - l.getD 0) (m.getD cap - l.getD 0)) := by
  generalize l.getD 0 = l at *
  have hS : ∀ {i : Id} {b d n len cap : Nat}, ρ i = some (b, d) → ∀ hh mm : Nat, mm ≠ l → sliceS sz i n l hh mm = some x → VR ξ ρ x (.slice (if mm = l then some ⟨b, n, none⟩ else (some (⟨b, n, none⟩ : Addr)).map (·.add (l * sz))) (hh - l) (mm - l)) := by
    intro i b d n len cap hb hh mm hne e
    simp only [sliceS, Option.some.injEq] at e
    subst e
    rw [if_neg hne]
    simp only [Option.map_some, add_addr]
    exact .s hb
  have hR : ∀ {i : Id} {b d n : Nat} (cap : Nat), ρ i = some (b, d) → ∀ hh : Nat, l ≤ hh → hh ≤ cap → sliceR sz i n l hh = some x → VR ξ ρ x (.slice (if cap = l then some ⟨b, n, none⟩ else (some (⟨b, n, none⟩ : Addr)).map (·.add (l * sz))) (hh - l) (cap - l)) := by
    intro i b d n cap hb hh h1 h2 e
    unfold sliceR at e
    split at e
    · rename_i e'
      have := ble_f e'
      simp only [Option.some.injEq] at e
      subst e
      rw [if_neg (by omega)]
      simp only [Option.map_some, add_addr]
      exact .r hb (show hh - l ≤ cap - l by omega)
    · rename_i e'
      have := ble_t e'
      simp only [Option.some.injEq] at e
      subst e
      rw [show hh - l = 0 from by omega]
      split
      · exact .z _ _
      · exact .z _ _
  unfold sliceV at hs
  split at hs
  · rename_i i n len cap
    cases hv with
    | s hb =>
      unfold sliceK at hs
      simp only at hs
      split at hs
      · rename_i e
        simp only [Bool.and_eq_true] at e
        have e1 := ble_t e.1.1; have e2 := ble_t e.1.2; have e3 := ble_t e.2
        refine ⟨_, _, _, rfl, e1, e2, e3, ?_⟩
        split at hs
        · rename_i e4
          have e4 := Nat.eq_of_beq_eq_true e4
          simp only [Option.some.injEq] at hs
          subst hs
          rw [if_pos e4, show h.getD len - l = 0 from by omega, show m.getD cap - l = 0 from by omega]
          exact .s hb
        · rename_i e4
          exact hS (len := len) (cap := cap) hb _ _ (Nat.ne_of_beq_eq_false e4) hs
      · cases hs
  · rename_i i len
    cases hv with
    | q hb hle =>
      rename_i b c
      unfold sliceN at hs
      split at hs
      · rename_i e
        simp only [Bool.and_eq_true] at e
        have e1 := ble_t e.1; have e2 := ble_t e.2
        split at hs
        · simp only [Option.some.injEq] at hs
          subst hs
          refine ⟨_, _, _, rfl, e1, by simp; omega, by simp, ?_⟩
          simp only [Option.getD_none, Nat.zero_mul, Nat.sub_zero, Option.map_some, add_addr, Nat.add_zero]
          split <;> exact .q hb (by omega)
        · exact ⟨_, _, _, rfl, e1, by simp; omega, by simp, by simpa using hR c hb _ e1 (by omega) hs⟩
        · rename_i m' _ _
          split at hs
          · rename_i e'
            simp only [Bool.and_eq_true] at e'
            have f1 := ble_t e'.1.1; have f2 := ble_t e'.1.2; have f3 := ble_t e'.2
            exact ⟨_, _, _, rfl, e1, f1, by simp; omega, hS (len := len) (cap := c) hb _ _ (by simp only [Option.getD_some]; omega) hs⟩
          · cases hs
      · cases hs
  · rename_i i n len
    cases hv with
    | r hb hle =>
      rename_i b dd c
      unfold sliceQ at hs
      split at hs
      · rename_i e
        simp only [Bool.and_eq_true] at e
        have e1 := ble_t e.1; have e2 := ble_t e.2
        split at hs
        · exact ⟨_, _, _, rfl, e1, by simp; omega, by simp, by simpa using hR c hb _ e1 (by omega) hs⟩
        · rename_i m'
          split at hs
          · rename_i e'
            simp only [Bool.and_eq_true] at e'
            have f1 := ble_t e'.1.1; have f2 := ble_t e'.1.2; have f3 := ble_t e'.2
            exact ⟨_, _, _, rfl, e1, f1, by simp; omega, hS (len := len) (cap := c) hb _ _ (by simp only [Option.getD_some]; omega) hs⟩
          · cases hs
      · cases hs
  · cases hv with
    | z ad c =>
      split at hs
      · rename_i e1
        simp only [Option.some.injEq] at hs
        subst hs
        refine ⟨_, _, _, rfl, by omega, by simp; omega, by simp, ?_⟩
        simp only [Nat.sub_zero, e1]
        split <;> exact .z _ _
      · cases hs
  · rename_i len cap
    cases hv
    split at hs
    · rename_i e1 e2
      simp only [Option.some.injEq] at hs
      subst hs
      refine ⟨_, _, _, rfl, by omega, by omega, by omega, ?_⟩
      rw [e1, e2]
      simp
      exact .k _
    · cases hs
  · cases hs
theorem sl_ok {x : A} {lo hi mx : Option A} {x' : Operand} {lo' hi' mx' : Option Operand} {t elem : TypeId} {sz : Nat} {s : Sb} {C : Cx} (ho : o.op = .slice t x' lo' hi' mx') (ht : P.underlying t = some (.slice elem)) (hz : size P elem = some sz)
    (hx : VR ξ ρ (ev T x) (a.eval x')) (hl : optA s lo' = some lo) (hh : optA s hi' = some hi) (hm : optA s mx' = some mx) (hT : TR ξ ρ s.1 T a.tmps) (hs : SR ξ ρ T s.2 a.tmps)
    (bl : ∀ y, lo' = some y → opdLt y = true) (bh : ∀ y, hi' = some y → opdLt y = true) (bm : ∀ y, mx' = some y → opdLt y = true) (hmh : mx' ≠ none → hi' ≠ none) (h : oSl sz x lo hi mx d C T σ κ κp = true) : Yl P ξ ρ o a d T σ κ := by
  unfold oSl at h
  obtain ⟨l, h, hl'⟩ := evO_t hl hT hs bl h
  obtain ⟨hn, h, hh'⟩ := evO_t hh hT hs bh h
  obtain ⟨mn, h, hm'⟩ := evO_t hm hT hs bm h
  cases e : sliceV sz (ev T x) l (hi.map fun _ => hn) (mx.map fun _ => mn) with
  | none => rw [e] at h; cases h
  | some v =>
    rw [e] at h
    have h : frcS v (fun v => putV d v T σ κ) = true := h
    rw [frcS_eq] at h
    have bo : ∀ {x : Option A} {x' : Option Operand} {n k : Nat}, ((x = none ∧ x' = none ∧ n = k) ∨ ∃ y kk, x' = some y ∧ a.eval y = .int kk (Int.ofNat n) ∧ x ≠ none) → BO (x'.map a.eval) (x.map fun _ => n) := by
      intro x x' n k h
      rcases h with ⟨rfl, rfl, _⟩ | ⟨y, kk, rfl, hy, hne⟩
      · exact .none
      · cases x with
        | none => exact absurd rfl hne
        | some x => simp only [Option.map_some, hy]; exact .some kk n
    have hlo : l = (lo.map fun _ => l).getD 0 := by
      rcases hl' with ⟨rfl, _, rfl⟩ | ⟨_, _, _, _, hne⟩
      · rfl
      · cases lo with
        | none => exact absurd rfl hne
        | some _ => rfl
    have hmh2 : (mx.map fun _ => mn) ≠ none → (hi.map fun _ => hn) ≠ none := by
      intro h1
      have h2 : mx' ≠ none := by
        rcases hm' with ⟨rfl, _, _⟩ | ⟨_, _, rfl, _, _⟩
        · exact absurd rfl h1
        · simp
      have h3 := hmh h2
      rcases hh' with ⟨_, rfl, _⟩ | ⟨_, _, _, _, hne⟩
      · exact absurd rfl h3
      · cases hi with
        | none => exact absurd rfl hne
        | some _ => simp
    rw [hlo] at e
    obtain ⟨base, len, cap, hu, h1, h2, h3, hv⟩ := sliceV_ok hx hmh2 e
    refine .mk _ _ (fun w => ?_) hv h
    unfold execOp
    rw [ho]
    simp only [hu]
    simp [run_slice1 ht hz (bo hl') (bo hh') (bo hm') h1 h2 h3 hmh2]
end
end Go.Ex
namespace Go.Ex
open Go.Mo
set_option linter.unusedVariables false
set_option linter.constructorNameAsVariable false
set_option linter.unusedSimpArgs false
section
variable {P : Program} {ξ : Nat → Int} {ρ : Rho} {o : Oper} {a : Act} {d : Ix} {T : TT} {σ : St} {κ : KN} {κp : K}
def Pv (P : Program) (ξ : Nat → Int) (ρ : Rho) (o : Oper) (a : Act) (x : V) : Prop := ∃ v, (∀ w, (execOp a.eval o).run P w = .ok (.value v) w) ∧ VR ξ ρ x v
theorem cellsW_ok {z : W} {u : Value} (h : VR ξ ρ (.w z) u) (hz : isAnyW z = false) : VRs ξ ρ (cellsW z) u.cells.toList := by
  unfold cellsW
  split
  · cases h with
    | a hs => simpa [Value.cells] using hs
  · cases h
    simpa [Value.cells] using viewL (ξ := ξ) (ρ := ρ) (view_ok 3) _
  · rename_i h1 h2
    have : u.cells = #[u] := by
      cases h with
      | k => cases u <;> first | rfl | exact absurd rfl (h2 _)
      | a hs => exact absurd rfl (h1 _)
      | any => cases hz
      | _ => rfl
    rw [this]
    exact .cons h .nil
theorem cellsV_ok {v : V} {u : Value} (h : VR ξ ρ v u) (hz : isAny v = false) : VRs ξ ρ (cellsV v) u.cells.toList := by
  cases v with
  | w z => exact cellsW_ok h hz
  | n m => cases h; exact .cons (.n m) .nil
  | u m => cases h; exact .cons (.u m) .nil
  | b x => cases h; exact .cons (.b x) .nil
  | p i o => cases h with | p hb => exact .cons (.p hb) .nil
  | s i o l c => cases h with | s hb => exact .cons (.s hb) .nil
  | q i l => cases h with | q hb hl => exact .cons (.q hb hl) .nil
theorem nthO_some {α : Type} {l : List α} {n : Nat} {x : α} (h : nthO l n = some x) : l[n]? = some x := by
  induction l generalizing n with
  | nil => cases h
  | cons y l ih =>
    cases n with
    | zero => simpa [nthO] using h
    | succ m => simpa using ih (by simpa [nthO] using h)
theorem part_ok {t : TypeId} {ag : Bool} {off len : Nat} {vs : List V} {us : Array Value} {x : V} (ha : agg P t = some ag) (hz : size P t = some len) (hs : VRs ξ ρ vs us.toList) (h : fdW ag off len vs = some x) :
    ∃ u, (∀ w, (part t us off).run P w = .ok u w) ∧ VR ξ ρ x u := by
  unfold fdW at h
  cases ag with
  | true =>
    simp only [aggO] at h
    split at h
    · rename_i r e
      simp only [Option.some.injEq] at h
      subst h
      obtain ⟨rfl, h1⟩ := sub_some e
      have h2 := (hs.drop off).take len
      refine ⟨.agg (us.extract off (off + len)), fun w => ?_, ?_⟩
      · unfold part
        simp [agg_ok ha, size_ok hz]
      · have := VR.a h2
        have e3 : us.extract off (off + len) = ((us.toList.drop off).take len).toArray := by
          rw [show us.extract off (off + len) = (us.toList.toArray).extract off (off + len) from by simp]
          simp only [List.extract_toArray, List.extract_eq_take_drop]
          rw [show off + len - off = len from by omega]
        rw [e3]
        exact this
    · cases h
  | false =>
    obtain ⟨u, h1, h2⟩ := hs.get (nthO_some h)
    refine ⟨u, fun w => ?_, h2⟩
    have h3 : us[off]? = some u := by simpa using h1
    unfold part
    simp [agg_ok ha, h3]
theorem not_ok {x : A} {x' : Operand} {t : TypeId} {v : V} {E : Env} (ho : o.op = .unOp .not t x') (hx : VR ξ ρ (ev T x) (a.eval x')) (h : pur E T (.not x) = some v) : Pv P ξ ρ o a v := by
  simp only [pur] at h
  split at h
  · rename_i b e
    rw [e] at hx
    simp only [Option.some.injEq] at h
    subst h
    refine ⟨.bool (!b), fun w => ?_, .b _⟩
    unfold execOp
    rw [ho]
    simp [hx.b_inv, Op.unary]
  · cases h
theorem aggV_t {v : V} {vs : List V} {u : Value} (hv : VR ξ ρ v u) (h : aggV v = some vs) : ∃ us : Array Value, u = .agg us ∧ VRs ξ ρ vs us.toList := by
  unfold aggV at h
  split at h
  · simp only [Option.some.injEq] at h
    subst h
    cases hv with
    | a hs => exact ⟨_, rfl, by simpa using hs⟩
  · simp only [Option.some.injEq] at h
    subst h
    cases hv
    exact ⟨_, rfl, viewL (view_ok 3) _⟩
  · cases h
theorem fd_ok {x : A} {x' : Operand} {t : TypeId} {i len : Nat} {ag : Bool} {fs : Array Field} {f : Field} {v : V} {E : Env} (ho : o.op = .field t x' i) (ht : P.underlying t = some (.struct fs)) (hf : fs[i]? = some f)
    (ha : agg P f.type = some ag) (hz : size P f.type = some len) (hx : VR ξ ρ (ev T x) (a.eval x')) (h : pur E T (.fd ag f.offset len x) = some v) : Pv P ξ ρ o a v := by
  have key : ∀ (vs : List V) (us : Array Value), a.eval x' = .agg us → VRs ξ ρ vs us.toList → fdW ag f.offset len vs = some v → Pv P ξ ρ o a v := fun vs us e hs h => by
    obtain ⟨u, h1, h2⟩ := part_ok ha hz hs h
    refine ⟨u, fun w => ?_, h2⟩
    unfold execOp
    rw [ho]
    simp [e, Instr.field, run_und ht, hf, asAgg, h1]
  simp only [pur] at h
  split at h
  · rename_i vs e
    obtain ⟨us, hu, hs⟩ := aggV_t hx e
    exact key _ _ hu hs h
  · cases h
theorem evN_t {x : A} {n : Nat} {u : Value} (hx : VR ξ ρ (ev T x) u) (h : evN T x = some n) : ∃ kk, u = .int kk (Int.ofNat n) := by
  unfold evN at h
  split at h
  · rename_i m e
    rw [e] at hx
    simp only [Option.some.injEq] at h
    subst h
    exact ⟨_, hx.n_inv⟩
  · rename_i m e
    rw [e] at hx
    simp only [Option.some.injEq] at h
    subst h
    exact ⟨_, hx.u_inv⟩
  · cases h
theorem iA_ok {x i : A} {x' i' : Operand} {t elem : TypeId} {len sz : Nat} {v : V} {E : Env} (ho : o.op = .indexAddr t x' i') (ht : P.underlying t = some (.array len elem)) (hz : size P elem = some sz)
    (hx : VR ξ ρ (ev T x) (a.eval x')) (hi : VR ξ ρ (ev T i) (a.eval i')) (h : pur E T (.iA sz len x i) = some v) : Pv P ξ ρ o a v := by
  simp only [pur] at h
  split at h
  · rename_i b n m e1 e2
    rw [e1] at hx
    obtain ⟨bb, c, hb, hu⟩ := hx.p_inv
    obtain ⟨kk, hk⟩ := evN_t hi e2
    split at h
    · cases h
    · rename_i e3
      have e3 := ble_f e3
      simp only [Option.some.injEq] at h
      subst h
      refine ⟨.pointer (some ⟨bb, n + m * sz, none⟩), fun w => ?_, .p hb⟩
      unfold execOp
      rw [ho]
      have h0 : (0 : Int) ≤ Int.ofNat m ∧ Int.ofNat m < (len : Int) := ⟨by simp, by simp; omega⟩
      simp only [hu, hk, Instr.indexAt, asIntOf, Sem.run_bind, Sem.run_pure, Result.andThen_ok, run_und ht, Instr.sureAddr, if_pos h0, size_ok hz]
      rw [show (Int.ofNat m).toNat = m from rfl, add_addr]
  · cases h
theorem iv_ok {x i : A} {x' i' : Operand} {t elem : TypeId} {len sz : Nat} {ag : Bool} {v : V} {E : Env} (ho : o.op = .index t x' i') (ht : P.underlying t = some (.array len elem)) (ha : agg P elem = some ag) (hz : size P elem = some sz)
    (hx : VR ξ ρ (ev T x) (a.eval x')) (hi : VR ξ ρ (ev T i) (a.eval i')) (h : pur E T (.iv ag sz len x i) = some v) : Pv P ξ ρ o a v := by
  simp only [pur] at h
  split at h
  · rename_i m e2
    obtain ⟨kk, hk⟩ := evN_t hi e2
    split at h
    · cases h
    · rename_i e3
      have e3 := ble_f e3
      have h0 : (0 : Int) ≤ Int.ofNat m ∧ Int.ofNat m < (len : Int) := ⟨by simp, by simp; omega⟩
      have key : ∀ (vs : List V) (us : Array Value), a.eval x' = .agg us → VRs ξ ρ vs us.toList → fdW ag (Nat.mul m sz) sz vs = some v → Pv P ξ ρ o a v := fun vs us e hs h => by
        obtain ⟨u, h1, h2⟩ := part_ok ha hz hs h
        refine ⟨u, fun w => ?_, h2⟩
        unfold execOp
        rw [ho]
        simp only [e, hk, Instr.index, asIntOf, Sem.run_bind, Sem.run_pure, Result.andThen_ok, run_und ht, if_pos h0, size_ok hz]
        rw [show (Int.ofNat m).toNat = m from rfl]
        simp only [show Nat.mul m sz = m * sz from rfl] at h1
        rw [h1]
        rfl
      split at h
      · rename_i vs e
        obtain ⟨us, hu, hs⟩ := aggV_t hx e
        exact key _ _ hu hs h
      · cases h
  · cases h
end
end Go.Ex
namespace Go.Ex
open Go.Mo
set_option linter.unusedVariables false
set_option linter.constructorNameAsVariable false
set_option linter.unusedSimpArgs false
section
variable {P : Program} {ξ : Nat → Int} {ρ : Rho} {o : Oper} {a : Act} {d : Ix} {T : TT} {σ : St} {κ : KN} {κp : K}
inductive NV : NK → Bool → Value → Prop
  | p1 (ad : Addr) : NV .p false (.pointer (some ad))
  | p0 : NV .p true (.pointer none)
  | s1 (ad : Addr) (l c : Nat) : NV .s false (.slice (some ad) l c)
  | s0 (l c : Nat) : NV .s true (.slice none l c)
  | m1 (r : Nat) : NV .m false (.map (some r))
  | m0 : NV .m true (.map none)
  | f1 (g : Fn) (x y : Array Value) : NV .f false (.func g x y)
  | f0 : NV .f true .nilFunc
theorem nilV_ok {k : NK} {v : V} {b : Bool} {u : Value} (h : nilV k v = some b) (hv : VR ξ ρ v u) : NV k b u := by
  unfold nilV at h
  split at h <;> first | (cases h; done) | skip
  all_goals (simp only [Option.some.injEq] at h; subst h; cases hv; constructor)
def nkT : NK → TypeDesc → Prop
  | .p, .pointer _ => True
  | .s, .slice _ => True
  | .m, .map _ _ => True
  | .f, .func .. => True
  | _, _ => False
theorem equal_nil {k : NK} {x y : Bool} {u v : Value} {t : TypeId} {dsc : TypeDesc} (ht : P.underlying t = some dsc) (hk : nkT k dsc) (hu : NV k x u) (hv : NV k y v) (hn : x = true ∨ y = true) (w : World) : (Op.equal t u v).run P w = .ok (x && y) w := by
  show (Op.equalIn (9999 + 1) t u v).run P w = _
  unfold Op.equalIn
  simp only [Sem.run_bind, run_und ht, Result.andThen_ok]
  cases hu <;> cases hv <;> first | (simp at hn; done) | skip
  all_goals (cases dsc <;> simp only [nkT] at hk <;> simp)
theorem ep_ok {k : NK} {x y : A} {x' y' : Operand} {t yt : TypeId} {op : BinOp} {dsc : TypeDesc} {neg : Bool} {v : V} {E : Env} (ho : o.op = .binOp op t x' y' yt) (hop : op = .eql ∧ neg = false ∨ op = .neq ∧ neg = true) (ht : P.underlying t = some dsc) (hk : nkT k dsc)
    (hx : VR ξ ρ (ev T x) (a.eval x')) (hy : VR ξ ρ (ev T y) (a.eval y')) (h : pur E T (.ep neg k x y) = some v) : Pv P ξ ρ o a v := by
  simp only [pur] at h
  have key : ∀ bx b : Bool, nilV k (ev T x) = some bx → nilV k (ev T y) = some b → (bx = true ∨ b = true) → negO neg (some (bx && b)) = some v → Pv P ξ ρ o a v := fun bx b h1 h2 hn e => by
    have n1 := nilV_ok h1 hx
    have n2 := nilV_ok h2 hy
    have he := equal_nil ht hk n1 n2 hn
    have hg : ∀ w, (eqGuard op t x' y' (a.eval x') (a.eval y')).run P w = .ok () w := fun w => by
      unfold eqGuard
      rcases hop with ⟨rfl, _⟩ | ⟨rfl, _⟩ <;> (generalize a.eval x' = u at n1; generalize a.eval y' = v at n2; cases n1 <;> cases n2 <;> simp)
    rcases hop with ⟨rfl, rfl⟩ | ⟨rfl, rfl⟩
    · simp only [negO, Option.some.injEq] at e
      subst e
      refine ⟨.bool (bx && b), fun w => ?_, .b _⟩
      unfold execOp
      rw [ho]
      simp only [Sem.run_bind, hg, Result.andThen_ok]
      have hb : binOp .eql t (a.eval x') (a.eval y') = (do pure (.bool (← Op.equal t (a.eval x') (a.eval y')))) := by
        generalize a.eval x' = u at n1; generalize a.eval y' = v at n2
        cases n1 <;> cases n2 <;> rfl
      simp [hb, he]
    · simp only [negO, Option.some.injEq] at e
      subst e
      refine ⟨.bool (!(bx && b)), fun w => ?_, .b _⟩
      unfold execOp
      rw [ho]
      simp only [Sem.run_bind, hg, Result.andThen_ok]
      have hb : binOp .neq t (a.eval x') (a.eval y') = (do pure (.bool (!(← Op.equal t (a.eval x') (a.eval y'))))) := by
        generalize a.eval x' = u at n1; generalize a.eval y' = v at n2
        cases n1 <;> cases n2 <;> rfl
      simp [hb, he]
  unfold epX at h
  split at h
  · rename_i b h1 h2
    exact key true b h1 h2 (.inl rfl) (by simpa using h)
  · rename_i h1 h2
    exact key false true h1 h2 (.inr rfl) (by simpa using h)
  · cases h
theorem mf_ok {fs cs : List A} {fs' cs' : Array Operand} {g : Fn} {v : V} {E : Env} (ho : o.op = .makeFunc g fs' cs') (hf : VRs ξ ρ (opsA T fs) (fs'.toList.map a.eval)) (hc : VRs ξ ρ (opsA T cs) (cs'.toList.map a.eval)) (h : pur E T (.mf g fs cs) = some v) : Pv P ξ ρ o a v := by
  simp only [pur, Option.some.injEq] at h
  subst h
  refine ⟨_, fun w => ?_, .f hf hc⟩
  unfold execOp
  rw [ho]
  have e1 : fs'.map a.eval = (fs'.toList.map a.eval).toArray := Array.ext' (by simp [Array.toList_map])
  have e2 : cs'.map a.eval = (cs'.toList.map a.eval).toArray := Array.ext' (by simp [Array.toList_map])
  simp only [Instr.makeFunc, e1, e2]
  rfl
theorem mi_ok {x : A} {x' : Operand} {t : TypeId} {dsc : TypeDesc} {v : V} {E : Env} (ho : o.op = .makeInterface t x') (ht : P.underlying t = some dsc) (hd : ∀ ms, dsc ≠ .interface ms) (hx : VR ξ ρ (ev T x) (a.eval x')) (h : pur E T (.mi t x) = some v) : Pv P ξ ρ o a v := by
  simp only [pur, Option.some.injEq] at h
  subst h
  refine ⟨_, fun w => ?_, .i hx⟩
  unfold execOp
  rw [ho]
  simp only [Instr.makeInterface, Sem.run_bind, run_und ht, Result.andThen_ok]
  cases dsc <;> first | exact absurd rfl (hd _) | rfl
theorem ta_ok {x : A} {x' : Operand} {xt t : TypeId} {dsc : TypeDesc} {v : V} {E : Env} (ho : o.op = .typeAssert x' xt t false) (ht : P.underlying t = some dsc) (hd : ∀ ms, dsc ≠ .interface ms) (hx : VR ξ ρ (ev T x) (a.eval x')) (h : pur E T (.ta t x) = some v) : Pv P ξ ρ o a v := by
  have key : ∀ u, a.eval x' = .iface t u → VR ξ ρ v u → Pv P ξ ρ o a v := fun u e hv => by
    refine ⟨u, fun w => ?_, hv⟩
    unfold execOp
    rw [ho]
    simp only [e, Instr.typeAssert, Sem.run_bind, run_und ht, Result.andThen_ok]
    cases dsc <;> first | exact absurd rfl (hd _) | simp
  simp only [pur] at h
  generalize hu : a.eval x' = u at hx
  split at h
  · rename_i s' y e
    rw [e] at hx
    split at h
    · rename_i e'
      subst e'
      simp only [Option.some.injEq] at h
      subst h
      cases hx with
      | i hy => exact key _ hu hy
    · cases h
  · rename_i s' y e
    rw [e] at hx
    split at h
    · rename_i e'
      subst e'
      simp only [Option.some.injEq] at h
      subst h
      cases hx
      exact key _ hu (view_ok 3 _)
    · cases h
  · cases h
theorem cp_ok {x : A} {x' : Operand} {t e : TypeId} {tys : Array TypeId} {v : V} {E : Env} (ho : o.op = .call ⟨.builtin .cap, #[x'], tys⟩) (hty : tys.getD 0 0 = t) (hsz : 0 < tys.size) (ht : P.underlying t = some (.slice e))
    (hx : VR ξ ρ (ev T x) (a.eval x')) (h : pur E T (.cp x) = some v) : Pv P ξ ρ o a v := by
  have h0 : tys[0]? = some t := by
    rw [← hty]
    simp [Array.getD_eq_getD_getElem?, hsz]
  have key : ∀ b l c, a.eval x' = .slice b l c → some (V0.n (X := W) c) = some v → Pv P ξ ρ o a v := fun b l c e h => by
    simp only [Option.some.injEq] at h
    subst h
    refine ⟨.int .i64 c, fun w => ?_, .n c⟩
    unfold execOp
    rw [ho]
    simp [resolve, invoke, builtin, Builtin.cap_, h0, e, run_und ht, goInt]
  simp only [pur] at h
  generalize hu : a.eval x' = u at hx
  split at h
  · rename_i e
    rw [e] at hx
    cases hx with
    | s hb => exact key _ _ _ hu h
  · rename_i e
    rw [e] at hx
    cases hx
    exact key _ _ _ hu h
  · cases h
end
end Go.Ex
namespace Go.Ex
open Go.Mo
set_option linter.unusedVariables false
set_option linter.constructorNameAsVariable false
set_option linter.unusedSimpArgs false
inductive DR (ξ : Nat → Int) (ρ : Rho) : V → Deferred → Prop
  | mk {i : Id} {b c : Nat} (h : ρ i = some (b, c)) : DR ξ ρ (.w (.m i)) (Mo.mark b)
  | cl {f : FuncId} {fs cs vs : List V} {us ws xs : List Value} (h1 : VRs ξ ρ fs us) (h2 : VRs ξ ρ cs ws) (h3 : VRs ξ ρ vs xs) :
      DR ξ ρ (.w (.t (.w (.f (.func f) fs cs) :: vs))) { target := .fn (.func f) ws.toArray, args := (us ++ xs).toArray }
inductive DRs (ξ : Nat → Int) (ρ : Rho) : List V → List Deferred → Prop
  | nil : DRs ξ ρ [] []
  | cons {v : V} {d : Deferred} {vs : List V} {ds : List Deferred} (h : DR ξ ρ v d) (r : DRs ξ ρ vs ds) : DRs ξ ρ (v :: vs) (d :: ds)
section
variable {ξ : Nat → Int} {ρ ρ' : Rho}
theorem DR.mono (hl : ρ.le ρ') {v : V} {d : Deferred} (h : DR ξ ρ v d) : DR ξ ρ' v d := by
  cases h with
  | mk h => exact .mk (hl _ _ h)
  | cl h1 h2 h3 => exact .cl (h1.mono hl) (h2.mono hl) (h3.mono hl)
theorem DRs.mono (hl : ρ.le ρ') {v : List V} {d : List Deferred} (h : DRs ξ ρ v d) : DRs ξ ρ' v d := by
  induction h with
  | nil => exact .nil
  | cons h r ih => exact .cons (h.mono hl) ih
structure FR (ξ : Nat → Int) (ρ : Rho) (loc n : Nat) (T : TT) (a : Act) : Prop where
  tr : TR ξ ρ loc T a.tmps
  size : a.tmps.size = n
  ds : DRs ξ ρ (dsOf T) a.defers
theorem FR.mono (hl : ρ.le ρ') {loc n : Nat} {T : TT} {a : Act} (h : FR ξ ρ loc n T a) : FR ξ ρ' loc n T a := ⟨h.tr.mono hl, h.size, h.ds.mono hl⟩
inductive XR' (ξ : Nat → Int) (ρ : Rho) : Ext → Exit → Prop
  | n : XR' ξ ρ .n .normal
  | r : XR' ξ ρ .r .ret
  | x (i : Nat) : XR' ξ ρ (.x i) (.exit i)
  | p {v : V} {u : Value} (h : VR ξ ρ v u) : XR' ξ ρ (.p v) (.panic [{ v := u, recovered := false }])
end
section
variable (P : Program) (W : Kp) (ξ : Nat → Int)
def RunOK (run : XC → TT → St → K → Ans) : Prop :=
  ∀ xc T σ κ, run xc T σ κ = true → ∀ loc c n, cC P loc c = xc → okC P loc n c = true → n ≤ 250 → ∀ rd, (rd = none ∨ noRF c = true) → ∀ ρ a w Q, Rel P W ξ ρ σ w → FR ξ ρ loc n T a →
    (∀ e T' σ' ρ' e' a' w', κ e T' σ' = true → ρ.le ρ' → Rel P W ξ ρ' σ' w' → FR ξ ρ' loc n T' a' → XR' ξ ρ' e e' → Q e' a' w') → Wp rd P c Q a w
inductive NR (ξ : Nat → Int) (ρ : Rho) : En → Ending → Prop
  | r {v : V} {u : Value} (h : VR ξ ρ v u) : NR ξ ρ (.r v) (.returned u)
  | p {v : V} {u : Value} (h : VR ξ ρ v u) : NR ξ ρ (.p v) (.panicked [{ v := u, recovered := false }])
def CallsX (P : Program) (f : FuncId) (args : Array Value) (w : World) (R : Ending → World → Prop) : Prop :=
  ((callFunc f args).run P w = .ok (.enter f args) w ∧ Calls P f args w R) ∨ ∃ v w', (callFunc f args).run P w = .ok (.value v) w' ∧ R (.returned v) w'
def CallOK (call : Nat → List V → St → (En → St → Ans) → Ans) : Prop :=
  ∀ f vs σ κ, call f vs σ κ = true → ∀ ρ w us R, Rel P W ξ ρ σ w → VRs ξ ρ vs us →
    (∀ e σ' ρ' e' w', κ e σ' = true → ρ.le ρ' → Rel P W ξ ρ' σ' w' → NR ξ ρ' e e' → R e' w') → CallsX P f us.toArray w R
variable {P W ξ} {E : Env}
theorem extC_n {e : Ext} {x : Ans} {k : Ext → Ans} (h : extC e x k = true) : e = .n ∧ x = true ∨ e ≠ .n ∧ k e = true := by
  cases e with
  | n => exact .inl ⟨rfl, h⟩
  | _ => exact .inr ⟨by simp, h⟩
theorem run_go (m : Nat) (c : XC) (T : TT) (σ : St) (κ : K) : (go E (m + 1)).run c T σ κ = runC (go E m) c T σ κ := rfl
theorem call_go (m : Nat) (f : Nat) (vs : List V) (σ : St) (κ : En → St → Ans) : (go E (m + 1)).call f vs σ κ = callF (go E m) f vs σ κ := rfl
theorem seq_ok {C : Cx} (H : RunOK P W ξ C.run) {x y : Code} {loc n : Nat} {T : TT} {σ : St} {κ : K} (h : rSeq (cC P loc x) (cC P loc y) C T σ κ = true) (hc : okC P loc n (.seq x y) = true) (hn : n ≤ 250) {rd : Option Nat}
    (hr : rd = none ∨ noRF (.seq x y) = true) {ρ : Rho} {a : Act} {w : World} {Q : Exit → Act → World → Prop} (hR : Rel P W ξ ρ σ w) (hF : FR ξ ρ loc n T a)
    (hκ : ∀ e T' σ' ρ' e' a' w', κ e T' σ' = true → ρ.le ρ' → Rel P W ξ ρ' σ' w' → FR ξ ρ' loc n T' a' → XR' ξ ρ' e e' → Q e' a' w') : Wp rd P (.seq x y) Q a w := by
  simp only [okC, Bool.and_eq_true] at hc
  have h1 : rd = none ∨ noRF x = true := hr.imp id fun e => by simp only [noRF, Bool.and_eq_true] at e; exact e.1
  have h2 : rd = none ∨ noRF y = true := hr.imp id fun e => by simp only [noRF, Bool.and_eq_true] at e; exact e.2
  refine wpIn_seq (H _ _ _ _ h loc x n rfl hc.1 hn rd h1 ρ a w _ hR hF ?_)
  intro e T' σ' ρ' e' a' w' hk hl hR' hF' hx
  rcases extC_n hk with ⟨rfl, hk⟩ | ⟨hne, hk⟩
  · cases hx
    exact H _ _ _ _ hk loc y n rfl hc.2 hn rd h2 ρ' a' w' Q hR' hF' fun e T'' σ'' ρ'' e'' a'' w'' k l r f x => hκ e T'' σ'' ρ'' e'' a'' w'' k (hl.trans l) r f x
  · have := hκ e T' σ' ρ' e' a' w' hk hl hR' hF' hx
    cases hx <;> first | exact absurd rfl hne | exact this
theorem cond_ok {C : Cx} (H : RunOK P W ξ C.run) {x : Operand} {x1 : A} {y z : Code} {loc n : Nat} {T : TT} {σ : St} {κ : K} (hx1 : cA (loc, []) x = some x1) (h : rCond x1 (cC P loc y) (cC P loc z) C T σ κ = true) (hc : okC P loc n (.cond x y z) = true) (hn : n ≤ 250) {rd : Option Nat}
    (hr : rd = none ∨ noRF (.cond x y z) = true) {ρ : Rho} {a : Act} {w : World} {Q : Exit → Act → World → Prop} (hR : Rel P W ξ ρ σ w) (hF : FR ξ ρ loc n T a)
    (hκ : ∀ e T' σ' ρ' e' a' w', κ e T' σ' = true → ρ.le ρ' → Rel P W ξ ρ' σ' w' → FR ξ ρ' loc n T' a' → XR' ξ ρ' e e' → Q e' a' w') : Wp rd P (.cond x y z) Q a w := by
  simp only [okC, Bool.and_eq_true] at hc
  have h1 : rd = none ∨ noRF y = true := hr.imp id fun e => by simp only [noRF, Bool.and_eq_true] at e; exact e.1
  have h2 : rd = none ∨ noRF z = true := hr.imp id fun e => by simp only [noRF, Bool.and_eq_true] at e; exact e.2
  have hv := cA_ok (a := a) (s := (loc, [])) hF.tr SR.nil hx1 hc.1
  unfold rCond at h
  rcases vB_t h with ⟨e, h⟩ | ⟨e, h⟩
  · rw [e] at hv
    exact wpIn_cond_true hv.b_inv (H _ _ _ _ h loc y n rfl hc.2.1 hn rd h1 ρ a w Q hR hF hκ)
  · rw [e] at hv
    exact wpIn_cond_false hv.b_inv (H _ _ _ _ h loc z n rfl hc.2.2 hn rd h2 ρ a w Q hR hF hκ)
theorem block_ok {C : Cx} (H : RunOK P W ξ C.run) {i : Nat} {x : Code} {loc n : Nat} {T : TT} {σ : St} {κ : K} (h : rBlock i (cC P loc x) C T σ κ = true) (hc : okC P loc n (.block i x) = true) (hn : n ≤ 250) {rd : Option Nat}
    (hr : rd = none ∨ noRF (.block i x) = true) {ρ : Rho} {a : Act} {w : World} {Q : Exit → Act → World → Prop} (hR : Rel P W ξ ρ σ w) (hF : FR ξ ρ loc n T a)
    (hκ : ∀ e T' σ' ρ' e' a' w', κ e T' σ' = true → ρ.le ρ' → Rel P W ξ ρ' σ' w' → FR ξ ρ' loc n T' a' → XR' ξ ρ' e e' → Q e' a' w') : Wp rd P (.block i x) Q a w := by
  refine wpIn_block (H _ _ _ _ h loc x n rfl hc hn rd hr ρ a w _ hR hF ?_)
  intro e T' σ' ρ' e' a' w' hk hl hR' hF' hx
  rcases extC_n hk with ⟨rfl, hk⟩ | ⟨hne, hk⟩
  · cases hx
    exact hκ _ _ _ _ _ _ _ hk hl hR' hF' .n
  · cases hx with
    | n => exact absurd rfl hne
    | r => exact hκ _ _ _ _ _ _ _ hk hl hR' hF' .r
    | p hv => exact hκ _ _ _ _ _ _ _ hk hl hR' hF' (.p hv)
    | x j =>
      unfold hit at hk
      simp only at hk
      show if j = i then Q .normal a' w' else Q (.exit j) a' w'
      split at hk
      · rename_i e
        have e := Nat.eq_of_beq_eq_true e
        rw [if_pos e.symm]
        exact hκ _ _ _ _ _ _ _ hk hl hR' hF' .n
      · rename_i e
        have e := Nat.ne_of_beq_eq_false e
        rw [if_neg fun e' => e e'.symm]
        exact hκ _ _ _ _ _ _ _ hk hl hR' hF' (.x j)
theorem loop_ok {m : Nat} (H : ∀ k, k ≤ m → RunOK P W ξ (go E k).run) {x : Code} {loc n : Nat} {T : TT} {σ : St} {κ : K} (h : rLoop (cC P loc x) (go E m) T σ κ = true) (hc : okC P loc n (.loop x) = true) (hn : n ≤ 250) {rd : Option Nat}
    (hr : rd = none ∨ noRF (.loop x) = true) {ρ : Rho} {a : Act} {w : World} {Q : Exit → Act → World → Prop} (hR : Rel P W ξ ρ σ w) (hF : FR ξ ρ loc n T a)
    (hκ : ∀ e T' σ' ρ' e' a' w', κ e T' σ' = true → ρ.le ρ' → Rel P W ξ ρ' σ' w' → FR ξ ρ' loc n T' a' → XR' ξ ρ' e e' → Q e' a' w') : Wp rd P (.loop x) Q a w := by
  refine wpIn_loop_ix (σ := Nat × TT × St × Rho) (fun s a w => s.1 ≤ m ∧ rLoop (cC P loc x) (go E s.1) s.2.1 s.2.2.1 κ = true ∧ ρ.le s.2.2.2 ∧ Rel P W ξ s.2.2.2 s.2.2.1 w ∧ FR ξ s.2.2.2 loc n s.2.1 a) (fun s _ => s.1) (m, T, σ, ρ) ⟨Nat.le_refl _, h, ρ.le_refl, hR, hF⟩ ?_
  rintro ⟨k, T, σ, ρ1⟩ a w ⟨hk, h, hl, hR, hF⟩
  refine H k hk _ _ _ _ h loc x n rfl hc hn rd hr ρ1 a w _ hR hF ?_
  intro e T' σ' ρ' e' a' w' hκ' hl' hR' hF' hx
  rcases extC_n hκ' with ⟨rfl, hκ'⟩ | ⟨hne, hκ'⟩
  · cases hx
    cases k with
    | zero => cases hκ'
    | succ k => exact ⟨(k, T', σ', ρ'), ⟨by simp only at hk ⊢; omega, hκ', hl.trans hl', hR', hF'⟩, by simp⟩
  · have := hκ e T' σ' ρ' e' a' w' hκ' (hl.trans hl') hR' hF' hx
    cases hx <;> first | exact absurd rfl hne | exact this
end
end Go.Ex
namespace Go.Ex
open Go.Mo
set_option linter.unusedVariables false
set_option linter.constructorNameAsVariable false
set_option linter.unusedSimpArgs false
section
variable {P : Program} {W : Kp} {ξ : Nat → Int} {E : Env}
def StepOK (P : Program) (W : Kp) (ξ : Nat → Int) (C : Cx) : Prop :=
  ∀ (s : Sb) (o : Oper) (n : Nat) (T : TT) (σ : St) (κn : KN) (κp : K), doX (xOf s P o) (ixD o.dst) C T σ κn κp = true → opdsLt o = true → (skips o.op = true → o.dst = none) → (∀ d, o.dst = some d → d < n) → n ≤ 250 →
    ∀ (rd : Option Nat) (ρ : Rho) (a : Act) (w : World) (Kn : Act → World → Prop) (Q : Exit → Act → World → Prop), (∀ c, o.op = .defer c → rd = none) → Rel P W ξ ρ σ w → FR ξ ρ s.1 n T a → SR ξ ρ T s.2 a.tmps →
    (∀ T' σ' ρ' a' w', κn T' σ' = true → ρ.le ρ' → Rel P W ξ ρ' σ' w' → FR ξ ρ' s.1 n T' a' → (∀ t, o.dst ≠ some t → a'.tmps.getD t undef = a.tmps.getD t undef) → (∀ i, ixD o.dst ≠ i → i ≠ ixDs → i ≠ ixPn → g16 i T' = g16 i T) → Kn a' w') →
    (∀ e T' σ' ρ' e' a' w', κp e T' σ' = true → ρ.le ρ' → Rel P W ξ ρ' σ' w' → FR ξ ρ' s.1 n T' a' → XR' ξ ρ' e e' → Q e' a' w') →
    o.wpIn (FW rd) 0 P a w Kn Q
theorem mem_kill {d : Option Nat} {s : Sb} {t : Nat} {A : A} (h : (t, A) ∈ (kill d s).2) : (t, A) ∈ s.2 ∧ (∀ e, d = some e → t ≠ e ∧ killA e A = false) := by
  cases d with
  | none => exact ⟨h, fun e he => by cases he⟩
  | some d =>
    simp only [kill, List.mem_filter] at h
    obtain ⟨h1, h2⟩ := h
    refine ⟨h1, fun e he => ?_⟩
    simp only [Option.some.injEq] at he
    subst he
    simp only [Bool.not_or, Bool.and_eq_true, Bool.not_eq_true'] at h2
    exact ⟨Nat.ne_of_beq_eq_false h2.1, h2.2⟩
theorem eqD_self (x : Dg) : eqD x x = true := by cases x <;> rfl
theorem killA_t {d : Nat} {i : Ix} (h : killA d (.t i) = false) : i ≠ ixOf d := by
  intro e
  subst e
  unfold killA at h
  simp [eqD_self] at h
theorem SR.step {ρ ρ' : Rho} {T T' : TT} {s : Sb} {d : Option Nat} {tm tm' : Array Value} (h : SR ξ ρ T s.2 tm) (hl : ρ.le ρ') (h1 : ∀ t, d ≠ some t → tm'.getD t undef = tm.getD t undef)
    (h2 : ∀ i, ixD d ≠ i → i ≠ ixDs → i ≠ ixPn → g16 i T' = g16 i T) (hx : ∀ t i, (t, A.t i) ∈ s.2 → ∃ j, j < 250 ∧ i = ixOf j) : SR ξ ρ' T' (kill d s).2 tm' := by
  intro t A hA
  obtain ⟨hm, hk⟩ := mem_kill hA
  have hv := (h t A hm).mono hl
  rw [h1 t (fun e => by cases d with
    | none => cases e
    | some d => simp only [Option.some.injEq] at e; exact (hk d rfl).1 e.symm)]
  cases A with
  | v v => exact hv
  | t i =>
    obtain ⟨j, hj, rfl⟩ := hx t i hm
    have : g16 (ixOf j) T' = g16 (ixOf j) T := h2 _ (fun e => by
      cases d with
      | none =>
        have := ixOf_inj (m := 253) (n := j) (by decide) (by omega) e
        omega
      | some d => exact killA_t (hk d rfl).2 e.symm) (fun e => by have := ixOf_inj (m := j) (n := 254) (by omega) (by decide) (e.trans ixDs_eq); omega) (fun e => by have := ixOf_inj (m := j) (n := 255) (by omega) (by decide) (e.trans ixPn_eq); omega)
    show VR ξ ρ' (g16 (ixOf j) T').v _
    rw [this]
    exact hv
end
end Go.Ex
namespace Go.Ex
open Go.Mo
set_option linter.unusedVariables false
set_option linter.constructorNameAsVariable false
set_option linter.unusedSimpArgs false
section
variable {P : Program} {W : Kp} {ξ : Nat → Int} {E : Env}
def SbW (s : Sb) : Prop := ∀ t i, (t, A.t i) ∈ s.2 → ∃ j, j < 250 ∧ i = ixOf j
theorem SbW.kill {s : Sb} (h : SbW s) (d : Option Nat) : SbW (kill d s) := fun t i hm => h t i (mem_kill hm).1
theorem atL_W {loc : Nat} : ∀ {s : List (Nat × A)} {t : Nat} {i : Ix}, atL loc s t = .t i → t < 250 → (∀ t i, (t, A.t i) ∈ s → ∃ j, j < 250 ∧ i = ixOf j) → ∃ j, j < 250 ∧ i = ixOf j
  | [], t, i, h, ht, _ => by
    unfold atL at h
    split at h
    · cases h
    · cases h; exact ⟨t, ht, rfl⟩
  | (u, A) :: s, t, i, h, ht, hw => by
    unfold atL at h
    split at h
    · subst h; exact hw u i (by simp)
    · exact atL_W h ht fun t i hm => hw t i (by simp [hm])
theorem cA_W {s : Sb} {x : Operand} {i : Ix} (h : cA s x = some (.t i)) (hl : opdLt x = true) (hw : SbW s) : ∃ j, j < 250 ∧ i = ixOf j := by
  cases x with
  | tmp t =>
    simp only [cA, Option.some.injEq] at h
    exact atL_W h (by simpa [opdLt] using hl) hw
  | const v => simp [cA] at h
  | func f => simp [cA] at h
  | global g => cases h
theorem kill_fst (d : Option Nat) (s : Sb) : (kill d s).1 = s.1 := by cases d <;> rfl
theorem isMove_t {loc d : Nat} {o : Oper} {x : Operand} (h : isMove loc o = some (d, x)) : o.guard = none ∧ o.dst = some d ∧ (o.op = .move x ∨ o.op = .assign x) ∧ Nat.testBit loc d = true := by
  unfold isMove at h
  split at h
  · rename_i d' x' e1 e2 e3
    split at h
    · rename_i e4
      simp only [Option.some.injEq, Prod.mk.injEq] at h
      obtain ⟨rfl, rfl⟩ := h
      exact ⟨e1, e2, .inl e3, e4⟩
    · cases h
  · rename_i d' x' e1 e2 e3
    split at h
    · rename_i e4
      simp only [Option.some.injEq, Prod.mk.injEq] at h
      obtain ⟨rfl, rfl⟩ := h
      exact ⟨e1, e2, .inr e3, e4⟩
    · cases h
  · cases h
theorem put_getD {a : Act} {d t : Nat} {v : Value} : (a.put (some d) v).tmps.getD t undef = if t = d ∧ d < a.tmps.size then v else a.tmps.getD t undef := by
  simp only [Act.put, Array.getD_eq_getD_getElem?]
  by_cases e : t = d
  · subst e
    by_cases hs : t < a.tmps.size
    · simp [hs]
    · simp [hs]
  · rw [Array.getElem?_setIfInBounds_ne (fun e' => e e'.symm), if_neg (fun h => e h.1)]
theorem dsOf_eq {T T' : TT} (h : g16 ixDs T' = g16 ixDs T) : dsOf T' = dsOf T := by unfold dsOf; rw [h]
theorem FR.put {ρ : Rho} {loc n : Nat} {T : TT} {a : Act} {d : Option Nat} {v : V} {u : Value} (h : FR ξ ρ loc n T a) (hv : VR ξ ρ v u) (hd : ∀ e, d = some e → e < n) (hn : n ≤ 250) {σ : St} {κ : KN} (hk : putV (ixD d) v T σ κ = true) :
    ∃ T', κ T' σ = true ∧ FR ξ ρ loc n T' (a.put d u) ∧ (∀ t, d ≠ some t → (a.put d u).tmps.getD t undef = a.tmps.getD t undef) ∧ (∀ i, ixD d ≠ i → i ≠ ixDs → i ≠ ixPn → g16 i T' = g16 i T) ∧ g16 ixDs T' = g16 ixDs T ∧ g16 ixPn T' = g16 ixPn T ∧ (g16 (ixD d) T').v = v := by
  unfold putV at hk
  cases d with
  | some d =>
    have hd := hd d rfl
    obtain ⟨T', h1, h2, h3⟩ := put16_spec (ixOf d) (⟨v⟩ : Lf) T
    have e1 : g16 ixDs T' = g16 ixDs T := h3 _ fun e => by have := ixOf_inj (m := 254) (n := d) (by decide) (by omega) e; omega
    have e2 : g16 ixPn T' = g16 ixPn T := h3 _ fun e => by have := ixOf_inj (m := 255) (n := d) (by decide) (by omega) e; omega
    refine ⟨T', by rw [← h1 _ (fun T => κ T σ)]; exact hk, ⟨fun t ht hc => ?_, by simp [Act.put, h.size], ?_⟩, fun t ht => ?_, fun i hi _ _ => h3 _ fun e => hi e.symm, e1, e2, congrArg Lf.v h2⟩
    · rw [put_getD]
      by_cases e : t = d
      · subst e
        rw [h2, if_pos ⟨rfl, by rw [h.size]; exact hd⟩]
        exact hv
      · rw [if_neg fun h => e h.1, h3 _ fun e' => e (ixOf_inj (by omega) (by omega) e')]
        exact h.tr t ht hc
    · rw [dsOf_eq e1]; exact h.ds
    · rw [put_getD, if_neg fun e => ht (by rw [e.1])]
  | none =>
    obtain ⟨T', h1, h2, h3⟩ := put16_spec (ixOf 253) (⟨v⟩ : Lf) T
    have e1 : g16 ixDs T' = g16 ixDs T := h3 _ fun e => by have := ixOf_inj (m := 254) (n := 253) (by decide) (by decide) e; omega
    have e2 : g16 ixPn T' = g16 ixPn T := h3 _ fun e => by have := ixOf_inj (m := 255) (n := 253) (by decide) (by decide) e; omega
    refine ⟨T', by rw [← h1 _ (fun T => κ T σ)]; exact hk, ⟨fun t ht hc => ?_, h.size, ?_⟩, fun _ _ => rfl, fun i hi _ _ => h3 _ fun e => hi e.symm, e1, e2, congrArg Lf.v h2⟩
    · rw [h3 _ fun e' => by have := ixOf_inj (m := t) (n := 253) (by omega) (by decide) e'; omega]
      exact h.tr t ht hc
    · rw [dsOf_eq e1]; exact h.ds
theorem wants_t {ρ : Rho} {v : V} {u : Value} {w : Bool} {t f : Ans} (hv : VR ξ ρ v u) (h : wants v w t f = true) : (u = .bool w ∧ t = true) ∨ ((∀ b, u = .bool b → b ≠ w) ∧ f = true) := by
  cases v with
  | b x =>
    cases hv
    cases x <;> cases w
    · exact .inl ⟨rfl, h⟩
    · exact .inr ⟨fun b e => by cases e; simp, h⟩
    · exact .inr ⟨fun b e => by cases e; simp, h⟩
    · exact .inl ⟨rfl, h⟩
  | w z =>
    have h : wantsW z f = true := h
    unfold wantsW at h
    split at h
    · cases hv; exact .inr ⟨(fun b e => by cases e), h⟩
    · cases hv; exact .inr ⟨(fun b e => by cases e), h⟩
    · cases h
  | _ => cases h
theorem guard_t {ρ : Rho} {loc : Nat} {ops : Array Oper} {o : Oper} {j : Nat} {w : Bool} {T : TT} {a : Act} {t f : Ans} (hg : o.guard = some (j, w)) (hok : guardOK loc ops o = true) (hT : TR ξ ρ loc T a.tmps)
    (h : wants (g16 (ixOf (((ops[j]?).bind (·.dst)).getD 252)) T).v w t f = true) : (Region.wanted o (yielded ops a.tmps) = true ∧ t = true) ∨ (Region.wanted o (yielded ops a.tmps) = false ∧ f = true) := by
  unfold guardOK at hok
  rw [hg] at hok
  simp only at hok
  cases hd : (ops[j]?).bind (·.dst) with
  | none => rw [hd] at hok; cases hok
  | some d =>
    rw [hd] at hok h
    simp only [Bool.and_eq_true, Bool.not_eq_true', Option.getD_some] at hok h
    have hv := hT d (by simpa using hok.1) hok.2
    have hy : yielded ops a.tmps j = match a.tmps[d]? with | some (.bool b) => some b | _ => none := by
      unfold yielded
      rw [hd]
      rfl
    have hw : Region.wanted o (yielded ops a.tmps) = (yielded ops a.tmps j == some w) := by
      unfold Region.wanted
      rw [hg]
    rw [Array.getD_eq_getD_getElem?] at hv
    rcases wants_t hv h with ⟨e, h⟩ | ⟨e, h⟩
    · left
      refine ⟨?_, h⟩
      rw [hw, hy]
      cases hd' : a.tmps[d]? with
      | none => rw [hd'] at e; cases e
      | some u => rw [hd'] at e; simp only [Option.getD_some] at e; subst e; simp
    · right
      refine ⟨?_, h⟩
      rw [hw, hy]
      cases hd' : a.tmps[d]? with
      | none => simp
      | some u =>
        rw [hd'] at e
        simp only [Option.getD_some] at e
        cases u <;> simp
        rename_i b
        exact e b rfl
theorem ops_ok {C : Cx} (H : StepOK P W ξ C) {loc n : Nat} {ops : Array Oper} (hn : n ≤ 250) {κ : K} : ∀ (os : List Oper) (s : Sb) (T : TT) (σ : St), rOps (cOps P loc ops os s) C T σ κ = true → s.1 = loc → (∀ o ∈ os, opOK loc n ops o = true) → SbW s →
    ∀ (rd : Option Nat) (ρ : Rho) (a : Act) (w : World) (Q : Exit → Act → World → Prop), (∀ o ∈ os, ∀ c, o.op = .defer c → rd = none) → Rel P W ξ ρ σ w → FR ξ ρ loc n T a → SR ξ ρ T s.2 a.tmps →
    (∀ e T' σ' ρ' e' a' w', κ e T' σ' = true → ρ.le ρ' → Rel P W ξ ρ' σ' w' → FR ξ ρ' loc n T' a' → XR' ξ ρ' e e' → Q e' a' w') → WL rd P ops Q os a w
  | [], s, T, σ, h, hs, ho, hw, rd, ρ, a, w, Q, hdf, hR, hF, hS, hκ => hκ .n T σ ρ .normal a w h ρ.le_refl hR hF .n
  | o :: os, s, T, σ, h, hs, ho, hw, rd, ρ, a, w, Q, hdf, hR, hF, hS, hκ => by
    have hok := ho o (by simp)
    have hdfs : ∀ o ∈ os, ∀ c, o.op = .defer c → rd = none := fun o h => hdf o (by simp [h])
    have hos : ∀ o ∈ os, opOK loc n ops o = true := fun o h => ho o (by simp [h])
    simp only [opOK, Bool.and_eq_true] at hok
    obtain ⟨⟨hsk, hdst⟩, hlt, hgd⟩ := hok
    have hsk : skips o.op = true → o.dst = none := fun e => by rw [e] at hsk; simpa using hsk
    have hd : ∀ d, o.dst = some d → d < n := fun d e => by rw [e] at hdst; simpa using hdst
    subst hs
    -- what is emitted
    have emitted : rOps (cXI s P ops o :: cOps P s.1 ops os (kill o.dst s)) C T σ κ = true → WL rd P ops Q (o :: os) a w := fun h => by
      have h : (match (cXI s P ops o).g with
        | none => doX (xOf s P o) (ixD o.dst) C T σ (fun T σ => rOps (cOps P s.1 ops os (kill o.dst s)) C T σ κ) κ
        | some gw => guarded gw (xOf s P o) (ixD o.dst) C T σ (fun T σ => rOps (cOps P s.1 ops os (kill o.dst s)) C T σ κ) κ) = true := by
        revert h
        unfold rOps
        show opsS (cXI s P ops o) _ C T σ κ = true → _
        unfold opsS cXI
        simp only
        cases o.guard <;> exact id
      have step : doX (xOf s P o) (ixD o.dst) C T σ (fun T σ => rOps (cOps P s.1 ops os (kill o.dst s)) C T σ κ) κ = true → o.wpIn (FW rd) 0 P a w (WL rd P ops Q os) Q := fun h => by
        refine H s o n T σ _ _ h hlt hsk hd hn rd ρ a w _ Q (hdf o (by simp)) hR hF hS ?_ hκ
        intro T' σ' ρ' a' w' hk hl hR' hF' h1 h2
        exact ops_ok H hn os (kill o.dst s) T' σ' hk (kill_fst _ _) hos (hw.kill _) rd ρ' a' w' Q hdfs hR' hF' (hS.step hl h1 h2 hw) fun e T'' σ'' ρ'' e'' a'' w'' k l r f x => hκ e T'' σ'' ρ'' e'' a'' w'' k (hl.trans l) r f x
      unfold WL wpListIn
      cases hg : o.guard with
      | none =>
        rw [if_pos (by unfold Region.wanted; rw [hg])]
        have : (cXI s P ops o).g = none := by unfold cXI; rw [hg]
        rw [this] at h
        exact step h
      | some jw =>
        obtain ⟨j, w'⟩ := jw
        have : (cXI s P ops o).g = some (ixOf (((ops[j]?).bind (·.dst)).getD 252), w') := by unfold cXI; rw [hg]
        rw [this] at h
        have h : wants (g16 (ixOf (((ops[j]?).bind (·.dst)).getD 252)) T).v w' (doX (xOf s P o) (ixD o.dst) C T σ (fun T σ => rOps (cOps P s.1 ops os (kill o.dst s)) C T σ κ) κ) (putV (ixD o.dst) undefV T σ (fun T σ => rOps (cOps P s.1 ops os (kill o.dst s)) C T σ κ)) = true := h
        rcases guard_t hg hgd hF.tr h with ⟨e, h⟩ | ⟨e, h⟩
        · rw [if_pos e]
          exact step h
        · rw [if_neg (by rw [e]; simp)]
          refine ⟨fun _ _ => trivial, ?_⟩
          obtain ⟨T', hk, hF', h1, h2, _⟩ := FR.put hF (v := undefV) (u := undef) (VR.t .nil) hd hn h
          exact ops_ok H hn os (kill o.dst s) T' σ hk (kill_fst _ _) hos (hw.kill _) rd ρ _ w Q hdfs hR hF' (hS.step ρ.le_refl h1 h2 hw) hκ
    simp only [cOps] at h
    split at h
    · rename_i d x hm
      obtain ⟨hg, hdd, hop, hloc⟩ := isMove_t hm
      split at h
      · rename_i A hA
        have hx : opdLt x = true := List.all_eq_true.1 hlt x (by rcases hop with e | e <;> simp [e, Op.operands])
        have hv := cA_ok (a := a) hF.tr hS hA hx
        unfold WL wpListIn
        rw [if_pos (by unfold Region.wanted; rw [hg])]
        have hrun : (execOp a.eval o).run P w = .ok (.value (a.eval x)) w := by
          unfold execOp
          rcases hop with e | e <;> rw [e] <;> rfl
        refine wpIn_value hrun ?_
        have hdn := hd d hdd
        rw [hdd]
        have hF' : FR ξ ρ s.1 n T (a.put (some d) (a.eval x)) := by
          refine ⟨fun t ht hc => ?_, by simp [Act.put, hF.size], hF.ds⟩
          rw [put_getD, if_neg fun e => by rw [e.1, hloc] at hc; cases hc]
          exact hF.tr t ht hc
        refine ops_ok H hn os (s.1, (d, A) :: (kill (some d) s).2) T σ h rfl hos ?_ rd ρ _ w Q hdfs hR hF' ?_ hκ
        · intro t i hm
          rcases List.mem_cons.1 hm with e | hm
          · cases e
            exact cA_W hA hx hw
          · exact hw t i (mem_kill hm).1
        · intro t A' hm
          rcases List.mem_cons.1 hm with e | hm
          · cases e
            rw [put_getD, if_pos ⟨rfl, by rw [hF.size]; exact hdn⟩]
            exact hv
          · obtain ⟨h1, h2⟩ := mem_kill hm
            rw [put_getD, if_neg fun e => (h2 d rfl).1 e.1]
            exact hS t A' h1
      · exact emitted h
    · exact emitted h
theorem region_ok {C : Cx} (H : StepOK P W ξ C) {loc n id : Nat} {ops : Array Oper} (hn : n ≤ 250) {κ : K} {T : TT} {σ : St} (h : rOps (cOps P loc ops ops.toList (loc, [])) C T σ κ = true) (hok : ops.toList.all (opOK loc n ops) = true)
    {rd : Option Nat} (hr : rd = none ∨ noRF (.region id ops false) = true) {ρ : Rho} {a : Act} {w : World} {Q : Exit → Act → World → Prop} (hR : Rel P W ξ ρ σ w) (hF : FR ξ ρ loc n T a)
    (hκ : ∀ e T' σ' ρ' e' a' w', κ e T' σ' = true → ρ.le ρ' → Rel P W ξ ρ' σ' w' → FR ξ ρ' loc n T' a' → XR' ξ ρ' e e' → Q e' a' w') : Wp rd P (.region id ops false) Q a w := by
  have := ops_ok H hn ops.toList (loc, []) T σ h rfl (fun o ho => List.all_eq_true.1 hok o ho) (fun t i h => by cases h) rd ρ a w Q (fun o ho c e => hr.resolve_right fun h => by
    obtain ⟨j, hj⟩ := List.mem_iff_getElem?.1 ho
    exact noDefer_spec h j o c (by simpa using hj) e) hR hF SR.nil hκ
  have e : ops = ops.toList.toArray := by simp
  rw [e]
  refine wpIn_region_lit ?_
  rw [← e]
  exact this
end
end Go.Ex
namespace Go.Ex
open Go.Mo
set_option linter.unusedVariables false
set_option linter.constructorNameAsVariable false
set_option linter.unusedSimpArgs false
section
variable {P : Program} {W : Kp} {ξ : Nat → Int} {ρ : Rho} {σ : St} {w : World}
def setB (w : World) (b : Nat) (ob : Obj) : World := { w with heap := w.heap.setIfInBounds b ob }
def pushB (w : World) (ob : Obj) : World := { w with heap := w.heap.push ob }
theorem Rel.kept_new (h : Rel P W ξ ρ σ w) : W.kept w.heap.size = none := by
  cases e : W.kept w.heap.size with
  | none => rfl
  | some ob =>
    have := h.frame _ _ e
    have := (Array.getElem?_eq_some_iff.1 this).1
    omega
theorem Rel.set {i : Id} {o : O} {p : Nat × Nat} {ob : Obj} (h : Rel P W ξ ρ σ w) (hi : ρ i = some p) (hlive : obj i σ ≠ .no) (ho : OR P ξ ρ p.2 o (some ob)) :
    ∃ σ', (∀ (R : Type) (κ : St → R), setO i o σ κ = κ σ') ∧ Rel P W ξ ρ σ' (setB w p.1 ob) ∧ σ'.nx = σ.nx ∧ obj i σ' = o ∧ (∀ j, j ≠ i → obj j σ' = obj j σ) := by
  obtain ⟨σ', h1, h2, h3, h4⟩ := setO_spec i o σ
  refine ⟨σ', h1, ⟨?_, ?_, ?_, ?_, h.os, h.out⟩, h2, h3, h4⟩
  · intro j q hj
    rw [h2]
    have := h.dom j q hj
    exact ⟨this.1, this.2.1, by simpa [setB] using this.2.2⟩
  · intro j k q r hj hk he hj' hk'
    refine h.inj j k q r hj hk he ?_ ?_
    · by_cases e : j = i
      · subst e; exact hlive
      · rw [← h4 j e]; exact hj'
    · by_cases e : k = i
      · subst e; exact hlive
      · rw [← h4 k e]; exact hk'
  · intro j q hj
    by_cases e : j = i
    · subst e
      rw [hi] at hj
      simp only [Option.some.injEq] at hj
      subst hj
      rw [h3]
      have := (h.dom j p hi).2.2
      have e2 : (setB w p.1 ob).heap[p.1]? = some ob := by simp [setB, this]
      rw [e2]
      exact ho
    · rw [h4 j e]
      by_cases hn : obj j σ = .no
      · rw [hn]; exact .no _
      · have hne : q.1 ≠ p.1 := fun he => e (h.inj j i q p hj hi he hn hlive)
        have e2 : (setB w p.1 ob).heap[q.1]? = w.heap[q.1]? := by
          simp only [setB]
          rw [Array.getElem?_setIfInBounds_ne (fun e => hne e.symm)]
        rw [e2]
        exact h.ob j q hj
  · intro b ob' hb
    have hne : b ≠ p.1 := fun e => by have := (h.dom i p hi).2.1; rw [← e, hb] at this; cases this
    rw [← h.frame b ob' hb]
    simp only [setB]
    rw [Array.getElem?_setIfInBounds_ne (fun e => hne e.symm)]
theorem Rho.le_put (h : Rel P W ξ ρ σ w) (p : Nat × Nat) : ρ.le (ρ.put σ.nx p) := fun i q hq => by
  unfold Rho.put
  have := (h.dom i q hq).1
  rw [if_neg fun e => by subst e; omega]
  exact hq
theorem Rho.put_self (i : Id) (p : Nat × Nat) : (ρ.put i p) i = some p := by simp [Rho.put]
theorem Rel.new {o : O} {c : Nat} {ob : Obj} {κ : Id → St → Ans} (h : Rel P W ξ ρ σ w) (ho : OR P ξ (ρ.put σ.nx (w.heap.size, c)) c o (some ob)) (hk : Ex.new o σ κ = true) :
    ∃ σ', κ σ.nx σ' = true ∧ Rel P W ξ (ρ.put σ.nx (w.heap.size, c)) σ' (pushB w ob) ∧ obj σ.nx σ' = o ∧ (∀ j, j ≠ σ.nx → obj j σ' = obj j σ) := by
  obtain ⟨σ', h1, h2, h3, h4⟩ := new_spec o σ κ hk
  have hle := Rho.le_put h (w.heap.size, c)
  refine ⟨σ', h1, ⟨?_, ?_, ?_, ?_, h.os, h.out⟩, h3, h4⟩
  · intro j q hj
    by_cases e : j = σ.nx
    · subst e
      rw [Rho.put_self] at hj
      simp only [Option.some.injEq] at hj
      subst hj
      exact ⟨h2, h.kept_new, by simp [pushB]⟩
    · have hj : ρ j = some q := by simpa [Rho.put, e] using hj
      have := h.dom j q hj
      exact ⟨by omega, this.2.1, by simp [pushB]; omega⟩
  · intro j k q r hj hk he hj' hk'
    have hq : ∀ j q, j ≠ σ.nx → (ρ.put σ.nx (w.heap.size, c)) j = some q → ρ j = some q := fun j q e hj => by simpa [Rho.put, e] using hj
    by_cases e : j = σ.nx
    · by_cases e' : k = σ.nx
      · rw [e, e']
      · subst e
        rw [Rho.put_self] at hj
        simp only [Option.some.injEq] at hj
        subst hj
        have := (h.dom k r (hq k r e' hk)).2.2
        simp only at he
        omega
    · by_cases e' : k = σ.nx
      · subst e'
        rw [Rho.put_self] at hk
        simp only [Option.some.injEq] at hk
        subst hk
        have := (h.dom j q (hq j q e hj)).2.2
        simp only at he
        omega
      · refine h.inj j k q r (hq j q e hj) (hq k r e' hk) he ?_ ?_
        · rw [← h4 j e]; exact hj'
        · rw [← h4 k e']; exact hk'
  · intro j q hj
    by_cases e : j = σ.nx
    · subst e
      rw [Rho.put_self] at hj
      simp only [Option.some.injEq] at hj
      subst hj
      rw [h3]
      have e2 : (pushB w ob).heap[w.heap.size]? = some ob := by simp only [pushB]; exact Array.getElem?_push_size
      rw [e2]
      exact ho
    · have hj : ρ j = some q := by simpa [Rho.put, e] using hj
      rw [h4 j e]
      have := (h.dom j q hj).2.2
      have e2 : (pushB w ob).heap[q.1]? = w.heap[q.1]? := by
        simp only [pushB]
        rw [Array.getElem?_push_lt this, Array.getElem?_eq_getElem this]
      rw [e2]
      exact (h.ob j q hj).mono hle
  · intro b ob' hb
    have h' := h.frame b ob' hb
    have : b < w.heap.size := (Array.getElem?_eq_some_iff.1 h').1
    rw [← h']
    simp only [pushB]
    rw [Array.getElem?_push_lt this, Array.getElem?_eq_getElem this]
end
end Go.Ex
namespace Go.Ex
open Go.Mo
set_option linter.unusedVariables false
set_option linter.constructorNameAsVariable false
set_option linter.unusedSimpArgs false
section
variable {P : Program} {W : Kp} {ξ : Nat → Int} {ρ : Rho} {σ : St} {w : World}
structure Fn' (P : Program) (f : FuncId) (xf : XF) (fn : Func) (c : Code) (loc : Nat) : Prop where
  hf : P.funcs[f]? = some fn
  body : fn.body = some c
  xbody : xf.body = cC P loc c
  xres : xf.res = fn.results.toList.map (cR P)
  xn : xf.n = fn.ntmps
  ok : okF P loc fn c = true
  name : (fn.name == "runtime.NumGoroutine") = false
def TabOK (P : Program) (tb : Nat → FI) : Prop := ∀ f xf, tb f = .fn (some xf) → ∃ fn c loc, Fn' P f xf fn c loc
theorem pushL_t {κ : TT → Ans} : ∀ (vs : List V) (k : Nat) (T : TT), pushL vs k T κ = true → k + vs.length ≤ 250 → ∃ T', κ T' = true ∧ (∀ i v, vs[i]? = some v → (g16 (ixOf (k + i)) T').v = v) ∧ ∀ j, j < 256 → (j < k ∨ k + vs.length ≤ j) → g16 (ixOf j) T' = g16 (ixOf j) T
  | [], k, T, h, _ => ⟨T, h, (fun i v e => by cases e), fun j _ _ => rfl⟩
  | v :: vs, k, T, h, hk => by
    simp only [List.length_cons] at hk
    obtain ⟨T1, h1, h2, h3⟩ := put16_spec (ixOf k) (⟨v⟩ : Lf) T
    have h : pushL vs (k + 1) T1 κ = true := by
      have : pushL (v :: vs) k T κ = put16 (ixOf k) ⟨v⟩ T (fun T => pushL vs (k + 1) T κ) := rfl
      rw [this, h1] at h
      exact h
    obtain ⟨T', h4, h5, h6⟩ := pushL_t vs (k + 1) T1 h (by omega)
    refine ⟨T', h4, fun i u e => ?_, fun j hj hd => ?_⟩
    · cases i with
      | zero =>
        simp only [List.getElem?_cons_zero, Option.some.injEq] at e
        subst e
        rw [Nat.add_zero, h6 k (by omega) (.inl (by omega)), h2]
      | succ i =>
        have := h5 i u (by simpa using e)
        rw [show k + (i + 1) = k + 1 + i from by omega]
        exact this
    · simp only [List.length_cons] at hd
      rw [h6 j hj (by omega), h3 _ fun e => by have := ixOf_inj (m := j) (n := k) hj (by omega) e; omega]
theorem enter_FR {vs : List V} {us : List Value} (h : VRs ξ ρ vs us) {n loc : Nat} (hl : vs.length ≤ n) (hn : n ≤ 250) {κ : TT → Ans} (hk : pushL vs 0 T0 (fun T => put16 ixDs ⟨.w (.t [])⟩ T κ) = true) :
    ∃ T, κ T = true ∧ FR ξ ρ loc n T { tmps := us.toArray ++ Array.replicate (n - us.toArray.size) undef, defers := [] } := by
  have hlen := h.length
  obtain ⟨T1, h1, h2, h3⟩ := pushL_t vs 0 T0 hk (by omega)
  obtain ⟨T2, h4, h5, h6⟩ := put16_spec ixDs (⟨.w (.t [])⟩ : Lf) T1
  rw [h4] at h1
  refine ⟨T2, h1, ⟨fun t ht hc => ?_, ?_, ?_⟩⟩
  · rw [h6 _ fun e => by have := ixOf_inj (m := t) (n := 254) (by omega) (by decide) (e.trans ixDs_eq); omega]
    by_cases hlt : t < vs.length
    · obtain ⟨v, hv⟩ : ∃ v, vs[t]? = some v := ⟨vs[t], List.getElem?_eq_getElem hlt⟩
      obtain ⟨u, hu, hvu⟩ := h.get hv
      have := h2 t v hv
      rw [Nat.zero_add] at this
      rw [this, Array.getD_eq_getD_getElem?, Array.getElem?_append_left (by simp; omega)]
      simpa [hu] using hvu
    · rw [h3 t (by omega) (.inr (by omega))]
      have : g16 (ixOf t) T0 = ⟨anyV⟩ := g16_fill _ _
      rw [this]
      exact .any _
  · simp; omega
  · have : dsOf T2 = [] := by unfold dsOf; rw [h5]
    rw [this]
    exact .nil
end
end Go.Ex
namespace Go.Ex
open Go.Mo
set_option linter.unusedVariables false
set_option linter.constructorNameAsVariable false
set_option linter.unusedSimpArgs false
section
variable {P : Program} {W : Kp} {ξ : Nat → Int} {ρ : Rho} {σ : St} {w : World}
theorem getElem_push {w : World} {ob : Obj} {b : Nat} {x : Obj} (h : w.heap[b]? = some x) : (pushB w ob).heap[b]? = some x := by
  have : b < w.heap.size := (Array.getElem?_eq_some_iff.1 h).1
  simp only [pushB]
  rw [Array.getElem?_push_lt this, ← h, Array.getElem?_eq_getElem this]
def CellsAt (w : World) (b o : Nat) (vs : List Value) : Prop := ∀ (j : Nat) (v : Value), vs[j]? = some v → w.cell? ⟨b, o + j, none⟩ = some v
theorem Rel.cells {i : Id} {p : Nat × Nat} {cs : List V} {e : Nat} (h : Rel P W ξ ρ σ w) (hi : ρ i = some p) (ho : obj i σ = .c cs e) :
    ∃ us rest elem, w.heap[p.1]? = some (.cells (us ++ rest).toArray elem) ∧ VRs ξ ρ cs us ∧ (∀ u ∈ us, u.oneCell' = true) ∧ (e = 0 → rest = []) ∧ (e ≠ 0 → us.length + rest.length = p.2 * e) := by
  have := h.ob i p hi
  rw [ho] at this
  generalize hx : w.heap[p.1]? = x at this
  cases this with
  | c hs h1 =>
    rename_i us elem
    exact ⟨us, [], elem, by simp, hs, h1, fun _ => rfl, fun e => absurd rfl e⟩
  | e hs h1 hl => exact ⟨_, _, _, rfl, hs, h1, (fun e => by cases e), fun _ => hl⟩
theorem CellsAt.push {w : World} {b o : Nat} {vs : List Value} (ob : Obj) (h : CellsAt w b o vs) : CellsAt (pushB w ob) b o vs := fun j v hj => by
  have := h j v hj
  unfold World.cell? at this ⊢
  cases e : w.heap[b]? with
  | none => simp [e] at this
  | some x =>
    have e' := getElem_push (ob := ob) e
    simp only [e] at this
    simp only [e']
    exact this
theorem cellsAt_of {b o n : Nat} {us rest : List Value} {elem : TypeId} (h : w.heap[b]? = some (.cells (us ++ rest).toArray elem)) : CellsAt w b o ((us.drop o).take n) := by
  intro j v hj
  unfold World.cell?
  simp only [h]
  have hj' : (us.drop o)[j]? = some v := by
    rw [List.getElem?_take] at hj
    split at hj
    · exact hj
    · cases hj
  rw [List.getElem?_drop] at hj'
  have hlt : o + j < us.length := (List.getElem?_eq_some_iff.1 hj').1
  simp only [Option.isSome_none, Bool.false_eq_true, if_false]
  rw [List.getElem?_toArray, List.getElem?_append_left hlt]
  exact hj'
theorem run_loadVar1 {t : TypeId} {b o : Nat} {u : Value} (ha : agg P t = some false) (h : CellsAt w b o [u]) : (loadVar t ⟨b, o, none⟩).run P w = .ok u w := by
  unfold loadVar
  have := h 0 u rfl
  simp [agg_ok ha, run_load, show w.cell? ⟨b, o, none⟩ = some u from this]
theorem run_loadVarA {t : TypeId} {b o n : Nat} {us : List Value} (ha : agg P t = some true) (hz : size P t = some n) (hn : us.length = n) (h : CellsAt w b o us) : (loadVar t ⟨b, o, none⟩).run P w = .ok (.agg us.toArray) w := by
  unfold loadVar
  have hl := run_loadCells_list (P := P) (w := w) ⟨b, o, none⟩ us (fun j v hj => by rw [add_addr]; exact h j v hj)
  rw [hn] at hl
  simp [agg_ok ha, size_ok hz, hl]
theorem load_ok {t : TypeId} {i : Id} {p : Nat × Nat} {o n : Nat} {cs : List V} {e : Nat} {ag : Bool} {x : V} (hR : Rel P W ξ ρ σ w) (hi : ρ i = some p) (ho : obj i σ = .c cs e) (ha : agg P t = some ag) (hz : size P t = some n) (hx : fdW ag o n cs = some x) :
    ∃ us u, CellsAt w p.1 o us ∧ VR ξ ρ x u ∧ ∀ w', CellsAt w' p.1 o us → (loadVar t ⟨p.1, o, none⟩).run P w' = .ok u w' := by
  obtain ⟨us, rest, elem, hh, hs, _, _, _⟩ := hR.cells hi ho
  unfold fdW at hx
  cases ag with
  | true =>
    simp only [aggO] at hx
    split at hx
    · rename_i r er
      simp only [Option.some.injEq] at hx
      subst hx
      obtain ⟨rfl, hle⟩ := sub_some er
      have hs' := (hs.drop o).take n
      have hlen := hs.length
      refine ⟨(us.drop o).take n, _, cellsAt_of hh, .a hs', fun w' hc => ?_⟩
      exact run_loadVarA ha hz (by simp; omega) hc
    · cases hx
  | false =>
    obtain ⟨u, h1, h2⟩ := hs.get (nthO_some hx)
    have : (us.drop o).take 1 = [u] := by
      have hlt : o < us.length := (List.getElem?_eq_some_iff.1 h1).1
      rw [List.drop_eq_getElem_cons hlt]
      have := (List.getElem?_eq_some_iff.1 h1).2
      simp [this]
    refine ⟨[u], u, by rw [← this]; exact cellsAt_of hh, h2, fun w' hc => run_loadVar1 ha hc⟩
end
section
variable {P : Program} {W : Kp} {ξ : Nat → Int} {ρ : Rho} {o : Oper} {a : Act} {d : Ix} {T : TT} {σ : St} {κ : KN} {κp : K} {w : World}
theorem oCells_t {x : O} {k : List V → Nat → Ans} (h : oCells x k no = true) : ∃ cs e, x = .c cs e ∧ k cs e = true := by
  cases x with
  | c cs e => exact ⟨cs, e, rfl, h⟩
  | _ => cases h
def Ld (P : Program) (ξ : Nat → Int) (ρ : Rho) (o : Oper) (a : Act) (d : Ix) (T : TT) (σ : St) (κ : KN) (w : World) : Prop :=
  ∃ S : World → Prop, S w ∧ (∀ w ob, S w → S (pushB w ob)) ∧ ∃ x v, (∀ w', S w' → (execOp a.eval o).run P w' = .ok (.value v) w') ∧ VR ξ ρ x v ∧ putV d x T σ κ = true
theorem run_loadOp {t : TypeId} {x' : Operand} {b n : Nat} {u : Value} (ho : o.op = .load t x') (hx : a.eval x' = .pointer (some ⟨b, n, none⟩)) (h : (loadVar t ⟨b, n, none⟩).run P w = .ok u w) : (execOp a.eval o).run P w = .ok (.value u) w := by
  unfold execOp
  rw [ho]
  simp [hx, Instr.loadAt, Instr.sureAddr, h]
theorem nthO_of {α : Type} {l : List α} {n : Nat} {x : α} (h : l[n]? = some x) : nthO l n = some x := by
  induction l generalizing n with
  | nil => cases h
  | cons y l ih =>
    cases n with
    | zero => simpa [nthO] using h
    | succ m => simpa [nthO] using ih (by simpa using h)
end
end Go.Ex
namespace Go.Ex
open Go.Mo
set_option linter.unusedVariables false
set_option linter.constructorNameAsVariable false
set_option linter.unusedSimpArgs false
section
variable {P : Program} {W : Kp} {ξ : Nat → Int} {ρ : Rho} {σ : St} {w : World}
theorem cellAt_t {v x : V} {u : Value} {t : TypeId} {ag : Bool} {n : Nat} (hR : Rel P W ξ ρ σ w) (hv : VR ξ ρ v u) (ha : agg P t = some ag) (hz : size P t = some n) (h : cellAt v ag n σ = some x) :
    ∃ ad y, u = .pointer (some ad) ∧ (loadVar t ad).run P w = .ok y w ∧ VR ξ ρ x y := by
  unfold cellAt at h
  split at h
  · rename_i i o
    split at h
    · rename_i cs e ho
      obtain ⟨b, c, hb, hu⟩ := hv.p_inv
      obtain ⟨us, y, h1, h2, h3⟩ := load_ok hR hb ho ha hz h
      exact ⟨_, y, hu, h3 w h1, h2⟩
    · cases h
  · cases h
theorem resX_ok {loc : Nat} {T : TT} {tmps : Array Value} (hR : Rel P W ξ ρ σ w) (hT : TR ξ ρ loc T tmps) : ∀ (rs : List ResultVar) (l : List V), resX T σ (rs.map (cR P)) = some l →
    (rs.all fun r => resOK loc r && (match r with | .tmp _ => true | .cell _ t => (agg P t).isSome && (size P t).isSome)) = true → ∃ us, (rs.mapM (resV tmps)).run P w = .ok us w ∧ VRs ξ ρ l us
  | [], l, h, _ => by
    simp only [List.map_nil, resX, Option.some.injEq] at h
    subst h
    exact ⟨[], by simp, .nil⟩
  | .tmp t :: rs, l, h, hok => by
    simp only [List.all_cons, Bool.and_eq_true, resOK, Bool.not_eq_true'] at hok
    simp only [List.map_cons, cR, resX] at h
    split at h
    · rename_i l' e
      simp only [Option.some.injEq] at h
      subst h
      obtain ⟨us, h1, h2⟩ := resX_ok hR hT rs l' e hok.2
      refine ⟨tmps.getD t undef :: us, ?_, .cons (hT t (by simpa using hok.1.1.1) hok.1.1.2) h2⟩
      rw [List.mapM_cons]
      simp [resV, h1]
    · cases h
  | .cell t ty :: rs, l, h, hok => by
    simp only [List.all_cons, Bool.and_eq_true, resOK, Bool.not_eq_true', Option.isSome_iff_exists] at hok
    obtain ⟨ag, ha⟩ := hok.1.2.1
    obtain ⟨n, hz⟩ := hok.1.2.2
    simp only [List.map_cons, cR, resX, ha, hz, Option.getD_some] at h
    split at h
    · rename_i v l' e1 e2
      simp only [Option.some.injEq] at h
      subst h
      obtain ⟨us, h1, h2⟩ := resX_ok hR hT rs l' e2 hok.2
      obtain ⟨ad, y, h3, h4, h5⟩ := cellAt_t hR (hT t (by simpa using hok.1.1.1) hok.1.1.2) ha hz e1
      refine ⟨y :: us, ?_, .cons h5 h2⟩
      rw [List.mapM_cons]
      simp only [resV, h3, asAddr, Sem.run_bind, Sem.run_pure, Result.andThen_ok, h4, h1]
    · cases h
theorem tup_ok {l : List V} {us : List Value} (h : VRs ξ ρ l us) : VR ξ ρ (tup l) (if h : us.length = 1 then us[0] else .tuple us.toArray) := by
  unfold tup
  split
  · cases h with
    | cons h r => cases r with
      | nil => simpa using h
  · rename_i hn
    have : us.length ≠ 1 := fun e => by
      cases h with
      | nil => simp at e
      | cons h r => cases r with
        | nil => exact hn _ rfl
        | cons h' r' => simp at e
    rw [dif_neg this]
    exact .t h
inductive PM (ξ : Nat → Int) (ρ : Rho) : Option V → FrameMode → Prop
  | r : PM ξ ρ none .returning
  | p {v : V} {u : Value} (h : VR ξ ρ v u) : PM ξ ρ (some v) (.panicking [{ v := u, recovered := false }])
theorem PM.mono {ρ' : Rho} (hl : ρ.le ρ') {p : Option V} {u : FrameMode} (h : PM ξ ρ p u) : PM ξ ρ' p u := by
  cases h with
  | r => exact .r
  | p h => exact .p (h.mono hl)
def ClOK (P : Program) (W : Kp) (ξ : Nat → Int) (C : Cx) : Prop :=
  ∀ (f : FuncId) (fs cs vs ds : List V) (p : Option V) (σ : St) (κ : Option V → St → Ans), leave C (.w (.t (.w (.f (.func f) fs cs) :: vs)) :: ds) p σ κ = true →
    ∀ (ρ : Rho) (w : World) (us ws xs : List Value) (u : FrameMode), Rel P W ξ ρ σ w → VRs ξ ρ fs us → VRs ξ ρ cs ws → VRs ξ ρ vs xs → PM ξ ρ p u →
      (P.funcs[f]?).any (fun fn => fn.body.isSome && fn.name != "runtime.NumGoroutine") = true ∧ CallsDIn Fence.wide 0 P f ((us ++ xs) ++ ws).toArray u w fun e u' w' => match e with
        | .returned _ => ∃ p' σ' ρ', leave C ds p' σ' κ = true ∧ ρ.le ρ' ∧ Rel P W ξ ρ' σ' w' ∧ PM ξ ρ' p' (settle u')
        | _ => False
theorem leave_ok {C : Cx} (H : ClOK P W ξ C) {fn : Func} {tmps : Array Value} {R : Ending → World → Prop} {κ : Option V → St → Ans} : ∀ (ds : List V) (dsr : List Deferred) (p : Option V) (σ : St) (ρ : Rho) (w : World) (u : FrameMode), leave C ds p σ κ = true → Rel P W ξ ρ σ w → DRs ξ ρ ds dsr → PM ξ ρ p u →
    (∀ p' σ' ρ' u' w', κ p' σ' = true → ρ.le ρ' → Rel P W ξ ρ' σ' w' → PM ξ ρ' p' u' → LeavesIn Fence.wide 0 P fn tmps R [] u' w') → LeavesInM Fence.wide 0 P fn tmps R dsr u w
  | [], dsr, p, σ, ρ, w, u, h, hR, hD, hp, hκ => by
    cases hD
    exact hκ p σ ρ u w h ρ.le_refl hR hp
  | d :: ds, dsr, p, σ, ρ, w, u, h, hR, hD, hp, hκ => by
    cases hD with
    | cons hd hr =>
      refine ⟨by cases hp <;> simp, ?_⟩
      cases hd with
      | mk hi =>
        rename_i dsr' i b c
        left
        simp only [leave] at h
        split at h
        · rename_i ho
          have hob := hR.ob i _ hi
          rw [ho] at hob
          generalize hx : w.heap[b]? = x at hob
          cases hob
          obtain ⟨σ', h1, hR', _, _, _⟩ := hR.set hi (by rw [ho]; simp) (o := .df true) (ob := .deferred none) .df1
          rw [h1] at h
          refine ⟨b, setB w b (.deferred none), rfl, ?_, leave_ok H ds dsr' p σ' ρ _ u h hR' hr hp hκ⟩
          simp [Instr.takeDeferred, getObj, setObj, Sem.run, hx, setB]
        · cases h
      | cl h1 h2 h3 =>
        rename_i dsr' f fs cs vs us ws xs
        right
        obtain ⟨hf, hcall⟩ := H f fs cs vs ds p σ κ h ρ w us ws xs u hR h1 h2 h3 hp
        refine ⟨fun h => by simp [Fence.wide] at h, .func f, ws.toArray, f, ((us ++ xs) ++ ws).toArray, rfl, ?_, fun _ _ => trivial, ?_⟩
        · obtain ⟨fn', hfn, hb⟩ := Option.any_eq_true _ _ |>.1 hf
          simp only [Bool.and_eq_true] at hb
          simp only [invoke, callFunc, Sem.run_bind, run_program, Result.andThen_ok, hfn]
          have hn : (fn'.name == "runtime.NumGoroutine") = false := by simpa using hb.2
          have hbn : fn'.body.isNone = false := by
            cases e : fn'.body with
            | none => rw [e] at hb; simp at hb
            | some _ => rfl
          simp [hn, hbn]
        · refine CallsDIn.mono hcall fun e u' w' he => ?_
          cases e with
          | returned v =>
            obtain ⟨p', σ', ρ', h4, h5, h6, h7⟩ := he
            exact leave_ok H ds dsr' p' σ' ρ' w' (settle u') h4 h6 (hr.mono h5) h7 fun p'' σ'' ρ'' u'' w'' k l r m => hκ p'' σ'' ρ'' u'' w'' k (h5.trans l) r m
          | panicked ch => exact he.elim
          | outgrown => exact he.elim
def SmOK (P : Program) (W : Kp) (ξ : Nat → Int) (sm : Nat → List V → St → Option ((V → St → Bool) → Bool)) : Prop :=
  ∀ f vs σ r, sm f vs σ = some r → ∀ κ : V → St → Ans, r κ = true → ∀ ρ w us R, Rel P W ξ ρ σ w → VRs ξ ρ vs us → (∀ v σ' ρ' u w', κ v σ' = true → ρ.le ρ' → Rel P W ξ ρ' σ' w' → VR ξ ρ' v u → R (.returned u) w') → CallsX P f us.toArray w R
def ExtOK (P : Program) (W : Kp) (ξ : Nat → Int) (tb : Nat → FI) : Prop :=
  ∀ f k, tb f = .ext k → ∀ vs σ κ, extX P k vs σ κ = true → ∀ ρ w us R, Rel P W ξ ρ σ w → VRs ξ ρ vs us → (∀ v σ' ρ' u w', κ v σ' = true → ρ.le ρ' → Rel P W ξ ρ' σ' w' → VR ξ ρ' v u → R (.returned u) w') → CallsX P f us.toArray w R
theorem enter_text {f : FuncId} {fn : Func} {c : Code} {args : Array Value} (hf : P.funcs[f]? = some fn) (hb : fn.body = some c) (hn : (fn.name == "runtime.NumGoroutine") = false) : (callFunc f args).run P w = .ok (.enter f args) w := by
  simp only [callFunc, Sem.run_bind, run_program, Result.andThen_ok, hf]
  simp [hn, hb]
theorem body_ok {C : Cx} (HR : RunOK P W ξ C.run) (HC : ClOK P W ξ C) {f : FuncId} {xf : XF} {fn : Func} {c : Code} {loc : Nat} (hF : Fn' P f xf fn c loc) {vs : List V} {us : List Value} {κ : En → St → Ans} (h : bodyF C xf vs σ κ = true) (hn : vs.length ≤ xf.n) {R : Ending → World → Prop}
    (hR : Rel P W ξ ρ σ w) (hv : VRs ξ ρ vs us) (hκ : ∀ e σ' ρ' e' w', κ e σ' = true → ρ.le ρ' → Rel P W ξ ρ' σ' w' → NR ξ ρ' e e' → R e' w') : Calls P f us.toArray w R := by
  have hok := hF.ok
  simp only [okF, Bool.and_eq_true] at hok
  have h250 := ble_t hok.1
  rw [hF.xn] at hn
  obtain ⟨T, h1, hFR⟩ := enter_FR (loc := loc) hv hn h250 h
  refine (callsIn_wide (n := 0)).1 (callsIn_of_wp_marks (F := Fence.wide) hF.hf hF.body trivial ?_)
  have hrun := HR _ _ _ _ (hF.xbody ▸ h1) loc c fn.ntmps rfl hok.2.1 h250 none (.inl rfl) ρ _ w (bodyPostM Fence.wide 0 P fn R) hR hFR
  refine hrun ?_
  intro e T' σ' ρ' e' a' w' hk hl hR' hF' hx
  -- what is left to do at the end
  have fin : ∀ p u, leftF C xf.res T' p σ' κ = true → PM ξ ρ' p u → LeavesInM Fence.wide 0 P fn a'.tmps R a'.defers u w' := by
    intro p u hl' hp
    unfold leftF at hl'
    refine leave_ok HC (dsOf T') a'.defers p σ' ρ' w' u hl' hR' hF'.ds hp ?_
    intro p'' σ'' ρ'' u'' w'' hk'' hl'' hR'' hp''
    cases hp'' with
    | r =>
      have hk'' : results xf.res T' σ'' κ = true := hk''
      unfold results at hk''
      split at hk''
      · rename_i l el
        rw [frcV_eq] at hk''
        rw [hF.xres] at el
        obtain ⟨vs', h2, h3⟩ := resX_ok hR'' (hF'.tr.mono hl'') _ l el hok.2.2
        refine ⟨_, run_results (rs := fn.results.toList) (by simp) a'.tmps w'' w'' vs' h2, ?_⟩
        exact hκ _ _ _ _ _ hk'' (hl.trans hl'') hR'' (.r (tup_ok h3))
      · cases hk''
    | p hv'' => exact hκ _ _ _ _ _ hk'' (hl.trans hl'') hR'' (.p hv'')
  cases hx with
  | n => exact fin none .returning hk .r
  | r => exact fin none .returning hk .r
  | x i => cases hk
  | p hv' => exact fin _ _ hk (.p hv')
theorem call_ok {C : Cx} (hP : C.E.P = P) (HR : RunOK P W ξ C.run) (HC : ClOK P W ξ C) (HT : TabOK P C.E.tb) (HS : SmOK P W ξ C.E.sm) (HX : ExtOK P W ξ C.E.tb) : CallOK P W ξ (callF C) := by
  intro f vs σ κ h ρ w us R hR hv hκ
  unfold callF at h
  split at h
  · rename_i r e
    exact HS f vs σ r e _ h ρ w us R hR hv fun v σ' ρ' u w' hk hl hR' hv' => hκ _ _ _ _ _ hk hl hR' (.r hv')
  · split at h
    · rename_i xf e
      split at h
      · rename_i hn
        obtain ⟨fn, c, loc, hF⟩ := HT f xf e
        exact .inl ⟨enter_text hF.hf hF.body hF.name, body_ok HR HC hF h (ble_t hn) hR hv hκ⟩
      · cases h
    · rename_i k e
      exact HX f k e vs σ _ (hP ▸ h) ρ w us R hR hv fun v σ' ρ' u w' hk hl hR' hv' => hκ _ _ _ _ _ hk hl hR' (.r hv')
    · cases h
end
end Go.Ex
namespace Go.Ex
open Go.Mo
set_option linter.unusedVariables false
set_option linter.constructorNameAsVariable false
set_option linter.unusedSimpArgs false
section
variable {P : Program} {W : Kp} {ξ : Nat → Int} {ρ : Rho} {o : Oper} {a : Act} {T : TT} {σ : St} {κ : KN} {κp : K} {w : World} {loc n : Nat} {rd : Option Nat} {Kn : Act → World → Prop} {Q : Exit → Act → World → Prop}
def Behind (P : Program) (W : Kp) (ξ : Nat → Int) (loc n : Nat) (o : Oper) (T : TT) (a : Act) (ρ : Rho) (κ : KN) (Kn : Act → World → Prop) : Prop :=
  ∀ T' σ' ρ' a' w', κ T' σ' = true → ρ.le ρ' → Rel P W ξ ρ' σ' w' → FR ξ ρ' loc n T' a' → (∀ t, o.dst ≠ some t → a'.tmps.getD t undef = a.tmps.getD t undef) → (∀ i, ixD o.dst ≠ i → i ≠ ixDs → i ≠ ixPn → g16 i T' = g16 i T) → Kn a' w'
def Av (P : Program) (W : Kp) (ξ : Nat → Int) (ρ : Rho) (o : Oper) (a : Act) (T : TT) (κ : KN) (w : World) : Prop :=
  ∃ x v w' σ' ρ', (execOp a.eval o).run P w = .ok (.value v) w' ∧ ρ.le ρ' ∧ Rel P W ξ ρ' σ' w' ∧ VR ξ ρ' x v ∧ putV (ixD o.dst) x T σ' κ = true
def As (P : Program) (W : Kp) (ξ : Nat → Int) (ρ : Rho) (o : Oper) (a : Act) (T : TT) (κ : KN) (w : World) : Prop :=
  ∃ w' σ' ρ', (execOp a.eval o).run P w = .ok .skip w' ∧ ρ.le ρ' ∧ Rel P W ξ ρ' σ' w' ∧ κ T σ' = true
theorem Av.step (h : Av P W ξ ρ o a T κ w) (hF : FR ξ ρ loc n T a) (hd : ∀ d, o.dst = some d → d < n) (hn : n ≤ 250) (hK : Behind P W ξ loc n o T a ρ κ Kn) : o.wpIn (FW rd) 0 P a w Kn Q := by
  obtain ⟨x, v, w', σ', ρ', hr, hl, hR', hv, hp⟩ := h
  obtain ⟨T', hk, hF', h1, h2, _, _⟩ := FR.put (hF.mono hl) hv hd hn hp
  exact wpIn_value hr (hK T' σ' ρ' _ w' hk hl hR' hF' h1 h2)
theorem As.step (h : As P W ξ ρ o a T κ w) (hF : FR ξ ρ loc n T a) (hd : o.dst = none) (hop : ∀ c, o.op ≠ .defer c) (hK : Behind P W ξ loc n o T a ρ κ Kn) : o.wpIn (FW rd) 0 P a w Kn Q := by
  obtain ⟨w', σ', ρ', hr, hl, hR', hk⟩ := h
  refine wpIn_run hop ?_
  rw [hr, Oper.uponIn_skip, hd]
  exact hK T σ' ρ' a w' hk hl hR' (hF.mono hl) (fun _ _ => rfl) (fun _ _ _ _ => rfl)
theorem Yl.av (h : Yl P ξ ρ o a (ixD o.dst) T σ κ) (hR : Rel P W ξ ρ σ w) : Av P W ξ ρ o a T κ w := by
  obtain ⟨x, v, hr, hv, hp⟩ := h
  exact ⟨x, v, w, σ, ρ, hr w, ρ.le_refl, hR, hv, hp⟩
theorem Ld.av (h : Ld P ξ ρ o a (ixD o.dst) T σ κ w) (hR : Rel P W ξ ρ σ w) : Av P W ξ ρ o a T κ w := by
  obtain ⟨S, hS, _, x, v, hr, hv, hp⟩ := h
  exact ⟨x, v, w, σ, ρ, hr w hS, ρ.le_refl, hR, hv, hp⟩
theorem oneV_ok {v : V} {u : Value} (h : VR ξ ρ v u) (h1 : oneV v = true) : u.oneCell' = true := by
  cases v with
  | w z =>
    have h1 : oneW z = true := h1
    unfold oneW at h1
    split at h1 <;> first | (cases h1; done) | skip
    rename_i n1 n2 n3 n4 n5
    cases h with
    | k => cases u <;> first | rfl | exact absurd rfl (n1 _) | exact absurd rfl (n2 _)
    | a hs => exact absurd rfl (n3 _)
    | t hs => exact absurd rfl (n4 _)
    | any => exact absurd rfl n5
    | _ => rfl
  | _ => cases h <;> rfl
theorem allOne_ok {vs : List V} {us : List Value} (h : VRs ξ ρ vs us) (h1 : allOne vs = true) : ∀ u ∈ us, u.oneCell' = true := by
  induction vs generalizing us with
  | nil => cases h; intro u hu; cases hu
  | cons v vs ih =>
    cases h with
    | cons h r =>
      unfold allOne at h1
      split at h1
      · rename_i e
        intro u hu
        rcases List.mem_cons.1 hu with rfl | hu
        · exact oneV_ok h e
        · exact ih r h1 u hu
      · cases h1
theorem run_newVar1 (t : TypeId) (v : Value) (w : World) : (newVar t v).run P w = .ok ⟨w.heap.size, 0, none⟩ (pushB w (.cells v.cells t)) := by
  simp [newVar, newRow, pushB]
theorem bx_ok {x : A} {x' : Operand} {t : TypeId} {C : Cx} (ho : o.op = .box t x') (hR : Rel P W ξ ρ σ w) (hx : VR ξ ρ (ev T x) (a.eval x')) (h : oBx x (ixD o.dst) C T σ κ κp = true) : Av P W ξ ρ o a T κ w := by
  unfold oBx at h
  rw [evK_eq] at h
  obtain ⟨hz, h⟩ := booC_no h
  rw [frc_eq] at h
  obtain ⟨h1, h⟩ := booC_yes h
  have hc := cellsV_ok hx hz
  have hle := Rho.le_put hR (w.heap.size, 0)
  obtain ⟨σ', hk, hR', _, _⟩ := Rel.new (c := 0) (ob := .cells (a.eval x').cells t) hR (by
    have := OR.c (P := P) (cap := 0) (elem := t) (hc.mono hle) (allOne_ok hc h1)
    simpa using this) h
  refine ⟨_, .pointer (some ⟨w.heap.size, 0, none⟩), _, σ', _, ?_, hle, hR', .p (Rho.put_self _ _), hk⟩
  unfold execOp
  rw [ho]
  simp [Instr.box, run_newVar1]
theorem al_ok {cs : List V} {t : TypeId} {C : Cx} (ho : o.op = .alloc t) (hcs : cells P t = some cs) (hR : Rel P W ξ ρ σ w) (h : oY (.al cs) (ixD o.dst) C T σ κ κp = true) : Av P W ξ ρ o a T κ w := by
  obtain ⟨h1, h⟩ := booC_yes (show booC (allOne cs) (frc cs (fun cs => new (.c cs 0) σ fun i σ => putD (ixD o.dst) (.p i 0) T σ κ)) no = true from h)
  rw [frc_eq] at h
  simp only [cells, Option.map_eq_some_iff] at hcs
  obtain ⟨z, hz, rfl⟩ := hcs
  have hle := Rho.le_put hR (w.heap.size, 0)
  obtain ⟨σ', hk, hR', _, _⟩ := Rel.new (c := 0) (ob := .cells z.cells t) hR (by
    have := OR.c (P := P) (cap := 0) (elem := t) (viewL (ξ := ξ) (ρ := ρ.put σ.nx (w.heap.size, 0)) (view_ok 3) z.cells.toList) (allOne_ok (viewL (ξ := ξ) (ρ := ρ) (view_ok 3) z.cells.toList) h1)
    simpa using this) h
  rw [putD_eq] at hk
  refine ⟨_, .pointer (some ⟨w.heap.size, 0, none⟩), _, σ', _, ?_, hle, hR', .p (Rho.put_self _ _), hk⟩
  unfold execOp
  rw [ho]
  simp [Instr.alloc, pureRun_ok hz, run_newVar1]
end
end Go.Ex
namespace Go.Ex
open Go.Mo
set_option linter.unusedVariables false
set_option linter.constructorNameAsVariable false
set_option linter.unusedSimpArgs false
section
variable {P : Program} {W : Kp} {ξ : Nat → Int} {ρ : Rho} {σ : St} {w : World}
def cut (L : List Value) (o : Nat) (vs : List Value) : List Value := L.take o ++ vs ++ L.drop (o + vs.length)
theorem setCell_cells {b o : Nat} {L : List Value} {elem : TypeId} {v : Value} (h : w.heap[b]? = some (.cells L.toArray elem)) : w.setCell ⟨b, o, none⟩ v = setB w b (.cells (L.set o v).toArray elem) := by
  unfold World.setCell setB
  congr 1
  apply Array.ext'
  obtain ⟨hlt, he⟩ := Array.getElem?_eq_some_iff.1 h
  simp only [Array.toList_modify, Array.toList_setIfInBounds]
  have : w.heap.toList[b]? = some (.cells L.toArray elem) := by simpa using h
  rw [List.modify_eq_set, this]
  simp
theorem storeRow_cells : ∀ (vs : List Value) (k b o : Nat) (L : List Value) (elem : TypeId) (w : World), w.heap[b]? = some (.cells L.toArray elem) → o + k + vs.length ≤ L.length → (∀ v ∈ vs, v.oneCell' = true) →
    storable w ⟨b, o, none⟩ k vs ∧ storeRow w ⟨b, o, none⟩ k vs = setB w b (.cells (cut L (o + k) vs).toArray elem)
  | [], k, b, o, L, elem, w, h, hl, h1 => by
    refine ⟨trivial, ?_⟩
    show w = _
    unfold setB cut
    simp only [List.append_nil, List.length_nil, Nat.add_zero, List.take_append_drop]
    have : w.heap.setIfInBounds b (.cells L.toArray elem) = w.heap := by
      apply Array.ext'
      simp only [Array.toList_setIfInBounds]
      have h' : w.heap.toList[b]? = some (.cells L.toArray elem) := by simpa using h
      obtain ⟨hlt, he⟩ := List.getElem?_eq_some_iff.1 h'
      rw [← he, List.set_getElem_self]
    rw [this]
  | v :: vs, k, b, o, L, elem, w, h, hl, h1 => by
    simp only [List.length_cons] at hl
    have ha : (⟨b, o, none⟩ : Addr).add k = ⟨b, o + k, none⟩ := add_addr _ _ _
    have hset := setCell_cells (o := o + k) (v := v) h
    have hlt : b < w.heap.size := (Array.getElem?_eq_some_iff.1 h).1
    have h2 : (setB w b (.cells (L.set (o + k) v).toArray elem)).heap[b]? = some (.cells (L.set (o + k) v).toArray elem) := by simp [setB, hlt]
    obtain ⟨hs, hr⟩ := storeRow_cells vs (k + 1) b o (L.set (o + k) v) elem _ h2 (by simp; omega) (fun u hu => h1 u (by simp [hu]))
    refine ⟨⟨h1 v (by simp), ?_, ?_, ?_⟩, ?_⟩
    · rw [ha]
      refine ⟨L[o + k]'(by omega), ?_⟩
      unfold World.cell?
      simp [h, show o + k < L.length by omega]
    · rw [ha]
      unfold World.frozen?
      simp [h]
    · rw [ha, hset]; exact hs
    · show storeRow (w.setCell ((⟨b, o, none⟩ : Addr).add k) v) _ (k + 1) vs = _
      rw [ha, hset, hr]
      unfold setB
      simp only [Array.setIfInBounds_setIfInBounds]
      congr 4
      unfold cut
      rw [show o + (k + 1) = o + k + 1 from by omega]
      simp only [List.length_cons]
      rw [show o + k + 1 + vs.length = o + k + (vs.length + 1) from by omega]
      have e1 : (L.set (o + k) v).take (o + k + 1) = L.take (o + k) ++ [v] := by
        rw [List.take_add_one]
        simp [List.take_set_of_le, show o + k < L.length by omega]
      rw [e1, List.drop_set_of_lt (by omega)]
      simp
end
end Go.Ex
namespace Go.Ex
open Go.Mo
set_option linter.unusedVariables false
set_option linter.constructorNameAsVariable false
set_option linter.unusedSimpArgs false
section
variable {P : Program} {W : Kp} {ξ : Nat → Int} {ρ : Rho} {σ : St} {w : World}
theorem cut_all {α : Type} (L : List α) (o : Nat) (vs : List α) {p : α → Prop} (h1 : ∀ u ∈ L, p u) (h2 : ∀ u ∈ vs, p u) : ∀ u ∈ L.take o ++ vs ++ L.drop (o + vs.length), p u := by
  intro u hu
  simp only [List.mem_append] at hu
  rcases hu with (hu | hu) | hu
  · exact h1 u (List.mem_of_mem_take hu)
  · exact h2 u hu
  · exact h1 u (List.mem_of_mem_drop hu)
theorem Rel.store {i : Id} {p : Nat × Nat} {cs vs : List V} {ur : List Value} {e o : Nat} (h : Rel P W ξ ρ σ w) (hi : ρ i = some p) (ho : Ex.obj i σ = .c cs e) (hv : VRs ξ ρ vs ur) (h1 : ∀ u ∈ ur, u.oneCell' = true) (hl : vs ≠ [] → o + vs.length ≤ cs.length) :
    storable w ⟨p.1, o, none⟩ 0 ur ∧ ∃ σ', (∀ (R : Type) (κ : St → R), setO i (.c (cs.take o ++ vs ++ cs.drop (o + vs.length)) e) σ κ = κ σ') ∧ Rel P W ξ ρ σ' (storeRow w ⟨p.1, o, none⟩ 0 ur) ∧ σ'.nx = σ.nx ∧
      Ex.obj i σ' = .c (cs.take o ++ vs ++ cs.drop (o + vs.length)) e ∧ (∀ j, j ≠ i → Ex.obj j σ' = Ex.obj j σ) := by
  obtain ⟨us, rest, elem, hh, hs, hone, he0, hen⟩ := h.cells hi ho
  have hlen := hs.length
  have hvl := hv.length
  have hlive : Ex.obj i σ ≠ .no := by rw [ho]; simp
  -- what the block becomes
  have mk : ∀ us' : List Value, VRs ξ ρ (cs.take o ++ vs ++ cs.drop (o + vs.length)) us' → (∀ u ∈ us', u.oneCell' = true) → us'.length = us.length → OR P ξ ρ p.2 (.c (cs.take o ++ vs ++ cs.drop (o + vs.length)) e) (some (.cells (us' ++ rest).toArray elem)) := by
    intro us' hs' hone' hl'
    cases e with
    | zero =>
      have := he0 rfl
      subst this
      simpa using OR.c hs' hone'
    | succ e => exact .e hs' hone' (by rw [hl']; exact hen (by simp))
  by_cases hnil : vs = []
  · subst hnil
    cases hv
    refine ⟨trivial, ?_⟩
    have hsame : setB w p.1 (.cells (us ++ rest).toArray elem) = w := by
      have := (storeRow_cells [] 0 p.1 0 (us ++ rest) elem w hh (by simp) (by simp)).2
      simp [storeRow, cut] at this
      simpa using this.symm
    obtain ⟨σ', h3, hR', h4, h5, h6⟩ := h.set hi hlive (mk us (by simpa using hs) hone rfl)
    rw [hsame] at hR'
    exact ⟨σ', h3, hR', h4, h5, h6⟩
  · have hb := hl hnil
    obtain ⟨hst, hrow⟩ := storeRow_cells ur 0 p.1 o (us ++ rest) elem w hh (by simp; omega) h1
    refine ⟨hst, ?_⟩
    have hcut : cut (us ++ rest) (o + 0) ur = (us.take o ++ ur ++ us.drop (o + ur.length)) ++ rest := by
      unfold cut
      rw [Nat.add_zero, List.take_append_of_le_length (by omega), List.drop_append_of_le_length (by omega)]
      simp
    rw [hrow, hcut]
    have hs' : VRs ξ ρ (cs.take o ++ vs ++ cs.drop (o + vs.length)) (us.take o ++ ur ++ us.drop (o + ur.length)) := by
      rw [← hvl]
      exact ((hs.take o).append hv).append (hs.drop _)
    have hone' : ∀ u ∈ us.take o ++ ur ++ us.drop (o + ur.length), u.oneCell' = true := cut_all us o ur hone h1
    exact h.set hi hlive (mk _ hs' hone' (by simp; omega))
end
section
variable {P : Program} {W : Kp} {ξ : Nat → Int} {ρ : Rho} {o : Oper} {a : Act} {T : TT} {σ : St} {κ : KN} {κp : K} {w : World}
theorem set_cut {α : Type} (l : List α) (n : Nat) (v : α) (h : n < l.length) : l.set n v = l.take n ++ [v] ++ l.drop (n + 1) := by
  rw [List.set_eq_take_append_cons_drop, if_pos h]
  simp
theorem st_ok {x y : A} {x' y' : Operand} {t : TypeId} {sz : Nat} {C : Cx} (ho : o.op = .store t x' y') (hz : size P t = some sz) (hR : Rel P W ξ ρ σ w) (hx : VR ξ ρ (ev T x) (a.eval x')) (hy : VR ξ ρ (ev T y) (a.eval y')) (h : oSt sz x y (ixD o.dst) C T σ κ κp = true) : As P W ξ ρ o a T κ w := by
  unfold oSt at h
  obtain ⟨i, m, e, h⟩ := vP_t h
  rw [e] at hx
  obtain ⟨b, c, hb, hu⟩ := hx.p_inv
  obtain ⟨cs, ee, hob, h⟩ := oCells_t h
  have fin : ∀ (vs : List V) (cs' : List V), VRs ξ ρ vs (a.eval y').cells.toList → (∀ u ∈ (a.eval y').cells.toList, u.oneCell' = true) → vs.length = sz → (vs ≠ [] → m + vs.length ≤ cs.length) → cs' = cs.take m ++ vs ++ cs.drop (m + vs.length) → setO i (.c cs' ee) σ (κ T) = true → As P W ξ ρ o a T κ w := by
    intro vs cs' hv h1 hl hle hcs hk
    subst hcs
    obtain ⟨hst, σ', h2, hR', _⟩ := hR.store hb hob hv h1 hle
    rw [h2] at hk
    refine ⟨_, σ', ρ, ?_, ρ.le_refl, hR', hk⟩
    have hsz : (a.eval y').cells.size = sz := by rw [← hl, hv.length]; simp
    unfold execOp
    rw [ho]
    simp [hu, Instr.storeAt, Instr.sureAddr, storeVar, size_ok hz, hsz, run_storeCells_row _ _ 0 w hst]
  have one : ∀ v : V, ev T y = v → oneV v = true → st1 v sz cs ee i m σ (κ T) = true → As P W ξ ρ o a T κ w := by
    intro v hv h1 h
    unfold st1 at h
    obtain ⟨hs1, h⟩ := booC_yes h
    rw [frcV_eq] at h
    obtain ⟨hlt, hk⟩ := put1_t h
    have hs1 := Nat.eq_of_beq_eq_true hs1
    rw [hv] at hy
    have hone := oneV_ok hy h1
    have hcells : (a.eval y').cells.toList = [a.eval y'] := by
      generalize a.eval y' = u at hone
      cases u <;> first | rfl | cases hone
    refine fin [v] (cs.set m v) (by rw [hcells]; exact .cons hy .nil) (by rw [hcells]; simpa using hone) (by simp [hs1]) (fun _ => by simp; omega) ?_ hk
    exact set_cut cs m v hlt
  generalize hv : ev T y = v at h
  cases v with
  | w z =>
    have h : booC (isAggV z) (stMany sz z cs ee i m σ (κ T)) (booC (oneW z) (st1 (.w z) sz cs ee i m σ (κ T)) no) = true := h
    rcases booC_t h with ⟨e1, h⟩ | ⟨_, h⟩
    · unfold stMany at h
      split at h
      · rename_i e2
        simp only [Bool.and_eq_true] at e2
        obtain ⟨l', hk, hl', _, hle⟩ := putL_t h
        rw [hv] at hy
        have hc := cellsW_ok hy (by cases z <;> first | rfl | cases e1)
        exact fin (cellsW z) l' hc (allOne_ok hc e2.2) (Nat.eq_of_beq_eq_true e2.1) hle hl' hk
      · cases h
    · obtain ⟨e1, h⟩ := booC_yes h
      exact one _ hv e1 h
  | n m' => exact one _ hv rfl h
  | u m' => exact one _ hv rfl h
  | b x => exact one _ hv rfl h
  | p i' o' => exact one _ hv rfl h
  | s i' o' l c' => exact one _ hv rfl h
  | q i' l => exact one _ hv rfl h
end
end Go.Ex
namespace Go.Ex
open Go.Mo
set_option linter.unusedVariables false
set_option linter.constructorNameAsVariable false
set_option linter.unusedSimpArgs false
section
variable {P : Program} {W : Kp} {ξ : Nat → Int} {ρ : Rho} {o : Oper} {a : Act} {T : TT} {σ : St} {κ : KN} {κp : K} {w : World} {loc n : Nat} {rd : Option Nat} {Kn : Act → World → Prop} {Q : Exit → Act → World → Prop}
def Out (P : Program) (W : Kp) (ξ : Nat → Int) (loc n : Nat) (ρ : Rho) (κp : K) (Q : Exit → Act → World → Prop) : Prop :=
  ∀ e T' σ' ρ' e' a' w', κp e T' σ' = true → ρ.le ρ' → Rel P W ξ ρ' σ' w' → FR ξ ρ' loc n T' a' → XR' ξ ρ' e e' → Q e' a' w'
theorem call_step {C : Cx} (HC : CallOK P W ξ C.call) {f : FuncId} {vs : List V} {us : List Value} (hop : ∀ c, o.op ≠ .defer c) (hr : (execOp a.eval o).run P w = (callFunc f us.toArray).run P w) (hR : Rel P W ξ ρ σ w) (hF : FR ξ ρ loc n T a)
    (hv : VRs ξ ρ vs us) (h : C.call f vs σ (endC (ixD o.dst) T κ κp) = true) (hd : ∀ d, o.dst = some d → d < n) (hn : n ≤ 250) (hK : Behind P W ξ loc n o T a ρ κ Kn) (hQ : Out P W ξ loc n ρ κp Q) : o.wpIn (FW rd) 0 P a w Kn Q := by
  -- what an ending comes to
  have fin : ∀ e σ' ρ' e' w', endC (ixD o.dst) T κ κp e σ' = true → ρ.le ρ' → Rel P W ξ ρ' σ' w' → NR ξ ρ' e e' → (match e' with
      | .returned v => Kn (a.put o.dst v) w'
      | .panicked ch => Q (.panic ch) a w'
      | .outgrown => False) := by
    intro e σ' ρ' e' w' hk hl hR' hx
    cases hx with
    | r hv' =>
      have hk : putD (ixD o.dst) _ T σ' κ = true := hk
      rw [putD_eq] at hk
      obtain ⟨T', hk', hF', h1, h2, _, _⟩ := FR.put (hF.mono hl) hv' hd hn hk
      exact hK T' σ' ρ' _ w' hk' hl hR' hF' h1 h2
    | p hv' => exact hQ _ T σ' ρ' _ a w' hk hl hR' (hF.mono hl) (.p hv')
  have := HC f vs σ _ h ρ w us (fun e' w' => match e' with
      | .returned v => Kn (a.put o.dst v) w'
      | .panicked ch => Q (.panic ch) a w'
      | .outgrown => False) hR hv fin
  refine wpIn_run hop ?_
  rw [hr]
  rcases this with ⟨he, hc⟩ | ⟨v, w', he, hk⟩
  · rw [he, Oper.uponIn_enter]
    refine ⟨fun h => by simp [Fence.wide] at h, (callsIn_FW rd hc).mono fun e w' hx => ?_⟩
    cases e with
    | returned v => exact hx
    | panicked ch => exact hx
    | outgrown => exact hx.elim
  · rw [he, Oper.uponIn_value]
    exact hk
theorem evL_eq (T : TT) (l : List A) (κ : List V → Ans) : evL T l κ = κ (opsA T l) := by
  induction l generalizing κ with
  | nil => rfl
  | cons x l ih =>
    have : evL T (x :: l) κ = frcV (ev T x) (fun v => evL T l fun l => κ (v :: l)) := rfl
    rw [this, frcV_eq, ih]
    rfl
theorem opsA_ok {s : Sb} (hT : TR ξ ρ s.1 T a.tmps) (hs : SR ξ ρ T s.2 a.tmps) : ∀ (xs : List Operand) (aas : List A), xs.mapM (cA s) = some aas → (∀ x ∈ xs, opdLt x = true) → VRs ξ ρ (opsA T aas) (xs.map a.eval)
  | [], aas, h, _ => by
    simp at h
    subst h
    exact .nil
  | x :: xs, aas, h, hl => by
    simp only [List.mapM_cons, Option.bind_eq_bind, Option.pure_def] at h
    cases h1 : cA s x with
    | none => rw [h1] at h; simp at h
    | some A =>
      rw [h1] at h
      cases h2 : xs.mapM (cA s) with
      | none => rw [h2] at h; simp at h
      | some as' =>
        rw [h2] at h
        simp at h
        subst h
        exact .cons (cA_ok hT hs h1 (hl x (by simp))) (opsA_ok hT hs xs as' h2 fun y hy => hl y (by simp [hy]))
theorem run_callv {x : Operand} {args : Array Operand} {tys : Array TypeId} {f : FuncId} {fs cs : List Value} (ho : o.op = .call ⟨.value x, args, tys⟩) (hx : a.eval x = .func (.func f) fs.toArray cs.toArray) :
    (execOp a.eval o).run P w = (callFunc f (fs ++ (args.toList.map a.eval ++ cs)).toArray).run P w := by
  rw [call_exec ho, hx]
  have : args.map a.eval = (args.toList.map a.eval).toArray := Array.ext' (by simp [Array.toList_map])
  simp [Deferred.ofValue, invoke, this]
theorem ca_ok {C : Cx} (HC : CallOK P W ξ C.call) {f : FuncId} {args : Array Operand} {tys : Array TypeId} {aas : List A} {s : Sb} (ho : o.op = .call ⟨.value (.func f), args, tys⟩) (has : args.toList.mapM (cA s) = some aas) (hl : ∀ x ∈ args.toList, opdLt x = true)
    (hR : Rel P W ξ ρ σ w) (hF : FR ξ ρ s.1 n T a) (hs : SR ξ ρ T s.2 a.tmps) (h : oCa f aas (ixD o.dst) C T σ κ κp = true) (hd : ∀ d, o.dst = some d → d < n) (hn : n ≤ 250) (hK : Behind P W ξ s.1 n o T a ρ κ Kn) (hQ : Out P W ξ s.1 n ρ κp Q) :
    o.wpIn (FW rd) 0 P a w Kn Q := by
  unfold oCa at h
  rw [evL_eq] at h
  refine call_step HC (f := f) (us := args.toList.map a.eval) (fun c e => by rw [ho] at e; cases e) ?_ hR hF (opsA_ok hF.tr hs _ _ has hl) h hd hn hK hQ
  have := run_callv (P := P) (w := w) (fs := []) (cs := []) ho (show a.eval (.func f) = .func (.func f) [].toArray [].toArray from rfl)
  simpa using this
theorem pn_ok {C : Cx} {x : A} {x' : Operand} (ho : o.op = .panic x') (hR : Rel P W ξ ρ σ w) (hF : FR ξ ρ loc n T a) (hx : VR ξ ρ (ev T x) (a.eval x')) (h : oY (.pn x) (ixD o.dst) C T σ κ κp = true)
    (hQ : Out P W ξ loc n ρ κp Q) : o.wpIn (FW rd) 0 P a w Kn Q := by
  have h : frcV (ev T x) (fun v => booC (isI v) (κp (.p v) T σ) no) = true := h
  rw [frcV_eq] at h
  obtain ⟨hi, h⟩ := booC_yes h
  obtain ⟨t, y, e⟩ : ∃ t y, ev T x = .w (.i t y) := by
    unfold isI at hi
    split at hi
    · rename_i e; exact ⟨_, _, e⟩
    · cases hi
  refine wpIn_run (fun c e => by rw [ho] at e; cases e) ?_
  have hr : (execOp a.eval o).run P w = .halt (.panic (a.eval x')) w := by
    rw [e] at hx
    have hu : ∃ z, a.eval x' = .iface t z := by
      generalize a.eval x' = u at hx
      cases hx with
      | i hy => exact ⟨_, rfl⟩
    obtain ⟨z, hu⟩ := hu
    unfold execOp
    rw [ho]
    simp [hu, Instr.panic, goPanic, Sem.run]
  rw [hr]
  exact hQ _ T σ ρ _ a w h ρ.le_refl hR hF (.p hx)
end
end Go.Ex
namespace Go.Ex
open Go.Mo
set_option linter.unusedVariables false
set_option linter.constructorNameAsVariable false
set_option linter.unusedSimpArgs false
section
variable {P : Program} {W : Kp} {ξ : Nat → Int} {ρ : Rho} {o : Oper} {a : Act} {T : TT} {σ : St} {κ : KN} {κp : K} {w : World}
theorem ERs.length {es : List (V × V × Nat)} {ms : List MapEntry} (h : ERs ξ ρ es ms) : es.length = ms.length := by
  induction h with
  | nil => rfl
  | cons h r ih => simp [ih]
theorem Rel.map {i : Id} {p : Nat × Nat} {es : List (V × V × Nat)} {c : Nat} (h : Rel P W ξ ρ σ w) (hi : ρ i = some p) (ho : Ex.obj i σ = .m es c) : ∃ ms : List MapEntry, w.heap[p.1]? = some (.map ms.toArray c) ∧ ERs ξ ρ es ms := by
  have := h.ob i p hi
  rw [ho] at this
  generalize hx : w.heap[p.1]? = x at this
  cases this with
  | m hs => exact ⟨_, rfl, hs⟩
theorem mm_ok {t : TypeId} {C : Cx} (ho : o.op = .makeMap t none) (hR : Rel P W ξ ρ σ w) (h : oY .mm (ixD o.dst) C T σ κ κp = true) : Av P W ξ ρ o a T κ w := by
  have h : new (.m [] 0) σ (fun i σ => putD (ixD o.dst) (.w (.m i)) T σ κ) = true := h
  obtain ⟨σ', hk, hR', _, _⟩ := Rel.new (c := 0) (ob := .map #[] 0) hR (.m .nil) h
  rw [putD_eq] at hk
  refine ⟨_, .map (some w.heap.size), _, σ', _, ?_, Rho.le_put hR _, hR', .m (Rho.put_self _ _), hk⟩
  unfold execOp
  rw [ho]
  simp [Instr.makeMap, pushB]
end
end Go.Ex

namespace Go.Ex
open Go.Mo
set_option linter.unusedVariables false
section
variable {P : Program} {ops : Array Oper}
def clos (ops : Array Oper) (listed : Array Bool) : Prop := ∀ (j : Nat) (oj : Oper), ops[j]? = some oj → listed.getD j false = true → ∀ e ∈ oj.after, Region.binds .any e = true → listed.getD e.on false = true
theorem getD_set_true {l : Array Bool} {i j : Nat} (h : l.getD j false = true) : (l.setIfInBounds i true).getD j false = true := by
  simp only [Array.getD_eq_getD_getElem?] at h ⊢
  by_cases e : i = j
  · subst e
    by_cases hs : i < l.size
    · simp [hs]
    · simp [hs] at h
  · rw [Array.getElem?_setIfInBounds_ne e]
    exact h
theorem clos_step {listed : Array Bool} {j : Nat} (h : clos ops listed) (hj : j ∈ Region.ready .any ops listed) : clos ops (listed.setIfInBounds j true) := by
  intro k ok hk hl e he hb
  obtain ⟨_, oj, hoj, hall⟩ := mem_ready.1 hj
  by_cases ekj : k = j
  · subst ekj
    rw [hoj] at hk
    cases hk
    exact getD_set_true (hall e he hb)
  · refine getD_set_true (h k ok hk ?_ e he hb)
    simp only [Array.getD_eq_getD_getElem?] at hl ⊢
    rw [Array.getElem?_setIfInBounds_ne (fun e => ekj e.symm)] at hl
    exact hl
theorem clos_start (n : Nat) : clos ops (Array.replicate n false) := by
  intro k ok hk hl
  simp only [Array.getD_eq_getD_getElem?] at hl
  by_cases h : k < n
  · simp [h] at hl
  · simp [h] at hl
theorem afterX_mem {l : List Oper} {j i : Nat} (h : i ∈ afterX l j) : ∃ oj, l[j]? = some oj ∧ ∃ e ∈ oj.after, Region.binds .any e = true ∧ e.on = i := by
  unfold afterX at h
  split at h
  · rename_i oj e
    simp only [List.mem_map, List.mem_filter] at h
    obtain ⟨ed, ⟨h1, h2⟩, h3⟩ := h
    exact ⟨oj, e, ed, by simpa using h1, h2, h3⟩
  · cases h
theorem mem_add {l : List Nat} {s : List Nat} {i : Nat} (h : i ∈ l.foldl (fun s i => if s.contains i then s else i :: s) s) : i ∈ s ∨ i ∈ l := by
  induction l generalizing s with
  | nil => exact .inl h
  | cons x l ih =>
    simp only [List.foldl_cons] at h
    rcases ih h with h | h
    · split at h
      · exact .inl h
      · rcases List.mem_cons.1 h with rfl | h
        · exact .inr (by simp)
        · exact .inl h
    · exact .inr (by simp [h])
theorem ahead_listed {listed : Array Bool} (hc : clos ops listed) : ∀ (n : Nat) (s : List Nat), (∀ i ∈ s, listed.getD i false = true) → ∀ i ∈ ahead ops.toList n s, listed.getD i false = true
  | 0, s, hs, i, hi => hs i hi
  | n + 1, s, hs, i, hi => by
    refine ahead_listed hc n _ (fun j hj => ?_) i hi
    rcases mem_add hj with hj | hj
    · exact hs j hj
    · obtain ⟨k, hk, hj⟩ := List.mem_flatMap.1 hj
      obtain ⟨ok, hok, e, he, hb, rfl⟩ := afterX_mem hj
      exact hc k ok (by simpa using hok) (hs k hk) e he hb
def fin (P : Program) (loc : Nat) (ops : Array Oper) (i : Nat) : Bool := match dkI P loc ops.toList i with
  | .z => true
  | _ => false
end
end Go.Ex
namespace Go.Ex
open Go.Mo
set_option linter.unusedVariables false
section
variable {rd : Option Nat} {P : Program} {Q : Exit → Act → World → Prop} {ops : Array Oper}
def live (F : Nat → Bool) (l : Array Bool) : Prop := ∀ f, F f = true → l.getD f false = false
theorem live_set {F : Nat → Bool} {l : Array Bool} {i : Nat} (h : live F (l.setIfInBounds i true)) : live F l := fun f hf => by
  cases e : l.getD f false with
  | false => rfl
  | true => rw [← h f hf, getD_set_true e]
theorem live_add {F : Nat → Bool} {l : Array Bool} {i : Nat} (hi : F i = false) (h : live F l) : live F (l.setIfInBounds i true) := fun f hf => by
  have hne : i ≠ f := fun e => by subst e; rw [hi] at hf; cases hf
  have := h f hf
  simp only [Array.getD_eq_getD_getElem?] at this ⊢
  rw [Array.getElem?_setIfInBounds_ne hne]
  exact this
def wpG (rd : Option Nat) (P : Program) (ops : Array Oper) (Q : Exit → Act → World → Prop) (F : Nat → Bool) (S : World → Prop) : Nat → Array Bool → Act → World → Prop
  | 0, listed, a, w => Region.ready .any ops listed = [] ∧ Q .normal a w
  | fuel + 1, listed, a, w => (Region.ready .any ops listed = [] → Q .normal a w) ∧
    ∀ i ∈ Region.ready .any ops listed, wpOpIn (FW rd) 0 P ops Q i (fun a' w' => (live F (listed.setIfInBounds i true) → S w') ∧ wpG rd P ops Q F S fuel (listed.setIfInBounds i true) a' w') a w
theorem wpG_any {F : Nat → Bool} {S : World → Prop} : ∀ (fuel : Nat) (listed : Array Bool) (a : Act) (w : World), wpG rd P ops Q F S fuel listed a w → wpAnyIn (FW rd) 0 P .any ops Q fuel listed a w
  | 0, _, _, _, h => h
  | fuel + 1, _, _, _, h => ⟨h.1, fun i hi => wpOpIn_mono (fun a' w' h' => wpG_any fuel _ a' w' h'.2) (h.2 i hi)⟩
theorem wpG_mono {F : Nat → Bool} {S1 S2 : World → Prop} : ∀ (fuel : Nat) (listed : Array Bool) (a : Act) (w : World), (live F listed → ∀ w, S1 w → S2 w) → wpG rd P ops Q F S1 fuel listed a w → wpG rd P ops Q F S2 fuel listed a w
  | 0, _, _, _, _, h => h
  | fuel + 1, listed, _, _, h12, h => ⟨h.1, fun i hi => wpOpIn_mono (fun a' w' h' => ⟨fun l => h12 (live_set l) _ (h'.1 l), wpG_mono fuel _ a' w' (fun l => h12 (live_set l)) h'.2⟩) (h.2 i hi)⟩
theorem wpG_done {F : Nat → Bool} {S : World → Prop} {listed : Array Bool} {a : Act} {w : World} (hr : Region.ready .any ops listed = []) (h : Q .normal a w) : ∀ fuel, wpG rd P ops Q F S fuel listed a w
  | 0 => ⟨hr, h⟩
  | _ + 1 => ⟨fun _ => h, fun i hi => by rw [hr] at hi; cases hi⟩
theorem wpG_first {F : Nat → Bool} {S1 S2 S' : World → Prop} {i : Nat} {oi : Oper} {v : Value} (hi : ops[i]? = some oi) (hsel : ∀ (j : Nat) (o : Oper) cs b, ops[j]? = some o → o.op ≠ .select cs b) (hdf : ∀ (j : Nat) (o : Oper) c, ops[j]? = some o → o.op ≠ .defer c)
    (hQ : ∀ c a w, Q (.panic c) (a.put oi.dst v) w → Q (.panic c) a w)
    (hFi : F i = false) (h12 : ∀ w, S1 w → S2 w) (h1 : ∀ w, S1 w → S' w) (hlive : (∀ w, S' w) ∨ ∀ l, clos ops l → l.getD i true = false → live F l) :
    ∀ (fuel : Nat) (listed : Array Bool) (a : Act) (w : World), clos ops listed →
      (∀ j oj, ops[j]? = some oj → j ≠ i → listed.getD j true = false → (∀ e ∈ oj.after, Region.binds .any e = true → e.on ≠ i) → oi.apart ops oj = true) →
      i ∈ Region.ready .any ops listed → YieldsIf P ops S' oi v a → (live F listed → S1 w) →
      wpG rd P ops Q F S1 fuel (listed.setIfInBounds i true) (a.put oi.dst v) w → wpG rd P ops Q F S2 (fuel + 1) listed a w := by
  have notAfter : ∀ (listed : Array Bool) (j : Nat) (oj : Oper), ops[j]? = some oj → i ∈ Region.ready .any ops listed → j ∈ Region.ready .any ops listed →
      ∀ e ∈ oj.after, Region.binds .any e = true → e.on ≠ i := by
    intro listed j oj hoj hr hj e he hb heq
    obtain ⟨_, oj', hoj', hall⟩ := mem_ready.1 hj
    rw [hoj] at hoj'
    cases hoj'
    have h1 := hall e he hb
    have h0 := (mem_ready.1 hr).1
    rw [heq] at h1
    rcases Nat.lt_or_ge i listed.size with h' | h'
    · simp [h'] at h0 h1; rw [h0] at h1; cases h1
    · simp [Array.getElem?_eq_none h'] at h1
  intro fuel
  have take : ∀ (fuel : Nat) (listed : Array Bool) (a : Act) (w : World), clos ops listed → i ∈ Region.ready .any ops listed → YieldsIf P ops S' oi v a → (live F listed → S1 w) →
      wpG rd P ops Q F S1 fuel (listed.setIfInBounds i true) (a.put oi.dst v) w → wpOpIn (FW rd) 0 P ops Q i (fun a' w' => (live F (listed.setIfInBounds i true) → S2 w') ∧ wpG rd P ops Q F S2 fuel (listed.setIfInBounds i true) a' w') a w := by
    intro fuel listed a w hc hr hy hS H
    have hS' : S' w := by
      rcases hlive with h | h
      · exact h w
      · exact h1 w (hS (h listed hc (mem_ready.1 hr).1))
    exact yieldsF hi hy hS' ⟨fun l => h12 w (hS (live_set l)), wpG_mono fuel _ _ w (fun _ => h12) H⟩
  induction fuel with
  | zero =>
    intro listed a w hc _ hr hy hS H
    refine ⟨fun h => (by rw [h] at hr; cases hr), fun j hj => ?_⟩
    by_cases hji : j = i
    · subst hji; exact take 0 listed a w hc hr hy hS H
    · have := ready_mono hj hji
      rw [H.1] at this
      cases this
  | succ fuel ih =>
    intro listed a w hc hfree hr hy hS H
    refine ⟨fun h => (by rw [h] at hr; cases hr), fun j hj => ?_⟩
    by_cases hji : j = i
    · subst hji; exact take (fuel + 1) listed a w hc hr hy hS H
    · have h1' := H.2 j (ready_mono hj hji)
      obtain ⟨hjun, oj, hoj, _⟩ := mem_ready.1 hj
      have hnot := notAfter listed j oj hoj hr hj
      have h2 := wpOpF_putIf hoj (hfree j oj hoj hji hjun hnot) (fun cs b => hsel i oi cs b hi) (fun cs b => hsel j oj cs b hoj) (fun c => hdf j oj c hoj) hQ hy h1'
      have hfree' : ∀ k ok, ops[k]? = some ok → k ≠ i → (listed.setIfInBounds j true).getD k true = false →
          (∀ e ∈ ok.after, Region.binds .any e = true → e.on ≠ i) → oi.apart ops ok = true := fun k ok hk hki hun hno => by
        refine hfree k ok hk hki ?_ hno
        by_cases hjk : j = k
        · subst hjk; exact hjun
        · rw [getD_set_ne true hjk] at hun; exact hun
      have hcomm : (listed.setIfInBounds i true).setIfInBounds j true = (listed.setIfInBounds j true).setIfInBounds i true := Array.setIfInBounds_comm _ _ (Ne.symm hji)
      have hlv : live F (listed.setIfInBounds j true) → live F ((listed.setIfInBounds i true).setIfInBounds j true) := fun l => by
        rw [hcomm]
        exact live_add hFi l
      refine wpOpIn_mono (fun a' w' h3 => ?_) h2
      refine ⟨fun l => h12 w' (h3.2.1 (hlv l)), ih (listed.setIfInBounds j true) a' w' (clos_step hc hj) hfree' (ready_mono hr (Ne.symm hji)) h3.1 (fun l => h3.2.1 (hlv l)) ?_⟩
      rw [← hcomm]
      exact h3.2.2
end
end Go.Ex
namespace Go.Ex
open Go.Mo
set_option linter.unusedVariables false
set_option linter.constructorNameAsVariable false
set_option linter.unusedSimpArgs false
section
variable {P : Program} {W : Kp} {ξ : Nat → Int} {ρ : Rho}
theorem eqD_t {x y : Dg} (h : eqD x y = true) : x = y := by cases x <;> cases y <;> first | rfl | cases h
theorem eqI_t {i j : Id} (h : eqI i j = true) : i = j := by
  obtain ⟨a, b, c, d, e, f, g, k⟩ := i
  obtain ⟨a', b', c', d', e', f', g', k'⟩ := j
  have h : (eqD a a' && (eqD b b' && (eqD c c' && (eqD d d' && (eqD e e' && (eqD f f' && (eqD g g' && eqD k k'))))))) = true := h
  simp only [Bool.and_eq_true] at h
  obtain ⟨h1, h2, h3, h4, h5, h6, h7, h8⟩ := h
  rw [eqD_t h1, eqD_t h2, eqD_t h3, eqD_t h4, eqD_t h5, eqD_t h6, eqD_t h7, eqD_t h8]
theorem sameK_t {v w : Value} (h : sameK v w = true) : v = w := by
  unfold sameK at h
  split at h <;> first | rfl | (cases h; done) | skip
  · simp only [Bool.and_eq_true] at h
    rw [Nat.eq_of_beq_eq_true h.1, Nat.eq_of_beq_eq_true h.2]
  · rename_i a b
    have : a.data.toList = b.data.toList := by simpa using h
    obtain ⟨⟨a⟩⟩ := a
    obtain ⟨⟨b⟩⟩ := b
    simp at this
    subst this
    rfl
  · simp only [Bool.and_eq_true, beq_iff_eq] at h
    rw [h.1, h.2]
theorem sameV_ok : ∀ (d : Nat) (v w : V) (u u' : Value), sameV d v w = true → VR ξ ρ v u → VR ξ ρ w u' → u = u' := by
  intro d
  induction d with
  | zero =>
    intro v w u u' h hv hw
    unfold sameV at h
    split at h <;> first | (cases h; done) | skip
    · rw [hv.n_inv, hw.n_inv, Nat.eq_of_beq_eq_true h]
    · rw [hv.u_inv, hw.u_inv, Nat.eq_of_beq_eq_true h]
    · rw [hv.b_inv, hw.b_inv]; simp only [beq_iff_eq] at h; rw [h]
    · simp only [Bool.and_eq_true] at h
      have := eqI_t h.1
      subst this
      obtain ⟨b, c, e, rfl⟩ := hv.p_inv
      obtain ⟨b', c', e', rfl⟩ := hw.p_inv
      rw [e] at e'
      cases e'
      rw [Nat.eq_of_beq_eq_true h.2]
    · simp only [Bool.and_eq_true] at h
      have := eqI_t h.1
      subst this
      cases hv with | s e => cases hw with | s e' =>
      rw [e] at e'
      cases e'
      rw [Nat.eq_of_beq_eq_true h.2.1, Nat.eq_of_beq_eq_true h.2.2.1, Nat.eq_of_beq_eq_true h.2.2.2]
    · simp only [Bool.and_eq_true] at h
      have := eqI_t h.1
      subst this
      cases hv with | q e _ => cases hw with | q e' _ =>
      rw [e] at e'
      cases e'
      rw [Nat.eq_of_beq_eq_true h.2]
    · have := eqI_t h
      subst this
      cases hv with | m e => cases hw with | m e' =>
      rw [e] at e'
      cases e'
      rfl
    · rw [hv.k_inv, hw.k_inv, sameK_t h]
    · rename_i he; cases he
    · rename_i he; cases he
  | succ d ih =>
    intro v w u u' h hv hw
    have lst : ∀ (vs ws : List V) (us us' : List Value), vs.length = ws.length → (vs.zip ws).all (fun p => sameV d p.1 p.2) = true → VRs ξ ρ vs us → VRs ξ ρ ws us' → us = us' := by
      intro vs
      induction vs with
      | nil => intro ws us us' hl h h1 h2; cases ws with
        | nil => cases h1; cases h2; rfl
        | cons _ _ => simp at hl
      | cons x vs ihl => intro ws us us' hl h h1 h2; cases ws with
        | nil => simp at hl
        | cons y ws =>
          simp only [List.zip_cons_cons, List.all_cons, Bool.and_eq_true] at h
          cases h1 with | cons h1 r1 => cases h2 with | cons h2 r2 =>
          rw [ih x y _ _ h.1 h1 h2, ihl ws _ _ (by simpa using hl) h.2 r1 r2]
    unfold sameV at h
    split at h <;> first | (cases h; done) | skip
    · rw [hv.n_inv, hw.n_inv, Nat.eq_of_beq_eq_true h]
    · rw [hv.u_inv, hw.u_inv, Nat.eq_of_beq_eq_true h]
    · rw [hv.b_inv, hw.b_inv]; simp only [beq_iff_eq] at h; rw [h]
    · simp only [Bool.and_eq_true] at h
      have := eqI_t h.1
      subst this
      obtain ⟨b, c, e, rfl⟩ := hv.p_inv
      obtain ⟨b', c', e', rfl⟩ := hw.p_inv
      rw [e] at e'
      cases e'
      rw [Nat.eq_of_beq_eq_true h.2]
    · simp only [Bool.and_eq_true] at h
      have := eqI_t h.1
      subst this
      cases hv with | s e => cases hw with | s e' =>
      rw [e] at e'
      cases e'
      rw [Nat.eq_of_beq_eq_true h.2.1, Nat.eq_of_beq_eq_true h.2.2.1, Nat.eq_of_beq_eq_true h.2.2.2]
    · simp only [Bool.and_eq_true] at h
      have := eqI_t h.1
      subst this
      cases hv with | q e _ => cases hw with | q e' _ =>
      rw [e] at e'
      cases e'
      rw [Nat.eq_of_beq_eq_true h.2]
    · have := eqI_t h
      subst this
      cases hv with | m e => cases hw with | m e' =>
      rw [e] at e'
      cases e'
      rfl
    · rw [hv.k_inv, hw.k_inv, sameK_t h]
    · rename_i d' he1 t v1 t' v2 he
      simp only [Bool.and_eq_true] at h
      cases hv with | i hv => cases hw with | i hw =>
      cases he
      rw [Nat.eq_of_beq_eq_true h.1, ih _ _ _ _ h.2 hv hw]
    · rename_i d' he1 vs ws he
      simp only [Bool.and_eq_true] at h
      cases hv with | a hv => cases hw with | a hw =>
      cases he
      rw [lst vs ws _ _ (Nat.eq_of_beq_eq_true h.1) h.2 hv hw]
end
end Go.Ex
namespace Go.Ex
open Go.Mo
set_option linter.unusedVariables false
set_option linter.constructorNameAsVariable false
set_option linter.unusedSimpArgs false
section
variable {P : Program} {W : Kp} {ξ : Nat → Int} {ρ : Rho}
def OpsR (ξ : Nat → Int) (ρ : Rho) (loc : Nat) (T : TT) (a : Act) (o : Oper) : Prop := ∀ y ∈ o.op.operands.toList, ∀ A, cA (loc, []) y = some A → VR ξ ρ (ev T A) (a.eval y)
def LoadOK (P : Program) (ξ : Nat → Int) : Prop := ∀ (W : Kp) (loc : Nat) (o : Oper) (T : TT) (σ : St) (v : V) (ρ : Rho) (a : Act) (w : World), kdX (xOf (loc, []) P o) = .l → ldV T σ (xOf (loc, []) P o) = some v → Rel P W ξ ρ σ w → OpsR ξ ρ loc T a o →
  ∃ (S : World → Prop) (u : Value), S w ∧ (∀ w ob, S w → S (pushB w ob)) ∧ (∀ w', S w' → (execOp a.eval o).run P w' = .ok (.value u) w') ∧ VR ξ ρ v u
def PureOK (P : Program) (ξ : Nat → Int) (C : Cx) : Prop := ∀ (loc : Nat) (o : Oper) (d : Ix) (T : TT) (σ : St) (κ : KN) (κp : K) (ρ : Rho) (a : Act), kdX (xOf (loc, []) P o) = .p → doX (xOf (loc, []) P o) d C T σ κ κp = true → opdsLt o = true → OpsR ξ ρ loc T a o →
  TR ξ ρ loc T a.tmps → Yl P ξ ρ o a d T σ κ
theorem opsR_of {loc : Nat} {T : TT} {a : Act} {o : Oper} (h : TR ξ ρ loc T a.tmps) (hl : opdsLt o = true) : OpsR ξ ρ loc T a o := fun y hy A hA => cA_ok (s := (loc, [])) h SR.nil hA (List.all_eq_true.1 hl y hy)
theorem doX_ld {C : Cx} {x : X} {d : Ix} {T : TT} {σ : St} {κ : KN} {κp : K} (hk : kdX x = .l) (h : doX x d C T σ κ κp = true) : ∃ v, ldV T σ x = some v ∧ putV d v T σ κ = true := by
  cases x with
  | ld x =>
    have h : oLd x d C T σ κ κp = true := h
    unfold oLd at h
    obtain ⟨i, m, e, h⟩ := vP_t h
    obtain ⟨cs, ee, ho', h⟩ := oCells_t h
    obtain ⟨v, h1, h2⟩ := nth_t h
    rw [putD_eq] at h2
    exact ⟨v, by simp [ldV, e, ho', nthO_of h1], h2⟩
  | lA n x =>
    have h : oLA n x d C T σ κ κp = true := h
    unfold oLA at h
    obtain ⟨i, m, e, h⟩ := vP_t h
    obtain ⟨cs, ee, ho', h⟩ := oCells_t h
    unfold subC at h
    cases es : sub m n cs with
    | none => rw [es] at h; cases h
    | some r =>
      rw [es] at h
      have h : frc r (fun l => putD d (.w (.a l)) T σ κ) = true := h
      rw [frc_eq, putD_eq] at h
      exact ⟨_, by simp [ldV, e, ho', es, aggO], h⟩
  | o y =>
    have h : oY y d C T σ κ κp = true := h
    have hk : kdY y = .l := hk
    unfold oY at h
    rw [hk] at h
    exact putO_eq h
  | _ => cases hk
def opdI (o : Oper) : List Ix := o.op.operands.toList.filterMap fun y => match y with
  | .tmp t => some (ixOf t)
  | _ => none
theorem cA_place {loc : Nat} {y : Operand} {A : A} {T T' : TT} {o : Oper} (hy : y ∈ o.op.operands.toList) (hA : cA (loc, []) y = some A) (h : ∀ i ∈ opdI o, g16 i T' = g16 i T) : ev T' A = ev T A := by
  cases y with
  | tmp t =>
    simp only [cA, Option.some.injEq, atS] at hA
    unfold atL at hA
    split at hA
    · subst hA; rfl
    · subst hA
      have : ixOf t ∈ opdI o := by
        unfold opdI
        rw [List.mem_filterMap]
        exact ⟨_, hy, rfl⟩
      show (g16 (ixOf t) T').v = (g16 (ixOf t) T).v
      rw [h _ this]
  | const v => simp only [cA, Option.some.injEq] at hA; subst hA; rfl
  | func f => simp only [cA, Option.some.injEq] at hA; subst hA; rfl
  | global g => cases hA
structure AccOK (P : Program) (ξ : Nat → Int) (ρ : Rho) (T : TT) (acc : List (Ix × X)) (L : List Ix) (S : World → Prop) : Prop where
  push : ∀ w ob, S w → S (pushB w ob)
  again : ∀ (W : Kp) (ρ' : Rho) (T' : TT) (σ' : St) (w' : World), ρ.le ρ' → Rel P W ξ ρ' σ' w' → (∀ i ∈ L, g16 i T' = g16 i T) → stays T' σ' acc = true → S w'
theorem AccOK.none {T : TT} : AccOK P ξ ρ T [] [] (fun _ => True) := ⟨fun _ _ h => h, fun _ _ _ _ _ _ _ _ _ => trivial⟩
theorem AccOK.mono {ρ' : Rho} {T T' : TT} {acc : List (Ix × X)} {L : List Ix} {S : World → Prop} (h : AccOK P ξ ρ T acc L S) (hl : ρ.le ρ') (hT : ∀ i ∈ L, g16 i T' = g16 i T) : AccOK P ξ ρ' T' acc L S :=
  ⟨h.push, fun W ρ'' T'' σ'' w'' hl' hR hT' hs => h.again W ρ'' T'' σ'' w'' (hl.trans hl') hR (fun i hi => (hT' i hi).trans (hT i hi)) hs⟩
def rdS (P : Program) (o : Oper) (a : Act) (u : Value) (w : World) : Prop := ∃ S0 : World → Prop, S0 w ∧ (∀ w ob, S0 w → S0 (pushB w ob)) ∧ ∀ w', S0 w' → (execOp a.eval o).run P w' = .ok (.value u) w'
theorem AccOK.load (HL : LoadOK P ξ) {T T1 : TT} {acc : List (Ix × X)} {L : List Ix} {S : World → Prop} {loc : Nat} {o : Oper} {a : Act} {d : Ix} {v : V} {u : Value} (h : AccOK P ξ ρ T acc L S) (hk : kdX (xOf (loc, []) P o) = .l) (hO : OpsR ξ ρ loc T a o) (hv : VR ξ ρ v u)
    (hd : (g16 d T1).v = v) (h1 : ∀ i ∈ L, g16 i T1 = g16 i T) (h2 : ∀ i ∈ opdI o, g16 i T1 = g16 i T) : AccOK P ξ ρ T1 ((d, xOf (loc, []) P o) :: acc) (d :: (opdI o ++ L)) (fun w => S w ∧ rdS P o a u w) := by
  refine ⟨fun w ob hw => ⟨h.push w ob hw.1, ?_⟩, ?_⟩
  · obtain ⟨S0, h3, h4, h5⟩ := hw.2
    exact ⟨S0, h4 w ob h3, h4, h5⟩
  · intro W ρ' T' σ' w' hl hR hT hs
    unfold stays at hs
    split at hs
    · rename_i v' he
      split at hs
      · rename_i hsame
        have e1 : ∀ i ∈ opdI o, g16 i T' = g16 i T := fun i hi => (hT i (by simp [hi])).trans (h2 i hi)
        have hO' : OpsR ξ ρ' loc T' a o := fun y hy A hA => by rw [cA_place hy hA e1]; exact (hO y hy A hA).mono hl
        obtain ⟨S0, u', h3, h4, h5, h6⟩ := HL W loc o T' σ' v' ρ' a w' hk he hR hO'
        have ed : (g16 d T').v = v := by rw [hT d (by simp)]; exact hd
        rw [ed] at hsame
        have := sameV_ok _ _ _ _ _ hsame h6 (hv.mono hl)
        subst this
        exact ⟨h.again W ρ' T' σ' w' hl hR (fun i hi => (hT i (by simp [hi])).trans (h1 i hi)) hs, S0, h3, h4, h5⟩
      · cases hs
    · cases hs
section
variable {C : Cx} {loc n : Nat} {ops : Array Oper} {T : TT} {σ : St} {κ : K} {a : Act} {o : Oper}
theorem opsN_t {r : Cx → TT → St → K → Ans} (hok : guardOK loc ops o = true) (hT : TR ξ ρ loc T a.tmps) (h : opsN (cXI (loc, []) P ops o) r C T σ κ = true) :
    (Region.wanted o (yielded ops a.tmps) = true ∧ doX (xOf (loc, []) P o) (ixD o.dst) C T σ (fun T σ => r C T σ κ) noK = true) ∨ (Region.wanted o (yielded ops a.tmps) = false ∧ putV (ixD o.dst) undefV T σ (fun T σ => r C T σ κ) = true) := by
  unfold opsN cXI at h
  simp only at h
  cases hg : o.guard with
  | none =>
    rw [hg] at h
    exact .inl ⟨by unfold Region.wanted; rw [hg], h⟩
  | some jw =>
    obtain ⟨j, w⟩ := jw
    rw [hg] at h
    exact guard_t hg hok hT h
theorem opsN_l {r1 r2 : Cx → TT → St → K → Ans} (hok : guardOK loc ops o = true) (hT : TR ξ ρ loc T a.tmps)
    (h : (match wanted T (cXI (loc, []) P ops o).g with
      | true => opsN (cXI (loc, []) P ops o) r1 C T σ κ
      | false => opsN (cXI (loc, []) P ops o) r2 C T σ κ) = true) :
    (Region.wanted o (yielded ops a.tmps) = true ∧ doX (xOf (loc, []) P o) (ixD o.dst) C T σ (fun T σ => r1 C T σ κ) noK = true) ∨ (Region.wanted o (yielded ops a.tmps) = false ∧ putV (ixD o.dst) undefV T σ (fun T σ => r2 C T σ κ) = true) := by
  cases hg : o.guard with
  | none =>
    have : (cXI (loc, []) P ops o).g = none := by unfold cXI; rw [hg]
    rw [this] at h
    rcases opsN_t hok hT h with h | ⟨h, _⟩
    · exact .inl h
    · unfold Region.wanted at h; rw [hg] at h; cases h
  | some jw =>
    obtain ⟨j, w⟩ := jw
    have hgg : (cXI (loc, []) P ops o).g = some (ixOf (((ops[j]?).bind (·.dst)).getD 252), w) := by unfold cXI; rw [hg]
    rw [hgg] at h
    have key : ∀ t f, wants (g16 (ixOf (((ops[j]?).bind (·.dst)).getD 252)) T).v w t f = true → (Region.wanted o (yielded ops a.tmps) = true ∧ t = true) ∨ (Region.wanted o (yielded ops a.tmps) = false ∧ f = true) := fun t f h => guard_t hg hok hT h
    split at h
    · rename_i e
      rcases opsN_t hok hT h with h | ⟨hw, _⟩
      · exact .inl h
      · rcases key true false (by
          unfold wanted at e
          simp only at e
          split at e
          · rename_i x ex
            rw [ex]
            cases x <;> cases w <;> first | rfl | cases e
          · cases e) with ⟨h, _⟩ | ⟨_, h⟩
        · rw [hw] at h; cases h
        · cases h
    · rename_i e
      rcases opsN_t hok hT h with ⟨hw, h⟩ | h
      · have hw' : wants (g16 (ixOf (((ops[j]?).bind (·.dst)).getD 252)) T).v w (doX (xOf (loc, []) P o) (ixD o.dst) C T σ (fun T σ => r2 C T σ κ) noK) (putV (ixD o.dst) undefV T σ (fun T σ => r2 C T σ κ)) = true := by
          unfold opsN at *
          rename_i h0
          rw [hgg] at h0
          exact h0
        unfold wanted at e
        simp only at e
        split at e
        · rename_i x ex
          rw [ex] at hw'
          rcases key false true (by
            rw [ex]
            cases x <;> cases w <;> first | rfl | cases e) with ⟨_, h⟩ | ⟨h, _⟩
          · cases h
          · rw [hw] at h; cases h
        · rename_i hne
          generalize hv : (g16 (ixOf (((ops[j]?).bind (·.dst)).getD 252)) T).v = v at *
          cases v with
          | b x => exact absurd rfl (hne x)
          | w z =>
            rcases key false true (by
              have h2 : wantsW z (putV (ixD o.dst) undefV T σ (fun T σ => r2 C T σ κ)) = true := hw'
              show wantsW z true = true
              cases z <;> first | rfl | (cases (show no = true from h2); done) | skip
              rename_i u
              cases u <;> first | rfl | (cases (show no = true from h2); done)) with ⟨_, h⟩ | ⟨h, _⟩
            · cases h
            · rw [hw] at h; cases h
          | _ => cases hw'
      · exact .inr h
end
end
end Go.Ex
namespace Go.Ex
open Go.Mo
set_option linter.unusedVariables false
set_option linter.constructorNameAsVariable false
set_option linter.unusedSimpArgs false
section
variable {rd : Option Nat} {P : Program} {W : Kp} {ξ : Nat → Int} {ρ : Rho} {ops : Array Oper} {Q : Exit → Act → World → Prop}
def PostN (Q : Exit → Act → World → Prop) : Exit → Act → World → Prop := fun e a w => e = .normal ∧ Q .normal a w
theorem apart_symm {x y : Oper} (h : x.apart ops y = true) : y.apart ops x = true := by
  obtain ⟨h1, h2, h3⟩ := Oper.apart_spec h
  unfold Oper.apart
  simp only [Bool.and_eq_true]
  constructor
  · cases hd : y.dst with
    | none => rfl
    | some d =>
      simp only [Bool.and_eq_true, Bool.not_eq_true', bne_iff_ne, ne_eq]
      refine ⟨by simpa using h3 d hd, fun e => h2 d e hd⟩
  · cases hd : x.dst with
    | none => rfl
    | some d => simpa using h1 d hd
theorem wpOp_put {j : Nat} {oi oj : Oper} {v : Value} (hj : ops[j]? = some oj) (hap : oi.apart ops oj = true) (hsj : ∀ cs b, oj.op ≠ .select cs b) (hdj : ∀ c, oj.op ≠ .defer c)
    (hQ : ∀ c a w, Q (.panic c) a w → Q (.panic c) (a.put oi.dst v) w) {K : Act → World → Prop} {a : Act} {w : World}
    (h : wpOpIn (FW rd) 0 P ops Q j (fun a' w' => K (a'.put oi.dst v) w') a w) : wpOpIn (FW rd) 0 P ops Q j K (a.put oi.dst v) w := by
  obtain ⟨h1, h2, h3⟩ := Oper.apart_spec hap
  unfold wpOpIn at h ⊢
  simp only [hj] at h ⊢
  rw [wanted_put oj a oi.dst v h1]
  by_cases hw : Region.wanted oj (yielded ops a.tmps) = true
  · rw [if_pos hw] at h ⊢
    refine wpIn_run hdj ?_
    have hu := h.2
    rw [Oper.semAt_eq _ _ _ hdj] at hu
    rw [execOp_put oj hsj a oi.dst v h1]
    generalize (execOp a.eval oj).run P w = r at hu ⊢
    cases r with
    | ok x w' =>
      cases x <;> simp only [Oper.uponIn] at hu ⊢
      case value u => rw [Act.put_comm a v u h2]; exact hu
      case skip => rw [Act.put_comm a v undef h2]; exact hu
      case defer dd =>
        rw [Act.put_defers, Act.put_comm _ v undef h2]
        exact hu
      case enter f args => exact ⟨hu.1, CallsIn.mono hu.2 fun e w'' he => by
        cases e with
        | returned u => simp only [] at he ⊢; rw [Act.put_comm a v u h2]; exact he
        | panicked c => exact hQ _ _ _ he
        | outgrown => exact he⟩
      case row row args => exact ⟨hu.1, RowsIn.mono hu.2 fun u w'' he => by rw [Act.put_comm a v u h2]; exact he⟩
      case round l f tmps asg body => exact ⟨hu.1, RoundIn.mono hu.2 fun e w'' he => by
        cases e with
        | returned u => simp only [] at he ⊢; rw [Act.put_comm a v u h2]; exact he
        | panicked c => exact hQ _ _ _ he
        | outgrown => exact he⟩
    | halt x w' =>
      cases x <;> simp only [Oper.uponIn] at hu ⊢
      case panic u => exact hQ _ _ _ hu
  · rw [if_neg hw] at h ⊢
    exact ⟨fun _ _ => trivial, by rw [Act.put_comm a v undef h2]; exact h.2⟩
section
variable {C : Cx} {loc n i : Nat} {T : TT} {σ : St} {κ : K} {a : Act} {o : Oper} {w : World}
theorem act_item (H : StepOK P W ξ C) (hdf : ∀ c, o.op ≠ .defer c) (hi : ops[i]? = some o) (hok : opOK loc n ops o = true) (hn : n ≤ 250) {r : Cx → TT → St → K → Ans} (h : opsN (cXI (loc, []) P ops o) r C T σ κ = true) (hR : Rel P W ξ ρ σ w) (hF : FR ξ ρ loc n T a) {Kn : Act → World → Prop}
    (hK : ∀ T' σ' ρ' a' w', r C T' σ' κ = true → ρ.le ρ' → Rel P W ξ ρ' σ' w' → FR ξ ρ' loc n T' a' → (∀ t, o.dst ≠ some t → a'.tmps.getD t undef = a.tmps.getD t undef) → (∀ i, ixD o.dst ≠ i → i ≠ ixDs → i ≠ ixPn → g16 i T' = g16 i T) → Kn a' w') :
    wpOpIn (FW rd) 0 P ops (PostN Q) i Kn a w := by
  simp only [opOK, Bool.and_eq_true] at hok
  obtain ⟨⟨hsk, hdst⟩, hlt, hgd⟩ := hok
  have hsk : skips o.op = true → o.dst = none := fun e => by rw [e] at hsk; simpa using hsk
  have hd : ∀ d, o.dst = some d → d < n := fun d e => by rw [e] at hdst; simpa using hdst
  unfold wpOpIn
  simp only [hi]
  rcases opsN_t hgd hF.tr h with ⟨hw, h⟩ | ⟨hw, h⟩
  · rw [if_pos hw]
    exact H (loc, []) o n T σ _ _ h hlt hsk hd hn rd ρ a w Kn (PostN Q) (fun c e => absurd e (hdf c)) hR hF SR.nil hK fun e T' σ' ρ' e' a' w' hk => by cases hk
  · rw [if_neg (by rw [hw]; simp)]
    refine ⟨fun _ _ => trivial, ?_⟩
    obtain ⟨T', hk, hF', h1, h2, _, _⟩ := FR.put hF (v := undefV) (u := undef) (VR.t .nil) hd hn h
    exact hK T' σ ρ _ w hk ρ.le_refl hR hF' h1 h2
end
def NewOK (P : Program) (ξ : Nat → Int) (C : Cx) : Prop := ∀ (loc : Nat) (o : Oper) (T : TT) (ρ : Rho) (a : Act), isNew (xOf (loc, []) P o) = true → earlyOK T (xOf (loc, []) P o) = true → OpsR ξ ρ loc T a o →
  ∃ (ob : Obj) (vf : Nat → Value) (O : O) (v : Id → V) (c : Nat), (∀ w, (execOp a.eval o).run P w = .ok (.value (vf w.heap.size)) (pushB w ob)) ∧ (∀ ρ', OR P ξ ρ' c O (some ob)) ∧ (∀ ρ' i blk, ρ' i = some (blk, c) → VR ξ ρ' (v i) (vf blk)) ∧
    ∀ d σ κ κp, doX (xOf (loc, []) P o) d C T σ κ κp = true → new O σ (fun i σ => putV d (v i) T σ κ) = true
variable {σ : St} {w : World}
theorem Rel.keep (h : Rel P W ξ ρ σ w) (ob : Obj) : Rel P (W.and w.heap.size ob) ξ ρ σ (pushB w ob) := by
  have hp : ∀ b, b < w.heap.size → (pushB w ob).heap[b]? = w.heap[b]? := fun b hb => by
    simp only [pushB]
    rw [Array.getElem?_push_lt hb, Array.getElem?_eq_getElem hb]
  refine ⟨fun i p hi => ?_, h.inj, fun i p hi => ?_, fun b ob' hb => ?_, h.os, h.out⟩
  · have := h.dom i p hi
    refine ⟨this.1, ?_, by simp [pushB]; omega⟩
    show (if p.1 = w.heap.size then some ob else W.kept p.1) = none
    rw [if_neg (by omega)]
    exact this.2.1
  · rw [hp _ (h.dom i p hi).2.2]
    exact h.ob i p hi
  · have hb : (if b = w.heap.size then some ob else W.kept b) = some ob' := hb
    by_cases e : b = w.heap.size
    · subst e
      rw [if_pos rfl] at hb
      cases hb
      exact Array.getElem?_push_size
    · rw [if_neg e] at hb
      have h' := h.frame b ob' hb
      rw [hp _ (Array.getElem?_eq_some_iff.1 h').1]
      exact h'
theorem Rel.adopt {O : O} {c blk : Nat} {ob : Obj} {κ : Id → St → Ans} (h : Rel P (W.and blk ob) ξ ρ σ w) (hb : W.kept blk = none) (ho : ∀ ρ', OR P ξ ρ' c O (some ob)) (hk : Ex.new O σ κ = true) :
    ∃ σ', κ σ.nx σ' = true ∧ Rel P W ξ (ρ.put σ.nx (blk, c)) σ' w ∧ ρ.le (ρ.put σ.nx (blk, c)) := by
  obtain ⟨σ', h1, h2, h3, h4⟩ := new_spec O σ κ hk
  have hle := Rho.le_put h (blk, c)
  have hkb : (W.and blk ob).kept blk = some ob := by simp [Kp.and]
  have hfr : w.heap[blk]? = some ob := h.frame blk ob hkb
  have hq : ∀ j q, j ≠ σ.nx → (ρ.put σ.nx (blk, c)) j = some q → ρ j = some q := fun j q e hj => by simpa [Rho.put, e] using hj
  have hne : ∀ j q, ρ j = some q → q.1 ≠ blk := fun j q hj e => by
    have := (h.dom j q hj).2.1
    rw [e, hkb] at this
    cases this
  refine ⟨σ', h1, ⟨?_, ?_, ?_, ?_, h.os, h.out⟩, hle⟩
  · intro j q hj
    by_cases e : j = σ.nx
    · subst e
      rw [Rho.put_self] at hj
      simp only [Option.some.injEq] at hj
      subst hj
      exact ⟨h2, hb, (Array.getElem?_eq_some_iff.1 hfr).1⟩
    · have hj := hq j q e hj
      have := h.dom j q hj
      have hk : (if q.1 = blk then some ob else W.kept q.1) = none := this.2.1
      rw [if_neg (hne j q hj)] at hk
      exact ⟨by omega, hk, this.2.2⟩
  · intro j k q r hj hk he hj' hk'
    by_cases e : j = σ.nx
    · by_cases e' : k = σ.nx
      · rw [e, e']
      · subst e
        rw [Rho.put_self] at hj
        simp only [Option.some.injEq] at hj
        subst hj
        exact absurd he.symm (hne k r (hq k r e' hk))
    · by_cases e' : k = σ.nx
      · subst e'
        rw [Rho.put_self] at hk
        simp only [Option.some.injEq] at hk
        subst hk
        exact absurd he (hne j q (hq j q e hj))
      · refine h.inj j k q r (hq j q e hj) (hq k r e' hk) he ?_ ?_
        · rw [← h4 j e]; exact hj'
        · rw [← h4 k e']; exact hk'
  · intro j q hj
    by_cases e : j = σ.nx
    · subst e
      rw [Rho.put_self] at hj
      simp only [Option.some.injEq] at hj
      subst hj
      rw [h3, hfr]
      exact ho _
    · rw [h4 j e]
      exact (h.ob j q (hq j q e hj)).mono hle
  · intro b ob' hb'
    refine h.frame b ob' ?_
    show (if b = blk then some ob else W.kept b) = some ob'
    rw [if_neg fun e => by rw [e, hb] at hb'; cases hb']
    exact hb'
end
end Go.Ex
namespace Go.Ex
open Go.Mo
set_option linter.unusedVariables false
set_option linter.constructorNameAsVariable false
set_option linter.unusedSimpArgs false
structure EarlyD where
  j : Nat
  oj : Oper
  vf : Value
  blk : Nat
  ob : Obj
def lx (x : Option EarlyD) (l : Array Bool) : Array Bool := match x with
  | none => l
  | some e => l.setIfInBounds e.j true
def ax (x : Option EarlyD) (a : Act) : Act := match x with
  | none => a
  | some e => a.put e.oj.dst e.vf
def Wx (W : Kp) (x : Option EarlyD) : Kp := match x with
  | none => W
  | some e => W.and e.blk e.ob
def itD (P : Program) (loc : Nat) (ops : Array Oper) (p : Dk × Nat) : Dk × XI := (p.1, cXI (loc, []) P ops (ops.getD p.2 default))
structure DrawCtx (P : Program) (W : Kp) (ξ : Nat → Int) (C : Cx) (loc n : Nat) (ops : Array Oper) (ρ0 : Rho) (κ : K) (Q : Exit → Act → World → Prop) : Prop where
  step : ∀ W, StepOK P W ξ C
  pure : PureOK P ξ C
  load : LoadOK P ξ
  new : NewOK P ξ C
  same : ∀ (loc : Nat) (o : Oper) (T T' : TT), isNew (xOf (loc, []) P o) = true → (∀ i ∈ opdI o, g16 i T' = g16 i T) → earlyOK T' (xOf (loc, []) P o) = earlyOK T (xOf (loc, []) P o)
  ok : ∀ o ∈ ops.toList, opOK loc n ops o = true
  small : n ≤ 250
  nodef : noDefer ops = true
  nosel : Region.noSelect ops = true
  out : ∀ T' σ' ρ' a' w', κ .n T' σ' = true → ρ0.le ρ' → Rel P W ξ ρ' σ' w' → FR ξ ρ' loc n T' a' → Q .normal a' w'
structure Eb (P : Program) (loc : Nat) (ops : Array Oper) (T : TT) (listed : Array Bool) (r : List (Dk × Nat)) (j : Nat) (oj : Oper) : Prop where
  hj : ops[j]? = some oj
  new : isNew (xOf (loc, []) P oj) = true
  guard : oj.guard = none
  kd : dkI P loc ops.toList j = .m
  ready : j ∈ Region.ready .any ops listed
  early : earlyOK T (xOf (loc, []) P oj) = true
  sep : sepE ops.toList j r = true
structure At (P : Program) (W : Kp) (ξ : Nat → Int) (C : Cx) (loc n : Nat) (ops : Array Oper) (ρ0 : Rho) (κ : K) (b : Option Nat) (x : Option EarlyD) (r : List (Dk × Nat)) (acc : List (Ix × X)) (L : List Ix) (S : World → Prop)
    (T : TT) (σ : St) (ρ : Rho) (a : Act) (w : World) (listed : Array Bool) : Prop where
  st : drawS P loc ops b r listed = true
  cl : clos ops listed
  le : ρ0.le ρ
  rel : Rel P (Wx W x) ξ ρ σ w
  fr : FR ξ ρ loc n T a
  accOK : AccOK P ξ ρ T acc L S
  sep : ∀ i ∈ L, ∃ t, t < 250 ∧ i = ixOf t ∧ notW ops.toList t (r.map (·.2)) = true
  run : rDraw (r.map (itD P loc ops)) acc C T σ κ = true
  eb : ∀ j, b = some j → ∃ oj, Eb P loc ops T listed r j oj
  ex : ∀ e, x = some e → b = some e.j ∧ ops[e.j]? = some e.oj ∧ W.kept e.blk = none ∧ ∃ wt : World, wt.heap.size = e.blk ∧ (execOp a.eval e.oj).run P wt = .ok (.value e.vf) (pushB wt e.ob)
section
variable {P : Program} {W : Kp} {ξ : Nat → Int} {C : Cx} {loc n : Nat} {ops : Array Oper} {ρ0 : Rho} {κ : K} {Q : Exit → Act → World → Prop} {rd : Option Nat}
theorem notW_cons {l : List Oper} {t j : Nat} {r : List Nat} (h : notW l t (j :: r) = true) : notW l t r = true := by
  unfold notW at h ⊢
  simp only [List.all_cons, Bool.and_eq_true] at h
  exact h.2
theorem notW_head {t j : Nat} {r : List Nat} {oj : Oper} (h : notW ops.toList t (j :: r) = true) (hj : ops[j]? = some oj) : oj.dst ≠ some t := by
  unfold notW at h
  simp only [List.all_cons, Bool.and_eq_true] at h
  have h := h.1
  have e : ops.toList[j]? = some oj := by simpa using hj
  rw [e] at h
  simpa using h
theorem ixD_ne {d : Option Nat} {t n : Nat} (hd : ∀ e, d = some e → e < n) (hn : n ≤ 250) (ht : t < 250) (h : d ≠ some t) : ixD d ≠ ixOf t := by
  intro e
  cases d with
  | none => have := ixOf_inj (m := 253) (n := t) (by decide) (by omega) e; omega
  | some d =>
    have := ixOf_inj (m := d) (n := t) (by have := hd d rfl; omega) (by omega) e
    exact h (by rw [this])
theorem ixOf_side {t : Nat} (ht : t < 250) : ixOf t ≠ ixDs ∧ ixOf t ≠ ixPn :=
  ⟨fun e => by have := ixOf_inj (m := t) (n := 254) (by omega) (by decide) (e.trans ixDs_eq); omega, fun e => by have := ixOf_inj (m := t) (n := 255) (by omega) (by decide) (e.trans ixPn_eq); omega⟩
theorem dst_lt {o : Oper} (hok : opOK loc n ops o = true) : ∀ d, o.dst = some d → d < n := by
  simp only [opOK, Bool.and_eq_true] at hok
  have hdst := hok.1.2
  intro d e
  rw [e] at hdst
  simpa using hdst
theorem keep_T {o : Oper} {T T' : TT} {t : Nat} (hok : opOK loc n ops o = true) (hn : n ≤ 250) (ht : t < 250) (h : o.dst ≠ some t) (hT : ∀ i, ixD o.dst ≠ i → i ≠ ixDs → i ≠ ixPn → g16 i T' = g16 i T) : g16 (ixOf t) T' = g16 (ixOf t) T :=
  hT _ (ixD_ne (dst_lt hok) hn ht h) (ixOf_side ht).1 (ixOf_side ht).2
theorem keep_L {L : List Ix} {i : Nat} {r : List (Dk × Nat)} {k : Dk} {o : Oper} {T T' : TT} (hi : ops[i]? = some o) (hok : opOK loc n ops o = true) (hn : n ≤ 250) (hs : ∀ ix ∈ L, ∃ t, t < 250 ∧ ix = ixOf t ∧ notW ops.toList t (((k, i) :: r).map (·.2)) = true)
    (hT : ∀ i, ixD o.dst ≠ i → i ≠ ixDs → i ≠ ixPn → g16 i T' = g16 i T) : ∀ ix ∈ L, g16 ix T' = g16 ix T := fun ix hx => by
  obtain ⟨t, ht, rfl, hw⟩ := hs ix hx
  exact keep_T hok hn ht (notW_head hw hi) hT
theorem sep_tail {L : List Ix} {i : Nat} {r : List (Dk × Nat)} {k : Dk} (hs : ∀ ix ∈ L, ∃ t, t < 250 ∧ ix = ixOf t ∧ notW ops.toList t (((k, i) :: r).map (·.2)) = true) : ∀ ix ∈ L, ∃ t, t < 250 ∧ ix = ixOf t ∧ notW ops.toList t (r.map (·.2)) = true := fun ix hx => by
  obtain ⟨t, ht, e, hw⟩ := hs ix hx
  exact ⟨t, ht, e, notW_cons hw⟩
theorem counts_pos {j : Nat} : ∀ (r : List (Dk × Nat)) (listed : Array Bool), drawS P loc ops (some j) r listed = true → 0 < counts r
  | [], listed, h => by simp [drawS] at h
  | (k, i) :: r, listed, h => by
    cases k with
    | e => simp [drawS] at h
    | _ => simp [counts]
theorem getD_of {i : Nat} {o : Oper} (hi : ops[i]? = some o) : ops.getD i default = o := by simp [Array.getD_eq_getD_getElem?, hi]
theorem mem_of {i : Nat} {o : Oper} (hi : ops[i]? = some o) : o ∈ ops.toList := Array.mem_toList_iff.2 (Array.mem_of_getElem? hi)
theorem not_after {listed : Array Bool} {i j : Nat} {oj : Oper} (hoj : ops[j]? = some oj) (hr : i ∈ Region.ready .any ops listed) (hj : j ∈ Region.ready .any ops listed) : ∀ e ∈ oj.after, Region.binds .any e = true → e.on ≠ i := by
  intro e he hb heq
  obtain ⟨_, oj', hoj', hall⟩ := mem_ready.1 hj
  rw [hoj] at hoj'
  cases hoj'
  have h1 := hall e he hb
  have h0 := (mem_ready.1 hr).1
  rw [heq] at h1
  rcases Nat.lt_or_ge i listed.size with h' | h'
  · simp [h'] at h0 h1; rw [h0] at h1; cases h1
  · simp [Array.getElem?_eq_none h'] at h1
theorem At.next (D : DrawCtx P W ξ C loc n ops ρ0 κ Q) {b : Option Nat} {x : Option EarlyD} {k : Dk} {i : Nat} {r : List (Dk × Nat)} {acc acc' : List (Ix × X)} {L L' : List Ix} {S S' : World → Prop} {T T' : TT} {σ σ' : St} {ρ ρ' : Rho} {a a' : Act} {w w' : World} {listed : Array Bool} {oi : Oper}
    (hA : At P W ξ C loc n ops ρ0 κ b x ((k, i) :: r) acc L S T σ ρ a w listed) (hi : ops[i]? = some oi) (hib : b ≠ some i) (hready : i ∈ Region.ready .any ops listed) (st : drawS P loc ops b r (listed.setIfInBounds i true) = true) (hl : ρ.le ρ') (rel : Rel P (Wx W x) ξ ρ' σ' w') (fr : FR ξ ρ' loc n T' a')
    (h1 : ∀ t, oi.dst ≠ some t → a'.tmps.getD t undef = a.tmps.getD t undef) (h2 : ∀ i, ixD oi.dst ≠ i → i ≠ ixDs → i ≠ ixPn → g16 i T' = g16 i T) (hacc : AccOK P ξ ρ' T' acc' L' S') (sep : ∀ i ∈ L', ∃ t, t < 250 ∧ i = ixOf t ∧ notW ops.toList t (r.map (·.2)) = true)
    (run : rDraw (r.map (itD P loc ops)) acc' C T' σ' κ = true) : At P W ξ C loc n ops ρ0 κ b x r acc' L' S' T' σ' ρ' a' w' (listed.setIfInBounds i true) := by
  have hoki := D.ok oi (mem_of hi)
  -- what j asks for is as it was
  have key : ∀ j oj, Eb P loc ops T listed ((k, i) :: r) j oj → j ≠ i → sepE ops.toList j r = true ∧ ∀ t, Operand.tmp t ∈ oj.op.operands.toList → t < 250 ∧ oi.dst ≠ some t := by
    intro j oj e hne
    have hs := e.sep
    unfold sepE at hs
    have hb : Nat.beq i j = false := by
      cases h : Nat.beq i j with
      | false => rfl
      | true => exact absurd (Nat.eq_of_beq_eq_true h).symm hne
    have ej : ops.toList[j]? = some oj := by simpa using e.hj
    simp only [hb, ej, Bool.and_eq_true] at hs
    refine ⟨hs.2, fun t ht => ?_⟩
    have h3 := List.all_eq_true.1 hs.1 _ ht
    have hlt := D.ok oj (mem_of e.hj)
    simp only [opOK, Bool.and_eq_true] at hlt
    have hlt := List.all_eq_true.1 hlt.2.1 _ ht
    exact ⟨by simpa [opdLt] using hlt, notW_head (r := []) h3 hi⟩
  refine ⟨st, clos_step hA.cl hready, hA.le.trans hl, rel, fr, hacc, sep, run, fun j hj => ?_, fun e he => ?_⟩
  · obtain ⟨oj, e⟩ := hA.eb j hj
    have hne : j ≠ i := fun h => hib (by rw [hj, h])
    obtain ⟨h3, h4⟩ := key j oj e hne
    refine ⟨oj, e.hj, e.new, e.guard, e.kd, ready_mono e.ready hne, ?_, h3⟩
    rw [D.same loc oj T T' e.new fun ix hx => ?_]
    · exact e.early
    · unfold opdI at hx
      obtain ⟨y, hy, hyx⟩ := List.mem_filterMap.1 hx
      cases y with
      | tmp t =>
        simp only [Option.some.injEq] at hyx
        subst hyx
        obtain ⟨h5, h6⟩ := h4 t hy
        exact keep_T hoki D.small h5 h6 h2
      | _ => cases hyx
  · obtain ⟨hb, hj, hk, wt, hw1, hw2⟩ := hA.ex e he
    refine ⟨hb, hj, hk, wt, hw1, ?_⟩
    obtain ⟨oj, eb⟩ := hA.eb e.j hb
    have hne : e.j ≠ i := fun h => hib (by rw [hb, h])
    have := eb.hj
    rw [hj] at this
    cases this
    obtain ⟨h3, h4⟩ := key e.j e.oj eb hne
    rw [← hw2]
    congr 1
    refine execOp_congr e.oj (Region.noSelect_spec D.nosel e.j e.oj · · hj) fun y hy => ?_
    cases y with
    | tmp t => exact h1 t (h4 t (by simpa using hy)).2
    | _ => rfl
def GStm (rd : Option Nat) (P : Program) (W : Kp) (ξ : Nat → Int) (C : Cx) (loc n : Nat) (ops : Array Oper) (ρ0 : Rho) (κ : K) (Q : Exit → Act → World → Prop) (r : List (Dk × Nat)) : Prop :=
  ∀ (b : Option Nat) (x : Option EarlyD) (acc : List (Ix × X)) (L : List Ix) (S : World → Prop) (T : TT) (σ : St) (ρ : Rho) (a : Act) (w : World) (listed : Array Bool) (fuel : Nat),
    At P W ξ C loc n ops ρ0 κ b x r acc L S T σ ρ a w listed → counts r ≤ fuel + (if x.isSome then 1 else 0) → (live (fin P loc ops) (lx x listed) → S w) → wpG rd P ops (PostN Q) (fin P loc ops) S fuel (lx x listed) (ax x a) w
end
end Go.Ex
namespace Go.Ex
open Go.Mo
set_option linter.unusedVariables false
set_option linter.constructorNameAsVariable false
set_option linter.unusedSimpArgs false
section
variable {P : Program} {W : Kp} {ξ : Nat → Int} {C : Cx} {loc n : Nat} {ops : Array Oper} {ρ0 : Rho} {κ : K} {Q : Exit → Act → World → Prop} {rd : Option Nat}
variable {b : Option Nat} {x : Option EarlyD} {k : Dk} {i : Nat} {r : List (Dk × Nat)} {acc acc' : List (Ix × X)} {L L' : List Ix} {S S' S1 : World → Prop} {T T' : TT} {σ σ' : St} {ρ ρ' : Rho} {a a' : Act} {w w' : World} {listed : Array Bool} {oi : Oper}
theorem ready_lx (hA : At P W ξ C loc n ops ρ0 κ b x ((k, i) :: r) acc L S T σ ρ a w listed) (hib : b ≠ some i) (h : i ∈ Region.ready .any ops listed) : i ∈ Region.ready .any ops (lx x listed) := by
  cases x with
  | none => exact h
  | some e => exact ready_mono h fun e' => hib (by rw [(hA.ex e rfl).1, ← e'])
theorem clos_lx (hA : At P W ξ C loc n ops ρ0 κ b x ((k, i) :: r) acc L S T σ ρ a w listed) : clos ops (lx x listed) := by
  cases x with
  | none => exact hA.cl
  | some e =>
    obtain ⟨oj, eb⟩ := hA.eb e.j (hA.ex e rfl).1
    exact clos_step hA.cl eb.ready
theorem lx_comm (hA : At P W ξ C loc n ops ρ0 κ b x ((k, i) :: r) acc L S T σ ρ a w listed) (hib : b ≠ some i) : (lx x listed).setIfInBounds i true = lx x (listed.setIfInBounds i true) := by
  cases x with
  | none => rfl
  | some e => exact Array.setIfInBounds_comm _ _ fun e' => hib (by rw [(hA.ex e rfl).1, e'])
theorem unl_lx {j : Nat} (h : (lx x listed).getD j true = false) : listed.getD j true = false := by
  cases x with
  | none => exact h
  | some e =>
    by_cases he : e.j = j
    · subst he
      have h : (listed.setIfInBounds e.j true).getD e.j true = false := h
      simp only [Array.getD_eq_getD_getElem?] at h
      by_cases hs : e.j < listed.size
      · simp [hs] at h
      · simp [hs] at h
    · have h : (listed.setIfInBounds e.j true).getD j true = false := h
      rw [getD_set_ne true he] at h
      exact h
theorem fuel_lx (hst : drawS P loc ops b r listed = true) (hx : ∀ e, x = some e → b = some e.j) {fuel : Nat} (h : counts r + 1 ≤ fuel + (if x.isSome then 1 else 0)) : ∃ f, fuel = f + 1 ∧ counts r ≤ f + (if x.isSome then 1 else 0) := by
  cases x with
  | none =>
    simp only [Option.isSome_none, Bool.false_eq_true, if_false, Nat.add_zero] at h ⊢
    exact ⟨fuel - 1, by omega, by omega⟩
  | some e =>
    have := hx e rfl
    subst this
    have := counts_pos r listed hst
    simp only [Option.isSome_some, if_true] at h ⊢
    exact ⟨fuel - 1, by omega, by omega⟩
theorem At.take (D : DrawCtx P W ξ C loc n ops ρ0 κ Q) (G : GStm rd P W ξ C loc n ops ρ0 κ Q r) (hA : At P W ξ C loc n ops ρ0 κ b x ((k, i) :: r) acc L S T σ ρ a w listed) (hi : ops[i]? = some oi) (hib : b ≠ some i) (hready : i ∈ Region.ready .any ops listed)
    (hfree : Region.free .any ops listed i = true) (hF : fin P loc ops i = false) {v : Value} (hy : YieldsIf P ops S' oi v a) (h1S : ∀ w, S1 w → S w) (h1S' : ∀ w, S1 w → S' w) (hlive : (∀ w, S' w) ∨ ∀ l, clos ops l → l.getD i true = false → live (fin P loc ops) l)
    (hN : At P W ξ C loc n ops ρ0 κ b x r acc' L' S1 T' σ ρ (a.put oi.dst v) w (listed.setIfInBounds i true)) (hnow : live (fin P loc ops) (lx x listed) → S1 w) {fuel : Nat} (hf : counts r + 1 ≤ fuel + (if x.isSome then 1 else 0)) :
    wpG rd P ops (PostN Q) (fin P loc ops) S fuel (lx x listed) (ax x a) w := by
  obtain ⟨f, rfl, hf'⟩ := fuel_lx hN.st (fun e he => (hA.ex e he).1) hf
  have H := G b x acc' L' S1 T' σ ρ _ w _ f hN hf' fun hl => hnow (by rw [← lx_comm hA hib] at hl; exact live_set hl)
  rw [← lx_comm hA hib] at H
  have hap : ∀ e, x = some e → oi.apart ops e.oj = true := fun e he => by
    obtain ⟨hb, hj, _⟩ := hA.ex e he
    obtain ⟨oj, eb⟩ := hA.eb e.j hb
    exact Region.free_spec hi hfree e.j e.oj hj (fun h => hib (by rw [hb, h])) (mem_ready.1 eb.ready).1 (not_after hj hready eb.ready)
  have hput : ax x (a.put oi.dst v) = (ax x a).put oi.dst v := by
    cases x with
    | none => rfl
    | some e => exact Act.put_comm a v e.vf (Oper.apart_spec (hap e rfl)).2.1
  rw [hput] at H
  have hy' : YieldsIf P ops S' oi v (ax x a) := by
    cases x with
    | none => exact hy
    | some e =>
      have h3 := (Oper.apart_spec (hap e rfl)).2.2
      exact hy.of_same (execOp_put oi (Region.noSelect_spec D.nosel i oi · · hi) a e.oj.dst e.vf h3) (wanted_put oi a e.oj.dst e.vf h3)
  exact wpG_first hi (Region.noSelect_spec D.nosel) (noDefer_spec D.nodef) (fun c a w h => by cases h.1) hF h1S h1S' hlive f (lx x listed) (ax x a) w (clos_lx hA)
    (fun j oj hj hne hun hno => Region.free_spec hi hfree j oj hj hne (unl_lx hun) hno) (ready_lx hA hib hready) hy' hnow H
theorem At.actOp (D : DrawCtx P W ξ C loc n ops ρ0 κ Q) (hA : At P W ξ C loc n ops ρ0 κ b x ((k, i) :: r) acc L S T σ ρ a w listed) (hi : ops[i]? = some oi) (hap : ∀ e, x = some e → oi.apart ops e.oj = true) {R : Cx → TT → St → K → Ans} (run : opsN (cXI (loc, []) P ops oi) R C T σ κ = true) {Kn : Act → World → Prop}
    (hK : ∀ T' σ' ρ' a' w', R C T' σ' κ = true → ρ.le ρ' → Rel P (Wx W x) ξ ρ' σ' w' → FR ξ ρ' loc n T' a' → (∀ t, oi.dst ≠ some t → a'.tmps.getD t undef = a.tmps.getD t undef) → (∀ i, ixD oi.dst ≠ i → i ≠ ixDs → i ≠ ixPn → g16 i T' = g16 i T) → Kn (ax x a') w') :
    wpOpIn (FW rd) 0 P ops (PostN Q) i Kn (ax x a) w := by
  cases x with
  | none => exact act_item (D.step _) (noDefer_spec D.nodef i oi · hi) hi (D.ok oi (mem_of hi)) D.small run hA.rel hA.fr hK
  | some e =>
    refine wpOp_put (oi := e.oj) hi (apart_symm (hap e rfl)) (Region.noSelect_spec D.nosel i oi · · hi) (noDefer_spec D.nodef i oi · hi) (fun c a w h => by cases h.1) ?_
    exact act_item (D.step _) (noDefer_spec D.nodef i oi · hi) hi (D.ok oi (mem_of hi)) D.small run hA.rel hA.fr hK
theorem ready_one {fuel : Nat} {F : Nat → Bool} {Q' : Exit → Act → World → Prop} {listed : Array Bool} (hr : Region.ready .any ops listed = [i]) (h : wpOpIn (FW rd) 0 P ops Q' i (fun a' w' => (live F (listed.setIfInBounds i true) → S w') ∧ wpG rd P ops Q' F S fuel (listed.setIfInBounds i true) a' w') a w) :
    wpG rd P ops Q' F S (fuel + 1) listed a w := by
  refine ⟨fun h0 => (by rw [hr] at h0; cases h0), fun j hj => ?_⟩
  rw [hr] at hj
  obtain rfl : j = i := by simpa using hj
  exact h
theorem not_live {F : Nat → Bool} {l : Array Bool} (hr : l.getD i true = false) (hF : F i = true) : ¬ live F (l.setIfInBounds i true) := fun h => by
  have h1 := h i hF
  simp only [Array.getD_eq_getD_getElem?] at h1 hr
  by_cases hs : i < l.size
  · simp [hs] at h1
  · simp [hs] at hr
noncomputable def actR (P : Program) (loc : Nat) (ops : Array Oper) (k : Dk) (r : List (Dk × Nat)) (acc : List (Ix × X)) : Cx → TT → St → K → Ans := match k with
  | .z => rDraw (r.map (itD P loc ops)) []
  | _ => fun C T σ κ => match stays T σ acc with
    | true => rDraw (r.map (itD P loc ops)) acc C T σ κ
    | false => no
theorem At.behind (D : DrawCtx P W ξ C loc n ops ρ0 κ Q) (G : GStm rd P W ξ C loc n ops ρ0 κ Q r) (hA : At P W ξ C loc n ops ρ0 κ b x ((k, i) :: r) acc L S T σ ρ a w listed) (hi : ops[i]? = some oi) (hk : k = .m ∨ k = .z ∧ fin P loc ops i = true) (hready : i ∈ Region.ready .any ops listed)
    (hib : b ≠ some i) (st : drawS P loc ops b r (listed.setIfInBounds i true) = true) {fuel : Nat} (hf : counts r ≤ fuel + (if x.isSome then 1 else 0))
    (run : actR P loc ops k r acc C T' σ' κ = true) (hl : ρ.le ρ') (rel : Rel P (Wx W x) ξ ρ' σ' w') (fr : FR ξ ρ' loc n T' a') (h1 : ∀ t, oi.dst ≠ some t → a'.tmps.getD t undef = a.tmps.getD t undef) (h2 : ∀ i, ixD oi.dst ≠ i → i ≠ ixDs → i ≠ ixPn → g16 i T' = g16 i T) :
    (live (fin P loc ops) (lx x (listed.setIfInBounds i true)) → S w') ∧ wpG rd P ops (PostN Q) (fin P loc ops) S fuel (lx x (listed.setIfInBounds i true)) (ax x a') w' := by
  have hTL := keep_L hi (D.ok oi (mem_of hi)) D.small hA.sep h2
  rcases hk with rfl | ⟨rfl, hF⟩
  · unfold actR at run
    simp only at run
    split at run
    · rename_i hs
      have hS : S w' := hA.accOK.again _ ρ' T' σ' w' hl rel hTL hs
      exact ⟨fun _ => hS, G b x acc L S T' σ' ρ' a' w' _ fuel (hA.next D hi hib hready st hl rel fr h1 h2 (hA.accOK.mono hl hTL) (sep_tail hA.sep) run) hf fun _ => hS⟩
    · cases run
  · have hnl : ¬ live (fin P loc ops) (lx x (listed.setIfInBounds i true)) := by
      rw [← lx_comm hA hib]
      exact not_live (mem_ready.1 (ready_lx hA hib hready)).1 hF
    refine ⟨fun h => absurd h hnl, wpG_mono fuel _ _ _ (fun h => absurd h hnl) (G b x [] [] (fun _ => True) T' σ' ρ' a' w' _ fuel (hA.next D hi hib hready st hl rel fr h1 h2 (AccOK.none) (fun _ h => by cases h) run) hf fun _ => trivial)⟩
theorem At.after (D : DrawCtx P W ξ C loc n ops ρ0 κ Q) (G : GStm rd P W ξ C loc n ops ρ0 κ Q r) {x' : Option EarlyD} (hA : At P W ξ C loc n ops ρ0 κ b x' ((k, i) :: r) acc L S T σ ρ a w listed) (hi : ops[i]? = some oi) (hk : k = .m ∨ k = .z ∧ fin P loc ops i = true) (hready : i ∈ Region.ready .any ops listed)
    (st : drawS P loc ops none r (listed.setIfInBounds i true) = true) {fuel : Nat} (hf : counts r ≤ fuel)
    (run : actR P loc ops k r acc C T' σ' κ = true) (hl : ρ.le ρ') (rel : Rel P W ξ ρ' σ' w') (fr : FR ξ ρ' loc n T' a') (h2 : ∀ i, ixD oi.dst ≠ i → i ≠ ixDs → i ≠ ixPn → g16 i T' = g16 i T) :
    (live (fin P loc ops) (listed.setIfInBounds i true) → S w') ∧ wpG rd P ops (PostN Q) (fin P loc ops) S fuel (listed.setIfInBounds i true) a' w' := by
  have hTL := keep_L hi (D.ok oi (mem_of hi)) D.small hA.sep h2
  have mk : ∀ acc' L' S', AccOK P ξ ρ' T' acc' L' S' → (∀ i ∈ L', ∃ t, t < 250 ∧ i = ixOf t ∧ notW ops.toList t (r.map (·.2)) = true) → rDraw (r.map (itD P loc ops)) acc' C T' σ' κ = true → At P W ξ C loc n ops ρ0 κ none none r acc' L' S' T' σ' ρ' a' w' (listed.setIfInBounds i true) := fun acc' L' S' h1 h2 h3 =>
    ⟨st, clos_step hA.cl hready, hA.le.trans hl, rel, fr, h1, h2, h3, fun _ h => (by cases h), fun _ h => by cases h⟩
  rcases hk with rfl | ⟨rfl, hF⟩
  · unfold actR at run
    simp only at run
    split at run
    · rename_i hs
      have hS : S w' := hA.accOK.again _ ρ' T' σ' w' hl rel hTL hs
      exact ⟨fun _ => hS, G none none acc L S T' σ' ρ' a' w' _ fuel (mk _ _ _ (hA.accOK.mono hl hTL) (sep_tail hA.sep) run) hf fun _ => hS⟩
    · cases run
  · have hnl := not_live (mem_ready.1 hready).1 hF
    exact ⟨fun h => absurd h hnl, wpG_mono fuel _ _ _ (fun h => absurd h hnl) (G none none [] [] (fun _ => True) T' σ' ρ' a' w' _ fuel (mk _ _ _ .none (fun _ h => by cases h) run) hf fun _ => trivial)⟩
end
end Go.Ex
namespace Go.Ex
open Go.Mo
set_option linter.unusedVariables false
set_option linter.constructorNameAsVariable false
set_option linter.unusedSimpArgs false
section
variable {P : Program} {W : Kp} {ξ : Nat → Int} {C : Cx} {loc n : Nat} {ops : Array Oper} {ρ0 : Rho} {κ : K} {Q : Exit → Act → World → Prop} {rd : Option Nat}
theorem isK_t {k : Dk} {i : Nat} (h : isK P loc ops k i = true) : dkI P loc ops.toList i = k := by
  unfold isK at h
  split at h <;> first | (rename_i e; exact e) | cases h
theorem dkI_kd {i : Nat} {o : Oper} (hi : ops[i]? = some o) : (dkI P loc ops.toList i = .p → kdX (xOf (loc, []) P o) = .p) ∧ (dkI P loc ops.toList i = .l → kdX (xOf (loc, []) P o) = .l) := by
  have e : ops.toList[i]? = some o := by simpa using hi
  have hk : kdI P loc ops.toList i = kdX (xOf (loc, []) P o) := by unfold kdI; rw [e]
  unfold dkI
  rw [hk]
  constructor
  · intro h
    split at h
    · rename_i e; exact e
    · cases h
    · simp only at h
      split at h <;> cases h
  · intro h
    split at h
    · cases h
    · rename_i e; exact e
    · simp only at h
      split at h <;> cases h
theorem fin_of {i : Nat} : fin P loc ops i = true ↔ dkI P loc ops.toList i = .z := by
  unfold fin
  split <;> simp_all
theorem fin_live {i : Nat} {oi : Oper} {l : Array Bool} (hc : clos ops l) (hi : ops[i]? = some oi) (hl : kdX (xOf (loc, []) P oi) = .l) (hu : l.getD i true = false) : live (fin P loc ops) l := by
  intro f hf
  cases hlf : l.getD f false with
  | false => rfl
  | true =>
    exfalso
    have hf := fin_of.1 hf
    have e : ops.toList[i]? = some oi := by simpa using hi
    have hk : kdI P loc ops.toList i = .l := by unfold kdI; rw [e]; exact hl
    unfold dkI at hf
    split at hf
    · cases hf
    · cases hf
    · simp only at hf
      split at hf
      · rename_i hall
        have hlt : i < ops.toList.length := (List.getElem?_eq_some_iff.1 e).1
        have := List.all_eq_true.1 hall i (List.mem_range.2 hlt)
        rw [hk] at this
        have hm : l.getD i false = true := ahead_listed hc 6 (afterX ops.toList f) (fun j hj => by
          obtain ⟨of, hof, ed, hed, hb, rfl⟩ := afterX_mem hj
          exact hc f of (by simpa using hof) hlf ed hed hb) i (by simpa using this)
        simp only [Array.getD_eq_getD_getElem?] at hm hu
        cases hx : l[i]? with
        | none => rw [hx] at hm; cases hm
        | some b => rw [hx] at hm hu; simp at hm hu; rw [hm] at hu; cases hu
      · cases hf
theorem mem_contains {l : List Nat} {i : Nat} (h : l.contains i = true) : i ∈ l := by simpa using h
section
variable {b : Option Nat} {x : Option EarlyD} {k : Dk} {i : Nat} {r : List (Dk × Nat)} {acc : List (Ix × X)} {L : List Ix} {S : World → Prop} {T : TT} {σ : St} {ρ : Rho} {a : Act} {w : World} {listed : Array Bool} {oi : Oper} {fuel : Nat}
theorem At.pure (D : DrawCtx P W ξ C loc n ops ρ0 κ Q) (G : GStm rd P W ξ C loc n ops ρ0 κ Q r) (hA : At P W ξ C loc n ops ρ0 κ b x ((k, i) :: r) acc L S T σ ρ a w listed) (hi : ops[i]? = some oi) (hib : b ≠ some i) (hready : i ∈ Region.ready .any ops listed)
    (hfree : Region.free .any ops listed i = true) (hF : fin P loc ops i = false) (st : drawS P loc ops b r (listed.setIfInBounds i true) = true) {xv : V} {v : Value} (hy : YieldsIf P ops (fun _ => True) oi v a) (hv : VR ξ ρ xv v)
    (hp : putV (ixD oi.dst) xv T σ (fun T σ => rDraw (r.map (itD P loc ops)) acc C T σ κ) = true) (hnow : live (fin P loc ops) (lx x listed) → S w) (hf : counts r + 1 ≤ fuel + (if x.isSome then 1 else 0)) :
    wpG rd P ops (PostN Q) (fin P loc ops) S fuel (lx x listed) (ax x a) w := by
  have hok := D.ok oi (mem_of hi)
  obtain ⟨T', hk, hF', h1, h2, _⟩ := FR.put hA.fr hv (dst_lt hok) D.small hp
  have hTL := keep_L hi hok D.small hA.sep h2
  exact hA.take D G hi hib hready hfree hF hy (S' := fun _ => True) (fun _ h => h) (fun _ _ => trivial) (.inl fun _ => trivial)
    (hA.next D hi hib hready st ρ.le_refl hA.rel hF' h1 h2 (hA.accOK.mono ρ.le_refl hTL) (sep_tail hA.sep) hk) hnow hf
theorem At.load (D : DrawCtx P W ξ C loc n ops ρ0 κ Q) (G : GStm rd P W ξ C loc n ops ρ0 κ Q r) (hA : At P W ξ C loc n ops ρ0 κ b x ((k, i) :: r) acc L S T σ ρ a w listed) (hi : ops[i]? = some oi) (hib : b ≠ some i) (hready : i ∈ Region.ready .any ops listed)
    (hfree : Region.free .any ops listed i = true) (hF : fin P loc ops i = false) (hkd : kdX (xOf (loc, []) P oi) = .l) (hlf : loadFree ops.toList i (i :: r.map (·.2)) (r.map (·.2)) = true) (st : drawS P loc ops b r (listed.setIfInBounds i true) = true) (hw : Region.wanted oi (yielded ops a.tmps) = true)
    (h : doX (xOf (loc, []) P oi) (ixD oi.dst) C T σ (fun T σ => rDraw (r.map (itD P loc ops)) ((ixD oi.dst, xOf (loc, []) P oi) :: acc) C T σ κ) noK = true) (hnow : live (fin P loc ops) (lx x listed) → S w) (hf : counts r + 1 ≤ fuel + (if x.isSome then 1 else 0)) :
    wpG rd P ops (PostN Q) (fin P loc ops) S fuel (lx x listed) (ax x a) w := by
  have hok := D.ok oi (mem_of hi)
  have hlt : opdsLt oi = true := by simp only [opOK, Bool.and_eq_true] at hok; exact hok.2.1
  have hO := opsR_of hA.fr.tr hlt
  obtain ⟨v, hld, hp⟩ := doX_ld hkd h
  obtain ⟨S0, u, h3, h4, h5, h6⟩ := D.load _ loc oi T σ v ρ a w hkd hld hA.rel hO
  obtain ⟨T', hk, hF', h1, h2, _, _, hg⟩ := FR.put hA.fr h6 (dst_lt hok) D.small hp
  have hTL := keep_L hi hok D.small hA.sep h2
  -- what the text tells of the load
  unfold loadFree at hlf
  have ei : ops.toList[i]? = some oi := by simpa using hi
  rw [ei] at hlf
  simp only [Bool.and_eq_true] at hlf
  obtain ⟨hld1, hld2⟩ := hlf
  obtain ⟨d, hd, hd250, hdw⟩ : ∃ d, oi.dst = some d ∧ d < 250 ∧ notW ops.toList d (r.map (·.2)) = true := by
    cases e : oi.dst with
    | none => rw [e] at hld1; cases hld1
    | some d =>
      rw [e] at hld1
      simp only [Bool.and_eq_true] at hld1
      exact ⟨d, rfl, by simpa using hld1.1, hld1.2⟩
  have hopd : ∀ ix ∈ opdI oi, ∃ t, t < 250 ∧ ix = ixOf t ∧ notW ops.toList t (i :: r.map (·.2)) = true := fun ix hx => by
    unfold opdI at hx
    obtain ⟨y, hy, hyx⟩ := List.mem_filterMap.1 hx
    cases y with
    | tmp t =>
      simp only [Option.some.injEq] at hyx
      have := List.all_eq_true.1 hlt _ hy
      exact ⟨t, by simpa [opdLt] using this, hyx.symm, List.all_eq_true.1 hld2 _ hy⟩
    | _ => cases hyx
  have hTO : ∀ ix ∈ opdI oi, g16 ix T' = g16 ix T := fun ix hx => by
    obtain ⟨t, ht, rfl, hn⟩ := hopd ix hx
    exact keep_T hok D.small ht (notW_head hn hi) h2
  have hacc := hA.accOK.load D.load (d := ixD oi.dst) hkd hO h6 hg hTL hTO
  have hrd : ∀ w, rdS P oi a u w → (execOp a.eval oi).run P w = .ok (.value u) w := fun w ⟨S0, h1, _, h2⟩ => h2 w h1
  refine hA.take D G hi hib hready hfree hF (S' := rdS P oi a u) (v := u) (.inl ⟨hw, hrd⟩) (S1 := fun w => S w ∧ rdS P oi a u w) (fun _ h => h.1) (fun _ h => h.2) (.inr fun l hc hu => fin_live hc hi hkd hu)
    (hA.next D hi hib hready st ρ.le_refl hA.rel hF' h1 h2 hacc ?_ hk) (fun hl => ⟨hnow hl, S0, h3, h4, h5⟩) hf
  intro ix hx
  rcases List.mem_cons.1 hx with rfl | hx
  · exact ⟨d, hd250, by rw [hd]; rfl, hdw⟩
  · rcases List.mem_append.1 hx with hx | hx
    · obtain ⟨t, ht, e, hn⟩ := hopd ix hx
      exact ⟨t, ht, e, notW_cons hn⟩
    · exact sep_tail hA.sep ix hx
theorem At.alone (D : DrawCtx P W ξ C loc n ops ρ0 κ Q) (G : GStm rd P W ξ C loc n ops ρ0 κ Q r) (hA : At P W ξ C loc n ops ρ0 κ b none ((k, i) :: r) acc L S T σ ρ a w listed) (hi : ops[i]? = some oi) (hk : k = .m ∨ k = .z ∧ fin P loc ops i = true) (hr : Region.ready .any ops listed = [i])
    (st : drawS P loc ops none r (listed.setIfInBounds i true) = true) (run : opsN (cXI (loc, []) P ops oi) (actR P loc ops k r acc) C T σ κ = true) (hf : counts r + 1 ≤ fuel) : wpG rd P ops (PostN Q) (fin P loc ops) S fuel listed a w := by
  obtain ⟨f, rfl⟩ : ∃ f, fuel = f + 1 := ⟨fuel - 1, by omega⟩
  refine ready_one hr ?_
  refine hA.actOp (x := none) D hi (fun _ h => by cases h) run ?_
  intro T' σ' ρ' a' w' run' hl rel' fr' h1 h2
  exact hA.after D G hi hk (by rw [hr]; simp) st (by omega) run' hl rel' fr' h2
theorem At.late (D : DrawCtx P W ξ C loc n ops ρ0 κ Q) (G : GStm rd P W ξ C loc n ops ρ0 κ Q r) {e : EarlyD} (hA : At P W ξ C loc n ops ρ0 κ b (some e) ((k, e.j) :: r) acc L S T σ ρ a w listed) (hk : k = .m ∨ k = .z ∧ fin P loc ops e.j = true)
    (st : drawS P loc ops none r (listed.setIfInBounds e.j true) = true) (run : opsN (cXI (loc, []) P ops e.oj) (actR P loc ops k r acc) C T σ κ = true) (hf : counts r ≤ fuel) : wpG rd P ops (PostN Q) (fin P loc ops) S fuel (lx (some e) listed) (ax (some e) a) w := by
  obtain ⟨hb, hj, hkb, wt, hw1, hw2⟩ := hA.ex e rfl
  obtain ⟨oj, eb⟩ := hA.eb e.j hb
  obtain rfl : e.oj = oj := by
    have := eb.hj
    rw [hj] at this
    simpa using this
  have hok := D.ok e.oj (mem_of hj)
  have hok' := hok
  simp only [opOK, Bool.and_eq_true] at hok'
  obtain ⟨ob1, vf1, O, v, c, hex, hor, hvr, hdo⟩ := D.new loc e.oj T ρ a eb.new eb.early (opsR_of hA.fr.tr hok'.2.1)
  rcases opsN_t hok'.2.2 hA.fr.tr run with ⟨_, h⟩ | ⟨h, _⟩
  · have h := hdo _ _ _ _ h
    rw [hex wt] at hw2
    simp only [Result.ok.injEq, Next.value.injEq] at hw2
    obtain ⟨hvf, hob⟩ := hw2
    rw [hw1] at hvf
    have hob : ob1 = e.ob := by
      have := congrArg (fun w : World => w.heap[wt.heap.size]?) hob
      simp only [pushB] at this
      simpa using this
    subst hob
    obtain ⟨σ', hk', rel', hle⟩ := Rel.adopt (c := c) hA.rel hkb hor h
    obtain ⟨T', hkk, hF', h1, h2, _⟩ := FR.put (hA.fr.mono hle) (hvr _ _ _ (Rho.put_self _ _)) (dst_lt hok) D.small hk'
    rw [hvf] at hF'
    exact (hA.after D G hj hk eb.ready st hf hkk hle rel' hF' h2).2
  · unfold Region.wanted at h
    rw [eb.guard] at h
    cases h
end
end
end Go.Ex
namespace Go.Ex
open Go.Mo
set_option linter.unusedVariables false
set_option linter.constructorNameAsVariable false
set_option linter.unusedSimpArgs false
section
variable {P : Program} {W : Kp} {ξ : Nat → Int} {C : Cx} {loc n : Nat} {ops : Array Oper} {ρ0 : Rho} {κ : K} {Q : Exit → Act → World → Prop} {rd : Option Nat}
def actS (P : Program) (loc : Nat) (ops : Array Oper) (b : Option Nat) (i : Nat) (r : List (Dk × Nat)) (listed : Array Bool) : Bool := match b with
  | none => Region.ready .any ops listed == [i] && drawS P loc ops none r (listed.setIfInBounds i true)
  | some j => match Nat.beq i j with
    | true => Region.ready .any ops listed == [i] && drawS P loc ops none r (listed.setIfInBounds i true)
    | false => Region.ready .any ops listed == [i, j] && (Region.ready .any ops (listed.setIfInBounds j true) == [i] && Region.free .any ops listed i) && drawS P loc ops b r (listed.setIfInBounds i true)
section
variable {b : Option Nat} {x : Option EarlyD} {k : Dk} {i : Nat} {r : List (Dk × Nat)} {acc : List (Ix × X)} {L : List Ix} {S : World → Prop} {T : TT} {σ : St} {ρ : Rho} {a : Act} {w : World} {listed : Array Bool} {oi : Oper} {fuel : Nat}
theorem At.acts (D : DrawCtx P W ξ C loc n ops ρ0 κ Q) (G : GStm rd P W ξ C loc n ops ρ0 κ Q r) (hA : At P W ξ C loc n ops ρ0 κ b x ((k, i) :: r) acc L S T σ ρ a w listed) (hk : k = .m ∨ k = .z ∧ fin P loc ops i = true) (hst : actS P loc ops b i r listed = true)
    (hrun : ∀ oi, ops[i]? = some oi → opsN (cXI (loc, []) P ops oi) (actR P loc ops k r acc) C T σ κ = true) (hf : counts r + 1 ≤ fuel + (if x.isSome then 1 else 0)) (hnow : live (fin P loc ops) (lx x listed) → S w) : wpG rd P ops (PostN Q) (fin P loc ops) S fuel (lx x listed) (ax x a) w := by
  have mem : ∀ {l : List Nat}, Region.ready .any ops listed = i :: l → ∃ oi, ops[i]? = some oi := fun {l} h => by
    have : i ∈ Region.ready .any ops listed := by rw [h]; simp
    obtain ⟨_, oi, hoi, _⟩ := mem_ready.1 this
    exact ⟨oi, hoi⟩
  unfold actS at hst
  split at hst
  · -- nothing may be taken early
    simp only [Bool.and_eq_true, beq_iff_eq] at hst
    obtain ⟨oi, hi⟩ := mem hst.1
    have run := hrun oi hi
    cases x with
    | some e => have := (hA.ex e rfl).1; cases this
    | none => exact hA.alone D G hi hk hst.1 hst.2 run hf
  · rename_i j
    split at hst
    · rename_i hij
      have hij := Nat.eq_of_beq_eq_true hij
      subst hij
      simp only [Bool.and_eq_true, beq_iff_eq] at hst
      obtain ⟨oi, hi⟩ := mem hst.1
      have run := hrun oi hi
      cases x with
      | none => exact hA.alone D G hi hk hst.1 hst.2 run hf
      | some e =>
        obtain ⟨hb, hj, _⟩ := hA.ex e rfl
        simp only [Option.some.injEq] at hb
        subst hb
        rw [hi] at hj
        simp only [Option.some.injEq] at hj
        subst hj
        exact hA.late D G hk hst.2 run (by simpa using hf)
    · rename_i hij
      have hij : i ≠ j := Nat.ne_of_beq_eq_false hij
      simp only [Bool.and_eq_true, beq_iff_eq] at hst
      obtain ⟨⟨hr, hr2, hfree⟩, st⟩ := hst
      obtain ⟨oi, hi⟩ := mem hr
      have run := hrun oi hi
      have hready : i ∈ Region.ready .any ops listed := by rw [hr]; simp
      have hib : some j ≠ some i := fun e => hij (by simpa using e.symm)
      -- where j was done
      have hE : ∀ (e : EarlyD) (w : World) (f : Nat), At P W ξ C loc n ops ρ0 κ (some j) (some e) ((k, i) :: r) acc L S T σ ρ a w listed → counts r ≤ f → wpG rd P ops (PostN Q) (fin P loc ops) S f (lx (some e) listed) (ax (some e) a) w := by
        intro e w f hA hf
        obtain ⟨hb, hj, _⟩ := hA.ex e rfl
        have hb' : e.j = j := by simpa using hb.symm
        obtain ⟨f', rfl, hf'⟩ := fuel_lx (x := some e) st (fun e' he => (hA.ex e' he).1) (show counts r + 1 ≤ f + (if (some e).isSome then 1 else 0) by simpa using hf)
        refine ready_one (i := i) (by show Region.ready .any ops (listed.setIfInBounds e.j true) = [i]; rw [hb']; exact hr2) ?_
        rw [lx_comm hA hib]
        have hap : oi.apart ops e.oj = true := by
          obtain ⟨oj, eb⟩ := hA.eb e.j hb
          exact Region.free_spec hi hfree e.j e.oj hj (fun h => hij (by rw [← h, hb'])) (mem_ready.1 eb.ready).1 (not_after hj hready eb.ready)
        refine hA.actOp D hi (fun e' he => by cases he; exact hap) run ?_
        intro T' σ' ρ' a' w' run' hl rel' fr' h1 h2
        exact hA.behind D G hi hk hready hib st hf' run' hl rel' fr' h1 h2
      cases x with
      | some e => exact hE e w fuel hA (by simpa using hf)
      | none =>
        simp only [Option.isSome_none, Bool.false_eq_true, if_false, Nat.add_zero] at hf
        obtain ⟨f, rfl⟩ : ∃ f, fuel = f + 1 := ⟨fuel - 1, by omega⟩
        have hr : Region.ready .any ops (lx none listed) = [i, j] := hr
        refine ⟨fun h0 => (by rw [hr] at h0; cases h0), fun i' hi' => ?_⟩
        rw [hr] at hi'
        simp only [List.mem_cons, List.not_mem_nil, or_false] at hi'
        rcases hi' with rfl | rfl
        · refine hA.actOp D hi (fun _ h => by cases h) run ?_
          intro T' σ' ρ' a' w' run' hl rel' fr' h1 h2
          exact hA.behind (x := none) D G hi hk hready hib st (by simpa using (by omega : counts r ≤ f)) run' hl rel' fr' h1 h2
        · obtain ⟨oj, eb⟩ := hA.eb i' rfl
          have hok := D.ok oj (mem_of eb.hj)
          simp only [opOK, Bool.and_eq_true] at hok
          obtain ⟨ob, vf, O, v, c, hex, hor, hvr, hdo⟩ := D.new loc oj T ρ a eb.new eb.early (opsR_of hA.fr.tr hok.2.1)
          unfold wpOpIn
          simp only [eb.hj]
          rw [if_pos (by unfold Region.wanted; rw [eb.guard])]
          refine wpIn_value (hex w) ?_
          have hrel : Rel P W ξ ρ σ w := hA.rel
          refine ⟨fun hl => hA.accOK.push w ob (hnow (live_set hl)), ?_⟩
          refine hE ⟨i', oj, vf w.heap.size, w.heap.size, ob⟩ (pushB w ob) f ⟨hA.st, hA.cl, hA.le, hrel.keep ob, hA.fr, hA.accOK, hA.sep, hA.run, hA.eb, ?_⟩ (by omega)
          intro e he
          cases he
          exact ⟨rfl, eb.hj, hrel.kept_new, w, rfl, hex w⟩
end
theorem GStm_all (D : DrawCtx P W ξ C loc n ops ρ0 κ Q) : ∀ r, GStm rd P W ξ C loc n ops ρ0 κ Q r
  | [] => fun b x acc L S T σ ρ a w listed fuel hA hf hnow => by
    have st := hA.st
    simp only [drawS, Bool.and_eq_true, List.isEmpty_iff, Option.isNone_iff_eq_none] at st
    cases x with
    | some e =>
      have := (hA.ex e rfl).1
      rw [st.2] at this
      cases this
    | none => exact wpG_done st.1 ⟨rfl, D.out T σ ρ a w hA.run hA.le hA.rel hA.fr⟩ fuel
  | (k, i) :: r => fun b x acc L S T σ ρ a w listed fuel hA hf hnow => by
    have G := GStm_all D r
    have st := hA.st
    have hib : ∀ d, dkI P loc ops.toList i = d → d ≠ .m → b ≠ some i := fun d hd hm e => by
      obtain ⟨oj, eb⟩ := hA.eb i e
      exact hm (by rw [← hd, eb.kd])
    cases k with
    | p =>
      simp only [drawS, Bool.and_eq_true] at st
      obtain ⟨⟨⟨hk, hfree⟩, hr⟩, st⟩ := st
      have hready := mem_contains hr
      obtain ⟨_, oi, hi, _⟩ := mem_ready.1 hready
      have hd := isK_t hk
      have hkd := (dkI_kd hi).1 hd
      have hok := D.ok oi (mem_of hi)
      have hok' := hok
      simp only [opOK, Bool.and_eq_true] at hok'
      have hF : fin P loc ops i = false := by
        cases h : fin P loc ops i with
        | false => rfl
        | true => have := fin_of.1 h; rw [hd] at this; cases this
      have run := hA.run
      simp only [List.map_cons, itD, getD_of hi, rDraw] at run
      rcases opsN_t hok'.2.2 hA.fr.tr run with ⟨hw, h⟩ | ⟨hw, h⟩
      · obtain ⟨xv, v, hr, hv, hp⟩ := D.pure loc oi _ T σ _ _ ρ a hkd h hok'.2.1 (opsR_of hA.fr.tr hok'.2.1) hA.fr.tr
        exact hA.pure D G hi (hib _ hd (by simp)) hready hfree hF st (.inl ⟨hw, fun w _ => hr w⟩) hv hp hnow hf
      · exact hA.pure D G hi (hib _ hd (by simp)) hready hfree hF st (.inr ⟨hw, rfl⟩) (.t .nil) h hnow hf
    | l =>
      simp only [drawS, Bool.and_eq_true] at st
      obtain ⟨⟨⟨⟨hk, hfree⟩, hr⟩, hlf⟩, st⟩ := st
      have hready := mem_contains hr
      obtain ⟨_, oi, hi, _⟩ := mem_ready.1 hready
      have hd := isK_t hk
      have hkd := (dkI_kd hi).2 hd
      have hok := D.ok oi (mem_of hi)
      have hok' := hok
      simp only [opOK, Bool.and_eq_true] at hok'
      have hF : fin P loc ops i = false := by
        cases h : fin P loc ops i with
        | false => rfl
        | true => have := fin_of.1 h; rw [hd] at this; cases this
      have run := hA.run
      simp only [List.map_cons, itD, getD_of hi, rDraw] at run
      rcases opsN_l hok'.2.2 hA.fr.tr run with ⟨hw, h⟩ | ⟨hw, h⟩
      · exact hA.load D G hi (hib _ hd (by simp)) hready hfree hF hkd hlf st hw h hnow hf
      · exact hA.pure D G hi (hib _ hd (by simp)) hready hfree hF st (.inr ⟨hw, rfl⟩) (.t .nil) h hnow hf
    | e =>
      simp only [drawS, Bool.and_eq_true, Option.isNone_iff_eq_none] at st
      obtain ⟨⟨⟨⟨⟨rfl, hr⟩, he⟩, hk⟩, hsep⟩, st⟩ := st
      have hready := mem_contains hr
      obtain ⟨_, oi, hi, _⟩ := mem_ready.1 hready
      cases x with
      | some e => have := (hA.ex e rfl).1; cases this
      | none =>
        have run := hA.run
        simp only [List.map_cons, itD, getD_of hi, rDraw] at run
        split at run
        · rename_i hearly
          unfold earlyI at he
          rw [hi] at he
          simp only [Bool.and_eq_true, Option.isNone_iff_eq_none] at he
          exact G (some i) none acc L S T σ ρ a w listed fuel ⟨st, hA.cl, hA.le, hA.rel, hA.fr, hA.accOK, sep_tail hA.sep, run, fun j hj => by
            cases hj
            exact ⟨oi, hi, he.1, he.2.1, isK_t hk, hready, hearly, hsep⟩, fun _ h => by cases h⟩ hf hnow
        · cases run
    | m =>
      have hst : (isK P loc ops .m i && actS P loc ops b i r listed) = true := st
      simp only [Bool.and_eq_true] at hst
      refine hA.acts D G (.inl rfl) hst.2 (fun oi hi => ?_) hf hnow
      have run := hA.run
      simp only [List.map_cons, itD, getD_of hi, rDraw] at run
      exact run
    | z =>
      have hst : (isK P loc ops .z i && actS P loc ops b i r listed) = true := st
      simp only [Bool.and_eq_true] at hst
      refine hA.acts D G (.inr ⟨rfl, fin_of.2 (isK_t hst.1)⟩) hst.2 (fun oi hi => ?_) hf hnow
      have run := hA.run
      simp only [List.map_cons, itD, getD_of hi, rDraw] at run
      exact run
structure OpsOK (P : Program) (ξ : Nat → Int) (C : Cx) : Prop where
  step : ∀ W, StepOK P W ξ C
  pure : PureOK P ξ C
  load : LoadOK P ξ
  new : NewOK P ξ C
  same : ∀ (loc : Nat) (o : Oper) (T T' : TT), isNew (xOf (loc, []) P o) = true → (∀ i ∈ opdI o, g16 i T' = g16 i T) → earlyOK T' (xOf (loc, []) P o) = earlyOK T (xOf (loc, []) P o)
theorem draw_ok (H : OpsOK P ξ C) {id : Nat} (hn : n ≤ 250) {T : TT} {σ : St} (h : rDraws ((plan P loc ops.toList (order P loc ops.toList ops.size []) []).map fun (k, i) => (k, cXI (loc, []) P ops (ops.getD i default))) C T σ κ = true) (hok : ops.toList.all (opOK loc n ops) = true) (hdr : drawOK P loc ops = true)
    {rd : Option Nat} {ρ : Rho} {a : Act} {w : World} {Q : Exit → Act → World → Prop} (hR : Rel P W ξ ρ σ w) (hF : FR ξ ρ loc n T a)
    (hκ : ∀ e T' σ' ρ' e' a' w', κ e T' σ' = true → ρ.le ρ' → Rel P W ξ ρ' σ' w' → FR ξ ρ' loc n T' a' → XR' ξ ρ' e e' → Q e' a' w') : Wp rd P (.region id ops true) Q a w := by
  unfold drawOK at hdr
  simp only [Bool.and_eq_true] at hdr
  obtain ⟨⟨⟨⟨hnd, hns⟩, hst⟩, hct⟩, hmx⟩ := hdr
  have D : DrawCtx P W ξ C loc n ops ρ κ Q := ⟨H.step, H.pure, H.load, H.new, H.same, List.all_eq_true.1 hok, hn, hnd, hns, fun T' σ' ρ' a' w' k l r f => hκ .n T' σ' ρ' .normal a' w' k l r f .n⟩
  have main := GStm_all (rd := rd) D _ none none [] [] (fun _ => True) T σ ρ a { w with drawn := w.drawn + 1 } (Array.replicate ops.size false) ops.size ⟨hst, clos_start _, ρ.le_refl, hR.draw _, hF, .none, fun _ h => (by cases h), h, fun _ h => (by cases h), fun _ h => by cases h⟩ (by simpa using ble_t hct) fun _ => trivial
  refine Code.wpIn_mono ?_ (wpIn_region_any hmx (wpG_any _ _ _ _ main))
  rintro e a w ⟨rfl, h⟩
  exact h
end
end Go.Ex
namespace Go.Ex
open Go.Mo
set_option linter.unusedVariables false
set_option linter.constructorNameAsVariable false
set_option linter.unusedSimpArgs false
inductive CO (s : Sb) (P : Program) (o : Oper) : X → Prop
  | mv {x' x} (ho : o.op = .move x' ∨ o.op = .assign x') (hx : cA s x' = some x) : CO s P o (.mv x)
  | pk {c' a' b' c a b} (ho : o.op = .pick c' a' b') (hc : cA s c' = some c) (ha : cA s a' = some a) (hb : cA s b' = some b) : CO s P o (.pk c a b)
  | al {t cs} (ho : o.op = .alloc t) (h : cells P t = some cs) : CO s P o (.o (.al cs))
  | bx {t x' x} (ho : o.op = .box t x') (hx : cA s x' = some x) : CO s P o (.bx x)
  | bd {t ps z fs pl ps'} (ho : o.op = .build t ps) (hz : cells P t = some z) (ht : P.underlying t = some (.struct fs)) (hpl : fs.toList.mapM (fun f => (size P f.type).map fun z => (f.offset, z)) = some pl) (hp : cParts s (fun i => pl[i]?) ps.toList = some ps') : CO s P o (.o (.bd z ps'))
  | bdA {t ps z n e z1 ps'} (ho : o.op = .build t ps) (hz : cells P t = some z) (ht : P.underlying t = some (.array n e)) (hz1 : size P e = some z1) (hp : cParts s (fun i => some (i * z1, z1)) ps.toList = some ps') : CO s P o (.o (.bd z ps'))
  | bl {t len ps e z1 cs ps'} (ho : o.op = .buildSlice t len ps) (ht : P.underlying t = some (.slice e)) (he : elemZ P e = some (z1, cs)) (hl : Nat.ble (len * z1) 65536 = true) (hp : cParts s (fun i => some (i * z1, z1)) ps.toList = some ps') : CO s P o (.o (.bl len z1 cs ps'))
  | lA {t x' x n} (ho : o.op = .load t x') (hx : cA s x' = some x) (ha : agg P t = some true) (hz : size P t = some n) : CO s P o (.lA n x)
  | ld {t x' x} (ho : o.op = .load t x') (hx : cA s x' = some x) (ha : agg P t = some false) : CO s P o (.ld x)
  | st {t x' y' x y sz} (ho : o.op = .store t x' y') (hz : size P t = some sz) (hx : cA s x' = some x) (hy : cA s y' = some y) : CO s P o (.st sz x y)
  | nil {x' x} (ho : o.op = .nilCheck x') (hx : cA s x' = some x) : CO s P o (.nil x)
  | ii {op t x' y' yt x y k} (ho : o.op = .binOp op t x' y' yt) (hx : cA s x' = some x) (hy : cA s y' = some y) (ht : P.underlying t = some (.int k)) : CO s P o (.ii (cI op) x y ⟨o, s⟩)
  | ep {op t x' y' yt x y k dsc neg} (ho : o.op = .binOp op t x' y' yt) (hop : op = .eql ∧ neg = false ∨ op = .neq ∧ neg = true) (hx : cA s x' = some x) (hy : cA s y' = some y) (ht : P.underlying t = some dsc) (hk : nkT k dsc) : CO s P o (.o (.ep neg k x y))
  | ge (hs : ∀ cs b, o.op ≠ .select cs b) : CO s P o (.o (.ge ⟨o, s⟩))
  | not {t x' x} (ho : o.op = .unOp .not t x') (hx : cA s x' = some x) : CO s P o (.o (.not x))
  | cv {src dst x' x b} (ho : o.op = .convert src dst x') (hx : cA s x' = some x) (hb : (b = true ∧ P.underlying src = some (.int .i64) ∧ P.underlying dst = some (.int .u8)) ∨ (b = false ∧ P.underlying src = some (.int .u8) ∧ P.underlying dst = some (.int .i64))) : CO s P o (.cv b x ⟨o, s⟩)
  | bs {src dst x' x e} (ho : o.op = .convert src dst x') (hx : cA s x' = some x) (h1 : P.underlying src = some (.slice e)) (he : P.underlying e = some (.int .u8)) (h2 : P.underlying dst = some .string) : CO s P o (.o (.bs x))
  | mi {t x' x dsc} (ho : o.op = .makeInterface t x') (hx : cA s x' = some x) (ht : P.underlying t = some dsc) (hd : ∀ ms, dsc ≠ .interface ms) : CO s P o (.o (.mi t x))
  | mf {g fs' cs' fs cs} (ho : o.op = .makeFunc g fs' cs') (hf : fs'.toList.mapM (cA s) = some fs) (hc : cs'.toList.mapM (cA s) = some cs) : CO s P o (.o (.mf g fs cs))
  | mm {t} (ho : o.op = .makeMap t none) : CO s P o (.o .mm)
  | ms {t l' c' l c e z cs} (ho : o.op = .makeSlice t l' c') (ht : P.underlying t = some (.slice e)) (he : elemZ P e = some (z, cs)) (hl : cA s l' = some l) (hc : cA s c' = some c) : CO s P o (.o (.ms cs l c))
  | sl {t x' lo' hi' mx' x lo hi mx e sz} (ho : o.op = .slice t x' lo' hi' mx') (ht : P.underlying t = some (.slice e)) (hz : size P e = some sz) (hx : cA s x' = some x) (hl : optA s lo' = some lo) (hh : optA s hi' = some hi) (hm : optA s mx' = some mx) (hmh : mx' ≠ none → hi' ≠ none) : CO s P o (.sl sz x lo hi mx)
  | sa {t x' lo' hi' x lo hi n e sz} (ho : o.op = .slice t x' lo' hi' none) (ht : P.underlying t = some (.array n e)) (hz : size P e = some sz) (hx : cA s x' = some x) (hl : optA s lo' = some lo) (hh : optA s hi' = some hi) : CO s P o (.o (.sa sz n x lo hi none))
  | fa {t x' x i fs f z} (ho : o.op = .fieldAddr t x' i) (ht : P.underlying t = some (.struct fs)) (hf : fs[i]? = some f) (hz : size P f.type = some z) (hz0 : z ≠ 0) (hx : cA s x' = some x) : CO s P o (.fa f.offset x)
  | fd {t x' x i fs f z ag} (ho : o.op = .field t x' i) (ht : P.underlying t = some (.struct fs)) (hf : fs[i]? = some f) (ha : agg P f.type = some ag) (hz : size P f.type = some z) (hx : cA s x' = some x) : CO s P o (.o (.fd ag f.offset z x))
  | ia {t x' i' x i e sz} (ho : o.op = .indexAddr t x' i') (ht : P.underlying t = some (.slice e)) (hz : size P e = some sz) (hx : cA s x' = some x) (hi : cA s i' = some i) : CO s P o (.ia sz x i)
  | iA {t x' i' x i n e sz} (ho : o.op = .indexAddr t x' i') (ht : P.underlying t = some (.array n e)) (hz : size P e = some sz) (hx : cA s x' = some x) (hi : cA s i' = some i) : CO s P o (.o (.iA sz n x i))
  | iv {t x' i' x i n e sz ag} (ho : o.op = .index t x' i') (ht : P.underlying t = some (.array n e)) (ha : agg P e = some ag) (hz : size P e = some sz) (hx : cA s x' = some x) (hi : cA s i' = some i) : CO s P o (.o (.iv ag sz n x i))
  | lk {t x' i' ok kt e kk z x i} (ho : o.op = .lookup t x' i' ok) (ht : P.underlying t = some (.map kt e)) (hk : kkOf P kt = some kk) (hz : zeroV P e = some z) (hx : cA s x' = some x) (hi : cA s i' = some i) : CO s P o (.o (.lk kk ok z x i))
  | mu {t m' k' v' kt e kk m k v} (ho : o.op = .mapUpdate t m' k' v') (ht : P.underlying t = some (.map kt e)) (hkk : kkOf P kt = some kk) (hm : cA s m' = some m) (hk : cA s k' = some k) (hv : cA s v' = some v) : CO s P o (.o (.mu kk m k v))
  | me {t m' k' kt e kk z m k} (ho : o.op = .mapEntry t m' k') (ht : P.underlying t = some (.map kt e)) (hkk : kkOf P kt = some kk) (hz : zeroV P e = some z) (hm : cA s m' = some m) (hk : cA s k' = some k) : CO s P o (.o (.me kk z m k))
  | et {t m' s' v' m st v} (ho : o.op = .entryStore t m' s' v') (hm : cA s m' = some m) (hs : cA s s' = some st) (hv : cA s v' = some v) : CO s P o (.o (.et m st v))
  | rg {t x' x kt e} (ho : o.op = .range t x') (ht : P.underlying t = some (.map kt e)) (hx : cA s x' = some x) : CO s P o (.o (.rg x))
  | nx {x' x} (ho : o.op = .next x' false) (hx : cA s x' = some x) : CO s P o (.o (.nx x))
  | en {x' x} (ho : o.op = .entry x') (hx : cA s x' = some x) : CO s P o (.o (.en x))
  | ta {x' x xt t dsc} (ho : o.op = .typeAssert x' xt t false) (hx : cA s x' = some x) (ht : P.underlying t = some dsc) (hd : ∀ ms, dsc ≠ .interface ms) : CO s P o (.o (.ta t x))
  | ex {x' x i} (ho : o.op = .extract x' i) (hx : cA s x' = some x) : CO s P o (.ex x i)
  | ca {f args tys aas} (ho : o.op = .call ⟨.value (.func f), args, tys⟩) (ha : args.toList.mapM (cA s) = some aas) : CO s P o (.ca f aas)
  | cl {x' x args tys aas} (ho : o.op = .call ⟨.value x', args, tys⟩) (hx : cA s x' = some x) (ha : args.toList.mapM (cA s) = some aas) : CO s P o (.o (.cl x aas))
  | io {x' x nm args tys aas} (ho : o.op = .call ⟨.invoke x' nm, args, tys⟩) (hx : cA s x' = some x) (ha : args.toList.mapM (cA s) = some aas) : CO s P o (.o (.io x nm aas))
  | ln {x' x tys t e} (ho : o.op = .call ⟨.builtin .len, #[x'], tys⟩) (h0 : tys[0]? = some t) (ht : P.underlying t = some (.slice e)) (hx : cA s x' = some x) : CO s P o (.ln x)
  | lm {x' x tys t kt e} (ho : o.op = .call ⟨.builtin .len, #[x'], tys⟩) (h0 : tys[0]? = some t) (ht : P.underlying t = some (.map kt e)) (hx : cA s x' = some x) : CO s P o (.o (.lm x))
  | cp {x' x tys t e} (ho : o.op = .call ⟨.builtin .cap, #[x'], tys⟩) (h0 : tys[0]? = some t) (ht : P.underlying t = some (.slice e)) (hx : cA s x' = some x) : CO s P o (.o (.cp x))
  | az {x' y' x y tys t e t1 k z cs} (ho : o.op = .call ⟨.builtin .append, #[x', y'], tys⟩) (h0 : tys[0]? = some t) (ht : P.underlying t = some (.slice e)) (h1 : tys[1]? = some t1) (ht1 : P.underlying t1 = some (.int k)) (he : elemZ P e = some (z, cs)) (hx : cA s x' = some x) (hy : cA s y' = some y) : CO s P o (.o (.az z cs x y))
  | ap {x' y' x y tys t e t1 z cs dsc} (ho : o.op = .call ⟨.builtin .append, #[x', y'], tys⟩) (h0 : tys[0]? = some t) (ht : P.underlying t = some (.slice e)) (h1 : tys[1]? = some t1) (ht1 : P.underlying t1 = some dsc) (hd : ∀ k, dsc ≠ .int k) (he : elemZ P e = some (z, cs)) (hx : cA s x' = some x) (hy : cA s y' = some y) : CO s P o (.ap z cs x y)
  | cy {x' y' x y tys t e z cs} (ho : o.op = .call ⟨.builtin .copy, #[x', y'], tys⟩) (h0 : tys[0]? = some t) (ht : P.underlying t = some (.slice e)) (he : elemZ P e = some (z, cs)) (hx : cA s x' = some x) (hy : cA s y' = some y) : CO s P o (.o (.cy z x y))
  | crS {x' x tys t e z cs} (ho : o.op = .call ⟨.builtin .clear, #[x'], tys⟩) (h0 : tys[0]? = some t) (ht : P.underlying t = some (.slice e)) (he : elemZ P e = some (z, cs)) (hx : cA s x' = some x) : CO s P o (.o (.cr cs x))
  | crM {x' x tys t kt e} (ho : o.op = .call ⟨.builtin .clear, #[x'], tys⟩) (h0 : tys[0]? = some t) (ht : P.underlying t = some (.map kt e)) (hx : cA s x' = some x) : CO s P o (.o (.cr [] x))
  | de {x' y' x y tys t kt e kk} (ho : o.op = .call ⟨.builtin .delete, #[x', y'], tys⟩) (h0 : tys[0]? = some t) (ht : P.underlying t = some (.map kt e)) (hk : kkOf P kt = some kk) (hx : cA s x' = some x) (hy : cA s y' = some y) : CO s P o (.o (.de kk x y))
  | rc {tys} (ho : o.op = .call ⟨.builtin .recover, #[], tys⟩) : CO s P o (.o .rc)
  | df {x' x args tys aas} (ho : o.op = .defer ⟨.value x', args, tys⟩) (hx : cA s x' = some x) (ha : args.toList.mapM (cA s) = some aas) : CO s P o (.o (.df x aas))
  | pn {x' x} (ho : o.op = .panic x') (hx : cA s x' = some x) : CO s P o (.o (.pn x))
section
variable {s : Sb} {P : Program} {o : Oper} {X : X}
theorem bnd {α β : Type} {x : Option α} {f : α → Option β} {y : β} (h : (x >>= f) = some y) : ∃ a, x = some a ∧ f a = some y := by
  cases x with
  | none => cases h
  | some a => exact ⟨a, rfl, h⟩
theorem smap {α β : Type} {x : Option α} {f : α → β} {y : β} (h : x.map f = some y) : ∃ a, x = some a ∧ f a = y := by
  cases x with
  | none => cases h
  | some a => exact ⟨a, rfl, by simpa using h⟩
theorem optA_none {x : Option Operand} (h : optA s x = some none) : x = none := by
  cases x with
  | none => rfl
  | some x =>
    simp only [optA] at h
    obtain ⟨a, _, h⟩ := smap h
    cases h
theorem optA_some {x : Option Operand} {a : A} (h : optA s x = some (some a)) : ∃ y, x = some y ∧ cA s y = some a := by
  cases x with
  | none => cases h
  | some x =>
    simp only [optA] at h
    obtain ⟨a', h1, h⟩ := smap h
    cases h
    exact ⟨x, rfl, h1⟩
theorem args1 {args : Array Operand} {x : A} (h : args.toList.mapM (cA s) = some [x]) : ∃ x', args = #[x'] ∧ cA s x' = some x := by
  obtain ⟨l⟩ := args
  cases l with
  | nil => simp at h
  | cons a l =>
    rw [List.mapM_cons] at h
    obtain ⟨b, hb, h⟩ := bnd h
    obtain ⟨bs, hbs, h⟩ := bnd h
    simp only [Option.pure_def, Option.some.injEq, List.cons.injEq] at h
    obtain ⟨rfl, rfl⟩ := h
    cases l with
    | nil => exact ⟨a, rfl, hb⟩
    | cons c l =>
      rw [List.mapM_cons] at hbs
      obtain ⟨_, _, hbs⟩ := bnd hbs
      obtain ⟨_, _, hbs⟩ := bnd hbs
      simp at hbs
theorem args2 {args : Array Operand} {x y : A} (h : args.toList.mapM (cA s) = some [x, y]) : ∃ x' y', args = #[x', y'] ∧ cA s x' = some x ∧ cA s y' = some y := by
  obtain ⟨l⟩ := args
  cases l with
  | nil => simp at h
  | cons a l =>
    rw [List.mapM_cons] at h
    obtain ⟨b, hb, h⟩ := bnd h
    obtain ⟨bs, hbs, h⟩ := bnd h
    simp only [Option.pure_def, Option.some.injEq, List.cons.injEq] at h
    obtain ⟨rfl, rfl⟩ := h
    obtain ⟨y', e, hy⟩ := args1 (args := l.toArray) (by simpa using hbs)
    have : l = [y'] := by simpa using e
    subst this
    exact ⟨a, y', rfl, hb, hy⟩
theorem args0 {args : Array Operand} (h : args.toList.mapM (cA s) = some []) : args = #[] := by
  obtain ⟨l⟩ := args
  cases l with
  | nil => rfl
  | cons a l =>
    rw [List.mapM_cons] at h
    obtain ⟨b, hb, h⟩ := bnd h
    obtain ⟨bs, hbs, h⟩ := bnd h
    simp at h
theorem ty0_t {c : Call} {d : TypeDesc} (h : ty0 P c = some d) : ∃ t, c.argTypes[0]? = some t ∧ P.underlying t = some d := Option.bind_eq_some_iff.1 h
theorem ty1_t {c : Call} {d : TypeDesc} (h : ty1 P c = some d) : ∃ t, c.argTypes[1]? = some t ∧ P.underlying t = some d := Option.bind_eq_some_iff.1 h
theorem cBlt_CO {b : Builtin} {args : Array Operand} {tys : Array TypeId} {aas : List A} (ho : o.op = .call ⟨.builtin b, args, tys⟩) (ha : args.toList.mapM (cA s) = some aas) (h : cBlt s P o ⟨.builtin b, args, tys⟩ b aas = some X) : CO s P o X := by
  have hsel : ∀ cs b, o.op ≠ .select cs b := fun cs b e => by rw [ho] at e; cases e
  unfold cBlt at h
  split at h
  · obtain ⟨x', rfl, hx⟩ := args1 ha
    split at h
    · rename_i e
      obtain ⟨t, h0, ht⟩ := ty0_t e
      cases h
      exact .ln ho h0 ht hx
    · rename_i e
      obtain ⟨t, h0, ht⟩ := ty0_t e
      cases h
      exact .lm ho h0 ht hx
    · cases h
      exact .ge hsel
  · obtain ⟨x', rfl, hx⟩ := args1 ha
    split at h
    · rename_i e
      obtain ⟨t, h0, ht⟩ := ty0_t e
      cases h
      exact .cp ho h0 ht hx
    · cases h
  · obtain ⟨x', y', rfl, hx, hy⟩ := args2 ha
    unfold cApp at h
    split at h
    · rename_i e1 e2
      obtain ⟨t, h0, ht⟩ := ty0_t e1
      obtain ⟨t1, h1, ht1⟩ := ty1_t e2
      obtain ⟨⟨z, cs⟩, he, h⟩ := bnd h
      cases h
      exact .az ho h0 ht h1 ht1 he hx hy
    · rename_i e1 e2
      obtain ⟨t, h0, ht⟩ := ty0_t e1
      obtain ⟨t1, h1, ht1⟩ := ty1_t e2
      obtain ⟨⟨z, cs⟩, he, h⟩ := bnd h
      cases h
      exact .ap ho h0 ht h1 ht1 (fun k e => by cases e) he hx hy
    · rename_i e1 e2
      obtain ⟨t, h0, ht⟩ := ty0_t e1
      obtain ⟨t1, h1, ht1⟩ := ty1_t e2
      obtain ⟨⟨z, cs⟩, he, h⟩ := bnd h
      cases h
      exact .ap ho h0 ht h1 ht1 (fun k e => by cases e) he hx hy
    · cases h
  · obtain ⟨x', y', rfl, hx, hy⟩ := args2 ha
    split at h
    · rename_i e
      obtain ⟨t, h0, ht⟩ := ty0_t e
      obtain ⟨⟨z, cs⟩, he, h⟩ := bnd h
      cases h
      exact .cy ho h0 ht he hx hy
    · cases h
  · obtain ⟨x', rfl, hx⟩ := args1 ha
    split at h
    · rename_i e
      obtain ⟨t, h0, ht⟩ := ty0_t e
      obtain ⟨⟨z, cs⟩, he, h⟩ := bnd h
      cases h
      exact .crS ho h0 ht he hx
    · rename_i e
      obtain ⟨t, h0, ht⟩ := ty0_t e
      cases h
      exact .crM ho h0 ht hx
    · cases h
  · obtain ⟨x', y', rfl, hx, hy⟩ := args2 ha
    split at h
    · rename_i e
      obtain ⟨t, h0, ht⟩ := ty0_t e
      obtain ⟨kk, hk, h⟩ := bnd h
      cases h
      exact .de ho h0 ht hk hx hy
    · cases h
  · have := args0 ha
    subst this
    cases h
    exact .rc ho
  · cases h
    exact .ge hsel
theorem cCall_CO {c : Call} (ho : o.op = .call c) (h : cCall s P o c = some X) : CO s P o X := by
  obtain ⟨cal, args, tys⟩ := c
  unfold cCall at h
  obtain ⟨aas, ha, h⟩ := bnd h
  simp only at h
  split at h
  · cases h
    rename_i e
    exact .ca ho ha
  · obtain ⟨x, hx, h⟩ := bnd h
    cases h
    exact .cl ho hx ha
  · obtain ⟨x, hx, h⟩ := bnd h
    cases h
    exact .io ho hx ha
  · exact cBlt_CO ho ha h
theorem cBin_CO {op : BinOp} {t yt : TypeId} {x y : Operand} (ho : o.op = .binOp op t x y yt) (h : cBin s P o op t x y = some X) : CO s P o X := by
  have hsel : ∀ cs b, o.op ≠ .select cs b := fun cs b e => by rw [ho] at e; cases e
  unfold cBin at h
  obtain ⟨a, ha, h⟩ := bnd h
  obtain ⟨b, hb, h⟩ := bnd h
  obtain ⟨d, hd, h⟩ := bnd h
  split at h
  · cases h; exact .ii ho ha hb hd
  · rename_i e
    cases op <;> first | (cases e; done) | (cases h; exact .ep ho (.inl ⟨rfl, rfl⟩) ha hb hd trivial) | (cases h; exact .ep ho (.inr ⟨rfl, rfl⟩) ha hb hd trivial)
  · rename_i e
    cases op <;> first | (cases e; done) | (cases h; exact .ep ho (.inl ⟨rfl, rfl⟩) ha hb hd trivial) | (cases h; exact .ep ho (.inr ⟨rfl, rfl⟩) ha hb hd trivial)
  · rename_i e
    cases op <;> first | (cases e; done) | (cases h; exact .ep ho (.inl ⟨rfl, rfl⟩) ha hb hd trivial) | (cases h; exact .ep ho (.inr ⟨rfl, rfl⟩) ha hb hd trivial)
  · rename_i e
    cases op <;> first | (cases e; done) | (cases h; exact .ep ho (.inl ⟨rfl, rfl⟩) ha hb hd trivial) | (cases h; exact .ep ho (.inr ⟨rfl, rfl⟩) ha hb hd trivial)
  · cases h; exact .ge hsel
theorem cOp_CO (h : cOp s P o = some X) : CO s P o X := by
  unfold cOp at h
  split at h
  · rename_i ho
    obtain ⟨x, hx, rfl⟩ := smap h
    exact .mv (.inl ho) hx
  · rename_i ho
    obtain ⟨x, hx, rfl⟩ := smap h
    exact .mv (.inr ho) hx
  · rename_i ho
    obtain ⟨c, hc, h⟩ := bnd h
    obtain ⟨a, ha, h⟩ := bnd h
    obtain ⟨b, hb, h⟩ := bnd h
    cases h
    exact .pk ho hc ha hb
  · rename_i ho
    obtain ⟨cs, hc, rfl⟩ := smap h
    exact .al ho hc
  · rename_i ho
    obtain ⟨x, hx, rfl⟩ := smap h
    exact .bx ho hx
  · rename_i ho
    obtain ⟨z, hz, h⟩ := bnd h
    obtain ⟨d, hd, h⟩ := bnd h
    split at h
    · obtain ⟨pl, hpl, h⟩ := bnd h
      obtain ⟨ps, hps, h⟩ := bnd h
      cases h
      refine .bd ho hz hd ?_ hps
      rw [← hpl]
      congr 1
      funext f
      cases size P f.type <;> rfl
    · obtain ⟨z1, hz1, h⟩ := bnd h
      obtain ⟨ps, hps, h⟩ := bnd h
      cases h
      exact .bdA ho hz hd hz1 hps
    · cases h
  · rename_i ho
    obtain ⟨d, hd, h⟩ := bnd h
    split at h
    · obtain ⟨⟨z1, cs⟩, he, h⟩ := bnd h
      simp only at h
      split at h
      · rename_i hl
        obtain ⟨ps, hps, h⟩ := bnd h
        cases h
        exact .bl ho hd he hl hps
      · cases h
    · cases h
  · rename_i ho
    obtain ⟨a, ha, h⟩ := bnd h
    obtain ⟨ag, hag, h⟩ := bnd h
    split at h
    · obtain ⟨n, hn, h⟩ := bnd h
      cases h
      exact .lA ho ha hag hn
    · cases h
      exact .ld ho ha hag
  · rename_i ho
    obtain ⟨n, hn, h⟩ := bnd h
    obtain ⟨x, hx, h⟩ := bnd h
    obtain ⟨y, hy, h⟩ := bnd h
    cases h
    exact .st ho hn hx hy
  · rename_i ho
    obtain ⟨x, hx, rfl⟩ := smap h
    exact .nil ho hx
  · rename_i ho
    exact cBin_CO ho h
  · rename_i ho
    obtain ⟨x, hx, rfl⟩ := smap h
    exact .not ho hx
  · rename_i ho
    cases h
    exact .ge fun cs b e => by rw [ho] at e; cases e
  · rename_i ho
    split at h
    · rename_i e1 e2
      obtain ⟨x, hx, h⟩ := bnd h
      cases h
      exact .cv ho hx (.inl ⟨rfl, e1, e2⟩)
    · rename_i e1 e2
      obtain ⟨x, hx, h⟩ := bnd h
      cases h
      exact .cv ho hx (.inr ⟨rfl, e1, e2⟩)
    · rename_i e1 e2
      split at h
      · rename_i e3
        obtain ⟨x, hx, h⟩ := bnd h
        cases h
        exact .bs ho hx e1 e3 e2
      · cases h
    · cases h
      exact .ge fun cs b e => by rw [ho] at e; cases e
  · rename_i ho
    split at h
    · cases h
    · rename_i d hd hne
      obtain ⟨x, hx, h⟩ := bnd h
      cases h
      exact .mi ho hx hne fun ms e => hd ms e
    · cases h
  · rename_i ho
    obtain ⟨fs, hf, h⟩ := bnd h
    obtain ⟨cs, hc, h⟩ := bnd h
    cases h
    exact .mf ho hf hc
  · rename_i ho
    cases h
    exact .mm ho
  · rename_i ho
    obtain ⟨d, hd, h⟩ := bnd h
    split at h
    · obtain ⟨⟨z, cs⟩, he, h⟩ := bnd h
      obtain ⟨l, hl, h⟩ := bnd h
      obtain ⟨c, hc, h⟩ := bnd h
      cases h
      exact .ms ho hd he hl hc
    · cases h
  · rename_i ho
    obtain ⟨a, ha, h⟩ := bnd h
    obtain ⟨lo, hlo, h⟩ := bnd h
    obtain ⟨hi, hhi, h⟩ := bnd h
    obtain ⟨mx, hmx, h⟩ := bnd h
    obtain ⟨d, hd, h⟩ := bnd h
    split at h
    · split at h
      · cases h
      · rename_i hne
        obtain ⟨z, hz, h⟩ := bnd h
        cases h
        refine .sl ho hd hz ha hlo hhi hmx fun hm hh => ?_
        subst hh
        cases hhi
        rename_i mx' _ _
        cases mx with
        | none => exact hm (optA_none hmx)
        | some m => exact hne m rfl rfl
    · split at h
      · cases h
      · obtain ⟨z, hz, h⟩ := bnd h
        cases h
        have := optA_none hmx
        subst this
        exact .sa ho hd hz ha hlo hhi
    · cases h
      exact .ge fun cs b e => by rw [ho] at e; cases e
  · rename_i ho
    obtain ⟨d, hd, h⟩ := bnd h
    split at h
    · obtain ⟨f, hf, h⟩ := bnd h
      obtain ⟨z, hz, h⟩ := bnd h
      split at h
      · cases h
      · rename_i hz0
        obtain ⟨x, hx, h⟩ := bnd h
        cases h
        exact .fa ho hd hf hz hz0 hx
    · cases h
  · rename_i ho
    obtain ⟨d, hd, h⟩ := bnd h
    split at h
    · obtain ⟨f, hf, h⟩ := bnd h
      obtain ⟨ag, hag, h⟩ := bnd h
      obtain ⟨z, hz, h⟩ := bnd h
      obtain ⟨x, hx, h⟩ := bnd h
      cases h
      exact .fd ho hd hf hag hz hx
    · cases h
  · rename_i ho
    obtain ⟨d, hd, h⟩ := bnd h
    split at h
    · obtain ⟨z, hz, h⟩ := bnd h
      obtain ⟨x, hx, h⟩ := bnd h
      obtain ⟨i, hi, h⟩ := bnd h
      cases h
      exact .ia ho hd hz hx hi
    · obtain ⟨z, hz, h⟩ := bnd h
      obtain ⟨x, hx, h⟩ := bnd h
      obtain ⟨i, hi, h⟩ := bnd h
      cases h
      exact .iA ho hd hz hx hi
    · cases h
  · rename_i ho
    obtain ⟨d, hd, h⟩ := bnd h
    split at h
    · obtain ⟨ag, hag, h⟩ := bnd h
      obtain ⟨z, hz, h⟩ := bnd h
      obtain ⟨x, hx, h⟩ := bnd h
      obtain ⟨i, hi, h⟩ := bnd h
      cases h
      exact .iv ho hd hag hz hx hi
    · cases h
      exact .ge fun cs b e => by rw [ho] at e; cases e
  · rename_i ho
    obtain ⟨d, hd, h⟩ := bnd h
    split at h
    · obtain ⟨kk, hk, h⟩ := bnd h
      obtain ⟨z, hz, h⟩ := bnd h
      obtain ⟨x, hx, h⟩ := bnd h
      obtain ⟨i, hi, h⟩ := bnd h
      cases h
      exact .lk ho hd hk hz hx hi
    · cases h
  · rename_i ho
    obtain ⟨d, hd, h⟩ := bnd h
    split at h
    · obtain ⟨kk, hk, h⟩ := bnd h
      obtain ⟨m, hm, h⟩ := bnd h
      obtain ⟨k, hk', h⟩ := bnd h
      obtain ⟨v, hv, h⟩ := bnd h
      cases h
      exact .mu ho hd hk hm hk' hv
    · cases h
  · rename_i ho
    obtain ⟨d, hd, h⟩ := bnd h
    split at h
    · obtain ⟨kk, hk, h⟩ := bnd h
      obtain ⟨z, hz, h⟩ := bnd h
      obtain ⟨m, hm, h⟩ := bnd h
      obtain ⟨k, hk', h⟩ := bnd h
      cases h
      exact .me ho hd hk hz hm hk'
    · cases h
  · rename_i ho
    obtain ⟨m, hm, h⟩ := bnd h
    obtain ⟨k, hk, h⟩ := bnd h
    obtain ⟨v, hv, h⟩ := bnd h
    cases h
    exact .et ho hm hk hv
  · rename_i ho
    obtain ⟨d, hd, h⟩ := bnd h
    split at h
    · obtain ⟨x, hx, h⟩ := bnd h
      cases h
      exact .rg ho hd hx
    · cases h
  · rename_i ho
    obtain ⟨x, hx, h⟩ := bnd h
    cases h
    exact .nx ho hx
  · rename_i ho
    obtain ⟨x, hx, h⟩ := bnd h
    cases h
    exact .en ho hx
  · rename_i ho
    split at h
    · cases h
    · rename_i d hd hne
      obtain ⟨x, hx, h⟩ := bnd h
      cases h
      exact .ta ho hx hne fun ms e => hd ms e
    · cases h
  · rename_i ho
    obtain ⟨x, hx, h⟩ := bnd h
    cases h
    exact .ex ho hx
  · rename_i ho
    exact cCall_CO ho h
  · rename_i c ho
    obtain ⟨cal, args, tys⟩ := c
    cases cal with
    | value x' =>
      obtain ⟨x, hx, h⟩ := bnd h
      obtain ⟨aas, ha, h⟩ := bnd h
      cases h
      exact .df ho hx ha
    | _ => cases h
  · rename_i ho
    obtain ⟨x, hx, rfl⟩ := smap h
    exact .pn ho hx
  · cases h
end
end Go.Ex
namespace Go.Ex
open Go.Mo
set_option linter.unusedVariables false
set_option linter.constructorNameAsVariable false
set_option linter.unusedSimpArgs false
section
variable {P : Program} {W : Kp} {ξ : Nat → Int} {ρ : Rho} {o : Oper} {a : Act} {T : TT} {σ : St} {w : World}
def OpsS (ξ : Nat → Int) (ρ : Rho) (s : Sb) (T : TT) (a : Act) (o : Oper) : Prop := ∀ y ∈ o.op.operands.toList, ∀ A, cA s y = some A → VR ξ ρ (ev T A) (a.eval y)
theorem opsS_of {s : Sb} (h : TR ξ ρ s.1 T a.tmps) (hs : SR ξ ρ T s.2 a.tmps) (hl : opdsLt o = true) : OpsS ξ ρ s T a o := fun y hy A hA => cA_ok h hs hA (List.all_eq_true.1 hl y hy)
theorem sliceV_s {sz b : Nat} {i : Id} {off n c : Nat} {x : V} {l h : Option Nat} (hi : ρ i = some (b, c)) (hs : sliceV sz (.s i off n n) (l.getD 0) h none = some x) :
    l.getD 0 ≤ h.getD n ∧ h.getD n ≤ n ∧ VR ξ ρ x (.slice (if n = l.getD 0 then some ⟨b, off, none⟩ else some (Addr.add ⟨b, off, none⟩ (l.getD 0 * sz))) (h.getD n - l.getD 0) (n - l.getD 0)) := by
  obtain ⟨base, len, cap, hu, h1, h2, h3, hv⟩ := sliceV_ok (m := none) (VR.s (ξ := ξ) (o := off) (l := n) (c := n) hi) (fun h => absurd rfl h) hs
  cases hu
  exact ⟨h1, h2, by simpa using hv⟩
theorem sa_ok {x : A} {lo hi : Option A} {x' : Operand} {lo' hi' : Option Operand} {t elem : TypeId} {sz n : Nat} {v : V} {E : Env} (ho : o.op = .slice t x' lo' hi' none) (ht : P.underlying t = some (.array n elem)) (hz : size P elem = some sz) (hx : VR ξ ρ (ev T x) (a.eval x'))
    (hlo : ∀ y, lo = some y → ∃ y', lo' = some y' ∧ VR ξ ρ (ev T y) (a.eval y')) (hlo0 : lo = none → lo' = none) (hhi : ∀ y, hi = some y → ∃ y', hi' = some y' ∧ VR ξ ρ (ev T y) (a.eval y')) (hhi0 : hi = none → hi' = none) (h : pur E T (.sa sz n x lo hi none) = some v) : Pv P ξ ρ o a v := by
  -- with the bounds known
  have fin : ∀ (i : Id) (off : Nat) (l h : Option Nat), ev T x = .p i off → BO (lo'.map a.eval) l → BO (hi'.map a.eval) h → sliceV sz (.s i off n n) (l.getD 0) h none = some v → Pv P ξ ρ o a v := by
    intro i off l h e hl hh hs
    rw [e] at hx
    obtain ⟨b, c, hi, hu⟩ := hx.p_inv
    obtain ⟨h1, h2, hv⟩ := sliceV_s (ξ := ξ) hi hs
    refine ⟨_, fun w => ?_, hv⟩
    unfold execOp
    rw [ho]
    simp only [hu]
    have := run_slice2 (P := P) (ad := ⟨b, off, none⟩) ht hz hl hh BO.none (by simpa using h1) (by simpa using h2) (Nat.le_refl _) (fun h => absurd rfl h) w
    simp only [Option.map_none]
    simp only [Option.getD_none] at this
    simp only [Sem.run_bind, this, Result.andThen_ok, Sem.run_pure]
    congr 3
    split <;> rfl
  simp only [pur] at h
  generalize hxv : ev T x = xv at *
  split at h
  · rw [hlo0 rfl, hhi0 rfl] at fin
    exact fin _ _ none none rfl .none .none h
  · rename_i y _
    obtain ⟨y', hy1, hy⟩ := hlo y rfl
    split at h
    · rename_i l e
      obtain ⟨kk, hk⟩ := evN_t hy e
      rw [hy1, hhi0 rfl] at fin
      exact fin _ _ (some l) none rfl (by simp only [Option.map_some, hk]; exact .some kk l) .none h
    · cases h
  · rename_i y _
    obtain ⟨y', hy1, hy⟩ := hhi y rfl
    split at h
    · rename_i l e
      obtain ⟨kk, hk⟩ := evN_t hy e
      rw [hy1, hlo0 rfl] at fin
      exact fin _ _ none (some l) rfl .none (by simp only [Option.map_some, hk]; exact .some kk l) h
    · cases h
  · cases h
theorem putLO_t : ∀ {vs l : List V} {n : Nat} {l' : List V}, putLO vs l n = some l' → l' = l.take n ++ vs ++ l.drop (n + vs.length) ∧ (vs ≠ [] → n + vs.length ≤ l.length)
  | vs, [], n, l', h => by
    unfold putLO at h
    cases vs with
    | nil => cases h; simp
    | cons v vs => cases h
  | vs, y :: l, n + 1, l', h => by
    unfold putLO at h
    obtain ⟨r, hr, rfl⟩ := smap h
    obtain ⟨rfl, h2⟩ := putLO_t hr
    refine ⟨?_, fun h => by have := h2 h; simp; omega⟩
    rw [show n + 1 + vs.length = (n + vs.length) + 1 from by omega]
    simp
  | [], y :: l, 0, l', h => by
    unfold putLO at h
    cases h
    simp
  | v :: vs, y :: l, 0, l', h => by
    unfold putLO at h
    obtain ⟨r, hr, rfl⟩ := smap h
    obtain ⟨rfl, h2⟩ := putLO_t hr
    refine ⟨by simp, fun _ => ?_⟩
    by_cases hv : vs = []
    · subst hv; simp
    · have := h2 hv; simp; omega
theorem fold_cut (off : Nat) : ∀ (l : List Value) (k : Nat) (cs : Array Value), off + k + l.length ≤ cs.size → ((l.zipIdx k).foldl (fun (cs : Array Value) (p : Value × Nat) => cs.setIfInBounds (off + p.2) p.1) cs).toList = cut cs.toList (off + k) l
  | [], k, cs, _ => by simp [cut]
  | v :: l, k, cs, h => by
    simp only [List.length_cons] at h
    simp only [List.zipIdx_cons, List.foldl_cons]
    rw [fold_cut off l (k + 1) _ (by simp; omega)]
    unfold cut
    simp only [Array.toList_setIfInBounds, List.length_cons]
    rw [show off + (k + 1) = off + k + 1 from by omega, show off + k + 1 + l.length = off + k + (l.length + 1) from by omega]
    have e1 : (cs.toList.set (off + k) v).take (off + k + 1) = cs.toList.take (off + k) ++ [v] := by
      rw [List.take_add_one]
      simp [List.take_set_of_le, show off + k < cs.size by omega]
    rw [e1, List.drop_set_of_lt (by omega)]
    simp
theorem fill_ok {s : Sb} {pl : Nat → Option (Nat × Nat)} : ∀ (ps : List (Nat × Operand)) (ps' : List (Nat × Nat × A)) (z vs : List V) (zc : Array Value), cParts s pl ps = some ps' → VRs ξ ρ z zc.toList → fpart T ps' z = some vs → (∀ p ∈ ps, ∀ A, cA s p.2 = some A → VR ξ ρ (ev T A) (a.eval p.2)) →
    ∃ cs : Array Value, Instr.fill pl zc (ps.map fun p => (p.1, a.eval p.2)) = some cs ∧ VRs ξ ρ vs cs.toList
  | [], ps', z, vs, zc, h, hz, hf, _ => by
    cases h
    simp only [fpart, Option.some.injEq] at hf
    subst hf
    exact ⟨zc, rfl, hz⟩
  | (i, x) :: ps, ps', z, vs, zc, h, hz, hf, hx => by
    unfold cParts at h
    obtain ⟨⟨off, z1⟩, h1, h⟩ := bnd h
    obtain ⟨A, hA, h⟩ := bnd h
    obtain ⟨r, hr, h⟩ := bnd h
    have h : (match Nat.ble 1 z1 with
      | true => some ((off, z1, A) :: r)
      | false => none) = some ps' := h
    split at h
    · rename_i hz1
      have hz1 := ble_t hz1
      cases h
      simp only [fpart] at hf
      split at hf
      · rename_i hc
        simp only [Bool.and_eq_true, Bool.not_eq_true'] at hc
        split at hf
        · rename_i z' hz'
          have hv := cellsV_ok (hx (i, x) (by simp) A hA) hc.2
          have hlen := hv.length
          have hsz : (a.eval x).cells.size = z1 := by
            rw [← Nat.eq_of_beq_eq_true hc.1, hlen]
            simp
          obtain ⟨e, hle⟩ := putLO_t hz'
          have hl1 := Nat.eq_of_beq_eq_true hc.1
          have hle := hle (fun e => by rw [e] at hl1; simp at hl1; omega)
          have hle' : off + (a.eval x).cells.size ≤ zc.size := by
            have := hz.length
            simp only [Array.length_toList] at hlen this
            omega
          have hfold := fold_cut off (a.eval x).cells.toList 0 zc (by simpa using hle')
          have hz2 : VRs ξ ρ z' ((a.eval x).cells.zipIdx.foldl (fun cs (p : Value × Nat) => cs.setIfInBounds (off + p.2) p.1) zc).toList := by
            have : ((a.eval x).cells.zipIdx.foldl (fun cs (p : Value × Nat) => cs.setIfInBounds (off + p.2) p.1) zc) = ((a.eval x).cells.toList.zipIdx 0).foldl (fun (cs : Array Value) (p : Value × Nat) => cs.setIfInBounds (off + p.2) p.1) zc := by
              rw [← Array.foldl_toList, Array.toList_zipIdx]
            rw [this, hfold, e]
            unfold cut
            rw [Nat.add_zero, ← hlen]
            exact ((hz.take off).append hv).append (hz.drop _)
          obtain ⟨cs, h3, h4⟩ := fill_ok ps r z' vs _ hr hz2 hf fun p hp => hx p (by simp [hp])
          refine ⟨cs, ?_, h4⟩
          simp only [List.map_cons, Instr.fill, h1]
          rw [if_neg (by
            simp only [hsz, ne_eq, not_true_eq_false, Bool.or_eq_true, decide_eq_true_eq, false_or]
            rw [hsz] at hle'
            simp
            omega)]
          exact h3
        · cases hf
      · cases hf
    · cases h
theorem cells_ok {t : TypeId} {z : List V} (h : cells P t = some z) : ∃ zv, pureRun P (zeroValue t) = some zv ∧ VRs ξ ρ z zv.cells.toList := by
  simp only [cells, Option.map_eq_some_iff] at h
  obtain ⟨zv, h1, rfl⟩ := h
  exact ⟨zv, h1, viewL (view_ok 3) _⟩
theorem mem_part {ps : Array (Nat × Operand)} {p : Nat × Operand} (t : TypeId) (h : p ∈ ps.toList) : p.2 ∈ (Op.build t ps).operands.toList := by
  simp only [Op.operands, Array.toList_map]
  exact List.mem_map.2 ⟨p, h, rfl⟩
theorem run_places' : ∀ (fs : List Field) (pl : List (Nat × Nat)), fs.mapM (fun f => (size P f.type).map fun z => (f.offset, z)) = some pl → ∀ w, (fs.mapM fun f => Prod.mk f.offset <$> sizeOf f.type).run P w = .ok pl w
  | [], pl, h, w => by simp at h; subst h; simp
  | f :: fs, pl, h, w => by
    rw [List.mapM_cons] at h
    obtain ⟨p, hp, h⟩ := bnd h
    obtain ⟨ps, hps, h⟩ := bnd h
    cases h
    obtain ⟨z, hz, rfl⟩ := smap hp
    rw [List.mapM_cons]
    have ih := run_places' fs ps hps w
    simp [size_ok hz, ih]
theorem bd_ok {s : Sb} {t : TypeId} {ps : Array (Nat × Operand)} {z : List V} {fs : Array Field} {pl : List (Nat × Nat)} {ps' : List (Nat × Nat × A)} {v : V} {E : Env} (ho : o.op = .build t ps) (hz : cells P t = some z) (ht : P.underlying t = some (.struct fs)) (hpl : fs.toList.mapM (fun f => (size P f.type).map fun z => (f.offset, z)) = some pl)
    (hp : cParts s (fun i => pl[i]?) ps.toList = some ps') (hO : OpsS ξ ρ s T a o) (h : pur E T (.bd z ps') = some v) : Pv P ξ ρ o a v := by
  simp only [pur] at h
  cases hf : fpart T ps' z with
  | none => rw [hf] at h; cases h
  | some vs =>
    rw [hf] at h
    cases h
    obtain ⟨zv, hzv, hzs⟩ := cells_ok (ξ := ξ) (ρ := ρ) hz
    obtain ⟨cs, h1, h2⟩ := fill_ok (a := a) ps.toList ps' z vs zv.cells hp hzs hf fun p hp => hO p.2 (by rw [ho]; exact mem_part t hp)
    refine ⟨.agg cs, fun w => ?_, by simpa using VR.a h2⟩
    unfold execOp
    rw [ho]
    have e : (ps.map fun x => match x with | (i, x) => (i, a.eval x)).toList = ps.toList.map fun p => (p.1, a.eval p.2) := by rw [Array.toList_map]
    have hpl' : (fs.mapM fun f => (do pure (f.offset, ← sizeOf f.type) : Sem (Nat × Nat))).run P w = .ok pl.toArray w := by
      rw [Array.mapM_eq_mapM_toList]
      simp [run_places' _ _ hpl w]
    have h1' : Instr.fill (fun x => pl.toArray[x]?) zv.cells (ps.map fun x => match x with | (i, x) => (i, a.eval x)).toList = some cs := by rw [e]; simpa using h1
    simp only [Instr.build, Sem.run_bind, pureRun_ok hzv, Result.andThen_ok, run_und ht]
    rw [show (fs.mapM fun f => (do let __do_lift ← sizeOf f.type; pure (f.offset, __do_lift) : Sem (Nat × Nat))).run P w = .ok pl.toArray w from hpl']
    simp only [Result.andThen_ok, h1', Sem.run_pure]
theorem bdA_ok {s : Sb} {t : TypeId} {ps : Array (Nat × Operand)} {z : List V} {n z1 : Nat} {e : TypeId} {ps' : List (Nat × Nat × A)} {v : V} {E : Env} (ho : o.op = .build t ps) (hz : cells P t = some z) (ht : P.underlying t = some (.array n e)) (hz1 : size P e = some z1)
    (hp : cParts s (fun i => some (i * z1, z1)) ps.toList = some ps') (hO : OpsS ξ ρ s T a o) (h : pur E T (.bd z ps') = some v) : Pv P ξ ρ o a v := by
  simp only [pur] at h
  cases hf : fpart T ps' z with
  | none => rw [hf] at h; cases h
  | some vs =>
    rw [hf] at h
    cases h
    obtain ⟨zv, hzv, hzs⟩ := cells_ok (ξ := ξ) (ρ := ρ) hz
    obtain ⟨cs, h1, h2⟩ := fill_ok (a := a) ps.toList ps' z vs zv.cells hp hzs hf fun p hp => hO p.2 (by rw [ho]; exact mem_part t hp)
    refine ⟨.agg cs, fun w => ?_, by simpa using VR.a h2⟩
    unfold execOp
    rw [ho]
    have e : (ps.map fun x => match x with | (i, x) => (i, a.eval x)).toList = ps.toList.map fun p => (p.1, a.eval p.2) := by rw [Array.toList_map]
    rw [← e] at h1
    simp only [Instr.build, Sem.run_bind, pureRun_ok hzv, Result.andThen_ok, run_und ht, size_ok hz1, h1, Sem.run_pure]
end
end Go.Ex
