/-
  A part of the proof: predicate transformers over the model, and a separation logic over them; what functions of the program do.
-/
import Derived.Test.YtldmeimebebllaaGreatPart4
import Derived.Test.YtldmeimebebllaaGreatProg
set_option linter.unusedSimpArgs false
namespace Go.Proofs.Ytldmeimebebllaa
open Go.Mo Go.Shelf
set_option maxRecDepth 100000
def sortRen : Go.Shelf.Ren := ⟨fun | 5 => 110 | 8 => 119 | 7 => 118 | 19 => 130 | 20 => 131 | 10 => 121 | 11 => 122 | 12 => 123 | 13 => 124 | 14 => 125 | 15 => 126 | 16 => 127 | 17 => 128 | 18 => 129 | 30 => 132 | 31 => 133 | 32 => 134 | 33 => 135 | 34 => 136 | 35 => 137 | 40 => 138 | n => n, fun | 23 => 33 | 25 => 3 | 3 => 3 | 32 => 158 | 22 => 33 | 0 => 0 | 44 => 168 | 46 => 170 | 4 => 4 | 36 => 162 | 35 => 161 | 41 => 136 | 5 => 5 | 9 => 9 | 53 => 171 | 57 => 175 | 63 => 177 | 64 => 123 | n => n, fun | n => n⟩
theorem sortLay : SlLaysM.n5 Tryz.prog sortRen := {
  mixed := by kernel_rfl,
  f5 := ⟨Tryz.f110.name, by decide, Tryz.func110.trans (congrArg some (by kernel_rfl))⟩,
  f7 := ⟨Tryz.f118.name, by decide, Tryz.func118.trans (congrArg some (by kernel_rfl))⟩,
  f8 := Tryz.func119.trans (congrArg some (by kernel_rfl)),
  f10 := ⟨Tryz.f121.name, by decide, Tryz.func121.trans (congrArg some (by kernel_rfl))⟩,
  f11 := ⟨Tryz.f122.name, by decide, Tryz.func122.trans (congrArg some (by kernel_rfl))⟩,
  f12 := ⟨Tryz.f123.name, by decide, Tryz.func123.trans (congrArg some (by kernel_rfl))⟩,
  f13 := ⟨Tryz.f124.name, by decide, Tryz.func124.trans (congrArg some (by kernel_rfl))⟩,
  f14 := ⟨Tryz.f125.name, by decide, Tryz.func125.trans (congrArg some (by kernel_rfl))⟩,
  f15 := ⟨Tryz.f126.name, by decide, Tryz.func126.trans (congrArg some (by kernel_rfl))⟩,
  f16 := ⟨Tryz.f127.name, by decide, Tryz.func127.trans (congrArg some (by kernel_rfl))⟩,
  f17 := ⟨Tryz.f128.name, by decide, Tryz.func128.trans (congrArg some (by kernel_rfl))⟩,
  f18 := ⟨Tryz.f129.name, by decide, Tryz.func129.trans (congrArg some (by kernel_rfl))⟩,
  f19 := Tryz.func130.trans (congrArg some (by kernel_rfl)),
  f20 := Tryz.func131.trans (congrArg some (by kernel_rfl)),
  f30 := ⟨Tryz.f132.name, by decide, Tryz.func132.trans (congrArg some (by kernel_rfl))⟩,
  f31 := Tryz.func133.trans (congrArg some (by kernel_rfl)),
  f32 := Tryz.func134.trans (congrArg some (by kernel_rfl)),
  f33 := ⟨Tryz.f135.name, by decide, Tryz.func135.trans (congrArg some (by kernel_rfl))⟩,
  f34 := ⟨Tryz.f136.name, by decide, Tryz.func136.trans (congrArg some (by kernel_rfl))⟩,
  f35 := ⟨Tryz.f137.name, by decide, Tryz.func137.trans (congrArg some (by kernel_rfl))⟩,
  f40 := ⟨Tryz.f138.name, by decide, Tryz.func138.trans (congrArg some (by kernel_rfl))⟩,
  t0 := Tryz.underlying0,
  a0 := Tryz.isAgg0,
  z0 := Tryz.sizeOf0,
  v0 := Tryz.zeroValue0,
  t3 := Tryz.underlying3,
  a3 := Tryz.isAgg3,
  z3 := Tryz.sizeOf3,
  v3 := Tryz.zeroValue3,
  t4 := Tryz.underlying4,
  a4 := Tryz.isAgg4,
  z4 := Tryz.sizeOf4,
  v4 := Tryz.zeroValue4,
  t5 := Tryz.underlying5,
  a5 := Tryz.isAgg5,
  z5 := Tryz.sizeOf5,
  v5 := Tryz.zeroValue5,
  t9 := Tryz.underlying9,
  a9 := Tryz.isAgg9,
  z9 := Tryz.sizeOf9,
  v9 := Tryz.zeroValue9,
  t22 := Tryz.underlying33,
  a22 := Tryz.isAgg33,
  z22 := Tryz.sizeOf33,
  v22 := Tryz.zeroValue33,
  t23 := Tryz.underlying33,
  a23 := Tryz.isAgg33,
  z23 := Tryz.sizeOf33,
  v23 := Tryz.zeroValue33,
  t25 := Tryz.underlying3,
  a25 := Tryz.isAgg3,
  z25 := Tryz.sizeOf3,
  v25 := Tryz.zeroValue3,
  t32 := Tryz.underlying158,
  a32 := Tryz.isAgg158,
  z32 := Tryz.sizeOf158,
  v32 := Tryz.zeroValue158,
  t35 := Tryz.underlying161,
  a35 := Tryz.isAgg161,
  z35 := Tryz.sizeOf161,
  v35 := Tryz.zeroValue161,
  t36 := Tryz.underlying162,
  a36 := Tryz.isAgg162,
  z36 := Tryz.sizeOf162,
  v36 := Tryz.zeroValue162,
  t41 := Tryz.underlying136,
  a41 := Tryz.isAgg136,
  z41 := Tryz.sizeOf136,
  v41 := Tryz.zeroValue136,
  t44 := Tryz.underlying168,
  a44 := Tryz.isAgg168,
  z44 := Tryz.sizeOf168,
  v44 := Tryz.zeroValue168,
  t46 := Tryz.underlying170,
  a46 := Tryz.isAgg170,
  z46 := Tryz.sizeOf170,
  v46 := Tryz.zeroValue170,
  t53 := Tryz.underlying171,
  a53 := Tryz.isAgg171,
  z53 := Tryz.sizeOf171,
  v53 := Tryz.zeroValue171,
  t57 := Tryz.underlying175,
  a57 := Tryz.isAgg175,
  z57 := Tryz.sizeOf175,
  v57 := Tryz.zeroValue175,
  t63 := Tryz.underlying177,
  a63 := Tryz.isAgg177,
  z63 := Tryz.sizeOf177,
  v63 := Tryz.zeroValue177,
  t64 := Tryz.underlying123,
  a64 := Tryz.isAgg123,
  z64 := Tryz.sizeOf123,
  v64 := Tryz.zeroValue123
}
theorem slices_Sort_i_sim (p0 : Slc) (Qf : Unit → World → Prop) (w : World) (hm : sortM p0 Qf w) : Calls Tryz.prog 110 #[.slice p0.base p0.len p0.cap] w (RetPost (fun _ : Unit => .tuple #[]) Qf) := sortM_sim sortLay p0 Qf w hm
end Go.Proofs.Ytldmeimebebllaa
namespace Go.Mo
set_option linter.unusedVariables false
abbrev vi (n : Int) : Value := .int .i64 n
abbrev vb (b : Bool) : Value := .bool b
abbrev vp (a : Addr) : Value := .pointer (some a)
abbrev va (a : Addr) (n : Nat) : Value := .pointer (some (Addr.add a n))
abbrev vl (s : Slc) : Int := ((s.len : Nat) : Int)
abbrev Sm (P : Program) {ρ : Type} (f : FuncId) (l : List Value) (enc : ρ → Value) (m : M ρ) : Prop := ∀ (Qf : ρ → World → Prop) (w : World), m Qf w → Calls P f l.toArray w (RetPost enc Qf)
theorem sm_of {P : Program} {ρ : Type} {enc : ρ → Value} {f : FuncId} {fn : Func} {c : Code} {l : List Value} {m : M ρ} (n : Nat) (hf : P.funcs[f]? = some fn) (hb : fn.body = some c) (hn : fn.ntmps = n) (hl : Nat.ble l.length n = true)
    (h : ∀ Qf : ρ → World → Prop, SC none P ⟨n, []⟩ (bodyQ P fn (RetPost enc Qf)) Qf c (ixT 0 l) m) : Sm P f l enc m := fun Qf w hm => calls_of n hf hb hn hl h Qf w hm
section
variable {rd : Option Nat} {P : Program} {n : Nd} {Q : Exit → Act → World → Prop} {α β σ : Type} {Qf : α → World → Prop} {ops : Array Oper} {o : Oper} {T : Tm} {K : Act → World → Prop} {S : World → Prop} {d : Nat} {m : M α}
variable {F : Nat → Bool} {fuel : Nat} {listed : Array Bool}
theorem zq {c c' : Code} (h : SC rd P n (Exit.then (Wp rd P c' Q) Q) Qf c T m) : SC rd P n Q Qf (.seq c c') T m := SC.seq h
theorem zg {id : Nat} {l : List Oper} (h : KT n Qf T m (WL rd P l.toArray Q l)) : SC rd P n Q Qf (.region id l.toArray false) T m := SC.region' h
theorem zG {id : Nat} {l : List Oper} {c' : Code} (h : KT n Qf T m (WL rd P l.toArray (Exit.then (Wp rd P c' Q) Q) l)) : SC rd P n Q Qf (.seq (.region id l.toArray false) c') T m := SC.seq (SC.region' h)
theorem zn {c : Code} (h : SC rd P n Q Qf c T m) : KT n Qf T m (WL rd P ops (Exit.then (Wp rd P c Q) Q) []) := KT.nil (SX.seq h)
theorem zN {id : Nat} {l : List Oper} {c' : Code} (h : KT n Qf T m (WL rd P l.toArray (Exit.then (Wp rd P c' Q) Q) l)) : KT n Qf T m (WL rd P ops (Exit.then (Wp rd P (.seq (.region id l.toArray false) c') Q) Q) []) := zn (zG h)
theorem zw {c : Code} (h : SC rd P n Q Qf c T m) : SC rd P n (Exit.then (Wp rd P c Q) Q) Qf .skip T m := SC.skip (SX.seq h)
theorem zp {os : List Oper} (d : Nat) (v : Value) (h : KT n Qf ((d, v) :: T) m (WL rd P ops Q os)) (hw : wantedB ops T o = some true := by kernel_rfl) (hd : defined T o = true := by kernel_rfl)
    (hv : ∀ w, (execOp (rho T) o).run P w = .ok (.value v) w := by intro _; kernel_rfl) (hn : o.dst = some d := by rfl) (hb : Nat.blt d n.n = true := by rfl) : KT n Qf T m (WL rd P ops Q (o :: os)) := KT.oy hw (OY.pv v hd hv hn hb h)
theorem zk {os : List Oper} (h : KT n Qf (dstT T undef o.dst) m (WL rd P ops Q os)) (hw : wantedB ops T o = some false := by kernel_rfl) (hd : dstOK n o.dst = true := by rfl) :
    KT n Qf T m (WL rd P ops Q (o :: os)) := KT.skip hw hd h
theorem zc {os : List Oper} {k : β → M α} {callee : M β} {enc : β → Value} {f : Nat} {vs : List Value} (d : Nat) (hc : Sm P f vs enc callee) (h : ∀ y, KT n Qf ((d, enc y) :: T) (k y) (WL rd P ops Q os)) (hw : wantedB ops T o = some true := by kernel_rfl) (hd : defined T o = true := by kernel_rfl) (he : ∀ w, (execOp (rho T) o).run P w = .ok (.enter f vs.toArray) w := by intro _; kernel_rfl)
    (hn : o.dst = some d := by rfl) (hb : Nat.blt d n.n = true := by rfl) : KT n Qf T (bindM callee k) (WL rd P ops Q (o :: os)) := KT.ow hw (OW.call f vs.toArray hd he hc hn hb h)
theorem ocall {k : β → M α} {callee : M β} {enc : β → Value} {f : Nat} {vs : List Value} (d : Nat) (hc : Sm P f vs enc callee) (h : ∀ y, KT n Qf ((d, enc y) :: T) (k y) K) (hd : defined T o = true := by kernel_rfl) (he : ∀ w, (execOp (rho T) o).run P w = .ok (.enter f vs.toArray) w := by intro _; kernel_rfl)
    (hn : o.dst = some d := by rfl) (hb : Nat.blt d n.n = true := by rfl) : OW rd P Q n Qf o T (bindM callee k) K := OW.call f vs.toArray hd he hc hn hb h
theorem ola {k : β → M α} {enc : β → List Value} {ad : Addr} {t : TypeId} {x : Operand} (d N : Nat) (h : ∀ y, KT n Qf ((d, .agg (enc y).toArray) :: T) (k y) K) (ho : o.op = .load t x := by rfl) (hx : ev T x = some (.pointer (some ad)) := by rfl) (ha : aggT P t = true := by kernel_rfl)
    (hs : (P.info? t).map (·.size) = some N := by kernel_rfl) (hl : ∀ y, (enc y).length = N := by exact fun _ => rfl) (hn : o.dst = some d := by rfl) (hb : Nat.blt d n.n = true := by rfl) : OW rd P Q n Qf o T (bindM (Mo.ldA enc ad) k) K := OW.ldA N t x ho hx ha hs hl hn hb h
theorem osa {k : Unit → M α} {ad : Addr} {vs : List Value} {N : Nat} {t : TypeId} {x y : Operand} (h : KT n Qf T (k ()) K) (ho : o.op = .store t x y := by rfl) (hx : ev T x = some (.pointer (some ad)) := by rfl) (hy : ev T y = some (.agg vs.toArray) := by rfl)
    (hl : vs.length = N := by rfl) (hn : o.dst = none := by rfl) (ht : (P.info? t).map (·.size) = some N := by kernel_rfl) : OW rd P Q n Qf o T (bindM (Mo.stA ad vs) k) K := OW.stA t x y ho hx hy hl hn ht h
theorem oli {k : β → M α} {enc : β → Value} {ad : Addr} {t : TypeId} {x : Operand} (d : Nat) (h : ∀ y, KT n Qf ((d, enc y) :: T) (k y) K) (ho : o.op = .load t x := by rfl) (hx : ev T x = some (.pointer (some ad)) := by rfl) (ht : plainT P t = true := by kernel_rfl)
    (hn : o.dst = some d := by rfl) (hb : Nat.blt d n.n = true := by rfl) : OY P n S Qf o T (bindM (Mo.ldI S enc ad) k) K := OY.ldI t x ho hx ht hn hb h
theorem olai {k : β → M α} {enc : β → List Value} {ad : Addr} {t : TypeId} {x : Operand} (d N : Nat) (h : ∀ y, KT n Qf ((d, .agg (enc y).toArray) :: T) (k y) K) (ho : o.op = .load t x := by rfl) (hx : ev T x = some (.pointer (some ad)) := by rfl) (ha : aggT P t = true := by kernel_rfl)
    (hs : (P.info? t).map (·.size) = some N := by kernel_rfl) (hl : ∀ y, (enc y).length = N := by exact fun _ => rfl) (hn : o.dst = some d := by rfl) (hb : Nat.blt d n.n = true := by rfl) : OY P n S Qf o T (bindM (Mo.ldAI S enc ad) k) K := OY.ldAI N t x ho hx ha hs hl hn hb h
theorem oix {k : Addr → M α} {s : Slc} {i : Int} {ki : IntKind} {size : Nat} {t : TypeId} {x ix : Operand} (d elem : Nat) (h : ∀ ad, KT n Qf ((d, .pointer (some ad)) :: T) (k ad) K) (ho : o.op = .indexAddr t x ix := by rfl)
    (hx : ev T x = some (.slice s.base s.len s.cap) := by rfl) (hi : ev T ix = some (.int ki i) := by rfl) (ht : P.underlying t = some (.slice elem) := by kernel_rfl) (hs : (P.info? elem).map (·.size) = some size := by kernel_rfl)
    (hn : o.dst = some d := by rfl) (hb : Nat.blt d n.n = true := by rfl) : OY P n S Qf o T (bindM (idxM s i size) k) K := OY.idx t x ix ho hx hi ht hs hn hb h
theorem onil {k : Addr → M α} {p : Option Addr} {x : Operand} (d : Nat) (h : ∀ ad, KT n Qf ((d, .pointer (some ad)) :: T) (k ad) K) (ho : o.op = .nilCheck x := by rfl) (hx : ev T x = some (.pointer p) := by rfl) (hn : o.dst = some d := by rfl) (hb : Nat.blt d n.n = true := by rfl) :
    OY P n S Qf o T (bindM (nilM p) k) K := OY.nil x ho hx hn hb h
theorem oapp {k : Slc → M α} {s x : Slc} {z : List Value} {t : TypeId} {xs xx : Operand} {bytes : Nat} (d elem : Nat) (h : ∀ s, KT n Qf ((d, vS s) :: T) (k s) K) (ho : o.op = .call ⟨.builtin .append, #[xs, xx], #[t, t]⟩ := by rfl) (hs : ev T xs = some (.slice s.base s.len s.cap) := by rfl) (hx : ev T xx = some (.slice x.base x.len x.cap) := by rfl)
    (ht : P.underlying t = some (.slice elem) := by kernel_rfl) (hz : (P.info? elem).map (fun i => (i.zero.map (·.cells.toList), i.size, i.bytes)) = some (some z, z.length, bytes) := by kernel_rfl) (hb0 : Nat.blt 0 bytes = true := by rfl)
    (hn : o.dst = some d := by rfl) (hb : Nat.blt d n.n = true := by rfl) : OW rd P Q n Qf o T (bindM (appendM z bytes s x) k) K := OW.append z bytes elem t t xs xx ho hs hx rfl ht hz hb0 hn hb h
theorem zo {os : List Oper} (h : OW rd P Q n Qf o T m (WL rd P ops Q os)) (hw : wantedB ops T o = some true := by kernel_rfl) : KT n Qf T m (WL rd P ops Q (o :: os)) := KT.ow hw h
theorem zy {os : List Oper} (h : OY P n (fun _ => True) Qf o T m (WL rd P ops Q os)) (hw : wantedB ops T o = some true := by kernel_rfl) : KT n Qf T m (WL rd P ops Q (o :: os)) := KT.oy hw h
theorem zpA (i d : Nat) (v : Value) (h : KT n Qf ((d, v) :: T) m (AH rd P ops Q S F fuel (listed.setIfInBounds i true))) [hQ : PanicOK Q] (hi : ops[i]? = some o := by rfl) (hc : takeOKp ops F listed i = true := by kernel_rfl)
    (hw : wantedB ops T o = some true := by kernel_rfl) (hd : defined T o = true := by kernel_rfl)
    (hv : ∀ w, (execOp (rho T) o).run P w = .ok (.value v) w := by intro _; kernel_rfl) (hn : o.dst = some d := by rfl) (hb : Nat.blt d n.n = true := by rfl) : KT n Qf T m (AH rd P ops Q S F (fuel + 1) listed) :=
  KT.takeP i hi hc hQ hw (OY.pv v hd hv hn hb h)
theorem zkA (i : Nat) (hi : ops[i]? = some o) (h : KT n Qf (dstT T undef o.dst) m (AH rd P ops Q S F fuel (listed.setIfInBounds i true))) [hQ : PanicOK Q] (hc : takeOKp ops F listed i = true := by kernel_rfl)
    (hw : wantedB ops T o = some false := by kernel_rfl) (hd : dstOK n o.dst = true := by rfl) : KT n Qf T m (AH rd P ops Q S F (fuel + 1) listed) := KT.takeSkip i hi hc hQ hw hd h
theorem zA (i : Nat) (hi : ops[i]? = some o) (h : OY P n S Qf o T m (AH rd P ops Q S F fuel (listed.setIfInBounds i true))) [hQ : PanicOK Q] (hc : takeOK ops F listed i = true := by kernel_rfl)
    (hw : wantedB ops T o = some true := by kernel_rfl) : KT n Qf T m (AH rd P ops Q S F (fuel + 1) listed) := KT.take i hi hc hQ hw h
theorem zB (i : Nat) (hi : ops[i]? = some o) (h : OY P n (fun _ => True) Qf o T m (AH rd P ops Q S F fuel (listed.setIfInBounds i true))) [hQ : PanicOK Q] (hc : takeOKp ops F listed i = true := by kernel_rfl)
    (hw : wantedB ops T o = some true := by kernel_rfl) : KT n Qf T m (AH rd P ops Q S F (fuel + 1) listed) := KT.takeP i hi hc hQ hw h
theorem zl {rest : List Oper} {k : β → M α} {b : β} {T0 : β → Tm} (h : ∀ b, KT n Qf (T0 b) (k b) (WL rd P ops Q rest)) (hs : Sub T (T0 b) := by repeat (first | exact .nil | refine .cons rfl ?_)) :
    KT n (fun b w => k b Qf w) T (pureM b) (WL rd P ops (Exit.then (WL rd P ops Q rest) Q) []) := KT.leafO h hs
theorem zX {I : σ → World → Prop} {lt : Nat} {μ : σ → World → Nat} {N0 : σ → Nd} {T0 : σ → Tm} {s : σ} (hs : Sub T (T0 s) := by repeat (first | exact .nil | refine .cons rfl ?_)) (hn : N0 s = n := by rfl) :
    SX n .normal (loopQ N0 T0 I lt μ Q) (loopPost I lt μ Qf) T (pureM (.inl s)) := SX.loop_next hs hn
theorem zL {c : Code} {body : σ → M (σ ⊕ α)} {s : σ} (T0 : σ → Tm) (h : ∀ (I : σ → World → Prop) (lt : Nat) (μ : σ → World → Nat) (s : σ), SC rd P n (loopQ (fun _ => n) T0 I lt μ Q) (loopPost I lt μ Qf) c (T0 s) (body s))
    (hs : Sub T (T0 s) := by repeat (first | exact .nil | refine .cons rfl ?_)) : SC rd P n Q Qf (.loop c) T (loopM body s) := SC.loop T0 hs h
theorem zS {T' : Tm} {e : Exit} (h : SX n e Q Qf T' m) (hs : Sub T T' := by repeat (first | exact .nil | refine .cons rfl ?_)) : SX n e Q Qf T m := SX.sub hs h
theorem zf {k : β → M α} {b : β} {T0 : β → Tm} {e : Exit} (h : ∀ b, SX n e Q Qf (T0 b) (k b)) (hs : Sub T (T0 b) := by repeat (first | exact .nil | refine .cons rfl ?_)) : SX n e Q (joinPost k Qf) T (pureM (.inl b)) := SX.leafS h hs
theorem zt {K : Act → World → Prop} (h : SX n .ret Q Qf T m) : SC rd P n (Exit.then K Q) Qf .ret T m := SC.ret (SX.then_ret h)
theorem zj {os : List Oper} {m : M Bool} {k : Bool → M α} (j : Nat) (T0 : Bool → Tm)
    (h2 : ∀ b, KT n Qf (T0 b) (k b) (WL rd P ops Q (os.drop j)))
    (h : (∀ b, KT n Qf (T0 b) (k b) (WL rd P ops Q (os.drop j))) → KT n (fun b w => k b Qf w) T m (WL rd P ops (Exit.then (WL rd P ops Q (os.drop j)) Q) (os.take j))) :
    KT n Qf T (bindM m k) (WL rd P ops Q os) := KT.joinO j T0 h2 h
end
section
variable {n : Nd} {P : Program} {ρ : Type} {enc : ρ → Value} {Qf : ρ → World → Prop} {rs : List ResultVar} {acc : List Value} {T : Tm}
theorem ze {m : M ρ} {fn : Func} (rs : List ResultVar) (h : RS P n enc Qf rs [] T m) (hrs : fn.results = rs.toArray := by rfl) :
    SX n .ret (bodyQ P fn (RetPost enc Qf)) Qf T (takesM n.ds m) := SX.ret rs hrs h
theorem zm {m : M ρ} {t : Nat} {v : Value} (hv : lk T t = some v) (h : RS P n enc Qf rs (acc ++ [v]) T m) : RS P n enc Qf (.tmp t :: rs) acc T m := RS.tmp v hv h
theorem zz {x : ρ} (h : (if h : acc.length = 1 then acc[0] else .tuple acc.toArray) = enc x := by rfl) : RS P n enc Qf [] acc T (pureM x) := RS.nil h
end
end Go.Mo
