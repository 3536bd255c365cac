/-
  A part of the proof: predicate transformers over the model, and a separation logic over them; what functions of the program do.
-/
import Derived.Test.YtldmeimebebllaaDoorPart1
import Derived.Test.YtldmeimebebllaaDoorProg
set_option linter.unusedSimpArgs false
namespace Go.Proofs.Ytldmeimebebllaa
open Go.Mo Go.Shelf
set_option maxRecDepth 100000
def sortRen_c1 : Go.Shelf.Ren := ⟨fun | 6 => 24 | 15 => 37 | 14 => 36 | 28 => 58 | 29 => 59 | 20 => 50 | 21 => 51 | 22 => 52 | 23 => 53 | 24 => 54 | 25 => 55 | 26 => 56 | 27 => 57 | 46 => 73 | 47 => 74 | 48 => 75 | 49 => 76 | 50 => 77 | 57 => 83 | n => n, fun | 22 => 37 | 24 => 39 | 25 => 61 | 3 => 3 | 39 => 73 | 0 => 0 | 53 => 92 | 55 => 94 | 4 => 4 | 46 => 86 | 45 => 85 | 50 => 54 | 5 => 5 | 9 => 9 | 66 => 104 | 70 => 108 | 76 => 112 | 77 => 113 | n => n, fun | n => n⟩
theorem sortLay_c1 : SlLaysF0.n6 Tryd.prog sortRen_c1 := {
  mixed := by kernel_rfl,
  f6 := ⟨Tryd.f24.name, by decide, Tryd.func24.trans (congrArg some (by kernel_rfl))⟩,
  f14 := ⟨Tryd.f36.name, by decide, Tryd.func36.trans (congrArg some (by kernel_rfl))⟩,
  f15 := Tryd.func37.trans (congrArg some (by kernel_rfl)),
  f20 := ⟨Tryd.f50.name, by decide, Tryd.func50.trans (congrArg some (by kernel_rfl))⟩,
  f21 := ⟨Tryd.f51.name, by decide, Tryd.func51.trans (congrArg some (by kernel_rfl))⟩,
  f22 := ⟨Tryd.f52.name, by decide, Tryd.func52.trans (congrArg some (by kernel_rfl))⟩,
  f23 := ⟨Tryd.f53.name, by decide, Tryd.func53.trans (congrArg some (by kernel_rfl))⟩,
  f24 := ⟨Tryd.f54.name, by decide, Tryd.func54.trans (congrArg some (by kernel_rfl))⟩,
  f25 := ⟨Tryd.f55.name, by decide, Tryd.func55.trans (congrArg some (by kernel_rfl))⟩,
  f26 := ⟨Tryd.f56.name, by decide, Tryd.func56.trans (congrArg some (by kernel_rfl))⟩,
  f27 := ⟨Tryd.f57.name, by decide, Tryd.func57.trans (congrArg some (by kernel_rfl))⟩,
  f28 := Tryd.func58.trans (congrArg some (by kernel_rfl)),
  f29 := Tryd.func59.trans (congrArg some (by kernel_rfl)),
  f46 := ⟨Tryd.f73.name, by decide, Tryd.func73.trans (congrArg some (by kernel_rfl))⟩,
  f47 := Tryd.func74.trans (congrArg some (by kernel_rfl)),
  f48 := Tryd.func75.trans (congrArg some (by kernel_rfl)),
  f49 := ⟨Tryd.f76.name, by decide, Tryd.func76.trans (congrArg some (by kernel_rfl))⟩,
  f50 := ⟨Tryd.f77.name, by decide, Tryd.func77.trans (congrArg some (by kernel_rfl))⟩,
  f57 := ⟨Tryd.f83.name, by decide, Tryd.func83.trans (congrArg some (by kernel_rfl))⟩,
  t0 := Tryd.underlying0,
  a0 := Tryd.isAgg0,
  z0 := Tryd.sizeOf0,
  v0 := Tryd.zeroValue0,
  t3 := Tryd.underlying3,
  a3 := Tryd.isAgg3,
  z3 := Tryd.sizeOf3,
  v3 := Tryd.zeroValue3,
  t4 := Tryd.underlying4,
  a4 := Tryd.isAgg4,
  z4 := Tryd.sizeOf4,
  v4 := Tryd.zeroValue4,
  t5 := Tryd.underlying5,
  a5 := Tryd.isAgg5,
  z5 := Tryd.sizeOf5,
  v5 := Tryd.zeroValue5,
  t9 := Tryd.underlying9,
  a9 := Tryd.isAgg9,
  z9 := Tryd.sizeOf9,
  v9 := Tryd.zeroValue9,
  t22 := Tryd.underlying37,
  a22 := Tryd.isAgg37,
  z22 := Tryd.sizeOf37,
  v22 := Tryd.zeroValue37,
  t25 := Tryd.underlying61,
  a25 := Tryd.isAgg61,
  z25 := Tryd.sizeOf61,
  v25 := Tryd.zeroValue61,
  t39 := Tryd.underlying73,
  a39 := Tryd.isAgg73,
  z39 := Tryd.sizeOf73,
  v39 := Tryd.zeroValue73,
  t45 := Tryd.underlying85,
  a45 := Tryd.isAgg85,
  z45 := Tryd.sizeOf85,
  v45 := Tryd.zeroValue85,
  t46 := Tryd.underlying86,
  a46 := Tryd.isAgg86,
  z46 := Tryd.sizeOf86,
  v46 := Tryd.zeroValue86,
  t50 := Tryd.underlying54,
  a50 := Tryd.isAgg54,
  z50 := Tryd.sizeOf54,
  v50 := Tryd.zeroValue54,
  t53 := Tryd.underlying92,
  a53 := Tryd.isAgg92,
  z53 := Tryd.sizeOf92,
  v53 := Tryd.zeroValue92,
  t55 := Tryd.underlying94,
  a55 := Tryd.isAgg94,
  z55 := Tryd.sizeOf94,
  v55 := Tryd.zeroValue94,
  t66 := Tryd.underlying104,
  a66 := Tryd.isAgg104,
  z66 := Tryd.sizeOf104,
  v66 := Tryd.zeroValue104,
  t70 := Tryd.underlying108,
  a70 := Tryd.isAgg108,
  z70 := Tryd.sizeOf108,
  v70 := Tryd.zeroValue108,
  t76 := Tryd.underlying112,
  a76 := Tryd.isAgg112,
  z76 := Tryd.sizeOf112,
  v76 := Tryd.zeroValue112,
  t77 := Tryd.underlying113,
  a77 := Tryd.isAgg113,
  z77 := Tryd.sizeOf113,
  v77 := Tryd.zeroValue113
}
def sortRen_c2 : Go.Shelf.Ren := ⟨fun | 6 => 28 | 15 => 37 | 14 => 39 | 28 => 58 | 29 => 59 | 20 => 60 | 21 => 61 | 22 => 62 | 23 => 63 | 24 => 64 | 25 => 65 | 26 => 66 | 27 => 67 | 46 => 78 | 47 => 74 | 48 => 75 | 49 => 79 | 50 => 80 | 57 => 84 | n => n, fun | 22 => 40 | 24 => 46 | 25 => 65 | 3 => 3 | 39 => 73 | 0 => 0 | 53 => 92 | 55 => 94 | 4 => 4 | 46 => 86 | 45 => 85 | 50 => 54 | 5 => 5 | 9 => 9 | 66 => 104 | 70 => 108 | 76 => 112 | 77 => 113 | n => n, fun | n => n⟩
theorem sortLay_c2 : SlLaysF0.n6 Tryd.prog sortRen_c2 := {
  mixed := by kernel_rfl,
  f6 := ⟨Tryd.f28.name, by decide, Tryd.func28.trans (congrArg some (by kernel_rfl))⟩,
  f14 := ⟨Tryd.f39.name, by decide, Tryd.func39.trans (congrArg some (by kernel_rfl))⟩,
  f15 := Tryd.func37.trans (congrArg some (by kernel_rfl)),
  f20 := ⟨Tryd.f60.name, by decide, Tryd.func60.trans (congrArg some (by kernel_rfl))⟩,
  f21 := ⟨Tryd.f61.name, by decide, Tryd.func61.trans (congrArg some (by kernel_rfl))⟩,
  f22 := ⟨Tryd.f62.name, by decide, Tryd.func62.trans (congrArg some (by kernel_rfl))⟩,
  f23 := ⟨Tryd.f63.name, by decide, Tryd.func63.trans (congrArg some (by kernel_rfl))⟩,
  f24 := ⟨Tryd.f64.name, by decide, Tryd.func64.trans (congrArg some (by kernel_rfl))⟩,
  f25 := ⟨Tryd.f65.name, by decide, Tryd.func65.trans (congrArg some (by kernel_rfl))⟩,
  f26 := ⟨Tryd.f66.name, by decide, Tryd.func66.trans (congrArg some (by kernel_rfl))⟩,
  f27 := ⟨Tryd.f67.name, by decide, Tryd.func67.trans (congrArg some (by kernel_rfl))⟩,
  f28 := Tryd.func58.trans (congrArg some (by kernel_rfl)),
  f29 := Tryd.func59.trans (congrArg some (by kernel_rfl)),
  f46 := ⟨Tryd.f78.name, by decide, Tryd.func78.trans (congrArg some (by kernel_rfl))⟩,
  f47 := Tryd.func74.trans (congrArg some (by kernel_rfl)),
  f48 := Tryd.func75.trans (congrArg some (by kernel_rfl)),
  f49 := ⟨Tryd.f79.name, by decide, Tryd.func79.trans (congrArg some (by kernel_rfl))⟩,
  f50 := ⟨Tryd.f80.name, by decide, Tryd.func80.trans (congrArg some (by kernel_rfl))⟩,
  f57 := ⟨Tryd.f84.name, by decide, Tryd.func84.trans (congrArg some (by kernel_rfl))⟩,
  t0 := Tryd.underlying0,
  a0 := Tryd.isAgg0,
  z0 := Tryd.sizeOf0,
  v0 := Tryd.zeroValue0,
  t3 := Tryd.underlying3,
  a3 := Tryd.isAgg3,
  z3 := Tryd.sizeOf3,
  v3 := Tryd.zeroValue3,
  t4 := Tryd.underlying4,
  a4 := Tryd.isAgg4,
  z4 := Tryd.sizeOf4,
  v4 := Tryd.zeroValue4,
  t5 := Tryd.underlying5,
  a5 := Tryd.isAgg5,
  z5 := Tryd.sizeOf5,
  v5 := Tryd.zeroValue5,
  t9 := Tryd.underlying9,
  a9 := Tryd.isAgg9,
  z9 := Tryd.sizeOf9,
  v9 := Tryd.zeroValue9,
  t22 := Tryd.underlying40,
  a22 := Tryd.isAgg40,
  z22 := Tryd.sizeOf40,
  v22 := Tryd.zeroValue40,
  t25 := Tryd.underlying65,
  a25 := Tryd.isAgg65,
  z25 := Tryd.sizeOf65,
  v25 := Tryd.zeroValue65,
  t39 := Tryd.underlying73,
  a39 := Tryd.isAgg73,
  z39 := Tryd.sizeOf73,
  v39 := Tryd.zeroValue73,
  t45 := Tryd.underlying85,
  a45 := Tryd.isAgg85,
  z45 := Tryd.sizeOf85,
  v45 := Tryd.zeroValue85,
  t46 := Tryd.underlying86,
  a46 := Tryd.isAgg86,
  z46 := Tryd.sizeOf86,
  v46 := Tryd.zeroValue86,
  t50 := Tryd.underlying54,
  a50 := Tryd.isAgg54,
  z50 := Tryd.sizeOf54,
  v50 := Tryd.zeroValue54,
  t53 := Tryd.underlying92,
  a53 := Tryd.isAgg92,
  z53 := Tryd.sizeOf92,
  v53 := Tryd.zeroValue92,
  t55 := Tryd.underlying94,
  a55 := Tryd.isAgg94,
  z55 := Tryd.sizeOf94,
  v55 := Tryd.zeroValue94,
  t66 := Tryd.underlying104,
  a66 := Tryd.isAgg104,
  z66 := Tryd.sizeOf104,
  v66 := Tryd.zeroValue104,
  t70 := Tryd.underlying108,
  a70 := Tryd.isAgg108,
  z70 := Tryd.sizeOf108,
  v70 := Tryd.zeroValue108,
  t76 := Tryd.underlying112,
  a76 := Tryd.isAgg112,
  z76 := Tryd.sizeOf112,
  v76 := Tryd.zeroValue112,
  t77 := Tryd.underlying113,
  a77 := Tryd.isAgg113,
  z77 := Tryd.sizeOf113,
  v77 := Tryd.zeroValue113
}
end Go.Proofs.Ytldmeimebebllaa
namespace Go.Mo
set_option linter.unusedVariables false
abbrev vi (n : Int) : Value := .int .i64 n
abbrev vb (b : Bool) : Value := .bool b
abbrev vp (a : Addr) : Value := .pointer (some a)
abbrev va (a : Addr) (n : Nat) : Value := .pointer (some (Addr.add a n))
abbrev vl (s : Slc) : Int := ((s.len : Nat) : Int)
abbrev Sm (P : Program) {ρ : Type} (f : FuncId) (l : List Value) (enc : ρ → Value) (m : M ρ) : Prop := ∀ (Qf : ρ → World → Prop) (w : World), m Qf w → Calls P f l.toArray w (RetPost enc Qf)
theorem sm_of {P : Program} {ρ : Type} {enc : ρ → Value} {f : FuncId} {fn : Func} {c : Code} {l : List Value} {m : M ρ} (n : Nat) (hf : P.funcs[f]? = some fn) (hb : fn.body = some c) (hn : fn.ntmps = n) (hl : Nat.ble l.length n = true)
    (h : ∀ Qf : ρ → World → Prop, SC none P ⟨n, []⟩ (bodyQ P fn (RetPost enc Qf)) Qf c (ixT 0 l) m) : Sm P f l enc m := fun Qf w hm => calls_of n hf hb hn hl h Qf w hm
section
variable {rd : Option Nat} {P : Program} {n : Nd} {Q : Exit → Act → World → Prop} {α β σ : Type} {Qf : α → World → Prop} {ops : Array Oper} {o : Oper} {T : Tm} {K : Act → World → Prop} {S : World → Prop} {d : Nat} {m : M α}
variable {F : Nat → Bool} {fuel : Nat} {listed : Array Bool}
theorem zq {c c' : Code} (h : SC rd P n (Exit.then (Wp rd P c' Q) Q) Qf c T m) : SC rd P n Q Qf (.seq c c') T m := SC.seq h
theorem zg {id : Nat} {l : List Oper} (h : KT n Qf T m (WL rd P l.toArray Q l)) : SC rd P n Q Qf (.region id l.toArray false) T m := SC.region' h
theorem zG {id : Nat} {l : List Oper} {c' : Code} (h : KT n Qf T m (WL rd P l.toArray (Exit.then (Wp rd P c' Q) Q) l)) : SC rd P n Q Qf (.seq (.region id l.toArray false) c') T m := SC.seq (SC.region' h)
theorem zn {c : Code} (h : SC rd P n Q Qf c T m) : KT n Qf T m (WL rd P ops (Exit.then (Wp rd P c Q) Q) []) := KT.nil (SX.seq h)
theorem zN {id : Nat} {l : List Oper} {c' : Code} (h : KT n Qf T m (WL rd P l.toArray (Exit.then (Wp rd P c' Q) Q) l)) : KT n Qf T m (WL rd P ops (Exit.then (Wp rd P (.seq (.region id l.toArray false) c') Q) Q) []) := zn (zG h)
theorem zw {c : Code} (h : SC rd P n Q Qf c T m) : SC rd P n (Exit.then (Wp rd P c Q) Q) Qf .skip T m := SC.skip (SX.seq h)
theorem zp {os : List Oper} (d : Nat) (v : Value) (h : KT n Qf ((d, v) :: T) m (WL rd P ops Q os)) (hw : wantedB ops T o = some true := by kernel_rfl) (hd : defined T o = true := by kernel_rfl)
    (hv : ∀ w, (execOp (rho T) o).run P w = .ok (.value v) w := by intro _; kernel_rfl) (hn : o.dst = some d := by rfl) (hb : Nat.blt d n.n = true := by rfl) : KT n Qf T m (WL rd P ops Q (o :: os)) := KT.oy hw (OY.pv v hd hv hn hb h)
theorem zk {os : List Oper} (h : KT n Qf (dstT T undef o.dst) m (WL rd P ops Q os)) (hw : wantedB ops T o = some false := by kernel_rfl) (hd : dstOK n o.dst = true := by rfl) :
    KT n Qf T m (WL rd P ops Q (o :: os)) := KT.skip hw hd h
theorem zc {os : List Oper} {k : β → M α} {callee : M β} {enc : β → Value} {f : Nat} {vs : List Value} (d : Nat) (hc : Sm P f vs enc callee) (h : ∀ y, KT n Qf ((d, enc y) :: T) (k y) (WL rd P ops Q os)) (hw : wantedB ops T o = some true := by kernel_rfl) (hd : defined T o = true := by kernel_rfl) (he : ∀ w, (execOp (rho T) o).run P w = .ok (.enter f vs.toArray) w := by intro _; kernel_rfl)
    (hn : o.dst = some d := by rfl) (hb : Nat.blt d n.n = true := by rfl) : KT n Qf T (bindM callee k) (WL rd P ops Q (o :: os)) := KT.ow hw (OW.call f vs.toArray hd he hc hn hb h)
theorem ocall {k : β → M α} {callee : M β} {enc : β → Value} {f : Nat} {vs : List Value} (d : Nat) (hc : Sm P f vs enc callee) (h : ∀ y, KT n Qf ((d, enc y) :: T) (k y) K) (hd : defined T o = true := by kernel_rfl) (he : ∀ w, (execOp (rho T) o).run P w = .ok (.enter f vs.toArray) w := by intro _; kernel_rfl)
    (hn : o.dst = some d := by rfl) (hb : Nat.blt d n.n = true := by rfl) : OW rd P Q n Qf o T (bindM callee k) K := OW.call f vs.toArray hd he hc hn hb h
theorem ola {k : β → M α} {enc : β → List Value} {ad : Addr} {t : TypeId} {x : Operand} (d N : Nat) (h : ∀ y, KT n Qf ((d, .agg (enc y).toArray) :: T) (k y) K) (ho : o.op = .load t x := by rfl) (hx : ev T x = some (.pointer (some ad)) := by rfl) (ha : aggT P t = true := by kernel_rfl)
    (hs : (P.info? t).map (·.size) = some N := by kernel_rfl) (hl : ∀ y, (enc y).length = N := by exact fun _ => rfl) (hn : o.dst = some d := by rfl) (hb : Nat.blt d n.n = true := by rfl) : OW rd P Q n Qf o T (bindM (Mo.ldA enc ad) k) K := OW.ldA N t x ho hx ha hs hl hn hb h
theorem osa {k : Unit → M α} {ad : Addr} {vs : List Value} {N : Nat} {t : TypeId} {x y : Operand} (h : KT n Qf T (k ()) K) (ho : o.op = .store t x y := by rfl) (hx : ev T x = some (.pointer (some ad)) := by rfl) (hy : ev T y = some (.agg vs.toArray) := by rfl)
    (hl : vs.length = N := by rfl) (hn : o.dst = none := by rfl) (ht : (P.info? t).map (·.size) = some N := by kernel_rfl) : OW rd P Q n Qf o T (bindM (Mo.stA ad vs) k) K := OW.stA t x y ho hx hy hl hn ht h
theorem oli {k : β → M α} {enc : β → Value} {ad : Addr} {t : TypeId} {x : Operand} (d : Nat) (h : ∀ y, KT n Qf ((d, enc y) :: T) (k y) K) (ho : o.op = .load t x := by rfl) (hx : ev T x = some (.pointer (some ad)) := by rfl) (ht : plainT P t = true := by kernel_rfl)
    (hn : o.dst = some d := by rfl) (hb : Nat.blt d n.n = true := by rfl) : OY P n S Qf o T (bindM (Mo.ldI S enc ad) k) K := OY.ldI t x ho hx ht hn hb h
theorem olai {k : β → M α} {enc : β → List Value} {ad : Addr} {t : TypeId} {x : Operand} (d N : Nat) (h : ∀ y, KT n Qf ((d, .agg (enc y).toArray) :: T) (k y) K) (ho : o.op = .load t x := by rfl) (hx : ev T x = some (.pointer (some ad)) := by rfl) (ha : aggT P t = true := by kernel_rfl)
    (hs : (P.info? t).map (·.size) = some N := by kernel_rfl) (hl : ∀ y, (enc y).length = N := by exact fun _ => rfl) (hn : o.dst = some d := by rfl) (hb : Nat.blt d n.n = true := by rfl) : OY P n S Qf o T (bindM (Mo.ldAI S enc ad) k) K := OY.ldAI N t x ho hx ha hs hl hn hb h
theorem oix {k : Addr → M α} {s : Slc} {i : Int} {ki : IntKind} {size : Nat} {t : TypeId} {x ix : Operand} (d elem : Nat) (h : ∀ ad, KT n Qf ((d, .pointer (some ad)) :: T) (k ad) K) (ho : o.op = .indexAddr t x ix := by rfl)
    (hx : ev T x = some (.slice s.base s.len s.cap) := by rfl) (hi : ev T ix = some (.int ki i) := by rfl) (ht : P.underlying t = some (.slice elem) := by kernel_rfl) (hs : (P.info? elem).map (·.size) = some size := by kernel_rfl)
    (hn : o.dst = some d := by rfl) (hb : Nat.blt d n.n = true := by rfl) : OY P n S Qf o T (bindM (idxM s i size) k) K := OY.idx t x ix ho hx hi ht hs hn hb h
theorem oapp {k : Slc → M α} {s x : Slc} {z : List Value} {t : TypeId} {xs xx : Operand} {bytes : Nat} (d elem : Nat) (h : ∀ s, KT n Qf ((d, vS s) :: T) (k s) K) (ho : o.op = .call ⟨.builtin .append, #[xs, xx], #[t, t]⟩ := by rfl) (hs : ev T xs = some (.slice s.base s.len s.cap) := by rfl) (hx : ev T xx = some (.slice x.base x.len x.cap) := by rfl)
    (ht : P.underlying t = some (.slice elem) := by kernel_rfl) (hz : (P.info? elem).map (fun i => (i.zero.map (·.cells.toList), i.size, i.bytes)) = some (some z, z.length, bytes) := by kernel_rfl) (hb0 : Nat.blt 0 bytes = true := by rfl)
    (hn : o.dst = some d := by rfl) (hb : Nat.blt d n.n = true := by rfl) : OW rd P Q n Qf o T (bindM (appendM z bytes s x) k) K := OW.append z bytes elem t t xs xx ho hs hx rfl ht hz hb0 hn hb h
theorem zo {os : List Oper} (h : OW rd P Q n Qf o T m (WL rd P ops Q os)) (hw : wantedB ops T o = some true := by kernel_rfl) : KT n Qf T m (WL rd P ops Q (o :: os)) := KT.ow hw h
theorem zy {os : List Oper} (h : OY P n (fun _ => True) Qf o T m (WL rd P ops Q os)) (hw : wantedB ops T o = some true := by kernel_rfl) : KT n Qf T m (WL rd P ops Q (o :: os)) := KT.oy hw h
theorem zpA (i d : Nat) (v : Value) (h : KT n Qf ((d, v) :: T) m (AH rd P ops Q S F fuel (listed.setIfInBounds i true))) [hQ : PanicOK Q] (hi : ops[i]? = some o := by rfl) (hc : takeOKp ops F listed i = true := by kernel_rfl)
    (hw : wantedB ops T o = some true := by kernel_rfl) (hd : defined T o = true := by kernel_rfl)
    (hv : ∀ w, (execOp (rho T) o).run P w = .ok (.value v) w := by intro _; kernel_rfl) (hn : o.dst = some d := by rfl) (hb : Nat.blt d n.n = true := by rfl) : KT n Qf T m (AH rd P ops Q S F (fuel + 1) listed) :=
  KT.takeP i hi hc hQ hw (OY.pv v hd hv hn hb h)
theorem zkA (i : Nat) (hi : ops[i]? = some o) (h : KT n Qf (dstT T undef o.dst) m (AH rd P ops Q S F fuel (listed.setIfInBounds i true))) [hQ : PanicOK Q] (hc : takeOKp ops F listed i = true := by kernel_rfl)
    (hw : wantedB ops T o = some false := by kernel_rfl) (hd : dstOK n o.dst = true := by rfl) : KT n Qf T m (AH rd P ops Q S F (fuel + 1) listed) := KT.takeSkip i hi hc hQ hw hd h
theorem zA (i : Nat) (hi : ops[i]? = some o) (h : OY P n S Qf o T m (AH rd P ops Q S F fuel (listed.setIfInBounds i true))) [hQ : PanicOK Q] (hc : takeOK ops F listed i = true := by kernel_rfl)
    (hw : wantedB ops T o = some true := by kernel_rfl) : KT n Qf T m (AH rd P ops Q S F (fuel + 1) listed) := KT.take i hi hc hQ hw h
theorem zB (i : Nat) (hi : ops[i]? = some o) (h : OY P n (fun _ => True) Qf o T m (AH rd P ops Q S F fuel (listed.setIfInBounds i true))) [hQ : PanicOK Q] (hc : takeOKp ops F listed i = true := by kernel_rfl)
    (hw : wantedB ops T o = some true := by kernel_rfl) : KT n Qf T m (AH rd P ops Q S F (fuel + 1) listed) := KT.takeP i hi hc hQ hw h
theorem zl {rest : List Oper} {k : β → M α} {b : β} {T0 : β → Tm} (h : ∀ b, KT n Qf (T0 b) (k b) (WL rd P ops Q rest)) (hs : Sub T (T0 b) := by repeat (first | exact .nil | refine .cons rfl ?_)) :
    KT n (fun b w => k b Qf w) T (pureM b) (WL rd P ops (Exit.then (WL rd P ops Q rest) Q) []) := KT.leafO h hs
theorem zX {I : σ → World → Prop} {lt : Nat} {μ : σ → World → Nat} {N0 : σ → Nd} {T0 : σ → Tm} {s : σ} (hs : Sub T (T0 s) := by repeat (first | exact .nil | refine .cons rfl ?_)) (hn : N0 s = n := by rfl) :
    SX n .normal (loopQ N0 T0 I lt μ Q) (loopPost I lt μ Qf) T (pureM (.inl s)) := SX.loop_next hs hn
theorem zL {c : Code} {body : σ → M (σ ⊕ α)} {s : σ} (T0 : σ → Tm) (h : ∀ (I : σ → World → Prop) (lt : Nat) (μ : σ → World → Nat) (s : σ), SC rd P n (loopQ (fun _ => n) T0 I lt μ Q) (loopPost I lt μ Qf) c (T0 s) (body s))
    (hs : Sub T (T0 s) := by repeat (first | exact .nil | refine .cons rfl ?_)) : SC rd P n Q Qf (.loop c) T (loopM body s) := SC.loop T0 hs h
theorem zS {T' : Tm} {e : Exit} (h : SX n e Q Qf T' m) (hs : Sub T T' := by repeat (first | exact .nil | refine .cons rfl ?_)) : SX n e Q Qf T m := SX.sub hs h
theorem zf {k : β → M α} {b : β} {T0 : β → Tm} {e : Exit} (h : ∀ b, SX n e Q Qf (T0 b) (k b)) (hs : Sub T (T0 b) := by repeat (first | exact .nil | refine .cons rfl ?_)) : SX n e Q (joinPost k Qf) T (pureM (.inl b)) := SX.leafS h hs
theorem zt {K : Act → World → Prop} (h : SX n .ret Q Qf T m) : SC rd P n (Exit.then K Q) Qf .ret T m := SC.ret (SX.then_ret h)
theorem zj {os : List Oper} {m : M Bool} {k : Bool → M α} (j : Nat) (T0 : Bool → Tm)
    (h2 : ∀ b, KT n Qf (T0 b) (k b) (WL rd P ops Q (os.drop j)))
    (h : (∀ b, KT n Qf (T0 b) (k b) (WL rd P ops Q (os.drop j))) → KT n (fun b w => k b Qf w) T m (WL rd P ops (Exit.then (WL rd P ops Q (os.drop j)) Q) (os.take j))) :
    KT n Qf T (bindM m k) (WL rd P ops Q os) := KT.joinO j T0 h2 h
end
section
variable {n : Nd} {P : Program} {ρ : Type} {enc : ρ → Value} {Qf : ρ → World → Prop} {rs : List ResultVar} {acc : List Value} {T : Tm}
theorem ze {m : M ρ} {fn : Func} (rs : List ResultVar) (h : RS P n enc Qf rs [] T m) (hrs : fn.results = rs.toArray := by rfl) :
    SX n .ret (bodyQ P fn (RetPost enc Qf)) Qf T (takesM n.ds m) := SX.ret rs hrs h
theorem zm {m : M ρ} {t : Nat} {v : Value} (hv : lk T t = some v) (h : RS P n enc Qf rs (acc ++ [v]) T m) : RS P n enc Qf (.tmp t :: rs) acc T m := RS.tmp v hv h
theorem zz {x : ρ} (h : (if h : acc.length = 1 then acc[0] else .tuple acc.toArray) = enc x := by rfl) : RS P n enc Qf [] acc T (pureM x) := RS.nil h
end
end Go.Mo
namespace Go.Proofs.Ytldmeimebebllaa
open Go.Mo
set_option linter.unusedVariables false
set_option maxRecDepth 100000
theorem geo_places_sim (p0_g : (Int × Int × Int)) : Sm Tryd.prog 41 [(.agg #[(vi p0_g.1), (vi p0_g.2.1), (vi p0_g.2.2)])] (Value.int .i64) (geo_places p0_g) := by
  refine sm_of 10 Tryd.func41 rfl rfl rfl fun _ => ?_
  unfold geo_places
  exact zG <| KT.nw 1 (fun ad => .pointer (some ad)) 23 fun x1 => zp 2 (vi 0) <| zN <| zp 3 (va x1 1) <| KT.l 4 fun x4 => zp 5 (vp x1) <| KT.l 6 fun x6 => zp 7 (vi (w64 (x6 - 1))) <| zp 8 (vi (w64 (x4 * (w64 (x6 - 1))))) <| zp 9 (vi (w64 ((w64 (x4 * (w64 (x6 - 1)))) - 1))) <| zp 2 (vi (w64 ((w64 (x4 * (w64 (x6 - 1)))) - 1))) <| zn <| SC.ret <| ze [.tmp 2] <| zm rfl zz
theorem geo_within_sim (p0_n : Int) (p1_from : Int) (p2_to : Int) : Sm Tryd.prog 42 [(vi p0_n), (vi p1_from), (vi p2_to)] Value.bool (geo_within p0_n p1_from p2_to) := by
  refine sm_of 15 Tryd.func42 rfl rfl rfl fun _ => ?_
  unfold geo_within
  refine zG <| zp 6 (vb false) <| zN <| zp 7 (vi p1_from) <| zp 8 (vi p0_n) <| zp 9 (vb (decide (p1_from ≤ p0_n))) <| zp 10 (vb (decide (p1_from ≤ p0_n))) <| zj 4 (fun q1 => [(14, (vb q1))]) (fun q1 => ?_) (fun j1 => ?_)
  exact zp 6 (vb q1) <| zn <| SC.ret <| ze [.tmp 6] <| zm rfl zz
  refine KT.ite 10 rfl ?_ ?_
  exact zp 11 (vi p0_n) <| zp 12 (vi p2_to) <| zp 13 (vb (decide (p0_n ≤ p2_to))) <| zp 14 (vb (decide (p0_n ≤ p2_to))) <| zl j1
  exact zk <| zk <| zk <| zp 14 (vb false) <| zl j1
theorem geo_others_sim (p0_g : (Int × Int × Int)) : Sm Tryd.prog 68 [(.agg #[(vi p0_g.1), (vi p0_g.2.1), (vi p0_g.2.2)])] (Value.int .i64) (geo_others p0_g) := by
  refine sm_of 7 Tryd.func68 rfl rfl rfl fun _ => ?_
  unfold geo_others
  exact zG <| KT.nw 1 (fun ad => .pointer (some ad)) 23 fun x1 => zp 2 (vi 0) <| zN <| zp 3 (va x1 2) <| KT.l 4 fun x4 => zp 5 (vi (w64 (Int.tdiv x4 8))) <| zp 6 (vi (w64 (1 + (w64 (Int.tdiv x4 8))))) <| zp 2 (vi (w64 (1 + (w64 (Int.tdiv x4 8))))) <| zn <| SC.ret <| ze [.tmp 2] <| zm rfl zz
theorem geo_Right_sim (p0_g : (Int × Int × Int)) : Sm Tryd.prog 40 [(.agg #[(vi p0_g.1), (vi p0_g.2.1), (vi p0_g.2.2)])] Value.bool (geo_Right p0_g) := by
  refine sm_of 24 Tryd.func40 rfl rfl rfl fun _ => ?_
  unfold geo_Right
  refine zG <| KT.nw 1 (fun ad => .pointer (some ad)) 23 fun x1 => zp 2 (vb false) <| zn <| zq <| SC.draw 22 (fun _ => false) rfl (by kernel_rfl) fun S1 => zpA 0 3 (vp x1) <| zA 1 rfl <| oli 4 fun x4 => KT.one 2 rfl (by kernel_rfl) rfl <| OW.step <| ocall 5 (geo_within_sim _ _ _) fun x5 => KT.and <| zpA 3 6 (vb x5) <| KT.ite 6 rfl ?_ ?_
  refine zpA 4 7 (va x1 1) <| zA 5 rfl <| oli 8 fun x8 => KT.one 6 rfl (by kernel_rfl) rfl <| OW.step <| ocall 9 (geo_within_sim _ _ _) fun x9 => KT.and <| zpA 7 10 (vb x9) <| zpA 8 11 (vb x9) <| KT.ite 11 rfl ?_ ?_
  refine zpA 9 12 (va x1 2) <| zA 10 rfl <| oli 13 fun x13 => KT.one 11 rfl (by kernel_rfl) rfl <| OW.step <| ocall 14 (geo_within_sim _ _ _) fun x14 => KT.and <| zpA 12 15 (vb x14) <| zpA 13 16 (vb x14) <| KT.ite 16 rfl ?_ ?_
  exact zA 14 rfl <| olai 17 3 fun x17 => zA 16 rfl <| olai 19 3 fun x19 => KT.one 15 rfl (by kernel_rfl) rfl <| OW.step <| ocall 18 (geo_others_sim _) fun x18 => KT.and <| KT.one 17 rfl (by kernel_rfl) rfl <| OW.step <| ocall 20 (geo_places_sim _) fun x20 => KT.and <| zpA 18 21 (vi (w64 (x18 * x20))) <| zpA 19 22 (vb (decide ((w64 (x18 * x20)) ≥ 8))) <| zpA 20 23 (vb (decide ((w64 (x18 * x20)) ≥ 8))) <| zpA 21 2 (vb (decide ((w64 (x18 * x20)) ≥ 8))) <| KT.doneA (by kernel_rfl) <| SX.seq <| SC.ret <| ze [.tmp 2] <| zm rfl zz
  exact zkA 14 rfl <| zkA 15 rfl <| zkA 16 rfl <| zkA 17 rfl <| zkA 18 rfl <| zkA 19 rfl <| zpA 20 23 (vb false) <| zpA 21 2 (vb false) <| KT.doneA (by kernel_rfl) <| SX.seq <| SC.ret <| ze [.tmp 2] <| zm rfl zz
  exact zkA 9 rfl <| zkA 10 rfl <| zkA 11 rfl <| zpA 12 15 (vb false) <| zpA 13 16 (vb false) <| zkA 14 rfl <| zkA 15 rfl <| zkA 16 rfl <| zkA 17 rfl <| zkA 18 rfl <| zkA 19 rfl <| zpA 20 23 (vb false) <| zpA 21 2 (vb false) <| KT.doneA (by kernel_rfl) <| SX.seq <| SC.ret <| ze [.tmp 2] <| zm rfl zz
  exact zkA 4 rfl <| zkA 5 rfl <| zkA 6 rfl <| zpA 7 10 (vb false) <| zpA 8 11 (vb false) <| zkA 9 rfl <| zkA 10 rfl <| zkA 11 rfl <| zpA 12 15 (vb false) <| zpA 13 16 (vb false) <| zkA 14 rfl <| zkA 15 rfl <| zkA 16 rfl <| zkA 17 rfl <| zkA 18 rfl <| zkA 19 rfl <| zpA 20 23 (vb false) <| zpA 21 2 (vb false) <| KT.doneA (by kernel_rfl) <| SX.seq <| SC.ret <| ze [.tmp 2] <| zm rfl zz
theorem geo_Places_sim (p0_g : (Int × Int × Int)) : Sm Tryd.prog 31 [(.agg #[(vi p0_g.1), (vi p0_g.2.1), (vi p0_g.2.2)])] (Value.int .i64) (geo_Places p0_g) := by
  refine sm_of 8 Tryd.func31 rfl rfl rfl fun _ => ?_
  unfold geo_Places
  refine zG <| KT.nw 1 (fun ad => .pointer (some ad)) 23 fun x1 => zp 2 (vi 0) <| zn <| zq <| zG <| zo <| ola 3 3 fun x3 => zc 4 (geo_Right_sim _) fun x4 => zp 5 (vb (!x4)) <| zn <| SC.cond rfl ?_ ?_
  exact zG <| zp 2 (vi 0) <| zn <| zt <| ze [.tmp 2] <| zm rfl zz
  exact zw <| zG <| zo <| ola 6 3 fun x6 => zc 7 (geo_places_sim _) fun x7 => zp 2 (vi x7) <| zn <| SC.ret <| ze [.tmp 2] <| zm rfl zz
theorem geo_Where_sim (p0_g : (Int × Int × Int)) (p1_address : Int) : Sm Tryd.prog 32 [(.agg #[(vi p0_g.1), (vi p0_g.2.1), (vi p0_g.2.2)]), (vi p1_address)] (fun y : (Int × Int × Bool) => (.tuple #[(vi y.1), (vi y.2.1), (vb y.2.2)])) (geo_Where p0_g p1_address) := by
  refine sm_of 31 Tryd.func32 rfl rfl rfl fun _ => ?_
  unfold geo_Where
  refine zG <| KT.nw 2 (fun ad => .pointer (some ad)) 23 fun x2 => zp 4 (vi 0) <| zp 5 (vi 0) <| zp 6 (vb false) <| zn <| zq <| zq <| SC.join (β := (Bool)) (fun b1 => [(1, (vi p1_address)), (2, (vp x2)), (19, (vb b1))]) (fun b1 => ?_) (fun j1 => ?_)
  refine SX.seq <| SC.cond rfl ?_ ?_
  exact zG <| zp 4 (vi 0) <| zp 5 (vi 0) <| zp 6 (vb false) <| zn <| zt <| ze [.tmp 4, .tmp 5, .tmp 6] <| zm rfl <| zm rfl <| zm rfl zz
  refine zw <| zq <| SC.draw 14 (fun _ => false) rfl (by kernel_rfl) fun S2 => zpA 0 20 (vi p1_address) <| zpA 1 21 (vi (w64 (p1_address - 1))) <| zA 2 rfl <| olai 22 3 fun x22 => zpA 5 25 (vi p1_address) <| zpA 6 26 (vi (w64 (p1_address - 1))) <| zA 7 rfl <| olai 27 3 fun x27 => KT.one 3 rfl (by kernel_rfl) rfl <| OW.step <| ocall 23 (geo_places_sim _) fun x23 => KT.and <| KT.tp 4 (OY.quo (d := 24) (x := w64 (p1_address - 1)) (y := x23) _ _ _ _ (w64 (Int.tdiv (w64 (p1_address - 1)) x23)) rfl rfl rfl rfl rfl rfl ?_)
  refine KT.one 8 rfl (by kernel_rfl) rfl <| OW.step <| ocall 28 (geo_places_sim _) fun x28 => KT.and <| KT.tp 9 (OY.rem (d := 29) (x := w64 (p1_address - 1)) (y := x28) _ _ _ _ (Int.tmod (w64 (p1_address - 1)) x28) rfl rfl rfl rfl rfl rfl ?_)
  exact zpA 10 30 (vi (w64 ((Int.tmod (w64 (p1_address - 1)) x28) + 1))) <| zpA 11 4 (vi (w64 (Int.tdiv (w64 (p1_address - 1)) x23))) <| zpA 12 5 (vi (w64 ((Int.tmod (w64 (p1_address - 1)) x28) + 1))) <| zpA 13 6 (vb true) <| KT.doneA (by kernel_rfl) <| SX.seq <| SC.ret <| ze [.tmp 4, .tmp 5, .tmp 6] <| zm rfl <| zm rfl <| zm rfl zz
  refine SC.draw 13 (fun _ => false) rfl (by kernel_rfl) fun S3 => zA 0 rfl <| olai 7 3 fun x7 => KT.one 1 rfl (by kernel_rfl) rfl <| OW.step <| ocall 8 (geo_Right_sim _) fun x8 => KT.and <| zpA 2 9 (vb (!x8)) <| zpA 3 10 (vb (!x8)) <| KT.ite 10 rfl ?_ ?_
  exact zkA 4 rfl <| zkA 5 rfl <| zkA 6 rfl <| zkA 7 rfl <| zkA 8 rfl <| zkA 9 rfl <| zkA 10 rfl <| zkA 11 rfl <| zpA 12 19 (vb true) <| KT.doneA (by kernel_rfl) <| zf j1
  exact zpA 4 11 (vi p1_address) <| zpA 5 12 (va x2 2) <| zA 6 rfl <| oli 13 fun x13 => zA 7 rfl <| olai 14 3 fun x14 => KT.one 8 rfl (by kernel_rfl) rfl <| OW.step <| ocall 15 (geo_places_sim _) fun x15 => KT.and <| zpA 9 16 (vi (w64 (x13 * x15))) <| KT.one 10 rfl (by kernel_rfl) rfl <| OW.step <| ocall 17 (geo_within_sim _ _ _) fun x17 => KT.and <| zpA 11 18 (vb (!x17)) <| zpA 12 19 (vb (!x17)) <| KT.doneA (by kernel_rfl) <| zf j1
theorem scan_right_sim (p0_g : (Int × Int × Int)) (p1_s : (Int × Int × Int × Int)) : Sm Tryd.prog 15 [(.agg #[(vi p0_g.1), (vi p0_g.2.1), (vi p0_g.2.2)]), (.agg #[(vi p1_s.1), (vi p1_s.2.1), (vi p1_s.2.2.1), (vi p1_s.2.2.2)])] Value.bool (scan_right p0_g p1_s) := by
  refine sm_of 66 Tryd.func15 rfl rfl rfl fun _ => ?_
  unfold scan_right
  refine zG <| KT.nw 2 (fun ad => .pointer (some ad)) 23 fun x2 => KT.nw 3 (fun ad => .pointer (some ad)) 25 fun x3 => zp 4 (vb false) <| zN <| zo <| ola 9 3 fun x9 => zc 10 (geo_Places_sim _) fun x10 => zp 5 (vi x10) <| zn <| zq <| zG <| zp 11 (vi x10) <| zp 12 (vb (x10 == 0)) <| zp 13 (vb (x10 == 0)) <| zj 4 (fun q1 => [(17, (vb q1)), (2, (vp x2)), (3, (vp x3)), (5, (vi x10))]) (fun q1 => ?_) (fun j1 => ?_)
  refine zp 18 (vb q1) <| zj 6 (fun q2 => [(24, (vb q2)), (2, (vp x2)), (3, (vp x3)), (5, (vi x10))]) (fun q2 => ?_) (fun j2 => ?_)
  refine zp 25 (vb q2) <| zj 4 (fun q3 => [(29, (vb q3)), (2, (vp x2)), (3, (vp x3)), (5, (vi x10))]) (fun q3 => ?_) (fun j3 => ?_)
  refine zp 30 (vb q3) <| zj 6 (fun q4 => [(36, (vb q4)), (2, (vp x2)), (3, (vp x3)), (5, (vi x10))]) (fun q4 => ?_) (fun j4 => ?_)
  refine zp 37 (vb q4) <| zj 4 (fun q5 => [(41, (vb q5)), (2, (vp x2)), (3, (vp x3)), (5, (vi x10))]) (fun q5 => ?_) (fun j5 => ?_)
  refine zp 42 (vb q5) <| zj 5 (fun q6 => [(47, (vb q6)), (2, (vp x2)), (3, (vp x3))]) (fun q6 => ?_) (fun j6 => ?_)
  refine zn <| SC.cond rfl ?_ ?_
  exact zG <| zp 4 (vb false) <| zn <| zt <| ze [.tmp 4] <| zm rfl zz
  refine zw <| zq <| zG <| zp 48 (va x3 1) <| KT.l 49 fun x49 => zp 50 (vp x3) <| KT.l 51 fun x51 => zp 52 (vi (w64 (x51 - 1))) <| zp 53 (vb (x49 == (w64 (x51 - 1)))) <| zn <| SC.cond rfl ?_ ?_
  exact zG <| zo <| ola 55 3 fun x55 => zp 56 (va x3 3) <| KT.l 57 fun x57 => zc 58 (geo_Where_sim _ _) fun x58 => zp 54 (.tuple #[(vi x58.1), (vi x58.2.1), (vb x58.2.2)]) <| zp 59 (vi x58.1) <| zp 60 (vi x58.2.1) <| zp 61 (vb x58.2.2) <| zp 6 (vi x58.1) <| zp 7 (vi x58.2.1) <| zp 8 (vb x58.2.2) <| zN <| zp 62 (vb x58.2.2) <| zp 4 (vb x58.2.2) <| zn <| zt <| ze [.tmp 4] <| zm rfl zz
  exact zw <| zG <| zp 63 (va x3 3) <| KT.l 64 fun x64 => zp 65 (vb (x64 == 0)) <| zp 4 (vb (x64 == 0)) <| zn <| SC.ret <| ze [.tmp 4] <| zm rfl zz
  refine KT.ite 42 rfl ?_ ?_
  exact zk <| zk <| zk <| zk <| zp 47 (vb true) <| zl j6
  exact zp 43 (va x3 2) <| KT.l 44 fun x44 => zp 45 (vi x10) <| zp 46 (vb (decide (x44 > x10))) <| zp 47 (vb (decide (x44 > x10))) <| zl j6
  refine KT.ite 37 rfl ?_ ?_
  exact zk <| zk <| zk <| zp 41 (vb true) <| zl j5
  exact zp 38 (va x3 2) <| KT.l 39 fun x39 => zp 40 (vb (decide (x39 < 0))) <| zp 41 (vb (decide (x39 < 0))) <| zl j5
  refine KT.ite 30 rfl ?_ ?_
  exact zk <| zk <| zk <| zk <| zk <| zp 36 (vb true) <| zl j4
  exact zp 31 (va x3 1) <| KT.l 32 fun x32 => zp 33 (vp x3) <| KT.l 34 fun x34 => zp 35 (vb (decide (x32 ≥ x34))) <| zp 36 (vb (decide (x32 ≥ x34))) <| zl j4
  refine KT.ite 25 rfl ?_ ?_
  exact zk <| zk <| zk <| zp 29 (vb true) <| zl j3
  exact zp 26 (va x3 1) <| KT.l 27 fun x27 => zp 28 (vb (decide (x27 < 0))) <| zp 29 (vb (decide (x27 < 0))) <| zl j3
  refine KT.ite 18 rfl ?_ ?_
  exact zk <| zk <| zk <| zk <| zk <| zp 24 (vb true) <| zl j2
  exact zp 19 (vp x3) <| KT.l 20 fun x20 => zp 21 (va x2 2) <| KT.l 22 fun x22 => zp 23 (vb (decide (x20 > x22))) <| zp 24 (vb (decide (x20 > x22))) <| zl j2
  refine KT.ite 13 rfl ?_ ?_
  exact zk <| zk <| zk <| zp 17 (vb true) <| zl j1
  exact zp 14 (vp x3) <| KT.l 15 fun x15 => zp 16 (vb (decide (x15 < 1))) <| zp 17 (vb (decide (x15 < 1))) <| zl j1
theorem bits_Put_sim (p0_width : Int) (p1_n : Int) : Sm Tryd.prog 16 [(vi p0_width), (vi p1_n)] vS (bits_Put p0_width p1_n) := by
  refine sm_of 41 Tryd.func16 rfl rfl rfl fun _ => ?_
  unfold bits_Put
  refine zG <| zp 4 (.slice none 0 0) <| zn <| zq <| zG <| zp 7 (vi p0_width) <| zp 8 (vb (decide (p0_width < 1))) <| zp 9 (vb (decide (p0_width < 1))) <| zj 3 (fun q1 => [(12, (vb q1)), (0, (vi p0_width)), (1, (vi p1_n))]) (fun q1 => ?_) (fun j1 => ?_)
  refine zp 13 (vb q1) <| zj 3 (fun q2 => [(16, (vb q2)), (0, (vi p0_width)), (1, (vi p1_n))]) (fun q2 => ?_) (fun j2 => ?_)
  refine zp 17 (vb q2) <| zj 6 (fun q3 => [(23, (vb q3)), (0, (vi p0_width)), (1, (vi p1_n))]) (fun q3 => ?_) (fun j3 => ?_)
  refine zn <| SC.cond rfl ?_ ?_
  exact zG <| zp 4 (.slice none 0 0) <| zn <| zt <| ze [.tmp 4] <| zm rfl zz
  refine zw <| zG <| zp 24 (vi p0_width) <| KT.ow rfl (OW.make (d := 25) (nn := p0_width) [(.int .u8 0)] 1 5 _ _ _ rfl rfl rfl (by kernel_rfl) (by kernel_rfl) rfl rfl rfl (fun x25 => ?_))
  refine zp 5 (vS x25) <| zn <| zq <| zG <| zp 26 (vS x25) <| zp 27 (vi (vl x25)) <| zp 28 (vi 0) <| zn <| SC.block <| zL (σ := (Int)) (fun s4 => [(1, (vi p1_n)), (5, (vS x25)), (27, (vi (vl x25))), (28, (vi s4))]) fun _ _ _ s4 => zG <| zp 29 (vb (decide (s4 < (vl x25)))) <| zn <| zq <| SC.cond rfl ?_ ?_
  refine zw <| zq <| SC.block <| zG <| zp 30 (vi s4) <| zp 6 (vi s4) <| zn <| zg <| zp 31 (vS x25) <| zp 32 (vi s4) <| zp 33 (vi p1_n) <| zp 34 (vi s4) <| zp 35 (vi (w64 (8 * s4))) <| KT.oy rfl (OY.shr (d := 36) (x := p1_n) (y := w64 (8 * s4)) _ _ _ _ (bShr .i64 p1_n (w64 (8 * s4))) rfl rfl rfl rfl rfl rfl ?_)
  exact zp 37 (.int .u8 (IntKind.wrap .u8 (bShr .i64 p1_n (w64 (8 * s4))))) <| zy <| oix 38 5 fun x38 => KT.s <| KT.nil <| SX.block <| SX.seq <| zg <| zp 39 (vi (w64 (s4 + 1))) <| zp 28 (vi (w64 (s4 + 1))) <| KT.nil zX
  exact SC.exit <| SX.then_exit <| SX.loop_exit <| SX.block_hit <| SX.seq <| zG <| zp 40 (vS x25) <| zp 4 (vS x25) <| zn <| SC.ret <| ze [.tmp 4] <| zm rfl zz
  refine KT.ite 17 rfl ?_ ?_
  exact zk <| zk <| zk <| zk <| zk <| zp 23 (vb true) <| zl j3
  refine zp 18 (vi p1_n) <| zp 19 (vi p0_width) <| zp 20 (vi (w64 (8 * p0_width))) <| KT.oy rfl (OY.shr (d := 21) (x := p1_n) (y := w64 (8 * p0_width)) _ _ _ _ (bShr .i64 p1_n (w64 (8 * p0_width))) rfl rfl rfl rfl rfl rfl ?_)
  exact zp 22 (vb (decide ((bShr .i64 p1_n (w64 (8 * p0_width))) > 0))) <| zp 23 (vb (decide ((bShr .i64 p1_n (w64 (8 * p0_width))) > 0))) <| zl j3
  refine KT.ite 13 rfl ?_ ?_
  exact zk <| zk <| zp 16 (vb true) <| zl j2
  exact zp 14 (vi p1_n) <| zp 15 (vb (decide (p1_n < 0))) <| zp 16 (vb (decide (p1_n < 0))) <| zl j2
  refine KT.ite 9 rfl ?_ ?_
  exact zk <| zk <| zp 12 (vb true) <| zl j1
  exact zp 10 (vi p0_width) <| zp 11 (vb (decide (p0_width > 4))) <| zp 12 (vb (decide (p0_width > 4))) <| zl j1
theorem bits_Pad_sim (p0_b : Slc) (p1_n : Int) : Sm Tryd.prog 17 [(vS p0_b), (vi p1_n)] (fun y : (Slc × Bool) => (.tuple #[(vS y.1), (vb y.2)])) (bits_Pad p0_b p1_n) := by
  refine sm_of 21 Tryd.func17 rfl rfl rfl fun _ => ?_
  unfold bits_Pad
  refine zG <| zp 4 (.slice none 0 0) <| zp 5 (vb false) <| zn <| zq <| zG <| zp 7 (vi p1_n) <| zp 8 (vb (decide (p1_n > 65536))) <| zp 9 (vb (decide (p1_n > 65536))) <| zj 5 (fun q1 => [(14, (vb q1)), (0, (vS p0_b)), (1, (vi p1_n))]) (fun q1 => ?_) (fun j1 => ?_)
  refine zn <| SC.cond rfl ?_ ?_
  exact zG <| zp 4 (.slice none 0 0) <| zp 5 (vb false) <| zn <| zt <| ze [.tmp 4, .tmp 5] <| zm rfl <| zm rfl zz
  refine zw <| zG <| zp 15 (vi p1_n) <| KT.ow rfl (OW.make (d := 16) (nn := p1_n) [(.int .u8 0)] 1 5 _ _ _ rfl rfl rfl (by kernel_rfl) (by kernel_rfl) rfl rfl rfl (fun x16 => ?_))
  refine zp 6 (vS x16) <| zN <| zp 17 (vS x16) <| zp 18 (vS p0_b) <| KT.ow rfl (OW.copy (d := 19) (s := x16) (x := p0_b) 1 5 _ _ _ _ rfl rfl rfl rfl (by kernel_rfl) (by kernel_rfl) rfl rfl (fun x19 => ?_))
  exact zN <| zp 20 (vS x16) <| zp 4 (vS x16) <| zp 5 (vb true) <| zn <| SC.ret <| ze [.tmp 4, .tmp 5] <| zm rfl <| zm rfl zz
  refine KT.ite 9 rfl ?_ ?_
  exact zk <| zk <| zk <| zk <| zp 14 (vb true) <| zl j1
  exact zp 10 (vS p0_b) <| zp 11 (vi (vl p0_b)) <| zp 12 (vi p1_n) <| zp 13 (vb (decide ((vl p0_b) > p1_n))) <| zp 14 (vb (decide ((vl p0_b) > p1_n))) <| zl j1
theorem scan_PutSummary_sim (p0_g : (Int × Int × Int)) (p1_s : (Int × Int × Int × Int)) : Sm Tryd.prog 6 [(.agg #[(vi p0_g.1), (vi p0_g.2.1), (vi p0_g.2.2)]), (.agg #[(vi p1_s.1), (vi p1_s.2.1), (vi p1_s.2.2.1), (vi p1_s.2.2.2)])] (fun y : ((Int × Int × Slc) × Bool) => (.tuple #[(.agg #[(vi y.1.1), (vi y.1.2.1), (vS y.1.2.2)]), (vb y.2)])) (scan_PutSummary p0_g p1_s) := by
  refine sm_of 38 Tryd.func6 rfl rfl rfl fun _ => ?_
  unfold scan_PutSummary
  refine zG <| KT.nw 2 (fun ad => .pointer (some ad)) 23 fun x2 => KT.nw 3 (fun ad => .pointer (some ad)) 25 fun x3 => KT.nw 4 (fun ad => .pointer (some ad)) 28 fun x4 => zp 5 (vb false) <| zn <| zq <| zG <| zo <| ola 9 3 fun x9 => zo <| ola 10 4 fun x10 => zc 11 (scan_right_sim _ _) fun x11 => zp 12 (vb (!x11)) <| zn <| SC.cond rfl ?_ ?_
  exact zG <| zp 13 (.agg #[(vi 0), (vi 0), (.slice none 0 0)]) <| zo <| osa <| zp 5 (vb false) <| zn <| zt <| ze [.cell 4 28, .tmp 5] <| RS.cellA 3 (by kernel_rfl) rfl rfl (fun _ => rfl) fun r4 => zm rfl zz
  refine zw <| zG <| zp 6 (.slice none 0 0) <| zn <| zq <| zG <| zp 14 (vp x3) <| KT.l 15 fun x15 => zp 16 (va x3 1) <| KT.l 17 fun x17 => zp 18 (va x3 2) <| KT.l 19 fun x19 => zp 20 (va x3 3) <| KT.l 21 fun x21 => zp 22 (.agg #[(vi 21331), (vi x15), (vi x17), (vi x19), (vi x21)]) <| zp 23 (vi 0) <| zn <| SC.block <| zL (σ := (Slc × Int)) (fun s1 => [(4, (vp x4)), (6, (vS s1.1)), (22, (.agg #[(vi 21331), (vi x15), (vi x17), (vi x19), (vi x21)])), (23, (vi s1.2))]) fun _ _ _ s1 => zG <| zp 24 (vb (decide (s1.2 < 5))) <| zn <| zq <| SC.cond rfl ?_ ?_
  refine zw <| zq <| SC.block <| zG <| KT.oy rfl (OY.arr (d := 25) (l := [21331, x15, x17, x19, x21]) (i := s1.2) (len := 5) (elem := 3) (kj := .i64) _ _ _ rfl rfl rfl (by kernel_rfl) (by kernel_rfl) (by kernel_rfl) rfl rfl rfl (fun x25 => ?_))
  exact zp 8 (vi x25) <| zn <| zg <| zp 26 (vS s1.1) <| zp 27 (vi x25) <| zc 28 (bits_Put_sim _ _) fun x28 => zo <| oapp 29 5 fun x29 => zp 6 (vS x29) <| KT.nil <| SX.block <| SX.seq <| zg <| zp 30 (vi (w64 (s1.2 + 1))) <| zp 23 (vi (w64 (s1.2 + 1))) <| KT.nil zX
  exact SC.exit <| SX.then_exit <| SX.loop_exit <| SX.block_hit <| SX.seq <| zG <| zp 32 (vS s1.1) <| zc 33 (bits_Pad_sim _ _) fun x33 => zp 31 (.tuple #[(vS x33.1), (vb x33.2)]) <| zp 34 (vS x33.1) <| zp 35 (vb x33.2) <| zp 6 (vS x33.1) <| zN <| zp 36 (vS x33.1) <| zp 37 (.agg #[(vi 65535), (vi 0), (vS x33.1)]) <| zo <| osa <| zp 5 (vb true) <| zn <| SC.ret <| ze [.cell 4 28, .tmp 5] <| RS.cellA 3 (by kernel_rfl) rfl rfl (fun _ => rfl) fun r4 => zm rfl zz
theorem bytes_trimLeftByte_sim (p0_s : Slc) (p1_c : Int) : Sm Tryd.prog 43 [(vS p0_s), (.int .u8 p1_c)] vS (bytes_trimLeftByte p0_s p1_c) := by
  refine sm_of 21 Tryd.func43 rfl rfl rfl fun _ => ?_
  unfold bytes_trimLeftByte
  refine zG <| zp 4 (.slice none 0 0) <| zn <| zq <| SC.block <| zL (σ := (Slc)) (fun s1 => [(0, (vS s1)), (1, (.int .u8 p1_c))]) fun _ _ _ s1 => zq <| zG <| zp 5 (vS s1) <| zp 6 (vi (vl s1)) <| zp 7 (vb (decide ((vl s1) > 0))) <| zp 8 (vb (decide ((vl s1) > 0))) <| zj 6 (fun q2 => [(14, (vb q2)), (0, (vS s1)), (1, (.int .u8 p1_c))]) (fun q2 => ?_) (fun j2 => ?_)
  refine zn <| SC.cond rfl ?_ ?_
  refine zw <| SC.block <| zg <| zp 15 (vS s1) <| KT.oy rfl (OY.slice10 (d := 16) (s := s1) (lo := 1) (size := 1) (elem := 5) _ _ _ rfl rfl rfl (by kernel_rfl) (by kernel_rfl) rfl rfl (fun x16 => ?_))
  exact zp 0 (vS x16) <| KT.nil <| SX.block zX
  refine SC.exit <| SX.then_exit <| SX.loop_exit <| SX.block_hit <| SX.seq <| zq <| zG <| zp 17 (vS s1) <| zp 18 (vi (vl s1)) <| zp 19 (vb ((vl s1) == 0)) <| zn <| SC.cond rfl ?_ ?_
  exact zG <| zp 4 (.slice none 0 0) <| zn <| zt <| ze [.tmp 4] <| zm rfl zz
  exact zw <| zG <| zp 20 (vS s1) <| zp 4 (vS s1) <| zn <| SC.ret <| ze [.tmp 4] <| zm rfl zz
  refine KT.ite 8 rfl ?_ ?_
  exact zp 9 (vS s1) <| zy <| oix 10 5 fun x10 => KT.l 11 fun x11 => zp 12 (.int .u8 p1_c) <| zp 13 (vb (x11 == p1_c)) <| zp 14 (vb (x11 == p1_c)) <| zl j2
  exact zk <| zk <| zk <| zk <| zk <| zp 14 (vb false) <| zl j2
theorem bytes_trimRightByte_sim (p0_s : Slc) (p1_c : Int) : Sm Tryd.prog 44 [(vS p0_s), (.int .u8 p1_c)] vS (bytes_trimRightByte p0_s p1_c) := by
  refine sm_of 24 Tryd.func44 rfl rfl rfl fun _ => ?_
  unfold bytes_trimRightByte
  refine zG <| zp 4 (.slice none 0 0) <| zn <| zq <| SC.block <| zL (σ := (Slc)) (fun s1 => [(0, (vS s1)), (1, (.int .u8 p1_c))]) fun _ _ _ s1 => zq <| zG <| zp 5 (vS s1) <| zp 6 (vi (vl s1)) <| zp 7 (vb (decide ((vl s1) > 0))) <| zp 8 (vb (decide ((vl s1) > 0))) <| zj 9 (fun q2 => [(17, (vb q2)), (0, (vS s1)), (1, (.int .u8 p1_c))]) (fun q2 => ?_) (fun j2 => ?_)
  refine zn <| SC.cond rfl ?_ ?_
  refine zw <| SC.block <| zg <| zp 18 (vS s1) <| zp 19 (vS s1) <| zp 20 (vi (vl s1)) <| zp 21 (vi (w64 ((vl s1) - 1))) <| KT.oy rfl (OY.slice01 (d := 22) (s := s1) (hi := w64 ((vl s1) - 1)) (size := 1) (elem := 5) _ _ _ rfl rfl rfl (by kernel_rfl) (by kernel_rfl) rfl rfl (fun x22 => ?_))
  exact zp 0 (vS x22) <| KT.nil <| SX.block zX
  exact SC.exit <| SX.then_exit <| SX.loop_exit <| SX.block_hit <| SX.seq <| zG <| zp 23 (vS s1) <| zp 4 (vS s1) <| zn <| SC.ret <| ze [.tmp 4] <| zm rfl zz
  refine KT.ite 8 rfl ?_ ?_
  exact zp 9 (vS s1) <| zp 10 (vS s1) <| zp 11 (vi (vl s1)) <| zp 12 (vi (w64 ((vl s1) - 1))) <| zy <| oix 13 5 fun x13 => KT.l 14 fun x14 => zp 15 (.int .u8 p1_c) <| zp 16 (vb (x14 == p1_c)) <| zp 17 (vb (x14 == p1_c)) <| zl j2
  exact zk <| zk <| zk <| zk <| zk <| zk <| zk <| zk <| zp 17 (vb false) <| zl j2
theorem bytes_Trim_0_sim (p0_s : Slc) : Sm Tryd.prog 35 [(vS p0_s), (.string (ByteArray.mk #[0]))] vS (bytes_Trim_0 p0_s) := by
  refine sm_of 42 Tryd.func35 rfl rfl rfl fun _ => ?_
  unfold bytes_Trim_0
  refine zG <| zp 4 (.slice none 0 0) <| zn <| zq <| zG <| zp 7 (vS p0_s) <| zp 8 (vi (vl p0_s)) <| zp 9 (vb ((vl p0_s) == 0)) <| zn <| SC.cond rfl ?_ ?_
  exact zG <| zp 4 (.slice none 0 0) <| zn <| zt <| ze [.tmp 4] <| zm rfl zz
  refine zw <| zq <| zG <| zp 10 (.string (ByteArray.mk #[0])) <| zp 11 (vb false) <| zn <| SC.cond_false rfl <| zw <| zq <| zG <| zp 13 (.string (ByteArray.mk #[0])) <| zp 14 (vi 1) <| zp 15 (vb true) <| zp 16 (vb true) <| zp 17 (.string (ByteArray.mk #[0])) <| zp 18 (.int .u8 0) <| zp 19 (vb true) <| zp 20 (vb true) <| zn <| SC.cond_true rfl <| zq <| SC.draw 8 (fun f => Nat.beq f 3 || Nat.beq f 6) rfl (by kernel_rfl) fun S1 => zpA 0 21 (vS p0_s) <| zpA 1 22 (.string (ByteArray.mk #[0])) <| zpA 2 23 (.int .u8 0) <| zpA 4 25 (.string (ByteArray.mk #[0])) <| zpA 5 26 (.int .u8 0) <| KT.last 3 rfl (by kernel_rfl) rfl rfl <| ocall 24 (bytes_trimRightByte_sim _ _) fun x24 => KT.lastN 6 rfl (by kernel_rfl) rfl rfl (ocall 27 (bytes_trimLeftByte_sim _ _) fun x27 => ?_)
  exact KT.pvN 7 4 (vS x27) <| KT.doneN (by kernel_rfl) <| SX.seq <| zt <| ze [.tmp 4] <| zm rfl zz
theorem bits_Nought_sim (p0_b : Slc) : Sm Tryd.prog 20 [(vS p0_b)] Value.bool (bits_Nought p0_b) := by
  refine sm_of 7 Tryd.func20 rfl rfl rfl fun _ => ?_
  unfold bits_Nought
  exact zG <| zp 2 (vb false) <| zN <| zp 3 (vS p0_b) <| zc 4 (bytes_Trim_0_sim _) fun x4 => zp 5 (vi (vl x4)) <| zp 6 (vb ((vl x4) == 0)) <| zp 2 (vb ((vl x4) == 0)) <| zn <| SC.ret <| ze [.tmp 2] <| zm rfl zz
theorem bits_Get_sim (p0_b : Slc) (p1_at : Int) (p2_width : Int) : Sm Tryd.prog 21 [(vS p0_b), (vi p1_at), (vi p2_width)] (fun y : (Int × Bool) => (.tuple #[(vi y.1), (vb y.2)])) (bits_Get p0_b p1_at p2_width) := by
  refine sm_of 56 Tryd.func21 rfl rfl rfl fun _ => ?_
  unfold bits_Get
  refine zG <| zp 6 (vi 0) <| zp 7 (vb false) <| zn <| zq <| zG <| zp 11 (vi p2_width) <| zp 12 (vb (decide (p2_width < 1))) <| zp 13 (vb (decide (p2_width < 1))) <| zj 3 (fun q1 => [(16, (vb q1)), (0, (vS p0_b)), (1, (vi p1_at)), (2, (vi p2_width))]) (fun q1 => ?_) (fun j1 => ?_)
  refine zp 17 (vb q1) <| zj 3 (fun q2 => [(20, (vb q2)), (0, (vS p0_b)), (1, (vi p1_at)), (2, (vi p2_width))]) (fun q2 => ?_) (fun j2 => ?_)
  refine zp 21 (vb q2) <| zj 5 (fun q3 => [(26, (vb q3)), (0, (vS p0_b)), (1, (vi p1_at)), (2, (vi p2_width))]) (fun q3 => ?_) (fun j3 => ?_)
  refine zp 27 (vb q3) <| zj 7 (fun q4 => [(34, (vb q4)), (0, (vS p0_b)), (1, (vi p1_at)), (2, (vi p2_width))]) (fun q4 => ?_) (fun j4 => ?_)
  refine zn <| SC.cond rfl ?_ ?_
  exact zG <| zp 6 (vi 0) <| zp 7 (vb false) <| zn <| zt <| ze [.tmp 6, .tmp 7] <| zm rfl <| zm rfl zz
  refine zw <| zG <| zp 8 (vi 0) <| zn <| zq <| zG <| zp 35 (vS p0_b) <| zp 36 (vi p1_at) <| zp 37 (vi p1_at) <| zp 38 (vi p2_width) <| zp 39 (vi (w64 (p1_at + p2_width))) <| KT.oy rfl (OY.slice11 (d := 40) (s := p0_b) (lo := p1_at) (hi := w64 (p1_at + p2_width)) (size := 1) (elem := 5) _ _ _ _ rfl rfl rfl rfl (by kernel_rfl) (by kernel_rfl) rfl rfl (fun x40 => ?_))
  refine zp 41 (vi (vl x40)) <| zp 42 (vi 0) <| zn <| SC.block <| zL (σ := (Int × Int)) (fun s5 => [(8, (vi s5.1)), (40, (vS x40)), (41, (vi (vl x40))), (42, (vi s5.2))]) fun _ _ _ s5 => zG <| zp 43 (vb (decide (s5.2 < (vl x40)))) <| zn <| zq <| SC.cond rfl ?_ ?_
  refine zw <| zq <| SC.block <| zG <| zp 44 (vi s5.2) <| zy <| oix 45 5 fun x45 => KT.l 46 fun x46 => zp 9 (vi s5.2) <| zp 10 (.int .u8 x46) <| zn <| zg <| zp 47 (vi s5.1) <| zp 48 (.int .u8 x46) <| zp 49 (vi (w64 x46)) <| zp 50 (vi s5.2) <| zp 51 (vi (w64 (8 * s5.2))) <| KT.oy rfl (OY.shl (d := 52) (x := w64 x46) (y := w64 (8 * s5.2)) _ _ _ _ (bShl .i64 (w64 x46) (w64 (8 * s5.2))) rfl rfl rfl rfl rfl rfl ?_)
  exact zp 53 (vi (bOr .i64 s5.1 (bShl .i64 (w64 x46) (w64 (8 * s5.2))))) <| zp 8 (vi (bOr .i64 s5.1 (bShl .i64 (w64 x46) (w64 (8 * s5.2))))) <| KT.nil <| SX.block <| SX.seq <| zg <| zp 54 (vi (w64 (s5.2 + 1))) <| zp 42 (vi (w64 (s5.2 + 1))) <| KT.nil zX
  exact SC.exit <| SX.then_exit <| SX.loop_exit <| SX.block_hit <| SX.seq <| zG <| zp 55 (vi s5.1) <| zp 6 (vi s5.1) <| zp 7 (vb true) <| zn <| SC.ret <| ze [.tmp 6, .tmp 7] <| zm rfl <| zm rfl zz
  refine KT.ite 27 rfl ?_ ?_
  exact zk <| zk <| zk <| zk <| zk <| zk <| zp 34 (vb true) <| zl j4
  exact zp 28 (vS p0_b) <| zp 29 (vi (vl p0_b)) <| zp 30 (vi p1_at) <| zp 31 (vi (w64 ((vl p0_b) - p1_at))) <| zp 32 (vi p2_width) <| zp 33 (vb (decide ((w64 ((vl p0_b) - p1_at)) < p2_width))) <| zp 34 (vb (decide ((w64 ((vl p0_b) - p1_at)) < p2_width))) <| zl j4
  refine KT.ite 21 rfl ?_ ?_
  exact zk <| zk <| zk <| zk <| zp 26 (vb true) <| zl j3
  exact zp 22 (vi p1_at) <| zp 23 (vS p0_b) <| zp 24 (vi (vl p0_b)) <| zp 25 (vb (decide (p1_at > (vl p0_b)))) <| zp 26 (vb (decide (p1_at > (vl p0_b)))) <| zl j3
  refine KT.ite 17 rfl ?_ ?_
  exact zk <| zk <| zp 20 (vb true) <| zl j2
  exact zp 18 (vi p1_at) <| zp 19 (vb (decide (p1_at < 0))) <| zp 20 (vb (decide (p1_at < 0))) <| zl j2
  refine KT.ite 13 rfl ?_ ?_
  exact zk <| zk <| zp 16 (vb true) <| zl j1
  exact zp 14 (vi p2_width) <| zp 15 (vb (decide (p2_width > 4))) <| zp 16 (vb (decide (p2_width > 4))) <| zl j1
theorem scan_GetSummary_sim (p0_g : (Int × Int × Int)) (p1_b : (Int × Int × Slc)) : Sm Tryd.prog 8 [(.agg #[(vi p0_g.1), (vi p0_g.2.1), (vi p0_g.2.2)]), (.agg #[(vi p1_b.1), (vi p1_b.2.1), (vS p1_b.2.2)])] (fun y : ((Int × Int × Int × Int) × Bool) => (.tuple #[(.agg #[(vi y.1.1), (vi y.1.2.1), (vi y.1.2.2.1), (vi y.1.2.2.2)]), (vb y.2)])) (scan_GetSummary p0_g p1_b) := by
  refine sm_of 65 Tryd.func8 rfl rfl rfl fun _ => ?_
  unfold scan_GetSummary
  refine zG <| KT.nw 2 (fun ad => .pointer (some ad)) 23 fun x2 => KT.nw 3 (fun ad => .pointer (some ad)) 28 fun x3 => KT.nw 4 (fun ad => .pointer (some ad)) 25 fun x4 => zp 5 (vb false) <| zn <| zq <| zG <| zp 9 (vp x3) <| KT.l 10 fun x10 => zp 11 (vb (x10 != 65535)) <| zp 12 (vb (x10 != 65535)) <| zj 4 (fun q1 => [(16, (vb q1)), (2, (vp x2)), (3, (vp x3)), (4, (vp x4))]) (fun q1 => ?_) (fun j1 => ?_)
  refine zp 17 (vb q1) <| zj 5 (fun q2 => [(22, (vb q2)), (2, (vp x2)), (3, (vp x3)), (4, (vp x4))]) (fun q2 => ?_) (fun j2 => ?_)
  refine zp 23 (vb q2) <| zj 6 (fun q3 => [(29, (vb q3)), (2, (vp x2)), (3, (vp x3)), (4, (vp x4))]) (fun q3 => ?_) (fun j3 => ?_)
  refine zn <| SC.cond rfl ?_ ?_
  exact zG <| zp 30 (.agg #[(vi 0), (vi 0), (vi 0), (vi 0)]) <| zo <| osa <| zp 5 (vb false) <| zn <| zt <| ze [.cell 4 25, .tmp 5] <| RS.cellA 4 (by kernel_rfl) rfl rfl (fun _ => rfl) fun r4 => zm rfl zz
  refine zw <| zG <| KT.nw 6 (fun ad => .pointer (some ad)) 49 fun x6 => zn <| zq <| zG <| zp 31 (vi 0) <| zn <| SC.block <| zL (σ := (Int)) (fun s4 => [(2, (vp x2)), (3, (vp x3)), (4, (vp x4)), (6, (vp x6)), (31, (vi s4))]) fun _ _ _ s4 => zG <| zp 32 (vb (decide (s4 < 5))) <| zn <| zq <| SC.cond rfl ?_ ?_
  refine zw <| zq <| SC.block <| zG <| zp 33 (vi s4) <| zp 7 (vi s4) <| zn <| zg <| zp 35 (vi s4) <| zp 36 (va x3 2) <| KT.l 37 fun x37 => zp 38 (vi s4) <| zp 39 (vi (w64 (2 * s4))) <| zc 40 (bits_Get_sim _ _ _) fun x40 => zp 34 (.tuple #[(vi x40.1), (vb x40.2)]) <| zp 41 (vi x40.1) <| zp 42 (vb x40.2) <| KT.oy rfl (OY.idxA (d := 43) (ad := x6) (i := s4) (size := 1) (len := 5) (elem := 3) _ _ _ rfl rfl rfl (by kernel_rfl) (by kernel_rfl) rfl rfl rfl (fun x43 => ?_))
  exact KT.s <| KT.nil <| SX.block <| SX.seq <| zg <| zp 44 (vi (w64 (s4 + 1))) <| zp 31 (vi (w64 (s4 + 1))) <| KT.nil zX
  refine SC.exit <| SX.then_exit <| SX.loop_exit <| SX.block_hit <| SX.seq <| zG <| zp 45 (va x6 1) <| KT.l 46 fun x46 => zp 47 (va x6 2) <| KT.l 48 fun x48 => zp 49 (va x6 3) <| KT.l 50 fun x50 => zp 51 (va x6 4) <| KT.l 52 fun x52 => zp 53 (.agg #[(vi x46), (vi x48), (vi x50), (vi x52)]) <| KT.nw 8 (fun ad => .pointer (some ad)) 25 fun x8 => zo <| osa <| zn <| zq <| zG <| zp 54 (vp x6) <| KT.l 55 fun x55 => zp 56 (vb (x55 != 21331)) <| zp 57 (vb (x55 != 21331)) <| zj 5 (fun q5 => [(62, (vb q5)), (4, (vp x4)), (8, (vp x8))]) (fun q5 => ?_) (fun j5 => ?_)
  refine zn <| SC.cond rfl ?_ ?_
  exact zG <| zp 63 (.agg #[(vi 0), (vi 0), (vi 0), (vi 0)]) <| zo <| osa <| zp 5 (vb false) <| zn <| zt <| ze [.cell 4 25, .tmp 5] <| RS.cellA 4 (by kernel_rfl) rfl rfl (fun _ => rfl) fun r4 => zm rfl zz
  exact zw <| zG <| zo <| ola 64 4 fun x64 => zo <| osa <| zp 5 (vb true) <| zn <| SC.ret <| ze [.cell 4 25, .tmp 5] <| RS.cellA 4 (by kernel_rfl) rfl rfl (fun _ => rfl) fun r4 => zm rfl zz
  refine KT.ite 57 rfl ?_ ?_
  exact zk <| zk <| zk <| zk <| zp 62 (vb true) <| zl j5
  exact zo <| ola 58 3 fun x58 => zo <| ola 59 4 fun x59 => zc 60 (scan_right_sim _ _) fun x60 => zp 61 (vb (!x60)) <| zp 62 (vb (!x60)) <| zl j5
  refine KT.ite 23 rfl ?_ ?_
  exact zk <| zk <| zk <| zk <| zk <| zp 29 (vb true) <| zl j3
  refine zp 24 (va x3 2) <| KT.l 25 fun x25 => KT.oy rfl (OY.slice10 (d := 26) (s := x25) (lo := 10) (size := 1) (elem := 5) _ _ _ rfl rfl rfl (by kernel_rfl) (by kernel_rfl) rfl rfl (fun x26 => ?_))
  exact zc 27 (bits_Nought_sim _) fun x27 => zp 28 (vb (!x27)) <| zp 29 (vb (!x27)) <| zl j3
  refine KT.ite 17 rfl ?_ ?_
  exact zk <| zk <| zk <| zk <| zp 22 (vb true) <| zl j2
  exact zp 18 (va x3 2) <| KT.l 19 fun x19 => zp 20 (vi (vl x19)) <| zp 21 (vb ((vl x19) != 56)) <| zp 22 (vb ((vl x19) != 56)) <| zl j2
  refine KT.ite 12 rfl ?_ ?_
  exact zk <| zk <| zk <| zp 16 (vb true) <| zl j1
  exact zp 13 (va x3 1) <| KT.l 14 fun x14 => zp 15 (vb (x14 != 0)) <| zp 16 (vb (x14 != 0)) <| zl j1
theorem cmp_isNaN_i_sim (p0_x : Int) : Sm Tryd.prog 38 [(vi p0_x)] Value.bool (cmp_isNaN_i p0_x) := by
  refine sm_of 6 Tryd.func38 rfl rfl rfl fun _ => ?_
  unfold cmp_isNaN_i
  exact zG <| zp 2 (vb false) <| zN <| zp 3 (vi p0_x) <| zp 4 (vi p0_x) <| zp 5 (vb (p0_x != p0_x)) <| zp 2 (vb (p0_x != p0_x)) <| zn <| SC.ret <| ze [.tmp 2] <| zm rfl zz
theorem cmp_Compare_i_sim (p0_x : Int) (p1_y : Int) : Sm Tryd.prog 26 [(vi p0_x), (vi p1_y)] (Value.int .i64) (cmp_Compare_i p0_x p1_y) := by
  refine sm_of 20 Tryd.func26 rfl rfl rfl fun _ => ?_
  unfold cmp_Compare_i
  refine zG <| zp 4 (vi 0) <| zN <| zp 7 (vi p0_x) <| zc 8 (cmp_isNaN_i_sim _) fun x8 => zp 5 (vb x8) <| zN <| zp 9 (vi p1_y) <| zc 10 (cmp_isNaN_i_sim _) fun x10 => zp 6 (vb x10) <| zn <| zq <| zG <| zp 11 (vb x8) <| zn <| SC.cond rfl ?_ ?_
  refine zq <| zG <| zp 12 (vb x10) <| zn <| SC.cond rfl ?_ ?_
  exact zG <| zp 4 (vi 0) <| zn <| zt <| SX.then_ret <| ze [.tmp 4] <| zm rfl zz
  exact zw <| zG <| zp 4 (vi (-1)) <| zn <| zt <| ze [.tmp 4] <| zm rfl zz
  refine zw <| zq <| zG <| zp 13 (vb x10) <| zn <| SC.cond rfl ?_ ?_
  exact zG <| zp 4 (vi 1) <| zn <| zt <| ze [.tmp 4] <| zm rfl zz
  refine zw <| zq <| zG <| zp 14 (vi p0_x) <| zp 15 (vi p1_y) <| zp 16 (vb (decide (p0_x < p1_y))) <| zn <| SC.cond rfl ?_ ?_
  exact zG <| zp 4 (vi (-1)) <| zn <| zt <| ze [.tmp 4] <| zm rfl zz
  refine zw <| zq <| zG <| zp 17 (vi p0_x) <| zp 18 (vi p1_y) <| zp 19 (vb (decide (p0_x > p1_y))) <| zn <| SC.cond rfl ?_ ?_
  exact zG <| zp 4 (vi 1) <| zn <| zt <| ze [.tmp 4] <| zm rfl zz
  exact zw <| zG <| zp 4 (vi 0) <| zn <| SC.ret <| ze [.tmp 4] <| zm rfl zz
theorem scan_Groups_c1_sim (p0_a : (Int × Int × Int × Int × Int × Int)) (p1_b : (Int × Int × Int × Int × Int × Int)) : Sm Tryd.prog 25 [(.agg #[(vi p0_a.1), (vi p0_a.2.1), (vi p0_a.2.2.1), (vi p0_a.2.2.2.1), (vi p0_a.2.2.2.2.1), (vi p0_a.2.2.2.2.2)]), (.agg #[(vi p1_b.1), (vi p1_b.2.1), (vi p1_b.2.2.1), (vi p1_b.2.2.2.1), (vi p1_b.2.2.2.2.1), (vi p1_b.2.2.2.2.2)])] (Value.int .i64) (scan_Groups_c1 p0_a p1_b) := by
  refine sm_of 12 Tryd.func25 rfl rfl rfl fun _ => ?_
  unfold scan_Groups_c1
  exact zG <| KT.nw 2 (fun ad => .pointer (some ad)) 39 fun x2 => KT.nw 3 (fun ad => .pointer (some ad)) 39 fun x3 => zp 4 (vi 0) <| zN <| zp 5 (va x2 2) <| zp 6 (.pointer (some (Addr.add (Addr.add x2 2) 1))) <| KT.l 7 fun x7 => zp 8 (va x3 2) <| zp 9 (.pointer (some (Addr.add (Addr.add x3 2) 1))) <| KT.l 10 fun x10 => zc 11 (cmp_Compare_i_sim _ _) fun x11 => zp 4 (vi x11) <| zn <| SC.ret <| ze [.tmp 4] <| zm rfl zz
theorem scan_whole_sim (p0_m : Slc) (p1_count : Int) : Sm Tryd.prog 27 [(vS p0_m), (vi p1_count)] Value.bool (scan_whole p0_m p1_count) := by
  refine sm_of 46 Tryd.func27 rfl rfl rfl fun _ => ?_
  unfold scan_whole
  refine zG <| zp 4 (vb false) <| zn <| zq <| zG <| zp 7 (vi p1_count) <| zp 8 (vb (decide (p1_count < 1))) <| zp 9 (vb (decide (p1_count < 1))) <| zj 5 (fun q1 => [(14, (vb q1)), (0, (vS p0_m)), (1, (vi p1_count))]) (fun q1 => ?_) (fun j1 => ?_)
  refine zp 15 (vb q1) <| zj 15 (fun q2 => [(30, (vb q2)), (0, (vS p0_m)), (1, (vi p1_count))]) (fun q2 => ?_) (fun j2 => ?_)
  refine zn <| SC.cond rfl ?_ ?_
  exact zG <| zp 4 (vb false) <| zn <| zt <| ze [.tmp 4] <| zm rfl zz
  refine zw <| zq <| zG <| zp 31 (vS p0_m) <| zp 32 (vi p1_count) <| KT.oy rfl (OY.slice01 (d := 33) (s := p0_m) (hi := p1_count) (size := 6) (elem := 39) _ _ _ rfl rfl rfl (by kernel_rfl) (by kernel_rfl) rfl rfl (fun x33 => ?_))
  refine zp 34 (vi (vl x33)) <| zp 35 (vi 0) <| zn <| SC.block <| zL (σ := (Int)) (fun s3 => [(33, (vS x33)), (34, (vi (vl x33))), (35, (vi s3))]) fun _ _ _ s3 => zG <| zp 36 (vb (decide (s3 < (vl x33)))) <| zn <| zq <| SC.cond rfl ?_ ?_
  refine zw <| zq <| SC.block <| zG <| zp 37 (vi s3) <| zy <| oix 38 39 fun x38 => zo <| ola 39 6 fun x39 => KT.nw 6 (fun ad => .pointer (some ad)) 39 fun x6 => zp 5 (vi s3) <| zo <| osa <| zN <| zp 40 (va x6 2) <| zp 41 (.pointer (some (Addr.add (Addr.add x6 2) 1))) <| KT.l 42 fun x42 => zp 43 (vi s3) <| zp 44 (vb (x42 != s3)) <| zn <| SC.cond rfl ?_ ?_
  exact zG <| zp 4 (vb false) <| zn <| SC.ret <| SX.block_ret <| SX.then_ret <| SX.loop_ret <| SX.block_ret <| SX.then_ret <| ze [.tmp 4] <| zm rfl zz
  exact SC.skip <| SX.block <| SX.seq <| zg <| zp 45 (vi (w64 (s3 + 1))) <| zp 35 (vi (w64 (s3 + 1))) <| KT.nil zX
  exact SC.exit <| SX.then_exit <| SX.loop_exit <| SX.block_hit <| SX.seq <| zG <| zp 4 (vb true) <| zn <| SC.ret <| ze [.tmp 4] <| zm rfl zz
  refine KT.ite 15 rfl ?_ ?_
  exact zk <| zk <| zk <| zk <| zk <| zk <| zk <| zk <| zk <| zk <| zk <| zk <| zk <| zk <| zp 30 (vb true) <| zl j2
  refine zp 16 (vS p0_m) <| zp 17 (vi (vl p0_m)) <| zp 18 (vi p1_count) <| zp 19 (vb (decide ((vl p0_m) > p1_count))) <| zp 20 (vb (decide ((vl p0_m) > p1_count))) <| zj 9 (fun q4 => [(29, (vb q4)), (0, (vS p0_m)), (1, (vi p1_count)), (15, (vb false))]) (fun q4 => ?_) (fun j4 => ?_)
  exact zp 30 (vb q4) <| zl j2
  refine KT.ite 20 rfl ?_ ?_
  exact zp 21 (vS p0_m) <| zp 22 (vi p1_count) <| zy <| oix 23 39 fun x23 => zp 24 (va x23 2) <| zp 25 (.pointer (some (Addr.add (Addr.add x23 2) 1))) <| KT.l 26 fun x26 => zp 27 (vi p1_count) <| zp 28 (vb (decide (x26 < p1_count))) <| zp 29 (vb (decide (x26 < p1_count))) <| zl j4
  exact zk <| zk <| zk <| zk <| zk <| zk <| zk <| zk <| zp 29 (vb false) <| zl j4
  refine KT.ite 9 rfl ?_ ?_
  exact zk <| zk <| zk <| zk <| zp 14 (vb true) <| zl j1
  exact zp 10 (vS p0_m) <| zp 11 (vi (vl p0_m)) <| zp 12 (vi p1_count) <| zp 13 (vb (decide ((vl p0_m) < p1_count))) <| zp 14 (vb (decide ((vl p0_m) < p1_count))) <| zl j1
theorem cmp_Or_i_sim (p0_vals : Slc) : Sm Tryd.prog 30 [(vS p0_vals)] (Value.int .i64) (cmp_Or_i p0_vals) := by
  refine sm_of 18 Tryd.func30 rfl rfl rfl fun _ => ?_
  unfold cmp_Or_i
  refine zG <| zp 2 (vi 0) <| zN <| zp 3 (vi 0) <| zn <| zq <| zG <| zp 6 (vS p0_vals) <| zp 7 (vi (vl p0_vals)) <| zp 8 (vi 0) <| zn <| SC.block <| zL (σ := (Int)) (fun s1 => [(3, (vi 0)), (6, (vS p0_vals)), (7, (vi (vl p0_vals))), (8, (vi s1))]) fun _ _ _ s1 => zG <| zp 9 (vb (decide (s1 < (vl p0_vals)))) <| zn <| zq <| SC.cond rfl ?_ ?_
  refine zw <| zq <| SC.block <| zG <| zy <| oix 10 3 fun x10 => KT.l 11 fun x11 => zp 5 (vi x11) <| zN <| zp 12 (vi x11) <| zp 13 (vi 0) <| zp 14 (vb (x11 != 0)) <| zn <| SC.cond rfl ?_ ?_
  exact zG <| zp 15 (vi x11) <| zp 2 (vi x11) <| zn <| SC.ret <| SX.block_ret <| SX.then_ret <| SX.loop_ret <| SX.block_ret <| SX.then_ret <| ze [.tmp 2] <| zm rfl zz
  exact SC.skip <| SX.block <| SX.seq <| zg <| zp 16 (vi (w64 (s1 + 1))) <| zp 8 (vi (w64 (s1 + 1))) <| KT.nil zX
  exact SC.exit <| SX.then_exit <| SX.loop_exit <| SX.block_hit <| SX.seq <| zG <| zp 17 (vi 0) <| zp 2 (vi 0) <| zn <| SC.ret <| ze [.tmp 2] <| zm rfl zz
theorem scan_Groups_c2_sim (p0_a : (Int × Int × Slc)) (p1_b : (Int × Int × Slc)) : Sm Tryd.prog 29 [(.agg #[(vi p0_a.1), (vi p0_a.2.1), (vS p0_a.2.2)]), (.agg #[(vi p1_b.1), (vi p1_b.2.1), (vS p1_b.2.2)])] (Value.int .i64) (scan_Groups_c2 p0_a p1_b) := by
  refine sm_of 19 Tryd.func29 rfl rfl rfl fun _ => ?_
  unfold scan_Groups_c2
  refine zG <| KT.nw 2 (fun ad => .pointer (some ad)) 46 fun x2 => KT.nw 3 (fun ad => .pointer (some ad)) 46 fun x3 => zp 4 (vi 0) <| zn <| zq <| SC.draw 15 (fun _ => false) rfl (by kernel_rfl) fun S1 => zpA 0 5 (vp x2) <| zA 1 rfl <| oli 6 fun x6 => zpA 2 7 (vp x3) <| zA 3 rfl <| oli 8 fun x8 => zpA 5 10 (va x2 2) <| zA 6 rfl <| oli 11 fun x11 => zpA 7 12 (vi (vl x11)) <| zpA 8 13 (va x3 2) <| zA 9 rfl <| oli 14 fun x14 => zpA 10 15 (vi (vl x14)) <| KT.one 4 rfl (by kernel_rfl) rfl <| OW.step <| ocall 9 (cmp_Compare_i_sim _ _) fun x9 => KT.and <| KT.one 11 rfl (by kernel_rfl) rfl <| OW.step <| ocall 16 (cmp_Compare_i_sim _ _) fun x16 => KT.and <| KT.one 12 rfl (by kernel_rfl) rfl <| OW.step <| OW.new (d := 17) [(vi x9), (vi x16)] (fun ad => .slice (some ad) 2 2) 3 rfl (fun _ => by kernel_rfl) rfl rfl fun x17 => KT.and <| KT.one 13 rfl (by kernel_rfl) rfl <| OW.step <| ocall 18 (cmp_Or_i_sim _) fun x18 => KT.and <| zpA 14 4 (vi x18) <| KT.doneA (by kernel_rfl) <| SX.seq <| SC.ret <| ze [.tmp 4] ?_
  exact zm rfl zz
theorem sortF_scan_Groups_c2_sim (s : Slc) (Qf : Unit → World → Prop) (w : World) (hm : sortFM 3 (fun y : (Int × Int × Slc) => [(.int .i64 y.1), (.int .i64 y.2.1), (.slice y.2.2.base y.2.2.len y.2.2.cap)]) cf_scan_Groups_c2 s Qf w) : Calls Tryd.prog 28 #[.slice s.base s.len s.cap, (.func (.func fid_scan_Groups_c2) #[] #[])] w (RetPost (fun _ : Unit => .tuple #[]) Qf) :=
  sortFM_sim sortLay_c2 3 Tryd.isAgg46 Tryd.sizeOf46 (fun y : (Int × Int × Slc) => [(.int .i64 y.1), (.int .i64 y.2.1), (.slice y.2.2.base y.2.2.len y.2.2.cap)]) (fun _ => rfl) (fun x v hv => by simp at hv; rcases hv with rfl | rfl | rfl <;> rfl) cf_scan_Groups_c2 swo_c2 29 (enters_of Tryd.func29 (by kernel_rfl) rfl) (fun x y W => (scan_Groups_c2_sim x y _ W (lay_c2 x y W)).mono fun e w' h => by obtain ⟨r, h1, h2, h3⟩ := ret_open h; subst h2; exact ⟨h1, h3⟩) s Qf w hm
theorem sortF_scan_Groups_c1_sim (s : Slc) (Qf : Unit → World → Prop) (w : World) (hm : sortFM 6 (fun y : (Int × Int × Int × Int × Int × Int) => [(.int .i64 y.1), (.int .i64 y.2.1), (.int .i64 y.2.2.1), (.int .i64 y.2.2.2.1), (.int .i64 y.2.2.2.2.1), (.int .i64 y.2.2.2.2.2)]) cf_scan_Groups_c1 s Qf w) : Calls Tryd.prog 24 #[.slice s.base s.len s.cap, (.func (.func fid_scan_Groups_c1) #[] #[])] w (RetPost (fun _ : Unit => .tuple #[]) Qf) :=
  sortFM_sim sortLay_c1 6 Tryd.isAgg39 Tryd.sizeOf39 (fun y : (Int × Int × Int × Int × Int × Int) => [(.int .i64 y.1), (.int .i64 y.2.1), (.int .i64 y.2.2.1), (.int .i64 y.2.2.2.1), (.int .i64 y.2.2.2.2.1), (.int .i64 y.2.2.2.2.2)]) (fun _ => rfl) (fun x v hv => by simp at hv; rcases hv with rfl | rfl | rfl | rfl | rfl | rfl <;> rfl) cf_scan_Groups_c1 swo_c1 25 (enters_of Tryd.func25 (by kernel_rfl) rfl) (fun x y W => (scan_Groups_c1_sim x y _ W (lay_c1 x y W)).mono fun e w' h => by obtain ⟨r, h1, h2, h3⟩ := ret_open h; subst h2; exact ⟨h1, h3⟩) s Qf w hm
theorem scan_Groups_sim (p0_list : Slc) : Sm Tryd.prog 11 [(vS p0_list)] vS (scan_Groups p0_list) := by
  refine sm_of 101 Tryd.func11 rfl rfl rfl fun _ => ?_
  unfold scan_Groups
  refine zG <| zp 2 (.slice none 0 0) <| zN <| KT.ow rfl (OW.newO (d := 13) (.map #[] 0) (fun r => .map (some r)) rfl (fun _ => by kernel_rfl) rfl rfl (fun x13 => ?_))
  refine zp 3 (.map (some x13)) <| zn <| zq <| zG <| zp 14 (vS p0_list) <| zp 15 (vi (vl p0_list)) <| zp 16 (vi 0) <| zn <| SC.block <| zL (σ := (Int)) (fun s1 => [(3, (.map (some x13))), (14, (vS p0_list)), (15, (vi (vl p0_list))), (16, (vi s1))]) fun _ _ _ s1 => zG <| zp 17 (vb (decide (s1 < (vl p0_list)))) <| zn <| zq <| SC.cond rfl ?_ ?_
  refine zw <| zq <| SC.block <| zG <| zy <| oix 18 39 fun x18 => zo <| ola 19 6 fun x19 => KT.nw 5 (fun ad => .pointer (some ad)) 39 fun x5 => zo <| osa <| zN <| zp 20 (va x5 2) <| zp 21 (.pointer (some (Addr.add (Addr.add x5 2) 1))) <| KT.l 22 fun x22 => zp 23 (vb (decide (x22 ≥ 0))) <| zp 24 (vb (decide (x22 ≥ 0))) <| zj 7 (fun q2 => [(31, (vb q2)), (3, (.map (some x13))), (5, (vp x5)), (14, (vS p0_list)), (15, (vi (vl p0_list))), (16, (vi s1))]) (fun q2 => ?_) (fun j2 => ?_)
  refine zn <| SC.cond rfl ?_ ?_
  refine zG <| zp 32 (va x5 1) <| KT.l 33 fun x33 => zp 34 (va x5 2) <| zp 35 (.pointer (some (Addr.add (Addr.add x5 2) 1))) <| KT.l 36 fun x36 => zp 37 (vi (w64 (x33 - x36))) <| zp 38 (va x5 2) <| zp 39 (va x5 2) <| KT.l 40 fun x40 => zp 41 (.agg #[(vi (w64 (x33 - x36))), (vi x40)]) <| KT.nw 6 (fun ad => .pointer (some ad)) 58 fun x6 => zo <| osa <| zn <| zg <| zp 42 (.map (some x13)) <| zo <| ola 43 2 fun x43 => zo <| ola 45 6 fun x45 => KT.nw 46 (fun ad => .slice (some ad) 1 1) 39 fun x46 => KT.ow rfl (OW.ent (d := 47) (enc := vS) (key := (x43.1, x43.2)) (⟨none, 0, 0⟩) 58 37 _ _ _ _ _ rfl rfl rfl (by kernel_rfl) rfl (by kernel_rfl) (by kernel_rfl) rfl rfl (fun x47 => ?_))
  refine zp 44 (vS x47.1) <| zo <| oapp 48 39 fun x48 => zp 49 (vi x47.2) <| KT.ow rfl (OW.entSt _ _ _ _ rfl rfl rfl rfl rfl ?_)
  exact KT.nil <| SX.block <| SX.seq <| zg <| zp 50 (vi (w64 (s1 + 1))) <| zp 16 (vi (w64 (s1 + 1))) <| KT.nil zX
  exact SC.skip <| SX.block <| SX.seq <| zg <| zp 50 (vi (w64 (s1 + 1))) <| zp 16 (vi (w64 (s1 + 1))) <| KT.nil zX
  refine KT.ite 24 rfl ?_ ?_
  exact zp 25 (va x5 1) <| KT.l 26 fun x26 => zp 27 (va x5 2) <| zp 28 (.pointer (some (Addr.add (Addr.add x5 2) 1))) <| KT.l 29 fun x29 => zp 30 (vb (decide (x26 ≥ x29))) <| zp 31 (vb (decide (x26 ≥ x29))) <| zl j2
  exact zk <| zk <| zk <| zk <| zk <| zk <| zp 31 (vb false) <| zl j2
  refine SC.exit <| SX.then_exit <| SX.loop_exit <| SX.block_hit <| SX.seq <| zG <| zp 7 (.slice none 0 0) <| zn <| zq <| zG <| zp 51 (.map (some x13)) <| KT.ow rfl (OW.rangeMap (d := 52) _ _ 58 37 rfl rfl (by kernel_rfl) rfl rfl (fun x52 => ?_))
  refine zn <| SC.block <| zL (σ := (Slc)) (fun s3 => [(7, (vS s3)), (52, (vp x52))]) fun _ _ _ s3 => zG <| KT.ow rfl (OW.next (d := 53) _ rfl rfl rfl rfl (fun y53 => ?_))
  refine KT.opt (y := y53) 53 rfl ?_ (fun e53 => ?_)
  exact zp 54 (vb false) <| zn <| zq <| SC.cond_false rfl <| SC.exit <| SX.then_exit <| SX.loop_exit <| SX.block_hit <| SX.seq <| zG <| zp 98 (vS s3) <| zc 99 (sortF_scan_Groups_c2_sim s3) fun x99 => zN <| zp 100 (vS s3) <| zp 2 (vS s3) <| zn <| SC.ret <| ze [.tmp 2] <| zm rfl zz
  refine zp 54 (vb true) <| zn <| zq <| SC.cond_true rfl <| zw <| SC.block <| zG <| KT.ow rfl (OW.entry (d := 55) (ek := (fun y : (Int × Int) => (.agg #[(vi y.1), (vi y.2)]))) (evv := vS) _ rfl rfl rfl rfl (fun x55 => ?_))
  refine zp 56 (.agg #[(vi x55.1.1), (vi x55.1.2)]) <| zp 57 (vS x55.2) <| KT.nw 8 (fun ad => .pointer (some ad)) 58 fun x8 => zo <| osa <| zp 9 (vS x55.2) <| zN <| zp 58 (vS x55.2) <| zc 59 (sortF_scan_Groups_c1_sim x55.2) fun x59 => zn <| zq <| zG <| zp 60 (vS x55.2) <| zp 61 (va x8 1) <| KT.l 62 fun x62 => zc 63 (scan_whole_sim _ _) fun x63 => zp 64 (vb (!x63)) <| zn <| SC.cond rfl ?_ ?_
  exact SC.exit <| SX.then_exit <| SX.block_hit zX
  refine zw <| zG <| zp 65 (vS x55.2) <| zp 66 (va x8 1) <| KT.l 67 fun x67 => KT.oy rfl (OY.slice01 (d := 68) (s := x55.2) (hi := x67) (size := 6) (elem := 39) _ _ _ rfl rfl rfl (by kernel_rfl) (by kernel_rfl) rfl rfl (fun x68 => ?_))
  refine zp 9 (vS x68) <| zn <| zq <| SC.draw 13 (fun f => Nat.beq f 12) rfl (by kernel_rfl) fun S4 => zpA 0 69 (vp x8) <| zA 1 rfl <| oli 70 fun x70 => zpA 2 71 (vS x68) <| zpA 3 72 (vS x68) <| zpA 4 73 (vi (vl x68)) <| zpA 5 74 (vi (w64 ((vl x68) - 1))) <| zB 6 rfl <| oix 75 39 fun x75 => zpA 7 76 (va x75 2) <| zpA 8 77 (.pointer (some (Addr.add (Addr.add x75 2) 3))) <| zA 9 rfl <| oli 78 fun x78 => zpA 10 79 (.agg #[(vi x70), (vi x78), (.slice none 0 0)]) <| KT.one 11 rfl (by kernel_rfl) rfl <| OW.step <| OW.new (d := 10) [(vi 0), (vi 0), (.slice none 0 0)] (fun ad => .pointer (some ad)) 46 rfl (fun _ => by kernel_rfl) rfl rfl fun x10 => KT.and <| KT.last 12 rfl (by kernel_rfl) rfl rfl <| OW.stA _ _ _ rfl rfl rfl rfl rfl (by kernel_rfl) <| KT.doneN (by kernel_rfl) <| zS (T' := [(7, (vS s3)), (9, (vS x68)), (10, (vp x10)), (52, (vp x52))]) <| SX.seq <| zq <| zG <| zp 80 (vS x68) <| zp 81 (vi (vl x68)) <| zp 82 (vi 0) <| zn <| SC.block <| zL (σ := (Int)) (fun s5 => [(7, (vS s3)), (10, (vp x10)), (52, (vp x52)), (80, (vS x68)), (81, (vi (vl x68))), (82, (vi s5))]) fun _ _ _ s5 => zG ?_
  refine zp 83 (vb (decide (s5 < (vl x68)))) <| zn <| zq <| SC.cond rfl ?_ ?_
  exact zw <| zq <| SC.block <| zG <| zy <| oix 84 39 fun x84 => zo <| ola 85 6 fun x85 => KT.nw 12 (fun ad => .pointer (some ad)) 39 fun x12 => zo <| osa <| zn <| zg <| zp 86 (va x10 2) <| KT.l 87 fun x87 => zp 88 (vp x12) <| KT.l 89 fun x89 => KT.nw 90 (fun ad => .slice (some ad) 1 1) 3 fun x90 => zo <| oapp 91 3 fun x91 => zp 92 (va x10 2) <| KT.s <| KT.nil <| SX.block <| SX.seq <| zg <| zp 93 (vi (w64 (s5 + 1))) <| zp 82 (vi (w64 (s5 + 1))) <| KT.nil zX
  exact SC.exit <| SX.then_exit <| SX.loop_exit <| SX.block_hit <| SX.seq <| zg <| zp 94 (vS s3) <| zo <| ola 95 3 fun x95 => KT.nw 96 (fun ad => .slice (some ad) 1 1) 46 fun x96 => zo <| oapp 97 46 fun x97 => zp 7 (vS x97) <| KT.nil <| SX.block zX
theorem law08_Small_sim  : Sm Tryd.prog 13 [] (fun y : (Int × Int × Int) => (.agg #[(vi y.1), (vi y.2.1), (vi y.2.2)])) (law08_Small ) := by
  refine sm_of 2 Tryd.func13 rfl rfl rfl fun _ => ?_
  unfold law08_Small
  exact zG <| KT.nw 0 (fun ad => .pointer (some ad)) 23 fun x0 => zN <| zp 1 (.agg #[(vi 3), (vi 3), (vi 12)]) <| zo <| osa <| zn <| SC.ret <| ze [.cell 0 23] <| RS.cellA 3 (by kernel_rfl) rfl rfl (fun _ => rfl) fun r0 => zz
theorem ref00_SameInts_sim (p0_a : Slc) (p1_b : Slc) : Sm Tryd.prog 14 [(vS p0_a), (vS p1_b)] Value.bool (ref00_SameInts p0_a p1_b) := by
  refine sm_of 26 Tryd.func14 rfl rfl rfl fun _ => ?_
  unfold ref00_SameInts
  refine zG <| zp 4 (vb false) <| zn <| zq <| zG <| zp 6 (vS p0_a) <| zp 7 (vi (vl p0_a)) <| zp 8 (vS p1_b) <| zp 9 (vi (vl p1_b)) <| zp 10 (vb ((vl p0_a) != (vl p1_b))) <| zn <| SC.cond rfl ?_ ?_
  exact zG <| zp 4 (vb false) <| zn <| zt <| ze [.tmp 4] <| zm rfl zz
  refine zw <| zq <| zG <| zp 5 (vi 0) <| zn <| SC.block <| zL (σ := (Int)) (fun s1 => [(0, (vS p0_a)), (1, (vS p1_b)), (5, (vi s1))]) fun _ _ _ s1 => zq <| zG <| zp 11 (vi s1) <| zp 12 (vS p0_a) <| zp 13 (vi (vl p0_a)) <| zp 14 (vb (decide (s1 < (vl p0_a)))) <| zn <| SC.cond rfl ?_ ?_
  refine zw <| zq <| SC.block <| zq <| SC.draw 9 (fun _ => false) rfl (by kernel_rfl) fun S2 => zpA 0 17 (vS p0_a) <| zpA 1 18 (vi s1) <| zB 2 rfl <| oix 19 3 fun x19 => zA 3 rfl <| oli 20 fun x20 => zpA 4 21 (vS p1_b) <| zpA 5 22 (vi s1) <| zB 6 rfl <| oix 23 3 fun x23 => zA 7 rfl <| oli 24 fun x24 => zpA 8 25 (vb (x20 != x24)) <| KT.doneA (by kernel_rfl) <| SX.seq <| SC.cond rfl ?_ ?_
  exact zG <| zp 4 (vb false) <| zn <| SC.ret <| SX.block_ret <| SX.then_ret <| SX.loop_ret <| SX.block_ret <| SX.then_ret <| ze [.tmp 4] <| zm rfl zz
  exact SC.skip <| SX.block <| SX.seq <| zg <| zp 15 (vi s1) <| zp 16 (vi (w64 (s1 + 1))) <| zp 5 (vi (w64 (s1 + 1))) <| KT.nil zX
  exact SC.exit <| SX.then_exit <| SX.loop_exit <| SX.block_hit <| SX.seq <| zG <| zp 4 (vb true) <| zn <| SC.ret <| ze [.tmp 4] <| zm rfl zz
theorem law08_alive_sim  : Sm Tryd.prog 5 [] Value.bool (law08_alive ) := by
  refine sm_of 60 Tryd.func5 rfl rfl rfl fun _ => ?_
  unfold law08_alive
  refine zG <| zp 0 (vb false) <| zN <| zp 6 (.agg #[(vi 2), (vi 1), (vi 0), (vi 3)]) <| zp 7 (.agg #[(vi 5), (vi 8), (vi 2), (vi 1), (vi 0), (vi 3)]) <| zp 8 (.agg #[(vi 2), (vi 0), (vi 0), (vi 0)]) <| zp 9 (.agg #[(vi 2), (vi 7), (vi 2), (vi 0), (vi 0), (vi 0)]) <| KT.nw 10 (fun ad => .slice (some ad) 2 2) 39 fun x10 => zc 11 (scan_Groups_sim _) fun x11 => zp 1 (vS x11) <| zN <| zc 13 (law08_Small_sim ) fun x13 => zp 14 (.agg #[(vi 1), (vi 0), (vi 2), (vi 9)]) <| zc 15 (scan_PutSummary_sim _ _) fun x15 => zp 12 (.tuple #[(.agg #[(vi x15.1.1), (vi x15.1.2.1), (vS x15.1.2.2)]), (vb x15.2)]) <| zp 16 (.agg #[(vi x15.1.1), (vi x15.1.2.1), (vS x15.1.2.2)]) <| zp 17 (vb x15.2) <| KT.nw 2 (fun ad => .pointer (some ad)) 28 fun x2 => zo <| osa <| zp 3 (vb x15.2) <| zn <| zq <| SC.draw 9 (fun f => Nat.beq f 7) rfl (by kernel_rfl) fun S1 => zA 1 rfl <| olai 20 3 fun x20 => KT.two 0 6 rfl rfl (by kernel_rfl) rfl rfl ?_ ?_
  refine OW.step (ocall 19 (law08_Small_sim ) fun x19 => ?_)
  refine KT.and <| KT.two 2 6 rfl rfl (by kernel_rfl) rfl rfl ?_ ?_
  refine OW.step (ocall 21 (scan_GetSummary_sim _ _) fun x21 => ?_)
  refine KT.and <| zpA 3 18 (.tuple #[(.agg #[(vi x21.1.1), (vi x21.1.2.1), (vi x21.1.2.2.1), (vi x21.1.2.2.2)]), (vb x21.2)]) <| zpA 4 22 (.agg #[(vi x21.1.1), (vi x21.1.2.1), (vi x21.1.2.2.1), (vi x21.1.2.2.2)]) <| zpA 5 23 (vb x21.2) <| KT.one 6 rfl (by kernel_rfl) rfl <| OW.step <| OW.new (d := 4) [(vi 0), (vi 0), (vi 0), (vi 0)] (fun ad => .pointer (some ad)) 25 rfl (fun _ => by kernel_rfl) rfl rfl fun x4 => KT.and <| KT.last 7 rfl (by kernel_rfl) rfl rfl <| OW.stA _ _ _ rfl rfl rfl rfl rfl (by kernel_rfl) <| KT.pvN 8 5 (vb x21.2) <| KT.doneN (by kernel_rfl) <| SX.seq <| zG <| zp 24 (vS x11) <| zp 25 (vi (vl x11)) <| zp 26 (vb ((vl x11) == 1)) <| zp 27 (vb ((vl x11) == 1)) <| zj 6 (fun q2 => [(33, (vb q2)), (1, (vS x11)), (3, (vb x15.2)), (4, (vp x4)), (5, (vb x21.2))]) (fun q2 => ?_) (fun j2 => ?_)
  refine zp 34 (vb q2) <| zj 6 (fun q3 => [(40, (vb q3)), (1, (vS x11)), (3, (vb x15.2)), (4, (vp x4)), (5, (vb x21.2))]) (fun q3 => ?_) (fun j3 => ?_)
  refine zp 41 (vb q3) <| zj 7 (fun q4 => [(48, (vb q4)), (3, (vb x15.2)), (4, (vp x4)), (5, (vb x21.2))]) (fun q4 => ?_) (fun j4 => ?_)
  refine zp 49 (vb q4) <| zj 2 (fun q5 => [(51, (vb q5)), (4, (vp x4)), (5, (vb x21.2))]) (fun q5 => ?_) (fun j5 => ?_)
  refine zp 52 (vb q5) <| zj 2 (fun q6 => [(54, (vb q6)), (4, (vp x4))]) (fun q6 => ?_) (fun j6 => ?_)
  refine zp 55 (vb q6) <| zj 4 (fun q7 => [(59, (vb q7))]) (fun q7 => ?_) (fun j7 => ?_)
  exact zp 0 (vb q7) <| zn <| SC.ret <| ze [.tmp 0] <| zm rfl zz
  refine KT.ite 55 rfl ?_ ?_
  refine zo <| ola 56 4 fun x56 => zp 57 (.agg #[(vi 1), (vi 0), (vi 2), (vi 9)]) <| KT.oy rfl (OY.eqlAggL (d := 58) (x := [x56.1, x56.2.1, x56.2.2.1, x56.2.2.2]) (y := [1, 0, 2, 9]) _ _ _ _ _ rfl rfl rfl rfl (by kernel_rfl) rfl rfl ?_)
  exact zp 59 (vb (eqL [x56.1, x56.2.1, x56.2.2.1, x56.2.2.2] [1, 0, 2, 9])) <| zl j7
  exact zk <| zk <| zk <| zp 59 (vb false) <| zl j7
  refine KT.ite 52 rfl ?_ ?_
  exact zp 53 (vb x21.2) <| zp 54 (vb x21.2) <| zl j6
  exact zk <| zp 54 (vb false) <| zl j6
  refine KT.ite 49 rfl ?_ ?_
  exact zp 50 (vb x15.2) <| zp 51 (vb x15.2) <| zl j5
  exact zk <| zp 51 (vb false) <| zl j5
  refine KT.ite 41 rfl ?_ ?_
  exact zp 42 (vS x11) <| zy <| oix 43 46 fun x43 => zp 44 (va x43 2) <| KT.l 45 fun x45 => KT.nw 46 (fun ad => .slice (some ad) 2 2) 3 fun x46 => zc 47 (ref00_SameInts_sim _ _) fun x47 => zp 48 (vb x47) <| zl j4
  exact zk <| zk <| zk <| zk <| zk <| zk <| zp 48 (vb false) <| zl j4
  refine KT.ite 34 rfl ?_ ?_
  exact zp 35 (vS x11) <| zy <| oix 36 46 fun x36 => zp 37 (va x36 1) <| KT.l 38 fun x38 => zp 39 (vb (x38 == 3)) <| zp 40 (vb (x38 == 3)) <| zl j3
  exact zk <| zk <| zk <| zk <| zk <| zp 40 (vb false) <| zl j3
  refine KT.ite 27 rfl ?_ ?_
  exact zp 28 (vS x11) <| zy <| oix 29 46 fun x29 => zp 30 (vp x29) <| KT.l 31 fun x31 => zp 32 (vb (x31 == 7)) <| zp 33 (vb (x31 == 7)) <| zl j2
  exact zk <| zk <| zk <| zk <| zk <| zp 33 (vb false) <| zl j2
  refine OW.step (OW.new (d := 4) [(vi 0), (vi 0), (vi 0), (vi 0)] (fun ad => .pointer (some ad)) 25 rfl (fun _ => by kernel_rfl) rfl rfl (fun x4 => ?_))
  refine KT.and <| KT.one 2 rfl (by kernel_rfl) rfl <| OW.step <| ocall 21 (scan_GetSummary_sim _ _) fun x21 => KT.and <| zpA 3 18 (.tuple #[(.agg #[(vi x21.1.1), (vi x21.1.2.1), (vi x21.1.2.2.1), (vi x21.1.2.2.2)]), (vb x21.2)]) <| zpA 4 22 (.agg #[(vi x21.1.1), (vi x21.1.2.1), (vi x21.1.2.2.1), (vi x21.1.2.2.2)]) <| zpA 5 23 (vb x21.2) <| KT.last 7 rfl (by kernel_rfl) rfl rfl <| OW.stA _ _ _ rfl rfl rfl rfl rfl (by kernel_rfl) <| KT.pvN 8 5 (vb x21.2) <| KT.doneN (by kernel_rfl) <| SX.seq <| zG <| zp 24 (vS x11) <| zp 25 (vi (vl x11)) <| zp 26 (vb ((vl x11) == 1)) <| zp 27 (vb ((vl x11) == 1)) <| zj 6 (fun q8 => [(33, (vb q8)), (1, (vS x11)), (3, (vb x15.2)), (4, (vp x4)), (5, (vb x21.2))]) (fun q8 => ?_) (fun j8 => ?_)
  refine zp 34 (vb q8) <| zj 6 (fun q9 => [(40, (vb q9)), (1, (vS x11)), (3, (vb x15.2)), (4, (vp x4)), (5, (vb x21.2))]) (fun q9 => ?_) (fun j9 => ?_)
  refine zp 41 (vb q9) <| zj 7 (fun q10 => [(48, (vb q10)), (3, (vb x15.2)), (4, (vp x4)), (5, (vb x21.2))]) (fun q10 => ?_) (fun j10 => ?_)
  refine zp 49 (vb q10) <| zj 2 (fun q11 => [(51, (vb q11)), (4, (vp x4)), (5, (vb x21.2))]) (fun q11 => ?_) (fun j11 => ?_)
  refine zp 52 (vb q11) <| zj 2 (fun q12 => [(54, (vb q12)), (4, (vp x4))]) (fun q12 => ?_) (fun j12 => ?_)
  refine zp 55 (vb q12) <| zj 4 (fun q13 => [(59, (vb q13))]) (fun q13 => ?_) (fun j13 => ?_)
  exact zp 0 (vb q13) <| zn <| SC.ret <| ze [.tmp 0] <| zm rfl zz
  refine KT.ite 55 rfl ?_ ?_
  refine zo <| ola 56 4 fun x56 => zp 57 (.agg #[(vi 1), (vi 0), (vi 2), (vi 9)]) <| KT.oy rfl (OY.eqlAggL (d := 58) (x := [x56.1, x56.2.1, x56.2.2.1, x56.2.2.2]) (y := [1, 0, 2, 9]) _ _ _ _ _ rfl rfl rfl rfl (by kernel_rfl) rfl rfl ?_)
  exact zp 59 (vb (eqL [x56.1, x56.2.1, x56.2.2.1, x56.2.2.2] [1, 0, 2, 9])) <| zl j13
  exact zk <| zk <| zk <| zp 59 (vb false) <| zl j13
  refine KT.ite 52 rfl ?_ ?_
  exact zp 53 (vb x21.2) <| zp 54 (vb x21.2) <| zl j12
  exact zk <| zp 54 (vb false) <| zl j12
  refine KT.ite 49 rfl ?_ ?_
  exact zp 50 (vb x15.2) <| zp 51 (vb x15.2) <| zl j11
  exact zk <| zp 51 (vb false) <| zl j11
  refine KT.ite 41 rfl ?_ ?_
  exact zp 42 (vS x11) <| zy <| oix 43 46 fun x43 => zp 44 (va x43 2) <| KT.l 45 fun x45 => KT.nw 46 (fun ad => .slice (some ad) 2 2) 3 fun x46 => zc 47 (ref00_SameInts_sim _ _) fun x47 => zp 48 (vb x47) <| zl j10
  exact zk <| zk <| zk <| zk <| zk <| zk <| zp 48 (vb false) <| zl j10
  refine KT.ite 34 rfl ?_ ?_
  exact zp 35 (vS x11) <| zy <| oix 36 46 fun x36 => zp 37 (va x36 1) <| KT.l 38 fun x38 => zp 39 (vb (x38 == 3)) <| zp 40 (vb (x38 == 3)) <| zl j9
  exact zk <| zk <| zk <| zk <| zk <| zp 40 (vb false) <| zl j9
  refine KT.ite 27 rfl ?_ ?_
  exact zp 28 (vS x11) <| zy <| oix 29 46 fun x29 => zp 30 (vp x29) <| KT.l 31 fun x31 => zp 32 (vb (x31 == 7)) <| zp 33 (vb (x31 == 7)) <| zl j8
  exact zk <| zk <| zk <| zk <| zk <| zp 33 (vb false) <| zl j8
  refine OW.step (OW.new (d := 4) [(vi 0), (vi 0), (vi 0), (vi 0)] (fun ad => .pointer (some ad)) 25 rfl (fun _ => by kernel_rfl) rfl rfl (fun x4 => ?_))
  refine KT.and <| KT.one 0 rfl (by kernel_rfl) rfl <| OW.step <| ocall 19 (law08_Small_sim ) fun x19 => KT.and <| KT.one 2 rfl (by kernel_rfl) rfl <| OW.step <| ocall 21 (scan_GetSummary_sim _ _) fun x21 => KT.and <| zpA 3 18 (.tuple #[(.agg #[(vi x21.1.1), (vi x21.1.2.1), (vi x21.1.2.2.1), (vi x21.1.2.2.2)]), (vb x21.2)]) <| zpA 4 22 (.agg #[(vi x21.1.1), (vi x21.1.2.1), (vi x21.1.2.2.1), (vi x21.1.2.2.2)]) <| zpA 5 23 (vb x21.2) <| KT.last 7 rfl (by kernel_rfl) rfl rfl <| OW.stA _ _ _ rfl rfl rfl rfl rfl (by kernel_rfl) <| KT.pvN 8 5 (vb x21.2) <| KT.doneN (by kernel_rfl) <| SX.seq <| zG <| zp 24 (vS x11) <| zp 25 (vi (vl x11)) <| zp 26 (vb ((vl x11) == 1)) <| zp 27 (vb ((vl x11) == 1)) <| zj 6 (fun q14 => [(33, (vb q14)), (1, (vS x11)), (3, (vb x15.2)), (4, (vp x4)), (5, (vb x21.2))]) (fun q14 => ?_) (fun j14 => ?_)
  refine zp 34 (vb q14) <| zj 6 (fun q15 => [(40, (vb q15)), (1, (vS x11)), (3, (vb x15.2)), (4, (vp x4)), (5, (vb x21.2))]) (fun q15 => ?_) (fun j15 => ?_)
  refine zp 41 (vb q15) <| zj 7 (fun q16 => [(48, (vb q16)), (3, (vb x15.2)), (4, (vp x4)), (5, (vb x21.2))]) (fun q16 => ?_) (fun j16 => ?_)
  refine zp 49 (vb q16) <| zj 2 (fun q17 => [(51, (vb q17)), (4, (vp x4)), (5, (vb x21.2))]) (fun q17 => ?_) (fun j17 => ?_)
  refine zp 52 (vb q17) <| zj 2 (fun q18 => [(54, (vb q18)), (4, (vp x4))]) (fun q18 => ?_) (fun j18 => ?_)
  refine zp 55 (vb q18) <| zj 4 (fun q19 => [(59, (vb q19))]) (fun q19 => ?_) (fun j19 => ?_)
  exact zp 0 (vb q19) <| zn <| SC.ret <| ze [.tmp 0] <| zm rfl zz
  refine KT.ite 55 rfl ?_ ?_
  refine zo <| ola 56 4 fun x56 => zp 57 (.agg #[(vi 1), (vi 0), (vi 2), (vi 9)]) <| KT.oy rfl (OY.eqlAggL (d := 58) (x := [x56.1, x56.2.1, x56.2.2.1, x56.2.2.2]) (y := [1, 0, 2, 9]) _ _ _ _ _ rfl rfl rfl rfl (by kernel_rfl) rfl rfl ?_)
  exact zp 59 (vb (eqL [x56.1, x56.2.1, x56.2.2.1, x56.2.2.2] [1, 0, 2, 9])) <| zl j19
  exact zk <| zk <| zk <| zp 59 (vb false) <| zl j19
  refine KT.ite 52 rfl ?_ ?_
  exact zp 53 (vb x21.2) <| zp 54 (vb x21.2) <| zl j18
  exact zk <| zp 54 (vb false) <| zl j18
  refine KT.ite 49 rfl ?_ ?_
  exact zp 50 (vb x15.2) <| zp 51 (vb x15.2) <| zl j17
  exact zk <| zp 51 (vb false) <| zl j17
  refine KT.ite 41 rfl ?_ ?_
  exact zp 42 (vS x11) <| zy <| oix 43 46 fun x43 => zp 44 (va x43 2) <| KT.l 45 fun x45 => KT.nw 46 (fun ad => .slice (some ad) 2 2) 3 fun x46 => zc 47 (ref00_SameInts_sim _ _) fun x47 => zp 48 (vb x47) <| zl j16
  exact zk <| zk <| zk <| zk <| zk <| zk <| zp 48 (vb false) <| zl j16
  refine KT.ite 34 rfl ?_ ?_
  exact zp 35 (vS x11) <| zy <| oix 36 46 fun x36 => zp 37 (va x36 1) <| KT.l 38 fun x38 => zp 39 (vb (x38 == 3)) <| zp 40 (vb (x38 == 3)) <| zl j15
  exact zk <| zk <| zk <| zk <| zk <| zp 40 (vb false) <| zl j15
  refine KT.ite 27 rfl ?_ ?_
  exact zp 28 (vS x11) <| zy <| oix 29 46 fun x29 => zp 30 (vp x29) <| KT.l 31 fun x31 => zp 32 (vb (x31 == 7)) <| zp 33 (vb (x31 == 7)) <| zl j14
  exact zk <| zk <| zk <| zk <| zk <| zp 33 (vb false) <| zl j14
theorem ref03_Right_sim (p0_g : (Int × Int × Int)) : Sm Tryd.prog 33 [(.agg #[(vi p0_g.1), (vi p0_g.2.1), (vi p0_g.2.2)])] Value.bool (ref03_Right p0_g) := by
  refine sm_of 44 Tryd.func33 rfl rfl rfl fun _ => ?_
  unfold ref03_Right
  refine zG <| KT.nw 1 (fun ad => .pointer (some ad)) 23 fun x1 => zp 2 (vb false) <| zn <| zq <| zG <| zp 3 (vp x1) <| KT.l 4 fun x4 => zp 5 (vb (decide (x4 < 3))) <| zp 6 (vb (decide (x4 < 3))) <| zj 4 (fun q1 => [(10, (vb q1)), (1, (vp x1))]) (fun q1 => ?_) (fun j1 => ?_)
  refine zp 11 (vb q1) <| zj 4 (fun q2 => [(15, (vb q2)), (1, (vp x1))]) (fun q2 => ?_) (fun j2 => ?_)
  refine zp 16 (vb q2) <| zj 4 (fun q3 => [(20, (vb q3)), (1, (vp x1))]) (fun q3 => ?_) (fun j3 => ?_)
  refine zp 21 (vb q3) <| zj 4 (fun q4 => [(25, (vb q4)), (1, (vp x1))]) (fun q4 => ?_) (fun j4 => ?_)
  refine zp 26 (vb q4) <| zj 4 (fun q5 => [(30, (vb q5)), (1, (vp x1))]) (fun q5 => ?_) (fun j5 => ?_)
  refine zn <| SC.cond rfl ?_ ?_
  exact zG <| zp 2 (vb false) <| zn <| zt <| ze [.tmp 2] <| zm rfl zz
  exact zw <| zG <| zp 31 (va x1 2) <| KT.l 32 fun x32 => zp 33 (vi (w64 (Int.tdiv x32 8))) <| zp 34 (vi (w64 (1 + (w64 (Int.tdiv x32 8))))) <| zp 35 (va x1 1) <| KT.l 36 fun x36 => zp 37 (vp x1) <| KT.l 38 fun x38 => zp 39 (vi (w64 (x38 - 1))) <| zp 40 (vi (w64 (x36 * (w64 (x38 - 1))))) <| zp 41 (vi (w64 ((w64 (x36 * (w64 (x38 - 1)))) - 1))) <| zp 42 (vi (w64 ((w64 (1 + (w64 (Int.tdiv x32 8)))) * (w64 ((w64 (x36 * (w64 (x38 - 1)))) - 1))))) <| zp 43 (vb (decide ((w64 ((w64 (1 + (w64 (Int.tdiv x32 8)))) * (w64 ((w64 (x36 * (w64 (x38 - 1)))) - 1)))) ≥ 8))) <| zp 2 (vb (decide ((w64 ((w64 (1 + (w64 (Int.tdiv x32 8)))) * (w64 ((w64 (x36 * (w64 (x38 - 1)))) - 1)))) ≥ 8))) <| zn <| SC.ret <| ze [.tmp 2] <| zm rfl zz
  refine KT.ite 26 rfl ?_ ?_
  exact zk <| zk <| zk <| zp 30 (vb true) <| zl j5
  exact zp 27 (va x1 2) <| KT.l 28 fun x28 => zp 29 (vb (decide (x28 > 64))) <| zp 30 (vb (decide (x28 > 64))) <| zl j5
  refine KT.ite 21 rfl ?_ ?_
  exact zk <| zk <| zk <| zp 25 (vb true) <| zl j4
  exact zp 22 (va x1 2) <| KT.l 23 fun x23 => zp 24 (vb (decide (x23 < 12))) <| zp 25 (vb (decide (x23 < 12))) <| zl j4
  refine KT.ite 16 rfl ?_ ?_
  exact zk <| zk <| zk <| zp 20 (vb true) <| zl j3
  exact zp 17 (va x1 1) <| KT.l 18 fun x18 => zp 19 (vb (decide (x18 > 4))) <| zp 20 (vb (decide (x18 > 4))) <| zl j3
  refine KT.ite 11 rfl ?_ ?_
  exact zk <| zk <| zk <| zp 15 (vb true) <| zl j2
  exact zp 12 (va x1 1) <| KT.l 13 fun x13 => zp 14 (vb (decide (x13 < 1))) <| zp 15 (vb (decide (x13 < 1))) <| zl j2
  refine KT.ite 6 rfl ?_ ?_
  exact zk <| zk <| zk <| zp 10 (vb true) <| zl j1
  exact zp 7 (vp x1) <| KT.l 8 fun x8 => zp 9 (vb (decide (x8 > 16))) <| zp 10 (vb (decide (x8 > 16))) <| zl j1
theorem ref03_Places_sim (p0_g : (Int × Int × Int)) : Sm Tryd.prog 34 [(.agg #[(vi p0_g.1), (vi p0_g.2.1), (vi p0_g.2.2)])] (Value.int .i64) (ref03_Places p0_g) := by
  refine sm_of 13 Tryd.func34 rfl rfl rfl fun _ => ?_
  unfold ref03_Places
  refine zG <| KT.nw 1 (fun ad => .pointer (some ad)) 23 fun x1 => zp 2 (vi 0) <| zn <| zq <| zG <| zo <| ola 3 3 fun x3 => zc 4 (ref03_Right_sim _) fun x4 => zp 5 (vb (!x4)) <| zn <| SC.cond rfl ?_ ?_
  exact zG <| zp 2 (vi 0) <| zn <| zt <| ze [.tmp 2] <| zm rfl zz
  exact zw <| zG <| zp 6 (va x1 1) <| KT.l 7 fun x7 => zp 8 (vp x1) <| KT.l 9 fun x9 => zp 10 (vi (w64 (x9 - 1))) <| zp 11 (vi (w64 (x7 * (w64 (x9 - 1))))) <| zp 12 (vi (w64 ((w64 (x7 * (w64 (x9 - 1)))) - 1))) <| zp 2 (vi (w64 ((w64 (x7 * (w64 (x9 - 1)))) - 1))) <| zn <| SC.ret <| ze [.tmp 2] <| zm rfl zz
theorem ref08_Right_sim (p0_g : (Int × Int × Int)) (p1_s : (Int × Int × Int × Int)) : Sm Tryd.prog 18 [(.agg #[(vi p0_g.1), (vi p0_g.2.1), (vi p0_g.2.2)]), (.agg #[(vi p1_s.1), (vi p1_s.2.1), (vi p1_s.2.2.1), (vi p1_s.2.2.2)])] Value.bool (ref08_Right p0_g p1_s) := by
  refine sm_of 66 Tryd.func18 rfl rfl rfl fun _ => ?_
  unfold ref08_Right
  refine zG <| KT.nw 2 (fun ad => .pointer (some ad)) 23 fun x2 => KT.nw 3 (fun ad => .pointer (some ad)) 25 fun x3 => zp 4 (vb false) <| zn <| zq <| zq <| SC.join (β := (Bool)) (fun b1 => [(2, (vp x2)), (3, (vp x3)), (43, (vb b1))]) (fun b1 => ?_) (fun j1 => ?_)
  refine SX.seq <| SC.cond rfl ?_ ?_
  exact zG <| zp 4 (vb false) <| zn <| zt <| ze [.tmp 4] <| zm rfl zz
  refine zw <| zq <| zG <| zp 44 (va x3 1) <| KT.l 45 fun x45 => zp 46 (vp x3) <| KT.l 47 fun x47 => zp 48 (vi (w64 (x47 - 1))) <| zp 49 (vb (decide (x45 < (w64 (x47 - 1))))) <| zn <| SC.cond rfl ?_ ?_
  exact zG <| zp 50 (va x3 3) <| KT.l 51 fun x51 => zp 52 (vb (x51 == 0)) <| zp 4 (vb (x51 == 0)) <| zn <| zt <| ze [.tmp 4] <| zm rfl zz
  refine zw <| zq <| SC.draw 14 (fun _ => false) rfl (by kernel_rfl) fun S2 => zpA 0 53 (va x3 3) <| zA 1 rfl <| oli 54 fun x54 => zpA 2 55 (vb (decide (x54 ≥ 1))) <| zpA 3 56 (vb (decide (x54 ≥ 1))) <| KT.ite 56 rfl ?_ ?_
  exact zpA 4 57 (va x3 3) <| zA 5 rfl <| oli 58 fun x58 => zpA 6 59 (va x2 2) <| zA 7 rfl <| oli 60 fun x60 => zA 8 rfl <| olai 61 3 fun x61 => KT.one 9 rfl (by kernel_rfl) rfl <| OW.step <| ocall 62 (ref03_Places_sim _) fun x62 => KT.and <| zpA 10 63 (vi (w64 (x60 * x62))) <| zpA 11 64 (vb (decide (x58 ≤ (w64 (x60 * x62))))) <| zpA 12 65 (vb (decide (x58 ≤ (w64 (x60 * x62))))) <| zpA 13 4 (vb (decide (x58 ≤ (w64 (x60 * x62))))) <| KT.doneA (by kernel_rfl) <| SX.seq <| SC.ret <| ze [.tmp 4] <| zm rfl zz
  exact zkA 4 rfl <| zkA 5 rfl <| zkA 6 rfl <| zkA 7 rfl <| zkA 8 rfl <| zkA 9 rfl <| zkA 10 rfl <| zkA 11 rfl <| zpA 12 65 (vb false) <| zpA 13 4 (vb false) <| KT.doneA (by kernel_rfl) <| SX.seq <| SC.ret <| ze [.tmp 4] <| zm rfl zz
  refine SC.draw 39 (fun _ => false) rfl (by kernel_rfl) fun S3 => zA 0 rfl <| olai 5 3 fun x5 => KT.one 1 rfl (by kernel_rfl) rfl <| OW.step <| ocall 6 (ref03_Right_sim _) fun x6 => KT.and <| zpA 2 7 (vb (!x6)) <| zpA 3 8 (vb (!x6)) <| KT.ite 8 rfl ?_ ?_
  refine zkA 4 rfl <| zkA 5 rfl <| zkA 6 rfl <| zpA 7 12 (vb true) <| zpA 8 13 (vb true) <| zkA 9 rfl <| zkA 10 rfl <| zkA 11 rfl <| zkA 12 rfl <| zkA 13 rfl <| zpA 14 19 (vb true) <| zpA 15 20 (vb true) <| zkA 16 rfl <| zkA 17 rfl <| zkA 18 rfl <| zpA 19 24 (vb true) <| zpA 20 25 (vb true) <| zkA 21 rfl <| zkA 22 rfl <| zkA 23 rfl <| zkA 24 rfl <| zkA 25 rfl <| zpA 26 31 (vb true) <| zpA 27 32 (vb true) <| zkA 28 rfl <| zkA 29 rfl <| zkA 30 rfl <| zpA 31 36 (vb true) <| zpA 32 37 (vb true) <| zkA 33 rfl ?_
  exact zkA 34 rfl <| zkA 35 rfl <| zkA 36 rfl <| zkA 37 rfl <| zpA 38 43 (vb true) <| KT.doneA (by kernel_rfl) <| zS (T' := [(2, (vp x2)), (3, (vp x3)), (43, (vb true))]) <| zf j1
  refine zpA 4 9 (vp x3) <| zA 5 rfl <| oli 10 fun x10 => zpA 6 11 (vb (decide (x10 < 1))) <| zpA 7 12 (vb (decide (x10 < 1))) <| zpA 8 13 (vb (decide (x10 < 1))) <| KT.ite 13 rfl ?_ ?_
  refine zkA 9 rfl <| zkA 10 rfl <| zkA 11 rfl <| zkA 12 rfl <| zkA 13 rfl <| zpA 14 19 (vb true) <| zpA 15 20 (vb true) <| zkA 16 rfl <| zkA 17 rfl <| zkA 18 rfl <| zpA 19 24 (vb true) <| zpA 20 25 (vb true) <| zkA 21 rfl <| zkA 22 rfl <| zkA 23 rfl <| zkA 24 rfl <| zkA 25 rfl <| zpA 26 31 (vb true) <| zpA 27 32 (vb true) <| zkA 28 rfl <| zkA 29 rfl <| zkA 30 rfl <| zpA 31 36 (vb true) <| zpA 32 37 (vb true) <| zkA 33 rfl <| zkA 34 rfl <| zkA 35 rfl <| zkA 36 rfl <| zkA 37 rfl <| zpA 38 43 (vb true) ?_
  exact KT.doneA (by kernel_rfl) <| zS (T' := [(2, (vp x2)), (3, (vp x3)), (43, (vb true))]) <| zf j1
  refine zpA 9 14 (vp x3) <| zA 10 rfl <| oli 15 fun x15 => zpA 11 16 (va x2 2) <| zA 12 rfl <| oli 17 fun x17 => zpA 13 18 (vb (decide (x15 > x17))) <| zpA 14 19 (vb (decide (x15 > x17))) <| zpA 15 20 (vb (decide (x15 > x17))) <| KT.ite 20 rfl ?_ ?_
  exact zkA 16 rfl <| zkA 17 rfl <| zkA 18 rfl <| zpA 19 24 (vb true) <| zpA 20 25 (vb true) <| zkA 21 rfl <| zkA 22 rfl <| zkA 23 rfl <| zkA 24 rfl <| zkA 25 rfl <| zpA 26 31 (vb true) <| zpA 27 32 (vb true) <| zkA 28 rfl <| zkA 29 rfl <| zkA 30 rfl <| zpA 31 36 (vb true) <| zpA 32 37 (vb true) <| zkA 33 rfl <| zkA 34 rfl <| zkA 35 rfl <| zkA 36 rfl <| zkA 37 rfl <| zpA 38 43 (vb true) <| KT.doneA (by kernel_rfl) <| zS (T' := [(2, (vp x2)), (3, (vp x3)), (43, (vb true))]) <| zf j1
  refine zpA 16 21 (va x3 1) <| zA 17 rfl <| oli 22 fun x22 => zpA 18 23 (vb (decide (x22 < 0))) <| zpA 19 24 (vb (decide (x22 < 0))) <| zpA 20 25 (vb (decide (x22 < 0))) <| KT.ite 25 rfl ?_ ?_
  exact zkA 21 rfl <| zkA 22 rfl <| zkA 23 rfl <| zkA 24 rfl <| zkA 25 rfl <| zpA 26 31 (vb true) <| zpA 27 32 (vb true) <| zkA 28 rfl <| zkA 29 rfl <| zkA 30 rfl <| zpA 31 36 (vb true) <| zpA 32 37 (vb true) <| zkA 33 rfl <| zkA 34 rfl <| zkA 35 rfl <| zkA 36 rfl <| zkA 37 rfl <| zpA 38 43 (vb true) <| KT.doneA (by kernel_rfl) <| zS (T' := [(2, (vp x2)), (3, (vp x3)), (43, (vb true))]) <| zf j1
  refine zpA 21 26 (va x3 1) <| zA 22 rfl <| oli 27 fun x27 => zpA 23 28 (vp x3) <| zA 24 rfl <| oli 29 fun x29 => zpA 25 30 (vb (decide (x27 ≥ x29))) <| zpA 26 31 (vb (decide (x27 ≥ x29))) <| zpA 27 32 (vb (decide (x27 ≥ x29))) <| KT.ite 32 rfl ?_ ?_
  exact zkA 28 rfl <| zkA 29 rfl <| zkA 30 rfl <| zpA 31 36 (vb true) <| zpA 32 37 (vb true) <| zkA 33 rfl <| zkA 34 rfl <| zkA 35 rfl <| zkA 36 rfl <| zkA 37 rfl <| zpA 38 43 (vb true) <| KT.doneA (by kernel_rfl) <| zS (T' := [(2, (vp x2)), (3, (vp x3)), (43, (vb true))]) <| zf j1
  refine zpA 28 33 (va x3 2) <| zA 29 rfl <| oli 34 fun x34 => zpA 30 35 (vb (decide (x34 < 0))) <| zpA 31 36 (vb (decide (x34 < 0))) <| zpA 32 37 (vb (decide (x34 < 0))) <| KT.ite 37 rfl ?_ ?_
  exact zkA 33 rfl <| zkA 34 rfl <| zkA 35 rfl <| zkA 36 rfl <| zkA 37 rfl <| zpA 38 43 (vb true) <| KT.doneA (by kernel_rfl) <| zS (T' := [(2, (vp x2)), (3, (vp x3)), (43, (vb true))]) <| zf j1
  exact zpA 33 38 (va x3 2) <| zA 34 rfl <| oli 39 fun x39 => zA 35 rfl <| olai 40 3 fun x40 => KT.one 36 rfl (by kernel_rfl) rfl <| OW.step <| ocall 41 (ref03_Places_sim _) fun x41 => KT.and <| zpA 37 42 (vb (decide (x39 > x41))) <| zpA 38 43 (vb (decide (x39 > x41))) <| KT.doneA (by kernel_rfl) <| zS (T' := [(2, (vp x2)), (3, (vp x3)), (43, (vb (decide (x39 > x41))))]) <| zf j1
theorem ref01_Put_sim (p0_width : Int) (p1_n : Int) : Sm Tryd.prog 19 [(vi p0_width), (vi p1_n)] vS (ref01_Put p0_width p1_n) := by
  refine sm_of 35 Tryd.func19 rfl rfl rfl fun _ => ?_
  unfold ref01_Put
  refine zG <| zp 4 (.slice none 0 0) <| zN <| KT.nw 7 (fun ad => .slice (some ad) 0 0) 5 fun x7 => zp 5 (.slice (some x7) 0 0) <| zn <| zq <| zG <| zp 8 (vi p0_width) <| zp 9 (vb (decide (p0_width < 1))) <| zp 10 (vb (decide (p0_width < 1))) <| zj 3 (fun q1 => [(13, (vb q1)), (0, (vi p0_width)), (1, (vi p1_n)), (5, (.slice (some x7) 0 0))]) (fun q1 => ?_) (fun j1 => ?_)
  refine zp 14 (vb q1) <| zj 3 (fun q2 => [(17, (vb q2)), (0, (vi p0_width)), (1, (vi p1_n)), (5, (.slice (some x7) 0 0))]) (fun q2 => ?_) (fun j2 => ?_)
  refine zn <| SC.cond rfl ?_ ?_
  exact zG <| zp 18 (.slice (some x7) 0 0) <| zp 4 (.slice (some x7) 0 0) <| zn <| zt <| ze [.tmp 4] <| zm rfl zz
  refine zw <| zq <| zG <| zp 6 (vi 0) <| zn <| SC.block <| zL (σ := (Int × Slc × Int)) (fun s3 => [(0, (vi p0_width)), (1, (vi s3.1)), (5, (vS s3.2.1)), (6, (vi s3.2.2))]) fun _ _ _ s3 => zq <| zG <| zp 19 (vi s3.2.2) <| zp 20 (vi p0_width) <| zp 21 (vb (decide (s3.2.2 < p0_width))) <| zn <| SC.cond rfl ?_ ?_
  exact zw <| zq <| SC.block <| zG <| zp 24 (vS s3.2.1) <| zp 25 (vi s3.1) <| zp 26 (vi (Int.tmod s3.1 256)) <| zp 27 (.int .u8 (IntKind.wrap .u8 (Int.tmod s3.1 256))) <| KT.nw 28 (fun ad => .slice (some ad) 1 1) 5 fun x28 => zo <| oapp 29 5 fun x29 => zp 5 (vS x29) <| zn <| zg <| zp 30 (vi s3.1) <| zp 31 (vi (w64 (Int.tdiv s3.1 256))) <| zp 1 (vi (w64 (Int.tdiv s3.1 256))) <| KT.nil <| SX.block <| SX.seq <| zg <| zp 22 (vi s3.2.2) <| zp 23 (vi (w64 (s3.2.2 + 1))) <| zp 6 (vi (w64 (s3.2.2 + 1))) <| KT.nil zX
  refine SC.exit <| SX.then_exit <| SX.loop_exit <| SX.block_hit <| SX.seq <| zq <| zG <| zp 32 (vi s3.1) <| zp 33 (vb (decide (s3.1 > 0))) <| zn <| SC.cond rfl ?_ ?_
  exact zG <| zp 4 (.slice none 0 0) <| zn <| zt <| ze [.tmp 4] <| zm rfl zz
  exact zw <| zG <| zp 34 (vS s3.2.1) <| zp 4 (vS s3.2.1) <| zn <| SC.ret <| ze [.tmp 4] <| zm rfl zz
  refine KT.ite 14 rfl ?_ ?_
  exact zk <| zk <| zp 17 (vb true) <| zl j2
  exact zp 15 (vi p1_n) <| zp 16 (vb (decide (p1_n < 0))) <| zp 17 (vb (decide (p1_n < 0))) <| zl j2
  refine KT.ite 10 rfl ?_ ?_
  exact zk <| zk <| zp 13 (vb true) <| zl j1
  exact zp 11 (vi p0_width) <| zp 12 (vb (decide (p0_width > 4))) <| zp 13 (vb (decide (p0_width > 4))) <| zl j1
theorem ref08_PutSummary_sim (p0_g : (Int × Int × Int)) (p1_s : (Int × Int × Int × Int)) : Sm Tryd.prog 7 [(.agg #[(vi p0_g.1), (vi p0_g.2.1), (vi p0_g.2.2)]), (.agg #[(vi p1_s.1), (vi p1_s.2.1), (vi p1_s.2.2.1), (vi p1_s.2.2.2)])] (fun y : ((Int × Int × Slc) × Bool) => (.tuple #[(.agg #[(vi y.1.1), (vi y.1.2.1), (vS y.1.2.2)]), (vb y.2)])) (ref08_PutSummary p0_g p1_s) := by
  refine sm_of 42 Tryd.func7 rfl rfl rfl fun _ => ?_
  unfold ref08_PutSummary
  refine zG <| KT.nw 2 (fun ad => .pointer (some ad)) 23 fun x2 => KT.nw 3 (fun ad => .pointer (some ad)) 25 fun x3 => KT.nw 4 (fun ad => .pointer (some ad)) 28 fun x4 => zp 5 (vb false) <| zn <| zq <| zG <| zo <| ola 9 3 fun x9 => zo <| ola 10 4 fun x10 => zc 11 (ref08_Right_sim _ _) fun x11 => zp 12 (vb (!x11)) <| zn <| SC.cond rfl ?_ ?_
  exact zG <| zp 13 (.agg #[(vi 0), (vi 0), (.slice none 0 0)]) <| zo <| osa <| zp 5 (vb false) <| zn <| zt <| ze [.cell 4 28, .tmp 5] <| RS.cellA 3 (by kernel_rfl) rfl rfl (fun _ => rfl) fun r4 => zm rfl zz
  refine zw <| zG <| zp 14 (vp x3) <| KT.l 15 fun x15 => zp 16 (va x3 1) <| KT.l 17 fun x17 => zp 18 (va x3 2) <| KT.l 19 fun x19 => zp 20 (va x3 3) <| KT.l 21 fun x21 => zp 22 (.agg #[(vi 21331), (vi x15), (vi x17), (vi x19), (vi x21)]) <| KT.nw 6 (fun ad => .pointer (some ad)) 49 fun x6 => zo <| osa <| zN <| KT.nw 23 (fun ad => .slice (some ad) 0 0) 5 fun x23 => zp 7 (.slice (some x23) 0 0) <| zn <| zq <| zG <| zp 8 (vi 0) <| zn <| SC.block <| zL (σ := (Slc × Int)) (fun s1 => [(4, (vp x4)), (6, (vp x6)), (7, (vS s1.1)), (8, (vi s1.2))]) fun _ _ _ s1 => zq <| zG <| zp 24 (vi s1.2) <| zp 25 (vb (decide (s1.2 < 5))) <| zn <| SC.cond rfl ?_ ?_
  refine zw <| zq <| SC.block <| zg <| zp 28 (vS s1.1) <| zp 29 (vi s1.2) <| KT.oy rfl (OY.idxA (d := 30) (ad := x6) (i := s1.2) (size := 1) (len := 5) (elem := 3) _ _ _ rfl rfl rfl (by kernel_rfl) (by kernel_rfl) rfl rfl rfl (fun x30 => ?_))
  exact KT.l 31 fun x31 => zc 32 (ref01_Put_sim _ _) fun x32 => zo <| oapp 33 5 fun x33 => zp 7 (vS x33) <| KT.nil <| SX.block <| SX.seq <| zg <| zp 26 (vi s1.2) <| zp 27 (vi (w64 (s1.2 + 1))) <| zp 8 (vi (w64 (s1.2 + 1))) <| KT.nil zX
  refine SC.exit <| SX.then_exit <| SX.loop_exit <| SX.block_hit <| SX.seq <| zq <| SC.block <| zL (σ := (Slc)) (fun s2 => [(4, (vp x4)), (7, (vS s2))]) fun _ _ _ s2 => zq <| zG <| zp 34 (vS s2) <| zp 35 (vi (vl s2)) <| zp 36 (vb (decide ((vl s2) < 56))) <| zn <| SC.cond rfl ?_ ?_
  exact zw <| SC.block <| zg <| zp 37 (vS s2) <| KT.nw 38 (fun ad => .slice (some ad) 1 1) 5 fun x38 => zo <| oapp 39 5 fun x39 => zp 7 (vS x39) <| KT.nil <| SX.block zX
  exact SC.exit <| SX.then_exit <| SX.loop_exit <| SX.block_hit <| SX.seq <| zG <| zp 40 (vS s2) <| zp 41 (.agg #[(vi 65535), (vi 0), (vS s2)]) <| zo <| osa <| zp 5 (vb true) <| zn <| SC.ret <| ze [.cell 4 28, .tmp 5] <| RS.cellA 3 (by kernel_rfl) rfl rfl (fun _ => rfl) fun r4 => zm rfl zz
theorem ref01_Nought_sim (p0_b : Slc) : Sm Tryd.prog 22 [(vS p0_b)] Value.bool (ref01_Nought p0_b) := by
  refine sm_of 15 Tryd.func22 rfl rfl rfl fun _ => ?_
  unfold ref01_Nought
  refine zG <| zp 2 (vb false) <| zn <| zq <| zG <| zp 3 (vi 0) <| zn <| SC.block <| zL (σ := (Int)) (fun s1 => [(0, (vS p0_b)), (3, (vi s1))]) fun _ _ _ s1 => zq <| zG <| zp 4 (vi s1) <| zp 5 (vS p0_b) <| zp 6 (vi (vl p0_b)) <| zp 7 (vb (decide (s1 < (vl p0_b)))) <| zn <| SC.cond rfl ?_ ?_
  refine zw <| zq <| SC.block <| zG <| zp 10 (vS p0_b) <| zp 11 (vi s1) <| zy <| oix 12 5 fun x12 => KT.l 13 fun x13 => zp 14 (vb (x13 != 0)) <| zn <| SC.cond rfl ?_ ?_
  exact zG <| zp 2 (vb false) <| zn <| SC.ret <| SX.block_ret <| SX.then_ret <| SX.loop_ret <| SX.block_ret <| SX.then_ret <| ze [.tmp 2] <| zm rfl zz
  exact SC.skip <| SX.block <| SX.seq <| zg <| zp 8 (vi s1) <| zp 9 (vi (w64 (s1 + 1))) <| zp 3 (vi (w64 (s1 + 1))) <| KT.nil zX
  exact SC.exit <| SX.then_exit <| SX.loop_exit <| SX.block_hit <| SX.seq <| zG <| zp 2 (vb true) <| zn <| SC.ret <| ze [.tmp 2] <| zm rfl zz
theorem ref01_Get_sim (p0_b : Slc) (p1_at : Int) (p2_width : Int) : Sm Tryd.prog 23 [(vS p0_b), (vi p1_at), (vi p2_width)] (fun y : (Int × Bool) => (.tuple #[(vi y.1), (vb y.2)])) (ref01_Get p0_b p1_at p2_width) := by
  refine sm_of 51 Tryd.func23 rfl rfl rfl fun _ => ?_
  unfold ref01_Get
  refine zG <| zp 6 (vi 0) <| zp 7 (vb false) <| zn <| zq <| zG <| zp 10 (vi p2_width) <| zp 11 (vb (decide (p2_width < 1))) <| zp 12 (vb (decide (p2_width < 1))) <| zj 3 (fun q1 => [(15, (vb q1)), (0, (vS p0_b)), (1, (vi p1_at)), (2, (vi p2_width))]) (fun q1 => ?_) (fun j1 => ?_)
  refine zp 16 (vb q1) <| zj 3 (fun q2 => [(19, (vb q2)), (0, (vS p0_b)), (1, (vi p1_at)), (2, (vi p2_width))]) (fun q2 => ?_) (fun j2 => ?_)
  refine zp 20 (vb q2) <| zj 5 (fun q3 => [(25, (vb q3)), (0, (vS p0_b)), (1, (vi p1_at)), (2, (vi p2_width))]) (fun q3 => ?_) (fun j3 => ?_)
  refine zp 26 (vb q3) <| zj 7 (fun q4 => [(33, (vb q4)), (0, (vS p0_b)), (1, (vi p1_at)), (2, (vi p2_width))]) (fun q4 => ?_) (fun j4 => ?_)
  refine zn <| SC.cond rfl ?_ ?_
  exact zG <| zp 6 (vi 0) <| zp 7 (vb false) <| zn <| zt <| ze [.tmp 6, .tmp 7] <| zm rfl <| zm rfl zz
  refine zw <| zG <| zp 8 (vi 0) <| zn <| zq <| zG <| zp 34 (vi p2_width) <| zp 35 (vi (w64 (p2_width - 1))) <| zp 9 (vi (w64 (p2_width - 1))) <| zn <| SC.block <| zL (σ := (Int × Int)) (fun s5 => [(0, (vS p0_b)), (1, (vi p1_at)), (8, (vi s5.1)), (9, (vi s5.2))]) fun _ _ _ s5 => zq <| zG <| zp 36 (vi s5.2) <| zp 37 (vb (decide (s5.2 ≥ 0))) <| zn <| SC.cond rfl ?_ ?_
  exact zw <| zq <| SC.block <| zg <| zp 40 (vi s5.1) <| zp 41 (vi (w64 (s5.1 * 256))) <| zp 42 (vS p0_b) <| zp 43 (vi p1_at) <| zp 44 (vi s5.2) <| zp 45 (vi (w64 (p1_at + s5.2))) <| zy <| oix 46 5 fun x46 => KT.l 47 fun x47 => zp 48 (vi (w64 x47)) <| zp 49 (vi (w64 ((w64 (s5.1 * 256)) + (w64 x47)))) <| zp 8 (vi (w64 ((w64 (s5.1 * 256)) + (w64 x47)))) <| KT.nil <| SX.block <| SX.seq <| zg <| zp 38 (vi s5.2) <| zp 39 (vi (w64 (s5.2 - 1))) <| zp 9 (vi (w64 (s5.2 - 1))) <| KT.nil zX
  exact SC.exit <| SX.then_exit <| SX.loop_exit <| SX.block_hit <| SX.seq <| zG <| zp 50 (vi s5.1) <| zp 6 (vi s5.1) <| zp 7 (vb true) <| zn <| SC.ret <| ze [.tmp 6, .tmp 7] <| zm rfl <| zm rfl zz
  refine KT.ite 26 rfl ?_ ?_
  exact zk <| zk <| zk <| zk <| zk <| zk <| zp 33 (vb true) <| zl j4
  exact zp 27 (vS p0_b) <| zp 28 (vi (vl p0_b)) <| zp 29 (vi p1_at) <| zp 30 (vi (w64 ((vl p0_b) - p1_at))) <| zp 31 (vi p2_width) <| zp 32 (vb (decide ((w64 ((vl p0_b) - p1_at)) < p2_width))) <| zp 33 (vb (decide ((w64 ((vl p0_b) - p1_at)) < p2_width))) <| zl j4
  refine KT.ite 20 rfl ?_ ?_
  exact zk <| zk <| zk <| zk <| zp 25 (vb true) <| zl j3
  exact zp 21 (vi p1_at) <| zp 22 (vS p0_b) <| zp 23 (vi (vl p0_b)) <| zp 24 (vb (decide (p1_at > (vl p0_b)))) <| zp 25 (vb (decide (p1_at > (vl p0_b)))) <| zl j3
  refine KT.ite 16 rfl ?_ ?_
  exact zk <| zk <| zp 19 (vb true) <| zl j2
  exact zp 17 (vi p1_at) <| zp 18 (vb (decide (p1_at < 0))) <| zp 19 (vb (decide (p1_at < 0))) <| zl j2
  refine KT.ite 12 rfl ?_ ?_
  exact zk <| zk <| zp 15 (vb true) <| zl j1
  exact zp 13 (vi p2_width) <| zp 14 (vb (decide (p2_width > 4))) <| zp 15 (vb (decide (p2_width > 4))) <| zl j1
theorem ref08_GetSummary_sim (p0_g : (Int × Int × Int)) (p1_b : (Int × Int × Slc)) : Sm Tryd.prog 9 [(.agg #[(vi p0_g.1), (vi p0_g.2.1), (vi p0_g.2.2)]), (.agg #[(vi p1_b.1), (vi p1_b.2.1), (vS p1_b.2.2)])] (fun y : ((Int × Int × Int × Int) × Bool) => (.tuple #[(.agg #[(vi y.1.1), (vi y.1.2.1), (vi y.1.2.2.1), (vi y.1.2.2.2)]), (vb y.2)])) (ref08_GetSummary p0_g p1_b) := by
  refine sm_of 66 Tryd.func9 rfl rfl rfl fun _ => ?_
  unfold ref08_GetSummary
  refine zG <| KT.nw 2 (fun ad => .pointer (some ad)) 23 fun x2 => KT.nw 3 (fun ad => .pointer (some ad)) 28 fun x3 => KT.nw 4 (fun ad => .pointer (some ad)) 25 fun x4 => zp 5 (vb false) <| zn <| zq <| zG <| zp 9 (vp x3) <| KT.l 10 fun x10 => zp 11 (vb (x10 != 65535)) <| zp 12 (vb (x10 != 65535)) <| zj 4 (fun q1 => [(16, (vb q1)), (2, (vp x2)), (3, (vp x3)), (4, (vp x4))]) (fun q1 => ?_) (fun j1 => ?_)
  refine zp 17 (vb q1) <| zj 5 (fun q2 => [(22, (vb q2)), (2, (vp x2)), (3, (vp x3)), (4, (vp x4))]) (fun q2 => ?_) (fun j2 => ?_)
  refine zp 23 (vb q2) <| zj 6 (fun q3 => [(29, (vb q3)), (2, (vp x2)), (3, (vp x3)), (4, (vp x4))]) (fun q3 => ?_) (fun j3 => ?_)
  refine zn <| SC.cond rfl ?_ ?_
  exact zG <| zp 30 (.agg #[(vi 0), (vi 0), (vi 0), (vi 0)]) <| zo <| osa <| zp 5 (vb false) <| zn <| zt <| ze [.cell 4 25, .tmp 5] <| RS.cellA 4 (by kernel_rfl) rfl rfl (fun _ => rfl) fun r4 => zm rfl zz
  refine zw <| zG <| zp 31 (.agg #[(vi 0), (vi 0), (vi 0), (vi 0), (vi 0)]) <| KT.nw 6 (fun ad => .pointer (some ad)) 49 fun x6 => zo <| osa <| zn <| zq <| zG <| zp 7 (vi 0) <| zn <| SC.block <| zL (σ := (Int)) (fun s4 => [(2, (vp x2)), (3, (vp x3)), (4, (vp x4)), (6, (vp x6)), (7, (vi s4))]) fun _ _ _ s4 => zq <| zG <| zp 32 (vi s4) <| zp 33 (vb (decide (s4 < 5))) <| zn <| SC.cond rfl ?_ ?_
  refine zw <| zq <| SC.block <| zg <| zp 37 (vi s4) <| zp 38 (va x3 2) <| KT.l 39 fun x39 => zp 40 (vi s4) <| zp 41 (vi (w64 (2 * s4))) <| zc 42 (ref01_Get_sim _ _ _) fun x42 => zp 36 (.tuple #[(vi x42.1), (vb x42.2)]) <| zp 43 (vi x42.1) <| zp 44 (vb x42.2) <| KT.oy rfl (OY.idxA (d := 45) (ad := x6) (i := s4) (size := 1) (len := 5) (elem := 3) _ _ _ rfl rfl rfl (by kernel_rfl) (by kernel_rfl) rfl rfl rfl (fun x45 => ?_))
  exact KT.s <| KT.nil <| SX.block <| SX.seq <| zg <| zp 34 (vi s4) <| zp 35 (vi (w64 (s4 + 1))) <| zp 7 (vi (w64 (s4 + 1))) <| KT.nil zX
  refine SC.exit <| SX.then_exit <| SX.loop_exit <| SX.block_hit <| SX.seq <| zG <| zp 46 (va x6 1) <| KT.l 47 fun x47 => zp 48 (va x6 2) <| KT.l 49 fun x49 => zp 50 (va x6 3) <| KT.l 51 fun x51 => zp 52 (va x6 4) <| KT.l 53 fun x53 => zp 54 (.agg #[(vi x47), (vi x49), (vi x51), (vi x53)]) <| KT.nw 8 (fun ad => .pointer (some ad)) 25 fun x8 => zo <| osa <| zn <| zq <| zG <| zp 55 (vp x6) <| KT.l 56 fun x56 => zp 57 (vb (x56 != 21331)) <| zp 58 (vb (x56 != 21331)) <| zj 5 (fun q5 => [(63, (vb q5)), (4, (vp x4)), (8, (vp x8))]) (fun q5 => ?_) (fun j5 => ?_)
  refine zn <| SC.cond rfl ?_ ?_
  exact zG <| zp 64 (.agg #[(vi 0), (vi 0), (vi 0), (vi 0)]) <| zo <| osa <| zp 5 (vb false) <| zn <| zt <| ze [.cell 4 25, .tmp 5] <| RS.cellA 4 (by kernel_rfl) rfl rfl (fun _ => rfl) fun r4 => zm rfl zz
  exact zw <| zG <| zo <| ola 65 4 fun x65 => zo <| osa <| zp 5 (vb true) <| zn <| SC.ret <| ze [.cell 4 25, .tmp 5] <| RS.cellA 4 (by kernel_rfl) rfl rfl (fun _ => rfl) fun r4 => zm rfl zz
  refine KT.ite 58 rfl ?_ ?_
  exact zk <| zk <| zk <| zk <| zp 63 (vb true) <| zl j5
  exact zo <| ola 59 3 fun x59 => zo <| ola 60 4 fun x60 => zc 61 (ref08_Right_sim _ _) fun x61 => zp 62 (vb (!x61)) <| zp 63 (vb (!x61)) <| zl j5
  refine KT.ite 23 rfl ?_ ?_
  exact zk <| zk <| zk <| zk <| zk <| zp 29 (vb true) <| zl j3
  refine zp 24 (va x3 2) <| KT.l 25 fun x25 => KT.oy rfl (OY.slice10 (d := 26) (s := x25) (lo := 10) (size := 1) (elem := 5) _ _ _ rfl rfl rfl (by kernel_rfl) (by kernel_rfl) rfl rfl (fun x26 => ?_))
  exact zc 27 (ref01_Nought_sim _) fun x27 => zp 28 (vb (!x27)) <| zp 29 (vb (!x27)) <| zl j3
  refine KT.ite 17 rfl ?_ ?_
  exact zk <| zk <| zk <| zk <| zp 22 (vb true) <| zl j2
  exact zp 18 (va x3 2) <| KT.l 19 fun x19 => zp 20 (vi (vl x19)) <| zp 21 (vb ((vl x19) != 56)) <| zp 22 (vb ((vl x19) != 56)) <| zl j2
  refine KT.ite 12 rfl ?_ ?_
  exact zk <| zk <| zk <| zp 16 (vb true) <| zl j1
  exact zp 13 (va x3 1) <| KT.l 14 fun x14 => zp 15 (vb (x14 != 0)) <| zp 16 (vb (x14 != 0)) <| zl j1
theorem ref00_SameBytes_sim (p0_a : Slc) (p1_b : Slc) : Sm Tryd.prog 10 [(vS p0_a), (vS p1_b)] Value.bool (ref00_SameBytes p0_a p1_b) := by
  refine sm_of 26 Tryd.func10 rfl rfl rfl fun _ => ?_
  unfold ref00_SameBytes
  refine zG <| zp 4 (vb false) <| zn <| zq <| zG <| zp 6 (vS p0_a) <| zp 7 (vi (vl p0_a)) <| zp 8 (vS p1_b) <| zp 9 (vi (vl p1_b)) <| zp 10 (vb ((vl p0_a) != (vl p1_b))) <| zn <| SC.cond rfl ?_ ?_
  exact zG <| zp 4 (vb false) <| zn <| zt <| ze [.tmp 4] <| zm rfl zz
  refine zw <| zq <| zG <| zp 5 (vi 0) <| zn <| SC.block <| zL (σ := (Int)) (fun s1 => [(0, (vS p0_a)), (1, (vS p1_b)), (5, (vi s1))]) fun _ _ _ s1 => zq <| zG <| zp 11 (vi s1) <| zp 12 (vS p0_a) <| zp 13 (vi (vl p0_a)) <| zp 14 (vb (decide (s1 < (vl p0_a)))) <| zn <| SC.cond rfl ?_ ?_
  refine zw <| zq <| SC.block <| zq <| SC.draw 9 (fun _ => false) rfl (by kernel_rfl) fun S2 => zpA 0 17 (vS p0_a) <| zpA 1 18 (vi s1) <| zB 2 rfl <| oix 19 5 fun x19 => zA 3 rfl <| oli 20 fun x20 => zpA 4 21 (vS p1_b) <| zpA 5 22 (vi s1) <| zB 6 rfl <| oix 23 5 fun x23 => zA 7 rfl <| oli 24 fun x24 => zpA 8 25 (vb (x20 != x24)) <| KT.doneA (by kernel_rfl) <| SX.seq <| SC.cond rfl ?_ ?_
  exact zG <| zp 4 (vb false) <| zn <| SC.ret <| SX.block_ret <| SX.then_ret <| SX.loop_ret <| SX.block_ret <| SX.then_ret <| ze [.tmp 4] <| zm rfl zz
  exact SC.skip <| SX.block <| SX.seq <| zg <| zp 15 (vi s1) <| zp 16 (vi (w64 (s1 + 1))) <| zp 5 (vi (w64 (s1 + 1))) <| KT.nil zX
  exact SC.exit <| SX.then_exit <| SX.loop_exit <| SX.block_hit <| SX.seq <| zG <| zp 4 (vb true) <| zn <| SC.ret <| ze [.tmp 4] <| zm rfl zz
theorem law08_ScanSummaries_sim (p0_g : (Int × Int × Int)) (p1_s : (Int × Int × Int × Int)) (p2_b : (Int × Int × Slc)) : Sm Tryd.prog 3 [(.agg #[(vi p0_g.1), (vi p0_g.2.1), (vi p0_g.2.2)]), (.agg #[(vi p1_s.1), (vi p1_s.2.1), (vi p1_s.2.2.1), (vi p1_s.2.2.2)]), (.agg #[(vi p2_b.1), (vi p2_b.2.1), (vS p2_b.2.2)])] Value.bool (law08_ScanSummaries p0_g p1_s p2_b) := by
  refine sm_of 79 Tryd.func3 rfl rfl rfl fun _ => ?_
  unfold law08_ScanSummaries
  refine zG <| KT.nw 3 (fun ad => .pointer (some ad)) 23 fun x3 => KT.nw 4 (fun ad => .pointer (some ad)) 25 fun x4 => KT.nw 5 (fun ad => .pointer (some ad)) 28 fun x5 => zp 6 (vb false) <| zn <| zq <| zG <| zc 15 (law08_alive_sim ) fun x15 => zp 16 (vb (!x15)) <| zn <| SC.cond rfl ?_ ?_
  exact zG <| zp 6 (vb false) <| zn <| zt <| ze [.tmp 6] <| zm rfl zz
  refine zw <| zq <| zG <| zp 17 (va x5 2) <| KT.l 18 fun x18 => zp 19 (vi (vl x18)) <| zp 20 (vb (decide ((vl x18) > 1000))) <| zn <| SC.cond rfl ?_ ?_
  exact zG <| zp 6 (vb true) <| zn <| zt <| ze [.tmp 6] <| zm rfl zz
  refine zw <| zG <| zo <| ola 22 3 fun x22 => zo <| ola 23 4 fun x23 => zc 24 (scan_PutSummary_sim _ _) fun x24 => zp 21 (.tuple #[(.agg #[(vi x24.1.1), (vi x24.1.2.1), (vS x24.1.2.2)]), (vb x24.2)]) <| zp 25 (.agg #[(vi x24.1.1), (vi x24.1.2.1), (vS x24.1.2.2)]) <| zp 26 (vb x24.2) <| KT.nw 7 (fun ad => .pointer (some ad)) 28 fun x7 => zo <| osa <| zp 8 (vb x24.2) <| zN <| zo <| ola 28 3 fun x28 => zo <| ola 29 4 fun x29 => zc 30 (ref08_PutSummary_sim _ _) fun x30 => zp 27 (.tuple #[(.agg #[(vi x30.1.1), (vi x30.1.2.1), (vS x30.1.2.2)]), (vb x30.2)]) <| zp 31 (.agg #[(vi x30.1.1), (vi x30.1.2.1), (vS x30.1.2.2)]) <| zp 32 (vb x30.2) <| KT.nw 9 (fun ad => .pointer (some ad)) 28 fun x9 => zo <| osa <| zp 10 (vb x30.2) <| zN <| zo <| ola 34 3 fun x34 => zo <| ola 35 3 fun x35 => zc 36 (scan_GetSummary_sim _ _) fun x36 => zp 33 (.tuple #[(.agg #[(vi x36.1.1), (vi x36.1.2.1), (vi x36.1.2.2.1), (vi x36.1.2.2.2)]), (vb x36.2)]) <| zp 37 (.agg #[(vi x36.1.1), (vi x36.1.2.1), (vi x36.1.2.2.1), (vi x36.1.2.2.2)]) <| zp 38 (vb x36.2) <| KT.nw 11 (fun ad => .pointer (some ad)) 25 fun x11 => zo <| osa ?_
  refine zp 12 (vb x36.2) <| KT.nil <| zS (T' := [(3, (vp x3)), (5, (vp x5)), (7, (vp x7)), (8, (vb x24.2)), (9, (vp x9)), (10, (vb x30.2)), (11, (vp x11)), (12, (vb x36.2))]) <| SX.seq <| zG <| zo <| ola 40 3 fun x40 => zo <| ola 41 3 fun x41 => zc 42 (ref08_GetSummary_sim _ _) fun x42 => zp 39 (.tuple #[(.agg #[(vi x42.1.1), (vi x42.1.2.1), (vi x42.1.2.2.1), (vi x42.1.2.2.2)]), (vb x42.2)]) <| zp 43 (.agg #[(vi x42.1.1), (vi x42.1.2.1), (vi x42.1.2.2.1), (vi x42.1.2.2.2)]) <| zp 44 (vb x42.2) <| KT.nw 13 (fun ad => .pointer (some ad)) 25 fun x13 => zo <| osa <| zp 14 (vb x42.2) <| zN <| zp 45 (vp x7) <| KT.l 46 fun x46 => zp 47 (vp x9) <| KT.l 48 fun x48 => zp 49 (vb (x46 == x48)) <| zp 50 (vb (x46 == x48)) <| zj 6 (fun q1 => [(56, (vb q1)), (7, (vp x7)), (8, (vb x24.2)), (9, (vp x9)), (10, (vb x30.2)), (11, (vp x11)), (12, (vb x36.2)), (13, (vp x13)), (14, (vb x42.2))]) (fun q1 => ?_) (fun j1 => ?_)
  refine zp 57 (vb q1) <| zj 6 (fun q2 => [(63, (vb q2)), (8, (vb x24.2)), (10, (vb x30.2)), (11, (vp x11)), (12, (vb x36.2)), (13, (vp x13)), (14, (vb x42.2))]) (fun q2 => ?_) (fun j2 => ?_)
  refine zp 64 (vb q2) <| zj 4 (fun q3 => [(68, (vb q3)), (11, (vp x11)), (12, (vb x36.2)), (13, (vp x13)), (14, (vb x42.2))]) (fun q3 => ?_) (fun j3 => ?_)
  refine zp 69 (vb q3) <| zj 4 (fun q4 => [(73, (vb q4)), (12, (vb x36.2)), (14, (vb x42.2))]) (fun q4 => ?_) (fun j4 => ?_)
  refine zp 74 (vb q4) <| zj 4 (fun q5 => [(78, (vb q5))]) (fun q5 => ?_) (fun j5 => ?_)
  exact zp 6 (vb q5) <| zn <| SC.ret <| ze [.tmp 6] <| zm rfl zz
  refine KT.ite 74 rfl ?_ ?_
  exact zp 75 (vb x36.2) <| zp 76 (vb x42.2) <| zp 77 (vb (x36.2 == x42.2)) <| zp 78 (vb (x36.2 == x42.2)) <| zl j5
  exact zk <| zk <| zk <| zp 78 (vb false) <| zl j5
  refine KT.ite 69 rfl ?_ ?_
  refine zo <| ola 70 4 fun x70 => zo <| ola 71 4 fun x71 => KT.oy rfl (OY.eqlAggL (d := 72) (x := [x70.1, x70.2.1, x70.2.2.1, x70.2.2.2]) (y := [x71.1, x71.2.1, x71.2.2.1, x71.2.2.2]) _ _ _ _ _ rfl rfl rfl rfl (by kernel_rfl) rfl rfl ?_)
  exact zp 73 (vb (eqL [x70.1, x70.2.1, x70.2.2.1, x70.2.2.2] [x71.1, x71.2.1, x71.2.2.1, x71.2.2.2])) <| zl j4
  exact zk <| zk <| zk <| zp 73 (vb false) <| zl j4
  refine KT.ite 64 rfl ?_ ?_
  exact zp 65 (vb x24.2) <| zp 66 (vb x30.2) <| zp 67 (vb (x24.2 == x30.2)) <| zp 68 (vb (x24.2 == x30.2)) <| zl j3
  exact zk <| zk <| zk <| zp 68 (vb false) <| zl j3
  refine KT.ite 57 rfl ?_ ?_
  exact zp 58 (va x7 2) <| KT.l 59 fun x59 => zp 60 (va x9 2) <| KT.l 61 fun x61 => zc 62 (ref00_SameBytes_sim _ _) fun x62 => zp 63 (vb x62) <| zl j2
  exact zk <| zk <| zk <| zk <| zk <| zp 63 (vb false) <| zl j2
  refine KT.ite 50 rfl ?_ ?_
  exact zp 51 (va x7 1) <| KT.l 52 fun x52 => zp 53 (va x9 1) <| KT.l 54 fun x54 => zp 55 (vb (x52 == x54)) <| zp 56 (vb (x52 == x54)) <| zl j1
  exact zk <| zk <| zk <| zk <| zk <| zp 56 (vb false) <| zl j1
end Go.Proofs.Ytldmeimebebllaa
