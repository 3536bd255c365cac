/-
  A part of the proof: predicate transformers over the model, and a separation logic over them; what functions of the program do.
-/
import Derived.Test.YtldmeimebebllaaGreatDoorPart4
import Derived.Test.YtldmeimebebllaaGreatDoorProg
set_option linter.unusedSimpArgs false
namespace Go.Proofs.Ytldmeimebebllaa
open Go.Mo Go.Shelf
set_option maxRecDepth 100000
def sortRen_c1 : Go.Shelf.Ren := ⟨fun | 6 => 54 | 15 => 99 | 14 => 98 | 28 => 126 | 29 => 127 | 20 => 118 | 21 => 119 | 22 => 120 | 23 => 121 | 24 => 122 | 25 => 123 | 26 => 124 | 27 => 125 | 46 => 147 | 47 => 148 | 48 => 149 | 49 => 150 | 50 => 151 | 57 => 159 | n => n, fun | 22 => 52 | 24 => 59 | 25 => 126 | 3 => 3 | 39 => 159 | 0 => 0 | 53 => 176 | 55 => 178 | 4 => 4 | 46 => 170 | 45 => 169 | 50 => 132 | 5 => 5 | 9 => 9 | 66 => 193 | 70 => 197 | 76 => 205 | 77 => 84 | n => n, fun | n => n⟩
theorem sortLay_c1 : SlLaysF0.n6 Tryz.prog sortRen_c1 := {
  mixed := by kernel_rfl,
  f6 := ⟨Tryz.f54.name, by decide, Tryz.func54.trans (congrArg some (by kernel_rfl))⟩,
  f14 := ⟨Tryz.f98.name, by decide, Tryz.func98.trans (congrArg some (by kernel_rfl))⟩,
  f15 := Tryz.func99.trans (congrArg some (by kernel_rfl)),
  f20 := ⟨Tryz.f118.name, by decide, Tryz.func118.trans (congrArg some (by kernel_rfl))⟩,
  f21 := ⟨Tryz.f119.name, by decide, Tryz.func119.trans (congrArg some (by kernel_rfl))⟩,
  f22 := ⟨Tryz.f120.name, by decide, Tryz.func120.trans (congrArg some (by kernel_rfl))⟩,
  f23 := ⟨Tryz.f121.name, by decide, Tryz.func121.trans (congrArg some (by kernel_rfl))⟩,
  f24 := ⟨Tryz.f122.name, by decide, Tryz.func122.trans (congrArg some (by kernel_rfl))⟩,
  f25 := ⟨Tryz.f123.name, by decide, Tryz.func123.trans (congrArg some (by kernel_rfl))⟩,
  f26 := ⟨Tryz.f124.name, by decide, Tryz.func124.trans (congrArg some (by kernel_rfl))⟩,
  f27 := ⟨Tryz.f125.name, by decide, Tryz.func125.trans (congrArg some (by kernel_rfl))⟩,
  f28 := Tryz.func126.trans (congrArg some (by kernel_rfl)),
  f29 := Tryz.func127.trans (congrArg some (by kernel_rfl)),
  f46 := ⟨Tryz.f147.name, by decide, Tryz.func147.trans (congrArg some (by kernel_rfl))⟩,
  f47 := Tryz.func148.trans (congrArg some (by kernel_rfl)),
  f48 := Tryz.func149.trans (congrArg some (by kernel_rfl)),
  f49 := ⟨Tryz.f150.name, by decide, Tryz.func150.trans (congrArg some (by kernel_rfl))⟩,
  f50 := ⟨Tryz.f151.name, by decide, Tryz.func151.trans (congrArg some (by kernel_rfl))⟩,
  f57 := ⟨Tryz.f159.name, by decide, Tryz.func159.trans (congrArg some (by kernel_rfl))⟩,
  t0 := Tryz.underlying0,
  a0 := Tryz.isAgg0,
  z0 := Tryz.sizeOf0,
  v0 := Tryz.zeroValue0,
  t3 := Tryz.underlying3,
  a3 := Tryz.isAgg3,
  z3 := Tryz.sizeOf3,
  v3 := Tryz.zeroValue3,
  t4 := Tryz.underlying4,
  a4 := Tryz.isAgg4,
  z4 := Tryz.sizeOf4,
  v4 := Tryz.zeroValue4,
  t5 := Tryz.underlying5,
  a5 := Tryz.isAgg5,
  z5 := Tryz.sizeOf5,
  v5 := Tryz.zeroValue5,
  t9 := Tryz.underlying9,
  a9 := Tryz.isAgg9,
  z9 := Tryz.sizeOf9,
  v9 := Tryz.zeroValue9,
  t22 := Tryz.underlying52,
  a22 := Tryz.isAgg52,
  z22 := Tryz.sizeOf52,
  v22 := Tryz.zeroValue52,
  t25 := Tryz.underlying126,
  a25 := Tryz.isAgg126,
  z25 := Tryz.sizeOf126,
  v25 := Tryz.zeroValue126,
  t39 := Tryz.underlying159,
  a39 := Tryz.isAgg159,
  z39 := Tryz.sizeOf159,
  v39 := Tryz.zeroValue159,
  t45 := Tryz.underlying169,
  a45 := Tryz.isAgg169,
  z45 := Tryz.sizeOf169,
  v45 := Tryz.zeroValue169,
  t46 := Tryz.underlying170,
  a46 := Tryz.isAgg170,
  z46 := Tryz.sizeOf170,
  v46 := Tryz.zeroValue170,
  t50 := Tryz.underlying132,
  a50 := Tryz.isAgg132,
  z50 := Tryz.sizeOf132,
  v50 := Tryz.zeroValue132,
  t53 := Tryz.underlying176,
  a53 := Tryz.isAgg176,
  z53 := Tryz.sizeOf176,
  v53 := Tryz.zeroValue176,
  t55 := Tryz.underlying178,
  a55 := Tryz.isAgg178,
  z55 := Tryz.sizeOf178,
  v55 := Tryz.zeroValue178,
  t66 := Tryz.underlying193,
  a66 := Tryz.isAgg193,
  z66 := Tryz.sizeOf193,
  v66 := Tryz.zeroValue193,
  t70 := Tryz.underlying197,
  a70 := Tryz.isAgg197,
  z70 := Tryz.sizeOf197,
  v70 := Tryz.zeroValue197,
  t76 := Tryz.underlying205,
  a76 := Tryz.isAgg205,
  z76 := Tryz.sizeOf205,
  v76 := Tryz.zeroValue205,
  t77 := Tryz.underlying84,
  a77 := Tryz.isAgg84,
  z77 := Tryz.sizeOf84,
  v77 := Tryz.zeroValue84
}
def sortRen_c2 : Go.Shelf.Ren := ⟨fun | 6 => 58 | 15 => 99 | 14 => 101 | 28 => 126 | 29 => 127 | 20 => 128 | 21 => 129 | 22 => 130 | 23 => 131 | 24 => 132 | 25 => 133 | 26 => 134 | 27 => 135 | 46 => 152 | 47 => 148 | 48 => 149 | 49 => 153 | 50 => 154 | 57 => 160 | n => n, fun | 22 => 61 | 24 => 63 | 25 => 130 | 3 => 3 | 39 => 159 | 0 => 0 | 53 => 176 | 55 => 178 | 4 => 4 | 46 => 170 | 45 => 169 | 50 => 132 | 5 => 5 | 9 => 9 | 66 => 193 | 70 => 197 | 76 => 205 | 77 => 84 | n => n, fun | n => n⟩
theorem sortLay_c2 : SlLaysF0.n6 Tryz.prog sortRen_c2 := {
  mixed := by kernel_rfl,
  f6 := ⟨Tryz.f58.name, by decide, Tryz.func58.trans (congrArg some (by kernel_rfl))⟩,
  f14 := ⟨Tryz.f101.name, by decide, Tryz.func101.trans (congrArg some (by kernel_rfl))⟩,
  f15 := Tryz.func99.trans (congrArg some (by kernel_rfl)),
  f20 := ⟨Tryz.f128.name, by decide, Tryz.func128.trans (congrArg some (by kernel_rfl))⟩,
  f21 := ⟨Tryz.f129.name, by decide, Tryz.func129.trans (congrArg some (by kernel_rfl))⟩,
  f22 := ⟨Tryz.f130.name, by decide, Tryz.func130.trans (congrArg some (by kernel_rfl))⟩,
  f23 := ⟨Tryz.f131.name, by decide, Tryz.func131.trans (congrArg some (by kernel_rfl))⟩,
  f24 := ⟨Tryz.f132.name, by decide, Tryz.func132.trans (congrArg some (by kernel_rfl))⟩,
  f25 := ⟨Tryz.f133.name, by decide, Tryz.func133.trans (congrArg some (by kernel_rfl))⟩,
  f26 := ⟨Tryz.f134.name, by decide, Tryz.func134.trans (congrArg some (by kernel_rfl))⟩,
  f27 := ⟨Tryz.f135.name, by decide, Tryz.func135.trans (congrArg some (by kernel_rfl))⟩,
  f28 := Tryz.func126.trans (congrArg some (by kernel_rfl)),
  f29 := Tryz.func127.trans (congrArg some (by kernel_rfl)),
  f46 := ⟨Tryz.f152.name, by decide, Tryz.func152.trans (congrArg some (by kernel_rfl))⟩,
  f47 := Tryz.func148.trans (congrArg some (by kernel_rfl)),
  f48 := Tryz.func149.trans (congrArg some (by kernel_rfl)),
  f49 := ⟨Tryz.f153.name, by decide, Tryz.func153.trans (congrArg some (by kernel_rfl))⟩,
  f50 := ⟨Tryz.f154.name, by decide, Tryz.func154.trans (congrArg some (by kernel_rfl))⟩,
  f57 := ⟨Tryz.f160.name, by decide, Tryz.func160.trans (congrArg some (by kernel_rfl))⟩,
  t0 := Tryz.underlying0,
  a0 := Tryz.isAgg0,
  z0 := Tryz.sizeOf0,
  v0 := Tryz.zeroValue0,
  t3 := Tryz.underlying3,
  a3 := Tryz.isAgg3,
  z3 := Tryz.sizeOf3,
  v3 := Tryz.zeroValue3,
  t4 := Tryz.underlying4,
  a4 := Tryz.isAgg4,
  z4 := Tryz.sizeOf4,
  v4 := Tryz.zeroValue4,
  t5 := Tryz.underlying5,
  a5 := Tryz.isAgg5,
  z5 := Tryz.sizeOf5,
  v5 := Tryz.zeroValue5,
  t9 := Tryz.underlying9,
  a9 := Tryz.isAgg9,
  z9 := Tryz.sizeOf9,
  v9 := Tryz.zeroValue9,
  t22 := Tryz.underlying61,
  a22 := Tryz.isAgg61,
  z22 := Tryz.sizeOf61,
  v22 := Tryz.zeroValue61,
  t25 := Tryz.underlying130,
  a25 := Tryz.isAgg130,
  z25 := Tryz.sizeOf130,
  v25 := Tryz.zeroValue130,
  t39 := Tryz.underlying159,
  a39 := Tryz.isAgg159,
  z39 := Tryz.sizeOf159,
  v39 := Tryz.zeroValue159,
  t45 := Tryz.underlying169,
  a45 := Tryz.isAgg169,
  z45 := Tryz.sizeOf169,
  v45 := Tryz.zeroValue169,
  t46 := Tryz.underlying170,
  a46 := Tryz.isAgg170,
  z46 := Tryz.sizeOf170,
  v46 := Tryz.zeroValue170,
  t50 := Tryz.underlying132,
  a50 := Tryz.isAgg132,
  z50 := Tryz.sizeOf132,
  v50 := Tryz.zeroValue132,
  t53 := Tryz.underlying176,
  a53 := Tryz.isAgg176,
  z53 := Tryz.sizeOf176,
  v53 := Tryz.zeroValue176,
  t55 := Tryz.underlying178,
  a55 := Tryz.isAgg178,
  z55 := Tryz.sizeOf178,
  v55 := Tryz.zeroValue178,
  t66 := Tryz.underlying193,
  a66 := Tryz.isAgg193,
  z66 := Tryz.sizeOf193,
  v66 := Tryz.zeroValue193,
  t70 := Tryz.underlying197,
  a70 := Tryz.isAgg197,
  z70 := Tryz.sizeOf197,
  v70 := Tryz.zeroValue197,
  t76 := Tryz.underlying205,
  a76 := Tryz.isAgg205,
  z76 := Tryz.sizeOf205,
  v76 := Tryz.zeroValue205,
  t77 := Tryz.underlying84,
  a77 := Tryz.isAgg84,
  z77 := Tryz.sizeOf84,
  v77 := Tryz.zeroValue84
}
end Go.Proofs.Ytldmeimebebllaa
namespace Go.Mo
set_option linter.unusedVariables false
abbrev vi (n : Int) : Value := .int .i64 n
abbrev vb (b : Bool) : Value := .bool b
abbrev vp (a : Addr) : Value := .pointer (some a)
abbrev va (a : Addr) (n : Nat) : Value := .pointer (some (Addr.add a n))
abbrev vl (s : Slc) : Int := ((s.len : Nat) : Int)
abbrev Sm (P : Program) {ρ : Type} (f : FuncId) (l : List Value) (enc : ρ → Value) (m : M ρ) : Prop := ∀ (Qf : ρ → World → Prop) (w : World), m Qf w → Calls P f l.toArray w (RetPost enc Qf)
theorem sm_of {P : Program} {ρ : Type} {enc : ρ → Value} {f : FuncId} {fn : Func} {c : Code} {l : List Value} {m : M ρ} (n : Nat) (hf : P.funcs[f]? = some fn) (hb : fn.body = some c) (hn : fn.ntmps = n) (hl : Nat.ble l.length n = true)
    (h : ∀ Qf : ρ → World → Prop, SC none P ⟨n, []⟩ (bodyQ P fn (RetPost enc Qf)) Qf c (ixT 0 l) m) : Sm P f l enc m := fun Qf w hm => calls_of n hf hb hn hl h Qf w hm
section
variable {rd : Option Nat} {P : Program} {n : Nd} {Q : Exit → Act → World → Prop} {α β σ : Type} {Qf : α → World → Prop} {ops : Array Oper} {o : Oper} {T : Tm} {K : Act → World → Prop} {S : World → Prop} {d : Nat} {m : M α}
variable {F : Nat → Bool} {fuel : Nat} {listed : Array Bool}
theorem zq {c c' : Code} (h : SC rd P n (Exit.then (Wp rd P c' Q) Q) Qf c T m) : SC rd P n Q Qf (.seq c c') T m := SC.seq h
theorem zg {id : Nat} {l : List Oper} (h : KT n Qf T m (WL rd P l.toArray Q l)) : SC rd P n Q Qf (.region id l.toArray false) T m := SC.region' h
theorem zG {id : Nat} {l : List Oper} {c' : Code} (h : KT n Qf T m (WL rd P l.toArray (Exit.then (Wp rd P c' Q) Q) l)) : SC rd P n Q Qf (.seq (.region id l.toArray false) c') T m := SC.seq (SC.region' h)
theorem zn {c : Code} (h : SC rd P n Q Qf c T m) : KT n Qf T m (WL rd P ops (Exit.then (Wp rd P c Q) Q) []) := KT.nil (SX.seq h)
theorem zN {id : Nat} {l : List Oper} {c' : Code} (h : KT n Qf T m (WL rd P l.toArray (Exit.then (Wp rd P c' Q) Q) l)) : KT n Qf T m (WL rd P ops (Exit.then (Wp rd P (.seq (.region id l.toArray false) c') Q) Q) []) := zn (zG h)
theorem zw {c : Code} (h : SC rd P n Q Qf c T m) : SC rd P n (Exit.then (Wp rd P c Q) Q) Qf .skip T m := SC.skip (SX.seq h)
theorem zp {os : List Oper} (d : Nat) (v : Value) (h : KT n Qf ((d, v) :: T) m (WL rd P ops Q os)) (hw : wantedB ops T o = some true := by kernel_rfl) (hd : defined T o = true := by kernel_rfl)
    (hv : ∀ w, (execOp (rho T) o).run P w = .ok (.value v) w := by intro _; kernel_rfl) (hn : o.dst = some d := by rfl) (hb : Nat.blt d n.n = true := by rfl) : KT n Qf T m (WL rd P ops Q (o :: os)) := KT.oy hw (OY.pv v hd hv hn hb h)
theorem zk {os : List Oper} (h : KT n Qf (dstT T undef o.dst) m (WL rd P ops Q os)) (hw : wantedB ops T o = some false := by kernel_rfl) (hd : dstOK n o.dst = true := by rfl) :
    KT n Qf T m (WL rd P ops Q (o :: os)) := KT.skip hw hd h
theorem zc {os : List Oper} {k : β → M α} {callee : M β} {enc : β → Value} {f : Nat} {vs : List Value} (d : Nat) (hc : Sm P f vs enc callee) (h : ∀ y, KT n Qf ((d, enc y) :: T) (k y) (WL rd P ops Q os)) (hw : wantedB ops T o = some true := by kernel_rfl) (hd : defined T o = true := by kernel_rfl) (he : ∀ w, (execOp (rho T) o).run P w = .ok (.enter f vs.toArray) w := by intro _; kernel_rfl)
    (hn : o.dst = some d := by rfl) (hb : Nat.blt d n.n = true := by rfl) : KT n Qf T (bindM callee k) (WL rd P ops Q (o :: os)) := KT.ow hw (OW.call f vs.toArray hd he hc hn hb h)
theorem ocall {k : β → M α} {callee : M β} {enc : β → Value} {f : Nat} {vs : List Value} (d : Nat) (hc : Sm P f vs enc callee) (h : ∀ y, KT n Qf ((d, enc y) :: T) (k y) K) (hd : defined T o = true := by kernel_rfl) (he : ∀ w, (execOp (rho T) o).run P w = .ok (.enter f vs.toArray) w := by intro _; kernel_rfl)
    (hn : o.dst = some d := by rfl) (hb : Nat.blt d n.n = true := by rfl) : OW rd P Q n Qf o T (bindM callee k) K := OW.call f vs.toArray hd he hc hn hb h
theorem ola {k : β → M α} {enc : β → List Value} {ad : Addr} {t : TypeId} {x : Operand} (d N : Nat) (h : ∀ y, KT n Qf ((d, .agg (enc y).toArray) :: T) (k y) K) (ho : o.op = .load t x := by rfl) (hx : ev T x = some (.pointer (some ad)) := by rfl) (ha : aggT P t = true := by kernel_rfl)
    (hs : (P.info? t).map (·.size) = some N := by kernel_rfl) (hl : ∀ y, (enc y).length = N := by exact fun _ => rfl) (hn : o.dst = some d := by rfl) (hb : Nat.blt d n.n = true := by rfl) : OW rd P Q n Qf o T (bindM (Mo.ldA enc ad) k) K := OW.ldA N t x ho hx ha hs hl hn hb h
theorem osa {k : Unit → M α} {ad : Addr} {vs : List Value} {N : Nat} {t : TypeId} {x y : Operand} (h : KT n Qf T (k ()) K) (ho : o.op = .store t x y := by rfl) (hx : ev T x = some (.pointer (some ad)) := by rfl) (hy : ev T y = some (.agg vs.toArray) := by rfl)
    (hl : vs.length = N := by rfl) (hn : o.dst = none := by rfl) (ht : (P.info? t).map (·.size) = some N := by kernel_rfl) : OW rd P Q n Qf o T (bindM (Mo.stA ad vs) k) K := OW.stA t x y ho hx hy hl hn ht h
theorem oli {k : β → M α} {enc : β → Value} {ad : Addr} {t : TypeId} {x : Operand} (d : Nat) (h : ∀ y, KT n Qf ((d, enc y) :: T) (k y) K) (ho : o.op = .load t x := by rfl) (hx : ev T x = some (.pointer (some ad)) := by rfl) (ht : plainT P t = true := by kernel_rfl)
    (hn : o.dst = some d := by rfl) (hb : Nat.blt d n.n = true := by rfl) : OY P n S Qf o T (bindM (Mo.ldI S enc ad) k) K := OY.ldI t x ho hx ht hn hb h
theorem olai {k : β → M α} {enc : β → List Value} {ad : Addr} {t : TypeId} {x : Operand} (d N : Nat) (h : ∀ y, KT n Qf ((d, .agg (enc y).toArray) :: T) (k y) K) (ho : o.op = .load t x := by rfl) (hx : ev T x = some (.pointer (some ad)) := by rfl) (ha : aggT P t = true := by kernel_rfl)
    (hs : (P.info? t).map (·.size) = some N := by kernel_rfl) (hl : ∀ y, (enc y).length = N := by exact fun _ => rfl) (hn : o.dst = some d := by rfl) (hb : Nat.blt d n.n = true := by rfl) : OY P n S Qf o T (bindM (Mo.ldAI S enc ad) k) K := OY.ldAI N t x ho hx ha hs hl hn hb h
theorem oix {k : Addr → M α} {s : Slc} {i : Int} {ki : IntKind} {size : Nat} {t : TypeId} {x ix : Operand} (d elem : Nat) (h : ∀ ad, KT n Qf ((d, .pointer (some ad)) :: T) (k ad) K) (ho : o.op = .indexAddr t x ix := by rfl)
    (hx : ev T x = some (.slice s.base s.len s.cap) := by rfl) (hi : ev T ix = some (.int ki i) := by rfl) (ht : P.underlying t = some (.slice elem) := by kernel_rfl) (hs : (P.info? elem).map (·.size) = some size := by kernel_rfl)
    (hn : o.dst = some d := by rfl) (hb : Nat.blt d n.n = true := by rfl) : OY P n S Qf o T (bindM (idxM s i size) k) K := OY.idx t x ix ho hx hi ht hs hn hb h
theorem onil {k : Addr → M α} {p : Option Addr} {x : Operand} (d : Nat) (h : ∀ ad, KT n Qf ((d, .pointer (some ad)) :: T) (k ad) K) (ho : o.op = .nilCheck x := by rfl) (hx : ev T x = some (.pointer p) := by rfl) (hn : o.dst = some d := by rfl) (hb : Nat.blt d n.n = true := by rfl) :
    OY P n S Qf o T (bindM (nilM p) k) K := OY.nil x ho hx hn hb h
theorem oapp {k : Slc → M α} {s x : Slc} {z : List Value} {t : TypeId} {xs xx : Operand} {bytes : Nat} (d elem : Nat) (h : ∀ s, KT n Qf ((d, vS s) :: T) (k s) K) (ho : o.op = .call ⟨.builtin .append, #[xs, xx], #[t, t]⟩ := by rfl) (hs : ev T xs = some (.slice s.base s.len s.cap) := by rfl) (hx : ev T xx = some (.slice x.base x.len x.cap) := by rfl)
    (ht : P.underlying t = some (.slice elem) := by kernel_rfl) (hz : (P.info? elem).map (fun i => (i.zero.map (·.cells.toList), i.size, i.bytes)) = some (some z, z.length, bytes) := by kernel_rfl) (hb0 : Nat.blt 0 bytes = true := by rfl)
    (hn : o.dst = some d := by rfl) (hb : Nat.blt d n.n = true := by rfl) : OW rd P Q n Qf o T (bindM (appendM z bytes s x) k) K := OW.append z bytes elem t t xs xx ho hs hx rfl ht hz hb0 hn hb h
theorem zo {os : List Oper} (h : OW rd P Q n Qf o T m (WL rd P ops Q os)) (hw : wantedB ops T o = some true := by kernel_rfl) : KT n Qf T m (WL rd P ops Q (o :: os)) := KT.ow hw h
theorem zy {os : List Oper} (h : OY P n (fun _ => True) Qf o T m (WL rd P ops Q os)) (hw : wantedB ops T o = some true := by kernel_rfl) : KT n Qf T m (WL rd P ops Q (o :: os)) := KT.oy hw h
theorem zpA (i d : Nat) (v : Value) (h : KT n Qf ((d, v) :: T) m (AH rd P ops Q S F fuel (listed.setIfInBounds i true))) [hQ : PanicOK Q] (hi : ops[i]? = some o := by rfl) (hc : takeOKp ops F listed i = true := by kernel_rfl)
    (hw : wantedB ops T o = some true := by kernel_rfl) (hd : defined T o = true := by kernel_rfl)
    (hv : ∀ w, (execOp (rho T) o).run P w = .ok (.value v) w := by intro _; kernel_rfl) (hn : o.dst = some d := by rfl) (hb : Nat.blt d n.n = true := by rfl) : KT n Qf T m (AH rd P ops Q S F (fuel + 1) listed) :=
  KT.takeP i hi hc hQ hw (OY.pv v hd hv hn hb h)
theorem zkA (i : Nat) (hi : ops[i]? = some o) (h : KT n Qf (dstT T undef o.dst) m (AH rd P ops Q S F fuel (listed.setIfInBounds i true))) [hQ : PanicOK Q] (hc : takeOKp ops F listed i = true := by kernel_rfl)
    (hw : wantedB ops T o = some false := by kernel_rfl) (hd : dstOK n o.dst = true := by rfl) : KT n Qf T m (AH rd P ops Q S F (fuel + 1) listed) := KT.takeSkip i hi hc hQ hw hd h
theorem zA (i : Nat) (hi : ops[i]? = some o) (h : OY P n S Qf o T m (AH rd P ops Q S F fuel (listed.setIfInBounds i true))) [hQ : PanicOK Q] (hc : takeOK ops F listed i = true := by kernel_rfl)
    (hw : wantedB ops T o = some true := by kernel_rfl) : KT n Qf T m (AH rd P ops Q S F (fuel + 1) listed) := KT.take i hi hc hQ hw h
theorem zB (i : Nat) (hi : ops[i]? = some o) (h : OY P n (fun _ => True) Qf o T m (AH rd P ops Q S F fuel (listed.setIfInBounds i true))) [hQ : PanicOK Q] (hc : takeOKp ops F listed i = true := by kernel_rfl)
    (hw : wantedB ops T o = some true := by kernel_rfl) : KT n Qf T m (AH rd P ops Q S F (fuel + 1) listed) := KT.takeP i hi hc hQ hw h
theorem zl {rest : List Oper} {k : β → M α} {b : β} {T0 : β → Tm} (h : ∀ b, KT n Qf (T0 b) (k b) (WL rd P ops Q rest)) (hs : Sub T (T0 b) := by repeat (first | exact .nil | refine .cons rfl ?_)) :
    KT n (fun b w => k b Qf w) T (pureM b) (WL rd P ops (Exit.then (WL rd P ops Q rest) Q) []) := KT.leafO h hs
theorem zX {I : σ → World → Prop} {lt : Nat} {μ : σ → World → Nat} {N0 : σ → Nd} {T0 : σ → Tm} {s : σ} (hs : Sub T (T0 s) := by repeat (first | exact .nil | refine .cons rfl ?_)) (hn : N0 s = n := by rfl) :
    SX n .normal (loopQ N0 T0 I lt μ Q) (loopPost I lt μ Qf) T (pureM (.inl s)) := SX.loop_next hs hn
theorem zL {c : Code} {body : σ → M (σ ⊕ α)} {s : σ} (T0 : σ → Tm) (h : ∀ (I : σ → World → Prop) (lt : Nat) (μ : σ → World → Nat) (s : σ), SC rd P n (loopQ (fun _ => n) T0 I lt μ Q) (loopPost I lt μ Qf) c (T0 s) (body s))
    (hs : Sub T (T0 s) := by repeat (first | exact .nil | refine .cons rfl ?_)) : SC rd P n Q Qf (.loop c) T (loopM body s) := SC.loop T0 hs h
theorem zS {T' : Tm} {e : Exit} (h : SX n e Q Qf T' m) (hs : Sub T T' := by repeat (first | exact .nil | refine .cons rfl ?_)) : SX n e Q Qf T m := SX.sub hs h
theorem zf {k : β → M α} {b : β} {T0 : β → Tm} {e : Exit} (h : ∀ b, SX n e Q Qf (T0 b) (k b)) (hs : Sub T (T0 b) := by repeat (first | exact .nil | refine .cons rfl ?_)) : SX n e Q (joinPost k Qf) T (pureM (.inl b)) := SX.leafS h hs
theorem zt {K : Act → World → Prop} (h : SX n .ret Q Qf T m) : SC rd P n (Exit.then K Q) Qf .ret T m := SC.ret (SX.then_ret h)
theorem zj {os : List Oper} {m : M Bool} {k : Bool → M α} (j : Nat) (T0 : Bool → Tm)
    (h2 : ∀ b, KT n Qf (T0 b) (k b) (WL rd P ops Q (os.drop j)))
    (h : (∀ b, KT n Qf (T0 b) (k b) (WL rd P ops Q (os.drop j))) → KT n (fun b w => k b Qf w) T m (WL rd P ops (Exit.then (WL rd P ops Q (os.drop j)) Q) (os.take j))) :
    KT n Qf T (bindM m k) (WL rd P ops Q os) := KT.joinO j T0 h2 h
end
section
variable {n : Nd} {P : Program} {ρ : Type} {enc : ρ → Value} {Qf : ρ → World → Prop} {rs : List ResultVar} {acc : List Value} {T : Tm}
theorem ze {m : M ρ} {fn : Func} (rs : List ResultVar) (h : RS P n enc Qf rs [] T m) (hrs : fn.results = rs.toArray := by rfl) :
    SX n .ret (bodyQ P fn (RetPost enc Qf)) Qf T (takesM n.ds m) := SX.ret rs hrs h
theorem zm {m : M ρ} {t : Nat} {v : Value} (hv : lk T t = some v) (h : RS P n enc Qf rs (acc ++ [v]) T m) : RS P n enc Qf (.tmp t :: rs) acc T m := RS.tmp v hv h
theorem zz {x : ρ} (h : (if h : acc.length = 1 then acc[0] else .tuple acc.toArray) = enc x := by rfl) : RS P n enc Qf [] acc T (pureM x) := RS.nil h
end
end Go.Mo
namespace Go.Mo
set_option linter.unusedSimpArgs false
set_option linter.unusedVariables false
section
variable {rd : Option Nat} {P : Program} {n : Nd} {Q : Exit → Act → World → Prop} {α β σ : Type} {Qf : α → World → Prop} {ops : Array Oper}
variable {o : Oper} {T : Tm} {K : Act → World → Prop} {S : World → Prop} {d : Nat}
theorem eqL_app (a b a' b' : List Int) (h : a.length = b.length) : eqL (a ++ a') (b ++ b') = (eqL a b && eqL a' b') := by
  unfold eqL
  rw [Bool.eq_iff_iff]
  simp only [beq_iff_eq, Bool.and_eq_true]
  exact ⟨fun e => List.append_inj e h, fun ⟨e1, e2⟩ => by rw [e1, e2]⟩
theorem run_eqFieldsA (m : Nat) (w : World) (rest : List Field) : ∀ (fs : List Field) (i : Nat) (xs ys : Array Value) (a b : List Int), allInts P fs i = true → a.length = fs.length → b.length = fs.length → (∀ (j : Nat) (v : Int), a[j]? = some v → xs[i + j]? = some (.int .i64 v)) → (∀ (j : Nat) (v : Int), b[j]? = some v → ys[i + j]? = some (.int .i64 v)) →
    (Op.eqFields (m + 1) xs ys (fs ++ rest)).run P w = if eqL a b = true then (Op.eqFields (m + 1) xs ys rest).run P w else .ok false w := by
  intro fs
  induction fs with
  | nil =>
    intro i xs ys a b _ ha hb _ _
    have : a = [] := List.eq_nil_of_length_eq_zero ha
    have : b = [] := List.eq_nil_of_length_eq_zero hb
    subst a b
    simp [eqL]
  | cons f fs ih =>
    intro i xs ys a b hf ha hb hxa hyb
    simp only [allInts, Bool.and_eq_true] at hf
    match a, b, ha, hb with
    | u :: a, v :: b, ha, hb =>
      rw [List.cons_append, run_eqField hf.1 m (fs ++ rest) xs ys u v (hxa 0 u rfl) (hyb 0 v rfl)]
      rw [ih (i + 1) xs ys a b hf.2 (by simpa using ha) (by simpa using hb) (fun j z hj => by have := hxa (j + 1) z (by simpa using hj); rw [show i + 1 + j = i + (j + 1) by omega]; exact this) (fun j z hj => by have := hyb (j + 1) z (by simpa using hj); rw [show i + 1 + j = i + (j + 1) by omega]; exact this)]
      have he : eqL (u :: a) (v :: b) = ((u == v) && eqL a b) := rfl
      rw [he]
      cases u == v <;> simp
def nestB (P : Program) (t : TypeId) (fs : List Field) (f : Field) (gs : List Field) : Bool := !P.stoodInHeld t && (allInts P fs 0 && (f.name != "_" && (Nat.beq f.offset fs.length && (aggT P f.type && (!P.stoodInHeld f.type && allInts P gs 0)))))
theorem run_eqN {t : TypeId} {fs : List Field} {f : Field} {gs : List Field} (ht : P.underlying t = some (.struct (fs ++ [f]).toArray)) (hu : P.underlying f.type = some (.struct gs.toArray)) (hz : (P.info? f.type).map (·.size) = some gs.length) (hc : nestB P t fs f gs = true)
    (x y : List Int) (hx : x.length = fs.length + gs.length) (hy : y.length = fs.length + gs.length) (w : World) :
    (Op.equal t (.agg (x.map (Value.int .i64)).toArray) (.agg (y.map (Value.int .i64)).toArray)).run P w = .ok (eqL x y) w := by
  simp only [nestB, Bool.and_eq_true, Bool.not_eq_true', bne_iff_ne] at hc
  obtain ⟨h1, h2, h3, h4, h5, h6, h7⟩ := hc
  have h4 := Nat.eq_of_beq_eq_true h4
  have hf : P.fieldsOf t = (fs ++ [f]).toArray := by simp [Program.fieldsOf, ht]
  have hg : P.fieldsOf f.type = gs.toArray := by simp [Program.fieldsOf, hu]
  have hpart : ∀ z : List Int, z.length = fs.length + gs.length → (part f.type (z.map (Value.int .i64)).toArray f.offset).run P w = .ok (.agg ((z.drop fs.length).map (Value.int .i64)).toArray) w := fun z hzl => by
    have : ((z.map (Value.int .i64)).toArray).extract f.offset (f.offset + gs.length) = ((z.drop fs.length).map (Value.int .i64)).toArray := by
      rw [h4]
      apply Array.ext'
      simp
      rw [List.take_of_length_le (by simp; omega)]
    simp only [part, Sem.run_bind, run_isAgg_agg h5, Result.andThen_ok, if_true, run_sizeOf hz, this, Sem.run_pure]
  have key : ∀ m : Nat, (Op.equalIn (m + 3) t (.agg (x.map (Value.int .i64)).toArray) (.agg (y.map (Value.int .i64)).toArray)).run P w = .ok (eqL x y) w := fun m => by
    rw [run_equalIn_struct w (m + 2) t _ _ (by rw [hf]; exact ht) h1, hf]
    show (Op.eqFields (m + 1 + 1) _ _ (fs ++ [f])).run P w = _
    rw [run_eqFieldsA (m + 1) w [f] fs 0 _ _ (x.take fs.length) (y.take fs.length) h2 (by simp; omega) (by simp; omega) (fun j v hj => by
      rw [List.getElem?_take] at hj
      split at hj
      · simp [hj]
      · cases hj) (fun j v hj => by
      rw [List.getElem?_take] at hj
      split at hj
      · simp [hj]
      · cases hj)]
    have hxy : eqL x y = (eqL (x.take fs.length) (y.take fs.length) && eqL (x.drop fs.length) (y.drop fs.length)) := by
      rw [← eqL_app _ _ _ _ (by simp; omega), List.take_append_drop, List.take_append_drop]
    rw [hxy]
    cases eqL (x.take fs.length) (y.take fs.length) with
    | false => simp
    | true =>
      have hin : (Op.equalIn (m + 2) f.type (.agg ((x.drop fs.length).map (Value.int .i64)).toArray) (.agg ((y.drop fs.length).map (Value.int .i64)).toArray)).run P w = .ok (eqL (x.drop fs.length) (y.drop fs.length)) w := by
        rw [run_equalIn_struct w (m + 1) f.type _ _ (by rw [hg]; exact hu) h6, hg]
        exact run_eqFieldsL m w gs 0 _ _ _ _ h7 (by simp; omega) (by simp; omega) (fun j v hj => by simp [List.getElem?_drop] at hj ⊢; simp [hj]) (fun j v hj => by simp [List.getElem?_drop] at hj ⊢; simp [hj])
      simp only [if_true, Op.eqFields, h3, ne_eq, not_false_eq_true, Sem.run_bind, hpart x hx, hpart y hy, Result.andThen_ok, hin, Bool.true_and]
      cases eqL (x.drop fs.length) (y.drop fs.length) <;> simp
  exact key 9997
theorem OY.neqAggN {m : M α} {x y : List Int} (t : TypeId) (xo yo : Operand) (t2 : TypeId) (fs : List Field) (f : Field) (gs : List Field) (ho : o.op = .binOp .neq t xo yo t2) (hx : ev T xo = some (.agg (x.map (Value.int .i64)).toArray)) (hy : ev T yo = some (.agg (y.map (Value.int .i64)).toArray))
    (ht : P.underlying t = some (.struct (fs ++ [f]).toArray)) (hu : P.underlying f.type = some (.struct gs.toArray)) (hz : (P.info? f.type).map (·.size) = some gs.length)
    (hc : (nestB P t fs f gs && !P.eqGuardType P.depth t && Nat.beq x.length (fs.length + gs.length) && Nat.beq y.length (fs.length + gs.length)) = true)
    (hn : o.dst = some d) (hb : Nat.blt d n.n = true) (h : KT n Qf ((d, .bool (!eqL x y)) :: T) m K) : OY P n S Qf o T m K := OY.run _ (fun a w hA => by
  simp only [Bool.and_eq_true, Bool.not_eq_true'] at hc
  unfold execOp
  rw [ho]
  simp [hA.ev hx, hA.ev hy, binOp, eqGuard_agg hc.1.1.2, run_eqN ht hu hz hc.1.1.1 x y (Nat.eq_of_beq_eq_true hc.1.2) (Nat.eq_of_beq_eq_true hc.2)]) hn hb h
end
end Go.Mo
