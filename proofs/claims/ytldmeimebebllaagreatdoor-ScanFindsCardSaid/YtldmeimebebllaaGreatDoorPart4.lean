/-
  A part of the proof: predicate transformers over the model, and a separation logic over them; what functions of the program do.
-/
import Derived.Test.YtldmeimebebllaaGreatDoorPart3
import Derived.Test.YtldmeimebebllaaGreatDoorProg
set_option linter.unusedSimpArgs false
namespace Go.Proofs.Ytldmeimebebllaa
open Go.Mo Go.Shelf
set_option maxRecDepth 100000
def sortRen_c1 : Go.Shelf.Ren := ⟨fun | 6 => 54 | 15 => 99 | 14 => 98 | 28 => 126 | 29 => 127 | 20 => 118 | 21 => 119 | 22 => 120 | 23 => 121 | 24 => 122 | 25 => 123 | 26 => 124 | 27 => 125 | 46 => 147 | 47 => 148 | 48 => 149 | 49 => 150 | 50 => 151 | 57 => 159 | n => n, fun | 22 => 52 | 24 => 59 | 25 => 126 | 3 => 3 | 39 => 159 | 0 => 0 | 53 => 176 | 55 => 178 | 4 => 4 | 46 => 170 | 45 => 169 | 50 => 132 | 5 => 5 | 9 => 9 | 66 => 193 | 70 => 197 | 76 => 205 | 77 => 84 | n => n, fun | n => n⟩
theorem sortLay_c1 : SlLaysF0.n6 Tryz.prog sortRen_c1 := {
  mixed := by kernel_rfl,
  f6 := ⟨Tryz.f54.name, by decide, Tryz.func54.trans (congrArg some (by kernel_rfl))⟩,
  f14 := ⟨Tryz.f98.name, by decide, Tryz.func98.trans (congrArg some (by kernel_rfl))⟩,
  f15 := Tryz.func99.trans (congrArg some (by kernel_rfl)),
  f20 := ⟨Tryz.f118.name, by decide, Tryz.func118.trans (congrArg some (by kernel_rfl))⟩,
  f21 := ⟨Tryz.f119.name, by decide, Tryz.func119.trans (congrArg some (by kernel_rfl))⟩,
  f22 := ⟨Tryz.f120.name, by decide, Tryz.func120.trans (congrArg some (by kernel_rfl))⟩,
  f23 := ⟨Tryz.f121.name, by decide, Tryz.func121.trans (congrArg some (by kernel_rfl))⟩,
  f24 := ⟨Tryz.f122.name, by decide, Tryz.func122.trans (congrArg some (by kernel_rfl))⟩,
  f25 := ⟨Tryz.f123.name, by decide, Tryz.func123.trans (congrArg some (by kernel_rfl))⟩,
  f26 := ⟨Tryz.f124.name, by decide, Tryz.func124.trans (congrArg some (by kernel_rfl))⟩,
  f27 := ⟨Tryz.f125.name, by decide, Tryz.func125.trans (congrArg some (by kernel_rfl))⟩,
  f28 := Tryz.func126.trans (congrArg some (by kernel_rfl)),
  f29 := Tryz.func127.trans (congrArg some (by kernel_rfl)),
  f46 := ⟨Tryz.f147.name, by decide, Tryz.func147.trans (congrArg some (by kernel_rfl))⟩,
  f47 := Tryz.func148.trans (congrArg some (by kernel_rfl)),
  f48 := Tryz.func149.trans (congrArg some (by kernel_rfl)),
  f49 := ⟨Tryz.f150.name, by decide, Tryz.func150.trans (congrArg some (by kernel_rfl))⟩,
  f50 := ⟨Tryz.f151.name, by decide, Tryz.func151.trans (congrArg some (by kernel_rfl))⟩,
  f57 := ⟨Tryz.f159.name, by decide, Tryz.func159.trans (congrArg some (by kernel_rfl))⟩,
  t0 := Tryz.underlying0,
  a0 := Tryz.isAgg0,
  z0 := Tryz.sizeOf0,
  v0 := Tryz.zeroValue0,
  t3 := Tryz.underlying3,
  a3 := Tryz.isAgg3,
  z3 := Tryz.sizeOf3,
  v3 := Tryz.zeroValue3,
  t4 := Tryz.underlying4,
  a4 := Tryz.isAgg4,
  z4 := Tryz.sizeOf4,
  v4 := Tryz.zeroValue4,
  t5 := Tryz.underlying5,
  a5 := Tryz.isAgg5,
  z5 := Tryz.sizeOf5,
  v5 := Tryz.zeroValue5,
  t9 := Tryz.underlying9,
  a9 := Tryz.isAgg9,
  z9 := Tryz.sizeOf9,
  v9 := Tryz.zeroValue9,
  t22 := Tryz.underlying52,
  a22 := Tryz.isAgg52,
  z22 := Tryz.sizeOf52,
  v22 := Tryz.zeroValue52,
  t25 := Tryz.underlying126,
  a25 := Tryz.isAgg126,
  z25 := Tryz.sizeOf126,
  v25 := Tryz.zeroValue126,
  t39 := Tryz.underlying159,
  a39 := Tryz.isAgg159,
  z39 := Tryz.sizeOf159,
  v39 := Tryz.zeroValue159,
  t45 := Tryz.underlying169,
  a45 := Tryz.isAgg169,
  z45 := Tryz.sizeOf169,
  v45 := Tryz.zeroValue169,
  t46 := Tryz.underlying170,
  a46 := Tryz.isAgg170,
  z46 := Tryz.sizeOf170,
  v46 := Tryz.zeroValue170,
  t50 := Tryz.underlying132,
  a50 := Tryz.isAgg132,
  z50 := Tryz.sizeOf132,
  v50 := Tryz.zeroValue132,
  t53 := Tryz.underlying176,
  a53 := Tryz.isAgg176,
  z53 := Tryz.sizeOf176,
  v53 := Tryz.zeroValue176,
  t55 := Tryz.underlying178,
  a55 := Tryz.isAgg178,
  z55 := Tryz.sizeOf178,
  v55 := Tryz.zeroValue178,
  t66 := Tryz.underlying193,
  a66 := Tryz.isAgg193,
  z66 := Tryz.sizeOf193,
  v66 := Tryz.zeroValue193,
  t70 := Tryz.underlying197,
  a70 := Tryz.isAgg197,
  z70 := Tryz.sizeOf197,
  v70 := Tryz.zeroValue197,
  t76 := Tryz.underlying205,
  a76 := Tryz.isAgg205,
  z76 := Tryz.sizeOf205,
  v76 := Tryz.zeroValue205,
  t77 := Tryz.underlying84,
  a77 := Tryz.isAgg84,
  z77 := Tryz.sizeOf84,
  v77 := Tryz.zeroValue84
}
def sortRen_c2 : Go.Shelf.Ren := ⟨fun | 6 => 58 | 15 => 99 | 14 => 101 | 28 => 126 | 29 => 127 | 20 => 128 | 21 => 129 | 22 => 130 | 23 => 131 | 24 => 132 | 25 => 133 | 26 => 134 | 27 => 135 | 46 => 152 | 47 => 148 | 48 => 149 | 49 => 153 | 50 => 154 | 57 => 160 | n => n, fun | 22 => 61 | 24 => 63 | 25 => 130 | 3 => 3 | 39 => 159 | 0 => 0 | 53 => 176 | 55 => 178 | 4 => 4 | 46 => 170 | 45 => 169 | 50 => 132 | 5 => 5 | 9 => 9 | 66 => 193 | 70 => 197 | 76 => 205 | 77 => 84 | n => n, fun | n => n⟩
theorem sortLay_c2 : SlLaysF0.n6 Tryz.prog sortRen_c2 := {
  mixed := by kernel_rfl,
  f6 := ⟨Tryz.f58.name, by decide, Tryz.func58.trans (congrArg some (by kernel_rfl))⟩,
  f14 := ⟨Tryz.f101.name, by decide, Tryz.func101.trans (congrArg some (by kernel_rfl))⟩,
  f15 := Tryz.func99.trans (congrArg some (by kernel_rfl)),
  f20 := ⟨Tryz.f128.name, by decide, Tryz.func128.trans (congrArg some (by kernel_rfl))⟩,
  f21 := ⟨Tryz.f129.name, by decide, Tryz.func129.trans (congrArg some (by kernel_rfl))⟩,
  f22 := ⟨Tryz.f130.name, by decide, Tryz.func130.trans (congrArg some (by kernel_rfl))⟩,
  f23 := ⟨Tryz.f131.name, by decide, Tryz.func131.trans (congrArg some (by kernel_rfl))⟩,
  f24 := ⟨Tryz.f132.name, by decide, Tryz.func132.trans (congrArg some (by kernel_rfl))⟩,
  f25 := ⟨Tryz.f133.name, by decide, Tryz.func133.trans (congrArg some (by kernel_rfl))⟩,
  f26 := ⟨Tryz.f134.name, by decide, Tryz.func134.trans (congrArg some (by kernel_rfl))⟩,
  f27 := ⟨Tryz.f135.name, by decide, Tryz.func135.trans (congrArg some (by kernel_rfl))⟩,
  f28 := Tryz.func126.trans (congrArg some (by kernel_rfl)),
  f29 := Tryz.func127.trans (congrArg some (by kernel_rfl)),
  f46 := ⟨Tryz.f152.name, by decide, Tryz.func152.trans (congrArg some (by kernel_rfl))⟩,
  f47 := Tryz.func148.trans (congrArg some (by kernel_rfl)),
  f48 := Tryz.func149.trans (congrArg some (by kernel_rfl)),
  f49 := ⟨Tryz.f153.name, by decide, Tryz.func153.trans (congrArg some (by kernel_rfl))⟩,
  f50 := ⟨Tryz.f154.name, by decide, Tryz.func154.trans (congrArg some (by kernel_rfl))⟩,
  f57 := ⟨Tryz.f160.name, by decide, Tryz.func160.trans (congrArg some (by kernel_rfl))⟩,
  t0 := Tryz.underlying0,
  a0 := Tryz.isAgg0,
  z0 := Tryz.sizeOf0,
  v0 := Tryz.zeroValue0,
  t3 := Tryz.underlying3,
  a3 := Tryz.isAgg3,
  z3 := Tryz.sizeOf3,
  v3 := Tryz.zeroValue3,
  t4 := Tryz.underlying4,
  a4 := Tryz.isAgg4,
  z4 := Tryz.sizeOf4,
  v4 := Tryz.zeroValue4,
  t5 := Tryz.underlying5,
  a5 := Tryz.isAgg5,
  z5 := Tryz.sizeOf5,
  v5 := Tryz.zeroValue5,
  t9 := Tryz.underlying9,
  a9 := Tryz.isAgg9,
  z9 := Tryz.sizeOf9,
  v9 := Tryz.zeroValue9,
  t22 := Tryz.underlying61,
  a22 := Tryz.isAgg61,
  z22 := Tryz.sizeOf61,
  v22 := Tryz.zeroValue61,
  t25 := Tryz.underlying130,
  a25 := Tryz.isAgg130,
  z25 := Tryz.sizeOf130,
  v25 := Tryz.zeroValue130,
  t39 := Tryz.underlying159,
  a39 := Tryz.isAgg159,
  z39 := Tryz.sizeOf159,
  v39 := Tryz.zeroValue159,
  t45 := Tryz.underlying169,
  a45 := Tryz.isAgg169,
  z45 := Tryz.sizeOf169,
  v45 := Tryz.zeroValue169,
  t46 := Tryz.underlying170,
  a46 := Tryz.isAgg170,
  z46 := Tryz.sizeOf170,
  v46 := Tryz.zeroValue170,
  t50 := Tryz.underlying132,
  a50 := Tryz.isAgg132,
  z50 := Tryz.sizeOf132,
  v50 := Tryz.zeroValue132,
  t53 := Tryz.underlying176,
  a53 := Tryz.isAgg176,
  z53 := Tryz.sizeOf176,
  v53 := Tryz.zeroValue176,
  t55 := Tryz.underlying178,
  a55 := Tryz.isAgg178,
  z55 := Tryz.sizeOf178,
  v55 := Tryz.zeroValue178,
  t66 := Tryz.underlying193,
  a66 := Tryz.isAgg193,
  z66 := Tryz.sizeOf193,
  v66 := Tryz.zeroValue193,
  t70 := Tryz.underlying197,
  a70 := Tryz.isAgg197,
  z70 := Tryz.sizeOf197,
  v70 := Tryz.zeroValue197,
  t76 := Tryz.underlying205,
  a76 := Tryz.isAgg205,
  z76 := Tryz.sizeOf205,
  v76 := Tryz.zeroValue205,
  t77 := Tryz.underlying84,
  a77 := Tryz.isAgg84,
  z77 := Tryz.sizeOf84,
  v77 := Tryz.zeroValue84
}
end Go.Proofs.Ytldmeimebebllaa
namespace Go.Mo
set_option linter.unusedVariables false
abbrev vi (n : Int) : Value := .int .i64 n
abbrev vb (b : Bool) : Value := .bool b
abbrev vp (a : Addr) : Value := .pointer (some a)
abbrev va (a : Addr) (n : Nat) : Value := .pointer (some (Addr.add a n))
abbrev vl (s : Slc) : Int := ((s.len : Nat) : Int)
abbrev Sm (P : Program) {ρ : Type} (f : FuncId) (l : List Value) (enc : ρ → Value) (m : M ρ) : Prop := ∀ (Qf : ρ → World → Prop) (w : World), m Qf w → Calls P f l.toArray w (RetPost enc Qf)
theorem sm_of {P : Program} {ρ : Type} {enc : ρ → Value} {f : FuncId} {fn : Func} {c : Code} {l : List Value} {m : M ρ} (n : Nat) (hf : P.funcs[f]? = some fn) (hb : fn.body = some c) (hn : fn.ntmps = n) (hl : Nat.ble l.length n = true)
    (h : ∀ Qf : ρ → World → Prop, SC none P ⟨n, []⟩ (bodyQ P fn (RetPost enc Qf)) Qf c (ixT 0 l) m) : Sm P f l enc m := fun Qf w hm => calls_of n hf hb hn hl h Qf w hm
section
variable {rd : Option Nat} {P : Program} {n : Nd} {Q : Exit → Act → World → Prop} {α β σ : Type} {Qf : α → World → Prop} {ops : Array Oper} {o : Oper} {T : Tm} {K : Act → World → Prop} {S : World → Prop} {d : Nat} {m : M α}
variable {F : Nat → Bool} {fuel : Nat} {listed : Array Bool}
theorem zq {c c' : Code} (h : SC rd P n (Exit.then (Wp rd P c' Q) Q) Qf c T m) : SC rd P n Q Qf (.seq c c') T m := SC.seq h
theorem zg {id : Nat} {l : List Oper} (h : KT n Qf T m (WL rd P l.toArray Q l)) : SC rd P n Q Qf (.region id l.toArray false) T m := SC.region' h
theorem zG {id : Nat} {l : List Oper} {c' : Code} (h : KT n Qf T m (WL rd P l.toArray (Exit.then (Wp rd P c' Q) Q) l)) : SC rd P n Q Qf (.seq (.region id l.toArray false) c') T m := SC.seq (SC.region' h)
theorem zn {c : Code} (h : SC rd P n Q Qf c T m) : KT n Qf T m (WL rd P ops (Exit.then (Wp rd P c Q) Q) []) := KT.nil (SX.seq h)
theorem zN {id : Nat} {l : List Oper} {c' : Code} (h : KT n Qf T m (WL rd P l.toArray (Exit.then (Wp rd P c' Q) Q) l)) : KT n Qf T m (WL rd P ops (Exit.then (Wp rd P (.seq (.region id l.toArray false) c') Q) Q) []) := zn (zG h)
theorem zw {c : Code} (h : SC rd P n Q Qf c T m) : SC rd P n (Exit.then (Wp rd P c Q) Q) Qf .skip T m := SC.skip (SX.seq h)
theorem zp {os : List Oper} (d : Nat) (v : Value) (h : KT n Qf ((d, v) :: T) m (WL rd P ops Q os)) (hw : wantedB ops T o = some true := by kernel_rfl) (hd : defined T o = true := by kernel_rfl)
    (hv : ∀ w, (execOp (rho T) o).run P w = .ok (.value v) w := by intro _; kernel_rfl) (hn : o.dst = some d := by rfl) (hb : Nat.blt d n.n = true := by rfl) : KT n Qf T m (WL rd P ops Q (o :: os)) := KT.oy hw (OY.pv v hd hv hn hb h)
theorem zk {os : List Oper} (h : KT n Qf (dstT T undef o.dst) m (WL rd P ops Q os)) (hw : wantedB ops T o = some false := by kernel_rfl) (hd : dstOK n o.dst = true := by rfl) :
    KT n Qf T m (WL rd P ops Q (o :: os)) := KT.skip hw hd h
theorem zc {os : List Oper} {k : β → M α} {callee : M β} {enc : β → Value} {f : Nat} {vs : List Value} (d : Nat) (hc : Sm P f vs enc callee) (h : ∀ y, KT n Qf ((d, enc y) :: T) (k y) (WL rd P ops Q os)) (hw : wantedB ops T o = some true := by kernel_rfl) (hd : defined T o = true := by kernel_rfl) (he : ∀ w, (execOp (rho T) o).run P w = .ok (.enter f vs.toArray) w := by intro _; kernel_rfl)
    (hn : o.dst = some d := by rfl) (hb : Nat.blt d n.n = true := by rfl) : KT n Qf T (bindM callee k) (WL rd P ops Q (o :: os)) := KT.ow hw (OW.call f vs.toArray hd he hc hn hb h)
theorem ocall {k : β → M α} {callee : M β} {enc : β → Value} {f : Nat} {vs : List Value} (d : Nat) (hc : Sm P f vs enc callee) (h : ∀ y, KT n Qf ((d, enc y) :: T) (k y) K) (hd : defined T o = true := by kernel_rfl) (he : ∀ w, (execOp (rho T) o).run P w = .ok (.enter f vs.toArray) w := by intro _; kernel_rfl)
    (hn : o.dst = some d := by rfl) (hb : Nat.blt d n.n = true := by rfl) : OW rd P Q n Qf o T (bindM callee k) K := OW.call f vs.toArray hd he hc hn hb h
theorem ola {k : β → M α} {enc : β → List Value} {ad : Addr} {t : TypeId} {x : Operand} (d N : Nat) (h : ∀ y, KT n Qf ((d, .agg (enc y).toArray) :: T) (k y) K) (ho : o.op = .load t x := by rfl) (hx : ev T x = some (.pointer (some ad)) := by rfl) (ha : aggT P t = true := by kernel_rfl)
    (hs : (P.info? t).map (·.size) = some N := by kernel_rfl) (hl : ∀ y, (enc y).length = N := by exact fun _ => rfl) (hn : o.dst = some d := by rfl) (hb : Nat.blt d n.n = true := by rfl) : OW rd P Q n Qf o T (bindM (Mo.ldA enc ad) k) K := OW.ldA N t x ho hx ha hs hl hn hb h
theorem osa {k : Unit → M α} {ad : Addr} {vs : List Value} {N : Nat} {t : TypeId} {x y : Operand} (h : KT n Qf T (k ()) K) (ho : o.op = .store t x y := by rfl) (hx : ev T x = some (.pointer (some ad)) := by rfl) (hy : ev T y = some (.agg vs.toArray) := by rfl)
    (hl : vs.length = N := by rfl) (hn : o.dst = none := by rfl) (ht : (P.info? t).map (·.size) = some N := by kernel_rfl) : OW rd P Q n Qf o T (bindM (Mo.stA ad vs) k) K := OW.stA t x y ho hx hy hl hn ht h
theorem oli {k : β → M α} {enc : β → Value} {ad : Addr} {t : TypeId} {x : Operand} (d : Nat) (h : ∀ y, KT n Qf ((d, enc y) :: T) (k y) K) (ho : o.op = .load t x := by rfl) (hx : ev T x = some (.pointer (some ad)) := by rfl) (ht : plainT P t = true := by kernel_rfl)
    (hn : o.dst = some d := by rfl) (hb : Nat.blt d n.n = true := by rfl) : OY P n S Qf o T (bindM (Mo.ldI S enc ad) k) K := OY.ldI t x ho hx ht hn hb h
theorem olai {k : β → M α} {enc : β → List Value} {ad : Addr} {t : TypeId} {x : Operand} (d N : Nat) (h : ∀ y, KT n Qf ((d, .agg (enc y).toArray) :: T) (k y) K) (ho : o.op = .load t x := by rfl) (hx : ev T x = some (.pointer (some ad)) := by rfl) (ha : aggT P t = true := by kernel_rfl)
    (hs : (P.info? t).map (·.size) = some N := by kernel_rfl) (hl : ∀ y, (enc y).length = N := by exact fun _ => rfl) (hn : o.dst = some d := by rfl) (hb : Nat.blt d n.n = true := by rfl) : OY P n S Qf o T (bindM (Mo.ldAI S enc ad) k) K := OY.ldAI N t x ho hx ha hs hl hn hb h
theorem oix {k : Addr → M α} {s : Slc} {i : Int} {ki : IntKind} {size : Nat} {t : TypeId} {x ix : Operand} (d elem : Nat) (h : ∀ ad, KT n Qf ((d, .pointer (some ad)) :: T) (k ad) K) (ho : o.op = .indexAddr t x ix := by rfl)
    (hx : ev T x = some (.slice s.base s.len s.cap) := by rfl) (hi : ev T ix = some (.int ki i) := by rfl) (ht : P.underlying t = some (.slice elem) := by kernel_rfl) (hs : (P.info? elem).map (·.size) = some size := by kernel_rfl)
    (hn : o.dst = some d := by rfl) (hb : Nat.blt d n.n = true := by rfl) : OY P n S Qf o T (bindM (idxM s i size) k) K := OY.idx t x ix ho hx hi ht hs hn hb h
theorem onil {k : Addr → M α} {p : Option Addr} {x : Operand} (d : Nat) (h : ∀ ad, KT n Qf ((d, .pointer (some ad)) :: T) (k ad) K) (ho : o.op = .nilCheck x := by rfl) (hx : ev T x = some (.pointer p) := by rfl) (hn : o.dst = some d := by rfl) (hb : Nat.blt d n.n = true := by rfl) :
    OY P n S Qf o T (bindM (nilM p) k) K := OY.nil x ho hx hn hb h
theorem oapp {k : Slc → M α} {s x : Slc} {z : List Value} {t : TypeId} {xs xx : Operand} {bytes : Nat} (d elem : Nat) (h : ∀ s, KT n Qf ((d, vS s) :: T) (k s) K) (ho : o.op = .call ⟨.builtin .append, #[xs, xx], #[t, t]⟩ := by rfl) (hs : ev T xs = some (.slice s.base s.len s.cap) := by rfl) (hx : ev T xx = some (.slice x.base x.len x.cap) := by rfl)
    (ht : P.underlying t = some (.slice elem) := by kernel_rfl) (hz : (P.info? elem).map (fun i => (i.zero.map (·.cells.toList), i.size, i.bytes)) = some (some z, z.length, bytes) := by kernel_rfl) (hb0 : Nat.blt 0 bytes = true := by rfl)
    (hn : o.dst = some d := by rfl) (hb : Nat.blt d n.n = true := by rfl) : OW rd P Q n Qf o T (bindM (appendM z bytes s x) k) K := OW.append z bytes elem t t xs xx ho hs hx rfl ht hz hb0 hn hb h
theorem zo {os : List Oper} (h : OW rd P Q n Qf o T m (WL rd P ops Q os)) (hw : wantedB ops T o = some true := by kernel_rfl) : KT n Qf T m (WL rd P ops Q (o :: os)) := KT.ow hw h
theorem zy {os : List Oper} (h : OY P n (fun _ => True) Qf o T m (WL rd P ops Q os)) (hw : wantedB ops T o = some true := by kernel_rfl) : KT n Qf T m (WL rd P ops Q (o :: os)) := KT.oy hw h
theorem zpA (i d : Nat) (v : Value) (h : KT n Qf ((d, v) :: T) m (AH rd P ops Q S F fuel (listed.setIfInBounds i true))) [hQ : PanicOK Q] (hi : ops[i]? = some o := by rfl) (hc : takeOKp ops F listed i = true := by kernel_rfl)
    (hw : wantedB ops T o = some true := by kernel_rfl) (hd : defined T o = true := by kernel_rfl)
    (hv : ∀ w, (execOp (rho T) o).run P w = .ok (.value v) w := by intro _; kernel_rfl) (hn : o.dst = some d := by rfl) (hb : Nat.blt d n.n = true := by rfl) : KT n Qf T m (AH rd P ops Q S F (fuel + 1) listed) :=
  KT.takeP i hi hc hQ hw (OY.pv v hd hv hn hb h)
theorem zkA (i : Nat) (hi : ops[i]? = some o) (h : KT n Qf (dstT T undef o.dst) m (AH rd P ops Q S F fuel (listed.setIfInBounds i true))) [hQ : PanicOK Q] (hc : takeOKp ops F listed i = true := by kernel_rfl)
    (hw : wantedB ops T o = some false := by kernel_rfl) (hd : dstOK n o.dst = true := by rfl) : KT n Qf T m (AH rd P ops Q S F (fuel + 1) listed) := KT.takeSkip i hi hc hQ hw hd h
theorem zA (i : Nat) (hi : ops[i]? = some o) (h : OY P n S Qf o T m (AH rd P ops Q S F fuel (listed.setIfInBounds i true))) [hQ : PanicOK Q] (hc : takeOK ops F listed i = true := by kernel_rfl)
    (hw : wantedB ops T o = some true := by kernel_rfl) : KT n Qf T m (AH rd P ops Q S F (fuel + 1) listed) := KT.take i hi hc hQ hw h
theorem zB (i : Nat) (hi : ops[i]? = some o) (h : OY P n (fun _ => True) Qf o T m (AH rd P ops Q S F fuel (listed.setIfInBounds i true))) [hQ : PanicOK Q] (hc : takeOKp ops F listed i = true := by kernel_rfl)
    (hw : wantedB ops T o = some true := by kernel_rfl) : KT n Qf T m (AH rd P ops Q S F (fuel + 1) listed) := KT.takeP i hi hc hQ hw h
theorem zl {rest : List Oper} {k : β → M α} {b : β} {T0 : β → Tm} (h : ∀ b, KT n Qf (T0 b) (k b) (WL rd P ops Q rest)) (hs : Sub T (T0 b) := by repeat (first | exact .nil | refine .cons rfl ?_)) :
    KT n (fun b w => k b Qf w) T (pureM b) (WL rd P ops (Exit.then (WL rd P ops Q rest) Q) []) := KT.leafO h hs
theorem zX {I : σ → World → Prop} {lt : Nat} {μ : σ → World → Nat} {N0 : σ → Nd} {T0 : σ → Tm} {s : σ} (hs : Sub T (T0 s) := by repeat (first | exact .nil | refine .cons rfl ?_)) (hn : N0 s = n := by rfl) :
    SX n .normal (loopQ N0 T0 I lt μ Q) (loopPost I lt μ Qf) T (pureM (.inl s)) := SX.loop_next hs hn
theorem zL {c : Code} {body : σ → M (σ ⊕ α)} {s : σ} (T0 : σ → Tm) (h : ∀ (I : σ → World → Prop) (lt : Nat) (μ : σ → World → Nat) (s : σ), SC rd P n (loopQ (fun _ => n) T0 I lt μ Q) (loopPost I lt μ Qf) c (T0 s) (body s))
    (hs : Sub T (T0 s) := by repeat (first | exact .nil | refine .cons rfl ?_)) : SC rd P n Q Qf (.loop c) T (loopM body s) := SC.loop T0 hs h
theorem zS {T' : Tm} {e : Exit} (h : SX n e Q Qf T' m) (hs : Sub T T' := by repeat (first | exact .nil | refine .cons rfl ?_)) : SX n e Q Qf T m := SX.sub hs h
theorem zf {k : β → M α} {b : β} {T0 : β → Tm} {e : Exit} (h : ∀ b, SX n e Q Qf (T0 b) (k b)) (hs : Sub T (T0 b) := by repeat (first | exact .nil | refine .cons rfl ?_)) : SX n e Q (joinPost k Qf) T (pureM (.inl b)) := SX.leafS h hs
theorem zt {K : Act → World → Prop} (h : SX n .ret Q Qf T m) : SC rd P n (Exit.then K Q) Qf .ret T m := SC.ret (SX.then_ret h)
theorem zj {os : List Oper} {m : M Bool} {k : Bool → M α} (j : Nat) (T0 : Bool → Tm)
    (h2 : ∀ b, KT n Qf (T0 b) (k b) (WL rd P ops Q (os.drop j)))
    (h : (∀ b, KT n Qf (T0 b) (k b) (WL rd P ops Q (os.drop j))) → KT n (fun b w => k b Qf w) T m (WL rd P ops (Exit.then (WL rd P ops Q (os.drop j)) Q) (os.take j))) :
    KT n Qf T (bindM m k) (WL rd P ops Q os) := KT.joinO j T0 h2 h
end
section
variable {n : Nd} {P : Program} {ρ : Type} {enc : ρ → Value} {Qf : ρ → World → Prop} {rs : List ResultVar} {acc : List Value} {T : Tm}
theorem ze {m : M ρ} {fn : Func} (rs : List ResultVar) (h : RS P n enc Qf rs [] T m) (hrs : fn.results = rs.toArray := by rfl) :
    SX n .ret (bodyQ P fn (RetPost enc Qf)) Qf T (takesM n.ds m) := SX.ret rs hrs h
theorem zm {m : M ρ} {t : Nat} {v : Value} (hv : lk T t = some v) (h : RS P n enc Qf rs (acc ++ [v]) T m) : RS P n enc Qf (.tmp t :: rs) acc T m := RS.tmp v hv h
theorem zz {x : ρ} (h : (if h : acc.length = 1 then acc[0] else .tuple acc.toArray) = enc x := by rfl) : RS P n enc Qf [] acc T (pureM x) := RS.nil h
end
end Go.Mo

namespace Go.Proofs.Ytldmeimebebllaa
open Go.Mo
set_option linter.unusedVariables false
set_option maxRecDepth 100000
theorem makeNoZero_run (nn : Int) (w : World) : (callFunc 146 #[.int .i64 nn]).run Tryz.prog w = ((Extern.BytealgMakeNoZero.makeNoZero #[3] #[42] #[.int .i64 nn]).run Tryz.prog w).andThen fun v w' => .ok (.value v) w' := run_callFunc_extern Tryz.func146 (by kernel_rfl) (by kernel_rfl) (by kernel_rfl) (e := Extern.BytealgMakeNoZero.makeNoZero #[3] #[42]) (by kernel_rfl) #[.int .i64 nn] w
theorem law08_Small_sim  : Sm Tryz.prog 9 [] (fun y : (Int × Int × Int) => (.agg #[(vi y.1), (vi y.2.1), (vi y.2.2)])) (law08_Small ) := by
  refine sm_of 2 Tryz.func9 rfl rfl rfl fun _ => ?_
  unfold law08_Small
  exact zG <| KT.nw 0 (fun ad => .pointer (some ad)) 33 fun x0 => zN <| zp 1 (.agg #[(vi 3), (vi 3), (vi 12)]) <| zo <| osa <| zn <| SC.ret <| ze [.cell 0 33] <| RS.cellA 3 (by kernel_rfl) rfl rfl (fun _ => rfl) fun r0 => zz
theorem geo_within_sim (p0_n : Int) (p1_from : Int) (p2_to : Int) : Sm Tryz.prog 63 [(vi p0_n), (vi p1_from), (vi p2_to)] Value.bool (geo_within p0_n p1_from p2_to) := by
  refine sm_of 15 Tryz.func63 rfl rfl rfl fun _ => ?_
  unfold geo_within
  refine zG <| zp 6 (vb false) <| zN <| zp 7 (vi p1_from) <| zp 8 (vi p0_n) <| zp 9 (vb (decide (p1_from ≤ p0_n))) <| zp 10 (vb (decide (p1_from ≤ p0_n))) <| zj 4 (fun q1 => [(14, (vb q1))]) (fun q1 => ?_) (fun j1 => ?_)
  exact zp 6 (vb q1) <| zn <| SC.ret <| ze [.tmp 6] <| zm rfl zz
  refine KT.ite 10 rfl ?_ ?_
  exact zp 11 (vi p0_n) <| zp 12 (vi p2_to) <| zp 13 (vb (decide (p0_n ≤ p2_to))) <| zp 14 (vb (decide (p0_n ≤ p2_to))) <| zl j1
  exact zk <| zk <| zk <| zp 14 (vb false) <| zl j1
theorem geo_others_sim (p0_g : (Int × Int × Int)) : Sm Tryz.prog 64 [(.agg #[(vi p0_g.1), (vi p0_g.2.1), (vi p0_g.2.2)])] (Value.int .i64) (geo_others p0_g) := by
  refine sm_of 7 Tryz.func64 rfl rfl rfl fun _ => ?_
  unfold geo_others
  exact zG <| KT.nw 1 (fun ad => .pointer (some ad)) 33 fun x1 => zp 2 (vi 0) <| zN <| zp 3 (va x1 2) <| KT.l 4 fun x4 => zp 5 (vi (w64 (Int.tdiv x4 8))) <| zp 6 (vi (w64 (1 + (w64 (Int.tdiv x4 8))))) <| zp 2 (vi (w64 (1 + (w64 (Int.tdiv x4 8))))) <| zn <| SC.ret <| ze [.tmp 2] <| zm rfl zz
theorem geo_places_sim (p0_g : (Int × Int × Int)) : Sm Tryz.prog 65 [(.agg #[(vi p0_g.1), (vi p0_g.2.1), (vi p0_g.2.2)])] (Value.int .i64) (geo_places p0_g) := by
  refine sm_of 10 Tryz.func65 rfl rfl rfl fun _ => ?_
  unfold geo_places
  exact zG <| KT.nw 1 (fun ad => .pointer (some ad)) 33 fun x1 => zp 2 (vi 0) <| zN <| zp 3 (va x1 1) <| KT.l 4 fun x4 => zp 5 (vp x1) <| KT.l 6 fun x6 => zp 7 (vi (w64 (x6 - 1))) <| zp 8 (vi (w64 (x4 * (w64 (x6 - 1))))) <| zp 9 (vi (w64 ((w64 (x4 * (w64 (x6 - 1)))) - 1))) <| zp 2 (vi (w64 ((w64 (x4 * (w64 (x6 - 1)))) - 1))) <| zn <| SC.ret <| ze [.tmp 2] <| zm rfl zz
theorem geo_Right_sim (p0_g : (Int × Int × Int)) : Sm Tryz.prog 27 [(.agg #[(vi p0_g.1), (vi p0_g.2.1), (vi p0_g.2.2)])] Value.bool (geo_Right p0_g) := by
  refine sm_of 24 Tryz.func27 rfl rfl rfl fun _ => ?_
  unfold geo_Right
  refine zG <| KT.nw 1 (fun ad => .pointer (some ad)) 33 fun x1 => zp 2 (vb false) <| zn <| zq <| SC.draw 22 (fun _ => false) rfl (by kernel_rfl) fun S1 => zpA 0 3 (vp x1) <| zA 1 rfl <| oli 4 fun x4 => KT.one 2 rfl (by kernel_rfl) rfl <| OW.step <| ocall 5 (geo_within_sim _ _ _) fun x5 => KT.and <| zpA 3 6 (vb x5) <| KT.ite 6 rfl ?_ ?_
  refine zpA 4 7 (va x1 1) <| zA 5 rfl <| oli 8 fun x8 => KT.one 6 rfl (by kernel_rfl) rfl <| OW.step <| ocall 9 (geo_within_sim _ _ _) fun x9 => KT.and <| zpA 7 10 (vb x9) <| zpA 8 11 (vb x9) <| KT.ite 11 rfl ?_ ?_
  refine zpA 9 12 (va x1 2) <| zA 10 rfl <| oli 13 fun x13 => KT.one 11 rfl (by kernel_rfl) rfl <| OW.step <| ocall 14 (geo_within_sim _ _ _) fun x14 => KT.and <| zpA 12 15 (vb x14) <| zpA 13 16 (vb x14) <| KT.ite 16 rfl ?_ ?_
  exact zA 14 rfl <| olai 17 3 fun x17 => zA 16 rfl <| olai 19 3 fun x19 => KT.one 15 rfl (by kernel_rfl) rfl <| OW.step <| ocall 18 (geo_others_sim _) fun x18 => KT.and <| KT.one 17 rfl (by kernel_rfl) rfl <| OW.step <| ocall 20 (geo_places_sim _) fun x20 => KT.and <| zpA 18 21 (vi (w64 (x18 * x20))) <| zpA 19 22 (vb (decide ((w64 (x18 * x20)) ≥ 8))) <| zpA 20 23 (vb (decide ((w64 (x18 * x20)) ≥ 8))) <| zpA 21 2 (vb (decide ((w64 (x18 * x20)) ≥ 8))) <| KT.doneA (by kernel_rfl) <| SX.seq <| SC.ret <| ze [.tmp 2] <| zm rfl zz
  exact zkA 14 rfl <| zkA 15 rfl <| zkA 16 rfl <| zkA 17 rfl <| zkA 18 rfl <| zkA 19 rfl <| zpA 20 23 (vb false) <| zpA 21 2 (vb false) <| KT.doneA (by kernel_rfl) <| SX.seq <| SC.ret <| ze [.tmp 2] <| zm rfl zz
  exact zkA 9 rfl <| zkA 10 rfl <| zkA 11 rfl <| zpA 12 15 (vb false) <| zpA 13 16 (vb false) <| zkA 14 rfl <| zkA 15 rfl <| zkA 16 rfl <| zkA 17 rfl <| zkA 18 rfl <| zkA 19 rfl <| zpA 20 23 (vb false) <| zpA 21 2 (vb false) <| KT.doneA (by kernel_rfl) <| SX.seq <| SC.ret <| ze [.tmp 2] <| zm rfl zz
  exact zkA 4 rfl <| zkA 5 rfl <| zkA 6 rfl <| zpA 7 10 (vb false) <| zpA 8 11 (vb false) <| zkA 9 rfl <| zkA 10 rfl <| zkA 11 rfl <| zpA 12 15 (vb false) <| zpA 13 16 (vb false) <| zkA 14 rfl <| zkA 15 rfl <| zkA 16 rfl <| zkA 17 rfl <| zkA 18 rfl <| zkA 19 rfl <| zpA 20 23 (vb false) <| zpA 21 2 (vb false) <| KT.doneA (by kernel_rfl) <| SX.seq <| SC.ret <| ze [.tmp 2] <| zm rfl zz
theorem geo_Places_sim (p0_g : (Int × Int × Int)) : Sm Tryz.prog 87 [(.agg #[(vi p0_g.1), (vi p0_g.2.1), (vi p0_g.2.2)])] (Value.int .i64) (geo_Places p0_g) := by
  refine sm_of 8 Tryz.func87 rfl rfl rfl fun _ => ?_
  unfold geo_Places
  refine zG <| KT.nw 1 (fun ad => .pointer (some ad)) 33 fun x1 => zp 2 (vi 0) <| zn <| zq <| zG <| zo <| ola 3 3 fun x3 => zc 4 (geo_Right_sim _) fun x4 => zp 5 (vb (!x4)) <| zn <| SC.cond rfl ?_ ?_
  exact zG <| zp 2 (vi 0) <| zn <| zt <| ze [.tmp 2] <| zm rfl zz
  exact zw <| zG <| zo <| ola 6 3 fun x6 => zc 7 (geo_places_sim _) fun x7 => zp 2 (vi x7) <| zn <| SC.ret <| ze [.tmp 2] <| zm rfl zz
theorem geo_Where_sim (p0_g : (Int × Int × Int)) (p1_address : Int) : Sm Tryz.prog 88 [(.agg #[(vi p0_g.1), (vi p0_g.2.1), (vi p0_g.2.2)]), (vi p1_address)] (fun y : (Int × Int × Bool) => (.tuple #[(vi y.1), (vi y.2.1), (vb y.2.2)])) (geo_Where p0_g p1_address) := by
  refine sm_of 31 Tryz.func88 rfl rfl rfl fun _ => ?_
  unfold geo_Where
  refine zG <| KT.nw 2 (fun ad => .pointer (some ad)) 33 fun x2 => zp 4 (vi 0) <| zp 5 (vi 0) <| zp 6 (vb false) <| zn <| zq <| zq <| SC.join (β := (Bool)) (fun b1 => [(1, (vi p1_address)), (2, (vp x2)), (19, (vb b1))]) (fun b1 => ?_) (fun j1 => ?_)
  refine SX.seq <| SC.cond rfl ?_ ?_
  exact zG <| zp 4 (vi 0) <| zp 5 (vi 0) <| zp 6 (vb false) <| zn <| zt <| ze [.tmp 4, .tmp 5, .tmp 6] <| zm rfl <| zm rfl <| zm rfl zz
  refine zw <| zq <| SC.draw 14 (fun _ => false) rfl (by kernel_rfl) fun S2 => zpA 0 20 (vi p1_address) <| zpA 1 21 (vi (w64 (p1_address - 1))) <| zA 2 rfl <| olai 22 3 fun x22 => zpA 5 25 (vi p1_address) <| zpA 6 26 (vi (w64 (p1_address - 1))) <| zA 7 rfl <| olai 27 3 fun x27 => KT.one 3 rfl (by kernel_rfl) rfl <| OW.step <| ocall 23 (geo_places_sim _) fun x23 => KT.and <| KT.tp 4 (OY.quo (d := 24) (x := w64 (p1_address - 1)) (y := x23) _ _ _ _ (w64 (Int.tdiv (w64 (p1_address - 1)) x23)) rfl rfl rfl rfl rfl rfl ?_)
  refine KT.one 8 rfl (by kernel_rfl) rfl <| OW.step <| ocall 28 (geo_places_sim _) fun x28 => KT.and <| KT.tp 9 (OY.rem (d := 29) (x := w64 (p1_address - 1)) (y := x28) _ _ _ _ (Int.tmod (w64 (p1_address - 1)) x28) rfl rfl rfl rfl rfl rfl ?_)
  exact zpA 10 30 (vi (w64 ((Int.tmod (w64 (p1_address - 1)) x28) + 1))) <| zpA 11 4 (vi (w64 (Int.tdiv (w64 (p1_address - 1)) x23))) <| zpA 12 5 (vi (w64 ((Int.tmod (w64 (p1_address - 1)) x28) + 1))) <| zpA 13 6 (vb true) <| KT.doneA (by kernel_rfl) <| SX.seq <| SC.ret <| ze [.tmp 4, .tmp 5, .tmp 6] <| zm rfl <| zm rfl <| zm rfl zz
  refine SC.draw 13 (fun _ => false) rfl (by kernel_rfl) fun S3 => zA 0 rfl <| olai 7 3 fun x7 => KT.one 1 rfl (by kernel_rfl) rfl <| OW.step <| ocall 8 (geo_Right_sim _) fun x8 => KT.and <| zpA 2 9 (vb (!x8)) <| zpA 3 10 (vb (!x8)) <| KT.ite 10 rfl ?_ ?_
  exact zkA 4 rfl <| zkA 5 rfl <| zkA 6 rfl <| zkA 7 rfl <| zkA 8 rfl <| zkA 9 rfl <| zkA 10 rfl <| zkA 11 rfl <| zpA 12 19 (vb true) <| KT.doneA (by kernel_rfl) <| zf j1
  exact zpA 4 11 (vi p1_address) <| zpA 5 12 (va x2 2) <| zA 6 rfl <| oli 13 fun x13 => zA 7 rfl <| olai 14 3 fun x14 => KT.one 8 rfl (by kernel_rfl) rfl <| OW.step <| ocall 15 (geo_places_sim _) fun x15 => KT.and <| zpA 9 16 (vi (w64 (x13 * x15))) <| KT.one 10 rfl (by kernel_rfl) rfl <| OW.step <| ocall 17 (geo_within_sim _ _ _) fun x17 => KT.and <| zpA 11 18 (vb (!x17)) <| zpA 12 19 (vb (!x17)) <| KT.doneA (by kernel_rfl) <| zf j1
theorem scan_right_sim (p0_g : (Int × Int × Int)) (p1_s : (Int × Int × Int × Int)) : Sm Tryz.prog 46 [(.agg #[(vi p0_g.1), (vi p0_g.2.1), (vi p0_g.2.2)]), (.agg #[(vi p1_s.1), (vi p1_s.2.1), (vi p1_s.2.2.1), (vi p1_s.2.2.2)])] Value.bool (scan_right p0_g p1_s) := by
  refine sm_of 66 Tryz.func46 rfl rfl rfl fun _ => ?_
  unfold scan_right
  refine zG <| KT.nw 2 (fun ad => .pointer (some ad)) 33 fun x2 => KT.nw 3 (fun ad => .pointer (some ad)) 57 fun x3 => zp 4 (vb false) <| zN <| zo <| ola 9 3 fun x9 => zc 10 (geo_Places_sim _) fun x10 => zp 5 (vi x10) <| zn <| zq <| zG <| zp 11 (vi x10) <| zp 12 (vb (x10 == 0)) <| zp 13 (vb (x10 == 0)) <| zj 4 (fun q1 => [(17, (vb q1)), (2, (vp x2)), (3, (vp x3)), (5, (vi x10))]) (fun q1 => ?_) (fun j1 => ?_)
  refine zp 18 (vb q1) <| zj 6 (fun q2 => [(24, (vb q2)), (2, (vp x2)), (3, (vp x3)), (5, (vi x10))]) (fun q2 => ?_) (fun j2 => ?_)
  refine zp 25 (vb q2) <| zj 4 (fun q3 => [(29, (vb q3)), (2, (vp x2)), (3, (vp x3)), (5, (vi x10))]) (fun q3 => ?_) (fun j3 => ?_)
  refine zp 30 (vb q3) <| zj 6 (fun q4 => [(36, (vb q4)), (2, (vp x2)), (3, (vp x3)), (5, (vi x10))]) (fun q4 => ?_) (fun j4 => ?_)
  refine zp 37 (vb q4) <| zj 4 (fun q5 => [(41, (vb q5)), (2, (vp x2)), (3, (vp x3)), (5, (vi x10))]) (fun q5 => ?_) (fun j5 => ?_)
  refine zp 42 (vb q5) <| zj 5 (fun q6 => [(47, (vb q6)), (2, (vp x2)), (3, (vp x3))]) (fun q6 => ?_) (fun j6 => ?_)
  refine zn <| SC.cond rfl ?_ ?_
  exact zG <| zp 4 (vb false) <| zn <| zt <| ze [.tmp 4] <| zm rfl zz
  refine zw <| zq <| zG <| zp 48 (va x3 1) <| KT.l 49 fun x49 => zp 50 (vp x3) <| KT.l 51 fun x51 => zp 52 (vi (w64 (x51 - 1))) <| zp 53 (vb (x49 == (w64 (x51 - 1)))) <| zn <| SC.cond rfl ?_ ?_
  exact zG <| zo <| ola 55 3 fun x55 => zp 56 (va x3 3) <| KT.l 57 fun x57 => zc 58 (geo_Where_sim _ _) fun x58 => zp 54 (.tuple #[(vi x58.1), (vi x58.2.1), (vb x58.2.2)]) <| zp 59 (vi x58.1) <| zp 60 (vi x58.2.1) <| zp 61 (vb x58.2.2) <| zp 6 (vi x58.1) <| zp 7 (vi x58.2.1) <| zp 8 (vb x58.2.2) <| zN <| zp 62 (vb x58.2.2) <| zp 4 (vb x58.2.2) <| zn <| zt <| ze [.tmp 4] <| zm rfl zz
  exact zw <| zG <| zp 63 (va x3 3) <| KT.l 64 fun x64 => zp 65 (vb (x64 == 0)) <| zp 4 (vb (x64 == 0)) <| zn <| SC.ret <| ze [.tmp 4] <| zm rfl zz
  refine KT.ite 42 rfl ?_ ?_
  exact zk <| zk <| zk <| zk <| zp 47 (vb true) <| zl j6
  exact zp 43 (va x3 2) <| KT.l 44 fun x44 => zp 45 (vi x10) <| zp 46 (vb (decide (x44 > x10))) <| zp 47 (vb (decide (x44 > x10))) <| zl j6
  refine KT.ite 37 rfl ?_ ?_
  exact zk <| zk <| zk <| zp 41 (vb true) <| zl j5
  exact zp 38 (va x3 2) <| KT.l 39 fun x39 => zp 40 (vb (decide (x39 < 0))) <| zp 41 (vb (decide (x39 < 0))) <| zl j5
  refine KT.ite 30 rfl ?_ ?_
  exact zk <| zk <| zk <| zk <| zk <| zp 36 (vb true) <| zl j4
  exact zp 31 (va x3 1) <| KT.l 32 fun x32 => zp 33 (vp x3) <| KT.l 34 fun x34 => zp 35 (vb (decide (x32 ≥ x34))) <| zp 36 (vb (decide (x32 ≥ x34))) <| zl j4
  refine KT.ite 25 rfl ?_ ?_
  exact zk <| zk <| zk <| zp 29 (vb true) <| zl j3
  exact zp 26 (va x3 1) <| KT.l 27 fun x27 => zp 28 (vb (decide (x27 < 0))) <| zp 29 (vb (decide (x27 < 0))) <| zl j3
  refine KT.ite 18 rfl ?_ ?_
  exact zk <| zk <| zk <| zk <| zk <| zp 24 (vb true) <| zl j2
  exact zp 19 (vp x3) <| KT.l 20 fun x20 => zp 21 (va x2 2) <| KT.l 22 fun x22 => zp 23 (vb (decide (x20 > x22))) <| zp 24 (vb (decide (x20 > x22))) <| zl j2
  refine KT.ite 13 rfl ?_ ?_
  exact zk <| zk <| zk <| zp 17 (vb true) <| zl j1
  exact zp 14 (vp x3) <| KT.l 15 fun x15 => zp 16 (vb (decide (x15 < 1))) <| zp 17 (vb (decide (x15 < 1))) <| zl j1
theorem bits_Put_sim (p0_width : Int) (p1_n : Int) : Sm Tryz.prog 47 [(vi p0_width), (vi p1_n)] vS (bits_Put p0_width p1_n) := by
  refine sm_of 41 Tryz.func47 rfl rfl rfl fun _ => ?_
  unfold bits_Put
  refine zG <| zp 4 (.slice none 0 0) <| zn <| zq <| zG <| zp 7 (vi p0_width) <| zp 8 (vb (decide (p0_width < 1))) <| zp 9 (vb (decide (p0_width < 1))) <| zj 3 (fun q1 => [(12, (vb q1)), (0, (vi p0_width)), (1, (vi p1_n))]) (fun q1 => ?_) (fun j1 => ?_)
  refine zp 13 (vb q1) <| zj 3 (fun q2 => [(16, (vb q2)), (0, (vi p0_width)), (1, (vi p1_n))]) (fun q2 => ?_) (fun j2 => ?_)
  refine zp 17 (vb q2) <| zj 6 (fun q3 => [(23, (vb q3)), (0, (vi p0_width)), (1, (vi p1_n))]) (fun q3 => ?_) (fun j3 => ?_)
  refine zn <| SC.cond rfl ?_ ?_
  exact zG <| zp 4 (.slice none 0 0) <| zn <| zt <| ze [.tmp 4] <| zm rfl zz
  refine zw <| zG <| zp 24 (vi p0_width) <| KT.ow rfl (OW.make (d := 25) (nn := p0_width) [(.int .u8 0)] 1 5 _ _ _ rfl rfl rfl (by kernel_rfl) (by kernel_rfl) rfl rfl rfl (fun x25 => ?_))
  refine zp 5 (vS x25) <| zn <| zq <| zG <| zp 26 (vS x25) <| zp 27 (vi (vl x25)) <| zp 28 (vi 0) <| zn <| SC.block <| zL (σ := (Int)) (fun s4 => [(1, (vi p1_n)), (5, (vS x25)), (27, (vi (vl x25))), (28, (vi s4))]) fun _ _ _ s4 => zG <| zp 29 (vb (decide (s4 < (vl x25)))) <| zn <| zq <| SC.cond rfl ?_ ?_
  refine zw <| zq <| SC.block <| zG <| zp 30 (vi s4) <| zp 6 (vi s4) <| zn <| zg <| zp 31 (vS x25) <| zp 32 (vi s4) <| zp 33 (vi p1_n) <| zp 34 (vi s4) <| zp 35 (vi (w64 (8 * s4))) <| KT.oy rfl (OY.shr (d := 36) (x := p1_n) (y := w64 (8 * s4)) _ _ _ _ (bShr .i64 p1_n (w64 (8 * s4))) rfl rfl rfl rfl rfl rfl ?_)
  exact zp 37 (.int .u8 (IntKind.wrap .u8 (bShr .i64 p1_n (w64 (8 * s4))))) <| zy <| oix 38 5 fun x38 => KT.s <| KT.nil <| SX.block <| SX.seq <| zg <| zp 39 (vi (w64 (s4 + 1))) <| zp 28 (vi (w64 (s4 + 1))) <| KT.nil zX
  exact SC.exit <| SX.then_exit <| SX.loop_exit <| SX.block_hit <| SX.seq <| zG <| zp 40 (vS x25) <| zp 4 (vS x25) <| zn <| SC.ret <| ze [.tmp 4] <| zm rfl zz
  refine KT.ite 17 rfl ?_ ?_
  exact zk <| zk <| zk <| zk <| zk <| zp 23 (vb true) <| zl j3
  refine zp 18 (vi p1_n) <| zp 19 (vi p0_width) <| zp 20 (vi (w64 (8 * p0_width))) <| KT.oy rfl (OY.shr (d := 21) (x := p1_n) (y := w64 (8 * p0_width)) _ _ _ _ (bShr .i64 p1_n (w64 (8 * p0_width))) rfl rfl rfl rfl rfl rfl ?_)
  exact zp 22 (vb (decide ((bShr .i64 p1_n (w64 (8 * p0_width))) > 0))) <| zp 23 (vb (decide ((bShr .i64 p1_n (w64 (8 * p0_width))) > 0))) <| zl j3
  refine KT.ite 13 rfl ?_ ?_
  exact zk <| zk <| zp 16 (vb true) <| zl j2
  exact zp 14 (vi p1_n) <| zp 15 (vb (decide (p1_n < 0))) <| zp 16 (vb (decide (p1_n < 0))) <| zl j2
  refine KT.ite 9 rfl ?_ ?_
  exact zk <| zk <| zp 12 (vb true) <| zl j1
  exact zp 10 (vi p0_width) <| zp 11 (vb (decide (p0_width > 4))) <| zp 12 (vb (decide (p0_width > 4))) <| zl j1
theorem bits_Pad_sim (p0_b : Slc) (p1_n : Int) : Sm Tryz.prog 48 [(vS p0_b), (vi p1_n)] (fun y : (Slc × Bool) => (.tuple #[(vS y.1), (vb y.2)])) (bits_Pad p0_b p1_n) := by
  refine sm_of 21 Tryz.func48 rfl rfl rfl fun _ => ?_
  unfold bits_Pad
  refine zG <| zp 4 (.slice none 0 0) <| zp 5 (vb false) <| zn <| zq <| zG <| zp 7 (vi p1_n) <| zp 8 (vb (decide (p1_n > 65536))) <| zp 9 (vb (decide (p1_n > 65536))) <| zj 5 (fun q1 => [(14, (vb q1)), (0, (vS p0_b)), (1, (vi p1_n))]) (fun q1 => ?_) (fun j1 => ?_)
  refine zn <| SC.cond rfl ?_ ?_
  exact zG <| zp 4 (.slice none 0 0) <| zp 5 (vb false) <| zn <| zt <| ze [.tmp 4, .tmp 5] <| zm rfl <| zm rfl zz
  refine zw <| zG <| zp 15 (vi p1_n) <| KT.ow rfl (OW.make (d := 16) (nn := p1_n) [(.int .u8 0)] 1 5 _ _ _ rfl rfl rfl (by kernel_rfl) (by kernel_rfl) rfl rfl rfl (fun x16 => ?_))
  refine zp 6 (vS x16) <| zN <| zp 17 (vS x16) <| zp 18 (vS p0_b) <| KT.ow rfl (OW.copy (d := 19) (s := x16) (x := p0_b) 1 5 _ _ _ _ rfl rfl rfl rfl (by kernel_rfl) (by kernel_rfl) rfl rfl (fun x19 => ?_))
  exact zN <| zp 20 (vS x16) <| zp 4 (vS x16) <| zp 5 (vb true) <| zn <| SC.ret <| ze [.tmp 4, .tmp 5] <| zm rfl <| zm rfl zz
  refine KT.ite 9 rfl ?_ ?_
  exact zk <| zk <| zk <| zk <| zp 14 (vb true) <| zl j1
  exact zp 10 (vS p0_b) <| zp 11 (vi (vl p0_b)) <| zp 12 (vi p1_n) <| zp 13 (vb (decide ((vl p0_b) > p1_n))) <| zp 14 (vb (decide ((vl p0_b) > p1_n))) <| zl j1
theorem scan_PutSummary_sim (p0_g : (Int × Int × Int)) (p1_s : (Int × Int × Int × Int)) : Sm Tryz.prog 21 [(.agg #[(vi p0_g.1), (vi p0_g.2.1), (vi p0_g.2.2)]), (.agg #[(vi p1_s.1), (vi p1_s.2.1), (vi p1_s.2.2.1), (vi p1_s.2.2.2)])] (fun y : ((Int × Int × Slc) × Bool) => (.tuple #[(.agg #[(vi y.1.1), (vi y.1.2.1), (vS y.1.2.2)]), (vb y.2)])) (scan_PutSummary p0_g p1_s) := by
  refine sm_of 38 Tryz.func21 rfl rfl rfl fun _ => ?_
  unfold scan_PutSummary
  refine zG <| KT.nw 2 (fun ad => .pointer (some ad)) 33 fun x2 => KT.nw 3 (fun ad => .pointer (some ad)) 57 fun x3 => KT.nw 4 (fun ad => .pointer (some ad)) 65 fun x4 => zp 5 (vb false) <| zn <| zq <| zG <| zo <| ola 9 3 fun x9 => zo <| ola 10 4 fun x10 => zc 11 (scan_right_sim _ _) fun x11 => zp 12 (vb (!x11)) <| zn <| SC.cond rfl ?_ ?_
  exact zG <| zp 13 (.agg #[(vi 0), (vi 0), (.slice none 0 0)]) <| zo <| osa <| zp 5 (vb false) <| zn <| zt <| ze [.cell 4 65, .tmp 5] <| RS.cellA 3 (by kernel_rfl) rfl rfl (fun _ => rfl) fun r4 => zm rfl zz
  refine zw <| zG <| zp 6 (.slice none 0 0) <| zn <| zq <| zG <| zp 14 (vp x3) <| KT.l 15 fun x15 => zp 16 (va x3 1) <| KT.l 17 fun x17 => zp 18 (va x3 2) <| KT.l 19 fun x19 => zp 20 (va x3 3) <| KT.l 21 fun x21 => zp 22 (.agg #[(vi 21331), (vi x15), (vi x17), (vi x19), (vi x21)]) <| zp 23 (vi 0) <| zn <| SC.block <| zL (σ := (Slc × Int)) (fun s1 => [(4, (vp x4)), (6, (vS s1.1)), (22, (.agg #[(vi 21331), (vi x15), (vi x17), (vi x19), (vi x21)])), (23, (vi s1.2))]) fun _ _ _ s1 => zG <| zp 24 (vb (decide (s1.2 < 5))) <| zn <| zq <| SC.cond rfl ?_ ?_
  refine zw <| zq <| SC.block <| zG <| KT.oy rfl (OY.arr (d := 25) (l := [21331, x15, x17, x19, x21]) (i := s1.2) (len := 5) (elem := 3) (kj := .i64) _ _ _ rfl rfl rfl (by kernel_rfl) (by kernel_rfl) (by kernel_rfl) rfl rfl rfl (fun x25 => ?_))
  exact zp 8 (vi x25) <| zn <| zg <| zp 26 (vS s1.1) <| zp 27 (vi x25) <| zc 28 (bits_Put_sim _ _) fun x28 => zo <| oapp 29 5 fun x29 => zp 6 (vS x29) <| KT.nil <| SX.block <| SX.seq <| zg <| zp 30 (vi (w64 (s1.2 + 1))) <| zp 23 (vi (w64 (s1.2 + 1))) <| KT.nil zX
  exact SC.exit <| SX.then_exit <| SX.loop_exit <| SX.block_hit <| SX.seq <| zG <| zp 32 (vS s1.1) <| zc 33 (bits_Pad_sim _ _) fun x33 => zp 31 (.tuple #[(vS x33.1), (vb x33.2)]) <| zp 34 (vS x33.1) <| zp 35 (vb x33.2) <| zp 6 (vS x33.1) <| zN <| zp 36 (vS x33.1) <| zp 37 (.agg #[(vi 65535), (vi 0), (vS x33.1)]) <| zo <| osa <| zp 5 (vb true) <| zn <| SC.ret <| ze [.cell 4 65, .tmp 5] <| RS.cellA 3 (by kernel_rfl) rfl rfl (fun _ => rfl) fun r4 => zm rfl zz
theorem cmp_isNaN_i_sim (p0_x : Int) : Sm Tryz.prog 100 [(vi p0_x)] Value.bool (cmp_isNaN_i p0_x) := by
  refine sm_of 6 Tryz.func100 rfl rfl rfl fun _ => ?_
  unfold cmp_isNaN_i
  exact zG <| zp 2 (vb false) <| zN <| zp 3 (vi p0_x) <| zp 4 (vi p0_x) <| zp 5 (vb (p0_x != p0_x)) <| zp 2 (vb (p0_x != p0_x)) <| zn <| SC.ret <| ze [.tmp 2] <| zm rfl zz
theorem cmp_Compare_i_sim (p0_x : Int) (p1_y : Int) : Sm Tryz.prog 56 [(vi p0_x), (vi p1_y)] (Value.int .i64) (cmp_Compare_i p0_x p1_y) := by
  refine sm_of 20 Tryz.func56 rfl rfl rfl fun _ => ?_
  unfold cmp_Compare_i
  refine zG <| zp 4 (vi 0) <| zN <| zp 7 (vi p0_x) <| zc 8 (cmp_isNaN_i_sim _) fun x8 => zp 5 (vb x8) <| zN <| zp 9 (vi p1_y) <| zc 10 (cmp_isNaN_i_sim _) fun x10 => zp 6 (vb x10) <| zn <| zq <| zG <| zp 11 (vb x8) <| zn <| SC.cond rfl ?_ ?_
  refine zq <| zG <| zp 12 (vb x10) <| zn <| SC.cond rfl ?_ ?_
  exact zG <| zp 4 (vi 0) <| zn <| zt <| SX.then_ret <| ze [.tmp 4] <| zm rfl zz
  exact zw <| zG <| zp 4 (vi (-1)) <| zn <| zt <| ze [.tmp 4] <| zm rfl zz
  refine zw <| zq <| zG <| zp 13 (vb x10) <| zn <| SC.cond rfl ?_ ?_
  exact zG <| zp 4 (vi 1) <| zn <| zt <| ze [.tmp 4] <| zm rfl zz
  refine zw <| zq <| zG <| zp 14 (vi p0_x) <| zp 15 (vi p1_y) <| zp 16 (vb (decide (p0_x < p1_y))) <| zn <| SC.cond rfl ?_ ?_
  exact zG <| zp 4 (vi (-1)) <| zn <| zt <| ze [.tmp 4] <| zm rfl zz
  refine zw <| zq <| zG <| zp 17 (vi p0_x) <| zp 18 (vi p1_y) <| zp 19 (vb (decide (p0_x > p1_y))) <| zn <| SC.cond rfl ?_ ?_
  exact zG <| zp 4 (vi 1) <| zn <| zt <| ze [.tmp 4] <| zm rfl zz
  exact zw <| zG <| zp 4 (vi 0) <| zn <| SC.ret <| ze [.tmp 4] <| zm rfl zz
theorem scan_Groups_c1_sim (p0_a : (Int × Int × Int × Int × Int × Int)) (p1_b : (Int × Int × Int × Int × Int × Int)) : Sm Tryz.prog 55 [(.agg #[(vi p0_a.1), (vi p0_a.2.1), (vi p0_a.2.2.1), (vi p0_a.2.2.2.1), (vi p0_a.2.2.2.2.1), (vi p0_a.2.2.2.2.2)]), (.agg #[(vi p1_b.1), (vi p1_b.2.1), (vi p1_b.2.2.1), (vi p1_b.2.2.2.1), (vi p1_b.2.2.2.2.1), (vi p1_b.2.2.2.2.2)])] (Value.int .i64) (scan_Groups_c1 p0_a p1_b) := by
  refine sm_of 12 Tryz.func55 rfl rfl rfl fun _ => ?_
  unfold scan_Groups_c1
  exact zG <| KT.nw 2 (fun ad => .pointer (some ad)) 59 fun x2 => KT.nw 3 (fun ad => .pointer (some ad)) 59 fun x3 => zp 4 (vi 0) <| zN <| zp 5 (va x2 2) <| zp 6 (.pointer (some (Addr.add (Addr.add x2 2) 1))) <| KT.l 7 fun x7 => zp 8 (va x3 2) <| zp 9 (.pointer (some (Addr.add (Addr.add x3 2) 1))) <| KT.l 10 fun x10 => zc 11 (cmp_Compare_i_sim _ _) fun x11 => zp 4 (vi x11) <| zn <| SC.ret <| ze [.tmp 4] <| zm rfl zz
theorem scan_whole_sim (p0_m : Slc) (p1_count : Int) : Sm Tryz.prog 57 [(vS p0_m), (vi p1_count)] Value.bool (scan_whole p0_m p1_count) := by
  refine sm_of 46 Tryz.func57 rfl rfl rfl fun _ => ?_
  unfold scan_whole
  refine zG <| zp 4 (vb false) <| zn <| zq <| zG <| zp 7 (vi p1_count) <| zp 8 (vb (decide (p1_count < 1))) <| zp 9 (vb (decide (p1_count < 1))) <| zj 5 (fun q1 => [(14, (vb q1)), (0, (vS p0_m)), (1, (vi p1_count))]) (fun q1 => ?_) (fun j1 => ?_)
  refine zp 15 (vb q1) <| zj 15 (fun q2 => [(30, (vb q2)), (0, (vS p0_m)), (1, (vi p1_count))]) (fun q2 => ?_) (fun j2 => ?_)
  refine zn <| SC.cond rfl ?_ ?_
  exact zG <| zp 4 (vb false) <| zn <| zt <| ze [.tmp 4] <| zm rfl zz
  refine zw <| zq <| zG <| zp 31 (vS p0_m) <| zp 32 (vi p1_count) <| KT.oy rfl (OY.slice01 (d := 33) (s := p0_m) (hi := p1_count) (size := 6) (elem := 59) _ _ _ rfl rfl rfl (by kernel_rfl) (by kernel_rfl) rfl rfl (fun x33 => ?_))
  refine zp 34 (vi (vl x33)) <| zp 35 (vi 0) <| zn <| SC.block <| zL (σ := (Int)) (fun s3 => [(33, (vS x33)), (34, (vi (vl x33))), (35, (vi s3))]) fun _ _ _ s3 => zG <| zp 36 (vb (decide (s3 < (vl x33)))) <| zn <| zq <| SC.cond rfl ?_ ?_
  refine zw <| zq <| SC.block <| zG <| zp 37 (vi s3) <| zy <| oix 38 59 fun x38 => zo <| ola 39 6 fun x39 => KT.nw 6 (fun ad => .pointer (some ad)) 59 fun x6 => zp 5 (vi s3) <| zo <| osa <| zN <| zp 40 (va x6 2) <| zp 41 (.pointer (some (Addr.add (Addr.add x6 2) 1))) <| KT.l 42 fun x42 => zp 43 (vi s3) <| zp 44 (vb (x42 != s3)) <| zn <| SC.cond rfl ?_ ?_
  exact zG <| zp 4 (vb false) <| zn <| SC.ret <| SX.block_ret <| SX.then_ret <| SX.loop_ret <| SX.block_ret <| SX.then_ret <| ze [.tmp 4] <| zm rfl zz
  exact SC.skip <| SX.block <| SX.seq <| zg <| zp 45 (vi (w64 (s3 + 1))) <| zp 35 (vi (w64 (s3 + 1))) <| KT.nil zX
  exact SC.exit <| SX.then_exit <| SX.loop_exit <| SX.block_hit <| SX.seq <| zG <| zp 4 (vb true) <| zn <| SC.ret <| ze [.tmp 4] <| zm rfl zz
  refine KT.ite 15 rfl ?_ ?_
  exact zk <| zk <| zk <| zk <| zk <| zk <| zk <| zk <| zk <| zk <| zk <| zk <| zk <| zk <| zp 30 (vb true) <| zl j2
  refine zp 16 (vS p0_m) <| zp 17 (vi (vl p0_m)) <| zp 18 (vi p1_count) <| zp 19 (vb (decide ((vl p0_m) > p1_count))) <| zp 20 (vb (decide ((vl p0_m) > p1_count))) <| zj 9 (fun q4 => [(29, (vb q4)), (0, (vS p0_m)), (1, (vi p1_count)), (15, (vb false))]) (fun q4 => ?_) (fun j4 => ?_)
  exact zp 30 (vb q4) <| zl j2
  refine KT.ite 20 rfl ?_ ?_
  exact zp 21 (vS p0_m) <| zp 22 (vi p1_count) <| zy <| oix 23 59 fun x23 => zp 24 (va x23 2) <| zp 25 (.pointer (some (Addr.add (Addr.add x23 2) 1))) <| KT.l 26 fun x26 => zp 27 (vi p1_count) <| zp 28 (vb (decide (x26 < p1_count))) <| zp 29 (vb (decide (x26 < p1_count))) <| zl j4
  exact zk <| zk <| zk <| zk <| zk <| zk <| zk <| zk <| zp 29 (vb false) <| zl j4
  refine KT.ite 9 rfl ?_ ?_
  exact zk <| zk <| zk <| zk <| zp 14 (vb true) <| zl j1
  exact zp 10 (vS p0_m) <| zp 11 (vi (vl p0_m)) <| zp 12 (vi p1_count) <| zp 13 (vb (decide ((vl p0_m) < p1_count))) <| zp 14 (vb (decide ((vl p0_m) < p1_count))) <| zl j1
theorem cmp_Or_i_sim (p0_vals : Slc) : Sm Tryz.prog 60 [(vS p0_vals)] (Value.int .i64) (cmp_Or_i p0_vals) := by
  refine sm_of 18 Tryz.func60 rfl rfl rfl fun _ => ?_
  unfold cmp_Or_i
  refine zG <| zp 2 (vi 0) <| zN <| zp 3 (vi 0) <| zn <| zq <| zG <| zp 6 (vS p0_vals) <| zp 7 (vi (vl p0_vals)) <| zp 8 (vi 0) <| zn <| SC.block <| zL (σ := (Int)) (fun s1 => [(3, (vi 0)), (6, (vS p0_vals)), (7, (vi (vl p0_vals))), (8, (vi s1))]) fun _ _ _ s1 => zG <| zp 9 (vb (decide (s1 < (vl p0_vals)))) <| zn <| zq <| SC.cond rfl ?_ ?_
  refine zw <| zq <| SC.block <| zG <| zy <| oix 10 3 fun x10 => KT.l 11 fun x11 => zp 5 (vi x11) <| zN <| zp 12 (vi x11) <| zp 13 (vi 0) <| zp 14 (vb (x11 != 0)) <| zn <| SC.cond rfl ?_ ?_
  exact zG <| zp 15 (vi x11) <| zp 2 (vi x11) <| zn <| SC.ret <| SX.block_ret <| SX.then_ret <| SX.loop_ret <| SX.block_ret <| SX.then_ret <| ze [.tmp 2] <| zm rfl zz
  exact SC.skip <| SX.block <| SX.seq <| zg <| zp 16 (vi (w64 (s1 + 1))) <| zp 8 (vi (w64 (s1 + 1))) <| KT.nil zX
  exact SC.exit <| SX.then_exit <| SX.loop_exit <| SX.block_hit <| SX.seq <| zG <| zp 17 (vi 0) <| zp 2 (vi 0) <| zn <| SC.ret <| ze [.tmp 2] <| zm rfl zz
theorem scan_Groups_c2_sim (p0_a : (Int × Int × Slc)) (p1_b : (Int × Int × Slc)) : Sm Tryz.prog 59 [(.agg #[(vi p0_a.1), (vi p0_a.2.1), (vS p0_a.2.2)]), (.agg #[(vi p1_b.1), (vi p1_b.2.1), (vS p1_b.2.2)])] (Value.int .i64) (scan_Groups_c2 p0_a p1_b) := by
  refine sm_of 19 Tryz.func59 rfl rfl rfl fun _ => ?_
  unfold scan_Groups_c2
  refine zG <| KT.nw 2 (fun ad => .pointer (some ad)) 63 fun x2 => KT.nw 3 (fun ad => .pointer (some ad)) 63 fun x3 => zp 4 (vi 0) <| zn <| zq <| SC.draw 15 (fun _ => false) rfl (by kernel_rfl) fun S1 => zpA 0 5 (vp x2) <| zA 1 rfl <| oli 6 fun x6 => zpA 2 7 (vp x3) <| zA 3 rfl <| oli 8 fun x8 => zpA 5 10 (va x2 2) <| zA 6 rfl <| oli 11 fun x11 => zpA 7 12 (vi (vl x11)) <| zpA 8 13 (va x3 2) <| zA 9 rfl <| oli 14 fun x14 => zpA 10 15 (vi (vl x14)) <| KT.one 4 rfl (by kernel_rfl) rfl <| OW.step <| ocall 9 (cmp_Compare_i_sim _ _) fun x9 => KT.and <| KT.one 11 rfl (by kernel_rfl) rfl <| OW.step <| ocall 16 (cmp_Compare_i_sim _ _) fun x16 => KT.and <| KT.one 12 rfl (by kernel_rfl) rfl <| OW.step <| OW.new (d := 17) [(vi x9), (vi x16)] (fun ad => .slice (some ad) 2 2) 3 rfl (fun _ => by kernel_rfl) rfl rfl fun x17 => KT.and <| KT.one 13 rfl (by kernel_rfl) rfl <| OW.step <| ocall 18 (cmp_Or_i_sim _) fun x18 => KT.and <| zpA 14 4 (vi x18) <| KT.doneA (by kernel_rfl) <| SX.seq <| SC.ret <| ze [.tmp 4] ?_
  exact zm rfl zz
theorem sortF_scan_Groups_c2_sim (s : Slc) (Qf : Unit → World → Prop) (w : World) (hm : sortFM 3 (fun y : (Int × Int × Slc) => [(.int .i64 y.1), (.int .i64 y.2.1), (.slice y.2.2.base y.2.2.len y.2.2.cap)]) cf_scan_Groups_c2 s Qf w) : Calls Tryz.prog 58 #[.slice s.base s.len s.cap, (.func (.func fid_scan_Groups_c2) #[] #[])] w (RetPost (fun _ : Unit => .tuple #[]) Qf) :=
  sortFM_sim sortLay_c2 3 Tryz.isAgg63 Tryz.sizeOf63 (fun y : (Int × Int × Slc) => [(.int .i64 y.1), (.int .i64 y.2.1), (.slice y.2.2.base y.2.2.len y.2.2.cap)]) (fun _ => rfl) (fun x v hv => by simp at hv; rcases hv with rfl | rfl | rfl <;> rfl) cf_scan_Groups_c2 swo_c2 59 (enters_of Tryz.func59 (by kernel_rfl) rfl) (fun x y W => (scan_Groups_c2_sim x y _ W (lay_c2 x y W)).mono fun e w' h => by obtain ⟨r, h1, h2, h3⟩ := ret_open h; subst h2; exact ⟨h1, h3⟩) s Qf w hm
theorem sortF_scan_Groups_c1_sim (s : Slc) (Qf : Unit → World → Prop) (w : World) (hm : sortFM 6 (fun y : (Int × Int × Int × Int × Int × Int) => [(.int .i64 y.1), (.int .i64 y.2.1), (.int .i64 y.2.2.1), (.int .i64 y.2.2.2.1), (.int .i64 y.2.2.2.2.1), (.int .i64 y.2.2.2.2.2)]) cf_scan_Groups_c1 s Qf w) : Calls Tryz.prog 54 #[.slice s.base s.len s.cap, (.func (.func fid_scan_Groups_c1) #[] #[])] w (RetPost (fun _ : Unit => .tuple #[]) Qf) :=
  sortFM_sim sortLay_c1 6 Tryz.isAgg59 Tryz.sizeOf59 (fun y : (Int × Int × Int × Int × Int × Int) => [(.int .i64 y.1), (.int .i64 y.2.1), (.int .i64 y.2.2.1), (.int .i64 y.2.2.2.1), (.int .i64 y.2.2.2.2.1), (.int .i64 y.2.2.2.2.2)]) (fun _ => rfl) (fun x v hv => by simp at hv; rcases hv with rfl | rfl | rfl | rfl | rfl | rfl <;> rfl) cf_scan_Groups_c1 swo_c1 55 (enters_of Tryz.func55 (by kernel_rfl) rfl) (fun x y W => (scan_Groups_c1_sim x y _ W (lay_c1 x y W)).mono fun e w' h => by obtain ⟨r, h1, h2, h3⟩ := ret_open h; subst h2; exact ⟨h1, h3⟩) s Qf w hm
theorem scan_Groups_sim (p0_list : Slc) : Sm Tryz.prog 24 [(vS p0_list)] vS (scan_Groups p0_list) := by
  refine sm_of 101 Tryz.func24 rfl rfl rfl fun _ => ?_
  unfold scan_Groups
  refine zG <| zp 2 (.slice none 0 0) <| zN <| KT.ow rfl (OW.newO (d := 13) (.map #[] 0) (fun r => .map (some r)) rfl (fun _ => by kernel_rfl) rfl rfl (fun x13 => ?_))
  refine zp 3 (.map (some x13)) <| zn <| zq <| zG <| zp 14 (vS p0_list) <| zp 15 (vi (vl p0_list)) <| zp 16 (vi 0) <| zn <| SC.block <| zL (σ := (Int)) (fun s1 => [(3, (.map (some x13))), (14, (vS p0_list)), (15, (vi (vl p0_list))), (16, (vi s1))]) fun _ _ _ s1 => zG <| zp 17 (vb (decide (s1 < (vl p0_list)))) <| zn <| zq <| SC.cond rfl ?_ ?_
  refine zw <| zq <| SC.block <| zG <| zy <| oix 18 59 fun x18 => zo <| ola 19 6 fun x19 => KT.nw 5 (fun ad => .pointer (some ad)) 59 fun x5 => zo <| osa <| zN <| zp 20 (va x5 2) <| zp 21 (.pointer (some (Addr.add (Addr.add x5 2) 1))) <| KT.l 22 fun x22 => zp 23 (vb (decide (x22 ≥ 0))) <| zp 24 (vb (decide (x22 ≥ 0))) <| zj 7 (fun q2 => [(31, (vb q2)), (3, (.map (some x13))), (5, (vp x5)), (14, (vS p0_list)), (15, (vi (vl p0_list))), (16, (vi s1))]) (fun q2 => ?_) (fun j2 => ?_)
  refine zn <| SC.cond rfl ?_ ?_
  refine zG <| zp 32 (va x5 1) <| KT.l 33 fun x33 => zp 34 (va x5 2) <| zp 35 (.pointer (some (Addr.add (Addr.add x5 2) 1))) <| KT.l 36 fun x36 => zp 37 (vi (w64 (x33 - x36))) <| zp 38 (va x5 2) <| zp 39 (va x5 2) <| KT.l 40 fun x40 => zp 41 (.agg #[(vi (w64 (x33 - x36))), (vi x40)]) <| KT.nw 6 (fun ad => .pointer (some ad)) 123 fun x6 => zo <| osa <| zn <| zg <| zp 42 (.map (some x13)) <| zo <| ola 43 2 fun x43 => zo <| ola 45 6 fun x45 => KT.nw 46 (fun ad => .slice (some ad) 1 1) 59 fun x46 => KT.ow rfl (OW.ent (d := 47) (enc := vS) (key := (x43.1, x43.2)) (⟨none, 0, 0⟩) 123 52 _ _ _ _ _ rfl rfl rfl (by kernel_rfl) rfl (by kernel_rfl) (by kernel_rfl) rfl rfl (fun x47 => ?_))
  refine zp 44 (vS x47.1) <| zo <| oapp 48 59 fun x48 => zp 49 (vi x47.2) <| KT.ow rfl (OW.entSt _ _ _ _ rfl rfl rfl rfl rfl ?_)
  exact KT.nil <| SX.block <| SX.seq <| zg <| zp 50 (vi (w64 (s1 + 1))) <| zp 16 (vi (w64 (s1 + 1))) <| KT.nil zX
  exact SC.skip <| SX.block <| SX.seq <| zg <| zp 50 (vi (w64 (s1 + 1))) <| zp 16 (vi (w64 (s1 + 1))) <| KT.nil zX
  refine KT.ite 24 rfl ?_ ?_
  exact zp 25 (va x5 1) <| KT.l 26 fun x26 => zp 27 (va x5 2) <| zp 28 (.pointer (some (Addr.add (Addr.add x5 2) 1))) <| KT.l 29 fun x29 => zp 30 (vb (decide (x26 ≥ x29))) <| zp 31 (vb (decide (x26 ≥ x29))) <| zl j2
  exact zk <| zk <| zk <| zk <| zk <| zk <| zp 31 (vb false) <| zl j2
  refine SC.exit <| SX.then_exit <| SX.loop_exit <| SX.block_hit <| SX.seq <| zG <| zp 7 (.slice none 0 0) <| zn <| zq <| zG <| zp 51 (.map (some x13)) <| KT.ow rfl (OW.rangeMap (d := 52) _ _ 123 52 rfl rfl (by kernel_rfl) rfl rfl (fun x52 => ?_))
  refine zn <| SC.block <| zL (σ := (Slc)) (fun s3 => [(7, (vS s3)), (52, (vp x52))]) fun _ _ _ s3 => zG <| KT.ow rfl (OW.next (d := 53) _ rfl rfl rfl rfl (fun y53 => ?_))
  refine KT.opt (y := y53) 53 rfl ?_ (fun e53 => ?_)
  exact zp 54 (vb false) <| zn <| zq <| SC.cond_false rfl <| SC.exit <| SX.then_exit <| SX.loop_exit <| SX.block_hit <| SX.seq <| zG <| zp 98 (vS s3) <| zc 99 (sortF_scan_Groups_c2_sim s3) fun x99 => zN <| zp 100 (vS s3) <| zp 2 (vS s3) <| zn <| SC.ret <| ze [.tmp 2] <| zm rfl zz
  refine zp 54 (vb true) <| zn <| zq <| SC.cond_true rfl <| zw <| SC.block <| zG <| KT.ow rfl (OW.entry (d := 55) (ek := (fun y : (Int × Int) => (.agg #[(vi y.1), (vi y.2)]))) (evv := vS) _ rfl rfl rfl rfl (fun x55 => ?_))
  refine zp 56 (.agg #[(vi x55.1.1), (vi x55.1.2)]) <| zp 57 (vS x55.2) <| KT.nw 8 (fun ad => .pointer (some ad)) 123 fun x8 => zo <| osa <| zp 9 (vS x55.2) <| zN <| zp 58 (vS x55.2) <| zc 59 (sortF_scan_Groups_c1_sim x55.2) fun x59 => zn <| zq <| zG <| zp 60 (vS x55.2) <| zp 61 (va x8 1) <| KT.l 62 fun x62 => zc 63 (scan_whole_sim _ _) fun x63 => zp 64 (vb (!x63)) <| zn <| SC.cond rfl ?_ ?_
  exact SC.exit <| SX.then_exit <| SX.block_hit zX
  refine zw <| zG <| zp 65 (vS x55.2) <| zp 66 (va x8 1) <| KT.l 67 fun x67 => KT.oy rfl (OY.slice01 (d := 68) (s := x55.2) (hi := x67) (size := 6) (elem := 59) _ _ _ rfl rfl rfl (by kernel_rfl) (by kernel_rfl) rfl rfl (fun x68 => ?_))
  refine zp 9 (vS x68) <| zn <| zq <| SC.draw 13 (fun f => Nat.beq f 12) rfl (by kernel_rfl) fun S4 => zpA 0 69 (vp x8) <| zA 1 rfl <| oli 70 fun x70 => zpA 2 71 (vS x68) <| zpA 3 72 (vS x68) <| zpA 4 73 (vi (vl x68)) <| zpA 5 74 (vi (w64 ((vl x68) - 1))) <| zB 6 rfl <| oix 75 59 fun x75 => zpA 7 76 (va x75 2) <| zpA 8 77 (.pointer (some (Addr.add (Addr.add x75 2) 3))) <| zA 9 rfl <| oli 78 fun x78 => zpA 10 79 (.agg #[(vi x70), (vi x78), (.slice none 0 0)]) <| KT.one 11 rfl (by kernel_rfl) rfl <| OW.step <| OW.new (d := 10) [(vi 0), (vi 0), (.slice none 0 0)] (fun ad => .pointer (some ad)) 63 rfl (fun _ => by kernel_rfl) rfl rfl fun x10 => KT.and <| KT.last 12 rfl (by kernel_rfl) rfl rfl <| OW.stA _ _ _ rfl rfl rfl rfl rfl (by kernel_rfl) <| KT.doneN (by kernel_rfl) <| zS (T' := [(7, (vS s3)), (9, (vS x68)), (10, (vp x10)), (52, (vp x52))]) <| SX.seq <| zq <| zG <| zp 80 (vS x68) <| zp 81 (vi (vl x68)) <| zp 82 (vi 0) <| zn <| SC.block <| zL (σ := (Int)) (fun s5 => [(7, (vS s3)), (10, (vp x10)), (52, (vp x52)), (80, (vS x68)), (81, (vi (vl x68))), (82, (vi s5))]) fun _ _ _ s5 => zG ?_
  refine zp 83 (vb (decide (s5 < (vl x68)))) <| zn <| zq <| SC.cond rfl ?_ ?_
  exact zw <| zq <| SC.block <| zG <| zy <| oix 84 59 fun x84 => zo <| ola 85 6 fun x85 => KT.nw 12 (fun ad => .pointer (some ad)) 59 fun x12 => zo <| osa <| zn <| zg <| zp 86 (va x10 2) <| KT.l 87 fun x87 => zp 88 (vp x12) <| KT.l 89 fun x89 => KT.nw 90 (fun ad => .slice (some ad) 1 1) 3 fun x90 => zo <| oapp 91 3 fun x91 => zp 92 (va x10 2) <| KT.s <| KT.nil <| SX.block <| SX.seq <| zg <| zp 93 (vi (w64 (s5 + 1))) <| zp 82 (vi (w64 (s5 + 1))) <| KT.nil zX
  exact SC.exit <| SX.then_exit <| SX.loop_exit <| SX.block_hit <| SX.seq <| zg <| zp 94 (vS s3) <| zo <| ola 95 3 fun x95 => KT.nw 96 (fun ad => .slice (some ad) 1 1) 63 fun x96 => zo <| oapp 97 63 fun x97 => zp 7 (vS x97) <| KT.nil <| SX.block zX
theorem bytes_trimLeftByte_sim (p0_s : Slc) (p1_c : Int) : Sm Tryz.prog 136 [(vS p0_s), (.int .u8 p1_c)] vS (bytes_trimLeftByte p0_s p1_c) := by
  refine sm_of 21 Tryz.func136 rfl rfl rfl fun _ => ?_
  unfold bytes_trimLeftByte
  refine zG <| zp 4 (.slice none 0 0) <| zn <| zq <| SC.block <| zL (σ := (Slc)) (fun s1 => [(0, (vS s1)), (1, (.int .u8 p1_c))]) fun _ _ _ s1 => zq <| zG <| zp 5 (vS s1) <| zp 6 (vi (vl s1)) <| zp 7 (vb (decide ((vl s1) > 0))) <| zp 8 (vb (decide ((vl s1) > 0))) <| zj 6 (fun q2 => [(14, (vb q2)), (0, (vS s1)), (1, (.int .u8 p1_c))]) (fun q2 => ?_) (fun j2 => ?_)
  refine zn <| SC.cond rfl ?_ ?_
  refine zw <| SC.block <| zg <| zp 15 (vS s1) <| KT.oy rfl (OY.slice10 (d := 16) (s := s1) (lo := 1) (size := 1) (elem := 5) _ _ _ rfl rfl rfl (by kernel_rfl) (by kernel_rfl) rfl rfl (fun x16 => ?_))
  exact zp 0 (vS x16) <| KT.nil <| SX.block zX
  refine SC.exit <| SX.then_exit <| SX.loop_exit <| SX.block_hit <| SX.seq <| zq <| zG <| zp 17 (vS s1) <| zp 18 (vi (vl s1)) <| zp 19 (vb ((vl s1) == 0)) <| zn <| SC.cond rfl ?_ ?_
  exact zG <| zp 4 (.slice none 0 0) <| zn <| zt <| ze [.tmp 4] <| zm rfl zz
  exact zw <| zG <| zp 20 (vS s1) <| zp 4 (vS s1) <| zn <| SC.ret <| ze [.tmp 4] <| zm rfl zz
  refine KT.ite 8 rfl ?_ ?_
  exact zp 9 (vS s1) <| zy <| oix 10 5 fun x10 => KT.l 11 fun x11 => zp 12 (.int .u8 p1_c) <| zp 13 (vb (x11 == p1_c)) <| zp 14 (vb (x11 == p1_c)) <| zl j2
  exact zk <| zk <| zk <| zk <| zk <| zp 14 (vb false) <| zl j2
theorem bytes_trimRightByte_sim (p0_s : Slc) (p1_c : Int) : Sm Tryz.prog 137 [(vS p0_s), (.int .u8 p1_c)] vS (bytes_trimRightByte p0_s p1_c) := by
  refine sm_of 24 Tryz.func137 rfl rfl rfl fun _ => ?_
  unfold bytes_trimRightByte
  refine zG <| zp 4 (.slice none 0 0) <| zn <| zq <| SC.block <| zL (σ := (Slc)) (fun s1 => [(0, (vS s1)), (1, (.int .u8 p1_c))]) fun _ _ _ s1 => zq <| zG <| zp 5 (vS s1) <| zp 6 (vi (vl s1)) <| zp 7 (vb (decide ((vl s1) > 0))) <| zp 8 (vb (decide ((vl s1) > 0))) <| zj 9 (fun q2 => [(17, (vb q2)), (0, (vS s1)), (1, (.int .u8 p1_c))]) (fun q2 => ?_) (fun j2 => ?_)
  refine zn <| SC.cond rfl ?_ ?_
  refine zw <| SC.block <| zg <| zp 18 (vS s1) <| zp 19 (vS s1) <| zp 20 (vi (vl s1)) <| zp 21 (vi (w64 ((vl s1) - 1))) <| KT.oy rfl (OY.slice01 (d := 22) (s := s1) (hi := w64 ((vl s1) - 1)) (size := 1) (elem := 5) _ _ _ rfl rfl rfl (by kernel_rfl) (by kernel_rfl) rfl rfl (fun x22 => ?_))
  exact zp 0 (vS x22) <| KT.nil <| SX.block zX
  exact SC.exit <| SX.then_exit <| SX.loop_exit <| SX.block_hit <| SX.seq <| zG <| zp 23 (vS s1) <| zp 4 (vS s1) <| zn <| SC.ret <| ze [.tmp 4] <| zm rfl zz
  refine KT.ite 8 rfl ?_ ?_
  exact zp 9 (vS s1) <| zp 10 (vS s1) <| zp 11 (vi (vl s1)) <| zp 12 (vi (w64 ((vl s1) - 1))) <| zy <| oix 13 5 fun x13 => KT.l 14 fun x14 => zp 15 (.int .u8 p1_c) <| zp 16 (vb (x14 == p1_c)) <| zp 17 (vb (x14 == p1_c)) <| zl j2
  exact zk <| zk <| zk <| zk <| zk <| zk <| zk <| zk <| zp 17 (vb false) <| zl j2
theorem bytes_Trim_0_sim (p0_s : Slc) : Sm Tryz.prog 102 [(vS p0_s), (.string (ByteArray.mk #[0]))] vS (bytes_Trim_0 p0_s) := by
  refine sm_of 42 Tryz.func102 rfl rfl rfl fun _ => ?_
  unfold bytes_Trim_0
  refine zG <| zp 4 (.slice none 0 0) <| zn <| zq <| zG <| zp 7 (vS p0_s) <| zp 8 (vi (vl p0_s)) <| zp 9 (vb ((vl p0_s) == 0)) <| zn <| SC.cond rfl ?_ ?_
  exact zG <| zp 4 (.slice none 0 0) <| zn <| zt <| ze [.tmp 4] <| zm rfl zz
  refine zw <| zq <| zG <| zp 10 (.string (ByteArray.mk #[0])) <| zp 11 (vb false) <| zn <| SC.cond_false rfl <| zw <| zq <| zG <| zp 13 (.string (ByteArray.mk #[0])) <| zp 14 (vi 1) <| zp 15 (vb true) <| zp 16 (vb true) <| zp 17 (.string (ByteArray.mk #[0])) <| zp 18 (.int .u8 0) <| zp 19 (vb true) <| zp 20 (vb true) <| zn <| SC.cond_true rfl <| zq <| SC.draw 8 (fun f => Nat.beq f 3 || Nat.beq f 6) rfl (by kernel_rfl) fun S1 => zpA 0 21 (vS p0_s) <| zpA 1 22 (.string (ByteArray.mk #[0])) <| zpA 2 23 (.int .u8 0) <| zpA 4 25 (.string (ByteArray.mk #[0])) <| zpA 5 26 (.int .u8 0) <| KT.last 3 rfl (by kernel_rfl) rfl rfl <| ocall 24 (bytes_trimRightByte_sim _ _) fun x24 => KT.lastN 6 rfl (by kernel_rfl) rfl rfl (ocall 27 (bytes_trimLeftByte_sim _ _) fun x27 => ?_)
  exact KT.pvN 7 4 (vS x27) <| KT.doneN (by kernel_rfl) <| SX.seq <| zt <| ze [.tmp 4] <| zm rfl zz
theorem bits_Nought_sim (p0_b : Slc) : Sm Tryz.prog 61 [(vS p0_b)] Value.bool (bits_Nought p0_b) := by
  refine sm_of 7 Tryz.func61 rfl rfl rfl fun _ => ?_
  unfold bits_Nought
  exact zG <| zp 2 (vb false) <| zN <| zp 3 (vS p0_b) <| zc 4 (bytes_Trim_0_sim _) fun x4 => zp 5 (vi (vl x4)) <| zp 6 (vb ((vl x4) == 0)) <| zp 2 (vb ((vl x4) == 0)) <| zn <| SC.ret <| ze [.tmp 2] <| zm rfl zz
theorem bits_Get_sim (p0_b : Slc) (p1_at : Int) (p2_width : Int) : Sm Tryz.prog 62 [(vS p0_b), (vi p1_at), (vi p2_width)] (fun y : (Int × Bool) => (.tuple #[(vi y.1), (vb y.2)])) (bits_Get p0_b p1_at p2_width) := by
  refine sm_of 56 Tryz.func62 rfl rfl rfl fun _ => ?_
  unfold bits_Get
  refine zG <| zp 6 (vi 0) <| zp 7 (vb false) <| zn <| zq <| zG <| zp 11 (vi p2_width) <| zp 12 (vb (decide (p2_width < 1))) <| zp 13 (vb (decide (p2_width < 1))) <| zj 3 (fun q1 => [(16, (vb q1)), (0, (vS p0_b)), (1, (vi p1_at)), (2, (vi p2_width))]) (fun q1 => ?_) (fun j1 => ?_)
  refine zp 17 (vb q1) <| zj 3 (fun q2 => [(20, (vb q2)), (0, (vS p0_b)), (1, (vi p1_at)), (2, (vi p2_width))]) (fun q2 => ?_) (fun j2 => ?_)
  refine zp 21 (vb q2) <| zj 5 (fun q3 => [(26, (vb q3)), (0, (vS p0_b)), (1, (vi p1_at)), (2, (vi p2_width))]) (fun q3 => ?_) (fun j3 => ?_)
  refine zp 27 (vb q3) <| zj 7 (fun q4 => [(34, (vb q4)), (0, (vS p0_b)), (1, (vi p1_at)), (2, (vi p2_width))]) (fun q4 => ?_) (fun j4 => ?_)
  refine zn <| SC.cond rfl ?_ ?_
  exact zG <| zp 6 (vi 0) <| zp 7 (vb false) <| zn <| zt <| ze [.tmp 6, .tmp 7] <| zm rfl <| zm rfl zz
  refine zw <| zG <| zp 8 (vi 0) <| zn <| zq <| zG <| zp 35 (vS p0_b) <| zp 36 (vi p1_at) <| zp 37 (vi p1_at) <| zp 38 (vi p2_width) <| zp 39 (vi (w64 (p1_at + p2_width))) <| KT.oy rfl (OY.slice11 (d := 40) (s := p0_b) (lo := p1_at) (hi := w64 (p1_at + p2_width)) (size := 1) (elem := 5) _ _ _ _ rfl rfl rfl rfl (by kernel_rfl) (by kernel_rfl) rfl rfl (fun x40 => ?_))
  refine zp 41 (vi (vl x40)) <| zp 42 (vi 0) <| zn <| SC.block <| zL (σ := (Int × Int)) (fun s5 => [(8, (vi s5.1)), (40, (vS x40)), (41, (vi (vl x40))), (42, (vi s5.2))]) fun _ _ _ s5 => zG <| zp 43 (vb (decide (s5.2 < (vl x40)))) <| zn <| zq <| SC.cond rfl ?_ ?_
  refine zw <| zq <| SC.block <| zG <| zp 44 (vi s5.2) <| zy <| oix 45 5 fun x45 => KT.l 46 fun x46 => zp 9 (vi s5.2) <| zp 10 (.int .u8 x46) <| zn <| zg <| zp 47 (vi s5.1) <| zp 48 (.int .u8 x46) <| zp 49 (vi (w64 x46)) <| zp 50 (vi s5.2) <| zp 51 (vi (w64 (8 * s5.2))) <| KT.oy rfl (OY.shl (d := 52) (x := w64 x46) (y := w64 (8 * s5.2)) _ _ _ _ (bShl .i64 (w64 x46) (w64 (8 * s5.2))) rfl rfl rfl rfl rfl rfl ?_)
  exact zp 53 (vi (bOr .i64 s5.1 (bShl .i64 (w64 x46) (w64 (8 * s5.2))))) <| zp 8 (vi (bOr .i64 s5.1 (bShl .i64 (w64 x46) (w64 (8 * s5.2))))) <| KT.nil <| SX.block <| SX.seq <| zg <| zp 54 (vi (w64 (s5.2 + 1))) <| zp 42 (vi (w64 (s5.2 + 1))) <| KT.nil zX
  exact SC.exit <| SX.then_exit <| SX.loop_exit <| SX.block_hit <| SX.seq <| zG <| zp 55 (vi s5.1) <| zp 6 (vi s5.1) <| zp 7 (vb true) <| zn <| SC.ret <| ze [.tmp 6, .tmp 7] <| zm rfl <| zm rfl zz
  refine KT.ite 27 rfl ?_ ?_
  exact zk <| zk <| zk <| zk <| zk <| zk <| zp 34 (vb true) <| zl j4
  exact zp 28 (vS p0_b) <| zp 29 (vi (vl p0_b)) <| zp 30 (vi p1_at) <| zp 31 (vi (w64 ((vl p0_b) - p1_at))) <| zp 32 (vi p2_width) <| zp 33 (vb (decide ((w64 ((vl p0_b) - p1_at)) < p2_width))) <| zp 34 (vb (decide ((w64 ((vl p0_b) - p1_at)) < p2_width))) <| zl j4
  refine KT.ite 21 rfl ?_ ?_
  exact zk <| zk <| zk <| zk <| zp 26 (vb true) <| zl j3
  exact zp 22 (vi p1_at) <| zp 23 (vS p0_b) <| zp 24 (vi (vl p0_b)) <| zp 25 (vb (decide (p1_at > (vl p0_b)))) <| zp 26 (vb (decide (p1_at > (vl p0_b)))) <| zl j3
  refine KT.ite 17 rfl ?_ ?_
  exact zk <| zk <| zp 20 (vb true) <| zl j2
  exact zp 18 (vi p1_at) <| zp 19 (vb (decide (p1_at < 0))) <| zp 20 (vb (decide (p1_at < 0))) <| zl j2
  refine KT.ite 13 rfl ?_ ?_
  exact zk <| zk <| zp 16 (vb true) <| zl j1
  exact zp 14 (vi p2_width) <| zp 15 (vb (decide (p2_width > 4))) <| zp 16 (vb (decide (p2_width > 4))) <| zl j1
theorem scan_GetSummary_sim (p0_g : (Int × Int × Int)) (p1_b : (Int × Int × Slc)) : Sm Tryz.prog 25 [(.agg #[(vi p0_g.1), (vi p0_g.2.1), (vi p0_g.2.2)]), (.agg #[(vi p1_b.1), (vi p1_b.2.1), (vS p1_b.2.2)])] (fun y : ((Int × Int × Int × Int) × Bool) => (.tuple #[(.agg #[(vi y.1.1), (vi y.1.2.1), (vi y.1.2.2.1), (vi y.1.2.2.2)]), (vb y.2)])) (scan_GetSummary p0_g p1_b) := by
  refine sm_of 65 Tryz.func25 rfl rfl rfl fun _ => ?_
  unfold scan_GetSummary
  refine zG <| KT.nw 2 (fun ad => .pointer (some ad)) 33 fun x2 => KT.nw 3 (fun ad => .pointer (some ad)) 65 fun x3 => KT.nw 4 (fun ad => .pointer (some ad)) 57 fun x4 => zp 5 (vb false) <| zn <| zq <| zG <| zp 9 (vp x3) <| KT.l 10 fun x10 => zp 11 (vb (x10 != 65535)) <| zp 12 (vb (x10 != 65535)) <| zj 4 (fun q1 => [(16, (vb q1)), (2, (vp x2)), (3, (vp x3)), (4, (vp x4))]) (fun q1 => ?_) (fun j1 => ?_)
  refine zp 17 (vb q1) <| zj 5 (fun q2 => [(22, (vb q2)), (2, (vp x2)), (3, (vp x3)), (4, (vp x4))]) (fun q2 => ?_) (fun j2 => ?_)
  refine zp 23 (vb q2) <| zj 6 (fun q3 => [(29, (vb q3)), (2, (vp x2)), (3, (vp x3)), (4, (vp x4))]) (fun q3 => ?_) (fun j3 => ?_)
  refine zn <| SC.cond rfl ?_ ?_
  exact zG <| zp 30 (.agg #[(vi 0), (vi 0), (vi 0), (vi 0)]) <| zo <| osa <| zp 5 (vb false) <| zn <| zt <| ze [.cell 4 57, .tmp 5] <| RS.cellA 4 (by kernel_rfl) rfl rfl (fun _ => rfl) fun r4 => zm rfl zz
  refine zw <| zG <| KT.nw 6 (fun ad => .pointer (some ad)) 107 fun x6 => zn <| zq <| zG <| zp 31 (vi 0) <| zn <| SC.block <| zL (σ := (Int)) (fun s4 => [(2, (vp x2)), (3, (vp x3)), (4, (vp x4)), (6, (vp x6)), (31, (vi s4))]) fun _ _ _ s4 => zG <| zp 32 (vb (decide (s4 < 5))) <| zn <| zq <| SC.cond rfl ?_ ?_
  refine zw <| zq <| SC.block <| zG <| zp 33 (vi s4) <| zp 7 (vi s4) <| zn <| zg <| zp 35 (vi s4) <| zp 36 (va x3 2) <| KT.l 37 fun x37 => zp 38 (vi s4) <| zp 39 (vi (w64 (2 * s4))) <| zc 40 (bits_Get_sim _ _ _) fun x40 => zp 34 (.tuple #[(vi x40.1), (vb x40.2)]) <| zp 41 (vi x40.1) <| zp 42 (vb x40.2) <| KT.oy rfl (OY.idxA (d := 43) (ad := x6) (i := s4) (size := 1) (len := 5) (elem := 3) _ _ _ rfl rfl rfl (by kernel_rfl) (by kernel_rfl) rfl rfl rfl (fun x43 => ?_))
  exact KT.s <| KT.nil <| SX.block <| SX.seq <| zg <| zp 44 (vi (w64 (s4 + 1))) <| zp 31 (vi (w64 (s4 + 1))) <| KT.nil zX
  refine SC.exit <| SX.then_exit <| SX.loop_exit <| SX.block_hit <| SX.seq <| zG <| zp 45 (va x6 1) <| KT.l 46 fun x46 => zp 47 (va x6 2) <| KT.l 48 fun x48 => zp 49 (va x6 3) <| KT.l 50 fun x50 => zp 51 (va x6 4) <| KT.l 52 fun x52 => zp 53 (.agg #[(vi x46), (vi x48), (vi x50), (vi x52)]) <| KT.nw 8 (fun ad => .pointer (some ad)) 57 fun x8 => zo <| osa <| zn <| zq <| zG <| zp 54 (vp x6) <| KT.l 55 fun x55 => zp 56 (vb (x55 != 21331)) <| zp 57 (vb (x55 != 21331)) <| zj 5 (fun q5 => [(62, (vb q5)), (4, (vp x4)), (8, (vp x8))]) (fun q5 => ?_) (fun j5 => ?_)
  refine zn <| SC.cond rfl ?_ ?_
  exact zG <| zp 63 (.agg #[(vi 0), (vi 0), (vi 0), (vi 0)]) <| zo <| osa <| zp 5 (vb false) <| zn <| zt <| ze [.cell 4 57, .tmp 5] <| RS.cellA 4 (by kernel_rfl) rfl rfl (fun _ => rfl) fun r4 => zm rfl zz
  exact zw <| zG <| zo <| ola 64 4 fun x64 => zo <| osa <| zp 5 (vb true) <| zn <| SC.ret <| ze [.cell 4 57, .tmp 5] <| RS.cellA 4 (by kernel_rfl) rfl rfl (fun _ => rfl) fun r4 => zm rfl zz
  refine KT.ite 57 rfl ?_ ?_
  exact zk <| zk <| zk <| zk <| zp 62 (vb true) <| zl j5
  exact zo <| ola 58 3 fun x58 => zo <| ola 59 4 fun x59 => zc 60 (scan_right_sim _ _) fun x60 => zp 61 (vb (!x60)) <| zp 62 (vb (!x60)) <| zl j5
  refine KT.ite 23 rfl ?_ ?_
  exact zk <| zk <| zk <| zk <| zk <| zp 29 (vb true) <| zl j3
  refine zp 24 (va x3 2) <| KT.l 25 fun x25 => KT.oy rfl (OY.slice10 (d := 26) (s := x25) (lo := 10) (size := 1) (elem := 5) _ _ _ rfl rfl rfl (by kernel_rfl) (by kernel_rfl) rfl rfl (fun x26 => ?_))
  exact zc 27 (bits_Nought_sim _) fun x27 => zp 28 (vb (!x27)) <| zp 29 (vb (!x27)) <| zl j3
  refine KT.ite 17 rfl ?_ ?_
  exact zk <| zk <| zk <| zk <| zp 22 (vb true) <| zl j2
  exact zp 18 (va x3 2) <| KT.l 19 fun x19 => zp 20 (vi (vl x19)) <| zp 21 (vb ((vl x19) != 56)) <| zp 22 (vb ((vl x19) != 56)) <| zl j2
  refine KT.ite 12 rfl ?_ ?_
  exact zk <| zk <| zk <| zp 16 (vb true) <| zl j1
  exact zp 13 (va x3 1) <| KT.l 14 fun x14 => zp 15 (vb (x14 != 0)) <| zp 16 (vb (x14 != 0)) <| zl j1
theorem ref00_SameInts_sim (p0_a : Slc) (p1_b : Slc) : Sm Tryz.prog 26 [(vS p0_a), (vS p1_b)] Value.bool (ref00_SameInts p0_a p1_b) := by
  refine sm_of 26 Tryz.func26 rfl rfl rfl fun _ => ?_
  unfold ref00_SameInts
  refine zG <| zp 4 (vb false) <| zn <| zq <| zG <| zp 6 (vS p0_a) <| zp 7 (vi (vl p0_a)) <| zp 8 (vS p1_b) <| zp 9 (vi (vl p1_b)) <| zp 10 (vb ((vl p0_a) != (vl p1_b))) <| zn <| SC.cond rfl ?_ ?_
  exact zG <| zp 4 (vb false) <| zn <| zt <| ze [.tmp 4] <| zm rfl zz
  refine zw <| zq <| zG <| zp 5 (vi 0) <| zn <| SC.block <| zL (σ := (Int)) (fun s1 => [(0, (vS p0_a)), (1, (vS p1_b)), (5, (vi s1))]) fun _ _ _ s1 => zq <| zG <| zp 11 (vi s1) <| zp 12 (vS p0_a) <| zp 13 (vi (vl p0_a)) <| zp 14 (vb (decide (s1 < (vl p0_a)))) <| zn <| SC.cond rfl ?_ ?_
  refine zw <| zq <| SC.block <| zq <| SC.draw 9 (fun _ => false) rfl (by kernel_rfl) fun S2 => zpA 0 17 (vS p0_a) <| zpA 1 18 (vi s1) <| zB 2 rfl <| oix 19 3 fun x19 => zA 3 rfl <| oli 20 fun x20 => zpA 4 21 (vS p1_b) <| zpA 5 22 (vi s1) <| zB 6 rfl <| oix 23 3 fun x23 => zA 7 rfl <| oli 24 fun x24 => zpA 8 25 (vb (x20 != x24)) <| KT.doneA (by kernel_rfl) <| SX.seq <| SC.cond rfl ?_ ?_
  exact zG <| zp 4 (vb false) <| zn <| SC.ret <| SX.block_ret <| SX.then_ret <| SX.loop_ret <| SX.block_ret <| SX.then_ret <| ze [.tmp 4] <| zm rfl zz
  exact SC.skip <| SX.block <| SX.seq <| zg <| zp 15 (vi s1) <| zp 16 (vi (w64 (s1 + 1))) <| zp 5 (vi (w64 (s1 + 1))) <| KT.nil zX
  exact SC.exit <| SX.then_exit <| SX.loop_exit <| SX.block_hit <| SX.seq <| zG <| zp 4 (vb true) <| zn <| SC.ret <| ze [.tmp 4] <| zm rfl zz
theorem law08_alive_sim  : Sm Tryz.prog 5 [] Value.bool (law08_alive ) := by
  refine sm_of 60 Tryz.func5 rfl rfl rfl fun _ => ?_
  unfold law08_alive
  refine zG <| zp 0 (vb false) <| zN <| zp 6 (.agg #[(vi 2), (vi 1), (vi 0), (vi 3)]) <| zp 7 (.agg #[(vi 5), (vi 8), (vi 2), (vi 1), (vi 0), (vi 3)]) <| zp 8 (.agg #[(vi 2), (vi 0), (vi 0), (vi 0)]) <| zp 9 (.agg #[(vi 2), (vi 7), (vi 2), (vi 0), (vi 0), (vi 0)]) <| KT.nw 10 (fun ad => .slice (some ad) 2 2) 59 fun x10 => zc 11 (scan_Groups_sim _) fun x11 => zp 1 (vS x11) <| zN <| zc 13 (law08_Small_sim ) fun x13 => zp 14 (.agg #[(vi 1), (vi 0), (vi 2), (vi 9)]) <| zc 15 (scan_PutSummary_sim _ _) fun x15 => zp 12 (.tuple #[(.agg #[(vi x15.1.1), (vi x15.1.2.1), (vS x15.1.2.2)]), (vb x15.2)]) <| zp 16 (.agg #[(vi x15.1.1), (vi x15.1.2.1), (vS x15.1.2.2)]) <| zp 17 (vb x15.2) <| KT.nw 2 (fun ad => .pointer (some ad)) 65 fun x2 => zo <| osa <| zp 3 (vb x15.2) <| zn <| zq <| SC.draw 9 (fun f => Nat.beq f 7) rfl (by kernel_rfl) fun S1 => zA 1 rfl <| olai 20 3 fun x20 => KT.two 0 6 rfl rfl (by kernel_rfl) rfl rfl ?_ ?_
  refine OW.step (ocall 19 (law08_Small_sim ) fun x19 => ?_)
  refine KT.and <| KT.two 2 6 rfl rfl (by kernel_rfl) rfl rfl ?_ ?_
  refine OW.step (ocall 21 (scan_GetSummary_sim _ _) fun x21 => ?_)
  refine KT.and <| zpA 3 18 (.tuple #[(.agg #[(vi x21.1.1), (vi x21.1.2.1), (vi x21.1.2.2.1), (vi x21.1.2.2.2)]), (vb x21.2)]) <| zpA 4 22 (.agg #[(vi x21.1.1), (vi x21.1.2.1), (vi x21.1.2.2.1), (vi x21.1.2.2.2)]) <| zpA 5 23 (vb x21.2) <| KT.one 6 rfl (by kernel_rfl) rfl <| OW.step <| OW.new (d := 4) [(vi 0), (vi 0), (vi 0), (vi 0)] (fun ad => .pointer (some ad)) 57 rfl (fun _ => by kernel_rfl) rfl rfl fun x4 => KT.and <| KT.last 7 rfl (by kernel_rfl) rfl rfl <| OW.stA _ _ _ rfl rfl rfl rfl rfl (by kernel_rfl) <| KT.pvN 8 5 (vb x21.2) <| KT.doneN (by kernel_rfl) <| SX.seq <| zG <| zp 24 (vS x11) <| zp 25 (vi (vl x11)) <| zp 26 (vb ((vl x11) == 1)) <| zp 27 (vb ((vl x11) == 1)) <| zj 6 (fun q2 => [(33, (vb q2)), (1, (vS x11)), (3, (vb x15.2)), (4, (vp x4)), (5, (vb x21.2))]) (fun q2 => ?_) (fun j2 => ?_)
  refine zp 34 (vb q2) <| zj 6 (fun q3 => [(40, (vb q3)), (1, (vS x11)), (3, (vb x15.2)), (4, (vp x4)), (5, (vb x21.2))]) (fun q3 => ?_) (fun j3 => ?_)
  refine zp 41 (vb q3) <| zj 7 (fun q4 => [(48, (vb q4)), (3, (vb x15.2)), (4, (vp x4)), (5, (vb x21.2))]) (fun q4 => ?_) (fun j4 => ?_)
  refine zp 49 (vb q4) <| zj 2 (fun q5 => [(51, (vb q5)), (4, (vp x4)), (5, (vb x21.2))]) (fun q5 => ?_) (fun j5 => ?_)
  refine zp 52 (vb q5) <| zj 2 (fun q6 => [(54, (vb q6)), (4, (vp x4))]) (fun q6 => ?_) (fun j6 => ?_)
  refine zp 55 (vb q6) <| zj 4 (fun q7 => [(59, (vb q7))]) (fun q7 => ?_) (fun j7 => ?_)
  exact zp 0 (vb q7) <| zn <| SC.ret <| ze [.tmp 0] <| zm rfl zz
  refine KT.ite 55 rfl ?_ ?_
  refine zo <| ola 56 4 fun x56 => zp 57 (.agg #[(vi 1), (vi 0), (vi 2), (vi 9)]) <| KT.oy rfl (OY.eqlAggL (d := 58) (x := [x56.1, x56.2.1, x56.2.2.1, x56.2.2.2]) (y := [1, 0, 2, 9]) _ _ _ _ _ rfl rfl rfl rfl (by kernel_rfl) rfl rfl ?_)
  exact zp 59 (vb (eqL [x56.1, x56.2.1, x56.2.2.1, x56.2.2.2] [1, 0, 2, 9])) <| zl j7
  exact zk <| zk <| zk <| zp 59 (vb false) <| zl j7
  refine KT.ite 52 rfl ?_ ?_
  exact zp 53 (vb x21.2) <| zp 54 (vb x21.2) <| zl j6
  exact zk <| zp 54 (vb false) <| zl j6
  refine KT.ite 49 rfl ?_ ?_
  exact zp 50 (vb x15.2) <| zp 51 (vb x15.2) <| zl j5
  exact zk <| zp 51 (vb false) <| zl j5
  refine KT.ite 41 rfl ?_ ?_
  exact zp 42 (vS x11) <| zy <| oix 43 63 fun x43 => zp 44 (va x43 2) <| KT.l 45 fun x45 => KT.nw 46 (fun ad => .slice (some ad) 2 2) 3 fun x46 => zc 47 (ref00_SameInts_sim _ _) fun x47 => zp 48 (vb x47) <| zl j4
  exact zk <| zk <| zk <| zk <| zk <| zk <| zp 48 (vb false) <| zl j4
  refine KT.ite 34 rfl ?_ ?_
  exact zp 35 (vS x11) <| zy <| oix 36 63 fun x36 => zp 37 (va x36 1) <| KT.l 38 fun x38 => zp 39 (vb (x38 == 3)) <| zp 40 (vb (x38 == 3)) <| zl j3
  exact zk <| zk <| zk <| zk <| zk <| zp 40 (vb false) <| zl j3
  refine KT.ite 27 rfl ?_ ?_
  exact zp 28 (vS x11) <| zy <| oix 29 63 fun x29 => zp 30 (vp x29) <| KT.l 31 fun x31 => zp 32 (vb (x31 == 7)) <| zp 33 (vb (x31 == 7)) <| zl j2
  exact zk <| zk <| zk <| zk <| zk <| zp 33 (vb false) <| zl j2
  refine OW.step (OW.new (d := 4) [(vi 0), (vi 0), (vi 0), (vi 0)] (fun ad => .pointer (some ad)) 57 rfl (fun _ => by kernel_rfl) rfl rfl (fun x4 => ?_))
  refine KT.and <| KT.one 2 rfl (by kernel_rfl) rfl <| OW.step <| ocall 21 (scan_GetSummary_sim _ _) fun x21 => KT.and <| zpA 3 18 (.tuple #[(.agg #[(vi x21.1.1), (vi x21.1.2.1), (vi x21.1.2.2.1), (vi x21.1.2.2.2)]), (vb x21.2)]) <| zpA 4 22 (.agg #[(vi x21.1.1), (vi x21.1.2.1), (vi x21.1.2.2.1), (vi x21.1.2.2.2)]) <| zpA 5 23 (vb x21.2) <| KT.last 7 rfl (by kernel_rfl) rfl rfl <| OW.stA _ _ _ rfl rfl rfl rfl rfl (by kernel_rfl) <| KT.pvN 8 5 (vb x21.2) <| KT.doneN (by kernel_rfl) <| SX.seq <| zG <| zp 24 (vS x11) <| zp 25 (vi (vl x11)) <| zp 26 (vb ((vl x11) == 1)) <| zp 27 (vb ((vl x11) == 1)) <| zj 6 (fun q8 => [(33, (vb q8)), (1, (vS x11)), (3, (vb x15.2)), (4, (vp x4)), (5, (vb x21.2))]) (fun q8 => ?_) (fun j8 => ?_)
  refine zp 34 (vb q8) <| zj 6 (fun q9 => [(40, (vb q9)), (1, (vS x11)), (3, (vb x15.2)), (4, (vp x4)), (5, (vb x21.2))]) (fun q9 => ?_) (fun j9 => ?_)
  refine zp 41 (vb q9) <| zj 7 (fun q10 => [(48, (vb q10)), (3, (vb x15.2)), (4, (vp x4)), (5, (vb x21.2))]) (fun q10 => ?_) (fun j10 => ?_)
  refine zp 49 (vb q10) <| zj 2 (fun q11 => [(51, (vb q11)), (4, (vp x4)), (5, (vb x21.2))]) (fun q11 => ?_) (fun j11 => ?_)
  refine zp 52 (vb q11) <| zj 2 (fun q12 => [(54, (vb q12)), (4, (vp x4))]) (fun q12 => ?_) (fun j12 => ?_)
  refine zp 55 (vb q12) <| zj 4 (fun q13 => [(59, (vb q13))]) (fun q13 => ?_) (fun j13 => ?_)
  exact zp 0 (vb q13) <| zn <| SC.ret <| ze [.tmp 0] <| zm rfl zz
  refine KT.ite 55 rfl ?_ ?_
  refine zo <| ola 56 4 fun x56 => zp 57 (.agg #[(vi 1), (vi 0), (vi 2), (vi 9)]) <| KT.oy rfl (OY.eqlAggL (d := 58) (x := [x56.1, x56.2.1, x56.2.2.1, x56.2.2.2]) (y := [1, 0, 2, 9]) _ _ _ _ _ rfl rfl rfl rfl (by kernel_rfl) rfl rfl ?_)
  exact zp 59 (vb (eqL [x56.1, x56.2.1, x56.2.2.1, x56.2.2.2] [1, 0, 2, 9])) <| zl j13
  exact zk <| zk <| zk <| zp 59 (vb false) <| zl j13
  refine KT.ite 52 rfl ?_ ?_
  exact zp 53 (vb x21.2) <| zp 54 (vb x21.2) <| zl j12
  exact zk <| zp 54 (vb false) <| zl j12
  refine KT.ite 49 rfl ?_ ?_
  exact zp 50 (vb x15.2) <| zp 51 (vb x15.2) <| zl j11
  exact zk <| zp 51 (vb false) <| zl j11
  refine KT.ite 41 rfl ?_ ?_
  exact zp 42 (vS x11) <| zy <| oix 43 63 fun x43 => zp 44 (va x43 2) <| KT.l 45 fun x45 => KT.nw 46 (fun ad => .slice (some ad) 2 2) 3 fun x46 => zc 47 (ref00_SameInts_sim _ _) fun x47 => zp 48 (vb x47) <| zl j10
  exact zk <| zk <| zk <| zk <| zk <| zk <| zp 48 (vb false) <| zl j10
  refine KT.ite 34 rfl ?_ ?_
  exact zp 35 (vS x11) <| zy <| oix 36 63 fun x36 => zp 37 (va x36 1) <| KT.l 38 fun x38 => zp 39 (vb (x38 == 3)) <| zp 40 (vb (x38 == 3)) <| zl j9
  exact zk <| zk <| zk <| zk <| zk <| zp 40 (vb false) <| zl j9
  refine KT.ite 27 rfl ?_ ?_
  exact zp 28 (vS x11) <| zy <| oix 29 63 fun x29 => zp 30 (vp x29) <| KT.l 31 fun x31 => zp 32 (vb (x31 == 7)) <| zp 33 (vb (x31 == 7)) <| zl j8
  exact zk <| zk <| zk <| zk <| zk <| zp 33 (vb false) <| zl j8
  refine OW.step (OW.new (d := 4) [(vi 0), (vi 0), (vi 0), (vi 0)] (fun ad => .pointer (some ad)) 57 rfl (fun _ => by kernel_rfl) rfl rfl (fun x4 => ?_))
  refine KT.and <| KT.one 0 rfl (by kernel_rfl) rfl <| OW.step <| ocall 19 (law08_Small_sim ) fun x19 => KT.and <| KT.one 2 rfl (by kernel_rfl) rfl <| OW.step <| ocall 21 (scan_GetSummary_sim _ _) fun x21 => KT.and <| zpA 3 18 (.tuple #[(.agg #[(vi x21.1.1), (vi x21.1.2.1), (vi x21.1.2.2.1), (vi x21.1.2.2.2)]), (vb x21.2)]) <| zpA 4 22 (.agg #[(vi x21.1.1), (vi x21.1.2.1), (vi x21.1.2.2.1), (vi x21.1.2.2.2)]) <| zpA 5 23 (vb x21.2) <| KT.last 7 rfl (by kernel_rfl) rfl rfl <| OW.stA _ _ _ rfl rfl rfl rfl rfl (by kernel_rfl) <| KT.pvN 8 5 (vb x21.2) <| KT.doneN (by kernel_rfl) <| SX.seq <| zG <| zp 24 (vS x11) <| zp 25 (vi (vl x11)) <| zp 26 (vb ((vl x11) == 1)) <| zp 27 (vb ((vl x11) == 1)) <| zj 6 (fun q14 => [(33, (vb q14)), (1, (vS x11)), (3, (vb x15.2)), (4, (vp x4)), (5, (vb x21.2))]) (fun q14 => ?_) (fun j14 => ?_)
  refine zp 34 (vb q14) <| zj 6 (fun q15 => [(40, (vb q15)), (1, (vS x11)), (3, (vb x15.2)), (4, (vp x4)), (5, (vb x21.2))]) (fun q15 => ?_) (fun j15 => ?_)
  refine zp 41 (vb q15) <| zj 7 (fun q16 => [(48, (vb q16)), (3, (vb x15.2)), (4, (vp x4)), (5, (vb x21.2))]) (fun q16 => ?_) (fun j16 => ?_)
  refine zp 49 (vb q16) <| zj 2 (fun q17 => [(51, (vb q17)), (4, (vp x4)), (5, (vb x21.2))]) (fun q17 => ?_) (fun j17 => ?_)
  refine zp 52 (vb q17) <| zj 2 (fun q18 => [(54, (vb q18)), (4, (vp x4))]) (fun q18 => ?_) (fun j18 => ?_)
  refine zp 55 (vb q18) <| zj 4 (fun q19 => [(59, (vb q19))]) (fun q19 => ?_) (fun j19 => ?_)
  exact zp 0 (vb q19) <| zn <| SC.ret <| ze [.tmp 0] <| zm rfl zz
  refine KT.ite 55 rfl ?_ ?_
  refine zo <| ola 56 4 fun x56 => zp 57 (.agg #[(vi 1), (vi 0), (vi 2), (vi 9)]) <| KT.oy rfl (OY.eqlAggL (d := 58) (x := [x56.1, x56.2.1, x56.2.2.1, x56.2.2.2]) (y := [1, 0, 2, 9]) _ _ _ _ _ rfl rfl rfl rfl (by kernel_rfl) rfl rfl ?_)
  exact zp 59 (vb (eqL [x56.1, x56.2.1, x56.2.2.1, x56.2.2.2] [1, 0, 2, 9])) <| zl j19
  exact zk <| zk <| zk <| zp 59 (vb false) <| zl j19
  refine KT.ite 52 rfl ?_ ?_
  exact zp 53 (vb x21.2) <| zp 54 (vb x21.2) <| zl j18
  exact zk <| zp 54 (vb false) <| zl j18
  refine KT.ite 49 rfl ?_ ?_
  exact zp 50 (vb x15.2) <| zp 51 (vb x15.2) <| zl j17
  exact zk <| zp 51 (vb false) <| zl j17
  refine KT.ite 41 rfl ?_ ?_
  exact zp 42 (vS x11) <| zy <| oix 43 63 fun x43 => zp 44 (va x43 2) <| KT.l 45 fun x45 => KT.nw 46 (fun ad => .slice (some ad) 2 2) 3 fun x46 => zc 47 (ref00_SameInts_sim _ _) fun x47 => zp 48 (vb x47) <| zl j16
  exact zk <| zk <| zk <| zk <| zk <| zk <| zp 48 (vb false) <| zl j16
  refine KT.ite 34 rfl ?_ ?_
  exact zp 35 (vS x11) <| zy <| oix 36 63 fun x36 => zp 37 (va x36 1) <| KT.l 38 fun x38 => zp 39 (vb (x38 == 3)) <| zp 40 (vb (x38 == 3)) <| zl j15
  exact zk <| zk <| zk <| zk <| zk <| zp 40 (vb false) <| zl j15
  refine KT.ite 27 rfl ?_ ?_
  exact zp 28 (vS x11) <| zy <| oix 29 63 fun x29 => zp 30 (vp x29) <| KT.l 31 fun x31 => zp 32 (vb (x31 == 7)) <| zp 33 (vb (x31 == 7)) <| zl j14
  exact zk <| zk <| zk <| zk <| zk <| zp 33 (vb false) <| zl j14
theorem device_New_sim (p0_disks : Int) (p1_sectors : Int) : Sm Tryz.prog 7 [(vi p0_disks), (vi p1_sectors)] (fun y : ((Option Addr) × Int) => (.tuple #[(.pointer y.1), (vi y.2)])) (device_New p0_disks p1_sectors) := by
  refine sm_of 57 Tryz.func7 rfl rfl rfl fun _ => ?_
  unfold device_New
  refine zG <| zp 4 (.pointer none) <| zp 5 (vi 0) <| zn <| zq <| zG <| zp 8 (vi p0_disks) <| zp 9 (vb (decide (p0_disks < 1))) <| zp 10 (vb (decide (p0_disks < 1))) <| zj 3 (fun q1 => [(13, (vb q1)), (0, (vi p0_disks)), (1, (vi p1_sectors))]) (fun q1 => ?_) (fun j1 => ?_)
  refine zp 14 (vb q1) <| zj 3 (fun q2 => [(17, (vb q2)), (0, (vi p0_disks)), (1, (vi p1_sectors))]) (fun q2 => ?_) (fun j2 => ?_)
  refine zp 18 (vb q2) <| zj 3 (fun q3 => [(21, (vb q3)), (0, (vi p0_disks)), (1, (vi p1_sectors))]) (fun q3 => ?_) (fun j3 => ?_)
  refine zn <| SC.cond rfl ?_ ?_
  exact zG <| zp 4 (.pointer none) <| zp 5 (vi 10) <| zn <| zt <| ze [.tmp 4, .tmp 5] <| zm rfl <| zm rfl zz
  refine zw <| zG <| zp 22 (vi p1_sectors) <| zp 23 (.agg #[(.slice none 0 0), (vi p1_sectors), (vi (-1)), (vb false)]) <| KT.nw 24 (fun ad => .pointer (some ad)) 78 fun x24 => zp 6 (vp x24) <| zn <| zq <| zG <| zp 25 (vi p0_disks) <| zp 26 (vi 0) <| zn <| SC.block <| zL (σ := (Int)) (fun s4 => [(1, (vi p1_sectors)), (6, (vp x24)), (25, (vi p0_disks)), (26, (vi s4))]) fun _ _ _ s4 => zG <| zp 27 (vb (decide (s4 < p0_disks))) <| zn <| zq <| SC.cond rfl ?_ ?_
  refine zw <| zq <| SC.block <| zG <| KT.ow rfl (OW.newO (d := 28) (.map #[] 0) (fun r => .map (some r)) rfl (fun _ => by kernel_rfl) rfl rfl (fun x28 => ?_))
  refine zp 29 (.agg #[(.slice none 0 0), (.map (some x28)), (vb false), (vi (-1))]) <| KT.nw 30 (fun ad => .pointer (some ad)) 82 fun x30 => zp 7 (vp x30) <| zn <| zq <| zG <| zp 31 (vi p1_sectors) <| zp 32 (vi 0) <| zn <| SC.block <| zL (σ := (Int)) (fun s5 => [(1, (vi p1_sectors)), (6, (vp x24)), (7, (vp x30)), (25, (vi p0_disks)), (26, (vi s4)), (31, (vi p1_sectors)), (32, (vi s5))]) fun _ _ _ s5 => zG <| zp 33 (vb (decide (s5 < p1_sectors))) <| zn <| zq <| SC.cond rfl ?_ ?_
  refine zw <| zq <| SC.block <| SC.draw 11 (fun f => Nat.beq f 7 || Nat.beq f 10) rfl (by kernel_rfl) fun S6 => zpA 0 34 (vp x30) <| zpA 1 35 (vp x30) <| zpA 2 36 (vp x30) <| zpA 3 37 (vp x30) <| zA 4 rfl <| oli 38 fun x38 => KT.one 5 rfl (by kernel_rfl) rfl <| OW.step <| OW.new (d := 39) (List.replicate 64 (.int .u8 0)) (fun ad => .slice (some ad) 64 64) 5 rfl (fun _ => by kernel_rfl) rfl rfl fun x39 => KT.and <| KT.one 6 rfl (by kernel_rfl) rfl <| OW.step <| OW.new (d := 40) [(.slice (some x39) 64 64)] (fun ad => .slice (some ad) 1 1) 42 rfl (fun _ => by kernel_rfl) rfl rfl fun x40 => KT.and <| KT.last 7 rfl (by kernel_rfl) rfl rfl <| OW.append (d := 41) (s := x38) (x := ⟨some x40, 1, 1⟩) [(.slice none 0 0)] 24 42 _ _ _ _ rfl rfl rfl rfl (by kernel_rfl) (by kernel_rfl) rfl rfl rfl fun x41 => KT.pvN 8 42 (vp x30) <| KT.pvN 9 43 (vp x30) <| KT.lastN 10 rfl (by kernel_rfl) rfl rfl (OW.st _ _ _ rfl rfl rfl rfl (by kernel_rfl) rfl ?_)
  exact KT.doneN (by kernel_rfl) <| SX.block <| SX.seq <| zg <| zp 44 (vi (w64 (s5 + 1))) <| zp 32 (vi (w64 (s5 + 1))) <| KT.nil zX
  exact SC.exit <| SX.then_exit <| SX.loop_exit <| SX.block_hit <| SX.seq <| zg <| zp 45 (vp x24) <| zp 46 (vp x24) <| zp 47 (vp x24) <| zp 48 (vp x24) <| KT.l 49 fun x49 => zp 50 (vp x30) <| KT.nw 51 (fun ad => .slice (some ad) 1 1) 79 fun x51 => zo <| oapp 52 79 fun x52 => zp 53 (vp x24) <| zp 54 (vp x24) <| KT.s <| KT.nil <| SX.block <| SX.seq <| zg <| zp 55 (vi (w64 (s4 + 1))) <| zp 26 (vi (w64 (s4 + 1))) <| KT.nil zX
  exact SC.exit <| SX.then_exit <| SX.loop_exit <| SX.block_hit <| SX.seq <| zG <| zp 56 (vp x24) <| zp 4 (vp x24) <| zp 5 (vi 0) <| zn <| SC.ret <| ze [.tmp 4, .tmp 5] <| zm rfl <| zm rfl zz
  refine KT.ite 18 rfl ?_ ?_
  exact zk <| zk <| zp 21 (vb true) <| zl j3
  exact zp 19 (vi p1_sectors) <| zp 20 (vb (decide (p1_sectors > 4096))) <| zp 21 (vb (decide (p1_sectors > 4096))) <| zl j3
  refine KT.ite 14 rfl ?_ ?_
  exact zk <| zk <| zp 17 (vb true) <| zl j2
  exact zp 15 (vi p1_sectors) <| zp 16 (vb (decide (p1_sectors < 1))) <| zp 17 (vb (decide (p1_sectors < 1))) <| zl j2
  refine KT.ite 10 rfl ?_ ?_
  exact zk <| zk <| zp 13 (vb true) <| zl j1
  exact zp 11 (vi p0_disks) <| zp 12 (vb (decide (p0_disks > 17))) <| zp 13 (vb (decide (p0_disks > 17))) <| zl j1
theorem geo_Sectors_sim (p0_g : (Int × Int × Int)) : Sm Tryz.prog 8 [(.agg #[(vi p0_g.1), (vi p0_g.2.1), (vi p0_g.2.2)])] (Value.int .i64) (geo_Sectors p0_g) := by
  refine sm_of 12 Tryz.func8 rfl rfl rfl fun _ => ?_
  unfold geo_Sectors
  refine zG <| KT.nw 1 (fun ad => .pointer (some ad)) 33 fun x1 => zp 2 (vi 0) <| zn <| zq <| zG <| zo <| ola 3 3 fun x3 => zc 4 (geo_Right_sim _) fun x4 => zp 5 (vb (!x4)) <| zn <| SC.cond rfl ?_ ?_
  exact zG <| zp 2 (vi 0) <| zn <| zt <| ze [.tmp 2] <| zm rfl zz
  exact zw <| zG <| zp 6 (va x1 2) <| KT.l 7 fun x7 => zp 8 (va x1 1) <| KT.l 9 fun x9 => zp 10 (vi (w64 (x7 * x9))) <| zp 11 (vi (w64 (5 + (w64 (x7 * x9))))) <| zp 2 (vi (w64 (5 + (w64 (x7 * x9))))) <| zn <| SC.ret <| ze [.tmp 2] <| zm rfl zz
theorem device_Rack_Doom_sim (p0_r : (Option Addr)) (p1_disk : Int) (p2_calls : Int) : Sm Tryz.prog 13 [(.pointer p0_r), (vi p1_disk), (vi p2_calls)] (Value.int .i64) (device_Rack_Doom p0_r p1_disk p2_calls) := by
  refine sm_of 29 Tryz.func13 rfl rfl rfl fun _ => ?_
  unfold device_Rack_Doom
  refine zG <| zp 6 (vi 0) <| zn <| zq <| zG <| zp 7 (vi p1_disk) <| zp 8 (vb (decide (p1_disk < 0))) <| zp 9 (vb (decide (p1_disk < 0))) <| zj 8 (fun q1 => [(17, (vb q1)), (0, (.pointer p0_r)), (1, (vi p1_disk)), (2, (vi p2_calls))]) (fun q1 => ?_) (fun j1 => ?_)
  refine zn <| SC.cond rfl ?_ ?_
  exact zG <| zp 6 (vi 11) <| zn <| zt <| ze [.tmp 6] <| zm rfl zz
  exact zw <| zG <| zp 18 (.pointer p0_r) <| KT.nm 19 fun x19 => zp 20 (vp x19) <| KT.l 21 fun x21 => zp 22 (vi p1_disk) <| zy <| oix 23 79 fun x23 => KT.l 24 fun x24 => zp 25 (vi p2_calls) <| zp 26 (vi (maxI p2_calls (-1))) <| KT.nm 27 fun x27 => zp 28 (va x27 3) <| KT.s <| zN <| zp 6 (vi 0) <| zn <| SC.ret <| ze [.tmp 6] <| zm rfl zz
  refine KT.ite 9 rfl ?_ ?_
  exact zk <| zk <| zk <| zk <| zk <| zk <| zk <| zp 17 (vb true) <| zl j1
  exact zp 10 (vi p1_disk) <| zp 11 (.pointer p0_r) <| KT.nm 12 fun x12 => zp 13 (vp x12) <| KT.l 14 fun x14 => zp 15 (vi (vl x14)) <| zp 16 (vb (decide (p1_disk ≥ (vl x14)))) <| zp 17 (vb (decide (p1_disk ≥ (vl x14)))) <| zl j1
theorem device_Rack_Size_sim (p0_r : (Option Addr)) : Sm Tryz.prog 28 [(.pointer p0_r)] (fun y : (Int × Int) => (.tuple #[(vi y.1), (vi y.2)])) (device_Rack_Size p0_r) := by
  refine sm_of 13 Tryz.func28 rfl rfl rfl fun _ => ?_
  unfold device_Rack_Size
  exact zG <| zp 2 (vi 0) <| zp 3 (vi 0) <| zn <| zq <| SC.draw 11 (fun _ => false) rfl (by kernel_rfl) fun S1 => zpA 0 4 (.pointer p0_r) <| zB 1 rfl <| onil 5 fun x5 => zpA 2 6 (vp x5) <| zA 3 rfl <| oli 7 fun x7 => zpA 4 8 (vi (vl x7)) <| zpA 5 9 (.pointer p0_r) <| zB 6 rfl <| onil 10 fun x10 => zpA 7 11 (va x10 1) <| zA 8 rfl <| oli 12 fun x12 => zpA 9 2 (vi (vl x7)) <| zpA 10 3 (vi x12) <| KT.doneA (by kernel_rfl) <| SX.seq <| SC.ret <| ze [.tmp 2, .tmp 3] <| zm rfl <| zm rfl zz
theorem bank_fits_sim (p0_g : (Int × Int × Int)) (p1_m : (Int × Int × Int)) : Sm Tryz.prog 29 [(.agg #[(vi p0_g.1), (vi p0_g.2.1), (vi p0_g.2.2)]), (.agg #[(vi p1_m.1), (vi p1_m.2.1), (vi p1_m.2.2)])] Value.bool (bank_fits p0_g p1_m) := by
  refine sm_of 22 Tryz.func29 rfl rfl rfl fun _ => ?_
  unfold bank_fits
  refine zG <| KT.nw 2 (fun ad => .pointer (some ad)) 33 fun x2 => KT.nw 3 (fun ad => .pointer (some ad)) 23 fun x3 => zp 4 (vb false) <| zn <| zq <| zG <| zp 5 (va x3 2) <| KT.l 6 fun x6 => zn <| SC.block <| zG <| zp 8 (vb (x6 == 0)) <| zp 7 (vb (x6 == 0)) <| zn <| SC.cond rfl ?_ ?_
  exact zG <| zp 4 (vb true) <| zn <| SC.ret <| SX.block_ret <| SX.then_ret <| ze [.tmp 4] <| zm rfl zz
  refine zq <| zG <| zp 10 (vb (x6 == 1)) <| zp 9 (vb (x6 == 1)) <| zn <| SC.join (β := (Bool)) (fun b1 => [(2, (vp x2)), (3, (vp x3)), (9, (vb b1))]) (fun b1 => ?_) (fun j1 => ?_)
  refine SX.seq <| SC.cond rfl ?_ ?_
  refine zG <| zp 12 (va x3 1) <| KT.l 13 fun x13 => zp 14 (vb (decide (x13 ≥ 0))) <| zp 15 (vb (decide (x13 ≥ 0))) <| zj 6 (fun q2 => [(21, (vb q2))]) (fun q2 => ?_) (fun j2 => ?_)
  exact zp 4 (vb q2) <| zn <| SC.ret <| SX.block_ret <| SX.then_ret <| ze [.tmp 4] <| zm rfl zz
  refine KT.ite 15 rfl ?_ ?_
  exact zp 16 (va x3 1) <| KT.l 17 fun x17 => zp 18 (vp x2) <| KT.l 19 fun x19 => zp 20 (vb (decide (x17 < x19))) <| zp 21 (vb (decide (x17 < x19))) <| zl j2
  exact zk <| zk <| zk <| zk <| zk <| zp 21 (vb false) <| zl j2
  exact SC.skip <| SX.block <| SX.seq <| zG <| zp 4 (vb false) <| zn <| SC.ret <| ze [.tmp 4] <| zm rfl zz
  refine SC.cond rfl ?_ ?_
  exact SC.skip <| zf j1
  exact zg <| zp 11 (vb (x6 == 2)) <| zp 9 (vb (x6 == 2)) <| KT.nil <| zf j1
theorem bank_Open_sim (p0_r : (Option Addr)) (p1_g : (Int × Int × Int)) (p2_m : (Int × Int × Int)) : Sm Tryz.prog 15 [(.pointer p0_r), (.agg #[(vi p1_g.1), (vi p1_g.2.1), (vi p1_g.2.2)]), (.agg #[(vi p2_m.1), (vi p2_m.2.1), (vi p2_m.2.2)])] (fun y : ((Option Addr) × Int) => (.tuple #[(.pointer y.1), (vi y.2)])) (bank_Open p0_r p1_g p2_m) := by
  refine sm_of 42 Tryz.func15 rfl rfl rfl fun _ => ?_
  unfold bank_Open
  refine zG <| KT.nw 4 (fun ad => .pointer (some ad)) 33 fun x4 => KT.nw 5 (fun ad => .pointer (some ad)) 23 fun x5 => zp 6 (.pointer none) <| zp 7 (vi 0) <| zN <| zp 11 (.pointer p0_r) <| zc 12 (device_Rack_Size_sim _) fun x12 => zp 10 (.tuple #[(vi x12.1), (vi x12.2)]) <| zp 13 (vi x12.1) <| zp 14 (vi x12.2) <| zp 8 (vi x12.1) <| zp 9 (vi x12.2) <| zn <| zq <| zG <| zo <| ola 15 3 fun x15 => zc 16 (geo_Right_sim _) fun x16 => zp 17 (vb (!x16)) <| zp 18 (vb (!x16)) <| zj 6 (fun q1 => [(24, (vb q1)), (0, (.pointer p0_r)), (4, (vp x4)), (5, (vp x5)), (9, (vi x12.2))]) (fun q1 => ?_) (fun j1 => ?_)
  refine zp 25 (vb q1) <| zj 5 (fun q2 => [(30, (vb q2)), (0, (.pointer p0_r)), (4, (vp x4)), (5, (vp x5))]) (fun q2 => ?_) (fun j2 => ?_)
  refine zp 31 (vb q2) <| zj 5 (fun q3 => [(36, (vb q3)), (0, (.pointer p0_r)), (4, (vp x4)), (5, (vp x5))]) (fun q3 => ?_) (fun j3 => ?_)
  refine zn <| SC.cond rfl ?_ ?_
  exact zG <| zp 6 (.pointer none) <| zp 7 (vi 10) <| zn <| zt <| ze [.tmp 6, .tmp 7] <| zm rfl <| zm rfl zz
  exact zw <| zG <| zp 37 (.pointer p0_r) <| zo <| ola 38 3 fun x38 => zo <| ola 39 3 fun x39 => zp 40 (.agg #[(.pointer p0_r), (vi x38.1), (vi x38.2.1), (vi x38.2.2), (vi x39.1), (vi x39.2.1), (vi x39.2.2)]) <| KT.nw 41 (fun ad => .pointer (some ad)) 88 fun x41 => zp 6 (vp x41) <| zp 7 (vi 0) <| zn <| SC.ret <| ze [.tmp 6, .tmp 7] <| zm rfl <| zm rfl zz
  refine KT.ite 31 rfl ?_ ?_
  exact zk <| zk <| zk <| zk <| zp 36 (vb true) <| zl j3
  exact zo <| ola 32 3 fun x32 => zo <| ola 33 3 fun x33 => zc 34 (bank_fits_sim _ _) fun x34 => zp 35 (vb (!x34)) <| zp 36 (vb (!x34)) <| zl j3
  refine KT.ite 25 rfl ?_ ?_
  exact zk <| zk <| zk <| zk <| zp 30 (vb true) <| zl j2
  exact zp 26 (vi x12.2) <| zo <| ola 27 3 fun x27 => zc 28 (geo_Sectors_sim _) fun x28 => zp 29 (vb (x12.2 != x28)) <| zp 30 (vb (x12.2 != x28)) <| zl j2
  refine KT.ite 18 rfl ?_ ?_
  exact zk <| zk <| zk <| zk <| zk <| zp 24 (vb true) <| zl j1
  exact zp 19 (vi x12.1) <| zp 20 (vp x4) <| KT.l 21 fun x21 => zp 22 (vi (w64 (x21 + 1))) <| zp 23 (vb (x12.1 != (w64 (x21 + 1)))) <| zp 24 (vb (x12.1 != (w64 (x21 + 1)))) <| zl j1
theorem bank_Bank_disk_sim (p0_b : (Option Addr)) (p1_slot : Int) : Sm Tryz.prog 66 [(.pointer p0_b), (vi p1_slot)] (fun y : (Int × Bool) => (.tuple #[(vi y.1), (vb y.2)])) (bank_Bank_disk p0_b p1_slot) := by
  refine sm_of 38 Tryz.func66 rfl rfl rfl fun _ => ?_
  unfold bank_Bank_disk
  refine zG <| zp 4 (vi 0) <| zp 5 (vb false) <| zn <| zq <| zG <| zp 6 (vi p1_slot) <| zp 7 (vb (decide (p1_slot < 0))) <| zp 8 (vb (decide (p1_slot < 0))) <| zj 8 (fun q1 => [(16, (vb q1)), (0, (.pointer p0_b)), (1, (vi p1_slot))]) (fun q1 => ?_) (fun j1 => ?_)
  refine zn <| SC.cond rfl ?_ ?_
  exact zG <| zp 4 (vi 0) <| zp 5 (vb false) <| zn <| zt <| ze [.tmp 4, .tmp 5] <| zm rfl <| zm rfl zz
  refine zw <| zq <| zG <| zp 17 (.pointer p0_b) <| KT.nm 18 fun x18 => zp 19 (va x18 4) <| zp 20 (.pointer (some (Addr.add (Addr.add x18 4) 2))) <| KT.l 21 fun x21 => zp 22 (vb (x21 != 0)) <| zp 23 (vb (x21 != 0)) <| zj 8 (fun q2 => [(31, (vb q2)), (0, (.pointer p0_b)), (1, (vi p1_slot))]) (fun q2 => ?_) (fun j2 => ?_)
  refine zn <| SC.cond rfl ?_ ?_
  exact zG <| zp 32 (.pointer p0_b) <| KT.nm 33 fun x33 => zp 34 (va x33 1) <| zp 35 (va x33 1) <| KT.l 36 fun x36 => zp 4 (vi x36) <| zp 5 (vb true) <| zn <| zt <| ze [.tmp 4, .tmp 5] <| zm rfl <| zm rfl zz
  exact zw <| zG <| zp 37 (vi p1_slot) <| zp 4 (vi p1_slot) <| zp 5 (vb true) <| zn <| SC.ret <| ze [.tmp 4, .tmp 5] <| zm rfl <| zm rfl zz
  refine KT.ite 23 rfl ?_ ?_
  exact zp 24 (.pointer p0_b) <| KT.nm 25 fun x25 => zp 26 (va x25 4) <| zp 27 (.pointer (some (Addr.add (Addr.add x25 4) 1))) <| KT.l 28 fun x28 => zp 29 (vi p1_slot) <| zp 30 (vb (x28 == p1_slot)) <| zp 31 (vb (x28 == p1_slot)) <| zl j2
  exact zk <| zk <| zk <| zk <| zk <| zk <| zk <| zp 31 (vb false) <| zl j2
  refine KT.ite 8 rfl ?_ ?_
  exact zk <| zk <| zk <| zk <| zk <| zk <| zk <| zp 16 (vb true) <| zl j1
  exact zp 9 (vi p1_slot) <| zp 10 (.pointer p0_b) <| KT.nm 11 fun x11 => zp 12 (va x11 1) <| zp 13 (va x11 1) <| KT.l 14 fun x14 => zp 15 (vb (decide (p1_slot ≥ x14))) <| zp 16 (vb (decide (p1_slot ≥ x14))) <| zl j1
theorem bank_Bank_disks_sim (p0_b : (Option Addr)) (p1_yield : Value) : Sm Tryz.prog 33 [(.pointer p0_b), p1_yield] (fun y : Unit => (.tuple #[])) (bank_Bank_disks (cvOf Tryz.prog) p0_b p1_yield) := by
  refine sm_of 39 Tryz.func33 rfl rfl rfl fun _ => ?_
  unfold bank_Bank_disks
  refine zq <| zG <| zp 7 (.pointer p0_b) <| KT.nm 8 fun x8 => zp 9 (va x8 1) <| zp 10 (va x8 1) <| KT.l 11 fun x11 => zp 12 (vi 0) <| zn <| SC.block <| zL (σ := (Int)) (fun s1 => [(0, (.pointer p0_b)), (1, p1_yield), (11, (vi x11)), (12, (vi s1))]) fun _ _ _ s1 => zG <| zp 13 (vb (decide (s1 < x11))) <| zn <| zq <| SC.cond rfl ?_ ?_
  refine zw <| zq <| SC.block <| zG <| zp 14 (vi s1) <| zp 4 (vi s1) <| zN <| zp 16 (.pointer p0_b) <| zp 17 (vi s1) <| zc 18 (bank_Bank_disk_sim _ _) fun x18 => zp 15 (.tuple #[(vi x18.1), (vb x18.2)]) <| zp 19 (vi x18.1) <| zp 20 (vb x18.2) <| zp 5 (vi x18.1) <| zp 6 (vb x18.2) <| zN <| zp 21 p1_yield <| zp 22 (vi x18.1) <| KT.ow rfl (OW.callv (d := 23) (enc := Value.bool) (vs := [(vi x18.1)]) _ [.tmp 22] _ rfl rfl rfl rfl rfl (fun x23 => ?_))
  refine zp 24 (vb (!x23)) <| zn <| SC.cond rfl ?_ ?_
  exact SC.ret <| SX.block_ret <| SX.then_ret <| SX.loop_ret <| SX.block_ret <| SX.then_ret <| ze [] zz
  exact SC.skip <| SX.block <| SX.seq <| zg <| zp 25 (vi (w64 (s1 + 1))) <| zp 12 (vi (w64 (s1 + 1))) <| KT.nil zX
  refine SC.exit <| SX.then_exit <| SX.loop_exit <| SX.block_hit <| SX.seq <| zG <| zp 26 (.pointer p0_b) <| KT.nm 27 fun x27 => zp 28 (va x27 4) <| zp 29 (.pointer (some (Addr.add (Addr.add x27 4) 2))) <| KT.l 30 fun x30 => zp 31 (vb (x30 == 0)) <| zn <| SC.cond rfl ?_ ?_
  refine zg <| zp 32 p1_yield <| zp 33 (.pointer p0_b) <| KT.nm 34 fun x34 => zp 35 (va x34 1) <| zp 36 (va x34 1) <| KT.l 37 fun x37 => KT.ow rfl (OW.callv (d := 38) (enc := Value.bool) (vs := [(vi x37)]) _ [.tmp 37] _ rfl rfl rfl rfl rfl (fun x38 => ?_))
  exact KT.nil <| SX.endBody [] rfl zz
  exact SC.skip <| SX.endBody [] rfl zz
theorem device_Rack_disk_sim (p0_r : (Option Addr)) (p1_k : Int) (p2_sector : Int) : Sm Tryz.prog 103 [(.pointer p0_r), (vi p1_k), (vi p2_sector)] (fun y : ((Option Addr) × Int) => (.tuple #[(.pointer y.1), (vi y.2)])) (device_Rack_disk p0_r p1_k p2_sector) := by
  refine sm_of 42 Tryz.func103 rfl rfl rfl fun _ => ?_
  unfold device_Rack_disk
  refine zG <| zp 6 (.pointer none) <| zp 7 (vi 0) <| zn <| zq <| zG <| zp 8 (.pointer p0_r) <| KT.nm 9 fun x9 => zp 10 (va x9 3) <| KT.l 11 fun x11 => zn <| SC.cond rfl ?_ ?_
  exact zG <| zp 6 (.pointer none) <| zp 7 (vi 12) <| zn <| zt <| ze [.tmp 6, .tmp 7] <| zm rfl <| zm rfl zz
  refine zw <| zq <| zG <| zp 12 (vi p1_k) <| zp 13 (vb (decide (p1_k < 0))) <| zp 14 (vb (decide (p1_k < 0))) <| zj 8 (fun q1 => [(22, (vb q1)), (0, (.pointer p0_r)), (1, (vi p1_k)), (2, (vi p2_sector))]) (fun q1 => ?_) (fun j1 => ?_)
  refine zp 23 (vb q1) <| zj 3 (fun q2 => [(26, (vb q2)), (0, (.pointer p0_r)), (1, (vi p1_k)), (2, (vi p2_sector))]) (fun q2 => ?_) (fun j2 => ?_)
  refine zp 27 (vb q2) <| zj 7 (fun q3 => [(34, (vb q3)), (0, (.pointer p0_r)), (1, (vi p1_k))]) (fun q3 => ?_) (fun j3 => ?_)
  refine zn <| SC.cond rfl ?_ ?_
  exact zG <| zp 6 (.pointer none) <| zp 7 (vi 11) <| zn <| zt <| ze [.tmp 6, .tmp 7] <| zm rfl <| zm rfl zz
  exact zw <| zG <| zp 35 (.pointer p0_r) <| KT.nm 36 fun x36 => zp 37 (vp x36) <| KT.l 38 fun x38 => zp 39 (vi p1_k) <| zy <| oix 40 79 fun x40 => KT.l 41 fun x41 => zp 6 (.pointer x41) <| zp 7 (vi 0) <| zn <| SC.ret <| ze [.tmp 6, .tmp 7] <| zm rfl <| zm rfl zz
  refine KT.ite 27 rfl ?_ ?_
  exact zk <| zk <| zk <| zk <| zk <| zk <| zp 34 (vb true) <| zl j3
  exact zp 28 (vi p2_sector) <| zp 29 (.pointer p0_r) <| KT.nm 30 fun x30 => zp 31 (va x30 1) <| KT.l 32 fun x32 => zp 33 (vb (decide (p2_sector ≥ x32))) <| zp 34 (vb (decide (p2_sector ≥ x32))) <| zl j3
  refine KT.ite 23 rfl ?_ ?_
  exact zk <| zk <| zp 26 (vb true) <| zl j2
  exact zp 24 (vi p2_sector) <| zp 25 (vb (decide (p2_sector < 0))) <| zp 26 (vb (decide (p2_sector < 0))) <| zl j2
  refine KT.ite 14 rfl ?_ ?_
  exact zk <| zk <| zk <| zk <| zk <| zk <| zk <| zp 22 (vb true) <| zl j1
  exact zp 15 (vi p1_k) <| zp 16 (.pointer p0_r) <| KT.nm 17 fun x17 => zp 18 (vp x17) <| KT.l 19 fun x19 => zp 20 (vi (vl x19)) <| zp 21 (vb (decide (p1_k ≥ (vl x19)))) <| zp 22 (vb (decide (p1_k ≥ (vl x19)))) <| zl j1
theorem device_Rack_call_sim (p0_r : (Option Addr)) : Sm Tryz.prog 104 [(.pointer p0_r)] Value.bool (device_Rack_call p0_r) := by
  refine sm_of 55 Tryz.func104 rfl rfl rfl fun _ => ?_
  unfold device_Rack_call
  refine zG <| zp 2 (vb false) <| zn <| zq <| zG <| zp 5 (.pointer p0_r) <| KT.nm 6 fun x6 => zp 7 (va x6 2) <| KT.l 8 fun x8 => zp 9 (vb (x8 == 0)) <| zn <| SC.cond rfl ?_ ?_
  exact zG <| zp 10 (.pointer p0_r) <| KT.nm 11 fun x11 => zp 12 (va x11 3) <| KT.s <| zN <| zp 2 (vb false) <| zn <| zt <| ze [.tmp 2] <| zm rfl zz
  refine zw <| zG <| zp 13 (.pointer p0_r) <| zp 14 (.pointer p0_r) <| KT.nm 15 fun x15 => zp 16 (va x15 2) <| KT.l 17 fun x17 => zp 18 (vi (w64 (x17 - 1))) <| zp 19 (vi (maxI (w64 (x17 - 1)) (-1))) <| KT.nm 20 fun x20 => zp 21 (va x20 2) <| KT.s <| zn <| zq <| zG <| zp 22 (.pointer p0_r) <| KT.nm 23 fun x23 => zp 24 (vp x23) <| KT.l 25 fun x25 => zp 26 (vi (vl x25)) <| zp 27 (vi 0) <| zn <| SC.block <| zL (σ := (Int)) (fun s1 => [(25, (vS x25)), (26, (vi (vl x25))), (27, (vi s1))]) fun _ _ _ s1 => zG <| zp 28 (vb (decide (s1 < (vl x25)))) <| zn <| zq <| SC.cond rfl ?_ ?_
  refine zw <| zq <| SC.block <| zG <| zy <| oix 29 79 fun x29 => KT.l 30 fun x30 => zp 4 (.pointer x30) <| zN <| zp 31 (.pointer x30) <| zp 32 (.pointer x30) <| KT.nm 33 fun x33 => zp 34 (va x33 2) <| KT.l 35 fun x35 => zp 36 (vb x35) <| zj 6 (fun q2 => [(42, (vb q2)), (4, (.pointer x30)), (25, (vS x25)), (26, (vi (vl x25))), (27, (vi s1)), (31, (.pointer x30))]) (fun q2 => ?_) (fun j2 => ?_)
  exact KT.nm 43 fun x43 => zp 44 (va x43 2) <| KT.s <| zn <| zg <| zp 45 (.pointer x30) <| zp 46 (.pointer x30) <| KT.nm 47 fun x47 => zp 48 (va x47 3) <| KT.l 49 fun x49 => zp 50 (vi (w64 (x49 - 1))) <| zp 51 (vi (maxI (w64 (x49 - 1)) (-1))) <| KT.nm 52 fun x52 => zp 53 (va x52 3) <| KT.s <| KT.nil <| SX.block <| SX.seq <| zg <| zp 54 (vi (w64 (s1 + 1))) <| zp 27 (vi (w64 (s1 + 1))) <| KT.nil zX
  refine KT.ite 36 rfl ?_ ?_
  exact zk <| zk <| zk <| zk <| zk <| zp 42 (vb true) <| zl j2
  exact zp 37 (.pointer x30) <| KT.nm 38 fun x38 => zp 39 (va x38 3) <| KT.l 40 fun x40 => zp 41 (vb (x40 == 0)) <| zp 42 (vb (x40 == 0)) <| zl j2
  exact SC.exit <| SX.then_exit <| SX.loop_exit <| SX.block_hit <| SX.seq <| zG <| zp 2 (vb true) <| zn <| SC.ret <| ze [.tmp 2] <| zm rfl zz
theorem device_Rack_counted_sim (p0_r : (Option Addr)) (p1_k : Int) (p2_sector : Int) (p3_size : Int) : Sm Tryz.prog 67 [(.pointer p0_r), (vi p1_k), (vi p2_sector), (vi p3_size)] (fun y : ((Option Addr) × Int) => (.tuple #[(.pointer y.1), (vi y.2)])) (device_Rack_counted p0_r p1_k p2_sector p3_size) := by
  refine sm_of 36 Tryz.func67 rfl rfl rfl fun _ => ?_
  unfold device_Rack_counted
  refine zG <| zp 8 (.pointer none) <| zp 9 (vi 0) <| zN <| zp 13 (.pointer p0_r) <| zp 14 (vi p1_k) <| zp 15 (vi p2_sector) <| zc 16 (device_Rack_disk_sim _ _ _) fun x16 => zp 12 (.tuple #[(.pointer x16.1), (vi x16.2)]) <| zp 17 (.pointer x16.1) <| zp 18 (vi x16.2) <| zp 10 (.pointer x16.1) <| zp 11 (vi x16.2) <| zn <| zq <| SC.block <| zG <| zp 20 (vi x16.2) <| zp 21 (vb (x16.2 != 0)) <| zp 19 (vb (x16.2 != 0)) <| zn <| SC.cond rfl ?_ ?_
  exact zG <| zp 22 (vi x16.2) <| zp 8 (.pointer none) <| zp 9 (vi x16.2) <| zn <| SC.ret <| SX.block_ret <| SX.then_ret <| ze [.tmp 8, .tmp 9] <| zm rfl <| zm rfl zz
  refine zG <| zp 24 (vi p3_size) <| zp 25 (vb (p3_size != 64)) <| zp 23 (vb (p3_size != 64)) <| zn <| SC.cond rfl ?_ ?_
  exact zG <| zp 8 (.pointer none) <| zp 9 (vi 11) <| zn <| SC.ret <| SX.block_ret <| SX.then_ret <| ze [.tmp 8, .tmp 9] <| zm rfl <| zm rfl zz
  refine zG <| zp 27 (.pointer p0_r) <| zc 28 (device_Rack_call_sim _) fun x28 => zp 29 (vb (!x28)) <| zp 26 (vb (!x28)) <| zn <| SC.cond rfl ?_ ?_
  exact zG <| zp 8 (.pointer none) <| zp 9 (vi 12) <| zn <| SC.ret <| SX.block_ret <| SX.then_ret <| ze [.tmp 8, .tmp 9] <| zm rfl <| zm rfl zz
  refine zG <| zp 31 (.pointer x16.1) <| KT.nm 32 fun x32 => zp 33 (va x32 2) <| KT.l 34 fun x34 => zp 30 (vb x34) <| KT.nil <| zS (T' := [(10, (.pointer x16.1)), (30, (vb x34))]) <| SX.seq <| SC.cond rfl ?_ ?_
  exact zG <| zp 8 (.pointer none) <| zp 9 (vi 13) <| zn <| SC.ret <| SX.block_ret <| SX.then_ret <| ze [.tmp 8, .tmp 9] <| zm rfl <| zm rfl zz
  exact SC.skip <| SX.block <| SX.seq <| zG <| zp 35 (.pointer x16.1) <| zp 8 (.pointer x16.1) <| zp 9 (vi 0) <| zn <| SC.ret <| ze [.tmp 8, .tmp 9] <| zm rfl <| zm rfl zz
theorem device_Rack_Flush_sim (p0_r : (Option Addr)) (p1_disk : Int) : Sm Tryz.prog 34 [(.pointer p0_r), (vi p1_disk)] (Value.int .i64) (device_Rack_Flush p0_r p1_disk) := by
  refine sm_of 39 Tryz.func34 rfl rfl rfl fun _ => ?_
  unfold device_Rack_Flush
  refine zG <| zp 4 (vi 0) <| zN <| zp 10 (.pointer p0_r) <| zp 11 (vi p1_disk) <| zc 12 (device_Rack_counted_sim _ _ _ _) fun x12 => zp 9 (.tuple #[(.pointer x12.1), (vi x12.2)]) <| zp 13 (.pointer x12.1) <| zp 14 (vi x12.2) <| zp 5 (.pointer x12.1) <| zp 6 (vi x12.2) <| zn <| zq <| zG <| zp 15 (vi x12.2) <| zp 16 (vb (x12.2 == 0)) <| zn <| SC.cond rfl ?_ ?_
  refine zq <| zG <| zp 17 (.pointer x12.1) <| KT.nm 18 fun x18 => zp 19 (va x18 1) <| KT.l 20 fun x20 => KT.ow rfl (OW.rangeMap (d := 21) _ _ 3 42 rfl rfl (by kernel_rfl) rfl rfl (fun x21 => ?_))
  refine zn <| SC.block <| zL (σ := Unit) (fun s1 => [(5, (.pointer x12.1)), (6, (vi x12.2)), (21, (vp x21))]) fun _ _ _ s1 => zG <| KT.ow rfl (OW.next (d := 22) _ rfl rfl rfl rfl (fun y22 => ?_))
  refine KT.opt (y := y22) 22 rfl ?_ (fun e22 => ?_)
  refine zp 23 (vb false) <| zn <| zq <| SC.cond_false rfl <| SC.exit <| SX.then_exit <| SX.loop_exit <| SX.block_hit <| SX.seq <| zg <| zp 34 (.pointer x12.1) <| KT.nm 35 fun x35 => zp 36 (va x35 1) <| KT.l 37 fun x37 => KT.ow rfl (OW.clearMap0 _ _ 3 42 rfl rfl (by kernel_rfl) rfl ?_)
  exact zN <| zp 38 (vi x12.2) <| zp 4 (vi x12.2) <| zn <| SC.ret <| ze [.tmp 4] <| zm rfl zz
  refine zp 23 (vb true) <| zn <| zq <| SC.cond_true rfl <| zw <| SC.block <| zG <| KT.ow rfl (OW.entry (d := 24) (ek := (Value.int .i64)) (evv := vS) _ rfl rfl rfl rfl (fun x24 => ?_))
  exact zp 25 (vi x24.1) <| zp 26 (vS x24.2) <| zp 7 (vi x24.1) <| zp 8 (vS x24.2) <| zn <| zg <| zp 27 (.pointer x12.1) <| KT.nm 28 fun x28 => zp 29 (vp x28) <| KT.l 30 fun x30 => zp 31 (vi x24.1) <| zp 32 (vS x24.2) <| zy <| oix 33 42 fun x33 => KT.s <| KT.nil <| SX.block zX
  exact zw <| zG <| zp 38 (vi x12.2) <| zp 4 (vi x12.2) <| zn <| SC.ret <| ze [.tmp 4] <| zm rfl zz
theorem bank_Bank_Flush_sim (p0_b : (Option Addr)) : Sm Tryz.prog 17 [(.pointer p0_b)] (Value.int .i64) (bank_Bank_Flush (cvOf Tryz.prog) p0_b) := by
  refine sm_of 17 Tryz.func17 rfl rfl rfl fun _ => ?_
  unfold bank_Bank_Flush
  refine zG <| KT.nw 1 (fun ad => .pointer (some ad)) 44 fun x1 => KT.nw 2 (fun ad => .pointer (some ad)) 28 fun x2 => zn <| zq <| zG <| KT.l 5 fun x5 => zp 6 (.func (.func fid_bank_Bank_disks) #[(.pointer x5)] #[]) <| zn <| SC.block <| SC.rangeF (ξ := (Int)) (τ := (Int)) (fv := (.func (.func fid_bank_Bank_disks) #[(.pointer x5)] #[])) (ps := [7]) (encX := (fun x_1 : (Int) => [(vi x_1)])) (fun t_1 => [(1, (vp x1)), (2, (vp x2)), (3, (vi t_1))]) rfl (fun _ => rfl) rfl (fun _ x_1 _ _ h1 => ?_) (fun _ _ _ t_1 => ?_) (fun D1 => ?_) (fun D1 => ?_) (fun D1 i1 => ?_)
  exact zg <| zp 3 (vi x_1) <| KT.nil <| SX.leafP h1 (.cons rfl (.cons rfl (.cons rfl (.nil))))
  refine SC.block <| zG <| KT.l 8 fun x8 => KT.nm 9 fun x9 => zp 10 (vp x9) <| KT.l 11 fun x11 => zp 12 (vi t_1) <| zc 13 (device_Rack_Flush_sim _ _) fun x13 => zp 4 (vi x13) <| zN <| zp 14 (vi x13) <| zp 15 (vb (x13 == 12)) <| zn <| SC.cond rfl ?_ ?_
  exact zG <| zp 16 (vi x13) <| KT.s <| zn <| SC.ret <| SX.block_ret SX.round_ret
  exact SC.skip <| SX.block SX.round_next
  exact SX.block <| SX.seq <| zG <| KT.s <| zn <| SC.ret <| ze [.cell 2 28] <| RS.cell rfl (by kernel_rfl) fun r2 => zz
  exact SX.block_ret <| SX.then_ret <| ze [.cell 2 28] <| RS.cell rfl (by kernel_rfl) fun r2 => zz
  exact SX.fail
theorem device_Rack_Off_sim (p0_r : (Option Addr)) : Sm Tryz.prog 71 [(.pointer p0_r)] Value.bool (device_Rack_Off p0_r) := by
  refine sm_of 7 Tryz.func71 rfl rfl rfl fun _ => ?_
  unfold device_Rack_Off
  exact zG <| zp 2 (vb false) <| zN <| zp 3 (.pointer p0_r) <| KT.nm 4 fun x4 => zp 5 (va x4 3) <| KT.l 6 fun x6 => zp 2 (vb x6) <| zn <| SC.ret <| ze [.tmp 2] <| zm rfl zz
theorem bank_Bank_Off_sim (p0_b : (Option Addr)) : Sm Tryz.prog 37 [(.pointer p0_b)] Value.bool (bank_Bank_Off p0_b) := by
  refine sm_of 8 Tryz.func37 rfl rfl rfl fun _ => ?_
  unfold bank_Bank_Off
  exact zG <| zp 2 (vb false) <| zN <| zp 3 (.pointer p0_b) <| KT.nm 4 fun x4 => zp 5 (vp x4) <| KT.l 6 fun x6 => zc 7 (device_Rack_Off_sim _) fun x7 => zp 2 (vb x7) <| zn <| SC.ret <| ze [.tmp 2] <| zm rfl zz
theorem bank_Bank_Geo_sim (p0_b : (Option Addr)) : Sm Tryz.prog 38 [(.pointer p0_b)] (fun y : (Int × Int × Int) => (.agg #[(vi y.1), (vi y.2.1), (vi y.2.2)])) (bank_Bank_Geo p0_b) := by
  refine sm_of 7 Tryz.func38 rfl rfl rfl fun _ => ?_
  unfold bank_Bank_Geo
  exact zG <| KT.nw 2 (fun ad => .pointer (some ad)) 33 fun x2 => zN <| zp 3 (.pointer p0_b) <| KT.nm 4 fun x4 => zp 5 (va x4 1) <| zo <| ola 6 3 fun x6 => zo <| osa <| zn <| SC.ret <| ze [.cell 2 33] <| RS.cellA 3 (by kernel_rfl) rfl rfl (fun _ => rfl) fun r2 => zz
theorem slices_Clone_b_sim (p0_s : Slc) : Sm Tryz.prog 117 [(vS p0_s)] vS (slices_Clone_b p0_s) := by
  refine sm_of 8 Tryz.func117 rfl rfl rfl fun _ => ?_
  unfold slices_Clone_b
  refine zG <| zp 2 (.slice none 0 0) <| zn <| zq <| zG <| zp 3 (vS p0_s) <| KT.oy rfl (OY.eqlSl (d := 4) (s := p0_s) _ _ _ _ 5 rfl rfl rfl (by kernel_rfl) rfl rfl ?_)
  refine zn <| SC.cond rfl ?_ ?_
  exact zG <| zp 2 (.slice none 0 0) <| zn <| zt <| ze [.tmp 2] <| zm rfl zz
  exact zw <| zG <| KT.nw 5 (fun ad => .slice (some ad) 0 0) 5 fun x5 => zp 6 (vS p0_s) <| zo <| oapp 7 5 fun x7 => zp 2 (vS x7) <| zn <| SC.ret <| ze [.tmp 2] <| zm rfl zz
theorem device_Rack_Read_sim (p0_r : (Option Addr)) (p1_disk : Int) (p2_sector : Int) : Sm Tryz.prog 105 [(.pointer p0_r), (vi p1_disk), (vi p2_sector)] (fun y : (Slc × Int) => (.tuple #[(vS y.1), (vi y.2)])) (device_Rack_Read p0_r p1_disk p2_sector) := by
  refine sm_of 46 Tryz.func105 rfl rfl rfl fun _ => ?_
  unfold device_Rack_Read
  refine zG <| zp 6 (.slice none 0 0) <| zp 7 (vi 0) <| zN <| zp 13 (.pointer p0_r) <| zp 14 (vi p1_disk) <| zp 15 (vi p2_sector) <| zc 16 (device_Rack_disk_sim _ _ _) fun x16 => zp 12 (.tuple #[(.pointer x16.1), (vi x16.2)]) <| zp 17 (.pointer x16.1) <| zp 18 (vi x16.2) <| zp 8 (.pointer x16.1) <| zp 9 (vi x16.2) <| zn <| zq <| zG <| zp 19 (vi x16.2) <| zp 20 (vb (x16.2 != 0)) <| zn <| SC.cond rfl ?_ ?_
  exact zG <| zp 21 (vi x16.2) <| zp 6 (.slice none 0 0) <| zp 7 (vi x16.2) <| zn <| zt <| ze [.tmp 6, .tmp 7] <| zm rfl <| zm rfl zz
  refine zw <| zq <| zG <| zp 22 (.pointer x16.1) <| KT.nm 23 fun x23 => zp 24 (va x23 2) <| KT.l 25 fun x25 => zn <| SC.cond rfl ?_ ?_
  exact zG <| zp 6 (.slice none 0 0) <| zp 7 (vi 13) <| zn <| zt <| ze [.tmp 6, .tmp 7] <| zm rfl <| zm rfl zz
  refine zw <| zq <| zG <| zp 27 (.pointer x16.1) <| KT.nm 28 fun x28 => zp 29 (va x28 1) <| KT.l 30 fun x30 => zp 31 (vi p2_sector) <| KT.ow rfl (OW.lookOk (d := 32) (enc := vS) (⟨none, 0, 0⟩) 3 42 .i64 _ _ _ rfl rfl rfl (by kernel_rfl) (by kernel_rfl) (by kernel_rfl) rfl rfl (fun x32 => ?_))
  refine zp 26 (.tuple #[(vS x32.1), (vb x32.2)]) <| zp 33 (vS x32.1) <| zp 34 (vb x32.2) <| zp 10 (vS x32.1) <| zp 11 (vb x32.2) <| KT.nil <| zS (T' := [(2, (vi p2_sector)), (8, (.pointer x16.1)), (10, (vS x32.1)), (11, (vb x32.2))]) <| SX.seq <| zG <| zp 35 (vb x32.2) <| zn <| SC.cond rfl ?_ ?_
  exact zG <| zp 36 (vS x32.1) <| zc 37 (slices_Clone_b_sim _) fun x37 => zp 6 (vS x37) <| zp 7 (vi 0) <| zn <| zt <| ze [.tmp 6, .tmp 7] <| zm rfl <| zm rfl zz
  exact zw <| zG <| zp 38 (.pointer x16.1) <| KT.nm 39 fun x39 => zp 40 (vp x39) <| KT.l 41 fun x41 => zp 42 (vi p2_sector) <| zy <| oix 43 42 fun x43 => KT.l 44 fun x44 => zc 45 (slices_Clone_b_sim _) fun x45 => zp 6 (vS x45) <| zp 7 (vi 0) <| zn <| SC.ret <| ze [.tmp 6, .tmp 7] <| zm rfl <| zm rfl zz
theorem bank_Bank_All_sim (p0_b : (Option Addr)) (p1_sector : Int) : Sm Tryz.prog 72 [(.pointer p0_b), (vi p1_sector)] vS (bank_Bank_All (cvOf Tryz.prog) p0_b p1_sector) := by
  refine sm_of 29 Tryz.func72 rfl rfl rfl fun _ => ?_
  unfold bank_Bank_All
  refine zG <| KT.nw 2 (fun ad => .pointer (some ad)) 44 fun x2 => KT.nw 3 (fun ad => .pointer (some ad)) 3 fun x3 => zp 4 (.slice none 0 0) <| zN <| KT.nw 5 (fun ad => .pointer (some ad)) 24 fun x5 => zn <| zq <| zG <| KT.l 9 fun x9 => zp 10 (.func (.func fid_bank_Bank_disks) #[(.pointer x9)] #[]) <| zn <| SC.block <| SC.rangeF (ξ := (Int)) (τ := (Int)) (fv := (.func (.func fid_bank_Bank_disks) #[(.pointer x9)] #[])) (ps := [11]) (encX := (fun x_1 : (Int) => [(vi x_1)])) (fun t_1 => [(2, (vp x2)), (3, (vp x3)), (5, (vp x5)), (6, (vi t_1))]) rfl (fun _ => rfl) rfl (fun _ x_1 _ _ h1 => ?_) (fun _ _ _ t_1 => ?_) (fun D1 => ?_) (fun D1 => ?_) (fun D1 i1 => ?_)
  exact zg <| zp 6 (vi x_1) <| KT.nil <| SX.leafP h1 (.cons rfl (.cons rfl (.cons rfl (.cons rfl (.nil)))))
  refine SC.block <| zq <| SC.draw 12 (fun _ => false) rfl (by kernel_rfl) fun S2 => zA 0 rfl <| oli 13 fun x13 => zB 1 rfl <| onil 14 fun x14 => zpA 2 15 (vp x14) <| zA 3 rfl <| oli 16 fun x16 => zpA 4 17 (vi t_1) <| zA 5 rfl <| oli 18 fun x18 => KT.one 6 rfl (by kernel_rfl) rfl <| OW.step <| ocall 19 (device_Rack_Read_sim _ _ _) fun x19 => KT.and <| zpA 7 12 (.tuple #[(vS x19.1), (vi x19.2)]) <| zpA 8 20 (vS x19.1) <| zpA 9 21 (vi x19.2) <| zpA 10 7 (vS x19.1) <| zpA 11 8 (vi x19.2) <| KT.doneA (by kernel_rfl) <| SX.seq <| zG <| zp 22 (vi x19.2) <| zp 23 (vb (x19.2 == 0)) <| zn <| SC.cond rfl ?_ ?_
  exact zg <| KT.l 24 fun x24 => zp 25 (vS x19.1) <| KT.nw 26 (fun ad => .slice (some ad) 1 1) 42 fun x26 => zo <| oapp 27 42 fun x27 => KT.s <| KT.nil <| SX.block SX.round_next
  exact SC.skip <| SX.block SX.round_next
  exact SX.block <| SX.seq <| zG <| KT.l 28 fun x28 => zp 4 (vS x28) <| zn <| SC.ret <| ze [.tmp 4] <| zm rfl zz
  exact SX.fail
  exact SX.fail
theorem bytes_Clone_sim (p0_b : Slc) : Sm Tryz.prog 96 [(vS p0_b)] vS (bytes_Clone p0_b) := by
  refine sm_of 8 Tryz.func96 rfl rfl rfl fun _ => ?_
  unfold bytes_Clone
  refine zG <| zp 2 (.slice none 0 0) <| zn <| zq <| zG <| zp 3 (vS p0_b) <| KT.oy rfl (OY.eqlSl (d := 4) (s := p0_b) _ _ _ _ 5 rfl rfl rfl (by kernel_rfl) rfl rfl ?_)
  refine zn <| SC.cond rfl ?_ ?_
  exact zG <| zp 2 (.slice none 0 0) <| zn <| zt <| ze [.tmp 2] <| zm rfl zz
  exact zw <| zG <| KT.nw 5 (fun ad => .slice (some ad) 0 0) 5 fun x5 => zp 6 (vS p0_b) <| zo <| oapp 7 5 fun x7 => zp 2 (vS x7) <| zn <| SC.ret <| ze [.tmp 2] <| zm rfl zz
theorem sector_Decode_sim (p0_b : Slc) : Sm Tryz.prog 73 [(vS p0_b)] (fun y : ((Int × Int × Int) × Slc × Bool) => (.tuple #[(.agg #[(vi y.1.1), (vi y.1.2.1), (vi y.1.2.2)]), (vS y.2.1), (vb y.2.2)])) (sector_Decode p0_b) := by
  refine sm_of 32 Tryz.func73 rfl rfl rfl fun _ => ?_
  unfold sector_Decode
  refine zG <| KT.nw 2 (fun ad => .pointer (some ad)) 99 fun x2 => zp 3 (.slice none 0 0) <| zp 4 (vb false) <| zn <| zq <| zG <| zp 6 (vS p0_b) <| zp 7 (vi (vl p0_b)) <| zp 8 (vb ((vl p0_b) != 64)) <| zn <| SC.cond rfl ?_ ?_
  exact zG <| zp 9 (.agg #[(vi 0), (vi 0), (vi 0)]) <| zo <| osa <| zp 3 (.slice none 0 0) <| zp 4 (vb false) <| zn <| zt <| ze [.cell 2 99, .tmp 3, .tmp 4] <| RS.cellA 3 (by kernel_rfl) rfl rfl (fun _ => rfl) fun r2 => zm rfl <| zm rfl zz
  refine zw <| zG <| KT.nw 5 (fun ad => .pointer (some ad)) 99 fun x5 => zN <| zp 11 (vS p0_b) <| zc 12 (bits_Get_sim _ _ _) fun x12 => zp 10 (.tuple #[(vi x12.1), (vb x12.2)]) <| zp 13 (vi x12.1) <| zp 14 (vb x12.2) <| zp 15 (vp x5) <| KT.s <| zN <| zp 17 (vS p0_b) <| zc 18 (bits_Get_sim _ _ _) fun x18 => zp 16 (.tuple #[(vi x18.1), (vb x18.2)]) <| zp 19 (vi x18.1) <| zp 20 (vb x18.2) <| zp 21 (va x5 1) <| KT.s <| zN <| zp 23 (vS p0_b) <| zc 24 (bits_Get_sim _ _ _) fun x24 => zp 22 (.tuple #[(vi x24.1), (vb x24.2)]) <| zp 25 (vi x24.1) <| zp 26 (vb x24.2) <| zp 27 (va x5 2) <| KT.s <| zn <| zq <| SC.draw 7 (fun f => Nat.beq f 4) rfl (by kernel_rfl) fun S1 => ?_
  refine zA 0 rfl <| olai 28 3 fun x28 => zpA 1 29 (vS p0_b) <| KT.tp 2 (OY.slice10 (d := 30) (s := p0_b) (lo := 8) (size := 1) (elem := 5) _ _ _ rfl rfl rfl (by kernel_rfl) (by kernel_rfl) rfl rfl (fun x30 => ?_))
  exact KT.one 3 rfl (by kernel_rfl) rfl <| OW.step <| ocall 31 (bytes_Clone_sim _) fun x31 => KT.and <| KT.last 4 rfl (by kernel_rfl) rfl rfl <| OW.stA _ _ _ rfl rfl rfl rfl rfl (by kernel_rfl) <| KT.pvN 5 3 (vS x31) <| KT.pvN 6 4 (vb true) <| KT.doneN (by kernel_rfl) <| zS (T' := [(2, (vp x2)), (3, (vS x31)), (4, (vb true))]) <| SX.seq <| SC.ret <| ze [.cell 2 99, .tmp 3, .tmp 4] <| RS.cellA 3 (by kernel_rfl) rfl rfl (fun _ => rfl) fun r2 => zm rfl <| zm rfl zz
theorem scan_greatest_sim (p0_b : (Option Addr)) (p1_seg : Int) : Sm Tryz.prog 39 [(.pointer p0_b), (vi p1_seg)] (Value.int .i64) (scan_greatest (cvOf Tryz.prog) p0_b p1_seg) := by
  refine sm_of 46 Tryz.func39 rfl rfl rfl fun _ => ?_
  unfold scan_greatest
  refine zG <| zp 4 (vi 0) <| zN <| zp 5 (vi 0) <| zn <| zq <| zG <| zp 12 (.pointer p0_b) <| zc 13 (bank_Bank_Geo_sim _) fun x13 => zp 14 (vi x13.2.1) <| zp 15 (vi 0) <| zn <| SC.block <| zL (σ := (Int × Int)) (fun s1 => [(0, (.pointer p0_b)), (1, (vi p1_seg)), (5, (vi s1.1)), (14, (vi x13.2.1)), (15, (vi s1.2))]) fun _ _ _ s1 => zG <| zp 16 (vb (decide (s1.2 < x13.2.1))) <| zn <| zq <| SC.cond rfl ?_ ?_
  refine zw <| zq <| SC.block <| zG <| zp 17 (vi s1.2) <| zp 6 (vi s1.2) <| zN <| zp 18 (.pointer p0_b) <| zp 19 (vi p1_seg) <| zp 20 (.pointer p0_b) <| zc 21 (bank_Bank_Geo_sim _) fun x21 => zp 22 (vi x21.2.1) <| zp 23 (vi (w64 (p1_seg * x21.2.1))) <| zp 24 (vi (w64 (5 + (w64 (p1_seg * x21.2.1))))) <| zp 25 (vi s1.2) <| zp 26 (vi (w64 ((w64 (5 + (w64 (p1_seg * x21.2.1)))) + s1.2))) <| zc 27 (bank_Bank_All_sim _ _) fun x27 => zp 28 (vi (vl x27)) <| zp 29 (vi 0) <| zn <| SC.block <| zL (σ := (Int × Int)) (fun s2 => [(0, (.pointer p0_b)), (1, (vi p1_seg)), (5, (vi s2.1)), (14, (vi x13.2.1)), (15, (vi s1.2)), (27, (vS x27)), (28, (vi (vl x27))), (29, (vi s2.2))]) fun _ _ _ s2 => zG <| zp 30 (vb (decide (s2.2 < (vl x27)))) <| zn <| zq <| SC.cond rfl ?_ ?_
  refine zw <| zq <| SC.block <| zG <| zy <| oix 31 42 fun x31 => KT.l 32 fun x32 => zp 8 (vS x32) <| zN <| zp 34 (vS x32) <| zc 35 (sector_Decode_sim _) fun x35 => zp 33 (.tuple #[(.agg #[(vi x35.1.1), (vi x35.1.2.1), (vi x35.1.2.2)]), (vS x35.2.1), (vb x35.2.2)]) <| zp 36 (.agg #[(vi x35.1.1), (vi x35.1.2.1), (vi x35.1.2.2)]) <| zp 37 (vS x35.2.1) <| zp 38 (vb x35.2.2) <| KT.nw 9 (fun ad => .pointer (some ad)) 99 fun x9 => zo <| osa <| zp 10 (vS x35.2.1) <| zp 11 (vb x35.2.2) <| zn <| zg <| zp 39 (vi s2.1) <| zp 40 (vp x9) <| KT.l 41 fun x41 => zp 42 (vi (maxI s2.1 x41)) <| zp 5 (vi (maxI s2.1 x41)) <| KT.nil <| SX.block <| SX.seq <| zg <| zp 43 (vi (w64 (s2.2 + 1))) ?_
  exact zp 29 (vi (w64 (s2.2 + 1))) <| KT.nil zX
  exact SC.exit <| SX.then_exit <| SX.loop_exit <| SX.block_hit <| SX.block <| SX.seq <| zg <| zp 44 (vi (w64 (s1.2 + 1))) <| zp 15 (vi (w64 (s1.2 + 1))) <| KT.nil zX
  exact SC.exit <| SX.then_exit <| SX.loop_exit <| SX.block_hit <| SX.seq <| zG <| zp 45 (vi s1.1) <| zp 4 (vi s1.1) <| zn <| SC.ret <| ze [.tmp 4] <| zm rfl zz
theorem device_Rack_Failed_sim (p0_r : (Option Addr)) (p1_disk : Int) : Sm Tryz.prog 90 [(.pointer p0_r), (vi p1_disk)] Value.bool (device_Rack_Failed p0_r p1_disk) := by
  refine sm_of 28 Tryz.func90 rfl rfl rfl fun _ => ?_
  unfold device_Rack_Failed
  refine zG <| zp 4 (vb false) <| zN <| zp 5 (vi p1_disk) <| zp 6 (vb (decide (p1_disk ≥ 0))) <| zp 7 (vb (decide (p1_disk ≥ 0))) <| zj 8 (fun q1 => [(15, (vb q1)), (0, (.pointer p0_r)), (1, (vi p1_disk))]) (fun q1 => ?_) (fun j1 => ?_)
  refine zp 16 (vb q1) <| zj 11 (fun q2 => [(27, (vb q2))]) (fun q2 => ?_) (fun j2 => ?_)
  exact zp 4 (vb q2) <| zn <| SC.ret <| ze [.tmp 4] <| zm rfl zz
  refine KT.ite 16 rfl ?_ ?_
  exact zp 17 (.pointer p0_r) <| KT.nm 18 fun x18 => zp 19 (vp x18) <| KT.l 20 fun x20 => zp 21 (vi p1_disk) <| zy <| oix 22 79 fun x22 => KT.l 23 fun x23 => KT.nm 24 fun x24 => zp 25 (va x24 2) <| KT.l 26 fun x26 => zp 27 (vb x26) <| zl j2
  exact zk <| zk <| zk <| zk <| zk <| zk <| zk <| zk <| zk <| zk <| zp 27 (vb false) <| zl j2
  refine KT.ite 7 rfl ?_ ?_
  exact zp 8 (vi p1_disk) <| zp 9 (.pointer p0_r) <| KT.nm 10 fun x10 => zp 11 (vp x10) <| KT.l 12 fun x12 => zp 13 (vi (vl x12)) <| zp 14 (vb (decide (p1_disk < (vl x12)))) <| zp 15 (vb (decide (p1_disk < (vl x12)))) <| zl j1
  exact zk <| zk <| zk <| zk <| zk <| zk <| zk <| zp 15 (vb false) <| zl j1
theorem bank_Bank_Bad_sim (p0_b : (Option Addr)) : Sm Tryz.prog 50 [(.pointer p0_b)] vS (bank_Bank_Bad p0_b) := by
  refine sm_of 50 Tryz.func50 rfl rfl rfl fun _ => ?_
  unfold bank_Bank_Bad
  refine zG <| zp 2 (.slice none 0 0) <| zN <| zp 3 (.slice none 0 0) <| zn <| zq <| zG <| zp 7 (.pointer p0_b) <| KT.nm 8 fun x8 => zp 9 (va x8 1) <| zp 10 (va x8 1) <| KT.l 11 fun x11 => zp 12 (vi 0) <| zn <| SC.block <| zL (σ := (Slc × Int)) (fun s1 => [(0, (.pointer p0_b)), (3, (vS s1.1)), (11, (vi x11)), (12, (vi s1.2))]) fun _ _ _ s1 => zG <| zp 13 (vb (decide (s1.2 < x11))) <| zn <| zq <| SC.cond rfl ?_ ?_
  refine zw <| zq <| SC.block <| zG <| zp 14 (vi s1.2) <| zp 4 (vi s1.2) <| zN <| zp 16 (.pointer p0_b) <| zp 17 (vi s1.2) <| zc 18 (bank_Bank_disk_sim _ _) fun x18 => zp 15 (.tuple #[(vi x18.1), (vb x18.2)]) <| zp 19 (vi x18.1) <| zp 20 (vb x18.2) <| zp 5 (vi x18.1) <| zp 6 (vb x18.2) <| zN <| zp 21 (.pointer p0_b) <| KT.nm 22 fun x22 => zp 23 (vp x22) <| KT.l 24 fun x24 => zp 25 (vi x18.1) <| zc 26 (device_Rack_Failed_sim _ _) fun x26 => zp 27 (vb x26) <| zj 16 (fun q2 => [(43, (vb q2)), (0, (.pointer p0_b)), (3, (vS s1.1)), (4, (vi s1.2)), (11, (vi x11)), (12, (vi s1.2))]) (fun q2 => ?_) (fun j2 => ?_)
  refine zn <| SC.cond rfl ?_ ?_
  exact zg <| zp 44 (vS s1.1) <| zp 45 (vi s1.2) <| KT.nw 46 (fun ad => .slice (some ad) 1 1) 3 fun x46 => zo <| oapp 47 3 fun x47 => zp 3 (vS x47) <| KT.nil <| SX.block <| SX.seq <| zg <| zp 48 (vi (w64 (s1.2 + 1))) <| zp 12 (vi (w64 (s1.2 + 1))) <| KT.nil zX
  exact SC.skip <| SX.block <| SX.seq <| zg <| zp 48 (vi (w64 (s1.2 + 1))) <| zp 12 (vi (w64 (s1.2 + 1))) <| KT.nil zX
  refine KT.ite 27 rfl ?_ ?_
  exact zk <| zk <| zk <| zk <| zk <| zk <| zk <| zk <| zk <| zk <| zk <| zk <| zk <| zk <| zk <| zp 43 (vb true) <| zl j2
  refine zp 28 (.pointer p0_b) <| KT.nm 29 fun x29 => zp 30 (va x29 4) <| zp 31 (.pointer (some (Addr.add (Addr.add x29 4) 2))) <| KT.l 32 fun x32 => zp 33 (vb (x32 == 1)) <| zp 34 (vb (x32 == 1)) <| zj 8 (fun q3 => [(42, (vb q3)), (0, (.pointer p0_b)), (3, (vS s1.1)), (4, (vi s1.2)), (11, (vi x11)), (12, (vi s1.2)), (27, (vb false))]) (fun q3 => ?_) (fun j3 => ?_)
  exact zp 43 (vb q3) <| zl j2
  refine KT.ite 34 rfl ?_ ?_
  exact zp 35 (.pointer p0_b) <| KT.nm 36 fun x36 => zp 37 (va x36 4) <| zp 38 (.pointer (some (Addr.add (Addr.add x36 4) 1))) <| KT.l 39 fun x39 => zp 40 (vi s1.2) <| zp 41 (vb (x39 == s1.2)) <| zp 42 (vb (x39 == s1.2)) <| zl j3
  exact zk <| zk <| zk <| zk <| zk <| zk <| zk <| zp 42 (vb false) <| zl j3
  exact SC.exit <| SX.then_exit <| SX.loop_exit <| SX.block_hit <| SX.seq <| zG <| zp 49 (vS s1.1) <| zp 2 (vS s1.1) <| zn <| SC.ret <| ze [.tmp 2] <| zm rfl zz
theorem geo_Parity_sim (p0_g : (Int × Int × Int)) (p1_seg : Int) (p2_row : Int) : Sm Tryz.prog 93 [(.agg #[(vi p0_g.1), (vi p0_g.2.1), (vi p0_g.2.2)]), (vi p1_seg), (vi p2_row)] (fun y : ((Int × Int) × Bool) => (.tuple #[(.agg #[(vi y.1.1), (vi y.1.2)]), (vb y.2)])) (geo_Parity p0_g p1_seg p2_row) := by
  refine sm_of 46 Tryz.func93 rfl rfl rfl fun _ => ?_
  unfold geo_Parity
  refine zG <| KT.nw 3 (fun ad => .pointer (some ad)) 33 fun x3 => KT.nw 6 (fun ad => .pointer (some ad)) 119 fun x6 => zp 7 (vb false) <| zn <| zq <| zG <| zo <| ola 9 3 fun x9 => zc 10 (geo_Right_sim _) fun x10 => zp 11 (vb (!x10)) <| zp 12 (vb (!x10)) <| zj 7 (fun q1 => [(19, (vb q1)), (1, (vi p1_seg)), (2, (vi p2_row)), (3, (vp x3)), (6, (vp x6))]) (fun q1 => ?_) (fun j1 => ?_)
  refine zp 20 (vb q1) <| zj 7 (fun q2 => [(27, (vb q2)), (1, (vi p1_seg)), (2, (vi p2_row)), (3, (vp x3)), (6, (vp x6))]) (fun q2 => ?_) (fun j2 => ?_)
  refine zn <| SC.cond rfl ?_ ?_
  exact zG <| zp 28 (.agg #[(vi 0), (vi 0)]) <| zo <| osa <| zp 7 (vb false) <| zn <| zt <| ze [.cell 6 119, .tmp 7] <| RS.cellA 2 (by kernel_rfl) rfl rfl (fun _ => rfl) fun r6 => zm rfl zz
  refine zw <| zG <| zp 29 (vi p1_seg) <| zp 30 (va x3 1) <| KT.l 31 fun x31 => zp 32 (vi (w64 (p1_seg * x31))) <| zp 33 (vi p2_row) <| zp 34 (vi (w64 ((w64 (p1_seg * x31)) + p2_row))) <| zp 8 (vi (w64 ((w64 (p1_seg * x31)) + p2_row))) <| zn <| zq <| SC.draw 13 (fun f => Nat.beq f 11) rfl (by kernel_rfl) fun S3 => zpA 0 35 (vp x3) <| zA 1 rfl <| oli 36 fun x36 => zpA 2 37 (vi (w64 (x36 - 1))) <| zpA 3 38 (vi (w64 ((w64 (p1_seg * x31)) + p2_row))) <| zpA 4 39 (vp x3) <| zA 5 rfl <| oli 40 fun x40 => KT.tp 6 (OY.rem (d := 41) (x := w64 ((w64 (p1_seg * x31)) + p2_row)) (y := x40) _ _ _ _ (Int.tmod (w64 ((w64 (p1_seg * x31)) + p2_row)) x40) rfl rfl rfl rfl rfl rfl ?_)
  exact zpA 7 42 (vi (w64 ((w64 (x36 - 1)) - (Int.tmod (w64 ((w64 (p1_seg * x31)) + p2_row)) x40)))) <| zpA 8 43 (vi (w64 ((w64 (p1_seg * x31)) + p2_row))) <| zpA 9 44 (vi (w64 (5 + (w64 ((w64 (p1_seg * x31)) + p2_row))))) <| zpA 10 45 (.agg #[(vi (w64 ((w64 (x36 - 1)) - (Int.tmod (w64 ((w64 (p1_seg * x31)) + p2_row)) x40)))), (vi (w64 (5 + (w64 ((w64 (p1_seg * x31)) + p2_row)))))]) <| KT.last 11 rfl (by kernel_rfl) rfl rfl <| OW.stA _ _ _ rfl rfl rfl rfl rfl (by kernel_rfl) <| KT.pvN 12 7 (vb true) <| KT.doneN (by kernel_rfl) <| SX.seq <| SC.ret <| ze [.cell 6 119, .tmp 7] <| RS.cellA 2 (by kernel_rfl) rfl rfl (fun _ => rfl) fun r6 => zm rfl zz
  refine KT.ite 20 rfl ?_ ?_
  exact zk <| zk <| zk <| zk <| zk <| zk <| zp 27 (vb true) <| zl j2
  exact zp 21 (vi p2_row) <| zp 22 (va x3 1) <| KT.l 23 fun x23 => zp 24 (vi (w64 (x23 - 1))) <| zc 25 (geo_within_sim _ _ _) fun x25 => zp 26 (vb (!x25)) <| zp 27 (vb (!x25)) <| zl j2
  refine KT.ite 12 rfl ?_ ?_
  exact zk <| zk <| zk <| zk <| zk <| zk <| zp 19 (vb true) <| zl j1
  exact zp 13 (vi p1_seg) <| zp 14 (va x3 2) <| KT.l 15 fun x15 => zp 16 (vi (w64 (x15 - 1))) <| zc 17 (geo_within_sim _ _ _) fun x17 => zp 18 (vb (!x17)) <| zp 19 (vb (!x17)) <| zl j1
theorem geo_Block_sim (p0_g : (Int × Int × Int)) (p1_seg : Int) (p2_k : Int) : Sm Tryz.prog 92 [(.agg #[(vi p0_g.1), (vi p0_g.2.1), (vi p0_g.2.2)]), (vi p1_seg), (vi p2_k)] (fun y : ((Int × Int) × Bool) => (.tuple #[(.agg #[(vi y.1.1), (vi y.1.2)]), (vb y.2)])) (geo_Block p0_g p1_seg p2_k) := by
  refine sm_of 48 Tryz.func92 rfl rfl rfl fun _ => ?_
  unfold geo_Block
  refine zG <| KT.nw 3 (fun ad => .pointer (some ad)) 33 fun x3 => KT.nw 6 (fun ad => .pointer (some ad)) 119 fun x6 => zp 7 (vb false) <| zn <| zq <| zG <| zo <| ola 10 3 fun x10 => zc 11 (geo_Right_sim _) fun x11 => zp 12 (vb (!x11)) <| zp 13 (vb (!x11)) <| zj 6 (fun q1 => [(19, (vb q1)), (1, (vi p1_seg)), (2, (vi p2_k)), (3, (vp x3)), (6, (vp x6))]) (fun q1 => ?_) (fun j1 => ?_)
  refine zn <| SC.cond rfl ?_ ?_
  exact zG <| zp 20 (.agg #[(vi 0), (vi 0)]) <| zo <| osa <| zp 7 (vb false) <| zn <| zt <| ze [.cell 6 119, .tmp 7] <| RS.cellA 2 (by kernel_rfl) rfl rfl (fun _ => rfl) fun r6 => zm rfl zz
  refine zw <| zq <| SC.draw 14 (fun f => Nat.beq f 12) rfl (by kernel_rfl) fun S2 => zA 0 rfl <| olai 22 3 fun x22 => zpA 1 23 (vi p1_seg) <| zpA 2 24 (vi p2_k) <| zpA 3 25 (vp x3) <| zA 4 rfl <| oli 26 fun x26 => zpA 5 27 (vi (w64 (x26 - 1))) <| KT.tp 6 (OY.quo (d := 28) (x := p2_k) (y := w64 (x26 - 1)) _ _ _ _ (w64 (Int.tdiv p2_k (w64 (x26 - 1)))) rfl rfl rfl rfl rfl rfl ?_)
  refine KT.two 7 11 rfl rfl (by kernel_rfl) rfl rfl ?_ ?_
  refine OW.step (ocall 29 (geo_Parity_sim _ _ _) fun x29 => ?_)
  refine KT.and <| zpA 8 21 (.tuple #[(.agg #[(vi x29.1.1), (vi x29.1.2)]), (vb x29.2)]) <| zpA 9 30 (.agg #[(vi x29.1.1), (vi x29.1.2)]) <| zpA 10 31 (vb x29.2) <| KT.one 11 rfl (by kernel_rfl) rfl <| OW.step <| OW.new (d := 8) [(vi 0), (vi 0)] (fun ad => .pointer (some ad)) 119 rfl (fun _ => by kernel_rfl) rfl rfl fun x8 => KT.and <| KT.last 12 rfl (by kernel_rfl) rfl rfl <| OW.stA _ _ _ rfl rfl rfl rfl rfl (by kernel_rfl) <| KT.pvN 13 9 (vb x29.2) <| KT.doneN (by kernel_rfl) <| SX.seq <| zq <| zG <| zp 32 (vb x29.2) <| zn <| SC.cond rfl ?_ ?_
  refine SC.draw 14 (fun f => Nat.beq f 13) rfl (by kernel_rfl) fun S3 => zpA 0 33 (vp x8) <| zA 1 rfl <| oli 34 fun x34 => zpA 2 35 (vi (w64 (x34 + 1))) <| zpA 3 36 (vi p2_k) <| zpA 4 37 (vp x3) <| zA 5 rfl <| oli 38 fun x38 => zpA 6 39 (vi (w64 (x38 - 1))) <| KT.tp 7 (OY.rem (d := 40) (x := p2_k) (y := w64 (x38 - 1)) _ _ _ _ (Int.tmod p2_k (w64 (x38 - 1))) rfl rfl rfl rfl rfl rfl ?_)
  refine zpA 8 41 (vi (w64 ((w64 (x34 + 1)) + (Int.tmod p2_k (w64 (x38 - 1)))))) <| zpA 9 42 (vp x3) <| zA 10 rfl <| oli 43 fun x43 => KT.tp 11 (OY.rem (d := 44) (x := w64 ((w64 (x34 + 1)) + (Int.tmod p2_k (w64 (x38 - 1))))) (y := x43) _ _ _ _ (Int.tmod (w64 ((w64 (x34 + 1)) + (Int.tmod p2_k (w64 (x38 - 1))))) x43) rfl rfl rfl rfl rfl rfl ?_)
  exact zpA 12 45 (vp x8) <| KT.last 13 rfl (by kernel_rfl) rfl rfl <| OW.st _ _ _ rfl rfl rfl rfl (by kernel_rfl) rfl <| KT.doneN (by kernel_rfl) <| zS (T' := [(6, (vp x6)), (8, (vp x8)), (9, (vb x29.2))]) <| SX.seq <| zG <| zo <| ola 46 2 fun x46 => zp 47 (vb x29.2) <| zo <| osa <| zp 7 (vb x29.2) <| zn <| SC.ret <| ze [.cell 6 119, .tmp 7] <| RS.cellA 2 (by kernel_rfl) rfl rfl (fun _ => rfl) fun r6 => zm rfl zz
  exact zw <| zG <| zo <| ola 46 2 fun x46 => zp 47 (vb x29.2) <| zo <| osa <| zp 7 (vb x29.2) <| zn <| SC.ret <| ze [.cell 6 119, .tmp 7] <| RS.cellA 2 (by kernel_rfl) rfl rfl (fun _ => rfl) fun r6 => zm rfl zz
  refine OW.step (OW.new (d := 8) [(vi 0), (vi 0)] (fun ad => .pointer (some ad)) 119 rfl (fun _ => by kernel_rfl) rfl rfl (fun x8 => ?_))
  refine KT.and <| KT.one 7 rfl (by kernel_rfl) rfl <| OW.step <| ocall 29 (geo_Parity_sim _ _ _) fun x29 => KT.and <| zpA 8 21 (.tuple #[(.agg #[(vi x29.1.1), (vi x29.1.2)]), (vb x29.2)]) <| zpA 9 30 (.agg #[(vi x29.1.1), (vi x29.1.2)]) <| zpA 10 31 (vb x29.2) <| KT.last 12 rfl (by kernel_rfl) rfl rfl <| OW.stA _ _ _ rfl rfl rfl rfl rfl (by kernel_rfl) <| KT.pvN 13 9 (vb x29.2) <| KT.doneN (by kernel_rfl) <| SX.seq <| zq <| zG <| zp 32 (vb x29.2) <| zn <| SC.cond rfl ?_ ?_
  refine SC.draw 14 (fun f => Nat.beq f 13) rfl (by kernel_rfl) fun S4 => zpA 0 33 (vp x8) <| zA 1 rfl <| oli 34 fun x34 => zpA 2 35 (vi (w64 (x34 + 1))) <| zpA 3 36 (vi p2_k) <| zpA 4 37 (vp x3) <| zA 5 rfl <| oli 38 fun x38 => zpA 6 39 (vi (w64 (x38 - 1))) <| KT.tp 7 (OY.rem (d := 40) (x := p2_k) (y := w64 (x38 - 1)) _ _ _ _ (Int.tmod p2_k (w64 (x38 - 1))) rfl rfl rfl rfl rfl rfl ?_)
  refine zpA 8 41 (vi (w64 ((w64 (x34 + 1)) + (Int.tmod p2_k (w64 (x38 - 1)))))) <| zpA 9 42 (vp x3) <| zA 10 rfl <| oli 43 fun x43 => KT.tp 11 (OY.rem (d := 44) (x := w64 ((w64 (x34 + 1)) + (Int.tmod p2_k (w64 (x38 - 1))))) (y := x43) _ _ _ _ (Int.tmod (w64 ((w64 (x34 + 1)) + (Int.tmod p2_k (w64 (x38 - 1))))) x43) rfl rfl rfl rfl rfl rfl ?_)
  exact zpA 12 45 (vp x8) <| KT.last 13 rfl (by kernel_rfl) rfl rfl <| OW.st _ _ _ rfl rfl rfl rfl (by kernel_rfl) rfl <| KT.doneN (by kernel_rfl) <| zS (T' := [(6, (vp x6)), (8, (vp x8)), (9, (vb x29.2))]) <| SX.seq <| zG <| zo <| ola 46 2 fun x46 => zp 47 (vb x29.2) <| zo <| osa <| zp 7 (vb x29.2) <| zn <| SC.ret <| ze [.cell 6 119, .tmp 7] <| RS.cellA 2 (by kernel_rfl) rfl rfl (fun _ => rfl) fun r6 => zm rfl zz
  exact zw <| zG <| zo <| ola 46 2 fun x46 => zp 47 (vb x29.2) <| zo <| osa <| zp 7 (vb x29.2) <| zn <| SC.ret <| ze [.cell 6 119, .tmp 7] <| RS.cellA 2 (by kernel_rfl) rfl rfl (fun _ => rfl) fun r6 => zm rfl zz
  refine KT.ite 13 rfl ?_ ?_
  exact zk <| zk <| zk <| zk <| zk <| zp 19 (vb true) <| zl j1
  exact zp 14 (vi p2_k) <| zo <| ola 15 3 fun x15 => zc 16 (geo_places_sim _) fun x16 => zc 17 (geo_within_sim _ _ _) fun x17 => zp 18 (vb (!x17)) <| zp 19 (vb (!x17)) <| zl j1
theorem stripe_rows_c1_sim (p0_yield : Value) (p1_a : Addr) (p2_a : Addr) : Sm Tryz.prog 91 [p0_yield, (vp p1_a), (vp p2_a)] (fun y : Unit => (.tuple #[])) (stripe_rows_c1 (cvOf Tryz.prog) p0_yield p1_a p2_a) := by
  refine sm_of 56 Tryz.func91 rfl rfl rfl fun _ => ?_
  unfold stripe_rows_c1
  refine zG <| zp 12 (vp p1_a) <| KT.l 13 fun x13 => zp 14 (vi (w64 (x13 - 1))) <| zp 4 (vi (w64 (x13 - 1))) <| zN <| zp 15 (va p1_a 1) <| KT.l 16 fun x16 => zp 17 (vi 0) <| zn <| SC.block <| zL (σ := (Int)) (fun s1 => [(0, p0_yield), (1, (vp p1_a)), (2, (vp p2_a)), (4, (vi (w64 (x13 - 1)))), (16, (vi x16)), (17, (vi s1))]) fun _ _ _ s1 => zG <| zp 18 (vb (decide (s1 < x16))) <| zn <| zq <| SC.cond rfl ?_ ?_
  refine zw <| zq <| SC.block <| zG <| zp 19 (vi s1) <| zp 5 (vi s1) <| zN <| zp 6 (.slice none 0 0) <| zn <| zq <| zG <| zp 20 (vi (w64 (x13 - 1))) <| zp 21 (vi 0) <| zn <| SC.block <| zL (σ := (Slc × Int)) (fun s2 => [(0, p0_yield), (1, (vp p1_a)), (2, (vp p2_a)), (4, (vi (w64 (x13 - 1)))), (5, (vi s1)), (6, (vS s2.1)), (16, (vi x16)), (17, (vi s1)), (20, (vi (w64 (x13 - 1)))), (21, (vi s2.2))]) fun _ _ _ s2 => zG <| zp 22 (vb (decide (s2.2 < (w64 (x13 - 1))))) <| zn <| zq <| SC.cond rfl ?_ ?_
  refine zw <| zq <| SC.block <| zG <| zp 23 (vi s2.2) <| zp 7 (vi s2.2) <| zN <| zo <| ola 25 3 fun x25 => KT.l 26 fun x26 => zp 27 (vi s1) <| zp 28 (vi (w64 (x13 - 1))) <| zp 29 (vi (w64 (s1 * (w64 (x13 - 1))))) <| zp 30 (vi s2.2) <| zp 31 (vi (w64 ((w64 (s1 * (w64 (x13 - 1)))) + s2.2))) <| zc 32 (geo_Block_sim _ _ _) fun x32 => zp 24 (.tuple #[(.agg #[(vi x32.1.1), (vi x32.1.2)]), (vb x32.2)]) <| zp 33 (.agg #[(vi x32.1.1), (vi x32.1.2)]) <| zp 34 (vb x32.2) <| KT.nw 8 (fun ad => .pointer (some ad)) 119 fun x8 => zo <| osa <| zp 9 (vb x32.2) <| zn <| zg <| zp 35 (vS s2.1) <| zo <| ola 36 2 fun x36 => KT.nw 37 (fun ad => .slice (some ad) 1 1) 119 fun x37 => zo <| oapp 38 119 fun x38 => zp 6 (vS x38) <| KT.nil <| zS (T' := [(0, p0_yield), (1, (vp p1_a)), (2, (vp p2_a)), (4, (vi (w64 (x13 - 1)))), (5, (vi s1)), (6, (vS x38)), (16, (vi x16)), (17, (vi s1)), (20, (vi (w64 (x13 - 1)))), (21, (vi s2.2))]) ?_
  exact SX.block <| SX.seq <| zg <| zp 39 (vi (w64 (s2.2 + 1))) <| zp 21 (vi (w64 (s2.2 + 1))) <| KT.nil zX
  refine SC.exit <| SX.then_exit <| SX.loop_exit <| SX.block_hit <| SX.seq <| zG <| zo <| ola 41 3 fun x41 => KT.l 42 fun x42 => zp 43 (vi s1) <| zc 44 (geo_Parity_sim _ _ _) fun x44 => zp 40 (.tuple #[(.agg #[(vi x44.1.1), (vi x44.1.2)]), (vb x44.2)]) <| zp 45 (.agg #[(vi x44.1.1), (vi x44.1.2)]) <| zp 46 (vb x44.2) <| KT.nw 10 (fun ad => .pointer (some ad)) 119 fun x10 => zo <| osa <| zp 11 (vb x44.2) <| zN <| zp 47 p0_yield <| zp 48 (vi s1) <| zp 49 (vS s2.1) <| zo <| ola 50 2 fun x50 => KT.nw 51 (fun ad => .slice (some ad) 1 1) 119 fun x51 => zo <| oapp 52 119 fun x52 => KT.ow rfl (OW.callv (d := 53) (enc := Value.bool) (vs := [(vi s1), (vS x52)]) _ [.tmp 48, .tmp 52] _ rfl rfl rfl rfl rfl (fun x53 => ?_))
  refine zp 54 (vb (!x53)) <| zn <| SC.cond rfl ?_ ?_
  exact SC.ret <| SX.block_ret <| SX.then_ret <| SX.loop_ret <| SX.block_ret <| ze [] zz
  exact SC.skip <| SX.block <| SX.seq <| zg <| zp 55 (vi (w64 (s1 + 1))) <| zp 17 (vi (w64 (s1 + 1))) <| KT.nil <| zS (T' := [(0, p0_yield), (1, (vp p1_a)), (2, (vp p2_a)), (4, (vi (w64 (x13 - 1)))), (16, (vi x16)), (17, (vi (w64 (s1 + 1))))]) zX
  exact SC.exit <| SX.then_exit <| SX.loop_exit <| SX.block_hit <| SX.endBody [] rfl zz
theorem stripe_rows_sim (p0_g : (Int × Int × Int)) (p1_seg : Int) : Sm Tryz.prog 51 [(.agg #[(vi p0_g.1), (vi p0_g.2.1), (vi p0_g.2.2)]), (vi p1_seg)] (fun v : Value => v) (stripe_rows p0_g p1_seg) := by
  refine sm_of 6 Tryz.func51 rfl rfl rfl fun _ => ?_
  unfold stripe_rows
  exact zG <| KT.nw 2 (fun ad => .pointer (some ad)) 33 fun x2 => KT.nw 3 (fun ad => .pointer (some ad)) 3 fun x3 => zp 4 Value.nilFunc <| zN <| zp 5 (.func (.func fid_stripe_rows_c1) #[] #[(vp x2), (vp x3)]) <| zp 4 (.func (.func fid_stripe_rows_c1) #[] #[(vp x2), (vp x3)]) <| zn <| SC.ret <| ze [.tmp 4] <| zm rfl zz
theorem stripe_there_sim (p0_b : (Option Addr)) (p1_seg : Int) : Sm Tryz.prog 106 [(.pointer p0_b), (vi p1_seg)] (Value.int .i64) (stripe_there p0_b p1_seg) := by
  refine sm_of 18 Tryz.func106 rfl rfl rfl fun _ => ?_
  unfold stripe_there
  refine zG <| zp 4 (vi 0) <| zn <| zq <| SC.block <| zG <| zp 6 (vi p1_seg) <| zp 7 (vb (decide (p1_seg < 0))) <| zp 8 (vb (decide (p1_seg < 0))) <| zj 6 (fun q1 => [(14, (vb q1)), (0, (.pointer p0_b))]) (fun q1 => ?_) (fun j1 => ?_)
  refine zp 5 (vb q1) <| zn <| SC.cond rfl ?_ ?_
  exact zG <| zp 4 (vi 28) <| zn <| SC.ret <| SX.block_ret <| SX.then_ret <| ze [.tmp 4] <| zm rfl zz
  refine zG <| zp 16 (.pointer p0_b) <| zc 17 (bank_Bank_Off_sim _) fun x17 => zp 15 (vb x17) <| zn <| SC.cond rfl ?_ ?_
  exact zG <| zp 4 (vi 12) <| zn <| SC.ret <| SX.block_ret <| SX.then_ret <| ze [.tmp 4] <| zm rfl zz
  exact SC.skip <| SX.block <| SX.seq <| zG <| zp 4 (vi 0) <| zn <| SC.ret <| ze [.tmp 4] <| zm rfl zz
  refine KT.ite 8 rfl ?_ ?_
  exact zk <| zk <| zk <| zk <| zk <| zp 14 (vb true) <| zl j1
  exact zp 9 (vi p1_seg) <| zp 10 (.pointer p0_b) <| zc 11 (bank_Bank_Geo_sim _) fun x11 => zp 12 (vi x11.2.2) <| zp 13 (vb (decide (p1_seg ≥ x11.2.2))) <| zp 14 (vb (decide (p1_seg ≥ x11.2.2))) <| zl j1
theorem slices_Index_i_sim (p0_s : Slc) (p1_v : Int) : Sm Tryz.prog 143 [(vS p0_s), (vi p1_v)] (Value.int .i64) (slices_Index_i p0_s p1_v) := by
  refine sm_of 19 Tryz.func143 rfl rfl rfl fun _ => ?_
  unfold slices_Index_i
  refine zG <| zp 4 (vi 0) <| zn <| zq <| zG <| zp 6 (vS p0_s) <| zp 7 (vi (vl p0_s)) <| zp 8 (vi 0) <| zn <| SC.block <| zL (σ := (Int)) (fun s1 => [(0, (vS p0_s)), (1, (vi p1_v)), (7, (vi (vl p0_s))), (8, (vi s1))]) fun _ _ _ s1 => zG <| zp 9 (vb (decide (s1 < (vl p0_s)))) <| zn <| zq <| SC.cond rfl ?_ ?_
  refine zw <| zq <| SC.block <| zG <| zp 10 (vi s1) <| zp 5 (vi s1) <| zN <| zp 11 (vi p1_v) <| zp 12 (vS p0_s) <| zp 13 (vi s1) <| zy <| oix 14 3 fun x14 => KT.l 15 fun x15 => zp 16 (vb (p1_v == x15)) <| zn <| SC.cond rfl ?_ ?_
  exact zG <| zp 17 (vi s1) <| zp 4 (vi s1) <| zn <| SC.ret <| SX.block_ret <| SX.then_ret <| SX.loop_ret <| SX.block_ret <| SX.then_ret <| ze [.tmp 4] <| zm rfl zz
  exact SC.skip <| SX.block <| SX.seq <| zg <| zp 18 (vi (w64 (s1 + 1))) <| zp 8 (vi (w64 (s1 + 1))) <| KT.nil zX
  exact SC.exit <| SX.then_exit <| SX.loop_exit <| SX.block_hit <| SX.seq <| zG <| zp 4 (vi (-1)) <| zn <| SC.ret <| ze [.tmp 4] <| zm rfl zz
theorem slices_Contains_i_sim (p0_s : Slc) (p1_v : Int) : Sm Tryz.prog 107 [(vS p0_s), (vi p1_v)] Value.bool (slices_Contains_i p0_s p1_v) := by
  refine sm_of 9 Tryz.func107 rfl rfl rfl fun _ => ?_
  unfold slices_Contains_i
  exact zG <| zp 4 (vb false) <| zN <| zp 5 (vS p0_s) <| zp 6 (vi p1_v) <| zc 7 (slices_Index_i_sim _ _) fun x7 => zp 8 (vb (decide (x7 ≥ 0))) <| zp 4 (vb (decide (x7 ≥ 0))) <| zn <| SC.ret <| ze [.tmp 4] <| zm rfl zz
theorem bank_Bank_Read_sim (p0_b : (Option Addr)) (p1_slot : Int) (p2_sector : Int) : Sm Tryz.prog 108 [(.pointer p0_b), (vi p1_slot), (vi p2_sector)] (fun y : (Slc × Int) => (.tuple #[(vS y.1), (vi y.2)])) (bank_Bank_Read p0_b p1_slot p2_sector) := by
  refine sm_of 27 Tryz.func108 rfl rfl rfl fun _ => ?_
  unfold bank_Bank_Read
  refine zG <| zp 6 (.slice none 0 0) <| zp 7 (vi 0) <| zN <| zp 11 (.pointer p0_b) <| zp 12 (vi p1_slot) <| zc 13 (bank_Bank_disk_sim _ _) fun x13 => zp 10 (.tuple #[(vi x13.1), (vb x13.2)]) <| zp 14 (vi x13.1) <| zp 15 (vb x13.2) <| zp 8 (vi x13.1) <| zp 9 (vb x13.2) <| zn <| zq <| zG <| zp 16 (vb x13.2) <| zp 17 (vb (!x13.2)) <| zn <| SC.cond rfl ?_ ?_
  exact zG <| zp 6 (.slice none 0 0) <| zp 7 (vi 11) <| zn <| zt <| ze [.tmp 6, .tmp 7] <| zm rfl <| zm rfl zz
  exact zw <| zG <| zp 18 (.pointer p0_b) <| KT.nm 19 fun x19 => zp 20 (vp x19) <| KT.l 21 fun x21 => zp 22 (vi x13.1) <| zp 23 (vi p2_sector) <| zc 24 (device_Rack_Read_sim _ _ _) fun x24 => zp 25 (vS x24.1) <| zp 26 (vi x24.2) <| zp 6 (vS x24.1) <| zp 7 (vi x24.2) <| zn <| SC.ret <| ze [.tmp 6, .tmp 7] <| zm rfl <| zm rfl zz
theorem stripe_Whole_sim (p0_b : (Option Addr)) (p1_seg : Int) : Sm Tryz.prog 74 [(.pointer p0_b), (vi p1_seg)] (fun y : (Int × Bool × Int) => (.tuple #[(vi y.1), (vb y.2.1), (vi y.2.2)])) (stripe_Whole (cvOf Tryz.prog) p0_b p1_seg) := by
  refine sm_of 82 Tryz.func74 rfl rfl rfl fun _ => ?_
  unfold stripe_Whole
  refine zG <| KT.nw 2 (fun ad => .pointer (some ad)) 44 fun x2 => KT.nw 4 (fun ad => .pointer (some ad)) 3 fun x4 => KT.nw 5 (fun ad => .pointer (some ad)) 4 fun x5 => KT.nw 6 (fun ad => .pointer (some ad)) 28 fun x6 => zn <| zq <| zG <| KT.l 19 fun x19 => zp 20 (vi p1_seg) <| zc 21 (stripe_there_sim _ _) fun x21 => zp 7 (vi x21) <| zN <| zp 22 (vi x21) <| zp 23 (vb (x21 != 0)) <| zn <| SC.cond rfl ?_ ?_
  exact zG <| zp 24 (vi x21) <| KT.s <| KT.s <| KT.s <| zn <| zt <| ze [.cell 4 3, .cell 5 4, .cell 6 28] <| RS.cell rfl (by kernel_rfl) fun r4 => RS.cell rfl (by kernel_rfl) fun r5 => RS.cell rfl (by kernel_rfl) fun r6 => zz
  refine zw <| zG <| KT.l 25 fun x25 => zc 26 (bank_Bank_Bad_sim _) fun x26 => KT.nw 8 (fun ad => .pointer (some ad)) 36 fun x8 => KT.s <| zn <| zq <| zG <| KT.l 27 fun x27 => zp 28 (vi (vl x27)) <| zp 29 (vb (decide ((vl x27) > 1))) <| zn <| SC.cond rfl ?_ ?_
  exact zG <| KT.s <| KT.s <| KT.s <| zn <| zt <| ze [.cell 4 3, .cell 5 4, .cell 6 28] <| RS.cell rfl (by kernel_rfl) fun r4 => RS.cell rfl (by kernel_rfl) fun r5 => RS.cell rfl (by kernel_rfl) fun r6 => zz
  refine zw <| zG <| KT.nw 9 (fun ad => .pointer (some ad)) 3 fun x9 => KT.s <| zn <| zq <| zG <| KT.l 30 fun x30 => zc 31 (bank_Bank_Geo_sim _) fun x31 => zp 32 (vi p1_seg) <| zc 33 (stripe_rows_sim _ _) fun x33 => zn <| SC.block <| SC.rangeF (ξ := (Int × Slc)) (τ := (Slc)) (fv := x33) (ps := [34, 35]) (encX := (fun x_1 : (Int × Slc) => [(vi x_1.1), (vS x_1.2)])) (fun t_1 => [(2, (vp x2)), (4, (vp x4)), (5, (vp x5)), (6, (vp x6)), (8, (vp x8)), (9, (vp x9)), (11, (vS t_1))]) rfl (fun _ => rfl) rfl (fun _ x_1 _ _ h1 => ?_) (fun _ _ _ t_1 => ?_) (fun D1 => ?_) (fun D1 => ?_) (fun D1 i1 => ?_)
  exact zg <| zp 11 (vS x_1.2) <| KT.nil <| SX.leafP h1 (.cons rfl (.cons rfl (.cons rfl (.cons rfl (.cons rfl (.cons rfl (.cons rfl (.nil))))))))
  refine SC.block <| zG <| zp 36 (vS t_1) <| zp 37 (vi (vl t_1)) <| zp 38 (vi 0) <| zn <| SC.block <| zL (σ := (Int)) (fun s2 => [(2, (vp x2)), (4, (vp x4)), (5, (vp x5)), (6, (vp x6)), (8, (vp x8)), (9, (vp x9)), (36, (vS t_1)), (37, (vi (vl t_1))), (38, (vi s2))]) fun _ _ _ s2 => zG <| zp 39 (vb (decide (s2 < (vl t_1)))) <| zn <| zq <| SC.cond rfl ?_ ?_
  refine zw <| zq <| SC.block <| zG <| zy <| oix 40 119 fun x40 => zo <| ola 41 2 fun x41 => KT.nw 13 (fun ad => .pointer (some ad)) 119 fun x13 => zo <| osa <| zn <| zq <| zG <| KT.l 42 fun x42 => zp 43 (vp x13) <| KT.l 44 fun x44 => zc 45 (slices_Contains_i_sim _ _) fun x45 => zn <| SC.cond rfl ?_ ?_
  exact SC.exit <| SX.then_exit <| SX.block_hit <| SX.seq <| zg <| zp 80 (vi (w64 (s2 + 1))) <| zp 38 (vi (w64 (s2 + 1))) <| KT.nil zX
  refine zw <| zG <| KT.l 47 fun x47 => zp 48 (vp x13) <| KT.l 49 fun x49 => zp 50 (va x13 1) <| KT.l 51 fun x51 => zc 52 (bank_Bank_Read_sim _ _ _) fun x52 => zp 46 (.tuple #[(vS x52.1), (vi x52.2)]) <| zp 53 (vS x52.1) <| zp 54 (vi x52.2) <| zp 14 (vS x52.1) <| zp 15 (vi x52.2) <| zN <| zp 56 (vS x52.1) <| zc 57 (sector_Decode_sim _) fun x57 => zp 55 (.tuple #[(.agg #[(vi x57.1.1), (vi x57.1.2.1), (vi x57.1.2.2)]), (vS x57.2.1), (vb x57.2.2)]) <| zp 58 (.agg #[(vi x57.1.1), (vi x57.1.2.1), (vi x57.1.2.2)]) <| zp 59 (vS x57.2.1) <| zp 60 (vb x57.2.2) <| KT.nw 16 (fun ad => .pointer (some ad)) 99 fun x16 => zo <| osa <| zp 17 (vS x57.2.1) <| zp 18 (vb x57.2.2) <| KT.nil <| zS (T' := [(2, (vp x2)), (4, (vp x4)), (5, (vp x5)), (6, (vp x6)), (8, (vp x8)), (9, (vp x9)), (15, (vi x52.2)), (16, (vp x16)), (36, (vS t_1)), (37, (vi (vl t_1))), (38, (vi s2))]) <| SX.seq <| zq <| zG <| zp 61 (vi x52.2) ?_
  refine zp 62 (vb (x52.2 != 0)) <| zp 63 (vb (x52.2 != 0)) <| zj 4 (fun q3 => [(67, (vb q3)), (2, (vp x2)), (4, (vp x4)), (5, (vp x5)), (6, (vp x6)), (8, (vp x8)), (9, (vp x9)), (16, (vp x16)), (36, (vS t_1)), (37, (vi (vl t_1))), (38, (vi s2))]) (fun q3 => ?_) (fun j3 => ?_)
  refine zp 68 (vb q3) <| zj 9 (fun q4 => [(77, (vb q4)), (2, (vp x2)), (4, (vp x4)), (5, (vp x5)), (6, (vp x6)), (8, (vp x8)), (9, (vp x9)), (16, (vp x16)), (36, (vS t_1)), (37, (vi (vl t_1))), (38, (vi s2))]) (fun q4 => ?_) (fun j4 => ?_)
  refine zn <| SC.cond rfl ?_ ?_
  exact zG <| KT.s <| KT.s <| KT.s <| zn <| zt <| SX.block_ret <| SX.then_ret <| SX.loop_ret <| SX.block_ret <| SX.block_ret SX.round_ret
  exact zw <| zg <| zp 78 (vp x16) <| KT.l 79 fun x79 => KT.s <| KT.nil <| SX.block <| SX.seq <| zg <| zp 80 (vi (w64 (s2 + 1))) <| zp 38 (vi (w64 (s2 + 1))) <| KT.nil zX
  refine KT.ite 68 rfl ?_ ?_
  exact zk <| zk <| zk <| zk <| zk <| zk <| zk <| zk <| zp 77 (vb true) <| zl j4
  refine KT.l 69 fun x69 => zp 70 (vb (x69 != 0)) <| zp 71 (vb (x69 != 0)) <| zj 5 (fun q5 => [(76, (vb q5)), (2, (vp x2)), (4, (vp x4)), (5, (vp x5)), (6, (vp x6)), (8, (vp x8)), (9, (vp x9)), (16, (vp x16)), (36, (vS t_1)), (37, (vi (vl t_1))), (38, (vi s2)), (68, (vb false))]) (fun q5 => ?_) (fun j5 => ?_)
  exact zp 77 (vb q5) <| zl j4
  refine KT.ite 71 rfl ?_ ?_
  exact zp 72 (vp x16) <| KT.l 73 fun x73 => KT.l 74 fun x74 => zp 75 (vb (x73 != x74)) <| zp 76 (vb (x73 != x74)) <| zl j5
  exact zk <| zk <| zk <| zk <| zp 76 (vb false) <| zl j5
  refine KT.ite 63 rfl ?_ ?_
  exact zk <| zk <| zk <| zp 67 (vb true) <| zl j3
  exact zp 64 (vp x16) <| KT.l 65 fun x65 => zp 66 (vb (x65 == 0)) <| zp 67 (vb (x65 == 0)) <| zl j3
  exact SC.exit <| SX.then_exit <| SX.loop_exit <| SX.block_hit <| SX.block SX.round_next
  exact SX.block <| SX.seq <| zG <| KT.l 81 fun x81 => KT.s <| KT.s <| KT.s <| zn <| SC.ret <| ze [.cell 4 3, .cell 5 4, .cell 6 28] <| RS.cell rfl (by kernel_rfl) fun r4 => RS.cell rfl (by kernel_rfl) fun r5 => RS.cell rfl (by kernel_rfl) fun r6 => zz
  exact SX.block_ret <| SX.then_ret <| ze [.cell 4 3, .cell 5 4, .cell 6 28] <| RS.cell rfl (by kernel_rfl) fun r4 => RS.cell rfl (by kernel_rfl) fun r5 => RS.cell rfl (by kernel_rfl) fun r6 => zz
  exact SX.fail
theorem stripe_good_sim (p0_b : (Option Addr)) (p1_s : (Int × Int)) (p2_seq : Int) : Sm Tryz.prog 109 [(.pointer p0_b), (.agg #[(vi p1_s.1), (vi p1_s.2)]), (vi p2_seq)] (fun y : (Slc × Bool) => (.tuple #[(vS y.1), (vb y.2)])) (stripe_good p0_b p1_s p2_seq) := by
  refine sm_of 35 Tryz.func109 rfl rfl rfl fun _ => ?_
  unfold stripe_good
  refine zG <| KT.nw 4 (fun ad => .pointer (some ad)) 119 fun x4 => zp 6 (.slice none 0 0) <| zp 7 (vb false) <| zN <| zp 14 (.pointer p0_b) <| zp 15 (vp x4) <| KT.l 16 fun x16 => zp 17 (va x4 1) <| KT.l 18 fun x18 => zc 19 (bank_Bank_Read_sim _ _ _) fun x19 => zp 13 (.tuple #[(vS x19.1), (vi x19.2)]) <| zp 20 (vS x19.1) <| zp 21 (vi x19.2) <| zp 8 (vS x19.1) <| zp 9 (vi x19.2) <| zn <| zq <| zG <| zp 22 (vi x19.2) <| zp 23 (vb (x19.2 != 0)) <| zn <| SC.cond rfl ?_ ?_
  exact zG <| zp 6 (.slice none 0 0) <| zp 7 (vb false) <| zn <| zt <| ze [.tmp 6, .tmp 7] <| zm rfl <| zm rfl zz
  exact zw <| zG <| zp 25 (vS x19.1) <| zc 26 (sector_Decode_sim _) fun x26 => zp 24 (.tuple #[(.agg #[(vi x26.1.1), (vi x26.1.2.1), (vi x26.1.2.2)]), (vS x26.2.1), (vb x26.2.2)]) <| zp 27 (.agg #[(vi x26.1.1), (vi x26.1.2.1), (vi x26.1.2.2)]) <| zp 28 (vS x26.2.1) <| zp 29 (vb x26.2.2) <| KT.nw 10 (fun ad => .pointer (some ad)) 99 fun x10 => zo <| osa <| zp 11 (vS x26.2.1) <| zp 12 (vb x26.2.2) <| zn <| zq <| SC.draw 7 (fun _ => false) rfl (by kernel_rfl) fun S1 => zpA 0 30 (vS x19.1) <| zpA 1 31 (vp x10) <| zA 2 rfl <| oli 32 fun x32 => zpA 3 33 (vi p2_seq) <| zpA 4 34 (vb (x32 == p2_seq)) <| zpA 5 6 (vS x19.1) <| zpA 6 7 (vb (x32 == p2_seq)) <| KT.doneA (by kernel_rfl) <| zS (T' := [(6, (vS x19.1)), (7, (vb (x32 == p2_seq)))]) <| SX.seq <| SC.ret <| ze [.tmp 6, .tmp 7] <| zm rfl <| zm rfl zz
theorem bytes_Equal_sim (p0_a : Slc) (p1_b : Slc) : Sm Tryz.prog 116 [(vS p0_a), (vS p1_b)] Value.bool (bytes_Equal p0_a p1_b) := by
  refine sm_of 10 Tryz.func116 rfl rfl rfl fun _ => ?_
  unfold bytes_Equal
  refine zG <| zp 4 (vb false) <| zN <| zp 5 (vS p0_a) <| KT.ow rfl (OW.bstr (d := 6) (s := p0_a) _ _ 5 _ rfl rfl (by kernel_rfl) (by kernel_rfl) (by kernel_rfl) rfl rfl (fun x6 => ?_))
  refine zp 7 (vS p1_b) <| KT.ow rfl (OW.bstr (d := 8) (s := p1_b) _ _ 5 _ rfl rfl (by kernel_rfl) (by kernel_rfl) (by kernel_rfl) rfl rfl (fun x8 => ?_))
  refine KT.oy rfl (OY.eqlStr (d := 9) (x := x6) (y := x8) _ _ _ _ rfl rfl rfl (by kernel_rfl) rfl rfl ?_)
  exact zp 4 (vb (strEq x6 x8)) <| zn <| SC.ret <| ze [.tmp 4] <| zm rfl zz
theorem bytes_HasPrefix_sim (p0_s : Slc) (p1_prefix : Slc) : Sm Tryz.prog 94 [(vS p0_s), (vS p1_prefix)] Value.bool (bytes_HasPrefix p0_s p1_prefix) := by
  refine sm_of 18 Tryz.func94 rfl rfl rfl fun _ => ?_
  unfold bytes_HasPrefix
  refine zG <| zp 4 (vb false) <| zN <| zp 5 (vS p0_s) <| zp 6 (vi (vl p0_s)) <| zp 7 (vS p1_prefix) <| zp 8 (vi (vl p1_prefix)) <| zp 9 (vb (decide ((vl p0_s) ≥ (vl p1_prefix)))) <| zp 10 (vb (decide ((vl p0_s) ≥ (vl p1_prefix)))) <| zj 7 (fun q1 => [(17, (vb q1))]) (fun q1 => ?_) (fun j1 => ?_)
  exact zp 4 (vb q1) <| zn <| SC.ret <| ze [.tmp 4] <| zm rfl zz
  refine KT.ite 10 rfl ?_ ?_
  refine zp 11 (vS p0_s) <| zp 12 (vS p1_prefix) <| zp 13 (vi (vl p1_prefix)) <| KT.oy rfl (OY.slice01 (d := 14) (s := p0_s) (hi := (vl p1_prefix)) (size := 1) (elem := 5) _ _ _ rfl rfl rfl (by kernel_rfl) (by kernel_rfl) rfl rfl (fun x14 => ?_))
  exact zp 15 (vS p1_prefix) <| zc 16 (bytes_Equal_sim _ _) fun x16 => zp 17 (vb x16) <| zl j1
  exact zk <| zk <| zk <| zk <| zk <| zk <| zp 17 (vb false) <| zl j1
theorem bits_Xor_sim (p0_a : Slc) (p1_b : Slc) : Sm Tryz.prog 95 [(vS p0_a), (vS p1_b)] vS (bits_Xor p0_a p1_b) := by
  refine sm_of 33 Tryz.func95 rfl rfl rfl fun _ => ?_
  unfold bits_Xor
  refine zG <| zp 4 (.slice none 0 0) <| zn <| zq <| zG <| zp 8 (vS p0_a) <| zp 9 (vi (vl p0_a)) <| zp 10 (vS p1_b) <| zp 11 (vi (vl p1_b)) <| zp 12 (vb (decide ((vl p0_a) < (vl p1_b)))) <| zn <| SC.join (β := (Slc × Slc)) (fun b1 => [(0, (vS b1.1)), (1, (vS b1.2))]) (fun b1 => ?_) (fun j1 => ?_)
  refine SX.seq <| zG <| zp 15 (vS b1.1) <| zc 16 (bytes_Clone_sim _) fun x16 => zp 5 (vS x16) <| zn <| zq <| zG <| zp 17 (vS b1.2) <| zp 18 (vi (vl b1.2)) <| zp 19 (vi 0) <| zn <| SC.block <| zL (σ := (Int)) (fun s2 => [(5, (vS x16)), (17, (vS b1.2)), (18, (vi (vl b1.2))), (19, (vi s2))]) fun _ _ _ s2 => zG <| zp 20 (vb (decide (s2 < (vl b1.2)))) <| zn <| zq <| SC.cond rfl ?_ ?_
  exact zw <| zq <| SC.block <| zG <| zp 21 (vi s2) <| zy <| oix 22 5 fun x22 => KT.l 23 fun x23 => zp 6 (vi s2) <| zp 7 (.int .u8 x23) <| zn <| zg <| zp 24 (vS x16) <| zp 25 (vi s2) <| zy <| oix 26 5 fun x26 => KT.l 27 fun x27 => zp 28 (.int .u8 x23) <| zp 29 (.int .u8 (bXor .u8 x27 x23)) <| zy <| oix 30 5 fun x30 => KT.s <| KT.nil <| SX.block <| SX.seq <| zg <| zp 31 (vi (w64 (s2 + 1))) <| zp 19 (vi (w64 (s2 + 1))) <| KT.nil zX
  exact SC.exit <| SX.then_exit <| SX.loop_exit <| SX.block_hit <| SX.seq <| zG <| zp 32 (vS x16) <| zp 4 (vS x16) <| zn <| SC.ret <| ze [.tmp 4] <| zm rfl zz
  refine SC.cond rfl ?_ ?_
  exact zg <| zp 13 (vS p1_b) <| zp 14 (vS p0_a) <| zp 0 (vS p1_b) <| zp 1 (vS p0_a) <| KT.nil <| zf j1
  exact SC.skip <| zf j1
theorem sector_Parity_sim (p0_list : Slc) : Sm Tryz.prog 52 [(vS p0_list)] (fun y : (Slc × Bool) => (.tuple #[(vS y.1), (vb y.2)])) (sector_Parity p0_list) := by
  refine sm_of 46 Tryz.func52 rfl rfl rfl fun _ => ?_
  unfold sector_Parity
  refine zG <| zp 2 (.slice none 0 0) <| zp 3 (vb false) <| zn <| zq <| zG <| zp 8 (vS p0_list) <| zp 9 (vi (vl p0_list)) <| zp 10 (vb ((vl p0_list) == 0)) <| zp 11 (vb ((vl p0_list) == 0)) <| zj 6 (fun q1 => [(17, (vb q1)), (0, (vS p0_list))]) (fun q1 => ?_) (fun j1 => ?_)
  refine zn <| SC.cond rfl ?_ ?_
  exact zG <| zp 2 (.slice none 0 0) <| zp 3 (vb false) <| zn <| zt <| ze [.tmp 2, .tmp 3] <| zm rfl <| zm rfl zz
  refine zw <| zG <| zp 18 (vS p0_list) <| zy <| oix 19 42 fun x19 => KT.l 20 fun x20 => KT.oy rfl (OY.slice01 (d := 21) (s := x20) (hi := 4) (size := 1) (elem := 5) _ _ _ rfl rfl rfl (by kernel_rfl) (by kernel_rfl) rfl rfl (fun x21 => ?_))
  refine zp 4 (vS x21) <| zp 5 (.slice none 0 0) <| zn <| zq <| zG <| zp 22 (vS p0_list) <| zp 23 (vi (vl p0_list)) <| zp 24 (vi 0) <| zn <| SC.block <| zL (σ := (Slc × Int)) (fun s2 => [(4, (vS x21)), (5, (vS s2.1)), (22, (vS p0_list)), (23, (vi (vl p0_list))), (24, (vi s2.2))]) fun _ _ _ s2 => zG <| zp 25 (vb (decide (s2.2 < (vl p0_list)))) <| zn <| zq <| SC.cond rfl ?_ ?_
  refine zw <| zq <| SC.block <| zG <| zy <| oix 26 42 fun x26 => KT.l 27 fun x27 => zp 7 (vS x27) <| zn <| zq <| zG <| zp 28 (vS x27) <| zp 29 (vi (vl x27)) <| zp 30 (vb ((vl x27) != 64)) <| zp 31 (vb ((vl x27) != 64)) <| zj 5 (fun q3 => [(36, (vb q3)), (4, (vS x21)), (5, (vS s2.1)), (7, (vS x27)), (22, (vS p0_list)), (23, (vi (vl p0_list))), (24, (vi s2.2))]) (fun q3 => ?_) (fun j3 => ?_)
  refine zn <| SC.cond rfl ?_ ?_
  exact zG <| zp 2 (.slice none 0 0) <| zp 3 (vb false) <| zn <| zt <| SX.block_ret <| SX.then_ret <| SX.loop_ret <| SX.block_ret <| SX.then_ret <| ze [.tmp 2, .tmp 3] <| zm rfl <| zm rfl zz
  refine zw <| zg <| zp 37 (vS s2.1) <| zp 38 (vS x27) <| KT.oy rfl (OY.slice10 (d := 39) (s := x27) (lo := 4) (size := 1) (elem := 5) _ _ _ rfl rfl rfl (by kernel_rfl) (by kernel_rfl) rfl rfl (fun x39 => ?_))
  exact zc 40 (bits_Xor_sim _ _) fun x40 => zp 5 (vS x40) <| KT.nil <| SX.block <| SX.seq <| zg <| zp 41 (vi (w64 (s2.2 + 1))) <| zp 24 (vi (w64 (s2.2 + 1))) <| KT.nil zX
  refine KT.ite 31 rfl ?_ ?_
  exact zk <| zk <| zk <| zk <| zp 36 (vb true) <| zl j3
  exact zp 32 (vS x27) <| zp 33 (vS x21) <| zc 34 (bytes_HasPrefix_sim _ _) fun x34 => zp 35 (vb (!x34)) <| zp 36 (vb (!x34)) <| zl j3
  exact SC.exit <| SX.then_exit <| SX.loop_exit <| SX.block_hit <| SX.seq <| zG <| zp 42 (vS x21) <| zc 43 (bytes_Clone_sim _) fun x43 => zp 44 (vS s2.1) <| zo <| oapp 45 5 fun x45 => zp 2 (vS x45) <| zp 3 (vb true) <| zn <| SC.ret <| ze [.tmp 2, .tmp 3] <| zm rfl <| zm rfl zz
  refine KT.ite 11 rfl ?_ ?_
  exact zk <| zk <| zk <| zk <| zk <| zp 17 (vb true) <| zl j1
  exact zp 12 (vS p0_list) <| zy <| oix 13 42 fun x13 => KT.l 14 fun x14 => zp 15 (vi (vl x14)) <| zp 16 (vb ((vl x14) != 64)) <| zp 17 (vb ((vl x14) != 64)) <| zl j1
theorem sector_Restore_sim (p0_list : Slc) : Sm Tryz.prog 144 [(vS p0_list)] (fun y : (Slc × Bool) => (.tuple #[(vS y.1), (vb y.2)])) (sector_Restore p0_list) := by
  refine sm_of 8 Tryz.func144 rfl rfl rfl fun _ => ?_
  unfold sector_Restore
  exact zG <| zp 2 (.slice none 0 0) <| zp 3 (vb false) <| zN <| zp 4 (vS p0_list) <| zc 5 (sector_Parity_sim _) fun x5 => zp 6 (vS x5.1) <| zp 7 (vb x5.2) <| zp 2 (vS x5.1) <| zp 3 (vb x5.2) <| zn <| SC.ret <| ze [.tmp 2, .tmp 3] <| zm rfl <| zm rfl zz
theorem stripe_others_sim (p0_b : (Option Addr)) (p1_r : Slc) (p2_lost : (Int × Int)) (p3_seq : Int) : Sm Tryz.prog 110 [(.pointer p0_b), (vS p1_r), (.agg #[(vi p2_lost.1), (vi p2_lost.2)]), (vi p3_seq)] (fun y : (Slc × Bool) => (.tuple #[(vS y.1), (vb y.2)])) (stripe_others p0_b p1_r p2_lost p3_seq) := by
  refine sm_of 42 Tryz.func110 rfl rfl rfl fun _ => ?_
  unfold stripe_others
  refine zG <| KT.nw 6 (fun ad => .pointer (some ad)) 119 fun x6 => zp 8 (.slice none 0 0) <| zp 9 (vb false) <| zN <| zp 10 (.slice none 0 0) <| zn <| zq <| zG <| zp 15 (vS p1_r) <| zp 16 (vi (vl p1_r)) <| zp 17 (vi 0) <| zn <| SC.block <| zL (σ := (Slc × Int)) (fun s1 => [(0, (.pointer p0_b)), (3, (vi p3_seq)), (6, (vp x6)), (10, (vS s1.1)), (15, (vS p1_r)), (16, (vi (vl p1_r))), (17, (vi s1.2))]) fun _ _ _ s1 => zG <| zp 18 (vb (decide (s1.2 < (vl p1_r)))) <| zn <| zq <| SC.cond rfl ?_ ?_
  refine zw <| zq <| SC.block <| zG <| zy <| oix 19 119 fun x19 => zo <| ola 20 2 fun x20 => KT.nw 12 (fun ad => .pointer (some ad)) 119 fun x12 => zo <| osa <| zn <| zq <| zG <| zo <| ola 21 2 fun x21 => zo <| ola 22 2 fun x22 => KT.oy rfl (OY.eqlAgg2 (d := 23) (x := (x21.1, x21.2)) (y := (x22.1, x22.2)) _ _ _ _ _ _ rfl rfl rfl rfl (by kernel_rfl) rfl rfl ?_)
  refine zn <| SC.cond rfl ?_ ?_
  exact SC.exit <| SX.then_exit <| SX.block_hit <| SX.seq <| zg <| zp 37 (vi (w64 (s1.2 + 1))) <| zp 17 (vi (w64 (s1.2 + 1))) <| KT.nil zX
  refine zw <| zG <| zp 25 (.pointer p0_b) <| zo <| ola 26 2 fun x26 => zp 27 (vi p3_seq) <| zc 28 (stripe_good_sim _ _ _) fun x28 => zp 24 (.tuple #[(vS x28.1), (vb x28.2)]) <| zp 29 (vS x28.1) <| zp 30 (vb x28.2) <| zp 13 (vS x28.1) <| zp 14 (vb x28.2) <| zn <| zq <| zG <| zp 31 (vb x28.2) <| zp 32 (vb (!x28.2)) <| zn <| SC.cond rfl ?_ ?_
  exact zG <| zp 8 (.slice none 0 0) <| zp 9 (vb false) <| zn <| zt <| SX.block_ret <| SX.then_ret <| SX.loop_ret <| SX.block_ret <| SX.then_ret <| ze [.tmp 8, .tmp 9] <| zm rfl <| zm rfl zz
  exact zw <| zg <| zp 33 (vS s1.1) <| zp 34 (vS x28.1) <| KT.nw 35 (fun ad => .slice (some ad) 1 1) 42 fun x35 => zo <| oapp 36 42 fun x36 => zp 10 (vS x36) <| KT.nil <| zS (T' := [(0, (.pointer p0_b)), (3, (vi p3_seq)), (6, (vp x6)), (10, (vS x36)), (15, (vS p1_r)), (16, (vi (vl p1_r))), (17, (vi s1.2))]) <| SX.block <| SX.seq <| zg <| zp 37 (vi (w64 (s1.2 + 1))) <| zp 17 (vi (w64 (s1.2 + 1))) <| KT.nil zX
  exact SC.exit <| SX.then_exit <| SX.loop_exit <| SX.block_hit <| SX.seq <| zG <| zp 38 (vS s1.1) <| zc 39 (sector_Restore_sim _) fun x39 => zp 40 (vS x39.1) <| zp 41 (vb x39.2) <| zp 8 (vS x39.1) <| zp 9 (vb x39.2) <| zn <| SC.ret <| ze [.tmp 8, .tmp 9] <| zm rfl <| zm rfl zz
theorem stripe_Read_sim (p0_b : (Option Addr)) (p1_seg : Int) (p2_k : Int) (p3_seq : Int) : Sm Tryz.prog 75 [(.pointer p0_b), (vi p1_seg), (vi p2_k), (vi p3_seq)] (fun y : ((Int × Int × Slc) × Int) => (.tuple #[(.agg #[(vi y.1.1), (vi y.1.2.1), (vS y.1.2.2)]), (vi y.2)])) (stripe_Read (cvOf Tryz.prog) p0_b p1_seg p2_k p3_seq) := by
  refine sm_of 80 Tryz.func75 rfl rfl rfl fun _ => ?_
  unfold stripe_Read
  refine zG <| KT.nw 4 (fun ad => .pointer (some ad)) 44 fun x4 => KT.nw 6 (fun ad => .pointer (some ad)) 3 fun x6 => KT.nw 7 (fun ad => .pointer (some ad)) 3 fun x7 => KT.nw 8 (fun ad => .pointer (some ad)) 65 fun x8 => zp 9 (vi 0) <| zN <| KT.l 19 fun x19 => zc 20 (bank_Bank_Geo_sim _) fun x20 => KT.nw 10 (fun ad => .pointer (some ad)) 33 fun x10 => zo <| osa <| zN <| zo <| ola 22 3 fun x22 => zp 23 (vi p1_seg) <| KT.l 24 fun x24 => zc 25 (geo_Block_sim _ _ _) fun x25 => zp 21 (.tuple #[(.agg #[(vi x25.1.1), (vi x25.1.2)]), (vb x25.2)]) <| zp 26 (.agg #[(vi x25.1.1), (vi x25.1.2)]) <| zp 27 (vb x25.2) <| KT.nw 11 (fun ad => .pointer (some ad)) 119 fun x11 => KT.nw 12 (fun ad => .pointer (some ad)) 4 fun x12 => zo <| osa <| KT.s <| zn <| zq <| SC.block <| zG <| KT.l 29 fun x29 => zp 30 (vb (!x29)) <| zp 28 (vb (!x29)) ?_
  refine zn <| SC.cond rfl ?_ ?_
  exact zG <| zp 31 (.agg #[(vi 0), (vi 0), (.slice none 0 0)]) <| zo <| osa <| zp 9 (vi 28) <| zn <| SC.ret <| SX.block_ret <| SX.then_ret <| ze [.cell 8 65, .tmp 9] <| RS.cellA 3 (by kernel_rfl) rfl rfl (fun _ => rfl) fun r8 => zm rfl zz
  refine zG <| KT.l 33 fun x33 => zc 34 (bank_Bank_Off_sim _) fun x34 => zp 32 (vb x34) <| zn <| SC.cond rfl ?_ ?_
  exact zG <| zp 35 (.agg #[(vi 0), (vi 0), (.slice none 0 0)]) <| zo <| osa <| zp 9 (vi 12) <| zn <| SC.ret <| SX.block_ret <| SX.then_ret <| ze [.cell 8 65, .tmp 9] <| RS.cellA 3 (by kernel_rfl) rfl rfl (fun _ => rfl) fun r8 => zm rfl zz
  refine SC.skip <| SX.block <| SX.seq <| zG <| KT.l 37 fun x37 => zo <| ola 38 2 fun x38 => KT.l 39 fun x39 => zc 40 (stripe_good_sim _ _ _) fun x40 => zp 36 (.tuple #[(vS x40.1), (vb x40.2)]) <| zp 41 (vS x40.1) <| zp 42 (vb x40.2) <| KT.nw 13 (fun ad => .pointer (some ad)) 42 fun x13 => KT.s <| KT.s <| KT.nil <| zS (T' := [(1, (vi p1_seg)), (4, (vp x4)), (6, (vp x6)), (7, (vp x7)), (8, (vp x8)), (9, (vi 0)), (10, (vp x10)), (11, (vp x11)), (12, (vp x12)), (13, (vp x13))]) <| SX.seq <| zq <| zG <| KT.l 43 fun x43 => zp 44 (vb (!x43)) <| zn <| SC.joinN (β := List Nat) (fun b1 => ⟨80, b1⟩) (fun b1 => [(8, (vp x8)), (12, (vp x12)), (13, (vp x13))]) (fun b1 => ?_) (fun j1 => ?_)
  refine SX.seq <| zq <| zG <| KT.l 65 fun x65 => zp 66 (vb (!x65)) <| zn <| SC.cond rfl ?_ ?_
  exact zG <| zp 67 (.agg #[(vi 0), (vi 0), (.slice none 0 0)]) <| zo <| osa <| zp 9 (vi 14) <| zn <| zt <| ze [.cell 8 65, .tmp 9] <| RS.cellA 3 (by kernel_rfl) rfl rfl (fun _ => rfl) fun r8 => zm rfl zz
  exact zw <| zG <| KT.l 69 fun x69 => zc 70 (sector_Decode_sim _) fun x70 => zp 68 (.tuple #[(.agg #[(vi x70.1.1), (vi x70.1.2.1), (vi x70.1.2.2)]), (vS x70.2.1), (vb x70.2.2)]) <| zp 71 (.agg #[(vi x70.1.1), (vi x70.1.2.1), (vi x70.1.2.2)]) <| zp 72 (vS x70.2.1) <| zp 73 (vb x70.2.2) <| KT.nw 16 (fun ad => .pointer (some ad)) 99 fun x16 => zo <| osa <| zp 17 (vS x70.2.1) <| zp 18 (vb x70.2.2) <| zN <| zp 74 (va x16 1) <| KT.l 75 fun x75 => zp 76 (va x16 2) <| KT.l 77 fun x77 => zp 78 (vS x70.2.1) <| zp 79 (.agg #[(vi x75), (vi x77), (vS x70.2.1)]) <| zo <| osa <| zp 9 (vi 0) <| zn <| SC.ret <| ze [.cell 8 65, .tmp 9] <| RS.cellA 3 (by kernel_rfl) rfl rfl (fun _ => rfl) fun r8 => zm rfl zz
  refine SC.cond rfl ?_ ?_
  refine zG <| zo <| ola 45 3 fun x45 => zp 46 (vi p1_seg) <| zc 47 (stripe_rows_sim _ _) fun x47 => zn <| SC.block <| SC.rangeF (ξ := (Int × Slc)) (τ := (Int × Slc)) (fv := x47) (ps := [48, 49]) (encX := (fun x_2 : (Int × Slc) => [(vi x_2.1), (vS x_2.2)])) (fun t_2 => [(4, (vp x4)), (6, (vp x6)), (7, (vp x7)), (10, (vp x10)), (11, (vp x11)), (12, (vp x12)), (13, (vp x13)), (14, (vi t_2.1)), (15, (vS t_2.2))]) rfl (fun _ => rfl) rfl (fun _ x_2 _ _ h2 => ?_) (fun _ _ _ t_2 => ?_) (fun D2 => ?_) (fun D2 => ?_) (fun D2 i2 => ?_)
  exact zG <| zp 14 (vi x_2.1) <| zn <| zg <| zp 15 (vS x_2.2) <| KT.nil <| SX.leafP h2 (.cons rfl (.cons rfl (.cons rfl (.cons rfl (.cons rfl (.cons rfl (.cons rfl (.cons rfl (.cons rfl (.nil))))))))))
  refine SC.block <| zG <| zp 50 (vi t_2.1) <| KT.l 51 fun x51 => zp 52 (vp x10) <| KT.l 53 fun x53 => zp 54 (vi (w64 (x53 - 1))) <| KT.oy rfl (OY.quo (d := 55) (x := x51) (y := w64 (x53 - 1)) _ _ _ _ (w64 (Int.tdiv x51 (w64 (x53 - 1)))) rfl rfl rfl rfl rfl rfl ?_)
  refine zp 56 (vb (t_2.1 == (w64 (Int.tdiv x51 (w64 (x53 - 1)))))) <| zn <| SC.cond rfl ?_ ?_
  exact zg <| KT.l 58 fun x58 => zp 59 (vS t_2.2) <| zo <| ola 60 2 fun x60 => KT.l 61 fun x61 => zc 62 (stripe_others_sim _ _ _ _) fun x62 => zp 57 (.tuple #[(vS x62.1), (vb x62.2)]) <| zp 63 (vS x62.1) <| zp 64 (vb x62.2) <| KT.s <| KT.s <| KT.nil <| SX.block SX.round_next
  exact SC.skip <| SX.block SX.round_next
  exact SX.block <| SX.leafN j1 rfl (.cons rfl (.cons rfl (.cons rfl (.nil))))
  exact SX.fail
  exact SX.fail
  exact SC.skip <| SX.leafN j1 rfl (.cons rfl (.cons rfl (.cons rfl (.nil))))
theorem scan_look_sim (p0_b : (Option Addr)) (p1_seg : Int) : Sm Tryz.prog 40 [(.pointer p0_b), (vi p1_seg)] (fun y : ((Int × Int × Int × Int × Int × Int) × Bool) => (.tuple #[(.agg #[(vi y.1.1), (vi y.1.2.1), (vi y.1.2.2.1), (vi y.1.2.2.2.1), (vi y.1.2.2.2.2.1), (vi y.1.2.2.2.2.2)]), (vb y.2)])) (scan_look (cvOf Tryz.prog) p0_b p1_seg) := by
  refine sm_of 45 Tryz.func40 rfl rfl rfl fun _ => ?_
  unfold scan_look
  refine zG <| KT.nw 4 (fun ad => .pointer (some ad)) 59 fun x4 => zp 5 (vb false) <| zN <| zp 13 (.pointer p0_b) <| zp 14 (vi p1_seg) <| zc 15 (stripe_Whole_sim _ _) fun x15 => zp 12 (.tuple #[(vi x15.1), (vb x15.2.1), (vi x15.2.2)]) <| zp 16 (vi x15.1) <| zp 17 (vb x15.2.1) <| zp 18 (vi x15.2.2) <| zp 6 (vi x15.1) <| zp 7 (vb x15.2.1) <| zp 8 (vi x15.2.2) <| zn <| zq <| zG <| zp 19 (vb x15.2.1) <| zp 20 (vb (!x15.2.1)) <| zn <| SC.cond rfl ?_ ?_
  exact zG <| zp 21 (.agg #[(vi 0), (vi 0), (vi 0), (vi 0), (vi 0), (vi 0)]) <| zo <| osa <| zp 5 (vb false) <| zn <| zt <| ze [.cell 4 59, .tmp 5] <| RS.cellA 6 (by kernel_rfl) rfl rfl (fun _ => rfl) fun r4 => zm rfl zz
  refine zw <| zG <| zp 23 (.pointer p0_b) <| zp 24 (vi p1_seg) <| zp 25 (vi x15.1) <| zc 26 (stripe_Read_sim _ _ _ _) fun x26 => zp 22 (.tuple #[(.agg #[(vi x26.1.1), (vi x26.1.2.1), (vS x26.1.2.2)]), (vi x26.2)]) <| zp 27 (.agg #[(vi x26.1.1), (vi x26.1.2.1), (vS x26.1.2.2)]) <| zp 28 (vi x26.2) <| KT.nw 9 (fun ad => .pointer (some ad)) 65 fun x9 => zo <| osa <| zp 10 (vi x26.2) <| zn <| zq <| SC.draw 10 (fun f => Nat.beq f 8) rfl (by kernel_rfl) fun S1 => zpA 0 30 (.pointer p0_b) <| zA 2 rfl <| olai 32 3 fun x32 => KT.two 1 7 rfl rfl (by kernel_rfl) rfl rfl ?_ ?_
  refine OW.step (ocall 31 (bank_Bank_Geo_sim _) fun x31 => ?_)
  refine KT.and <| KT.two 3 7 rfl rfl (by kernel_rfl) rfl rfl ?_ ?_
  refine OW.step (ocall 33 (scan_GetSummary_sim _ _) fun x33 => ?_)
  refine KT.and <| zpA 4 29 (.tuple #[(.agg #[(vi x33.1.1), (vi x33.1.2.1), (vi x33.1.2.2.1), (vi x33.1.2.2.2)]), (vb x33.2)]) <| zpA 5 34 (.agg #[(vi x33.1.1), (vi x33.1.2.1), (vi x33.1.2.2.1), (vi x33.1.2.2.2)]) <| zpA 6 35 (vb x33.2) <| KT.one 7 rfl (by kernel_rfl) rfl <| OW.step <| OW.new (d := 11) [(vi 0), (vi 0), (vi 0), (vi 0)] (fun ad => .pointer (some ad)) 57 rfl (fun _ => by kernel_rfl) rfl rfl fun x11 => KT.and <| KT.last 8 rfl (by kernel_rfl) rfl rfl <| OW.stA _ _ _ rfl rfl rfl rfl rfl (by kernel_rfl) <| KT.pvN 9 7 (vb x33.2) <| KT.doneN (by kernel_rfl) <| zS (T' := [(1, (vi p1_seg)), (4, (vp x4)), (6, (vi x15.1)), (7, (vb x33.2)), (10, (vi x26.2)), (11, (vp x11))]) <| SX.seq <| zG <| zp 36 (vi p1_seg) <| zp 37 (vi x15.1) <| zo <| ola 38 4 fun x38 => zp 39 (.agg #[(vi p1_seg), (vi x15.1), (vi x38.1), (vi x38.2.1), (vi x38.2.2.1), (vi x38.2.2.2)]) <| zp 40 (vb x33.2) <| zp 41 (vb x33.2) <| zj 3 (fun q2 => [(44, (vb q2)), (4, (vp x4)), (39, (.agg #[(vi p1_seg), (vi x15.1), (vi x38.1), (vi x38.2.1), (vi x38.2.2.1), (vi x38.2.2.2)]))]) (fun q2 => ?_) (fun j2 => ?_)
  exact zo <| osa <| zp 5 (vb q2) <| zn <| SC.ret <| ze [.cell 4 59, .tmp 5] <| RS.cellA 6 (by kernel_rfl) rfl rfl (fun _ => rfl) fun r4 => zm rfl zz
  refine KT.ite 41 rfl ?_ ?_
  exact zp 42 (vi x26.2) <| zp 43 (vb (x26.2 == 0)) <| zp 44 (vb (x26.2 == 0)) <| zl j2
  exact zk <| zk <| zp 44 (vb false) <| zl j2
  refine OW.step (OW.new (d := 11) [(vi 0), (vi 0), (vi 0), (vi 0)] (fun ad => .pointer (some ad)) 57 rfl (fun _ => by kernel_rfl) rfl rfl (fun x11 => ?_))
  refine KT.and <| KT.one 3 rfl (by kernel_rfl) rfl <| OW.step <| ocall 33 (scan_GetSummary_sim _ _) fun x33 => KT.and <| zpA 4 29 (.tuple #[(.agg #[(vi x33.1.1), (vi x33.1.2.1), (vi x33.1.2.2.1), (vi x33.1.2.2.2)]), (vb x33.2)]) <| zpA 5 34 (.agg #[(vi x33.1.1), (vi x33.1.2.1), (vi x33.1.2.2.1), (vi x33.1.2.2.2)]) <| zpA 6 35 (vb x33.2) <| KT.last 8 rfl (by kernel_rfl) rfl rfl <| OW.stA _ _ _ rfl rfl rfl rfl rfl (by kernel_rfl) <| KT.pvN 9 7 (vb x33.2) <| KT.doneN (by kernel_rfl) <| zS (T' := [(1, (vi p1_seg)), (4, (vp x4)), (6, (vi x15.1)), (7, (vb x33.2)), (10, (vi x26.2)), (11, (vp x11))]) <| SX.seq <| zG <| zp 36 (vi p1_seg) <| zp 37 (vi x15.1) <| zo <| ola 38 4 fun x38 => zp 39 (.agg #[(vi p1_seg), (vi x15.1), (vi x38.1), (vi x38.2.1), (vi x38.2.2.1), (vi x38.2.2.2)]) <| zp 40 (vb x33.2) <| zp 41 (vb x33.2) <| zj 3 (fun q3 => [(44, (vb q3)), (4, (vp x4)), (39, (.agg #[(vi p1_seg), (vi x15.1), (vi x38.1), (vi x38.2.1), (vi x38.2.2.1), (vi x38.2.2.2)]))]) (fun q3 => ?_) (fun j3 => ?_)
  exact zo <| osa <| zp 5 (vb q3) <| zn <| SC.ret <| ze [.cell 4 59, .tmp 5] <| RS.cellA 6 (by kernel_rfl) rfl rfl (fun _ => rfl) fun r4 => zm rfl zz
  refine KT.ite 41 rfl ?_ ?_
  exact zp 42 (vi x26.2) <| zp 43 (vb (x26.2 == 0)) <| zp 44 (vb (x26.2 == 0)) <| zl j3
  exact zk <| zk <| zp 44 (vb false) <| zl j3
  refine OW.step (OW.new (d := 11) [(vi 0), (vi 0), (vi 0), (vi 0)] (fun ad => .pointer (some ad)) 57 rfl (fun _ => by kernel_rfl) rfl rfl (fun x11 => ?_))
  refine KT.and <| KT.one 1 rfl (by kernel_rfl) rfl <| OW.step <| ocall 31 (bank_Bank_Geo_sim _) fun x31 => KT.and <| KT.one 3 rfl (by kernel_rfl) rfl <| OW.step <| ocall 33 (scan_GetSummary_sim _ _) fun x33 => KT.and <| zpA 4 29 (.tuple #[(.agg #[(vi x33.1.1), (vi x33.1.2.1), (vi x33.1.2.2.1), (vi x33.1.2.2.2)]), (vb x33.2)]) <| zpA 5 34 (.agg #[(vi x33.1.1), (vi x33.1.2.1), (vi x33.1.2.2.1), (vi x33.1.2.2.2)]) <| zpA 6 35 (vb x33.2) <| KT.last 8 rfl (by kernel_rfl) rfl rfl <| OW.stA _ _ _ rfl rfl rfl rfl rfl (by kernel_rfl) <| KT.pvN 9 7 (vb x33.2) <| KT.doneN (by kernel_rfl) <| zS (T' := [(1, (vi p1_seg)), (4, (vp x4)), (6, (vi x15.1)), (7, (vb x33.2)), (10, (vi x26.2)), (11, (vp x11))]) <| SX.seq <| zG <| zp 36 (vi p1_seg) <| zp 37 (vi x15.1) <| zo <| ola 38 4 fun x38 => zp 39 (.agg #[(vi p1_seg), (vi x15.1), (vi x38.1), (vi x38.2.1), (vi x38.2.2.1), (vi x38.2.2.2)]) <| zp 40 (vb x33.2) <| zp 41 (vb x33.2) <| zj 3 (fun q4 => [(44, (vb q4)), (4, (vp x4)), (39, (.agg #[(vi p1_seg), (vi x15.1), (vi x38.1), (vi x38.2.1), (vi x38.2.2.1), (vi x38.2.2.2)]))]) (fun q4 => ?_) (fun j4 => ?_)
  exact zo <| osa <| zp 5 (vb q4) <| zn <| SC.ret <| ze [.cell 4 59, .tmp 5] <| RS.cellA 6 (by kernel_rfl) rfl rfl (fun _ => rfl) fun r4 => zm rfl zz
  refine KT.ite 41 rfl ?_ ?_
  exact zp 42 (vi x26.2) <| zp 43 (vb (x26.2 == 0)) <| zp 44 (vb (x26.2 == 0)) <| zl j4
  exact zk <| zk <| zp 44 (vb false) <| zl j4
theorem scan_Look_sim (p0_b : (Option Addr)) : Sm Tryz.prog 19 [(.pointer p0_b)] (fun y : (Slc × Int × Int) => (.tuple #[(vS y.1), (vi y.2.1), (vi y.2.2)])) (scan_Look (cvOf Tryz.prog) p0_b) := by
  refine sm_of 37 Tryz.func19 rfl rfl rfl fun _ => ?_
  unfold scan_Look
  refine zG <| zp 2 (.slice none 0 0) <| zp 3 (vi 0) <| zp 4 (vi 0) <| zn <| zq <| zG <| zp 10 (.pointer p0_b) <| zc 11 (bank_Bank_Off_sim _) fun x11 => zn <| SC.cond rfl ?_ ?_
  exact zG <| zp 2 (.slice none 0 0) <| zp 3 (vi 0) <| zp 4 (vi 12) <| zn <| zt <| ze [.tmp 2, .tmp 3, .tmp 4] <| zm rfl <| zm rfl <| zm rfl zz
  refine zw <| zG <| zp 5 (.slice none 0 0) <| zN <| zp 6 (vi 0) <| zn <| zq <| zG <| zp 12 (.pointer p0_b) <| zc 13 (bank_Bank_Geo_sim _) fun x13 => zp 14 (vi x13.2.2) <| zp 15 (vi 0) <| zn <| SC.block <| zL (σ := (Slc × Int × Int)) (fun s1 => [(0, (.pointer p0_b)), (5, (vS s1.1)), (6, (vi s1.2.1)), (14, (vi x13.2.2)), (15, (vi s1.2.2))]) fun _ _ _ s1 => zG <| zp 16 (vb (decide (s1.2.2 < x13.2.2))) <| zn <| zq <| SC.cond rfl ?_ ?_
  refine zw <| zq <| SC.block <| zG <| zp 17 (vi s1.2.2) <| zp 7 (vi s1.2.2) <| zN <| zp 18 (vi s1.2.1) <| zp 19 (.pointer p0_b) <| zp 20 (vi s1.2.2) <| zc 21 (scan_greatest_sim _ _) fun x21 => zp 22 (vi (maxI s1.2.1 x21)) <| zp 6 (vi (maxI s1.2.1 x21)) <| zN <| zp 24 (.pointer p0_b) <| zp 25 (vi s1.2.2) <| zc 26 (scan_look_sim _ _) fun x26 => zp 23 (.tuple #[(.agg #[(vi x26.1.1), (vi x26.1.2.1), (vi x26.1.2.2.1), (vi x26.1.2.2.2.1), (vi x26.1.2.2.2.2.1), (vi x26.1.2.2.2.2.2)]), (vb x26.2)]) <| zp 27 (.agg #[(vi x26.1.1), (vi x26.1.2.1), (vi x26.1.2.2.1), (vi x26.1.2.2.2.1), (vi x26.1.2.2.2.2.1), (vi x26.1.2.2.2.2.2)]) <| zp 28 (vb x26.2) <| KT.nw 8 (fun ad => .pointer (some ad)) 59 fun x8 => zo <| osa <| zp 9 (vb x26.2) <| zN <| zp 29 (vb x26.2) <| zn <| SC.cond rfl ?_ ?_
  exact zg <| zp 30 (vS s1.1) <| zo <| ola 31 6 fun x31 => KT.nw 32 (fun ad => .slice (some ad) 1 1) 59 fun x32 => zo <| oapp 33 59 fun x33 => zp 5 (vS x33) <| KT.nil <| SX.block <| SX.seq <| zg <| zp 34 (vi (w64 (s1.2.2 + 1))) <| zp 15 (vi (w64 (s1.2.2 + 1))) <| KT.nil <| zS (T' := [(0, (.pointer p0_b)), (5, (vS x33)), (6, (vi (maxI s1.2.1 x21))), (14, (vi x13.2.2)), (15, (vi (w64 (s1.2.2 + 1))))]) zX
  exact SC.skip <| SX.block <| SX.seq <| zg <| zp 34 (vi (w64 (s1.2.2 + 1))) <| zp 15 (vi (w64 (s1.2.2 + 1))) <| KT.nil zX
  exact SC.exit <| SX.then_exit <| SX.loop_exit <| SX.block_hit <| SX.seq <| zG <| zp 35 (vS s1.1) <| zp 36 (vi s1.2.1) <| zp 2 (vS s1.1) <| zp 3 (vi s1.2.1) <| zp 4 (vi 0) <| zn <| SC.ret <| ze [.tmp 2, .tmp 3, .tmp 4] <| zm rfl <| zm rfl <| zm rfl zz
theorem bytes_Join_sim (p0_s : Slc) (p1_sep : Slc) : Sm Tryz.prog 115 [(vS p0_s), (vS p1_sep)] vS (bytes_Join p0_s p1_sep) := by
  refine sm_of 92 Tryz.func115 rfl rfl rfl fun _ => ?_
  unfold bytes_Join
  refine zG <| zp 4 (.slice none 0 0) <| zn <| zq <| zG <| zp 12 (vS p0_s) <| zp 13 (vi (vl p0_s)) <| zp 14 (vb ((vl p0_s) == 0)) <| zn <| SC.cond rfl ?_ ?_
  exact zG <| KT.nw 15 (fun ad => .slice (some ad) 0 0) 5 fun x15 => zp 4 (.slice (some x15) 0 0) <| zn <| zt <| ze [.tmp 4] <| zm rfl zz
  refine zw <| zq <| zG <| zp 16 (vS p0_s) <| zp 17 (vi (vl p0_s)) <| zp 18 (vb ((vl p0_s) == 1)) <| zn <| SC.cond rfl ?_ ?_
  exact zG <| zp 19 (vS p0_s) <| zy <| oix 20 42 fun x20 => KT.l 21 fun x21 => zo <| oapp 22 5 fun x22 => zp 4 (vS x22) <| zn <| zt <| ze [.tmp 4] <| zm rfl zz
  refine zw <| zG <| zp 5 (vi 0) <| zn <| zq <| zG <| zp 23 (vS p1_sep) <| zp 24 (vi (vl p1_sep)) <| zp 25 (vb (decide ((vl p1_sep) > 0))) <| zn <| SC.join (β := (Int)) (fun b1 => [(0, (vS p0_s)), (1, (vS p1_sep)), (5, (vi b1))]) (fun b1 => ?_) (fun j1 => ?_)
  refine SX.seq <| zq <| zG <| zp 42 (vS p0_s) <| zp 43 (vi (vl p0_s)) <| zp 44 (vi 0) <| zn <| SC.block <| zL (σ := (Int × Int)) (fun s2 => [(0, (vS p0_s)), (1, (vS p1_sep)), (5, (vi s2.1)), (42, (vS p0_s)), (43, (vi (vl p0_s))), (44, (vi s2.2))]) fun _ _ _ s2 => zG <| zp 45 (vb (decide (s2.2 < (vl p0_s)))) <| zn <| zq <| SC.cond rfl ?_ ?_
  refine zw <| zq <| SC.block <| zG <| zy <| oix 46 42 fun x46 => KT.l 47 fun x47 => zp 7 (vS x47) <| zn <| zq <| zG <| zp 48 (vS x47) <| zp 49 (vi (vl x47)) <| zp 50 (vi s2.1) <| zp 51 (vi (w64 (9223372036854775807 - s2.1))) <| zp 52 (vb (decide ((vl x47) > (w64 (9223372036854775807 - s2.1))))) <| zn <| SC.join (β := Unit) (fun b3 => [(0, (vS p0_s)), (1, (vS p1_sep)), (5, (vi s2.1)), (7, (vS x47)), (42, (vS p0_s)), (43, (vi (vl p0_s))), (44, (vi s2.2))]) (fun b3 => ?_) (fun j3 => ?_)
  exact SX.seq <| zg <| zp 54 (vi s2.1) <| zp 55 (vS x47) <| zp 56 (vi (vl x47)) <| zp 57 (vi (w64 (s2.1 + (vl x47)))) <| zp 5 (vi (w64 (s2.1 + (vl x47)))) <| KT.nil <| SX.block <| SX.seq <| zg <| zp 58 (vi (w64 (s2.2 + 1))) <| zp 44 (vi (w64 (s2.2 + 1))) <| KT.nil zX
  refine SC.cond rfl ?_ ?_
  exact zg <| zp 53 (.iface 9 (.string (ByteArray.mk #[98, 121, 116, 101, 115, 58, 32, 74, 111, 105, 110, 32, 111, 117, 116, 112, 117, 116, 32, 108, 101, 110, 103, 116, 104, 32, 111, 118, 101, 114, 102, 108, 111, 119]))) <| fun _ _ _ hm => hm.elim
  exact SC.skip <| zf j3
  refine SC.exit <| SX.then_exit <| SX.loop_exit <| SX.block_hit <| SX.seq <| zG <| zp 59 (vi s2.1) <| KT.ow rfl (OW.noZero (d := 60) (nn := s2.1) 146 #[3] 42 5 rfl (fun _ => by kernel_rfl) (fun w => makeNoZero_run s2.1 w) rfl rfl rfl (fun x60 => ?_))
  refine zp 61 (vi s2.1) <| zp 62 (vi s2.1) <| KT.oy rfl (OY.slice3 (d := 63) (s := x60) (hi := s2.1) (mi := s2.1) (size := 1) (elem := 5) _ _ _ _ rfl rfl rfl rfl (by kernel_rfl) (by kernel_rfl) rfl rfl (fun x63 => ?_))
  refine zp 8 (vS x63) <| zN <| zp 64 (vS x63) <| zp 65 (vS p0_s) <| zy <| oix 66 42 fun x66 => KT.l 67 fun x67 => KT.ow rfl (OW.copy (d := 68) (s := x63) (x := x67) 1 5 _ _ _ _ rfl rfl rfl rfl (by kernel_rfl) (by kernel_rfl) rfl rfl (fun x68 => ?_))
  refine zp 9 (vi x68) <| zn <| zq <| zG <| zp 69 (vS p0_s) <| KT.oy rfl (OY.slice10 (d := 70) (s := p0_s) (lo := 1) (size := 1) (elem := 42) _ _ _ rfl rfl rfl (by kernel_rfl) (by kernel_rfl) rfl rfl (fun x70 => ?_))
  refine zp 71 (vi (vl x70)) <| zp 72 (vi 0) <| zn <| SC.block <| zL (σ := (Int × Int)) (fun s4 => [(1, (vS p1_sep)), (8, (vS x63)), (9, (vi s4.1)), (70, (vS x70)), (71, (vi (vl x70))), (72, (vi s4.2))]) fun _ _ _ s4 => zG <| zp 73 (vb (decide (s4.2 < (vl x70)))) <| zn <| zq <| SC.cond rfl ?_ ?_
  refine zw <| zq <| SC.block <| zG <| zy <| oix 74 42 fun x74 => KT.l 75 fun x75 => zp 11 (vS x75) <| zN <| zp 76 (vi s4.1) <| zp 77 (vS x63) <| zp 78 (vi s4.1) <| KT.oy rfl (OY.slice10 (d := 79) (s := x63) (lo := s4.1) (size := 1) (elem := 5) _ _ _ rfl rfl rfl (by kernel_rfl) (by kernel_rfl) rfl rfl (fun x79 => ?_))
  refine zp 80 (vS p1_sep) <| KT.ow rfl (OW.copy (d := 81) (s := x79) (x := p1_sep) 1 5 _ _ _ _ rfl rfl rfl rfl (by kernel_rfl) (by kernel_rfl) rfl rfl (fun x81 => ?_))
  refine zp 82 (vi (w64 (s4.1 + x81))) <| zp 9 (vi (w64 (s4.1 + x81))) <| zn <| zg <| zp 83 (vi (w64 (s4.1 + x81))) <| zp 84 (vS x63) <| zp 85 (vi (w64 (s4.1 + x81))) <| KT.oy rfl (OY.slice10 (d := 86) (s := x63) (lo := w64 (s4.1 + x81)) (size := 1) (elem := 5) _ _ _ rfl rfl rfl (by kernel_rfl) (by kernel_rfl) rfl rfl (fun x86 => ?_))
  refine zp 87 (vS x75) <| KT.ow rfl (OW.copy (d := 88) (s := x86) (x := x75) 1 5 _ _ _ _ rfl rfl rfl rfl (by kernel_rfl) (by kernel_rfl) rfl rfl (fun x88 => ?_))
  exact zp 89 (vi (w64 ((w64 (s4.1 + x81)) + x88))) <| zp 9 (vi (w64 ((w64 (s4.1 + x81)) + x88))) <| KT.nil <| SX.block <| SX.seq <| zg <| zp 90 (vi (w64 (s4.2 + 1))) <| zp 72 (vi (w64 (s4.2 + 1))) <| KT.nil zX
  exact SC.exit <| SX.then_exit <| SX.loop_exit <| SX.block_hit <| SX.seq <| zG <| zp 91 (vS x63) <| zp 4 (vS x63) <| zn <| SC.ret <| ze [.tmp 4] <| zm rfl zz
  refine SC.cond rfl ?_ ?_
  refine zq <| zG <| zp 26 (vS p1_sep) <| zp 27 (vi (vl p1_sep)) <| zp 28 (vS p0_s) <| zp 29 (vi (vl p0_s)) <| zp 30 (vi (w64 ((vl p0_s) - 1))) <| KT.oy rfl (OY.quo (d := 31) (x := 9223372036854775807) (y := w64 ((vl p0_s) - 1)) _ _ _ _ (w64 (Int.tdiv 9223372036854775807 (w64 ((vl p0_s) - 1)))) rfl rfl rfl rfl rfl rfl ?_)
  refine zp 32 (vb (decide ((vl p1_sep) ≥ (w64 (Int.tdiv 9223372036854775807 (w64 ((vl p0_s) - 1))))))) <| zn <| SC.join (β := Unit) (fun b5 => [(0, (vS p0_s)), (1, (vS p1_sep)), (5, (vi 0))]) (fun b5 => ?_) (fun j5 => ?_)
  exact SX.seq <| zg <| zp 34 (vi 0) <| zp 35 (vS p1_sep) <| zp 36 (vi (vl p1_sep)) <| zp 37 (vS p0_s) <| zp 38 (vi (vl p0_s)) <| zp 39 (vi (w64 ((vl p0_s) - 1))) <| zp 40 (vi (w64 ((vl p1_sep) * (w64 ((vl p0_s) - 1))))) <| zp 41 (vi (w64 (0 + (w64 ((vl p1_sep) * (w64 ((vl p0_s) - 1))))))) <| zp 5 (vi (w64 (0 + (w64 ((vl p1_sep) * (w64 ((vl p0_s) - 1))))))) <| KT.nil <| zf j1
  refine SC.cond rfl ?_ ?_
  exact zg <| zp 33 (.iface 9 (.string (ByteArray.mk #[98, 121, 116, 101, 115, 58, 32, 74, 111, 105, 110, 32, 111, 117, 116, 112, 117, 116, 32, 108, 101, 110, 103, 116, 104, 32, 111, 118, 101, 114, 102, 108, 111, 119]))) <| fun _ _ _ hm => hm.elim
  exact SC.skip <| zf j5
  exact SC.skip <| zf j1
theorem sector_Encode_sim (p0_h : (Int × Int × Int)) (p1_payload : Slc) : Sm Tryz.prog 89 [(.agg #[(vi p0_h.1), (vi p0_h.2.1), (vi p0_h.2.2)]), (vS p1_payload)] (fun y : (Slc × Bool) => (.tuple #[(vS y.1), (vb y.2)])) (sector_Encode p0_h p1_payload) := by
  refine sm_of 35 Tryz.func89 rfl rfl rfl fun _ => ?_
  unfold sector_Encode
  refine zG <| KT.nw 2 (fun ad => .pointer (some ad)) 99 fun x2 => zp 4 (.slice none 0 0) <| zp 5 (vb false) <| zn <| zq <| SC.draw 12 (fun _ => false) rfl (by kernel_rfl) fun S1 => zpA 0 9 (vp x2) <| zA 1 rfl <| oli 10 fun x10 => zpA 3 12 (va x2 1) <| zA 4 rfl <| oli 13 fun x13 => zpA 6 15 (va x2 2) <| zA 7 rfl <| oli 16 fun x16 => KT.one 2 rfl (by kernel_rfl) rfl <| OW.step <| ocall 11 (bits_Put_sim _ _) fun x11 => KT.and <| KT.one 5 rfl (by kernel_rfl) rfl <| OW.step <| ocall 14 (bits_Put_sim _ _) fun x14 => KT.and <| KT.one 8 rfl (by kernel_rfl) rfl <| OW.step <| ocall 17 (bits_Put_sim _ _) fun x17 => KT.and <| KT.one 9 rfl (by kernel_rfl) rfl <| OW.step <| OW.new (d := 18) [(vS x11), (vS x14), (vS x17)] (fun ad => .slice (some ad) 3 3) 42 rfl (fun _ => by kernel_rfl) rfl rfl fun x18 => KT.and <| KT.one 10 rfl (by kernel_rfl) rfl <| OW.step <| ocall 19 (bytes_Join_sim _ _) fun x19 => KT.and <| zpA 11 6 (vS x19) <| KT.doneA (by kernel_rfl) <| SX.seq <| zG <| zp 21 (vS p1_payload) <| zc 22 (bits_Pad_sim _ _) fun x22 => zp 20 (.tuple #[(vS x22.1), (vb x22.2)]) ?_
  refine zp 23 (vS x22.1) <| zp 24 (vb x22.2) <| zp 7 (vS x22.1) <| zp 8 (vb x22.2) <| zn <| zq <| zG <| zp 25 (vb x22.2) <| zp 26 (vb (!x22.2)) <| zp 27 (vb (!x22.2)) <| zj 4 (fun q2 => [(31, (vb q2)), (6, (vS x19)), (7, (vS x22.1))]) (fun q2 => ?_) (fun j2 => ?_)
  refine zn <| SC.cond rfl ?_ ?_
  exact zG <| zp 4 (.slice none 0 0) <| zp 5 (vb false) <| zn <| zt <| ze [.tmp 4, .tmp 5] <| zm rfl <| zm rfl zz
  exact zw <| zG <| zp 32 (vS x19) <| zp 33 (vS x22.1) <| zo <| oapp 34 5 fun x34 => zp 4 (vS x34) <| zp 5 (vb true) <| zn <| SC.ret <| ze [.tmp 4, .tmp 5] <| zm rfl <| zm rfl zz
  refine KT.ite 27 rfl ?_ ?_
  exact zk <| zk <| zk <| zp 31 (vb true) <| zl j2
  exact zp 28 (vS x19) <| zp 29 (vi (vl x19)) <| zp 30 (vb ((vl x19) != 8)) <| zp 31 (vb ((vl x19) != 8)) <| zl j2
theorem stripe_encoded_sim (p0_g : (Int × Int × Int)) (p1_seq : Int) (p2_blocks : Slc) : Sm Tryz.prog 49 [(.agg #[(vi p0_g.1), (vi p0_g.2.1), (vi p0_g.2.2)]), (vi p1_seq), (vS p2_blocks)] vS (stripe_encoded p0_g p1_seq p2_blocks) := by
  refine sm_of 46 Tryz.func49 rfl rfl rfl fun _ => ?_
  unfold stripe_encoded
  refine zG <| KT.nw 3 (fun ad => .pointer (some ad)) 33 fun x3 => zp 6 (.slice none 0 0) <| zN <| zp 7 (.slice none 0 0) <| zn <| zq <| zG <| zo <| ola 12 3 fun x12 => zc 13 (geo_Places_sim _) fun x13 => zp 14 (vi (w64 (x13 + 1))) <| zp 15 (vi 0) <| zn <| SC.block <| zL (σ := (Slc × Int)) (fun s1 => [(1, (vi p1_seq)), (2, (vS p2_blocks)), (7, (vS s1.1)), (14, (vi (w64 (x13 + 1)))), (15, (vi s1.2))]) fun _ _ _ s1 => zG <| zp 16 (vb (decide (s1.2 < (w64 (x13 + 1))))) <| zn <| zq <| SC.cond rfl ?_ ?_
  refine zw <| zq <| SC.block <| zG <| zp 17 (vi s1.2) <| zp 8 (vi s1.2) <| zN <| KT.nw 9 (fun ad => .pointer (some ad)) 65 fun x9 => zn <| zq <| zG <| zp 18 (vi s1.2) <| zp 19 (vS p2_blocks) <| zp 20 (vi (vl p2_blocks)) <| zp 21 (vb (decide (s1.2 < (vl p2_blocks)))) <| zn <| SC.join (β := Unit) (fun b2 => [(1, (vi p1_seq)), (2, (vS p2_blocks)), (7, (vS s1.1)), (9, (vp x9)), (14, (vi (w64 (x13 + 1)))), (15, (vi s1.2))]) (fun b2 => ?_) (fun j2 => ?_)
  refine SX.seq <| zG <| zp 27 (vi p1_seq) <| zp 28 (vp x9) <| KT.l 29 fun x29 => zp 30 (va x9 1) <| KT.l 31 fun x31 => zp 32 (.agg #[(vi p1_seq), (vi x29), (vi x31)]) <| zp 33 (va x9 2) <| KT.l 34 fun x34 => zc 35 (sector_Encode_sim _ _) fun x35 => zp 26 (.tuple #[(vS x35.1), (vb x35.2)]) <| zp 36 (vS x35.1) <| zp 37 (vb x35.2) <| zp 10 (vS x35.1) <| zp 11 (vb x35.2) <| zn <| zq <| zG <| zp 38 (vb x35.2) <| zp 39 (vb (!x35.2)) <| zn <| SC.cond rfl ?_ ?_
  exact zG <| zp 6 (.slice none 0 0) <| zn <| zt <| SX.block_ret <| SX.then_ret <| SX.loop_ret <| SX.block_ret <| SX.then_ret <| ze [.tmp 6] <| zm rfl zz
  exact zw <| zg <| zp 40 (vS s1.1) <| zp 41 (vS x35.1) <| KT.nw 42 (fun ad => .slice (some ad) 1 1) 42 fun x42 => zo <| oapp 43 42 fun x43 => zp 7 (vS x43) <| KT.nil <| SX.block <| SX.seq <| zg <| zp 44 (vi (w64 (s1.2 + 1))) <| zp 15 (vi (w64 (s1.2 + 1))) <| KT.nil zX
  refine SC.cond rfl ?_ ?_
  exact zg <| zp 22 (vS p2_blocks) <| zp 23 (vi s1.2) <| zy <| oix 24 65 fun x24 => zo <| ola 25 3 fun x25 => zo <| osa <| KT.nil <| zf j2
  exact SC.skip <| zf j2
  exact SC.exit <| SX.then_exit <| SX.loop_exit <| SX.block_hit <| SX.seq <| zG <| zp 45 (vS s1.1) <| zp 6 (vS s1.1) <| zn <| SC.ret <| ze [.tmp 6] <| zm rfl zz
theorem device_Rack_Write_sim (p0_r : (Option Addr)) (p1_disk : Int) (p2_sector : Int) (p3_b : Slc) : Sm Tryz.prog 97 [(.pointer p0_r), (vi p1_disk), (vi p2_sector), (vS p3_b)] (Value.int .i64) (device_Rack_Write p0_r p1_disk p2_sector p3_b) := by
  refine sm_of 30 Tryz.func97 rfl rfl rfl fun _ => ?_
  unfold device_Rack_Write
  refine zG <| zp 8 (vi 0) <| zN <| zp 12 (.pointer p0_r) <| zp 13 (vi p1_disk) <| zp 14 (vi p2_sector) <| zp 15 (vS p3_b) <| zp 16 (vi (vl p3_b)) <| zc 17 (device_Rack_counted_sim _ _ _ _) fun x17 => zp 11 (.tuple #[(.pointer x17.1), (vi x17.2)]) <| zp 18 (.pointer x17.1) <| zp 19 (vi x17.2) <| zp 9 (.pointer x17.1) <| zp 10 (vi x17.2) <| zn <| zq <| zG <| zp 20 (vi x17.2) <| zp 21 (vb (x17.2 == 0)) <| zn <| SC.cond rfl ?_ ?_
  exact SC.draw 8 (fun f => Nat.beq f 7) rfl (by kernel_rfl) fun S1 => zpA 0 22 (.pointer x17.1) <| zB 1 rfl <| onil 23 fun x23 => zpA 2 24 (va x23 1) <| zA 3 rfl <| oli 25 fun x25 => zpA 4 26 (vi p2_sector) <| zpA 5 27 (vS p3_b) <| KT.one 6 rfl (by kernel_rfl) rfl <| OW.step <| ocall 28 (slices_Clone_b_sim _) fun x28 => KT.and <| KT.last 7 rfl (by kernel_rfl) rfl rfl <| OW.upd 3 42 .i64 _ _ _ _ rfl rfl rfl rfl (by kernel_rfl) (by kernel_rfl) rfl <| KT.doneN (by kernel_rfl) <| SX.seq <| zG <| zp 29 (vi x17.2) <| zp 8 (vi x17.2) <| zn <| SC.ret <| ze [.tmp 8] <| zm rfl zz
  exact zw <| zG <| zp 29 (vi x17.2) <| zp 8 (vi x17.2) <| zn <| SC.ret <| ze [.tmp 8] <| zm rfl zz
theorem bank_Bank_Write_sim (p0_b : (Option Addr)) (p1_slot : Int) (p2_sector : Int) (p3_data : Slc) : Sm Tryz.prog 53 [(.pointer p0_b), (vi p1_slot), (vi p2_sector), (vS p3_data)] (Value.int .i64) (bank_Bank_Write p0_b p1_slot p2_sector p3_data) := by
  refine sm_of 27 Tryz.func53 rfl rfl rfl fun _ => ?_
  unfold bank_Bank_Write
  refine zG <| zp 8 (vi 0) <| zN <| zp 12 (.pointer p0_b) <| zp 13 (vi p1_slot) <| zc 14 (bank_Bank_disk_sim _ _) fun x14 => zp 11 (.tuple #[(vi x14.1), (vb x14.2)]) <| zp 15 (vi x14.1) <| zp 16 (vb x14.2) <| zp 9 (vi x14.1) <| zp 10 (vb x14.2) <| zn <| zq <| zG <| zp 17 (vb x14.2) <| zp 18 (vb (!x14.2)) <| zn <| SC.cond rfl ?_ ?_
  exact zG <| zp 8 (vi 11) <| zn <| zt <| ze [.tmp 8] <| zm rfl zz
  exact zw <| zG <| zp 19 (.pointer p0_b) <| KT.nm 20 fun x20 => zp 21 (vp x20) <| KT.l 22 fun x22 => zp 23 (vi x14.1) <| zp 24 (vi p2_sector) <| zp 25 (vS p3_data) <| zc 26 (device_Rack_Write_sim _ _ _ _) fun x26 => zp 8 (vi x26) <| zn <| SC.ret <| ze [.tmp 8] <| zm rfl zz
theorem stripe_Write_sim (p0_b : (Option Addr)) (p1_seg : Int) (p2_seq : Int) (p3_blocks : Slc) : Sm Tryz.prog 22 [(.pointer p0_b), (vi p1_seg), (vi p2_seq), (vS p3_blocks)] (Value.int .i64) (stripe_Write (cvOf Tryz.prog) p0_b p1_seg p2_seq p3_blocks) := by
  refine sm_of 106 Tryz.func22 rfl rfl rfl fun _ => ?_
  unfold stripe_Write
  refine zG <| KT.nw 4 (fun ad => .pointer (some ad)) 44 fun x4 => KT.nw 8 (fun ad => .pointer (some ad)) 28 fun x8 => zN <| KT.l 20 fun x20 => zc 21 (bank_Bank_Geo_sim _) fun x21 => KT.nw 9 (fun ad => .pointer (some ad)) 33 fun x9 => zo <| osa <| zn <| zq <| zG <| zp 22 (vi p1_seg) <| zp 23 (vb (decide (p1_seg < 0))) <| zp 24 (vb (decide (p1_seg < 0))) <| zj 5 (fun q1 => [(29, (vb q1)), (1, (vi p1_seg)), (2, (vi p2_seq)), (3, (vS p3_blocks)), (4, (vp x4)), (8, (vp x8)), (9, (vp x9))]) (fun q1 => ?_) (fun j1 => ?_)
  refine zp 30 (vb q1) <| zj 3 (fun q2 => [(33, (vb q2)), (1, (vi p1_seg)), (2, (vi p2_seq)), (3, (vS p3_blocks)), (4, (vp x4)), (8, (vp x8)), (9, (vp x9))]) (fun q2 => ?_) (fun j2 => ?_)
  refine zp 34 (vb q2) <| zj 3 (fun q3 => [(37, (vb q3)), (1, (vi p1_seg)), (2, (vi p2_seq)), (3, (vS p3_blocks)), (4, (vp x4)), (8, (vp x8)), (9, (vp x9))]) (fun q3 => ?_) (fun j3 => ?_)
  refine zn <| SC.cond rfl ?_ ?_
  exact zG <| KT.s <| zn <| zt <| ze [.cell 8 28] <| RS.cell rfl (by kernel_rfl) fun r8 => zz
  refine zw <| zG <| zo <| ola 38 3 fun x38 => zp 39 (vi p2_seq) <| zp 40 (vS p3_blocks) <| zc 41 (stripe_encoded_sim _ _ _) fun x41 => KT.nw 10 (fun ad => .pointer (some ad)) 24 fun x10 => KT.s <| zn <| zq <| zG <| KT.l 42 fun x42 => zp 43 (vi (vl x42)) <| zp 44 (vb ((vl x42) == 0)) <| zp 45 (vb ((vl x42) == 0)) <| zj 6 (fun q4 => [(51, (vb q4)), (1, (vi p1_seg)), (4, (vp x4)), (8, (vp x8)), (9, (vp x9)), (10, (vp x10))]) (fun q4 => ?_) (fun j4 => ?_)
  refine zn <| SC.cond rfl ?_ ?_
  exact zG <| KT.s <| zn <| zt <| ze [.cell 8 28] <| RS.cell rfl (by kernel_rfl) fun r8 => zz
  refine zw <| zq <| zG <| KT.l 52 fun x52 => zc 53 (bank_Bank_Bad_sim _) fun x53 => zp 54 (vi (vl x53)) <| zp 55 (vb (decide ((vl x53) > 1))) <| zn <| SC.cond rfl ?_ ?_
  exact zG <| KT.s <| zn <| zt <| ze [.cell 8 28] <| RS.cell rfl (by kernel_rfl) fun r8 => zz
  refine zw <| zq <| zG <| zo <| ola 56 3 fun x56 => zp 57 (vi p1_seg) <| zc 58 (stripe_rows_sim _ _) fun x58 => zn <| SC.block <| SC.rangeF (ξ := (Int × Slc)) (τ := (Int × Slc)) (fv := x58) (ps := [59, 60]) (encX := (fun x_5 : (Int × Slc) => [(vi x_5.1), (vS x_5.2)])) (fun t_5 => [(4, (vp x4)), (8, (vp x8)), (9, (vp x9)), (10, (vp x10)), (11, (vi t_5.1)), (12, (vS t_5.2))]) rfl (fun _ => rfl) rfl (fun _ x_5 _ _ h5 => ?_) (fun _ _ _ t_5 => ?_) (fun D5 => ?_) (fun D5 => ?_) (fun D5 i5 => ?_)
  exact zG <| zp 11 (vi x_5.1) <| zn <| zg <| zp 12 (vS x_5.2) <| KT.nil <| SX.leafP h5 (.cons rfl (.cons rfl (.cons rfl (.cons rfl (.cons rfl (.cons rfl (.nil)))))))
  refine SC.block <| zG <| zp 61 (vp x9) <| KT.l 62 fun x62 => zp 63 (vi (w64 (x62 - 1))) <| zp 13 (vi (w64 (x62 - 1))) <| zN <| KT.l 64 fun x64 => zp 65 (vi t_5.1) <| zp 66 (vi (w64 (x62 - 1))) <| zp 67 (vi (w64 (t_5.1 * (w64 (x62 - 1))))) <| zp 68 (vi t_5.1) <| zp 69 (vi (w64 (t_5.1 + 1))) <| zp 70 (vi (w64 (x62 - 1))) <| zp 71 (vi (w64 ((w64 (t_5.1 + 1)) * (w64 (x62 - 1))))) <| KT.oy rfl (OY.slice11 (d := 72) (s := x64) (lo := w64 (t_5.1 * (w64 (x62 - 1)))) (hi := w64 ((w64 (t_5.1 + 1)) * (w64 (x62 - 1)))) (size := 1) (elem := 42) _ _ _ _ rfl rfl rfl rfl (by kernel_rfl) (by kernel_rfl) rfl rfl (fun x72 => ?_))
  refine zp 14 (vS x72) <| zN <| zp 74 (vS x72) <| zc 75 (sector_Parity_sim _) fun x75 => zp 73 (.tuple #[(vS x75.1), (vb x75.2)]) <| zp 76 (vS x75.1) <| zp 77 (vb x75.2) <| zp 15 (vS x75.1) <| zp 16 (vb x75.2) <| zN <| zp 78 (vS t_5.2) <| zp 79 (vi (vl t_5.2)) <| zp 80 (vi 0) <| KT.nil <| zS (T' := [(4, (vp x4)), (8, (vp x8)), (13, (vi (w64 (x62 - 1)))), (14, (vS x72)), (15, (vS x75.1)), (78, (vS t_5.2)), (79, (vi (vl t_5.2))), (80, (vi 0))]) <| SX.seq <| SC.block <| zL (σ := (Int)) (fun s6 => [(4, (vp x4)), (8, (vp x8)), (13, (vi (w64 (x62 - 1)))), (14, (vS x72)), (15, (vS x75.1)), (78, (vS t_5.2)), (79, (vi (vl t_5.2))), (80, (vi s6))]) fun _ _ _ s6 => zG <| zp 81 (vb (decide (s6 < (vl t_5.2)))) <| zn <| zq <| SC.cond rfl ?_ ?_
  refine zw <| zq <| SC.block <| zG <| zp 82 (vi s6) <| zy <| oix 83 119 fun x83 => zo <| ola 84 2 fun x84 => KT.nw 18 (fun ad => .pointer (some ad)) 119 fun x18 => zp 17 (vi s6) <| zo <| osa <| zN <| zp 85 (vS x75.1) <| zp 19 (vS x75.1) <| zn <| zq <| zG <| zp 86 (vi s6) <| zp 87 (vi (w64 (x62 - 1))) <| zp 88 (vb (decide (s6 < (w64 (x62 - 1))))) <| zn <| SC.join (β := (Slc)) (fun b7 => [(4, (vp x4)), (8, (vp x8)), (13, (vi (w64 (x62 - 1)))), (14, (vS x72)), (15, (vS x75.1)), (18, (vp x18)), (19, (vS b7)), (78, (vS t_5.2)), (79, (vi (vl t_5.2))), (80, (vi s6))]) (fun b7 => ?_) (fun j7 => ?_)
  refine SX.seq <| zG <| KT.l 93 fun x93 => zp 94 (vp x18) <| KT.l 95 fun x95 => zp 96 (va x18 1) <| KT.l 97 fun x97 => zp 98 (vS b7) <| zc 99 (bank_Bank_Write_sim _ _ _ _) fun x99 => zp 100 (vb (x99 == 12)) <| zn <| SC.cond rfl ?_ ?_
  exact zG <| KT.s <| zn <| SC.ret <| SX.block_ret <| SX.then_ret <| SX.loop_ret <| SX.block_ret <| SX.block_ret SX.round_ret
  exact SC.skip <| SX.block <| SX.seq <| zg <| zp 101 (vi (w64 (s6 + 1))) <| zp 80 (vi (w64 (s6 + 1))) <| KT.nil zX
  refine SC.cond rfl ?_ ?_
  exact zg <| zp 89 (vS x72) <| zp 90 (vi s6) <| zy <| oix 91 42 fun x91 => KT.l 92 fun x92 => zp 19 (vS x92) <| KT.nil <| zf j7
  exact SC.skip <| zf j7
  exact SC.exit <| SX.then_exit <| SX.loop_exit <| SX.block_hit <| SX.block SX.round_next
  refine SX.block <| SX.seq <| zq <| zG <| KT.l 102 fun x102 => zc 103 (bank_Bank_Bad_sim _) fun x103 => zp 104 (vi (vl x103)) <| zp 105 (vb (decide ((vl x103) > 1))) <| zn <| SC.cond rfl ?_ ?_
  exact zG <| KT.s <| zn <| zt <| ze [.cell 8 28] <| RS.cell rfl (by kernel_rfl) fun r8 => zz
  exact zw <| zG <| KT.s <| zn <| SC.ret <| ze [.cell 8 28] <| RS.cell rfl (by kernel_rfl) fun r8 => zz
  exact SX.block_ret <| SX.then_ret <| ze [.cell 8 28] <| RS.cell rfl (by kernel_rfl) fun r8 => zz
  exact SX.fail
  refine KT.ite 45 rfl ?_ ?_
  exact zk <| zk <| zk <| zk <| zk <| zp 51 (vb true) <| zl j4
  exact zp 46 (vS p3_blocks) <| zp 47 (vi (vl p3_blocks)) <| KT.l 48 fun x48 => zp 49 (vi (vl x48)) <| zp 50 (vb (decide ((vl p3_blocks) > (vl x48)))) <| zp 51 (vb (decide ((vl p3_blocks) > (vl x48)))) <| zl j4
  refine KT.ite 34 rfl ?_ ?_
  exact zk <| zk <| zp 37 (vb true) <| zl j3
  exact zp 35 (vi p2_seq) <| zp 36 (vb (decide (p2_seq > 4294967295))) <| zp 37 (vb (decide (p2_seq > 4294967295))) <| zl j3
  refine KT.ite 30 rfl ?_ ?_
  exact zk <| zk <| zp 33 (vb true) <| zl j2
  exact zp 31 (vi p2_seq) <| zp 32 (vb (decide (p2_seq < 1))) <| zp 33 (vb (decide (p2_seq < 1))) <| zl j2
  refine KT.ite 24 rfl ?_ ?_
  exact zk <| zk <| zk <| zk <| zp 29 (vb true) <| zl j1
  exact zp 25 (vi p1_seg) <| zp 26 (va x9 2) <| KT.l 27 fun x27 => zp 28 (vb (decide (p1_seg ≥ x27))) <| zp 29 (vb (decide (p1_seg ≥ x27))) <| zl j1
theorem law08_same_sim (p0_a : Slc) (p1_b : Slc) : Sm Tryz.prog 23 [(vS p0_a), (vS p1_b)] Value.bool (law08_same p0_a p1_b) := by
  refine sm_of 55 Tryz.func23 rfl rfl rfl fun _ => ?_
  unfold law08_same
  refine zG <| zp 4 (vb false) <| zn <| zq <| zG <| zp 6 (vS p0_a) <| zp 7 (vi (vl p0_a)) <| zp 8 (vS p1_b) <| zp 9 (vi (vl p1_b)) <| zp 10 (vb ((vl p0_a) != (vl p1_b))) <| zn <| SC.cond rfl ?_ ?_
  exact zG <| zp 4 (vb false) <| zn <| zt <| ze [.tmp 4] <| zm rfl zz
  refine zw <| zq <| zG <| zp 5 (vi 0) <| zn <| SC.block <| zL (σ := (Int)) (fun s1 => [(0, (vS p0_a)), (1, (vS p1_b)), (5, (vi s1))]) fun _ _ _ s1 => zq <| zG <| zp 11 (vi s1) <| zp 12 (vS p0_a) <| zp 13 (vi (vl p0_a)) <| zp 14 (vb (decide (s1 < (vl p0_a)))) <| zn <| SC.cond rfl ?_ ?_
  refine zw <| zq <| SC.block <| zq <| SC.draw 38 (fun _ => false) rfl (by kernel_rfl) fun S2 => zpA 0 17 (vS p0_a) <| zpA 1 18 (vi s1) <| zB 2 rfl <| oix 19 63 fun x19 => zpA 3 20 (vp x19) <| zA 4 rfl <| oli 21 fun x21 => zpA 5 22 (vS p1_b) <| zpA 6 23 (vi s1) <| zB 7 rfl <| oix 24 63 fun x24 => zpA 8 25 (vp x24) <| zA 9 rfl <| oli 26 fun x26 => zpA 10 27 (vb (x21 != x26)) <| zpA 11 28 (vb (x21 != x26)) <| KT.ite 28 rfl ?_ ?_
  refine zkA 12 rfl <| zkA 13 rfl <| zkA 14 rfl <| zkA 15 rfl <| zkA 16 rfl <| zkA 17 rfl <| zkA 18 rfl <| zkA 19 rfl <| zkA 20 rfl <| zkA 21 rfl <| zkA 22 rfl <| zpA 23 40 (vb true) <| zpA 24 41 (vb true) <| zkA 25 rfl <| zkA 26 rfl <| zkA 27 rfl <| zkA 28 rfl <| zkA 29 rfl <| zkA 30 rfl <| zkA 31 rfl <| zkA 32 rfl <| zkA 33 rfl <| zkA 34 rfl <| zkA 35 rfl <| zkA 36 rfl <| zpA 37 54 (vb true) <| KT.doneA (by kernel_rfl) <| zS (T' := [(0, (vS p0_a)), (1, (vS p1_b)), (5, (vi s1)), (54, (vb true))]) <| SX.seq <| SC.cond_true rfl ?_
  exact zG <| zp 4 (vb false) <| zn <| SC.ret <| SX.block_ret <| SX.then_ret <| SX.loop_ret <| SX.block_ret <| SX.then_ret <| ze [.tmp 4] <| zm rfl zz
  refine zpA 12 29 (vS p0_a) <| zpA 13 30 (vi s1) <| zB 14 rfl <| oix 31 63 fun x31 => zpA 15 32 (va x31 1) <| zA 16 rfl <| oli 33 fun x33 => zpA 17 34 (vS p1_b) <| zpA 18 35 (vi s1) <| zB 19 rfl <| oix 36 63 fun x36 => zpA 20 37 (va x36 1) <| zA 21 rfl <| oli 38 fun x38 => zpA 22 39 (vb (x33 != x38)) <| zpA 23 40 (vb (x33 != x38)) <| zpA 24 41 (vb (x33 != x38)) <| KT.ite 41 rfl ?_ ?_
  exact zkA 25 rfl <| zkA 26 rfl <| zkA 27 rfl <| zkA 28 rfl <| zkA 29 rfl <| zkA 30 rfl <| zkA 31 rfl <| zkA 32 rfl <| zkA 33 rfl <| zkA 34 rfl <| zkA 35 rfl <| zkA 36 rfl <| zpA 37 54 (vb true) <| KT.doneA (by kernel_rfl) <| zS (T' := [(0, (vS p0_a)), (1, (vS p1_b)), (5, (vi s1)), (54, (vb true))]) <| SX.seq <| SC.cond_true rfl <| zG <| zp 4 (vb false) <| zn <| SC.ret <| SX.block_ret <| SX.then_ret <| SX.loop_ret <| SX.block_ret <| SX.then_ret <| ze [.tmp 4] <| zm rfl zz
  refine zpA 25 42 (vS p0_a) <| zpA 26 43 (vi s1) <| zB 27 rfl <| oix 44 63 fun x44 => zpA 28 45 (va x44 2) <| zA 29 rfl <| oli 46 fun x46 => zpA 30 47 (vS p1_b) <| zpA 31 48 (vi s1) <| zB 32 rfl <| oix 49 63 fun x49 => zpA 33 50 (va x49 2) <| zA 34 rfl <| oli 51 fun x51 => KT.one 35 rfl (by kernel_rfl) rfl <| OW.step <| ocall 52 (ref00_SameInts_sim _ _) fun x52 => KT.and <| zpA 36 53 (vb (!x52)) <| zpA 37 54 (vb (!x52)) <| KT.doneA (by kernel_rfl) <| zS (T' := [(0, (vS p0_a)), (1, (vS p1_b)), (5, (vi s1)), (54, (vb (!x52)))]) <| SX.seq <| SC.cond rfl ?_ ?_
  exact zG <| zp 4 (vb false) <| zn <| SC.ret <| SX.block_ret <| SX.then_ret <| SX.loop_ret <| SX.block_ret <| SX.then_ret <| ze [.tmp 4] <| zm rfl zz
  exact SC.skip <| SX.block <| SX.seq <| zg <| zp 15 (vi s1) <| zp 16 (vi (w64 (s1 + 1))) <| zp 5 (vi (w64 (s1 + 1))) <| KT.nil zX
  exact SC.exit <| SX.then_exit <| SX.loop_exit <| SX.block_hit <| SX.seq <| zG <| zp 4 (vb true) <| zn <| SC.ret <| ze [.tmp 4] <| zm rfl zz
theorem law08_ScanFinds_sim (p0_sizes : Slc) (p1_from : Int) (p2_fail : Int) : Sm Tryz.prog 4 [(vS p0_sizes), (vi p1_from), (vi p2_fail)] Value.bool (law08_ScanFinds (cvOf Tryz.prog) p0_sizes p1_from p2_fail) := by
  refine sm_of 167 Tryz.func4 rfl rfl rfl fun _ => ?_
  unfold law08_ScanFinds
  refine zG <| zp 6 (vb false) <| zn <| zq <| zG <| zc 22 (law08_alive_sim ) fun x22 => zp 23 (vb (!x22)) <| zn <| SC.cond rfl ?_ ?_
  exact zG <| zp 6 (vb false) <| zn <| zt <| ze [.tmp 6] <| zm rfl zz
  refine zw <| zq <| zG <| zp 24 (vS p0_sizes) <| zp 25 (vi (vl p0_sizes)) <| zp 26 (vb (decide ((vl p0_sizes) > 5))) <| zp 27 (vb (decide ((vl p0_sizes) > 5))) <| zj 3 (fun q1 => [(30, (vb q1)), (0, (vS p0_sizes)), (1, (vi p1_from)), (2, (vi p2_fail))]) (fun q1 => ?_) (fun j1 => ?_)
  refine zp 31 (vb q1) <| zj 3 (fun q2 => [(34, (vb q2)), (0, (vS p0_sizes)), (1, (vi p1_from)), (2, (vi p2_fail))]) (fun q2 => ?_) (fun j2 => ?_)
  refine zn <| SC.cond rfl ?_ ?_
  exact zG <| zp 6 (vb true) <| zn <| zt <| ze [.tmp 6] <| zm rfl zz
  refine zw <| zG <| zc 36 (law08_Small_sim ) fun x36 => zc 37 (geo_Sectors_sim _) fun x37 => zc 38 (device_New_sim _ _) fun x38 => zp 35 (.tuple #[(.pointer x38.1), (vi x38.2)]) <| zp 39 (.pointer x38.1) <| zp 40 (vi x38.2) <| zp 7 (.pointer x38.1) <| zp 8 (vi x38.2) <| zn <| zq <| zG <| zp 41 (vi x38.2) <| zp 42 (vb (x38.2 != 0)) <| zp 43 (vb (x38.2 != 0)) <| zj 3 (fun q3 => [(46, (vb q3)), (0, (vS p0_sizes)), (1, (vi p1_from)), (2, (vi p2_fail)), (7, (.pointer x38.1))]) (fun q3 => ?_) (fun j3 => ?_)
  refine zn <| SC.cond rfl ?_ ?_
  exact zG <| zp 6 (vb false) <| zn <| zt <| ze [.tmp 6] <| zm rfl zz
  refine zw <| zG <| zp 48 (.pointer x38.1) <| zc 49 (law08_Small_sim ) fun x49 => zp 50 (.agg #[(vi 0), (vi 0), (vi 0)]) <| zc 51 (bank_Open_sim _ _ _) fun x51 => zp 47 (.tuple #[(.pointer x51.1), (vi x51.2)]) <| zp 52 (.pointer x51.1) <| zp 53 (vi x51.2) <| zp 9 (.pointer x51.1) <| zp 8 (vi x51.2) <| zn <| zq <| zG <| zp 54 (vi x51.2) <| zp 55 (vb (x51.2 != 0)) <| zp 56 (vb (x51.2 != 0)) <| zj 3 (fun q4 => [(59, (vb q4)), (0, (vS p0_sizes)), (1, (vi p1_from)), (2, (vi p2_fail)), (7, (.pointer x38.1)), (9, (.pointer x51.1))]) (fun q4 => ?_) (fun j4 => ?_)
  refine zn <| SC.cond rfl ?_ ?_
  exact zG <| zp 6 (vb false) <| zn <| zt <| ze [.tmp 6] <| zm rfl zz
  refine zw <| zG <| zp 10 (vi 0) <| zN <| zp 60 (vi p1_from) <| zp 11 (vi p1_from) <| zN <| KT.nw 61 (fun ad => .slice (some ad) 0 0) 63 fun x61 => zp 12 (.slice (some x61) 0 0) <| zn <| zq <| zG <| zp 13 (vi 0) <| zn <| SC.block <| zL (σ := (Int × Int × Slc × Int)) (fun s5 => [(0, (vS p0_sizes)), (2, (vi p2_fail)), (7, (.pointer x38.1)), (9, (.pointer x51.1)), (10, (vi s5.1)), (11, (vi s5.2.1)), (12, (vS s5.2.2.1)), (13, (vi s5.2.2.2))]) fun _ _ _ s5 => zq <| zG <| zp 62 (vi s5.2.2.2) <| zp 63 (vS p0_sizes) <| zp 64 (vi (vl p0_sizes)) <| zp 65 (vb (decide (s5.2.2.2 < (vl p0_sizes)))) <| zn <| SC.cond rfl ?_ ?_
  refine zw <| zq <| SC.block <| zG <| zp 68 (vS p0_sizes) <| zp 69 (vi s5.2.2.2) <| zy <| oix 70 3 fun x70 => KT.l 71 fun x71 => zp 72 (vi (bAnd .i64 x71 1)) <| zp 73 (vi (w64 (1 + (bAnd .i64 x71 1)))) <| zp 14 (vi (w64 (1 + (bAnd .i64 x71 1)))) <| zN <| zp 74 (vi s5.2.1) <| zp 75 (vi s5.2.2.2) <| zp 76 (vi (w64 (1 + s5.2.2.2))) <| zp 77 (.agg #[(vi s5.2.1), (vi (w64 (1 + s5.2.2.2))), (.slice none 0 0)]) <| KT.nw 15 (fun ad => .pointer (some ad)) 63 fun x15 => zo <| osa <| zn <| zq <| zG <| zp 16 (vi 0) <| zn <| SC.block <| zL (σ := (Int × Int × Int)) (fun s6 => [(0, (vS p0_sizes)), (2, (vi p2_fail)), (7, (.pointer x38.1)), (9, (.pointer x51.1)), (10, (vi s6.1)), (11, (vi s6.2.1)), (12, (vS s5.2.2.1)), (13, (vi s5.2.2.2)), (14, (vi (w64 (1 + (bAnd .i64 x71 1))))), (15, (vp x15)), (16, (vi s6.2.2))]) fun _ _ _ s6 => zq <| zG <| zp 78 (vi s6.2.2) <| zp 79 (vi (w64 (1 + (bAnd .i64 x71 1)))) <| zp 80 (vb (decide (s6.2.2 < (w64 (1 + (bAnd .i64 x71 1)))))) ?_
  refine zn <| SC.cond rfl ?_ ?_
  refine zw <| zq <| SC.block <| zG <| zp 83 (vi (w64 (1 + (bAnd .i64 x71 1)))) <| zp 84 (vi s6.2.2) <| zp 85 (.agg #[(vi (w64 (1 + (bAnd .i64 x71 1)))), (vi s6.2.2), (vi 0), (vi 0)]) <| KT.nw 17 (fun ad => .pointer (some ad)) 57 fun x17 => zo <| osa <| zn <| zq <| zG <| zp 86 (vi s6.2.2) <| zp 87 (vi (w64 (1 + (bAnd .i64 x71 1)))) <| zp 88 (vi (w64 ((w64 (1 + (bAnd .i64 x71 1))) - 1))) <| zp 89 (vb (s6.2.2 == (w64 ((w64 (1 + (bAnd .i64 x71 1))) - 1)))) <| zn <| SC.join (β := Unit) (fun b7 => [(0, (vS p0_sizes)), (2, (vi p2_fail)), (7, (.pointer x38.1)), (9, (.pointer x51.1)), (10, (vi s6.1)), (11, (vi s6.2.1)), (12, (vS s5.2.2.1)), (13, (vi s5.2.2.2)), (14, (vi (w64 (1 + (bAnd .i64 x71 1))))), (15, (vp x15)), (16, (vi s6.2.2)), (17, (vp x17))]) (fun b7 => ?_) (fun j7 => ?_)
  refine SX.seq <| zq <| SC.draw 9 (fun f => Nat.beq f 7) rfl (by kernel_rfl) fun S8 => zA 1 rfl <| olai 95 4 fun x95 => KT.two 0 6 rfl rfl (by kernel_rfl) rfl rfl ?_ ?_
  refine OW.step (ocall 94 (law08_Small_sim ) fun x94 => ?_)
  refine KT.and <| KT.two 2 6 rfl rfl (by kernel_rfl) rfl rfl ?_ ?_
  refine OW.step (ocall 96 (scan_PutSummary_sim _ _) fun x96 => ?_)
  refine KT.and <| zpA 3 93 (.tuple #[(.agg #[(vi x96.1.1), (vi x96.1.2.1), (vS x96.1.2.2)]), (vb x96.2)]) <| zpA 4 97 (.agg #[(vi x96.1.1), (vi x96.1.2.1), (vS x96.1.2.2)]) <| zpA 5 98 (vb x96.2) <| KT.one 6 rfl (by kernel_rfl) rfl <| OW.step <| OW.new (d := 18) [(vi 0), (vi 0), (.slice none 0 0)] (fun ad => .pointer (some ad)) 65 rfl (fun _ => by kernel_rfl) rfl rfl fun x18 => KT.and <| KT.last 7 rfl (by kernel_rfl) rfl rfl <| OW.stA _ _ _ rfl rfl rfl rfl rfl (by kernel_rfl) <| KT.pvN 8 19 (vb x96.2) <| KT.doneN (by kernel_rfl) <| SX.seq <| zq <| zG <| zp 99 (vb x96.2) <| zp 100 (vb (!x96.2)) <| zp 101 (vb (!x96.2)) <| zj 12 (fun q9 => [(113, (vb q9)), (0, (vS p0_sizes)), (2, (vi p2_fail)), (7, (.pointer x38.1)), (9, (.pointer x51.1)), (10, (vi s6.1)), (11, (vi s6.2.1)), (12, (vS s5.2.2.1)), (13, (vi s5.2.2.2)), (14, (vi (w64 (1 + (bAnd .i64 x71 1))))), (15, (vp x15)), (16, (vi s6.2.2))]) (fun q9 => ?_) (fun j9 => ?_)
  refine zn <| SC.cond rfl ?_ ?_
  exact zG <| zp 6 (vb false) <| zn <| zt <| SX.block_ret <| SX.then_ret <| SX.loop_ret <| SX.block_ret <| SX.then_ret <| SX.block_ret <| SX.then_ret <| SX.loop_ret <| SX.block_ret <| SX.then_ret <| ze [.tmp 6] <| zm rfl zz
  exact zw <| zG <| zp 114 (va x15 2) <| KT.l 115 fun x115 => zp 116 (vi s6.1) <| KT.nw 117 (fun ad => .slice (some ad) 1 1) 3 fun x117 => zo <| oapp 118 3 fun x118 => zp 119 (va x15 2) <| KT.s <| zN <| zp 120 (vi s6.1) <| zp 121 (vi (w64 (s6.1 + 1))) <| zp 10 (vi (w64 (s6.1 + 1))) <| zn <| zg <| zp 122 (vi s6.2.1) <| zp 123 (vi (w64 (s6.2.1 + 1))) <| zp 11 (vi (w64 (s6.2.1 + 1))) <| KT.nil <| SX.block <| SX.seq <| zg <| zp 81 (vi s6.2.2) <| zp 82 (vi (w64 (s6.2.2 + 1))) <| zp 16 (vi (w64 (s6.2.2 + 1))) <| KT.nil zX
  refine KT.ite 101 rfl ?_ ?_
  exact zk <| zk <| zk <| zk <| zk <| zk <| zk <| zk <| zk <| zk <| zk <| zp 113 (vb true) <| zl j9
  exact zp 102 (.pointer x51.1) <| zp 103 (vi s6.1) <| zp 104 (vi s6.2.1) <| zo <| ola 105 3 fun x105 => zp 106 (vi s5.2.2.2) <| zp 107 (.int .u8 (IntKind.wrap .u8 s5.2.2.2)) <| KT.nw 108 (fun ad => .slice (some ad) 1 1) 5 fun x108 => zp 109 (.agg #[(vi 1), (vi 0), (.slice (some x108) 1 1)]) <| KT.nw 110 (fun ad => .slice (some ad) 2 2) 65 fun x110 => zc 111 (stripe_Write_sim _ _ _ _) fun x111 => zp 112 (vb (x111 != 0)) <| zp 113 (vb (x111 != 0)) <| zl j9
  refine OW.step (OW.new (d := 18) [(vi 0), (vi 0), (.slice none 0 0)] (fun ad => .pointer (some ad)) 65 rfl (fun _ => by kernel_rfl) rfl rfl (fun x18 => ?_))
  refine KT.and <| KT.one 2 rfl (by kernel_rfl) rfl <| OW.step <| ocall 96 (scan_PutSummary_sim _ _) fun x96 => KT.and <| zpA 3 93 (.tuple #[(.agg #[(vi x96.1.1), (vi x96.1.2.1), (vS x96.1.2.2)]), (vb x96.2)]) <| zpA 4 97 (.agg #[(vi x96.1.1), (vi x96.1.2.1), (vS x96.1.2.2)]) <| zpA 5 98 (vb x96.2) <| KT.last 7 rfl (by kernel_rfl) rfl rfl <| OW.stA _ _ _ rfl rfl rfl rfl rfl (by kernel_rfl) <| KT.pvN 8 19 (vb x96.2) <| KT.doneN (by kernel_rfl) <| SX.seq <| zq <| zG <| zp 99 (vb x96.2) <| zp 100 (vb (!x96.2)) <| zp 101 (vb (!x96.2)) <| zj 12 (fun q10 => [(113, (vb q10)), (0, (vS p0_sizes)), (2, (vi p2_fail)), (7, (.pointer x38.1)), (9, (.pointer x51.1)), (10, (vi s6.1)), (11, (vi s6.2.1)), (12, (vS s5.2.2.1)), (13, (vi s5.2.2.2)), (14, (vi (w64 (1 + (bAnd .i64 x71 1))))), (15, (vp x15)), (16, (vi s6.2.2))]) (fun q10 => ?_) (fun j10 => ?_)
  refine zn <| SC.cond rfl ?_ ?_
  exact zG <| zp 6 (vb false) <| zn <| zt <| SX.block_ret <| SX.then_ret <| SX.loop_ret <| SX.block_ret <| SX.then_ret <| SX.block_ret <| SX.then_ret <| SX.loop_ret <| SX.block_ret <| SX.then_ret <| ze [.tmp 6] <| zm rfl zz
  exact zw <| zG <| zp 114 (va x15 2) <| KT.l 115 fun x115 => zp 116 (vi s6.1) <| KT.nw 117 (fun ad => .slice (some ad) 1 1) 3 fun x117 => zo <| oapp 118 3 fun x118 => zp 119 (va x15 2) <| KT.s <| zN <| zp 120 (vi s6.1) <| zp 121 (vi (w64 (s6.1 + 1))) <| zp 10 (vi (w64 (s6.1 + 1))) <| zn <| zg <| zp 122 (vi s6.2.1) <| zp 123 (vi (w64 (s6.2.1 + 1))) <| zp 11 (vi (w64 (s6.2.1 + 1))) <| KT.nil <| SX.block <| SX.seq <| zg <| zp 81 (vi s6.2.2) <| zp 82 (vi (w64 (s6.2.2 + 1))) <| zp 16 (vi (w64 (s6.2.2 + 1))) <| KT.nil zX
  refine KT.ite 101 rfl ?_ ?_
  exact zk <| zk <| zk <| zk <| zk <| zk <| zk <| zk <| zk <| zk <| zk <| zp 113 (vb true) <| zl j10
  exact zp 102 (.pointer x51.1) <| zp 103 (vi s6.1) <| zp 104 (vi s6.2.1) <| zo <| ola 105 3 fun x105 => zp 106 (vi s5.2.2.2) <| zp 107 (.int .u8 (IntKind.wrap .u8 s5.2.2.2)) <| KT.nw 108 (fun ad => .slice (some ad) 1 1) 5 fun x108 => zp 109 (.agg #[(vi 1), (vi 0), (.slice (some x108) 1 1)]) <| KT.nw 110 (fun ad => .slice (some ad) 2 2) 65 fun x110 => zc 111 (stripe_Write_sim _ _ _ _) fun x111 => zp 112 (vb (x111 != 0)) <| zp 113 (vb (x111 != 0)) <| zl j10
  refine OW.step (OW.new (d := 18) [(vi 0), (vi 0), (.slice none 0 0)] (fun ad => .pointer (some ad)) 65 rfl (fun _ => by kernel_rfl) rfl rfl (fun x18 => ?_))
  refine KT.and <| KT.one 0 rfl (by kernel_rfl) rfl <| OW.step <| ocall 94 (law08_Small_sim ) fun x94 => KT.and <| KT.one 2 rfl (by kernel_rfl) rfl <| OW.step <| ocall 96 (scan_PutSummary_sim _ _) fun x96 => KT.and <| zpA 3 93 (.tuple #[(.agg #[(vi x96.1.1), (vi x96.1.2.1), (vS x96.1.2.2)]), (vb x96.2)]) <| zpA 4 97 (.agg #[(vi x96.1.1), (vi x96.1.2.1), (vS x96.1.2.2)]) <| zpA 5 98 (vb x96.2) <| KT.last 7 rfl (by kernel_rfl) rfl rfl <| OW.stA _ _ _ rfl rfl rfl rfl rfl (by kernel_rfl) <| KT.pvN 8 19 (vb x96.2) <| KT.doneN (by kernel_rfl) <| SX.seq <| zq <| zG <| zp 99 (vb x96.2) <| zp 100 (vb (!x96.2)) <| zp 101 (vb (!x96.2)) <| zj 12 (fun q11 => [(113, (vb q11)), (0, (vS p0_sizes)), (2, (vi p2_fail)), (7, (.pointer x38.1)), (9, (.pointer x51.1)), (10, (vi s6.1)), (11, (vi s6.2.1)), (12, (vS s5.2.2.1)), (13, (vi s5.2.2.2)), (14, (vi (w64 (1 + (bAnd .i64 x71 1))))), (15, (vp x15)), (16, (vi s6.2.2))]) (fun q11 => ?_) (fun j11 => ?_)
  refine zn <| SC.cond rfl ?_ ?_
  exact zG <| zp 6 (vb false) <| zn <| zt <| SX.block_ret <| SX.then_ret <| SX.loop_ret <| SX.block_ret <| SX.then_ret <| SX.block_ret <| SX.then_ret <| SX.loop_ret <| SX.block_ret <| SX.then_ret <| ze [.tmp 6] <| zm rfl zz
  exact zw <| zG <| zp 114 (va x15 2) <| KT.l 115 fun x115 => zp 116 (vi s6.1) <| KT.nw 117 (fun ad => .slice (some ad) 1 1) 3 fun x117 => zo <| oapp 118 3 fun x118 => zp 119 (va x15 2) <| KT.s <| zN <| zp 120 (vi s6.1) <| zp 121 (vi (w64 (s6.1 + 1))) <| zp 10 (vi (w64 (s6.1 + 1))) <| zn <| zg <| zp 122 (vi s6.2.1) <| zp 123 (vi (w64 (s6.2.1 + 1))) <| zp 11 (vi (w64 (s6.2.1 + 1))) <| KT.nil <| SX.block <| SX.seq <| zg <| zp 81 (vi s6.2.2) <| zp 82 (vi (w64 (s6.2.2 + 1))) <| zp 16 (vi (w64 (s6.2.2 + 1))) <| KT.nil zX
  refine KT.ite 101 rfl ?_ ?_
  exact zk <| zk <| zk <| zk <| zk <| zk <| zk <| zk <| zk <| zk <| zk <| zp 113 (vb true) <| zl j11
  exact zp 102 (.pointer x51.1) <| zp 103 (vi s6.1) <| zp 104 (vi s6.2.1) <| zo <| ola 105 3 fun x105 => zp 106 (vi s5.2.2.2) <| zp 107 (.int .u8 (IntKind.wrap .u8 s5.2.2.2)) <| KT.nw 108 (fun ad => .slice (some ad) 1 1) 5 fun x108 => zp 109 (.agg #[(vi 1), (vi 0), (.slice (some x108) 1 1)]) <| KT.nw 110 (fun ad => .slice (some ad) 2 2) 65 fun x110 => zc 111 (stripe_Write_sim _ _ _ _) fun x111 => zp 112 (vb (x111 != 0)) <| zp 113 (vb (x111 != 0)) <| zl j11
  refine SC.cond rfl ?_ ?_
  exact zg <| zp 90 (va x15 1) <| KT.l 91 fun x91 => zp 92 (va x17 3) <| KT.s <| KT.nil <| zf j7
  exact SC.skip <| zf j7
  exact SC.exit <| SX.then_exit <| SX.loop_exit <| SX.block_hit <| SX.seq <| zg <| zp 124 (vS s5.2.2.1) <| zo <| ola 125 3 fun x125 => KT.nw 126 (fun ad => .slice (some ad) 1 1) 63 fun x126 => zo <| oapp 127 63 fun x127 => zp 12 (vS x127) <| KT.nil <| SX.block <| SX.seq <| zg <| zp 66 (vi s5.2.2.2) <| zp 67 (vi (w64 (s5.2.2.2 + 1))) <| zp 13 (vi (w64 (s5.2.2.2 + 1))) <| KT.nil zX
  refine SC.exit <| SX.then_exit <| SX.loop_exit <| SX.block_hit <| SX.seq <| zG <| zp 128 (.pointer x38.1) <| zp 129 (vi p2_fail) <| zp 130 (vi (bAnd .i64 p2_fail 3)) <| zc 131 (device_Rack_Doom_sim _ _ _) fun x131 => zn <| zq <| zG <| zp 132 (.pointer x51.1) <| zc 133 (bank_Bank_Flush_sim _) fun x133 => zp 134 (vb (x133 != 0)) <| zn <| SC.cond rfl ?_ ?_
  exact zG <| zp 6 (vb false) <| zn <| zt <| ze [.tmp 6] <| zm rfl zz
  refine zw <| zG <| zp 136 (.pointer x51.1) <| zc 137 (scan_Look_sim _) fun x137 => zp 135 (.tuple #[(vS x137.1), (vi x137.2.1), (vi x137.2.2)]) <| zp 138 (vS x137.1) <| zp 139 (vi x137.2.1) <| zp 140 (vi x137.2.2) <| zp 20 (vS x137.1) <| zp 21 (vi x137.2.1) <| zp 8 (vi x137.2.2) <| zn <| zq <| zG <| zp 141 (vi x137.2.2) <| zp 142 (vb (x137.2.2 != 0)) <| zp 143 (vb (x137.2.2 != 0)) <| zj 10 (fun q12 => [(153, (vb q12)), (0, (vS p0_sizes)), (12, (vS s5.2.2.1)), (20, (vS x137.1)), (21, (vi x137.2.1))]) (fun q12 => ?_) (fun j12 => ?_)
  refine zp 154 (vb q12) <| zj 8 (fun q13 => [(162, (vb q13)), (12, (vS s5.2.2.1)), (20, (vS x137.1))]) (fun q13 => ?_) (fun j13 => ?_)
  refine zn <| SC.cond rfl ?_ ?_
  exact zG <| zp 6 (vb false) <| zn <| zt <| ze [.tmp 6] <| zm rfl zz
  exact zw <| zG <| zp 163 (vS x137.1) <| zc 164 (scan_Groups_sim _) fun x164 => zp 165 (vS s5.2.2.1) <| zc 166 (law08_same_sim _ _) fun x166 => zp 6 (vb x166) <| zn <| SC.ret <| ze [.tmp 6] <| zm rfl zz
  refine KT.ite 154 rfl ?_ ?_
  exact zk <| zk <| zk <| zk <| zk <| zk <| zk <| zp 162 (vb true) <| zl j13
  refine zp 155 (vS p0_sizes) <| zp 156 (vi (vl p0_sizes)) <| zp 157 (vb ((vl p0_sizes) == 0)) <| zp 158 (vb ((vl p0_sizes) == 0)) <| zj 3 (fun q14 => [(161, (vb q14)), (12, (vS s5.2.2.1)), (20, (vS x137.1)), (154, (vb false))]) (fun q14 => ?_) (fun j14 => ?_)
  exact zp 162 (vb q14) <| zl j13
  refine KT.ite 158 rfl ?_ ?_
  exact zp 159 (vi x137.2.1) <| zp 160 (vb (x137.2.1 != 0)) <| zp 161 (vb (x137.2.1 != 0)) <| zl j14
  exact zk <| zk <| zp 161 (vb false) <| zl j14
  refine KT.ite 143 rfl ?_ ?_
  exact zk <| zk <| zk <| zk <| zk <| zk <| zk <| zk <| zk <| zp 153 (vb true) <| zl j12
  refine zp 144 (vS p0_sizes) <| zp 145 (vi (vl p0_sizes)) <| zp 146 (vb (decide ((vl p0_sizes) > 0))) <| zp 147 (vb (decide ((vl p0_sizes) > 0))) <| zj 5 (fun q15 => [(152, (vb q15)), (0, (vS p0_sizes)), (12, (vS s5.2.2.1)), (20, (vS x137.1)), (21, (vi x137.2.1)), (143, (vb false))]) (fun q15 => ?_) (fun j15 => ?_)
  exact zp 153 (vb q15) <| zl j12
  refine KT.ite 147 rfl ?_ ?_
  exact zp 148 (vi x137.2.1) <| zp 149 (vi s5.2.1) <| zp 150 (vi (w64 (s5.2.1 - 1))) <| zp 151 (vb (x137.2.1 != (w64 (s5.2.1 - 1)))) <| zp 152 (vb (x137.2.1 != (w64 (s5.2.1 - 1)))) <| zl j15
  exact zk <| zk <| zk <| zk <| zp 152 (vb false) <| zl j15
  refine KT.ite 56 rfl ?_ ?_
  exact zk <| zk <| zp 59 (vb true) <| zl j4
  refine zp 57 (.pointer x51.1) <| KT.oy rfl (OY.eqlNil (d := 58) (p := x51.1) _ _ _ _ rfl rfl rfl (by kernel_rfl) rfl rfl ?_)
  exact zp 59 (vb ((x51.1).isNone)) <| zl j4
  refine KT.ite 43 rfl ?_ ?_
  exact zk <| zk <| zp 46 (vb true) <| zl j3
  refine zp 44 (.pointer x38.1) <| KT.oy rfl (OY.eqlNil (d := 45) (p := x38.1) _ _ _ _ rfl rfl rfl (by kernel_rfl) rfl rfl ?_)
  exact zp 46 (vb ((x38.1).isNone)) <| zl j3
  refine KT.ite 31 rfl ?_ ?_
  exact zk <| zk <| zp 34 (vb true) <| zl j2
  exact zp 32 (vi p1_from) <| zp 33 (vb (decide (p1_from > 1048576))) <| zp 34 (vb (decide (p1_from > 1048576))) <| zl j2
  refine KT.ite 27 rfl ?_ ?_
  exact zk <| zk <| zp 30 (vb true) <| zl j1
  exact zp 28 (vi p1_from) <| zp 29 (vb (decide (p1_from < 1))) <| zp 30 (vb (decide (p1_from < 1))) <| zl j1
end Go.Proofs.Ytldmeimebebllaa
namespace Go.Proofs.Ytldmeimebebllaa
open Go.Mo
theorem disksOk : DisksOk (cvOf Tryz.prog) := fun b yv Q w hm =>
  enter_of (f := fid_bank_Bank_disks) (ags := #[.pointer b, yv]) (m := bank_Bank_disks (cvOf Tryz.prog) b yv) (enc := fun _ : Unit => .tuple #[]) (by simp [Deferred.ofValue, invoke]) (fun Qf' h => bank_Bank_disks_sim b yv Qf' w h) Q hm
end Go.Proofs.Ytldmeimebebllaa
namespace Go.Proofs.Ytldmeimebebllaa
open Go.Mo
theorem rowsOk : RowsOk (cvOf Tryz.prog) := fun a1 a2 yv Q w hm =>
  enter_of (f := fid_stripe_rows_c1) (ags := #[yv, .pointer (some a1), .pointer (some a2)]) (m := stripe_rows_c1 (cvOf Tryz.prog) yv a1 a2) (enc := fun _ : Unit => .tuple #[]) (by simp [Deferred.ofValue, invoke]) (fun Qf' h => stripe_rows_c1_sim yv a1 a2 Qf' w h) Q hm
end Go.Proofs.Ytldmeimebebllaa
