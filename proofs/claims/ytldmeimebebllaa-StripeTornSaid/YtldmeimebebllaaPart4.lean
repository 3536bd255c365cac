/-
  A part of the proof: predicate transformers over the model, and a separation logic over them; what functions of the program do.
-/
import Derived.Test.YtldmeimebebllaaPart3
import Derived.Test.YtldmeimebebllaaProg
set_option linter.unusedSimpArgs false
namespace Go.Proofs.Ytldmeimebebllaa
open Go.Mo Go.Shelf
set_option maxRecDepth 100000
def sortRen : Go.Shelf.Ren := ⟨fun | 5 => 115 | 8 => 135 | 7 => 134 | 19 => 148 | 20 => 149 | 10 => 139 | 11 => 140 | 12 => 141 | 13 => 142 | 14 => 143 | 15 => 144 | 16 => 145 | 17 => 146 | 18 => 147 | 30 => 151 | 31 => 152 | 32 => 153 | 33 => 154 | 34 => 155 | 35 => 156 | 40 => 157 | n => n, fun | 23 => 33 | 25 => 3 | 3 => 3 | 32 => 58 | 22 => 33 | 0 => 0 | 44 => 184 | 46 => 186 | 4 => 4 | 36 => 178 | 35 => 177 | 41 => 126 | 5 => 5 | 9 => 9 | 53 => 188 | 57 => 192 | 63 => 194 | 64 => 95 | n => n, fun | n => n⟩
theorem sortLay : SlLaysM.n5 Try.prog sortRen := {
  mixed := by kernel_rfl,
  f5 := ⟨Try.f115.name, by decide, Try.func115.trans (congrArg some (by kernel_rfl))⟩,
  f7 := ⟨Try.f134.name, by decide, Try.func134.trans (congrArg some (by kernel_rfl))⟩,
  f8 := Try.func135.trans (congrArg some (by kernel_rfl)),
  f10 := ⟨Try.f139.name, by decide, Try.func139.trans (congrArg some (by kernel_rfl))⟩,
  f11 := ⟨Try.f140.name, by decide, Try.func140.trans (congrArg some (by kernel_rfl))⟩,
  f12 := ⟨Try.f141.name, by decide, Try.func141.trans (congrArg some (by kernel_rfl))⟩,
  f13 := ⟨Try.f142.name, by decide, Try.func142.trans (congrArg some (by kernel_rfl))⟩,
  f14 := ⟨Try.f143.name, by decide, Try.func143.trans (congrArg some (by kernel_rfl))⟩,
  f15 := ⟨Try.f144.name, by decide, Try.func144.trans (congrArg some (by kernel_rfl))⟩,
  f16 := ⟨Try.f145.name, by decide, Try.func145.trans (congrArg some (by kernel_rfl))⟩,
  f17 := ⟨Try.f146.name, by decide, Try.func146.trans (congrArg some (by kernel_rfl))⟩,
  f18 := ⟨Try.f147.name, by decide, Try.func147.trans (congrArg some (by kernel_rfl))⟩,
  f19 := Try.func148.trans (congrArg some (by kernel_rfl)),
  f20 := Try.func149.trans (congrArg some (by kernel_rfl)),
  f30 := ⟨Try.f151.name, by decide, Try.func151.trans (congrArg some (by kernel_rfl))⟩,
  f31 := Try.func152.trans (congrArg some (by kernel_rfl)),
  f32 := Try.func153.trans (congrArg some (by kernel_rfl)),
  f33 := ⟨Try.f154.name, by decide, Try.func154.trans (congrArg some (by kernel_rfl))⟩,
  f34 := ⟨Try.f155.name, by decide, Try.func155.trans (congrArg some (by kernel_rfl))⟩,
  f35 := ⟨Try.f156.name, by decide, Try.func156.trans (congrArg some (by kernel_rfl))⟩,
  f40 := ⟨Try.f157.name, by decide, Try.func157.trans (congrArg some (by kernel_rfl))⟩,
  t0 := Try.underlying0,
  a0 := Try.isAgg0,
  z0 := Try.sizeOf0,
  v0 := Try.zeroValue0,
  t3 := Try.underlying3,
  a3 := Try.isAgg3,
  z3 := Try.sizeOf3,
  v3 := Try.zeroValue3,
  t4 := Try.underlying4,
  a4 := Try.isAgg4,
  z4 := Try.sizeOf4,
  v4 := Try.zeroValue4,
  t5 := Try.underlying5,
  a5 := Try.isAgg5,
  z5 := Try.sizeOf5,
  v5 := Try.zeroValue5,
  t9 := Try.underlying9,
  a9 := Try.isAgg9,
  z9 := Try.sizeOf9,
  v9 := Try.zeroValue9,
  t22 := Try.underlying33,
  a22 := Try.isAgg33,
  z22 := Try.sizeOf33,
  v22 := Try.zeroValue33,
  t23 := Try.underlying33,
  a23 := Try.isAgg33,
  z23 := Try.sizeOf33,
  v23 := Try.zeroValue33,
  t25 := Try.underlying3,
  a25 := Try.isAgg3,
  z25 := Try.sizeOf3,
  v25 := Try.zeroValue3,
  t32 := Try.underlying58,
  a32 := Try.isAgg58,
  z32 := Try.sizeOf58,
  v32 := Try.zeroValue58,
  t35 := Try.underlying177,
  a35 := Try.isAgg177,
  z35 := Try.sizeOf177,
  v35 := Try.zeroValue177,
  t36 := Try.underlying178,
  a36 := Try.isAgg178,
  z36 := Try.sizeOf178,
  v36 := Try.zeroValue178,
  t41 := Try.underlying126,
  a41 := Try.isAgg126,
  z41 := Try.sizeOf126,
  v41 := Try.zeroValue126,
  t44 := Try.underlying184,
  a44 := Try.isAgg184,
  z44 := Try.sizeOf184,
  v44 := Try.zeroValue184,
  t46 := Try.underlying186,
  a46 := Try.isAgg186,
  z46 := Try.sizeOf186,
  v46 := Try.zeroValue186,
  t53 := Try.underlying188,
  a53 := Try.isAgg188,
  z53 := Try.sizeOf188,
  v53 := Try.zeroValue188,
  t57 := Try.underlying192,
  a57 := Try.isAgg192,
  z57 := Try.sizeOf192,
  v57 := Try.zeroValue192,
  t63 := Try.underlying194,
  a63 := Try.isAgg194,
  z63 := Try.sizeOf194,
  v63 := Try.zeroValue194,
  t64 := Try.underlying95,
  a64 := Try.isAgg95,
  z64 := Try.sizeOf95,
  v64 := Try.zeroValue95
}
theorem slices_Sort_i_sim (p0 : Slc) (Qf : Unit → World → Prop) (w : World) (hm : sortM p0 Qf w) : Calls Try.prog 115 #[.slice p0.base p0.len p0.cap] w (RetPost (fun _ : Unit => .tuple #[]) Qf) := sortM_sim sortLay p0 Qf w hm
end Go.Proofs.Ytldmeimebebllaa
namespace Go.Proofs.Ytldmeimebebllaa
open Go.Mo
set_option linter.unusedVariables false
theorem makeNoZero_run (nn : Int) (w : World) : (callFunc 150 #[.int .i64 nn]).run Try.prog w = ((Extern.BytealgMakeNoZero.makeNoZero #[3] #[46] #[.int .i64 nn]).run Try.prog w).andThen fun v w' => .ok (.value v) w' := run_callFunc_extern Try.func150 (by kernel_rfl) (by kernel_rfl) (by kernel_rfl) (e := Extern.BytealgMakeNoZero.makeNoZero #[3] #[46]) (by kernel_rfl) #[.int .i64 nn] w
set_option maxRecDepth 100000 in
theorem device_Rack_disk_sim (p0_r : (Option Addr)) (p1_k : Int) (p2_sector : Int) (Qf : ((Option Addr) × Int) → World → Prop) (w : World) (hm : device_Rack_disk p0_r p1_k p2_sector Qf w) : Calls Try.prog 70 #[(.pointer p0_r), (.int .i64 p1_k), (.int .i64 p2_sector)] w (RetPost (fun y : ((Option Addr) × Int) => (.tuple #[(.pointer y.1), (.int .i64 y.2)])) Qf) := by
  refine calls_of (fn := Try.f70) (l := [(.pointer p0_r), (.int .i64 p1_k), (.int .i64 p2_sector)]) (m := device_Rack_disk p0_r p1_k p2_sector) 42 (by kernel_rfl) rfl rfl rfl (fun Qf0 => ?_) Qf w hm
  clear hm w Qf
  unfold device_Rack_disk
  refine SC.seq ?_
  refine SC.region' ?_
  refine KT.pv 6 (.pointer none) ?_
  refine KT.pv 7 (.int .i64 0) ?_
  refine KT.nil ?_
  refine SX.seq ?_
  refine SC.seq ?_
  refine SC.seq ?_
  refine SC.region' ?_
  refine KT.pv 8 (.pointer p0_r) ?_
  refine KT.nm 9 (fun x9 => ?_)
  refine KT.pv 10 (.pointer (some (Addr.add x9 3))) ?_
  refine KT.l 11 (fun x11 => ?_)
  refine KT.nil ?_
  refine SX.seq ?_
  refine SC.cond (b := x11) rfl ?_ ?_
  refine SC.seq ?_
  refine SC.region' ?_
  refine KT.pv 6 (.pointer none) ?_
  refine KT.pv 7 (.int .i64 12) ?_
  refine KT.nil ?_
  refine SX.seq ?_
  refine SC.ret ?_
  refine SX.then_ret ?_
  refine SX.ret [.tmp 6, .tmp 7] rfl ?_
  refine RS.tmp (.pointer none) rfl ?_
  refine RS.tmp (.int .i64 12) rfl ?_
  exact RS.nil rfl
  refine SC.skip ?_
  refine SX.seq ?_
  refine SC.seq ?_
  refine SC.seq ?_
  refine SC.region' ?_
  refine KT.pv 12 (.int .i64 p1_k) ?_
  refine KT.pv 13 (.bool (decide (p1_k < 0))) ?_
  refine KT.pv 14 (.bool (decide (p1_k < 0))) ?_
  refine KT.joinO (β := Bool) 8 (fun r1 => [(22, (.bool r1)), (0, (.pointer p0_r)), (1, (.int .i64 p1_k)), (2, (.int .i64 p2_sector))]) (fun r1 => ?_) (fun j1 => ?_)
  refine KT.pv 23 (.bool r1) ?_
  refine KT.joinO (β := Bool) 3 (fun r2 => [(26, (.bool r2)), (0, (.pointer p0_r)), (1, (.int .i64 p1_k)), (2, (.int .i64 p2_sector))]) (fun r2 => ?_) (fun j2 => ?_)
  refine KT.pv 27 (.bool r2) ?_
  refine KT.joinO (β := Bool) 7 (fun r3 => [(34, (.bool r3)), (0, (.pointer p0_r)), (1, (.int .i64 p1_k))]) (fun r3 => ?_) (fun j3 => ?_)
  refine KT.nil ?_
  refine SX.seq ?_
  refine SC.cond (b := r3) rfl ?_ ?_
  refine SC.seq ?_
  refine SC.region' ?_
  refine KT.pv 6 (.pointer none) ?_
  refine KT.pv 7 (.int .i64 11) ?_
  refine KT.nil ?_
  refine SX.seq ?_
  refine SC.ret ?_
  refine SX.then_ret ?_
  refine SX.ret [.tmp 6, .tmp 7] rfl ?_
  refine RS.tmp (.pointer none) rfl ?_
  refine RS.tmp (.int .i64 11) rfl ?_
  exact RS.nil rfl
  refine SC.skip ?_
  refine SX.seq ?_
  refine SC.seq ?_
  refine SC.region' ?_
  refine KT.pv 35 (.pointer p0_r) ?_
  refine KT.nm 36 (fun x36 => ?_)
  refine KT.pv 37 (.pointer (some x36)) ?_
  refine KT.l 38 (fun x38 => ?_)
  refine KT.pv 39 (.int .i64 p1_k) ?_
  refine KT.oy rfl (OY.idx (d := 40) (s := x38) (i := p1_k) (size := 1) (elem := 111) _ _ _ rfl rfl rfl (by kernel_rfl) (by kernel_rfl) rfl rfl (fun x40 => ?_))
  refine KT.l 41 (fun x41 => ?_)
  refine KT.pv 6 (.pointer x41) ?_
  refine KT.pv 7 (.int .i64 0) ?_
  refine KT.nil ?_
  refine SX.seq ?_
  refine SC.ret ?_
  refine SX.ret [.tmp 6, .tmp 7] rfl ?_
  refine RS.tmp (.pointer x41) rfl ?_
  refine RS.tmp (.int .i64 0) rfl ?_
  exact RS.nil rfl
  refine KT.ite (b := r2) 27 rfl ?_ ?_
  refine KT.sk ?_
  refine KT.sk ?_
  refine KT.sk ?_
  refine KT.sk ?_
  refine KT.sk ?_
  refine KT.sk ?_
  refine KT.pv 34 (.bool true) ?_
  exact KT.leafO j3 (.cons rfl (.cons rfl (.cons rfl (.nil))))
  refine KT.pv 28 (.int .i64 p2_sector) ?_
  refine KT.pv 29 (.pointer p0_r) ?_
  refine KT.nm 30 (fun x30 => ?_)
  refine KT.pv 31 (.pointer (some (Addr.add x30 1))) ?_
  refine KT.l 32 (fun x32 => ?_)
  refine KT.pv 33 (.bool (decide (p2_sector ≥ x32))) ?_
  refine KT.pv 34 (.bool (decide (p2_sector ≥ x32))) ?_
  exact KT.leafO j3 (.cons rfl (.cons rfl (.cons rfl (.nil))))
  refine KT.ite (b := r1) 23 rfl ?_ ?_
  refine KT.sk ?_
  refine KT.sk ?_
  refine KT.pv 26 (.bool true) ?_
  exact KT.leafO j2 (.cons rfl (.cons rfl (.cons rfl (.cons rfl (.nil)))))
  refine KT.pv 24 (.int .i64 p2_sector) ?_
  refine KT.pv 25 (.bool (decide (p2_sector < 0))) ?_
  refine KT.pv 26 (.bool (decide (p2_sector < 0))) ?_
  exact KT.leafO j2 (.cons rfl (.cons rfl (.cons rfl (.cons rfl (.nil)))))
  refine KT.ite (b := decide (p1_k < 0)) 14 rfl ?_ ?_
  refine KT.sk ?_
  refine KT.sk ?_
  refine KT.sk ?_
  refine KT.sk ?_
  refine KT.sk ?_
  refine KT.sk ?_
  refine KT.sk ?_
  refine KT.pv 22 (.bool true) ?_
  exact KT.leafO j1 (.cons rfl (.cons rfl (.cons rfl (.cons rfl (.nil)))))
  refine KT.pv 15 (.int .i64 p1_k) ?_
  refine KT.pv 16 (.pointer p0_r) ?_
  refine KT.nm 17 (fun x17 => ?_)
  refine KT.pv 18 (.pointer (some x17)) ?_
  refine KT.l 19 (fun x19 => ?_)
  refine KT.pv 20 (.int .i64 ((x19.len : Nat) : Int)) ?_
  refine KT.pv 21 (.bool (decide (p1_k ≥ ((x19.len : Nat) : Int)))) ?_
  refine KT.pv 22 (.bool (decide (p1_k ≥ ((x19.len : Nat) : Int)))) ?_
  exact KT.leafO j1 (.cons rfl (.cons rfl (.cons rfl (.cons rfl (.nil)))))
set_option maxRecDepth 100000 in
theorem device_Rack_call_sim (p0_r : (Option Addr)) (Qf : Bool → World → Prop) (w : World) (hm : device_Rack_call p0_r Qf w) : Calls Try.prog 113 #[(.pointer p0_r)] w (RetPost Value.bool Qf) := by
  refine calls_of (fn := Try.f113) (l := [(.pointer p0_r)]) (m := device_Rack_call p0_r) 55 (by kernel_rfl) rfl rfl rfl (fun Qf0 => ?_) Qf w hm
  clear hm w Qf
  unfold device_Rack_call
  refine SC.seq ?_
  refine SC.region' ?_
  refine KT.pv 2 (.bool false) ?_
  refine KT.nil ?_
  refine SX.seq ?_
  refine SC.seq ?_
  refine SC.seq ?_
  refine SC.region' ?_
  refine KT.pv 5 (.pointer p0_r) ?_
  refine KT.nm 6 (fun x6 => ?_)
  refine KT.pv 7 (.pointer (some (Addr.add x6 2))) ?_
  refine KT.l 8 (fun x8 => ?_)
  refine KT.pv 9 (.bool (x8 == 0)) ?_
  refine KT.nil ?_
  refine SX.seq ?_
  refine SC.cond (b := x8 == 0) rfl ?_ ?_
  refine SC.seq ?_
  refine SC.region' ?_
  refine KT.pv 10 (.pointer p0_r) ?_
  refine KT.nm 11 (fun x11 => ?_)
  refine KT.pv 12 (.pointer (some (Addr.add x11 3))) ?_
  refine KT.s ?_
  refine KT.nil ?_
  refine SX.seq ?_
  refine SC.seq ?_
  refine SC.region' ?_
  refine KT.pv 2 (.bool false) ?_
  refine KT.nil ?_
  refine SX.seq ?_
  refine SC.ret ?_
  refine SX.then_ret ?_
  refine SX.ret [.tmp 2] rfl ?_
  refine RS.tmp (.bool false) rfl ?_
  exact RS.nil rfl
  refine SC.skip ?_
  refine SX.seq ?_
  refine SC.seq ?_
  refine SC.region' ?_
  refine KT.pv 13 (.pointer p0_r) ?_
  refine KT.pv 14 (.pointer p0_r) ?_
  refine KT.nm 15 (fun x15 => ?_)
  refine KT.pv 16 (.pointer (some (Addr.add x15 2))) ?_
  refine KT.l 17 (fun x17 => ?_)
  refine KT.pv 18 (.int .i64 (w64 (x17 - 1))) ?_
  refine KT.pv 19 (.int .i64 (maxI (w64 (x17 - 1)) (-1))) ?_
  refine KT.nm 20 (fun x20 => ?_)
  refine KT.pv 21 (.pointer (some (Addr.add x20 2))) ?_
  refine KT.s ?_
  refine KT.nil ?_
  refine SX.seq ?_
  refine SC.seq ?_
  refine SC.seq ?_
  refine SC.region' ?_
  refine KT.pv 22 (.pointer p0_r) ?_
  refine KT.nm 23 (fun x23 => ?_)
  refine KT.pv 24 (.pointer (some x23)) ?_
  refine KT.l 25 (fun x25 => ?_)
  refine KT.pv 26 (.int .i64 ((x25.len : Nat) : Int)) ?_
  refine KT.pv 27 (.int .i64 0) ?_
  refine KT.nil ?_
  refine SX.seq ?_
  refine SC.block ?_
  refine SC.loop (σ := (Int)) (fun s1 => [(25, (.slice x25.base x25.len x25.cap)), (26, (.int .i64 ((x25.len : Nat) : Int))), (27, (.int .i64 s1))]) (.cons rfl (.cons rfl (.cons rfl (.nil)))) (fun _ _ _ s1 => ?_)
  refine SC.seq ?_
  refine SC.region' ?_
  refine KT.pv 28 (.bool (decide (s1 < ((x25.len : Nat) : Int)))) ?_
  refine KT.nil ?_
  refine SX.seq ?_
  refine SC.seq ?_
  refine SC.cond (b := decide (s1 < ((x25.len : Nat) : Int))) rfl ?_ ?_
  refine SC.skip ?_
  refine SX.seq ?_
  refine SC.seq ?_
  refine SC.block ?_
  refine SC.seq ?_
  refine SC.region' ?_
  refine KT.oy rfl (OY.idx (d := 29) (s := x25) (i := s1) (size := 1) (elem := 111) _ _ _ rfl rfl rfl (by kernel_rfl) (by kernel_rfl) rfl rfl (fun x29 => ?_))
  refine KT.l 30 (fun x30 => ?_)
  refine KT.pv 4 (.pointer x30) ?_
  refine KT.nil ?_
  refine SX.seq ?_
  refine SC.seq ?_
  refine SC.region' ?_
  refine KT.pv 31 (.pointer x30) ?_
  refine KT.pv 32 (.pointer x30) ?_
  refine KT.nm 33 (fun x33 => ?_)
  refine KT.pv 34 (.pointer (some (Addr.add x33 2))) ?_
  refine KT.l 35 (fun x35 => ?_)
  refine KT.pv 36 (.bool x35) ?_
  refine KT.joinO (β := Bool) 6 (fun r2 => [(42, (.bool r2)), (4, (.pointer x30)), (25, (.slice x25.base x25.len x25.cap)), (26, (.int .i64 ((x25.len : Nat) : Int))), (27, (.int .i64 s1)), (31, (.pointer x30))]) (fun r2 => ?_) (fun j2 => ?_)
  refine KT.nm 43 (fun x43 => ?_)
  refine KT.pv 44 (.pointer (some (Addr.add x43 2))) ?_
  refine KT.s ?_
  refine KT.nil ?_
  refine SX.seq ?_
  refine SC.region' ?_
  refine KT.pv 45 (.pointer x30) ?_
  refine KT.pv 46 (.pointer x30) ?_
  refine KT.nm 47 (fun x47 => ?_)
  refine KT.pv 48 (.pointer (some (Addr.add x47 3))) ?_
  refine KT.l 49 (fun x49 => ?_)
  refine KT.pv 50 (.int .i64 (w64 (x49 - 1))) ?_
  refine KT.pv 51 (.int .i64 (maxI (w64 (x49 - 1)) (-1))) ?_
  refine KT.nm 52 (fun x52 => ?_)
  refine KT.pv 53 (.pointer (some (Addr.add x52 3))) ?_
  refine KT.s ?_
  refine KT.nil ?_
  refine SX.block ?_
  refine SX.seq ?_
  refine SC.region' ?_
  refine KT.pv 54 (.int .i64 (w64 (s1 + 1))) ?_
  refine KT.pv 27 (.int .i64 (w64 (s1 + 1))) ?_
  refine KT.nil ?_
  exact SX.loop_next (.cons rfl (.cons rfl (.cons rfl (.nil))))
  refine KT.ite (b := x35) 36 rfl ?_ ?_
  refine KT.sk ?_
  refine KT.sk ?_
  refine KT.sk ?_
  refine KT.sk ?_
  refine KT.sk ?_
  refine KT.pv 42 (.bool true) ?_
  exact KT.leafO j2 (.cons rfl (.cons rfl (.cons rfl (.cons rfl (.cons rfl (.cons rfl (.nil)))))))
  refine KT.pv 37 (.pointer x30) ?_
  refine KT.nm 38 (fun x38 => ?_)
  refine KT.pv 39 (.pointer (some (Addr.add x38 3))) ?_
  refine KT.l 40 (fun x40 => ?_)
  refine KT.pv 41 (.bool (x40 == 0)) ?_
  refine KT.pv 42 (.bool (x40 == 0)) ?_
  exact KT.leafO j2 (.cons rfl (.cons rfl (.cons rfl (.cons rfl (.cons rfl (.cons rfl (.nil)))))))
  refine SC.exit ?_
  refine SX.then_exit ?_
  refine SX.loop_exit ?_
  refine SX.block_hit ?_
  refine SX.seq ?_
  refine SC.seq ?_
  refine SC.region' ?_
  refine KT.pv 2 (.bool true) ?_
  refine KT.nil ?_
  refine SX.seq ?_
  refine SC.ret ?_
  refine SX.ret [.tmp 2] rfl ?_
  refine RS.tmp (.bool true) rfl ?_
  exact RS.nil rfl
set_option maxRecDepth 100000 in
theorem device_Rack_counted_sim (p0_r : (Option Addr)) (p1_k : Int) (p2_sector : Int) (p3_size : Int) (Qf : ((Option Addr) × Int) → World → Prop) (w : World) (hm : device_Rack_counted p0_r p1_k p2_sector p3_size Qf w) : Calls Try.prog 73 #[(.pointer p0_r), (.int .i64 p1_k), (.int .i64 p2_sector), (.int .i64 p3_size)] w (RetPost (fun y : ((Option Addr) × Int) => (.tuple #[(.pointer y.1), (.int .i64 y.2)])) Qf) := by
  refine calls_of (fn := Try.f73) (l := [(.pointer p0_r), (.int .i64 p1_k), (.int .i64 p2_sector), (.int .i64 p3_size)]) (m := device_Rack_counted p0_r p1_k p2_sector p3_size) 36 (by kernel_rfl) rfl rfl rfl (fun Qf0 => ?_) Qf w hm
  clear hm w Qf
  unfold device_Rack_counted
  refine SC.seq ?_
  refine SC.region' ?_
  refine KT.pv 8 (.pointer none) ?_
  refine KT.pv 9 (.int .i64 0) ?_
  refine KT.nil ?_
  refine SX.seq ?_
  refine SC.seq ?_
  refine SC.region' ?_
  refine KT.pv 13 (.pointer p0_r) ?_
  refine KT.pv 14 (.int .i64 p1_k) ?_
  refine KT.pv 15 (.int .i64 p2_sector) ?_
  refine KT.cl (fun y : ((Option Addr) × Int) => (.tuple #[(.pointer y.1), (.int .i64 y.2)])) 16 70 #[(.pointer p0_r), (.int .i64 p1_k), (.int .i64 p2_sector)] (device_Rack_disk_sim p0_r p1_k p2_sector) (fun x16 => ?_)
  refine KT.pv 12 (.tuple #[(.pointer x16.1), (.int .i64 x16.2)]) ?_
  refine KT.pv 17 (.pointer x16.1) ?_
  refine KT.pv 18 (.int .i64 x16.2) ?_
  refine KT.pv 10 (.pointer x16.1) ?_
  refine KT.pv 11 (.int .i64 x16.2) ?_
  refine KT.nil ?_
  refine SX.seq ?_
  refine SC.seq ?_
  refine SC.block ?_
  refine SC.seq ?_
  refine SC.region' ?_
  refine KT.pv 20 (.int .i64 x16.2) ?_
  refine KT.pv 21 (.bool (x16.2 != 0)) ?_
  refine KT.pv 19 (.bool (x16.2 != 0)) ?_
  refine KT.nil ?_
  refine SX.seq ?_
  refine SC.cond (b := x16.2 != 0) rfl ?_ ?_
  refine SC.seq ?_
  refine SC.region' ?_
  refine KT.pv 22 (.int .i64 x16.2) ?_
  refine KT.pv 8 (.pointer none) ?_
  refine KT.pv 9 (.int .i64 x16.2) ?_
  refine KT.nil ?_
  refine SX.seq ?_
  refine SC.ret ?_
  refine SX.block_ret ?_
  refine SX.then_ret ?_
  refine SX.ret [.tmp 8, .tmp 9] rfl ?_
  refine RS.tmp (.pointer none) rfl ?_
  refine RS.tmp (.int .i64 x16.2) rfl ?_
  exact RS.nil rfl
  refine SC.seq ?_
  refine SC.region' ?_
  refine KT.pv 24 (.int .i64 p3_size) ?_
  refine KT.pv 25 (.bool (p3_size != 64)) ?_
  refine KT.pv 23 (.bool (p3_size != 64)) ?_
  refine KT.nil ?_
  refine SX.seq ?_
  refine SC.cond (b := p3_size != 64) rfl ?_ ?_
  refine SC.seq ?_
  refine SC.region' ?_
  refine KT.pv 8 (.pointer none) ?_
  refine KT.pv 9 (.int .i64 11) ?_
  refine KT.nil ?_
  refine SX.seq ?_
  refine SC.ret ?_
  refine SX.block_ret ?_
  refine SX.then_ret ?_
  refine SX.ret [.tmp 8, .tmp 9] rfl ?_
  refine RS.tmp (.pointer none) rfl ?_
  refine RS.tmp (.int .i64 11) rfl ?_
  exact RS.nil rfl
  refine SC.seq ?_
  refine SC.region' ?_
  refine KT.pv 27 (.pointer p0_r) ?_
  refine KT.cl Value.bool 28 113 #[(.pointer p0_r)] (device_Rack_call_sim p0_r) (fun x28 => ?_)
  refine KT.pv 29 (.bool (!x28)) ?_
  refine KT.pv 26 (.bool (!x28)) ?_
  refine KT.nil ?_
  refine SX.seq ?_
  refine SC.cond (b := !x28) rfl ?_ ?_
  refine SC.seq ?_
  refine SC.region' ?_
  refine KT.pv 8 (.pointer none) ?_
  refine KT.pv 9 (.int .i64 12) ?_
  refine KT.nil ?_
  refine SX.seq ?_
  refine SC.ret ?_
  refine SX.block_ret ?_
  refine SX.then_ret ?_
  refine SX.ret [.tmp 8, .tmp 9] rfl ?_
  refine RS.tmp (.pointer none) rfl ?_
  refine RS.tmp (.int .i64 12) rfl ?_
  exact RS.nil rfl
  refine SC.seq ?_
  refine SC.region' ?_
  refine KT.pv 31 (.pointer x16.1) ?_
  refine KT.nm 32 (fun x32 => ?_)
  refine KT.pv 33 (.pointer (some (Addr.add x32 2))) ?_
  refine KT.l 34 (fun x34 => ?_)
  refine KT.pv 30 (.bool x34) ?_
  refine KT.nil ?_
  refine SX.sub (T' := [(10, (.pointer x16.1)), (30, (.bool x34))]) (.cons rfl (.cons rfl (.nil))) ?_
  refine SX.seq ?_
  refine SC.cond (b := x34) rfl ?_ ?_
  refine SC.seq ?_
  refine SC.region' ?_
  refine KT.pv 8 (.pointer none) ?_
  refine KT.pv 9 (.int .i64 13) ?_
  refine KT.nil ?_
  refine SX.seq ?_
  refine SC.ret ?_
  refine SX.block_ret ?_
  refine SX.then_ret ?_
  refine SX.ret [.tmp 8, .tmp 9] rfl ?_
  refine RS.tmp (.pointer none) rfl ?_
  refine RS.tmp (.int .i64 13) rfl ?_
  exact RS.nil rfl
  refine SC.skip ?_
  refine SX.block ?_
  refine SX.seq ?_
  refine SC.seq ?_
  refine SC.region' ?_
  refine KT.pv 35 (.pointer x16.1) ?_
  refine KT.pv 8 (.pointer x16.1) ?_
  refine KT.pv 9 (.int .i64 0) ?_
  refine KT.nil ?_
  refine SX.seq ?_
  refine SC.ret ?_
  refine SX.ret [.tmp 8, .tmp 9] rfl ?_
  refine RS.tmp (.pointer x16.1) rfl ?_
  refine RS.tmp (.int .i64 0) rfl ?_
  exact RS.nil rfl
set_option maxRecDepth 100000 in
theorem device_Rack_Flush_sim (p0_r : (Option Addr)) (p1_disk : Int) (Qf : Int → World → Prop) (w : World) (hm : device_Rack_Flush p0_r p1_disk Qf w) : Calls Try.prog 42 #[(.pointer p0_r), (.int .i64 p1_disk)] w (RetPost (Value.int .i64) Qf) := by
  refine calls_of (fn := Try.f42) (l := [(.pointer p0_r), (.int .i64 p1_disk)]) (m := device_Rack_Flush p0_r p1_disk) 39 (by kernel_rfl) rfl rfl rfl (fun Qf0 => ?_) Qf w hm
  clear hm w Qf
  unfold device_Rack_Flush
  refine SC.seq ?_
  refine SC.region' ?_
  refine KT.pv 4 (.int .i64 0) ?_
  refine KT.nil ?_
  refine SX.seq ?_
  refine SC.seq ?_
  refine SC.region' ?_
  refine KT.pv 10 (.pointer p0_r) ?_
  refine KT.pv 11 (.int .i64 p1_disk) ?_
  refine KT.cl (fun y : ((Option Addr) × Int) => (.tuple #[(.pointer y.1), (.int .i64 y.2)])) 12 73 #[(.pointer p0_r), (.int .i64 p1_disk), (.int .i64 0), (.int .i64 64)] (device_Rack_counted_sim p0_r p1_disk 0 64) (fun x12 => ?_)
  refine KT.pv 9 (.tuple #[(.pointer x12.1), (.int .i64 x12.2)]) ?_
  refine KT.pv 13 (.pointer x12.1) ?_
  refine KT.pv 14 (.int .i64 x12.2) ?_
  refine KT.pv 5 (.pointer x12.1) ?_
  refine KT.pv 6 (.int .i64 x12.2) ?_
  refine KT.nil ?_
  refine SX.seq ?_
  refine SC.seq ?_
  refine SC.seq ?_
  refine SC.region' ?_
  refine KT.pv 15 (.int .i64 x12.2) ?_
  refine KT.pv 16 (.bool (x12.2 == 0)) ?_
  refine KT.nil ?_
  refine SX.seq ?_
  refine SC.cond (b := x12.2 == 0) rfl ?_ ?_
  refine SC.seq ?_
  refine SC.seq ?_
  refine SC.region' ?_
  refine KT.pv 17 (.pointer x12.1) ?_
  refine KT.nm 18 (fun x18 => ?_)
  refine KT.pv 19 (.pointer (some (Addr.add x18 1))) ?_
  refine KT.l 20 (fun x20 => ?_)
  refine KT.ow rfl (OW.rangeMap (d := 21) _ _ 3 46 rfl rfl (by kernel_rfl) rfl rfl (fun x21 => ?_))
  refine KT.nil ?_
  refine SX.seq ?_
  refine SC.block ?_
  refine SC.loop (σ := Unit) (fun s1 => [(5, (.pointer x12.1)), (6, (.int .i64 x12.2)), (21, (.pointer (some x21)))]) (.cons rfl (.cons rfl (.cons rfl (.nil)))) (fun _ _ _ s1 => ?_)
  refine SC.seq ?_
  refine SC.region' ?_
  refine KT.ow rfl (OW.next (d := 22) _ rfl rfl rfl rfl (fun y22 => ?_))
  refine KT.opt (y := y22) 22 rfl ?_ (fun e22 => ?_)
  refine KT.pv 23 (.bool false) ?_
  refine KT.nil ?_
  refine SX.seq ?_
  refine SC.seq ?_
  refine SC.cond_false rfl ?_
  refine SC.exit ?_
  refine SX.then_exit ?_
  refine SX.loop_exit ?_
  refine SX.block_hit ?_
  refine SX.seq ?_
  refine SC.region' ?_
  refine KT.pv 34 (.pointer x12.1) ?_
  refine KT.nm 35 (fun x35 => ?_)
  refine KT.pv 36 (.pointer (some (Addr.add x35 1))) ?_
  refine KT.l 37 (fun x37 => ?_)
  refine KT.ow rfl (OW.clearMap0 _ _ 3 46 rfl rfl (by kernel_rfl) rfl ?_)
  refine KT.nil ?_
  refine SX.seq ?_
  refine SC.seq ?_
  refine SC.region' ?_
  refine KT.pv 38 (.int .i64 x12.2) ?_
  refine KT.pv 4 (.int .i64 x12.2) ?_
  refine KT.nil ?_
  refine SX.seq ?_
  refine SC.ret ?_
  refine SX.ret [.tmp 4] rfl ?_
  refine RS.tmp (.int .i64 x12.2) rfl ?_
  exact RS.nil rfl
  refine KT.pv 23 (.bool true) ?_
  refine KT.nil ?_
  refine SX.seq ?_
  refine SC.seq ?_
  refine SC.cond_true rfl ?_
  refine SC.skip ?_
  refine SX.seq ?_
  refine SC.block ?_
  refine SC.seq ?_
  refine SC.region' ?_
  refine KT.ow rfl (OW.entry (d := 24) (ek := (Value.int .i64)) (evv := vS) _ rfl rfl rfl rfl (fun x24 => ?_))
  refine KT.pv 25 (.int .i64 x24.1) ?_
  refine KT.pv 26 (.slice x24.2.base x24.2.len x24.2.cap) ?_
  refine KT.pv 7 (.int .i64 x24.1) ?_
  refine KT.pv 8 (.slice x24.2.base x24.2.len x24.2.cap) ?_
  refine KT.nil ?_
  refine SX.seq ?_
  refine SC.region' ?_
  refine KT.pv 27 (.pointer x12.1) ?_
  refine KT.nm 28 (fun x28 => ?_)
  refine KT.pv 29 (.pointer (some x28)) ?_
  refine KT.l 30 (fun x30 => ?_)
  refine KT.pv 31 (.int .i64 x24.1) ?_
  refine KT.pv 32 (.slice x24.2.base x24.2.len x24.2.cap) ?_
  refine KT.oy rfl (OY.idx (d := 33) (s := x30) (i := x24.1) (size := 1) (elem := 46) _ _ _ rfl rfl rfl (by kernel_rfl) (by kernel_rfl) rfl rfl (fun x33 => ?_))
  refine KT.s ?_
  refine KT.nil ?_
  refine SX.block ?_
  exact SX.loop_next (.cons rfl (.cons rfl (.cons rfl (.nil))))
  refine SC.skip ?_
  refine SX.seq ?_
  refine SC.seq ?_
  refine SC.region' ?_
  refine KT.pv 38 (.int .i64 x12.2) ?_
  refine KT.pv 4 (.int .i64 x12.2) ?_
  refine KT.nil ?_
  refine SX.seq ?_
  refine SC.ret ?_
  refine SX.ret [.tmp 4] rfl ?_
  refine RS.tmp (.int .i64 x12.2) rfl ?_
  exact RS.nil rfl
set_option maxRecDepth 100000 in
theorem bank_Bank_disk_sim (p0_b : (Option Addr)) (p1_slot : Int) (Qf : (Int × Bool) → World → Prop) (w : World) (hm : bank_Bank_disk p0_b p1_slot Qf w) : Calls Try.prog 72 #[(.pointer p0_b), (.int .i64 p1_slot)] w (RetPost (fun y : (Int × Bool) => (.tuple #[(.int .i64 y.1), (.bool y.2)])) Qf) := by
  refine calls_of (fn := Try.f72) (l := [(.pointer p0_b), (.int .i64 p1_slot)]) (m := bank_Bank_disk p0_b p1_slot) 38 (by kernel_rfl) rfl rfl rfl (fun Qf0 => ?_) Qf w hm
  clear hm w Qf
  unfold bank_Bank_disk
  refine SC.seq ?_
  refine SC.region' ?_
  refine KT.pv 4 (.int .i64 0) ?_
  refine KT.pv 5 (.bool false) ?_
  refine KT.nil ?_
  refine SX.seq ?_
  refine SC.seq ?_
  refine SC.seq ?_
  refine SC.region' ?_
  refine KT.pv 6 (.int .i64 p1_slot) ?_
  refine KT.pv 7 (.bool (decide (p1_slot < 0))) ?_
  refine KT.pv 8 (.bool (decide (p1_slot < 0))) ?_
  refine KT.joinO (β := Bool) 8 (fun r1 => [(16, (.bool r1)), (0, (.pointer p0_b)), (1, (.int .i64 p1_slot))]) (fun r1 => ?_) (fun j1 => ?_)
  refine KT.nil ?_
  refine SX.seq ?_
  refine SC.cond (b := r1) rfl ?_ ?_
  refine SC.seq ?_
  refine SC.region' ?_
  refine KT.pv 4 (.int .i64 0) ?_
  refine KT.pv 5 (.bool false) ?_
  refine KT.nil ?_
  refine SX.seq ?_
  refine SC.ret ?_
  refine SX.then_ret ?_
  refine SX.ret [.tmp 4, .tmp 5] rfl ?_
  refine RS.tmp (.int .i64 0) rfl ?_
  refine RS.tmp (.bool false) rfl ?_
  exact RS.nil rfl
  refine SC.skip ?_
  refine SX.seq ?_
  refine SC.seq ?_
  refine SC.seq ?_
  refine SC.region' ?_
  refine KT.pv 17 (.pointer p0_b) ?_
  refine KT.nm 18 (fun x18 => ?_)
  refine KT.pv 19 (.pointer (some (Addr.add x18 4))) ?_
  refine KT.pv 20 (.pointer (some (Addr.add (Addr.add x18 4) 2))) ?_
  refine KT.l 21 (fun x21 => ?_)
  refine KT.pv 22 (.bool (x21 != 0)) ?_
  refine KT.pv 23 (.bool (x21 != 0)) ?_
  refine KT.joinO (β := Bool) 8 (fun r2 => [(31, (.bool r2)), (0, (.pointer p0_b)), (1, (.int .i64 p1_slot))]) (fun r2 => ?_) (fun j2 => ?_)
  refine KT.nil ?_
  refine SX.seq ?_
  refine SC.cond (b := r2) rfl ?_ ?_
  refine SC.seq ?_
  refine SC.region' ?_
  refine KT.pv 32 (.pointer p0_b) ?_
  refine KT.nm 33 (fun x33 => ?_)
  refine KT.pv 34 (.pointer (some (Addr.add x33 1))) ?_
  refine KT.pv 35 (.pointer (some (Addr.add x33 1))) ?_
  refine KT.l 36 (fun x36 => ?_)
  refine KT.pv 4 (.int .i64 x36) ?_
  refine KT.pv 5 (.bool true) ?_
  refine KT.nil ?_
  refine SX.seq ?_
  refine SC.ret ?_
  refine SX.then_ret ?_
  refine SX.ret [.tmp 4, .tmp 5] rfl ?_
  refine RS.tmp (.int .i64 x36) rfl ?_
  refine RS.tmp (.bool true) rfl ?_
  exact RS.nil rfl
  refine SC.skip ?_
  refine SX.seq ?_
  refine SC.seq ?_
  refine SC.region' ?_
  refine KT.pv 37 (.int .i64 p1_slot) ?_
  refine KT.pv 4 (.int .i64 p1_slot) ?_
  refine KT.pv 5 (.bool true) ?_
  refine KT.nil ?_
  refine SX.seq ?_
  refine SC.ret ?_
  refine SX.ret [.tmp 4, .tmp 5] rfl ?_
  refine RS.tmp (.int .i64 p1_slot) rfl ?_
  refine RS.tmp (.bool true) rfl ?_
  exact RS.nil rfl
  refine KT.ite (b := x21 != 0) 23 rfl ?_ ?_
  refine KT.pv 24 (.pointer p0_b) ?_
  refine KT.nm 25 (fun x25 => ?_)
  refine KT.pv 26 (.pointer (some (Addr.add x25 4))) ?_
  refine KT.pv 27 (.pointer (some (Addr.add (Addr.add x25 4) 1))) ?_
  refine KT.l 28 (fun x28 => ?_)
  refine KT.pv 29 (.int .i64 p1_slot) ?_
  refine KT.pv 30 (.bool (x28 == p1_slot)) ?_
  refine KT.pv 31 (.bool (x28 == p1_slot)) ?_
  exact KT.leafO j2 (.cons rfl (.cons rfl (.cons rfl (.nil))))
  refine KT.sk ?_
  refine KT.sk ?_
  refine KT.sk ?_
  refine KT.sk ?_
  refine KT.sk ?_
  refine KT.sk ?_
  refine KT.sk ?_
  refine KT.pv 31 (.bool false) ?_
  exact KT.leafO j2 (.cons rfl (.cons rfl (.cons rfl (.nil))))
  refine KT.ite (b := decide (p1_slot < 0)) 8 rfl ?_ ?_
  refine KT.sk ?_
  refine KT.sk ?_
  refine KT.sk ?_
  refine KT.sk ?_
  refine KT.sk ?_
  refine KT.sk ?_
  refine KT.sk ?_
  refine KT.pv 16 (.bool true) ?_
  exact KT.leafO j1 (.cons rfl (.cons rfl (.cons rfl (.nil))))
  refine KT.pv 9 (.int .i64 p1_slot) ?_
  refine KT.pv 10 (.pointer p0_b) ?_
  refine KT.nm 11 (fun x11 => ?_)
  refine KT.pv 12 (.pointer (some (Addr.add x11 1))) ?_
  refine KT.pv 13 (.pointer (some (Addr.add x11 1))) ?_
  refine KT.l 14 (fun x14 => ?_)
  refine KT.pv 15 (.bool (decide (p1_slot ≥ x14))) ?_
  refine KT.pv 16 (.bool (decide (p1_slot ≥ x14))) ?_
  exact KT.leafO j1 (.cons rfl (.cons rfl (.cons rfl (.nil))))
set_option maxRecDepth 100000 in
theorem bank_Bank_disks_sim (p0_b : (Option Addr)) (p1_yield : Value) (Qf : Unit → World → Prop) (w : World) (hm : bank_Bank_disks (cvOf Try.prog) p0_b p1_yield Qf w) : Calls Try.prog 69 #[(.pointer p0_b), p1_yield] w (RetPost (fun y : Unit => (.tuple #[])) Qf) := by
  refine calls_of (fn := Try.f69) (l := [(.pointer p0_b), p1_yield]) (m := bank_Bank_disks (cvOf Try.prog) p0_b p1_yield) 39 (by kernel_rfl) rfl rfl rfl (fun Qf0 => ?_) Qf w hm
  clear hm w Qf
  unfold bank_Bank_disks
  refine SC.seq ?_
  refine SC.seq ?_
  refine SC.region' ?_
  refine KT.pv 7 (.pointer p0_b) ?_
  refine KT.nm 8 (fun x8 => ?_)
  refine KT.pv 9 (.pointer (some (Addr.add x8 1))) ?_
  refine KT.pv 10 (.pointer (some (Addr.add x8 1))) ?_
  refine KT.l 11 (fun x11 => ?_)
  refine KT.pv 12 (.int .i64 0) ?_
  refine KT.nil ?_
  refine SX.seq ?_
  refine SC.block ?_
  refine SC.loop (σ := (Int)) (fun s1 => [(0, (.pointer p0_b)), (1, p1_yield), (11, (.int .i64 x11)), (12, (.int .i64 s1))]) (.cons rfl (.cons rfl (.cons rfl (.cons rfl (.nil))))) (fun _ _ _ s1 => ?_)
  refine SC.seq ?_
  refine SC.region' ?_
  refine KT.pv 13 (.bool (decide (s1 < x11))) ?_
  refine KT.nil ?_
  refine SX.seq ?_
  refine SC.seq ?_
  refine SC.cond (b := decide (s1 < x11)) rfl ?_ ?_
  refine SC.skip ?_
  refine SX.seq ?_
  refine SC.seq ?_
  refine SC.block ?_
  refine SC.seq ?_
  refine SC.region' ?_
  refine KT.pv 14 (.int .i64 s1) ?_
  refine KT.pv 4 (.int .i64 s1) ?_
  refine KT.nil ?_
  refine SX.seq ?_
  refine SC.seq ?_
  refine SC.region' ?_
  refine KT.pv 16 (.pointer p0_b) ?_
  refine KT.pv 17 (.int .i64 s1) ?_
  refine KT.cl (fun y : (Int × Bool) => (.tuple #[(.int .i64 y.1), (.bool y.2)])) 18 72 #[(.pointer p0_b), (.int .i64 s1)] (bank_Bank_disk_sim p0_b s1) (fun x18 => ?_)
  refine KT.pv 15 (.tuple #[(.int .i64 x18.1), (.bool x18.2)]) ?_
  refine KT.pv 19 (.int .i64 x18.1) ?_
  refine KT.pv 20 (.bool x18.2) ?_
  refine KT.pv 5 (.int .i64 x18.1) ?_
  refine KT.pv 6 (.bool x18.2) ?_
  refine KT.nil ?_
  refine SX.seq ?_
  refine SC.seq ?_
  refine SC.region' ?_
  refine KT.pv 21 p1_yield ?_
  refine KT.pv 22 (.int .i64 x18.1) ?_
  refine KT.ow rfl (OW.callv (d := 23) (enc := Value.bool) (vs := [(.int .i64 x18.1)]) _ [.tmp 22] _ rfl rfl rfl rfl rfl (fun x23 => ?_))
  refine KT.pv 24 (.bool (!x23)) ?_
  refine KT.nil ?_
  refine SX.seq ?_
  refine SC.cond (b := !x23) rfl ?_ ?_
  refine SC.ret ?_
  refine SX.block_ret ?_
  refine SX.then_ret ?_
  refine SX.loop_ret ?_
  refine SX.block_ret ?_
  refine SX.then_ret ?_
  refine SX.ret [] rfl ?_
  exact RS.nil rfl
  refine SC.skip ?_
  refine SX.block ?_
  refine SX.seq ?_
  refine SC.region' ?_
  refine KT.pv 25 (.int .i64 (w64 (s1 + 1))) ?_
  refine KT.pv 12 (.int .i64 (w64 (s1 + 1))) ?_
  refine KT.nil ?_
  exact SX.loop_next (.cons rfl (.cons rfl (.cons rfl (.cons rfl (.nil)))))
  refine SC.exit ?_
  refine SX.then_exit ?_
  refine SX.loop_exit ?_
  refine SX.block_hit ?_
  refine SX.seq ?_
  refine SC.seq ?_
  refine SC.region' ?_
  refine KT.pv 26 (.pointer p0_b) ?_
  refine KT.nm 27 (fun x27 => ?_)
  refine KT.pv 28 (.pointer (some (Addr.add x27 4))) ?_
  refine KT.pv 29 (.pointer (some (Addr.add (Addr.add x27 4) 2))) ?_
  refine KT.l 30 (fun x30 => ?_)
  refine KT.pv 31 (.bool (x30 == 0)) ?_
  refine KT.nil ?_
  refine SX.seq ?_
  refine SC.cond (b := x30 == 0) rfl ?_ ?_
  refine SC.region' ?_
  refine KT.pv 32 p1_yield ?_
  refine KT.pv 33 (.pointer p0_b) ?_
  refine KT.nm 34 (fun x34 => ?_)
  refine KT.pv 35 (.pointer (some (Addr.add x34 1))) ?_
  refine KT.pv 36 (.pointer (some (Addr.add x34 1))) ?_
  refine KT.l 37 (fun x37 => ?_)
  refine KT.ow rfl (OW.callv (d := 38) (enc := Value.bool) (vs := [(.int .i64 x37)]) _ [.tmp 37] _ rfl rfl rfl rfl rfl (fun x38 => ?_))
  refine KT.nil ?_
  refine SX.endBody [] rfl ?_
  exact RS.nil rfl
  refine SC.skip ?_
  refine SX.endBody [] rfl ?_
  exact RS.nil rfl
set_option maxRecDepth 100000 in
theorem bank_Bank_Flush_sim (p0_b : (Option Addr)) (Qf : Int → World → Prop) (w : World) (hm : bank_Bank_Flush (cvOf Try.prog) p0_b Qf w) : Calls Try.prog 35 #[(.pointer p0_b)] w (RetPost (Value.int .i64) Qf) := by
  refine calls_of (fn := Try.f35) (l := [(.pointer p0_b)]) (m := bank_Bank_Flush (cvOf Try.prog) p0_b) 17 (by kernel_rfl) rfl rfl rfl (fun Qf0 => ?_) Qf w hm
  clear hm w Qf
  unfold bank_Bank_Flush
  refine SC.seq ?_
  refine SC.region' ?_
  refine KT.nw 1 (fun ad => .pointer (some ad)) 38 (fun x1 => ?_)
  refine KT.nw 2 (fun ad => .pointer (some ad)) 28 (fun x2 => ?_)
  refine KT.nil ?_
  refine SX.seq ?_
  refine SC.seq ?_
  refine SC.seq ?_
  refine SC.region' ?_
  refine KT.l 5 (fun x5 => ?_)
  refine KT.pv 6 (.func (.func fid_bank_Bank_disks) #[(.pointer x5)] #[]) ?_
  refine KT.nil ?_
  refine SX.seq ?_
  refine SC.block ?_
  refine SC.rangeF (ξ := (Int)) (τ := (Int)) (fv := (.func (.func fid_bank_Bank_disks) #[(.pointer x5)] #[])) (ps := [7]) (encX := (fun x_1 : (Int) => [(.int .i64 x_1)])) (fun t_1 => [(1, (.pointer (some x1))), (2, (.pointer (some x2))), (3, (.int .i64 t_1))]) rfl (fun _ => rfl) rfl (fun _ x_1 _ _ h1 => ?_) (fun _ _ _ t_1 => ?_) (fun D1 => ?_) (fun D1 => ?_) (fun D1 i1 => ?_)
  refine SC.region' ?_
  refine KT.pv 3 (.int .i64 x_1) ?_
  refine KT.nil ?_
  exact SX.leafP h1 (.cons rfl (.cons rfl (.cons rfl (.nil))))
  refine SC.block ?_
  refine SC.seq ?_
  refine SC.region' ?_
  refine KT.l 8 (fun x8 => ?_)
  refine KT.nm 9 (fun x9 => ?_)
  refine KT.pv 10 (.pointer (some x9)) ?_
  refine KT.l 11 (fun x11 => ?_)
  refine KT.pv 12 (.int .i64 t_1) ?_
  refine KT.cl (Value.int .i64) 13 42 #[(.pointer x11), (.int .i64 t_1)] (device_Rack_Flush_sim x11 t_1) (fun x13 => ?_)
  refine KT.pv 4 (.int .i64 x13) ?_
  refine KT.nil ?_
  refine SX.seq ?_
  refine SC.seq ?_
  refine SC.region' ?_
  refine KT.pv 14 (.int .i64 x13) ?_
  refine KT.pv 15 (.bool (x13 == 12)) ?_
  refine KT.nil ?_
  refine SX.seq ?_
  refine SC.cond (b := x13 == 12) rfl ?_ ?_
  refine SC.seq ?_
  refine SC.region' ?_
  refine KT.pv 16 (.int .i64 x13) ?_
  refine KT.s ?_
  refine KT.nil ?_
  refine SX.seq ?_
  refine SC.ret ?_
  refine SX.block_ret ?_
  exact SX.round_ret
  refine SC.skip ?_
  refine SX.block ?_
  exact SX.round_next
  refine SX.block ?_
  refine SX.seq ?_
  refine SC.seq ?_
  refine SC.region' ?_
  refine KT.s ?_
  refine KT.nil ?_
  refine SX.seq ?_
  refine SC.ret ?_
  refine SX.ret [.cell 2 28] rfl ?_
  refine RS.cell rfl (by kernel_rfl) (fun r2 => ?_)
  exact RS.nil rfl
  refine SX.block_ret ?_
  refine SX.then_ret ?_
  refine SX.ret [.cell 2 28] rfl ?_
  refine RS.cell rfl (by kernel_rfl) (fun r2 => ?_)
  exact RS.nil rfl
  exact SX.fail
set_option maxRecDepth 100000 in
theorem slices_AppendSeq_i_sim (p0_s : Slc) (p1_seq : Value) (Qf : Slc → World → Prop) (w : World) (hm : slices_AppendSeq_i (cvOf Try.prog) p0_s p1_seq Qf w) : Calls Try.prog 133 #[(.slice p0_s.base p0_s.len p0_s.cap), p1_seq] w (RetPost vS Qf) := by
  refine calls_of (fn := Try.f133) (l := [(.slice p0_s.base p0_s.len p0_s.cap), p1_seq]) (m := slices_AppendSeq_i (cvOf Try.prog) p0_s p1_seq) 13 (by kernel_rfl) rfl rfl rfl (fun Qf0 => ?_) Qf w hm
  clear hm w Qf
  unfold slices_AppendSeq_i
  refine SC.seq ?_
  refine SC.region' ?_
  refine KT.nw 2 (fun ad => .pointer (some ad)) 33 (fun x2 => ?_)
  refine KT.pv 4 (.slice none 0 0) ?_
  refine KT.nil ?_
  refine SX.seq ?_
  refine SC.seq ?_
  refine SC.seq ?_
  refine SC.region' ?_
  refine KT.pv 6 p1_seq ?_
  refine KT.nil ?_
  refine SX.seq ?_
  refine SC.block ?_
  refine SC.rangeF (ξ := (Int)) (τ := (Int)) (fv := p1_seq) (ps := [7]) (encX := (fun x_1 : (Int) => [(.int .i64 x_1)])) (fun t_1 => [(2, (.pointer (some x2))), (5, (.int .i64 t_1))]) rfl (fun _ => rfl) rfl (fun _ x_1 _ _ h1 => ?_) (fun _ _ _ t_1 => ?_) (fun D1 => ?_) (fun D1 => ?_) (fun D1 i1 => ?_)
  refine SC.region' ?_
  refine KT.pv 5 (.int .i64 x_1) ?_
  refine KT.nil ?_
  exact SX.leafP h1 (.cons rfl (.cons rfl (.nil)))
  refine SC.block ?_
  refine SC.region' ?_
  refine KT.l 8 (fun x8 => ?_)
  refine KT.pv 9 (.int .i64 t_1) ?_
  refine KT.nw 10 (fun ad => .slice (some ad) 1 1) 3 (fun x10 => ?_)
  refine KT.ow rfl (OW.append (d := 11) (s := x8) (x := ⟨some x10, 1, 1⟩) [(.int .i64 0)] 8 3 _ _ _ _ rfl rfl rfl rfl (by kernel_rfl) (by kernel_rfl) rfl rfl rfl (fun x11 => ?_))
  refine KT.s ?_
  refine KT.nil ?_
  refine SX.block ?_
  exact SX.round_next
  refine SX.block ?_
  refine SX.seq ?_
  refine SC.seq ?_
  refine SC.region' ?_
  refine KT.l 12 (fun x12 => ?_)
  refine KT.pv 4 (.slice x12.base x12.len x12.cap) ?_
  refine KT.nil ?_
  refine SX.seq ?_
  refine SC.ret ?_
  refine SX.ret [.tmp 4] rfl ?_
  refine RS.tmp (.slice x12.base x12.len x12.cap) rfl ?_
  exact RS.nil rfl
  exact SX.fail
  exact SX.fail
set_option maxRecDepth 100000 in
theorem slices_Collect_i_sim (p0_seq : Value) (Qf : Slc → World → Prop) (w : World) (hm : slices_Collect_i (cvOf Try.prog) p0_seq Qf w) : Calls Try.prog 114 #[p0_seq] w (RetPost vS Qf) := by
  refine calls_of (fn := Try.f114) (l := [p0_seq]) (m := slices_Collect_i (cvOf Try.prog) p0_seq) 5 (by kernel_rfl) rfl rfl rfl (fun Qf0 => ?_) Qf w hm
  clear hm w Qf
  unfold slices_Collect_i
  refine SC.seq ?_
  refine SC.region' ?_
  refine KT.pv 2 (.slice none 0 0) ?_
  refine KT.nil ?_
  refine SX.seq ?_
  refine SC.seq ?_
  refine SC.region' ?_
  refine KT.pv 3 p0_seq ?_
  refine KT.cl vS 4 133 #[(.slice none 0 0), p0_seq] (slices_AppendSeq_i_sim (⟨none, 0, 0⟩) p0_seq) (fun x4 => ?_)
  refine KT.pv 2 (.slice x4.base x4.len x4.cap) ?_
  refine KT.nil ?_
  refine SX.seq ?_
  refine SC.ret ?_
  refine SX.ret [.tmp 2] rfl ?_
  refine RS.tmp (.slice x4.base x4.len x4.cap) rfl ?_
  exact RS.nil rfl
set_option maxRecDepth 100000 in
theorem slices_Sorted_i_sim (p0_seq : Value) (Qf : Slc → World → Prop) (w : World) (hm : slices_Sorted_i (cvOf Try.prog) p0_seq Qf w) : Calls Try.prog 74 #[p0_seq] w (RetPost vS Qf) := by
  refine calls_of (fn := Try.f74) (l := [p0_seq]) (m := slices_Sorted_i (cvOf Try.prog) p0_seq) 9 (by kernel_rfl) rfl rfl rfl (fun Qf0 => ?_) Qf w hm
  clear hm w Qf
  unfold slices_Sorted_i
  refine SC.seq ?_
  refine SC.region' ?_
  refine KT.pv 2 (.slice none 0 0) ?_
  refine KT.nil ?_
  refine SX.seq ?_
  refine SC.seq ?_
  refine SC.region' ?_
  refine KT.pv 4 p0_seq ?_
  refine KT.cl vS 5 114 #[p0_seq] (slices_Collect_i_sim p0_seq) (fun x5 => ?_)
  refine KT.pv 3 (.slice x5.base x5.len x5.cap) ?_
  refine KT.nil ?_
  refine SX.seq ?_
  refine SC.seq ?_
  refine SC.region' ?_
  refine KT.pv 6 (.slice x5.base x5.len x5.cap) ?_
  refine KT.cl (fun y : Unit => (.tuple #[])) 7 115 #[(.slice x5.base x5.len x5.cap)] (slices_Sort_i_sim x5) (fun x7 => ?_)
  refine KT.nil ?_
  refine SX.seq ?_
  refine SC.seq ?_
  refine SC.region' ?_
  refine KT.pv 8 (.slice x5.base x5.len x5.cap) ?_
  refine KT.pv 2 (.slice x5.base x5.len x5.cap) ?_
  refine KT.nil ?_
  refine SX.seq ?_
  refine SC.ret ?_
  refine SX.ret [.tmp 2] rfl ?_
  refine RS.tmp (.slice x5.base x5.len x5.cap) rfl ?_
  exact RS.nil rfl
set_option maxRecDepth 100000 in
theorem maps_Keys_m_c1_sim (p0_yield : Value) (p1_a : Addr) (Qf : Unit → World → Prop) (w : World) (hm : maps_Keys_m_c1 (cvOf Try.prog) p0_yield p1_a Qf w) : Calls Try.prog 116 #[p0_yield, (.pointer (some p1_a))] w (RetPost (fun y : Unit => (.tuple #[])) Qf) := by
  refine calls_of (fn := Try.f116) (l := [p0_yield, (.pointer (some p1_a))]) (m := maps_Keys_m_c1 (cvOf Try.prog) p0_yield p1_a) 14 (by kernel_rfl) rfl rfl rfl (fun Qf0 => ?_) Qf w hm
  clear hm w Qf
  unfold maps_Keys_m_c1
  refine SC.seq ?_
  refine SC.region' ?_
  refine KT.l 4 (fun x4 => ?_)
  refine KT.ow rfl (OW.rangeMap (d := 5) _ _ 3 46 rfl rfl (by kernel_rfl) rfl rfl (fun x5 => ?_))
  refine KT.nil ?_
  refine SX.seq ?_
  refine SC.block ?_
  refine SC.loop (σ := Unit) (fun s1 => [(0, p0_yield), (5, (.pointer (some x5)))]) (.cons rfl (.cons rfl (.nil))) (fun _ _ _ s1 => ?_)
  refine SC.seq ?_
  refine SC.region' ?_
  refine KT.ow rfl (OW.next (d := 6) _ rfl rfl rfl rfl (fun y6 => ?_))
  refine KT.opt (y := y6) 6 rfl ?_ (fun e6 => ?_)
  refine KT.pv 7 (.bool false) ?_
  refine KT.nil ?_
  refine SX.seq ?_
  refine SC.seq ?_
  refine SC.cond_false rfl ?_
  refine SC.exit ?_
  refine SX.then_exit ?_
  refine SX.loop_exit ?_
  refine SX.block_hit ?_
  refine SX.endBody [] rfl ?_
  exact RS.nil rfl
  refine KT.pv 7 (.bool true) ?_
  refine KT.nil ?_
  refine SX.seq ?_
  refine SC.seq ?_
  refine SC.cond_true rfl ?_
  refine SC.skip ?_
  refine SX.seq ?_
  refine SC.block ?_
  refine SC.seq ?_
  refine SC.region' ?_
  refine KT.ow rfl (OW.entry (d := 8) (ek := (Value.int .i64)) (evv := vS) _ rfl rfl rfl rfl (fun x8 => ?_))
  refine KT.pv 9 (.int .i64 x8.1) ?_
  refine KT.pv 3 (.int .i64 x8.1) ?_
  refine KT.nil ?_
  refine SX.seq ?_
  refine SC.seq ?_
  refine SC.region' ?_
  refine KT.pv 10 p0_yield ?_
  refine KT.pv 11 (.int .i64 x8.1) ?_
  refine KT.ow rfl (OW.callv (d := 12) (enc := Value.bool) (vs := [(.int .i64 x8.1)]) _ [.tmp 11] _ rfl rfl rfl rfl rfl (fun x12 => ?_))
  refine KT.pv 13 (.bool (!x12)) ?_
  refine KT.nil ?_
  refine SX.seq ?_
  refine SC.cond (b := !x12) rfl ?_ ?_
  refine SC.ret ?_
  refine SX.block_ret ?_
  refine SX.loop_ret ?_
  refine SX.block_ret ?_
  refine SX.ret [] rfl ?_
  exact RS.nil rfl
  refine SC.skip ?_
  refine SX.block ?_
  exact SX.loop_next (.cons rfl (.cons rfl (.nil)))
set_option maxRecDepth 100000 in
theorem maps_Keys_m_sim (p0_m : (Option Nat)) (Qf : Value → World → Prop) (w : World) (hm : maps_Keys_m p0_m Qf w) : Calls Try.prog 75 #[(.map p0_m)] w (RetPost (fun v : Value => v) Qf) := by
  refine calls_of (fn := Try.f75) (l := [(.map p0_m)]) (m := maps_Keys_m p0_m) 4 (by kernel_rfl) rfl rfl rfl (fun Qf0 => ?_) Qf w hm
  clear hm w Qf
  unfold maps_Keys_m
  refine SC.seq ?_
  refine SC.region' ?_
  refine KT.nw 1 (fun ad => .pointer (some ad)) 112 (fun x1 => ?_)
  refine KT.pv 2 Value.nilFunc ?_
  refine KT.nil ?_
  refine SX.seq ?_
  refine SC.seq ?_
  refine SC.region' ?_
  refine KT.pv 3 (.func (.func fid_maps_Keys_m_c1) #[] #[(.pointer (some x1))]) ?_
  refine KT.pv 2 (.func (.func fid_maps_Keys_m_c1) #[] #[(.pointer (some x1))]) ?_
  refine KT.nil ?_
  refine SX.seq ?_
  refine SC.ret ?_
  refine SX.ret [.tmp 2] rfl ?_
  refine RS.tmp (.func (.func fid_maps_Keys_m_c1) #[] #[(.pointer (some x1))]) rfl ?_
  exact RS.nil rfl
set_option maxRecDepth 100000 in
theorem device_Rack_Restore_sim (p0_r : (Option Addr)) (p1_keeps : Slc) (Qf : Unit → World → Prop) (w : World) (hm : device_Rack_Restore (cvOf Try.prog) p0_r p1_keeps Qf w) : Calls Try.prog 40 #[(.pointer p0_r), (.slice p1_keeps.base p1_keeps.len p1_keeps.cap)] w (RetPost (fun y : Unit => (.tuple #[])) Qf) := by
  refine calls_of (fn := Try.f40) (l := [(.pointer p0_r), (.slice p1_keeps.base p1_keeps.len p1_keeps.cap)]) (m := device_Rack_Restore (cvOf Try.prog) p0_r p1_keeps) 76 (by kernel_rfl) rfl rfl rfl (fun Qf0 => ?_) Qf w hm
  clear hm w Qf
  unfold device_Rack_Restore
  refine SC.seq ?_
  refine SC.region' ?_
  refine KT.pv 9 (.pointer p0_r) ?_
  refine KT.pv 10 (.pointer p0_r) ?_
  refine KT.nm 11 (fun x11 => ?_)
  refine KT.pv 12 (.pointer (some (Addr.add x11 3))) ?_
  refine KT.s ?_
  refine KT.nm 13 (fun x13 => ?_)
  refine KT.pv 14 (.pointer (some (Addr.add x13 2))) ?_
  refine KT.s ?_
  refine KT.nil ?_
  refine SX.seq ?_
  refine SC.seq ?_
  refine SC.region' ?_
  refine KT.pv 4 (.int .i64 0) ?_
  refine KT.nil ?_
  refine SX.seq ?_
  refine SC.seq ?_
  refine SC.region' ?_
  refine KT.pv 15 (.pointer p0_r) ?_
  refine KT.nm 16 (fun x16 => ?_)
  refine KT.pv 17 (.pointer (some x16)) ?_
  refine KT.l 18 (fun x18 => ?_)
  refine KT.pv 19 (.int .i64 ((x18.len : Nat) : Int)) ?_
  refine KT.pv 20 (.int .i64 0) ?_
  refine KT.nil ?_
  refine SX.seq ?_
  refine SC.block ?_
  refine SC.loop (σ := (Int × Int)) (fun s1 => [(1, (.slice p1_keeps.base p1_keeps.len p1_keeps.cap)), (4, (.int .i64 s1.1)), (18, (.slice x18.base x18.len x18.cap)), (19, (.int .i64 ((x18.len : Nat) : Int))), (20, (.int .i64 s1.2))]) (.cons rfl (.cons rfl (.cons rfl (.cons rfl (.cons rfl (.nil)))))) (fun _ _ _ s1 => ?_)
  refine SC.seq ?_
  refine SC.region' ?_
  refine KT.pv 21 (.bool (decide (s1.2 < ((x18.len : Nat) : Int)))) ?_
  refine KT.nil ?_
  refine SX.seq ?_
  refine SC.seq ?_
  refine SC.cond (b := decide (s1.2 < ((x18.len : Nat) : Int))) rfl ?_ ?_
  refine SC.skip ?_
  refine SX.seq ?_
  refine SC.seq ?_
  refine SC.block ?_
  refine SC.seq ?_
  refine SC.region' ?_
  refine KT.oy rfl (OY.idx (d := 22) (s := x18) (i := s1.2) (size := 1) (elem := 111) _ _ _ rfl rfl rfl (by kernel_rfl) (by kernel_rfl) rfl rfl (fun x22 => ?_))
  refine KT.l 23 (fun x23 => ?_)
  refine KT.pv 6 (.pointer x23) ?_
  refine KT.nil ?_
  refine SX.seq ?_
  refine SC.seq ?_
  refine SC.seq ?_
  refine SC.region' ?_
  refine KT.pv 24 (.pointer x23) ?_
  refine KT.nm 25 (fun x25 => ?_)
  refine KT.pv 26 (.pointer (some (Addr.add x25 1))) ?_
  refine KT.l 27 (fun x27 => ?_)
  refine KT.cl (fun v : Value => v) 28 75 #[(.map x27)] (maps_Keys_m_sim x27) (fun x28 => ?_)
  refine KT.cl vS 29 74 #[x28] (slices_Sorted_i_sim x28) (fun x29 => ?_)
  refine KT.pv 30 (.int .i64 ((x29.len : Nat) : Int)) ?_
  refine KT.pv 31 (.int .i64 0) ?_
  refine KT.nil ?_
  refine SX.seq ?_
  refine SC.block ?_
  refine SC.loop (σ := (Int × Int)) (fun s2 => [(1, (.slice p1_keeps.base p1_keeps.len p1_keeps.cap)), (4, (.int .i64 s2.1)), (6, (.pointer x23)), (18, (.slice x18.base x18.len x18.cap)), (19, (.int .i64 ((x18.len : Nat) : Int))), (20, (.int .i64 s1.2)), (29, (.slice x29.base x29.len x29.cap)), (30, (.int .i64 ((x29.len : Nat) : Int))), (31, (.int .i64 s2.2))]) (.cons rfl (.cons rfl (.cons rfl (.cons rfl (.cons rfl (.cons rfl (.cons rfl (.cons rfl (.cons rfl (.nil)))))))))) (fun _ _ _ s2 => ?_)
  refine SC.seq ?_
  refine SC.region' ?_
  refine KT.pv 32 (.bool (decide (s2.2 < ((x29.len : Nat) : Int)))) ?_
  refine KT.nil ?_
  refine SX.seq ?_
  refine SC.seq ?_
  refine SC.cond (b := decide (s2.2 < ((x29.len : Nat) : Int))) rfl ?_ ?_
  refine SC.skip ?_
  refine SX.seq ?_
  refine SC.seq ?_
  refine SC.block ?_
  refine SC.seq ?_
  refine SC.region' ?_
  refine KT.oy rfl (OY.idx (d := 33) (s := x29) (i := s2.2) (size := 1) (elem := 3) _ _ _ rfl rfl rfl (by kernel_rfl) (by kernel_rfl) rfl rfl (fun x33 => ?_))
  refine KT.l 34 (fun x34 => ?_)
  refine KT.pv 8 (.int .i64 x34) ?_
  refine KT.nil ?_
  refine SX.seq ?_
  refine SC.seq ?_
  refine SC.seq ?_
  refine SC.region' ?_
  refine KT.pv 35 (.slice p1_keeps.base p1_keeps.len p1_keeps.cap) ?_
  refine KT.pv 36 (.int .i64 ((p1_keeps.len : Nat) : Int)) ?_
  refine KT.pv 37 (.bool (decide (((p1_keeps.len : Nat) : Int) > 0))) ?_
  refine KT.pv 38 (.bool (decide (((p1_keeps.len : Nat) : Int) > 0))) ?_
  refine KT.joinO (β := Bool) 10 (fun r3 => [(48, (.bool r3)), (1, (.slice p1_keeps.base p1_keeps.len p1_keeps.cap)), (4, (.int .i64 s2.1)), (6, (.pointer x23)), (8, (.int .i64 x34)), (18, (.slice x18.base x18.len x18.cap)), (19, (.int .i64 ((x18.len : Nat) : Int))), (20, (.int .i64 s1.2)), (29, (.slice x29.base x29.len x29.cap)), (30, (.int .i64 ((x29.len : Nat) : Int))), (31, (.int .i64 s2.2))]) (fun r3 => ?_) (fun j3 => ?_)
  refine KT.pv 49 (.bool r3) ?_
  refine KT.joinO (β := Bool) 6 (fun r4 => [(55, (.bool r4)), (1, (.slice p1_keeps.base p1_keeps.len p1_keeps.cap)), (4, (.int .i64 s2.1)), (6, (.pointer x23)), (8, (.int .i64 x34)), (18, (.slice x18.base x18.len x18.cap)), (19, (.int .i64 ((x18.len : Nat) : Int))), (20, (.int .i64 s1.2)), (29, (.slice x29.base x29.len x29.cap)), (30, (.int .i64 ((x29.len : Nat) : Int))), (31, (.int .i64 s2.2))]) (fun r4 => ?_) (fun j4 => ?_)
  refine KT.nil ?_
  refine SX.seq ?_
  refine SC.cond (b := r4) rfl ?_ ?_
  refine SC.draw 13 (fun f => Nat.beq f 12) rfl (by kernel_rfl) (fun S5 => ?_)
  refine KT.pvA 0 56 (.pointer x23) ?_
  refine KT.tp 1 (OY.nil (d := 57) (p := x23) _ rfl rfl rfl rfl (fun x57 => ?_))
  refine KT.pvA 2 58 (.pointer (some x57)) ?_
  refine KT.tk 3 (OY.ldI (d := 59) _ _ rfl rfl (by kernel_rfl) rfl rfl (fun x59 => ?_))
  refine KT.pvA 4 60 (.int .i64 x34) ?_
  refine KT.pvA 5 61 (.pointer x23) ?_
  refine KT.tp 6 (OY.nil (d := 62) (p := x23) _ rfl rfl rfl rfl (fun x62 => ?_))
  refine KT.pvA 7 63 (.pointer (some (Addr.add x62 1))) ?_
  refine KT.tk 8 (OY.ldI (d := 64) _ _ rfl rfl (by kernel_rfl) rfl rfl (fun x64 => ?_))
  refine KT.pvA 9 65 (.int .i64 x34) ?_
  refine KT.one 10 rfl (by kernel_rfl) rfl (OW.step (OW.look (d := 66) (enc := vS) (⟨none, 0, 0⟩) 3 46 .i64 _ _ _ rfl rfl rfl (by kernel_rfl) (by kernel_rfl) (by kernel_rfl) rfl rfl (fun x66 => ?_)))
  refine KT.and ?_
  refine KT.tp 11 (OY.idx (d := 67) (s := x59) (i := x34) (size := 1) (elem := 46) _ _ _ rfl rfl rfl (by kernel_rfl) (by kernel_rfl) rfl rfl (fun x67 => ?_))
  refine KT.last 12 rfl (by kernel_rfl) rfl rfl (OW.st _ _ _ rfl rfl rfl rfl (by kernel_rfl) rfl ?_)
  refine KT.doneN (by kernel_rfl) ?_
  refine SX.seq ?_
  refine SC.region' ?_
  refine KT.pv 68 (.int .i64 s2.1) ?_
  refine KT.pv 69 (.int .i64 (w64 (s2.1 + 1))) ?_
  refine KT.pv 4 (.int .i64 (w64 (s2.1 + 1))) ?_
  refine KT.nil ?_
  refine SX.block ?_
  refine SX.seq ?_
  refine SC.region' ?_
  refine KT.pv 70 (.int .i64 (w64 (s2.2 + 1))) ?_
  refine KT.pv 31 (.int .i64 (w64 (s2.2 + 1))) ?_
  refine KT.nil ?_
  exact SX.loop_next (.cons rfl (.cons rfl (.cons rfl (.cons rfl (.cons rfl (.cons rfl (.cons rfl (.cons rfl (.cons rfl (.nil))))))))))
  refine SC.skip ?_
  refine SX.seq ?_
  refine SC.region' ?_
  refine KT.pv 68 (.int .i64 s2.1) ?_
  refine KT.pv 69 (.int .i64 (w64 (s2.1 + 1))) ?_
  refine KT.pv 4 (.int .i64 (w64 (s2.1 + 1))) ?_
  refine KT.nil ?_
  refine SX.block ?_
  refine SX.seq ?_
  refine SC.region' ?_
  refine KT.pv 70 (.int .i64 (w64 (s2.2 + 1))) ?_
  refine KT.pv 31 (.int .i64 (w64 (s2.2 + 1))) ?_
  refine KT.nil ?_
  exact SX.loop_next (.cons rfl (.cons rfl (.cons rfl (.cons rfl (.cons rfl (.cons rfl (.cons rfl (.cons rfl (.cons rfl (.nil))))))))))
  refine KT.ite (b := r3) 49 rfl ?_ ?_
  refine KT.pv 50 (.pointer x23) ?_
  refine KT.nm 51 (fun x51 => ?_)
  refine KT.pv 52 (.pointer (some (Addr.add x51 2))) ?_
  refine KT.l 53 (fun x53 => ?_)
  refine KT.pv 54 (.bool (!x53)) ?_
  refine KT.pv 55 (.bool (!x53)) ?_
  exact KT.leafO j4 (.cons rfl (.cons rfl (.cons rfl (.cons rfl (.cons rfl (.cons rfl (.cons rfl (.cons rfl (.cons rfl (.cons rfl (.cons rfl (.nil))))))))))))
  refine KT.sk ?_
  refine KT.sk ?_
  refine KT.sk ?_
  refine KT.sk ?_
  refine KT.sk ?_
  refine KT.pv 55 (.bool false) ?_
  exact KT.leafO j4 (.cons rfl (.cons rfl (.cons rfl (.cons rfl (.cons rfl (.cons rfl (.cons rfl (.cons rfl (.cons rfl (.cons rfl (.cons rfl (.nil))))))))))))
  refine KT.ite (b := decide (((p1_keeps.len : Nat) : Int) > 0)) 38 rfl ?_ ?_
  refine KT.pv 39 (.slice p1_keeps.base p1_keeps.len p1_keeps.cap) ?_
  refine KT.pv 40 (.int .i64 s2.1) ?_
  refine KT.pv 41 (.slice p1_keeps.base p1_keeps.len p1_keeps.cap) ?_
  refine KT.pv 42 (.int .i64 ((p1_keeps.len : Nat) : Int)) ?_
  refine KT.oy rfl (OY.rem (d := 43) (x := s2.1) (y := ((p1_keeps.len : Nat) : Int)) _ _ _ _ (Int.tmod s2.1 ((p1_keeps.len : Nat) : Int)) rfl rfl rfl rfl rfl rfl ?_)
  refine KT.oy rfl (OY.idx (d := 44) (s := p1_keeps) (i := Int.tmod s2.1 ((p1_keeps.len : Nat) : Int)) (size := 1) (elem := 3) _ _ _ rfl rfl rfl (by kernel_rfl) (by kernel_rfl) rfl rfl (fun x44 => ?_))
  refine KT.l 45 (fun x45 => ?_)
  refine KT.pv 46 (.int .i64 (bAnd .i64 x45 1)) ?_
  refine KT.pv 47 (.bool ((bAnd .i64 x45 1) == 1)) ?_
  refine KT.pv 48 (.bool ((bAnd .i64 x45 1) == 1)) ?_
  exact KT.leafO j3 (.cons rfl (.cons rfl (.cons rfl (.cons rfl (.cons rfl (.cons rfl (.cons rfl (.cons rfl (.cons rfl (.cons rfl (.cons rfl (.nil))))))))))))
  refine KT.sk ?_
  refine KT.sk ?_
  refine KT.sk ?_
  refine KT.sk ?_
  refine KT.sk ?_
  refine KT.sk ?_
  refine KT.sk ?_
  refine KT.sk ?_
  refine KT.sk ?_
  refine KT.pv 48 (.bool false) ?_
  exact KT.leafO j3 (.cons rfl (.cons rfl (.cons rfl (.cons rfl (.cons rfl (.cons rfl (.cons rfl (.cons rfl (.cons rfl (.cons rfl (.cons rfl (.nil))))))))))))
  refine SC.exit ?_
  refine SX.then_exit ?_
  refine SX.loop_exit ?_
  refine SX.block_hit ?_
  refine SX.seq ?_
  refine SC.region' ?_
  refine KT.pv 71 (.pointer x23) ?_
  refine KT.nm 72 (fun x72 => ?_)
  refine KT.pv 73 (.pointer (some (Addr.add x72 1))) ?_
  refine KT.l 74 (fun x74 => ?_)
  refine KT.ow rfl (OW.clearMap0 _ _ 3 46 rfl rfl (by kernel_rfl) rfl ?_)
  refine KT.nil ?_
  refine SX.block ?_
  refine SX.seq ?_
  refine SC.region' ?_
  refine KT.pv 75 (.int .i64 (w64 (s1.2 + 1))) ?_
  refine KT.pv 20 (.int .i64 (w64 (s1.2 + 1))) ?_
  refine KT.nil ?_
  exact SX.loop_next (.cons rfl (.cons rfl (.cons rfl (.cons rfl (.cons rfl (.nil))))))
  refine SC.exit ?_
  refine SX.then_exit ?_
  refine SX.loop_exit ?_
  refine SX.block_hit ?_
  refine SX.endBody [] rfl ?_
  exact RS.nil rfl
set_option maxRecDepth 100000 in
theorem slices_Clone_b_sim (p0_s : Slc) (Qf : Slc → World → Prop) (w : World) (hm : slices_Clone_b p0_s Qf w) : Calls Try.prog 71 #[(.slice p0_s.base p0_s.len p0_s.cap)] w (RetPost vS Qf) := by
  refine calls_of (fn := Try.f71) (l := [(.slice p0_s.base p0_s.len p0_s.cap)]) (m := slices_Clone_b p0_s) 8 (by kernel_rfl) rfl rfl rfl (fun Qf0 => ?_) Qf w hm
  clear hm w Qf
  unfold slices_Clone_b
  refine SC.seq ?_
  refine SC.region' ?_
  refine KT.pv 2 (.slice none 0 0) ?_
  refine KT.nil ?_
  refine SX.seq ?_
  refine SC.seq ?_
  refine SC.seq ?_
  refine SC.region' ?_
  refine KT.pv 3 (.slice p0_s.base p0_s.len p0_s.cap) ?_
  refine KT.oy rfl (OY.eqlSl (d := 4) (s := p0_s) _ _ _ _ 5 rfl rfl rfl (by kernel_rfl) rfl rfl ?_)
  refine KT.nil ?_
  refine SX.seq ?_
  refine SC.cond (b := p0_s.base.isNone) rfl ?_ ?_
  refine SC.seq ?_
  refine SC.region' ?_
  refine KT.pv 2 (.slice none 0 0) ?_
  refine KT.nil ?_
  refine SX.seq ?_
  refine SC.ret ?_
  refine SX.then_ret ?_
  refine SX.ret [.tmp 2] rfl ?_
  refine RS.tmp (.slice none 0 0) rfl ?_
  exact RS.nil rfl
  refine SC.skip ?_
  refine SX.seq ?_
  refine SC.seq ?_
  refine SC.region' ?_
  refine KT.nw 5 (fun ad => .slice (some ad) 0 0) 5 (fun x5 => ?_)
  refine KT.pv 6 (.slice p0_s.base p0_s.len p0_s.cap) ?_
  refine KT.ow rfl (OW.append (d := 7) (s := ⟨some x5, 0, 0⟩) (x := p0_s) [(.int .u8 0)] 1 5 _ _ _ _ rfl rfl rfl rfl (by kernel_rfl) (by kernel_rfl) rfl rfl rfl (fun x7 => ?_))
  refine KT.pv 2 (.slice x7.base x7.len x7.cap) ?_
  refine KT.nil ?_
  refine SX.seq ?_
  refine SC.ret ?_
  refine SX.ret [.tmp 2] rfl ?_
  refine RS.tmp (.slice x7.base x7.len x7.cap) rfl ?_
  exact RS.nil rfl
set_option maxRecDepth 100000 in
theorem device_Rack_Lasting_sim (p0_r : (Option Addr)) (p1_disk : Int) (p2_sector : Int) (Qf : (Slc × Int) → World → Prop) (w : World) (hm : device_Rack_Lasting p0_r p1_disk p2_sector Qf w) : Calls Try.prog 41 #[(.pointer p0_r), (.int .i64 p1_disk), (.int .i64 p2_sector)] w (RetPost (fun y : (Slc × Int) => (.tuple #[(.slice y.1.base y.1.len y.1.cap), (.int .i64 y.2)])) Qf) := by
  refine calls_of (fn := Try.f41) (l := [(.pointer p0_r), (.int .i64 p1_disk), (.int .i64 p2_sector)]) (m := device_Rack_Lasting p0_r p1_disk p2_sector) 45 (by kernel_rfl) rfl rfl rfl (fun Qf0 => ?_) Qf w hm
  clear hm w Qf
  unfold device_Rack_Lasting
  refine SC.seq ?_
  refine SC.region' ?_
  refine KT.pv 6 (.slice none 0 0) ?_
  refine KT.pv 7 (.int .i64 0) ?_
  refine KT.nil ?_
  refine SX.seq ?_
  refine SC.seq ?_
  refine SC.seq ?_
  refine SC.region' ?_
  refine KT.pv 8 (.int .i64 p1_disk) ?_
  refine KT.pv 9 (.bool (decide (p1_disk < 0))) ?_
  refine KT.pv 10 (.bool (decide (p1_disk < 0))) ?_
  refine KT.joinO (β := Bool) 8 (fun r1 => [(18, (.bool r1)), (0, (.pointer p0_r)), (1, (.int .i64 p1_disk)), (2, (.int .i64 p2_sector))]) (fun r1 => ?_) (fun j1 => ?_)
  refine KT.pv 19 (.bool r1) ?_
  refine KT.joinO (β := Bool) 3 (fun r2 => [(22, (.bool r2)), (0, (.pointer p0_r)), (1, (.int .i64 p1_disk)), (2, (.int .i64 p2_sector))]) (fun r2 => ?_) (fun j2 => ?_)
  refine KT.pv 23 (.bool r2) ?_
  refine KT.joinO (β := Bool) 7 (fun r3 => [(30, (.bool r3)), (0, (.pointer p0_r)), (1, (.int .i64 p1_disk)), (2, (.int .i64 p2_sector))]) (fun r3 => ?_) (fun j3 => ?_)
  refine KT.nil ?_
  refine SX.seq ?_
  refine SC.cond (b := r3) rfl ?_ ?_
  refine SC.seq ?_
  refine SC.region' ?_
  refine KT.pv 6 (.slice none 0 0) ?_
  refine KT.pv 7 (.int .i64 11) ?_
  refine KT.nil ?_
  refine SX.seq ?_
  refine SC.ret ?_
  refine SX.then_ret ?_
  refine SX.ret [.tmp 6, .tmp 7] rfl ?_
  refine RS.tmp (.slice none 0 0) rfl ?_
  refine RS.tmp (.int .i64 11) rfl ?_
  exact RS.nil rfl
  refine SC.skip ?_
  refine SX.seq ?_
  refine SC.seq ?_
  refine SC.region' ?_
  refine KT.pv 31 (.pointer p0_r) ?_
  refine KT.nm 32 (fun x32 => ?_)
  refine KT.pv 33 (.pointer (some x32)) ?_
  refine KT.l 34 (fun x34 => ?_)
  refine KT.pv 35 (.int .i64 p1_disk) ?_
  refine KT.oy rfl (OY.idx (d := 36) (s := x34) (i := p1_disk) (size := 1) (elem := 111) _ _ _ rfl rfl rfl (by kernel_rfl) (by kernel_rfl) rfl rfl (fun x36 => ?_))
  refine KT.l 37 (fun x37 => ?_)
  refine KT.nm 38 (fun x38 => ?_)
  refine KT.pv 39 (.pointer (some x38)) ?_
  refine KT.l 40 (fun x40 => ?_)
  refine KT.pv 41 (.int .i64 p2_sector) ?_
  refine KT.oy rfl (OY.idx (d := 42) (s := x40) (i := p2_sector) (size := 1) (elem := 46) _ _ _ rfl rfl rfl (by kernel_rfl) (by kernel_rfl) rfl rfl (fun x42 => ?_))
  refine KT.l 43 (fun x43 => ?_)
  refine KT.cl vS 44 71 #[(.slice x43.base x43.len x43.cap)] (slices_Clone_b_sim x43) (fun x44 => ?_)
  refine KT.pv 6 (.slice x44.base x44.len x44.cap) ?_
  refine KT.pv 7 (.int .i64 0) ?_
  refine KT.nil ?_
  refine SX.seq ?_
  refine SC.ret ?_
  refine SX.ret [.tmp 6, .tmp 7] rfl ?_
  refine RS.tmp (.slice x44.base x44.len x44.cap) rfl ?_
  refine RS.tmp (.int .i64 0) rfl ?_
  exact RS.nil rfl
  refine KT.ite (b := r2) 23 rfl ?_ ?_
  refine KT.sk ?_
  refine KT.sk ?_
  refine KT.sk ?_
  refine KT.sk ?_
  refine KT.sk ?_
  refine KT.sk ?_
  refine KT.pv 30 (.bool true) ?_
  exact KT.leafO j3 (.cons rfl (.cons rfl (.cons rfl (.cons rfl (.nil)))))
  refine KT.pv 24 (.int .i64 p2_sector) ?_
  refine KT.pv 25 (.pointer p0_r) ?_
  refine KT.nm 26 (fun x26 => ?_)
  refine KT.pv 27 (.pointer (some (Addr.add x26 1))) ?_
  refine KT.l 28 (fun x28 => ?_)
  refine KT.pv 29 (.bool (decide (p2_sector ≥ x28))) ?_
  refine KT.pv 30 (.bool (decide (p2_sector ≥ x28))) ?_
  exact KT.leafO j3 (.cons rfl (.cons rfl (.cons rfl (.cons rfl (.nil)))))
  refine KT.ite (b := r1) 19 rfl ?_ ?_
  refine KT.sk ?_
  refine KT.sk ?_
  refine KT.pv 22 (.bool true) ?_
  exact KT.leafO j2 (.cons rfl (.cons rfl (.cons rfl (.cons rfl (.nil)))))
  refine KT.pv 20 (.int .i64 p2_sector) ?_
  refine KT.pv 21 (.bool (decide (p2_sector < 0))) ?_
  refine KT.pv 22 (.bool (decide (p2_sector < 0))) ?_
  exact KT.leafO j2 (.cons rfl (.cons rfl (.cons rfl (.cons rfl (.nil)))))
  refine KT.ite (b := decide (p1_disk < 0)) 10 rfl ?_ ?_
  refine KT.sk ?_
  refine KT.sk ?_
  refine KT.sk ?_
  refine KT.sk ?_
  refine KT.sk ?_
  refine KT.sk ?_
  refine KT.sk ?_
  refine KT.pv 18 (.bool true) ?_
  exact KT.leafO j1 (.cons rfl (.cons rfl (.cons rfl (.cons rfl (.nil)))))
  refine KT.pv 11 (.int .i64 p1_disk) ?_
  refine KT.pv 12 (.pointer p0_r) ?_
  refine KT.nm 13 (fun x13 => ?_)
  refine KT.pv 14 (.pointer (some x13)) ?_
  refine KT.l 15 (fun x15 => ?_)
  refine KT.pv 16 (.int .i64 ((x15.len : Nat) : Int)) ?_
  refine KT.pv 17 (.bool (decide (p1_disk ≥ ((x15.len : Nat) : Int)))) ?_
  refine KT.pv 18 (.bool (decide (p1_disk ≥ ((x15.len : Nat) : Int)))) ?_
  exact KT.leafO j1 (.cons rfl (.cons rfl (.cons rfl (.cons rfl (.nil)))))
set_option maxRecDepth 100000 in
theorem device_Rack_Arm_sim (p0_r : (Option Addr)) (p1_calls : Int) (Qf : Unit → World → Prop) (w : World) (hm : device_Rack_Arm p0_r p1_calls Qf w) : Calls Try.prog 43 #[(.pointer p0_r), (.int .i64 p1_calls)] w (RetPost (fun y : Unit => (.tuple #[])) Qf) := by
  refine calls_of (fn := Try.f43) (l := [(.pointer p0_r), (.int .i64 p1_calls)]) (m := device_Rack_Arm p0_r p1_calls) 9 (by kernel_rfl) rfl rfl rfl (fun Qf0 => ?_) Qf w hm
  clear hm w Qf
  unfold device_Rack_Arm
  refine SC.region' ?_
  refine KT.pv 4 (.pointer p0_r) ?_
  refine KT.pv 5 (.int .i64 p1_calls) ?_
  refine KT.pv 6 (.int .i64 (maxI p1_calls (-1))) ?_
  refine KT.nm 7 (fun x7 => ?_)
  refine KT.pv 8 (.pointer (some (Addr.add x7 2))) ?_
  refine KT.s ?_
  refine KT.nil ?_
  refine SX.endBody [] rfl ?_
  exact RS.nil rfl
set_option maxRecDepth 100000 in
theorem device_Rack_Doom_sim (p0_r : (Option Addr)) (p1_disk : Int) (p2_calls : Int) (Qf : Int → World → Prop) (w : World) (hm : device_Rack_Doom p0_r p1_disk p2_calls Qf w) : Calls Try.prog 34 #[(.pointer p0_r), (.int .i64 p1_disk), (.int .i64 p2_calls)] w (RetPost (Value.int .i64) Qf) := by
  refine calls_of (fn := Try.f34) (l := [(.pointer p0_r), (.int .i64 p1_disk), (.int .i64 p2_calls)]) (m := device_Rack_Doom p0_r p1_disk p2_calls) 29 (by kernel_rfl) rfl rfl rfl (fun Qf0 => ?_) Qf w hm
  clear hm w Qf
  unfold device_Rack_Doom
  refine SC.seq ?_
  refine SC.region' ?_
  refine KT.pv 6 (.int .i64 0) ?_
  refine KT.nil ?_
  refine SX.seq ?_
  refine SC.seq ?_
  refine SC.seq ?_
  refine SC.region' ?_
  refine KT.pv 7 (.int .i64 p1_disk) ?_
  refine KT.pv 8 (.bool (decide (p1_disk < 0))) ?_
  refine KT.pv 9 (.bool (decide (p1_disk < 0))) ?_
  refine KT.joinO (β := Bool) 8 (fun r1 => [(17, (.bool r1)), (0, (.pointer p0_r)), (1, (.int .i64 p1_disk)), (2, (.int .i64 p2_calls))]) (fun r1 => ?_) (fun j1 => ?_)
  refine KT.nil ?_
  refine SX.seq ?_
  refine SC.cond (b := r1) rfl ?_ ?_
  refine SC.seq ?_
  refine SC.region' ?_
  refine KT.pv 6 (.int .i64 11) ?_
  refine KT.nil ?_
  refine SX.seq ?_
  refine SC.ret ?_
  refine SX.then_ret ?_
  refine SX.ret [.tmp 6] rfl ?_
  refine RS.tmp (.int .i64 11) rfl ?_
  exact RS.nil rfl
  refine SC.skip ?_
  refine SX.seq ?_
  refine SC.seq ?_
  refine SC.region' ?_
  refine KT.pv 18 (.pointer p0_r) ?_
  refine KT.nm 19 (fun x19 => ?_)
  refine KT.pv 20 (.pointer (some x19)) ?_
  refine KT.l 21 (fun x21 => ?_)
  refine KT.pv 22 (.int .i64 p1_disk) ?_
  refine KT.oy rfl (OY.idx (d := 23) (s := x21) (i := p1_disk) (size := 1) (elem := 111) _ _ _ rfl rfl rfl (by kernel_rfl) (by kernel_rfl) rfl rfl (fun x23 => ?_))
  refine KT.l 24 (fun x24 => ?_)
  refine KT.pv 25 (.int .i64 p2_calls) ?_
  refine KT.pv 26 (.int .i64 (maxI p2_calls (-1))) ?_
  refine KT.nm 27 (fun x27 => ?_)
  refine KT.pv 28 (.pointer (some (Addr.add x27 3))) ?_
  refine KT.s ?_
  refine KT.nil ?_
  refine SX.seq ?_
  refine SC.seq ?_
  refine SC.region' ?_
  refine KT.pv 6 (.int .i64 0) ?_
  refine KT.nil ?_
  refine SX.seq ?_
  refine SC.ret ?_
  refine SX.ret [.tmp 6] rfl ?_
  refine RS.tmp (.int .i64 0) rfl ?_
  exact RS.nil rfl
  refine KT.ite (b := decide (p1_disk < 0)) 9 rfl ?_ ?_
  refine KT.sk ?_
  refine KT.sk ?_
  refine KT.sk ?_
  refine KT.sk ?_
  refine KT.sk ?_
  refine KT.sk ?_
  refine KT.sk ?_
  refine KT.pv 17 (.bool true) ?_
  exact KT.leafO j1 (.cons rfl (.cons rfl (.cons rfl (.cons rfl (.nil)))))
  refine KT.pv 10 (.int .i64 p1_disk) ?_
  refine KT.pv 11 (.pointer p0_r) ?_
  refine KT.nm 12 (fun x12 => ?_)
  refine KT.pv 13 (.pointer (some x12)) ?_
  refine KT.l 14 (fun x14 => ?_)
  refine KT.pv 15 (.int .i64 ((x14.len : Nat) : Int)) ?_
  refine KT.pv 16 (.bool (decide (p1_disk ≥ ((x14.len : Nat) : Int)))) ?_
  refine KT.pv 17 (.bool (decide (p1_disk ≥ ((x14.len : Nat) : Int)))) ?_
  exact KT.leafO j1 (.cons rfl (.cons rfl (.cons rfl (.cons rfl (.nil)))))
set_option maxRecDepth 100000 in
theorem device_New_sim (p0_disks : Int) (p1_sectors : Int) (Qf : ((Option Addr) × Int) → World → Prop) (w : World) (hm : device_New p0_disks p1_sectors Qf w) : Calls Try.prog 21 #[(.int .i64 p0_disks), (.int .i64 p1_sectors)] w (RetPost (fun y : ((Option Addr) × Int) => (.tuple #[(.pointer y.1), (.int .i64 y.2)])) Qf) := by
  refine calls_of (fn := Try.f21) (l := [(.int .i64 p0_disks), (.int .i64 p1_sectors)]) (m := device_New p0_disks p1_sectors) 57 (by kernel_rfl) rfl rfl rfl (fun Qf0 => ?_) Qf w hm
  clear hm w Qf
  unfold device_New
  refine SC.seq ?_
  refine SC.region' ?_
  refine KT.pv 4 (.pointer none) ?_
  refine KT.pv 5 (.int .i64 0) ?_
  refine KT.nil ?_
  refine SX.seq ?_
  refine SC.seq ?_
  refine SC.seq ?_
  refine SC.region' ?_
  refine KT.pv 8 (.int .i64 p0_disks) ?_
  refine KT.pv 9 (.bool (decide (p0_disks < 1))) ?_
  refine KT.pv 10 (.bool (decide (p0_disks < 1))) ?_
  refine KT.joinO (β := Bool) 3 (fun r1 => [(13, (.bool r1)), (0, (.int .i64 p0_disks)), (1, (.int .i64 p1_sectors))]) (fun r1 => ?_) (fun j1 => ?_)
  refine KT.pv 14 (.bool r1) ?_
  refine KT.joinO (β := Bool) 3 (fun r2 => [(17, (.bool r2)), (0, (.int .i64 p0_disks)), (1, (.int .i64 p1_sectors))]) (fun r2 => ?_) (fun j2 => ?_)
  refine KT.pv 18 (.bool r2) ?_
  refine KT.joinO (β := Bool) 3 (fun r3 => [(21, (.bool r3)), (0, (.int .i64 p0_disks)), (1, (.int .i64 p1_sectors))]) (fun r3 => ?_) (fun j3 => ?_)
  refine KT.nil ?_
  refine SX.seq ?_
  refine SC.cond (b := r3) rfl ?_ ?_
  refine SC.seq ?_
  refine SC.region' ?_
  refine KT.pv 4 (.pointer none) ?_
  refine KT.pv 5 (.int .i64 10) ?_
  refine KT.nil ?_
  refine SX.seq ?_
  refine SC.ret ?_
  refine SX.then_ret ?_
  refine SX.ret [.tmp 4, .tmp 5] rfl ?_
  refine RS.tmp (.pointer none) rfl ?_
  refine RS.tmp (.int .i64 10) rfl ?_
  exact RS.nil rfl
  refine SC.skip ?_
  refine SX.seq ?_
  refine SC.seq ?_
  refine SC.region' ?_
  refine KT.pv 22 (.int .i64 p1_sectors) ?_
  refine KT.pv 23 (.agg #[(.slice none 0 0), (.int .i64 p1_sectors), (.int .i64 (-1)), (.bool false)]) ?_
  refine KT.nw 24 (fun ad => .pointer (some ad)) 110 (fun x24 => ?_)
  refine KT.pv 6 (.pointer (some x24)) ?_
  refine KT.nil ?_
  refine SX.seq ?_
  refine SC.seq ?_
  refine SC.seq ?_
  refine SC.region' ?_
  refine KT.pv 25 (.int .i64 p0_disks) ?_
  refine KT.pv 26 (.int .i64 0) ?_
  refine KT.nil ?_
  refine SX.seq ?_
  refine SC.block ?_
  refine SC.loop (σ := (Int)) (fun s4 => [(1, (.int .i64 p1_sectors)), (6, (.pointer (some x24))), (25, (.int .i64 p0_disks)), (26, (.int .i64 s4))]) (.cons rfl (.cons rfl (.cons rfl (.cons rfl (.nil))))) (fun _ _ _ s4 => ?_)
  refine SC.seq ?_
  refine SC.region' ?_
  refine KT.pv 27 (.bool (decide (s4 < p0_disks))) ?_
  refine KT.nil ?_
  refine SX.seq ?_
  refine SC.seq ?_
  refine SC.cond (b := decide (s4 < p0_disks)) rfl ?_ ?_
  refine SC.skip ?_
  refine SX.seq ?_
  refine SC.seq ?_
  refine SC.block ?_
  refine SC.seq ?_
  refine SC.region' ?_
  refine KT.ow rfl (OW.newO (d := 28) (.map #[] 0) (fun r => .map (some r)) rfl (fun _ => by kernel_rfl) rfl rfl (fun x28 => ?_))
  refine KT.pv 29 (.agg #[(.slice none 0 0), (.map (some x28)), (.bool false), (.int .i64 (-1))]) ?_
  refine KT.nw 30 (fun ad => .pointer (some ad)) 114 (fun x30 => ?_)
  refine KT.pv 7 (.pointer (some x30)) ?_
  refine KT.nil ?_
  refine SX.seq ?_
  refine SC.seq ?_
  refine SC.seq ?_
  refine SC.region' ?_
  refine KT.pv 31 (.int .i64 p1_sectors) ?_
  refine KT.pv 32 (.int .i64 0) ?_
  refine KT.nil ?_
  refine SX.seq ?_
  refine SC.block ?_
  refine SC.loop (σ := (Int)) (fun s5 => [(1, (.int .i64 p1_sectors)), (6, (.pointer (some x24))), (7, (.pointer (some x30))), (25, (.int .i64 p0_disks)), (26, (.int .i64 s4)), (31, (.int .i64 p1_sectors)), (32, (.int .i64 s5))]) (.cons rfl (.cons rfl (.cons rfl (.cons rfl (.cons rfl (.cons rfl (.cons rfl (.nil)))))))) (fun _ _ _ s5 => ?_)
  refine SC.seq ?_
  refine SC.region' ?_
  refine KT.pv 33 (.bool (decide (s5 < p1_sectors))) ?_
  refine KT.nil ?_
  refine SX.seq ?_
  refine SC.seq ?_
  refine SC.cond (b := decide (s5 < p1_sectors)) rfl ?_ ?_
  refine SC.skip ?_
  refine SX.seq ?_
  refine SC.seq ?_
  refine SC.block ?_
  refine SC.draw 11 (fun f => Nat.beq f 7 || Nat.beq f 10) rfl (by kernel_rfl) (fun S6 => ?_)
  refine KT.pvA 0 34 (.pointer (some x30)) ?_
  refine KT.pvA 1 35 (.pointer (some x30)) ?_
  refine KT.pvA 2 36 (.pointer (some x30)) ?_
  refine KT.pvA 3 37 (.pointer (some x30)) ?_
  refine KT.tk 4 (OY.ldI (d := 38) _ _ rfl rfl (by kernel_rfl) rfl rfl (fun x38 => ?_))
  refine KT.one 5 rfl (by kernel_rfl) rfl (OW.step (OW.new (d := 39) (List.replicate 64 (.int .u8 0)) (fun ad => .slice (some ad) 64 64) 5 rfl (fun _ => by kernel_rfl) rfl rfl (fun x39 => ?_)))
  refine KT.and ?_
  refine KT.one 6 rfl (by kernel_rfl) rfl (OW.step (OW.new (d := 40) [(.slice (some x39) 64 64)] (fun ad => .slice (some ad) 1 1) 46 rfl (fun _ => by kernel_rfl) rfl rfl (fun x40 => ?_)))
  refine KT.and ?_
  refine KT.last 7 rfl (by kernel_rfl) rfl rfl (OW.append (d := 41) (s := x38) (x := ⟨some x40, 1, 1⟩) [(.slice none 0 0)] 24 46 _ _ _ _ rfl rfl rfl rfl (by kernel_rfl) (by kernel_rfl) rfl rfl rfl (fun x41 => ?_))
  refine KT.pvN 8 42 (.pointer (some x30)) ?_
  refine KT.pvN 9 43 (.pointer (some x30)) ?_
  refine KT.lastN 10 rfl (by kernel_rfl) rfl rfl (OW.st _ _ _ rfl rfl rfl rfl (by kernel_rfl) rfl ?_)
  refine KT.doneN (by kernel_rfl) ?_
  refine SX.block ?_
  refine SX.seq ?_
  refine SC.region' ?_
  refine KT.pv 44 (.int .i64 (w64 (s5 + 1))) ?_
  refine KT.pv 32 (.int .i64 (w64 (s5 + 1))) ?_
  refine KT.nil ?_
  exact SX.loop_next (.cons rfl (.cons rfl (.cons rfl (.cons rfl (.cons rfl (.cons rfl (.cons rfl (.nil))))))))
  refine SC.exit ?_
  refine SX.then_exit ?_
  refine SX.loop_exit ?_
  refine SX.block_hit ?_
  refine SX.seq ?_
  refine SC.region' ?_
  refine KT.pv 45 (.pointer (some x24)) ?_
  refine KT.pv 46 (.pointer (some x24)) ?_
  refine KT.pv 47 (.pointer (some x24)) ?_
  refine KT.pv 48 (.pointer (some x24)) ?_
  refine KT.l 49 (fun x49 => ?_)
  refine KT.pv 50 (.pointer (some x30)) ?_
  refine KT.nw 51 (fun ad => .slice (some ad) 1 1) 111 (fun x51 => ?_)
  refine KT.ow rfl (OW.append (d := 52) (s := x49) (x := ⟨some x51, 1, 1⟩) [(.pointer none)] 8 111 _ _ _ _ rfl rfl rfl rfl (by kernel_rfl) (by kernel_rfl) rfl rfl rfl (fun x52 => ?_))
  refine KT.pv 53 (.pointer (some x24)) ?_
  refine KT.pv 54 (.pointer (some x24)) ?_
  refine KT.s ?_
  refine KT.nil ?_
  refine SX.block ?_
  refine SX.seq ?_
  refine SC.region' ?_
  refine KT.pv 55 (.int .i64 (w64 (s4 + 1))) ?_
  refine KT.pv 26 (.int .i64 (w64 (s4 + 1))) ?_
  refine KT.nil ?_
  exact SX.loop_next (.cons rfl (.cons rfl (.cons rfl (.cons rfl (.nil)))))
  refine SC.exit ?_
  refine SX.then_exit ?_
  refine SX.loop_exit ?_
  refine SX.block_hit ?_
  refine SX.seq ?_
  refine SC.seq ?_
  refine SC.region' ?_
  refine KT.pv 56 (.pointer (some x24)) ?_
  refine KT.pv 4 (.pointer (some x24)) ?_
  refine KT.pv 5 (.int .i64 0) ?_
  refine KT.nil ?_
  refine SX.seq ?_
  refine SC.ret ?_
  refine SX.ret [.tmp 4, .tmp 5] rfl ?_
  refine RS.tmp (.pointer (some x24)) rfl ?_
  refine RS.tmp (.int .i64 0) rfl ?_
  exact RS.nil rfl
  refine KT.ite (b := r2) 18 rfl ?_ ?_
  refine KT.sk ?_
  refine KT.sk ?_
  refine KT.pv 21 (.bool true) ?_
  exact KT.leafO j3 (.cons rfl (.cons rfl (.cons rfl (.nil))))
  refine KT.pv 19 (.int .i64 p1_sectors) ?_
  refine KT.pv 20 (.bool (decide (p1_sectors > 4096))) ?_
  refine KT.pv 21 (.bool (decide (p1_sectors > 4096))) ?_
  exact KT.leafO j3 (.cons rfl (.cons rfl (.cons rfl (.nil))))
  refine KT.ite (b := r1) 14 rfl ?_ ?_
  refine KT.sk ?_
  refine KT.sk ?_
  refine KT.pv 17 (.bool true) ?_
  exact KT.leafO j2 (.cons rfl (.cons rfl (.cons rfl (.nil))))
  refine KT.pv 15 (.int .i64 p1_sectors) ?_
  refine KT.pv 16 (.bool (decide (p1_sectors < 1))) ?_
  refine KT.pv 17 (.bool (decide (p1_sectors < 1))) ?_
  exact KT.leafO j2 (.cons rfl (.cons rfl (.cons rfl (.nil))))
  refine KT.ite (b := decide (p0_disks < 1)) 10 rfl ?_ ?_
  refine KT.sk ?_
  refine KT.sk ?_
  refine KT.pv 13 (.bool true) ?_
  exact KT.leafO j1 (.cons rfl (.cons rfl (.cons rfl (.nil))))
  refine KT.pv 11 (.int .i64 p0_disks) ?_
  refine KT.pv 12 (.bool (decide (p0_disks > 17))) ?_
  refine KT.pv 13 (.bool (decide (p0_disks > 17))) ?_
  exact KT.leafO j1 (.cons rfl (.cons rfl (.cons rfl (.nil))))
set_option maxRecDepth 100000 in
theorem geo_within_sim (p0_n : Int) (p1_from : Int) (p2_to : Int) (Qf : Bool → World → Prop) (w : World) (hm : geo_within p0_n p1_from p2_to Qf w) : Calls Try.prog 110 #[(.int .i64 p0_n), (.int .i64 p1_from), (.int .i64 p2_to)] w (RetPost Value.bool Qf) := by
  refine calls_of (fn := Try.f110) (l := [(.int .i64 p0_n), (.int .i64 p1_from), (.int .i64 p2_to)]) (m := geo_within p0_n p1_from p2_to) 15 (by kernel_rfl) rfl rfl rfl (fun Qf0 => ?_) Qf w hm
  clear hm w Qf
  unfold geo_within
  refine SC.seq ?_
  refine SC.region' ?_
  refine KT.pv 6 (.bool false) ?_
  refine KT.nil ?_
  refine SX.seq ?_
  refine SC.seq ?_
  refine SC.region' ?_
  refine KT.pv 7 (.int .i64 p1_from) ?_
  refine KT.pv 8 (.int .i64 p0_n) ?_
  refine KT.pv 9 (.bool (decide (p1_from ≤ p0_n))) ?_
  refine KT.pv 10 (.bool (decide (p1_from ≤ p0_n))) ?_
  refine KT.joinO (β := Bool) 4 (fun r1 => [(14, (.bool r1))]) (fun r1 => ?_) (fun j1 => ?_)
  refine KT.pv 6 (.bool r1) ?_
  refine KT.nil ?_
  refine SX.seq ?_
  refine SC.ret ?_
  refine SX.ret [.tmp 6] rfl ?_
  refine RS.tmp (.bool r1) rfl ?_
  exact RS.nil rfl
  refine KT.ite (b := decide (p1_from ≤ p0_n)) 10 rfl ?_ ?_
  refine KT.pv 11 (.int .i64 p0_n) ?_
  refine KT.pv 12 (.int .i64 p2_to) ?_
  refine KT.pv 13 (.bool (decide (p0_n ≤ p2_to))) ?_
  refine KT.pv 14 (.bool (decide (p0_n ≤ p2_to))) ?_
  exact KT.leafO j1 (.cons rfl (.nil))
  refine KT.sk ?_
  refine KT.sk ?_
  refine KT.sk ?_
  refine KT.pv 14 (.bool false) ?_
  exact KT.leafO j1 (.cons rfl (.nil))
set_option maxRecDepth 100000 in
theorem geo_others_sim (p0_g : (Int × Int × Int)) (Qf : Int → World → Prop) (w : World) (hm : geo_others p0_g Qf w) : Calls Try.prog 111 #[(.agg #[(.int .i64 p0_g.1), (.int .i64 p0_g.2.1), (.int .i64 p0_g.2.2)])] w (RetPost (Value.int .i64) Qf) := by
  refine calls_of (fn := Try.f111) (l := [(.agg #[(.int .i64 p0_g.1), (.int .i64 p0_g.2.1), (.int .i64 p0_g.2.2)])]) (m := geo_others p0_g) 7 (by kernel_rfl) rfl rfl rfl (fun Qf0 => ?_) Qf w hm
  clear hm w Qf
  unfold geo_others
  refine SC.seq ?_
  refine SC.region' ?_
  refine KT.nw 1 (fun ad => .pointer (some ad)) 23 (fun x1 => ?_)
  refine KT.pv 2 (.int .i64 0) ?_
  refine KT.nil ?_
  refine SX.seq ?_
  refine SC.seq ?_
  refine SC.region' ?_
  refine KT.pv 3 (.pointer (some (Addr.add x1 2))) ?_
  refine KT.l 4 (fun x4 => ?_)
  refine KT.pv 5 (.int .i64 (w64 (Int.tdiv x4 8))) ?_
  refine KT.pv 6 (.int .i64 (w64 (1 + (w64 (Int.tdiv x4 8))))) ?_
  refine KT.pv 2 (.int .i64 (w64 (1 + (w64 (Int.tdiv x4 8))))) ?_
  refine KT.nil ?_
  refine SX.seq ?_
  refine SC.ret ?_
  refine SX.ret [.tmp 2] rfl ?_
  refine RS.tmp (.int .i64 (w64 (1 + (w64 (Int.tdiv x4 8))))) rfl ?_
  exact RS.nil rfl
set_option maxRecDepth 100000 in
theorem geo_places_sim (p0_g : (Int × Int × Int)) (Qf : Int → World → Prop) (w : World) (hm : geo_places p0_g Qf w) : Calls Try.prog 112 #[(.agg #[(.int .i64 p0_g.1), (.int .i64 p0_g.2.1), (.int .i64 p0_g.2.2)])] w (RetPost (Value.int .i64) Qf) := by
  refine calls_of (fn := Try.f112) (l := [(.agg #[(.int .i64 p0_g.1), (.int .i64 p0_g.2.1), (.int .i64 p0_g.2.2)])]) (m := geo_places p0_g) 10 (by kernel_rfl) rfl rfl rfl (fun Qf0 => ?_) Qf w hm
  clear hm w Qf
  unfold geo_places
  refine SC.seq ?_
  refine SC.region' ?_
  refine KT.nw 1 (fun ad => .pointer (some ad)) 23 (fun x1 => ?_)
  refine KT.pv 2 (.int .i64 0) ?_
  refine KT.nil ?_
  refine SX.seq ?_
  refine SC.seq ?_
  refine SC.region' ?_
  refine KT.pv 3 (.pointer (some (Addr.add x1 1))) ?_
  refine KT.l 4 (fun x4 => ?_)
  refine KT.pv 5 (.pointer (some x1)) ?_
  refine KT.l 6 (fun x6 => ?_)
  refine KT.pv 7 (.int .i64 (w64 (x6 - 1))) ?_
  refine KT.pv 8 (.int .i64 (w64 (x4 * (w64 (x6 - 1))))) ?_
  refine KT.pv 9 (.int .i64 (w64 ((w64 (x4 * (w64 (x6 - 1)))) - 1))) ?_
  refine KT.pv 2 (.int .i64 (w64 ((w64 (x4 * (w64 (x6 - 1)))) - 1))) ?_
  refine KT.nil ?_
  refine SX.seq ?_
  refine SC.ret ?_
  refine SX.ret [.tmp 2] rfl ?_
  refine RS.tmp (.int .i64 (w64 ((w64 (x4 * (w64 (x6 - 1)))) - 1))) rfl ?_
  exact RS.nil rfl
set_option maxRecDepth 100000 in
theorem geo_Right_sim (p0_g : (Int × Int × Int)) (Qf : Bool → World → Prop) (w : World) (hm : geo_Right p0_g Qf w) : Calls Try.prog 64 #[(.agg #[(.int .i64 p0_g.1), (.int .i64 p0_g.2.1), (.int .i64 p0_g.2.2)])] w (RetPost Value.bool Qf) := by
  refine calls_of (fn := Try.f64) (l := [(.agg #[(.int .i64 p0_g.1), (.int .i64 p0_g.2.1), (.int .i64 p0_g.2.2)])]) (m := geo_Right p0_g) 24 (by kernel_rfl) rfl rfl rfl (fun Qf0 => ?_) Qf w hm
  clear hm w Qf
  unfold geo_Right
  refine SC.seq ?_
  refine SC.region' ?_
  refine KT.nw 1 (fun ad => .pointer (some ad)) 23 (fun x1 => ?_)
  refine KT.pv 2 (.bool false) ?_
  refine KT.nil ?_
  refine SX.seq ?_
  refine SC.seq ?_
  refine SC.draw 22 (fun _ => false) rfl (by kernel_rfl) (fun S1 => ?_)
  refine KT.pvA 0 3 (.pointer (some x1)) ?_
  refine KT.tk 1 (OY.ldI (d := 4) _ _ rfl rfl (by kernel_rfl) rfl rfl (fun x4 => ?_))
  refine KT.one 2 rfl (by kernel_rfl) rfl (OW.step (OW.call (d := 5) (enc := Value.bool) 110 #[(.int .i64 x4), (.int .i64 3), (.int .i64 16)] rfl (fun _ => by kernel_rfl) (fun Qf w => geo_within_sim x4 3 16 Qf w) rfl rfl (fun x5 => ?_)))
  refine KT.and ?_
  refine KT.pvA 3 6 (.bool x5) ?_
  refine KT.ite (b := x5) 6 rfl ?_ ?_
  refine KT.pvA 4 7 (.pointer (some (Addr.add x1 1))) ?_
  refine KT.tk 5 (OY.ldI (d := 8) _ _ rfl rfl (by kernel_rfl) rfl rfl (fun x8 => ?_))
  refine KT.one 6 rfl (by kernel_rfl) rfl (OW.step (OW.call (d := 9) (enc := Value.bool) 110 #[(.int .i64 x8), (.int .i64 1), (.int .i64 4)] rfl (fun _ => by kernel_rfl) (fun Qf w => geo_within_sim x8 1 4 Qf w) rfl rfl (fun x9 => ?_)))
  refine KT.and ?_
  refine KT.pvA 7 10 (.bool x9) ?_
  refine KT.pvA 8 11 (.bool x9) ?_
  refine KT.ite (b := x9) 11 rfl ?_ ?_
  refine KT.pvA 9 12 (.pointer (some (Addr.add x1 2))) ?_
  refine KT.tk 10 (OY.ldI (d := 13) _ _ rfl rfl (by kernel_rfl) rfl rfl (fun x13 => ?_))
  refine KT.one 11 rfl (by kernel_rfl) rfl (OW.step (OW.call (d := 14) (enc := Value.bool) 110 #[(.int .i64 x13), (.int .i64 12), (.int .i64 64)] rfl (fun _ => by kernel_rfl) (fun Qf w => geo_within_sim x13 12 64 Qf w) rfl rfl (fun x14 => ?_)))
  refine KT.and ?_
  refine KT.pvA 12 15 (.bool x14) ?_
  refine KT.pvA 13 16 (.bool x14) ?_
  refine KT.ite (b := x14) 16 rfl ?_ ?_
  refine KT.tk 14 (OY.ldAI (d := 17) (enc := (fun y : (Int × Int × Int) => [(.int .i64 y.1), (.int .i64 y.2.1), (.int .i64 y.2.2)])) 3 _ _ rfl rfl (by kernel_rfl) (by kernel_rfl) (fun _ => rfl) rfl rfl (fun x17 => ?_))
  refine KT.tk 16 (OY.ldAI (d := 19) (enc := (fun y : (Int × Int × Int) => [(.int .i64 y.1), (.int .i64 y.2.1), (.int .i64 y.2.2)])) 3 _ _ rfl rfl (by kernel_rfl) (by kernel_rfl) (fun _ => rfl) rfl rfl (fun x19 => ?_))
  refine KT.one 15 rfl (by kernel_rfl) rfl (OW.step (OW.call (d := 18) (enc := (Value.int .i64)) 111 #[(.agg #[(.int .i64 x17.1), (.int .i64 x17.2.1), (.int .i64 x17.2.2)])] rfl (fun _ => by kernel_rfl) (fun Qf w => geo_others_sim (x17.1, x17.2.1, x17.2.2) Qf w) rfl rfl (fun x18 => ?_)))
  refine KT.and ?_
  refine KT.one 17 rfl (by kernel_rfl) rfl (OW.step (OW.call (d := 20) (enc := (Value.int .i64)) 112 #[(.agg #[(.int .i64 x19.1), (.int .i64 x19.2.1), (.int .i64 x19.2.2)])] rfl (fun _ => by kernel_rfl) (fun Qf w => geo_places_sim (x19.1, x19.2.1, x19.2.2) Qf w) rfl rfl (fun x20 => ?_)))
  refine KT.and ?_
  refine KT.pvA 18 21 (.int .i64 (w64 (x18 * x20))) ?_
  refine KT.pvA 19 22 (.bool (decide ((w64 (x18 * x20)) ≥ 8))) ?_
  refine KT.pvA 20 23 (.bool (decide ((w64 (x18 * x20)) ≥ 8))) ?_
  refine KT.pvA 21 2 (.bool (decide ((w64 (x18 * x20)) ≥ 8))) ?_
  refine KT.doneA (by kernel_rfl) ?_
  refine SX.seq ?_
  refine SC.ret ?_
  refine SX.ret [.tmp 2] rfl ?_
  refine RS.tmp (.bool (decide ((w64 (x18 * x20)) ≥ 8))) rfl ?_
  exact RS.nil rfl
  refine KT.skA 14 ?_
  refine KT.skA 15 ?_
  refine KT.skA 16 ?_
  refine KT.skA 17 ?_
  refine KT.skA 18 ?_
  refine KT.skA 19 ?_
  refine KT.pvA 20 23 (.bool false) ?_
  refine KT.pvA 21 2 (.bool false) ?_
  refine KT.doneA (by kernel_rfl) ?_
  refine SX.seq ?_
  refine SC.ret ?_
  refine SX.ret [.tmp 2] rfl ?_
  refine RS.tmp (.bool false) rfl ?_
  exact RS.nil rfl
  refine KT.skA 9 ?_
  refine KT.skA 10 ?_
  refine KT.skA 11 ?_
  refine KT.pvA 12 15 (.bool false) ?_
  refine KT.pvA 13 16 (.bool false) ?_
  refine KT.skA 14 ?_
  refine KT.skA 15 ?_
  refine KT.skA 16 ?_
  refine KT.skA 17 ?_
  refine KT.skA 18 ?_
  refine KT.skA 19 ?_
  refine KT.pvA 20 23 (.bool false) ?_
  refine KT.pvA 21 2 (.bool false) ?_
  refine KT.doneA (by kernel_rfl) ?_
  refine SX.seq ?_
  refine SC.ret ?_
  refine SX.ret [.tmp 2] rfl ?_
  refine RS.tmp (.bool false) rfl ?_
  exact RS.nil rfl
  refine KT.skA 4 ?_
  refine KT.skA 5 ?_
  refine KT.skA 6 ?_
  refine KT.pvA 7 10 (.bool false) ?_
  refine KT.pvA 8 11 (.bool false) ?_
  refine KT.skA 9 ?_
  refine KT.skA 10 ?_
  refine KT.skA 11 ?_
  refine KT.pvA 12 15 (.bool false) ?_
  refine KT.pvA 13 16 (.bool false) ?_
  refine KT.skA 14 ?_
  refine KT.skA 15 ?_
  refine KT.skA 16 ?_
  refine KT.skA 17 ?_
  refine KT.skA 18 ?_
  refine KT.skA 19 ?_
  refine KT.pvA 20 23 (.bool false) ?_
  refine KT.pvA 21 2 (.bool false) ?_
  refine KT.doneA (by kernel_rfl) ?_
  refine SX.seq ?_
  refine SC.ret ?_
  refine SX.ret [.tmp 2] rfl ?_
  refine RS.tmp (.bool false) rfl ?_
  exact RS.nil rfl
set_option maxRecDepth 100000 in
theorem geo_Sectors_sim (p0_g : (Int × Int × Int)) (Qf : Int → World → Prop) (w : World) (hm : geo_Sectors p0_g Qf w) : Calls Try.prog 26 #[(.agg #[(.int .i64 p0_g.1), (.int .i64 p0_g.2.1), (.int .i64 p0_g.2.2)])] w (RetPost (Value.int .i64) Qf) := by
  refine calls_of (fn := Try.f26) (l := [(.agg #[(.int .i64 p0_g.1), (.int .i64 p0_g.2.1), (.int .i64 p0_g.2.2)])]) (m := geo_Sectors p0_g) 12 (by kernel_rfl) rfl rfl rfl (fun Qf0 => ?_) Qf w hm
  clear hm w Qf
  unfold geo_Sectors
  refine SC.seq ?_
  refine SC.region' ?_
  refine KT.nw 1 (fun ad => .pointer (some ad)) 23 (fun x1 => ?_)
  refine KT.pv 2 (.int .i64 0) ?_
  refine KT.nil ?_
  refine SX.seq ?_
  refine SC.seq ?_
  refine SC.seq ?_
  refine SC.region' ?_
  refine KT.ow rfl (OW.ldA (d := 3) (enc := (fun y : (Int × Int × Int) => [(.int .i64 y.1), (.int .i64 y.2.1), (.int .i64 y.2.2)])) 3 _ _ rfl rfl (by kernel_rfl) (by kernel_rfl) (fun _ => rfl) rfl rfl (fun x3 => ?_))
  refine KT.cl Value.bool 4 64 #[(.agg #[(.int .i64 x3.1), (.int .i64 x3.2.1), (.int .i64 x3.2.2)])] (geo_Right_sim (x3.1, x3.2.1, x3.2.2)) (fun x4 => ?_)
  refine KT.pv 5 (.bool (!x4)) ?_
  refine KT.nil ?_
  refine SX.seq ?_
  refine SC.cond (b := !x4) rfl ?_ ?_
  refine SC.seq ?_
  refine SC.region' ?_
  refine KT.pv 2 (.int .i64 0) ?_
  refine KT.nil ?_
  refine SX.seq ?_
  refine SC.ret ?_
  refine SX.then_ret ?_
  refine SX.ret [.tmp 2] rfl ?_
  refine RS.tmp (.int .i64 0) rfl ?_
  exact RS.nil rfl
  refine SC.skip ?_
  refine SX.seq ?_
  refine SC.seq ?_
  refine SC.region' ?_
  refine KT.pv 6 (.pointer (some (Addr.add x1 2))) ?_
  refine KT.l 7 (fun x7 => ?_)
  refine KT.pv 8 (.pointer (some (Addr.add x1 1))) ?_
  refine KT.l 9 (fun x9 => ?_)
  refine KT.pv 10 (.int .i64 (w64 (x7 * x9))) ?_
  refine KT.pv 11 (.int .i64 (w64 (5 + (w64 (x7 * x9))))) ?_
  refine KT.pv 2 (.int .i64 (w64 (5 + (w64 (x7 * x9))))) ?_
  refine KT.nil ?_
  refine SX.seq ?_
  refine SC.ret ?_
  refine SX.ret [.tmp 2] rfl ?_
  refine RS.tmp (.int .i64 (w64 (5 + (w64 (x7 * x9))))) rfl ?_
  exact RS.nil rfl
set_option maxRecDepth 100000 in
theorem device_Rack_Size_sim (p0_r : (Option Addr)) (Qf : (Int × Int) → World → Prop) (w : World) (hm : device_Rack_Size p0_r Qf w) : Calls Try.prog 57 #[(.pointer p0_r)] w (RetPost (fun y : (Int × Int) => (.tuple #[(.int .i64 y.1), (.int .i64 y.2)])) Qf) := by
  refine calls_of (fn := Try.f57) (l := [(.pointer p0_r)]) (m := device_Rack_Size p0_r) 13 (by kernel_rfl) rfl rfl rfl (fun Qf0 => ?_) Qf w hm
  clear hm w Qf
  unfold device_Rack_Size
  refine SC.seq ?_
  refine SC.region' ?_
  refine KT.pv 2 (.int .i64 0) ?_
  refine KT.pv 3 (.int .i64 0) ?_
  refine KT.nil ?_
  refine SX.seq ?_
  refine SC.seq ?_
  refine SC.draw 11 (fun _ => false) rfl (by kernel_rfl) (fun S1 => ?_)
  refine KT.pvA 0 4 (.pointer p0_r) ?_
  refine KT.tp 1 (OY.nil (d := 5) (p := p0_r) _ rfl rfl rfl rfl (fun x5 => ?_))
  refine KT.pvA 2 6 (.pointer (some x5)) ?_
  refine KT.tk 3 (OY.ldI (d := 7) _ _ rfl rfl (by kernel_rfl) rfl rfl (fun x7 => ?_))
  refine KT.pvA 4 8 (.int .i64 ((x7.len : Nat) : Int)) ?_
  refine KT.pvA 5 9 (.pointer p0_r) ?_
  refine KT.tp 6 (OY.nil (d := 10) (p := p0_r) _ rfl rfl rfl rfl (fun x10 => ?_))
  refine KT.pvA 7 11 (.pointer (some (Addr.add x10 1))) ?_
  refine KT.tk 8 (OY.ldI (d := 12) _ _ rfl rfl (by kernel_rfl) rfl rfl (fun x12 => ?_))
  refine KT.pvA 9 2 (.int .i64 ((x7.len : Nat) : Int)) ?_
  refine KT.pvA 10 3 (.int .i64 x12) ?_
  refine KT.doneA (by kernel_rfl) ?_
  refine SX.seq ?_
  refine SC.ret ?_
  refine SX.ret [.tmp 2, .tmp 3] rfl ?_
  refine RS.tmp (.int .i64 ((x7.len : Nat) : Int)) rfl ?_
  refine RS.tmp (.int .i64 x12) rfl ?_
  exact RS.nil rfl
set_option maxRecDepth 100000 in
theorem bank_fits_sim (p0_g : (Int × Int × Int)) (p1_m : (Int × Int × Int)) (Qf : Bool → World → Prop) (w : World) (hm : bank_fits p0_g p1_m Qf w) : Calls Try.prog 65 #[(.agg #[(.int .i64 p0_g.1), (.int .i64 p0_g.2.1), (.int .i64 p0_g.2.2)]), (.agg #[(.int .i64 p1_m.1), (.int .i64 p1_m.2.1), (.int .i64 p1_m.2.2)])] w (RetPost Value.bool Qf) := by
  refine calls_of (fn := Try.f65) (l := [(.agg #[(.int .i64 p0_g.1), (.int .i64 p0_g.2.1), (.int .i64 p0_g.2.2)]), (.agg #[(.int .i64 p1_m.1), (.int .i64 p1_m.2.1), (.int .i64 p1_m.2.2)])]) (m := bank_fits p0_g p1_m) 22 (by kernel_rfl) rfl rfl rfl (fun Qf0 => ?_) Qf w hm
  clear hm w Qf
  unfold bank_fits
  refine SC.seq ?_
  refine SC.region' ?_
  refine KT.nw 2 (fun ad => .pointer (some ad)) 23 (fun x2 => ?_)
  refine KT.nw 3 (fun ad => .pointer (some ad)) 25 (fun x3 => ?_)
  refine KT.pv 4 (.bool false) ?_
  refine KT.nil ?_
  refine SX.seq ?_
  refine SC.seq ?_
  refine SC.seq ?_
  refine SC.region' ?_
  refine KT.pv 5 (.pointer (some (Addr.add x3 2))) ?_
  refine KT.l 6 (fun x6 => ?_)
  refine KT.nil ?_
  refine SX.seq ?_
  refine SC.block ?_
  refine SC.seq ?_
  refine SC.region' ?_
  refine KT.pv 8 (.bool (x6 == 0)) ?_
  refine KT.pv 7 (.bool (x6 == 0)) ?_
  refine KT.nil ?_
  refine SX.seq ?_
  refine SC.cond (b := x6 == 0) rfl ?_ ?_
  refine SC.seq ?_
  refine SC.region' ?_
  refine KT.pv 4 (.bool true) ?_
  refine KT.nil ?_
  refine SX.seq ?_
  refine SC.ret ?_
  refine SX.block_ret ?_
  refine SX.then_ret ?_
  refine SX.ret [.tmp 4] rfl ?_
  refine RS.tmp (.bool true) rfl ?_
  exact RS.nil rfl
  refine SC.seq ?_
  refine SC.seq ?_
  refine SC.region' ?_
  refine KT.pv 10 (.bool (x6 == 1)) ?_
  refine KT.pv 9 (.bool (x6 == 1)) ?_
  refine KT.nil ?_
  refine SX.seq ?_
  refine SC.join (β := (Bool)) (fun b1 => [(2, (.pointer (some x2))), (3, (.pointer (some x3))), (9, (.bool b1))]) (fun b1 => ?_) (fun j1 => ?_)
  refine SX.seq ?_
  refine SC.cond (b := b1) rfl ?_ ?_
  refine SC.seq ?_
  refine SC.region' ?_
  refine KT.pv 12 (.pointer (some (Addr.add x3 1))) ?_
  refine KT.l 13 (fun x13 => ?_)
  refine KT.pv 14 (.bool (decide (x13 ≥ 0))) ?_
  refine KT.pv 15 (.bool (decide (x13 ≥ 0))) ?_
  refine KT.joinO (β := Bool) 6 (fun r2 => [(21, (.bool r2))]) (fun r2 => ?_) (fun j2 => ?_)
  refine KT.pv 4 (.bool r2) ?_
  refine KT.nil ?_
  refine SX.seq ?_
  refine SC.ret ?_
  refine SX.block_ret ?_
  refine SX.then_ret ?_
  refine SX.ret [.tmp 4] rfl ?_
  refine RS.tmp (.bool r2) rfl ?_
  exact RS.nil rfl
  refine KT.ite (b := decide (x13 ≥ 0)) 15 rfl ?_ ?_
  refine KT.pv 16 (.pointer (some (Addr.add x3 1))) ?_
  refine KT.l 17 (fun x17 => ?_)
  refine KT.pv 18 (.pointer (some x2)) ?_
  refine KT.l 19 (fun x19 => ?_)
  refine KT.pv 20 (.bool (decide (x17 < x19))) ?_
  refine KT.pv 21 (.bool (decide (x17 < x19))) ?_
  exact KT.leafO j2 (.cons rfl (.nil))
  refine KT.sk ?_
  refine KT.sk ?_
  refine KT.sk ?_
  refine KT.sk ?_
  refine KT.sk ?_
  refine KT.pv 21 (.bool false) ?_
  exact KT.leafO j2 (.cons rfl (.nil))
  refine SC.skip ?_
  refine SX.block ?_
  refine SX.seq ?_
  refine SC.seq ?_
  refine SC.region' ?_
  refine KT.pv 4 (.bool false) ?_
  refine KT.nil ?_
  refine SX.seq ?_
  refine SC.ret ?_
  refine SX.ret [.tmp 4] rfl ?_
  refine RS.tmp (.bool false) rfl ?_
  exact RS.nil rfl
  refine SC.cond (b := x6 == 1) rfl ?_ ?_
  refine SC.skip ?_
  exact SX.leafS j1 (.cons rfl (.cons rfl (.cons rfl (.nil))))
  refine SC.region' ?_
  refine KT.pv 11 (.bool (x6 == 2)) ?_
  refine KT.pv 9 (.bool (x6 == 2)) ?_
  refine KT.nil ?_
  exact SX.leafS j1 (.cons rfl (.cons rfl (.cons rfl (.nil))))
set_option maxRecDepth 100000 in
theorem bank_Open_sim (p0_r : (Option Addr)) (p1_g : (Int × Int × Int)) (p2_m : (Int × Int × Int)) (Qf : ((Option Addr) × Int) → World → Prop) (w : World) (hm : bank_Open p0_r p1_g p2_m Qf w) : Calls Try.prog 23 #[(.pointer p0_r), (.agg #[(.int .i64 p1_g.1), (.int .i64 p1_g.2.1), (.int .i64 p1_g.2.2)]), (.agg #[(.int .i64 p2_m.1), (.int .i64 p2_m.2.1), (.int .i64 p2_m.2.2)])] w (RetPost (fun y : ((Option Addr) × Int) => (.tuple #[(.pointer y.1), (.int .i64 y.2)])) Qf) := by
  refine calls_of (fn := Try.f23) (l := [(.pointer p0_r), (.agg #[(.int .i64 p1_g.1), (.int .i64 p1_g.2.1), (.int .i64 p1_g.2.2)]), (.agg #[(.int .i64 p2_m.1), (.int .i64 p2_m.2.1), (.int .i64 p2_m.2.2)])]) (m := bank_Open p0_r p1_g p2_m) 42 (by kernel_rfl) rfl rfl rfl (fun Qf0 => ?_) Qf w hm
  clear hm w Qf
  unfold bank_Open
  refine SC.seq ?_
  refine SC.region' ?_
  refine KT.nw 4 (fun ad => .pointer (some ad)) 23 (fun x4 => ?_)
  refine KT.nw 5 (fun ad => .pointer (some ad)) 25 (fun x5 => ?_)
  refine KT.pv 6 (.pointer none) ?_
  refine KT.pv 7 (.int .i64 0) ?_
  refine KT.nil ?_
  refine SX.seq ?_
  refine SC.seq ?_
  refine SC.region' ?_
  refine KT.pv 11 (.pointer p0_r) ?_
  refine KT.cl (fun y : (Int × Int) => (.tuple #[(.int .i64 y.1), (.int .i64 y.2)])) 12 57 #[(.pointer p0_r)] (device_Rack_Size_sim p0_r) (fun x12 => ?_)
  refine KT.pv 10 (.tuple #[(.int .i64 x12.1), (.int .i64 x12.2)]) ?_
  refine KT.pv 13 (.int .i64 x12.1) ?_
  refine KT.pv 14 (.int .i64 x12.2) ?_
  refine KT.pv 8 (.int .i64 x12.1) ?_
  refine KT.pv 9 (.int .i64 x12.2) ?_
  refine KT.nil ?_
  refine SX.seq ?_
  refine SC.seq ?_
  refine SC.seq ?_
  refine SC.region' ?_
  refine KT.ow rfl (OW.ldA (d := 15) (enc := (fun y : (Int × Int × Int) => [(.int .i64 y.1), (.int .i64 y.2.1), (.int .i64 y.2.2)])) 3 _ _ rfl rfl (by kernel_rfl) (by kernel_rfl) (fun _ => rfl) rfl rfl (fun x15 => ?_))
  refine KT.cl Value.bool 16 64 #[(.agg #[(.int .i64 x15.1), (.int .i64 x15.2.1), (.int .i64 x15.2.2)])] (geo_Right_sim (x15.1, x15.2.1, x15.2.2)) (fun x16 => ?_)
  refine KT.pv 17 (.bool (!x16)) ?_
  refine KT.pv 18 (.bool (!x16)) ?_
  refine KT.joinO (β := Bool) 6 (fun r1 => [(24, (.bool r1)), (0, (.pointer p0_r)), (4, (.pointer (some x4))), (5, (.pointer (some x5))), (9, (.int .i64 x12.2))]) (fun r1 => ?_) (fun j1 => ?_)
  refine KT.pv 25 (.bool r1) ?_
  refine KT.joinO (β := Bool) 5 (fun r2 => [(30, (.bool r2)), (0, (.pointer p0_r)), (4, (.pointer (some x4))), (5, (.pointer (some x5)))]) (fun r2 => ?_) (fun j2 => ?_)
  refine KT.pv 31 (.bool r2) ?_
  refine KT.joinO (β := Bool) 5 (fun r3 => [(36, (.bool r3)), (0, (.pointer p0_r)), (4, (.pointer (some x4))), (5, (.pointer (some x5)))]) (fun r3 => ?_) (fun j3 => ?_)
  refine KT.nil ?_
  refine SX.seq ?_
  refine SC.cond (b := r3) rfl ?_ ?_
  refine SC.seq ?_
  refine SC.region' ?_
  refine KT.pv 6 (.pointer none) ?_
  refine KT.pv 7 (.int .i64 10) ?_
  refine KT.nil ?_
  refine SX.seq ?_
  refine SC.ret ?_
  refine SX.then_ret ?_
  refine SX.ret [.tmp 6, .tmp 7] rfl ?_
  refine RS.tmp (.pointer none) rfl ?_
  refine RS.tmp (.int .i64 10) rfl ?_
  exact RS.nil rfl
  refine SC.skip ?_
  refine SX.seq ?_
  refine SC.seq ?_
  refine SC.region' ?_
  refine KT.pv 37 (.pointer p0_r) ?_
  refine KT.ow rfl (OW.ldA (d := 38) (enc := (fun y : (Int × Int × Int) => [(.int .i64 y.1), (.int .i64 y.2.1), (.int .i64 y.2.2)])) 3 _ _ rfl rfl (by kernel_rfl) (by kernel_rfl) (fun _ => rfl) rfl rfl (fun x38 => ?_))
  refine KT.ow rfl (OW.ldA (d := 39) (enc := (fun y : (Int × Int × Int) => [(.int .i64 y.1), (.int .i64 y.2.1), (.int .i64 y.2.2)])) 3 _ _ rfl rfl (by kernel_rfl) (by kernel_rfl) (fun _ => rfl) rfl rfl (fun x39 => ?_))
  refine KT.pv 40 (.agg #[(.pointer p0_r), (.int .i64 x38.1), (.int .i64 x38.2.1), (.int .i64 x38.2.2), (.int .i64 x39.1), (.int .i64 x39.2.1), (.int .i64 x39.2.2)]) ?_
  refine KT.nw 41 (fun ad => .pointer (some ad)) 118 (fun x41 => ?_)
  refine KT.pv 6 (.pointer (some x41)) ?_
  refine KT.pv 7 (.int .i64 0) ?_
  refine KT.nil ?_
  refine SX.seq ?_
  refine SC.ret ?_
  refine SX.ret [.tmp 6, .tmp 7] rfl ?_
  refine RS.tmp (.pointer (some x41)) rfl ?_
  refine RS.tmp (.int .i64 0) rfl ?_
  exact RS.nil rfl
  refine KT.ite (b := r2) 31 rfl ?_ ?_
  refine KT.sk ?_
  refine KT.sk ?_
  refine KT.sk ?_
  refine KT.sk ?_
  refine KT.pv 36 (.bool true) ?_
  exact KT.leafO j3 (.cons rfl (.cons rfl (.cons rfl (.cons rfl (.nil)))))
  refine KT.ow rfl (OW.ldA (d := 32) (enc := (fun y : (Int × Int × Int) => [(.int .i64 y.1), (.int .i64 y.2.1), (.int .i64 y.2.2)])) 3 _ _ rfl rfl (by kernel_rfl) (by kernel_rfl) (fun _ => rfl) rfl rfl (fun x32 => ?_))
  refine KT.ow rfl (OW.ldA (d := 33) (enc := (fun y : (Int × Int × Int) => [(.int .i64 y.1), (.int .i64 y.2.1), (.int .i64 y.2.2)])) 3 _ _ rfl rfl (by kernel_rfl) (by kernel_rfl) (fun _ => rfl) rfl rfl (fun x33 => ?_))
  refine KT.cl Value.bool 34 65 #[(.agg #[(.int .i64 x32.1), (.int .i64 x32.2.1), (.int .i64 x32.2.2)]), (.agg #[(.int .i64 x33.1), (.int .i64 x33.2.1), (.int .i64 x33.2.2)])] (bank_fits_sim (x32.1, x32.2.1, x32.2.2) (x33.1, x33.2.1, x33.2.2)) (fun x34 => ?_)
  refine KT.pv 35 (.bool (!x34)) ?_
  refine KT.pv 36 (.bool (!x34)) ?_
  exact KT.leafO j3 (.cons rfl (.cons rfl (.cons rfl (.cons rfl (.nil)))))
  refine KT.ite (b := r1) 25 rfl ?_ ?_
  refine KT.sk ?_
  refine KT.sk ?_
  refine KT.sk ?_
  refine KT.sk ?_
  refine KT.pv 30 (.bool true) ?_
  exact KT.leafO j2 (.cons rfl (.cons rfl (.cons rfl (.cons rfl (.nil)))))
  refine KT.pv 26 (.int .i64 x12.2) ?_
  refine KT.ow rfl (OW.ldA (d := 27) (enc := (fun y : (Int × Int × Int) => [(.int .i64 y.1), (.int .i64 y.2.1), (.int .i64 y.2.2)])) 3 _ _ rfl rfl (by kernel_rfl) (by kernel_rfl) (fun _ => rfl) rfl rfl (fun x27 => ?_))
  refine KT.cl (Value.int .i64) 28 26 #[(.agg #[(.int .i64 x27.1), (.int .i64 x27.2.1), (.int .i64 x27.2.2)])] (geo_Sectors_sim (x27.1, x27.2.1, x27.2.2)) (fun x28 => ?_)
  refine KT.pv 29 (.bool (x12.2 != x28)) ?_
  refine KT.pv 30 (.bool (x12.2 != x28)) ?_
  exact KT.leafO j2 (.cons rfl (.cons rfl (.cons rfl (.cons rfl (.nil)))))
  refine KT.ite (b := !x16) 18 rfl ?_ ?_
  refine KT.sk ?_
  refine KT.sk ?_
  refine KT.sk ?_
  refine KT.sk ?_
  refine KT.sk ?_
  refine KT.pv 24 (.bool true) ?_
  exact KT.leafO j1 (.cons rfl (.cons rfl (.cons rfl (.cons rfl (.cons rfl (.nil))))))
  refine KT.pv 19 (.int .i64 x12.1) ?_
  refine KT.pv 20 (.pointer (some x4)) ?_
  refine KT.l 21 (fun x21 => ?_)
  refine KT.pv 22 (.int .i64 (w64 (x21 + 1))) ?_
  refine KT.pv 23 (.bool (x12.1 != (w64 (x21 + 1)))) ?_
  refine KT.pv 24 (.bool (x12.1 != (w64 (x21 + 1)))) ?_
  exact KT.leafO j1 (.cons rfl (.cons rfl (.cons rfl (.cons rfl (.cons rfl (.nil))))))
set_option maxRecDepth 100000 in
theorem law07_Small_sim  (Qf : (Int × Int × Int) → World → Prop) (w : World) (hm : law07_Small  Qf w) : Calls Try.prog 76 #[] w (RetPost (fun y : (Int × Int × Int) => (.agg #[(.int .i64 y.1), (.int .i64 y.2.1), (.int .i64 y.2.2)])) Qf) := by
  refine calls_of (fn := Try.f76) (l := []) (m := law07_Small ) 2 (by kernel_rfl) rfl rfl rfl (fun Qf0 => ?_) Qf w hm
  clear hm w Qf
  unfold law07_Small
  refine SC.seq ?_
  refine SC.region' ?_
  refine KT.nw 0 (fun ad => .pointer (some ad)) 23 (fun x0 => ?_)
  refine KT.nil ?_
  refine SX.seq ?_
  refine SC.seq ?_
  refine SC.region' ?_
  refine KT.pv 1 (.agg #[(.int .i64 3), (.int .i64 3), (.int .i64 12)]) ?_
  refine KT.ow rfl (OW.stA _ _ _ rfl rfl rfl rfl rfl (by kernel_rfl) ?_)
  refine KT.nil ?_
  refine SX.seq ?_
  refine SC.ret ?_
  refine SX.ret [.cell 0 23] rfl ?_
  refine RS.cellA 3 (by kernel_rfl) rfl rfl (fun _ => rfl) (fun r0 => ?_)
  exact RS.nil rfl
set_option maxRecDepth 100000 in
theorem law07_Open_sim (p0_m : (Int × Int × Int)) (Qf : ((Option Addr) × (Option Addr)) → World → Prop) (w : World) (hm : law07_Open p0_m Qf w) : Calls Try.prog 47 #[(.agg #[(.int .i64 p0_m.1), (.int .i64 p0_m.2.1), (.int .i64 p0_m.2.2)])] w (RetPost (fun y : ((Option Addr) × (Option Addr)) => (.tuple #[(.pointer y.1), (.pointer y.2)])) Qf) := by
  refine calls_of (fn := Try.f47) (l := [(.agg #[(.int .i64 p0_m.1), (.int .i64 p0_m.2.1), (.int .i64 p0_m.2.2)])]) (m := law07_Open p0_m) 34 (by kernel_rfl) rfl rfl rfl (fun Qf0 => ?_) Qf w hm
  clear hm w Qf
  unfold law07_Open
  refine SC.seq ?_
  refine SC.region' ?_
  refine KT.nw 1 (fun ad => .pointer (some ad)) 25 (fun x1 => ?_)
  refine KT.pv 2 (.pointer none) ?_
  refine KT.pv 3 (.pointer none) ?_
  refine KT.nil ?_
  refine SX.seq ?_
  refine SC.seq ?_
  refine SC.region' ?_
  refine KT.cl (fun y : (Int × Int × Int) => (.agg #[(.int .i64 y.1), (.int .i64 y.2.1), (.int .i64 y.2.2)])) 8 76 #[] (law07_Small_sim ) (fun x8 => ?_)
  refine KT.cl (Value.int .i64) 9 26 #[(.agg #[(.int .i64 x8.1), (.int .i64 x8.2.1), (.int .i64 x8.2.2)])] (geo_Sectors_sim (x8.1, x8.2.1, x8.2.2)) (fun x9 => ?_)
  refine KT.cl (fun y : ((Option Addr) × Int) => (.tuple #[(.pointer y.1), (.int .i64 y.2)])) 10 21 #[(.int .i64 4), (.int .i64 x9)] (device_New_sim 4 x9) (fun x10 => ?_)
  refine KT.pv 7 (.tuple #[(.pointer x10.1), (.int .i64 x10.2)]) ?_
  refine KT.pv 11 (.pointer x10.1) ?_
  refine KT.pv 12 (.int .i64 x10.2) ?_
  refine KT.pv 4 (.pointer x10.1) ?_
  refine KT.pv 5 (.int .i64 x10.2) ?_
  refine KT.nil ?_
  refine SX.seq ?_
  refine SC.seq ?_
  refine SC.seq ?_
  refine SC.region' ?_
  refine KT.pv 13 (.int .i64 x10.2) ?_
  refine KT.pv 14 (.bool (x10.2 != 0)) ?_
  refine KT.pv 15 (.bool (x10.2 != 0)) ?_
  refine KT.joinO (β := Bool) 3 (fun r1 => [(18, (.bool r1)), (1, (.pointer (some x1))), (4, (.pointer x10.1))]) (fun r1 => ?_) (fun j1 => ?_)
  refine KT.nil ?_
  refine SX.seq ?_
  refine SC.cond (b := r1) rfl ?_ ?_
  refine SC.seq ?_
  refine SC.region' ?_
  refine KT.pv 2 (.pointer none) ?_
  refine KT.pv 3 (.pointer none) ?_
  refine KT.nil ?_
  refine SX.seq ?_
  refine SC.ret ?_
  refine SX.then_ret ?_
  refine SX.ret [.tmp 2, .tmp 3] rfl ?_
  refine RS.tmp (.pointer none) rfl ?_
  refine RS.tmp (.pointer none) rfl ?_
  exact RS.nil rfl
  refine SC.skip ?_
  refine SX.seq ?_
  refine SC.seq ?_
  refine SC.draw 9 (fun f => Nat.beq f 3) rfl (by kernel_rfl) (fun S2 => ?_)
  refine KT.pvA 0 20 (.pointer x10.1) ?_
  refine KT.tk 2 (OY.ldAI (d := 22) (enc := (fun y : (Int × Int × Int) => [(.int .i64 y.1), (.int .i64 y.2.1), (.int .i64 y.2.2)])) 3 _ _ rfl rfl (by kernel_rfl) (by kernel_rfl) (fun _ => rfl) rfl rfl (fun x22 => ?_))
  refine KT.one 1 rfl (by kernel_rfl) rfl (OW.step (OW.call (d := 21) (enc := (fun y : (Int × Int × Int) => (.agg #[(.int .i64 y.1), (.int .i64 y.2.1), (.int .i64 y.2.2)]))) 76 #[] rfl (fun _ => by kernel_rfl) (fun Qf w => law07_Small_sim  Qf w) rfl rfl (fun x21 => ?_)))
  refine KT.and ?_
  refine KT.last 3 rfl (by kernel_rfl) rfl rfl (OW.call (d := 23) (enc := (fun y : ((Option Addr) × Int) => (.tuple #[(.pointer y.1), (.int .i64 y.2)]))) 23 #[(.pointer x10.1), (.agg #[(.int .i64 x21.1), (.int .i64 x21.2.1), (.int .i64 x21.2.2)]), (.agg #[(.int .i64 x22.1), (.int .i64 x22.2.1), (.int .i64 x22.2.2)])] rfl (fun _ => by kernel_rfl) (fun Qf w => bank_Open_sim x10.1 (x21.1, x21.2.1, x21.2.2) (x22.1, x22.2.1, x22.2.2) Qf w) rfl rfl (fun x23 => ?_))
  refine KT.pvN 4 19 (.tuple #[(.pointer x23.1), (.int .i64 x23.2)]) ?_
  refine KT.pvN 5 24 (.pointer x23.1) ?_
  refine KT.pvN 6 25 (.int .i64 x23.2) ?_
  refine KT.pvN 7 6 (.pointer x23.1) ?_
  refine KT.pvN 8 5 (.int .i64 x23.2) ?_
  refine KT.doneN (by kernel_rfl) ?_
  refine SX.seq ?_
  refine SC.seq ?_
  refine SC.seq ?_
  refine SC.region' ?_
  refine KT.pv 26 (.int .i64 x23.2) ?_
  refine KT.pv 27 (.bool (x23.2 != 0)) ?_
  refine KT.pv 28 (.bool (x23.2 != 0)) ?_
  refine KT.joinO (β := Bool) 3 (fun r3 => [(31, (.bool r3)), (4, (.pointer x10.1)), (6, (.pointer x23.1))]) (fun r3 => ?_) (fun j3 => ?_)
  refine KT.nil ?_
  refine SX.seq ?_
  refine SC.cond (b := r3) rfl ?_ ?_
  refine SC.seq ?_
  refine SC.region' ?_
  refine KT.pv 2 (.pointer none) ?_
  refine KT.pv 3 (.pointer none) ?_
  refine KT.nil ?_
  refine SX.seq ?_
  refine SC.ret ?_
  refine SX.then_ret ?_
  refine SX.ret [.tmp 2, .tmp 3] rfl ?_
  refine RS.tmp (.pointer none) rfl ?_
  refine RS.tmp (.pointer none) rfl ?_
  exact RS.nil rfl
  refine SC.skip ?_
  refine SX.seq ?_
  refine SC.seq ?_
  refine SC.region' ?_
  refine KT.pv 32 (.pointer x23.1) ?_
  refine KT.pv 33 (.pointer x10.1) ?_
  refine KT.pv 2 (.pointer x23.1) ?_
  refine KT.pv 3 (.pointer x10.1) ?_
  refine KT.nil ?_
  refine SX.seq ?_
  refine SC.ret ?_
  refine SX.ret [.tmp 2, .tmp 3] rfl ?_
  refine RS.tmp (.pointer x23.1) rfl ?_
  refine RS.tmp (.pointer x10.1) rfl ?_
  exact RS.nil rfl
  refine KT.ite (b := x23.2 != 0) 28 rfl ?_ ?_
  refine KT.sk ?_
  refine KT.sk ?_
  refine KT.pv 31 (.bool true) ?_
  exact KT.leafO j3 (.cons rfl (.cons rfl (.cons rfl (.nil))))
  refine KT.pv 29 (.pointer x23.1) ?_
  refine KT.oy rfl (OY.eqlNil (d := 30) (p := x23.1) _ _ _ _ rfl rfl rfl (by kernel_rfl) rfl rfl ?_)
  refine KT.pv 31 (.bool ((x23.1).isNone)) ?_
  exact KT.leafO j3 (.cons rfl (.cons rfl (.cons rfl (.nil))))
  refine KT.ite (b := x10.2 != 0) 15 rfl ?_ ?_
  refine KT.sk ?_
  refine KT.sk ?_
  refine KT.pv 18 (.bool true) ?_
  exact KT.leafO j1 (.cons rfl (.cons rfl (.cons rfl (.nil))))
  refine KT.pv 16 (.pointer x10.1) ?_
  refine KT.oy rfl (OY.eqlNil (d := 17) (p := x10.1) _ _ _ _ rfl rfl rfl (by kernel_rfl) rfl rfl ?_)
  refine KT.pv 18 (.bool ((x10.1).isNone)) ?_
  exact KT.leafO j1 (.cons rfl (.cons rfl (.cons rfl (.nil))))
set_option maxRecDepth 100000 in
theorem device_Rack_Write_sim (p0_r : (Option Addr)) (p1_disk : Int) (p2_sector : Int) (p3_b : Slc) (Qf : Int → World → Prop) (w : World) (hm : device_Rack_Write p0_r p1_disk p2_sector p3_b Qf w) : Calls Try.prog 39 #[(.pointer p0_r), (.int .i64 p1_disk), (.int .i64 p2_sector), (.slice p3_b.base p3_b.len p3_b.cap)] w (RetPost (Value.int .i64) Qf) := by
  refine calls_of (fn := Try.f39) (l := [(.pointer p0_r), (.int .i64 p1_disk), (.int .i64 p2_sector), (.slice p3_b.base p3_b.len p3_b.cap)]) (m := device_Rack_Write p0_r p1_disk p2_sector p3_b) 30 (by kernel_rfl) rfl rfl rfl (fun Qf0 => ?_) Qf w hm
  clear hm w Qf
  unfold device_Rack_Write
  refine SC.seq ?_
  refine SC.region' ?_
  refine KT.pv 8 (.int .i64 0) ?_
  refine KT.nil ?_
  refine SX.seq ?_
  refine SC.seq ?_
  refine SC.region' ?_
  refine KT.pv 12 (.pointer p0_r) ?_
  refine KT.pv 13 (.int .i64 p1_disk) ?_
  refine KT.pv 14 (.int .i64 p2_sector) ?_
  refine KT.pv 15 (.slice p3_b.base p3_b.len p3_b.cap) ?_
  refine KT.pv 16 (.int .i64 ((p3_b.len : Nat) : Int)) ?_
  refine KT.cl (fun y : ((Option Addr) × Int) => (.tuple #[(.pointer y.1), (.int .i64 y.2)])) 17 73 #[(.pointer p0_r), (.int .i64 p1_disk), (.int .i64 p2_sector), (.int .i64 ((p3_b.len : Nat) : Int))] (device_Rack_counted_sim p0_r p1_disk p2_sector ((p3_b.len : Nat) : Int)) (fun x17 => ?_)
  refine KT.pv 11 (.tuple #[(.pointer x17.1), (.int .i64 x17.2)]) ?_
  refine KT.pv 18 (.pointer x17.1) ?_
  refine KT.pv 19 (.int .i64 x17.2) ?_
  refine KT.pv 9 (.pointer x17.1) ?_
  refine KT.pv 10 (.int .i64 x17.2) ?_
  refine KT.nil ?_
  refine SX.seq ?_
  refine SC.seq ?_
  refine SC.seq ?_
  refine SC.region' ?_
  refine KT.pv 20 (.int .i64 x17.2) ?_
  refine KT.pv 21 (.bool (x17.2 == 0)) ?_
  refine KT.nil ?_
  refine SX.seq ?_
  refine SC.cond (b := x17.2 == 0) rfl ?_ ?_
  refine SC.draw 8 (fun f => Nat.beq f 7) rfl (by kernel_rfl) (fun S1 => ?_)
  refine KT.pvA 0 22 (.pointer x17.1) ?_
  refine KT.tp 1 (OY.nil (d := 23) (p := x17.1) _ rfl rfl rfl rfl (fun x23 => ?_))
  refine KT.pvA 2 24 (.pointer (some (Addr.add x23 1))) ?_
  refine KT.tk 3 (OY.ldI (d := 25) _ _ rfl rfl (by kernel_rfl) rfl rfl (fun x25 => ?_))
  refine KT.pvA 4 26 (.int .i64 p2_sector) ?_
  refine KT.pvA 5 27 (.slice p3_b.base p3_b.len p3_b.cap) ?_
  refine KT.one 6 rfl (by kernel_rfl) rfl (OW.step (OW.call (d := 28) (enc := vS) 71 #[(.slice p3_b.base p3_b.len p3_b.cap)] rfl (fun _ => by kernel_rfl) (fun Qf w => slices_Clone_b_sim p3_b Qf w) rfl rfl (fun x28 => ?_)))
  refine KT.and ?_
  refine KT.last 7 rfl (by kernel_rfl) rfl rfl (OW.upd 3 46 .i64 _ _ _ _ rfl rfl rfl rfl (by kernel_rfl) (by kernel_rfl) rfl ?_)
  refine KT.doneN (by kernel_rfl) ?_
  refine SX.seq ?_
  refine SC.seq ?_
  refine SC.region' ?_
  refine KT.pv 29 (.int .i64 x17.2) ?_
  refine KT.pv 8 (.int .i64 x17.2) ?_
  refine KT.nil ?_
  refine SX.seq ?_
  refine SC.ret ?_
  refine SX.ret [.tmp 8] rfl ?_
  refine RS.tmp (.int .i64 x17.2) rfl ?_
  exact RS.nil rfl
  refine SC.skip ?_
  refine SX.seq ?_
  refine SC.seq ?_
  refine SC.region' ?_
  refine KT.pv 29 (.int .i64 x17.2) ?_
  refine KT.pv 8 (.int .i64 x17.2) ?_
  refine KT.nil ?_
  refine SX.seq ?_
  refine SC.ret ?_
  refine SX.ret [.tmp 8] rfl ?_
  refine RS.tmp (.int .i64 x17.2) rfl ?_
  exact RS.nil rfl
set_option maxRecDepth 100000 in
theorem bank_Bank_Write_sim (p0_b : (Option Addr)) (p1_slot : Int) (p2_sector : Int) (p3_data : Slc) (Qf : Int → World → Prop) (w : World) (hm : bank_Bank_Write p0_b p1_slot p2_sector p3_data Qf w) : Calls Try.prog 32 #[(.pointer p0_b), (.int .i64 p1_slot), (.int .i64 p2_sector), (.slice p3_data.base p3_data.len p3_data.cap)] w (RetPost (Value.int .i64) Qf) := by
  refine calls_of (fn := Try.f32) (l := [(.pointer p0_b), (.int .i64 p1_slot), (.int .i64 p2_sector), (.slice p3_data.base p3_data.len p3_data.cap)]) (m := bank_Bank_Write p0_b p1_slot p2_sector p3_data) 27 (by kernel_rfl) rfl rfl rfl (fun Qf0 => ?_) Qf w hm
  clear hm w Qf
  unfold bank_Bank_Write
  refine SC.seq ?_
  refine SC.region' ?_
  refine KT.pv 8 (.int .i64 0) ?_
  refine KT.nil ?_
  refine SX.seq ?_
  refine SC.seq ?_
  refine SC.region' ?_
  refine KT.pv 12 (.pointer p0_b) ?_
  refine KT.pv 13 (.int .i64 p1_slot) ?_
  refine KT.cl (fun y : (Int × Bool) => (.tuple #[(.int .i64 y.1), (.bool y.2)])) 14 72 #[(.pointer p0_b), (.int .i64 p1_slot)] (bank_Bank_disk_sim p0_b p1_slot) (fun x14 => ?_)
  refine KT.pv 11 (.tuple #[(.int .i64 x14.1), (.bool x14.2)]) ?_
  refine KT.pv 15 (.int .i64 x14.1) ?_
  refine KT.pv 16 (.bool x14.2) ?_
  refine KT.pv 9 (.int .i64 x14.1) ?_
  refine KT.pv 10 (.bool x14.2) ?_
  refine KT.nil ?_
  refine SX.seq ?_
  refine SC.seq ?_
  refine SC.seq ?_
  refine SC.region' ?_
  refine KT.pv 17 (.bool x14.2) ?_
  refine KT.pv 18 (.bool (!x14.2)) ?_
  refine KT.nil ?_
  refine SX.seq ?_
  refine SC.cond (b := !x14.2) rfl ?_ ?_
  refine SC.seq ?_
  refine SC.region' ?_
  refine KT.pv 8 (.int .i64 11) ?_
  refine KT.nil ?_
  refine SX.seq ?_
  refine SC.ret ?_
  refine SX.then_ret ?_
  refine SX.ret [.tmp 8] rfl ?_
  refine RS.tmp (.int .i64 11) rfl ?_
  exact RS.nil rfl
  refine SC.skip ?_
  refine SX.seq ?_
  refine SC.seq ?_
  refine SC.region' ?_
  refine KT.pv 19 (.pointer p0_b) ?_
  refine KT.nm 20 (fun x20 => ?_)
  refine KT.pv 21 (.pointer (some x20)) ?_
  refine KT.l 22 (fun x22 => ?_)
  refine KT.pv 23 (.int .i64 x14.1) ?_
  refine KT.pv 24 (.int .i64 p2_sector) ?_
  refine KT.pv 25 (.slice p3_data.base p3_data.len p3_data.cap) ?_
  refine KT.cl (Value.int .i64) 26 39 #[(.pointer x22), (.int .i64 x14.1), (.int .i64 p2_sector), (.slice p3_data.base p3_data.len p3_data.cap)] (device_Rack_Write_sim x22 x14.1 p2_sector p3_data) (fun x26 => ?_)
  refine KT.pv 8 (.int .i64 x26) ?_
  refine KT.nil ?_
  refine SX.seq ?_
  refine SC.ret ?_
  refine SX.ret [.tmp 8] rfl ?_
  refine RS.tmp (.int .i64 x26) rfl ?_
  exact RS.nil rfl
set_option maxRecDepth 100000 in
theorem device_Rack_Failed_sim (p0_r : (Option Addr)) (p1_disk : Int) (Qf : Bool → World → Prop) (w : World) (hm : device_Rack_Failed p0_r p1_disk Qf w) : Calls Try.prog 54 #[(.pointer p0_r), (.int .i64 p1_disk)] w (RetPost Value.bool Qf) := by
  refine calls_of (fn := Try.f54) (l := [(.pointer p0_r), (.int .i64 p1_disk)]) (m := device_Rack_Failed p0_r p1_disk) 28 (by kernel_rfl) rfl rfl rfl (fun Qf0 => ?_) Qf w hm
  clear hm w Qf
  unfold device_Rack_Failed
  refine SC.seq ?_
  refine SC.region' ?_
  refine KT.pv 4 (.bool false) ?_
  refine KT.nil ?_
  refine SX.seq ?_
  refine SC.seq ?_
  refine SC.region' ?_
  refine KT.pv 5 (.int .i64 p1_disk) ?_
  refine KT.pv 6 (.bool (decide (p1_disk ≥ 0))) ?_
  refine KT.pv 7 (.bool (decide (p1_disk ≥ 0))) ?_
  refine KT.joinO (β := Bool) 8 (fun r1 => [(15, (.bool r1)), (0, (.pointer p0_r)), (1, (.int .i64 p1_disk))]) (fun r1 => ?_) (fun j1 => ?_)
  refine KT.pv 16 (.bool r1) ?_
  refine KT.joinO (β := Bool) 11 (fun r2 => [(27, (.bool r2))]) (fun r2 => ?_) (fun j2 => ?_)
  refine KT.pv 4 (.bool r2) ?_
  refine KT.nil ?_
  refine SX.seq ?_
  refine SC.ret ?_
  refine SX.ret [.tmp 4] rfl ?_
  refine RS.tmp (.bool r2) rfl ?_
  exact RS.nil rfl
  refine KT.ite (b := r1) 16 rfl ?_ ?_
  refine KT.pv 17 (.pointer p0_r) ?_
  refine KT.nm 18 (fun x18 => ?_)
  refine KT.pv 19 (.pointer (some x18)) ?_
  refine KT.l 20 (fun x20 => ?_)
  refine KT.pv 21 (.int .i64 p1_disk) ?_
  refine KT.oy rfl (OY.idx (d := 22) (s := x20) (i := p1_disk) (size := 1) (elem := 111) _ _ _ rfl rfl rfl (by kernel_rfl) (by kernel_rfl) rfl rfl (fun x22 => ?_))
  refine KT.l 23 (fun x23 => ?_)
  refine KT.nm 24 (fun x24 => ?_)
  refine KT.pv 25 (.pointer (some (Addr.add x24 2))) ?_
  refine KT.l 26 (fun x26 => ?_)
  refine KT.pv 27 (.bool x26) ?_
  exact KT.leafO j2 (.cons rfl (.nil))
  refine KT.sk ?_
  refine KT.sk ?_
  refine KT.sk ?_
  refine KT.sk ?_
  refine KT.sk ?_
  refine KT.sk ?_
  refine KT.sk ?_
  refine KT.sk ?_
  refine KT.sk ?_
  refine KT.sk ?_
  refine KT.pv 27 (.bool false) ?_
  exact KT.leafO j2 (.cons rfl (.nil))
  refine KT.ite (b := decide (p1_disk ≥ 0)) 7 rfl ?_ ?_
  refine KT.pv 8 (.int .i64 p1_disk) ?_
  refine KT.pv 9 (.pointer p0_r) ?_
  refine KT.nm 10 (fun x10 => ?_)
  refine KT.pv 11 (.pointer (some x10)) ?_
  refine KT.l 12 (fun x12 => ?_)
  refine KT.pv 13 (.int .i64 ((x12.len : Nat) : Int)) ?_
  refine KT.pv 14 (.bool (decide (p1_disk < ((x12.len : Nat) : Int)))) ?_
  refine KT.pv 15 (.bool (decide (p1_disk < ((x12.len : Nat) : Int)))) ?_
  exact KT.leafO j1 (.cons rfl (.cons rfl (.cons rfl (.nil))))
  refine KT.sk ?_
  refine KT.sk ?_
  refine KT.sk ?_
  refine KT.sk ?_
  refine KT.sk ?_
  refine KT.sk ?_
  refine KT.sk ?_
  refine KT.pv 15 (.bool false) ?_
  exact KT.leafO j1 (.cons rfl (.cons rfl (.cons rfl (.nil))))
set_option maxRecDepth 100000 in
theorem bank_Bank_Bad_sim (p0_b : (Option Addr)) (Qf : Slc → World → Prop) (w : World) (hm : bank_Bank_Bad p0_b Qf w) : Calls Try.prog 33 #[(.pointer p0_b)] w (RetPost vS Qf) := by
  refine calls_of (fn := Try.f33) (l := [(.pointer p0_b)]) (m := bank_Bank_Bad p0_b) 50 (by kernel_rfl) rfl rfl rfl (fun Qf0 => ?_) Qf w hm
  clear hm w Qf
  unfold bank_Bank_Bad
  refine SC.seq ?_
  refine SC.region' ?_
  refine KT.pv 2 (.slice none 0 0) ?_
  refine KT.nil ?_
  refine SX.seq ?_
  refine SC.seq ?_
  refine SC.region' ?_
  refine KT.pv 3 (.slice none 0 0) ?_
  refine KT.nil ?_
  refine SX.seq ?_
  refine SC.seq ?_
  refine SC.seq ?_
  refine SC.region' ?_
  refine KT.pv 7 (.pointer p0_b) ?_
  refine KT.nm 8 (fun x8 => ?_)
  refine KT.pv 9 (.pointer (some (Addr.add x8 1))) ?_
  refine KT.pv 10 (.pointer (some (Addr.add x8 1))) ?_
  refine KT.l 11 (fun x11 => ?_)
  refine KT.pv 12 (.int .i64 0) ?_
  refine KT.nil ?_
  refine SX.seq ?_
  refine SC.block ?_
  refine SC.loop (σ := (Slc × Int)) (fun s1 => [(0, (.pointer p0_b)), (3, (.slice s1.1.base s1.1.len s1.1.cap)), (11, (.int .i64 x11)), (12, (.int .i64 s1.2))]) (.cons rfl (.cons rfl (.cons rfl (.cons rfl (.nil))))) (fun _ _ _ s1 => ?_)
  refine SC.seq ?_
  refine SC.region' ?_
  refine KT.pv 13 (.bool (decide (s1.2 < x11))) ?_
  refine KT.nil ?_
  refine SX.seq ?_
  refine SC.seq ?_
  refine SC.cond (b := decide (s1.2 < x11)) rfl ?_ ?_
  refine SC.skip ?_
  refine SX.seq ?_
  refine SC.seq ?_
  refine SC.block ?_
  refine SC.seq ?_
  refine SC.region' ?_
  refine KT.pv 14 (.int .i64 s1.2) ?_
  refine KT.pv 4 (.int .i64 s1.2) ?_
  refine KT.nil ?_
  refine SX.seq ?_
  refine SC.seq ?_
  refine SC.region' ?_
  refine KT.pv 16 (.pointer p0_b) ?_
  refine KT.pv 17 (.int .i64 s1.2) ?_
  refine KT.cl (fun y : (Int × Bool) => (.tuple #[(.int .i64 y.1), (.bool y.2)])) 18 72 #[(.pointer p0_b), (.int .i64 s1.2)] (bank_Bank_disk_sim p0_b s1.2) (fun x18 => ?_)
  refine KT.pv 15 (.tuple #[(.int .i64 x18.1), (.bool x18.2)]) ?_
  refine KT.pv 19 (.int .i64 x18.1) ?_
  refine KT.pv 20 (.bool x18.2) ?_
  refine KT.pv 5 (.int .i64 x18.1) ?_
  refine KT.pv 6 (.bool x18.2) ?_
  refine KT.nil ?_
  refine SX.seq ?_
  refine SC.seq ?_
  refine SC.region' ?_
  refine KT.pv 21 (.pointer p0_b) ?_
  refine KT.nm 22 (fun x22 => ?_)
  refine KT.pv 23 (.pointer (some x22)) ?_
  refine KT.l 24 (fun x24 => ?_)
  refine KT.pv 25 (.int .i64 x18.1) ?_
  refine KT.cl Value.bool 26 54 #[(.pointer x24), (.int .i64 x18.1)] (device_Rack_Failed_sim x24 x18.1) (fun x26 => ?_)
  refine KT.pv 27 (.bool x26) ?_
  refine KT.joinO (β := Bool) 16 (fun r2 => [(43, (.bool r2)), (0, (.pointer p0_b)), (3, (.slice s1.1.base s1.1.len s1.1.cap)), (4, (.int .i64 s1.2)), (11, (.int .i64 x11)), (12, (.int .i64 s1.2))]) (fun r2 => ?_) (fun j2 => ?_)
  refine KT.nil ?_
  refine SX.seq ?_
  refine SC.cond (b := r2) rfl ?_ ?_
  refine SC.region' ?_
  refine KT.pv 44 (.slice s1.1.base s1.1.len s1.1.cap) ?_
  refine KT.pv 45 (.int .i64 s1.2) ?_
  refine KT.nw 46 (fun ad => .slice (some ad) 1 1) 3 (fun x46 => ?_)
  refine KT.ow rfl (OW.append (d := 47) (s := s1.1) (x := ⟨some x46, 1, 1⟩) [(.int .i64 0)] 8 3 _ _ _ _ rfl rfl rfl rfl (by kernel_rfl) (by kernel_rfl) rfl rfl rfl (fun x47 => ?_))
  refine KT.pv 3 (.slice x47.base x47.len x47.cap) ?_
  refine KT.nil ?_
  refine SX.block ?_
  refine SX.seq ?_
  refine SC.region' ?_
  refine KT.pv 48 (.int .i64 (w64 (s1.2 + 1))) ?_
  refine KT.pv 12 (.int .i64 (w64 (s1.2 + 1))) ?_
  refine KT.nil ?_
  exact SX.loop_next (.cons rfl (.cons rfl (.cons rfl (.cons rfl (.nil)))))
  refine SC.skip ?_
  refine SX.block ?_
  refine SX.seq ?_
  refine SC.region' ?_
  refine KT.pv 48 (.int .i64 (w64 (s1.2 + 1))) ?_
  refine KT.pv 12 (.int .i64 (w64 (s1.2 + 1))) ?_
  refine KT.nil ?_
  exact SX.loop_next (.cons rfl (.cons rfl (.cons rfl (.cons rfl (.nil)))))
  refine KT.ite (b := x26) 27 rfl ?_ ?_
  refine KT.sk ?_
  refine KT.sk ?_
  refine KT.sk ?_
  refine KT.sk ?_
  refine KT.sk ?_
  refine KT.sk ?_
  refine KT.sk ?_
  refine KT.sk ?_
  refine KT.sk ?_
  refine KT.sk ?_
  refine KT.sk ?_
  refine KT.sk ?_
  refine KT.sk ?_
  refine KT.sk ?_
  refine KT.sk ?_
  refine KT.pv 43 (.bool true) ?_
  exact KT.leafO j2 (.cons rfl (.cons rfl (.cons rfl (.cons rfl (.cons rfl (.cons rfl (.nil)))))))
  refine KT.pv 28 (.pointer p0_b) ?_
  refine KT.nm 29 (fun x29 => ?_)
  refine KT.pv 30 (.pointer (some (Addr.add x29 4))) ?_
  refine KT.pv 31 (.pointer (some (Addr.add (Addr.add x29 4) 2))) ?_
  refine KT.l 32 (fun x32 => ?_)
  refine KT.pv 33 (.bool (x32 == 1)) ?_
  refine KT.pv 34 (.bool (x32 == 1)) ?_
  refine KT.joinO (β := Bool) 8 (fun r3 => [(42, (.bool r3)), (0, (.pointer p0_b)), (3, (.slice s1.1.base s1.1.len s1.1.cap)), (4, (.int .i64 s1.2)), (11, (.int .i64 x11)), (12, (.int .i64 s1.2)), (27, (.bool false))]) (fun r3 => ?_) (fun j3 => ?_)
  refine KT.pv 43 (.bool r3) ?_
  exact KT.leafO j2 (.cons rfl (.cons rfl (.cons rfl (.cons rfl (.cons rfl (.cons rfl (.nil)))))))
  refine KT.ite (b := x32 == 1) 34 rfl ?_ ?_
  refine KT.pv 35 (.pointer p0_b) ?_
  refine KT.nm 36 (fun x36 => ?_)
  refine KT.pv 37 (.pointer (some (Addr.add x36 4))) ?_
  refine KT.pv 38 (.pointer (some (Addr.add (Addr.add x36 4) 1))) ?_
  refine KT.l 39 (fun x39 => ?_)
  refine KT.pv 40 (.int .i64 s1.2) ?_
  refine KT.pv 41 (.bool (x39 == s1.2)) ?_
  refine KT.pv 42 (.bool (x39 == s1.2)) ?_
  exact KT.leafO j3 (.cons rfl (.cons rfl (.cons rfl (.cons rfl (.cons rfl (.cons rfl (.cons rfl (.nil))))))))
  refine KT.sk ?_
  refine KT.sk ?_
  refine KT.sk ?_
  refine KT.sk ?_
  refine KT.sk ?_
  refine KT.sk ?_
  refine KT.sk ?_
  refine KT.pv 42 (.bool false) ?_
  exact KT.leafO j3 (.cons rfl (.cons rfl (.cons rfl (.cons rfl (.cons rfl (.cons rfl (.cons rfl (.nil))))))))
  refine SC.exit ?_
  refine SX.then_exit ?_
  refine SX.loop_exit ?_
  refine SX.block_hit ?_
  refine SX.seq ?_
  refine SC.seq ?_
  refine SC.region' ?_
  refine KT.pv 49 (.slice s1.1.base s1.1.len s1.1.cap) ?_
  refine KT.pv 2 (.slice s1.1.base s1.1.len s1.1.cap) ?_
  refine KT.nil ?_
  refine SX.seq ?_
  refine SC.ret ?_
  refine SX.ret [.tmp 2] rfl ?_
  refine RS.tmp (.slice s1.1.base s1.1.len s1.1.cap) rfl ?_
  exact RS.nil rfl
set_option maxRecDepth 100000 in
theorem bank_Bank_Geo_sim (p0_b : (Option Addr)) (Qf : (Int × Int × Int) → World → Prop) (w : World) (hm : bank_Bank_Geo p0_b Qf w) : Calls Try.prog 63 #[(.pointer p0_b)] w (RetPost (fun y : (Int × Int × Int) => (.agg #[(.int .i64 y.1), (.int .i64 y.2.1), (.int .i64 y.2.2)])) Qf) := by
  refine calls_of (fn := Try.f63) (l := [(.pointer p0_b)]) (m := bank_Bank_Geo p0_b) 7 (by kernel_rfl) rfl rfl rfl (fun Qf0 => ?_) Qf w hm
  clear hm w Qf
  unfold bank_Bank_Geo
  refine SC.seq ?_
  refine SC.region' ?_
  refine KT.nw 2 (fun ad => .pointer (some ad)) 23 (fun x2 => ?_)
  refine KT.nil ?_
  refine SX.seq ?_
  refine SC.seq ?_
  refine SC.region' ?_
  refine KT.pv 3 (.pointer p0_b) ?_
  refine KT.nm 4 (fun x4 => ?_)
  refine KT.pv 5 (.pointer (some (Addr.add x4 1))) ?_
  refine KT.ow rfl (OW.ldA (d := 6) (enc := (fun y : (Int × Int × Int) => [(.int .i64 y.1), (.int .i64 y.2.1), (.int .i64 y.2.2)])) 3 _ _ rfl rfl (by kernel_rfl) (by kernel_rfl) (fun _ => rfl) rfl rfl (fun x6 => ?_))
  refine KT.ow rfl (OW.stA _ _ _ rfl rfl rfl rfl rfl (by kernel_rfl) ?_)
  refine KT.nil ?_
  refine SX.seq ?_
  refine SC.ret ?_
  refine SX.ret [.cell 2 23] rfl ?_
  refine RS.cellA 3 (by kernel_rfl) rfl rfl (fun _ => rfl) (fun r2 => ?_)
  exact RS.nil rfl
set_option maxRecDepth 100000 in
theorem geo_Places_sim (p0_g : (Int × Int × Int)) (Qf : Int → World → Prop) (w : World) (hm : geo_Places p0_g Qf w) : Calls Try.prog 117 #[(.agg #[(.int .i64 p0_g.1), (.int .i64 p0_g.2.1), (.int .i64 p0_g.2.2)])] w (RetPost (Value.int .i64) Qf) := by
  refine calls_of (fn := Try.f117) (l := [(.agg #[(.int .i64 p0_g.1), (.int .i64 p0_g.2.1), (.int .i64 p0_g.2.2)])]) (m := geo_Places p0_g) 8 (by kernel_rfl) rfl rfl rfl (fun Qf0 => ?_) Qf w hm
  clear hm w Qf
  unfold geo_Places
  refine SC.seq ?_
  refine SC.region' ?_
  refine KT.nw 1 (fun ad => .pointer (some ad)) 23 (fun x1 => ?_)
  refine KT.pv 2 (.int .i64 0) ?_
  refine KT.nil ?_
  refine SX.seq ?_
  refine SC.seq ?_
  refine SC.seq ?_
  refine SC.region' ?_
  refine KT.ow rfl (OW.ldA (d := 3) (enc := (fun y : (Int × Int × Int) => [(.int .i64 y.1), (.int .i64 y.2.1), (.int .i64 y.2.2)])) 3 _ _ rfl rfl (by kernel_rfl) (by kernel_rfl) (fun _ => rfl) rfl rfl (fun x3 => ?_))
  refine KT.cl Value.bool 4 64 #[(.agg #[(.int .i64 x3.1), (.int .i64 x3.2.1), (.int .i64 x3.2.2)])] (geo_Right_sim (x3.1, x3.2.1, x3.2.2)) (fun x4 => ?_)
  refine KT.pv 5 (.bool (!x4)) ?_
  refine KT.nil ?_
  refine SX.seq ?_
  refine SC.cond (b := !x4) rfl ?_ ?_
  refine SC.seq ?_
  refine SC.region' ?_
  refine KT.pv 2 (.int .i64 0) ?_
  refine KT.nil ?_
  refine SX.seq ?_
  refine SC.ret ?_
  refine SX.then_ret ?_
  refine SX.ret [.tmp 2] rfl ?_
  refine RS.tmp (.int .i64 0) rfl ?_
  exact RS.nil rfl
  refine SC.skip ?_
  refine SX.seq ?_
  refine SC.seq ?_
  refine SC.region' ?_
  refine KT.ow rfl (OW.ldA (d := 6) (enc := (fun y : (Int × Int × Int) => [(.int .i64 y.1), (.int .i64 y.2.1), (.int .i64 y.2.2)])) 3 _ _ rfl rfl (by kernel_rfl) (by kernel_rfl) (fun _ => rfl) rfl rfl (fun x6 => ?_))
  refine KT.cl (Value.int .i64) 7 112 #[(.agg #[(.int .i64 x6.1), (.int .i64 x6.2.1), (.int .i64 x6.2.2)])] (geo_places_sim (x6.1, x6.2.1, x6.2.2)) (fun x7 => ?_)
  refine KT.pv 2 (.int .i64 x7) ?_
  refine KT.nil ?_
  refine SX.seq ?_
  refine SC.ret ?_
  refine SX.ret [.tmp 2] rfl ?_
  refine RS.tmp (.int .i64 x7) rfl ?_
  exact RS.nil rfl
set_option maxRecDepth 100000 in
theorem bytes_Join_sim (p0_s : Slc) (p1_sep : Slc) (Qf : Slc → World → Prop) (w : World) (hm : bytes_Join p0_s p1_sep Qf w) : Calls Try.prog 136 #[(.slice p0_s.base p0_s.len p0_s.cap), (.slice p1_sep.base p1_sep.len p1_sep.cap)] w (RetPost vS Qf) := by
  refine calls_of (fn := Try.f136) (l := [(.slice p0_s.base p0_s.len p0_s.cap), (.slice p1_sep.base p1_sep.len p1_sep.cap)]) (m := bytes_Join p0_s p1_sep) 92 (by kernel_rfl) rfl rfl rfl (fun Qf0 => ?_) Qf w hm
  clear hm w Qf
  unfold bytes_Join
  refine SC.seq ?_
  refine SC.region' ?_
  refine KT.pv 4 (.slice none 0 0) ?_
  refine KT.nil ?_
  refine SX.seq ?_
  refine SC.seq ?_
  refine SC.seq ?_
  refine SC.region' ?_
  refine KT.pv 12 (.slice p0_s.base p0_s.len p0_s.cap) ?_
  refine KT.pv 13 (.int .i64 ((p0_s.len : Nat) : Int)) ?_
  refine KT.pv 14 (.bool (((p0_s.len : Nat) : Int) == 0)) ?_
  refine KT.nil ?_
  refine SX.seq ?_
  refine SC.cond (b := ((p0_s.len : Nat) : Int) == 0) rfl ?_ ?_
  refine SC.seq ?_
  refine SC.region' ?_
  refine KT.nw 15 (fun ad => .slice (some ad) 0 0) 5 (fun x15 => ?_)
  refine KT.pv 4 (.slice (some x15) 0 0) ?_
  refine KT.nil ?_
  refine SX.seq ?_
  refine SC.ret ?_
  refine SX.then_ret ?_
  refine SX.ret [.tmp 4] rfl ?_
  refine RS.tmp (.slice (some x15) 0 0) rfl ?_
  exact RS.nil rfl
  refine SC.skip ?_
  refine SX.seq ?_
  refine SC.seq ?_
  refine SC.seq ?_
  refine SC.region' ?_
  refine KT.pv 16 (.slice p0_s.base p0_s.len p0_s.cap) ?_
  refine KT.pv 17 (.int .i64 ((p0_s.len : Nat) : Int)) ?_
  refine KT.pv 18 (.bool (((p0_s.len : Nat) : Int) == 1)) ?_
  refine KT.nil ?_
  refine SX.seq ?_
  refine SC.cond (b := ((p0_s.len : Nat) : Int) == 1) rfl ?_ ?_
  refine SC.seq ?_
  refine SC.region' ?_
  refine KT.pv 19 (.slice p0_s.base p0_s.len p0_s.cap) ?_
  refine KT.oy rfl (OY.idx (d := 20) (s := p0_s) (i := 0) (size := 1) (elem := 46) _ _ _ rfl rfl rfl (by kernel_rfl) (by kernel_rfl) rfl rfl (fun x20 => ?_))
  refine KT.l 21 (fun x21 => ?_)
  refine KT.ow rfl (OW.append (d := 22) (s := ⟨none, 0, 0⟩) (x := x21) [(.int .u8 0)] 1 5 _ _ _ _ rfl rfl rfl rfl (by kernel_rfl) (by kernel_rfl) rfl rfl rfl (fun x22 => ?_))
  refine KT.pv 4 (.slice x22.base x22.len x22.cap) ?_
  refine KT.nil ?_
  refine SX.seq ?_
  refine SC.ret ?_
  refine SX.then_ret ?_
  refine SX.ret [.tmp 4] rfl ?_
  refine RS.tmp (.slice x22.base x22.len x22.cap) rfl ?_
  exact RS.nil rfl
  refine SC.skip ?_
  refine SX.seq ?_
  refine SC.seq ?_
  refine SC.region' ?_
  refine KT.pv 5 (.int .i64 0) ?_
  refine KT.nil ?_
  refine SX.seq ?_
  refine SC.seq ?_
  refine SC.seq ?_
  refine SC.region' ?_
  refine KT.pv 23 (.slice p1_sep.base p1_sep.len p1_sep.cap) ?_
  refine KT.pv 24 (.int .i64 ((p1_sep.len : Nat) : Int)) ?_
  refine KT.pv 25 (.bool (decide (((p1_sep.len : Nat) : Int) > 0))) ?_
  refine KT.nil ?_
  refine SX.seq ?_
  refine SC.join (β := (Int)) (fun b1 => [(0, (.slice p0_s.base p0_s.len p0_s.cap)), (1, (.slice p1_sep.base p1_sep.len p1_sep.cap)), (5, (.int .i64 b1))]) (fun b1 => ?_) (fun j1 => ?_)
  refine SX.seq ?_
  refine SC.seq ?_
  refine SC.seq ?_
  refine SC.region' ?_
  refine KT.pv 42 (.slice p0_s.base p0_s.len p0_s.cap) ?_
  refine KT.pv 43 (.int .i64 ((p0_s.len : Nat) : Int)) ?_
  refine KT.pv 44 (.int .i64 0) ?_
  refine KT.nil ?_
  refine SX.seq ?_
  refine SC.block ?_
  refine SC.loop (σ := (Int × Int)) (fun s2 => [(0, (.slice p0_s.base p0_s.len p0_s.cap)), (1, (.slice p1_sep.base p1_sep.len p1_sep.cap)), (5, (.int .i64 s2.1)), (42, (.slice p0_s.base p0_s.len p0_s.cap)), (43, (.int .i64 ((p0_s.len : Nat) : Int))), (44, (.int .i64 s2.2))]) (.cons rfl (.cons rfl (.cons rfl (.cons rfl (.cons rfl (.cons rfl (.nil))))))) (fun _ _ _ s2 => ?_)
  refine SC.seq ?_
  refine SC.region' ?_
  refine KT.pv 45 (.bool (decide (s2.2 < ((p0_s.len : Nat) : Int)))) ?_
  refine KT.nil ?_
  refine SX.seq ?_
  refine SC.seq ?_
  refine SC.cond (b := decide (s2.2 < ((p0_s.len : Nat) : Int))) rfl ?_ ?_
  refine SC.skip ?_
  refine SX.seq ?_
  refine SC.seq ?_
  refine SC.block ?_
  refine SC.seq ?_
  refine SC.region' ?_
  refine KT.oy rfl (OY.idx (d := 46) (s := p0_s) (i := s2.2) (size := 1) (elem := 46) _ _ _ rfl rfl rfl (by kernel_rfl) (by kernel_rfl) rfl rfl (fun x46 => ?_))
  refine KT.l 47 (fun x47 => ?_)
  refine KT.pv 7 (.slice x47.base x47.len x47.cap) ?_
  refine KT.nil ?_
  refine SX.seq ?_
  refine SC.seq ?_
  refine SC.seq ?_
  refine SC.region' ?_
  refine KT.pv 48 (.slice x47.base x47.len x47.cap) ?_
  refine KT.pv 49 (.int .i64 ((x47.len : Nat) : Int)) ?_
  refine KT.pv 50 (.int .i64 s2.1) ?_
  refine KT.pv 51 (.int .i64 (w64 (9223372036854775807 - s2.1))) ?_
  refine KT.pv 52 (.bool (decide (((x47.len : Nat) : Int) > (w64 (9223372036854775807 - s2.1))))) ?_
  refine KT.nil ?_
  refine SX.seq ?_
  refine SC.join (β := Unit) (fun b3 => [(0, (.slice p0_s.base p0_s.len p0_s.cap)), (1, (.slice p1_sep.base p1_sep.len p1_sep.cap)), (5, (.int .i64 s2.1)), (7, (.slice x47.base x47.len x47.cap)), (42, (.slice p0_s.base p0_s.len p0_s.cap)), (43, (.int .i64 ((p0_s.len : Nat) : Int))), (44, (.int .i64 s2.2))]) (fun b3 => ?_) (fun j3 => ?_)
  refine SX.seq ?_
  refine SC.region' ?_
  refine KT.pv 54 (.int .i64 s2.1) ?_
  refine KT.pv 55 (.slice x47.base x47.len x47.cap) ?_
  refine KT.pv 56 (.int .i64 ((x47.len : Nat) : Int)) ?_
  refine KT.pv 57 (.int .i64 (w64 (s2.1 + ((x47.len : Nat) : Int)))) ?_
  refine KT.pv 5 (.int .i64 (w64 (s2.1 + ((x47.len : Nat) : Int)))) ?_
  refine KT.nil ?_
  refine SX.block ?_
  refine SX.seq ?_
  refine SC.region' ?_
  refine KT.pv 58 (.int .i64 (w64 (s2.2 + 1))) ?_
  refine KT.pv 44 (.int .i64 (w64 (s2.2 + 1))) ?_
  refine KT.nil ?_
  exact SX.loop_next (.cons rfl (.cons rfl (.cons rfl (.cons rfl (.cons rfl (.cons rfl (.nil)))))))
  refine SC.cond (b := decide (((x47.len : Nat) : Int) > (w64 (9223372036854775807 - s2.1)))) rfl ?_ ?_
  refine SC.region' ?_
  refine KT.pv 53 (.iface 9 (.string (ByteArray.mk #[98, 121, 116, 101, 115, 58, 32, 74, 111, 105, 110, 32, 111, 117, 116, 112, 117, 116, 32, 108, 101, 110, 103, 116, 104, 32, 111, 118, 101, 114, 102, 108, 111, 119]))) ?_
  exact fun _ _ _ hm => hm.elim
  refine SC.skip ?_
  exact SX.leafS j3 (.cons rfl (.cons rfl (.cons rfl (.cons rfl (.cons rfl (.cons rfl (.cons rfl (.nil))))))))
  refine SC.exit ?_
  refine SX.then_exit ?_
  refine SX.loop_exit ?_
  refine SX.block_hit ?_
  refine SX.seq ?_
  refine SC.seq ?_
  refine SC.region' ?_
  refine KT.pv 59 (.int .i64 s2.1) ?_
  refine KT.ow rfl (OW.noZero (d := 60) (nn := s2.1) 150 #[3] 46 5 rfl (fun _ => by kernel_rfl) (fun w => makeNoZero_run s2.1 w) rfl rfl rfl (fun x60 => ?_))
  refine KT.pv 61 (.int .i64 s2.1) ?_
  refine KT.pv 62 (.int .i64 s2.1) ?_
  refine KT.oy rfl (OY.slice3 (d := 63) (s := x60) (hi := s2.1) (mi := s2.1) (size := 1) (elem := 5) _ _ _ _ rfl rfl rfl rfl (by kernel_rfl) (by kernel_rfl) rfl rfl (fun x63 => ?_))
  refine KT.pv 8 (.slice x63.base x63.len x63.cap) ?_
  refine KT.nil ?_
  refine SX.seq ?_
  refine SC.seq ?_
  refine SC.region' ?_
  refine KT.pv 64 (.slice x63.base x63.len x63.cap) ?_
  refine KT.pv 65 (.slice p0_s.base p0_s.len p0_s.cap) ?_
  refine KT.oy rfl (OY.idx (d := 66) (s := p0_s) (i := 0) (size := 1) (elem := 46) _ _ _ rfl rfl rfl (by kernel_rfl) (by kernel_rfl) rfl rfl (fun x66 => ?_))
  refine KT.l 67 (fun x67 => ?_)
  refine KT.ow rfl (OW.copy (d := 68) (s := x63) (x := x67) 1 5 _ _ _ _ rfl rfl rfl rfl (by kernel_rfl) (by kernel_rfl) rfl rfl (fun x68 => ?_))
  refine KT.pv 9 (.int .i64 x68) ?_
  refine KT.nil ?_
  refine SX.seq ?_
  refine SC.seq ?_
  refine SC.seq ?_
  refine SC.region' ?_
  refine KT.pv 69 (.slice p0_s.base p0_s.len p0_s.cap) ?_
  refine KT.oy rfl (OY.slice10 (d := 70) (s := p0_s) (lo := 1) (size := 1) (elem := 46) _ _ _ rfl rfl rfl (by kernel_rfl) (by kernel_rfl) rfl rfl (fun x70 => ?_))
  refine KT.pv 71 (.int .i64 ((x70.len : Nat) : Int)) ?_
  refine KT.pv 72 (.int .i64 0) ?_
  refine KT.nil ?_
  refine SX.seq ?_
  refine SC.block ?_
  refine SC.loop (σ := (Int × Int)) (fun s4 => [(1, (.slice p1_sep.base p1_sep.len p1_sep.cap)), (8, (.slice x63.base x63.len x63.cap)), (9, (.int .i64 s4.1)), (70, (.slice x70.base x70.len x70.cap)), (71, (.int .i64 ((x70.len : Nat) : Int))), (72, (.int .i64 s4.2))]) (.cons rfl (.cons rfl (.cons rfl (.cons rfl (.cons rfl (.cons rfl (.nil))))))) (fun _ _ _ s4 => ?_)
  refine SC.seq ?_
  refine SC.region' ?_
  refine KT.pv 73 (.bool (decide (s4.2 < ((x70.len : Nat) : Int)))) ?_
  refine KT.nil ?_
  refine SX.seq ?_
  refine SC.seq ?_
  refine SC.cond (b := decide (s4.2 < ((x70.len : Nat) : Int))) rfl ?_ ?_
  refine SC.skip ?_
  refine SX.seq ?_
  refine SC.seq ?_
  refine SC.block ?_
  refine SC.seq ?_
  refine SC.region' ?_
  refine KT.oy rfl (OY.idx (d := 74) (s := x70) (i := s4.2) (size := 1) (elem := 46) _ _ _ rfl rfl rfl (by kernel_rfl) (by kernel_rfl) rfl rfl (fun x74 => ?_))
  refine KT.l 75 (fun x75 => ?_)
  refine KT.pv 11 (.slice x75.base x75.len x75.cap) ?_
  refine KT.nil ?_
  refine SX.seq ?_
  refine SC.seq ?_
  refine SC.region' ?_
  refine KT.pv 76 (.int .i64 s4.1) ?_
  refine KT.pv 77 (.slice x63.base x63.len x63.cap) ?_
  refine KT.pv 78 (.int .i64 s4.1) ?_
  refine KT.oy rfl (OY.slice10 (d := 79) (s := x63) (lo := s4.1) (size := 1) (elem := 5) _ _ _ rfl rfl rfl (by kernel_rfl) (by kernel_rfl) rfl rfl (fun x79 => ?_))
  refine KT.pv 80 (.slice p1_sep.base p1_sep.len p1_sep.cap) ?_
  refine KT.ow rfl (OW.copy (d := 81) (s := x79) (x := p1_sep) 1 5 _ _ _ _ rfl rfl rfl rfl (by kernel_rfl) (by kernel_rfl) rfl rfl (fun x81 => ?_))
  refine KT.pv 82 (.int .i64 (w64 (s4.1 + x81))) ?_
  refine KT.pv 9 (.int .i64 (w64 (s4.1 + x81))) ?_
  refine KT.nil ?_
  refine SX.seq ?_
  refine SC.region' ?_
  refine KT.pv 83 (.int .i64 (w64 (s4.1 + x81))) ?_
  refine KT.pv 84 (.slice x63.base x63.len x63.cap) ?_
  refine KT.pv 85 (.int .i64 (w64 (s4.1 + x81))) ?_
  refine KT.oy rfl (OY.slice10 (d := 86) (s := x63) (lo := w64 (s4.1 + x81)) (size := 1) (elem := 5) _ _ _ rfl rfl rfl (by kernel_rfl) (by kernel_rfl) rfl rfl (fun x86 => ?_))
  refine KT.pv 87 (.slice x75.base x75.len x75.cap) ?_
  refine KT.ow rfl (OW.copy (d := 88) (s := x86) (x := x75) 1 5 _ _ _ _ rfl rfl rfl rfl (by kernel_rfl) (by kernel_rfl) rfl rfl (fun x88 => ?_))
  refine KT.pv 89 (.int .i64 (w64 ((w64 (s4.1 + x81)) + x88))) ?_
  refine KT.pv 9 (.int .i64 (w64 ((w64 (s4.1 + x81)) + x88))) ?_
  refine KT.nil ?_
  refine SX.block ?_
  refine SX.seq ?_
  refine SC.region' ?_
  refine KT.pv 90 (.int .i64 (w64 (s4.2 + 1))) ?_
  refine KT.pv 72 (.int .i64 (w64 (s4.2 + 1))) ?_
  refine KT.nil ?_
  exact SX.loop_next (.cons rfl (.cons rfl (.cons rfl (.cons rfl (.cons rfl (.cons rfl (.nil)))))))
  refine SC.exit ?_
  refine SX.then_exit ?_
  refine SX.loop_exit ?_
  refine SX.block_hit ?_
  refine SX.seq ?_
  refine SC.seq ?_
  refine SC.region' ?_
  refine KT.pv 91 (.slice x63.base x63.len x63.cap) ?_
  refine KT.pv 4 (.slice x63.base x63.len x63.cap) ?_
  refine KT.nil ?_
  refine SX.seq ?_
  refine SC.ret ?_
  refine SX.ret [.tmp 4] rfl ?_
  refine RS.tmp (.slice x63.base x63.len x63.cap) rfl ?_
  exact RS.nil rfl
  refine SC.cond (b := decide (((p1_sep.len : Nat) : Int) > 0)) rfl ?_ ?_
  refine SC.seq ?_
  refine SC.seq ?_
  refine SC.region' ?_
  refine KT.pv 26 (.slice p1_sep.base p1_sep.len p1_sep.cap) ?_
  refine KT.pv 27 (.int .i64 ((p1_sep.len : Nat) : Int)) ?_
  refine KT.pv 28 (.slice p0_s.base p0_s.len p0_s.cap) ?_
  refine KT.pv 29 (.int .i64 ((p0_s.len : Nat) : Int)) ?_
  refine KT.pv 30 (.int .i64 (w64 (((p0_s.len : Nat) : Int) - 1))) ?_
  refine KT.oy rfl (OY.quo (d := 31) (x := 9223372036854775807) (y := w64 (((p0_s.len : Nat) : Int) - 1)) _ _ _ _ (w64 (Int.tdiv 9223372036854775807 (w64 (((p0_s.len : Nat) : Int) - 1)))) rfl rfl rfl rfl rfl rfl ?_)
  refine KT.pv 32 (.bool (decide (((p1_sep.len : Nat) : Int) ≥ (w64 (Int.tdiv 9223372036854775807 (w64 (((p0_s.len : Nat) : Int) - 1))))))) ?_
  refine KT.nil ?_
  refine SX.seq ?_
  refine SC.join (β := Unit) (fun b5 => [(0, (.slice p0_s.base p0_s.len p0_s.cap)), (1, (.slice p1_sep.base p1_sep.len p1_sep.cap)), (5, (.int .i64 0))]) (fun b5 => ?_) (fun j5 => ?_)
  refine SX.seq ?_
  refine SC.region' ?_
  refine KT.pv 34 (.int .i64 0) ?_
  refine KT.pv 35 (.slice p1_sep.base p1_sep.len p1_sep.cap) ?_
  refine KT.pv 36 (.int .i64 ((p1_sep.len : Nat) : Int)) ?_
  refine KT.pv 37 (.slice p0_s.base p0_s.len p0_s.cap) ?_
  refine KT.pv 38 (.int .i64 ((p0_s.len : Nat) : Int)) ?_
  refine KT.pv 39 (.int .i64 (w64 (((p0_s.len : Nat) : Int) - 1))) ?_
  refine KT.pv 40 (.int .i64 (w64 (((p1_sep.len : Nat) : Int) * (w64 (((p0_s.len : Nat) : Int) - 1))))) ?_
  refine KT.pv 41 (.int .i64 (w64 (0 + (w64 (((p1_sep.len : Nat) : Int) * (w64 (((p0_s.len : Nat) : Int) - 1))))))) ?_
  refine KT.pv 5 (.int .i64 (w64 (0 + (w64 (((p1_sep.len : Nat) : Int) * (w64 (((p0_s.len : Nat) : Int) - 1))))))) ?_
  refine KT.nil ?_
  exact SX.leafS j1 (.cons rfl (.cons rfl (.cons rfl (.nil))))
  refine SC.cond (b := decide (((p1_sep.len : Nat) : Int) ≥ (w64 (Int.tdiv 9223372036854775807 (w64 (((p0_s.len : Nat) : Int) - 1)))))) rfl ?_ ?_
  refine SC.region' ?_
  refine KT.pv 33 (.iface 9 (.string (ByteArray.mk #[98, 121, 116, 101, 115, 58, 32, 74, 111, 105, 110, 32, 111, 117, 116, 112, 117, 116, 32, 108, 101, 110, 103, 116, 104, 32, 111, 118, 101, 114, 102, 108, 111, 119]))) ?_
  exact fun _ _ _ hm => hm.elim
  refine SC.skip ?_
  exact SX.leafS j5 (.cons rfl (.cons rfl (.cons rfl (.nil))))
  refine SC.skip ?_
  exact SX.leafS j1 (.cons rfl (.cons rfl (.cons rfl (.nil))))
set_option maxRecDepth 100000 in
theorem bits_Put_sim (p0_width : Int) (p1_n : Int) (Qf : Slc → World → Prop) (w : World) (hm : bits_Put p0_width p1_n Qf w) : Calls Try.prog 137 #[(.int .i64 p0_width), (.int .i64 p1_n)] w (RetPost vS Qf) := by
  refine calls_of (fn := Try.f137) (l := [(.int .i64 p0_width), (.int .i64 p1_n)]) (m := bits_Put p0_width p1_n) 41 (by kernel_rfl) rfl rfl rfl (fun Qf0 => ?_) Qf w hm
  clear hm w Qf
  unfold bits_Put
  refine SC.seq ?_
  refine SC.region' ?_
  refine KT.pv 4 (.slice none 0 0) ?_
  refine KT.nil ?_
  refine SX.seq ?_
  refine SC.seq ?_
  refine SC.seq ?_
  refine SC.region' ?_
  refine KT.pv 7 (.int .i64 p0_width) ?_
  refine KT.pv 8 (.bool (decide (p0_width < 1))) ?_
  refine KT.pv 9 (.bool (decide (p0_width < 1))) ?_
  refine KT.joinO (β := Bool) 3 (fun r1 => [(12, (.bool r1)), (0, (.int .i64 p0_width)), (1, (.int .i64 p1_n))]) (fun r1 => ?_) (fun j1 => ?_)
  refine KT.pv 13 (.bool r1) ?_
  refine KT.joinO (β := Bool) 3 (fun r2 => [(16, (.bool r2)), (0, (.int .i64 p0_width)), (1, (.int .i64 p1_n))]) (fun r2 => ?_) (fun j2 => ?_)
  refine KT.pv 17 (.bool r2) ?_
  refine KT.joinO (β := Bool) 6 (fun r3 => [(23, (.bool r3)), (0, (.int .i64 p0_width)), (1, (.int .i64 p1_n))]) (fun r3 => ?_) (fun j3 => ?_)
  refine KT.nil ?_
  refine SX.seq ?_
  refine SC.cond (b := r3) rfl ?_ ?_
  refine SC.seq ?_
  refine SC.region' ?_
  refine KT.pv 4 (.slice none 0 0) ?_
  refine KT.nil ?_
  refine SX.seq ?_
  refine SC.ret ?_
  refine SX.then_ret ?_
  refine SX.ret [.tmp 4] rfl ?_
  refine RS.tmp (.slice none 0 0) rfl ?_
  exact RS.nil rfl
  refine SC.skip ?_
  refine SX.seq ?_
  refine SC.seq ?_
  refine SC.region' ?_
  refine KT.pv 24 (.int .i64 p0_width) ?_
  refine KT.ow rfl (OW.make (d := 25) (nn := p0_width) [(.int .u8 0)] 1 5 _ _ _ rfl rfl rfl (by kernel_rfl) (by kernel_rfl) rfl rfl rfl (fun x25 => ?_))
  refine KT.pv 5 (.slice x25.base x25.len x25.cap) ?_
  refine KT.nil ?_
  refine SX.seq ?_
  refine SC.seq ?_
  refine SC.seq ?_
  refine SC.region' ?_
  refine KT.pv 26 (.slice x25.base x25.len x25.cap) ?_
  refine KT.pv 27 (.int .i64 ((x25.len : Nat) : Int)) ?_
  refine KT.pv 28 (.int .i64 0) ?_
  refine KT.nil ?_
  refine SX.seq ?_
  refine SC.block ?_
  refine SC.loop (σ := (Int)) (fun s4 => [(1, (.int .i64 p1_n)), (5, (.slice x25.base x25.len x25.cap)), (27, (.int .i64 ((x25.len : Nat) : Int))), (28, (.int .i64 s4))]) (.cons rfl (.cons rfl (.cons rfl (.cons rfl (.nil))))) (fun _ _ _ s4 => ?_)
  refine SC.seq ?_
  refine SC.region' ?_
  refine KT.pv 29 (.bool (decide (s4 < ((x25.len : Nat) : Int)))) ?_
  refine KT.nil ?_
  refine SX.seq ?_
  refine SC.seq ?_
  refine SC.cond (b := decide (s4 < ((x25.len : Nat) : Int))) rfl ?_ ?_
  refine SC.skip ?_
  refine SX.seq ?_
  refine SC.seq ?_
  refine SC.block ?_
  refine SC.seq ?_
  refine SC.region' ?_
  refine KT.pv 30 (.int .i64 s4) ?_
  refine KT.pv 6 (.int .i64 s4) ?_
  refine KT.nil ?_
  refine SX.seq ?_
  refine SC.region' ?_
  refine KT.pv 31 (.slice x25.base x25.len x25.cap) ?_
  refine KT.pv 32 (.int .i64 s4) ?_
  refine KT.pv 33 (.int .i64 p1_n) ?_
  refine KT.pv 34 (.int .i64 s4) ?_
  refine KT.pv 35 (.int .i64 (w64 (8 * s4))) ?_
  refine KT.oy rfl (OY.shr (d := 36) (x := p1_n) (y := w64 (8 * s4)) _ _ _ _ (bShr .i64 p1_n (w64 (8 * s4))) rfl rfl rfl rfl rfl rfl ?_)
  refine KT.pv 37 (.int .u8 (IntKind.wrap .u8 (bShr .i64 p1_n (w64 (8 * s4))))) ?_
  refine KT.oy rfl (OY.idx (d := 38) (s := x25) (i := s4) (size := 1) (elem := 5) _ _ _ rfl rfl rfl (by kernel_rfl) (by kernel_rfl) rfl rfl (fun x38 => ?_))
  refine KT.s ?_
  refine KT.nil ?_
  refine SX.block ?_
  refine SX.seq ?_
  refine SC.region' ?_
  refine KT.pv 39 (.int .i64 (w64 (s4 + 1))) ?_
  refine KT.pv 28 (.int .i64 (w64 (s4 + 1))) ?_
  refine KT.nil ?_
  exact SX.loop_next (.cons rfl (.cons rfl (.cons rfl (.cons rfl (.nil)))))
  refine SC.exit ?_
  refine SX.then_exit ?_
  refine SX.loop_exit ?_
  refine SX.block_hit ?_
  refine SX.seq ?_
  refine SC.seq ?_
  refine SC.region' ?_
  refine KT.pv 40 (.slice x25.base x25.len x25.cap) ?_
  refine KT.pv 4 (.slice x25.base x25.len x25.cap) ?_
  refine KT.nil ?_
  refine SX.seq ?_
  refine SC.ret ?_
  refine SX.ret [.tmp 4] rfl ?_
  refine RS.tmp (.slice x25.base x25.len x25.cap) rfl ?_
  exact RS.nil rfl
  refine KT.ite (b := r2) 17 rfl ?_ ?_
  refine KT.sk ?_
  refine KT.sk ?_
  refine KT.sk ?_
  refine KT.sk ?_
  refine KT.sk ?_
  refine KT.pv 23 (.bool true) ?_
  exact KT.leafO j3 (.cons rfl (.cons rfl (.cons rfl (.nil))))
  refine KT.pv 18 (.int .i64 p1_n) ?_
  refine KT.pv 19 (.int .i64 p0_width) ?_
  refine KT.pv 20 (.int .i64 (w64 (8 * p0_width))) ?_
  refine KT.oy rfl (OY.shr (d := 21) (x := p1_n) (y := w64 (8 * p0_width)) _ _ _ _ (bShr .i64 p1_n (w64 (8 * p0_width))) rfl rfl rfl rfl rfl rfl ?_)
  refine KT.pv 22 (.bool (decide ((bShr .i64 p1_n (w64 (8 * p0_width))) > 0))) ?_
  refine KT.pv 23 (.bool (decide ((bShr .i64 p1_n (w64 (8 * p0_width))) > 0))) ?_
  exact KT.leafO j3 (.cons rfl (.cons rfl (.cons rfl (.nil))))
  refine KT.ite (b := r1) 13 rfl ?_ ?_
  refine KT.sk ?_
  refine KT.sk ?_
  refine KT.pv 16 (.bool true) ?_
  exact KT.leafO j2 (.cons rfl (.cons rfl (.cons rfl (.nil))))
  refine KT.pv 14 (.int .i64 p1_n) ?_
  refine KT.pv 15 (.bool (decide (p1_n < 0))) ?_
  refine KT.pv 16 (.bool (decide (p1_n < 0))) ?_
  exact KT.leafO j2 (.cons rfl (.cons rfl (.cons rfl (.nil))))
  refine KT.ite (b := decide (p0_width < 1)) 9 rfl ?_ ?_
  refine KT.sk ?_
  refine KT.sk ?_
  refine KT.pv 12 (.bool true) ?_
  exact KT.leafO j1 (.cons rfl (.cons rfl (.cons rfl (.nil))))
  refine KT.pv 10 (.int .i64 p0_width) ?_
  refine KT.pv 11 (.bool (decide (p0_width > 4))) ?_
  refine KT.pv 12 (.bool (decide (p0_width > 4))) ?_
  exact KT.leafO j1 (.cons rfl (.cons rfl (.cons rfl (.nil))))
set_option maxRecDepth 100000 in
theorem bits_Pad_sim (p0_b : Slc) (p1_n : Int) (Qf : (Slc × Bool) → World → Prop) (w : World) (hm : bits_Pad p0_b p1_n Qf w) : Calls Try.prog 138 #[(.slice p0_b.base p0_b.len p0_b.cap), (.int .i64 p1_n)] w (RetPost (fun y : (Slc × Bool) => (.tuple #[(.slice y.1.base y.1.len y.1.cap), (.bool y.2)])) Qf) := by
  refine calls_of (fn := Try.f138) (l := [(.slice p0_b.base p0_b.len p0_b.cap), (.int .i64 p1_n)]) (m := bits_Pad p0_b p1_n) 21 (by kernel_rfl) rfl rfl rfl (fun Qf0 => ?_) Qf w hm
  clear hm w Qf
  unfold bits_Pad
  refine SC.seq ?_
  refine SC.region' ?_
  refine KT.pv 4 (.slice none 0 0) ?_
  refine KT.pv 5 (.bool false) ?_
  refine KT.nil ?_
  refine SX.seq ?_
  refine SC.seq ?_
  refine SC.seq ?_
  refine SC.region' ?_
  refine KT.pv 7 (.int .i64 p1_n) ?_
  refine KT.pv 8 (.bool (decide (p1_n > 65536))) ?_
  refine KT.pv 9 (.bool (decide (p1_n > 65536))) ?_
  refine KT.joinO (β := Bool) 5 (fun r1 => [(14, (.bool r1)), (0, (.slice p0_b.base p0_b.len p0_b.cap)), (1, (.int .i64 p1_n))]) (fun r1 => ?_) (fun j1 => ?_)
  refine KT.nil ?_
  refine SX.seq ?_
  refine SC.cond (b := r1) rfl ?_ ?_
  refine SC.seq ?_
  refine SC.region' ?_
  refine KT.pv 4 (.slice none 0 0) ?_
  refine KT.pv 5 (.bool false) ?_
  refine KT.nil ?_
  refine SX.seq ?_
  refine SC.ret ?_
  refine SX.then_ret ?_
  refine SX.ret [.tmp 4, .tmp 5] rfl ?_
  refine RS.tmp (.slice none 0 0) rfl ?_
  refine RS.tmp (.bool false) rfl ?_
  exact RS.nil rfl
  refine SC.skip ?_
  refine SX.seq ?_
  refine SC.seq ?_
  refine SC.region' ?_
  refine KT.pv 15 (.int .i64 p1_n) ?_
  refine KT.ow rfl (OW.make (d := 16) (nn := p1_n) [(.int .u8 0)] 1 5 _ _ _ rfl rfl rfl (by kernel_rfl) (by kernel_rfl) rfl rfl rfl (fun x16 => ?_))
  refine KT.pv 6 (.slice x16.base x16.len x16.cap) ?_
  refine KT.nil ?_
  refine SX.seq ?_
  refine SC.seq ?_
  refine SC.region' ?_
  refine KT.pv 17 (.slice x16.base x16.len x16.cap) ?_
  refine KT.pv 18 (.slice p0_b.base p0_b.len p0_b.cap) ?_
  refine KT.ow rfl (OW.copy (d := 19) (s := x16) (x := p0_b) 1 5 _ _ _ _ rfl rfl rfl rfl (by kernel_rfl) (by kernel_rfl) rfl rfl (fun x19 => ?_))
  refine KT.nil ?_
  refine SX.seq ?_
  refine SC.seq ?_
  refine SC.region' ?_
  refine KT.pv 20 (.slice x16.base x16.len x16.cap) ?_
  refine KT.pv 4 (.slice x16.base x16.len x16.cap) ?_
  refine KT.pv 5 (.bool true) ?_
  refine KT.nil ?_
  refine SX.seq ?_
  refine SC.ret ?_
  refine SX.ret [.tmp 4, .tmp 5] rfl ?_
  refine RS.tmp (.slice x16.base x16.len x16.cap) rfl ?_
  refine RS.tmp (.bool true) rfl ?_
  exact RS.nil rfl
  refine KT.ite (b := decide (p1_n > 65536)) 9 rfl ?_ ?_
  refine KT.sk ?_
  refine KT.sk ?_
  refine KT.sk ?_
  refine KT.sk ?_
  refine KT.pv 14 (.bool true) ?_
  exact KT.leafO j1 (.cons rfl (.cons rfl (.cons rfl (.nil))))
  refine KT.pv 10 (.slice p0_b.base p0_b.len p0_b.cap) ?_
  refine KT.pv 11 (.int .i64 ((p0_b.len : Nat) : Int)) ?_
  refine KT.pv 12 (.int .i64 p1_n) ?_
  refine KT.pv 13 (.bool (decide (((p0_b.len : Nat) : Int) > p1_n))) ?_
  refine KT.pv 14 (.bool (decide (((p0_b.len : Nat) : Int) > p1_n))) ?_
  exact KT.leafO j1 (.cons rfl (.cons rfl (.cons rfl (.nil))))
set_option maxRecDepth 100000 in
theorem sector_Encode_sim (p0_h : (Int × Int × Int)) (p1_payload : Slc) (Qf : (Slc × Bool) → World → Prop) (w : World) (hm : sector_Encode p0_h p1_payload Qf w) : Calls Try.prog 118 #[(.agg #[(.int .i64 p0_h.1), (.int .i64 p0_h.2.1), (.int .i64 p0_h.2.2)]), (.slice p1_payload.base p1_payload.len p1_payload.cap)] w (RetPost (fun y : (Slc × Bool) => (.tuple #[(.slice y.1.base y.1.len y.1.cap), (.bool y.2)])) Qf) := by
  refine calls_of (fn := Try.f118) (l := [(.agg #[(.int .i64 p0_h.1), (.int .i64 p0_h.2.1), (.int .i64 p0_h.2.2)]), (.slice p1_payload.base p1_payload.len p1_payload.cap)]) (m := sector_Encode p0_h p1_payload) 35 (by kernel_rfl) rfl rfl rfl (fun Qf0 => ?_) Qf w hm
  clear hm w Qf
  unfold sector_Encode
  refine SC.seq ?_
  refine SC.region' ?_
  refine KT.nw 2 (fun ad => .pointer (some ad)) 144 (fun x2 => ?_)
  refine KT.pv 4 (.slice none 0 0) ?_
  refine KT.pv 5 (.bool false) ?_
  refine KT.nil ?_
  refine SX.seq ?_
  refine SC.seq ?_
  refine SC.draw 12 (fun _ => false) rfl (by kernel_rfl) (fun S1 => ?_)
  refine KT.pvA 0 9 (.pointer (some x2)) ?_
  refine KT.tk 1 (OY.ldI (d := 10) _ _ rfl rfl (by kernel_rfl) rfl rfl (fun x10 => ?_))
  refine KT.pvA 3 12 (.pointer (some (Addr.add x2 1))) ?_
  refine KT.tk 4 (OY.ldI (d := 13) _ _ rfl rfl (by kernel_rfl) rfl rfl (fun x13 => ?_))
  refine KT.pvA 6 15 (.pointer (some (Addr.add x2 2))) ?_
  refine KT.tk 7 (OY.ldI (d := 16) _ _ rfl rfl (by kernel_rfl) rfl rfl (fun x16 => ?_))
  refine KT.one 2 rfl (by kernel_rfl) rfl (OW.step (OW.call (d := 11) (enc := vS) 137 #[(.int .i64 4), (.int .i64 x10)] rfl (fun _ => by kernel_rfl) (fun Qf w => bits_Put_sim 4 x10 Qf w) rfl rfl (fun x11 => ?_)))
  refine KT.and ?_
  refine KT.one 5 rfl (by kernel_rfl) rfl (OW.step (OW.call (d := 14) (enc := vS) 137 #[(.int .i64 2), (.int .i64 x13)] rfl (fun _ => by kernel_rfl) (fun Qf w => bits_Put_sim 2 x13 Qf w) rfl rfl (fun x14 => ?_)))
  refine KT.and ?_
  refine KT.one 8 rfl (by kernel_rfl) rfl (OW.step (OW.call (d := 17) (enc := vS) 137 #[(.int .i64 2), (.int .i64 x16)] rfl (fun _ => by kernel_rfl) (fun Qf w => bits_Put_sim 2 x16 Qf w) rfl rfl (fun x17 => ?_)))
  refine KT.and ?_
  refine KT.one 9 rfl (by kernel_rfl) rfl (OW.step (OW.new (d := 18) [(.slice x11.base x11.len x11.cap), (.slice x14.base x14.len x14.cap), (.slice x17.base x17.len x17.cap)] (fun ad => .slice (some ad) 3 3) 46 rfl (fun _ => by kernel_rfl) rfl rfl (fun x18 => ?_)))
  refine KT.and ?_
  refine KT.one 10 rfl (by kernel_rfl) rfl (OW.step (OW.call (d := 19) (enc := vS) 136 #[(.slice (some x18) 3 3), (.slice none 0 0)] rfl (fun _ => by kernel_rfl) (fun Qf w => bytes_Join_sim (⟨some x18, 3, 3⟩) (⟨none, 0, 0⟩) Qf w) rfl rfl (fun x19 => ?_)))
  refine KT.and ?_
  refine KT.pvA 11 6 (.slice x19.base x19.len x19.cap) ?_
  refine KT.doneA (by kernel_rfl) ?_
  refine SX.seq ?_
  refine SC.seq ?_
  refine SC.region' ?_
  refine KT.pv 21 (.slice p1_payload.base p1_payload.len p1_payload.cap) ?_
  refine KT.cl (fun y : (Slc × Bool) => (.tuple #[(.slice y.1.base y.1.len y.1.cap), (.bool y.2)])) 22 138 #[(.slice p1_payload.base p1_payload.len p1_payload.cap), (.int .i64 56)] (bits_Pad_sim p1_payload 56) (fun x22 => ?_)
  refine KT.pv 20 (.tuple #[(.slice x22.1.base x22.1.len x22.1.cap), (.bool x22.2)]) ?_
  refine KT.pv 23 (.slice x22.1.base x22.1.len x22.1.cap) ?_
  refine KT.pv 24 (.bool x22.2) ?_
  refine KT.pv 7 (.slice x22.1.base x22.1.len x22.1.cap) ?_
  refine KT.pv 8 (.bool x22.2) ?_
  refine KT.nil ?_
  refine SX.seq ?_
  refine SC.seq ?_
  refine SC.seq ?_
  refine SC.region' ?_
  refine KT.pv 25 (.bool x22.2) ?_
  refine KT.pv 26 (.bool (!x22.2)) ?_
  refine KT.pv 27 (.bool (!x22.2)) ?_
  refine KT.joinO (β := Bool) 4 (fun r2 => [(31, (.bool r2)), (6, (.slice x19.base x19.len x19.cap)), (7, (.slice x22.1.base x22.1.len x22.1.cap))]) (fun r2 => ?_) (fun j2 => ?_)
  refine KT.nil ?_
  refine SX.seq ?_
  refine SC.cond (b := r2) rfl ?_ ?_
  refine SC.seq ?_
  refine SC.region' ?_
  refine KT.pv 4 (.slice none 0 0) ?_
  refine KT.pv 5 (.bool false) ?_
  refine KT.nil ?_
  refine SX.seq ?_
  refine SC.ret ?_
  refine SX.then_ret ?_
  refine SX.ret [.tmp 4, .tmp 5] rfl ?_
  refine RS.tmp (.slice none 0 0) rfl ?_
  refine RS.tmp (.bool false) rfl ?_
  exact RS.nil rfl
  refine SC.skip ?_
  refine SX.seq ?_
  refine SC.seq ?_
  refine SC.region' ?_
  refine KT.pv 32 (.slice x19.base x19.len x19.cap) ?_
  refine KT.pv 33 (.slice x22.1.base x22.1.len x22.1.cap) ?_
  refine KT.ow rfl (OW.append (d := 34) (s := x19) (x := x22.1) [(.int .u8 0)] 1 5 _ _ _ _ rfl rfl rfl rfl (by kernel_rfl) (by kernel_rfl) rfl rfl rfl (fun x34 => ?_))
  refine KT.pv 4 (.slice x34.base x34.len x34.cap) ?_
  refine KT.pv 5 (.bool true) ?_
  refine KT.nil ?_
  refine SX.seq ?_
  refine SC.ret ?_
  refine SX.ret [.tmp 4, .tmp 5] rfl ?_
  refine RS.tmp (.slice x34.base x34.len x34.cap) rfl ?_
  refine RS.tmp (.bool true) rfl ?_
  exact RS.nil rfl
  refine KT.ite (b := !x22.2) 27 rfl ?_ ?_
  refine KT.sk ?_
  refine KT.sk ?_
  refine KT.sk ?_
  refine KT.pv 31 (.bool true) ?_
  exact KT.leafO j2 (.cons rfl (.cons rfl (.cons rfl (.nil))))
  refine KT.pv 28 (.slice x19.base x19.len x19.cap) ?_
  refine KT.pv 29 (.int .i64 ((x19.len : Nat) : Int)) ?_
  refine KT.pv 30 (.bool (((x19.len : Nat) : Int) != 8)) ?_
  refine KT.pv 31 (.bool (((x19.len : Nat) : Int) != 8)) ?_
  exact KT.leafO j2 (.cons rfl (.cons rfl (.cons rfl (.nil))))
set_option maxRecDepth 100000 in
theorem stripe_encoded_sim (p0_g : (Int × Int × Int)) (p1_seq : Int) (p2_blocks : Slc) (Qf : Slc → World → Prop) (w : World) (hm : stripe_encoded p0_g p1_seq p2_blocks Qf w) : Calls Try.prog 77 #[(.agg #[(.int .i64 p0_g.1), (.int .i64 p0_g.2.1), (.int .i64 p0_g.2.2)]), (.int .i64 p1_seq), (.slice p2_blocks.base p2_blocks.len p2_blocks.cap)] w (RetPost vS Qf) := by
  refine calls_of (fn := Try.f77) (l := [(.agg #[(.int .i64 p0_g.1), (.int .i64 p0_g.2.1), (.int .i64 p0_g.2.2)]), (.int .i64 p1_seq), (.slice p2_blocks.base p2_blocks.len p2_blocks.cap)]) (m := stripe_encoded p0_g p1_seq p2_blocks) 46 (by kernel_rfl) rfl rfl rfl (fun Qf0 => ?_) Qf w hm
  clear hm w Qf
  unfold stripe_encoded
  refine SC.seq ?_
  refine SC.region' ?_
  refine KT.nw 3 (fun ad => .pointer (some ad)) 23 (fun x3 => ?_)
  refine KT.pv 6 (.slice none 0 0) ?_
  refine KT.nil ?_
  refine SX.seq ?_
  refine SC.seq ?_
  refine SC.region' ?_
  refine KT.pv 7 (.slice none 0 0) ?_
  refine KT.nil ?_
  refine SX.seq ?_
  refine SC.seq ?_
  refine SC.seq ?_
  refine SC.region' ?_
  refine KT.ow rfl (OW.ldA (d := 12) (enc := (fun y : (Int × Int × Int) => [(.int .i64 y.1), (.int .i64 y.2.1), (.int .i64 y.2.2)])) 3 _ _ rfl rfl (by kernel_rfl) (by kernel_rfl) (fun _ => rfl) rfl rfl (fun x12 => ?_))
  refine KT.cl (Value.int .i64) 13 117 #[(.agg #[(.int .i64 x12.1), (.int .i64 x12.2.1), (.int .i64 x12.2.2)])] (geo_Places_sim (x12.1, x12.2.1, x12.2.2)) (fun x13 => ?_)
  refine KT.pv 14 (.int .i64 (w64 (x13 + 1))) ?_
  refine KT.pv 15 (.int .i64 0) ?_
  refine KT.nil ?_
  refine SX.seq ?_
  refine SC.block ?_
  refine SC.loop (σ := (Slc × Int)) (fun s1 => [(1, (.int .i64 p1_seq)), (2, (.slice p2_blocks.base p2_blocks.len p2_blocks.cap)), (7, (.slice s1.1.base s1.1.len s1.1.cap)), (14, (.int .i64 (w64 (x13 + 1)))), (15, (.int .i64 s1.2))]) (.cons rfl (.cons rfl (.cons rfl (.cons rfl (.cons rfl (.nil)))))) (fun _ _ _ s1 => ?_)
  refine SC.seq ?_
  refine SC.region' ?_
  refine KT.pv 16 (.bool (decide (s1.2 < (w64 (x13 + 1))))) ?_
  refine KT.nil ?_
  refine SX.seq ?_
  refine SC.seq ?_
  refine SC.cond (b := decide (s1.2 < (w64 (x13 + 1)))) rfl ?_ ?_
  refine SC.skip ?_
  refine SX.seq ?_
  refine SC.seq ?_
  refine SC.block ?_
  refine SC.seq ?_
  refine SC.region' ?_
  refine KT.pv 17 (.int .i64 s1.2) ?_
  refine KT.pv 8 (.int .i64 s1.2) ?_
  refine KT.nil ?_
  refine SX.seq ?_
  refine SC.seq ?_
  refine SC.region' ?_
  refine KT.nw 9 (fun ad => .pointer (some ad)) 78 (fun x9 => ?_)
  refine KT.nil ?_
  refine SX.seq ?_
  refine SC.seq ?_
  refine SC.seq ?_
  refine SC.region' ?_
  refine KT.pv 18 (.int .i64 s1.2) ?_
  refine KT.pv 19 (.slice p2_blocks.base p2_blocks.len p2_blocks.cap) ?_
  refine KT.pv 20 (.int .i64 ((p2_blocks.len : Nat) : Int)) ?_
  refine KT.pv 21 (.bool (decide (s1.2 < ((p2_blocks.len : Nat) : Int)))) ?_
  refine KT.nil ?_
  refine SX.seq ?_
  refine SC.join (β := Unit) (fun b2 => [(1, (.int .i64 p1_seq)), (2, (.slice p2_blocks.base p2_blocks.len p2_blocks.cap)), (7, (.slice s1.1.base s1.1.len s1.1.cap)), (9, (.pointer (some x9))), (14, (.int .i64 (w64 (x13 + 1)))), (15, (.int .i64 s1.2))]) (fun b2 => ?_) (fun j2 => ?_)
  refine SX.seq ?_
  refine SC.seq ?_
  refine SC.region' ?_
  refine KT.pv 27 (.int .i64 p1_seq) ?_
  refine KT.pv 28 (.pointer (some x9)) ?_
  refine KT.l 29 (fun x29 => ?_)
  refine KT.pv 30 (.pointer (some (Addr.add x9 1))) ?_
  refine KT.l 31 (fun x31 => ?_)
  refine KT.pv 32 (.agg #[(.int .i64 p1_seq), (.int .i64 x29), (.int .i64 x31)]) ?_
  refine KT.pv 33 (.pointer (some (Addr.add x9 2))) ?_
  refine KT.l 34 (fun x34 => ?_)
  refine KT.cl (fun y : (Slc × Bool) => (.tuple #[(.slice y.1.base y.1.len y.1.cap), (.bool y.2)])) 35 118 #[(.agg #[(.int .i64 p1_seq), (.int .i64 x29), (.int .i64 x31)]), (.slice x34.base x34.len x34.cap)] (sector_Encode_sim (p1_seq, x29, x31) x34) (fun x35 => ?_)
  refine KT.pv 26 (.tuple #[(.slice x35.1.base x35.1.len x35.1.cap), (.bool x35.2)]) ?_
  refine KT.pv 36 (.slice x35.1.base x35.1.len x35.1.cap) ?_
  refine KT.pv 37 (.bool x35.2) ?_
  refine KT.pv 10 (.slice x35.1.base x35.1.len x35.1.cap) ?_
  refine KT.pv 11 (.bool x35.2) ?_
  refine KT.nil ?_
  refine SX.seq ?_
  refine SC.seq ?_
  refine SC.seq ?_
  refine SC.region' ?_
  refine KT.pv 38 (.bool x35.2) ?_
  refine KT.pv 39 (.bool (!x35.2)) ?_
  refine KT.nil ?_
  refine SX.seq ?_
  refine SC.cond (b := !x35.2) rfl ?_ ?_
  refine SC.seq ?_
  refine SC.region' ?_
  refine KT.pv 6 (.slice none 0 0) ?_
  refine KT.nil ?_
  refine SX.seq ?_
  refine SC.ret ?_
  refine SX.then_ret ?_
  refine SX.block_ret ?_
  refine SX.then_ret ?_
  refine SX.loop_ret ?_
  refine SX.block_ret ?_
  refine SX.then_ret ?_
  refine SX.ret [.tmp 6] rfl ?_
  refine RS.tmp (.slice none 0 0) rfl ?_
  exact RS.nil rfl
  refine SC.skip ?_
  refine SX.seq ?_
  refine SC.region' ?_
  refine KT.pv 40 (.slice s1.1.base s1.1.len s1.1.cap) ?_
  refine KT.pv 41 (.slice x35.1.base x35.1.len x35.1.cap) ?_
  refine KT.nw 42 (fun ad => .slice (some ad) 1 1) 46 (fun x42 => ?_)
  refine KT.ow rfl (OW.append (d := 43) (s := s1.1) (x := ⟨some x42, 1, 1⟩) [(.slice none 0 0)] 24 46 _ _ _ _ rfl rfl rfl rfl (by kernel_rfl) (by kernel_rfl) rfl rfl rfl (fun x43 => ?_))
  refine KT.pv 7 (.slice x43.base x43.len x43.cap) ?_
  refine KT.nil ?_
  refine SX.block ?_
  refine SX.seq ?_
  refine SC.region' ?_
  refine KT.pv 44 (.int .i64 (w64 (s1.2 + 1))) ?_
  refine KT.pv 15 (.int .i64 (w64 (s1.2 + 1))) ?_
  refine KT.nil ?_
  exact SX.loop_next (.cons rfl (.cons rfl (.cons rfl (.cons rfl (.cons rfl (.nil))))))
  refine SC.cond (b := decide (s1.2 < ((p2_blocks.len : Nat) : Int))) rfl ?_ ?_
  refine SC.region' ?_
  refine KT.pv 22 (.slice p2_blocks.base p2_blocks.len p2_blocks.cap) ?_
  refine KT.pv 23 (.int .i64 s1.2) ?_
  refine KT.oy rfl (OY.idx (d := 24) (s := p2_blocks) (i := s1.2) (size := 3) (elem := 78) _ _ _ rfl rfl rfl (by kernel_rfl) (by kernel_rfl) rfl rfl (fun x24 => ?_))
  refine KT.ow rfl (OW.ldA (d := 25) (enc := (fun y : (Int × Int × Slc) => [(.int .i64 y.1), (.int .i64 y.2.1), (.slice y.2.2.base y.2.2.len y.2.2.cap)])) 3 _ _ rfl rfl (by kernel_rfl) (by kernel_rfl) (fun _ => rfl) rfl rfl (fun x25 => ?_))
  refine KT.ow rfl (OW.stA _ _ _ rfl rfl rfl rfl rfl (by kernel_rfl) ?_)
  refine KT.nil ?_
  exact SX.leafS j2 (.cons rfl (.cons rfl (.cons rfl (.cons rfl (.cons rfl (.cons rfl (.nil)))))))
  refine SC.skip ?_
  exact SX.leafS j2 (.cons rfl (.cons rfl (.cons rfl (.cons rfl (.cons rfl (.cons rfl (.nil)))))))
  refine SC.exit ?_
  refine SX.then_exit ?_
  refine SX.loop_exit ?_
  refine SX.block_hit ?_
  refine SX.seq ?_
  refine SC.seq ?_
  refine SC.region' ?_
  refine KT.pv 45 (.slice s1.1.base s1.1.len s1.1.cap) ?_
  refine KT.pv 6 (.slice s1.1.base s1.1.len s1.1.cap) ?_
  refine KT.nil ?_
  refine SX.seq ?_
  refine SC.ret ?_
  refine SX.ret [.tmp 6] rfl ?_
  refine RS.tmp (.slice s1.1.base s1.1.len s1.1.cap) rfl ?_
  exact RS.nil rfl
set_option maxRecDepth 100000 in
theorem geo_Parity_sim (p0_g : (Int × Int × Int)) (p1_seg : Int) (p2_row : Int) (Qf : ((Int × Int) × Bool) → World → Prop) (w : World) (hm : geo_Parity p0_g p1_seg p2_row Qf w) : Calls Try.prog 120 #[(.agg #[(.int .i64 p0_g.1), (.int .i64 p0_g.2.1), (.int .i64 p0_g.2.2)]), (.int .i64 p1_seg), (.int .i64 p2_row)] w (RetPost (fun y : ((Int × Int) × Bool) => (.tuple #[(.agg #[(.int .i64 y.1.1), (.int .i64 y.1.2)]), (.bool y.2)])) Qf) := by
  refine calls_of (fn := Try.f120) (l := [(.agg #[(.int .i64 p0_g.1), (.int .i64 p0_g.2.1), (.int .i64 p0_g.2.2)]), (.int .i64 p1_seg), (.int .i64 p2_row)]) (m := geo_Parity p0_g p1_seg p2_row) 46 (by kernel_rfl) rfl rfl rfl (fun Qf0 => ?_) Qf w hm
  clear hm w Qf
  unfold geo_Parity
  refine SC.seq ?_
  refine SC.region' ?_
  refine KT.nw 3 (fun ad => .pointer (some ad)) 23 (fun x3 => ?_)
  refine KT.nw 6 (fun ad => .pointer (some ad)) 140 (fun x6 => ?_)
  refine KT.pv 7 (.bool false) ?_
  refine KT.nil ?_
  refine SX.seq ?_
  refine SC.seq ?_
  refine SC.seq ?_
  refine SC.region' ?_
  refine KT.ow rfl (OW.ldA (d := 9) (enc := (fun y : (Int × Int × Int) => [(.int .i64 y.1), (.int .i64 y.2.1), (.int .i64 y.2.2)])) 3 _ _ rfl rfl (by kernel_rfl) (by kernel_rfl) (fun _ => rfl) rfl rfl (fun x9 => ?_))
  refine KT.cl Value.bool 10 64 #[(.agg #[(.int .i64 x9.1), (.int .i64 x9.2.1), (.int .i64 x9.2.2)])] (geo_Right_sim (x9.1, x9.2.1, x9.2.2)) (fun x10 => ?_)
  refine KT.pv 11 (.bool (!x10)) ?_
  refine KT.pv 12 (.bool (!x10)) ?_
  refine KT.joinO (β := Bool) 7 (fun r1 => [(19, (.bool r1)), (1, (.int .i64 p1_seg)), (2, (.int .i64 p2_row)), (3, (.pointer (some x3))), (6, (.pointer (some x6)))]) (fun r1 => ?_) (fun j1 => ?_)
  refine KT.pv 20 (.bool r1) ?_
  refine KT.joinO (β := Bool) 7 (fun r2 => [(27, (.bool r2)), (1, (.int .i64 p1_seg)), (2, (.int .i64 p2_row)), (3, (.pointer (some x3))), (6, (.pointer (some x6)))]) (fun r2 => ?_) (fun j2 => ?_)
  refine KT.nil ?_
  refine SX.seq ?_
  refine SC.cond (b := r2) rfl ?_ ?_
  refine SC.seq ?_
  refine SC.region' ?_
  refine KT.pv 28 (.agg #[(.int .i64 0), (.int .i64 0)]) ?_
  refine KT.ow rfl (OW.stA _ _ _ rfl rfl rfl rfl rfl (by kernel_rfl) ?_)
  refine KT.pv 7 (.bool false) ?_
  refine KT.nil ?_
  refine SX.seq ?_
  refine SC.ret ?_
  refine SX.then_ret ?_
  refine SX.ret [.cell 6 140, .tmp 7] rfl ?_
  refine RS.cellA 2 (by kernel_rfl) rfl rfl (fun _ => rfl) (fun r6 => ?_)
  refine RS.tmp (.bool false) rfl ?_
  exact RS.nil rfl
  refine SC.skip ?_
  refine SX.seq ?_
  refine SC.seq ?_
  refine SC.region' ?_
  refine KT.pv 29 (.int .i64 p1_seg) ?_
  refine KT.pv 30 (.pointer (some (Addr.add x3 1))) ?_
  refine KT.l 31 (fun x31 => ?_)
  refine KT.pv 32 (.int .i64 (w64 (p1_seg * x31))) ?_
  refine KT.pv 33 (.int .i64 p2_row) ?_
  refine KT.pv 34 (.int .i64 (w64 ((w64 (p1_seg * x31)) + p2_row))) ?_
  refine KT.pv 8 (.int .i64 (w64 ((w64 (p1_seg * x31)) + p2_row))) ?_
  refine KT.nil ?_
  refine SX.seq ?_
  refine SC.seq ?_
  refine SC.draw 13 (fun f => Nat.beq f 11) rfl (by kernel_rfl) (fun S3 => ?_)
  refine KT.pvA 0 35 (.pointer (some x3)) ?_
  refine KT.tk 1 (OY.ldI (d := 36) _ _ rfl rfl (by kernel_rfl) rfl rfl (fun x36 => ?_))
  refine KT.pvA 2 37 (.int .i64 (w64 (x36 - 1))) ?_
  refine KT.pvA 3 38 (.int .i64 (w64 ((w64 (p1_seg * x31)) + p2_row))) ?_
  refine KT.pvA 4 39 (.pointer (some x3)) ?_
  refine KT.tk 5 (OY.ldI (d := 40) _ _ rfl rfl (by kernel_rfl) rfl rfl (fun x40 => ?_))
  refine KT.tp 6 (OY.rem (d := 41) (x := w64 ((w64 (p1_seg * x31)) + p2_row)) (y := x40) _ _ _ _ (Int.tmod (w64 ((w64 (p1_seg * x31)) + p2_row)) x40) rfl rfl rfl rfl rfl rfl ?_)
  refine KT.pvA 7 42 (.int .i64 (w64 ((w64 (x36 - 1)) - (Int.tmod (w64 ((w64 (p1_seg * x31)) + p2_row)) x40)))) ?_
  refine KT.pvA 8 43 (.int .i64 (w64 ((w64 (p1_seg * x31)) + p2_row))) ?_
  refine KT.pvA 9 44 (.int .i64 (w64 (5 + (w64 ((w64 (p1_seg * x31)) + p2_row))))) ?_
  refine KT.pvA 10 45 (.agg #[(.int .i64 (w64 ((w64 (x36 - 1)) - (Int.tmod (w64 ((w64 (p1_seg * x31)) + p2_row)) x40)))), (.int .i64 (w64 (5 + (w64 ((w64 (p1_seg * x31)) + p2_row)))))]) ?_
  refine KT.last 11 rfl (by kernel_rfl) rfl rfl (OW.stA _ _ _ rfl rfl rfl rfl rfl (by kernel_rfl) ?_)
  refine KT.pvN 12 7 (.bool true) ?_
  refine KT.doneN (by kernel_rfl) ?_
  refine SX.seq ?_
  refine SC.ret ?_
  refine SX.ret [.cell 6 140, .tmp 7] rfl ?_
  refine RS.cellA 2 (by kernel_rfl) rfl rfl (fun _ => rfl) (fun r6 => ?_)
  refine RS.tmp (.bool true) rfl ?_
  exact RS.nil rfl
  refine KT.ite (b := r1) 20 rfl ?_ ?_
  refine KT.sk ?_
  refine KT.sk ?_
  refine KT.sk ?_
  refine KT.sk ?_
  refine KT.sk ?_
  refine KT.sk ?_
  refine KT.pv 27 (.bool true) ?_
  exact KT.leafO j2 (.cons rfl (.cons rfl (.cons rfl (.cons rfl (.cons rfl (.nil))))))
  refine KT.pv 21 (.int .i64 p2_row) ?_
  refine KT.pv 22 (.pointer (some (Addr.add x3 1))) ?_
  refine KT.l 23 (fun x23 => ?_)
  refine KT.pv 24 (.int .i64 (w64 (x23 - 1))) ?_
  refine KT.cl Value.bool 25 110 #[(.int .i64 p2_row), (.int .i64 0), (.int .i64 (w64 (x23 - 1)))] (geo_within_sim p2_row 0 (w64 (x23 - 1))) (fun x25 => ?_)
  refine KT.pv 26 (.bool (!x25)) ?_
  refine KT.pv 27 (.bool (!x25)) ?_
  exact KT.leafO j2 (.cons rfl (.cons rfl (.cons rfl (.cons rfl (.cons rfl (.nil))))))
  refine KT.ite (b := !x10) 12 rfl ?_ ?_
  refine KT.sk ?_
  refine KT.sk ?_
  refine KT.sk ?_
  refine KT.sk ?_
  refine KT.sk ?_
  refine KT.sk ?_
  refine KT.pv 19 (.bool true) ?_
  exact KT.leafO j1 (.cons rfl (.cons rfl (.cons rfl (.cons rfl (.cons rfl (.nil))))))
  refine KT.pv 13 (.int .i64 p1_seg) ?_
  refine KT.pv 14 (.pointer (some (Addr.add x3 2))) ?_
  refine KT.l 15 (fun x15 => ?_)
  refine KT.pv 16 (.int .i64 (w64 (x15 - 1))) ?_
  refine KT.cl Value.bool 17 110 #[(.int .i64 p1_seg), (.int .i64 0), (.int .i64 (w64 (x15 - 1)))] (geo_within_sim p1_seg 0 (w64 (x15 - 1))) (fun x17 => ?_)
  refine KT.pv 18 (.bool (!x17)) ?_
  refine KT.pv 19 (.bool (!x17)) ?_
  exact KT.leafO j1 (.cons rfl (.cons rfl (.cons rfl (.cons rfl (.cons rfl (.nil))))))
set_option maxRecDepth 100000 in
theorem geo_Block_sim (p0_g : (Int × Int × Int)) (p1_seg : Int) (p2_k : Int) (Qf : ((Int × Int) × Bool) → World → Prop) (w : World) (hm : geo_Block p0_g p1_seg p2_k Qf w) : Calls Try.prog 83 #[(.agg #[(.int .i64 p0_g.1), (.int .i64 p0_g.2.1), (.int .i64 p0_g.2.2)]), (.int .i64 p1_seg), (.int .i64 p2_k)] w (RetPost (fun y : ((Int × Int) × Bool) => (.tuple #[(.agg #[(.int .i64 y.1.1), (.int .i64 y.1.2)]), (.bool y.2)])) Qf) := by
  refine calls_of (fn := Try.f83) (l := [(.agg #[(.int .i64 p0_g.1), (.int .i64 p0_g.2.1), (.int .i64 p0_g.2.2)]), (.int .i64 p1_seg), (.int .i64 p2_k)]) (m := geo_Block p0_g p1_seg p2_k) 48 (by kernel_rfl) rfl rfl rfl (fun Qf0 => ?_) Qf w hm
  clear hm w Qf
  unfold geo_Block
  refine SC.seq ?_
  refine SC.region' ?_
  refine KT.nw 3 (fun ad => .pointer (some ad)) 23 (fun x3 => ?_)
  refine KT.nw 6 (fun ad => .pointer (some ad)) 140 (fun x6 => ?_)
  refine KT.pv 7 (.bool false) ?_
  refine KT.nil ?_
  refine SX.seq ?_
  refine SC.seq ?_
  refine SC.seq ?_
  refine SC.region' ?_
  refine KT.ow rfl (OW.ldA (d := 10) (enc := (fun y : (Int × Int × Int) => [(.int .i64 y.1), (.int .i64 y.2.1), (.int .i64 y.2.2)])) 3 _ _ rfl rfl (by kernel_rfl) (by kernel_rfl) (fun _ => rfl) rfl rfl (fun x10 => ?_))
  refine KT.cl Value.bool 11 64 #[(.agg #[(.int .i64 x10.1), (.int .i64 x10.2.1), (.int .i64 x10.2.2)])] (geo_Right_sim (x10.1, x10.2.1, x10.2.2)) (fun x11 => ?_)
  refine KT.pv 12 (.bool (!x11)) ?_
  refine KT.pv 13 (.bool (!x11)) ?_
  refine KT.joinO (β := Bool) 6 (fun r1 => [(19, (.bool r1)), (1, (.int .i64 p1_seg)), (2, (.int .i64 p2_k)), (3, (.pointer (some x3))), (6, (.pointer (some x6)))]) (fun r1 => ?_) (fun j1 => ?_)
  refine KT.nil ?_
  refine SX.seq ?_
  refine SC.cond (b := r1) rfl ?_ ?_
  refine SC.seq ?_
  refine SC.region' ?_
  refine KT.pv 20 (.agg #[(.int .i64 0), (.int .i64 0)]) ?_
  refine KT.ow rfl (OW.stA _ _ _ rfl rfl rfl rfl rfl (by kernel_rfl) ?_)
  refine KT.pv 7 (.bool false) ?_
  refine KT.nil ?_
  refine SX.seq ?_
  refine SC.ret ?_
  refine SX.then_ret ?_
  refine SX.ret [.cell 6 140, .tmp 7] rfl ?_
  refine RS.cellA 2 (by kernel_rfl) rfl rfl (fun _ => rfl) (fun r6 => ?_)
  refine RS.tmp (.bool false) rfl ?_
  exact RS.nil rfl
  refine SC.skip ?_
  refine SX.seq ?_
  refine SC.seq ?_
  refine SC.draw 14 (fun f => Nat.beq f 12) rfl (by kernel_rfl) (fun S2 => ?_)
  refine KT.tk 0 (OY.ldAI (d := 22) (enc := (fun y : (Int × Int × Int) => [(.int .i64 y.1), (.int .i64 y.2.1), (.int .i64 y.2.2)])) 3 _ _ rfl rfl (by kernel_rfl) (by kernel_rfl) (fun _ => rfl) rfl rfl (fun x22 => ?_))
  refine KT.pvA 1 23 (.int .i64 p1_seg) ?_
  refine KT.pvA 2 24 (.int .i64 p2_k) ?_
  refine KT.pvA 3 25 (.pointer (some x3)) ?_
  refine KT.tk 4 (OY.ldI (d := 26) _ _ rfl rfl (by kernel_rfl) rfl rfl (fun x26 => ?_))
  refine KT.pvA 5 27 (.int .i64 (w64 (x26 - 1))) ?_
  refine KT.tp 6 (OY.quo (d := 28) (x := p2_k) (y := w64 (x26 - 1)) _ _ _ _ (w64 (Int.tdiv p2_k (w64 (x26 - 1)))) rfl rfl rfl rfl rfl rfl ?_)
  refine KT.two 7 11 rfl rfl (by kernel_rfl) rfl rfl ?_ ?_
  refine OW.step (OW.call (d := 29) (enc := (fun y : ((Int × Int) × Bool) => (.tuple #[(.agg #[(.int .i64 y.1.1), (.int .i64 y.1.2)]), (.bool y.2)]))) 120 #[(.agg #[(.int .i64 x22.1), (.int .i64 x22.2.1), (.int .i64 x22.2.2)]), (.int .i64 p1_seg), (.int .i64 (w64 (Int.tdiv p2_k (w64 (x26 - 1)))))] rfl (fun _ => by kernel_rfl) (fun Qf w => geo_Parity_sim (x22.1, x22.2.1, x22.2.2) p1_seg (w64 (Int.tdiv p2_k (w64 (x26 - 1)))) Qf w) rfl rfl (fun x29 => ?_))
  refine KT.and ?_
  refine KT.pvA 8 21 (.tuple #[(.agg #[(.int .i64 x29.1.1), (.int .i64 x29.1.2)]), (.bool x29.2)]) ?_
  refine KT.pvA 9 30 (.agg #[(.int .i64 x29.1.1), (.int .i64 x29.1.2)]) ?_
  refine KT.pvA 10 31 (.bool x29.2) ?_
  refine KT.one 11 rfl (by kernel_rfl) rfl (OW.step (OW.new (d := 8) [(.int .i64 0), (.int .i64 0)] (fun ad => .pointer (some ad)) 140 rfl (fun _ => by kernel_rfl) rfl rfl (fun x8 => ?_)))
  refine KT.and ?_
  refine KT.last 12 rfl (by kernel_rfl) rfl rfl (OW.stA _ _ _ rfl rfl rfl rfl rfl (by kernel_rfl) ?_)
  refine KT.pvN 13 9 (.bool x29.2) ?_
  refine KT.doneN (by kernel_rfl) ?_
  refine SX.seq ?_
  refine SC.seq ?_
  refine SC.seq ?_
  refine SC.region' ?_
  refine KT.pv 32 (.bool x29.2) ?_
  refine KT.nil ?_
  refine SX.seq ?_
  refine SC.cond (b := x29.2) rfl ?_ ?_
  refine SC.draw 14 (fun f => Nat.beq f 13) rfl (by kernel_rfl) (fun S3 => ?_)
  refine KT.pvA 0 33 (.pointer (some x8)) ?_
  refine KT.tk 1 (OY.ldI (d := 34) _ _ rfl rfl (by kernel_rfl) rfl rfl (fun x34 => ?_))
  refine KT.pvA 2 35 (.int .i64 (w64 (x34 + 1))) ?_
  refine KT.pvA 3 36 (.int .i64 p2_k) ?_
  refine KT.pvA 4 37 (.pointer (some x3)) ?_
  refine KT.tk 5 (OY.ldI (d := 38) _ _ rfl rfl (by kernel_rfl) rfl rfl (fun x38 => ?_))
  refine KT.pvA 6 39 (.int .i64 (w64 (x38 - 1))) ?_
  refine KT.tp 7 (OY.rem (d := 40) (x := p2_k) (y := w64 (x38 - 1)) _ _ _ _ (Int.tmod p2_k (w64 (x38 - 1))) rfl rfl rfl rfl rfl rfl ?_)
  refine KT.pvA 8 41 (.int .i64 (w64 ((w64 (x34 + 1)) + (Int.tmod p2_k (w64 (x38 - 1)))))) ?_
  refine KT.pvA 9 42 (.pointer (some x3)) ?_
  refine KT.tk 10 (OY.ldI (d := 43) _ _ rfl rfl (by kernel_rfl) rfl rfl (fun x43 => ?_))
  refine KT.tp 11 (OY.rem (d := 44) (x := w64 ((w64 (x34 + 1)) + (Int.tmod p2_k (w64 (x38 - 1))))) (y := x43) _ _ _ _ (Int.tmod (w64 ((w64 (x34 + 1)) + (Int.tmod p2_k (w64 (x38 - 1))))) x43) rfl rfl rfl rfl rfl rfl ?_)
  refine KT.pvA 12 45 (.pointer (some x8)) ?_
  refine KT.last 13 rfl (by kernel_rfl) rfl rfl (OW.st _ _ _ rfl rfl rfl rfl (by kernel_rfl) rfl ?_)
  refine KT.doneN (by kernel_rfl) ?_
  refine SX.sub (T' := [(6, (.pointer (some x6))), (8, (.pointer (some x8))), (9, (.bool x29.2))]) (.cons rfl (.cons rfl (.cons rfl (.nil)))) ?_
  refine SX.seq ?_
  refine SC.seq ?_
  refine SC.region' ?_
  refine KT.ow rfl (OW.ldA (d := 46) (enc := (fun y : (Int × Int) => [(.int .i64 y.1), (.int .i64 y.2)])) 2 _ _ rfl rfl (by kernel_rfl) (by kernel_rfl) (fun _ => rfl) rfl rfl (fun x46 => ?_))
  refine KT.pv 47 (.bool x29.2) ?_
  refine KT.ow rfl (OW.stA _ _ _ rfl rfl rfl rfl rfl (by kernel_rfl) ?_)
  refine KT.pv 7 (.bool x29.2) ?_
  refine KT.nil ?_
  refine SX.seq ?_
  refine SC.ret ?_
  refine SX.ret [.cell 6 140, .tmp 7] rfl ?_
  refine RS.cellA 2 (by kernel_rfl) rfl rfl (fun _ => rfl) (fun r6 => ?_)
  refine RS.tmp (.bool x29.2) rfl ?_
  exact RS.nil rfl
  refine SC.skip ?_
  refine SX.seq ?_
  refine SC.seq ?_
  refine SC.region' ?_
  refine KT.ow rfl (OW.ldA (d := 46) (enc := (fun y : (Int × Int) => [(.int .i64 y.1), (.int .i64 y.2)])) 2 _ _ rfl rfl (by kernel_rfl) (by kernel_rfl) (fun _ => rfl) rfl rfl (fun x46 => ?_))
  refine KT.pv 47 (.bool x29.2) ?_
  refine KT.ow rfl (OW.stA _ _ _ rfl rfl rfl rfl rfl (by kernel_rfl) ?_)
  refine KT.pv 7 (.bool x29.2) ?_
  refine KT.nil ?_
  refine SX.seq ?_
  refine SC.ret ?_
  refine SX.ret [.cell 6 140, .tmp 7] rfl ?_
  refine RS.cellA 2 (by kernel_rfl) rfl rfl (fun _ => rfl) (fun r6 => ?_)
  refine RS.tmp (.bool x29.2) rfl ?_
  exact RS.nil rfl
  refine OW.step (OW.new (d := 8) [(.int .i64 0), (.int .i64 0)] (fun ad => .pointer (some ad)) 140 rfl (fun _ => by kernel_rfl) rfl rfl (fun x8 => ?_))
  refine KT.and ?_
  refine KT.one 7 rfl (by kernel_rfl) rfl (OW.step (OW.call (d := 29) (enc := (fun y : ((Int × Int) × Bool) => (.tuple #[(.agg #[(.int .i64 y.1.1), (.int .i64 y.1.2)]), (.bool y.2)]))) 120 #[(.agg #[(.int .i64 x22.1), (.int .i64 x22.2.1), (.int .i64 x22.2.2)]), (.int .i64 p1_seg), (.int .i64 (w64 (Int.tdiv p2_k (w64 (x26 - 1)))))] rfl (fun _ => by kernel_rfl) (fun Qf w => geo_Parity_sim (x22.1, x22.2.1, x22.2.2) p1_seg (w64 (Int.tdiv p2_k (w64 (x26 - 1)))) Qf w) rfl rfl (fun x29 => ?_)))
  refine KT.and ?_
  refine KT.pvA 8 21 (.tuple #[(.agg #[(.int .i64 x29.1.1), (.int .i64 x29.1.2)]), (.bool x29.2)]) ?_
  refine KT.pvA 9 30 (.agg #[(.int .i64 x29.1.1), (.int .i64 x29.1.2)]) ?_
  refine KT.pvA 10 31 (.bool x29.2) ?_
  refine KT.last 12 rfl (by kernel_rfl) rfl rfl (OW.stA _ _ _ rfl rfl rfl rfl rfl (by kernel_rfl) ?_)
  refine KT.pvN 13 9 (.bool x29.2) ?_
  refine KT.doneN (by kernel_rfl) ?_
  refine SX.seq ?_
  refine SC.seq ?_
  refine SC.seq ?_
  refine SC.region' ?_
  refine KT.pv 32 (.bool x29.2) ?_
  refine KT.nil ?_
  refine SX.seq ?_
  refine SC.cond (b := x29.2) rfl ?_ ?_
  refine SC.draw 14 (fun f => Nat.beq f 13) rfl (by kernel_rfl) (fun S4 => ?_)
  refine KT.pvA 0 33 (.pointer (some x8)) ?_
  refine KT.tk 1 (OY.ldI (d := 34) _ _ rfl rfl (by kernel_rfl) rfl rfl (fun x34 => ?_))
  refine KT.pvA 2 35 (.int .i64 (w64 (x34 + 1))) ?_
  refine KT.pvA 3 36 (.int .i64 p2_k) ?_
  refine KT.pvA 4 37 (.pointer (some x3)) ?_
  refine KT.tk 5 (OY.ldI (d := 38) _ _ rfl rfl (by kernel_rfl) rfl rfl (fun x38 => ?_))
  refine KT.pvA 6 39 (.int .i64 (w64 (x38 - 1))) ?_
  refine KT.tp 7 (OY.rem (d := 40) (x := p2_k) (y := w64 (x38 - 1)) _ _ _ _ (Int.tmod p2_k (w64 (x38 - 1))) rfl rfl rfl rfl rfl rfl ?_)
  refine KT.pvA 8 41 (.int .i64 (w64 ((w64 (x34 + 1)) + (Int.tmod p2_k (w64 (x38 - 1)))))) ?_
  refine KT.pvA 9 42 (.pointer (some x3)) ?_
  refine KT.tk 10 (OY.ldI (d := 43) _ _ rfl rfl (by kernel_rfl) rfl rfl (fun x43 => ?_))
  refine KT.tp 11 (OY.rem (d := 44) (x := w64 ((w64 (x34 + 1)) + (Int.tmod p2_k (w64 (x38 - 1))))) (y := x43) _ _ _ _ (Int.tmod (w64 ((w64 (x34 + 1)) + (Int.tmod p2_k (w64 (x38 - 1))))) x43) rfl rfl rfl rfl rfl rfl ?_)
  refine KT.pvA 12 45 (.pointer (some x8)) ?_
  refine KT.last 13 rfl (by kernel_rfl) rfl rfl (OW.st _ _ _ rfl rfl rfl rfl (by kernel_rfl) rfl ?_)
  refine KT.doneN (by kernel_rfl) ?_
  refine SX.sub (T' := [(6, (.pointer (some x6))), (8, (.pointer (some x8))), (9, (.bool x29.2))]) (.cons rfl (.cons rfl (.cons rfl (.nil)))) ?_
  refine SX.seq ?_
  refine SC.seq ?_
  refine SC.region' ?_
  refine KT.ow rfl (OW.ldA (d := 46) (enc := (fun y : (Int × Int) => [(.int .i64 y.1), (.int .i64 y.2)])) 2 _ _ rfl rfl (by kernel_rfl) (by kernel_rfl) (fun _ => rfl) rfl rfl (fun x46 => ?_))
  refine KT.pv 47 (.bool x29.2) ?_
  refine KT.ow rfl (OW.stA _ _ _ rfl rfl rfl rfl rfl (by kernel_rfl) ?_)
  refine KT.pv 7 (.bool x29.2) ?_
  refine KT.nil ?_
  refine SX.seq ?_
  refine SC.ret ?_
  refine SX.ret [.cell 6 140, .tmp 7] rfl ?_
  refine RS.cellA 2 (by kernel_rfl) rfl rfl (fun _ => rfl) (fun r6 => ?_)
  refine RS.tmp (.bool x29.2) rfl ?_
  exact RS.nil rfl
  refine SC.skip ?_
  refine SX.seq ?_
  refine SC.seq ?_
  refine SC.region' ?_
  refine KT.ow rfl (OW.ldA (d := 46) (enc := (fun y : (Int × Int) => [(.int .i64 y.1), (.int .i64 y.2)])) 2 _ _ rfl rfl (by kernel_rfl) (by kernel_rfl) (fun _ => rfl) rfl rfl (fun x46 => ?_))
  refine KT.pv 47 (.bool x29.2) ?_
  refine KT.ow rfl (OW.stA _ _ _ rfl rfl rfl rfl rfl (by kernel_rfl) ?_)
  refine KT.pv 7 (.bool x29.2) ?_
  refine KT.nil ?_
  refine SX.seq ?_
  refine SC.ret ?_
  refine SX.ret [.cell 6 140, .tmp 7] rfl ?_
  refine RS.cellA 2 (by kernel_rfl) rfl rfl (fun _ => rfl) (fun r6 => ?_)
  refine RS.tmp (.bool x29.2) rfl ?_
  exact RS.nil rfl
  refine KT.ite (b := !x11) 13 rfl ?_ ?_
  refine KT.sk ?_
  refine KT.sk ?_
  refine KT.sk ?_
  refine KT.sk ?_
  refine KT.sk ?_
  refine KT.pv 19 (.bool true) ?_
  exact KT.leafO j1 (.cons rfl (.cons rfl (.cons rfl (.cons rfl (.cons rfl (.nil))))))
  refine KT.pv 14 (.int .i64 p2_k) ?_
  refine KT.ow rfl (OW.ldA (d := 15) (enc := (fun y : (Int × Int × Int) => [(.int .i64 y.1), (.int .i64 y.2.1), (.int .i64 y.2.2)])) 3 _ _ rfl rfl (by kernel_rfl) (by kernel_rfl) (fun _ => rfl) rfl rfl (fun x15 => ?_))
  refine KT.cl (Value.int .i64) 16 112 #[(.agg #[(.int .i64 x15.1), (.int .i64 x15.2.1), (.int .i64 x15.2.2)])] (geo_places_sim (x15.1, x15.2.1, x15.2.2)) (fun x16 => ?_)
  refine KT.cl Value.bool 17 110 #[(.int .i64 p2_k), (.int .i64 0), (.int .i64 x16)] (geo_within_sim p2_k 0 x16) (fun x17 => ?_)
  refine KT.pv 18 (.bool (!x17)) ?_
  refine KT.pv 19 (.bool (!x17)) ?_
  exact KT.leafO j1 (.cons rfl (.cons rfl (.cons rfl (.cons rfl (.cons rfl (.nil))))))
set_option maxRecDepth 100000 in
theorem stripe_rows_c1_sim (p0_yield : Value) (p1_a : Addr) (p2_a : Addr) (Qf : Unit → World → Prop) (w : World) (hm : stripe_rows_c1 (cvOf Try.prog) p0_yield p1_a p2_a Qf w) : Calls Try.prog 119 #[p0_yield, (.pointer (some p1_a)), (.pointer (some p2_a))] w (RetPost (fun y : Unit => (.tuple #[])) Qf) := by
  refine calls_of (fn := Try.f119) (l := [p0_yield, (.pointer (some p1_a)), (.pointer (some p2_a))]) (m := stripe_rows_c1 (cvOf Try.prog) p0_yield p1_a p2_a) 56 (by kernel_rfl) rfl rfl rfl (fun Qf0 => ?_) Qf w hm
  clear hm w Qf
  unfold stripe_rows_c1
  refine SC.seq ?_
  refine SC.region' ?_
  refine KT.pv 12 (.pointer (some p1_a)) ?_
  refine KT.l 13 (fun x13 => ?_)
  refine KT.pv 14 (.int .i64 (w64 (x13 - 1))) ?_
  refine KT.pv 4 (.int .i64 (w64 (x13 - 1))) ?_
  refine KT.nil ?_
  refine SX.seq ?_
  refine SC.seq ?_
  refine SC.region' ?_
  refine KT.pv 15 (.pointer (some (Addr.add p1_a 1))) ?_
  refine KT.l 16 (fun x16 => ?_)
  refine KT.pv 17 (.int .i64 0) ?_
  refine KT.nil ?_
  refine SX.seq ?_
  refine SC.block ?_
  refine SC.loop (σ := (Int)) (fun s1 => [(0, p0_yield), (1, (.pointer (some p1_a))), (2, (.pointer (some p2_a))), (4, (.int .i64 (w64 (x13 - 1)))), (16, (.int .i64 x16)), (17, (.int .i64 s1))]) (.cons rfl (.cons rfl (.cons rfl (.cons rfl (.cons rfl (.cons rfl (.nil))))))) (fun _ _ _ s1 => ?_)
  refine SC.seq ?_
  refine SC.region' ?_
  refine KT.pv 18 (.bool (decide (s1 < x16))) ?_
  refine KT.nil ?_
  refine SX.seq ?_
  refine SC.seq ?_
  refine SC.cond (b := decide (s1 < x16)) rfl ?_ ?_
  refine SC.skip ?_
  refine SX.seq ?_
  refine SC.seq ?_
  refine SC.block ?_
  refine SC.seq ?_
  refine SC.region' ?_
  refine KT.pv 19 (.int .i64 s1) ?_
  refine KT.pv 5 (.int .i64 s1) ?_
  refine KT.nil ?_
  refine SX.seq ?_
  refine SC.seq ?_
  refine SC.region' ?_
  refine KT.pv 6 (.slice none 0 0) ?_
  refine KT.nil ?_
  refine SX.seq ?_
  refine SC.seq ?_
  refine SC.seq ?_
  refine SC.region' ?_
  refine KT.pv 20 (.int .i64 (w64 (x13 - 1))) ?_
  refine KT.pv 21 (.int .i64 0) ?_
  refine KT.nil ?_
  refine SX.seq ?_
  refine SC.block ?_
  refine SC.loop (σ := (Slc × Int)) (fun s2 => [(0, p0_yield), (1, (.pointer (some p1_a))), (2, (.pointer (some p2_a))), (4, (.int .i64 (w64 (x13 - 1)))), (5, (.int .i64 s1)), (6, (.slice s2.1.base s2.1.len s2.1.cap)), (16, (.int .i64 x16)), (17, (.int .i64 s1)), (20, (.int .i64 (w64 (x13 - 1)))), (21, (.int .i64 s2.2))]) (.cons rfl (.cons rfl (.cons rfl (.cons rfl (.cons rfl (.cons rfl (.cons rfl (.cons rfl (.cons rfl (.cons rfl (.nil))))))))))) (fun _ _ _ s2 => ?_)
  refine SC.seq ?_
  refine SC.region' ?_
  refine KT.pv 22 (.bool (decide (s2.2 < (w64 (x13 - 1))))) ?_
  refine KT.nil ?_
  refine SX.seq ?_
  refine SC.seq ?_
  refine SC.cond (b := decide (s2.2 < (w64 (x13 - 1)))) rfl ?_ ?_
  refine SC.skip ?_
  refine SX.seq ?_
  refine SC.seq ?_
  refine SC.block ?_
  refine SC.seq ?_
  refine SC.region' ?_
  refine KT.pv 23 (.int .i64 s2.2) ?_
  refine KT.pv 7 (.int .i64 s2.2) ?_
  refine KT.nil ?_
  refine SX.seq ?_
  refine SC.seq ?_
  refine SC.region' ?_
  refine KT.ow rfl (OW.ldA (d := 25) (enc := (fun y : (Int × Int × Int) => [(.int .i64 y.1), (.int .i64 y.2.1), (.int .i64 y.2.2)])) 3 _ _ rfl rfl (by kernel_rfl) (by kernel_rfl) (fun _ => rfl) rfl rfl (fun x25 => ?_))
  refine KT.l 26 (fun x26 => ?_)
  refine KT.pv 27 (.int .i64 s1) ?_
  refine KT.pv 28 (.int .i64 (w64 (x13 - 1))) ?_
  refine KT.pv 29 (.int .i64 (w64 (s1 * (w64 (x13 - 1))))) ?_
  refine KT.pv 30 (.int .i64 s2.2) ?_
  refine KT.pv 31 (.int .i64 (w64 ((w64 (s1 * (w64 (x13 - 1)))) + s2.2))) ?_
  refine KT.cl (fun y : ((Int × Int) × Bool) => (.tuple #[(.agg #[(.int .i64 y.1.1), (.int .i64 y.1.2)]), (.bool y.2)])) 32 83 #[(.agg #[(.int .i64 x25.1), (.int .i64 x25.2.1), (.int .i64 x25.2.2)]), (.int .i64 x26), (.int .i64 (w64 ((w64 (s1 * (w64 (x13 - 1)))) + s2.2)))] (geo_Block_sim (x25.1, x25.2.1, x25.2.2) x26 (w64 ((w64 (s1 * (w64 (x13 - 1)))) + s2.2))) (fun x32 => ?_)
  refine KT.pv 24 (.tuple #[(.agg #[(.int .i64 x32.1.1), (.int .i64 x32.1.2)]), (.bool x32.2)]) ?_
  refine KT.pv 33 (.agg #[(.int .i64 x32.1.1), (.int .i64 x32.1.2)]) ?_
  refine KT.pv 34 (.bool x32.2) ?_
  refine KT.nw 8 (fun ad => .pointer (some ad)) 140 (fun x8 => ?_)
  refine KT.ow rfl (OW.stA _ _ _ rfl rfl rfl rfl rfl (by kernel_rfl) ?_)
  refine KT.pv 9 (.bool x32.2) ?_
  refine KT.nil ?_
  refine SX.seq ?_
  refine SC.region' ?_
  refine KT.pv 35 (.slice s2.1.base s2.1.len s2.1.cap) ?_
  refine KT.ow rfl (OW.ldA (d := 36) (enc := (fun y : (Int × Int) => [(.int .i64 y.1), (.int .i64 y.2)])) 2 _ _ rfl rfl (by kernel_rfl) (by kernel_rfl) (fun _ => rfl) rfl rfl (fun x36 => ?_))
  refine KT.nw 37 (fun ad => .slice (some ad) 1 1) 140 (fun x37 => ?_)
  refine KT.ow rfl (OW.append (d := 38) (s := s2.1) (x := ⟨some x37, 1, 1⟩) [(.int .i64 0), (.int .i64 0)] 16 140 _ _ _ _ rfl rfl rfl rfl (by kernel_rfl) (by kernel_rfl) rfl rfl rfl (fun x38 => ?_))
  refine KT.pv 6 (.slice x38.base x38.len x38.cap) ?_
  refine KT.nil ?_
  refine SX.sub (T' := [(0, p0_yield), (1, (.pointer (some p1_a))), (2, (.pointer (some p2_a))), (4, (.int .i64 (w64 (x13 - 1)))), (5, (.int .i64 s1)), (6, (.slice x38.base x38.len x38.cap)), (16, (.int .i64 x16)), (17, (.int .i64 s1)), (20, (.int .i64 (w64 (x13 - 1)))), (21, (.int .i64 s2.2))]) (.cons rfl (.cons rfl (.cons rfl (.cons rfl (.cons rfl (.cons rfl (.cons rfl (.cons rfl (.cons rfl (.cons rfl (.nil))))))))))) ?_
  refine SX.block ?_
  refine SX.seq ?_
  refine SC.region' ?_
  refine KT.pv 39 (.int .i64 (w64 (s2.2 + 1))) ?_
  refine KT.pv 21 (.int .i64 (w64 (s2.2 + 1))) ?_
  refine KT.nil ?_
  exact SX.loop_next (.cons rfl (.cons rfl (.cons rfl (.cons rfl (.cons rfl (.cons rfl (.cons rfl (.cons rfl (.cons rfl (.cons rfl (.nil)))))))))))
  refine SC.exit ?_
  refine SX.then_exit ?_
  refine SX.loop_exit ?_
  refine SX.block_hit ?_
  refine SX.seq ?_
  refine SC.seq ?_
  refine SC.region' ?_
  refine KT.ow rfl (OW.ldA (d := 41) (enc := (fun y : (Int × Int × Int) => [(.int .i64 y.1), (.int .i64 y.2.1), (.int .i64 y.2.2)])) 3 _ _ rfl rfl (by kernel_rfl) (by kernel_rfl) (fun _ => rfl) rfl rfl (fun x41 => ?_))
  refine KT.l 42 (fun x42 => ?_)
  refine KT.pv 43 (.int .i64 s1) ?_
  refine KT.cl (fun y : ((Int × Int) × Bool) => (.tuple #[(.agg #[(.int .i64 y.1.1), (.int .i64 y.1.2)]), (.bool y.2)])) 44 120 #[(.agg #[(.int .i64 x41.1), (.int .i64 x41.2.1), (.int .i64 x41.2.2)]), (.int .i64 x42), (.int .i64 s1)] (geo_Parity_sim (x41.1, x41.2.1, x41.2.2) x42 s1) (fun x44 => ?_)
  refine KT.pv 40 (.tuple #[(.agg #[(.int .i64 x44.1.1), (.int .i64 x44.1.2)]), (.bool x44.2)]) ?_
  refine KT.pv 45 (.agg #[(.int .i64 x44.1.1), (.int .i64 x44.1.2)]) ?_
  refine KT.pv 46 (.bool x44.2) ?_
  refine KT.nw 10 (fun ad => .pointer (some ad)) 140 (fun x10 => ?_)
  refine KT.ow rfl (OW.stA _ _ _ rfl rfl rfl rfl rfl (by kernel_rfl) ?_)
  refine KT.pv 11 (.bool x44.2) ?_
  refine KT.nil ?_
  refine SX.seq ?_
  refine SC.seq ?_
  refine SC.region' ?_
  refine KT.pv 47 p0_yield ?_
  refine KT.pv 48 (.int .i64 s1) ?_
  refine KT.pv 49 (.slice s2.1.base s2.1.len s2.1.cap) ?_
  refine KT.ow rfl (OW.ldA (d := 50) (enc := (fun y : (Int × Int) => [(.int .i64 y.1), (.int .i64 y.2)])) 2 _ _ rfl rfl (by kernel_rfl) (by kernel_rfl) (fun _ => rfl) rfl rfl (fun x50 => ?_))
  refine KT.nw 51 (fun ad => .slice (some ad) 1 1) 140 (fun x51 => ?_)
  refine KT.ow rfl (OW.append (d := 52) (s := s2.1) (x := ⟨some x51, 1, 1⟩) [(.int .i64 0), (.int .i64 0)] 16 140 _ _ _ _ rfl rfl rfl rfl (by kernel_rfl) (by kernel_rfl) rfl rfl rfl (fun x52 => ?_))
  refine KT.ow rfl (OW.callv (d := 53) (enc := Value.bool) (vs := [(.int .i64 s1), (.slice x52.base x52.len x52.cap)]) _ [.tmp 48, .tmp 52] _ rfl rfl rfl rfl rfl (fun x53 => ?_))
  refine KT.pv 54 (.bool (!x53)) ?_
  refine KT.nil ?_
  refine SX.seq ?_
  refine SC.cond (b := !x53) rfl ?_ ?_
  refine SC.ret ?_
  refine SX.block_ret ?_
  refine SX.then_ret ?_
  refine SX.loop_ret ?_
  refine SX.block_ret ?_
  refine SX.ret [] rfl ?_
  exact RS.nil rfl
  refine SC.skip ?_
  refine SX.block ?_
  refine SX.seq ?_
  refine SC.region' ?_
  refine KT.pv 55 (.int .i64 (w64 (s1 + 1))) ?_
  refine KT.pv 17 (.int .i64 (w64 (s1 + 1))) ?_
  refine KT.nil ?_
  refine SX.sub (T' := [(0, p0_yield), (1, (.pointer (some p1_a))), (2, (.pointer (some p2_a))), (4, (.int .i64 (w64 (x13 - 1)))), (16, (.int .i64 x16)), (17, (.int .i64 (w64 (s1 + 1))))]) (.cons rfl (.cons rfl (.cons rfl (.cons rfl (.cons rfl (.cons rfl (.nil))))))) ?_
  exact SX.loop_next (.cons rfl (.cons rfl (.cons rfl (.cons rfl (.cons rfl (.cons rfl (.nil)))))))
  refine SC.exit ?_
  refine SX.then_exit ?_
  refine SX.loop_exit ?_
  refine SX.block_hit ?_
  refine SX.endBody [] rfl ?_
  exact RS.nil rfl
set_option maxRecDepth 100000 in
theorem stripe_rows_sim (p0_g : (Int × Int × Int)) (p1_seg : Int) (Qf : Value → World → Prop) (w : World) (hm : stripe_rows p0_g p1_seg Qf w) : Calls Try.prog 78 #[(.agg #[(.int .i64 p0_g.1), (.int .i64 p0_g.2.1), (.int .i64 p0_g.2.2)]), (.int .i64 p1_seg)] w (RetPost (fun v : Value => v) Qf) := by
  refine calls_of (fn := Try.f78) (l := [(.agg #[(.int .i64 p0_g.1), (.int .i64 p0_g.2.1), (.int .i64 p0_g.2.2)]), (.int .i64 p1_seg)]) (m := stripe_rows p0_g p1_seg) 6 (by kernel_rfl) rfl rfl rfl (fun Qf0 => ?_) Qf w hm
  clear hm w Qf
  unfold stripe_rows
  refine SC.seq ?_
  refine SC.region' ?_
  refine KT.nw 2 (fun ad => .pointer (some ad)) 23 (fun x2 => ?_)
  refine KT.nw 3 (fun ad => .pointer (some ad)) 3 (fun x3 => ?_)
  refine KT.pv 4 Value.nilFunc ?_
  refine KT.nil ?_
  refine SX.seq ?_
  refine SC.seq ?_
  refine SC.region' ?_
  refine KT.pv 5 (.func (.func fid_stripe_rows_c1) #[] #[(.pointer (some x2)), (.pointer (some x3))]) ?_
  refine KT.pv 4 (.func (.func fid_stripe_rows_c1) #[] #[(.pointer (some x2)), (.pointer (some x3))]) ?_
  refine KT.nil ?_
  refine SX.seq ?_
  refine SC.ret ?_
  refine SX.ret [.tmp 4] rfl ?_
  refine RS.tmp (.func (.func fid_stripe_rows_c1) #[] #[(.pointer (some x2)), (.pointer (some x3))]) rfl ?_
  exact RS.nil rfl
set_option maxRecDepth 100000 in
theorem bytes_Equal_sim (p0_a : Slc) (p1_b : Slc) (Qf : Bool → World → Prop) (w : World) (hm : bytes_Equal p0_a p1_b Qf w) : Calls Try.prog 87 #[(.slice p0_a.base p0_a.len p0_a.cap), (.slice p1_b.base p1_b.len p1_b.cap)] w (RetPost Value.bool Qf) := by
  refine calls_of (fn := Try.f87) (l := [(.slice p0_a.base p0_a.len p0_a.cap), (.slice p1_b.base p1_b.len p1_b.cap)]) (m := bytes_Equal p0_a p1_b) 10 (by kernel_rfl) rfl rfl rfl (fun Qf0 => ?_) Qf w hm
  clear hm w Qf
  unfold bytes_Equal
  refine SC.seq ?_
  refine SC.region' ?_
  refine KT.pv 4 (.bool false) ?_
  refine KT.nil ?_
  refine SX.seq ?_
  refine SC.seq ?_
  refine SC.region' ?_
  refine KT.pv 5 (.slice p0_a.base p0_a.len p0_a.cap) ?_
  refine KT.ow rfl (OW.bstr (d := 6) (s := p0_a) _ _ 5 _ rfl rfl (by kernel_rfl) (by kernel_rfl) (by kernel_rfl) rfl rfl (fun x6 => ?_))
  refine KT.pv 7 (.slice p1_b.base p1_b.len p1_b.cap) ?_
  refine KT.ow rfl (OW.bstr (d := 8) (s := p1_b) _ _ 5 _ rfl rfl (by kernel_rfl) (by kernel_rfl) (by kernel_rfl) rfl rfl (fun x8 => ?_))
  refine KT.oy rfl (OY.eqlStr (d := 9) (x := x6) (y := x8) _ _ _ _ rfl rfl rfl (by kernel_rfl) rfl rfl ?_)
  refine KT.pv 4 (.bool (strEq x6 x8)) ?_
  refine KT.nil ?_
  refine SX.seq ?_
  refine SC.ret ?_
  refine SX.ret [.tmp 4] rfl ?_
  refine RS.tmp (.bool (strEq x6 x8)) rfl ?_
  exact RS.nil rfl
set_option maxRecDepth 100000 in
theorem bytes_HasPrefix_sim (p0_s : Slc) (p1_prefix : Slc) (Qf : Bool → World → Prop) (w : World) (hm : bytes_HasPrefix p0_s p1_prefix Qf w) : Calls Try.prog 121 #[(.slice p0_s.base p0_s.len p0_s.cap), (.slice p1_prefix.base p1_prefix.len p1_prefix.cap)] w (RetPost Value.bool Qf) := by
  refine calls_of (fn := Try.f121) (l := [(.slice p0_s.base p0_s.len p0_s.cap), (.slice p1_prefix.base p1_prefix.len p1_prefix.cap)]) (m := bytes_HasPrefix p0_s p1_prefix) 18 (by kernel_rfl) rfl rfl rfl (fun Qf0 => ?_) Qf w hm
  clear hm w Qf
  unfold bytes_HasPrefix
  refine SC.seq ?_
  refine SC.region' ?_
  refine KT.pv 4 (.bool false) ?_
  refine KT.nil ?_
  refine SX.seq ?_
  refine SC.seq ?_
  refine SC.region' ?_
  refine KT.pv 5 (.slice p0_s.base p0_s.len p0_s.cap) ?_
  refine KT.pv 6 (.int .i64 ((p0_s.len : Nat) : Int)) ?_
  refine KT.pv 7 (.slice p1_prefix.base p1_prefix.len p1_prefix.cap) ?_
  refine KT.pv 8 (.int .i64 ((p1_prefix.len : Nat) : Int)) ?_
  refine KT.pv 9 (.bool (decide (((p0_s.len : Nat) : Int) ≥ ((p1_prefix.len : Nat) : Int)))) ?_
  refine KT.pv 10 (.bool (decide (((p0_s.len : Nat) : Int) ≥ ((p1_prefix.len : Nat) : Int)))) ?_
  refine KT.joinO (β := Bool) 7 (fun r1 => [(17, (.bool r1))]) (fun r1 => ?_) (fun j1 => ?_)
  refine KT.pv 4 (.bool r1) ?_
  refine KT.nil ?_
  refine SX.seq ?_
  refine SC.ret ?_
  refine SX.ret [.tmp 4] rfl ?_
  refine RS.tmp (.bool r1) rfl ?_
  exact RS.nil rfl
  refine KT.ite (b := decide (((p0_s.len : Nat) : Int) ≥ ((p1_prefix.len : Nat) : Int))) 10 rfl ?_ ?_
  refine KT.pv 11 (.slice p0_s.base p0_s.len p0_s.cap) ?_
  refine KT.pv 12 (.slice p1_prefix.base p1_prefix.len p1_prefix.cap) ?_
  refine KT.pv 13 (.int .i64 ((p1_prefix.len : Nat) : Int)) ?_
  refine KT.oy rfl (OY.slice01 (d := 14) (s := p0_s) (hi := ((p1_prefix.len : Nat) : Int)) (size := 1) (elem := 5) _ _ _ rfl rfl rfl (by kernel_rfl) (by kernel_rfl) rfl rfl (fun x14 => ?_))
  refine KT.pv 15 (.slice p1_prefix.base p1_prefix.len p1_prefix.cap) ?_
  refine KT.cl Value.bool 16 87 #[(.slice x14.base x14.len x14.cap), (.slice p1_prefix.base p1_prefix.len p1_prefix.cap)] (bytes_Equal_sim x14 p1_prefix) (fun x16 => ?_)
  refine KT.pv 17 (.bool x16) ?_
  exact KT.leafO j1 (.cons rfl (.nil))
  refine KT.sk ?_
  refine KT.sk ?_
  refine KT.sk ?_
  refine KT.sk ?_
  refine KT.sk ?_
  refine KT.sk ?_
  refine KT.pv 17 (.bool false) ?_
  exact KT.leafO j1 (.cons rfl (.nil))
set_option maxRecDepth 100000 in
theorem bytes_Clone_sim (p0_b : Slc) (Qf : Slc → World → Prop) (w : World) (hm : bytes_Clone p0_b Qf w) : Calls Try.prog 123 #[(.slice p0_b.base p0_b.len p0_b.cap)] w (RetPost vS Qf) := by
  refine calls_of (fn := Try.f123) (l := [(.slice p0_b.base p0_b.len p0_b.cap)]) (m := bytes_Clone p0_b) 8 (by kernel_rfl) rfl rfl rfl (fun Qf0 => ?_) Qf w hm
  clear hm w Qf
  unfold bytes_Clone
  refine SC.seq ?_
  refine SC.region' ?_
  refine KT.pv 2 (.slice none 0 0) ?_
  refine KT.nil ?_
  refine SX.seq ?_
  refine SC.seq ?_
  refine SC.seq ?_
  refine SC.region' ?_
  refine KT.pv 3 (.slice p0_b.base p0_b.len p0_b.cap) ?_
  refine KT.oy rfl (OY.eqlSl (d := 4) (s := p0_b) _ _ _ _ 5 rfl rfl rfl (by kernel_rfl) rfl rfl ?_)
  refine KT.nil ?_
  refine SX.seq ?_
  refine SC.cond (b := p0_b.base.isNone) rfl ?_ ?_
  refine SC.seq ?_
  refine SC.region' ?_
  refine KT.pv 2 (.slice none 0 0) ?_
  refine KT.nil ?_
  refine SX.seq ?_
  refine SC.ret ?_
  refine SX.then_ret ?_
  refine SX.ret [.tmp 2] rfl ?_
  refine RS.tmp (.slice none 0 0) rfl ?_
  exact RS.nil rfl
  refine SC.skip ?_
  refine SX.seq ?_
  refine SC.seq ?_
  refine SC.region' ?_
  refine KT.nw 5 (fun ad => .slice (some ad) 0 0) 5 (fun x5 => ?_)
  refine KT.pv 6 (.slice p0_b.base p0_b.len p0_b.cap) ?_
  refine KT.ow rfl (OW.append (d := 7) (s := ⟨some x5, 0, 0⟩) (x := p0_b) [(.int .u8 0)] 1 5 _ _ _ _ rfl rfl rfl rfl (by kernel_rfl) (by kernel_rfl) rfl rfl rfl (fun x7 => ?_))
  refine KT.pv 2 (.slice x7.base x7.len x7.cap) ?_
  refine KT.nil ?_
  refine SX.seq ?_
  refine SC.ret ?_
  refine SX.ret [.tmp 2] rfl ?_
  refine RS.tmp (.slice x7.base x7.len x7.cap) rfl ?_
  exact RS.nil rfl
set_option maxRecDepth 100000 in
theorem bits_Xor_sim (p0_a : Slc) (p1_b : Slc) (Qf : Slc → World → Prop) (w : World) (hm : bits_Xor p0_a p1_b Qf w) : Calls Try.prog 122 #[(.slice p0_a.base p0_a.len p0_a.cap), (.slice p1_b.base p1_b.len p1_b.cap)] w (RetPost vS Qf) := by
  refine calls_of (fn := Try.f122) (l := [(.slice p0_a.base p0_a.len p0_a.cap), (.slice p1_b.base p1_b.len p1_b.cap)]) (m := bits_Xor p0_a p1_b) 33 (by kernel_rfl) rfl rfl rfl (fun Qf0 => ?_) Qf w hm
  clear hm w Qf
  unfold bits_Xor
  refine SC.seq ?_
  refine SC.region' ?_
  refine KT.pv 4 (.slice none 0 0) ?_
  refine KT.nil ?_
  refine SX.seq ?_
  refine SC.seq ?_
  refine SC.seq ?_
  refine SC.region' ?_
  refine KT.pv 8 (.slice p0_a.base p0_a.len p0_a.cap) ?_
  refine KT.pv 9 (.int .i64 ((p0_a.len : Nat) : Int)) ?_
  refine KT.pv 10 (.slice p1_b.base p1_b.len p1_b.cap) ?_
  refine KT.pv 11 (.int .i64 ((p1_b.len : Nat) : Int)) ?_
  refine KT.pv 12 (.bool (decide (((p0_a.len : Nat) : Int) < ((p1_b.len : Nat) : Int)))) ?_
  refine KT.nil ?_
  refine SX.seq ?_
  refine SC.join (β := (Slc × Slc)) (fun b1 => [(0, (.slice b1.1.base b1.1.len b1.1.cap)), (1, (.slice b1.2.base b1.2.len b1.2.cap))]) (fun b1 => ?_) (fun j1 => ?_)
  refine SX.seq ?_
  refine SC.seq ?_
  refine SC.region' ?_
  refine KT.pv 15 (.slice b1.1.base b1.1.len b1.1.cap) ?_
  refine KT.cl vS 16 123 #[(.slice b1.1.base b1.1.len b1.1.cap)] (bytes_Clone_sim b1.1) (fun x16 => ?_)
  refine KT.pv 5 (.slice x16.base x16.len x16.cap) ?_
  refine KT.nil ?_
  refine SX.seq ?_
  refine SC.seq ?_
  refine SC.seq ?_
  refine SC.region' ?_
  refine KT.pv 17 (.slice b1.2.base b1.2.len b1.2.cap) ?_
  refine KT.pv 18 (.int .i64 ((b1.2.len : Nat) : Int)) ?_
  refine KT.pv 19 (.int .i64 0) ?_
  refine KT.nil ?_
  refine SX.seq ?_
  refine SC.block ?_
  refine SC.loop (σ := (Int)) (fun s2 => [(5, (.slice x16.base x16.len x16.cap)), (17, (.slice b1.2.base b1.2.len b1.2.cap)), (18, (.int .i64 ((b1.2.len : Nat) : Int))), (19, (.int .i64 s2))]) (.cons rfl (.cons rfl (.cons rfl (.cons rfl (.nil))))) (fun _ _ _ s2 => ?_)
  refine SC.seq ?_
  refine SC.region' ?_
  refine KT.pv 20 (.bool (decide (s2 < ((b1.2.len : Nat) : Int)))) ?_
  refine KT.nil ?_
  refine SX.seq ?_
  refine SC.seq ?_
  refine SC.cond (b := decide (s2 < ((b1.2.len : Nat) : Int))) rfl ?_ ?_
  refine SC.skip ?_
  refine SX.seq ?_
  refine SC.seq ?_
  refine SC.block ?_
  refine SC.seq ?_
  refine SC.region' ?_
  refine KT.pv 21 (.int .i64 s2) ?_
  refine KT.oy rfl (OY.idx (d := 22) (s := b1.2) (i := s2) (size := 1) (elem := 5) _ _ _ rfl rfl rfl (by kernel_rfl) (by kernel_rfl) rfl rfl (fun x22 => ?_))
  refine KT.l 23 (fun x23 => ?_)
  refine KT.pv 6 (.int .i64 s2) ?_
  refine KT.pv 7 (.int .u8 x23) ?_
  refine KT.nil ?_
  refine SX.seq ?_
  refine SC.region' ?_
  refine KT.pv 24 (.slice x16.base x16.len x16.cap) ?_
  refine KT.pv 25 (.int .i64 s2) ?_
  refine KT.oy rfl (OY.idx (d := 26) (s := x16) (i := s2) (size := 1) (elem := 5) _ _ _ rfl rfl rfl (by kernel_rfl) (by kernel_rfl) rfl rfl (fun x26 => ?_))
  refine KT.l 27 (fun x27 => ?_)
  refine KT.pv 28 (.int .u8 x23) ?_
  refine KT.pv 29 (.int .u8 (bXor .u8 x27 x23)) ?_
  refine KT.oy rfl (OY.idx (d := 30) (s := x16) (i := s2) (size := 1) (elem := 5) _ _ _ rfl rfl rfl (by kernel_rfl) (by kernel_rfl) rfl rfl (fun x30 => ?_))
  refine KT.s ?_
  refine KT.nil ?_
  refine SX.block ?_
  refine SX.seq ?_
  refine SC.region' ?_
  refine KT.pv 31 (.int .i64 (w64 (s2 + 1))) ?_
  refine KT.pv 19 (.int .i64 (w64 (s2 + 1))) ?_
  refine KT.nil ?_
  exact SX.loop_next (.cons rfl (.cons rfl (.cons rfl (.cons rfl (.nil)))))
  refine SC.exit ?_
  refine SX.then_exit ?_
  refine SX.loop_exit ?_
  refine SX.block_hit ?_
  refine SX.seq ?_
  refine SC.seq ?_
  refine SC.region' ?_
  refine KT.pv 32 (.slice x16.base x16.len x16.cap) ?_
  refine KT.pv 4 (.slice x16.base x16.len x16.cap) ?_
  refine KT.nil ?_
  refine SX.seq ?_
  refine SC.ret ?_
  refine SX.ret [.tmp 4] rfl ?_
  refine RS.tmp (.slice x16.base x16.len x16.cap) rfl ?_
  exact RS.nil rfl
  refine SC.cond (b := decide (((p0_a.len : Nat) : Int) < ((p1_b.len : Nat) : Int))) rfl ?_ ?_
  refine SC.region' ?_
  refine KT.pv 13 (.slice p1_b.base p1_b.len p1_b.cap) ?_
  refine KT.pv 14 (.slice p0_a.base p0_a.len p0_a.cap) ?_
  refine KT.pv 0 (.slice p1_b.base p1_b.len p1_b.cap) ?_
  refine KT.pv 1 (.slice p0_a.base p0_a.len p0_a.cap) ?_
  refine KT.nil ?_
  exact SX.leafS j1 (.cons rfl (.cons rfl (.nil)))
  refine SC.skip ?_
  exact SX.leafS j1 (.cons rfl (.cons rfl (.nil)))
set_option maxRecDepth 100000 in
theorem sector_Parity_sim (p0_list : Slc) (Qf : (Slc × Bool) → World → Prop) (w : World) (hm : sector_Parity p0_list Qf w) : Calls Try.prog 79 #[(.slice p0_list.base p0_list.len p0_list.cap)] w (RetPost (fun y : (Slc × Bool) => (.tuple #[(.slice y.1.base y.1.len y.1.cap), (.bool y.2)])) Qf) := by
  refine calls_of (fn := Try.f79) (l := [(.slice p0_list.base p0_list.len p0_list.cap)]) (m := sector_Parity p0_list) 46 (by kernel_rfl) rfl rfl rfl (fun Qf0 => ?_) Qf w hm
  clear hm w Qf
  unfold sector_Parity
  refine SC.seq ?_
  refine SC.region' ?_
  refine KT.pv 2 (.slice none 0 0) ?_
  refine KT.pv 3 (.bool false) ?_
  refine KT.nil ?_
  refine SX.seq ?_
  refine SC.seq ?_
  refine SC.seq ?_
  refine SC.region' ?_
  refine KT.pv 8 (.slice p0_list.base p0_list.len p0_list.cap) ?_
  refine KT.pv 9 (.int .i64 ((p0_list.len : Nat) : Int)) ?_
  refine KT.pv 10 (.bool (((p0_list.len : Nat) : Int) == 0)) ?_
  refine KT.pv 11 (.bool (((p0_list.len : Nat) : Int) == 0)) ?_
  refine KT.joinO (β := Bool) 6 (fun r1 => [(17, (.bool r1)), (0, (.slice p0_list.base p0_list.len p0_list.cap))]) (fun r1 => ?_) (fun j1 => ?_)
  refine KT.nil ?_
  refine SX.seq ?_
  refine SC.cond (b := r1) rfl ?_ ?_
  refine SC.seq ?_
  refine SC.region' ?_
  refine KT.pv 2 (.slice none 0 0) ?_
  refine KT.pv 3 (.bool false) ?_
  refine KT.nil ?_
  refine SX.seq ?_
  refine SC.ret ?_
  refine SX.then_ret ?_
  refine SX.ret [.tmp 2, .tmp 3] rfl ?_
  refine RS.tmp (.slice none 0 0) rfl ?_
  refine RS.tmp (.bool false) rfl ?_
  exact RS.nil rfl
  refine SC.skip ?_
  refine SX.seq ?_
  refine SC.seq ?_
  refine SC.region' ?_
  refine KT.pv 18 (.slice p0_list.base p0_list.len p0_list.cap) ?_
  refine KT.oy rfl (OY.idx (d := 19) (s := p0_list) (i := 0) (size := 1) (elem := 46) _ _ _ rfl rfl rfl (by kernel_rfl) (by kernel_rfl) rfl rfl (fun x19 => ?_))
  refine KT.l 20 (fun x20 => ?_)
  refine KT.oy rfl (OY.slice01 (d := 21) (s := x20) (hi := 4) (size := 1) (elem := 5) _ _ _ rfl rfl rfl (by kernel_rfl) (by kernel_rfl) rfl rfl (fun x21 => ?_))
  refine KT.pv 4 (.slice x21.base x21.len x21.cap) ?_
  refine KT.pv 5 (.slice none 0 0) ?_
  refine KT.nil ?_
  refine SX.seq ?_
  refine SC.seq ?_
  refine SC.seq ?_
  refine SC.region' ?_
  refine KT.pv 22 (.slice p0_list.base p0_list.len p0_list.cap) ?_
  refine KT.pv 23 (.int .i64 ((p0_list.len : Nat) : Int)) ?_
  refine KT.pv 24 (.int .i64 0) ?_
  refine KT.nil ?_
  refine SX.seq ?_
  refine SC.block ?_
  refine SC.loop (σ := (Slc × Int)) (fun s2 => [(4, (.slice x21.base x21.len x21.cap)), (5, (.slice s2.1.base s2.1.len s2.1.cap)), (22, (.slice p0_list.base p0_list.len p0_list.cap)), (23, (.int .i64 ((p0_list.len : Nat) : Int))), (24, (.int .i64 s2.2))]) (.cons rfl (.cons rfl (.cons rfl (.cons rfl (.cons rfl (.nil)))))) (fun _ _ _ s2 => ?_)
  refine SC.seq ?_
  refine SC.region' ?_
  refine KT.pv 25 (.bool (decide (s2.2 < ((p0_list.len : Nat) : Int)))) ?_
  refine KT.nil ?_
  refine SX.seq ?_
  refine SC.seq ?_
  refine SC.cond (b := decide (s2.2 < ((p0_list.len : Nat) : Int))) rfl ?_ ?_
  refine SC.skip ?_
  refine SX.seq ?_
  refine SC.seq ?_
  refine SC.block ?_
  refine SC.seq ?_
  refine SC.region' ?_
  refine KT.oy rfl (OY.idx (d := 26) (s := p0_list) (i := s2.2) (size := 1) (elem := 46) _ _ _ rfl rfl rfl (by kernel_rfl) (by kernel_rfl) rfl rfl (fun x26 => ?_))
  refine KT.l 27 (fun x27 => ?_)
  refine KT.pv 7 (.slice x27.base x27.len x27.cap) ?_
  refine KT.nil ?_
  refine SX.seq ?_
  refine SC.seq ?_
  refine SC.seq ?_
  refine SC.region' ?_
  refine KT.pv 28 (.slice x27.base x27.len x27.cap) ?_
  refine KT.pv 29 (.int .i64 ((x27.len : Nat) : Int)) ?_
  refine KT.pv 30 (.bool (((x27.len : Nat) : Int) != 64)) ?_
  refine KT.pv 31 (.bool (((x27.len : Nat) : Int) != 64)) ?_
  refine KT.joinO (β := Bool) 5 (fun r3 => [(36, (.bool r3)), (4, (.slice x21.base x21.len x21.cap)), (5, (.slice s2.1.base s2.1.len s2.1.cap)), (7, (.slice x27.base x27.len x27.cap)), (22, (.slice p0_list.base p0_list.len p0_list.cap)), (23, (.int .i64 ((p0_list.len : Nat) : Int))), (24, (.int .i64 s2.2))]) (fun r3 => ?_) (fun j3 => ?_)
  refine KT.nil ?_
  refine SX.seq ?_
  refine SC.cond (b := r3) rfl ?_ ?_
  refine SC.seq ?_
  refine SC.region' ?_
  refine KT.pv 2 (.slice none 0 0) ?_
  refine KT.pv 3 (.bool false) ?_
  refine KT.nil ?_
  refine SX.seq ?_
  refine SC.ret ?_
  refine SX.then_ret ?_
  refine SX.block_ret ?_
  refine SX.then_ret ?_
  refine SX.loop_ret ?_
  refine SX.block_ret ?_
  refine SX.then_ret ?_
  refine SX.ret [.tmp 2, .tmp 3] rfl ?_
  refine RS.tmp (.slice none 0 0) rfl ?_
  refine RS.tmp (.bool false) rfl ?_
  exact RS.nil rfl
  refine SC.skip ?_
  refine SX.seq ?_
  refine SC.region' ?_
  refine KT.pv 37 (.slice s2.1.base s2.1.len s2.1.cap) ?_
  refine KT.pv 38 (.slice x27.base x27.len x27.cap) ?_
  refine KT.oy rfl (OY.slice10 (d := 39) (s := x27) (lo := 4) (size := 1) (elem := 5) _ _ _ rfl rfl rfl (by kernel_rfl) (by kernel_rfl) rfl rfl (fun x39 => ?_))
  refine KT.cl vS 40 122 #[(.slice s2.1.base s2.1.len s2.1.cap), (.slice x39.base x39.len x39.cap)] (bits_Xor_sim s2.1 x39) (fun x40 => ?_)
  refine KT.pv 5 (.slice x40.base x40.len x40.cap) ?_
  refine KT.nil ?_
  refine SX.block ?_
  refine SX.seq ?_
  refine SC.region' ?_
  refine KT.pv 41 (.int .i64 (w64 (s2.2 + 1))) ?_
  refine KT.pv 24 (.int .i64 (w64 (s2.2 + 1))) ?_
  refine KT.nil ?_
  exact SX.loop_next (.cons rfl (.cons rfl (.cons rfl (.cons rfl (.cons rfl (.nil))))))
  refine KT.ite (b := ((x27.len : Nat) : Int) != 64) 31 rfl ?_ ?_
  refine KT.sk ?_
  refine KT.sk ?_
  refine KT.sk ?_
  refine KT.sk ?_
  refine KT.pv 36 (.bool true) ?_
  exact KT.leafO j3 (.cons rfl (.cons rfl (.cons rfl (.cons rfl (.cons rfl (.cons rfl (.cons rfl (.nil))))))))
  refine KT.pv 32 (.slice x27.base x27.len x27.cap) ?_
  refine KT.pv 33 (.slice x21.base x21.len x21.cap) ?_
  refine KT.cl Value.bool 34 121 #[(.slice x27.base x27.len x27.cap), (.slice x21.base x21.len x21.cap)] (bytes_HasPrefix_sim x27 x21) (fun x34 => ?_)
  refine KT.pv 35 (.bool (!x34)) ?_
  refine KT.pv 36 (.bool (!x34)) ?_
  exact KT.leafO j3 (.cons rfl (.cons rfl (.cons rfl (.cons rfl (.cons rfl (.cons rfl (.cons rfl (.nil))))))))
  refine SC.exit ?_
  refine SX.then_exit ?_
  refine SX.loop_exit ?_
  refine SX.block_hit ?_
  refine SX.seq ?_
  refine SC.seq ?_
  refine SC.region' ?_
  refine KT.pv 42 (.slice x21.base x21.len x21.cap) ?_
  refine KT.cl vS 43 123 #[(.slice x21.base x21.len x21.cap)] (bytes_Clone_sim x21) (fun x43 => ?_)
  refine KT.pv 44 (.slice s2.1.base s2.1.len s2.1.cap) ?_
  refine KT.ow rfl (OW.append (d := 45) (s := x43) (x := s2.1) [(.int .u8 0)] 1 5 _ _ _ _ rfl rfl rfl rfl (by kernel_rfl) (by kernel_rfl) rfl rfl rfl (fun x45 => ?_))
  refine KT.pv 2 (.slice x45.base x45.len x45.cap) ?_
  refine KT.pv 3 (.bool true) ?_
  refine KT.nil ?_
  refine SX.seq ?_
  refine SC.ret ?_
  refine SX.ret [.tmp 2, .tmp 3] rfl ?_
  refine RS.tmp (.slice x45.base x45.len x45.cap) rfl ?_
  refine RS.tmp (.bool true) rfl ?_
  exact RS.nil rfl
  refine KT.ite (b := ((p0_list.len : Nat) : Int) == 0) 11 rfl ?_ ?_
  refine KT.sk ?_
  refine KT.sk ?_
  refine KT.sk ?_
  refine KT.sk ?_
  refine KT.sk ?_
  refine KT.pv 17 (.bool true) ?_
  exact KT.leafO j1 (.cons rfl (.cons rfl (.nil)))
  refine KT.pv 12 (.slice p0_list.base p0_list.len p0_list.cap) ?_
  refine KT.oy rfl (OY.idx (d := 13) (s := p0_list) (i := 0) (size := 1) (elem := 46) _ _ _ rfl rfl rfl (by kernel_rfl) (by kernel_rfl) rfl rfl (fun x13 => ?_))
  refine KT.l 14 (fun x14 => ?_)
  refine KT.pv 15 (.int .i64 ((x14.len : Nat) : Int)) ?_
  refine KT.pv 16 (.bool (((x14.len : Nat) : Int) != 64)) ?_
  refine KT.pv 17 (.bool (((x14.len : Nat) : Int) != 64)) ?_
  exact KT.leafO j1 (.cons rfl (.cons rfl (.nil)))
set_option maxRecDepth 100000 in
theorem stripe_Write_sim (p0_b : (Option Addr)) (p1_seg : Int) (p2_seq : Int) (p3_blocks : Slc) (Qf : Int → World → Prop) (w : World) (hm : stripe_Write (cvOf Try.prog) p0_b p1_seg p2_seq p3_blocks Qf w) : Calls Try.prog 48 #[(.pointer p0_b), (.int .i64 p1_seg), (.int .i64 p2_seq), (.slice p3_blocks.base p3_blocks.len p3_blocks.cap)] w (RetPost (Value.int .i64) Qf) := by
  refine calls_of (fn := Try.f48) (l := [(.pointer p0_b), (.int .i64 p1_seg), (.int .i64 p2_seq), (.slice p3_blocks.base p3_blocks.len p3_blocks.cap)]) (m := stripe_Write (cvOf Try.prog) p0_b p1_seg p2_seq p3_blocks) 106 (by kernel_rfl) rfl rfl rfl (fun Qf0 => ?_) Qf w hm
  clear hm w Qf
  unfold stripe_Write
  refine SC.seq ?_
  refine SC.region' ?_
  refine KT.nw 4 (fun ad => .pointer (some ad)) 38 (fun x4 => ?_)
  refine KT.nw 8 (fun ad => .pointer (some ad)) 28 (fun x8 => ?_)
  refine KT.nil ?_
  refine SX.seq ?_
  refine SC.seq ?_
  refine SC.region' ?_
  refine KT.l 20 (fun x20 => ?_)
  refine KT.cl (fun y : (Int × Int × Int) => (.agg #[(.int .i64 y.1), (.int .i64 y.2.1), (.int .i64 y.2.2)])) 21 63 #[(.pointer x20)] (bank_Bank_Geo_sim x20) (fun x21 => ?_)
  refine KT.nw 9 (fun ad => .pointer (some ad)) 23 (fun x9 => ?_)
  refine KT.ow rfl (OW.stA _ _ _ rfl rfl rfl rfl rfl (by kernel_rfl) ?_)
  refine KT.nil ?_
  refine SX.seq ?_
  refine SC.seq ?_
  refine SC.seq ?_
  refine SC.region' ?_
  refine KT.pv 22 (.int .i64 p1_seg) ?_
  refine KT.pv 23 (.bool (decide (p1_seg < 0))) ?_
  refine KT.pv 24 (.bool (decide (p1_seg < 0))) ?_
  refine KT.joinO (β := Bool) 5 (fun r1 => [(29, (.bool r1)), (1, (.int .i64 p1_seg)), (2, (.int .i64 p2_seq)), (3, (.slice p3_blocks.base p3_blocks.len p3_blocks.cap)), (4, (.pointer (some x4))), (8, (.pointer (some x8))), (9, (.pointer (some x9)))]) (fun r1 => ?_) (fun j1 => ?_)
  refine KT.pv 30 (.bool r1) ?_
  refine KT.joinO (β := Bool) 3 (fun r2 => [(33, (.bool r2)), (1, (.int .i64 p1_seg)), (2, (.int .i64 p2_seq)), (3, (.slice p3_blocks.base p3_blocks.len p3_blocks.cap)), (4, (.pointer (some x4))), (8, (.pointer (some x8))), (9, (.pointer (some x9)))]) (fun r2 => ?_) (fun j2 => ?_)
  refine KT.pv 34 (.bool r2) ?_
  refine KT.joinO (β := Bool) 3 (fun r3 => [(37, (.bool r3)), (1, (.int .i64 p1_seg)), (2, (.int .i64 p2_seq)), (3, (.slice p3_blocks.base p3_blocks.len p3_blocks.cap)), (4, (.pointer (some x4))), (8, (.pointer (some x8))), (9, (.pointer (some x9)))]) (fun r3 => ?_) (fun j3 => ?_)
  refine KT.nil ?_
  refine SX.seq ?_
  refine SC.cond (b := r3) rfl ?_ ?_
  refine SC.seq ?_
  refine SC.region' ?_
  refine KT.s ?_
  refine KT.nil ?_
  refine SX.seq ?_
  refine SC.ret ?_
  refine SX.then_ret ?_
  refine SX.ret [.cell 8 28] rfl ?_
  refine RS.cell rfl (by kernel_rfl) (fun r8 => ?_)
  exact RS.nil rfl
  refine SC.skip ?_
  refine SX.seq ?_
  refine SC.seq ?_
  refine SC.region' ?_
  refine KT.ow rfl (OW.ldA (d := 38) (enc := (fun y : (Int × Int × Int) => [(.int .i64 y.1), (.int .i64 y.2.1), (.int .i64 y.2.2)])) 3 _ _ rfl rfl (by kernel_rfl) (by kernel_rfl) (fun _ => rfl) rfl rfl (fun x38 => ?_))
  refine KT.pv 39 (.int .i64 p2_seq) ?_
  refine KT.pv 40 (.slice p3_blocks.base p3_blocks.len p3_blocks.cap) ?_
  refine KT.cl vS 41 77 #[(.agg #[(.int .i64 x38.1), (.int .i64 x38.2.1), (.int .i64 x38.2.2)]), (.int .i64 p2_seq), (.slice p3_blocks.base p3_blocks.len p3_blocks.cap)] (stripe_encoded_sim (x38.1, x38.2.1, x38.2.2) p2_seq p3_blocks) (fun x41 => ?_)
  refine KT.nw 10 (fun ad => .pointer (some ad)) 31 (fun x10 => ?_)
  refine KT.s ?_
  refine KT.nil ?_
  refine SX.seq ?_
  refine SC.seq ?_
  refine SC.seq ?_
  refine SC.region' ?_
  refine KT.l 42 (fun x42 => ?_)
  refine KT.pv 43 (.int .i64 ((x42.len : Nat) : Int)) ?_
  refine KT.pv 44 (.bool (((x42.len : Nat) : Int) == 0)) ?_
  refine KT.pv 45 (.bool (((x42.len : Nat) : Int) == 0)) ?_
  refine KT.joinO (β := Bool) 6 (fun r4 => [(51, (.bool r4)), (1, (.int .i64 p1_seg)), (4, (.pointer (some x4))), (8, (.pointer (some x8))), (9, (.pointer (some x9))), (10, (.pointer (some x10)))]) (fun r4 => ?_) (fun j4 => ?_)
  refine KT.nil ?_
  refine SX.seq ?_
  refine SC.cond (b := r4) rfl ?_ ?_
  refine SC.seq ?_
  refine SC.region' ?_
  refine KT.s ?_
  refine KT.nil ?_
  refine SX.seq ?_
  refine SC.ret ?_
  refine SX.then_ret ?_
  refine SX.ret [.cell 8 28] rfl ?_
  refine RS.cell rfl (by kernel_rfl) (fun r8 => ?_)
  exact RS.nil rfl
  refine SC.skip ?_
  refine SX.seq ?_
  refine SC.seq ?_
  refine SC.seq ?_
  refine SC.region' ?_
  refine KT.l 52 (fun x52 => ?_)
  refine KT.cl vS 53 33 #[(.pointer x52)] (bank_Bank_Bad_sim x52) (fun x53 => ?_)
  refine KT.pv 54 (.int .i64 ((x53.len : Nat) : Int)) ?_
  refine KT.pv 55 (.bool (decide (((x53.len : Nat) : Int) > 1))) ?_
  refine KT.nil ?_
  refine SX.seq ?_
  refine SC.cond (b := decide (((x53.len : Nat) : Int) > 1)) rfl ?_ ?_
  refine SC.seq ?_
  refine SC.region' ?_
  refine KT.s ?_
  refine KT.nil ?_
  refine SX.seq ?_
  refine SC.ret ?_
  refine SX.then_ret ?_
  refine SX.ret [.cell 8 28] rfl ?_
  refine RS.cell rfl (by kernel_rfl) (fun r8 => ?_)
  exact RS.nil rfl
  refine SC.skip ?_
  refine SX.seq ?_
  refine SC.seq ?_
  refine SC.seq ?_
  refine SC.region' ?_
  refine KT.ow rfl (OW.ldA (d := 56) (enc := (fun y : (Int × Int × Int) => [(.int .i64 y.1), (.int .i64 y.2.1), (.int .i64 y.2.2)])) 3 _ _ rfl rfl (by kernel_rfl) (by kernel_rfl) (fun _ => rfl) rfl rfl (fun x56 => ?_))
  refine KT.pv 57 (.int .i64 p1_seg) ?_
  refine KT.cl (fun v : Value => v) 58 78 #[(.agg #[(.int .i64 x56.1), (.int .i64 x56.2.1), (.int .i64 x56.2.2)]), (.int .i64 p1_seg)] (stripe_rows_sim (x56.1, x56.2.1, x56.2.2) p1_seg) (fun x58 => ?_)
  refine KT.nil ?_
  refine SX.seq ?_
  refine SC.block ?_
  refine SC.rangeF (ξ := (Int × Slc)) (τ := (Int × Slc)) (fv := x58) (ps := [59, 60]) (encX := (fun x_5 : (Int × Slc) => [(.int .i64 x_5.1), (.slice x_5.2.base x_5.2.len x_5.2.cap)])) (fun t_5 => [(4, (.pointer (some x4))), (8, (.pointer (some x8))), (9, (.pointer (some x9))), (10, (.pointer (some x10))), (11, (.int .i64 t_5.1)), (12, (.slice t_5.2.base t_5.2.len t_5.2.cap))]) rfl (fun _ => rfl) rfl (fun _ x_5 _ _ h5 => ?_) (fun _ _ _ t_5 => ?_) (fun D5 => ?_) (fun D5 => ?_) (fun D5 i5 => ?_)
  refine SC.seq ?_
  refine SC.region' ?_
  refine KT.pv 11 (.int .i64 x_5.1) ?_
  refine KT.nil ?_
  refine SX.seq ?_
  refine SC.region' ?_
  refine KT.pv 12 (.slice x_5.2.base x_5.2.len x_5.2.cap) ?_
  refine KT.nil ?_
  exact SX.leafP h5 (.cons rfl (.cons rfl (.cons rfl (.cons rfl (.cons rfl (.cons rfl (.nil)))))))
  refine SC.block ?_
  refine SC.seq ?_
  refine SC.region' ?_
  refine KT.pv 61 (.pointer (some x9)) ?_
  refine KT.l 62 (fun x62 => ?_)
  refine KT.pv 63 (.int .i64 (w64 (x62 - 1))) ?_
  refine KT.pv 13 (.int .i64 (w64 (x62 - 1))) ?_
  refine KT.nil ?_
  refine SX.seq ?_
  refine SC.seq ?_
  refine SC.region' ?_
  refine KT.l 64 (fun x64 => ?_)
  refine KT.pv 65 (.int .i64 t_5.1) ?_
  refine KT.pv 66 (.int .i64 (w64 (x62 - 1))) ?_
  refine KT.pv 67 (.int .i64 (w64 (t_5.1 * (w64 (x62 - 1))))) ?_
  refine KT.pv 68 (.int .i64 t_5.1) ?_
  refine KT.pv 69 (.int .i64 (w64 (t_5.1 + 1))) ?_
  refine KT.pv 70 (.int .i64 (w64 (x62 - 1))) ?_
  refine KT.pv 71 (.int .i64 (w64 ((w64 (t_5.1 + 1)) * (w64 (x62 - 1))))) ?_
  refine KT.oy rfl (OY.slice11 (d := 72) (s := x64) (lo := w64 (t_5.1 * (w64 (x62 - 1)))) (hi := w64 ((w64 (t_5.1 + 1)) * (w64 (x62 - 1)))) (size := 1) (elem := 46) _ _ _ _ rfl rfl rfl rfl (by kernel_rfl) (by kernel_rfl) rfl rfl (fun x72 => ?_))
  refine KT.pv 14 (.slice x72.base x72.len x72.cap) ?_
  refine KT.nil ?_
  refine SX.seq ?_
  refine SC.seq ?_
  refine SC.region' ?_
  refine KT.pv 74 (.slice x72.base x72.len x72.cap) ?_
  refine KT.cl (fun y : (Slc × Bool) => (.tuple #[(.slice y.1.base y.1.len y.1.cap), (.bool y.2)])) 75 79 #[(.slice x72.base x72.len x72.cap)] (sector_Parity_sim x72) (fun x75 => ?_)
  refine KT.pv 73 (.tuple #[(.slice x75.1.base x75.1.len x75.1.cap), (.bool x75.2)]) ?_
  refine KT.pv 76 (.slice x75.1.base x75.1.len x75.1.cap) ?_
  refine KT.pv 77 (.bool x75.2) ?_
  refine KT.pv 15 (.slice x75.1.base x75.1.len x75.1.cap) ?_
  refine KT.pv 16 (.bool x75.2) ?_
  refine KT.nil ?_
  refine SX.seq ?_
  refine SC.seq ?_
  refine SC.region' ?_
  refine KT.pv 78 (.slice t_5.2.base t_5.2.len t_5.2.cap) ?_
  refine KT.pv 79 (.int .i64 ((t_5.2.len : Nat) : Int)) ?_
  refine KT.pv 80 (.int .i64 0) ?_
  refine KT.nil ?_
  refine SX.sub (T' := [(4, (.pointer (some x4))), (8, (.pointer (some x8))), (13, (.int .i64 (w64 (x62 - 1)))), (14, (.slice x72.base x72.len x72.cap)), (15, (.slice x75.1.base x75.1.len x75.1.cap)), (78, (.slice t_5.2.base t_5.2.len t_5.2.cap)), (79, (.int .i64 ((t_5.2.len : Nat) : Int))), (80, (.int .i64 0))]) (.cons rfl (.cons rfl (.cons rfl (.cons rfl (.cons rfl (.cons rfl (.cons rfl (.cons rfl (.nil))))))))) ?_
  refine SX.seq ?_
  refine SC.block ?_
  refine SC.loop (σ := (Int)) (fun s6 => [(4, (.pointer (some x4))), (8, (.pointer (some x8))), (13, (.int .i64 (w64 (x62 - 1)))), (14, (.slice x72.base x72.len x72.cap)), (15, (.slice x75.1.base x75.1.len x75.1.cap)), (78, (.slice t_5.2.base t_5.2.len t_5.2.cap)), (79, (.int .i64 ((t_5.2.len : Nat) : Int))), (80, (.int .i64 s6))]) (.cons rfl (.cons rfl (.cons rfl (.cons rfl (.cons rfl (.cons rfl (.cons rfl (.cons rfl (.nil))))))))) (fun _ _ _ s6 => ?_)
  refine SC.seq ?_
  refine SC.region' ?_
  refine KT.pv 81 (.bool (decide (s6 < ((t_5.2.len : Nat) : Int)))) ?_
  refine KT.nil ?_
  refine SX.seq ?_
  refine SC.seq ?_
  refine SC.cond (b := decide (s6 < ((t_5.2.len : Nat) : Int))) rfl ?_ ?_
  refine SC.skip ?_
  refine SX.seq ?_
  refine SC.seq ?_
  refine SC.block ?_
  refine SC.seq ?_
  refine SC.region' ?_
  refine KT.pv 82 (.int .i64 s6) ?_
  refine KT.oy rfl (OY.idx (d := 83) (s := t_5.2) (i := s6) (size := 2) (elem := 140) _ _ _ rfl rfl rfl (by kernel_rfl) (by kernel_rfl) rfl rfl (fun x83 => ?_))
  refine KT.ow rfl (OW.ldA (d := 84) (enc := (fun y : (Int × Int) => [(.int .i64 y.1), (.int .i64 y.2)])) 2 _ _ rfl rfl (by kernel_rfl) (by kernel_rfl) (fun _ => rfl) rfl rfl (fun x84 => ?_))
  refine KT.nw 18 (fun ad => .pointer (some ad)) 140 (fun x18 => ?_)
  refine KT.pv 17 (.int .i64 s6) ?_
  refine KT.ow rfl (OW.stA _ _ _ rfl rfl rfl rfl rfl (by kernel_rfl) ?_)
  refine KT.nil ?_
  refine SX.seq ?_
  refine SC.seq ?_
  refine SC.region' ?_
  refine KT.pv 85 (.slice x75.1.base x75.1.len x75.1.cap) ?_
  refine KT.pv 19 (.slice x75.1.base x75.1.len x75.1.cap) ?_
  refine KT.nil ?_
  refine SX.seq ?_
  refine SC.seq ?_
  refine SC.seq ?_
  refine SC.region' ?_
  refine KT.pv 86 (.int .i64 s6) ?_
  refine KT.pv 87 (.int .i64 (w64 (x62 - 1))) ?_
  refine KT.pv 88 (.bool (decide (s6 < (w64 (x62 - 1))))) ?_
  refine KT.nil ?_
  refine SX.seq ?_
  refine SC.join (β := (Slc)) (fun b7 => [(4, (.pointer (some x4))), (8, (.pointer (some x8))), (13, (.int .i64 (w64 (x62 - 1)))), (14, (.slice x72.base x72.len x72.cap)), (15, (.slice x75.1.base x75.1.len x75.1.cap)), (18, (.pointer (some x18))), (19, (.slice b7.base b7.len b7.cap)), (78, (.slice t_5.2.base t_5.2.len t_5.2.cap)), (79, (.int .i64 ((t_5.2.len : Nat) : Int))), (80, (.int .i64 s6))]) (fun b7 => ?_) (fun j7 => ?_)
  refine SX.seq ?_
  refine SC.seq ?_
  refine SC.region' ?_
  refine KT.l 93 (fun x93 => ?_)
  refine KT.pv 94 (.pointer (some x18)) ?_
  refine KT.l 95 (fun x95 => ?_)
  refine KT.pv 96 (.pointer (some (Addr.add x18 1))) ?_
  refine KT.l 97 (fun x97 => ?_)
  refine KT.pv 98 (.slice b7.base b7.len b7.cap) ?_
  refine KT.cl (Value.int .i64) 99 32 #[(.pointer x93), (.int .i64 x95), (.int .i64 x97), (.slice b7.base b7.len b7.cap)] (bank_Bank_Write_sim x93 x95 x97 b7) (fun x99 => ?_)
  refine KT.pv 100 (.bool (x99 == 12)) ?_
  refine KT.nil ?_
  refine SX.seq ?_
  refine SC.cond (b := x99 == 12) rfl ?_ ?_
  refine SC.seq ?_
  refine SC.region' ?_
  refine KT.s ?_
  refine KT.nil ?_
  refine SX.seq ?_
  refine SC.ret ?_
  refine SX.block_ret ?_
  refine SX.then_ret ?_
  refine SX.loop_ret ?_
  refine SX.block_ret ?_
  refine SX.block_ret ?_
  exact SX.round_ret
  refine SC.skip ?_
  refine SX.block ?_
  refine SX.seq ?_
  refine SC.region' ?_
  refine KT.pv 101 (.int .i64 (w64 (s6 + 1))) ?_
  refine KT.pv 80 (.int .i64 (w64 (s6 + 1))) ?_
  refine KT.nil ?_
  exact SX.loop_next (.cons rfl (.cons rfl (.cons rfl (.cons rfl (.cons rfl (.cons rfl (.cons rfl (.cons rfl (.nil)))))))))
  refine SC.cond (b := decide (s6 < (w64 (x62 - 1)))) rfl ?_ ?_
  refine SC.region' ?_
  refine KT.pv 89 (.slice x72.base x72.len x72.cap) ?_
  refine KT.pv 90 (.int .i64 s6) ?_
  refine KT.oy rfl (OY.idx (d := 91) (s := x72) (i := s6) (size := 1) (elem := 46) _ _ _ rfl rfl rfl (by kernel_rfl) (by kernel_rfl) rfl rfl (fun x91 => ?_))
  refine KT.l 92 (fun x92 => ?_)
  refine KT.pv 19 (.slice x92.base x92.len x92.cap) ?_
  refine KT.nil ?_
  exact SX.leafS j7 (.cons rfl (.cons rfl (.cons rfl (.cons rfl (.cons rfl (.cons rfl (.cons rfl (.cons rfl (.cons rfl (.cons rfl (.nil)))))))))))
  refine SC.skip ?_
  exact SX.leafS j7 (.cons rfl (.cons rfl (.cons rfl (.cons rfl (.cons rfl (.cons rfl (.cons rfl (.cons rfl (.cons rfl (.cons rfl (.nil)))))))))))
  refine SC.exit ?_
  refine SX.then_exit ?_
  refine SX.loop_exit ?_
  refine SX.block_hit ?_
  refine SX.block ?_
  exact SX.round_next
  refine SX.block ?_
  refine SX.seq ?_
  refine SC.seq ?_
  refine SC.seq ?_
  refine SC.region' ?_
  refine KT.l 102 (fun x102 => ?_)
  refine KT.cl vS 103 33 #[(.pointer x102)] (bank_Bank_Bad_sim x102) (fun x103 => ?_)
  refine KT.pv 104 (.int .i64 ((x103.len : Nat) : Int)) ?_
  refine KT.pv 105 (.bool (decide (((x103.len : Nat) : Int) > 1))) ?_
  refine KT.nil ?_
  refine SX.seq ?_
  refine SC.cond (b := decide (((x103.len : Nat) : Int) > 1)) rfl ?_ ?_
  refine SC.seq ?_
  refine SC.region' ?_
  refine KT.s ?_
  refine KT.nil ?_
  refine SX.seq ?_
  refine SC.ret ?_
  refine SX.then_ret ?_
  refine SX.ret [.cell 8 28] rfl ?_
  refine RS.cell rfl (by kernel_rfl) (fun r8 => ?_)
  exact RS.nil rfl
  refine SC.skip ?_
  refine SX.seq ?_
  refine SC.seq ?_
  refine SC.region' ?_
  refine KT.s ?_
  refine KT.nil ?_
  refine SX.seq ?_
  refine SC.ret ?_
  refine SX.ret [.cell 8 28] rfl ?_
  refine RS.cell rfl (by kernel_rfl) (fun r8 => ?_)
  exact RS.nil rfl
  refine SX.block_ret ?_
  refine SX.then_ret ?_
  refine SX.ret [.cell 8 28] rfl ?_
  refine RS.cell rfl (by kernel_rfl) (fun r8 => ?_)
  exact RS.nil rfl
  exact SX.fail
  refine KT.ite (b := ((x42.len : Nat) : Int) == 0) 45 rfl ?_ ?_
  refine KT.sk ?_
  refine KT.sk ?_
  refine KT.sk ?_
  refine KT.sk ?_
  refine KT.sk ?_
  refine KT.pv 51 (.bool true) ?_
  exact KT.leafO j4 (.cons rfl (.cons rfl (.cons rfl (.cons rfl (.cons rfl (.cons rfl (.nil)))))))
  refine KT.pv 46 (.slice p3_blocks.base p3_blocks.len p3_blocks.cap) ?_
  refine KT.pv 47 (.int .i64 ((p3_blocks.len : Nat) : Int)) ?_
  refine KT.l 48 (fun x48 => ?_)
  refine KT.pv 49 (.int .i64 ((x48.len : Nat) : Int)) ?_
  refine KT.pv 50 (.bool (decide (((p3_blocks.len : Nat) : Int) > ((x48.len : Nat) : Int)))) ?_
  refine KT.pv 51 (.bool (decide (((p3_blocks.len : Nat) : Int) > ((x48.len : Nat) : Int)))) ?_
  exact KT.leafO j4 (.cons rfl (.cons rfl (.cons rfl (.cons rfl (.cons rfl (.cons rfl (.nil)))))))
  refine KT.ite (b := r2) 34 rfl ?_ ?_
  refine KT.sk ?_
  refine KT.sk ?_
  refine KT.pv 37 (.bool true) ?_
  exact KT.leafO j3 (.cons rfl (.cons rfl (.cons rfl (.cons rfl (.cons rfl (.cons rfl (.cons rfl (.nil))))))))
  refine KT.pv 35 (.int .i64 p2_seq) ?_
  refine KT.pv 36 (.bool (decide (p2_seq > 4294967295))) ?_
  refine KT.pv 37 (.bool (decide (p2_seq > 4294967295))) ?_
  exact KT.leafO j3 (.cons rfl (.cons rfl (.cons rfl (.cons rfl (.cons rfl (.cons rfl (.cons rfl (.nil))))))))
  refine KT.ite (b := r1) 30 rfl ?_ ?_
  refine KT.sk ?_
  refine KT.sk ?_
  refine KT.pv 33 (.bool true) ?_
  exact KT.leafO j2 (.cons rfl (.cons rfl (.cons rfl (.cons rfl (.cons rfl (.cons rfl (.cons rfl (.nil))))))))
  refine KT.pv 31 (.int .i64 p2_seq) ?_
  refine KT.pv 32 (.bool (decide (p2_seq < 1))) ?_
  refine KT.pv 33 (.bool (decide (p2_seq < 1))) ?_
  exact KT.leafO j2 (.cons rfl (.cons rfl (.cons rfl (.cons rfl (.cons rfl (.cons rfl (.cons rfl (.nil))))))))
  refine KT.ite (b := decide (p1_seg < 0)) 24 rfl ?_ ?_
  refine KT.sk ?_
  refine KT.sk ?_
  refine KT.sk ?_
  refine KT.sk ?_
  refine KT.pv 29 (.bool true) ?_
  exact KT.leafO j1 (.cons rfl (.cons rfl (.cons rfl (.cons rfl (.cons rfl (.cons rfl (.cons rfl (.nil))))))))
  refine KT.pv 25 (.int .i64 p1_seg) ?_
  refine KT.pv 26 (.pointer (some (Addr.add x9 2))) ?_
  refine KT.l 27 (fun x27 => ?_)
  refine KT.pv 28 (.bool (decide (p1_seg ≥ x27))) ?_
  refine KT.pv 29 (.bool (decide (p1_seg ≥ x27))) ?_
  exact KT.leafO j1 (.cons rfl (.cons rfl (.cons rfl (.cons rfl (.cons rfl (.cons rfl (.cons rfl (.nil))))))))
set_option maxRecDepth 100000 in
theorem device_Rack_Read_sim (p0_r : (Option Addr)) (p1_disk : Int) (p2_sector : Int) (Qf : (Slc × Int) → World → Prop) (w : World) (hm : device_Rack_Read p0_r p1_disk p2_sector Qf w) : Calls Try.prog 29 #[(.pointer p0_r), (.int .i64 p1_disk), (.int .i64 p2_sector)] w (RetPost (fun y : (Slc × Int) => (.tuple #[(.slice y.1.base y.1.len y.1.cap), (.int .i64 y.2)])) Qf) := by
  refine calls_of (fn := Try.f29) (l := [(.pointer p0_r), (.int .i64 p1_disk), (.int .i64 p2_sector)]) (m := device_Rack_Read p0_r p1_disk p2_sector) 46 (by kernel_rfl) rfl rfl rfl (fun Qf0 => ?_) Qf w hm
  clear hm w Qf
  unfold device_Rack_Read
  refine SC.seq ?_
  refine SC.region' ?_
  refine KT.pv 6 (.slice none 0 0) ?_
  refine KT.pv 7 (.int .i64 0) ?_
  refine KT.nil ?_
  refine SX.seq ?_
  refine SC.seq ?_
  refine SC.region' ?_
  refine KT.pv 13 (.pointer p0_r) ?_
  refine KT.pv 14 (.int .i64 p1_disk) ?_
  refine KT.pv 15 (.int .i64 p2_sector) ?_
  refine KT.cl (fun y : ((Option Addr) × Int) => (.tuple #[(.pointer y.1), (.int .i64 y.2)])) 16 70 #[(.pointer p0_r), (.int .i64 p1_disk), (.int .i64 p2_sector)] (device_Rack_disk_sim p0_r p1_disk p2_sector) (fun x16 => ?_)
  refine KT.pv 12 (.tuple #[(.pointer x16.1), (.int .i64 x16.2)]) ?_
  refine KT.pv 17 (.pointer x16.1) ?_
  refine KT.pv 18 (.int .i64 x16.2) ?_
  refine KT.pv 8 (.pointer x16.1) ?_
  refine KT.pv 9 (.int .i64 x16.2) ?_
  refine KT.nil ?_
  refine SX.seq ?_
  refine SC.seq ?_
  refine SC.seq ?_
  refine SC.region' ?_
  refine KT.pv 19 (.int .i64 x16.2) ?_
  refine KT.pv 20 (.bool (x16.2 != 0)) ?_
  refine KT.nil ?_
  refine SX.seq ?_
  refine SC.cond (b := x16.2 != 0) rfl ?_ ?_
  refine SC.seq ?_
  refine SC.region' ?_
  refine KT.pv 21 (.int .i64 x16.2) ?_
  refine KT.pv 6 (.slice none 0 0) ?_
  refine KT.pv 7 (.int .i64 x16.2) ?_
  refine KT.nil ?_
  refine SX.seq ?_
  refine SC.ret ?_
  refine SX.then_ret ?_
  refine SX.ret [.tmp 6, .tmp 7] rfl ?_
  refine RS.tmp (.slice none 0 0) rfl ?_
  refine RS.tmp (.int .i64 x16.2) rfl ?_
  exact RS.nil rfl
  refine SC.skip ?_
  refine SX.seq ?_
  refine SC.seq ?_
  refine SC.seq ?_
  refine SC.region' ?_
  refine KT.pv 22 (.pointer x16.1) ?_
  refine KT.nm 23 (fun x23 => ?_)
  refine KT.pv 24 (.pointer (some (Addr.add x23 2))) ?_
  refine KT.l 25 (fun x25 => ?_)
  refine KT.nil ?_
  refine SX.seq ?_
  refine SC.cond (b := x25) rfl ?_ ?_
  refine SC.seq ?_
  refine SC.region' ?_
  refine KT.pv 6 (.slice none 0 0) ?_
  refine KT.pv 7 (.int .i64 13) ?_
  refine KT.nil ?_
  refine SX.seq ?_
  refine SC.ret ?_
  refine SX.then_ret ?_
  refine SX.ret [.tmp 6, .tmp 7] rfl ?_
  refine RS.tmp (.slice none 0 0) rfl ?_
  refine RS.tmp (.int .i64 13) rfl ?_
  exact RS.nil rfl
  refine SC.skip ?_
  refine SX.seq ?_
  refine SC.seq ?_
  refine SC.seq ?_
  refine SC.region' ?_
  refine KT.pv 27 (.pointer x16.1) ?_
  refine KT.nm 28 (fun x28 => ?_)
  refine KT.pv 29 (.pointer (some (Addr.add x28 1))) ?_
  refine KT.l 30 (fun x30 => ?_)
  refine KT.pv 31 (.int .i64 p2_sector) ?_
  refine KT.ow rfl (OW.lookOk (d := 32) (enc := vS) (⟨none, 0, 0⟩) 3 46 .i64 _ _ _ rfl rfl rfl (by kernel_rfl) (by kernel_rfl) (by kernel_rfl) rfl rfl (fun x32 => ?_))
  refine KT.pv 26 (.tuple #[(.slice x32.1.base x32.1.len x32.1.cap), (.bool x32.2)]) ?_
  refine KT.pv 33 (.slice x32.1.base x32.1.len x32.1.cap) ?_
  refine KT.pv 34 (.bool x32.2) ?_
  refine KT.pv 10 (.slice x32.1.base x32.1.len x32.1.cap) ?_
  refine KT.pv 11 (.bool x32.2) ?_
  refine KT.nil ?_
  refine SX.sub (T' := [(2, (.int .i64 p2_sector)), (8, (.pointer x16.1)), (10, (.slice x32.1.base x32.1.len x32.1.cap)), (11, (.bool x32.2))]) (.cons rfl (.cons rfl (.cons rfl (.cons rfl (.nil))))) ?_
  refine SX.seq ?_
  refine SC.seq ?_
  refine SC.region' ?_
  refine KT.pv 35 (.bool x32.2) ?_
  refine KT.nil ?_
  refine SX.seq ?_
  refine SC.cond (b := x32.2) rfl ?_ ?_
  refine SC.seq ?_
  refine SC.region' ?_
  refine KT.pv 36 (.slice x32.1.base x32.1.len x32.1.cap) ?_
  refine KT.cl vS 37 71 #[(.slice x32.1.base x32.1.len x32.1.cap)] (slices_Clone_b_sim x32.1) (fun x37 => ?_)
  refine KT.pv 6 (.slice x37.base x37.len x37.cap) ?_
  refine KT.pv 7 (.int .i64 0) ?_
  refine KT.nil ?_
  refine SX.seq ?_
  refine SC.ret ?_
  refine SX.then_ret ?_
  refine SX.ret [.tmp 6, .tmp 7] rfl ?_
  refine RS.tmp (.slice x37.base x37.len x37.cap) rfl ?_
  refine RS.tmp (.int .i64 0) rfl ?_
  exact RS.nil rfl
  refine SC.skip ?_
  refine SX.seq ?_
  refine SC.seq ?_
  refine SC.region' ?_
  refine KT.pv 38 (.pointer x16.1) ?_
  refine KT.nm 39 (fun x39 => ?_)
  refine KT.pv 40 (.pointer (some x39)) ?_
  refine KT.l 41 (fun x41 => ?_)
  refine KT.pv 42 (.int .i64 p2_sector) ?_
  refine KT.oy rfl (OY.idx (d := 43) (s := x41) (i := p2_sector) (size := 1) (elem := 46) _ _ _ rfl rfl rfl (by kernel_rfl) (by kernel_rfl) rfl rfl (fun x43 => ?_))
  refine KT.l 44 (fun x44 => ?_)
  refine KT.cl vS 45 71 #[(.slice x44.base x44.len x44.cap)] (slices_Clone_b_sim x44) (fun x45 => ?_)
  refine KT.pv 6 (.slice x45.base x45.len x45.cap) ?_
  refine KT.pv 7 (.int .i64 0) ?_
  refine KT.nil ?_
  refine SX.seq ?_
  refine SC.ret ?_
  refine SX.ret [.tmp 6, .tmp 7] rfl ?_
  refine RS.tmp (.slice x45.base x45.len x45.cap) rfl ?_
  refine RS.tmp (.int .i64 0) rfl ?_
  exact RS.nil rfl
set_option maxRecDepth 100000 in
theorem bank_Bank_Read_sim (p0_b : (Option Addr)) (p1_slot : Int) (p2_sector : Int) (Qf : (Slc × Int) → World → Prop) (w : World) (hm : bank_Bank_Read p0_b p1_slot p2_sector Qf w) : Calls Try.prog 36 #[(.pointer p0_b), (.int .i64 p1_slot), (.int .i64 p2_sector)] w (RetPost (fun y : (Slc × Int) => (.tuple #[(.slice y.1.base y.1.len y.1.cap), (.int .i64 y.2)])) Qf) := by
  refine calls_of (fn := Try.f36) (l := [(.pointer p0_b), (.int .i64 p1_slot), (.int .i64 p2_sector)]) (m := bank_Bank_Read p0_b p1_slot p2_sector) 27 (by kernel_rfl) rfl rfl rfl (fun Qf0 => ?_) Qf w hm
  clear hm w Qf
  unfold bank_Bank_Read
  refine SC.seq ?_
  refine SC.region' ?_
  refine KT.pv 6 (.slice none 0 0) ?_
  refine KT.pv 7 (.int .i64 0) ?_
  refine KT.nil ?_
  refine SX.seq ?_
  refine SC.seq ?_
  refine SC.region' ?_
  refine KT.pv 11 (.pointer p0_b) ?_
  refine KT.pv 12 (.int .i64 p1_slot) ?_
  refine KT.cl (fun y : (Int × Bool) => (.tuple #[(.int .i64 y.1), (.bool y.2)])) 13 72 #[(.pointer p0_b), (.int .i64 p1_slot)] (bank_Bank_disk_sim p0_b p1_slot) (fun x13 => ?_)
  refine KT.pv 10 (.tuple #[(.int .i64 x13.1), (.bool x13.2)]) ?_
  refine KT.pv 14 (.int .i64 x13.1) ?_
  refine KT.pv 15 (.bool x13.2) ?_
  refine KT.pv 8 (.int .i64 x13.1) ?_
  refine KT.pv 9 (.bool x13.2) ?_
  refine KT.nil ?_
  refine SX.seq ?_
  refine SC.seq ?_
  refine SC.seq ?_
  refine SC.region' ?_
  refine KT.pv 16 (.bool x13.2) ?_
  refine KT.pv 17 (.bool (!x13.2)) ?_
  refine KT.nil ?_
  refine SX.seq ?_
  refine SC.cond (b := !x13.2) rfl ?_ ?_
  refine SC.seq ?_
  refine SC.region' ?_
  refine KT.pv 6 (.slice none 0 0) ?_
  refine KT.pv 7 (.int .i64 11) ?_
  refine KT.nil ?_
  refine SX.seq ?_
  refine SC.ret ?_
  refine SX.then_ret ?_
  refine SX.ret [.tmp 6, .tmp 7] rfl ?_
  refine RS.tmp (.slice none 0 0) rfl ?_
  refine RS.tmp (.int .i64 11) rfl ?_
  exact RS.nil rfl
  refine SC.skip ?_
  refine SX.seq ?_
  refine SC.seq ?_
  refine SC.region' ?_
  refine KT.pv 18 (.pointer p0_b) ?_
  refine KT.nm 19 (fun x19 => ?_)
  refine KT.pv 20 (.pointer (some x19)) ?_
  refine KT.l 21 (fun x21 => ?_)
  refine KT.pv 22 (.int .i64 x13.1) ?_
  refine KT.pv 23 (.int .i64 p2_sector) ?_
  refine KT.cl (fun y : (Slc × Int) => (.tuple #[(.slice y.1.base y.1.len y.1.cap), (.int .i64 y.2)])) 24 29 #[(.pointer x21), (.int .i64 x13.1), (.int .i64 p2_sector)] (device_Rack_Read_sim x21 x13.1 p2_sector) (fun x24 => ?_)
  refine KT.pv 25 (.slice x24.1.base x24.1.len x24.1.cap) ?_
  refine KT.pv 26 (.int .i64 x24.2) ?_
  refine KT.pv 6 (.slice x24.1.base x24.1.len x24.1.cap) ?_
  refine KT.pv 7 (.int .i64 x24.2) ?_
  refine KT.nil ?_
  refine SX.seq ?_
  refine SC.ret ?_
  refine SX.ret [.tmp 6, .tmp 7] rfl ?_
  refine RS.tmp (.slice x24.1.base x24.1.len x24.1.cap) rfl ?_
  refine RS.tmp (.int .i64 x24.2) rfl ?_
  exact RS.nil rfl
set_option maxRecDepth 100000 in
theorem device_Rack_Off_sim (p0_r : (Option Addr)) (Qf : Bool → World → Prop) (w : World) (hm : device_Rack_Off p0_r Qf w) : Calls Try.prog 56 #[(.pointer p0_r)] w (RetPost Value.bool Qf) := by
  refine calls_of (fn := Try.f56) (l := [(.pointer p0_r)]) (m := device_Rack_Off p0_r) 7 (by kernel_rfl) rfl rfl rfl (fun Qf0 => ?_) Qf w hm
  clear hm w Qf
  unfold device_Rack_Off
  refine SC.seq ?_
  refine SC.region' ?_
  refine KT.pv 2 (.bool false) ?_
  refine KT.nil ?_
  refine SX.seq ?_
  refine SC.seq ?_
  refine SC.region' ?_
  refine KT.pv 3 (.pointer p0_r) ?_
  refine KT.nm 4 (fun x4 => ?_)
  refine KT.pv 5 (.pointer (some (Addr.add x4 3))) ?_
  refine KT.l 6 (fun x6 => ?_)
  refine KT.pv 2 (.bool x6) ?_
  refine KT.nil ?_
  refine SX.seq ?_
  refine SC.ret ?_
  refine SX.ret [.tmp 2] rfl ?_
  refine RS.tmp (.bool x6) rfl ?_
  exact RS.nil rfl
set_option maxRecDepth 100000 in
theorem bank_Bank_Off_sim (p0_b : (Option Addr)) (Qf : Bool → World → Prop) (w : World) (hm : bank_Bank_Off p0_b Qf w) : Calls Try.prog 84 #[(.pointer p0_b)] w (RetPost Value.bool Qf) := by
  refine calls_of (fn := Try.f84) (l := [(.pointer p0_b)]) (m := bank_Bank_Off p0_b) 8 (by kernel_rfl) rfl rfl rfl (fun Qf0 => ?_) Qf w hm
  clear hm w Qf
  unfold bank_Bank_Off
  refine SC.seq ?_
  refine SC.region' ?_
  refine KT.pv 2 (.bool false) ?_
  refine KT.nil ?_
  refine SX.seq ?_
  refine SC.seq ?_
  refine SC.region' ?_
  refine KT.pv 3 (.pointer p0_b) ?_
  refine KT.nm 4 (fun x4 => ?_)
  refine KT.pv 5 (.pointer (some x4)) ?_
  refine KT.l 6 (fun x6 => ?_)
  refine KT.cl Value.bool 7 56 #[(.pointer x6)] (device_Rack_Off_sim x6) (fun x7 => ?_)
  refine KT.pv 2 (.bool x7) ?_
  refine KT.nil ?_
  refine SX.seq ?_
  refine SC.ret ?_
  refine SX.ret [.tmp 2] rfl ?_
  refine RS.tmp (.bool x7) rfl ?_
  exact RS.nil rfl
set_option maxRecDepth 100000 in
theorem stripe_there_sim (p0_b : (Option Addr)) (p1_seg : Int) (Qf : Int → World → Prop) (w : World) (hm : stripe_there p0_b p1_seg Qf w) : Calls Try.prog 80 #[(.pointer p0_b), (.int .i64 p1_seg)] w (RetPost (Value.int .i64) Qf) := by
  refine calls_of (fn := Try.f80) (l := [(.pointer p0_b), (.int .i64 p1_seg)]) (m := stripe_there p0_b p1_seg) 18 (by kernel_rfl) rfl rfl rfl (fun Qf0 => ?_) Qf w hm
  clear hm w Qf
  unfold stripe_there
  refine SC.seq ?_
  refine SC.region' ?_
  refine KT.pv 4 (.int .i64 0) ?_
  refine KT.nil ?_
  refine SX.seq ?_
  refine SC.seq ?_
  refine SC.block ?_
  refine SC.seq ?_
  refine SC.region' ?_
  refine KT.pv 6 (.int .i64 p1_seg) ?_
  refine KT.pv 7 (.bool (decide (p1_seg < 0))) ?_
  refine KT.pv 8 (.bool (decide (p1_seg < 0))) ?_
  refine KT.joinO (β := Bool) 6 (fun r1 => [(14, (.bool r1)), (0, (.pointer p0_b))]) (fun r1 => ?_) (fun j1 => ?_)
  refine KT.pv 5 (.bool r1) ?_
  refine KT.nil ?_
  refine SX.seq ?_
  refine SC.cond (b := r1) rfl ?_ ?_
  refine SC.seq ?_
  refine SC.region' ?_
  refine KT.pv 4 (.int .i64 28) ?_
  refine KT.nil ?_
  refine SX.seq ?_
  refine SC.ret ?_
  refine SX.block_ret ?_
  refine SX.then_ret ?_
  refine SX.ret [.tmp 4] rfl ?_
  refine RS.tmp (.int .i64 28) rfl ?_
  exact RS.nil rfl
  refine SC.seq ?_
  refine SC.region' ?_
  refine KT.pv 16 (.pointer p0_b) ?_
  refine KT.cl Value.bool 17 84 #[(.pointer p0_b)] (bank_Bank_Off_sim p0_b) (fun x17 => ?_)
  refine KT.pv 15 (.bool x17) ?_
  refine KT.nil ?_
  refine SX.seq ?_
  refine SC.cond (b := x17) rfl ?_ ?_
  refine SC.seq ?_
  refine SC.region' ?_
  refine KT.pv 4 (.int .i64 12) ?_
  refine KT.nil ?_
  refine SX.seq ?_
  refine SC.ret ?_
  refine SX.block_ret ?_
  refine SX.then_ret ?_
  refine SX.ret [.tmp 4] rfl ?_
  refine RS.tmp (.int .i64 12) rfl ?_
  exact RS.nil rfl
  refine SC.skip ?_
  refine SX.block ?_
  refine SX.seq ?_
  refine SC.seq ?_
  refine SC.region' ?_
  refine KT.pv 4 (.int .i64 0) ?_
  refine KT.nil ?_
  refine SX.seq ?_
  refine SC.ret ?_
  refine SX.ret [.tmp 4] rfl ?_
  refine RS.tmp (.int .i64 0) rfl ?_
  exact RS.nil rfl
  refine KT.ite (b := decide (p1_seg < 0)) 8 rfl ?_ ?_
  refine KT.sk ?_
  refine KT.sk ?_
  refine KT.sk ?_
  refine KT.sk ?_
  refine KT.sk ?_
  refine KT.pv 14 (.bool true) ?_
  exact KT.leafO j1 (.cons rfl (.cons rfl (.nil)))
  refine KT.pv 9 (.int .i64 p1_seg) ?_
  refine KT.pv 10 (.pointer p0_b) ?_
  refine KT.cl (fun y : (Int × Int × Int) => (.agg #[(.int .i64 y.1), (.int .i64 y.2.1), (.int .i64 y.2.2)])) 11 63 #[(.pointer p0_b)] (bank_Bank_Geo_sim p0_b) (fun x11 => ?_)
  refine KT.pv 12 (.int .i64 x11.2.2) ?_
  refine KT.pv 13 (.bool (decide (p1_seg ≥ x11.2.2))) ?_
  refine KT.pv 14 (.bool (decide (p1_seg ≥ x11.2.2))) ?_
  exact KT.leafO j1 (.cons rfl (.cons rfl (.nil)))
set_option maxRecDepth 100000 in
theorem slices_Index_i_sim (p0_s : Slc) (p1_v : Int) (Qf : Int → World → Prop) (w : World) (hm : slices_Index_i p0_s p1_v Qf w) : Calls Try.prog 124 #[(.slice p0_s.base p0_s.len p0_s.cap), (.int .i64 p1_v)] w (RetPost (Value.int .i64) Qf) := by
  refine calls_of (fn := Try.f124) (l := [(.slice p0_s.base p0_s.len p0_s.cap), (.int .i64 p1_v)]) (m := slices_Index_i p0_s p1_v) 19 (by kernel_rfl) rfl rfl rfl (fun Qf0 => ?_) Qf w hm
  clear hm w Qf
  unfold slices_Index_i
  refine SC.seq ?_
  refine SC.region' ?_
  refine KT.pv 4 (.int .i64 0) ?_
  refine KT.nil ?_
  refine SX.seq ?_
  refine SC.seq ?_
  refine SC.seq ?_
  refine SC.region' ?_
  refine KT.pv 6 (.slice p0_s.base p0_s.len p0_s.cap) ?_
  refine KT.pv 7 (.int .i64 ((p0_s.len : Nat) : Int)) ?_
  refine KT.pv 8 (.int .i64 0) ?_
  refine KT.nil ?_
  refine SX.seq ?_
  refine SC.block ?_
  refine SC.loop (σ := (Int)) (fun s1 => [(0, (.slice p0_s.base p0_s.len p0_s.cap)), (1, (.int .i64 p1_v)), (7, (.int .i64 ((p0_s.len : Nat) : Int))), (8, (.int .i64 s1))]) (.cons rfl (.cons rfl (.cons rfl (.cons rfl (.nil))))) (fun _ _ _ s1 => ?_)
  refine SC.seq ?_
  refine SC.region' ?_
  refine KT.pv 9 (.bool (decide (s1 < ((p0_s.len : Nat) : Int)))) ?_
  refine KT.nil ?_
  refine SX.seq ?_
  refine SC.seq ?_
  refine SC.cond (b := decide (s1 < ((p0_s.len : Nat) : Int))) rfl ?_ ?_
  refine SC.skip ?_
  refine SX.seq ?_
  refine SC.seq ?_
  refine SC.block ?_
  refine SC.seq ?_
  refine SC.region' ?_
  refine KT.pv 10 (.int .i64 s1) ?_
  refine KT.pv 5 (.int .i64 s1) ?_
  refine KT.nil ?_
  refine SX.seq ?_
  refine SC.seq ?_
  refine SC.region' ?_
  refine KT.pv 11 (.int .i64 p1_v) ?_
  refine KT.pv 12 (.slice p0_s.base p0_s.len p0_s.cap) ?_
  refine KT.pv 13 (.int .i64 s1) ?_
  refine KT.oy rfl (OY.idx (d := 14) (s := p0_s) (i := s1) (size := 1) (elem := 3) _ _ _ rfl rfl rfl (by kernel_rfl) (by kernel_rfl) rfl rfl (fun x14 => ?_))
  refine KT.l 15 (fun x15 => ?_)
  refine KT.pv 16 (.bool (p1_v == x15)) ?_
  refine KT.nil ?_
  refine SX.seq ?_
  refine SC.cond (b := p1_v == x15) rfl ?_ ?_
  refine SC.seq ?_
  refine SC.region' ?_
  refine KT.pv 17 (.int .i64 s1) ?_
  refine KT.pv 4 (.int .i64 s1) ?_
  refine KT.nil ?_
  refine SX.seq ?_
  refine SC.ret ?_
  refine SX.block_ret ?_
  refine SX.then_ret ?_
  refine SX.loop_ret ?_
  refine SX.block_ret ?_
  refine SX.then_ret ?_
  refine SX.ret [.tmp 4] rfl ?_
  refine RS.tmp (.int .i64 s1) rfl ?_
  exact RS.nil rfl
  refine SC.skip ?_
  refine SX.block ?_
  refine SX.seq ?_
  refine SC.region' ?_
  refine KT.pv 18 (.int .i64 (w64 (s1 + 1))) ?_
  refine KT.pv 8 (.int .i64 (w64 (s1 + 1))) ?_
  refine KT.nil ?_
  exact SX.loop_next (.cons rfl (.cons rfl (.cons rfl (.cons rfl (.nil)))))
  refine SC.exit ?_
  refine SX.then_exit ?_
  refine SX.loop_exit ?_
  refine SX.block_hit ?_
  refine SX.seq ?_
  refine SC.seq ?_
  refine SC.region' ?_
  refine KT.pv 4 (.int .i64 (-1)) ?_
  refine KT.nil ?_
  refine SX.seq ?_
  refine SC.ret ?_
  refine SX.ret [.tmp 4] rfl ?_
  refine RS.tmp (.int .i64 (-1)) rfl ?_
  exact RS.nil rfl
set_option maxRecDepth 100000 in
theorem slices_Contains_i_sim (p0_s : Slc) (p1_v : Int) (Qf : Bool → World → Prop) (w : World) (hm : slices_Contains_i p0_s p1_v Qf w) : Calls Try.prog 81 #[(.slice p0_s.base p0_s.len p0_s.cap), (.int .i64 p1_v)] w (RetPost Value.bool Qf) := by
  refine calls_of (fn := Try.f81) (l := [(.slice p0_s.base p0_s.len p0_s.cap), (.int .i64 p1_v)]) (m := slices_Contains_i p0_s p1_v) 9 (by kernel_rfl) rfl rfl rfl (fun Qf0 => ?_) Qf w hm
  clear hm w Qf
  unfold slices_Contains_i
  refine SC.seq ?_
  refine SC.region' ?_
  refine KT.pv 4 (.bool false) ?_
  refine KT.nil ?_
  refine SX.seq ?_
  refine SC.seq ?_
  refine SC.region' ?_
  refine KT.pv 5 (.slice p0_s.base p0_s.len p0_s.cap) ?_
  refine KT.pv 6 (.int .i64 p1_v) ?_
  refine KT.cl (Value.int .i64) 7 124 #[(.slice p0_s.base p0_s.len p0_s.cap), (.int .i64 p1_v)] (slices_Index_i_sim p0_s p1_v) (fun x7 => ?_)
  refine KT.pv 8 (.bool (decide (x7 ≥ 0))) ?_
  refine KT.pv 4 (.bool (decide (x7 ≥ 0))) ?_
  refine KT.nil ?_
  refine SX.seq ?_
  refine SC.ret ?_
  refine SX.ret [.tmp 4] rfl ?_
  refine RS.tmp (.bool (decide (x7 ≥ 0))) rfl ?_
  exact RS.nil rfl
set_option maxRecDepth 100000 in
theorem bits_Get_sim (p0_b : Slc) (p1_at : Int) (p2_width : Int) (Qf : (Int × Bool) → World → Prop) (w : World) (hm : bits_Get p0_b p1_at p2_width Qf w) : Calls Try.prog 125 #[(.slice p0_b.base p0_b.len p0_b.cap), (.int .i64 p1_at), (.int .i64 p2_width)] w (RetPost (fun y : (Int × Bool) => (.tuple #[(.int .i64 y.1), (.bool y.2)])) Qf) := by
  refine calls_of (fn := Try.f125) (l := [(.slice p0_b.base p0_b.len p0_b.cap), (.int .i64 p1_at), (.int .i64 p2_width)]) (m := bits_Get p0_b p1_at p2_width) 56 (by kernel_rfl) rfl rfl rfl (fun Qf0 => ?_) Qf w hm
  clear hm w Qf
  unfold bits_Get
  refine SC.seq ?_
  refine SC.region' ?_
  refine KT.pv 6 (.int .i64 0) ?_
  refine KT.pv 7 (.bool false) ?_
  refine KT.nil ?_
  refine SX.seq ?_
  refine SC.seq ?_
  refine SC.seq ?_
  refine SC.region' ?_
  refine KT.pv 11 (.int .i64 p2_width) ?_
  refine KT.pv 12 (.bool (decide (p2_width < 1))) ?_
  refine KT.pv 13 (.bool (decide (p2_width < 1))) ?_
  refine KT.joinO (β := Bool) 3 (fun r1 => [(16, (.bool r1)), (0, (.slice p0_b.base p0_b.len p0_b.cap)), (1, (.int .i64 p1_at)), (2, (.int .i64 p2_width))]) (fun r1 => ?_) (fun j1 => ?_)
  refine KT.pv 17 (.bool r1) ?_
  refine KT.joinO (β := Bool) 3 (fun r2 => [(20, (.bool r2)), (0, (.slice p0_b.base p0_b.len p0_b.cap)), (1, (.int .i64 p1_at)), (2, (.int .i64 p2_width))]) (fun r2 => ?_) (fun j2 => ?_)
  refine KT.pv 21 (.bool r2) ?_
  refine KT.joinO (β := Bool) 5 (fun r3 => [(26, (.bool r3)), (0, (.slice p0_b.base p0_b.len p0_b.cap)), (1, (.int .i64 p1_at)), (2, (.int .i64 p2_width))]) (fun r3 => ?_) (fun j3 => ?_)
  refine KT.pv 27 (.bool r3) ?_
  refine KT.joinO (β := Bool) 7 (fun r4 => [(34, (.bool r4)), (0, (.slice p0_b.base p0_b.len p0_b.cap)), (1, (.int .i64 p1_at)), (2, (.int .i64 p2_width))]) (fun r4 => ?_) (fun j4 => ?_)
  refine KT.nil ?_
  refine SX.seq ?_
  refine SC.cond (b := r4) rfl ?_ ?_
  refine SC.seq ?_
  refine SC.region' ?_
  refine KT.pv 6 (.int .i64 0) ?_
  refine KT.pv 7 (.bool false) ?_
  refine KT.nil ?_
  refine SX.seq ?_
  refine SC.ret ?_
  refine SX.then_ret ?_
  refine SX.ret [.tmp 6, .tmp 7] rfl ?_
  refine RS.tmp (.int .i64 0) rfl ?_
  refine RS.tmp (.bool false) rfl ?_
  exact RS.nil rfl
  refine SC.skip ?_
  refine SX.seq ?_
  refine SC.seq ?_
  refine SC.region' ?_
  refine KT.pv 8 (.int .i64 0) ?_
  refine KT.nil ?_
  refine SX.seq ?_
  refine SC.seq ?_
  refine SC.seq ?_
  refine SC.region' ?_
  refine KT.pv 35 (.slice p0_b.base p0_b.len p0_b.cap) ?_
  refine KT.pv 36 (.int .i64 p1_at) ?_
  refine KT.pv 37 (.int .i64 p1_at) ?_
  refine KT.pv 38 (.int .i64 p2_width) ?_
  refine KT.pv 39 (.int .i64 (w64 (p1_at + p2_width))) ?_
  refine KT.oy rfl (OY.slice11 (d := 40) (s := p0_b) (lo := p1_at) (hi := w64 (p1_at + p2_width)) (size := 1) (elem := 5) _ _ _ _ rfl rfl rfl rfl (by kernel_rfl) (by kernel_rfl) rfl rfl (fun x40 => ?_))
  refine KT.pv 41 (.int .i64 ((x40.len : Nat) : Int)) ?_
  refine KT.pv 42 (.int .i64 0) ?_
  refine KT.nil ?_
  refine SX.seq ?_
  refine SC.block ?_
  refine SC.loop (σ := (Int × Int)) (fun s5 => [(8, (.int .i64 s5.1)), (40, (.slice x40.base x40.len x40.cap)), (41, (.int .i64 ((x40.len : Nat) : Int))), (42, (.int .i64 s5.2))]) (.cons rfl (.cons rfl (.cons rfl (.cons rfl (.nil))))) (fun _ _ _ s5 => ?_)
  refine SC.seq ?_
  refine SC.region' ?_
  refine KT.pv 43 (.bool (decide (s5.2 < ((x40.len : Nat) : Int)))) ?_
  refine KT.nil ?_
  refine SX.seq ?_
  refine SC.seq ?_
  refine SC.cond (b := decide (s5.2 < ((x40.len : Nat) : Int))) rfl ?_ ?_
  refine SC.skip ?_
  refine SX.seq ?_
  refine SC.seq ?_
  refine SC.block ?_
  refine SC.seq ?_
  refine SC.region' ?_
  refine KT.pv 44 (.int .i64 s5.2) ?_
  refine KT.oy rfl (OY.idx (d := 45) (s := x40) (i := s5.2) (size := 1) (elem := 5) _ _ _ rfl rfl rfl (by kernel_rfl) (by kernel_rfl) rfl rfl (fun x45 => ?_))
  refine KT.l 46 (fun x46 => ?_)
  refine KT.pv 9 (.int .i64 s5.2) ?_
  refine KT.pv 10 (.int .u8 x46) ?_
  refine KT.nil ?_
  refine SX.seq ?_
  refine SC.region' ?_
  refine KT.pv 47 (.int .i64 s5.1) ?_
  refine KT.pv 48 (.int .u8 x46) ?_
  refine KT.pv 49 (.int .i64 (w64 x46)) ?_
  refine KT.pv 50 (.int .i64 s5.2) ?_
  refine KT.pv 51 (.int .i64 (w64 (8 * s5.2))) ?_
  refine KT.oy rfl (OY.shl (d := 52) (x := w64 x46) (y := w64 (8 * s5.2)) _ _ _ _ (bShl .i64 (w64 x46) (w64 (8 * s5.2))) rfl rfl rfl rfl rfl rfl ?_)
  refine KT.pv 53 (.int .i64 (bOr .i64 s5.1 (bShl .i64 (w64 x46) (w64 (8 * s5.2))))) ?_
  refine KT.pv 8 (.int .i64 (bOr .i64 s5.1 (bShl .i64 (w64 x46) (w64 (8 * s5.2))))) ?_
  refine KT.nil ?_
  refine SX.block ?_
  refine SX.seq ?_
  refine SC.region' ?_
  refine KT.pv 54 (.int .i64 (w64 (s5.2 + 1))) ?_
  refine KT.pv 42 (.int .i64 (w64 (s5.2 + 1))) ?_
  refine KT.nil ?_
  exact SX.loop_next (.cons rfl (.cons rfl (.cons rfl (.cons rfl (.nil)))))
  refine SC.exit ?_
  refine SX.then_exit ?_
  refine SX.loop_exit ?_
  refine SX.block_hit ?_
  refine SX.seq ?_
  refine SC.seq ?_
  refine SC.region' ?_
  refine KT.pv 55 (.int .i64 s5.1) ?_
  refine KT.pv 6 (.int .i64 s5.1) ?_
  refine KT.pv 7 (.bool true) ?_
  refine KT.nil ?_
  refine SX.seq ?_
  refine SC.ret ?_
  refine SX.ret [.tmp 6, .tmp 7] rfl ?_
  refine RS.tmp (.int .i64 s5.1) rfl ?_
  refine RS.tmp (.bool true) rfl ?_
  exact RS.nil rfl
  refine KT.ite (b := r3) 27 rfl ?_ ?_
  refine KT.sk ?_
  refine KT.sk ?_
  refine KT.sk ?_
  refine KT.sk ?_
  refine KT.sk ?_
  refine KT.sk ?_
  refine KT.pv 34 (.bool true) ?_
  exact KT.leafO j4 (.cons rfl (.cons rfl (.cons rfl (.cons rfl (.nil)))))
  refine KT.pv 28 (.slice p0_b.base p0_b.len p0_b.cap) ?_
  refine KT.pv 29 (.int .i64 ((p0_b.len : Nat) : Int)) ?_
  refine KT.pv 30 (.int .i64 p1_at) ?_
  refine KT.pv 31 (.int .i64 (w64 (((p0_b.len : Nat) : Int) - p1_at))) ?_
  refine KT.pv 32 (.int .i64 p2_width) ?_
  refine KT.pv 33 (.bool (decide ((w64 (((p0_b.len : Nat) : Int) - p1_at)) < p2_width))) ?_
  refine KT.pv 34 (.bool (decide ((w64 (((p0_b.len : Nat) : Int) - p1_at)) < p2_width))) ?_
  exact KT.leafO j4 (.cons rfl (.cons rfl (.cons rfl (.cons rfl (.nil)))))
  refine KT.ite (b := r2) 21 rfl ?_ ?_
  refine KT.sk ?_
  refine KT.sk ?_
  refine KT.sk ?_
  refine KT.sk ?_
  refine KT.pv 26 (.bool true) ?_
  exact KT.leafO j3 (.cons rfl (.cons rfl (.cons rfl (.cons rfl (.nil)))))
  refine KT.pv 22 (.int .i64 p1_at) ?_
  refine KT.pv 23 (.slice p0_b.base p0_b.len p0_b.cap) ?_
  refine KT.pv 24 (.int .i64 ((p0_b.len : Nat) : Int)) ?_
  refine KT.pv 25 (.bool (decide (p1_at > ((p0_b.len : Nat) : Int)))) ?_
  refine KT.pv 26 (.bool (decide (p1_at > ((p0_b.len : Nat) : Int)))) ?_
  exact KT.leafO j3 (.cons rfl (.cons rfl (.cons rfl (.cons rfl (.nil)))))
  refine KT.ite (b := r1) 17 rfl ?_ ?_
  refine KT.sk ?_
  refine KT.sk ?_
  refine KT.pv 20 (.bool true) ?_
  exact KT.leafO j2 (.cons rfl (.cons rfl (.cons rfl (.cons rfl (.nil)))))
  refine KT.pv 18 (.int .i64 p1_at) ?_
  refine KT.pv 19 (.bool (decide (p1_at < 0))) ?_
  refine KT.pv 20 (.bool (decide (p1_at < 0))) ?_
  exact KT.leafO j2 (.cons rfl (.cons rfl (.cons rfl (.cons rfl (.nil)))))
  refine KT.ite (b := decide (p2_width < 1)) 13 rfl ?_ ?_
  refine KT.sk ?_
  refine KT.sk ?_
  refine KT.pv 16 (.bool true) ?_
  exact KT.leafO j1 (.cons rfl (.cons rfl (.cons rfl (.cons rfl (.nil)))))
  refine KT.pv 14 (.int .i64 p2_width) ?_
  refine KT.pv 15 (.bool (decide (p2_width > 4))) ?_
  refine KT.pv 16 (.bool (decide (p2_width > 4))) ?_
  exact KT.leafO j1 (.cons rfl (.cons rfl (.cons rfl (.cons rfl (.nil)))))
set_option maxRecDepth 100000 in
theorem sector_Decode_sim (p0_b : Slc) (Qf : ((Int × Int × Int) × Slc × Bool) → World → Prop) (w : World) (hm : sector_Decode p0_b Qf w) : Calls Try.prog 82 #[(.slice p0_b.base p0_b.len p0_b.cap)] w (RetPost (fun y : ((Int × Int × Int) × Slc × Bool) => (.tuple #[(.agg #[(.int .i64 y.1.1), (.int .i64 y.1.2.1), (.int .i64 y.1.2.2)]), (.slice y.2.1.base y.2.1.len y.2.1.cap), (.bool y.2.2)])) Qf) := by
  refine calls_of (fn := Try.f82) (l := [(.slice p0_b.base p0_b.len p0_b.cap)]) (m := sector_Decode p0_b) 32 (by kernel_rfl) rfl rfl rfl (fun Qf0 => ?_) Qf w hm
  clear hm w Qf
  unfold sector_Decode
  refine SC.seq ?_
  refine SC.region' ?_
  refine KT.nw 2 (fun ad => .pointer (some ad)) 144 (fun x2 => ?_)
  refine KT.pv 3 (.slice none 0 0) ?_
  refine KT.pv 4 (.bool false) ?_
  refine KT.nil ?_
  refine SX.seq ?_
  refine SC.seq ?_
  refine SC.seq ?_
  refine SC.region' ?_
  refine KT.pv 6 (.slice p0_b.base p0_b.len p0_b.cap) ?_
  refine KT.pv 7 (.int .i64 ((p0_b.len : Nat) : Int)) ?_
  refine KT.pv 8 (.bool (((p0_b.len : Nat) : Int) != 64)) ?_
  refine KT.nil ?_
  refine SX.seq ?_
  refine SC.cond (b := ((p0_b.len : Nat) : Int) != 64) rfl ?_ ?_
  refine SC.seq ?_
  refine SC.region' ?_
  refine KT.pv 9 (.agg #[(.int .i64 0), (.int .i64 0), (.int .i64 0)]) ?_
  refine KT.ow rfl (OW.stA _ _ _ rfl rfl rfl rfl rfl (by kernel_rfl) ?_)
  refine KT.pv 3 (.slice none 0 0) ?_
  refine KT.pv 4 (.bool false) ?_
  refine KT.nil ?_
  refine SX.seq ?_
  refine SC.ret ?_
  refine SX.then_ret ?_
  refine SX.ret [.cell 2 144, .tmp 3, .tmp 4] rfl ?_
  refine RS.cellA 3 (by kernel_rfl) rfl rfl (fun _ => rfl) (fun r2 => ?_)
  refine RS.tmp (.slice none 0 0) rfl ?_
  refine RS.tmp (.bool false) rfl ?_
  exact RS.nil rfl
  refine SC.skip ?_
  refine SX.seq ?_
  refine SC.seq ?_
  refine SC.region' ?_
  refine KT.nw 5 (fun ad => .pointer (some ad)) 144 (fun x5 => ?_)
  refine KT.nil ?_
  refine SX.seq ?_
  refine SC.seq ?_
  refine SC.region' ?_
  refine KT.pv 11 (.slice p0_b.base p0_b.len p0_b.cap) ?_
  refine KT.cl (fun y : (Int × Bool) => (.tuple #[(.int .i64 y.1), (.bool y.2)])) 12 125 #[(.slice p0_b.base p0_b.len p0_b.cap), (.int .i64 0), (.int .i64 4)] (bits_Get_sim p0_b 0 4) (fun x12 => ?_)
  refine KT.pv 10 (.tuple #[(.int .i64 x12.1), (.bool x12.2)]) ?_
  refine KT.pv 13 (.int .i64 x12.1) ?_
  refine KT.pv 14 (.bool x12.2) ?_
  refine KT.pv 15 (.pointer (some x5)) ?_
  refine KT.s ?_
  refine KT.nil ?_
  refine SX.seq ?_
  refine SC.seq ?_
  refine SC.region' ?_
  refine KT.pv 17 (.slice p0_b.base p0_b.len p0_b.cap) ?_
  refine KT.cl (fun y : (Int × Bool) => (.tuple #[(.int .i64 y.1), (.bool y.2)])) 18 125 #[(.slice p0_b.base p0_b.len p0_b.cap), (.int .i64 4), (.int .i64 2)] (bits_Get_sim p0_b 4 2) (fun x18 => ?_)
  refine KT.pv 16 (.tuple #[(.int .i64 x18.1), (.bool x18.2)]) ?_
  refine KT.pv 19 (.int .i64 x18.1) ?_
  refine KT.pv 20 (.bool x18.2) ?_
  refine KT.pv 21 (.pointer (some (Addr.add x5 1))) ?_
  refine KT.s ?_
  refine KT.nil ?_
  refine SX.seq ?_
  refine SC.seq ?_
  refine SC.region' ?_
  refine KT.pv 23 (.slice p0_b.base p0_b.len p0_b.cap) ?_
  refine KT.cl (fun y : (Int × Bool) => (.tuple #[(.int .i64 y.1), (.bool y.2)])) 24 125 #[(.slice p0_b.base p0_b.len p0_b.cap), (.int .i64 6), (.int .i64 2)] (bits_Get_sim p0_b 6 2) (fun x24 => ?_)
  refine KT.pv 22 (.tuple #[(.int .i64 x24.1), (.bool x24.2)]) ?_
  refine KT.pv 25 (.int .i64 x24.1) ?_
  refine KT.pv 26 (.bool x24.2) ?_
  refine KT.pv 27 (.pointer (some (Addr.add x5 2))) ?_
  refine KT.s ?_
  refine KT.nil ?_
  refine SX.seq ?_
  refine SC.seq ?_
  refine SC.draw 7 (fun f => Nat.beq f 4) rfl (by kernel_rfl) (fun S1 => ?_)
  refine KT.tk 0 (OY.ldAI (d := 28) (enc := (fun y : (Int × Int × Int) => [(.int .i64 y.1), (.int .i64 y.2.1), (.int .i64 y.2.2)])) 3 _ _ rfl rfl (by kernel_rfl) (by kernel_rfl) (fun _ => rfl) rfl rfl (fun x28 => ?_))
  refine KT.pvA 1 29 (.slice p0_b.base p0_b.len p0_b.cap) ?_
  refine KT.tp 2 (OY.slice10 (d := 30) (s := p0_b) (lo := 8) (size := 1) (elem := 5) _ _ _ rfl rfl rfl (by kernel_rfl) (by kernel_rfl) rfl rfl (fun x30 => ?_))
  refine KT.one 3 rfl (by kernel_rfl) rfl (OW.step (OW.call (d := 31) (enc := vS) 123 #[(.slice x30.base x30.len x30.cap)] rfl (fun _ => by kernel_rfl) (fun Qf w => bytes_Clone_sim x30 Qf w) rfl rfl (fun x31 => ?_)))
  refine KT.and ?_
  refine KT.last 4 rfl (by kernel_rfl) rfl rfl (OW.stA _ _ _ rfl rfl rfl rfl rfl (by kernel_rfl) ?_)
  refine KT.pvN 5 3 (.slice x31.base x31.len x31.cap) ?_
  refine KT.pvN 6 4 (.bool true) ?_
  refine KT.doneN (by kernel_rfl) ?_
  refine SX.sub (T' := [(2, (.pointer (some x2))), (3, (.slice x31.base x31.len x31.cap)), (4, (.bool true))]) (.cons rfl (.cons rfl (.cons rfl (.nil)))) ?_
  refine SX.seq ?_
  refine SC.ret ?_
  refine SX.ret [.cell 2 144, .tmp 3, .tmp 4] rfl ?_
  refine RS.cellA 3 (by kernel_rfl) rfl rfl (fun _ => rfl) (fun r2 => ?_)
  refine RS.tmp (.slice x31.base x31.len x31.cap) rfl ?_
  refine RS.tmp (.bool true) rfl ?_
  exact RS.nil rfl
set_option maxRecDepth 100000 in
theorem stripe_Whole_sim (p0_b : (Option Addr)) (p1_seg : Int) (Qf : (Int × Bool × Int) → World → Prop) (w : World) (hm : stripe_Whole (cvOf Try.prog) p0_b p1_seg Qf w) : Calls Try.prog 49 #[(.pointer p0_b), (.int .i64 p1_seg)] w (RetPost (fun y : (Int × Bool × Int) => (.tuple #[(.int .i64 y.1), (.bool y.2.1), (.int .i64 y.2.2)])) Qf) := by
  refine calls_of (fn := Try.f49) (l := [(.pointer p0_b), (.int .i64 p1_seg)]) (m := stripe_Whole (cvOf Try.prog) p0_b p1_seg) 82 (by kernel_rfl) rfl rfl rfl (fun Qf0 => ?_) Qf w hm
  clear hm w Qf
  unfold stripe_Whole
  refine SC.seq ?_
  refine SC.region' ?_
  refine KT.nw 2 (fun ad => .pointer (some ad)) 38 (fun x2 => ?_)
  refine KT.nw 4 (fun ad => .pointer (some ad)) 3 (fun x4 => ?_)
  refine KT.nw 5 (fun ad => .pointer (some ad)) 4 (fun x5 => ?_)
  refine KT.nw 6 (fun ad => .pointer (some ad)) 28 (fun x6 => ?_)
  refine KT.nil ?_
  refine SX.seq ?_
  refine SC.seq ?_
  refine SC.seq ?_
  refine SC.region' ?_
  refine KT.l 19 (fun x19 => ?_)
  refine KT.pv 20 (.int .i64 p1_seg) ?_
  refine KT.cl (Value.int .i64) 21 80 #[(.pointer x19), (.int .i64 p1_seg)] (stripe_there_sim x19 p1_seg) (fun x21 => ?_)
  refine KT.pv 7 (.int .i64 x21) ?_
  refine KT.nil ?_
  refine SX.seq ?_
  refine SC.seq ?_
  refine SC.region' ?_
  refine KT.pv 22 (.int .i64 x21) ?_
  refine KT.pv 23 (.bool (x21 != 0)) ?_
  refine KT.nil ?_
  refine SX.seq ?_
  refine SC.cond (b := x21 != 0) rfl ?_ ?_
  refine SC.seq ?_
  refine SC.region' ?_
  refine KT.pv 24 (.int .i64 x21) ?_
  refine KT.s ?_
  refine KT.s ?_
  refine KT.s ?_
  refine KT.nil ?_
  refine SX.seq ?_
  refine SC.ret ?_
  refine SX.then_ret ?_
  refine SX.ret [.cell 4 3, .cell 5 4, .cell 6 28] rfl ?_
  refine RS.cell rfl (by kernel_rfl) (fun r4 => ?_)
  refine RS.cell rfl (by kernel_rfl) (fun r5 => ?_)
  refine RS.cell rfl (by kernel_rfl) (fun r6 => ?_)
  exact RS.nil rfl
  refine SC.skip ?_
  refine SX.seq ?_
  refine SC.seq ?_
  refine SC.region' ?_
  refine KT.l 25 (fun x25 => ?_)
  refine KT.cl vS 26 33 #[(.pointer x25)] (bank_Bank_Bad_sim x25) (fun x26 => ?_)
  refine KT.nw 8 (fun ad => .pointer (some ad)) 33 (fun x8 => ?_)
  refine KT.s ?_
  refine KT.nil ?_
  refine SX.seq ?_
  refine SC.seq ?_
  refine SC.seq ?_
  refine SC.region' ?_
  refine KT.l 27 (fun x27 => ?_)
  refine KT.pv 28 (.int .i64 ((x27.len : Nat) : Int)) ?_
  refine KT.pv 29 (.bool (decide (((x27.len : Nat) : Int) > 1))) ?_
  refine KT.nil ?_
  refine SX.seq ?_
  refine SC.cond (b := decide (((x27.len : Nat) : Int) > 1)) rfl ?_ ?_
  refine SC.seq ?_
  refine SC.region' ?_
  refine KT.s ?_
  refine KT.s ?_
  refine KT.s ?_
  refine KT.nil ?_
  refine SX.seq ?_
  refine SC.ret ?_
  refine SX.then_ret ?_
  refine SX.ret [.cell 4 3, .cell 5 4, .cell 6 28] rfl ?_
  refine RS.cell rfl (by kernel_rfl) (fun r4 => ?_)
  refine RS.cell rfl (by kernel_rfl) (fun r5 => ?_)
  refine RS.cell rfl (by kernel_rfl) (fun r6 => ?_)
  exact RS.nil rfl
  refine SC.skip ?_
  refine SX.seq ?_
  refine SC.seq ?_
  refine SC.region' ?_
  refine KT.nw 9 (fun ad => .pointer (some ad)) 3 (fun x9 => ?_)
  refine KT.s ?_
  refine KT.nil ?_
  refine SX.seq ?_
  refine SC.seq ?_
  refine SC.seq ?_
  refine SC.region' ?_
  refine KT.l 30 (fun x30 => ?_)
  refine KT.cl (fun y : (Int × Int × Int) => (.agg #[(.int .i64 y.1), (.int .i64 y.2.1), (.int .i64 y.2.2)])) 31 63 #[(.pointer x30)] (bank_Bank_Geo_sim x30) (fun x31 => ?_)
  refine KT.pv 32 (.int .i64 p1_seg) ?_
  refine KT.cl (fun v : Value => v) 33 78 #[(.agg #[(.int .i64 x31.1), (.int .i64 x31.2.1), (.int .i64 x31.2.2)]), (.int .i64 p1_seg)] (stripe_rows_sim (x31.1, x31.2.1, x31.2.2) p1_seg) (fun x33 => ?_)
  refine KT.nil ?_
  refine SX.seq ?_
  refine SC.block ?_
  refine SC.rangeF (ξ := (Int × Slc)) (τ := (Slc)) (fv := x33) (ps := [34, 35]) (encX := (fun x_1 : (Int × Slc) => [(.int .i64 x_1.1), (.slice x_1.2.base x_1.2.len x_1.2.cap)])) (fun t_1 => [(2, (.pointer (some x2))), (4, (.pointer (some x4))), (5, (.pointer (some x5))), (6, (.pointer (some x6))), (8, (.pointer (some x8))), (9, (.pointer (some x9))), (11, (.slice t_1.base t_1.len t_1.cap))]) rfl (fun _ => rfl) rfl (fun _ x_1 _ _ h1 => ?_) (fun _ _ _ t_1 => ?_) (fun D1 => ?_) (fun D1 => ?_) (fun D1 i1 => ?_)
  refine SC.region' ?_
  refine KT.pv 11 (.slice x_1.2.base x_1.2.len x_1.2.cap) ?_
  refine KT.nil ?_
  exact SX.leafP h1 (.cons rfl (.cons rfl (.cons rfl (.cons rfl (.cons rfl (.cons rfl (.cons rfl (.nil))))))))
  refine SC.block ?_
  refine SC.seq ?_
  refine SC.region' ?_
  refine KT.pv 36 (.slice t_1.base t_1.len t_1.cap) ?_
  refine KT.pv 37 (.int .i64 ((t_1.len : Nat) : Int)) ?_
  refine KT.pv 38 (.int .i64 0) ?_
  refine KT.nil ?_
  refine SX.seq ?_
  refine SC.block ?_
  refine SC.loop (σ := (Int)) (fun s2 => [(2, (.pointer (some x2))), (4, (.pointer (some x4))), (5, (.pointer (some x5))), (6, (.pointer (some x6))), (8, (.pointer (some x8))), (9, (.pointer (some x9))), (36, (.slice t_1.base t_1.len t_1.cap)), (37, (.int .i64 ((t_1.len : Nat) : Int))), (38, (.int .i64 s2))]) (.cons rfl (.cons rfl (.cons rfl (.cons rfl (.cons rfl (.cons rfl (.cons rfl (.cons rfl (.cons rfl (.nil)))))))))) (fun _ _ _ s2 => ?_)
  refine SC.seq ?_
  refine SC.region' ?_
  refine KT.pv 39 (.bool (decide (s2 < ((t_1.len : Nat) : Int)))) ?_
  refine KT.nil ?_
  refine SX.seq ?_
  refine SC.seq ?_
  refine SC.cond (b := decide (s2 < ((t_1.len : Nat) : Int))) rfl ?_ ?_
  refine SC.skip ?_
  refine SX.seq ?_
  refine SC.seq ?_
  refine SC.block ?_
  refine SC.seq ?_
  refine SC.region' ?_
  refine KT.oy rfl (OY.idx (d := 40) (s := t_1) (i := s2) (size := 2) (elem := 140) _ _ _ rfl rfl rfl (by kernel_rfl) (by kernel_rfl) rfl rfl (fun x40 => ?_))
  refine KT.ow rfl (OW.ldA (d := 41) (enc := (fun y : (Int × Int) => [(.int .i64 y.1), (.int .i64 y.2)])) 2 _ _ rfl rfl (by kernel_rfl) (by kernel_rfl) (fun _ => rfl) rfl rfl (fun x41 => ?_))
  refine KT.nw 13 (fun ad => .pointer (some ad)) 140 (fun x13 => ?_)
  refine KT.ow rfl (OW.stA _ _ _ rfl rfl rfl rfl rfl (by kernel_rfl) ?_)
  refine KT.nil ?_
  refine SX.seq ?_
  refine SC.seq ?_
  refine SC.seq ?_
  refine SC.region' ?_
  refine KT.l 42 (fun x42 => ?_)
  refine KT.pv 43 (.pointer (some x13)) ?_
  refine KT.l 44 (fun x44 => ?_)
  refine KT.cl Value.bool 45 81 #[(.slice x42.base x42.len x42.cap), (.int .i64 x44)] (slices_Contains_i_sim x42 x44) (fun x45 => ?_)
  refine KT.nil ?_
  refine SX.seq ?_
  refine SC.cond (b := x45) rfl ?_ ?_
  refine SC.exit ?_
  refine SX.then_exit ?_
  refine SX.block_hit ?_
  refine SX.seq ?_
  refine SC.region' ?_
  refine KT.pv 80 (.int .i64 (w64 (s2 + 1))) ?_
  refine KT.pv 38 (.int .i64 (w64 (s2 + 1))) ?_
  refine KT.nil ?_
  exact SX.loop_next (.cons rfl (.cons rfl (.cons rfl (.cons rfl (.cons rfl (.cons rfl (.cons rfl (.cons rfl (.cons rfl (.nil))))))))))
  refine SC.skip ?_
  refine SX.seq ?_
  refine SC.seq ?_
  refine SC.region' ?_
  refine KT.l 47 (fun x47 => ?_)
  refine KT.pv 48 (.pointer (some x13)) ?_
  refine KT.l 49 (fun x49 => ?_)
  refine KT.pv 50 (.pointer (some (Addr.add x13 1))) ?_
  refine KT.l 51 (fun x51 => ?_)
  refine KT.cl (fun y : (Slc × Int) => (.tuple #[(.slice y.1.base y.1.len y.1.cap), (.int .i64 y.2)])) 52 36 #[(.pointer x47), (.int .i64 x49), (.int .i64 x51)] (bank_Bank_Read_sim x47 x49 x51) (fun x52 => ?_)
  refine KT.pv 46 (.tuple #[(.slice x52.1.base x52.1.len x52.1.cap), (.int .i64 x52.2)]) ?_
  refine KT.pv 53 (.slice x52.1.base x52.1.len x52.1.cap) ?_
  refine KT.pv 54 (.int .i64 x52.2) ?_
  refine KT.pv 14 (.slice x52.1.base x52.1.len x52.1.cap) ?_
  refine KT.pv 15 (.int .i64 x52.2) ?_
  refine KT.nil ?_
  refine SX.seq ?_
  refine SC.seq ?_
  refine SC.region' ?_
  refine KT.pv 56 (.slice x52.1.base x52.1.len x52.1.cap) ?_
  refine KT.cl (fun y : ((Int × Int × Int) × Slc × Bool) => (.tuple #[(.agg #[(.int .i64 y.1.1), (.int .i64 y.1.2.1), (.int .i64 y.1.2.2)]), (.slice y.2.1.base y.2.1.len y.2.1.cap), (.bool y.2.2)])) 57 82 #[(.slice x52.1.base x52.1.len x52.1.cap)] (sector_Decode_sim x52.1) (fun x57 => ?_)
  refine KT.pv 55 (.tuple #[(.agg #[(.int .i64 x57.1.1), (.int .i64 x57.1.2.1), (.int .i64 x57.1.2.2)]), (.slice x57.2.1.base x57.2.1.len x57.2.1.cap), (.bool x57.2.2)]) ?_
  refine KT.pv 58 (.agg #[(.int .i64 x57.1.1), (.int .i64 x57.1.2.1), (.int .i64 x57.1.2.2)]) ?_
  refine KT.pv 59 (.slice x57.2.1.base x57.2.1.len x57.2.1.cap) ?_
  refine KT.pv 60 (.bool x57.2.2) ?_
  refine KT.nw 16 (fun ad => .pointer (some ad)) 144 (fun x16 => ?_)
  refine KT.ow rfl (OW.stA _ _ _ rfl rfl rfl rfl rfl (by kernel_rfl) ?_)
  refine KT.pv 17 (.slice x57.2.1.base x57.2.1.len x57.2.1.cap) ?_
  refine KT.pv 18 (.bool x57.2.2) ?_
  refine KT.nil ?_
  refine SX.sub (T' := [(2, (.pointer (some x2))), (4, (.pointer (some x4))), (5, (.pointer (some x5))), (6, (.pointer (some x6))), (8, (.pointer (some x8))), (9, (.pointer (some x9))), (15, (.int .i64 x52.2)), (16, (.pointer (some x16))), (36, (.slice t_1.base t_1.len t_1.cap)), (37, (.int .i64 ((t_1.len : Nat) : Int))), (38, (.int .i64 s2))]) (.cons rfl (.cons rfl (.cons rfl (.cons rfl (.cons rfl (.cons rfl (.cons rfl (.cons rfl (.cons rfl (.cons rfl (.cons rfl (.nil)))))))))))) ?_
  refine SX.seq ?_
  refine SC.seq ?_
  refine SC.seq ?_
  refine SC.region' ?_
  refine KT.pv 61 (.int .i64 x52.2) ?_
  refine KT.pv 62 (.bool (x52.2 != 0)) ?_
  refine KT.pv 63 (.bool (x52.2 != 0)) ?_
  refine KT.joinO (β := Bool) 4 (fun r3 => [(67, (.bool r3)), (2, (.pointer (some x2))), (4, (.pointer (some x4))), (5, (.pointer (some x5))), (6, (.pointer (some x6))), (8, (.pointer (some x8))), (9, (.pointer (some x9))), (16, (.pointer (some x16))), (36, (.slice t_1.base t_1.len t_1.cap)), (37, (.int .i64 ((t_1.len : Nat) : Int))), (38, (.int .i64 s2))]) (fun r3 => ?_) (fun j3 => ?_)
  refine KT.pv 68 (.bool r3) ?_
  refine KT.joinO (β := Bool) 9 (fun r4 => [(77, (.bool r4)), (2, (.pointer (some x2))), (4, (.pointer (some x4))), (5, (.pointer (some x5))), (6, (.pointer (some x6))), (8, (.pointer (some x8))), (9, (.pointer (some x9))), (16, (.pointer (some x16))), (36, (.slice t_1.base t_1.len t_1.cap)), (37, (.int .i64 ((t_1.len : Nat) : Int))), (38, (.int .i64 s2))]) (fun r4 => ?_) (fun j4 => ?_)
  refine KT.nil ?_
  refine SX.seq ?_
  refine SC.cond (b := r4) rfl ?_ ?_
  refine SC.seq ?_
  refine SC.region' ?_
  refine KT.s ?_
  refine KT.s ?_
  refine KT.s ?_
  refine KT.nil ?_
  refine SX.seq ?_
  refine SC.ret ?_
  refine SX.then_ret ?_
  refine SX.block_ret ?_
  refine SX.then_ret ?_
  refine SX.loop_ret ?_
  refine SX.block_ret ?_
  refine SX.block_ret ?_
  exact SX.round_ret
  refine SC.skip ?_
  refine SX.seq ?_
  refine SC.region' ?_
  refine KT.pv 78 (.pointer (some x16)) ?_
  refine KT.l 79 (fun x79 => ?_)
  refine KT.s ?_
  refine KT.nil ?_
  refine SX.block ?_
  refine SX.seq ?_
  refine SC.region' ?_
  refine KT.pv 80 (.int .i64 (w64 (s2 + 1))) ?_
  refine KT.pv 38 (.int .i64 (w64 (s2 + 1))) ?_
  refine KT.nil ?_
  exact SX.loop_next (.cons rfl (.cons rfl (.cons rfl (.cons rfl (.cons rfl (.cons rfl (.cons rfl (.cons rfl (.cons rfl (.nil))))))))))
  refine KT.ite (b := r3) 68 rfl ?_ ?_
  refine KT.sk ?_
  refine KT.sk ?_
  refine KT.sk ?_
  refine KT.sk ?_
  refine KT.sk ?_
  refine KT.sk ?_
  refine KT.sk ?_
  refine KT.sk ?_
  refine KT.pv 77 (.bool true) ?_
  exact KT.leafO j4 (.cons rfl (.cons rfl (.cons rfl (.cons rfl (.cons rfl (.cons rfl (.cons rfl (.cons rfl (.cons rfl (.cons rfl (.cons rfl (.nil))))))))))))
  refine KT.l 69 (fun x69 => ?_)
  refine KT.pv 70 (.bool (x69 != 0)) ?_
  refine KT.pv 71 (.bool (x69 != 0)) ?_
  refine KT.joinO (β := Bool) 5 (fun r5 => [(76, (.bool r5)), (2, (.pointer (some x2))), (4, (.pointer (some x4))), (5, (.pointer (some x5))), (6, (.pointer (some x6))), (8, (.pointer (some x8))), (9, (.pointer (some x9))), (16, (.pointer (some x16))), (36, (.slice t_1.base t_1.len t_1.cap)), (37, (.int .i64 ((t_1.len : Nat) : Int))), (38, (.int .i64 s2)), (68, (.bool false))]) (fun r5 => ?_) (fun j5 => ?_)
  refine KT.pv 77 (.bool r5) ?_
  exact KT.leafO j4 (.cons rfl (.cons rfl (.cons rfl (.cons rfl (.cons rfl (.cons rfl (.cons rfl (.cons rfl (.cons rfl (.cons rfl (.cons rfl (.nil))))))))))))
  refine KT.ite (b := x69 != 0) 71 rfl ?_ ?_
  refine KT.pv 72 (.pointer (some x16)) ?_
  refine KT.l 73 (fun x73 => ?_)
  refine KT.l 74 (fun x74 => ?_)
  refine KT.pv 75 (.bool (x73 != x74)) ?_
  refine KT.pv 76 (.bool (x73 != x74)) ?_
  exact KT.leafO j5 (.cons rfl (.cons rfl (.cons rfl (.cons rfl (.cons rfl (.cons rfl (.cons rfl (.cons rfl (.cons rfl (.cons rfl (.cons rfl (.cons rfl (.nil)))))))))))))
  refine KT.sk ?_
  refine KT.sk ?_
  refine KT.sk ?_
  refine KT.sk ?_
  refine KT.pv 76 (.bool false) ?_
  exact KT.leafO j5 (.cons rfl (.cons rfl (.cons rfl (.cons rfl (.cons rfl (.cons rfl (.cons rfl (.cons rfl (.cons rfl (.cons rfl (.cons rfl (.cons rfl (.nil)))))))))))))
  refine KT.ite (b := x52.2 != 0) 63 rfl ?_ ?_
  refine KT.sk ?_
  refine KT.sk ?_
  refine KT.sk ?_
  refine KT.pv 67 (.bool true) ?_
  exact KT.leafO j3 (.cons rfl (.cons rfl (.cons rfl (.cons rfl (.cons rfl (.cons rfl (.cons rfl (.cons rfl (.cons rfl (.cons rfl (.cons rfl (.nil))))))))))))
  refine KT.pv 64 (.pointer (some x16)) ?_
  refine KT.l 65 (fun x65 => ?_)
  refine KT.pv 66 (.bool (x65 == 0)) ?_
  refine KT.pv 67 (.bool (x65 == 0)) ?_
  exact KT.leafO j3 (.cons rfl (.cons rfl (.cons rfl (.cons rfl (.cons rfl (.cons rfl (.cons rfl (.cons rfl (.cons rfl (.cons rfl (.cons rfl (.nil))))))))))))
  refine SC.exit ?_
  refine SX.then_exit ?_
  refine SX.loop_exit ?_
  refine SX.block_hit ?_
  refine SX.block ?_
  exact SX.round_next
  refine SX.block ?_
  refine SX.seq ?_
  refine SC.seq ?_
  refine SC.region' ?_
  refine KT.l 81 (fun x81 => ?_)
  refine KT.s ?_
  refine KT.s ?_
  refine KT.s ?_
  refine KT.nil ?_
  refine SX.seq ?_
  refine SC.ret ?_
  refine SX.ret [.cell 4 3, .cell 5 4, .cell 6 28] rfl ?_
  refine RS.cell rfl (by kernel_rfl) (fun r4 => ?_)
  refine RS.cell rfl (by kernel_rfl) (fun r5 => ?_)
  refine RS.cell rfl (by kernel_rfl) (fun r6 => ?_)
  exact RS.nil rfl
  refine SX.block_ret ?_
  refine SX.then_ret ?_
  refine SX.ret [.cell 4 3, .cell 5 4, .cell 6 28] rfl ?_
  refine RS.cell rfl (by kernel_rfl) (fun r4 => ?_)
  refine RS.cell rfl (by kernel_rfl) (fun r5 => ?_)
  refine RS.cell rfl (by kernel_rfl) (fun r6 => ?_)
  exact RS.nil rfl
  exact SX.fail
set_option maxRecDepth 100000 in
theorem stripe_good_sim (p0_b : (Option Addr)) (p1_s : (Int × Int)) (p2_seq : Int) (Qf : (Slc × Bool) → World → Prop) (w : World) (hm : stripe_good p0_b p1_s p2_seq Qf w) : Calls Try.prog 85 #[(.pointer p0_b), (.agg #[(.int .i64 p1_s.1), (.int .i64 p1_s.2)]), (.int .i64 p2_seq)] w (RetPost (fun y : (Slc × Bool) => (.tuple #[(.slice y.1.base y.1.len y.1.cap), (.bool y.2)])) Qf) := by
  refine calls_of (fn := Try.f85) (l := [(.pointer p0_b), (.agg #[(.int .i64 p1_s.1), (.int .i64 p1_s.2)]), (.int .i64 p2_seq)]) (m := stripe_good p0_b p1_s p2_seq) 35 (by kernel_rfl) rfl rfl rfl (fun Qf0 => ?_) Qf w hm
  clear hm w Qf
  unfold stripe_good
  refine SC.seq ?_
  refine SC.region' ?_
  refine KT.nw 4 (fun ad => .pointer (some ad)) 140 (fun x4 => ?_)
  refine KT.pv 6 (.slice none 0 0) ?_
  refine KT.pv 7 (.bool false) ?_
  refine KT.nil ?_
  refine SX.seq ?_
  refine SC.seq ?_
  refine SC.region' ?_
  refine KT.pv 14 (.pointer p0_b) ?_
  refine KT.pv 15 (.pointer (some x4)) ?_
  refine KT.l 16 (fun x16 => ?_)
  refine KT.pv 17 (.pointer (some (Addr.add x4 1))) ?_
  refine KT.l 18 (fun x18 => ?_)
  refine KT.cl (fun y : (Slc × Int) => (.tuple #[(.slice y.1.base y.1.len y.1.cap), (.int .i64 y.2)])) 19 36 #[(.pointer p0_b), (.int .i64 x16), (.int .i64 x18)] (bank_Bank_Read_sim p0_b x16 x18) (fun x19 => ?_)
  refine KT.pv 13 (.tuple #[(.slice x19.1.base x19.1.len x19.1.cap), (.int .i64 x19.2)]) ?_
  refine KT.pv 20 (.slice x19.1.base x19.1.len x19.1.cap) ?_
  refine KT.pv 21 (.int .i64 x19.2) ?_
  refine KT.pv 8 (.slice x19.1.base x19.1.len x19.1.cap) ?_
  refine KT.pv 9 (.int .i64 x19.2) ?_
  refine KT.nil ?_
  refine SX.seq ?_
  refine SC.seq ?_
  refine SC.seq ?_
  refine SC.region' ?_
  refine KT.pv 22 (.int .i64 x19.2) ?_
  refine KT.pv 23 (.bool (x19.2 != 0)) ?_
  refine KT.nil ?_
  refine SX.seq ?_
  refine SC.cond (b := x19.2 != 0) rfl ?_ ?_
  refine SC.seq ?_
  refine SC.region' ?_
  refine KT.pv 6 (.slice none 0 0) ?_
  refine KT.pv 7 (.bool false) ?_
  refine KT.nil ?_
  refine SX.seq ?_
  refine SC.ret ?_
  refine SX.then_ret ?_
  refine SX.ret [.tmp 6, .tmp 7] rfl ?_
  refine RS.tmp (.slice none 0 0) rfl ?_
  refine RS.tmp (.bool false) rfl ?_
  exact RS.nil rfl
  refine SC.skip ?_
  refine SX.seq ?_
  refine SC.seq ?_
  refine SC.region' ?_
  refine KT.pv 25 (.slice x19.1.base x19.1.len x19.1.cap) ?_
  refine KT.cl (fun y : ((Int × Int × Int) × Slc × Bool) => (.tuple #[(.agg #[(.int .i64 y.1.1), (.int .i64 y.1.2.1), (.int .i64 y.1.2.2)]), (.slice y.2.1.base y.2.1.len y.2.1.cap), (.bool y.2.2)])) 26 82 #[(.slice x19.1.base x19.1.len x19.1.cap)] (sector_Decode_sim x19.1) (fun x26 => ?_)
  refine KT.pv 24 (.tuple #[(.agg #[(.int .i64 x26.1.1), (.int .i64 x26.1.2.1), (.int .i64 x26.1.2.2)]), (.slice x26.2.1.base x26.2.1.len x26.2.1.cap), (.bool x26.2.2)]) ?_
  refine KT.pv 27 (.agg #[(.int .i64 x26.1.1), (.int .i64 x26.1.2.1), (.int .i64 x26.1.2.2)]) ?_
  refine KT.pv 28 (.slice x26.2.1.base x26.2.1.len x26.2.1.cap) ?_
  refine KT.pv 29 (.bool x26.2.2) ?_
  refine KT.nw 10 (fun ad => .pointer (some ad)) 144 (fun x10 => ?_)
  refine KT.ow rfl (OW.stA _ _ _ rfl rfl rfl rfl rfl (by kernel_rfl) ?_)
  refine KT.pv 11 (.slice x26.2.1.base x26.2.1.len x26.2.1.cap) ?_
  refine KT.pv 12 (.bool x26.2.2) ?_
  refine KT.nil ?_
  refine SX.seq ?_
  refine SC.seq ?_
  refine SC.draw 7 (fun _ => false) rfl (by kernel_rfl) (fun S1 => ?_)
  refine KT.pvA 0 30 (.slice x19.1.base x19.1.len x19.1.cap) ?_
  refine KT.pvA 1 31 (.pointer (some x10)) ?_
  refine KT.tk 2 (OY.ldI (d := 32) _ _ rfl rfl (by kernel_rfl) rfl rfl (fun x32 => ?_))
  refine KT.pvA 3 33 (.int .i64 p2_seq) ?_
  refine KT.pvA 4 34 (.bool (x32 == p2_seq)) ?_
  refine KT.pvA 5 6 (.slice x19.1.base x19.1.len x19.1.cap) ?_
  refine KT.pvA 6 7 (.bool (x32 == p2_seq)) ?_
  refine KT.doneA (by kernel_rfl) ?_
  refine SX.sub (T' := [(6, (.slice x19.1.base x19.1.len x19.1.cap)), (7, (.bool (x32 == p2_seq)))]) (.cons rfl (.cons rfl (.nil))) ?_
  refine SX.seq ?_
  refine SC.ret ?_
  refine SX.ret [.tmp 6, .tmp 7] rfl ?_
  refine RS.tmp (.slice x19.1.base x19.1.len x19.1.cap) rfl ?_
  refine RS.tmp (.bool (x32 == p2_seq)) rfl ?_
  exact RS.nil rfl
set_option maxRecDepth 100000 in
theorem sector_Restore_sim (p0_list : Slc) (Qf : (Slc × Bool) → World → Prop) (w : World) (hm : sector_Restore p0_list Qf w) : Calls Try.prog 126 #[(.slice p0_list.base p0_list.len p0_list.cap)] w (RetPost (fun y : (Slc × Bool) => (.tuple #[(.slice y.1.base y.1.len y.1.cap), (.bool y.2)])) Qf) := by
  refine calls_of (fn := Try.f126) (l := [(.slice p0_list.base p0_list.len p0_list.cap)]) (m := sector_Restore p0_list) 8 (by kernel_rfl) rfl rfl rfl (fun Qf0 => ?_) Qf w hm
  clear hm w Qf
  unfold sector_Restore
  refine SC.seq ?_
  refine SC.region' ?_
  refine KT.pv 2 (.slice none 0 0) ?_
  refine KT.pv 3 (.bool false) ?_
  refine KT.nil ?_
  refine SX.seq ?_
  refine SC.seq ?_
  refine SC.region' ?_
  refine KT.pv 4 (.slice p0_list.base p0_list.len p0_list.cap) ?_
  refine KT.cl (fun y : (Slc × Bool) => (.tuple #[(.slice y.1.base y.1.len y.1.cap), (.bool y.2)])) 5 79 #[(.slice p0_list.base p0_list.len p0_list.cap)] (sector_Parity_sim p0_list) (fun x5 => ?_)
  refine KT.pv 6 (.slice x5.1.base x5.1.len x5.1.cap) ?_
  refine KT.pv 7 (.bool x5.2) ?_
  refine KT.pv 2 (.slice x5.1.base x5.1.len x5.1.cap) ?_
  refine KT.pv 3 (.bool x5.2) ?_
  refine KT.nil ?_
  refine SX.seq ?_
  refine SC.ret ?_
  refine SX.ret [.tmp 2, .tmp 3] rfl ?_
  refine RS.tmp (.slice x5.1.base x5.1.len x5.1.cap) rfl ?_
  refine RS.tmp (.bool x5.2) rfl ?_
  exact RS.nil rfl
end Go.Proofs.Ytldmeimebebllaa
