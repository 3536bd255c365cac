/-
  A part of the proof: predicate transformers over the model, and a separation logic over them; what functions of the program do.
-/
import Derived.Test.YtldmeimebebllaaPart3
import Derived.Test.YtldmeimebebllaaProg
set_option linter.unusedSimpArgs false
namespace Go.Proofs.Ytldmeimebebllaa
open Go.Mo
set_option linter.unusedVariables false
set_option maxRecDepth 100000 in
theorem law07_alive_sim  (Qf : Bool → World → Prop) (w : World) (hm : law07_alive (cvOf Try.prog)  Qf w) : Calls Try.prog 45 #[] w (RetPost Value.bool Qf) := by
  refine calls_of (fn := Try.f45) (l := []) (m := law07_alive (cvOf Try.prog) ) 99 (by kernel_rfl) rfl rfl rfl (fun Qf0 => ?_) Qf w hm
  clear hm w Qf
  unfold law07_alive
  refine SC.seq ?_
  refine SC.region' ?_
  refine KT.pv 0 (.bool false) ?_
  refine KT.nil ?_
  refine SX.seq ?_
  refine SC.seq ?_
  refine SC.region' ?_
  refine KT.pv 11 (.agg #[(.int .i64 0), (.int .i64 0), (.int .i64 0)]) ?_
  refine KT.cl (fun y : ((Option Addr) × (Option Addr)) => (.tuple #[(.pointer y.1), (.pointer y.2)])) 12 47 #[(.agg #[(.int .i64 0), (.int .i64 0), (.int .i64 0)])] (law07_Open_sim (0, 0, 0)) (fun x12 => ?_)
  refine KT.pv 10 (.tuple #[(.pointer x12.1), (.pointer x12.2)]) ?_
  refine KT.pv 13 (.pointer x12.1) ?_
  refine KT.pv 14 (.pointer x12.2) ?_
  refine KT.pv 1 (.pointer x12.1) ?_
  refine KT.pv 2 (.pointer x12.2) ?_
  refine KT.nil ?_
  refine SX.seq ?_
  refine SC.seq ?_
  refine SC.seq ?_
  refine SC.region' ?_
  refine KT.pv 15 (.pointer x12.1) ?_
  refine KT.oy rfl (OY.eqlNil (d := 16) (p := x12.1) _ _ _ _ rfl rfl rfl (by kernel_rfl) rfl rfl ?_)
  refine KT.pv 17 (.bool ((x12.1).isNone)) ?_
  refine KT.joinO (β := Bool) 3 (fun r1 => [(20, (.bool r1)), (1, (.pointer x12.1)), (2, (.pointer x12.2))]) (fun r1 => ?_) (fun j1 => ?_)
  refine KT.pv 21 (.bool r1) ?_
  refine KT.joinO (β := Bool) 9 (fun r2 => [(30, (.bool r2)), (1, (.pointer x12.1)), (2, (.pointer x12.2))]) (fun r2 => ?_) (fun j2 => ?_)
  refine KT.nil ?_
  refine SX.seq ?_
  refine SC.cond (b := r2) rfl ?_ ?_
  refine SC.seq ?_
  refine SC.region' ?_
  refine KT.pv 0 (.bool false) ?_
  refine KT.nil ?_
  refine SX.seq ?_
  refine SC.ret ?_
  refine SX.then_ret ?_
  refine SX.ret [.tmp 0] rfl ?_
  refine RS.tmp (.bool false) rfl ?_
  exact RS.nil rfl
  refine SC.skip ?_
  refine SX.seq ?_
  refine SC.seq ?_
  refine SC.region' ?_
  refine KT.pv 31 (.pointer x12.2) ?_
  refine KT.cl (Value.int .i64) 32 34 #[(.pointer x12.2), (.int .i64 0), (.int .i64 0)] (device_Rack_Doom_sim x12.2 0 0) (fun x32 => ?_)
  refine KT.nil ?_
  refine SX.seq ?_
  refine SC.seq ?_
  refine SC.seq ?_
  refine SC.region' ?_
  refine KT.pv 33 (.pointer x12.1) ?_
  refine KT.cl (Value.int .i64) 34 35 #[(.pointer x12.1)] (bank_Bank_Flush_sim x12.1) (fun x34 => ?_)
  refine KT.pv 35 (.bool (x34 != 0)) ?_
  refine KT.nil ?_
  refine SX.seq ?_
  refine SC.cond (b := x34 != 0) rfl ?_ ?_
  refine SC.seq ?_
  refine SC.region' ?_
  refine KT.pv 0 (.bool false) ?_
  refine KT.nil ?_
  refine SX.seq ?_
  refine SC.ret ?_
  refine SX.then_ret ?_
  refine SX.ret [.tmp 0] rfl ?_
  refine RS.tmp (.bool false) rfl ?_
  exact RS.nil rfl
  refine SC.skip ?_
  refine SX.seq ?_
  refine SC.seq ?_
  refine SC.region' ?_
  refine KT.pv 37 (.pointer x12.1) ?_
  refine KT.cl (fun y : (Int × Bool × Int) => (.tuple #[(.int .i64 y.1), (.bool y.2.1), (.int .i64 y.2.2)])) 38 49 #[(.pointer x12.1), (.int .i64 2)] (stripe_Whole_sim x12.1 2) (fun x38 => ?_)
  refine KT.pv 36 (.tuple #[(.int .i64 x38.1), (.bool x38.2.1), (.int .i64 x38.2.2)]) ?_
  refine KT.pv 39 (.int .i64 x38.1) ?_
  refine KT.pv 40 (.bool x38.2.1) ?_
  refine KT.pv 41 (.int .i64 x38.2.2) ?_
  refine KT.pv 3 (.int .i64 x38.1) ?_
  refine KT.pv 4 (.bool x38.2.1) ?_
  refine KT.pv 5 (.int .i64 x38.2.2) ?_
  refine KT.nil ?_
  refine SX.seq ?_
  refine SC.seq ?_
  refine SC.region' ?_
  refine KT.pv 43 (.pointer x12.1) ?_
  refine KT.cl (fun y : ((Int × Int × Slc) × Int) => (.tuple #[(.agg #[(.int .i64 y.1.1), (.int .i64 y.1.2.1), (.slice y.1.2.2.base y.1.2.2.len y.1.2.2.cap)]), (.int .i64 y.2)])) 44 50 #[(.pointer x12.1), (.int .i64 2), (.int .i64 1), (.int .i64 7)] (stripe_Read_sim x12.1 2 1 7) (fun x44 => ?_)
  refine KT.pv 42 (.tuple #[(.agg #[(.int .i64 x44.1.1), (.int .i64 x44.1.2.1), (.slice x44.1.2.2.base x44.1.2.2.len x44.1.2.2.cap)]), (.int .i64 x44.2)]) ?_
  refine KT.pv 45 (.agg #[(.int .i64 x44.1.1), (.int .i64 x44.1.2.1), (.slice x44.1.2.2.base x44.1.2.2.len x44.1.2.2.cap)]) ?_
  refine KT.pv 46 (.int .i64 x44.2) ?_
  refine KT.nw 6 (fun ad => .pointer (some ad)) 78 (fun x6 => ?_)
  refine KT.ow rfl (OW.stA _ _ _ rfl rfl rfl rfl rfl (by kernel_rfl) ?_)
  refine KT.pv 7 (.int .i64 x44.2) ?_
  refine KT.nil ?_
  refine SX.seq ?_
  refine SC.seq ?_
  refine SC.region' ?_
  refine KT.pv 48 (.pointer x12.1) ?_
  refine KT.cl (fun y : ((Int × Int × Slc) × Int) => (.tuple #[(.agg #[(.int .i64 y.1.1), (.int .i64 y.1.2.1), (.slice y.1.2.2.base y.1.2.2.len y.1.2.2.cap)]), (.int .i64 y.2)])) 49 50 #[(.pointer x12.1), (.int .i64 2), (.int .i64 0), (.int .i64 7)] (stripe_Read_sim x12.1 2 0 7) (fun x49 => ?_)
  refine KT.pv 47 (.tuple #[(.agg #[(.int .i64 x49.1.1), (.int .i64 x49.1.2.1), (.slice x49.1.2.2.base x49.1.2.2.len x49.1.2.2.cap)]), (.int .i64 x49.2)]) ?_
  refine KT.pv 50 (.agg #[(.int .i64 x49.1.1), (.int .i64 x49.1.2.1), (.slice x49.1.2.2.base x49.1.2.2.len x49.1.2.2.cap)]) ?_
  refine KT.pv 51 (.int .i64 x49.2) ?_
  refine KT.nw 8 (fun ad => .pointer (some ad)) 78 (fun x8 => ?_)
  refine KT.ow rfl (OW.stA _ _ _ rfl rfl rfl rfl rfl (by kernel_rfl) ?_)
  refine KT.pv 9 (.int .i64 x49.2) ?_
  refine KT.nil ?_
  refine SX.sub (T' := [(3, (.int .i64 x38.1)), (4, (.bool x38.2.1)), (5, (.int .i64 x38.2.2)), (6, (.pointer (some x6))), (7, (.int .i64 x44.2)), (8, (.pointer (some x8))), (9, (.int .i64 x49.2))]) (.cons rfl (.cons rfl (.cons rfl (.cons rfl (.cons rfl (.cons rfl (.cons rfl (.nil)))))))) ?_
  refine SX.seq ?_
  refine SC.seq ?_
  refine SC.region' ?_
  refine KT.pv 52 (.int .i64 x38.1) ?_
  refine KT.pv 53 (.bool (x38.1 == 7)) ?_
  refine KT.pv 54 (.bool (x38.1 == 7)) ?_
  refine KT.joinO (β := Bool) 2 (fun r3 => [(56, (.bool r3)), (5, (.int .i64 x38.2.2)), (6, (.pointer (some x6))), (7, (.int .i64 x44.2)), (8, (.pointer (some x8))), (9, (.int .i64 x49.2))]) (fun r3 => ?_) (fun j3 => ?_)
  refine KT.pv 57 (.bool r3) ?_
  refine KT.joinO (β := Bool) 3 (fun r4 => [(60, (.bool r4)), (6, (.pointer (some x6))), (7, (.int .i64 x44.2)), (8, (.pointer (some x8))), (9, (.int .i64 x49.2))]) (fun r4 => ?_) (fun j4 => ?_)
  refine KT.pv 61 (.bool r4) ?_
  refine KT.joinO (β := Bool) 3 (fun r5 => [(64, (.bool r5)), (6, (.pointer (some x6))), (8, (.pointer (some x8))), (9, (.int .i64 x49.2))]) (fun r5 => ?_) (fun j5 => ?_)
  refine KT.pv 65 (.bool r5) ?_
  refine KT.joinO (β := Bool) 3 (fun r6 => [(68, (.bool r6)), (6, (.pointer (some x6))), (8, (.pointer (some x8)))]) (fun r6 => ?_) (fun j6 => ?_)
  refine KT.pv 69 (.bool r6) ?_
  refine KT.joinO (β := Bool) 4 (fun r7 => [(73, (.bool r7)), (6, (.pointer (some x6))), (8, (.pointer (some x8)))]) (fun r7 => ?_) (fun j7 => ?_)
  refine KT.pv 74 (.bool r7) ?_
  refine KT.joinO (β := Bool) 4 (fun r8 => [(78, (.bool r8)), (6, (.pointer (some x6))), (8, (.pointer (some x8)))]) (fun r8 => ?_) (fun j8 => ?_)
  refine KT.pv 79 (.bool r8) ?_
  refine KT.joinO (β := Bool) 5 (fun r9 => [(84, (.bool r9)), (6, (.pointer (some x6))), (8, (.pointer (some x8)))]) (fun r9 => ?_) (fun j9 => ?_)
  refine KT.pv 85 (.bool r9) ?_
  refine KT.joinO (β := Bool) 6 (fun r10 => [(91, (.bool r10)), (8, (.pointer (some x8)))]) (fun r10 => ?_) (fun j10 => ?_)
  refine KT.pv 92 (.bool r10) ?_
  refine KT.joinO (β := Bool) 6 (fun r11 => [(98, (.bool r11))]) (fun r11 => ?_) (fun j11 => ?_)
  refine KT.pv 0 (.bool r11) ?_
  refine KT.nil ?_
  refine SX.seq ?_
  refine SC.ret ?_
  refine SX.ret [.tmp 0] rfl ?_
  refine RS.tmp (.bool r11) rfl ?_
  exact RS.nil rfl
  refine KT.ite (b := r10) 92 rfl ?_ ?_
  refine KT.pv 93 (.pointer (some (Addr.add x8 2))) ?_
  refine KT.l 94 (fun x94 => ?_)
  refine KT.oy rfl (OY.idx (d := 95) (s := x94) (i := 0) (size := 1) (elem := 5) _ _ _ rfl rfl rfl (by kernel_rfl) (by kernel_rfl) rfl rfl (fun x95 => ?_))
  refine KT.l 96 (fun x96 => ?_)
  refine KT.pv 97 (.bool (x96 == 5)) ?_
  refine KT.pv 98 (.bool (x96 == 5)) ?_
  exact KT.leafO j11 (.cons rfl (.nil))
  refine KT.sk ?_
  refine KT.sk ?_
  refine KT.sk ?_
  refine KT.sk ?_
  refine KT.sk ?_
  refine KT.pv 98 (.bool false) ?_
  exact KT.leafO j11 (.cons rfl (.nil))
  refine KT.ite (b := r9) 85 rfl ?_ ?_
  refine KT.pv 86 (.pointer (some (Addr.add x6 2))) ?_
  refine KT.l 87 (fun x87 => ?_)
  refine KT.oy rfl (OY.idx (d := 88) (s := x87) (i := 0) (size := 1) (elem := 5) _ _ _ rfl rfl rfl (by kernel_rfl) (by kernel_rfl) rfl rfl (fun x88 => ?_))
  refine KT.l 89 (fun x89 => ?_)
  refine KT.pv 90 (.bool (x89 == 6)) ?_
  refine KT.pv 91 (.bool (x89 == 6)) ?_
  exact KT.leafO j10 (.cons rfl (.cons rfl (.nil)))
  refine KT.sk ?_
  refine KT.sk ?_
  refine KT.sk ?_
  refine KT.sk ?_
  refine KT.sk ?_
  refine KT.pv 91 (.bool false) ?_
  exact KT.leafO j10 (.cons rfl (.cons rfl (.nil)))
  refine KT.ite (b := r8) 79 rfl ?_ ?_
  refine KT.pv 80 (.pointer (some (Addr.add x6 2))) ?_
  refine KT.l 81 (fun x81 => ?_)
  refine KT.pv 82 (.int .i64 ((x81.len : Nat) : Int)) ?_
  refine KT.pv 83 (.bool (((x81.len : Nat) : Int) == 56)) ?_
  refine KT.pv 84 (.bool (((x81.len : Nat) : Int) == 56)) ?_
  exact KT.leafO j9 (.cons rfl (.cons rfl (.cons rfl (.nil))))
  refine KT.sk ?_
  refine KT.sk ?_
  refine KT.sk ?_
  refine KT.sk ?_
  refine KT.pv 84 (.bool false) ?_
  exact KT.leafO j9 (.cons rfl (.cons rfl (.cons rfl (.nil))))
  refine KT.ite (b := r7) 74 rfl ?_ ?_
  refine KT.pv 75 (.pointer (some (Addr.add x6 1))) ?_
  refine KT.l 76 (fun x76 => ?_)
  refine KT.pv 77 (.bool (x76 == 3)) ?_
  refine KT.pv 78 (.bool (x76 == 3)) ?_
  exact KT.leafO j8 (.cons rfl (.cons rfl (.cons rfl (.nil))))
  refine KT.sk ?_
  refine KT.sk ?_
  refine KT.sk ?_
  refine KT.pv 78 (.bool false) ?_
  exact KT.leafO j8 (.cons rfl (.cons rfl (.cons rfl (.nil))))
  refine KT.ite (b := r6) 69 rfl ?_ ?_
  refine KT.pv 70 (.pointer (some x6)) ?_
  refine KT.l 71 (fun x71 => ?_)
  refine KT.pv 72 (.bool (x71 == 2)) ?_
  refine KT.pv 73 (.bool (x71 == 2)) ?_
  exact KT.leafO j7 (.cons rfl (.cons rfl (.cons rfl (.nil))))
  refine KT.sk ?_
  refine KT.sk ?_
  refine KT.sk ?_
  refine KT.pv 73 (.bool false) ?_
  exact KT.leafO j7 (.cons rfl (.cons rfl (.cons rfl (.nil))))
  refine KT.ite (b := r5) 65 rfl ?_ ?_
  refine KT.pv 66 (.int .i64 x49.2) ?_
  refine KT.pv 67 (.bool (x49.2 == 0)) ?_
  refine KT.pv 68 (.bool (x49.2 == 0)) ?_
  exact KT.leafO j6 (.cons rfl (.cons rfl (.cons rfl (.nil))))
  refine KT.sk ?_
  refine KT.sk ?_
  refine KT.pv 68 (.bool false) ?_
  exact KT.leafO j6 (.cons rfl (.cons rfl (.cons rfl (.nil))))
  refine KT.ite (b := r4) 61 rfl ?_ ?_
  refine KT.pv 62 (.int .i64 x44.2) ?_
  refine KT.pv 63 (.bool (x44.2 == 0)) ?_
  refine KT.pv 64 (.bool (x44.2 == 0)) ?_
  exact KT.leafO j5 (.cons rfl (.cons rfl (.cons rfl (.cons rfl (.nil)))))
  refine KT.sk ?_
  refine KT.sk ?_
  refine KT.pv 64 (.bool false) ?_
  exact KT.leafO j5 (.cons rfl (.cons rfl (.cons rfl (.cons rfl (.nil)))))
  refine KT.ite (b := r3) 57 rfl ?_ ?_
  refine KT.pv 58 (.int .i64 x38.2.2) ?_
  refine KT.pv 59 (.bool (x38.2.2 == 0)) ?_
  refine KT.pv 60 (.bool (x38.2.2 == 0)) ?_
  exact KT.leafO j4 (.cons rfl (.cons rfl (.cons rfl (.cons rfl (.cons rfl (.nil))))))
  refine KT.sk ?_
  refine KT.sk ?_
  refine KT.pv 60 (.bool false) ?_
  exact KT.leafO j4 (.cons rfl (.cons rfl (.cons rfl (.cons rfl (.cons rfl (.nil))))))
  refine KT.ite (b := x38.1 == 7) 54 rfl ?_ ?_
  refine KT.pv 55 (.bool x38.2.1) ?_
  refine KT.pv 56 (.bool x38.2.1) ?_
  exact KT.leafO j3 (.cons rfl (.cons rfl (.cons rfl (.cons rfl (.cons rfl (.cons rfl (.nil)))))))
  refine KT.sk ?_
  refine KT.pv 56 (.bool false) ?_
  exact KT.leafO j3 (.cons rfl (.cons rfl (.cons rfl (.cons rfl (.cons rfl (.cons rfl (.nil)))))))
  refine KT.ite (b := r1) 21 rfl ?_ ?_
  refine KT.sk ?_
  refine KT.sk ?_
  refine KT.sk ?_
  refine KT.sk ?_
  refine KT.sk ?_
  refine KT.sk ?_
  refine KT.sk ?_
  refine KT.sk ?_
  refine KT.pv 30 (.bool true) ?_
  exact KT.leafO j2 (.cons rfl (.cons rfl (.cons rfl (.nil))))
  refine KT.pv 22 (.pointer x12.1) ?_
  refine KT.nw 23 (fun ad => .slice (some ad) 1 1) 5 (fun x23 => ?_)
  refine KT.pv 24 (.agg #[(.int .i64 1), (.int .i64 0), (.slice (some x23) 1 1)]) ?_
  refine KT.nw 25 (fun ad => .slice (some ad) 1 1) 5 (fun x25 => ?_)
  refine KT.pv 26 (.agg #[(.int .i64 2), (.int .i64 3), (.slice (some x25) 1 1)]) ?_
  refine KT.nw 27 (fun ad => .slice (some ad) 2 2) 78 (fun x27 => ?_)
  refine KT.cl (Value.int .i64) 28 48 #[(.pointer x12.1), (.int .i64 2), (.int .i64 7), (.slice (some x27) 2 2)] (stripe_Write_sim x12.1 2 7 (⟨some x27, 2, 2⟩)) (fun x28 => ?_)
  refine KT.pv 29 (.bool (x28 != 0)) ?_
  refine KT.pv 30 (.bool (x28 != 0)) ?_
  exact KT.leafO j2 (.cons rfl (.cons rfl (.cons rfl (.nil))))
  refine KT.ite (b := (x12.1).isNone) 17 rfl ?_ ?_
  refine KT.sk ?_
  refine KT.sk ?_
  refine KT.pv 20 (.bool true) ?_
  exact KT.leafO j1 (.cons rfl (.cons rfl (.cons rfl (.nil))))
  refine KT.pv 18 (.pointer x12.2) ?_
  refine KT.oy rfl (OY.eqlNil (d := 19) (p := x12.2) _ _ _ _ rfl rfl rfl (by kernel_rfl) rfl rfl ?_)
  refine KT.pv 20 (.bool ((x12.2).isNone)) ?_
  exact KT.leafO j1 (.cons rfl (.cons rfl (.cons rfl (.nil))))
set_option maxRecDepth 100000 in
theorem law07_fits_sim (p0_blocks : Slc) (p1_most : Int) (Qf : Bool → World → Prop) (w : World) (hm : law07_fits p0_blocks p1_most Qf w) : Calls Try.prog 46 #[(.slice p0_blocks.base p0_blocks.len p0_blocks.cap), (.int .i64 p1_most)] w (RetPost Value.bool Qf) := by
  refine calls_of (fn := Try.f46) (l := [(.slice p0_blocks.base p0_blocks.len p0_blocks.cap), (.int .i64 p1_most)]) (m := law07_fits p0_blocks p1_most) 45 (by kernel_rfl) rfl rfl rfl (fun Qf0 => ?_) Qf w hm
  clear hm w Qf
  unfold law07_fits
  refine SC.seq ?_
  refine SC.region' ?_
  refine KT.pv 4 (.bool false) ?_
  refine KT.nil ?_
  refine SX.seq ?_
  refine SC.seq ?_
  refine SC.seq ?_
  refine SC.region' ?_
  refine KT.pv 7 (.slice p0_blocks.base p0_blocks.len p0_blocks.cap) ?_
  refine KT.pv 8 (.int .i64 ((p0_blocks.len : Nat) : Int)) ?_
  refine KT.pv 9 (.int .i64 p1_most) ?_
  refine KT.pv 10 (.bool (decide (((p0_blocks.len : Nat) : Int) > p1_most))) ?_
  refine KT.nil ?_
  refine SX.seq ?_
  refine SC.cond (b := decide (((p0_blocks.len : Nat) : Int) > p1_most)) rfl ?_ ?_
  refine SC.seq ?_
  refine SC.region' ?_
  refine KT.pv 4 (.bool false) ?_
  refine KT.nil ?_
  refine SX.seq ?_
  refine SC.ret ?_
  refine SX.then_ret ?_
  refine SX.ret [.tmp 4] rfl ?_
  refine RS.tmp (.bool false) rfl ?_
  exact RS.nil rfl
  refine SC.skip ?_
  refine SX.seq ?_
  refine SC.seq ?_
  refine SC.seq ?_
  refine SC.region' ?_
  refine KT.pv 5 (.int .i64 0) ?_
  refine KT.nil ?_
  refine SX.seq ?_
  refine SC.block ?_
  refine SC.loop (σ := (Int)) (fun s1 => [(0, (.slice p0_blocks.base p0_blocks.len p0_blocks.cap)), (5, (.int .i64 s1))]) (.cons rfl (.cons rfl (.nil))) (fun _ _ _ s1 => ?_)
  refine SC.seq ?_
  refine SC.seq ?_
  refine SC.region' ?_
  refine KT.pv 11 (.int .i64 s1) ?_
  refine KT.pv 12 (.slice p0_blocks.base p0_blocks.len p0_blocks.cap) ?_
  refine KT.pv 13 (.int .i64 ((p0_blocks.len : Nat) : Int)) ?_
  refine KT.pv 14 (.bool (decide (s1 < ((p0_blocks.len : Nat) : Int)))) ?_
  refine KT.nil ?_
  refine SX.seq ?_
  refine SC.cond (b := decide (s1 < ((p0_blocks.len : Nat) : Int))) rfl ?_ ?_
  refine SC.skip ?_
  refine SX.seq ?_
  refine SC.seq ?_
  refine SC.block ?_
  refine SC.seq ?_
  refine SC.region' ?_
  refine KT.pv 17 (.slice p0_blocks.base p0_blocks.len p0_blocks.cap) ?_
  refine KT.pv 18 (.int .i64 s1) ?_
  refine KT.oy rfl (OY.idx (d := 19) (s := p0_blocks) (i := s1) (size := 3) (elem := 78) _ _ _ rfl rfl rfl (by kernel_rfl) (by kernel_rfl) rfl rfl (fun x19 => ?_))
  refine KT.ow rfl (OW.ldA (d := 20) (enc := (fun y : (Int × Int × Slc) => [(.int .i64 y.1), (.int .i64 y.2.1), (.slice y.2.2.base y.2.2.len y.2.2.cap)])) 3 _ _ rfl rfl (by kernel_rfl) (by kernel_rfl) (fun _ => rfl) rfl rfl (fun x20 => ?_))
  refine KT.nw 6 (fun ad => .pointer (some ad)) 78 (fun x6 => ?_)
  refine KT.ow rfl (OW.stA _ _ _ rfl rfl rfl rfl rfl (by kernel_rfl) ?_)
  refine KT.nil ?_
  refine SX.seq ?_
  refine SC.seq ?_
  refine SC.region' ?_
  refine KT.pv 21 (.pointer (some (Addr.add x6 2))) ?_
  refine KT.l 22 (fun x22 => ?_)
  refine KT.pv 23 (.int .i64 ((x22.len : Nat) : Int)) ?_
  refine KT.pv 24 (.bool (decide (((x22.len : Nat) : Int) > 56))) ?_
  refine KT.pv 25 (.bool (decide (((x22.len : Nat) : Int) > 56))) ?_
  refine KT.joinO (β := Bool) 4 (fun r2 => [(29, (.bool r2)), (0, (.slice p0_blocks.base p0_blocks.len p0_blocks.cap)), (5, (.int .i64 s1)), (6, (.pointer (some x6)))]) (fun r2 => ?_) (fun j2 => ?_)
  refine KT.pv 30 (.bool r2) ?_
  refine KT.joinO (β := Bool) 4 (fun r3 => [(34, (.bool r3)), (0, (.slice p0_blocks.base p0_blocks.len p0_blocks.cap)), (5, (.int .i64 s1)), (6, (.pointer (some x6)))]) (fun r3 => ?_) (fun j3 => ?_)
  refine KT.pv 35 (.bool r3) ?_
  refine KT.joinO (β := Bool) 4 (fun r4 => [(39, (.bool r4)), (0, (.slice p0_blocks.base p0_blocks.len p0_blocks.cap)), (5, (.int .i64 s1)), (6, (.pointer (some x6)))]) (fun r4 => ?_) (fun j4 => ?_)
  refine KT.pv 40 (.bool r4) ?_
  refine KT.joinO (β := Bool) 4 (fun r5 => [(44, (.bool r5)), (0, (.slice p0_blocks.base p0_blocks.len p0_blocks.cap)), (5, (.int .i64 s1))]) (fun r5 => ?_) (fun j5 => ?_)
  refine KT.nil ?_
  refine SX.seq ?_
  refine SC.cond (b := r5) rfl ?_ ?_
  refine SC.seq ?_
  refine SC.region' ?_
  refine KT.pv 4 (.bool false) ?_
  refine KT.nil ?_
  refine SX.seq ?_
  refine SC.ret ?_
  refine SX.block_ret ?_
  refine SX.then_ret ?_
  refine SX.loop_ret ?_
  refine SX.block_ret ?_
  refine SX.then_ret ?_
  refine SX.ret [.tmp 4] rfl ?_
  refine RS.tmp (.bool false) rfl ?_
  exact RS.nil rfl
  refine SC.skip ?_
  refine SX.block ?_
  refine SX.seq ?_
  refine SC.region' ?_
  refine KT.pv 15 (.int .i64 s1) ?_
  refine KT.pv 16 (.int .i64 (w64 (s1 + 1))) ?_
  refine KT.pv 5 (.int .i64 (w64 (s1 + 1))) ?_
  refine KT.nil ?_
  exact SX.loop_next (.cons rfl (.cons rfl (.nil)))
  refine KT.ite (b := r4) 40 rfl ?_ ?_
  refine KT.sk ?_
  refine KT.sk ?_
  refine KT.sk ?_
  refine KT.pv 44 (.bool true) ?_
  exact KT.leafO j5 (.cons rfl (.cons rfl (.cons rfl (.nil))))
  refine KT.pv 41 (.pointer (some (Addr.add x6 1))) ?_
  refine KT.l 42 (fun x42 => ?_)
  refine KT.pv 43 (.bool (decide (x42 > 65535))) ?_
  refine KT.pv 44 (.bool (decide (x42 > 65535))) ?_
  exact KT.leafO j5 (.cons rfl (.cons rfl (.cons rfl (.nil))))
  refine KT.ite (b := r3) 35 rfl ?_ ?_
  refine KT.sk ?_
  refine KT.sk ?_
  refine KT.sk ?_
  refine KT.pv 39 (.bool true) ?_
  exact KT.leafO j4 (.cons rfl (.cons rfl (.cons rfl (.cons rfl (.nil)))))
  refine KT.pv 36 (.pointer (some (Addr.add x6 1))) ?_
  refine KT.l 37 (fun x37 => ?_)
  refine KT.pv 38 (.bool (decide (x37 < 0))) ?_
  refine KT.pv 39 (.bool (decide (x37 < 0))) ?_
  exact KT.leafO j4 (.cons rfl (.cons rfl (.cons rfl (.cons rfl (.nil)))))
  refine KT.ite (b := r2) 30 rfl ?_ ?_
  refine KT.sk ?_
  refine KT.sk ?_
  refine KT.sk ?_
  refine KT.pv 34 (.bool true) ?_
  exact KT.leafO j3 (.cons rfl (.cons rfl (.cons rfl (.cons rfl (.nil)))))
  refine KT.pv 31 (.pointer (some x6)) ?_
  refine KT.l 32 (fun x32 => ?_)
  refine KT.pv 33 (.bool (decide (x32 > 65535))) ?_
  refine KT.pv 34 (.bool (decide (x32 > 65535))) ?_
  exact KT.leafO j3 (.cons rfl (.cons rfl (.cons rfl (.cons rfl (.nil)))))
  refine KT.ite (b := decide (((x22.len : Nat) : Int) > 56)) 25 rfl ?_ ?_
  refine KT.sk ?_
  refine KT.sk ?_
  refine KT.sk ?_
  refine KT.pv 29 (.bool true) ?_
  exact KT.leafO j2 (.cons rfl (.cons rfl (.cons rfl (.cons rfl (.nil)))))
  refine KT.pv 26 (.pointer (some x6)) ?_
  refine KT.l 27 (fun x27 => ?_)
  refine KT.pv 28 (.bool (decide (x27 < 0))) ?_
  refine KT.pv 29 (.bool (decide (x27 < 0))) ?_
  exact KT.leafO j2 (.cons rfl (.cons rfl (.cons rfl (.cons rfl (.nil)))))
  refine SC.exit ?_
  refine SX.then_exit ?_
  refine SX.loop_exit ?_
  refine SX.block_hit ?_
  refine SX.seq ?_
  refine SC.seq ?_
  refine SC.region' ?_
  refine KT.pv 4 (.bool true) ?_
  refine KT.nil ?_
  refine SX.seq ?_
  refine SC.ret ?_
  refine SX.ret [.tmp 4] rfl ?_
  refine RS.tmp (.bool true) rfl ?_
  exact RS.nil rfl
set_option maxRecDepth 100000 in
theorem ref00_SameBytes_sim (p0_a : Slc) (p1_b : Slc) (Qf : Bool → World → Prop) (w : World) (hm : ref00_SameBytes p0_a p1_b Qf w) : Calls Try.prog 30 #[(.slice p0_a.base p0_a.len p0_a.cap), (.slice p1_b.base p1_b.len p1_b.cap)] w (RetPost Value.bool Qf) := by
  refine calls_of (fn := Try.f30) (l := [(.slice p0_a.base p0_a.len p0_a.cap), (.slice p1_b.base p1_b.len p1_b.cap)]) (m := ref00_SameBytes p0_a p1_b) 26 (by kernel_rfl) rfl rfl rfl (fun Qf0 => ?_) Qf w hm
  clear hm w Qf
  unfold ref00_SameBytes
  refine SC.seq ?_
  refine SC.region' ?_
  refine KT.pv 4 (.bool false) ?_
  refine KT.nil ?_
  refine SX.seq ?_
  refine SC.seq ?_
  refine SC.seq ?_
  refine SC.region' ?_
  refine KT.pv 6 (.slice p0_a.base p0_a.len p0_a.cap) ?_
  refine KT.pv 7 (.int .i64 ((p0_a.len : Nat) : Int)) ?_
  refine KT.pv 8 (.slice p1_b.base p1_b.len p1_b.cap) ?_
  refine KT.pv 9 (.int .i64 ((p1_b.len : Nat) : Int)) ?_
  refine KT.pv 10 (.bool (((p0_a.len : Nat) : Int) != ((p1_b.len : Nat) : Int))) ?_
  refine KT.nil ?_
  refine SX.seq ?_
  refine SC.cond (b := ((p0_a.len : Nat) : Int) != ((p1_b.len : Nat) : Int)) rfl ?_ ?_
  refine SC.seq ?_
  refine SC.region' ?_
  refine KT.pv 4 (.bool false) ?_
  refine KT.nil ?_
  refine SX.seq ?_
  refine SC.ret ?_
  refine SX.then_ret ?_
  refine SX.ret [.tmp 4] rfl ?_
  refine RS.tmp (.bool false) rfl ?_
  exact RS.nil rfl
  refine SC.skip ?_
  refine SX.seq ?_
  refine SC.seq ?_
  refine SC.seq ?_
  refine SC.region' ?_
  refine KT.pv 5 (.int .i64 0) ?_
  refine KT.nil ?_
  refine SX.seq ?_
  refine SC.block ?_
  refine SC.loop (σ := (Int)) (fun s1 => [(0, (.slice p0_a.base p0_a.len p0_a.cap)), (1, (.slice p1_b.base p1_b.len p1_b.cap)), (5, (.int .i64 s1))]) (.cons rfl (.cons rfl (.cons rfl (.nil)))) (fun _ _ _ s1 => ?_)
  refine SC.seq ?_
  refine SC.seq ?_
  refine SC.region' ?_
  refine KT.pv 11 (.int .i64 s1) ?_
  refine KT.pv 12 (.slice p0_a.base p0_a.len p0_a.cap) ?_
  refine KT.pv 13 (.int .i64 ((p0_a.len : Nat) : Int)) ?_
  refine KT.pv 14 (.bool (decide (s1 < ((p0_a.len : Nat) : Int)))) ?_
  refine KT.nil ?_
  refine SX.seq ?_
  refine SC.cond (b := decide (s1 < ((p0_a.len : Nat) : Int))) rfl ?_ ?_
  refine SC.skip ?_
  refine SX.seq ?_
  refine SC.seq ?_
  refine SC.block ?_
  refine SC.seq ?_
  refine SC.draw 9 (fun _ => false) rfl (by kernel_rfl) (fun S2 => ?_)
  refine KT.pvA 0 17 (.slice p0_a.base p0_a.len p0_a.cap) ?_
  refine KT.pvA 1 18 (.int .i64 s1) ?_
  refine KT.tp 2 (OY.idx (d := 19) (s := p0_a) (i := s1) (size := 1) (elem := 5) _ _ _ rfl rfl rfl (by kernel_rfl) (by kernel_rfl) rfl rfl (fun x19 => ?_))
  refine KT.tk 3 (OY.ldI (d := 20) _ _ rfl rfl (by kernel_rfl) rfl rfl (fun x20 => ?_))
  refine KT.pvA 4 21 (.slice p1_b.base p1_b.len p1_b.cap) ?_
  refine KT.pvA 5 22 (.int .i64 s1) ?_
  refine KT.tp 6 (OY.idx (d := 23) (s := p1_b) (i := s1) (size := 1) (elem := 5) _ _ _ rfl rfl rfl (by kernel_rfl) (by kernel_rfl) rfl rfl (fun x23 => ?_))
  refine KT.tk 7 (OY.ldI (d := 24) _ _ rfl rfl (by kernel_rfl) rfl rfl (fun x24 => ?_))
  refine KT.pvA 8 25 (.bool (x20 != x24)) ?_
  refine KT.doneA (by kernel_rfl) ?_
  refine SX.seq ?_
  refine SC.cond (b := x20 != x24) rfl ?_ ?_
  refine SC.seq ?_
  refine SC.region' ?_
  refine KT.pv 4 (.bool false) ?_
  refine KT.nil ?_
  refine SX.seq ?_
  refine SC.ret ?_
  refine SX.block_ret ?_
  refine SX.then_ret ?_
  refine SX.loop_ret ?_
  refine SX.block_ret ?_
  refine SX.then_ret ?_
  refine SX.ret [.tmp 4] rfl ?_
  refine RS.tmp (.bool false) rfl ?_
  exact RS.nil rfl
  refine SC.skip ?_
  refine SX.block ?_
  refine SX.seq ?_
  refine SC.region' ?_
  refine KT.pv 15 (.int .i64 s1) ?_
  refine KT.pv 16 (.int .i64 (w64 (s1 + 1))) ?_
  refine KT.pv 5 (.int .i64 (w64 (s1 + 1))) ?_
  refine KT.nil ?_
  exact SX.loop_next (.cons rfl (.cons rfl (.cons rfl (.nil))))
  refine SC.exit ?_
  refine SX.then_exit ?_
  refine SX.loop_exit ?_
  refine SX.block_hit ?_
  refine SX.seq ?_
  refine SC.seq ?_
  refine SC.region' ?_
  refine KT.pv 4 (.bool true) ?_
  refine KT.nil ?_
  refine SX.seq ?_
  refine SC.ret ?_
  refine SX.ret [.tmp 4] rfl ?_
  refine RS.tmp (.bool true) rfl ?_
  exact RS.nil rfl
set_option maxRecDepth 100000 in
theorem law07_same_sim (p0_x : (Int × Int × Slc)) (p1_y : (Int × Int × Slc)) (Qf : Bool → World → Prop) (w : World) (hm : law07_same p0_x p1_y Qf w) : Calls Try.prog 51 #[(.agg #[(.int .i64 p0_x.1), (.int .i64 p0_x.2.1), (.slice p0_x.2.2.base p0_x.2.2.len p0_x.2.2.cap)]), (.agg #[(.int .i64 p1_y.1), (.int .i64 p1_y.2.1), (.slice p1_y.2.2.base p1_y.2.2.len p1_y.2.2.cap)])] w (RetPost Value.bool Qf) := by
  refine calls_of (fn := Try.f51) (l := [(.agg #[(.int .i64 p0_x.1), (.int .i64 p0_x.2.1), (.slice p0_x.2.2.base p0_x.2.2.len p0_x.2.2.cap)]), (.agg #[(.int .i64 p1_y.1), (.int .i64 p1_y.2.1), (.slice p1_y.2.2.base p1_y.2.2.len p1_y.2.2.cap)])]) (m := law07_same p0_x p1_y) 49 (by kernel_rfl) rfl rfl rfl (fun Qf0 => ?_) Qf w hm
  clear hm w Qf
  unfold law07_same
  refine SC.seq ?_
  refine SC.region' ?_
  refine KT.nw 2 (fun ad => .pointer (some ad)) 78 (fun x2 => ?_)
  refine KT.nw 3 (fun ad => .pointer (some ad)) 78 (fun x3 => ?_)
  refine KT.pv 4 (.bool false) ?_
  refine KT.nil ?_
  refine SX.seq ?_
  refine SC.seq ?_
  refine SC.seq ?_
  refine SC.join (β := (Bool)) (fun b1 => [(2, (.pointer (some x2))), (3, (.pointer (some x3))), (35, (.bool b1))]) (fun b1 => ?_) (fun j1 => ?_)
  refine SX.seq ?_
  refine SC.cond (b := b1) rfl ?_ ?_
  refine SC.seq ?_
  refine SC.region' ?_
  refine KT.pv 4 (.bool false) ?_
  refine KT.nil ?_
  refine SX.seq ?_
  refine SC.ret ?_
  refine SX.then_ret ?_
  refine SX.ret [.tmp 4] rfl ?_
  refine RS.tmp (.bool false) rfl ?_
  exact RS.nil rfl
  refine SC.skip ?_
  refine SX.seq ?_
  refine SC.seq ?_
  refine SC.seq ?_
  refine SC.region' ?_
  refine KT.pv 36 (.pointer (some (Addr.add x3 2))) ?_
  refine KT.l 37 (fun x37 => ?_)
  refine KT.pv 38 (.int .i64 ((x37.len : Nat) : Int)) ?_
  refine KT.pv 5 (.int .i64 ((x37.len : Nat) : Int)) ?_
  refine KT.nil ?_
  refine SX.seq ?_
  refine SC.block ?_
  refine SC.loop (σ := (Int)) (fun s2 => [(2, (.pointer (some x2))), (5, (.int .i64 s2))]) (.cons rfl (.cons rfl (.nil))) (fun _ _ _ s2 => ?_)
  refine SC.seq ?_
  refine SC.seq ?_
  refine SC.region' ?_
  refine KT.pv 39 (.int .i64 s2) ?_
  refine KT.pv 40 (.bool (decide (s2 < 56))) ?_
  refine KT.nil ?_
  refine SX.seq ?_
  refine SC.cond (b := decide (s2 < 56)) rfl ?_ ?_
  refine SC.skip ?_
  refine SX.seq ?_
  refine SC.seq ?_
  refine SC.block ?_
  refine SC.seq ?_
  refine SC.region' ?_
  refine KT.pv 43 (.pointer (some (Addr.add x2 2))) ?_
  refine KT.l 44 (fun x44 => ?_)
  refine KT.pv 45 (.int .i64 s2) ?_
  refine KT.oy rfl (OY.idx (d := 46) (s := x44) (i := s2) (size := 1) (elem := 5) _ _ _ rfl rfl rfl (by kernel_rfl) (by kernel_rfl) rfl rfl (fun x46 => ?_))
  refine KT.l 47 (fun x47 => ?_)
  refine KT.pv 48 (.bool (x47 != 0)) ?_
  refine KT.nil ?_
  refine SX.seq ?_
  refine SC.cond (b := x47 != 0) rfl ?_ ?_
  refine SC.seq ?_
  refine SC.region' ?_
  refine KT.pv 4 (.bool false) ?_
  refine KT.nil ?_
  refine SX.seq ?_
  refine SC.ret ?_
  refine SX.block_ret ?_
  refine SX.then_ret ?_
  refine SX.loop_ret ?_
  refine SX.block_ret ?_
  refine SX.then_ret ?_
  refine SX.ret [.tmp 4] rfl ?_
  refine RS.tmp (.bool false) rfl ?_
  exact RS.nil rfl
  refine SC.skip ?_
  refine SX.block ?_
  refine SX.seq ?_
  refine SC.region' ?_
  refine KT.pv 41 (.int .i64 s2) ?_
  refine KT.pv 42 (.int .i64 (w64 (s2 + 1))) ?_
  refine KT.pv 5 (.int .i64 (w64 (s2 + 1))) ?_
  refine KT.nil ?_
  exact SX.loop_next (.cons rfl (.cons rfl (.nil)))
  refine SC.exit ?_
  refine SX.then_exit ?_
  refine SX.loop_exit ?_
  refine SX.block_hit ?_
  refine SX.seq ?_
  refine SC.seq ?_
  refine SC.region' ?_
  refine KT.pv 4 (.bool true) ?_
  refine KT.nil ?_
  refine SX.seq ?_
  refine SC.ret ?_
  refine SX.ret [.tmp 4] rfl ?_
  refine RS.tmp (.bool true) rfl ?_
  exact RS.nil rfl
  refine SC.draw 30 (fun _ => false) rfl (by kernel_rfl) (fun S3 => ?_)
  refine KT.pvA 0 6 (.pointer (some x2)) ?_
  refine KT.tk 1 (OY.ldI (d := 7) _ _ rfl rfl (by kernel_rfl) rfl rfl (fun x7 => ?_))
  refine KT.pvA 2 8 (.pointer (some x3)) ?_
  refine KT.tk 3 (OY.ldI (d := 9) _ _ rfl rfl (by kernel_rfl) rfl rfl (fun x9 => ?_))
  refine KT.pvA 4 10 (.bool (x7 != x9)) ?_
  refine KT.pvA 5 11 (.bool (x7 != x9)) ?_
  refine KT.ite (b := x7 != x9) 11 rfl ?_ ?_
  refine KT.skA 6 ?_
  refine KT.skA 7 ?_
  refine KT.skA 8 ?_
  refine KT.skA 9 ?_
  refine KT.skA 10 ?_
  refine KT.pvA 11 17 (.bool true) ?_
  refine KT.pvA 12 18 (.bool true) ?_
  refine KT.skA 13 ?_
  refine KT.skA 14 ?_
  refine KT.skA 15 ?_
  refine KT.skA 16 ?_
  refine KT.pvA 17 23 (.bool true) ?_
  refine KT.pvA 18 24 (.bool true) ?_
  refine KT.skA 19 ?_
  refine KT.skA 20 ?_
  refine KT.skA 21 ?_
  refine KT.skA 22 ?_
  refine KT.skA 23 ?_
  refine KT.skA 24 ?_
  refine KT.skA 25 ?_
  refine KT.skA 26 ?_
  refine KT.skA 27 ?_
  refine KT.skA 28 ?_
  refine KT.pvA 29 35 (.bool true) ?_
  refine KT.doneA (by kernel_rfl) ?_
  refine SX.sub (T' := [(2, (.pointer (some x2))), (3, (.pointer (some x3))), (35, (.bool true))]) (.cons rfl (.cons rfl (.cons rfl (.nil)))) ?_
  exact SX.leafS j1 (.cons rfl (.cons rfl (.cons rfl (.nil))))
  refine KT.pvA 6 12 (.pointer (some (Addr.add x2 1))) ?_
  refine KT.tk 7 (OY.ldI (d := 13) _ _ rfl rfl (by kernel_rfl) rfl rfl (fun x13 => ?_))
  refine KT.pvA 8 14 (.pointer (some (Addr.add x3 1))) ?_
  refine KT.tk 9 (OY.ldI (d := 15) _ _ rfl rfl (by kernel_rfl) rfl rfl (fun x15 => ?_))
  refine KT.pvA 10 16 (.bool (x13 != x15)) ?_
  refine KT.pvA 11 17 (.bool (x13 != x15)) ?_
  refine KT.pvA 12 18 (.bool (x13 != x15)) ?_
  refine KT.ite (b := x13 != x15) 18 rfl ?_ ?_
  refine KT.skA 13 ?_
  refine KT.skA 14 ?_
  refine KT.skA 15 ?_
  refine KT.skA 16 ?_
  refine KT.pvA 17 23 (.bool true) ?_
  refine KT.pvA 18 24 (.bool true) ?_
  refine KT.skA 19 ?_
  refine KT.skA 20 ?_
  refine KT.skA 21 ?_
  refine KT.skA 22 ?_
  refine KT.skA 23 ?_
  refine KT.skA 24 ?_
  refine KT.skA 25 ?_
  refine KT.skA 26 ?_
  refine KT.skA 27 ?_
  refine KT.skA 28 ?_
  refine KT.pvA 29 35 (.bool true) ?_
  refine KT.doneA (by kernel_rfl) ?_
  refine SX.sub (T' := [(2, (.pointer (some x2))), (3, (.pointer (some x3))), (35, (.bool true))]) (.cons rfl (.cons rfl (.cons rfl (.nil)))) ?_
  exact SX.leafS j1 (.cons rfl (.cons rfl (.cons rfl (.nil))))
  refine KT.pvA 13 19 (.pointer (some (Addr.add x2 2))) ?_
  refine KT.tk 14 (OY.ldI (d := 20) _ _ rfl rfl (by kernel_rfl) rfl rfl (fun x20 => ?_))
  refine KT.pvA 15 21 (.int .i64 ((x20.len : Nat) : Int)) ?_
  refine KT.pvA 16 22 (.bool (((x20.len : Nat) : Int) != 56)) ?_
  refine KT.pvA 17 23 (.bool (((x20.len : Nat) : Int) != 56)) ?_
  refine KT.pvA 18 24 (.bool (((x20.len : Nat) : Int) != 56)) ?_
  refine KT.ite (b := ((x20.len : Nat) : Int) != 56) 24 rfl ?_ ?_
  refine KT.skA 19 ?_
  refine KT.skA 20 ?_
  refine KT.skA 21 ?_
  refine KT.skA 22 ?_
  refine KT.skA 23 ?_
  refine KT.skA 24 ?_
  refine KT.skA 25 ?_
  refine KT.skA 26 ?_
  refine KT.skA 27 ?_
  refine KT.skA 28 ?_
  refine KT.pvA 29 35 (.bool true) ?_
  refine KT.doneA (by kernel_rfl) ?_
  refine SX.sub (T' := [(2, (.pointer (some x2))), (3, (.pointer (some x3))), (35, (.bool true))]) (.cons rfl (.cons rfl (.cons rfl (.nil)))) ?_
  exact SX.leafS j1 (.cons rfl (.cons rfl (.cons rfl (.nil))))
  refine KT.pvA 19 25 (.pointer (some (Addr.add x2 2))) ?_
  refine KT.tk 20 (OY.ldI (d := 26) _ _ rfl rfl (by kernel_rfl) rfl rfl (fun x26 => ?_))
  refine KT.pvA 21 27 (.pointer (some (Addr.add x3 2))) ?_
  refine KT.tk 22 (OY.ldI (d := 28) _ _ rfl rfl (by kernel_rfl) rfl rfl (fun x28 => ?_))
  refine KT.pvA 23 29 (.int .i64 ((x28.len : Nat) : Int)) ?_
  refine KT.tp 24 (OY.slice01 (d := 30) (s := x26) (hi := ((x28.len : Nat) : Int)) (size := 1) (elem := 5) _ _ _ rfl rfl rfl (by kernel_rfl) (by kernel_rfl) rfl rfl (fun x30 => ?_))
  refine KT.pvA 25 31 (.pointer (some (Addr.add x3 2))) ?_
  refine KT.tk 26 (OY.ldI (d := 32) _ _ rfl rfl (by kernel_rfl) rfl rfl (fun x32 => ?_))
  refine KT.one 27 rfl (by kernel_rfl) rfl (OW.step (OW.call (d := 33) (enc := Value.bool) 30 #[(.slice x30.base x30.len x30.cap), (.slice x32.base x32.len x32.cap)] rfl (fun _ => by kernel_rfl) (fun Qf w => ref00_SameBytes_sim x30 x32 Qf w) rfl rfl (fun x33 => ?_)))
  refine KT.and ?_
  refine KT.pvA 28 34 (.bool (!x33)) ?_
  refine KT.pvA 29 35 (.bool (!x33)) ?_
  refine KT.doneA (by kernel_rfl) ?_
  refine SX.sub (T' := [(2, (.pointer (some x2))), (3, (.pointer (some x3))), (35, (.bool (!x33)))]) (.cons rfl (.cons rfl (.cons rfl (.nil)))) ?_
  exact SX.leafS j1 (.cons rfl (.cons rfl (.cons rfl (.nil))))
set_option maxRecDepth 100000 in
theorem law07_StripeTwo_sim (p0_blocks : Slc) (p1_x : Int) (p2_y : Int) (Qf : Bool → World → Prop) (w : World) (hm : law07_StripeTwo (cvOf Try.prog) p0_blocks p1_x p2_y Qf w) : Calls Try.prog 11 #[(.slice p0_blocks.base p0_blocks.len p0_blocks.cap), (.int .i64 p1_x), (.int .i64 p2_y)] w (RetPost Value.bool Qf) := by
  refine calls_of (fn := Try.f11) (l := [(.slice p0_blocks.base p0_blocks.len p0_blocks.cap), (.int .i64 p1_x), (.int .i64 p2_y)]) (m := law07_StripeTwo (cvOf Try.prog) p0_blocks p1_x p2_y) 122 (by kernel_rfl) rfl rfl rfl (fun Qf0 => ?_) Qf w hm
  clear hm w Qf
  unfold law07_StripeTwo
  refine SC.seq ?_
  refine SC.region' ?_
  refine KT.pv 6 (.bool false) ?_
  refine KT.nil ?_
  refine SX.seq ?_
  refine SC.seq ?_
  refine SC.seq ?_
  refine SC.region' ?_
  refine KT.cl Value.bool 16 45 #[] (law07_alive_sim ) (fun x16 => ?_)
  refine KT.pv 17 (.bool (!x16)) ?_
  refine KT.nil ?_
  refine SX.seq ?_
  refine SC.cond (b := !x16) rfl ?_ ?_
  refine SC.seq ?_
  refine SC.region' ?_
  refine KT.pv 6 (.bool false) ?_
  refine KT.nil ?_
  refine SX.seq ?_
  refine SC.ret ?_
  refine SX.then_ret ?_
  refine SX.ret [.tmp 6] rfl ?_
  refine RS.tmp (.bool false) rfl ?_
  exact RS.nil rfl
  refine SC.skip ?_
  refine SX.seq ?_
  refine SC.seq ?_
  refine SC.seq ?_
  refine SC.region' ?_
  refine KT.pv 18 (.slice p0_blocks.base p0_blocks.len p0_blocks.cap) ?_
  refine KT.cl Value.bool 19 46 #[(.slice p0_blocks.base p0_blocks.len p0_blocks.cap), (.int .i64 6)] (law07_fits_sim p0_blocks 6) (fun x19 => ?_)
  refine KT.pv 20 (.bool (!x19)) ?_
  refine KT.pv 21 (.bool (!x19)) ?_
  refine KT.joinO (β := Bool) 3 (fun r1 => [(24, (.bool r1)), (0, (.slice p0_blocks.base p0_blocks.len p0_blocks.cap)), (1, (.int .i64 p1_x)), (2, (.int .i64 p2_y))]) (fun r1 => ?_) (fun j1 => ?_)
  refine KT.pv 25 (.bool r1) ?_
  refine KT.joinO (β := Bool) 3 (fun r2 => [(28, (.bool r2)), (0, (.slice p0_blocks.base p0_blocks.len p0_blocks.cap)), (1, (.int .i64 p1_x)), (2, (.int .i64 p2_y))]) (fun r2 => ?_) (fun j2 => ?_)
  refine KT.pv 29 (.bool r2) ?_
  refine KT.joinO (β := Bool) 3 (fun r3 => [(32, (.bool r3)), (0, (.slice p0_blocks.base p0_blocks.len p0_blocks.cap)), (1, (.int .i64 p1_x)), (2, (.int .i64 p2_y))]) (fun r3 => ?_) (fun j3 => ?_)
  refine KT.pv 33 (.bool r3) ?_
  refine KT.joinO (β := Bool) 3 (fun r4 => [(36, (.bool r4)), (0, (.slice p0_blocks.base p0_blocks.len p0_blocks.cap)), (1, (.int .i64 p1_x)), (2, (.int .i64 p2_y))]) (fun r4 => ?_) (fun j4 => ?_)
  refine KT.pv 37 (.bool r4) ?_
  refine KT.joinO (β := Bool) 4 (fun r5 => [(41, (.bool r5)), (0, (.slice p0_blocks.base p0_blocks.len p0_blocks.cap)), (1, (.int .i64 p1_x)), (2, (.int .i64 p2_y))]) (fun r5 => ?_) (fun j5 => ?_)
  refine KT.nil ?_
  refine SX.seq ?_
  refine SC.cond (b := r5) rfl ?_ ?_
  refine SC.seq ?_
  refine SC.region' ?_
  refine KT.pv 6 (.bool true) ?_
  refine KT.nil ?_
  refine SX.seq ?_
  refine SC.ret ?_
  refine SX.then_ret ?_
  refine SX.ret [.tmp 6] rfl ?_
  refine RS.tmp (.bool true) rfl ?_
  exact RS.nil rfl
  refine SC.skip ?_
  refine SX.seq ?_
  refine SC.seq ?_
  refine SC.region' ?_
  refine KT.pv 43 (.agg #[(.int .i64 0), (.int .i64 0), (.int .i64 0)]) ?_
  refine KT.cl (fun y : ((Option Addr) × (Option Addr)) => (.tuple #[(.pointer y.1), (.pointer y.2)])) 44 47 #[(.agg #[(.int .i64 0), (.int .i64 0), (.int .i64 0)])] (law07_Open_sim (0, 0, 0)) (fun x44 => ?_)
  refine KT.pv 42 (.tuple #[(.pointer x44.1), (.pointer x44.2)]) ?_
  refine KT.pv 45 (.pointer x44.1) ?_
  refine KT.pv 46 (.pointer x44.2) ?_
  refine KT.pv 7 (.pointer x44.1) ?_
  refine KT.pv 8 (.pointer x44.2) ?_
  refine KT.nil ?_
  refine SX.seq ?_
  refine SC.seq ?_
  refine SC.seq ?_
  refine SC.region' ?_
  refine KT.pv 47 (.pointer x44.1) ?_
  refine KT.oy rfl (OY.eqlNil (d := 48) (p := x44.1) _ _ _ _ rfl rfl rfl (by kernel_rfl) rfl rfl ?_)
  refine KT.pv 49 (.bool ((x44.1).isNone)) ?_
  refine KT.joinO (β := Bool) 3 (fun r6 => [(52, (.bool r6)), (0, (.slice p0_blocks.base p0_blocks.len p0_blocks.cap)), (1, (.int .i64 p1_x)), (2, (.int .i64 p2_y)), (7, (.pointer x44.1)), (8, (.pointer x44.2))]) (fun r6 => ?_) (fun j6 => ?_)
  refine KT.pv 53 (.bool r6) ?_
  refine KT.joinO (β := Bool) 5 (fun r7 => [(58, (.bool r7)), (0, (.slice p0_blocks.base p0_blocks.len p0_blocks.cap)), (1, (.int .i64 p1_x)), (2, (.int .i64 p2_y)), (7, (.pointer x44.1)), (8, (.pointer x44.2))]) (fun r7 => ?_) (fun j7 => ?_)
  refine KT.nil ?_
  refine SX.seq ?_
  refine SC.cond (b := r7) rfl ?_ ?_
  refine SC.seq ?_
  refine SC.region' ?_
  refine KT.pv 6 (.bool false) ?_
  refine KT.nil ?_
  refine SX.seq ?_
  refine SC.ret ?_
  refine SX.then_ret ?_
  refine SX.ret [.tmp 6] rfl ?_
  refine RS.tmp (.bool false) rfl ?_
  exact RS.nil rfl
  refine SC.skip ?_
  refine SX.seq ?_
  refine SC.seq ?_
  refine SC.region' ?_
  refine KT.pv 59 (.pointer x44.2) ?_
  refine KT.pv 60 (.int .i64 p1_x) ?_
  refine KT.cl (Value.int .i64) 61 34 #[(.pointer x44.2), (.int .i64 p1_x), (.int .i64 0)] (device_Rack_Doom_sim x44.2 p1_x 0) (fun x61 => ?_)
  refine KT.nil ?_
  refine SX.seq ?_
  refine SC.seq ?_
  refine SC.region' ?_
  refine KT.pv 62 (.pointer x44.2) ?_
  refine KT.pv 63 (.int .i64 p2_y) ?_
  refine KT.cl (Value.int .i64) 64 34 #[(.pointer x44.2), (.int .i64 p2_y), (.int .i64 0)] (device_Rack_Doom_sim x44.2 p2_y 0) (fun x64 => ?_)
  refine KT.nil ?_
  refine SX.seq ?_
  refine SC.seq ?_
  refine SC.seq ?_
  refine SC.region' ?_
  refine KT.pv 65 (.pointer x44.1) ?_
  refine KT.cl (Value.int .i64) 66 35 #[(.pointer x44.1)] (bank_Bank_Flush_sim x44.1) (fun x66 => ?_)
  refine KT.pv 67 (.bool (x66 != 0)) ?_
  refine KT.pv 68 (.bool (x66 != 0)) ?_
  refine KT.joinO (β := Bool) 5 (fun r8 => [(73, (.bool r8)), (0, (.slice p0_blocks.base p0_blocks.len p0_blocks.cap)), (7, (.pointer x44.1))]) (fun r8 => ?_) (fun j8 => ?_)
  refine KT.pv 74 (.bool r8) ?_
  refine KT.joinO (β := Bool) 5 (fun r9 => [(79, (.bool r9)), (0, (.slice p0_blocks.base p0_blocks.len p0_blocks.cap)), (7, (.pointer x44.1))]) (fun r9 => ?_) (fun j9 => ?_)
  refine KT.nil ?_
  refine SX.seq ?_
  refine SC.cond (b := r9) rfl ?_ ?_
  refine SC.seq ?_
  refine SC.region' ?_
  refine KT.pv 6 (.bool false) ?_
  refine KT.nil ?_
  refine SX.seq ?_
  refine SC.ret ?_
  refine SX.then_ret ?_
  refine SX.ret [.tmp 6] rfl ?_
  refine RS.tmp (.bool false) rfl ?_
  exact RS.nil rfl
  refine SC.skip ?_
  refine SX.seq ?_
  refine SC.seq ?_
  refine SC.region' ?_
  refine KT.pv 81 (.pointer x44.1) ?_
  refine KT.cl (fun y : (Int × Bool × Int) => (.tuple #[(.int .i64 y.1), (.bool y.2.1), (.int .i64 y.2.2)])) 82 49 #[(.pointer x44.1), (.int .i64 0)] (stripe_Whole_sim x44.1 0) (fun x82 => ?_)
  refine KT.pv 80 (.tuple #[(.int .i64 x82.1), (.bool x82.2.1), (.int .i64 x82.2.2)]) ?_
  refine KT.pv 83 (.int .i64 x82.1) ?_
  refine KT.pv 84 (.bool x82.2.1) ?_
  refine KT.pv 85 (.int .i64 x82.2.2) ?_
  refine KT.pv 9 (.int .i64 x82.1) ?_
  refine KT.pv 10 (.bool x82.2.1) ?_
  refine KT.pv 11 (.int .i64 x82.2.2) ?_
  refine KT.nil ?_
  refine SX.seq ?_
  refine SC.seq ?_
  refine SC.seq ?_
  refine SC.region' ?_
  refine KT.pv 86 (.bool x82.2.1) ?_
  refine KT.pv 87 (.bool x82.2.1) ?_
  refine KT.joinO (β := Bool) 3 (fun r10 => [(90, (.bool r10)), (0, (.slice p0_blocks.base p0_blocks.len p0_blocks.cap)), (7, (.pointer x44.1))]) (fun r10 => ?_) (fun j10 => ?_)
  refine KT.nil ?_
  refine SX.seq ?_
  refine SC.cond (b := r10) rfl ?_ ?_
  refine SC.seq ?_
  refine SC.region' ?_
  refine KT.pv 6 (.bool false) ?_
  refine KT.nil ?_
  refine SX.seq ?_
  refine SC.ret ?_
  refine SX.then_ret ?_
  refine SX.ret [.tmp 6] rfl ?_
  refine RS.tmp (.bool false) rfl ?_
  exact RS.nil rfl
  refine SC.skip ?_
  refine SX.seq ?_
  refine SC.seq ?_
  refine SC.seq ?_
  refine SC.region' ?_
  refine KT.pv 12 (.int .i64 0) ?_
  refine KT.nil ?_
  refine SX.seq ?_
  refine SC.block ?_
  refine SC.loop (σ := (Int)) (fun s11 => [(0, (.slice p0_blocks.base p0_blocks.len p0_blocks.cap)), (7, (.pointer x44.1)), (12, (.int .i64 s11))]) (.cons rfl (.cons rfl (.cons rfl (.nil)))) (fun _ _ _ s11 => ?_)
  refine SC.seq ?_
  refine SC.seq ?_
  refine SC.region' ?_
  refine KT.pv 91 (.int .i64 s11) ?_
  refine KT.pv 92 (.bool (decide (s11 < 6))) ?_
  refine KT.nil ?_
  refine SX.seq ?_
  refine SC.cond (b := decide (s11 < 6)) rfl ?_ ?_
  refine SC.skip ?_
  refine SX.seq ?_
  refine SC.seq ?_
  refine SC.block ?_
  refine SC.seq ?_
  refine SC.region' ?_
  refine KT.pv 96 (.pointer x44.1) ?_
  refine KT.pv 97 (.int .i64 s11) ?_
  refine KT.cl (fun y : ((Int × Int × Slc) × Int) => (.tuple #[(.agg #[(.int .i64 y.1.1), (.int .i64 y.1.2.1), (.slice y.1.2.2.base y.1.2.2.len y.1.2.2.cap)]), (.int .i64 y.2)])) 98 50 #[(.pointer x44.1), (.int .i64 0), (.int .i64 s11), (.int .i64 3)] (stripe_Read_sim x44.1 0 s11 3) (fun x98 => ?_)
  refine KT.pv 95 (.tuple #[(.agg #[(.int .i64 x98.1.1), (.int .i64 x98.1.2.1), (.slice x98.1.2.2.base x98.1.2.2.len x98.1.2.2.cap)]), (.int .i64 x98.2)]) ?_
  refine KT.pv 99 (.agg #[(.int .i64 x98.1.1), (.int .i64 x98.1.2.1), (.slice x98.1.2.2.base x98.1.2.2.len x98.1.2.2.cap)]) ?_
  refine KT.pv 100 (.int .i64 x98.2) ?_
  refine KT.nw 13 (fun ad => .pointer (some ad)) 78 (fun x13 => ?_)
  refine KT.ow rfl (OW.stA _ _ _ rfl rfl rfl rfl rfl (by kernel_rfl) ?_)
  refine KT.pv 14 (.int .i64 x98.2) ?_
  refine KT.nil ?_
  refine SX.seq ?_
  refine SC.seq ?_
  refine SC.region' ?_
  refine KT.pv 101 (.agg #[(.int .i64 0), (.int .i64 0), (.slice none 0 0)]) ?_
  refine KT.nw 15 (fun ad => .pointer (some ad)) 78 (fun x15 => ?_)
  refine KT.ow rfl (OW.stA _ _ _ rfl rfl rfl rfl rfl (by kernel_rfl) ?_)
  refine KT.nil ?_
  refine SX.seq ?_
  refine SC.seq ?_
  refine SC.seq ?_
  refine SC.region' ?_
  refine KT.pv 102 (.int .i64 s11) ?_
  refine KT.pv 103 (.slice p0_blocks.base p0_blocks.len p0_blocks.cap) ?_
  refine KT.pv 104 (.int .i64 ((p0_blocks.len : Nat) : Int)) ?_
  refine KT.pv 105 (.bool (decide (s11 < ((p0_blocks.len : Nat) : Int)))) ?_
  refine KT.nil ?_
  refine SX.seq ?_
  refine SC.join (β := Unit) (fun b12 => [(0, (.slice p0_blocks.base p0_blocks.len p0_blocks.cap)), (7, (.pointer x44.1)), (12, (.int .i64 s11)), (13, (.pointer (some x13))), (14, (.int .i64 x98.2)), (15, (.pointer (some x15)))]) (fun b12 => ?_) (fun j12 => ?_)
  refine SX.seq ?_
  refine SC.seq ?_
  refine SC.region' ?_
  refine KT.pv 110 (.int .i64 x98.2) ?_
  refine KT.pv 111 (.bool (x98.2 != 14)) ?_
  refine KT.pv 112 (.bool (x98.2 != 14)) ?_
  refine KT.joinO (β := Bool) 9 (fun r13 => [(121, (.bool r13)), (0, (.slice p0_blocks.base p0_blocks.len p0_blocks.cap)), (7, (.pointer x44.1)), (12, (.int .i64 s11))]) (fun r13 => ?_) (fun j13 => ?_)
  refine KT.nil ?_
  refine SX.seq ?_
  refine SC.cond (b := r13) rfl ?_ ?_
  refine SC.seq ?_
  refine SC.region' ?_
  refine KT.pv 6 (.bool false) ?_
  refine KT.nil ?_
  refine SX.seq ?_
  refine SC.ret ?_
  refine SX.block_ret ?_
  refine SX.then_ret ?_
  refine SX.loop_ret ?_
  refine SX.block_ret ?_
  refine SX.then_ret ?_
  refine SX.ret [.tmp 6] rfl ?_
  refine RS.tmp (.bool false) rfl ?_
  exact RS.nil rfl
  refine SC.skip ?_
  refine SX.block ?_
  refine SX.seq ?_
  refine SC.region' ?_
  refine KT.pv 93 (.int .i64 s11) ?_
  refine KT.pv 94 (.int .i64 (w64 (s11 + 1))) ?_
  refine KT.pv 12 (.int .i64 (w64 (s11 + 1))) ?_
  refine KT.nil ?_
  exact SX.loop_next (.cons rfl (.cons rfl (.cons rfl (.nil))))
  refine KT.ite (b := x98.2 != 14) 112 rfl ?_ ?_
  refine KT.pv 113 (.int .i64 x98.2) ?_
  refine KT.pv 114 (.bool (x98.2 != 0)) ?_
  refine KT.pv 115 (.bool (x98.2 != 0)) ?_
  refine KT.joinO (β := Bool) 5 (fun r14 => [(120, (.bool r14)), (0, (.slice p0_blocks.base p0_blocks.len p0_blocks.cap)), (7, (.pointer x44.1)), (12, (.int .i64 s11)), (112, (.bool true))]) (fun r14 => ?_) (fun j14 => ?_)
  refine KT.pv 121 (.bool r14) ?_
  exact KT.leafO j13 (.cons rfl (.cons rfl (.cons rfl (.cons rfl (.nil)))))
  refine KT.ite (b := x98.2 != 0) 115 rfl ?_ ?_
  refine KT.sk ?_
  refine KT.sk ?_
  refine KT.sk ?_
  refine KT.sk ?_
  refine KT.pv 120 (.bool true) ?_
  exact KT.leafO j14 (.cons rfl (.cons rfl (.cons rfl (.cons rfl (.cons rfl (.nil))))))
  refine KT.ow rfl (OW.ldA (d := 116) (enc := (fun y : (Int × Int × Slc) => [(.int .i64 y.1), (.int .i64 y.2.1), (.slice y.2.2.base y.2.2.len y.2.2.cap)])) 3 _ _ rfl rfl (by kernel_rfl) (by kernel_rfl) (fun _ => rfl) rfl rfl (fun x116 => ?_))
  refine KT.ow rfl (OW.ldA (d := 117) (enc := (fun y : (Int × Int × Slc) => [(.int .i64 y.1), (.int .i64 y.2.1), (.slice y.2.2.base y.2.2.len y.2.2.cap)])) 3 _ _ rfl rfl (by kernel_rfl) (by kernel_rfl) (fun _ => rfl) rfl rfl (fun x117 => ?_))
  refine KT.cl Value.bool 118 51 #[(.agg #[(.int .i64 x116.1), (.int .i64 x116.2.1), (.slice x116.2.2.base x116.2.2.len x116.2.2.cap)]), (.agg #[(.int .i64 x117.1), (.int .i64 x117.2.1), (.slice x117.2.2.base x117.2.2.len x117.2.2.cap)])] (law07_same_sim (x116.1, x116.2.1, x116.2.2) (x117.1, x117.2.1, x117.2.2)) (fun x118 => ?_)
  refine KT.pv 119 (.bool (!x118)) ?_
  refine KT.pv 120 (.bool (!x118)) ?_
  exact KT.leafO j14 (.cons rfl (.cons rfl (.cons rfl (.cons rfl (.cons rfl (.nil))))))
  refine KT.sk ?_
  refine KT.sk ?_
  refine KT.sk ?_
  refine KT.sk ?_
  refine KT.sk ?_
  refine KT.sk ?_
  refine KT.sk ?_
  refine KT.sk ?_
  refine KT.pv 121 (.bool false) ?_
  exact KT.leafO j13 (.cons rfl (.cons rfl (.cons rfl (.cons rfl (.nil)))))
  refine SC.cond (b := decide (s11 < ((p0_blocks.len : Nat) : Int))) rfl ?_ ?_
  refine SC.region' ?_
  refine KT.pv 106 (.slice p0_blocks.base p0_blocks.len p0_blocks.cap) ?_
  refine KT.pv 107 (.int .i64 s11) ?_
  refine KT.oy rfl (OY.idx (d := 108) (s := p0_blocks) (i := s11) (size := 3) (elem := 78) _ _ _ rfl rfl rfl (by kernel_rfl) (by kernel_rfl) rfl rfl (fun x108 => ?_))
  refine KT.ow rfl (OW.ldA (d := 109) (enc := (fun y : (Int × Int × Slc) => [(.int .i64 y.1), (.int .i64 y.2.1), (.slice y.2.2.base y.2.2.len y.2.2.cap)])) 3 _ _ rfl rfl (by kernel_rfl) (by kernel_rfl) (fun _ => rfl) rfl rfl (fun x109 => ?_))
  refine KT.ow rfl (OW.stA _ _ _ rfl rfl rfl rfl rfl (by kernel_rfl) ?_)
  refine KT.nil ?_
  exact SX.leafS j12 (.cons rfl (.cons rfl (.cons rfl (.cons rfl (.cons rfl (.cons rfl (.nil)))))))
  refine SC.skip ?_
  exact SX.leafS j12 (.cons rfl (.cons rfl (.cons rfl (.cons rfl (.cons rfl (.cons rfl (.nil)))))))
  refine SC.exit ?_
  refine SX.then_exit ?_
  refine SX.loop_exit ?_
  refine SX.block_hit ?_
  refine SX.seq ?_
  refine SC.seq ?_
  refine SC.region' ?_
  refine KT.pv 6 (.bool true) ?_
  refine KT.nil ?_
  refine SX.seq ?_
  refine SC.ret ?_
  refine SX.ret [.tmp 6] rfl ?_
  refine RS.tmp (.bool true) rfl ?_
  exact RS.nil rfl
  refine KT.ite (b := x82.2.1) 87 rfl ?_ ?_
  refine KT.sk ?_
  refine KT.sk ?_
  refine KT.pv 90 (.bool true) ?_
  exact KT.leafO j10 (.cons rfl (.cons rfl (.cons rfl (.nil))))
  refine KT.pv 88 (.int .i64 x82.2.2) ?_
  refine KT.pv 89 (.bool (x82.2.2 != 0)) ?_
  refine KT.pv 90 (.bool (x82.2.2 != 0)) ?_
  exact KT.leafO j10 (.cons rfl (.cons rfl (.cons rfl (.nil))))
  refine KT.ite (b := r8) 74 rfl ?_ ?_
  refine KT.sk ?_
  refine KT.sk ?_
  refine KT.sk ?_
  refine KT.sk ?_
  refine KT.pv 79 (.bool true) ?_
  exact KT.leafO j9 (.cons rfl (.cons rfl (.cons rfl (.nil))))
  refine KT.pv 75 (.pointer x44.1) ?_
  refine KT.pv 76 (.slice p0_blocks.base p0_blocks.len p0_blocks.cap) ?_
  refine KT.cl (Value.int .i64) 77 48 #[(.pointer x44.1), (.int .i64 1), (.int .i64 4), (.slice p0_blocks.base p0_blocks.len p0_blocks.cap)] (stripe_Write_sim x44.1 1 4 p0_blocks) (fun x77 => ?_)
  refine KT.pv 78 (.bool (x77 != 14)) ?_
  refine KT.pv 79 (.bool (x77 != 14)) ?_
  exact KT.leafO j9 (.cons rfl (.cons rfl (.cons rfl (.nil))))
  refine KT.ite (b := x66 != 0) 68 rfl ?_ ?_
  refine KT.sk ?_
  refine KT.sk ?_
  refine KT.sk ?_
  refine KT.sk ?_
  refine KT.pv 73 (.bool true) ?_
  exact KT.leafO j8 (.cons rfl (.cons rfl (.cons rfl (.nil))))
  refine KT.pv 69 (.pointer x44.1) ?_
  refine KT.pv 70 (.slice p0_blocks.base p0_blocks.len p0_blocks.cap) ?_
  refine KT.cl (Value.int .i64) 71 48 #[(.pointer x44.1), (.int .i64 0), (.int .i64 4), (.slice p0_blocks.base p0_blocks.len p0_blocks.cap)] (stripe_Write_sim x44.1 0 4 p0_blocks) (fun x71 => ?_)
  refine KT.pv 72 (.bool (x71 != 14)) ?_
  refine KT.pv 73 (.bool (x71 != 14)) ?_
  exact KT.leafO j8 (.cons rfl (.cons rfl (.cons rfl (.nil))))
  refine KT.ite (b := r6) 53 rfl ?_ ?_
  refine KT.sk ?_
  refine KT.sk ?_
  refine KT.sk ?_
  refine KT.sk ?_
  refine KT.pv 58 (.bool true) ?_
  exact KT.leafO j7 (.cons rfl (.cons rfl (.cons rfl (.cons rfl (.cons rfl (.cons rfl (.nil)))))))
  refine KT.pv 54 (.pointer x44.1) ?_
  refine KT.pv 55 (.slice p0_blocks.base p0_blocks.len p0_blocks.cap) ?_
  refine KT.cl (Value.int .i64) 56 48 #[(.pointer x44.1), (.int .i64 0), (.int .i64 3), (.slice p0_blocks.base p0_blocks.len p0_blocks.cap)] (stripe_Write_sim x44.1 0 3 p0_blocks) (fun x56 => ?_)
  refine KT.pv 57 (.bool (x56 != 0)) ?_
  refine KT.pv 58 (.bool (x56 != 0)) ?_
  exact KT.leafO j7 (.cons rfl (.cons rfl (.cons rfl (.cons rfl (.cons rfl (.cons rfl (.nil)))))))
  refine KT.ite (b := (x44.1).isNone) 49 rfl ?_ ?_
  refine KT.sk ?_
  refine KT.sk ?_
  refine KT.pv 52 (.bool true) ?_
  exact KT.leafO j6 (.cons rfl (.cons rfl (.cons rfl (.cons rfl (.cons rfl (.cons rfl (.nil)))))))
  refine KT.pv 50 (.pointer x44.2) ?_
  refine KT.oy rfl (OY.eqlNil (d := 51) (p := x44.2) _ _ _ _ rfl rfl rfl (by kernel_rfl) rfl rfl ?_)
  refine KT.pv 52 (.bool ((x44.2).isNone)) ?_
  exact KT.leafO j6 (.cons rfl (.cons rfl (.cons rfl (.cons rfl (.cons rfl (.cons rfl (.nil)))))))
  refine KT.ite (b := r4) 37 rfl ?_ ?_
  refine KT.sk ?_
  refine KT.sk ?_
  refine KT.sk ?_
  refine KT.pv 41 (.bool true) ?_
  exact KT.leafO j5 (.cons rfl (.cons rfl (.cons rfl (.cons rfl (.nil)))))
  refine KT.pv 38 (.int .i64 p1_x) ?_
  refine KT.pv 39 (.int .i64 p2_y) ?_
  refine KT.pv 40 (.bool (p1_x == p2_y)) ?_
  refine KT.pv 41 (.bool (p1_x == p2_y)) ?_
  exact KT.leafO j5 (.cons rfl (.cons rfl (.cons rfl (.cons rfl (.nil)))))
  refine KT.ite (b := r3) 33 rfl ?_ ?_
  refine KT.sk ?_
  refine KT.sk ?_
  refine KT.pv 36 (.bool true) ?_
  exact KT.leafO j4 (.cons rfl (.cons rfl (.cons rfl (.cons rfl (.nil)))))
  refine KT.pv 34 (.int .i64 p2_y) ?_
  refine KT.pv 35 (.bool (decide (p2_y > 2))) ?_
  refine KT.pv 36 (.bool (decide (p2_y > 2))) ?_
  exact KT.leafO j4 (.cons rfl (.cons rfl (.cons rfl (.cons rfl (.nil)))))
  refine KT.ite (b := r2) 29 rfl ?_ ?_
  refine KT.sk ?_
  refine KT.sk ?_
  refine KT.pv 32 (.bool true) ?_
  exact KT.leafO j3 (.cons rfl (.cons rfl (.cons rfl (.cons rfl (.nil)))))
  refine KT.pv 30 (.int .i64 p2_y) ?_
  refine KT.pv 31 (.bool (decide (p2_y < 0))) ?_
  refine KT.pv 32 (.bool (decide (p2_y < 0))) ?_
  exact KT.leafO j3 (.cons rfl (.cons rfl (.cons rfl (.cons rfl (.nil)))))
  refine KT.ite (b := r1) 25 rfl ?_ ?_
  refine KT.sk ?_
  refine KT.sk ?_
  refine KT.pv 28 (.bool true) ?_
  exact KT.leafO j2 (.cons rfl (.cons rfl (.cons rfl (.cons rfl (.nil)))))
  refine KT.pv 26 (.int .i64 p1_x) ?_
  refine KT.pv 27 (.bool (decide (p1_x > 2))) ?_
  refine KT.pv 28 (.bool (decide (p1_x > 2))) ?_
  exact KT.leafO j2 (.cons rfl (.cons rfl (.cons rfl (.cons rfl (.nil)))))
  refine KT.ite (b := !x19) 21 rfl ?_ ?_
  refine KT.sk ?_
  refine KT.sk ?_
  refine KT.pv 24 (.bool true) ?_
  exact KT.leafO j1 (.cons rfl (.cons rfl (.cons rfl (.cons rfl (.nil)))))
  refine KT.pv 22 (.int .i64 p1_x) ?_
  refine KT.pv 23 (.bool (decide (p1_x < 0))) ?_
  refine KT.pv 24 (.bool (decide (p1_x < 0))) ?_
  exact KT.leafO j1 (.cons rfl (.cons rfl (.cons rfl (.cons rfl (.nil)))))

end Go.Proofs.Ytldmeimebebllaa
namespace Go.Proofs.Ytldmeimebebllaa
open Go.Mo
theorem disksOk : DisksOk (cvOf Try.prog) := fun b yv Q w hm =>
  enter_of (f := fid_bank_Bank_disks) (ags := #[.pointer b, yv]) (m := bank_Bank_disks (cvOf Try.prog) b yv) (enc := fun _ : Unit => .tuple #[]) (by simp [Deferred.ofValue, invoke]) (fun Qf' h => bank_Bank_disks_sim b yv Qf' w h) Q hm
end Go.Proofs.Ytldmeimebebllaa
namespace Go.Proofs.Ytldmeimebebllaa
open Go.Mo
theorem rowsOk : RowsOk (cvOf Try.prog) := fun a1 a2 yv Q w hm =>
  enter_of (f := fid_stripe_rows_c1) (ags := #[yv, .pointer (some a1), .pointer (some a2)]) (m := stripe_rows_c1 (cvOf Try.prog) yv a1 a2) (enc := fun _ : Unit => .tuple #[]) (by simp [Deferred.ofValue, invoke]) (fun Qf' h => stripe_rows_c1_sim yv a1 a2 Qf' w h) Q hm
end Go.Proofs.Ytldmeimebebllaa
