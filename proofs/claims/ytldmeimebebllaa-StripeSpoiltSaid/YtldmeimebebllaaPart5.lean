/-
  A part of the proof: predicate transformers over the model, and a separation logic over them; what functions of the program do.
-/
import Derived.Test.YtldmeimebebllaaPart4
import Derived.Test.YtldmeimebebllaaProg
set_option linter.unusedSimpArgs false
namespace Go.Proofs.Ytldmeimebebllaa
open Go.Mo
set_option linter.unusedVariables false
set_option maxRecDepth 100000 in
theorem law07_alive_sim  (Qf : Bool → World → Prop) (w : World) (hm : law07_alive (cvOf Try.prog)  Qf w) : Calls Try.prog 45 #[] w (RetPost Value.bool Qf) := by
  refine calls_of (fn := Try.f45) (l := []) (m := law07_alive (cvOf Try.prog) ) 99 (by kernel_rfl) rfl rfl rfl (fun Qf0 => ?_) Qf w hm
  clear hm w Qf
  unfold law07_alive
  refine SC.seq ?_
  refine SC.region' ?_
  refine KT.pv 0 (.bool false) ?_
  refine KT.nil ?_
  refine SX.seq ?_
  refine SC.seq ?_
  refine SC.region' ?_
  refine KT.pv 11 (.agg #[(.int .i64 0), (.int .i64 0), (.int .i64 0)]) ?_
  refine KT.cl (fun y : ((Option Addr) × (Option Addr)) => (.tuple #[(.pointer y.1), (.pointer y.2)])) 12 47 #[(.agg #[(.int .i64 0), (.int .i64 0), (.int .i64 0)])] (law07_Open_sim (0, 0, 0)) (fun x12 => ?_)
  refine KT.pv 10 (.tuple #[(.pointer x12.1), (.pointer x12.2)]) ?_
  refine KT.pv 13 (.pointer x12.1) ?_
  refine KT.pv 14 (.pointer x12.2) ?_
  refine KT.pv 1 (.pointer x12.1) ?_
  refine KT.pv 2 (.pointer x12.2) ?_
  refine KT.nil ?_
  refine SX.seq ?_
  refine SC.seq ?_
  refine SC.seq ?_
  refine SC.region' ?_
  refine KT.pv 15 (.pointer x12.1) ?_
  refine KT.oy rfl (OY.eqlNil (d := 16) (p := x12.1) _ _ _ _ rfl rfl rfl (by kernel_rfl) rfl rfl ?_)
  refine KT.pv 17 (.bool ((x12.1).isNone)) ?_
  refine KT.joinO (β := Bool) 3 (fun r1 => [(20, (.bool r1)), (1, (.pointer x12.1)), (2, (.pointer x12.2))]) (fun r1 => ?_) (fun j1 => ?_)
  refine KT.pv 21 (.bool r1) ?_
  refine KT.joinO (β := Bool) 9 (fun r2 => [(30, (.bool r2)), (1, (.pointer x12.1)), (2, (.pointer x12.2))]) (fun r2 => ?_) (fun j2 => ?_)
  refine KT.nil ?_
  refine SX.seq ?_
  refine SC.cond (b := r2) rfl ?_ ?_
  refine SC.seq ?_
  refine SC.region' ?_
  refine KT.pv 0 (.bool false) ?_
  refine KT.nil ?_
  refine SX.seq ?_
  refine SC.ret ?_
  refine SX.then_ret ?_
  refine SX.ret [.tmp 0] rfl ?_
  refine RS.tmp (.bool false) rfl ?_
  exact RS.nil rfl
  refine SC.skip ?_
  refine SX.seq ?_
  refine SC.seq ?_
  refine SC.region' ?_
  refine KT.pv 31 (.pointer x12.2) ?_
  refine KT.cl (Value.int .i64) 32 34 #[(.pointer x12.2), (.int .i64 0), (.int .i64 0)] (device_Rack_Doom_sim x12.2 0 0) (fun x32 => ?_)
  refine KT.nil ?_
  refine SX.seq ?_
  refine SC.seq ?_
  refine SC.seq ?_
  refine SC.region' ?_
  refine KT.pv 33 (.pointer x12.1) ?_
  refine KT.cl (Value.int .i64) 34 35 #[(.pointer x12.1)] (bank_Bank_Flush_sim x12.1) (fun x34 => ?_)
  refine KT.pv 35 (.bool (x34 != 0)) ?_
  refine KT.nil ?_
  refine SX.seq ?_
  refine SC.cond (b := x34 != 0) rfl ?_ ?_
  refine SC.seq ?_
  refine SC.region' ?_
  refine KT.pv 0 (.bool false) ?_
  refine KT.nil ?_
  refine SX.seq ?_
  refine SC.ret ?_
  refine SX.then_ret ?_
  refine SX.ret [.tmp 0] rfl ?_
  refine RS.tmp (.bool false) rfl ?_
  exact RS.nil rfl
  refine SC.skip ?_
  refine SX.seq ?_
  refine SC.seq ?_
  refine SC.region' ?_
  refine KT.pv 37 (.pointer x12.1) ?_
  refine KT.cl (fun y : (Int × Bool × Int) => (.tuple #[(.int .i64 y.1), (.bool y.2.1), (.int .i64 y.2.2)])) 38 49 #[(.pointer x12.1), (.int .i64 2)] (stripe_Whole_sim x12.1 2) (fun x38 => ?_)
  refine KT.pv 36 (.tuple #[(.int .i64 x38.1), (.bool x38.2.1), (.int .i64 x38.2.2)]) ?_
  refine KT.pv 39 (.int .i64 x38.1) ?_
  refine KT.pv 40 (.bool x38.2.1) ?_
  refine KT.pv 41 (.int .i64 x38.2.2) ?_
  refine KT.pv 3 (.int .i64 x38.1) ?_
  refine KT.pv 4 (.bool x38.2.1) ?_
  refine KT.pv 5 (.int .i64 x38.2.2) ?_
  refine KT.nil ?_
  refine SX.seq ?_
  refine SC.seq ?_
  refine SC.region' ?_
  refine KT.pv 43 (.pointer x12.1) ?_
  refine KT.cl (fun y : ((Int × Int × Slc) × Int) => (.tuple #[(.agg #[(.int .i64 y.1.1), (.int .i64 y.1.2.1), (.slice y.1.2.2.base y.1.2.2.len y.1.2.2.cap)]), (.int .i64 y.2)])) 44 50 #[(.pointer x12.1), (.int .i64 2), (.int .i64 1), (.int .i64 7)] (stripe_Read_sim x12.1 2 1 7) (fun x44 => ?_)
  refine KT.pv 42 (.tuple #[(.agg #[(.int .i64 x44.1.1), (.int .i64 x44.1.2.1), (.slice x44.1.2.2.base x44.1.2.2.len x44.1.2.2.cap)]), (.int .i64 x44.2)]) ?_
  refine KT.pv 45 (.agg #[(.int .i64 x44.1.1), (.int .i64 x44.1.2.1), (.slice x44.1.2.2.base x44.1.2.2.len x44.1.2.2.cap)]) ?_
  refine KT.pv 46 (.int .i64 x44.2) ?_
  refine KT.nw 6 (fun ad => .pointer (some ad)) 78 (fun x6 => ?_)
  refine KT.ow rfl (OW.stA _ _ _ rfl rfl rfl rfl rfl (by kernel_rfl) ?_)
  refine KT.pv 7 (.int .i64 x44.2) ?_
  refine KT.nil ?_
  refine SX.seq ?_
  refine SC.seq ?_
  refine SC.region' ?_
  refine KT.pv 48 (.pointer x12.1) ?_
  refine KT.cl (fun y : ((Int × Int × Slc) × Int) => (.tuple #[(.agg #[(.int .i64 y.1.1), (.int .i64 y.1.2.1), (.slice y.1.2.2.base y.1.2.2.len y.1.2.2.cap)]), (.int .i64 y.2)])) 49 50 #[(.pointer x12.1), (.int .i64 2), (.int .i64 0), (.int .i64 7)] (stripe_Read_sim x12.1 2 0 7) (fun x49 => ?_)
  refine KT.pv 47 (.tuple #[(.agg #[(.int .i64 x49.1.1), (.int .i64 x49.1.2.1), (.slice x49.1.2.2.base x49.1.2.2.len x49.1.2.2.cap)]), (.int .i64 x49.2)]) ?_
  refine KT.pv 50 (.agg #[(.int .i64 x49.1.1), (.int .i64 x49.1.2.1), (.slice x49.1.2.2.base x49.1.2.2.len x49.1.2.2.cap)]) ?_
  refine KT.pv 51 (.int .i64 x49.2) ?_
  refine KT.nw 8 (fun ad => .pointer (some ad)) 78 (fun x8 => ?_)
  refine KT.ow rfl (OW.stA _ _ _ rfl rfl rfl rfl rfl (by kernel_rfl) ?_)
  refine KT.pv 9 (.int .i64 x49.2) ?_
  refine KT.nil ?_
  refine SX.sub (T' := [(3, (.int .i64 x38.1)), (4, (.bool x38.2.1)), (5, (.int .i64 x38.2.2)), (6, (.pointer (some x6))), (7, (.int .i64 x44.2)), (8, (.pointer (some x8))), (9, (.int .i64 x49.2))]) (.cons rfl (.cons rfl (.cons rfl (.cons rfl (.cons rfl (.cons rfl (.cons rfl (.nil)))))))) ?_
  refine SX.seq ?_
  refine SC.seq ?_
  refine SC.region' ?_
  refine KT.pv 52 (.int .i64 x38.1) ?_
  refine KT.pv 53 (.bool (x38.1 == 7)) ?_
  refine KT.pv 54 (.bool (x38.1 == 7)) ?_
  refine KT.joinO (β := Bool) 2 (fun r3 => [(56, (.bool r3)), (5, (.int .i64 x38.2.2)), (6, (.pointer (some x6))), (7, (.int .i64 x44.2)), (8, (.pointer (some x8))), (9, (.int .i64 x49.2))]) (fun r3 => ?_) (fun j3 => ?_)
  refine KT.pv 57 (.bool r3) ?_
  refine KT.joinO (β := Bool) 3 (fun r4 => [(60, (.bool r4)), (6, (.pointer (some x6))), (7, (.int .i64 x44.2)), (8, (.pointer (some x8))), (9, (.int .i64 x49.2))]) (fun r4 => ?_) (fun j4 => ?_)
  refine KT.pv 61 (.bool r4) ?_
  refine KT.joinO (β := Bool) 3 (fun r5 => [(64, (.bool r5)), (6, (.pointer (some x6))), (8, (.pointer (some x8))), (9, (.int .i64 x49.2))]) (fun r5 => ?_) (fun j5 => ?_)
  refine KT.pv 65 (.bool r5) ?_
  refine KT.joinO (β := Bool) 3 (fun r6 => [(68, (.bool r6)), (6, (.pointer (some x6))), (8, (.pointer (some x8)))]) (fun r6 => ?_) (fun j6 => ?_)
  refine KT.pv 69 (.bool r6) ?_
  refine KT.joinO (β := Bool) 4 (fun r7 => [(73, (.bool r7)), (6, (.pointer (some x6))), (8, (.pointer (some x8)))]) (fun r7 => ?_) (fun j7 => ?_)
  refine KT.pv 74 (.bool r7) ?_
  refine KT.joinO (β := Bool) 4 (fun r8 => [(78, (.bool r8)), (6, (.pointer (some x6))), (8, (.pointer (some x8)))]) (fun r8 => ?_) (fun j8 => ?_)
  refine KT.pv 79 (.bool r8) ?_
  refine KT.joinO (β := Bool) 5 (fun r9 => [(84, (.bool r9)), (6, (.pointer (some x6))), (8, (.pointer (some x8)))]) (fun r9 => ?_) (fun j9 => ?_)
  refine KT.pv 85 (.bool r9) ?_
  refine KT.joinO (β := Bool) 6 (fun r10 => [(91, (.bool r10)), (8, (.pointer (some x8)))]) (fun r10 => ?_) (fun j10 => ?_)
  refine KT.pv 92 (.bool r10) ?_
  refine KT.joinO (β := Bool) 6 (fun r11 => [(98, (.bool r11))]) (fun r11 => ?_) (fun j11 => ?_)
  refine KT.pv 0 (.bool r11) ?_
  refine KT.nil ?_
  refine SX.seq ?_
  refine SC.ret ?_
  refine SX.ret [.tmp 0] rfl ?_
  refine RS.tmp (.bool r11) rfl ?_
  exact RS.nil rfl
  refine KT.ite (b := r10) 92 rfl ?_ ?_
  refine KT.pv 93 (.pointer (some (Addr.add x8 2))) ?_
  refine KT.l 94 (fun x94 => ?_)
  refine KT.oy rfl (OY.idx (d := 95) (s := x94) (i := 0) (size := 1) (elem := 5) _ _ _ rfl rfl rfl (by kernel_rfl) (by kernel_rfl) rfl rfl (fun x95 => ?_))
  refine KT.l 96 (fun x96 => ?_)
  refine KT.pv 97 (.bool (x96 == 5)) ?_
  refine KT.pv 98 (.bool (x96 == 5)) ?_
  exact KT.leafO j11 (.cons rfl (.nil))
  refine KT.sk ?_
  refine KT.sk ?_
  refine KT.sk ?_
  refine KT.sk ?_
  refine KT.sk ?_
  refine KT.pv 98 (.bool false) ?_
  exact KT.leafO j11 (.cons rfl (.nil))
  refine KT.ite (b := r9) 85 rfl ?_ ?_
  refine KT.pv 86 (.pointer (some (Addr.add x6 2))) ?_
  refine KT.l 87 (fun x87 => ?_)
  refine KT.oy rfl (OY.idx (d := 88) (s := x87) (i := 0) (size := 1) (elem := 5) _ _ _ rfl rfl rfl (by kernel_rfl) (by kernel_rfl) rfl rfl (fun x88 => ?_))
  refine KT.l 89 (fun x89 => ?_)
  refine KT.pv 90 (.bool (x89 == 6)) ?_
  refine KT.pv 91 (.bool (x89 == 6)) ?_
  exact KT.leafO j10 (.cons rfl (.cons rfl (.nil)))
  refine KT.sk ?_
  refine KT.sk ?_
  refine KT.sk ?_
  refine KT.sk ?_
  refine KT.sk ?_
  refine KT.pv 91 (.bool false) ?_
  exact KT.leafO j10 (.cons rfl (.cons rfl (.nil)))
  refine KT.ite (b := r8) 79 rfl ?_ ?_
  refine KT.pv 80 (.pointer (some (Addr.add x6 2))) ?_
  refine KT.l 81 (fun x81 => ?_)
  refine KT.pv 82 (.int .i64 ((x81.len : Nat) : Int)) ?_
  refine KT.pv 83 (.bool (((x81.len : Nat) : Int) == 56)) ?_
  refine KT.pv 84 (.bool (((x81.len : Nat) : Int) == 56)) ?_
  exact KT.leafO j9 (.cons rfl (.cons rfl (.cons rfl (.nil))))
  refine KT.sk ?_
  refine KT.sk ?_
  refine KT.sk ?_
  refine KT.sk ?_
  refine KT.pv 84 (.bool false) ?_
  exact KT.leafO j9 (.cons rfl (.cons rfl (.cons rfl (.nil))))
  refine KT.ite (b := r7) 74 rfl ?_ ?_
  refine KT.pv 75 (.pointer (some (Addr.add x6 1))) ?_
  refine KT.l 76 (fun x76 => ?_)
  refine KT.pv 77 (.bool (x76 == 3)) ?_
  refine KT.pv 78 (.bool (x76 == 3)) ?_
  exact KT.leafO j8 (.cons rfl (.cons rfl (.cons rfl (.nil))))
  refine KT.sk ?_
  refine KT.sk ?_
  refine KT.sk ?_
  refine KT.pv 78 (.bool false) ?_
  exact KT.leafO j8 (.cons rfl (.cons rfl (.cons rfl (.nil))))
  refine KT.ite (b := r6) 69 rfl ?_ ?_
  refine KT.pv 70 (.pointer (some x6)) ?_
  refine KT.l 71 (fun x71 => ?_)
  refine KT.pv 72 (.bool (x71 == 2)) ?_
  refine KT.pv 73 (.bool (x71 == 2)) ?_
  exact KT.leafO j7 (.cons rfl (.cons rfl (.cons rfl (.nil))))
  refine KT.sk ?_
  refine KT.sk ?_
  refine KT.sk ?_
  refine KT.pv 73 (.bool false) ?_
  exact KT.leafO j7 (.cons rfl (.cons rfl (.cons rfl (.nil))))
  refine KT.ite (b := r5) 65 rfl ?_ ?_
  refine KT.pv 66 (.int .i64 x49.2) ?_
  refine KT.pv 67 (.bool (x49.2 == 0)) ?_
  refine KT.pv 68 (.bool (x49.2 == 0)) ?_
  exact KT.leafO j6 (.cons rfl (.cons rfl (.cons rfl (.nil))))
  refine KT.sk ?_
  refine KT.sk ?_
  refine KT.pv 68 (.bool false) ?_
  exact KT.leafO j6 (.cons rfl (.cons rfl (.cons rfl (.nil))))
  refine KT.ite (b := r4) 61 rfl ?_ ?_
  refine KT.pv 62 (.int .i64 x44.2) ?_
  refine KT.pv 63 (.bool (x44.2 == 0)) ?_
  refine KT.pv 64 (.bool (x44.2 == 0)) ?_
  exact KT.leafO j5 (.cons rfl (.cons rfl (.cons rfl (.cons rfl (.nil)))))
  refine KT.sk ?_
  refine KT.sk ?_
  refine KT.pv 64 (.bool false) ?_
  exact KT.leafO j5 (.cons rfl (.cons rfl (.cons rfl (.cons rfl (.nil)))))
  refine KT.ite (b := r3) 57 rfl ?_ ?_
  refine KT.pv 58 (.int .i64 x38.2.2) ?_
  refine KT.pv 59 (.bool (x38.2.2 == 0)) ?_
  refine KT.pv 60 (.bool (x38.2.2 == 0)) ?_
  exact KT.leafO j4 (.cons rfl (.cons rfl (.cons rfl (.cons rfl (.cons rfl (.nil))))))
  refine KT.sk ?_
  refine KT.sk ?_
  refine KT.pv 60 (.bool false) ?_
  exact KT.leafO j4 (.cons rfl (.cons rfl (.cons rfl (.cons rfl (.cons rfl (.nil))))))
  refine KT.ite (b := x38.1 == 7) 54 rfl ?_ ?_
  refine KT.pv 55 (.bool x38.2.1) ?_
  refine KT.pv 56 (.bool x38.2.1) ?_
  exact KT.leafO j3 (.cons rfl (.cons rfl (.cons rfl (.cons rfl (.cons rfl (.cons rfl (.nil)))))))
  refine KT.sk ?_
  refine KT.pv 56 (.bool false) ?_
  exact KT.leafO j3 (.cons rfl (.cons rfl (.cons rfl (.cons rfl (.cons rfl (.cons rfl (.nil)))))))
  refine KT.ite (b := r1) 21 rfl ?_ ?_
  refine KT.sk ?_
  refine KT.sk ?_
  refine KT.sk ?_
  refine KT.sk ?_
  refine KT.sk ?_
  refine KT.sk ?_
  refine KT.sk ?_
  refine KT.sk ?_
  refine KT.pv 30 (.bool true) ?_
  exact KT.leafO j2 (.cons rfl (.cons rfl (.cons rfl (.nil))))
  refine KT.pv 22 (.pointer x12.1) ?_
  refine KT.nw 23 (fun ad => .slice (some ad) 1 1) 5 (fun x23 => ?_)
  refine KT.pv 24 (.agg #[(.int .i64 1), (.int .i64 0), (.slice (some x23) 1 1)]) ?_
  refine KT.nw 25 (fun ad => .slice (some ad) 1 1) 5 (fun x25 => ?_)
  refine KT.pv 26 (.agg #[(.int .i64 2), (.int .i64 3), (.slice (some x25) 1 1)]) ?_
  refine KT.nw 27 (fun ad => .slice (some ad) 2 2) 78 (fun x27 => ?_)
  refine KT.cl (Value.int .i64) 28 48 #[(.pointer x12.1), (.int .i64 2), (.int .i64 7), (.slice (some x27) 2 2)] (stripe_Write_sim x12.1 2 7 (⟨some x27, 2, 2⟩)) (fun x28 => ?_)
  refine KT.pv 29 (.bool (x28 != 0)) ?_
  refine KT.pv 30 (.bool (x28 != 0)) ?_
  exact KT.leafO j2 (.cons rfl (.cons rfl (.cons rfl (.nil))))
  refine KT.ite (b := (x12.1).isNone) 17 rfl ?_ ?_
  refine KT.sk ?_
  refine KT.sk ?_
  refine KT.pv 20 (.bool true) ?_
  exact KT.leafO j1 (.cons rfl (.cons rfl (.cons rfl (.nil))))
  refine KT.pv 18 (.pointer x12.2) ?_
  refine KT.oy rfl (OY.eqlNil (d := 19) (p := x12.2) _ _ _ _ rfl rfl rfl (by kernel_rfl) rfl rfl ?_)
  refine KT.pv 20 (.bool ((x12.2).isNone)) ?_
  exact KT.leafO j1 (.cons rfl (.cons rfl (.cons rfl (.nil))))
set_option maxRecDepth 100000 in
theorem law07_fits_sim (p0_blocks : Slc) (p1_most : Int) (Qf : Bool → World → Prop) (w : World) (hm : law07_fits p0_blocks p1_most Qf w) : Calls Try.prog 46 #[(.slice p0_blocks.base p0_blocks.len p0_blocks.cap), (.int .i64 p1_most)] w (RetPost Value.bool Qf) := by
  refine calls_of (fn := Try.f46) (l := [(.slice p0_blocks.base p0_blocks.len p0_blocks.cap), (.int .i64 p1_most)]) (m := law07_fits p0_blocks p1_most) 45 (by kernel_rfl) rfl rfl rfl (fun Qf0 => ?_) Qf w hm
  clear hm w Qf
  unfold law07_fits
  refine SC.seq ?_
  refine SC.region' ?_
  refine KT.pv 4 (.bool false) ?_
  refine KT.nil ?_
  refine SX.seq ?_
  refine SC.seq ?_
  refine SC.seq ?_
  refine SC.region' ?_
  refine KT.pv 7 (.slice p0_blocks.base p0_blocks.len p0_blocks.cap) ?_
  refine KT.pv 8 (.int .i64 ((p0_blocks.len : Nat) : Int)) ?_
  refine KT.pv 9 (.int .i64 p1_most) ?_
  refine KT.pv 10 (.bool (decide (((p0_blocks.len : Nat) : Int) > p1_most))) ?_
  refine KT.nil ?_
  refine SX.seq ?_
  refine SC.cond (b := decide (((p0_blocks.len : Nat) : Int) > p1_most)) rfl ?_ ?_
  refine SC.seq ?_
  refine SC.region' ?_
  refine KT.pv 4 (.bool false) ?_
  refine KT.nil ?_
  refine SX.seq ?_
  refine SC.ret ?_
  refine SX.then_ret ?_
  refine SX.ret [.tmp 4] rfl ?_
  refine RS.tmp (.bool false) rfl ?_
  exact RS.nil rfl
  refine SC.skip ?_
  refine SX.seq ?_
  refine SC.seq ?_
  refine SC.seq ?_
  refine SC.region' ?_
  refine KT.pv 5 (.int .i64 0) ?_
  refine KT.nil ?_
  refine SX.seq ?_
  refine SC.block ?_
  refine SC.loop (σ := (Int)) (fun s1 => [(0, (.slice p0_blocks.base p0_blocks.len p0_blocks.cap)), (5, (.int .i64 s1))]) (.cons rfl (.cons rfl (.nil))) (fun _ _ _ s1 => ?_)
  refine SC.seq ?_
  refine SC.seq ?_
  refine SC.region' ?_
  refine KT.pv 11 (.int .i64 s1) ?_
  refine KT.pv 12 (.slice p0_blocks.base p0_blocks.len p0_blocks.cap) ?_
  refine KT.pv 13 (.int .i64 ((p0_blocks.len : Nat) : Int)) ?_
  refine KT.pv 14 (.bool (decide (s1 < ((p0_blocks.len : Nat) : Int)))) ?_
  refine KT.nil ?_
  refine SX.seq ?_
  refine SC.cond (b := decide (s1 < ((p0_blocks.len : Nat) : Int))) rfl ?_ ?_
  refine SC.skip ?_
  refine SX.seq ?_
  refine SC.seq ?_
  refine SC.block ?_
  refine SC.seq ?_
  refine SC.region' ?_
  refine KT.pv 17 (.slice p0_blocks.base p0_blocks.len p0_blocks.cap) ?_
  refine KT.pv 18 (.int .i64 s1) ?_
  refine KT.oy rfl (OY.idx (d := 19) (s := p0_blocks) (i := s1) (size := 3) (elem := 78) _ _ _ rfl rfl rfl (by kernel_rfl) (by kernel_rfl) rfl rfl (fun x19 => ?_))
  refine KT.ow rfl (OW.ldA (d := 20) (enc := (fun y : (Int × Int × Slc) => [(.int .i64 y.1), (.int .i64 y.2.1), (.slice y.2.2.base y.2.2.len y.2.2.cap)])) 3 _ _ rfl rfl (by kernel_rfl) (by kernel_rfl) (fun _ => rfl) rfl rfl (fun x20 => ?_))
  refine KT.nw 6 (fun ad => .pointer (some ad)) 78 (fun x6 => ?_)
  refine KT.ow rfl (OW.stA _ _ _ rfl rfl rfl rfl rfl (by kernel_rfl) ?_)
  refine KT.nil ?_
  refine SX.seq ?_
  refine SC.seq ?_
  refine SC.region' ?_
  refine KT.pv 21 (.pointer (some (Addr.add x6 2))) ?_
  refine KT.l 22 (fun x22 => ?_)
  refine KT.pv 23 (.int .i64 ((x22.len : Nat) : Int)) ?_
  refine KT.pv 24 (.bool (decide (((x22.len : Nat) : Int) > 56))) ?_
  refine KT.pv 25 (.bool (decide (((x22.len : Nat) : Int) > 56))) ?_
  refine KT.joinO (β := Bool) 4 (fun r2 => [(29, (.bool r2)), (0, (.slice p0_blocks.base p0_blocks.len p0_blocks.cap)), (5, (.int .i64 s1)), (6, (.pointer (some x6)))]) (fun r2 => ?_) (fun j2 => ?_)
  refine KT.pv 30 (.bool r2) ?_
  refine KT.joinO (β := Bool) 4 (fun r3 => [(34, (.bool r3)), (0, (.slice p0_blocks.base p0_blocks.len p0_blocks.cap)), (5, (.int .i64 s1)), (6, (.pointer (some x6)))]) (fun r3 => ?_) (fun j3 => ?_)
  refine KT.pv 35 (.bool r3) ?_
  refine KT.joinO (β := Bool) 4 (fun r4 => [(39, (.bool r4)), (0, (.slice p0_blocks.base p0_blocks.len p0_blocks.cap)), (5, (.int .i64 s1)), (6, (.pointer (some x6)))]) (fun r4 => ?_) (fun j4 => ?_)
  refine KT.pv 40 (.bool r4) ?_
  refine KT.joinO (β := Bool) 4 (fun r5 => [(44, (.bool r5)), (0, (.slice p0_blocks.base p0_blocks.len p0_blocks.cap)), (5, (.int .i64 s1))]) (fun r5 => ?_) (fun j5 => ?_)
  refine KT.nil ?_
  refine SX.seq ?_
  refine SC.cond (b := r5) rfl ?_ ?_
  refine SC.seq ?_
  refine SC.region' ?_
  refine KT.pv 4 (.bool false) ?_
  refine KT.nil ?_
  refine SX.seq ?_
  refine SC.ret ?_
  refine SX.block_ret ?_
  refine SX.then_ret ?_
  refine SX.loop_ret ?_
  refine SX.block_ret ?_
  refine SX.then_ret ?_
  refine SX.ret [.tmp 4] rfl ?_
  refine RS.tmp (.bool false) rfl ?_
  exact RS.nil rfl
  refine SC.skip ?_
  refine SX.block ?_
  refine SX.seq ?_
  refine SC.region' ?_
  refine KT.pv 15 (.int .i64 s1) ?_
  refine KT.pv 16 (.int .i64 (w64 (s1 + 1))) ?_
  refine KT.pv 5 (.int .i64 (w64 (s1 + 1))) ?_
  refine KT.nil ?_
  exact SX.loop_next (.cons rfl (.cons rfl (.nil)))
  refine KT.ite (b := r4) 40 rfl ?_ ?_
  refine KT.sk ?_
  refine KT.sk ?_
  refine KT.sk ?_
  refine KT.pv 44 (.bool true) ?_
  exact KT.leafO j5 (.cons rfl (.cons rfl (.cons rfl (.nil))))
  refine KT.pv 41 (.pointer (some (Addr.add x6 1))) ?_
  refine KT.l 42 (fun x42 => ?_)
  refine KT.pv 43 (.bool (decide (x42 > 65535))) ?_
  refine KT.pv 44 (.bool (decide (x42 > 65535))) ?_
  exact KT.leafO j5 (.cons rfl (.cons rfl (.cons rfl (.nil))))
  refine KT.ite (b := r3) 35 rfl ?_ ?_
  refine KT.sk ?_
  refine KT.sk ?_
  refine KT.sk ?_
  refine KT.pv 39 (.bool true) ?_
  exact KT.leafO j4 (.cons rfl (.cons rfl (.cons rfl (.cons rfl (.nil)))))
  refine KT.pv 36 (.pointer (some (Addr.add x6 1))) ?_
  refine KT.l 37 (fun x37 => ?_)
  refine KT.pv 38 (.bool (decide (x37 < 0))) ?_
  refine KT.pv 39 (.bool (decide (x37 < 0))) ?_
  exact KT.leafO j4 (.cons rfl (.cons rfl (.cons rfl (.cons rfl (.nil)))))
  refine KT.ite (b := r2) 30 rfl ?_ ?_
  refine KT.sk ?_
  refine KT.sk ?_
  refine KT.sk ?_
  refine KT.pv 34 (.bool true) ?_
  exact KT.leafO j3 (.cons rfl (.cons rfl (.cons rfl (.cons rfl (.nil)))))
  refine KT.pv 31 (.pointer (some x6)) ?_
  refine KT.l 32 (fun x32 => ?_)
  refine KT.pv 33 (.bool (decide (x32 > 65535))) ?_
  refine KT.pv 34 (.bool (decide (x32 > 65535))) ?_
  exact KT.leafO j3 (.cons rfl (.cons rfl (.cons rfl (.cons rfl (.nil)))))
  refine KT.ite (b := decide (((x22.len : Nat) : Int) > 56)) 25 rfl ?_ ?_
  refine KT.sk ?_
  refine KT.sk ?_
  refine KT.sk ?_
  refine KT.pv 29 (.bool true) ?_
  exact KT.leafO j2 (.cons rfl (.cons rfl (.cons rfl (.cons rfl (.nil)))))
  refine KT.pv 26 (.pointer (some x6)) ?_
  refine KT.l 27 (fun x27 => ?_)
  refine KT.pv 28 (.bool (decide (x27 < 0))) ?_
  refine KT.pv 29 (.bool (decide (x27 < 0))) ?_
  exact KT.leafO j2 (.cons rfl (.cons rfl (.cons rfl (.cons rfl (.nil)))))
  refine SC.exit ?_
  refine SX.then_exit ?_
  refine SX.loop_exit ?_
  refine SX.block_hit ?_
  refine SX.seq ?_
  refine SC.seq ?_
  refine SC.region' ?_
  refine KT.pv 4 (.bool true) ?_
  refine KT.nil ?_
  refine SX.seq ?_
  refine SC.ret ?_
  refine SX.ret [.tmp 4] rfl ?_
  refine RS.tmp (.bool true) rfl ?_
  exact RS.nil rfl
set_option maxRecDepth 100000 in
theorem stripe_Sound_sim (p0_b : (Option Addr)) (p1_seg : Int) (p2_seq : Int) (Qf : (Bool × Int) → World → Prop) (w : World) (hm : stripe_Sound (cvOf Try.prog) p0_b p1_seg p2_seq Qf w) : Calls Try.prog 52 #[(.pointer p0_b), (.int .i64 p1_seg), (.int .i64 p2_seq)] w (RetPost (fun y : (Bool × Int) => (.tuple #[(.bool y.1), (.int .i64 y.2)])) Qf) := by
  refine calls_of (fn := Try.f52) (l := [(.pointer p0_b), (.int .i64 p1_seg), (.int .i64 p2_seq)]) (m := stripe_Sound (cvOf Try.prog) p0_b p1_seg p2_seq) 61 (by kernel_rfl) rfl rfl rfl (fun Qf0 => ?_) Qf w hm
  clear hm w Qf
  unfold stripe_Sound
  refine SC.seq ?_
  refine SC.region' ?_
  refine KT.nw 3 (fun ad => .pointer (some ad)) 38 (fun x3 => ?_)
  refine KT.nw 5 (fun ad => .pointer (some ad)) 3 (fun x5 => ?_)
  refine KT.nw 6 (fun ad => .pointer (some ad)) 4 (fun x6 => ?_)
  refine KT.nw 7 (fun ad => .pointer (some ad)) 28 (fun x7 => ?_)
  refine KT.nil ?_
  refine SX.seq ?_
  refine SC.seq ?_
  refine SC.seq ?_
  refine SC.region' ?_
  refine KT.l 16 (fun x16 => ?_)
  refine KT.pv 17 (.int .i64 p1_seg) ?_
  refine KT.cl (Value.int .i64) 18 80 #[(.pointer x16), (.int .i64 p1_seg)] (stripe_there_sim x16 p1_seg) (fun x18 => ?_)
  refine KT.pv 8 (.int .i64 x18) ?_
  refine KT.nil ?_
  refine SX.seq ?_
  refine SC.seq ?_
  refine SC.region' ?_
  refine KT.pv 19 (.int .i64 x18) ?_
  refine KT.pv 20 (.bool (x18 != 0)) ?_
  refine KT.nil ?_
  refine SX.seq ?_
  refine SC.cond (b := x18 != 0) rfl ?_ ?_
  refine SC.seq ?_
  refine SC.region' ?_
  refine KT.pv 21 (.int .i64 x18) ?_
  refine KT.s ?_
  refine KT.s ?_
  refine KT.nil ?_
  refine SX.seq ?_
  refine SC.ret ?_
  refine SX.then_ret ?_
  refine SX.ret [.cell 6 4, .cell 7 28] rfl ?_
  refine RS.cell rfl (by kernel_rfl) (fun r6 => ?_)
  refine RS.cell rfl (by kernel_rfl) (fun r7 => ?_)
  exact RS.nil rfl
  refine SC.skip ?_
  refine SX.seq ?_
  refine SC.seq ?_
  refine SC.seq ?_
  refine SC.region' ?_
  refine KT.l 22 (fun x22 => ?_)
  refine KT.cl (fun y : (Int × Int × Int) => (.agg #[(.int .i64 y.1), (.int .i64 y.2.1), (.int .i64 y.2.2)])) 23 63 #[(.pointer x22)] (bank_Bank_Geo_sim x22) (fun x23 => ?_)
  refine KT.pv 24 (.int .i64 p1_seg) ?_
  refine KT.cl (fun v : Value => v) 25 78 #[(.agg #[(.int .i64 x23.1), (.int .i64 x23.2.1), (.int .i64 x23.2.2)]), (.int .i64 p1_seg)] (stripe_rows_sim (x23.1, x23.2.1, x23.2.2) p1_seg) (fun x25 => ?_)
  refine KT.nil ?_
  refine SX.seq ?_
  refine SC.block ?_
  refine SC.rangeF (ξ := (Int × Slc)) (τ := (Slc)) (fv := x25) (ps := [26, 27]) (encX := (fun x_1 : (Int × Slc) => [(.int .i64 x_1.1), (.slice x_1.2.base x_1.2.len x_1.2.cap)])) (fun t_1 => [(3, (.pointer (some x3))), (5, (.pointer (some x5))), (6, (.pointer (some x6))), (7, (.pointer (some x7))), (10, (.slice t_1.base t_1.len t_1.cap))]) rfl (fun _ => rfl) rfl (fun _ x_1 _ _ h1 => ?_) (fun _ _ _ t_1 => ?_) (fun D1 => ?_) (fun D1 => ?_) (fun D1 i1 => ?_)
  refine SC.region' ?_
  refine KT.pv 10 (.slice x_1.2.base x_1.2.len x_1.2.cap) ?_
  refine KT.nil ?_
  exact SX.leafP h1 (.cons rfl (.cons rfl (.cons rfl (.cons rfl (.cons rfl (.nil))))))
  refine SC.block ?_
  refine SC.seq ?_
  refine SC.region' ?_
  refine KT.pv 28 (.slice t_1.base t_1.len t_1.cap) ?_
  refine KT.pv 29 (.slice t_1.base t_1.len t_1.cap) ?_
  refine KT.pv 30 (.int .i64 ((t_1.len : Nat) : Int)) ?_
  refine KT.pv 31 (.int .i64 (w64 (((t_1.len : Nat) : Int) - 1))) ?_
  refine KT.oy rfl (OY.idx (d := 32) (s := t_1) (i := w64 (((t_1.len : Nat) : Int) - 1)) (size := 2) (elem := 140) _ _ _ rfl rfl rfl (by kernel_rfl) (by kernel_rfl) rfl rfl (fun x32 => ?_))
  refine KT.ow rfl (OW.ldA (d := 33) (enc := (fun y : (Int × Int) => [(.int .i64 y.1), (.int .i64 y.2)])) 2 _ _ rfl rfl (by kernel_rfl) (by kernel_rfl) (fun _ => rfl) rfl rfl (fun x33 => ?_))
  refine KT.nw 11 (fun ad => .pointer (some ad)) 140 (fun x11 => ?_)
  refine KT.ow rfl (OW.stA _ _ _ rfl rfl rfl rfl rfl (by kernel_rfl) ?_)
  refine KT.nil ?_
  refine SX.seq ?_
  refine SC.seq ?_
  refine SC.region' ?_
  refine KT.l 35 (fun x35 => ?_)
  refine KT.ow rfl (OW.ldA (d := 36) (enc := (fun y : (Int × Int) => [(.int .i64 y.1), (.int .i64 y.2)])) 2 _ _ rfl rfl (by kernel_rfl) (by kernel_rfl) (fun _ => rfl) rfl rfl (fun x36 => ?_))
  refine KT.l 37 (fun x37 => ?_)
  refine KT.cl (fun y : (Slc × Bool) => (.tuple #[(.slice y.1.base y.1.len y.1.cap), (.bool y.2)])) 38 85 #[(.pointer x35), (.agg #[(.int .i64 x36.1), (.int .i64 x36.2)]), (.int .i64 x37)] (stripe_good_sim x35 (x36.1, x36.2) x37) (fun x38 => ?_)
  refine KT.pv 34 (.tuple #[(.slice x38.1.base x38.1.len x38.1.cap), (.bool x38.2)]) ?_
  refine KT.pv 39 (.slice x38.1.base x38.1.len x38.1.cap) ?_
  refine KT.pv 40 (.bool x38.2) ?_
  refine KT.pv 12 (.slice x38.1.base x38.1.len x38.1.cap) ?_
  refine KT.pv 13 (.bool x38.2) ?_
  refine KT.nil ?_
  refine SX.seq ?_
  refine SC.seq ?_
  refine SC.region' ?_
  refine KT.l 42 (fun x42 => ?_)
  refine KT.pv 43 (.slice t_1.base t_1.len t_1.cap) ?_
  refine KT.ow rfl (OW.ldA (d := 44) (enc := (fun y : (Int × Int) => [(.int .i64 y.1), (.int .i64 y.2)])) 2 _ _ rfl rfl (by kernel_rfl) (by kernel_rfl) (fun _ => rfl) rfl rfl (fun x44 => ?_))
  refine KT.l 45 (fun x45 => ?_)
  refine KT.cl (fun y : (Slc × Bool) => (.tuple #[(.slice y.1.base y.1.len y.1.cap), (.bool y.2)])) 46 86 #[(.pointer x42), (.slice t_1.base t_1.len t_1.cap), (.agg #[(.int .i64 x44.1), (.int .i64 x44.2)]), (.int .i64 x45)] (stripe_others_sim x42 t_1 (x44.1, x44.2) x45) (fun x46 => ?_)
  refine KT.pv 41 (.tuple #[(.slice x46.1.base x46.1.len x46.1.cap), (.bool x46.2)]) ?_
  refine KT.pv 47 (.slice x46.1.base x46.1.len x46.1.cap) ?_
  refine KT.pv 48 (.bool x46.2) ?_
  refine KT.pv 14 (.slice x46.1.base x46.1.len x46.1.cap) ?_
  refine KT.pv 15 (.bool x46.2) ?_
  refine KT.nil ?_
  refine SX.sub (T' := [(6, (.pointer (some x6))), (7, (.pointer (some x7))), (12, (.slice x38.1.base x38.1.len x38.1.cap)), (13, (.bool x38.2)), (14, (.slice x46.1.base x46.1.len x46.1.cap)), (15, (.bool x46.2))]) (.cons rfl (.cons rfl (.cons rfl (.cons rfl (.cons rfl (.cons rfl (.nil))))))) ?_
  refine SX.seq ?_
  refine SC.seq ?_
  refine SC.region' ?_
  refine KT.pv 49 (.bool x38.2) ?_
  refine KT.pv 50 (.bool (!x38.2)) ?_
  refine KT.pv 51 (.bool (!x38.2)) ?_
  refine KT.joinO (β := Bool) 3 (fun r2 => [(54, (.bool r2)), (6, (.pointer (some x6))), (7, (.pointer (some x7))), (12, (.slice x38.1.base x38.1.len x38.1.cap)), (14, (.slice x46.1.base x46.1.len x46.1.cap))]) (fun r2 => ?_) (fun j2 => ?_)
  refine KT.pv 55 (.bool r2) ?_
  refine KT.joinO (β := Bool) 5 (fun r3 => [(60, (.bool r3)), (6, (.pointer (some x6))), (7, (.pointer (some x7)))]) (fun r3 => ?_) (fun j3 => ?_)
  refine KT.nil ?_
  refine SX.seq ?_
  refine SC.cond (b := r3) rfl ?_ ?_
  refine SC.seq ?_
  refine SC.region' ?_
  refine KT.s ?_
  refine KT.s ?_
  refine KT.nil ?_
  refine SX.seq ?_
  refine SC.ret ?_
  refine SX.block_ret ?_
  exact SX.round_ret
  refine SC.skip ?_
  refine SX.block ?_
  exact SX.round_next
  refine KT.ite (b := r2) 55 rfl ?_ ?_
  refine KT.sk ?_
  refine KT.sk ?_
  refine KT.sk ?_
  refine KT.sk ?_
  refine KT.pv 60 (.bool true) ?_
  exact KT.leafO j3 (.cons rfl (.cons rfl (.cons rfl (.nil))))
  refine KT.pv 56 (.slice x38.1.base x38.1.len x38.1.cap) ?_
  refine KT.pv 57 (.slice x46.1.base x46.1.len x46.1.cap) ?_
  refine KT.cl Value.bool 58 87 #[(.slice x38.1.base x38.1.len x38.1.cap), (.slice x46.1.base x46.1.len x46.1.cap)] (bytes_Equal_sim x38.1 x46.1) (fun x58 => ?_)
  refine KT.pv 59 (.bool (!x58)) ?_
  refine KT.pv 60 (.bool (!x58)) ?_
  exact KT.leafO j3 (.cons rfl (.cons rfl (.cons rfl (.nil))))
  refine KT.ite (b := !x38.2) 51 rfl ?_ ?_
  refine KT.sk ?_
  refine KT.sk ?_
  refine KT.pv 54 (.bool true) ?_
  exact KT.leafO j2 (.cons rfl (.cons rfl (.cons rfl (.cons rfl (.cons rfl (.nil))))))
  refine KT.pv 52 (.bool x46.2) ?_
  refine KT.pv 53 (.bool (!x46.2)) ?_
  refine KT.pv 54 (.bool (!x46.2)) ?_
  exact KT.leafO j2 (.cons rfl (.cons rfl (.cons rfl (.cons rfl (.cons rfl (.nil))))))
  refine SX.block ?_
  refine SX.seq ?_
  refine SC.seq ?_
  refine SC.region' ?_
  refine KT.s ?_
  refine KT.s ?_
  refine KT.nil ?_
  refine SX.seq ?_
  refine SC.ret ?_
  refine SX.ret [.cell 6 4, .cell 7 28] rfl ?_
  refine RS.cell rfl (by kernel_rfl) (fun r6 => ?_)
  refine RS.cell rfl (by kernel_rfl) (fun r7 => ?_)
  exact RS.nil rfl
  refine SX.block_ret ?_
  refine SX.then_ret ?_
  refine SX.ret [.cell 6 4, .cell 7 28] rfl ?_
  refine RS.cell rfl (by kernel_rfl) (fun r6 => ?_)
  refine RS.cell rfl (by kernel_rfl) (fun r7 => ?_)
  exact RS.nil rfl
  exact SX.fail
set_option maxRecDepth 100000 in
theorem law07_StripeSpoilt_sim (p0_blocks : Slc) (p1_sector : Int) (p2_at : Int) (p3_turn : Int) (Qf : Bool → World → Prop) (w : World) (hm : law07_StripeSpoilt (cvOf Try.prog) p0_blocks p1_sector p2_at p3_turn Qf w) : Calls Try.prog 13 #[(.slice p0_blocks.base p0_blocks.len p0_blocks.cap), (.int .i64 p1_sector), (.int .i64 p2_at), (.int .u8 p3_turn)] w (RetPost Value.bool Qf) := by
  refine calls_of (fn := Try.f13) (l := [(.slice p0_blocks.base p0_blocks.len p0_blocks.cap), (.int .i64 p1_sector), (.int .i64 p2_at), (.int .u8 p3_turn)]) (m := law07_StripeSpoilt (cvOf Try.prog) p0_blocks p1_sector p2_at p3_turn) 131 (by kernel_rfl) rfl rfl rfl (fun Qf0 => ?_) Qf w hm
  clear hm w Qf
  unfold law07_StripeSpoilt
  refine SC.seq ?_
  refine SC.region' ?_
  refine KT.pv 8 (.bool false) ?_
  refine KT.nil ?_
  refine SX.seq ?_
  refine SC.seq ?_
  refine SC.seq ?_
  refine SC.region' ?_
  refine KT.cl Value.bool 21 45 #[] (law07_alive_sim ) (fun x21 => ?_)
  refine KT.pv 22 (.bool (!x21)) ?_
  refine KT.nil ?_
  refine SX.seq ?_
  refine SC.cond (b := !x21) rfl ?_ ?_
  refine SC.seq ?_
  refine SC.region' ?_
  refine KT.pv 8 (.bool false) ?_
  refine KT.nil ?_
  refine SX.seq ?_
  refine SC.ret ?_
  refine SX.then_ret ?_
  refine SX.ret [.tmp 8] rfl ?_
  refine RS.tmp (.bool false) rfl ?_
  exact RS.nil rfl
  refine SC.skip ?_
  refine SX.seq ?_
  refine SC.seq ?_
  refine SC.seq ?_
  refine SC.region' ?_
  refine KT.pv 23 (.slice p0_blocks.base p0_blocks.len p0_blocks.cap) ?_
  refine KT.cl Value.bool 24 46 #[(.slice p0_blocks.base p0_blocks.len p0_blocks.cap), (.int .i64 6)] (law07_fits_sim p0_blocks 6) (fun x24 => ?_)
  refine KT.pv 25 (.bool (!x24)) ?_
  refine KT.pv 26 (.bool (!x24)) ?_
  refine KT.joinO (β := Bool) 3 (fun r1 => [(29, (.bool r1)), (0, (.slice p0_blocks.base p0_blocks.len p0_blocks.cap)), (1, (.int .i64 p1_sector)), (2, (.int .i64 p2_at)), (3, (.int .u8 p3_turn))]) (fun r1 => ?_) (fun j1 => ?_)
  refine KT.pv 30 (.bool r1) ?_
  refine KT.joinO (β := Bool) 3 (fun r2 => [(33, (.bool r2)), (0, (.slice p0_blocks.base p0_blocks.len p0_blocks.cap)), (1, (.int .i64 p1_sector)), (2, (.int .i64 p2_at)), (3, (.int .u8 p3_turn))]) (fun r2 => ?_) (fun j2 => ?_)
  refine KT.pv 34 (.bool r2) ?_
  refine KT.joinO (β := Bool) 3 (fun r3 => [(37, (.bool r3)), (0, (.slice p0_blocks.base p0_blocks.len p0_blocks.cap)), (1, (.int .i64 p1_sector)), (2, (.int .i64 p2_at)), (3, (.int .u8 p3_turn))]) (fun r3 => ?_) (fun j3 => ?_)
  refine KT.pv 38 (.bool r3) ?_
  refine KT.joinO (β := Bool) 3 (fun r4 => [(41, (.bool r4)), (0, (.slice p0_blocks.base p0_blocks.len p0_blocks.cap)), (1, (.int .i64 p1_sector)), (2, (.int .i64 p2_at)), (3, (.int .u8 p3_turn))]) (fun r4 => ?_) (fun j4 => ?_)
  refine KT.pv 42 (.bool r4) ?_
  refine KT.joinO (β := Bool) 3 (fun r5 => [(45, (.bool r5)), (0, (.slice p0_blocks.base p0_blocks.len p0_blocks.cap)), (1, (.int .i64 p1_sector)), (2, (.int .i64 p2_at)), (3, (.int .u8 p3_turn))]) (fun r5 => ?_) (fun j5 => ?_)
  refine KT.nil ?_
  refine SX.seq ?_
  refine SC.cond (b := r5) rfl ?_ ?_
  refine SC.seq ?_
  refine SC.region' ?_
  refine KT.pv 8 (.bool true) ?_
  refine KT.nil ?_
  refine SX.seq ?_
  refine SC.ret ?_
  refine SX.then_ret ?_
  refine SX.ret [.tmp 8] rfl ?_
  refine RS.tmp (.bool true) rfl ?_
  exact RS.nil rfl
  refine SC.skip ?_
  refine SX.seq ?_
  refine SC.seq ?_
  refine SC.region' ?_
  refine KT.pv 47 (.agg #[(.int .i64 0), (.int .i64 0), (.int .i64 0)]) ?_
  refine KT.cl (fun y : ((Option Addr) × (Option Addr)) => (.tuple #[(.pointer y.1), (.pointer y.2)])) 48 47 #[(.agg #[(.int .i64 0), (.int .i64 0), (.int .i64 0)])] (law07_Open_sim (0, 0, 0)) (fun x48 => ?_)
  refine KT.pv 46 (.tuple #[(.pointer x48.1), (.pointer x48.2)]) ?_
  refine KT.pv 49 (.pointer x48.1) ?_
  refine KT.pv 50 (.pointer x48.2) ?_
  refine KT.pv 9 (.pointer x48.1) ?_
  refine KT.pv 10 (.pointer x48.2) ?_
  refine KT.nil ?_
  refine SX.seq ?_
  refine SC.seq ?_
  refine SC.seq ?_
  refine SC.region' ?_
  refine KT.pv 51 (.pointer x48.1) ?_
  refine KT.oy rfl (OY.eqlNil (d := 52) (p := x48.1) _ _ _ _ rfl rfl rfl (by kernel_rfl) rfl rfl ?_)
  refine KT.pv 53 (.bool ((x48.1).isNone)) ?_
  refine KT.joinO (β := Bool) 3 (fun r6 => [(56, (.bool r6)), (0, (.slice p0_blocks.base p0_blocks.len p0_blocks.cap)), (1, (.int .i64 p1_sector)), (2, (.int .i64 p2_at)), (3, (.int .u8 p3_turn)), (9, (.pointer x48.1)), (10, (.pointer x48.2))]) (fun r6 => ?_) (fun j6 => ?_)
  refine KT.pv 57 (.bool r6) ?_
  refine KT.joinO (β := Bool) 5 (fun r7 => [(62, (.bool r7)), (1, (.int .i64 p1_sector)), (2, (.int .i64 p2_at)), (3, (.int .u8 p3_turn)), (9, (.pointer x48.1)), (10, (.pointer x48.2))]) (fun r7 => ?_) (fun j7 => ?_)
  refine KT.nil ?_
  refine SX.seq ?_
  refine SC.cond (b := r7) rfl ?_ ?_
  refine SC.seq ?_
  refine SC.region' ?_
  refine KT.pv 8 (.bool false) ?_
  refine KT.nil ?_
  refine SX.seq ?_
  refine SC.ret ?_
  refine SX.then_ret ?_
  refine SX.ret [.tmp 8] rfl ?_
  refine RS.tmp (.bool false) rfl ?_
  exact RS.nil rfl
  refine SC.skip ?_
  refine SX.seq ?_
  refine SC.seq ?_
  refine SC.region' ?_
  refine KT.pv 63 (.int .i64 p1_sector) ?_
  refine KT.pv 64 (.int .i64 (Int.tmod p1_sector 3)) ?_
  refine KT.pv 11 (.int .i64 (Int.tmod p1_sector 3)) ?_
  refine KT.nil ?_
  refine SX.seq ?_
  refine SC.seq ?_
  refine SC.region' ?_
  refine KT.pv 65 (.int .i64 p1_sector) ?_
  refine KT.pv 66 (.int .i64 (w64 (Int.tdiv p1_sector 3))) ?_
  refine KT.pv 67 (.int .i64 (w64 (14 + (w64 (Int.tdiv p1_sector 3))))) ?_
  refine KT.pv 12 (.int .i64 (w64 (14 + (w64 (Int.tdiv p1_sector 3))))) ?_
  refine KT.nil ?_
  refine SX.seq ?_
  refine SC.seq ?_
  refine SC.region' ?_
  refine KT.pv 69 (.pointer x48.2) ?_
  refine KT.pv 70 (.int .i64 (Int.tmod p1_sector 3)) ?_
  refine KT.pv 71 (.int .i64 (w64 (14 + (w64 (Int.tdiv p1_sector 3))))) ?_
  refine KT.cl (fun y : (Slc × Int) => (.tuple #[(.slice y.1.base y.1.len y.1.cap), (.int .i64 y.2)])) 72 29 #[(.pointer x48.2), (.int .i64 (Int.tmod p1_sector 3)), (.int .i64 (w64 (14 + (w64 (Int.tdiv p1_sector 3)))))] (device_Rack_Read_sim x48.2 (Int.tmod p1_sector 3) (w64 (14 + (w64 (Int.tdiv p1_sector 3))))) (fun x72 => ?_)
  refine KT.pv 68 (.tuple #[(.slice x72.1.base x72.1.len x72.1.cap), (.int .i64 x72.2)]) ?_
  refine KT.pv 73 (.slice x72.1.base x72.1.len x72.1.cap) ?_
  refine KT.pv 74 (.int .i64 x72.2) ?_
  refine KT.pv 13 (.slice x72.1.base x72.1.len x72.1.cap) ?_
  refine KT.pv 14 (.int .i64 x72.2) ?_
  refine KT.nil ?_
  refine SX.seq ?_
  refine SC.seq ?_
  refine SC.seq ?_
  refine SC.region' ?_
  refine KT.pv 75 (.int .i64 x72.2) ?_
  refine KT.pv 76 (.bool (x72.2 != 0)) ?_
  refine KT.pv 77 (.bool (x72.2 != 0)) ?_
  refine KT.joinO (β := Bool) 4 (fun r8 => [(81, (.bool r8)), (2, (.int .i64 p2_at)), (3, (.int .u8 p3_turn)), (9, (.pointer x48.1)), (10, (.pointer x48.2)), (11, (.int .i64 (Int.tmod p1_sector 3))), (12, (.int .i64 (w64 (14 + (w64 (Int.tdiv p1_sector 3)))))), (13, (.slice x72.1.base x72.1.len x72.1.cap))]) (fun r8 => ?_) (fun j8 => ?_)
  refine KT.nil ?_
  refine SX.seq ?_
  refine SC.cond (b := r8) rfl ?_ ?_
  refine SC.seq ?_
  refine SC.region' ?_
  refine KT.pv 8 (.bool false) ?_
  refine KT.nil ?_
  refine SX.seq ?_
  refine SC.ret ?_
  refine SX.then_ret ?_
  refine SX.ret [.tmp 8] rfl ?_
  refine RS.tmp (.bool false) rfl ?_
  exact RS.nil rfl
  refine SC.skip ?_
  refine SX.seq ?_
  refine SC.seq ?_
  refine SC.region' ?_
  refine KT.pv 83 (.pointer x48.1) ?_
  refine KT.cl (fun y : (Bool × Int) => (.tuple #[(.bool y.1), (.int .i64 y.2)])) 84 52 #[(.pointer x48.1), (.int .i64 3), (.int .i64 9)] (stripe_Sound_sim x48.1 3 9) (fun x84 => ?_)
  refine KT.pv 82 (.tuple #[(.bool x84.1), (.int .i64 x84.2)]) ?_
  refine KT.pv 85 (.bool x84.1) ?_
  refine KT.pv 86 (.int .i64 x84.2) ?_
  refine KT.pv 15 (.bool x84.1) ?_
  refine KT.pv 16 (.int .i64 x84.2) ?_
  refine KT.nil ?_
  refine SX.seq ?_
  refine SC.seq ?_
  refine SC.region' ?_
  refine KT.pv 87 (.slice x72.1.base x72.1.len x72.1.cap) ?_
  refine KT.pv 88 (.int .i64 p2_at) ?_
  refine KT.oy rfl (OY.idx (d := 89) (s := x72.1) (i := p2_at) (size := 1) (elem := 5) _ _ _ rfl rfl rfl (by kernel_rfl) (by kernel_rfl) rfl rfl (fun x89 => ?_))
  refine KT.l 90 (fun x90 => ?_)
  refine KT.pv 91 (.int .u8 p3_turn) ?_
  refine KT.pv 92 (.int .u8 (bXor .u8 x90 p3_turn)) ?_
  refine KT.oy rfl (OY.idx (d := 93) (s := x72.1) (i := p2_at) (size := 1) (elem := 5) _ _ _ rfl rfl rfl (by kernel_rfl) (by kernel_rfl) rfl rfl (fun x93 => ?_))
  refine KT.s ?_
  refine KT.nil ?_
  refine SX.seq ?_
  refine SC.seq ?_
  refine SC.seq ?_
  refine SC.region' ?_
  refine KT.pv 94 (.pointer x48.2) ?_
  refine KT.pv 95 (.int .i64 (Int.tmod p1_sector 3)) ?_
  refine KT.pv 96 (.int .i64 (w64 (14 + (w64 (Int.tdiv p1_sector 3))))) ?_
  refine KT.pv 97 (.slice x72.1.base x72.1.len x72.1.cap) ?_
  refine KT.cl (Value.int .i64) 98 39 #[(.pointer x48.2), (.int .i64 (Int.tmod p1_sector 3)), (.int .i64 (w64 (14 + (w64 (Int.tdiv p1_sector 3))))), (.slice x72.1.base x72.1.len x72.1.cap)] (device_Rack_Write_sim x48.2 (Int.tmod p1_sector 3) (w64 (14 + (w64 (Int.tdiv p1_sector 3)))) x72.1) (fun x98 => ?_)
  refine KT.pv 99 (.bool (x98 != 0)) ?_
  refine KT.nil ?_
  refine SX.seq ?_
  refine SC.cond (b := x98 != 0) rfl ?_ ?_
  refine SC.seq ?_
  refine SC.region' ?_
  refine KT.pv 8 (.bool false) ?_
  refine KT.nil ?_
  refine SX.seq ?_
  refine SC.ret ?_
  refine SX.then_ret ?_
  refine SX.ret [.tmp 8] rfl ?_
  refine RS.tmp (.bool false) rfl ?_
  exact RS.nil rfl
  refine SC.skip ?_
  refine SX.seq ?_
  refine SC.seq ?_
  refine SC.region' ?_
  refine KT.pv 101 (.pointer x48.1) ?_
  refine KT.cl (fun y : (Bool × Int) => (.tuple #[(.bool y.1), (.int .i64 y.2)])) 102 52 #[(.pointer x48.1), (.int .i64 3), (.int .i64 9)] (stripe_Sound_sim x48.1 3 9) (fun x102 => ?_)
  refine KT.pv 100 (.tuple #[(.bool x102.1), (.int .i64 x102.2)]) ?_
  refine KT.pv 103 (.bool x102.1) ?_
  refine KT.pv 104 (.int .i64 x102.2) ?_
  refine KT.pv 17 (.bool x102.1) ?_
  refine KT.pv 18 (.int .i64 x102.2) ?_
  refine KT.nil ?_
  refine SX.sub (T' := [(2, (.int .i64 p2_at)), (3, (.int .u8 p3_turn)), (9, (.pointer x48.1)), (10, (.pointer x48.2)), (11, (.int .i64 (Int.tmod p1_sector 3))), (12, (.int .i64 (w64 (14 + (w64 (Int.tdiv p1_sector 3)))))), (13, (.slice x72.1.base x72.1.len x72.1.cap)), (15, (.bool x84.1)), (17, (.bool x102.1))]) (.cons rfl (.cons rfl (.cons rfl (.cons rfl (.cons rfl (.cons rfl (.cons rfl (.cons rfl (.cons rfl (.nil)))))))))) ?_
  refine SX.seq ?_
  refine SC.seq ?_
  refine SC.region' ?_
  refine KT.pv 105 (.slice x72.1.base x72.1.len x72.1.cap) ?_
  refine KT.pv 106 (.int .i64 p2_at) ?_
  refine KT.oy rfl (OY.idx (d := 107) (s := x72.1) (i := p2_at) (size := 1) (elem := 5) _ _ _ rfl rfl rfl (by kernel_rfl) (by kernel_rfl) rfl rfl (fun x107 => ?_))
  refine KT.l 108 (fun x108 => ?_)
  refine KT.pv 109 (.int .u8 p3_turn) ?_
  refine KT.pv 110 (.int .u8 (bXor .u8 x108 p3_turn)) ?_
  refine KT.oy rfl (OY.idx (d := 111) (s := x72.1) (i := p2_at) (size := 1) (elem := 5) _ _ _ rfl rfl rfl (by kernel_rfl) (by kernel_rfl) rfl rfl (fun x111 => ?_))
  refine KT.s ?_
  refine KT.nil ?_
  refine SX.seq ?_
  refine SC.seq ?_
  refine SC.seq ?_
  refine SC.region' ?_
  refine KT.pv 112 (.pointer x48.2) ?_
  refine KT.pv 113 (.int .i64 (Int.tmod p1_sector 3)) ?_
  refine KT.pv 114 (.int .i64 (w64 (14 + (w64 (Int.tdiv p1_sector 3))))) ?_
  refine KT.pv 115 (.slice x72.1.base x72.1.len x72.1.cap) ?_
  refine KT.cl (Value.int .i64) 116 39 #[(.pointer x48.2), (.int .i64 (Int.tmod p1_sector 3)), (.int .i64 (w64 (14 + (w64 (Int.tdiv p1_sector 3))))), (.slice x72.1.base x72.1.len x72.1.cap)] (device_Rack_Write_sim x48.2 (Int.tmod p1_sector 3) (w64 (14 + (w64 (Int.tdiv p1_sector 3)))) x72.1) (fun x116 => ?_)
  refine KT.pv 117 (.bool (x116 != 0)) ?_
  refine KT.nil ?_
  refine SX.seq ?_
  refine SC.cond (b := x116 != 0) rfl ?_ ?_
  refine SC.seq ?_
  refine SC.region' ?_
  refine KT.pv 8 (.bool false) ?_
  refine KT.nil ?_
  refine SX.seq ?_
  refine SC.ret ?_
  refine SX.then_ret ?_
  refine SX.ret [.tmp 8] rfl ?_
  refine RS.tmp (.bool false) rfl ?_
  exact RS.nil rfl
  refine SC.skip ?_
  refine SX.seq ?_
  refine SC.seq ?_
  refine SC.region' ?_
  refine KT.pv 119 (.pointer x48.1) ?_
  refine KT.cl (fun y : (Bool × Int) => (.tuple #[(.bool y.1), (.int .i64 y.2)])) 120 52 #[(.pointer x48.1), (.int .i64 3), (.int .i64 9)] (stripe_Sound_sim x48.1 3 9) (fun x120 => ?_)
  refine KT.pv 118 (.tuple #[(.bool x120.1), (.int .i64 x120.2)]) ?_
  refine KT.pv 121 (.bool x120.1) ?_
  refine KT.pv 122 (.int .i64 x120.2) ?_
  refine KT.pv 19 (.bool x120.1) ?_
  refine KT.pv 20 (.int .i64 x120.2) ?_
  refine KT.nil ?_
  refine SX.seq ?_
  refine SC.seq ?_
  refine SC.region' ?_
  refine KT.pv 123 (.bool x84.1) ?_
  refine KT.pv 124 (.bool x84.1) ?_
  refine KT.joinO (β := Bool) 3 (fun r9 => [(127, (.bool r9)), (19, (.bool x120.1))]) (fun r9 => ?_) (fun j9 => ?_)
  refine KT.pv 128 (.bool r9) ?_
  refine KT.joinO (β := Bool) 2 (fun r10 => [(130, (.bool r10))]) (fun r10 => ?_) (fun j10 => ?_)
  refine KT.pv 8 (.bool r10) ?_
  refine KT.nil ?_
  refine SX.seq ?_
  refine SC.ret ?_
  refine SX.ret [.tmp 8] rfl ?_
  refine RS.tmp (.bool r10) rfl ?_
  exact RS.nil rfl
  refine KT.ite (b := r9) 128 rfl ?_ ?_
  refine KT.pv 129 (.bool x120.1) ?_
  refine KT.pv 130 (.bool x120.1) ?_
  exact KT.leafO j10 (.cons rfl (.nil))
  refine KT.sk ?_
  refine KT.pv 130 (.bool false) ?_
  exact KT.leafO j10 (.cons rfl (.nil))
  refine KT.ite (b := x84.1) 124 rfl ?_ ?_
  refine KT.pv 125 (.bool x102.1) ?_
  refine KT.pv 126 (.bool (!x102.1)) ?_
  refine KT.pv 127 (.bool (!x102.1)) ?_
  exact KT.leafO j9 (.cons rfl (.cons rfl (.nil)))
  refine KT.sk ?_
  refine KT.sk ?_
  refine KT.pv 127 (.bool false) ?_
  exact KT.leafO j9 (.cons rfl (.cons rfl (.nil)))
  refine KT.ite (b := x72.2 != 0) 77 rfl ?_ ?_
  refine KT.sk ?_
  refine KT.sk ?_
  refine KT.sk ?_
  refine KT.pv 81 (.bool true) ?_
  exact KT.leafO j8 (.cons rfl (.cons rfl (.cons rfl (.cons rfl (.cons rfl (.cons rfl (.cons rfl (.cons rfl (.nil)))))))))
  refine KT.pv 78 (.slice x72.1.base x72.1.len x72.1.cap) ?_
  refine KT.pv 79 (.int .i64 ((x72.1.len : Nat) : Int)) ?_
  refine KT.pv 80 (.bool (((x72.1.len : Nat) : Int) != 64)) ?_
  refine KT.pv 81 (.bool (((x72.1.len : Nat) : Int) != 64)) ?_
  exact KT.leafO j8 (.cons rfl (.cons rfl (.cons rfl (.cons rfl (.cons rfl (.cons rfl (.cons rfl (.cons rfl (.nil)))))))))
  refine KT.ite (b := r6) 57 rfl ?_ ?_
  refine KT.sk ?_
  refine KT.sk ?_
  refine KT.sk ?_
  refine KT.sk ?_
  refine KT.pv 62 (.bool true) ?_
  exact KT.leafO j7 (.cons rfl (.cons rfl (.cons rfl (.cons rfl (.cons rfl (.cons rfl (.nil)))))))
  refine KT.pv 58 (.pointer x48.1) ?_
  refine KT.pv 59 (.slice p0_blocks.base p0_blocks.len p0_blocks.cap) ?_
  refine KT.cl (Value.int .i64) 60 48 #[(.pointer x48.1), (.int .i64 3), (.int .i64 9), (.slice p0_blocks.base p0_blocks.len p0_blocks.cap)] (stripe_Write_sim x48.1 3 9 p0_blocks) (fun x60 => ?_)
  refine KT.pv 61 (.bool (x60 != 0)) ?_
  refine KT.pv 62 (.bool (x60 != 0)) ?_
  exact KT.leafO j7 (.cons rfl (.cons rfl (.cons rfl (.cons rfl (.cons rfl (.cons rfl (.nil)))))))
  refine KT.ite (b := (x48.1).isNone) 53 rfl ?_ ?_
  refine KT.sk ?_
  refine KT.sk ?_
  refine KT.pv 56 (.bool true) ?_
  exact KT.leafO j6 (.cons rfl (.cons rfl (.cons rfl (.cons rfl (.cons rfl (.cons rfl (.cons rfl (.nil))))))))
  refine KT.pv 54 (.pointer x48.2) ?_
  refine KT.oy rfl (OY.eqlNil (d := 55) (p := x48.2) _ _ _ _ rfl rfl rfl (by kernel_rfl) rfl rfl ?_)
  refine KT.pv 56 (.bool ((x48.2).isNone)) ?_
  exact KT.leafO j6 (.cons rfl (.cons rfl (.cons rfl (.cons rfl (.cons rfl (.cons rfl (.cons rfl (.nil))))))))
  refine KT.ite (b := r4) 42 rfl ?_ ?_
  refine KT.sk ?_
  refine KT.sk ?_
  refine KT.pv 45 (.bool true) ?_
  exact KT.leafO j5 (.cons rfl (.cons rfl (.cons rfl (.cons rfl (.cons rfl (.nil))))))
  refine KT.pv 43 (.int .u8 p3_turn) ?_
  refine KT.pv 44 (.bool (p3_turn == 0)) ?_
  refine KT.pv 45 (.bool (p3_turn == 0)) ?_
  exact KT.leafO j5 (.cons rfl (.cons rfl (.cons rfl (.cons rfl (.cons rfl (.nil))))))
  refine KT.ite (b := r3) 38 rfl ?_ ?_
  refine KT.sk ?_
  refine KT.sk ?_
  refine KT.pv 41 (.bool true) ?_
  exact KT.leafO j4 (.cons rfl (.cons rfl (.cons rfl (.cons rfl (.cons rfl (.nil))))))
  refine KT.pv 39 (.int .i64 p2_at) ?_
  refine KT.pv 40 (.bool (decide (p2_at ≥ 64))) ?_
  refine KT.pv 41 (.bool (decide (p2_at ≥ 64))) ?_
  exact KT.leafO j4 (.cons rfl (.cons rfl (.cons rfl (.cons rfl (.cons rfl (.nil))))))
  refine KT.ite (b := r2) 34 rfl ?_ ?_
  refine KT.sk ?_
  refine KT.sk ?_
  refine KT.pv 37 (.bool true) ?_
  exact KT.leafO j3 (.cons rfl (.cons rfl (.cons rfl (.cons rfl (.cons rfl (.nil))))))
  refine KT.pv 35 (.int .i64 p2_at) ?_
  refine KT.pv 36 (.bool (decide (p2_at < 0))) ?_
  refine KT.pv 37 (.bool (decide (p2_at < 0))) ?_
  exact KT.leafO j3 (.cons rfl (.cons rfl (.cons rfl (.cons rfl (.cons rfl (.nil))))))
  refine KT.ite (b := r1) 30 rfl ?_ ?_
  refine KT.sk ?_
  refine KT.sk ?_
  refine KT.pv 33 (.bool true) ?_
  exact KT.leafO j2 (.cons rfl (.cons rfl (.cons rfl (.cons rfl (.cons rfl (.nil))))))
  refine KT.pv 31 (.int .i64 p1_sector) ?_
  refine KT.pv 32 (.bool (decide (p1_sector > 8))) ?_
  refine KT.pv 33 (.bool (decide (p1_sector > 8))) ?_
  exact KT.leafO j2 (.cons rfl (.cons rfl (.cons rfl (.cons rfl (.cons rfl (.nil))))))
  refine KT.ite (b := !x24) 26 rfl ?_ ?_
  refine KT.sk ?_
  refine KT.sk ?_
  refine KT.pv 29 (.bool true) ?_
  exact KT.leafO j1 (.cons rfl (.cons rfl (.cons rfl (.cons rfl (.cons rfl (.nil))))))
  refine KT.pv 27 (.int .i64 p1_sector) ?_
  refine KT.pv 28 (.bool (decide (p1_sector < 0))) ?_
  refine KT.pv 29 (.bool (decide (p1_sector < 0))) ?_
  exact KT.leafO j1 (.cons rfl (.cons rfl (.cons rfl (.cons rfl (.cons rfl (.nil))))))

end Go.Proofs.Ytldmeimebebllaa
namespace Go.Proofs.Ytldmeimebebllaa
open Go.Mo
theorem disksOk : DisksOk (cvOf Try.prog) := fun b yv Q w hm =>
  enter_of (f := fid_bank_Bank_disks) (ags := #[.pointer b, yv]) (m := bank_Bank_disks (cvOf Try.prog) b yv) (enc := fun _ : Unit => .tuple #[]) (by simp [Deferred.ofValue, invoke]) (fun Qf' h => bank_Bank_disks_sim b yv Qf' w h) Q hm
end Go.Proofs.Ytldmeimebebllaa
namespace Go.Proofs.Ytldmeimebebllaa
open Go.Mo
theorem rowsOk : RowsOk (cvOf Try.prog) := fun a1 a2 yv Q w hm =>
  enter_of (f := fid_stripe_rows_c1) (ags := #[yv, .pointer (some a1), .pointer (some a2)]) (m := stripe_rows_c1 (cvOf Try.prog) yv a1 a2) (enc := fun _ : Unit => .tuple #[]) (by simp [Deferred.ofValue, invoke]) (fun Qf' h => stripe_rows_c1_sim yv a1 a2 Qf' w h) Q hm
end Go.Proofs.Ytldmeimebebllaa
