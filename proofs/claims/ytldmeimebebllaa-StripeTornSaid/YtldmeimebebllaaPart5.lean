/-
  A part of the proof: predicate transformers over the model, and a separation logic over them; what functions of the program do.
-/
import Derived.Test.YtldmeimebebllaaPart4
import Derived.Test.YtldmeimebebllaaProg
set_option linter.unusedSimpArgs false
namespace Go.Proofs.Ytldmeimebebllaa
open Go.Mo
set_option linter.unusedVariables false
set_option maxRecDepth 100000 in
theorem stripe_others_sim (p0_b : (Option Addr)) (p1_r : Slc) (p2_lost : (Int × Int)) (p3_seq : Int) (Qf : (Slc × Bool) → World → Prop) (w : World) (hm : stripe_others p0_b p1_r p2_lost p3_seq Qf w) : Calls Try.prog 86 #[(.pointer p0_b), (.slice p1_r.base p1_r.len p1_r.cap), (.agg #[(.int .i64 p2_lost.1), (.int .i64 p2_lost.2)]), (.int .i64 p3_seq)] w (RetPost (fun y : (Slc × Bool) => (.tuple #[(.slice y.1.base y.1.len y.1.cap), (.bool y.2)])) Qf) := by
  refine calls_of (fn := Try.f86) (l := [(.pointer p0_b), (.slice p1_r.base p1_r.len p1_r.cap), (.agg #[(.int .i64 p2_lost.1), (.int .i64 p2_lost.2)]), (.int .i64 p3_seq)]) (m := stripe_others p0_b p1_r p2_lost p3_seq) 42 (by kernel_rfl) rfl rfl rfl (fun Qf0 => ?_) Qf w hm
  clear hm w Qf
  unfold stripe_others
  refine SC.seq ?_
  refine SC.region' ?_
  refine KT.nw 6 (fun ad => .pointer (some ad)) 140 (fun x6 => ?_)
  refine KT.pv 8 (.slice none 0 0) ?_
  refine KT.pv 9 (.bool false) ?_
  refine KT.nil ?_
  refine SX.seq ?_
  refine SC.seq ?_
  refine SC.region' ?_
  refine KT.pv 10 (.slice none 0 0) ?_
  refine KT.nil ?_
  refine SX.seq ?_
  refine SC.seq ?_
  refine SC.seq ?_
  refine SC.region' ?_
  refine KT.pv 15 (.slice p1_r.base p1_r.len p1_r.cap) ?_
  refine KT.pv 16 (.int .i64 ((p1_r.len : Nat) : Int)) ?_
  refine KT.pv 17 (.int .i64 0) ?_
  refine KT.nil ?_
  refine SX.seq ?_
  refine SC.block ?_
  refine SC.loop (σ := (Slc × Int)) (fun s1 => [(0, (.pointer p0_b)), (3, (.int .i64 p3_seq)), (6, (.pointer (some x6))), (10, (.slice s1.1.base s1.1.len s1.1.cap)), (15, (.slice p1_r.base p1_r.len p1_r.cap)), (16, (.int .i64 ((p1_r.len : Nat) : Int))), (17, (.int .i64 s1.2))]) (.cons rfl (.cons rfl (.cons rfl (.cons rfl (.cons rfl (.cons rfl (.cons rfl (.nil)))))))) (fun _ _ _ s1 => ?_)
  refine SC.seq ?_
  refine SC.region' ?_
  refine KT.pv 18 (.bool (decide (s1.2 < ((p1_r.len : Nat) : Int)))) ?_
  refine KT.nil ?_
  refine SX.seq ?_
  refine SC.seq ?_
  refine SC.cond (b := decide (s1.2 < ((p1_r.len : Nat) : Int))) rfl ?_ ?_
  refine SC.skip ?_
  refine SX.seq ?_
  refine SC.seq ?_
  refine SC.block ?_
  refine SC.seq ?_
  refine SC.region' ?_
  refine KT.oy rfl (OY.idx (d := 19) (s := p1_r) (i := s1.2) (size := 2) (elem := 140) _ _ _ rfl rfl rfl (by kernel_rfl) (by kernel_rfl) rfl rfl (fun x19 => ?_))
  refine KT.ow rfl (OW.ldA (d := 20) (enc := (fun y : (Int × Int) => [(.int .i64 y.1), (.int .i64 y.2)])) 2 _ _ rfl rfl (by kernel_rfl) (by kernel_rfl) (fun _ => rfl) rfl rfl (fun x20 => ?_))
  refine KT.nw 12 (fun ad => .pointer (some ad)) 140 (fun x12 => ?_)
  refine KT.ow rfl (OW.stA _ _ _ rfl rfl rfl rfl rfl (by kernel_rfl) ?_)
  refine KT.nil ?_
  refine SX.seq ?_
  refine SC.seq ?_
  refine SC.seq ?_
  refine SC.region' ?_
  refine KT.ow rfl (OW.ldA (d := 21) (enc := (fun y : (Int × Int) => [(.int .i64 y.1), (.int .i64 y.2)])) 2 _ _ rfl rfl (by kernel_rfl) (by kernel_rfl) (fun _ => rfl) rfl rfl (fun x21 => ?_))
  refine KT.ow rfl (OW.ldA (d := 22) (enc := (fun y : (Int × Int) => [(.int .i64 y.1), (.int .i64 y.2)])) 2 _ _ rfl rfl (by kernel_rfl) (by kernel_rfl) (fun _ => rfl) rfl rfl (fun x22 => ?_))
  refine KT.oy rfl (OY.eqlAgg2 (d := 23) (x := (x21.1, x21.2)) (y := (x22.1, x22.2)) _ _ _ _ _ _ rfl rfl rfl rfl (by kernel_rfl) rfl rfl ?_)
  refine KT.nil ?_
  refine SX.seq ?_
  refine SC.cond (b := eq2 (x21.1, x21.2) (x22.1, x22.2)) rfl ?_ ?_
  refine SC.exit ?_
  refine SX.then_exit ?_
  refine SX.block_hit ?_
  refine SX.seq ?_
  refine SC.region' ?_
  refine KT.pv 37 (.int .i64 (w64 (s1.2 + 1))) ?_
  refine KT.pv 17 (.int .i64 (w64 (s1.2 + 1))) ?_
  refine KT.nil ?_
  exact SX.loop_next (.cons rfl (.cons rfl (.cons rfl (.cons rfl (.cons rfl (.cons rfl (.cons rfl (.nil))))))))
  refine SC.skip ?_
  refine SX.seq ?_
  refine SC.seq ?_
  refine SC.region' ?_
  refine KT.pv 25 (.pointer p0_b) ?_
  refine KT.ow rfl (OW.ldA (d := 26) (enc := (fun y : (Int × Int) => [(.int .i64 y.1), (.int .i64 y.2)])) 2 _ _ rfl rfl (by kernel_rfl) (by kernel_rfl) (fun _ => rfl) rfl rfl (fun x26 => ?_))
  refine KT.pv 27 (.int .i64 p3_seq) ?_
  refine KT.cl (fun y : (Slc × Bool) => (.tuple #[(.slice y.1.base y.1.len y.1.cap), (.bool y.2)])) 28 85 #[(.pointer p0_b), (.agg #[(.int .i64 x26.1), (.int .i64 x26.2)]), (.int .i64 p3_seq)] (stripe_good_sim p0_b (x26.1, x26.2) p3_seq) (fun x28 => ?_)
  refine KT.pv 24 (.tuple #[(.slice x28.1.base x28.1.len x28.1.cap), (.bool x28.2)]) ?_
  refine KT.pv 29 (.slice x28.1.base x28.1.len x28.1.cap) ?_
  refine KT.pv 30 (.bool x28.2) ?_
  refine KT.pv 13 (.slice x28.1.base x28.1.len x28.1.cap) ?_
  refine KT.pv 14 (.bool x28.2) ?_
  refine KT.nil ?_
  refine SX.seq ?_
  refine SC.seq ?_
  refine SC.seq ?_
  refine SC.region' ?_
  refine KT.pv 31 (.bool x28.2) ?_
  refine KT.pv 32 (.bool (!x28.2)) ?_
  refine KT.nil ?_
  refine SX.seq ?_
  refine SC.cond (b := !x28.2) rfl ?_ ?_
  refine SC.seq ?_
  refine SC.region' ?_
  refine KT.pv 8 (.slice none 0 0) ?_
  refine KT.pv 9 (.bool false) ?_
  refine KT.nil ?_
  refine SX.seq ?_
  refine SC.ret ?_
  refine SX.then_ret ?_
  refine SX.block_ret ?_
  refine SX.then_ret ?_
  refine SX.loop_ret ?_
  refine SX.block_ret ?_
  refine SX.then_ret ?_
  refine SX.ret [.tmp 8, .tmp 9] rfl ?_
  refine RS.tmp (.slice none 0 0) rfl ?_
  refine RS.tmp (.bool false) rfl ?_
  exact RS.nil rfl
  refine SC.skip ?_
  refine SX.seq ?_
  refine SC.region' ?_
  refine KT.pv 33 (.slice s1.1.base s1.1.len s1.1.cap) ?_
  refine KT.pv 34 (.slice x28.1.base x28.1.len x28.1.cap) ?_
  refine KT.nw 35 (fun ad => .slice (some ad) 1 1) 46 (fun x35 => ?_)
  refine KT.ow rfl (OW.append (d := 36) (s := s1.1) (x := ⟨some x35, 1, 1⟩) [(.slice none 0 0)] 24 46 _ _ _ _ rfl rfl rfl rfl (by kernel_rfl) (by kernel_rfl) rfl rfl rfl (fun x36 => ?_))
  refine KT.pv 10 (.slice x36.base x36.len x36.cap) ?_
  refine KT.nil ?_
  refine SX.sub (T' := [(0, (.pointer p0_b)), (3, (.int .i64 p3_seq)), (6, (.pointer (some x6))), (10, (.slice x36.base x36.len x36.cap)), (15, (.slice p1_r.base p1_r.len p1_r.cap)), (16, (.int .i64 ((p1_r.len : Nat) : Int))), (17, (.int .i64 s1.2))]) (.cons rfl (.cons rfl (.cons rfl (.cons rfl (.cons rfl (.cons rfl (.cons rfl (.nil)))))))) ?_
  refine SX.block ?_
  refine SX.seq ?_
  refine SC.region' ?_
  refine KT.pv 37 (.int .i64 (w64 (s1.2 + 1))) ?_
  refine KT.pv 17 (.int .i64 (w64 (s1.2 + 1))) ?_
  refine KT.nil ?_
  exact SX.loop_next (.cons rfl (.cons rfl (.cons rfl (.cons rfl (.cons rfl (.cons rfl (.cons rfl (.nil))))))))
  refine SC.exit ?_
  refine SX.then_exit ?_
  refine SX.loop_exit ?_
  refine SX.block_hit ?_
  refine SX.seq ?_
  refine SC.seq ?_
  refine SC.region' ?_
  refine KT.pv 38 (.slice s1.1.base s1.1.len s1.1.cap) ?_
  refine KT.cl (fun y : (Slc × Bool) => (.tuple #[(.slice y.1.base y.1.len y.1.cap), (.bool y.2)])) 39 126 #[(.slice s1.1.base s1.1.len s1.1.cap)] (sector_Restore_sim s1.1) (fun x39 => ?_)
  refine KT.pv 40 (.slice x39.1.base x39.1.len x39.1.cap) ?_
  refine KT.pv 41 (.bool x39.2) ?_
  refine KT.pv 8 (.slice x39.1.base x39.1.len x39.1.cap) ?_
  refine KT.pv 9 (.bool x39.2) ?_
  refine KT.nil ?_
  refine SX.seq ?_
  refine SC.ret ?_
  refine SX.ret [.tmp 8, .tmp 9] rfl ?_
  refine RS.tmp (.slice x39.1.base x39.1.len x39.1.cap) rfl ?_
  refine RS.tmp (.bool x39.2) rfl ?_
  exact RS.nil rfl
set_option maxRecDepth 100000 in
theorem stripe_Read_sim (p0_b : (Option Addr)) (p1_seg : Int) (p2_k : Int) (p3_seq : Int) (Qf : ((Int × Int × Slc) × Int) → World → Prop) (w : World) (hm : stripe_Read (cvOf Try.prog) p0_b p1_seg p2_k p3_seq Qf w) : Calls Try.prog 50 #[(.pointer p0_b), (.int .i64 p1_seg), (.int .i64 p2_k), (.int .i64 p3_seq)] w (RetPost (fun y : ((Int × Int × Slc) × Int) => (.tuple #[(.agg #[(.int .i64 y.1.1), (.int .i64 y.1.2.1), (.slice y.1.2.2.base y.1.2.2.len y.1.2.2.cap)]), (.int .i64 y.2)])) Qf) := by
  refine calls_of (fn := Try.f50) (l := [(.pointer p0_b), (.int .i64 p1_seg), (.int .i64 p2_k), (.int .i64 p3_seq)]) (m := stripe_Read (cvOf Try.prog) p0_b p1_seg p2_k p3_seq) 80 (by kernel_rfl) rfl rfl rfl (fun Qf0 => ?_) Qf w hm
  clear hm w Qf
  unfold stripe_Read
  refine SC.seq ?_
  refine SC.region' ?_
  refine KT.nw 4 (fun ad => .pointer (some ad)) 38 (fun x4 => ?_)
  refine KT.nw 6 (fun ad => .pointer (some ad)) 3 (fun x6 => ?_)
  refine KT.nw 7 (fun ad => .pointer (some ad)) 3 (fun x7 => ?_)
  refine KT.nw 8 (fun ad => .pointer (some ad)) 78 (fun x8 => ?_)
  refine KT.pv 9 (.int .i64 0) ?_
  refine KT.nil ?_
  refine SX.seq ?_
  refine SC.seq ?_
  refine SC.region' ?_
  refine KT.l 19 (fun x19 => ?_)
  refine KT.cl (fun y : (Int × Int × Int) => (.agg #[(.int .i64 y.1), (.int .i64 y.2.1), (.int .i64 y.2.2)])) 20 63 #[(.pointer x19)] (bank_Bank_Geo_sim x19) (fun x20 => ?_)
  refine KT.nw 10 (fun ad => .pointer (some ad)) 23 (fun x10 => ?_)
  refine KT.ow rfl (OW.stA _ _ _ rfl rfl rfl rfl rfl (by kernel_rfl) ?_)
  refine KT.nil ?_
  refine SX.seq ?_
  refine SC.seq ?_
  refine SC.region' ?_
  refine KT.ow rfl (OW.ldA (d := 22) (enc := (fun y : (Int × Int × Int) => [(.int .i64 y.1), (.int .i64 y.2.1), (.int .i64 y.2.2)])) 3 _ _ rfl rfl (by kernel_rfl) (by kernel_rfl) (fun _ => rfl) rfl rfl (fun x22 => ?_))
  refine KT.pv 23 (.int .i64 p1_seg) ?_
  refine KT.l 24 (fun x24 => ?_)
  refine KT.cl (fun y : ((Int × Int) × Bool) => (.tuple #[(.agg #[(.int .i64 y.1.1), (.int .i64 y.1.2)]), (.bool y.2)])) 25 83 #[(.agg #[(.int .i64 x22.1), (.int .i64 x22.2.1), (.int .i64 x22.2.2)]), (.int .i64 p1_seg), (.int .i64 x24)] (geo_Block_sim (x22.1, x22.2.1, x22.2.2) p1_seg x24) (fun x25 => ?_)
  refine KT.pv 21 (.tuple #[(.agg #[(.int .i64 x25.1.1), (.int .i64 x25.1.2)]), (.bool x25.2)]) ?_
  refine KT.pv 26 (.agg #[(.int .i64 x25.1.1), (.int .i64 x25.1.2)]) ?_
  refine KT.pv 27 (.bool x25.2) ?_
  refine KT.nw 11 (fun ad => .pointer (some ad)) 140 (fun x11 => ?_)
  refine KT.nw 12 (fun ad => .pointer (some ad)) 4 (fun x12 => ?_)
  refine KT.ow rfl (OW.stA _ _ _ rfl rfl rfl rfl rfl (by kernel_rfl) ?_)
  refine KT.s ?_
  refine KT.nil ?_
  refine SX.seq ?_
  refine SC.seq ?_
  refine SC.block ?_
  refine SC.seq ?_
  refine SC.region' ?_
  refine KT.l 29 (fun x29 => ?_)
  refine KT.pv 30 (.bool (!x29)) ?_
  refine KT.pv 28 (.bool (!x29)) ?_
  refine KT.nil ?_
  refine SX.seq ?_
  refine SC.cond (b := !x29) rfl ?_ ?_
  refine SC.seq ?_
  refine SC.region' ?_
  refine KT.pv 31 (.agg #[(.int .i64 0), (.int .i64 0), (.slice none 0 0)]) ?_
  refine KT.ow rfl (OW.stA _ _ _ rfl rfl rfl rfl rfl (by kernel_rfl) ?_)
  refine KT.pv 9 (.int .i64 28) ?_
  refine KT.nil ?_
  refine SX.seq ?_
  refine SC.ret ?_
  refine SX.block_ret ?_
  refine SX.then_ret ?_
  refine SX.ret [.cell 8 78, .tmp 9] rfl ?_
  refine RS.cellA 3 (by kernel_rfl) rfl rfl (fun _ => rfl) (fun r8 => ?_)
  refine RS.tmp (.int .i64 28) rfl ?_
  exact RS.nil rfl
  refine SC.seq ?_
  refine SC.region' ?_
  refine KT.l 33 (fun x33 => ?_)
  refine KT.cl Value.bool 34 84 #[(.pointer x33)] (bank_Bank_Off_sim x33) (fun x34 => ?_)
  refine KT.pv 32 (.bool x34) ?_
  refine KT.nil ?_
  refine SX.seq ?_
  refine SC.cond (b := x34) rfl ?_ ?_
  refine SC.seq ?_
  refine SC.region' ?_
  refine KT.pv 35 (.agg #[(.int .i64 0), (.int .i64 0), (.slice none 0 0)]) ?_
  refine KT.ow rfl (OW.stA _ _ _ rfl rfl rfl rfl rfl (by kernel_rfl) ?_)
  refine KT.pv 9 (.int .i64 12) ?_
  refine KT.nil ?_
  refine SX.seq ?_
  refine SC.ret ?_
  refine SX.block_ret ?_
  refine SX.then_ret ?_
  refine SX.ret [.cell 8 78, .tmp 9] rfl ?_
  refine RS.cellA 3 (by kernel_rfl) rfl rfl (fun _ => rfl) (fun r8 => ?_)
  refine RS.tmp (.int .i64 12) rfl ?_
  exact RS.nil rfl
  refine SC.skip ?_
  refine SX.block ?_
  refine SX.seq ?_
  refine SC.seq ?_
  refine SC.region' ?_
  refine KT.l 37 (fun x37 => ?_)
  refine KT.ow rfl (OW.ldA (d := 38) (enc := (fun y : (Int × Int) => [(.int .i64 y.1), (.int .i64 y.2)])) 2 _ _ rfl rfl (by kernel_rfl) (by kernel_rfl) (fun _ => rfl) rfl rfl (fun x38 => ?_))
  refine KT.l 39 (fun x39 => ?_)
  refine KT.cl (fun y : (Slc × Bool) => (.tuple #[(.slice y.1.base y.1.len y.1.cap), (.bool y.2)])) 40 85 #[(.pointer x37), (.agg #[(.int .i64 x38.1), (.int .i64 x38.2)]), (.int .i64 x39)] (stripe_good_sim x37 (x38.1, x38.2) x39) (fun x40 => ?_)
  refine KT.pv 36 (.tuple #[(.slice x40.1.base x40.1.len x40.1.cap), (.bool x40.2)]) ?_
  refine KT.pv 41 (.slice x40.1.base x40.1.len x40.1.cap) ?_
  refine KT.pv 42 (.bool x40.2) ?_
  refine KT.nw 13 (fun ad => .pointer (some ad)) 46 (fun x13 => ?_)
  refine KT.s ?_
  refine KT.s ?_
  refine KT.nil ?_
  refine SX.sub (T' := [(1, (.int .i64 p1_seg)), (4, (.pointer (some x4))), (6, (.pointer (some x6))), (7, (.pointer (some x7))), (8, (.pointer (some x8))), (9, (.int .i64 0)), (10, (.pointer (some x10))), (11, (.pointer (some x11))), (12, (.pointer (some x12))), (13, (.pointer (some x13)))]) (.cons rfl (.cons rfl (.cons rfl (.cons rfl (.cons rfl (.cons rfl (.cons rfl (.cons rfl (.cons rfl (.cons rfl (.nil))))))))))) ?_
  refine SX.seq ?_
  refine SC.seq ?_
  refine SC.seq ?_
  refine SC.region' ?_
  refine KT.l 43 (fun x43 => ?_)
  refine KT.pv 44 (.bool (!x43)) ?_
  refine KT.nil ?_
  refine SX.seq ?_
  refine SC.joinN (β := List Nat) (fun b1 => ⟨80, b1⟩) (fun b1 => [(8, (.pointer (some x8))), (12, (.pointer (some x12))), (13, (.pointer (some x13)))]) (fun b1 => ?_) (fun j1 => ?_)
  refine SX.seq ?_
  refine SC.seq ?_
  refine SC.seq ?_
  refine SC.region' ?_
  refine KT.l 65 (fun x65 => ?_)
  refine KT.pv 66 (.bool (!x65)) ?_
  refine KT.nil ?_
  refine SX.seq ?_
  refine SC.cond (b := !x65) rfl ?_ ?_
  refine SC.seq ?_
  refine SC.region' ?_
  refine KT.pv 67 (.agg #[(.int .i64 0), (.int .i64 0), (.slice none 0 0)]) ?_
  refine KT.ow rfl (OW.stA _ _ _ rfl rfl rfl rfl rfl (by kernel_rfl) ?_)
  refine KT.pv 9 (.int .i64 14) ?_
  refine KT.nil ?_
  refine SX.seq ?_
  refine SC.ret ?_
  refine SX.then_ret ?_
  refine SX.ret [.cell 8 78, .tmp 9] rfl ?_
  refine RS.cellA 3 (by kernel_rfl) rfl rfl (fun _ => rfl) (fun r8 => ?_)
  refine RS.tmp (.int .i64 14) rfl ?_
  exact RS.nil rfl
  refine SC.skip ?_
  refine SX.seq ?_
  refine SC.seq ?_
  refine SC.region' ?_
  refine KT.l 69 (fun x69 => ?_)
  refine KT.cl (fun y : ((Int × Int × Int) × Slc × Bool) => (.tuple #[(.agg #[(.int .i64 y.1.1), (.int .i64 y.1.2.1), (.int .i64 y.1.2.2)]), (.slice y.2.1.base y.2.1.len y.2.1.cap), (.bool y.2.2)])) 70 82 #[(.slice x69.base x69.len x69.cap)] (sector_Decode_sim x69) (fun x70 => ?_)
  refine KT.pv 68 (.tuple #[(.agg #[(.int .i64 x70.1.1), (.int .i64 x70.1.2.1), (.int .i64 x70.1.2.2)]), (.slice x70.2.1.base x70.2.1.len x70.2.1.cap), (.bool x70.2.2)]) ?_
  refine KT.pv 71 (.agg #[(.int .i64 x70.1.1), (.int .i64 x70.1.2.1), (.int .i64 x70.1.2.2)]) ?_
  refine KT.pv 72 (.slice x70.2.1.base x70.2.1.len x70.2.1.cap) ?_
  refine KT.pv 73 (.bool x70.2.2) ?_
  refine KT.nw 16 (fun ad => .pointer (some ad)) 144 (fun x16 => ?_)
  refine KT.ow rfl (OW.stA _ _ _ rfl rfl rfl rfl rfl (by kernel_rfl) ?_)
  refine KT.pv 17 (.slice x70.2.1.base x70.2.1.len x70.2.1.cap) ?_
  refine KT.pv 18 (.bool x70.2.2) ?_
  refine KT.nil ?_
  refine SX.seq ?_
  refine SC.seq ?_
  refine SC.region' ?_
  refine KT.pv 74 (.pointer (some (Addr.add x16 1))) ?_
  refine KT.l 75 (fun x75 => ?_)
  refine KT.pv 76 (.pointer (some (Addr.add x16 2))) ?_
  refine KT.l 77 (fun x77 => ?_)
  refine KT.pv 78 (.slice x70.2.1.base x70.2.1.len x70.2.1.cap) ?_
  refine KT.pv 79 (.agg #[(.int .i64 x75), (.int .i64 x77), (.slice x70.2.1.base x70.2.1.len x70.2.1.cap)]) ?_
  refine KT.ow rfl (OW.stA _ _ _ rfl rfl rfl rfl rfl (by kernel_rfl) ?_)
  refine KT.pv 9 (.int .i64 0) ?_
  refine KT.nil ?_
  refine SX.seq ?_
  refine SC.ret ?_
  refine SX.ret [.cell 8 78, .tmp 9] rfl ?_
  refine RS.cellA 3 (by kernel_rfl) rfl rfl (fun _ => rfl) (fun r8 => ?_)
  refine RS.tmp (.int .i64 0) rfl ?_
  exact RS.nil rfl
  refine SC.cond (b := !x43) rfl ?_ ?_
  refine SC.seq ?_
  refine SC.region' ?_
  refine KT.ow rfl (OW.ldA (d := 45) (enc := (fun y : (Int × Int × Int) => [(.int .i64 y.1), (.int .i64 y.2.1), (.int .i64 y.2.2)])) 3 _ _ rfl rfl (by kernel_rfl) (by kernel_rfl) (fun _ => rfl) rfl rfl (fun x45 => ?_))
  refine KT.pv 46 (.int .i64 p1_seg) ?_
  refine KT.cl (fun v : Value => v) 47 78 #[(.agg #[(.int .i64 x45.1), (.int .i64 x45.2.1), (.int .i64 x45.2.2)]), (.int .i64 p1_seg)] (stripe_rows_sim (x45.1, x45.2.1, x45.2.2) p1_seg) (fun x47 => ?_)
  refine KT.nil ?_
  refine SX.seq ?_
  refine SC.block ?_
  refine SC.rangeF (ξ := (Int × Slc)) (τ := (Int × Slc)) (fv := x47) (ps := [48, 49]) (encX := (fun x_2 : (Int × Slc) => [(.int .i64 x_2.1), (.slice x_2.2.base x_2.2.len x_2.2.cap)])) (fun t_2 => [(4, (.pointer (some x4))), (6, (.pointer (some x6))), (7, (.pointer (some x7))), (10, (.pointer (some x10))), (11, (.pointer (some x11))), (12, (.pointer (some x12))), (13, (.pointer (some x13))), (14, (.int .i64 t_2.1)), (15, (.slice t_2.2.base t_2.2.len t_2.2.cap))]) rfl (fun _ => rfl) rfl (fun _ x_2 _ _ h2 => ?_) (fun _ _ _ t_2 => ?_) (fun D2 => ?_) (fun D2 => ?_) (fun D2 i2 => ?_)
  refine SC.seq ?_
  refine SC.region' ?_
  refine KT.pv 14 (.int .i64 x_2.1) ?_
  refine KT.nil ?_
  refine SX.seq ?_
  refine SC.region' ?_
  refine KT.pv 15 (.slice x_2.2.base x_2.2.len x_2.2.cap) ?_
  refine KT.nil ?_
  exact SX.leafP h2 (.cons rfl (.cons rfl (.cons rfl (.cons rfl (.cons rfl (.cons rfl (.cons rfl (.cons rfl (.cons rfl (.nil))))))))))
  refine SC.block ?_
  refine SC.seq ?_
  refine SC.region' ?_
  refine KT.pv 50 (.int .i64 t_2.1) ?_
  refine KT.l 51 (fun x51 => ?_)
  refine KT.pv 52 (.pointer (some x10)) ?_
  refine KT.l 53 (fun x53 => ?_)
  refine KT.pv 54 (.int .i64 (w64 (x53 - 1))) ?_
  refine KT.oy rfl (OY.quo (d := 55) (x := x51) (y := w64 (x53 - 1)) _ _ _ _ (w64 (Int.tdiv x51 (w64 (x53 - 1)))) rfl rfl rfl rfl rfl rfl ?_)
  refine KT.pv 56 (.bool (t_2.1 == (w64 (Int.tdiv x51 (w64 (x53 - 1)))))) ?_
  refine KT.nil ?_
  refine SX.seq ?_
  refine SC.cond (b := t_2.1 == (w64 (Int.tdiv x51 (w64 (x53 - 1))))) rfl ?_ ?_
  refine SC.region' ?_
  refine KT.l 58 (fun x58 => ?_)
  refine KT.pv 59 (.slice t_2.2.base t_2.2.len t_2.2.cap) ?_
  refine KT.ow rfl (OW.ldA (d := 60) (enc := (fun y : (Int × Int) => [(.int .i64 y.1), (.int .i64 y.2)])) 2 _ _ rfl rfl (by kernel_rfl) (by kernel_rfl) (fun _ => rfl) rfl rfl (fun x60 => ?_))
  refine KT.l 61 (fun x61 => ?_)
  refine KT.cl (fun y : (Slc × Bool) => (.tuple #[(.slice y.1.base y.1.len y.1.cap), (.bool y.2)])) 62 86 #[(.pointer x58), (.slice t_2.2.base t_2.2.len t_2.2.cap), (.agg #[(.int .i64 x60.1), (.int .i64 x60.2)]), (.int .i64 x61)] (stripe_others_sim x58 t_2.2 (x60.1, x60.2) x61) (fun x62 => ?_)
  refine KT.pv 57 (.tuple #[(.slice x62.1.base x62.1.len x62.1.cap), (.bool x62.2)]) ?_
  refine KT.pv 63 (.slice x62.1.base x62.1.len x62.1.cap) ?_
  refine KT.pv 64 (.bool x62.2) ?_
  refine KT.s ?_
  refine KT.s ?_
  refine KT.nil ?_
  refine SX.block ?_
  exact SX.round_next
  refine SC.skip ?_
  refine SX.block ?_
  exact SX.round_next
  refine SX.block ?_
  exact SX.leafN j1 rfl (.cons rfl (.cons rfl (.cons rfl (.nil))))
  exact SX.fail
  exact SX.fail
  refine SC.skip ?_
  exact SX.leafN j1 rfl (.cons rfl (.cons rfl (.cons rfl (.nil))))
set_option maxRecDepth 100000 in
theorem law07_alive_sim  (Qf : Bool → World → Prop) (w : World) (hm : law07_alive (cvOf Try.prog)  Qf w) : Calls Try.prog 45 #[] w (RetPost Value.bool Qf) := by
  refine calls_of (fn := Try.f45) (l := []) (m := law07_alive (cvOf Try.prog) ) 99 (by kernel_rfl) rfl rfl rfl (fun Qf0 => ?_) Qf w hm
  clear hm w Qf
  unfold law07_alive
  refine SC.seq ?_
  refine SC.region' ?_
  refine KT.pv 0 (.bool false) ?_
  refine KT.nil ?_
  refine SX.seq ?_
  refine SC.seq ?_
  refine SC.region' ?_
  refine KT.pv 11 (.agg #[(.int .i64 0), (.int .i64 0), (.int .i64 0)]) ?_
  refine KT.cl (fun y : ((Option Addr) × (Option Addr)) => (.tuple #[(.pointer y.1), (.pointer y.2)])) 12 47 #[(.agg #[(.int .i64 0), (.int .i64 0), (.int .i64 0)])] (law07_Open_sim (0, 0, 0)) (fun x12 => ?_)
  refine KT.pv 10 (.tuple #[(.pointer x12.1), (.pointer x12.2)]) ?_
  refine KT.pv 13 (.pointer x12.1) ?_
  refine KT.pv 14 (.pointer x12.2) ?_
  refine KT.pv 1 (.pointer x12.1) ?_
  refine KT.pv 2 (.pointer x12.2) ?_
  refine KT.nil ?_
  refine SX.seq ?_
  refine SC.seq ?_
  refine SC.seq ?_
  refine SC.region' ?_
  refine KT.pv 15 (.pointer x12.1) ?_
  refine KT.oy rfl (OY.eqlNil (d := 16) (p := x12.1) _ _ _ _ rfl rfl rfl (by kernel_rfl) rfl rfl ?_)
  refine KT.pv 17 (.bool ((x12.1).isNone)) ?_
  refine KT.joinO (β := Bool) 3 (fun r1 => [(20, (.bool r1)), (1, (.pointer x12.1)), (2, (.pointer x12.2))]) (fun r1 => ?_) (fun j1 => ?_)
  refine KT.pv 21 (.bool r1) ?_
  refine KT.joinO (β := Bool) 9 (fun r2 => [(30, (.bool r2)), (1, (.pointer x12.1)), (2, (.pointer x12.2))]) (fun r2 => ?_) (fun j2 => ?_)
  refine KT.nil ?_
  refine SX.seq ?_
  refine SC.cond (b := r2) rfl ?_ ?_
  refine SC.seq ?_
  refine SC.region' ?_
  refine KT.pv 0 (.bool false) ?_
  refine KT.nil ?_
  refine SX.seq ?_
  refine SC.ret ?_
  refine SX.then_ret ?_
  refine SX.ret [.tmp 0] rfl ?_
  refine RS.tmp (.bool false) rfl ?_
  exact RS.nil rfl
  refine SC.skip ?_
  refine SX.seq ?_
  refine SC.seq ?_
  refine SC.region' ?_
  refine KT.pv 31 (.pointer x12.2) ?_
  refine KT.cl (Value.int .i64) 32 34 #[(.pointer x12.2), (.int .i64 0), (.int .i64 0)] (device_Rack_Doom_sim x12.2 0 0) (fun x32 => ?_)
  refine KT.nil ?_
  refine SX.seq ?_
  refine SC.seq ?_
  refine SC.seq ?_
  refine SC.region' ?_
  refine KT.pv 33 (.pointer x12.1) ?_
  refine KT.cl (Value.int .i64) 34 35 #[(.pointer x12.1)] (bank_Bank_Flush_sim x12.1) (fun x34 => ?_)
  refine KT.pv 35 (.bool (x34 != 0)) ?_
  refine KT.nil ?_
  refine SX.seq ?_
  refine SC.cond (b := x34 != 0) rfl ?_ ?_
  refine SC.seq ?_
  refine SC.region' ?_
  refine KT.pv 0 (.bool false) ?_
  refine KT.nil ?_
  refine SX.seq ?_
  refine SC.ret ?_
  refine SX.then_ret ?_
  refine SX.ret [.tmp 0] rfl ?_
  refine RS.tmp (.bool false) rfl ?_
  exact RS.nil rfl
  refine SC.skip ?_
  refine SX.seq ?_
  refine SC.seq ?_
  refine SC.region' ?_
  refine KT.pv 37 (.pointer x12.1) ?_
  refine KT.cl (fun y : (Int × Bool × Int) => (.tuple #[(.int .i64 y.1), (.bool y.2.1), (.int .i64 y.2.2)])) 38 49 #[(.pointer x12.1), (.int .i64 2)] (stripe_Whole_sim x12.1 2) (fun x38 => ?_)
  refine KT.pv 36 (.tuple #[(.int .i64 x38.1), (.bool x38.2.1), (.int .i64 x38.2.2)]) ?_
  refine KT.pv 39 (.int .i64 x38.1) ?_
  refine KT.pv 40 (.bool x38.2.1) ?_
  refine KT.pv 41 (.int .i64 x38.2.2) ?_
  refine KT.pv 3 (.int .i64 x38.1) ?_
  refine KT.pv 4 (.bool x38.2.1) ?_
  refine KT.pv 5 (.int .i64 x38.2.2) ?_
  refine KT.nil ?_
  refine SX.seq ?_
  refine SC.seq ?_
  refine SC.region' ?_
  refine KT.pv 43 (.pointer x12.1) ?_
  refine KT.cl (fun y : ((Int × Int × Slc) × Int) => (.tuple #[(.agg #[(.int .i64 y.1.1), (.int .i64 y.1.2.1), (.slice y.1.2.2.base y.1.2.2.len y.1.2.2.cap)]), (.int .i64 y.2)])) 44 50 #[(.pointer x12.1), (.int .i64 2), (.int .i64 1), (.int .i64 7)] (stripe_Read_sim x12.1 2 1 7) (fun x44 => ?_)
  refine KT.pv 42 (.tuple #[(.agg #[(.int .i64 x44.1.1), (.int .i64 x44.1.2.1), (.slice x44.1.2.2.base x44.1.2.2.len x44.1.2.2.cap)]), (.int .i64 x44.2)]) ?_
  refine KT.pv 45 (.agg #[(.int .i64 x44.1.1), (.int .i64 x44.1.2.1), (.slice x44.1.2.2.base x44.1.2.2.len x44.1.2.2.cap)]) ?_
  refine KT.pv 46 (.int .i64 x44.2) ?_
  refine KT.nw 6 (fun ad => .pointer (some ad)) 78 (fun x6 => ?_)
  refine KT.ow rfl (OW.stA _ _ _ rfl rfl rfl rfl rfl (by kernel_rfl) ?_)
  refine KT.pv 7 (.int .i64 x44.2) ?_
  refine KT.nil ?_
  refine SX.seq ?_
  refine SC.seq ?_
  refine SC.region' ?_
  refine KT.pv 48 (.pointer x12.1) ?_
  refine KT.cl (fun y : ((Int × Int × Slc) × Int) => (.tuple #[(.agg #[(.int .i64 y.1.1), (.int .i64 y.1.2.1), (.slice y.1.2.2.base y.1.2.2.len y.1.2.2.cap)]), (.int .i64 y.2)])) 49 50 #[(.pointer x12.1), (.int .i64 2), (.int .i64 0), (.int .i64 7)] (stripe_Read_sim x12.1 2 0 7) (fun x49 => ?_)
  refine KT.pv 47 (.tuple #[(.agg #[(.int .i64 x49.1.1), (.int .i64 x49.1.2.1), (.slice x49.1.2.2.base x49.1.2.2.len x49.1.2.2.cap)]), (.int .i64 x49.2)]) ?_
  refine KT.pv 50 (.agg #[(.int .i64 x49.1.1), (.int .i64 x49.1.2.1), (.slice x49.1.2.2.base x49.1.2.2.len x49.1.2.2.cap)]) ?_
  refine KT.pv 51 (.int .i64 x49.2) ?_
  refine KT.nw 8 (fun ad => .pointer (some ad)) 78 (fun x8 => ?_)
  refine KT.ow rfl (OW.stA _ _ _ rfl rfl rfl rfl rfl (by kernel_rfl) ?_)
  refine KT.pv 9 (.int .i64 x49.2) ?_
  refine KT.nil ?_
  refine SX.sub (T' := [(3, (.int .i64 x38.1)), (4, (.bool x38.2.1)), (5, (.int .i64 x38.2.2)), (6, (.pointer (some x6))), (7, (.int .i64 x44.2)), (8, (.pointer (some x8))), (9, (.int .i64 x49.2))]) (.cons rfl (.cons rfl (.cons rfl (.cons rfl (.cons rfl (.cons rfl (.cons rfl (.nil)))))))) ?_
  refine SX.seq ?_
  refine SC.seq ?_
  refine SC.region' ?_
  refine KT.pv 52 (.int .i64 x38.1) ?_
  refine KT.pv 53 (.bool (x38.1 == 7)) ?_
  refine KT.pv 54 (.bool (x38.1 == 7)) ?_
  refine KT.joinO (β := Bool) 2 (fun r3 => [(56, (.bool r3)), (5, (.int .i64 x38.2.2)), (6, (.pointer (some x6))), (7, (.int .i64 x44.2)), (8, (.pointer (some x8))), (9, (.int .i64 x49.2))]) (fun r3 => ?_) (fun j3 => ?_)
  refine KT.pv 57 (.bool r3) ?_
  refine KT.joinO (β := Bool) 3 (fun r4 => [(60, (.bool r4)), (6, (.pointer (some x6))), (7, (.int .i64 x44.2)), (8, (.pointer (some x8))), (9, (.int .i64 x49.2))]) (fun r4 => ?_) (fun j4 => ?_)
  refine KT.pv 61 (.bool r4) ?_
  refine KT.joinO (β := Bool) 3 (fun r5 => [(64, (.bool r5)), (6, (.pointer (some x6))), (8, (.pointer (some x8))), (9, (.int .i64 x49.2))]) (fun r5 => ?_) (fun j5 => ?_)
  refine KT.pv 65 (.bool r5) ?_
  refine KT.joinO (β := Bool) 3 (fun r6 => [(68, (.bool r6)), (6, (.pointer (some x6))), (8, (.pointer (some x8)))]) (fun r6 => ?_) (fun j6 => ?_)
  refine KT.pv 69 (.bool r6) ?_
  refine KT.joinO (β := Bool) 4 (fun r7 => [(73, (.bool r7)), (6, (.pointer (some x6))), (8, (.pointer (some x8)))]) (fun r7 => ?_) (fun j7 => ?_)
  refine KT.pv 74 (.bool r7) ?_
  refine KT.joinO (β := Bool) 4 (fun r8 => [(78, (.bool r8)), (6, (.pointer (some x6))), (8, (.pointer (some x8)))]) (fun r8 => ?_) (fun j8 => ?_)
  refine KT.pv 79 (.bool r8) ?_
  refine KT.joinO (β := Bool) 5 (fun r9 => [(84, (.bool r9)), (6, (.pointer (some x6))), (8, (.pointer (some x8)))]) (fun r9 => ?_) (fun j9 => ?_)
  refine KT.pv 85 (.bool r9) ?_
  refine KT.joinO (β := Bool) 6 (fun r10 => [(91, (.bool r10)), (8, (.pointer (some x8)))]) (fun r10 => ?_) (fun j10 => ?_)
  refine KT.pv 92 (.bool r10) ?_
  refine KT.joinO (β := Bool) 6 (fun r11 => [(98, (.bool r11))]) (fun r11 => ?_) (fun j11 => ?_)
  refine KT.pv 0 (.bool r11) ?_
  refine KT.nil ?_
  refine SX.seq ?_
  refine SC.ret ?_
  refine SX.ret [.tmp 0] rfl ?_
  refine RS.tmp (.bool r11) rfl ?_
  exact RS.nil rfl
  refine KT.ite (b := r10) 92 rfl ?_ ?_
  refine KT.pv 93 (.pointer (some (Addr.add x8 2))) ?_
  refine KT.l 94 (fun x94 => ?_)
  refine KT.oy rfl (OY.idx (d := 95) (s := x94) (i := 0) (size := 1) (elem := 5) _ _ _ rfl rfl rfl (by kernel_rfl) (by kernel_rfl) rfl rfl (fun x95 => ?_))
  refine KT.l 96 (fun x96 => ?_)
  refine KT.pv 97 (.bool (x96 == 5)) ?_
  refine KT.pv 98 (.bool (x96 == 5)) ?_
  exact KT.leafO j11 (.cons rfl (.nil))
  refine KT.sk ?_
  refine KT.sk ?_
  refine KT.sk ?_
  refine KT.sk ?_
  refine KT.sk ?_
  refine KT.pv 98 (.bool false) ?_
  exact KT.leafO j11 (.cons rfl (.nil))
  refine KT.ite (b := r9) 85 rfl ?_ ?_
  refine KT.pv 86 (.pointer (some (Addr.add x6 2))) ?_
  refine KT.l 87 (fun x87 => ?_)
  refine KT.oy rfl (OY.idx (d := 88) (s := x87) (i := 0) (size := 1) (elem := 5) _ _ _ rfl rfl rfl (by kernel_rfl) (by kernel_rfl) rfl rfl (fun x88 => ?_))
  refine KT.l 89 (fun x89 => ?_)
  refine KT.pv 90 (.bool (x89 == 6)) ?_
  refine KT.pv 91 (.bool (x89 == 6)) ?_
  exact KT.leafO j10 (.cons rfl (.cons rfl (.nil)))
  refine KT.sk ?_
  refine KT.sk ?_
  refine KT.sk ?_
  refine KT.sk ?_
  refine KT.sk ?_
  refine KT.pv 91 (.bool false) ?_
  exact KT.leafO j10 (.cons rfl (.cons rfl (.nil)))
  refine KT.ite (b := r8) 79 rfl ?_ ?_
  refine KT.pv 80 (.pointer (some (Addr.add x6 2))) ?_
  refine KT.l 81 (fun x81 => ?_)
  refine KT.pv 82 (.int .i64 ((x81.len : Nat) : Int)) ?_
  refine KT.pv 83 (.bool (((x81.len : Nat) : Int) == 56)) ?_
  refine KT.pv 84 (.bool (((x81.len : Nat) : Int) == 56)) ?_
  exact KT.leafO j9 (.cons rfl (.cons rfl (.cons rfl (.nil))))
  refine KT.sk ?_
  refine KT.sk ?_
  refine KT.sk ?_
  refine KT.sk ?_
  refine KT.pv 84 (.bool false) ?_
  exact KT.leafO j9 (.cons rfl (.cons rfl (.cons rfl (.nil))))
  refine KT.ite (b := r7) 74 rfl ?_ ?_
  refine KT.pv 75 (.pointer (some (Addr.add x6 1))) ?_
  refine KT.l 76 (fun x76 => ?_)
  refine KT.pv 77 (.bool (x76 == 3)) ?_
  refine KT.pv 78 (.bool (x76 == 3)) ?_
  exact KT.leafO j8 (.cons rfl (.cons rfl (.cons rfl (.nil))))
  refine KT.sk ?_
  refine KT.sk ?_
  refine KT.sk ?_
  refine KT.pv 78 (.bool false) ?_
  exact KT.leafO j8 (.cons rfl (.cons rfl (.cons rfl (.nil))))
  refine KT.ite (b := r6) 69 rfl ?_ ?_
  refine KT.pv 70 (.pointer (some x6)) ?_
  refine KT.l 71 (fun x71 => ?_)
  refine KT.pv 72 (.bool (x71 == 2)) ?_
  refine KT.pv 73 (.bool (x71 == 2)) ?_
  exact KT.leafO j7 (.cons rfl (.cons rfl (.cons rfl (.nil))))
  refine KT.sk ?_
  refine KT.sk ?_
  refine KT.sk ?_
  refine KT.pv 73 (.bool false) ?_
  exact KT.leafO j7 (.cons rfl (.cons rfl (.cons rfl (.nil))))
  refine KT.ite (b := r5) 65 rfl ?_ ?_
  refine KT.pv 66 (.int .i64 x49.2) ?_
  refine KT.pv 67 (.bool (x49.2 == 0)) ?_
  refine KT.pv 68 (.bool (x49.2 == 0)) ?_
  exact KT.leafO j6 (.cons rfl (.cons rfl (.cons rfl (.nil))))
  refine KT.sk ?_
  refine KT.sk ?_
  refine KT.pv 68 (.bool false) ?_
  exact KT.leafO j6 (.cons rfl (.cons rfl (.cons rfl (.nil))))
  refine KT.ite (b := r4) 61 rfl ?_ ?_
  refine KT.pv 62 (.int .i64 x44.2) ?_
  refine KT.pv 63 (.bool (x44.2 == 0)) ?_
  refine KT.pv 64 (.bool (x44.2 == 0)) ?_
  exact KT.leafO j5 (.cons rfl (.cons rfl (.cons rfl (.cons rfl (.nil)))))
  refine KT.sk ?_
  refine KT.sk ?_
  refine KT.pv 64 (.bool false) ?_
  exact KT.leafO j5 (.cons rfl (.cons rfl (.cons rfl (.cons rfl (.nil)))))
  refine KT.ite (b := r3) 57 rfl ?_ ?_
  refine KT.pv 58 (.int .i64 x38.2.2) ?_
  refine KT.pv 59 (.bool (x38.2.2 == 0)) ?_
  refine KT.pv 60 (.bool (x38.2.2 == 0)) ?_
  exact KT.leafO j4 (.cons rfl (.cons rfl (.cons rfl (.cons rfl (.cons rfl (.nil))))))
  refine KT.sk ?_
  refine KT.sk ?_
  refine KT.pv 60 (.bool false) ?_
  exact KT.leafO j4 (.cons rfl (.cons rfl (.cons rfl (.cons rfl (.cons rfl (.nil))))))
  refine KT.ite (b := x38.1 == 7) 54 rfl ?_ ?_
  refine KT.pv 55 (.bool x38.2.1) ?_
  refine KT.pv 56 (.bool x38.2.1) ?_
  exact KT.leafO j3 (.cons rfl (.cons rfl (.cons rfl (.cons rfl (.cons rfl (.cons rfl (.nil)))))))
  refine KT.sk ?_
  refine KT.pv 56 (.bool false) ?_
  exact KT.leafO j3 (.cons rfl (.cons rfl (.cons rfl (.cons rfl (.cons rfl (.cons rfl (.nil)))))))
  refine KT.ite (b := r1) 21 rfl ?_ ?_
  refine KT.sk ?_
  refine KT.sk ?_
  refine KT.sk ?_
  refine KT.sk ?_
  refine KT.sk ?_
  refine KT.sk ?_
  refine KT.sk ?_
  refine KT.sk ?_
  refine KT.pv 30 (.bool true) ?_
  exact KT.leafO j2 (.cons rfl (.cons rfl (.cons rfl (.nil))))
  refine KT.pv 22 (.pointer x12.1) ?_
  refine KT.nw 23 (fun ad => .slice (some ad) 1 1) 5 (fun x23 => ?_)
  refine KT.pv 24 (.agg #[(.int .i64 1), (.int .i64 0), (.slice (some x23) 1 1)]) ?_
  refine KT.nw 25 (fun ad => .slice (some ad) 1 1) 5 (fun x25 => ?_)
  refine KT.pv 26 (.agg #[(.int .i64 2), (.int .i64 3), (.slice (some x25) 1 1)]) ?_
  refine KT.nw 27 (fun ad => .slice (some ad) 2 2) 78 (fun x27 => ?_)
  refine KT.cl (Value.int .i64) 28 48 #[(.pointer x12.1), (.int .i64 2), (.int .i64 7), (.slice (some x27) 2 2)] (stripe_Write_sim x12.1 2 7 (⟨some x27, 2, 2⟩)) (fun x28 => ?_)
  refine KT.pv 29 (.bool (x28 != 0)) ?_
  refine KT.pv 30 (.bool (x28 != 0)) ?_
  exact KT.leafO j2 (.cons rfl (.cons rfl (.cons rfl (.nil))))
  refine KT.ite (b := (x12.1).isNone) 17 rfl ?_ ?_
  refine KT.sk ?_
  refine KT.sk ?_
  refine KT.pv 20 (.bool true) ?_
  exact KT.leafO j1 (.cons rfl (.cons rfl (.cons rfl (.nil))))
  refine KT.pv 18 (.pointer x12.2) ?_
  refine KT.oy rfl (OY.eqlNil (d := 19) (p := x12.2) _ _ _ _ rfl rfl rfl (by kernel_rfl) rfl rfl ?_)
  refine KT.pv 20 (.bool ((x12.2).isNone)) ?_
  exact KT.leafO j1 (.cons rfl (.cons rfl (.cons rfl (.nil))))
set_option maxRecDepth 100000 in
theorem law07_fits_sim (p0_blocks : Slc) (p1_most : Int) (Qf : Bool → World → Prop) (w : World) (hm : law07_fits p0_blocks p1_most Qf w) : Calls Try.prog 46 #[(.slice p0_blocks.base p0_blocks.len p0_blocks.cap), (.int .i64 p1_most)] w (RetPost Value.bool Qf) := by
  refine calls_of (fn := Try.f46) (l := [(.slice p0_blocks.base p0_blocks.len p0_blocks.cap), (.int .i64 p1_most)]) (m := law07_fits p0_blocks p1_most) 45 (by kernel_rfl) rfl rfl rfl (fun Qf0 => ?_) Qf w hm
  clear hm w Qf
  unfold law07_fits
  refine SC.seq ?_
  refine SC.region' ?_
  refine KT.pv 4 (.bool false) ?_
  refine KT.nil ?_
  refine SX.seq ?_
  refine SC.seq ?_
  refine SC.seq ?_
  refine SC.region' ?_
  refine KT.pv 7 (.slice p0_blocks.base p0_blocks.len p0_blocks.cap) ?_
  refine KT.pv 8 (.int .i64 ((p0_blocks.len : Nat) : Int)) ?_
  refine KT.pv 9 (.int .i64 p1_most) ?_
  refine KT.pv 10 (.bool (decide (((p0_blocks.len : Nat) : Int) > p1_most))) ?_
  refine KT.nil ?_
  refine SX.seq ?_
  refine SC.cond (b := decide (((p0_blocks.len : Nat) : Int) > p1_most)) rfl ?_ ?_
  refine SC.seq ?_
  refine SC.region' ?_
  refine KT.pv 4 (.bool false) ?_
  refine KT.nil ?_
  refine SX.seq ?_
  refine SC.ret ?_
  refine SX.then_ret ?_
  refine SX.ret [.tmp 4] rfl ?_
  refine RS.tmp (.bool false) rfl ?_
  exact RS.nil rfl
  refine SC.skip ?_
  refine SX.seq ?_
  refine SC.seq ?_
  refine SC.seq ?_
  refine SC.region' ?_
  refine KT.pv 5 (.int .i64 0) ?_
  refine KT.nil ?_
  refine SX.seq ?_
  refine SC.block ?_
  refine SC.loop (σ := (Int)) (fun s1 => [(0, (.slice p0_blocks.base p0_blocks.len p0_blocks.cap)), (5, (.int .i64 s1))]) (.cons rfl (.cons rfl (.nil))) (fun _ _ _ s1 => ?_)
  refine SC.seq ?_
  refine SC.seq ?_
  refine SC.region' ?_
  refine KT.pv 11 (.int .i64 s1) ?_
  refine KT.pv 12 (.slice p0_blocks.base p0_blocks.len p0_blocks.cap) ?_
  refine KT.pv 13 (.int .i64 ((p0_blocks.len : Nat) : Int)) ?_
  refine KT.pv 14 (.bool (decide (s1 < ((p0_blocks.len : Nat) : Int)))) ?_
  refine KT.nil ?_
  refine SX.seq ?_
  refine SC.cond (b := decide (s1 < ((p0_blocks.len : Nat) : Int))) rfl ?_ ?_
  refine SC.skip ?_
  refine SX.seq ?_
  refine SC.seq ?_
  refine SC.block ?_
  refine SC.seq ?_
  refine SC.region' ?_
  refine KT.pv 17 (.slice p0_blocks.base p0_blocks.len p0_blocks.cap) ?_
  refine KT.pv 18 (.int .i64 s1) ?_
  refine KT.oy rfl (OY.idx (d := 19) (s := p0_blocks) (i := s1) (size := 3) (elem := 78) _ _ _ rfl rfl rfl (by kernel_rfl) (by kernel_rfl) rfl rfl (fun x19 => ?_))
  refine KT.ow rfl (OW.ldA (d := 20) (enc := (fun y : (Int × Int × Slc) => [(.int .i64 y.1), (.int .i64 y.2.1), (.slice y.2.2.base y.2.2.len y.2.2.cap)])) 3 _ _ rfl rfl (by kernel_rfl) (by kernel_rfl) (fun _ => rfl) rfl rfl (fun x20 => ?_))
  refine KT.nw 6 (fun ad => .pointer (some ad)) 78 (fun x6 => ?_)
  refine KT.ow rfl (OW.stA _ _ _ rfl rfl rfl rfl rfl (by kernel_rfl) ?_)
  refine KT.nil ?_
  refine SX.seq ?_
  refine SC.seq ?_
  refine SC.region' ?_
  refine KT.pv 21 (.pointer (some (Addr.add x6 2))) ?_
  refine KT.l 22 (fun x22 => ?_)
  refine KT.pv 23 (.int .i64 ((x22.len : Nat) : Int)) ?_
  refine KT.pv 24 (.bool (decide (((x22.len : Nat) : Int) > 56))) ?_
  refine KT.pv 25 (.bool (decide (((x22.len : Nat) : Int) > 56))) ?_
  refine KT.joinO (β := Bool) 4 (fun r2 => [(29, (.bool r2)), (0, (.slice p0_blocks.base p0_blocks.len p0_blocks.cap)), (5, (.int .i64 s1)), (6, (.pointer (some x6)))]) (fun r2 => ?_) (fun j2 => ?_)
  refine KT.pv 30 (.bool r2) ?_
  refine KT.joinO (β := Bool) 4 (fun r3 => [(34, (.bool r3)), (0, (.slice p0_blocks.base p0_blocks.len p0_blocks.cap)), (5, (.int .i64 s1)), (6, (.pointer (some x6)))]) (fun r3 => ?_) (fun j3 => ?_)
  refine KT.pv 35 (.bool r3) ?_
  refine KT.joinO (β := Bool) 4 (fun r4 => [(39, (.bool r4)), (0, (.slice p0_blocks.base p0_blocks.len p0_blocks.cap)), (5, (.int .i64 s1)), (6, (.pointer (some x6)))]) (fun r4 => ?_) (fun j4 => ?_)
  refine KT.pv 40 (.bool r4) ?_
  refine KT.joinO (β := Bool) 4 (fun r5 => [(44, (.bool r5)), (0, (.slice p0_blocks.base p0_blocks.len p0_blocks.cap)), (5, (.int .i64 s1))]) (fun r5 => ?_) (fun j5 => ?_)
  refine KT.nil ?_
  refine SX.seq ?_
  refine SC.cond (b := r5) rfl ?_ ?_
  refine SC.seq ?_
  refine SC.region' ?_
  refine KT.pv 4 (.bool false) ?_
  refine KT.nil ?_
  refine SX.seq ?_
  refine SC.ret ?_
  refine SX.block_ret ?_
  refine SX.then_ret ?_
  refine SX.loop_ret ?_
  refine SX.block_ret ?_
  refine SX.then_ret ?_
  refine SX.ret [.tmp 4] rfl ?_
  refine RS.tmp (.bool false) rfl ?_
  exact RS.nil rfl
  refine SC.skip ?_
  refine SX.block ?_
  refine SX.seq ?_
  refine SC.region' ?_
  refine KT.pv 15 (.int .i64 s1) ?_
  refine KT.pv 16 (.int .i64 (w64 (s1 + 1))) ?_
  refine KT.pv 5 (.int .i64 (w64 (s1 + 1))) ?_
  refine KT.nil ?_
  exact SX.loop_next (.cons rfl (.cons rfl (.nil)))
  refine KT.ite (b := r4) 40 rfl ?_ ?_
  refine KT.sk ?_
  refine KT.sk ?_
  refine KT.sk ?_
  refine KT.pv 44 (.bool true) ?_
  exact KT.leafO j5 (.cons rfl (.cons rfl (.cons rfl (.nil))))
  refine KT.pv 41 (.pointer (some (Addr.add x6 1))) ?_
  refine KT.l 42 (fun x42 => ?_)
  refine KT.pv 43 (.bool (decide (x42 > 65535))) ?_
  refine KT.pv 44 (.bool (decide (x42 > 65535))) ?_
  exact KT.leafO j5 (.cons rfl (.cons rfl (.cons rfl (.nil))))
  refine KT.ite (b := r3) 35 rfl ?_ ?_
  refine KT.sk ?_
  refine KT.sk ?_
  refine KT.sk ?_
  refine KT.pv 39 (.bool true) ?_
  exact KT.leafO j4 (.cons rfl (.cons rfl (.cons rfl (.cons rfl (.nil)))))
  refine KT.pv 36 (.pointer (some (Addr.add x6 1))) ?_
  refine KT.l 37 (fun x37 => ?_)
  refine KT.pv 38 (.bool (decide (x37 < 0))) ?_
  refine KT.pv 39 (.bool (decide (x37 < 0))) ?_
  exact KT.leafO j4 (.cons rfl (.cons rfl (.cons rfl (.cons rfl (.nil)))))
  refine KT.ite (b := r2) 30 rfl ?_ ?_
  refine KT.sk ?_
  refine KT.sk ?_
  refine KT.sk ?_
  refine KT.pv 34 (.bool true) ?_
  exact KT.leafO j3 (.cons rfl (.cons rfl (.cons rfl (.cons rfl (.nil)))))
  refine KT.pv 31 (.pointer (some x6)) ?_
  refine KT.l 32 (fun x32 => ?_)
  refine KT.pv 33 (.bool (decide (x32 > 65535))) ?_
  refine KT.pv 34 (.bool (decide (x32 > 65535))) ?_
  exact KT.leafO j3 (.cons rfl (.cons rfl (.cons rfl (.cons rfl (.nil)))))
  refine KT.ite (b := decide (((x22.len : Nat) : Int) > 56)) 25 rfl ?_ ?_
  refine KT.sk ?_
  refine KT.sk ?_
  refine KT.sk ?_
  refine KT.pv 29 (.bool true) ?_
  exact KT.leafO j2 (.cons rfl (.cons rfl (.cons rfl (.cons rfl (.nil)))))
  refine KT.pv 26 (.pointer (some x6)) ?_
  refine KT.l 27 (fun x27 => ?_)
  refine KT.pv 28 (.bool (decide (x27 < 0))) ?_
  refine KT.pv 29 (.bool (decide (x27 < 0))) ?_
  exact KT.leafO j2 (.cons rfl (.cons rfl (.cons rfl (.cons rfl (.nil)))))
  refine SC.exit ?_
  refine SX.then_exit ?_
  refine SX.loop_exit ?_
  refine SX.block_hit ?_
  refine SX.seq ?_
  refine SC.seq ?_
  refine SC.region' ?_
  refine KT.pv 4 (.bool true) ?_
  refine KT.nil ?_
  refine SX.seq ?_
  refine SC.ret ?_
  refine SX.ret [.tmp 4] rfl ?_
  refine RS.tmp (.bool true) rfl ?_
  exact RS.nil rfl
set_option maxRecDepth 100000 in
theorem law07_StripeTorn_sim (p0_first : Slc) (p1_blocks : Slc) (p2_calls : Int) (p3_keeps : Slc) (Qf : Bool → World → Prop) (w : World) (hm : law07_StripeTorn (cvOf Try.prog) p0_first p1_blocks p2_calls p3_keeps Qf w) : Calls Try.prog 19 #[(.slice p0_first.base p0_first.len p0_first.cap), (.slice p1_blocks.base p1_blocks.len p1_blocks.cap), (.int .i64 p2_calls), (.slice p3_keeps.base p3_keeps.len p3_keeps.cap)] w (RetPost Value.bool Qf) := by
  refine calls_of (fn := Try.f19) (l := [(.slice p0_first.base p0_first.len p0_first.cap), (.slice p1_blocks.base p1_blocks.len p1_blocks.cap), (.int .i64 p2_calls), (.slice p3_keeps.base p3_keeps.len p3_keeps.cap)]) (m := law07_StripeTorn (cvOf Try.prog) p0_first p1_blocks p2_calls p3_keeps) 149 (by kernel_rfl) rfl rfl rfl (fun Qf0 => ?_) Qf w hm
  clear hm w Qf
  unfold law07_StripeTorn
  refine SC.seq ?_
  refine SC.region' ?_
  refine KT.pv 8 (.bool false) ?_
  refine KT.nil ?_
  refine SX.seq ?_
  refine SC.seq ?_
  refine SC.seq ?_
  refine SC.region' ?_
  refine KT.cl Value.bool 21 45 #[] (law07_alive_sim ) (fun x21 => ?_)
  refine KT.pv 22 (.bool (!x21)) ?_
  refine KT.nil ?_
  refine SX.seq ?_
  refine SC.cond (b := !x21) rfl ?_ ?_
  refine SC.seq ?_
  refine SC.region' ?_
  refine KT.pv 8 (.bool false) ?_
  refine KT.nil ?_
  refine SX.seq ?_
  refine SC.ret ?_
  refine SX.then_ret ?_
  refine SX.ret [.tmp 8] rfl ?_
  refine RS.tmp (.bool false) rfl ?_
  exact RS.nil rfl
  refine SC.skip ?_
  refine SX.seq ?_
  refine SC.seq ?_
  refine SC.seq ?_
  refine SC.region' ?_
  refine KT.pv 23 (.slice p0_first.base p0_first.len p0_first.cap) ?_
  refine KT.cl Value.bool 24 46 #[(.slice p0_first.base p0_first.len p0_first.cap), (.int .i64 6)] (law07_fits_sim p0_first 6) (fun x24 => ?_)
  refine KT.pv 25 (.bool (!x24)) ?_
  refine KT.pv 26 (.bool (!x24)) ?_
  refine KT.joinO (β := Bool) 4 (fun r1 => [(30, (.bool r1)), (0, (.slice p0_first.base p0_first.len p0_first.cap)), (1, (.slice p1_blocks.base p1_blocks.len p1_blocks.cap)), (2, (.int .i64 p2_calls)), (3, (.slice p3_keeps.base p3_keeps.len p3_keeps.cap))]) (fun r1 => ?_) (fun j1 => ?_)
  refine KT.pv 31 (.bool r1) ?_
  refine KT.joinO (β := Bool) 4 (fun r2 => [(35, (.bool r2)), (0, (.slice p0_first.base p0_first.len p0_first.cap)), (1, (.slice p1_blocks.base p1_blocks.len p1_blocks.cap)), (2, (.int .i64 p2_calls)), (3, (.slice p3_keeps.base p3_keeps.len p3_keeps.cap))]) (fun r2 => ?_) (fun j2 => ?_)
  refine KT.pv 36 (.bool r2) ?_
  refine KT.joinO (β := Bool) 3 (fun r3 => [(39, (.bool r3)), (0, (.slice p0_first.base p0_first.len p0_first.cap)), (1, (.slice p1_blocks.base p1_blocks.len p1_blocks.cap)), (2, (.int .i64 p2_calls)), (3, (.slice p3_keeps.base p3_keeps.len p3_keeps.cap))]) (fun r3 => ?_) (fun j3 => ?_)
  refine KT.nil ?_
  refine SX.seq ?_
  refine SC.cond (b := r3) rfl ?_ ?_
  refine SC.seq ?_
  refine SC.region' ?_
  refine KT.pv 8 (.bool true) ?_
  refine KT.nil ?_
  refine SX.seq ?_
  refine SC.ret ?_
  refine SX.then_ret ?_
  refine SX.ret [.tmp 8] rfl ?_
  refine RS.tmp (.bool true) rfl ?_
  exact RS.nil rfl
  refine SC.skip ?_
  refine SX.seq ?_
  refine SC.seq ?_
  refine SC.region' ?_
  refine KT.pv 41 (.agg #[(.int .i64 0), (.int .i64 0), (.int .i64 0)]) ?_
  refine KT.cl (fun y : ((Option Addr) × (Option Addr)) => (.tuple #[(.pointer y.1), (.pointer y.2)])) 42 47 #[(.agg #[(.int .i64 0), (.int .i64 0), (.int .i64 0)])] (law07_Open_sim (0, 0, 0)) (fun x42 => ?_)
  refine KT.pv 40 (.tuple #[(.pointer x42.1), (.pointer x42.2)]) ?_
  refine KT.pv 43 (.pointer x42.1) ?_
  refine KT.pv 44 (.pointer x42.2) ?_
  refine KT.pv 9 (.pointer x42.1) ?_
  refine KT.pv 10 (.pointer x42.2) ?_
  refine KT.nil ?_
  refine SX.seq ?_
  refine SC.seq ?_
  refine SC.seq ?_
  refine SC.region' ?_
  refine KT.pv 45 (.pointer x42.1) ?_
  refine KT.oy rfl (OY.eqlNil (d := 46) (p := x42.1) _ _ _ _ rfl rfl rfl (by kernel_rfl) rfl rfl ?_)
  refine KT.pv 47 (.bool ((x42.1).isNone)) ?_
  refine KT.joinO (β := Bool) 3 (fun r4 => [(50, (.bool r4)), (0, (.slice p0_first.base p0_first.len p0_first.cap)), (1, (.slice p1_blocks.base p1_blocks.len p1_blocks.cap)), (2, (.int .i64 p2_calls)), (3, (.slice p3_keeps.base p3_keeps.len p3_keeps.cap)), (9, (.pointer x42.1)), (10, (.pointer x42.2))]) (fun r4 => ?_) (fun j4 => ?_)
  refine KT.pv 51 (.bool r4) ?_
  refine KT.joinO (β := Bool) 5 (fun r5 => [(56, (.bool r5)), (1, (.slice p1_blocks.base p1_blocks.len p1_blocks.cap)), (2, (.int .i64 p2_calls)), (3, (.slice p3_keeps.base p3_keeps.len p3_keeps.cap)), (9, (.pointer x42.1)), (10, (.pointer x42.2))]) (fun r5 => ?_) (fun j5 => ?_)
  refine KT.pv 57 (.bool r5) ?_
  refine KT.joinO (β := Bool) 4 (fun r6 => [(61, (.bool r6)), (1, (.slice p1_blocks.base p1_blocks.len p1_blocks.cap)), (2, (.int .i64 p2_calls)), (3, (.slice p3_keeps.base p3_keeps.len p3_keeps.cap)), (9, (.pointer x42.1)), (10, (.pointer x42.2))]) (fun r6 => ?_) (fun j6 => ?_)
  refine KT.nil ?_
  refine SX.seq ?_
  refine SC.cond (b := r6) rfl ?_ ?_
  refine SC.seq ?_
  refine SC.region' ?_
  refine KT.pv 8 (.bool false) ?_
  refine KT.nil ?_
  refine SX.seq ?_
  refine SC.ret ?_
  refine SX.then_ret ?_
  refine SX.ret [.tmp 8] rfl ?_
  refine RS.tmp (.bool false) rfl ?_
  exact RS.nil rfl
  refine SC.skip ?_
  refine SX.seq ?_
  refine SC.seq ?_
  refine SC.region' ?_
  refine KT.pv 62 (.pointer x42.2) ?_
  refine KT.pv 63 (.int .i64 p2_calls) ?_
  refine KT.cl (fun y : Unit => (.tuple #[])) 64 43 #[(.pointer x42.2), (.int .i64 p2_calls)] (device_Rack_Arm_sim x42.2 p2_calls) (fun x64 => ?_)
  refine KT.nil ?_
  refine SX.seq ?_
  refine SC.seq ?_
  refine SC.region' ?_
  refine KT.pv 65 (.pointer x42.1) ?_
  refine KT.pv 66 (.slice p1_blocks.base p1_blocks.len p1_blocks.cap) ?_
  refine KT.cl (Value.int .i64) 67 48 #[(.pointer x42.1), (.int .i64 1), (.int .i64 6), (.slice p1_blocks.base p1_blocks.len p1_blocks.cap)] (stripe_Write_sim x42.1 1 6 p1_blocks) (fun x67 => ?_)
  refine KT.pv 11 (.int .i64 x67) ?_
  refine KT.nil ?_
  refine SX.seq ?_
  refine SC.seq ?_
  refine SC.region' ?_
  refine KT.pv 68 (.pointer x42.2) ?_
  refine KT.pv 69 (.slice p3_keeps.base p3_keeps.len p3_keeps.cap) ?_
  refine KT.cl (fun y : Unit => (.tuple #[])) 70 40 #[(.pointer x42.2), (.slice p3_keeps.base p3_keeps.len p3_keeps.cap)] (device_Rack_Restore_sim x42.2 p3_keeps) (fun x70 => ?_)
  refine KT.nil ?_
  refine SX.seq ?_
  refine SC.seq ?_
  refine SC.region' ?_
  refine KT.pv 12 (.int .i64 0) ?_
  refine KT.nil ?_
  refine SX.seq ?_
  refine SC.seq ?_
  refine SC.region' ?_
  refine KT.pv 13 (.int .i64 0) ?_
  refine KT.nil ?_
  refine SX.seq ?_
  refine SC.seq ?_
  refine SC.seq ?_
  refine SC.region' ?_
  refine KT.pv 14 (.int .i64 0) ?_
  refine KT.nil ?_
  refine SX.seq ?_
  refine SC.block ?_
  refine SC.loop (σ := (Int × Int × Int)) (fun s7 => [(2, (.int .i64 p2_calls)), (9, (.pointer x42.1)), (10, (.pointer x42.2)), (11, (.int .i64 x67)), (12, (.int .i64 s7.1)), (13, (.int .i64 s7.2.1)), (14, (.int .i64 s7.2.2))]) (.cons rfl (.cons rfl (.cons rfl (.cons rfl (.cons rfl (.cons rfl (.cons rfl (.nil)))))))) (fun _ _ _ s7 => ?_)
  refine SC.seq ?_
  refine SC.seq ?_
  refine SC.region' ?_
  refine KT.pv 71 (.int .i64 s7.2.2) ?_
  refine KT.pv 72 (.bool (decide (s7.2.2 < 3))) ?_
  refine KT.nil ?_
  refine SX.seq ?_
  refine SC.cond (b := decide (s7.2.2 < 3)) rfl ?_ ?_
  refine SC.skip ?_
  refine SX.seq ?_
  refine SC.seq ?_
  refine SC.block ?_
  refine SC.seq ?_
  refine SC.region' ?_
  refine KT.pv 15 (.int .i64 8) ?_
  refine KT.nil ?_
  refine SX.seq ?_
  refine SC.block ?_
  refine SC.loop (σ := (Int × Int × Int)) (fun s8 => [(2, (.int .i64 p2_calls)), (9, (.pointer x42.1)), (10, (.pointer x42.2)), (11, (.int .i64 x67)), (12, (.int .i64 s8.1)), (13, (.int .i64 s8.2.1)), (14, (.int .i64 s7.2.2)), (15, (.int .i64 s8.2.2))]) (.cons rfl (.cons rfl (.cons rfl (.cons rfl (.cons rfl (.cons rfl (.cons rfl (.cons rfl (.nil))))))))) (fun _ _ _ s8 => ?_)
  refine SC.seq ?_
  refine SC.seq ?_
  refine SC.region' ?_
  refine KT.pv 75 (.int .i64 s8.2.2) ?_
  refine KT.pv 76 (.bool (decide (s8.2.2 < 11))) ?_
  refine KT.nil ?_
  refine SX.seq ?_
  refine SC.cond (b := decide (s8.2.2 < 11)) rfl ?_ ?_
  refine SC.skip ?_
  refine SX.seq ?_
  refine SC.seq ?_
  refine SC.block ?_
  refine SC.seq ?_
  refine SC.region' ?_
  refine KT.pv 80 (.pointer x42.2) ?_
  refine KT.pv 81 (.int .i64 s7.2.2) ?_
  refine KT.pv 82 (.int .i64 s8.2.2) ?_
  refine KT.cl (fun y : (Slc × Int) => (.tuple #[(.slice y.1.base y.1.len y.1.cap), (.int .i64 y.2)])) 83 41 #[(.pointer x42.2), (.int .i64 s7.2.2), (.int .i64 s8.2.2)] (device_Rack_Lasting_sim x42.2 s7.2.2 s8.2.2) (fun x83 => ?_)
  refine KT.pv 79 (.tuple #[(.slice x83.1.base x83.1.len x83.1.cap), (.int .i64 x83.2)]) ?_
  refine KT.pv 84 (.slice x83.1.base x83.1.len x83.1.cap) ?_
  refine KT.pv 85 (.int .i64 x83.2) ?_
  refine KT.pv 16 (.slice x83.1.base x83.1.len x83.1.cap) ?_
  refine KT.pv 17 (.int .i64 x83.2) ?_
  refine KT.nil ?_
  refine SX.seq ?_
  refine SC.seq ?_
  refine SC.seq ?_
  refine SC.region' ?_
  refine KT.pv 86 (.slice x83.1.base x83.1.len x83.1.cap) ?_
  refine KT.pv 87 (.int .i64 ((x83.1.len : Nat) : Int)) ?_
  refine KT.pv 88 (.bool (((x83.1.len : Nat) : Int) == 64)) ?_
  refine KT.pv 89 (.bool (((x83.1.len : Nat) : Int) == 64)) ?_
  refine KT.joinO (β := Bool) 5 (fun r9 => [(94, (.bool r9)), (2, (.int .i64 p2_calls)), (9, (.pointer x42.1)), (10, (.pointer x42.2)), (11, (.int .i64 x67)), (12, (.int .i64 s8.1)), (13, (.int .i64 s8.2.1)), (14, (.int .i64 s7.2.2)), (15, (.int .i64 s8.2.2)), (16, (.slice x83.1.base x83.1.len x83.1.cap))]) (fun r9 => ?_) (fun j9 => ?_)
  refine KT.nil ?_
  refine SX.seq ?_
  refine SC.join (β := (Int)) (fun b10 => [(2, (.int .i64 p2_calls)), (9, (.pointer x42.1)), (10, (.pointer x42.2)), (11, (.int .i64 x67)), (12, (.int .i64 b10)), (13, (.int .i64 s8.2.1)), (14, (.int .i64 s7.2.2)), (15, (.int .i64 s8.2.2)), (16, (.slice x83.1.base x83.1.len x83.1.cap))]) (fun b10 => ?_) (fun j10 => ?_)
  refine SX.seq ?_
  refine SC.seq ?_
  refine SC.region' ?_
  refine KT.pv 97 (.slice x83.1.base x83.1.len x83.1.cap) ?_
  refine KT.pv 98 (.int .i64 ((x83.1.len : Nat) : Int)) ?_
  refine KT.pv 99 (.bool (((x83.1.len : Nat) : Int) == 64)) ?_
  refine KT.pv 100 (.bool (((x83.1.len : Nat) : Int) == 64)) ?_
  refine KT.joinO (β := Bool) 5 (fun r11 => [(105, (.bool r11)), (2, (.int .i64 p2_calls)), (9, (.pointer x42.1)), (10, (.pointer x42.2)), (11, (.int .i64 x67)), (12, (.int .i64 b10)), (13, (.int .i64 s8.2.1)), (14, (.int .i64 s7.2.2)), (15, (.int .i64 s8.2.2))]) (fun r11 => ?_) (fun j11 => ?_)
  refine KT.nil ?_
  refine SX.seq ?_
  refine SC.cond (b := r11) rfl ?_ ?_
  refine SC.region' ?_
  refine KT.pv 106 (.int .i64 s8.2.1) ?_
  refine KT.pv 107 (.int .i64 (w64 (s8.2.1 + 1))) ?_
  refine KT.pv 13 (.int .i64 (w64 (s8.2.1 + 1))) ?_
  refine KT.nil ?_
  refine SX.block ?_
  refine SX.seq ?_
  refine SC.region' ?_
  refine KT.pv 77 (.int .i64 s8.2.2) ?_
  refine KT.pv 78 (.int .i64 (w64 (s8.2.2 + 1))) ?_
  refine KT.pv 15 (.int .i64 (w64 (s8.2.2 + 1))) ?_
  refine KT.nil ?_
  exact SX.loop_next (.cons rfl (.cons rfl (.cons rfl (.cons rfl (.cons rfl (.cons rfl (.cons rfl (.cons rfl (.nil)))))))))
  refine SC.skip ?_
  refine SX.block ?_
  refine SX.seq ?_
  refine SC.region' ?_
  refine KT.pv 77 (.int .i64 s8.2.2) ?_
  refine KT.pv 78 (.int .i64 (w64 (s8.2.2 + 1))) ?_
  refine KT.pv 15 (.int .i64 (w64 (s8.2.2 + 1))) ?_
  refine KT.nil ?_
  exact SX.loop_next (.cons rfl (.cons rfl (.cons rfl (.cons rfl (.cons rfl (.cons rfl (.cons rfl (.cons rfl (.nil)))))))))
  refine KT.ite (b := ((x83.1.len : Nat) : Int) == 64) 100 rfl ?_ ?_
  refine KT.pv 101 (.slice x83.1.base x83.1.len x83.1.cap) ?_
  refine KT.oy rfl (OY.idx (d := 102) (s := x83.1) (i := 0) (size := 1) (elem := 5) _ _ _ rfl rfl rfl (by kernel_rfl) (by kernel_rfl) rfl rfl (fun x102 => ?_))
  refine KT.l 103 (fun x103 => ?_)
  refine KT.pv 104 (.bool (x103 == 5)) ?_
  refine KT.pv 105 (.bool (x103 == 5)) ?_
  exact KT.leafO j11 (.cons rfl (.cons rfl (.cons rfl (.cons rfl (.cons rfl (.cons rfl (.cons rfl (.cons rfl (.cons rfl (.nil))))))))))
  refine KT.sk ?_
  refine KT.sk ?_
  refine KT.sk ?_
  refine KT.sk ?_
  refine KT.pv 105 (.bool false) ?_
  exact KT.leafO j11 (.cons rfl (.cons rfl (.cons rfl (.cons rfl (.cons rfl (.cons rfl (.cons rfl (.cons rfl (.cons rfl (.nil))))))))))
  refine SC.cond (b := r9) rfl ?_ ?_
  refine SC.region' ?_
  refine KT.pv 95 (.int .i64 s8.1) ?_
  refine KT.pv 96 (.int .i64 (w64 (s8.1 + 1))) ?_
  refine KT.pv 12 (.int .i64 (w64 (s8.1 + 1))) ?_
  refine KT.nil ?_
  exact SX.leafS j10 (.cons rfl (.cons rfl (.cons rfl (.cons rfl (.cons rfl (.cons rfl (.cons rfl (.cons rfl (.cons rfl (.nil))))))))))
  refine SC.skip ?_
  exact SX.leafS j10 (.cons rfl (.cons rfl (.cons rfl (.cons rfl (.cons rfl (.cons rfl (.cons rfl (.cons rfl (.cons rfl (.nil))))))))))
  refine KT.ite (b := ((x83.1.len : Nat) : Int) == 64) 89 rfl ?_ ?_
  refine KT.pv 90 (.slice x83.1.base x83.1.len x83.1.cap) ?_
  refine KT.oy rfl (OY.idx (d := 91) (s := x83.1) (i := 0) (size := 1) (elem := 5) _ _ _ rfl rfl rfl (by kernel_rfl) (by kernel_rfl) rfl rfl (fun x91 => ?_))
  refine KT.l 92 (fun x92 => ?_)
  refine KT.pv 93 (.bool (x92 == 6)) ?_
  refine KT.pv 94 (.bool (x92 == 6)) ?_
  exact KT.leafO j9 (.cons rfl (.cons rfl (.cons rfl (.cons rfl (.cons rfl (.cons rfl (.cons rfl (.cons rfl (.cons rfl (.cons rfl (.nil)))))))))))
  refine KT.sk ?_
  refine KT.sk ?_
  refine KT.sk ?_
  refine KT.sk ?_
  refine KT.pv 94 (.bool false) ?_
  exact KT.leafO j9 (.cons rfl (.cons rfl (.cons rfl (.cons rfl (.cons rfl (.cons rfl (.cons rfl (.cons rfl (.cons rfl (.cons rfl (.nil)))))))))))
  refine SC.exit ?_
  refine SX.then_exit ?_
  refine SX.loop_exit ?_
  refine SX.block_hit ?_
  refine SX.block ?_
  refine SX.seq ?_
  refine SC.region' ?_
  refine KT.pv 73 (.int .i64 s7.2.2) ?_
  refine KT.pv 74 (.int .i64 (w64 (s7.2.2 + 1))) ?_
  refine KT.pv 14 (.int .i64 (w64 (s7.2.2 + 1))) ?_
  refine KT.nil ?_
  exact SX.loop_next (.cons rfl (.cons rfl (.cons rfl (.cons rfl (.cons rfl (.cons rfl (.cons rfl (.nil))))))))
  refine SC.exit ?_
  refine SX.then_exit ?_
  refine SX.loop_exit ?_
  refine SX.block_hit ?_
  refine SX.seq ?_
  refine SC.seq ?_
  refine SC.region' ?_
  refine KT.pv 109 (.pointer x42.1) ?_
  refine KT.cl (fun y : (Int × Bool × Int) => (.tuple #[(.int .i64 y.1), (.bool y.2.1), (.int .i64 y.2.2)])) 110 49 #[(.pointer x42.1), (.int .i64 1)] (stripe_Whole_sim x42.1 1) (fun x110 => ?_)
  refine KT.pv 108 (.tuple #[(.int .i64 x110.1), (.bool x110.2.1), (.int .i64 x110.2.2)]) ?_
  refine KT.pv 111 (.int .i64 x110.1) ?_
  refine KT.pv 112 (.bool x110.2.1) ?_
  refine KT.pv 113 (.int .i64 x110.2.2) ?_
  refine KT.pv 18 (.int .i64 x110.1) ?_
  refine KT.pv 19 (.bool x110.2.1) ?_
  refine KT.pv 20 (.int .i64 x110.2.2) ?_
  refine KT.nil ?_
  refine SX.seq ?_
  refine SC.seq ?_
  refine SC.seq ?_
  refine SC.region' ?_
  refine KT.pv 114 (.int .i64 x110.2.2) ?_
  refine KT.pv 115 (.bool (x110.2.2 != 0)) ?_
  refine KT.pv 116 (.bool (x110.2.2 != 0)) ?_
  refine KT.joinO (β := Bool) 5 (fun r12 => [(121, (.bool r12)), (2, (.int .i64 p2_calls)), (11, (.int .i64 x67)), (12, (.int .i64 s7.1)), (13, (.int .i64 s7.2.1)), (18, (.int .i64 x110.1)), (19, (.bool x110.2.1))]) (fun r12 => ?_) (fun j12 => ?_)
  refine KT.pv 122 (.bool r12) ?_
  refine KT.joinO (β := Bool) 6 (fun r13 => [(128, (.bool r13)), (12, (.int .i64 s7.1)), (13, (.int .i64 s7.2.1)), (18, (.int .i64 x110.1)), (19, (.bool x110.2.1))]) (fun r13 => ?_) (fun j13 => ?_)
  refine KT.nil ?_
  refine SX.seq ?_
  refine SC.cond (b := r13) rfl ?_ ?_
  refine SC.seq ?_
  refine SC.region' ?_
  refine KT.pv 8 (.bool false) ?_
  refine KT.nil ?_
  refine SX.seq ?_
  refine SC.ret ?_
  refine SX.then_ret ?_
  refine SX.ret [.tmp 8] rfl ?_
  refine RS.tmp (.bool false) rfl ?_
  exact RS.nil rfl
  refine SC.skip ?_
  refine SX.seq ?_
  refine SC.seq ?_
  refine SC.seq ?_
  refine SC.region' ?_
  refine KT.pv 129 (.int .i64 s7.1) ?_
  refine KT.pv 130 (.bool (s7.1 == 9)) ?_
  refine KT.nil ?_
  refine SX.seq ?_
  refine SC.cond (b := s7.1 == 9) rfl ?_ ?_
  refine SC.seq ?_
  refine SC.region' ?_
  refine KT.pv 131 (.bool x110.2.1) ?_
  refine KT.pv 132 (.bool x110.2.1) ?_
  refine KT.joinO (β := Bool) 3 (fun r14 => [(135, (.bool r14))]) (fun r14 => ?_) (fun j14 => ?_)
  refine KT.pv 8 (.bool r14) ?_
  refine KT.nil ?_
  refine SX.seq ?_
  refine SC.ret ?_
  refine SX.then_ret ?_
  refine SX.ret [.tmp 8] rfl ?_
  refine RS.tmp (.bool r14) rfl ?_
  exact RS.nil rfl
  refine KT.ite (b := x110.2.1) 132 rfl ?_ ?_
  refine KT.pv 133 (.int .i64 x110.1) ?_
  refine KT.pv 134 (.bool (x110.1 == 6)) ?_
  refine KT.pv 135 (.bool (x110.1 == 6)) ?_
  exact KT.leafO j14 (.cons rfl (.nil))
  refine KT.sk ?_
  refine KT.sk ?_
  refine KT.pv 135 (.bool false) ?_
  exact KT.leafO j14 (.cons rfl (.nil))
  refine SC.skip ?_
  refine SX.seq ?_
  refine SC.seq ?_
  refine SC.seq ?_
  refine SC.region' ?_
  refine KT.pv 136 (.int .i64 s7.2.1) ?_
  refine KT.pv 137 (.bool (s7.2.1 == 9)) ?_
  refine KT.nil ?_
  refine SX.seq ?_
  refine SC.cond (b := s7.2.1 == 9) rfl ?_ ?_
  refine SC.seq ?_
  refine SC.region' ?_
  refine KT.pv 138 (.bool x110.2.1) ?_
  refine KT.pv 139 (.bool x110.2.1) ?_
  refine KT.joinO (β := Bool) 3 (fun r15 => [(142, (.bool r15))]) (fun r15 => ?_) (fun j15 => ?_)
  refine KT.pv 8 (.bool r15) ?_
  refine KT.nil ?_
  refine SX.seq ?_
  refine SC.ret ?_
  refine SX.then_ret ?_
  refine SX.ret [.tmp 8] rfl ?_
  refine RS.tmp (.bool r15) rfl ?_
  exact RS.nil rfl
  refine KT.ite (b := x110.2.1) 139 rfl ?_ ?_
  refine KT.pv 140 (.int .i64 x110.1) ?_
  refine KT.pv 141 (.bool (x110.1 == 5)) ?_
  refine KT.pv 142 (.bool (x110.1 == 5)) ?_
  exact KT.leafO j15 (.cons rfl (.nil))
  refine KT.sk ?_
  refine KT.sk ?_
  refine KT.pv 142 (.bool false) ?_
  exact KT.leafO j15 (.cons rfl (.nil))
  refine SC.skip ?_
  refine SX.seq ?_
  refine SC.seq ?_
  refine SC.region' ?_
  refine KT.pv 143 (.bool x110.2.1) ?_
  refine KT.pv 144 (.bool (!x110.2.1)) ?_
  refine KT.pv 145 (.bool (!x110.2.1)) ?_
  refine KT.joinO (β := Bool) 3 (fun r16 => [(148, (.bool r16))]) (fun r16 => ?_) (fun j16 => ?_)
  refine KT.pv 8 (.bool r16) ?_
  refine KT.nil ?_
  refine SX.seq ?_
  refine SC.ret ?_
  refine SX.ret [.tmp 8] rfl ?_
  refine RS.tmp (.bool r16) rfl ?_
  exact RS.nil rfl
  refine KT.ite (b := !x110.2.1) 145 rfl ?_ ?_
  refine KT.pv 146 (.int .i64 x110.1) ?_
  refine KT.pv 147 (.bool (x110.1 == 0)) ?_
  refine KT.pv 148 (.bool (x110.1 == 0)) ?_
  exact KT.leafO j16 (.cons rfl (.nil))
  refine KT.sk ?_
  refine KT.sk ?_
  refine KT.pv 148 (.bool false) ?_
  exact KT.leafO j16 (.cons rfl (.nil))
  refine KT.ite (b := r12) 122 rfl ?_ ?_
  refine KT.sk ?_
  refine KT.sk ?_
  refine KT.sk ?_
  refine KT.sk ?_
  refine KT.sk ?_
  refine KT.pv 128 (.bool true) ?_
  exact KT.leafO j13 (.cons rfl (.cons rfl (.cons rfl (.cons rfl (.cons rfl (.nil))))))
  refine KT.pv 123 (.int .i64 x67) ?_
  refine KT.pv 124 (.bool (x67 == 12)) ?_
  refine KT.pv 125 (.int .i64 p2_calls) ?_
  refine KT.pv 126 (.bool (decide (p2_calls < 9))) ?_
  refine KT.pv 127 (.bool (!((x67 == 12) == (decide (p2_calls < 9))))) ?_
  refine KT.pv 128 (.bool (!((x67 == 12) == (decide (p2_calls < 9))))) ?_
  exact KT.leafO j13 (.cons rfl (.cons rfl (.cons rfl (.cons rfl (.cons rfl (.nil))))))
  refine KT.ite (b := x110.2.2 != 0) 116 rfl ?_ ?_
  refine KT.sk ?_
  refine KT.sk ?_
  refine KT.sk ?_
  refine KT.sk ?_
  refine KT.pv 121 (.bool true) ?_
  exact KT.leafO j12 (.cons rfl (.cons rfl (.cons rfl (.cons rfl (.cons rfl (.cons rfl (.cons rfl (.nil))))))))
  refine KT.pv 117 (.int .i64 s7.1) ?_
  refine KT.pv 118 (.int .i64 s7.2.1) ?_
  refine KT.pv 119 (.int .i64 (w64 (s7.1 + s7.2.1))) ?_
  refine KT.pv 120 (.bool ((w64 (s7.1 + s7.2.1)) != 9)) ?_
  refine KT.pv 121 (.bool ((w64 (s7.1 + s7.2.1)) != 9)) ?_
  exact KT.leafO j12 (.cons rfl (.cons rfl (.cons rfl (.cons rfl (.cons rfl (.cons rfl (.cons rfl (.nil))))))))
  refine KT.ite (b := r5) 57 rfl ?_ ?_
  refine KT.sk ?_
  refine KT.sk ?_
  refine KT.sk ?_
  refine KT.pv 61 (.bool true) ?_
  exact KT.leafO j6 (.cons rfl (.cons rfl (.cons rfl (.cons rfl (.cons rfl (.cons rfl (.nil)))))))
  refine KT.pv 58 (.pointer x42.1) ?_
  refine KT.cl (Value.int .i64) 59 35 #[(.pointer x42.1)] (bank_Bank_Flush_sim x42.1) (fun x59 => ?_)
  refine KT.pv 60 (.bool (x59 != 0)) ?_
  refine KT.pv 61 (.bool (x59 != 0)) ?_
  exact KT.leafO j6 (.cons rfl (.cons rfl (.cons rfl (.cons rfl (.cons rfl (.cons rfl (.nil)))))))
  refine KT.ite (b := r4) 51 rfl ?_ ?_
  refine KT.sk ?_
  refine KT.sk ?_
  refine KT.sk ?_
  refine KT.sk ?_
  refine KT.pv 56 (.bool true) ?_
  exact KT.leafO j5 (.cons rfl (.cons rfl (.cons rfl (.cons rfl (.cons rfl (.cons rfl (.nil)))))))
  refine KT.pv 52 (.pointer x42.1) ?_
  refine KT.pv 53 (.slice p0_first.base p0_first.len p0_first.cap) ?_
  refine KT.cl (Value.int .i64) 54 48 #[(.pointer x42.1), (.int .i64 1), (.int .i64 5), (.slice p0_first.base p0_first.len p0_first.cap)] (stripe_Write_sim x42.1 1 5 p0_first) (fun x54 => ?_)
  refine KT.pv 55 (.bool (x54 != 0)) ?_
  refine KT.pv 56 (.bool (x54 != 0)) ?_
  exact KT.leafO j5 (.cons rfl (.cons rfl (.cons rfl (.cons rfl (.cons rfl (.cons rfl (.nil)))))))
  refine KT.ite (b := (x42.1).isNone) 47 rfl ?_ ?_
  refine KT.sk ?_
  refine KT.sk ?_
  refine KT.pv 50 (.bool true) ?_
  exact KT.leafO j4 (.cons rfl (.cons rfl (.cons rfl (.cons rfl (.cons rfl (.cons rfl (.cons rfl (.nil))))))))
  refine KT.pv 48 (.pointer x42.2) ?_
  refine KT.oy rfl (OY.eqlNil (d := 49) (p := x42.2) _ _ _ _ rfl rfl rfl (by kernel_rfl) rfl rfl ?_)
  refine KT.pv 50 (.bool ((x42.2).isNone)) ?_
  exact KT.leafO j4 (.cons rfl (.cons rfl (.cons rfl (.cons rfl (.cons rfl (.cons rfl (.cons rfl (.nil))))))))
  refine KT.ite (b := r2) 36 rfl ?_ ?_
  refine KT.sk ?_
  refine KT.sk ?_
  refine KT.pv 39 (.bool true) ?_
  exact KT.leafO j3 (.cons rfl (.cons rfl (.cons rfl (.cons rfl (.cons rfl (.nil))))))
  refine KT.pv 37 (.int .i64 p2_calls) ?_
  refine KT.pv 38 (.bool (decide (p2_calls < 0))) ?_
  refine KT.pv 39 (.bool (decide (p2_calls < 0))) ?_
  exact KT.leafO j3 (.cons rfl (.cons rfl (.cons rfl (.cons rfl (.cons rfl (.nil))))))
  refine KT.ite (b := r1) 31 rfl ?_ ?_
  refine KT.sk ?_
  refine KT.sk ?_
  refine KT.sk ?_
  refine KT.pv 35 (.bool true) ?_
  exact KT.leafO j2 (.cons rfl (.cons rfl (.cons rfl (.cons rfl (.cons rfl (.nil))))))
  refine KT.pv 32 (.slice p3_keeps.base p3_keeps.len p3_keeps.cap) ?_
  refine KT.pv 33 (.int .i64 ((p3_keeps.len : Nat) : Int)) ?_
  refine KT.pv 34 (.bool (decide (((p3_keeps.len : Nat) : Int) > 100))) ?_
  refine KT.pv 35 (.bool (decide (((p3_keeps.len : Nat) : Int) > 100))) ?_
  exact KT.leafO j2 (.cons rfl (.cons rfl (.cons rfl (.cons rfl (.cons rfl (.nil))))))
  refine KT.ite (b := !x24) 26 rfl ?_ ?_
  refine KT.sk ?_
  refine KT.sk ?_
  refine KT.sk ?_
  refine KT.pv 30 (.bool true) ?_
  exact KT.leafO j1 (.cons rfl (.cons rfl (.cons rfl (.cons rfl (.cons rfl (.nil))))))
  refine KT.pv 27 (.slice p1_blocks.base p1_blocks.len p1_blocks.cap) ?_
  refine KT.cl Value.bool 28 46 #[(.slice p1_blocks.base p1_blocks.len p1_blocks.cap), (.int .i64 6)] (law07_fits_sim p1_blocks 6) (fun x28 => ?_)
  refine KT.pv 29 (.bool (!x28)) ?_
  refine KT.pv 30 (.bool (!x28)) ?_
  exact KT.leafO j1 (.cons rfl (.cons rfl (.cons rfl (.cons rfl (.cons rfl (.nil))))))

end Go.Proofs.Ytldmeimebebllaa
namespace Go.Proofs.Ytldmeimebebllaa
open Go.Mo
theorem disksOk : DisksOk (cvOf Try.prog) := fun b yv Q w hm =>
  enter_of (f := fid_bank_Bank_disks) (ags := #[.pointer b, yv]) (m := bank_Bank_disks (cvOf Try.prog) b yv) (enc := fun _ : Unit => .tuple #[]) (by simp [Deferred.ofValue, invoke]) (fun Qf' h => bank_Bank_disks_sim b yv Qf' w h) Q hm
end Go.Proofs.Ytldmeimebebllaa
namespace Go.Proofs.Ytldmeimebebllaa
open Go.Mo
theorem rowsOk : RowsOk (cvOf Try.prog) := fun a1 a2 yv Q w hm =>
  enter_of (f := fid_stripe_rows_c1) (ags := #[yv, .pointer (some a1), .pointer (some a2)]) (m := stripe_rows_c1 (cvOf Try.prog) yv a1 a2) (enc := fun _ : Unit => .tuple #[]) (by simp [Deferred.ofValue, invoke]) (fun Qf' h => stripe_rows_c1_sim yv a1 a2 Qf' w h) Q hm
end Go.Proofs.Ytldmeimebebllaa
namespace Go.Proofs.Ytldmeimebebllaa
open Go.Mo
theorem keysOk : KeysOk (cvOf Try.prog) := fun a yv Q w hm =>
  enter_of (f := fid_maps_Keys_m_c1) (ags := #[yv, .pointer (some a)]) (m := maps_Keys_m_c1 (cvOf Try.prog) yv a) (enc := fun _ : Unit => .tuple #[]) (by simp [Deferred.ofValue, invoke]) (fun Qf' h => maps_Keys_m_c1_sim yv a Qf' w h) Q hm
end Go.Proofs.Ytldmeimebebllaa
