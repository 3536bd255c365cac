/-
  A part of the proof: predicate transformers over the model, and a separation logic over them; what functions of the program do.
-/
import Derived.Test.YtldmeimebebllaaPart4
import Derived.Test.YtldmeimebebllaaProg
set_option linter.unusedSimpArgs false
namespace Go.Proofs.Ytldmeimebebllaa
open Go.Mo
set_option linter.unusedVariables false
set_option maxRecDepth 100000 in
theorem stripe_Read_sim (p0_b : (Option Addr)) (p1_seg : Int) (p2_k : Int) (p3_seq : Int) (Qf : ((Int × Int × Slc) × Int) → World → Prop) (w : World) (hm : stripe_Read (cvOf Try.prog) p0_b p1_seg p2_k p3_seq Qf w) : Calls Try.prog 50 #[(.pointer p0_b), (.int .i64 p1_seg), (.int .i64 p2_k), (.int .i64 p3_seq)] w (RetPost (fun y : ((Int × Int × Slc) × Int) => (.tuple #[(.agg #[(.int .i64 y.1.1), (.int .i64 y.1.2.1), (.slice y.1.2.2.base y.1.2.2.len y.1.2.2.cap)]), (.int .i64 y.2)])) Qf) := by
  refine calls_of (fn := Try.f50) (l := [(.pointer p0_b), (.int .i64 p1_seg), (.int .i64 p2_k), (.int .i64 p3_seq)]) (m := stripe_Read (cvOf Try.prog) p0_b p1_seg p2_k p3_seq) 80 (by kernel_rfl) rfl rfl rfl (fun Qf0 => ?_) Qf w hm
  clear hm w Qf
  unfold stripe_Read
  refine SC.seq ?_
  refine SC.region' ?_
  refine KT.nw 4 (fun ad => .pointer (some ad)) 38 (fun x4 => ?_)
  refine KT.nw 6 (fun ad => .pointer (some ad)) 3 (fun x6 => ?_)
  refine KT.nw 7 (fun ad => .pointer (some ad)) 3 (fun x7 => ?_)
  refine KT.nw 8 (fun ad => .pointer (some ad)) 78 (fun x8 => ?_)
  refine KT.pv 9 (.int .i64 0) ?_
  refine KT.nil ?_
  refine SX.seq ?_
  refine SC.seq ?_
  refine SC.region' ?_
  refine KT.l 19 (fun x19 => ?_)
  refine KT.cl (fun y : (Int × Int × Int) => (.agg #[(.int .i64 y.1), (.int .i64 y.2.1), (.int .i64 y.2.2)])) 20 63 #[(.pointer x19)] (bank_Bank_Geo_sim x19) (fun x20 => ?_)
  refine KT.nw 10 (fun ad => .pointer (some ad)) 23 (fun x10 => ?_)
  refine KT.ow rfl (OW.stA _ _ _ rfl rfl rfl rfl rfl (by kernel_rfl) ?_)
  refine KT.nil ?_
  refine SX.seq ?_
  refine SC.seq ?_
  refine SC.region' ?_
  refine KT.ow rfl (OW.ldA (d := 22) (enc := (fun y : (Int × Int × Int) => [(.int .i64 y.1), (.int .i64 y.2.1), (.int .i64 y.2.2)])) 3 _ _ rfl rfl (by kernel_rfl) (by kernel_rfl) (fun _ => rfl) rfl rfl (fun x22 => ?_))
  refine KT.pv 23 (.int .i64 p1_seg) ?_
  refine KT.l 24 (fun x24 => ?_)
  refine KT.cl (fun y : ((Int × Int) × Bool) => (.tuple #[(.agg #[(.int .i64 y.1.1), (.int .i64 y.1.2)]), (.bool y.2)])) 25 83 #[(.agg #[(.int .i64 x22.1), (.int .i64 x22.2.1), (.int .i64 x22.2.2)]), (.int .i64 p1_seg), (.int .i64 x24)] (geo_Block_sim (x22.1, x22.2.1, x22.2.2) p1_seg x24) (fun x25 => ?_)
  refine KT.pv 21 (.tuple #[(.agg #[(.int .i64 x25.1.1), (.int .i64 x25.1.2)]), (.bool x25.2)]) ?_
  refine KT.pv 26 (.agg #[(.int .i64 x25.1.1), (.int .i64 x25.1.2)]) ?_
  refine KT.pv 27 (.bool x25.2) ?_
  refine KT.nw 11 (fun ad => .pointer (some ad)) 140 (fun x11 => ?_)
  refine KT.nw 12 (fun ad => .pointer (some ad)) 4 (fun x12 => ?_)
  refine KT.ow rfl (OW.stA _ _ _ rfl rfl rfl rfl rfl (by kernel_rfl) ?_)
  refine KT.s ?_
  refine KT.nil ?_
  refine SX.seq ?_
  refine SC.seq ?_
  refine SC.block ?_
  refine SC.seq ?_
  refine SC.region' ?_
  refine KT.l 29 (fun x29 => ?_)
  refine KT.pv 30 (.bool (!x29)) ?_
  refine KT.pv 28 (.bool (!x29)) ?_
  refine KT.nil ?_
  refine SX.seq ?_
  refine SC.cond (b := !x29) rfl ?_ ?_
  refine SC.seq ?_
  refine SC.region' ?_
  refine KT.pv 31 (.agg #[(.int .i64 0), (.int .i64 0), (.slice none 0 0)]) ?_
  refine KT.ow rfl (OW.stA _ _ _ rfl rfl rfl rfl rfl (by kernel_rfl) ?_)
  refine KT.pv 9 (.int .i64 28) ?_
  refine KT.nil ?_
  refine SX.seq ?_
  refine SC.ret ?_
  refine SX.block_ret ?_
  refine SX.then_ret ?_
  refine SX.ret [.cell 8 78, .tmp 9] rfl ?_
  refine RS.cellA 3 (by kernel_rfl) rfl rfl (fun _ => rfl) (fun r8 => ?_)
  refine RS.tmp (.int .i64 28) rfl ?_
  exact RS.nil rfl
  refine SC.seq ?_
  refine SC.region' ?_
  refine KT.l 33 (fun x33 => ?_)
  refine KT.cl Value.bool 34 84 #[(.pointer x33)] (bank_Bank_Off_sim x33) (fun x34 => ?_)
  refine KT.pv 32 (.bool x34) ?_
  refine KT.nil ?_
  refine SX.seq ?_
  refine SC.cond (b := x34) rfl ?_ ?_
  refine SC.seq ?_
  refine SC.region' ?_
  refine KT.pv 35 (.agg #[(.int .i64 0), (.int .i64 0), (.slice none 0 0)]) ?_
  refine KT.ow rfl (OW.stA _ _ _ rfl rfl rfl rfl rfl (by kernel_rfl) ?_)
  refine KT.pv 9 (.int .i64 12) ?_
  refine KT.nil ?_
  refine SX.seq ?_
  refine SC.ret ?_
  refine SX.block_ret ?_
  refine SX.then_ret ?_
  refine SX.ret [.cell 8 78, .tmp 9] rfl ?_
  refine RS.cellA 3 (by kernel_rfl) rfl rfl (fun _ => rfl) (fun r8 => ?_)
  refine RS.tmp (.int .i64 12) rfl ?_
  exact RS.nil rfl
  refine SC.skip ?_
  refine SX.block ?_
  refine SX.seq ?_
  refine SC.seq ?_
  refine SC.region' ?_
  refine KT.l 37 (fun x37 => ?_)
  refine KT.ow rfl (OW.ldA (d := 38) (enc := (fun y : (Int × Int) => [(.int .i64 y.1), (.int .i64 y.2)])) 2 _ _ rfl rfl (by kernel_rfl) (by kernel_rfl) (fun _ => rfl) rfl rfl (fun x38 => ?_))
  refine KT.l 39 (fun x39 => ?_)
  refine KT.cl (fun y : (Slc × Bool) => (.tuple #[(.slice y.1.base y.1.len y.1.cap), (.bool y.2)])) 40 85 #[(.pointer x37), (.agg #[(.int .i64 x38.1), (.int .i64 x38.2)]), (.int .i64 x39)] (stripe_good_sim x37 (x38.1, x38.2) x39) (fun x40 => ?_)
  refine KT.pv 36 (.tuple #[(.slice x40.1.base x40.1.len x40.1.cap), (.bool x40.2)]) ?_
  refine KT.pv 41 (.slice x40.1.base x40.1.len x40.1.cap) ?_
  refine KT.pv 42 (.bool x40.2) ?_
  refine KT.nw 13 (fun ad => .pointer (some ad)) 46 (fun x13 => ?_)
  refine KT.s ?_
  refine KT.s ?_
  refine KT.nil ?_
  refine SX.sub (T' := [(1, (.int .i64 p1_seg)), (4, (.pointer (some x4))), (6, (.pointer (some x6))), (7, (.pointer (some x7))), (8, (.pointer (some x8))), (9, (.int .i64 0)), (10, (.pointer (some x10))), (11, (.pointer (some x11))), (12, (.pointer (some x12))), (13, (.pointer (some x13)))]) (.cons rfl (.cons rfl (.cons rfl (.cons rfl (.cons rfl (.cons rfl (.cons rfl (.cons rfl (.cons rfl (.cons rfl (.nil))))))))))) ?_
  refine SX.seq ?_
  refine SC.seq ?_
  refine SC.seq ?_
  refine SC.region' ?_
  refine KT.l 43 (fun x43 => ?_)
  refine KT.pv 44 (.bool (!x43)) ?_
  refine KT.nil ?_
  refine SX.seq ?_
  refine SC.joinN (β := List Nat) (fun b1 => ⟨80, b1⟩) (fun b1 => [(8, (.pointer (some x8))), (12, (.pointer (some x12))), (13, (.pointer (some x13)))]) (fun b1 => ?_) (fun j1 => ?_)
  refine SX.seq ?_
  refine SC.seq ?_
  refine SC.seq ?_
  refine SC.region' ?_
  refine KT.l 65 (fun x65 => ?_)
  refine KT.pv 66 (.bool (!x65)) ?_
  refine KT.nil ?_
  refine SX.seq ?_
  refine SC.cond (b := !x65) rfl ?_ ?_
  refine SC.seq ?_
  refine SC.region' ?_
  refine KT.pv 67 (.agg #[(.int .i64 0), (.int .i64 0), (.slice none 0 0)]) ?_
  refine KT.ow rfl (OW.stA _ _ _ rfl rfl rfl rfl rfl (by kernel_rfl) ?_)
  refine KT.pv 9 (.int .i64 14) ?_
  refine KT.nil ?_
  refine SX.seq ?_
  refine SC.ret ?_
  refine SX.then_ret ?_
  refine SX.ret [.cell 8 78, .tmp 9] rfl ?_
  refine RS.cellA 3 (by kernel_rfl) rfl rfl (fun _ => rfl) (fun r8 => ?_)
  refine RS.tmp (.int .i64 14) rfl ?_
  exact RS.nil rfl
  refine SC.skip ?_
  refine SX.seq ?_
  refine SC.seq ?_
  refine SC.region' ?_
  refine KT.l 69 (fun x69 => ?_)
  refine KT.cl (fun y : ((Int × Int × Int) × Slc × Bool) => (.tuple #[(.agg #[(.int .i64 y.1.1), (.int .i64 y.1.2.1), (.int .i64 y.1.2.2)]), (.slice y.2.1.base y.2.1.len y.2.1.cap), (.bool y.2.2)])) 70 82 #[(.slice x69.base x69.len x69.cap)] (sector_Decode_sim x69) (fun x70 => ?_)
  refine KT.pv 68 (.tuple #[(.agg #[(.int .i64 x70.1.1), (.int .i64 x70.1.2.1), (.int .i64 x70.1.2.2)]), (.slice x70.2.1.base x70.2.1.len x70.2.1.cap), (.bool x70.2.2)]) ?_
  refine KT.pv 71 (.agg #[(.int .i64 x70.1.1), (.int .i64 x70.1.2.1), (.int .i64 x70.1.2.2)]) ?_
  refine KT.pv 72 (.slice x70.2.1.base x70.2.1.len x70.2.1.cap) ?_
  refine KT.pv 73 (.bool x70.2.2) ?_
  refine KT.nw 16 (fun ad => .pointer (some ad)) 144 (fun x16 => ?_)
  refine KT.ow rfl (OW.stA _ _ _ rfl rfl rfl rfl rfl (by kernel_rfl) ?_)
  refine KT.pv 17 (.slice x70.2.1.base x70.2.1.len x70.2.1.cap) ?_
  refine KT.pv 18 (.bool x70.2.2) ?_
  refine KT.nil ?_
  refine SX.seq ?_
  refine SC.seq ?_
  refine SC.region' ?_
  refine KT.pv 74 (.pointer (some (Addr.add x16 1))) ?_
  refine KT.l 75 (fun x75 => ?_)
  refine KT.pv 76 (.pointer (some (Addr.add x16 2))) ?_
  refine KT.l 77 (fun x77 => ?_)
  refine KT.pv 78 (.slice x70.2.1.base x70.2.1.len x70.2.1.cap) ?_
  refine KT.pv 79 (.agg #[(.int .i64 x75), (.int .i64 x77), (.slice x70.2.1.base x70.2.1.len x70.2.1.cap)]) ?_
  refine KT.ow rfl (OW.stA _ _ _ rfl rfl rfl rfl rfl (by kernel_rfl) ?_)
  refine KT.pv 9 (.int .i64 0) ?_
  refine KT.nil ?_
  refine SX.seq ?_
  refine SC.ret ?_
  refine SX.ret [.cell 8 78, .tmp 9] rfl ?_
  refine RS.cellA 3 (by kernel_rfl) rfl rfl (fun _ => rfl) (fun r8 => ?_)
  refine RS.tmp (.int .i64 0) rfl ?_
  exact RS.nil rfl
  refine SC.cond (b := !x43) rfl ?_ ?_
  refine SC.seq ?_
  refine SC.region' ?_
  refine KT.ow rfl (OW.ldA (d := 45) (enc := (fun y : (Int × Int × Int) => [(.int .i64 y.1), (.int .i64 y.2.1), (.int .i64 y.2.2)])) 3 _ _ rfl rfl (by kernel_rfl) (by kernel_rfl) (fun _ => rfl) rfl rfl (fun x45 => ?_))
  refine KT.pv 46 (.int .i64 p1_seg) ?_
  refine KT.cl (fun v : Value => v) 47 78 #[(.agg #[(.int .i64 x45.1), (.int .i64 x45.2.1), (.int .i64 x45.2.2)]), (.int .i64 p1_seg)] (stripe_rows_sim (x45.1, x45.2.1, x45.2.2) p1_seg) (fun x47 => ?_)
  refine KT.nil ?_
  refine SX.seq ?_
  refine SC.block ?_
  refine SC.rangeF (ξ := (Int × Slc)) (τ := (Int × Slc)) (fv := x47) (ps := [48, 49]) (encX := (fun x_2 : (Int × Slc) => [(.int .i64 x_2.1), (.slice x_2.2.base x_2.2.len x_2.2.cap)])) (fun t_2 => [(4, (.pointer (some x4))), (6, (.pointer (some x6))), (7, (.pointer (some x7))), (10, (.pointer (some x10))), (11, (.pointer (some x11))), (12, (.pointer (some x12))), (13, (.pointer (some x13))), (14, (.int .i64 t_2.1)), (15, (.slice t_2.2.base t_2.2.len t_2.2.cap))]) rfl (fun _ => rfl) rfl (fun _ x_2 _ _ h2 => ?_) (fun _ _ _ t_2 => ?_) (fun D2 => ?_) (fun D2 => ?_) (fun D2 i2 => ?_)
  refine SC.seq ?_
  refine SC.region' ?_
  refine KT.pv 14 (.int .i64 x_2.1) ?_
  refine KT.nil ?_
  refine SX.seq ?_
  refine SC.region' ?_
  refine KT.pv 15 (.slice x_2.2.base x_2.2.len x_2.2.cap) ?_
  refine KT.nil ?_
  exact SX.leafP h2 (.cons rfl (.cons rfl (.cons rfl (.cons rfl (.cons rfl (.cons rfl (.cons rfl (.cons rfl (.cons rfl (.nil))))))))))
  refine SC.block ?_
  refine SC.seq ?_
  refine SC.region' ?_
  refine KT.pv 50 (.int .i64 t_2.1) ?_
  refine KT.l 51 (fun x51 => ?_)
  refine KT.pv 52 (.pointer (some x10)) ?_
  refine KT.l 53 (fun x53 => ?_)
  refine KT.pv 54 (.int .i64 (w64 (x53 - 1))) ?_
  refine KT.oy rfl (OY.quo (d := 55) (x := x51) (y := w64 (x53 - 1)) _ _ _ _ (w64 (Int.tdiv x51 (w64 (x53 - 1)))) rfl rfl rfl rfl rfl rfl ?_)
  refine KT.pv 56 (.bool (t_2.1 == (w64 (Int.tdiv x51 (w64 (x53 - 1)))))) ?_
  refine KT.nil ?_
  refine SX.seq ?_
  refine SC.cond (b := t_2.1 == (w64 (Int.tdiv x51 (w64 (x53 - 1))))) rfl ?_ ?_
  refine SC.region' ?_
  refine KT.l 58 (fun x58 => ?_)
  refine KT.pv 59 (.slice t_2.2.base t_2.2.len t_2.2.cap) ?_
  refine KT.ow rfl (OW.ldA (d := 60) (enc := (fun y : (Int × Int) => [(.int .i64 y.1), (.int .i64 y.2)])) 2 _ _ rfl rfl (by kernel_rfl) (by kernel_rfl) (fun _ => rfl) rfl rfl (fun x60 => ?_))
  refine KT.l 61 (fun x61 => ?_)
  refine KT.cl (fun y : (Slc × Bool) => (.tuple #[(.slice y.1.base y.1.len y.1.cap), (.bool y.2)])) 62 86 #[(.pointer x58), (.slice t_2.2.base t_2.2.len t_2.2.cap), (.agg #[(.int .i64 x60.1), (.int .i64 x60.2)]), (.int .i64 x61)] (stripe_others_sim x58 t_2.2 (x60.1, x60.2) x61) (fun x62 => ?_)
  refine KT.pv 57 (.tuple #[(.slice x62.1.base x62.1.len x62.1.cap), (.bool x62.2)]) ?_
  refine KT.pv 63 (.slice x62.1.base x62.1.len x62.1.cap) ?_
  refine KT.pv 64 (.bool x62.2) ?_
  refine KT.s ?_
  refine KT.s ?_
  refine KT.nil ?_
  refine SX.block ?_
  exact SX.round_next
  refine SC.skip ?_
  refine SX.block ?_
  exact SX.round_next
  refine SX.block ?_
  exact SX.leafN j1 rfl (.cons rfl (.cons rfl (.cons rfl (.nil))))
  exact SX.fail
  exact SX.fail
  refine SC.skip ?_
  exact SX.leafN j1 rfl (.cons rfl (.cons rfl (.cons rfl (.nil))))
set_option maxRecDepth 100000 in
theorem law07_alive_sim  (Qf : Bool → World → Prop) (w : World) (hm : law07_alive (cvOf Try.prog)  Qf w) : Calls Try.prog 45 #[] w (RetPost Value.bool Qf) := by
  refine calls_of (fn := Try.f45) (l := []) (m := law07_alive (cvOf Try.prog) ) 99 (by kernel_rfl) rfl rfl rfl (fun Qf0 => ?_) Qf w hm
  clear hm w Qf
  unfold law07_alive
  refine SC.seq ?_
  refine SC.region' ?_
  refine KT.pv 0 (.bool false) ?_
  refine KT.nil ?_
  refine SX.seq ?_
  refine SC.seq ?_
  refine SC.region' ?_
  refine KT.pv 11 (.agg #[(.int .i64 0), (.int .i64 0), (.int .i64 0)]) ?_
  refine KT.cl (fun y : ((Option Addr) × (Option Addr)) => (.tuple #[(.pointer y.1), (.pointer y.2)])) 12 47 #[(.agg #[(.int .i64 0), (.int .i64 0), (.int .i64 0)])] (law07_Open_sim (0, 0, 0)) (fun x12 => ?_)
  refine KT.pv 10 (.tuple #[(.pointer x12.1), (.pointer x12.2)]) ?_
  refine KT.pv 13 (.pointer x12.1) ?_
  refine KT.pv 14 (.pointer x12.2) ?_
  refine KT.pv 1 (.pointer x12.1) ?_
  refine KT.pv 2 (.pointer x12.2) ?_
  refine KT.nil ?_
  refine SX.seq ?_
  refine SC.seq ?_
  refine SC.seq ?_
  refine SC.region' ?_
  refine KT.pv 15 (.pointer x12.1) ?_
  refine KT.oy rfl (OY.eqlNil (d := 16) (p := x12.1) _ _ _ _ rfl rfl rfl (by kernel_rfl) rfl rfl ?_)
  refine KT.pv 17 (.bool ((x12.1).isNone)) ?_
  refine KT.joinO (β := Bool) 3 (fun r1 => [(20, (.bool r1)), (1, (.pointer x12.1)), (2, (.pointer x12.2))]) (fun r1 => ?_) (fun j1 => ?_)
  refine KT.pv 21 (.bool r1) ?_
  refine KT.joinO (β := Bool) 9 (fun r2 => [(30, (.bool r2)), (1, (.pointer x12.1)), (2, (.pointer x12.2))]) (fun r2 => ?_) (fun j2 => ?_)
  refine KT.nil ?_
  refine SX.seq ?_
  refine SC.cond (b := r2) rfl ?_ ?_
  refine SC.seq ?_
  refine SC.region' ?_
  refine KT.pv 0 (.bool false) ?_
  refine KT.nil ?_
  refine SX.seq ?_
  refine SC.ret ?_
  refine SX.then_ret ?_
  refine SX.ret [.tmp 0] rfl ?_
  refine RS.tmp (.bool false) rfl ?_
  exact RS.nil rfl
  refine SC.skip ?_
  refine SX.seq ?_
  refine SC.seq ?_
  refine SC.region' ?_
  refine KT.pv 31 (.pointer x12.2) ?_
  refine KT.cl (Value.int .i64) 32 34 #[(.pointer x12.2), (.int .i64 0), (.int .i64 0)] (device_Rack_Doom_sim x12.2 0 0) (fun x32 => ?_)
  refine KT.nil ?_
  refine SX.seq ?_
  refine SC.seq ?_
  refine SC.seq ?_
  refine SC.region' ?_
  refine KT.pv 33 (.pointer x12.1) ?_
  refine KT.cl (Value.int .i64) 34 35 #[(.pointer x12.1)] (bank_Bank_Flush_sim x12.1) (fun x34 => ?_)
  refine KT.pv 35 (.bool (x34 != 0)) ?_
  refine KT.nil ?_
  refine SX.seq ?_
  refine SC.cond (b := x34 != 0) rfl ?_ ?_
  refine SC.seq ?_
  refine SC.region' ?_
  refine KT.pv 0 (.bool false) ?_
  refine KT.nil ?_
  refine SX.seq ?_
  refine SC.ret ?_
  refine SX.then_ret ?_
  refine SX.ret [.tmp 0] rfl ?_
  refine RS.tmp (.bool false) rfl ?_
  exact RS.nil rfl
  refine SC.skip ?_
  refine SX.seq ?_
  refine SC.seq ?_
  refine SC.region' ?_
  refine KT.pv 37 (.pointer x12.1) ?_
  refine KT.cl (fun y : (Int × Bool × Int) => (.tuple #[(.int .i64 y.1), (.bool y.2.1), (.int .i64 y.2.2)])) 38 49 #[(.pointer x12.1), (.int .i64 2)] (stripe_Whole_sim x12.1 2) (fun x38 => ?_)
  refine KT.pv 36 (.tuple #[(.int .i64 x38.1), (.bool x38.2.1), (.int .i64 x38.2.2)]) ?_
  refine KT.pv 39 (.int .i64 x38.1) ?_
  refine KT.pv 40 (.bool x38.2.1) ?_
  refine KT.pv 41 (.int .i64 x38.2.2) ?_
  refine KT.pv 3 (.int .i64 x38.1) ?_
  refine KT.pv 4 (.bool x38.2.1) ?_
  refine KT.pv 5 (.int .i64 x38.2.2) ?_
  refine KT.nil ?_
  refine SX.seq ?_
  refine SC.seq ?_
  refine SC.region' ?_
  refine KT.pv 43 (.pointer x12.1) ?_
  refine KT.cl (fun y : ((Int × Int × Slc) × Int) => (.tuple #[(.agg #[(.int .i64 y.1.1), (.int .i64 y.1.2.1), (.slice y.1.2.2.base y.1.2.2.len y.1.2.2.cap)]), (.int .i64 y.2)])) 44 50 #[(.pointer x12.1), (.int .i64 2), (.int .i64 1), (.int .i64 7)] (stripe_Read_sim x12.1 2 1 7) (fun x44 => ?_)
  refine KT.pv 42 (.tuple #[(.agg #[(.int .i64 x44.1.1), (.int .i64 x44.1.2.1), (.slice x44.1.2.2.base x44.1.2.2.len x44.1.2.2.cap)]), (.int .i64 x44.2)]) ?_
  refine KT.pv 45 (.agg #[(.int .i64 x44.1.1), (.int .i64 x44.1.2.1), (.slice x44.1.2.2.base x44.1.2.2.len x44.1.2.2.cap)]) ?_
  refine KT.pv 46 (.int .i64 x44.2) ?_
  refine KT.nw 6 (fun ad => .pointer (some ad)) 78 (fun x6 => ?_)
  refine KT.ow rfl (OW.stA _ _ _ rfl rfl rfl rfl rfl (by kernel_rfl) ?_)
  refine KT.pv 7 (.int .i64 x44.2) ?_
  refine KT.nil ?_
  refine SX.seq ?_
  refine SC.seq ?_
  refine SC.region' ?_
  refine KT.pv 48 (.pointer x12.1) ?_
  refine KT.cl (fun y : ((Int × Int × Slc) × Int) => (.tuple #[(.agg #[(.int .i64 y.1.1), (.int .i64 y.1.2.1), (.slice y.1.2.2.base y.1.2.2.len y.1.2.2.cap)]), (.int .i64 y.2)])) 49 50 #[(.pointer x12.1), (.int .i64 2), (.int .i64 0), (.int .i64 7)] (stripe_Read_sim x12.1 2 0 7) (fun x49 => ?_)
  refine KT.pv 47 (.tuple #[(.agg #[(.int .i64 x49.1.1), (.int .i64 x49.1.2.1), (.slice x49.1.2.2.base x49.1.2.2.len x49.1.2.2.cap)]), (.int .i64 x49.2)]) ?_
  refine KT.pv 50 (.agg #[(.int .i64 x49.1.1), (.int .i64 x49.1.2.1), (.slice x49.1.2.2.base x49.1.2.2.len x49.1.2.2.cap)]) ?_
  refine KT.pv 51 (.int .i64 x49.2) ?_
  refine KT.nw 8 (fun ad => .pointer (some ad)) 78 (fun x8 => ?_)
  refine KT.ow rfl (OW.stA _ _ _ rfl rfl rfl rfl rfl (by kernel_rfl) ?_)
  refine KT.pv 9 (.int .i64 x49.2) ?_
  refine KT.nil ?_
  refine SX.sub (T' := [(3, (.int .i64 x38.1)), (4, (.bool x38.2.1)), (5, (.int .i64 x38.2.2)), (6, (.pointer (some x6))), (7, (.int .i64 x44.2)), (8, (.pointer (some x8))), (9, (.int .i64 x49.2))]) (.cons rfl (.cons rfl (.cons rfl (.cons rfl (.cons rfl (.cons rfl (.cons rfl (.nil)))))))) ?_
  refine SX.seq ?_
  refine SC.seq ?_
  refine SC.region' ?_
  refine KT.pv 52 (.int .i64 x38.1) ?_
  refine KT.pv 53 (.bool (x38.1 == 7)) ?_
  refine KT.pv 54 (.bool (x38.1 == 7)) ?_
  refine KT.joinO (β := Bool) 2 (fun r3 => [(56, (.bool r3)), (5, (.int .i64 x38.2.2)), (6, (.pointer (some x6))), (7, (.int .i64 x44.2)), (8, (.pointer (some x8))), (9, (.int .i64 x49.2))]) (fun r3 => ?_) (fun j3 => ?_)
  refine KT.pv 57 (.bool r3) ?_
  refine KT.joinO (β := Bool) 3 (fun r4 => [(60, (.bool r4)), (6, (.pointer (some x6))), (7, (.int .i64 x44.2)), (8, (.pointer (some x8))), (9, (.int .i64 x49.2))]) (fun r4 => ?_) (fun j4 => ?_)
  refine KT.pv 61 (.bool r4) ?_
  refine KT.joinO (β := Bool) 3 (fun r5 => [(64, (.bool r5)), (6, (.pointer (some x6))), (8, (.pointer (some x8))), (9, (.int .i64 x49.2))]) (fun r5 => ?_) (fun j5 => ?_)
  refine KT.pv 65 (.bool r5) ?_
  refine KT.joinO (β := Bool) 3 (fun r6 => [(68, (.bool r6)), (6, (.pointer (some x6))), (8, (.pointer (some x8)))]) (fun r6 => ?_) (fun j6 => ?_)
  refine KT.pv 69 (.bool r6) ?_
  refine KT.joinO (β := Bool) 4 (fun r7 => [(73, (.bool r7)), (6, (.pointer (some x6))), (8, (.pointer (some x8)))]) (fun r7 => ?_) (fun j7 => ?_)
  refine KT.pv 74 (.bool r7) ?_
  refine KT.joinO (β := Bool) 4 (fun r8 => [(78, (.bool r8)), (6, (.pointer (some x6))), (8, (.pointer (some x8)))]) (fun r8 => ?_) (fun j8 => ?_)
  refine KT.pv 79 (.bool r8) ?_
  refine KT.joinO (β := Bool) 5 (fun r9 => [(84, (.bool r9)), (6, (.pointer (some x6))), (8, (.pointer (some x8)))]) (fun r9 => ?_) (fun j9 => ?_)
  refine KT.pv 85 (.bool r9) ?_
  refine KT.joinO (β := Bool) 6 (fun r10 => [(91, (.bool r10)), (8, (.pointer (some x8)))]) (fun r10 => ?_) (fun j10 => ?_)
  refine KT.pv 92 (.bool r10) ?_
  refine KT.joinO (β := Bool) 6 (fun r11 => [(98, (.bool r11))]) (fun r11 => ?_) (fun j11 => ?_)
  refine KT.pv 0 (.bool r11) ?_
  refine KT.nil ?_
  refine SX.seq ?_
  refine SC.ret ?_
  refine SX.ret [.tmp 0] rfl ?_
  refine RS.tmp (.bool r11) rfl ?_
  exact RS.nil rfl
  refine KT.ite (b := r10) 92 rfl ?_ ?_
  refine KT.pv 93 (.pointer (some (Addr.add x8 2))) ?_
  refine KT.l 94 (fun x94 => ?_)
  refine KT.oy rfl (OY.idx (d := 95) (s := x94) (i := 0) (size := 1) (elem := 5) _ _ _ rfl rfl rfl (by kernel_rfl) (by kernel_rfl) rfl rfl (fun x95 => ?_))
  refine KT.l 96 (fun x96 => ?_)
  refine KT.pv 97 (.bool (x96 == 5)) ?_
  refine KT.pv 98 (.bool (x96 == 5)) ?_
  exact KT.leafO j11 (.cons rfl (.nil))
  refine KT.sk ?_
  refine KT.sk ?_
  refine KT.sk ?_
  refine KT.sk ?_
  refine KT.sk ?_
  refine KT.pv 98 (.bool false) ?_
  exact KT.leafO j11 (.cons rfl (.nil))
  refine KT.ite (b := r9) 85 rfl ?_ ?_
  refine KT.pv 86 (.pointer (some (Addr.add x6 2))) ?_
  refine KT.l 87 (fun x87 => ?_)
  refine KT.oy rfl (OY.idx (d := 88) (s := x87) (i := 0) (size := 1) (elem := 5) _ _ _ rfl rfl rfl (by kernel_rfl) (by kernel_rfl) rfl rfl (fun x88 => ?_))
  refine KT.l 89 (fun x89 => ?_)
  refine KT.pv 90 (.bool (x89 == 6)) ?_
  refine KT.pv 91 (.bool (x89 == 6)) ?_
  exact KT.leafO j10 (.cons rfl (.cons rfl (.nil)))
  refine KT.sk ?_
  refine KT.sk ?_
  refine KT.sk ?_
  refine KT.sk ?_
  refine KT.sk ?_
  refine KT.pv 91 (.bool false) ?_
  exact KT.leafO j10 (.cons rfl (.cons rfl (.nil)))
  refine KT.ite (b := r8) 79 rfl ?_ ?_
  refine KT.pv 80 (.pointer (some (Addr.add x6 2))) ?_
  refine KT.l 81 (fun x81 => ?_)
  refine KT.pv 82 (.int .i64 ((x81.len : Nat) : Int)) ?_
  refine KT.pv 83 (.bool (((x81.len : Nat) : Int) == 56)) ?_
  refine KT.pv 84 (.bool (((x81.len : Nat) : Int) == 56)) ?_
  exact KT.leafO j9 (.cons rfl (.cons rfl (.cons rfl (.nil))))
  refine KT.sk ?_
  refine KT.sk ?_
  refine KT.sk ?_
  refine KT.sk ?_
  refine KT.pv 84 (.bool false) ?_
  exact KT.leafO j9 (.cons rfl (.cons rfl (.cons rfl (.nil))))
  refine KT.ite (b := r7) 74 rfl ?_ ?_
  refine KT.pv 75 (.pointer (some (Addr.add x6 1))) ?_
  refine KT.l 76 (fun x76 => ?_)
  refine KT.pv 77 (.bool (x76 == 3)) ?_
  refine KT.pv 78 (.bool (x76 == 3)) ?_
  exact KT.leafO j8 (.cons rfl (.cons rfl (.cons rfl (.nil))))
  refine KT.sk ?_
  refine KT.sk ?_
  refine KT.sk ?_
  refine KT.pv 78 (.bool false) ?_
  exact KT.leafO j8 (.cons rfl (.cons rfl (.cons rfl (.nil))))
  refine KT.ite (b := r6) 69 rfl ?_ ?_
  refine KT.pv 70 (.pointer (some x6)) ?_
  refine KT.l 71 (fun x71 => ?_)
  refine KT.pv 72 (.bool (x71 == 2)) ?_
  refine KT.pv 73 (.bool (x71 == 2)) ?_
  exact KT.leafO j7 (.cons rfl (.cons rfl (.cons rfl (.nil))))
  refine KT.sk ?_
  refine KT.sk ?_
  refine KT.sk ?_
  refine KT.pv 73 (.bool false) ?_
  exact KT.leafO j7 (.cons rfl (.cons rfl (.cons rfl (.nil))))
  refine KT.ite (b := r5) 65 rfl ?_ ?_
  refine KT.pv 66 (.int .i64 x49.2) ?_
  refine KT.pv 67 (.bool (x49.2 == 0)) ?_
  refine KT.pv 68 (.bool (x49.2 == 0)) ?_
  exact KT.leafO j6 (.cons rfl (.cons rfl (.cons rfl (.nil))))
  refine KT.sk ?_
  refine KT.sk ?_
  refine KT.pv 68 (.bool false) ?_
  exact KT.leafO j6 (.cons rfl (.cons rfl (.cons rfl (.nil))))
  refine KT.ite (b := r4) 61 rfl ?_ ?_
  refine KT.pv 62 (.int .i64 x44.2) ?_
  refine KT.pv 63 (.bool (x44.2 == 0)) ?_
  refine KT.pv 64 (.bool (x44.2 == 0)) ?_
  exact KT.leafO j5 (.cons rfl (.cons rfl (.cons rfl (.cons rfl (.nil)))))
  refine KT.sk ?_
  refine KT.sk ?_
  refine KT.pv 64 (.bool false) ?_
  exact KT.leafO j5 (.cons rfl (.cons rfl (.cons rfl (.cons rfl (.nil)))))
  refine KT.ite (b := r3) 57 rfl ?_ ?_
  refine KT.pv 58 (.int .i64 x38.2.2) ?_
  refine KT.pv 59 (.bool (x38.2.2 == 0)) ?_
  refine KT.pv 60 (.bool (x38.2.2 == 0)) ?_
  exact KT.leafO j4 (.cons rfl (.cons rfl (.cons rfl (.cons rfl (.cons rfl (.nil))))))
  refine KT.sk ?_
  refine KT.sk ?_
  refine KT.pv 60 (.bool false) ?_
  exact KT.leafO j4 (.cons rfl (.cons rfl (.cons rfl (.cons rfl (.cons rfl (.nil))))))
  refine KT.ite (b := x38.1 == 7) 54 rfl ?_ ?_
  refine KT.pv 55 (.bool x38.2.1) ?_
  refine KT.pv 56 (.bool x38.2.1) ?_
  exact KT.leafO j3 (.cons rfl (.cons rfl (.cons rfl (.cons rfl (.cons rfl (.cons rfl (.nil)))))))
  refine KT.sk ?_
  refine KT.pv 56 (.bool false) ?_
  exact KT.leafO j3 (.cons rfl (.cons rfl (.cons rfl (.cons rfl (.cons rfl (.cons rfl (.nil)))))))
  refine KT.ite (b := r1) 21 rfl ?_ ?_
  refine KT.sk ?_
  refine KT.sk ?_
  refine KT.sk ?_
  refine KT.sk ?_
  refine KT.sk ?_
  refine KT.sk ?_
  refine KT.sk ?_
  refine KT.sk ?_
  refine KT.pv 30 (.bool true) ?_
  exact KT.leafO j2 (.cons rfl (.cons rfl (.cons rfl (.nil))))
  refine KT.pv 22 (.pointer x12.1) ?_
  refine KT.nw 23 (fun ad => .slice (some ad) 1 1) 5 (fun x23 => ?_)
  refine KT.pv 24 (.agg #[(.int .i64 1), (.int .i64 0), (.slice (some x23) 1 1)]) ?_
  refine KT.nw 25 (fun ad => .slice (some ad) 1 1) 5 (fun x25 => ?_)
  refine KT.pv 26 (.agg #[(.int .i64 2), (.int .i64 3), (.slice (some x25) 1 1)]) ?_
  refine KT.nw 27 (fun ad => .slice (some ad) 2 2) 78 (fun x27 => ?_)
  refine KT.cl (Value.int .i64) 28 48 #[(.pointer x12.1), (.int .i64 2), (.int .i64 7), (.slice (some x27) 2 2)] (stripe_Write_sim x12.1 2 7 (⟨some x27, 2, 2⟩)) (fun x28 => ?_)
  refine KT.pv 29 (.bool (x28 != 0)) ?_
  refine KT.pv 30 (.bool (x28 != 0)) ?_
  exact KT.leafO j2 (.cons rfl (.cons rfl (.cons rfl (.nil))))
  refine KT.ite (b := (x12.1).isNone) 17 rfl ?_ ?_
  refine KT.sk ?_
  refine KT.sk ?_
  refine KT.pv 20 (.bool true) ?_
  exact KT.leafO j1 (.cons rfl (.cons rfl (.cons rfl (.nil))))
  refine KT.pv 18 (.pointer x12.2) ?_
  refine KT.oy rfl (OY.eqlNil (d := 19) (p := x12.2) _ _ _ _ rfl rfl rfl (by kernel_rfl) rfl rfl ?_)
  refine KT.pv 20 (.bool ((x12.2).isNone)) ?_
  exact KT.leafO j1 (.cons rfl (.cons rfl (.cons rfl (.nil))))
set_option maxRecDepth 100000 in
theorem law07_fits_sim (p0_blocks : Slc) (p1_most : Int) (Qf : Bool → World → Prop) (w : World) (hm : law07_fits p0_blocks p1_most Qf w) : Calls Try.prog 46 #[(.slice p0_blocks.base p0_blocks.len p0_blocks.cap), (.int .i64 p1_most)] w (RetPost Value.bool Qf) := by
  refine calls_of (fn := Try.f46) (l := [(.slice p0_blocks.base p0_blocks.len p0_blocks.cap), (.int .i64 p1_most)]) (m := law07_fits p0_blocks p1_most) 45 (by kernel_rfl) rfl rfl rfl (fun Qf0 => ?_) Qf w hm
  clear hm w Qf
  unfold law07_fits
  refine SC.seq ?_
  refine SC.region' ?_
  refine KT.pv 4 (.bool false) ?_
  refine KT.nil ?_
  refine SX.seq ?_
  refine SC.seq ?_
  refine SC.seq ?_
  refine SC.region' ?_
  refine KT.pv 7 (.slice p0_blocks.base p0_blocks.len p0_blocks.cap) ?_
  refine KT.pv 8 (.int .i64 ((p0_blocks.len : Nat) : Int)) ?_
  refine KT.pv 9 (.int .i64 p1_most) ?_
  refine KT.pv 10 (.bool (decide (((p0_blocks.len : Nat) : Int) > p1_most))) ?_
  refine KT.nil ?_
  refine SX.seq ?_
  refine SC.cond (b := decide (((p0_blocks.len : Nat) : Int) > p1_most)) rfl ?_ ?_
  refine SC.seq ?_
  refine SC.region' ?_
  refine KT.pv 4 (.bool false) ?_
  refine KT.nil ?_
  refine SX.seq ?_
  refine SC.ret ?_
  refine SX.then_ret ?_
  refine SX.ret [.tmp 4] rfl ?_
  refine RS.tmp (.bool false) rfl ?_
  exact RS.nil rfl
  refine SC.skip ?_
  refine SX.seq ?_
  refine SC.seq ?_
  refine SC.seq ?_
  refine SC.region' ?_
  refine KT.pv 5 (.int .i64 0) ?_
  refine KT.nil ?_
  refine SX.seq ?_
  refine SC.block ?_
  refine SC.loop (σ := (Int)) (fun s1 => [(0, (.slice p0_blocks.base p0_blocks.len p0_blocks.cap)), (5, (.int .i64 s1))]) (.cons rfl (.cons rfl (.nil))) (fun _ _ _ s1 => ?_)
  refine SC.seq ?_
  refine SC.seq ?_
  refine SC.region' ?_
  refine KT.pv 11 (.int .i64 s1) ?_
  refine KT.pv 12 (.slice p0_blocks.base p0_blocks.len p0_blocks.cap) ?_
  refine KT.pv 13 (.int .i64 ((p0_blocks.len : Nat) : Int)) ?_
  refine KT.pv 14 (.bool (decide (s1 < ((p0_blocks.len : Nat) : Int)))) ?_
  refine KT.nil ?_
  refine SX.seq ?_
  refine SC.cond (b := decide (s1 < ((p0_blocks.len : Nat) : Int))) rfl ?_ ?_
  refine SC.skip ?_
  refine SX.seq ?_
  refine SC.seq ?_
  refine SC.block ?_
  refine SC.seq ?_
  refine SC.region' ?_
  refine KT.pv 17 (.slice p0_blocks.base p0_blocks.len p0_blocks.cap) ?_
  refine KT.pv 18 (.int .i64 s1) ?_
  refine KT.oy rfl (OY.idx (d := 19) (s := p0_blocks) (i := s1) (size := 3) (elem := 78) _ _ _ rfl rfl rfl (by kernel_rfl) (by kernel_rfl) rfl rfl (fun x19 => ?_))
  refine KT.ow rfl (OW.ldA (d := 20) (enc := (fun y : (Int × Int × Slc) => [(.int .i64 y.1), (.int .i64 y.2.1), (.slice y.2.2.base y.2.2.len y.2.2.cap)])) 3 _ _ rfl rfl (by kernel_rfl) (by kernel_rfl) (fun _ => rfl) rfl rfl (fun x20 => ?_))
  refine KT.nw 6 (fun ad => .pointer (some ad)) 78 (fun x6 => ?_)
  refine KT.ow rfl (OW.stA _ _ _ rfl rfl rfl rfl rfl (by kernel_rfl) ?_)
  refine KT.nil ?_
  refine SX.seq ?_
  refine SC.seq ?_
  refine SC.region' ?_
  refine KT.pv 21 (.pointer (some (Addr.add x6 2))) ?_
  refine KT.l 22 (fun x22 => ?_)
  refine KT.pv 23 (.int .i64 ((x22.len : Nat) : Int)) ?_
  refine KT.pv 24 (.bool (decide (((x22.len : Nat) : Int) > 56))) ?_
  refine KT.pv 25 (.bool (decide (((x22.len : Nat) : Int) > 56))) ?_
  refine KT.joinO (β := Bool) 4 (fun r2 => [(29, (.bool r2)), (0, (.slice p0_blocks.base p0_blocks.len p0_blocks.cap)), (5, (.int .i64 s1)), (6, (.pointer (some x6)))]) (fun r2 => ?_) (fun j2 => ?_)
  refine KT.pv 30 (.bool r2) ?_
  refine KT.joinO (β := Bool) 4 (fun r3 => [(34, (.bool r3)), (0, (.slice p0_blocks.base p0_blocks.len p0_blocks.cap)), (5, (.int .i64 s1)), (6, (.pointer (some x6)))]) (fun r3 => ?_) (fun j3 => ?_)
  refine KT.pv 35 (.bool r3) ?_
  refine KT.joinO (β := Bool) 4 (fun r4 => [(39, (.bool r4)), (0, (.slice p0_blocks.base p0_blocks.len p0_blocks.cap)), (5, (.int .i64 s1)), (6, (.pointer (some x6)))]) (fun r4 => ?_) (fun j4 => ?_)
  refine KT.pv 40 (.bool r4) ?_
  refine KT.joinO (β := Bool) 4 (fun r5 => [(44, (.bool r5)), (0, (.slice p0_blocks.base p0_blocks.len p0_blocks.cap)), (5, (.int .i64 s1))]) (fun r5 => ?_) (fun j5 => ?_)
  refine KT.nil ?_
  refine SX.seq ?_
  refine SC.cond (b := r5) rfl ?_ ?_
  refine SC.seq ?_
  refine SC.region' ?_
  refine KT.pv 4 (.bool false) ?_
  refine KT.nil ?_
  refine SX.seq ?_
  refine SC.ret ?_
  refine SX.block_ret ?_
  refine SX.then_ret ?_
  refine SX.loop_ret ?_
  refine SX.block_ret ?_
  refine SX.then_ret ?_
  refine SX.ret [.tmp 4] rfl ?_
  refine RS.tmp (.bool false) rfl ?_
  exact RS.nil rfl
  refine SC.skip ?_
  refine SX.block ?_
  refine SX.seq ?_
  refine SC.region' ?_
  refine KT.pv 15 (.int .i64 s1) ?_
  refine KT.pv 16 (.int .i64 (w64 (s1 + 1))) ?_
  refine KT.pv 5 (.int .i64 (w64 (s1 + 1))) ?_
  refine KT.nil ?_
  exact SX.loop_next (.cons rfl (.cons rfl (.nil)))
  refine KT.ite (b := r4) 40 rfl ?_ ?_
  refine KT.sk ?_
  refine KT.sk ?_
  refine KT.sk ?_
  refine KT.pv 44 (.bool true) ?_
  exact KT.leafO j5 (.cons rfl (.cons rfl (.cons rfl (.nil))))
  refine KT.pv 41 (.pointer (some (Addr.add x6 1))) ?_
  refine KT.l 42 (fun x42 => ?_)
  refine KT.pv 43 (.bool (decide (x42 > 65535))) ?_
  refine KT.pv 44 (.bool (decide (x42 > 65535))) ?_
  exact KT.leafO j5 (.cons rfl (.cons rfl (.cons rfl (.nil))))
  refine KT.ite (b := r3) 35 rfl ?_ ?_
  refine KT.sk ?_
  refine KT.sk ?_
  refine KT.sk ?_
  refine KT.pv 39 (.bool true) ?_
  exact KT.leafO j4 (.cons rfl (.cons rfl (.cons rfl (.cons rfl (.nil)))))
  refine KT.pv 36 (.pointer (some (Addr.add x6 1))) ?_
  refine KT.l 37 (fun x37 => ?_)
  refine KT.pv 38 (.bool (decide (x37 < 0))) ?_
  refine KT.pv 39 (.bool (decide (x37 < 0))) ?_
  exact KT.leafO j4 (.cons rfl (.cons rfl (.cons rfl (.cons rfl (.nil)))))
  refine KT.ite (b := r2) 30 rfl ?_ ?_
  refine KT.sk ?_
  refine KT.sk ?_
  refine KT.sk ?_
  refine KT.pv 34 (.bool true) ?_
  exact KT.leafO j3 (.cons rfl (.cons rfl (.cons rfl (.cons rfl (.nil)))))
  refine KT.pv 31 (.pointer (some x6)) ?_
  refine KT.l 32 (fun x32 => ?_)
  refine KT.pv 33 (.bool (decide (x32 > 65535))) ?_
  refine KT.pv 34 (.bool (decide (x32 > 65535))) ?_
  exact KT.leafO j3 (.cons rfl (.cons rfl (.cons rfl (.cons rfl (.nil)))))
  refine KT.ite (b := decide (((x22.len : Nat) : Int) > 56)) 25 rfl ?_ ?_
  refine KT.sk ?_
  refine KT.sk ?_
  refine KT.sk ?_
  refine KT.pv 29 (.bool true) ?_
  exact KT.leafO j2 (.cons rfl (.cons rfl (.cons rfl (.cons rfl (.nil)))))
  refine KT.pv 26 (.pointer (some x6)) ?_
  refine KT.l 27 (fun x27 => ?_)
  refine KT.pv 28 (.bool (decide (x27 < 0))) ?_
  refine KT.pv 29 (.bool (decide (x27 < 0))) ?_
  exact KT.leafO j2 (.cons rfl (.cons rfl (.cons rfl (.cons rfl (.nil)))))
  refine SC.exit ?_
  refine SX.then_exit ?_
  refine SX.loop_exit ?_
  refine SX.block_hit ?_
  refine SX.seq ?_
  refine SC.seq ?_
  refine SC.region' ?_
  refine KT.pv 4 (.bool true) ?_
  refine KT.nil ?_
  refine SX.seq ?_
  refine SC.ret ?_
  refine SX.ret [.tmp 4] rfl ?_
  refine RS.tmp (.bool true) rfl ?_
  exact RS.nil rfl
set_option maxRecDepth 100000 in
theorem stripe_Sound_sim (p0_b : (Option Addr)) (p1_seg : Int) (p2_seq : Int) (Qf : (Bool × Int) → World → Prop) (w : World) (hm : stripe_Sound (cvOf Try.prog) p0_b p1_seg p2_seq Qf w) : Calls Try.prog 52 #[(.pointer p0_b), (.int .i64 p1_seg), (.int .i64 p2_seq)] w (RetPost (fun y : (Bool × Int) => (.tuple #[(.bool y.1), (.int .i64 y.2)])) Qf) := by
  refine calls_of (fn := Try.f52) (l := [(.pointer p0_b), (.int .i64 p1_seg), (.int .i64 p2_seq)]) (m := stripe_Sound (cvOf Try.prog) p0_b p1_seg p2_seq) 61 (by kernel_rfl) rfl rfl rfl (fun Qf0 => ?_) Qf w hm
  clear hm w Qf
  unfold stripe_Sound
  refine SC.seq ?_
  refine SC.region' ?_
  refine KT.nw 3 (fun ad => .pointer (some ad)) 38 (fun x3 => ?_)
  refine KT.nw 5 (fun ad => .pointer (some ad)) 3 (fun x5 => ?_)
  refine KT.nw 6 (fun ad => .pointer (some ad)) 4 (fun x6 => ?_)
  refine KT.nw 7 (fun ad => .pointer (some ad)) 28 (fun x7 => ?_)
  refine KT.nil ?_
  refine SX.seq ?_
  refine SC.seq ?_
  refine SC.seq ?_
  refine SC.region' ?_
  refine KT.l 16 (fun x16 => ?_)
  refine KT.pv 17 (.int .i64 p1_seg) ?_
  refine KT.cl (Value.int .i64) 18 80 #[(.pointer x16), (.int .i64 p1_seg)] (stripe_there_sim x16 p1_seg) (fun x18 => ?_)
  refine KT.pv 8 (.int .i64 x18) ?_
  refine KT.nil ?_
  refine SX.seq ?_
  refine SC.seq ?_
  refine SC.region' ?_
  refine KT.pv 19 (.int .i64 x18) ?_
  refine KT.pv 20 (.bool (x18 != 0)) ?_
  refine KT.nil ?_
  refine SX.seq ?_
  refine SC.cond (b := x18 != 0) rfl ?_ ?_
  refine SC.seq ?_
  refine SC.region' ?_
  refine KT.pv 21 (.int .i64 x18) ?_
  refine KT.s ?_
  refine KT.s ?_
  refine KT.nil ?_
  refine SX.seq ?_
  refine SC.ret ?_
  refine SX.then_ret ?_
  refine SX.ret [.cell 6 4, .cell 7 28] rfl ?_
  refine RS.cell rfl (by kernel_rfl) (fun r6 => ?_)
  refine RS.cell rfl (by kernel_rfl) (fun r7 => ?_)
  exact RS.nil rfl
  refine SC.skip ?_
  refine SX.seq ?_
  refine SC.seq ?_
  refine SC.seq ?_
  refine SC.region' ?_
  refine KT.l 22 (fun x22 => ?_)
  refine KT.cl (fun y : (Int × Int × Int) => (.agg #[(.int .i64 y.1), (.int .i64 y.2.1), (.int .i64 y.2.2)])) 23 63 #[(.pointer x22)] (bank_Bank_Geo_sim x22) (fun x23 => ?_)
  refine KT.pv 24 (.int .i64 p1_seg) ?_
  refine KT.cl (fun v : Value => v) 25 78 #[(.agg #[(.int .i64 x23.1), (.int .i64 x23.2.1), (.int .i64 x23.2.2)]), (.int .i64 p1_seg)] (stripe_rows_sim (x23.1, x23.2.1, x23.2.2) p1_seg) (fun x25 => ?_)
  refine KT.nil ?_
  refine SX.seq ?_
  refine SC.block ?_
  refine SC.rangeF (ξ := (Int × Slc)) (τ := (Slc)) (fv := x25) (ps := [26, 27]) (encX := (fun x_1 : (Int × Slc) => [(.int .i64 x_1.1), (.slice x_1.2.base x_1.2.len x_1.2.cap)])) (fun t_1 => [(3, (.pointer (some x3))), (5, (.pointer (some x5))), (6, (.pointer (some x6))), (7, (.pointer (some x7))), (10, (.slice t_1.base t_1.len t_1.cap))]) rfl (fun _ => rfl) rfl (fun _ x_1 _ _ h1 => ?_) (fun _ _ _ t_1 => ?_) (fun D1 => ?_) (fun D1 => ?_) (fun D1 i1 => ?_)
  refine SC.region' ?_
  refine KT.pv 10 (.slice x_1.2.base x_1.2.len x_1.2.cap) ?_
  refine KT.nil ?_
  exact SX.leafP h1 (.cons rfl (.cons rfl (.cons rfl (.cons rfl (.cons rfl (.nil))))))
  refine SC.block ?_
  refine SC.seq ?_
  refine SC.region' ?_
  refine KT.pv 28 (.slice t_1.base t_1.len t_1.cap) ?_
  refine KT.pv 29 (.slice t_1.base t_1.len t_1.cap) ?_
  refine KT.pv 30 (.int .i64 ((t_1.len : Nat) : Int)) ?_
  refine KT.pv 31 (.int .i64 (w64 (((t_1.len : Nat) : Int) - 1))) ?_
  refine KT.oy rfl (OY.idx (d := 32) (s := t_1) (i := w64 (((t_1.len : Nat) : Int) - 1)) (size := 2) (elem := 140) _ _ _ rfl rfl rfl (by kernel_rfl) (by kernel_rfl) rfl rfl (fun x32 => ?_))
  refine KT.ow rfl (OW.ldA (d := 33) (enc := (fun y : (Int × Int) => [(.int .i64 y.1), (.int .i64 y.2)])) 2 _ _ rfl rfl (by kernel_rfl) (by kernel_rfl) (fun _ => rfl) rfl rfl (fun x33 => ?_))
  refine KT.nw 11 (fun ad => .pointer (some ad)) 140 (fun x11 => ?_)
  refine KT.ow rfl (OW.stA _ _ _ rfl rfl rfl rfl rfl (by kernel_rfl) ?_)
  refine KT.nil ?_
  refine SX.seq ?_
  refine SC.seq ?_
  refine SC.region' ?_
  refine KT.l 35 (fun x35 => ?_)
  refine KT.ow rfl (OW.ldA (d := 36) (enc := (fun y : (Int × Int) => [(.int .i64 y.1), (.int .i64 y.2)])) 2 _ _ rfl rfl (by kernel_rfl) (by kernel_rfl) (fun _ => rfl) rfl rfl (fun x36 => ?_))
  refine KT.l 37 (fun x37 => ?_)
  refine KT.cl (fun y : (Slc × Bool) => (.tuple #[(.slice y.1.base y.1.len y.1.cap), (.bool y.2)])) 38 85 #[(.pointer x35), (.agg #[(.int .i64 x36.1), (.int .i64 x36.2)]), (.int .i64 x37)] (stripe_good_sim x35 (x36.1, x36.2) x37) (fun x38 => ?_)
  refine KT.pv 34 (.tuple #[(.slice x38.1.base x38.1.len x38.1.cap), (.bool x38.2)]) ?_
  refine KT.pv 39 (.slice x38.1.base x38.1.len x38.1.cap) ?_
  refine KT.pv 40 (.bool x38.2) ?_
  refine KT.pv 12 (.slice x38.1.base x38.1.len x38.1.cap) ?_
  refine KT.pv 13 (.bool x38.2) ?_
  refine KT.nil ?_
  refine SX.seq ?_
  refine SC.seq ?_
  refine SC.region' ?_
  refine KT.l 42 (fun x42 => ?_)
  refine KT.pv 43 (.slice t_1.base t_1.len t_1.cap) ?_
  refine KT.ow rfl (OW.ldA (d := 44) (enc := (fun y : (Int × Int) => [(.int .i64 y.1), (.int .i64 y.2)])) 2 _ _ rfl rfl (by kernel_rfl) (by kernel_rfl) (fun _ => rfl) rfl rfl (fun x44 => ?_))
  refine KT.l 45 (fun x45 => ?_)
  refine KT.cl (fun y : (Slc × Bool) => (.tuple #[(.slice y.1.base y.1.len y.1.cap), (.bool y.2)])) 46 86 #[(.pointer x42), (.slice t_1.base t_1.len t_1.cap), (.agg #[(.int .i64 x44.1), (.int .i64 x44.2)]), (.int .i64 x45)] (stripe_others_sim x42 t_1 (x44.1, x44.2) x45) (fun x46 => ?_)
  refine KT.pv 41 (.tuple #[(.slice x46.1.base x46.1.len x46.1.cap), (.bool x46.2)]) ?_
  refine KT.pv 47 (.slice x46.1.base x46.1.len x46.1.cap) ?_
  refine KT.pv 48 (.bool x46.2) ?_
  refine KT.pv 14 (.slice x46.1.base x46.1.len x46.1.cap) ?_
  refine KT.pv 15 (.bool x46.2) ?_
  refine KT.nil ?_
  refine SX.sub (T' := [(6, (.pointer (some x6))), (7, (.pointer (some x7))), (12, (.slice x38.1.base x38.1.len x38.1.cap)), (13, (.bool x38.2)), (14, (.slice x46.1.base x46.1.len x46.1.cap)), (15, (.bool x46.2))]) (.cons rfl (.cons rfl (.cons rfl (.cons rfl (.cons rfl (.cons rfl (.nil))))))) ?_
  refine SX.seq ?_
  refine SC.seq ?_
  refine SC.region' ?_
  refine KT.pv 49 (.bool x38.2) ?_
  refine KT.pv 50 (.bool (!x38.2)) ?_
  refine KT.pv 51 (.bool (!x38.2)) ?_
  refine KT.joinO (β := Bool) 3 (fun r2 => [(54, (.bool r2)), (6, (.pointer (some x6))), (7, (.pointer (some x7))), (12, (.slice x38.1.base x38.1.len x38.1.cap)), (14, (.slice x46.1.base x46.1.len x46.1.cap))]) (fun r2 => ?_) (fun j2 => ?_)
  refine KT.pv 55 (.bool r2) ?_
  refine KT.joinO (β := Bool) 5 (fun r3 => [(60, (.bool r3)), (6, (.pointer (some x6))), (7, (.pointer (some x7)))]) (fun r3 => ?_) (fun j3 => ?_)
  refine KT.nil ?_
  refine SX.seq ?_
  refine SC.cond (b := r3) rfl ?_ ?_
  refine SC.seq ?_
  refine SC.region' ?_
  refine KT.s ?_
  refine KT.s ?_
  refine KT.nil ?_
  refine SX.seq ?_
  refine SC.ret ?_
  refine SX.block_ret ?_
  exact SX.round_ret
  refine SC.skip ?_
  refine SX.block ?_
  exact SX.round_next
  refine KT.ite (b := r2) 55 rfl ?_ ?_
  refine KT.sk ?_
  refine KT.sk ?_
  refine KT.sk ?_
  refine KT.sk ?_
  refine KT.pv 60 (.bool true) ?_
  exact KT.leafO j3 (.cons rfl (.cons rfl (.cons rfl (.nil))))
  refine KT.pv 56 (.slice x38.1.base x38.1.len x38.1.cap) ?_
  refine KT.pv 57 (.slice x46.1.base x46.1.len x46.1.cap) ?_
  refine KT.cl Value.bool 58 87 #[(.slice x38.1.base x38.1.len x38.1.cap), (.slice x46.1.base x46.1.len x46.1.cap)] (bytes_Equal_sim x38.1 x46.1) (fun x58 => ?_)
  refine KT.pv 59 (.bool (!x58)) ?_
  refine KT.pv 60 (.bool (!x58)) ?_
  exact KT.leafO j3 (.cons rfl (.cons rfl (.cons rfl (.nil))))
  refine KT.ite (b := !x38.2) 51 rfl ?_ ?_
  refine KT.sk ?_
  refine KT.sk ?_
  refine KT.pv 54 (.bool true) ?_
  exact KT.leafO j2 (.cons rfl (.cons rfl (.cons rfl (.cons rfl (.cons rfl (.nil))))))
  refine KT.pv 52 (.bool x46.2) ?_
  refine KT.pv 53 (.bool (!x46.2)) ?_
  refine KT.pv 54 (.bool (!x46.2)) ?_
  exact KT.leafO j2 (.cons rfl (.cons rfl (.cons rfl (.cons rfl (.cons rfl (.nil))))))
  refine SX.block ?_
  refine SX.seq ?_
  refine SC.seq ?_
  refine SC.region' ?_
  refine KT.s ?_
  refine KT.s ?_
  refine KT.nil ?_
  refine SX.seq ?_
  refine SC.ret ?_
  refine SX.ret [.cell 6 4, .cell 7 28] rfl ?_
  refine RS.cell rfl (by kernel_rfl) (fun r6 => ?_)
  refine RS.cell rfl (by kernel_rfl) (fun r7 => ?_)
  exact RS.nil rfl
  refine SX.block_ret ?_
  refine SX.then_ret ?_
  refine SX.ret [.cell 6 4, .cell 7 28] rfl ?_
  refine RS.cell rfl (by kernel_rfl) (fun r6 => ?_)
  refine RS.cell rfl (by kernel_rfl) (fun r7 => ?_)
  exact RS.nil rfl
  exact SX.fail
set_option maxRecDepth 100000 in
theorem stripe_slotted_sim (p0_b : (Option Addr)) (p1_seg : Int) (p2_slot : Int) (Qf : Int → World → Prop) (w : World) (hm : stripe_slotted p0_b p1_seg p2_slot Qf w) : Calls Try.prog 98 #[(.pointer p0_b), (.int .i64 p1_seg), (.int .i64 p2_slot)] w (RetPost (Value.int .i64) Qf) := by
  refine calls_of (fn := Try.f98) (l := [(.pointer p0_b), (.int .i64 p1_seg), (.int .i64 p2_slot)]) (m := stripe_slotted p0_b p1_seg p2_slot) 19 (by kernel_rfl) rfl rfl rfl (fun Qf0 => ?_) Qf w hm
  clear hm w Qf
  unfold stripe_slotted
  refine SC.seq ?_
  refine SC.region' ?_
  refine KT.pv 6 (.int .i64 0) ?_
  refine KT.nil ?_
  refine SX.seq ?_
  refine SC.seq ?_
  refine SC.seq ?_
  refine SC.region' ?_
  refine KT.pv 7 (.int .i64 p2_slot) ?_
  refine KT.pv 8 (.bool (decide (p2_slot < 0))) ?_
  refine KT.pv 9 (.bool (decide (p2_slot < 0))) ?_
  refine KT.joinO (β := Bool) 6 (fun r1 => [(15, (.bool r1)), (0, (.pointer p0_b)), (1, (.int .i64 p1_seg))]) (fun r1 => ?_) (fun j1 => ?_)
  refine KT.nil ?_
  refine SX.seq ?_
  refine SC.cond (b := r1) rfl ?_ ?_
  refine SC.seq ?_
  refine SC.region' ?_
  refine KT.pv 6 (.int .i64 28) ?_
  refine KT.nil ?_
  refine SX.seq ?_
  refine SC.ret ?_
  refine SX.then_ret ?_
  refine SX.ret [.tmp 6] rfl ?_
  refine RS.tmp (.int .i64 28) rfl ?_
  exact RS.nil rfl
  refine SC.skip ?_
  refine SX.seq ?_
  refine SC.seq ?_
  refine SC.region' ?_
  refine KT.pv 16 (.pointer p0_b) ?_
  refine KT.pv 17 (.int .i64 p1_seg) ?_
  refine KT.cl (Value.int .i64) 18 80 #[(.pointer p0_b), (.int .i64 p1_seg)] (stripe_there_sim p0_b p1_seg) (fun x18 => ?_)
  refine KT.pv 6 (.int .i64 x18) ?_
  refine KT.nil ?_
  refine SX.seq ?_
  refine SC.ret ?_
  refine SX.ret [.tmp 6] rfl ?_
  refine RS.tmp (.int .i64 x18) rfl ?_
  exact RS.nil rfl
  refine KT.ite (b := decide (p2_slot < 0)) 9 rfl ?_ ?_
  refine KT.sk ?_
  refine KT.sk ?_
  refine KT.sk ?_
  refine KT.sk ?_
  refine KT.sk ?_
  refine KT.pv 15 (.bool true) ?_
  exact KT.leafO j1 (.cons rfl (.cons rfl (.cons rfl (.nil))))
  refine KT.pv 10 (.int .i64 p2_slot) ?_
  refine KT.pv 11 (.pointer p0_b) ?_
  refine KT.cl (fun y : (Int × Int × Int) => (.agg #[(.int .i64 y.1), (.int .i64 y.2.1), (.int .i64 y.2.2)])) 12 63 #[(.pointer p0_b)] (bank_Bank_Geo_sim p0_b) (fun x12 => ?_)
  refine KT.pv 13 (.int .i64 x12.1) ?_
  refine KT.pv 14 (.bool (decide (p2_slot ≥ x12.1))) ?_
  refine KT.pv 15 (.bool (decide (p2_slot ≥ x12.1))) ?_
  exact KT.leafO j1 (.cons rfl (.cons rfl (.cons rfl (.nil))))
set_option maxRecDepth 100000 in
theorem slices_IndexFunc_g_sim (p0_s : Slc) (p1_f : Value) (Qf : Int → World → Prop) (w : World) (hm : slices_IndexFunc_g (cvOf Try.prog) p0_s p1_f Qf w) : Calls Try.prog 129 #[(.slice p0_s.base p0_s.len p0_s.cap), p1_f] w (RetPost (Value.int .i64) Qf) := by
  refine calls_of (fn := Try.f129) (l := [(.slice p0_s.base p0_s.len p0_s.cap), p1_f]) (m := slices_IndexFunc_g (cvOf Try.prog) p0_s p1_f) 19 (by kernel_rfl) rfl rfl rfl (fun Qf0 => ?_) Qf w hm
  clear hm w Qf
  unfold slices_IndexFunc_g
  refine SC.seq ?_
  refine SC.region' ?_
  refine KT.pv 4 (.int .i64 0) ?_
  refine KT.nil ?_
  refine SX.seq ?_
  refine SC.seq ?_
  refine SC.seq ?_
  refine SC.region' ?_
  refine KT.pv 6 (.slice p0_s.base p0_s.len p0_s.cap) ?_
  refine KT.pv 7 (.int .i64 ((p0_s.len : Nat) : Int)) ?_
  refine KT.pv 8 (.int .i64 0) ?_
  refine KT.nil ?_
  refine SX.seq ?_
  refine SC.block ?_
  refine SC.loop (σ := (Int)) (fun s1 => [(0, (.slice p0_s.base p0_s.len p0_s.cap)), (1, p1_f), (7, (.int .i64 ((p0_s.len : Nat) : Int))), (8, (.int .i64 s1))]) (.cons rfl (.cons rfl (.cons rfl (.cons rfl (.nil))))) (fun _ _ _ s1 => ?_)
  refine SC.seq ?_
  refine SC.region' ?_
  refine KT.pv 9 (.bool (decide (s1 < ((p0_s.len : Nat) : Int)))) ?_
  refine KT.nil ?_
  refine SX.seq ?_
  refine SC.seq ?_
  refine SC.cond (b := decide (s1 < ((p0_s.len : Nat) : Int))) rfl ?_ ?_
  refine SC.skip ?_
  refine SX.seq ?_
  refine SC.seq ?_
  refine SC.block ?_
  refine SC.seq ?_
  refine SC.region' ?_
  refine KT.pv 10 (.int .i64 s1) ?_
  refine KT.pv 5 (.int .i64 s1) ?_
  refine KT.nil ?_
  refine SX.seq ?_
  refine SC.seq ?_
  refine SC.region' ?_
  refine KT.pv 11 p1_f ?_
  refine KT.pv 12 (.slice p0_s.base p0_s.len p0_s.cap) ?_
  refine KT.pv 13 (.int .i64 s1) ?_
  refine KT.oy rfl (OY.idx (d := 14) (s := p0_s) (i := s1) (size := 2) (elem := 140) _ _ _ rfl rfl rfl (by kernel_rfl) (by kernel_rfl) rfl rfl (fun x14 => ?_))
  refine KT.ow rfl (OW.ldA (d := 15) (enc := (fun y : (Int × Int) => [(.int .i64 y.1), (.int .i64 y.2)])) 2 _ _ rfl rfl (by kernel_rfl) (by kernel_rfl) (fun _ => rfl) rfl rfl (fun x15 => ?_))
  refine KT.ow rfl (OW.callv (d := 16) (enc := Value.bool) (vs := [(.agg #[(.int .i64 x15.1), (.int .i64 x15.2)])]) _ [.tmp 15] _ rfl rfl rfl rfl rfl (fun x16 => ?_))
  refine KT.nil ?_
  refine SX.seq ?_
  refine SC.cond (b := x16) rfl ?_ ?_
  refine SC.seq ?_
  refine SC.region' ?_
  refine KT.pv 17 (.int .i64 s1) ?_
  refine KT.pv 4 (.int .i64 s1) ?_
  refine KT.nil ?_
  refine SX.seq ?_
  refine SC.ret ?_
  refine SX.block_ret ?_
  refine SX.then_ret ?_
  refine SX.loop_ret ?_
  refine SX.block_ret ?_
  refine SX.then_ret ?_
  refine SX.ret [.tmp 4] rfl ?_
  refine RS.tmp (.int .i64 s1) rfl ?_
  exact RS.nil rfl
  refine SC.skip ?_
  refine SX.block ?_
  refine SX.seq ?_
  refine SC.region' ?_
  refine KT.pv 18 (.int .i64 (w64 (s1 + 1))) ?_
  refine KT.pv 8 (.int .i64 (w64 (s1 + 1))) ?_
  refine KT.nil ?_
  exact SX.loop_next (.cons rfl (.cons rfl (.cons rfl (.cons rfl (.nil)))))
  refine SC.exit ?_
  refine SX.then_exit ?_
  refine SX.loop_exit ?_
  refine SX.block_hit ?_
  refine SX.seq ?_
  refine SC.seq ?_
  refine SC.region' ?_
  refine KT.pv 4 (.int .i64 (-1)) ?_
  refine KT.nil ?_
  refine SX.seq ?_
  refine SC.ret ?_
  refine SX.ret [.tmp 4] rfl ?_
  refine RS.tmp (.int .i64 (-1)) rfl ?_
  exact RS.nil rfl
set_option maxRecDepth 100000 in
theorem stripe_lacks_c1_c1_sim (p0_s : (Int × Int)) (p1_a : Addr) (Qf : Bool → World → Prop) (w : World) (hm : stripe_lacks_c1_c1 p0_s p1_a Qf w) : Calls Try.prog 130 #[(.agg #[(.int .i64 p0_s.1), (.int .i64 p0_s.2)]), (.pointer (some p1_a))] w (RetPost Value.bool Qf) := by
  refine calls_of (fn := Try.f130) (l := [(.agg #[(.int .i64 p0_s.1), (.int .i64 p0_s.2)]), (.pointer (some p1_a))]) (m := stripe_lacks_c1_c1 p0_s p1_a) 8 (by kernel_rfl) rfl rfl rfl (fun Qf0 => ?_) Qf w hm
  clear hm w Qf
  unfold stripe_lacks_c1_c1
  refine SC.seq ?_
  refine SC.region' ?_
  refine KT.nw 2 (fun ad => .pointer (some ad)) 140 (fun x2 => ?_)
  refine KT.pv 3 (.bool false) ?_
  refine KT.nil ?_
  refine SX.seq ?_
  refine SC.seq ?_
  refine SC.region' ?_
  refine KT.pv 4 (.pointer (some x2)) ?_
  refine KT.l 5 (fun x5 => ?_)
  refine KT.l 6 (fun x6 => ?_)
  refine KT.pv 7 (.bool (x5 == x6)) ?_
  refine KT.pv 3 (.bool (x5 == x6)) ?_
  refine KT.nil ?_
  refine SX.seq ?_
  refine SC.ret ?_
  refine SX.ret [.tmp 3] rfl ?_
  refine RS.tmp (.bool (x5 == x6)) rfl ?_
  exact RS.nil rfl
set_option maxRecDepth 100000 in
theorem stripe_lacks_c1_sim (p0_yield : Value) (p1_a : Addr) (p2_a : Addr) (p3_a : Addr) (p4_a : Addr) (Qf : Unit → World → Prop) (w : World) (hm : stripe_lacks_c1 (cvOf Try.prog) p0_yield p1_a p2_a p3_a p4_a Qf w) : Calls Try.prog 128 #[p0_yield, (.pointer (some p1_a)), (.pointer (some p2_a)), (.pointer (some p3_a)), (.pointer (some p4_a))] w (RetPost (fun y : Unit => (.tuple #[])) Qf) := by
  refine calls_of (fn := Try.f128) (l := [p0_yield, (.pointer (some p1_a)), (.pointer (some p2_a)), (.pointer (some p3_a)), (.pointer (some p4_a))]) (m := stripe_lacks_c1 (cvOf Try.prog) p0_yield p1_a p2_a p3_a p4_a) 42 (by kernel_rfl) rfl rfl rfl (fun Qf0 => ?_) Qf w hm
  clear hm w Qf
  unfold stripe_lacks_c1
  refine SC.seq ?_
  refine SC.region' ?_
  refine KT.ow rfl (OW.boxVal (d := 5) _ _ rfl rfl rfl rfl (fun x5 => ?_))
  refine KT.nil ?_
  refine SX.seq ?_
  refine SC.seq ?_
  refine SC.draw 4 (fun _ => false) rfl (by kernel_rfl) (fun S1 => ?_)
  refine KT.tk 0 (OY.ldI (d := 11) _ _ rfl rfl (by kernel_rfl) rfl rfl (fun x11 => ?_))
  refine KT.tk 2 (OY.ldI (d := 13) _ _ rfl rfl (by kernel_rfl) rfl rfl (fun x13 => ?_))
  refine KT.one 1 rfl (by kernel_rfl) rfl (OW.step (OW.call (d := 12) (enc := (fun y : (Int × Int × Int) => (.agg #[(.int .i64 y.1), (.int .i64 y.2.1), (.int .i64 y.2.2)]))) 63 #[(.pointer x11)] rfl (fun _ => by kernel_rfl) (fun Qf w => bank_Bank_Geo_sim x11 Qf w) rfl rfl (fun x12 => ?_)))
  refine KT.and ?_
  refine KT.one 3 rfl (by kernel_rfl) rfl (OW.step (OW.call (d := 14) (enc := (fun v : Value => v)) 78 #[(.agg #[(.int .i64 x12.1), (.int .i64 x12.2.1), (.int .i64 x12.2.2)]), (.int .i64 x13)] rfl (fun _ => by kernel_rfl) (fun Qf w => stripe_rows_sim (x12.1, x12.2.1, x12.2.2) x13 Qf w) rfl rfl (fun x14 => ?_)))
  refine KT.and ?_
  refine KT.doneA (by kernel_rfl) ?_
  refine SX.seq ?_
  refine SC.block ?_
  refine SC.rangeF (ξ := (Int × Slc)) (τ := (Slc)) (fv := x14) (ps := [15, 16]) (encX := (fun x_2 : (Int × Slc) => [(.int .i64 x_2.1), (.slice x_2.2.base x_2.2.len x_2.2.cap)])) (fun t_2 => [(1, (.pointer (some p1_a))), (3, (.pointer (some p3_a))), (4, (.pointer (some p4_a))), (5, (.pointer (some x5))), (7, (.slice t_2.base t_2.len t_2.cap))]) rfl (fun _ => rfl) rfl (fun _ x_2 _ _ h2 => ?_) (fun _ _ _ t_2 => ?_) (fun D2 => ?_) (fun D2 => ?_) (fun D2 i2 => ?_)
  refine SC.region' ?_
  refine KT.pv 7 (.slice x_2.2.base x_2.2.len x_2.2.cap) ?_
  refine KT.nil ?_
  exact SX.leafP h2 (.cons rfl (.cons rfl (.cons rfl (.cons rfl (.cons rfl (.nil))))))
  refine SC.block ?_
  refine SC.seq ?_
  refine SC.region' ?_
  refine KT.pv 17 (.slice t_2.base t_2.len t_2.cap) ?_
  refine KT.pv 18 (.func (.func fid_stripe_lacks_c1_c1) #[] #[(.pointer (some p3_a))]) ?_
  refine KT.cl (Value.int .i64) 19 129 #[(.slice t_2.base t_2.len t_2.cap), (.func (.func fid_stripe_lacks_c1_c1) #[] #[(.pointer (some p3_a))])] (slices_IndexFunc_g_sim t_2 (.func (.func fid_stripe_lacks_c1_c1) #[] #[(.pointer (some p3_a))])) (fun x19 => ?_)
  refine KT.pv 8 (.int .i64 x19) ?_
  refine KT.nil ?_
  refine SX.seq ?_
  refine SC.seq ?_
  refine SC.draw 12 (fun f => Nat.beq f 6) rfl (by kernel_rfl) (fun S3 => ?_)
  refine KT.tk 0 (OY.ldI (d := 21) _ _ rfl rfl (by kernel_rfl) rfl rfl (fun x21 => ?_))
  refine KT.pvA 1 22 (.slice t_2.base t_2.len t_2.cap) ?_
  refine KT.pvA 2 23 (.int .i64 x19) ?_
  refine KT.tp 3 (OY.idx (d := 24) (s := t_2) (i := x19) (size := 2) (elem := 140) _ _ _ rfl rfl rfl (by kernel_rfl) (by kernel_rfl) rfl rfl (fun x24 => ?_))
  refine KT.tk 4 (OY.ldAI (d := 25) (enc := (fun y : (Int × Int) => [(.int .i64 y.1), (.int .i64 y.2)])) 2 _ _ rfl rfl (by kernel_rfl) (by kernel_rfl) (fun _ => rfl) rfl rfl (fun x25 => ?_))
  refine KT.tk 5 (OY.ldI (d := 26) _ _ rfl rfl (by kernel_rfl) rfl rfl (fun x26 => ?_))
  refine KT.last 6 rfl (by kernel_rfl) rfl rfl (OW.call (d := 27) (enc := (fun y : (Slc × Bool) => (.tuple #[(.slice y.1.base y.1.len y.1.cap), (.bool y.2)]))) 85 #[(.pointer x21), (.agg #[(.int .i64 x25.1), (.int .i64 x25.2)]), (.int .i64 x26)] rfl (fun _ => by kernel_rfl) (fun Qf w => stripe_good_sim x21 (x25.1, x25.2) x26 Qf w) rfl rfl (fun x27 => ?_))
  refine KT.pvN 7 20 (.tuple #[(.slice x27.1.base x27.1.len x27.1.cap), (.bool x27.2)]) ?_
  refine KT.pvN 8 28 (.slice x27.1.base x27.1.len x27.1.cap) ?_
  refine KT.pvN 9 29 (.bool x27.2) ?_
  refine KT.pvN 10 9 (.slice x27.1.base x27.1.len x27.1.cap) ?_
  refine KT.pvN 11 10 (.bool x27.2) ?_
  refine KT.doneN (by kernel_rfl) ?_
  refine SX.seq ?_
  refine SC.seq ?_
  refine SC.draw 12 (fun f => Nat.beq f 9) rfl (by kernel_rfl) (fun S4 => ?_)
  refine KT.pvA 0 30 (.bool x27.2) ?_
  refine KT.pvA 1 31 (.bool (!x27.2)) ?_
  refine KT.pvA 2 32 (.bool (!x27.2)) ?_
  refine KT.ite (b := !x27.2) 32 rfl ?_ ?_
  refine KT.tk 3 (OY.ldI (d := 33) _ _ rfl rfl (by kernel_rfl) rfl rfl (fun x33 => ?_))
  refine KT.pvA 4 34 (.slice t_2.base t_2.len t_2.cap) ?_
  refine KT.pvA 5 35 (.slice t_2.base t_2.len t_2.cap) ?_
  refine KT.pvA 6 36 (.int .i64 x19) ?_
  refine KT.tp 7 (OY.idx (d := 37) (s := t_2) (i := x19) (size := 2) (elem := 140) _ _ _ rfl rfl rfl (by kernel_rfl) (by kernel_rfl) rfl rfl (fun x37 => ?_))
  refine KT.tk 8 (OY.ldAI (d := 38) (enc := (fun y : (Int × Int) => [(.int .i64 y.1), (.int .i64 y.2)])) 2 _ _ rfl rfl (by kernel_rfl) (by kernel_rfl) (fun _ => rfl) rfl rfl (fun x38 => ?_))
  refine KT.last 9 rfl (by kernel_rfl) rfl rfl (OW.callv (d := 39) (enc := Value.bool) (vs := [(.slice t_2.base t_2.len t_2.cap), (.agg #[(.int .i64 x38.1), (.int .i64 x38.2)])]) _ [.tmp 34, .tmp 38] _ rfl rfl rfl rfl rfl (fun x39 => ?_))
  refine KT.pvN 10 40 (.bool (!x39)) ?_
  refine KT.pvN 11 41 (.bool (!x39)) ?_
  refine KT.doneN (by kernel_rfl) ?_
  refine SX.sub (T' := [(41, (.bool (!x39)))]) (.cons rfl (.nil)) ?_
  refine SX.seq ?_
  refine SC.cond (b := !x39) rfl ?_ ?_
  refine SC.ret ?_
  refine SX.block_ret ?_
  exact SX.round_ret
  refine SC.skip ?_
  refine SX.block ?_
  exact SX.round_next
  refine KT.skA 3 ?_
  refine KT.skA 4 ?_
  refine KT.skA 5 ?_
  refine KT.skA 6 ?_
  refine KT.skA 7 ?_
  refine KT.skA 8 ?_
  refine KT.skA 9 ?_
  refine KT.skA 10 ?_
  refine KT.pvA 11 41 (.bool false) ?_
  refine KT.doneA (by kernel_rfl) ?_
  refine SX.sub (T' := [(41, (.bool false))]) (.cons rfl (.nil)) ?_
  refine SX.seq ?_
  refine SC.cond_false rfl ?_
  refine SC.skip ?_
  refine SX.block ?_
  exact SX.round_next
  refine SX.block ?_
  refine SX.endBody [] rfl ?_
  exact RS.nil rfl
  refine SX.block_ret ?_
  refine SX.ret [] rfl ?_
  exact RS.nil rfl
  exact SX.fail
set_option maxRecDepth 100000 in
theorem stripe_lacks_sim (p0_b : (Option Addr)) (p1_seg : Int) (p2_slot : Int) (p3_seq : Int) (Qf : Value → World → Prop) (w : World) (hm : stripe_lacks p0_b p1_seg p2_slot p3_seq Qf w) : Calls Try.prog 99 #[(.pointer p0_b), (.int .i64 p1_seg), (.int .i64 p2_slot), (.int .i64 p3_seq)] w (RetPost (fun v : Value => v) Qf) := by
  refine calls_of (fn := Try.f99) (l := [(.pointer p0_b), (.int .i64 p1_seg), (.int .i64 p2_slot), (.int .i64 p3_seq)]) (m := stripe_lacks p0_b p1_seg p2_slot p3_seq) 10 (by kernel_rfl) rfl rfl rfl (fun Qf0 => ?_) Qf w hm
  clear hm w Qf
  unfold stripe_lacks
  refine SC.seq ?_
  refine SC.region' ?_
  refine KT.nw 4 (fun ad => .pointer (some ad)) 38 (fun x4 => ?_)
  refine KT.nw 5 (fun ad => .pointer (some ad)) 3 (fun x5 => ?_)
  refine KT.nw 6 (fun ad => .pointer (some ad)) 3 (fun x6 => ?_)
  refine KT.nw 7 (fun ad => .pointer (some ad)) 3 (fun x7 => ?_)
  refine KT.pv 8 Value.nilFunc ?_
  refine KT.nil ?_
  refine SX.seq ?_
  refine SC.seq ?_
  refine SC.region' ?_
  refine KT.pv 9 (.func (.func fid_stripe_lacks_c1) #[] #[(.pointer (some x4)), (.pointer (some x5)), (.pointer (some x6)), (.pointer (some x7))]) ?_
  refine KT.pv 8 (.func (.func fid_stripe_lacks_c1) #[] #[(.pointer (some x4)), (.pointer (some x5)), (.pointer (some x6)), (.pointer (some x7))]) ?_
  refine KT.nil ?_
  refine SX.seq ?_
  refine SC.ret ?_
  refine SX.ret [.tmp 8] rfl ?_
  refine RS.tmp (.func (.func fid_stripe_lacks_c1) #[] #[(.pointer (some x4)), (.pointer (some x5)), (.pointer (some x6)), (.pointer (some x7))]) rfl ?_
  exact RS.nil rfl
set_option maxRecDepth 100000 in
theorem stripe_Missing_sim (p0_b : (Option Addr)) (p1_seg : Int) (p2_slot : Int) (p3_seq : Int) (Qf : (Bool × Int) → World → Prop) (w : World) (hm : stripe_Missing (cvOf Try.prog) p0_b p1_seg p2_slot p3_seq Qf w) : Calls Try.prog 60 #[(.pointer p0_b), (.int .i64 p1_seg), (.int .i64 p2_slot), (.int .i64 p3_seq)] w (RetPost (fun y : (Bool × Int) => (.tuple #[(.bool y.1), (.int .i64 y.2)])) Qf) := by
  refine calls_of (fn := Try.f60) (l := [(.pointer p0_b), (.int .i64 p1_seg), (.int .i64 p2_slot), (.int .i64 p3_seq)]) (m := stripe_Missing (cvOf Try.prog) p0_b p1_seg p2_slot p3_seq) 25 (by kernel_rfl) rfl rfl rfl (fun Qf0 => ?_) Qf w hm
  clear hm w Qf
  unfold stripe_Missing
  refine SC.seq ?_
  refine SC.region' ?_
  refine KT.nw 8 (fun ad => .pointer (some ad)) 4 (fun x8 => ?_)
  refine KT.nw 9 (fun ad => .pointer (some ad)) 28 (fun x9 => ?_)
  refine KT.nil ?_
  refine SX.seq ?_
  refine SC.seq ?_
  refine SC.seq ?_
  refine SC.region' ?_
  refine KT.pv 11 (.pointer p0_b) ?_
  refine KT.pv 12 (.int .i64 p1_seg) ?_
  refine KT.pv 13 (.int .i64 p2_slot) ?_
  refine KT.cl (Value.int .i64) 14 98 #[(.pointer p0_b), (.int .i64 p1_seg), (.int .i64 p2_slot)] (stripe_slotted_sim p0_b p1_seg p2_slot) (fun x14 => ?_)
  refine KT.pv 10 (.int .i64 x14) ?_
  refine KT.nil ?_
  refine SX.seq ?_
  refine SC.seq ?_
  refine SC.region' ?_
  refine KT.pv 15 (.int .i64 x14) ?_
  refine KT.pv 16 (.bool (x14 != 0)) ?_
  refine KT.nil ?_
  refine SX.seq ?_
  refine SC.cond (b := x14 != 0) rfl ?_ ?_
  refine SC.seq ?_
  refine SC.region' ?_
  refine KT.pv 17 (.int .i64 x14) ?_
  refine KT.s ?_
  refine KT.s ?_
  refine KT.nil ?_
  refine SX.seq ?_
  refine SC.ret ?_
  refine SX.then_ret ?_
  refine SX.ret [.cell 8 4, .cell 9 28] rfl ?_
  refine RS.cell rfl (by kernel_rfl) (fun r8 => ?_)
  refine RS.cell rfl (by kernel_rfl) (fun r9 => ?_)
  exact RS.nil rfl
  refine SC.skip ?_
  refine SX.seq ?_
  refine SC.seq ?_
  refine SC.seq ?_
  refine SC.region' ?_
  refine KT.pv 18 (.pointer p0_b) ?_
  refine KT.pv 19 (.int .i64 p1_seg) ?_
  refine KT.pv 20 (.int .i64 p2_slot) ?_
  refine KT.pv 21 (.int .i64 p3_seq) ?_
  refine KT.cl (fun v : Value => v) 22 99 #[(.pointer p0_b), (.int .i64 p1_seg), (.int .i64 p2_slot), (.int .i64 p3_seq)] (stripe_lacks_sim p0_b p1_seg p2_slot p3_seq) (fun x22 => ?_)
  refine KT.nil ?_
  refine SX.seq ?_
  refine SC.block ?_
  refine SC.rangeF (ξ := (Slc × (Int × Int))) (τ := Unit) (fv := x22) (ps := [23, 24]) (encX := (fun x_1 : (Slc × (Int × Int)) => [(.slice x_1.1.base x_1.1.len x_1.1.cap), (.agg #[(.int .i64 x_1.2.1), (.int .i64 x_1.2.2)])])) (fun t_1 => [(8, (.pointer (some x8))), (9, (.pointer (some x9)))]) rfl (fun _ => rfl) rfl (fun _ x_1 _ _ h1 => ?_) (fun _ _ _ t_1 => ?_) (fun D1 => ?_) (fun D1 => ?_) (fun D1 i1 => ?_)
  refine SC.skip ?_
  exact SX.leafP h1 (.cons rfl (.cons rfl (.nil)))
  refine SC.block ?_
  refine SC.seq ?_
  refine SC.region' ?_
  refine KT.s ?_
  refine KT.s ?_
  refine KT.nil ?_
  refine SX.seq ?_
  refine SC.ret ?_
  refine SX.block_ret ?_
  exact SX.round_ret
  refine SX.block ?_
  refine SX.seq ?_
  refine SC.seq ?_
  refine SC.region' ?_
  refine KT.s ?_
  refine KT.s ?_
  refine KT.nil ?_
  refine SX.seq ?_
  refine SC.ret ?_
  refine SX.ret [.cell 8 4, .cell 9 28] rfl ?_
  refine RS.cell rfl (by kernel_rfl) (fun r8 => ?_)
  refine RS.cell rfl (by kernel_rfl) (fun r9 => ?_)
  exact RS.nil rfl
  refine SX.block_ret ?_
  refine SX.then_ret ?_
  refine SX.ret [.cell 8 4, .cell 9 28] rfl ?_
  refine RS.cell rfl (by kernel_rfl) (fun r8 => ?_)
  refine RS.cell rfl (by kernel_rfl) (fun r9 => ?_)
  exact RS.nil rfl
  exact SX.fail
set_option maxRecDepth 100000 in
theorem stripe_Refill_sim (p0_b : (Option Addr)) (p1_seg : Int) (p2_slot : Int) (p3_seq : Int) (Qf : Int → World → Prop) (w : World) (hm : stripe_Refill (cvOf Try.prog) p0_b p1_seg p2_slot p3_seq Qf w) : Calls Try.prog 61 #[(.pointer p0_b), (.int .i64 p1_seg), (.int .i64 p2_slot), (.int .i64 p3_seq)] w (RetPost (Value.int .i64) Qf) := by
  refine calls_of (fn := Try.f61) (l := [(.pointer p0_b), (.int .i64 p1_seg), (.int .i64 p2_slot), (.int .i64 p3_seq)]) (m := stripe_Refill (cvOf Try.prog) p0_b p1_seg p2_slot p3_seq) 49 (by kernel_rfl) rfl rfl rfl (fun Qf0 => ?_) Qf w hm
  clear hm w Qf
  unfold stripe_Refill
  refine SC.seq ?_
  refine SC.region' ?_
  refine KT.nw 4 (fun ad => .pointer (some ad)) 38 (fun x4 => ?_)
  refine KT.nw 7 (fun ad => .pointer (some ad)) 3 (fun x7 => ?_)
  refine KT.nw 8 (fun ad => .pointer (some ad)) 28 (fun x8 => ?_)
  refine KT.nil ?_
  refine SX.seq ?_
  refine SC.seq ?_
  refine SC.seq ?_
  refine SC.region' ?_
  refine KT.l 15 (fun x15 => ?_)
  refine KT.pv 16 (.int .i64 p1_seg) ?_
  refine KT.pv 17 (.int .i64 p2_slot) ?_
  refine KT.cl (Value.int .i64) 18 98 #[(.pointer x15), (.int .i64 p1_seg), (.int .i64 p2_slot)] (stripe_slotted_sim x15 p1_seg p2_slot) (fun x18 => ?_)
  refine KT.pv 9 (.int .i64 x18) ?_
  refine KT.nil ?_
  refine SX.seq ?_
  refine SC.seq ?_
  refine SC.region' ?_
  refine KT.pv 19 (.int .i64 x18) ?_
  refine KT.pv 20 (.bool (x18 != 0)) ?_
  refine KT.nil ?_
  refine SX.seq ?_
  refine SC.cond (b := x18 != 0) rfl ?_ ?_
  refine SC.seq ?_
  refine SC.region' ?_
  refine KT.pv 21 (.int .i64 x18) ?_
  refine KT.s ?_
  refine KT.nil ?_
  refine SX.seq ?_
  refine SC.ret ?_
  refine SX.then_ret ?_
  refine SX.ret [.cell 8 28] rfl ?_
  refine RS.cell rfl (by kernel_rfl) (fun r8 => ?_)
  exact RS.nil rfl
  refine SC.skip ?_
  refine SX.seq ?_
  refine SC.seq ?_
  refine SC.seq ?_
  refine SC.region' ?_
  refine KT.l 22 (fun x22 => ?_)
  refine KT.pv 23 (.int .i64 p1_seg) ?_
  refine KT.pv 24 (.int .i64 p2_slot) ?_
  refine KT.l 25 (fun x25 => ?_)
  refine KT.cl (fun v : Value => v) 26 99 #[(.pointer x22), (.int .i64 p1_seg), (.int .i64 p2_slot), (.int .i64 x25)] (stripe_lacks_sim x22 p1_seg p2_slot x25) (fun x26 => ?_)
  refine KT.nil ?_
  refine SX.seq ?_
  refine SC.block ?_
  refine SC.rangeF (ξ := (Slc × (Int × Int))) (τ := (Slc × Addr)) (fv := x26) (ps := [27, 28]) (encX := (fun x_1 : (Slc × (Int × Int)) => [(.slice x_1.1.base x_1.1.len x_1.1.cap), (.agg #[(.int .i64 x_1.2.1), (.int .i64 x_1.2.2)])])) (fun t_1 => [(4, (.pointer (some x4))), (7, (.pointer (some x7))), (8, (.pointer (some x8))), (10, (.slice t_1.1.base t_1.1.len t_1.1.cap)), (11, (.pointer (some t_1.2)))]) rfl (fun _ => rfl) rfl (fun _ x_1 _ _ h1 => ?_) (fun _ _ _ t_1 => ?_) (fun D1 => ?_) (fun D1 => ?_) (fun D1 i1 => ?_)
  refine SC.seq ?_
  refine SC.region' ?_
  refine KT.pv 10 (.slice x_1.1.base x_1.1.len x_1.1.cap) ?_
  refine KT.nil ?_
  refine SX.seq ?_
  refine SC.region' ?_
  refine KT.nw 11 (fun ad => .pointer (some ad)) 140 (fun x11 => ?_)
  refine KT.ow rfl (OW.stA _ _ _ rfl rfl rfl rfl rfl (by kernel_rfl) ?_)
  refine KT.nil ?_
  exact SX.leafP h1 (.cons rfl (.cons rfl (.cons rfl (.cons rfl (.cons rfl (.nil))))))
  refine SC.block ?_
  refine SC.seq ?_
  refine SC.region' ?_
  refine KT.l 30 (fun x30 => ?_)
  refine KT.pv 31 (.slice t_1.1.base t_1.1.len t_1.1.cap) ?_
  refine KT.ow rfl (OW.ldA (d := 32) (enc := (fun y : (Int × Int) => [(.int .i64 y.1), (.int .i64 y.2)])) 2 _ _ rfl rfl (by kernel_rfl) (by kernel_rfl) (fun _ => rfl) rfl rfl (fun x32 => ?_))
  refine KT.l 33 (fun x33 => ?_)
  refine KT.cl (fun y : (Slc × Bool) => (.tuple #[(.slice y.1.base y.1.len y.1.cap), (.bool y.2)])) 34 86 #[(.pointer x30), (.slice t_1.1.base t_1.1.len t_1.1.cap), (.agg #[(.int .i64 x32.1), (.int .i64 x32.2)]), (.int .i64 x33)] (stripe_others_sim x30 t_1.1 (x32.1, x32.2) x33) (fun x34 => ?_)
  refine KT.pv 29 (.tuple #[(.slice x34.1.base x34.1.len x34.1.cap), (.bool x34.2)]) ?_
  refine KT.pv 35 (.slice x34.1.base x34.1.len x34.1.cap) ?_
  refine KT.pv 36 (.bool x34.2) ?_
  refine KT.pv 12 (.slice x34.1.base x34.1.len x34.1.cap) ?_
  refine KT.pv 13 (.bool x34.2) ?_
  refine KT.nil ?_
  refine SX.seq ?_
  refine SC.seq ?_
  refine SC.seq ?_
  refine SC.region' ?_
  refine KT.pv 37 (.bool x34.2) ?_
  refine KT.pv 38 (.bool (!x34.2)) ?_
  refine KT.nil ?_
  refine SX.seq ?_
  refine SC.cond (b := !x34.2) rfl ?_ ?_
  refine SC.seq ?_
  refine SC.region' ?_
  refine KT.s ?_
  refine KT.nil ?_
  refine SX.seq ?_
  refine SC.ret ?_
  refine SX.then_ret ?_
  refine SX.block_ret ?_
  exact SX.round_ret
  refine SC.skip ?_
  refine SX.seq ?_
  refine SC.seq ?_
  refine SC.region' ?_
  refine KT.l 39 (fun x39 => ?_)
  refine KT.pv 40 (.pointer (some t_1.2)) ?_
  refine KT.l 41 (fun x41 => ?_)
  refine KT.pv 42 (.pointer (some (Addr.add t_1.2 1))) ?_
  refine KT.l 43 (fun x43 => ?_)
  refine KT.pv 44 (.slice x34.1.base x34.1.len x34.1.cap) ?_
  refine KT.cl (Value.int .i64) 45 32 #[(.pointer x39), (.int .i64 x41), (.int .i64 x43), (.slice x34.1.base x34.1.len x34.1.cap)] (bank_Bank_Write_sim x39 x41 x43 x34.1) (fun x45 => ?_)
  refine KT.pv 14 (.int .i64 x45) ?_
  refine KT.nil ?_
  refine SX.seq ?_
  refine SC.seq ?_
  refine SC.region' ?_
  refine KT.pv 46 (.int .i64 x45) ?_
  refine KT.pv 47 (.bool (x45 != 0)) ?_
  refine KT.nil ?_
  refine SX.seq ?_
  refine SC.cond (b := x45 != 0) rfl ?_ ?_
  refine SC.seq ?_
  refine SC.region' ?_
  refine KT.pv 48 (.int .i64 x45) ?_
  refine KT.s ?_
  refine KT.nil ?_
  refine SX.seq ?_
  refine SC.ret ?_
  refine SX.block_ret ?_
  exact SX.round_ret
  refine SC.skip ?_
  refine SX.block ?_
  exact SX.round_next
  refine SX.block ?_
  refine SX.seq ?_
  refine SC.seq ?_
  refine SC.region' ?_
  refine KT.s ?_
  refine KT.nil ?_
  refine SX.seq ?_
  refine SC.ret ?_
  refine SX.ret [.cell 8 28] rfl ?_
  refine RS.cell rfl (by kernel_rfl) (fun r8 => ?_)
  exact RS.nil rfl
  refine SX.block_ret ?_
  refine SX.then_ret ?_
  refine SX.ret [.cell 8 28] rfl ?_
  refine RS.cell rfl (by kernel_rfl) (fun r8 => ?_)
  exact RS.nil rfl
  exact SX.fail
set_option maxRecDepth 100000 in
theorem law07_StripeRefills_sim (p0_seq : Int) (p1_blocks : Slc) (p2_slot : Int) (Qf : Bool → World → Prop) (w : World) (hm : law07_StripeRefills (cvOf Try.prog) p0_seq p1_blocks p2_slot Qf w) : Calls Try.prog 17 #[(.int .i64 p0_seq), (.slice p1_blocks.base p1_blocks.len p1_blocks.cap), (.int .i64 p2_slot)] w (RetPost Value.bool Qf) := by
  refine calls_of (fn := Try.f17) (l := [(.int .i64 p0_seq), (.slice p1_blocks.base p1_blocks.len p1_blocks.cap), (.int .i64 p2_slot)]) (m := law07_StripeRefills (cvOf Try.prog) p0_seq p1_blocks p2_slot) 155 (by kernel_rfl) rfl rfl rfl (fun Qf0 => ?_) Qf w hm
  clear hm w Qf
  unfold law07_StripeRefills
  refine SC.seq ?_
  refine SC.region' ?_
  refine KT.pv 6 (.bool false) ?_
  refine KT.nil ?_
  refine SX.seq ?_
  refine SC.seq ?_
  refine SC.seq ?_
  refine SC.region' ?_
  refine KT.cl Value.bool 19 45 #[] (law07_alive_sim ) (fun x19 => ?_)
  refine KT.pv 20 (.bool (!x19)) ?_
  refine KT.nil ?_
  refine SX.seq ?_
  refine SC.cond (b := !x19) rfl ?_ ?_
  refine SC.seq ?_
  refine SC.region' ?_
  refine KT.pv 6 (.bool false) ?_
  refine KT.nil ?_
  refine SX.seq ?_
  refine SC.ret ?_
  refine SX.then_ret ?_
  refine SX.ret [.tmp 6] rfl ?_
  refine RS.tmp (.bool false) rfl ?_
  exact RS.nil rfl
  refine SC.skip ?_
  refine SX.seq ?_
  refine SC.seq ?_
  refine SC.seq ?_
  refine SC.region' ?_
  refine KT.pv 21 (.int .i64 p0_seq) ?_
  refine KT.pv 22 (.bool (decide (p0_seq < 1))) ?_
  refine KT.pv 23 (.bool (decide (p0_seq < 1))) ?_
  refine KT.joinO (β := Bool) 3 (fun r1 => [(26, (.bool r1)), (0, (.int .i64 p0_seq)), (1, (.slice p1_blocks.base p1_blocks.len p1_blocks.cap)), (2, (.int .i64 p2_slot))]) (fun r1 => ?_) (fun j1 => ?_)
  refine KT.pv 27 (.bool r1) ?_
  refine KT.joinO (β := Bool) 4 (fun r2 => [(31, (.bool r2)), (0, (.int .i64 p0_seq)), (1, (.slice p1_blocks.base p1_blocks.len p1_blocks.cap)), (2, (.int .i64 p2_slot))]) (fun r2 => ?_) (fun j2 => ?_)
  refine KT.pv 32 (.bool r2) ?_
  refine KT.joinO (β := Bool) 3 (fun r3 => [(35, (.bool r3)), (0, (.int .i64 p0_seq)), (1, (.slice p1_blocks.base p1_blocks.len p1_blocks.cap)), (2, (.int .i64 p2_slot))]) (fun r3 => ?_) (fun j3 => ?_)
  refine KT.pv 36 (.bool r3) ?_
  refine KT.joinO (β := Bool) 3 (fun r4 => [(39, (.bool r4)), (0, (.int .i64 p0_seq)), (1, (.slice p1_blocks.base p1_blocks.len p1_blocks.cap)), (2, (.int .i64 p2_slot))]) (fun r4 => ?_) (fun j4 => ?_)
  refine KT.nil ?_
  refine SX.seq ?_
  refine SC.cond (b := r4) rfl ?_ ?_
  refine SC.seq ?_
  refine SC.region' ?_
  refine KT.pv 6 (.bool true) ?_
  refine KT.nil ?_
  refine SX.seq ?_
  refine SC.ret ?_
  refine SX.then_ret ?_
  refine SX.ret [.tmp 6] rfl ?_
  refine RS.tmp (.bool true) rfl ?_
  exact RS.nil rfl
  refine SC.skip ?_
  refine SX.seq ?_
  refine SC.seq ?_
  refine SC.region' ?_
  refine KT.pv 41 (.agg #[(.int .i64 0), (.int .i64 0), (.int .i64 0)]) ?_
  refine KT.cl (fun y : ((Option Addr) × (Option Addr)) => (.tuple #[(.pointer y.1), (.pointer y.2)])) 42 47 #[(.agg #[(.int .i64 0), (.int .i64 0), (.int .i64 0)])] (law07_Open_sim (0, 0, 0)) (fun x42 => ?_)
  refine KT.pv 40 (.tuple #[(.pointer x42.1), (.pointer x42.2)]) ?_
  refine KT.pv 43 (.pointer x42.1) ?_
  refine KT.pv 44 (.pointer x42.2) ?_
  refine KT.pv 7 (.pointer x42.1) ?_
  refine KT.pv 8 (.pointer x42.2) ?_
  refine KT.nil ?_
  refine SX.seq ?_
  refine SC.seq ?_
  refine SC.seq ?_
  refine SC.region' ?_
  refine KT.pv 45 (.pointer x42.1) ?_
  refine KT.oy rfl (OY.eqlNil (d := 46) (p := x42.1) _ _ _ _ rfl rfl rfl (by kernel_rfl) rfl rfl ?_)
  refine KT.pv 47 (.bool ((x42.1).isNone)) ?_
  refine KT.joinO (β := Bool) 3 (fun r5 => [(50, (.bool r5)), (0, (.int .i64 p0_seq)), (1, (.slice p1_blocks.base p1_blocks.len p1_blocks.cap)), (2, (.int .i64 p2_slot)), (7, (.pointer x42.1)), (8, (.pointer x42.2))]) (fun r5 => ?_) (fun j5 => ?_)
  refine KT.pv 51 (.bool r5) ?_
  refine KT.joinO (β := Bool) 6 (fun r6 => [(57, (.bool r6)), (0, (.int .i64 p0_seq)), (2, (.int .i64 p2_slot)), (7, (.pointer x42.1)), (8, (.pointer x42.2))]) (fun r6 => ?_) (fun j6 => ?_)
  refine KT.pv 58 (.bool r6) ?_
  refine KT.joinO (β := Bool) 4 (fun r7 => [(62, (.bool r7)), (0, (.int .i64 p0_seq)), (2, (.int .i64 p2_slot)), (7, (.pointer x42.1)), (8, (.pointer x42.2))]) (fun r7 => ?_) (fun j7 => ?_)
  refine KT.nil ?_
  refine SX.seq ?_
  refine SC.cond (b := r7) rfl ?_ ?_
  refine SC.seq ?_
  refine SC.region' ?_
  refine KT.pv 6 (.bool false) ?_
  refine KT.nil ?_
  refine SX.seq ?_
  refine SC.ret ?_
  refine SX.then_ret ?_
  refine SX.ret [.tmp 6] rfl ?_
  refine RS.tmp (.bool false) rfl ?_
  exact RS.nil rfl
  refine SC.skip ?_
  refine SX.seq ?_
  refine SC.seq ?_
  refine SC.region' ?_
  refine KT.pv 63 (.pointer x42.2) ?_
  refine KT.pv 64 (.int .i64 p2_slot) ?_
  refine KT.cl (Value.int .i64) 65 34 #[(.pointer x42.2), (.int .i64 p2_slot), (.int .i64 0)] (device_Rack_Doom_sim x42.2 p2_slot 0) (fun x65 => ?_)
  refine KT.nil ?_
  refine SX.seq ?_
  refine SC.seq ?_
  refine SC.seq ?_
  refine SC.region' ?_
  refine KT.pv 66 (.pointer x42.1) ?_
  refine KT.cl (Value.int .i64) 67 35 #[(.pointer x42.1)] (bank_Bank_Flush_sim x42.1) (fun x67 => ?_)
  refine KT.pv 68 (.bool (x67 != 0)) ?_
  refine KT.nil ?_
  refine SX.seq ?_
  refine SC.cond (b := x67 != 0) rfl ?_ ?_
  refine SC.seq ?_
  refine SC.region' ?_
  refine KT.pv 6 (.bool false) ?_
  refine KT.nil ?_
  refine SX.seq ?_
  refine SC.ret ?_
  refine SX.then_ret ?_
  refine SX.ret [.tmp 6] rfl ?_
  refine RS.tmp (.bool false) rfl ?_
  exact RS.nil rfl
  refine SC.skip ?_
  refine SX.seq ?_
  refine SC.seq ?_
  refine SC.region' ?_
  refine KT.pv 70 (.pointer x42.1) ?_
  refine KT.pv 71 (.int .i64 p0_seq) ?_
  refine KT.cl (fun y : (Bool × Int) => (.tuple #[(.bool y.1), (.int .i64 y.2)])) 72 52 #[(.pointer x42.1), (.int .i64 4), (.int .i64 p0_seq)] (stripe_Sound_sim x42.1 4 p0_seq) (fun x72 => ?_)
  refine KT.pv 69 (.tuple #[(.bool x72.1), (.int .i64 x72.2)]) ?_
  refine KT.pv 73 (.bool x72.1) ?_
  refine KT.pv 74 (.int .i64 x72.2) ?_
  refine KT.pv 9 (.bool x72.1) ?_
  refine KT.pv 10 (.int .i64 x72.2) ?_
  refine KT.nil ?_
  refine SX.seq ?_
  refine SC.seq ?_
  refine SC.region' ?_
  refine KT.pv 75 (.pointer x42.1) ?_
  refine KT.pv 76 (.int .i64 p2_slot) ?_
  refine KT.pv 77 (.agg #[(.int .i64 1), (.int .i64 p2_slot), (.int .i64 1)]) ?_
  refine KT.cl (fun y : Unit => (.tuple #[])) 78 31 #[(.pointer x42.1), (.agg #[(.int .i64 1), (.int .i64 p2_slot), (.int .i64 1)])] (bank_Bank_Join_sim x42.1 (1, p2_slot, 1)) (fun x78 => ?_)
  refine KT.nil ?_
  refine SX.seq ?_
  refine SC.seq ?_
  refine SC.region' ?_
  refine KT.pv 80 (.pointer x42.1) ?_
  refine KT.pv 81 (.int .i64 p2_slot) ?_
  refine KT.pv 82 (.int .i64 p0_seq) ?_
  refine KT.cl (fun y : (Bool × Int) => (.tuple #[(.bool y.1), (.int .i64 y.2)])) 83 60 #[(.pointer x42.1), (.int .i64 4), (.int .i64 p2_slot), (.int .i64 p0_seq)] (stripe_Missing_sim x42.1 4 p2_slot p0_seq) (fun x83 => ?_)
  refine KT.pv 79 (.tuple #[(.bool x83.1), (.int .i64 x83.2)]) ?_
  refine KT.pv 84 (.bool x83.1) ?_
  refine KT.pv 85 (.int .i64 x83.2) ?_
  refine KT.pv 11 (.bool x83.1) ?_
  refine KT.pv 12 (.int .i64 x83.2) ?_
  refine KT.nil ?_
  refine SX.sub (T' := [(0, (.int .i64 p0_seq)), (2, (.int .i64 p2_slot)), (7, (.pointer x42.1)), (8, (.pointer x42.2)), (9, (.bool x72.1)), (10, (.int .i64 x72.2)), (11, (.bool x83.1)), (12, (.int .i64 x83.2))]) (.cons rfl (.cons rfl (.cons rfl (.cons rfl (.cons rfl (.cons rfl (.cons rfl (.cons rfl (.nil))))))))) ?_
  refine SX.seq ?_
  refine SC.seq ?_
  refine SC.seq ?_
  refine SC.region' ?_
  refine KT.pv 86 (.int .i64 x72.2) ?_
  refine KT.pv 87 (.bool (x72.2 != 0)) ?_
  refine KT.pv 88 (.bool (x72.2 != 0)) ?_
  refine KT.joinO (β := Bool) 3 (fun r8 => [(91, (.bool r8)), (0, (.int .i64 p0_seq)), (2, (.int .i64 p2_slot)), (7, (.pointer x42.1)), (8, (.pointer x42.2)), (9, (.bool x72.1)), (11, (.bool x83.1))]) (fun r8 => ?_) (fun j8 => ?_)
  refine KT.pv 92 (.bool r8) ?_
  refine KT.joinO (β := Bool) 2 (fun r9 => [(94, (.bool r9)), (0, (.int .i64 p0_seq)), (2, (.int .i64 p2_slot)), (7, (.pointer x42.1)), (8, (.pointer x42.2)), (11, (.bool x83.1))]) (fun r9 => ?_) (fun j9 => ?_)
  refine KT.pv 95 (.bool r9) ?_
  refine KT.joinO (β := Bool) 3 (fun r10 => [(98, (.bool r10)), (0, (.int .i64 p0_seq)), (2, (.int .i64 p2_slot)), (7, (.pointer x42.1)), (8, (.pointer x42.2))]) (fun r10 => ?_) (fun j10 => ?_)
  refine KT.pv 99 (.bool r10) ?_
  refine KT.joinO (β := Bool) 6 (fun r11 => [(105, (.bool r11)), (0, (.int .i64 p0_seq)), (2, (.int .i64 p2_slot)), (7, (.pointer x42.1)), (8, (.pointer x42.2))]) (fun r11 => ?_) (fun j11 => ?_)
  refine KT.nil ?_
  refine SX.seq ?_
  refine SC.cond (b := r11) rfl ?_ ?_
  refine SC.seq ?_
  refine SC.region' ?_
  refine KT.pv 6 (.bool false) ?_
  refine KT.nil ?_
  refine SX.seq ?_
  refine SC.ret ?_
  refine SX.then_ret ?_
  refine SX.ret [.tmp 6] rfl ?_
  refine RS.tmp (.bool false) rfl ?_
  exact RS.nil rfl
  refine SC.skip ?_
  refine SX.seq ?_
  refine SC.seq ?_
  refine SC.region' ?_
  refine KT.pv 107 (.pointer x42.1) ?_
  refine KT.pv 108 (.int .i64 p2_slot) ?_
  refine KT.pv 109 (.int .i64 p0_seq) ?_
  refine KT.cl (fun y : (Bool × Int) => (.tuple #[(.bool y.1), (.int .i64 y.2)])) 110 60 #[(.pointer x42.1), (.int .i64 4), (.int .i64 p2_slot), (.int .i64 p0_seq)] (stripe_Missing_sim x42.1 4 p2_slot p0_seq) (fun x110 => ?_)
  refine KT.pv 106 (.tuple #[(.bool x110.1), (.int .i64 x110.2)]) ?_
  refine KT.pv 111 (.bool x110.1) ?_
  refine KT.pv 112 (.int .i64 x110.2) ?_
  refine KT.pv 11 (.bool x110.1) ?_
  refine KT.pv 10 (.int .i64 x110.2) ?_
  refine KT.nil ?_
  refine SX.seq ?_
  refine SC.seq ?_
  refine SC.region' ?_
  refine KT.pv 114 (.pointer x42.1) ?_
  refine KT.pv 115 (.int .i64 p0_seq) ?_
  refine KT.cl (fun y : (Bool × Int) => (.tuple #[(.bool y.1), (.int .i64 y.2)])) 116 52 #[(.pointer x42.1), (.int .i64 4), (.int .i64 p0_seq)] (stripe_Sound_sim x42.1 4 p0_seq) (fun x116 => ?_)
  refine KT.pv 113 (.tuple #[(.bool x116.1), (.int .i64 x116.2)]) ?_
  refine KT.pv 117 (.bool x116.1) ?_
  refine KT.pv 118 (.int .i64 x116.2) ?_
  refine KT.pv 13 (.bool x116.1) ?_
  refine KT.pv 12 (.int .i64 x116.2) ?_
  refine KT.nil ?_
  refine SX.seq ?_
  refine SC.seq ?_
  refine SC.seq ?_
  refine SC.region' ?_
  refine KT.pv 14 (.int .i64 0) ?_
  refine KT.nil ?_
  refine SX.seq ?_
  refine SC.block ?_
  refine SC.loop (σ := (Int)) (fun s12 => [(2, (.int .i64 p2_slot)), (8, (.pointer x42.2)), (10, (.int .i64 x110.2)), (11, (.bool x110.1)), (12, (.int .i64 x116.2)), (13, (.bool x116.1)), (14, (.int .i64 s12))]) (.cons rfl (.cons rfl (.cons rfl (.cons rfl (.cons rfl (.cons rfl (.cons rfl (.nil)))))))) (fun _ _ _ s12 => ?_)
  refine SC.seq ?_
  refine SC.seq ?_
  refine SC.region' ?_
  refine KT.pv 119 (.int .i64 s12) ?_
  refine KT.pv 120 (.bool (decide (s12 < 3))) ?_
  refine KT.nil ?_
  refine SX.seq ?_
  refine SC.cond (b := decide (s12 < 3)) rfl ?_ ?_
  refine SC.skip ?_
  refine SX.seq ?_
  refine SC.seq ?_
  refine SC.block ?_
  refine SC.seq ?_
  refine SC.region' ?_
  refine KT.pv 124 (.pointer x42.2) ?_
  refine KT.pv 125 (.int .i64 p2_slot) ?_
  refine KT.pv 126 (.int .i64 s12) ?_
  refine KT.pv 127 (.int .i64 (w64 (17 + s12))) ?_
  refine KT.cl (fun y : (Slc × Int) => (.tuple #[(.slice y.1.base y.1.len y.1.cap), (.int .i64 y.2)])) 128 41 #[(.pointer x42.2), (.int .i64 p2_slot), (.int .i64 (w64 (17 + s12)))] (device_Rack_Lasting_sim x42.2 p2_slot (w64 (17 + s12))) (fun x128 => ?_)
  refine KT.pv 123 (.tuple #[(.slice x128.1.base x128.1.len x128.1.cap), (.int .i64 x128.2)]) ?_
  refine KT.pv 129 (.slice x128.1.base x128.1.len x128.1.cap) ?_
  refine KT.pv 130 (.int .i64 x128.2) ?_
  refine KT.pv 15 (.slice x128.1.base x128.1.len x128.1.cap) ?_
  refine KT.pv 16 (.int .i64 x128.2) ?_
  refine KT.nil ?_
  refine SX.seq ?_
  refine SC.seq ?_
  refine SC.region' ?_
  refine KT.pv 132 (.pointer x42.2) ?_
  refine KT.pv 133 (.int .i64 s12) ?_
  refine KT.pv 134 (.int .i64 (w64 (17 + s12))) ?_
  refine KT.cl (fun y : (Slc × Int) => (.tuple #[(.slice y.1.base y.1.len y.1.cap), (.int .i64 y.2)])) 135 29 #[(.pointer x42.2), (.int .i64 3), (.int .i64 (w64 (17 + s12)))] (device_Rack_Read_sim x42.2 3 (w64 (17 + s12))) (fun x135 => ?_)
  refine KT.pv 131 (.tuple #[(.slice x135.1.base x135.1.len x135.1.cap), (.int .i64 x135.2)]) ?_
  refine KT.pv 136 (.slice x135.1.base x135.1.len x135.1.cap) ?_
  refine KT.pv 137 (.int .i64 x135.2) ?_
  refine KT.pv 17 (.slice x135.1.base x135.1.len x135.1.cap) ?_
  refine KT.pv 18 (.int .i64 x135.2) ?_
  refine KT.nil ?_
  refine SX.seq ?_
  refine SC.seq ?_
  refine SC.region' ?_
  refine KT.pv 138 (.slice x128.1.base x128.1.len x128.1.cap) ?_
  refine KT.pv 139 (.slice x135.1.base x135.1.len x135.1.cap) ?_
  refine KT.cl Value.bool 140 30 #[(.slice x128.1.base x128.1.len x128.1.cap), (.slice x135.1.base x135.1.len x135.1.cap)] (ref00_SameBytes_sim x128.1 x135.1) (fun x140 => ?_)
  refine KT.pv 141 (.bool (!x140)) ?_
  refine KT.nil ?_
  refine SX.sub (T' := [(2, (.int .i64 p2_slot)), (8, (.pointer x42.2)), (10, (.int .i64 x110.2)), (11, (.bool x110.1)), (12, (.int .i64 x116.2)), (13, (.bool x116.1)), (14, (.int .i64 s12)), (141, (.bool (!x140)))]) (.cons rfl (.cons rfl (.cons rfl (.cons rfl (.cons rfl (.cons rfl (.cons rfl (.cons rfl (.nil))))))))) ?_
  refine SX.seq ?_
  refine SC.cond (b := !x140) rfl ?_ ?_
  refine SC.seq ?_
  refine SC.region' ?_
  refine KT.pv 6 (.bool false) ?_
  refine KT.nil ?_
  refine SX.seq ?_
  refine SC.ret ?_
  refine SX.block_ret ?_
  refine SX.then_ret ?_
  refine SX.loop_ret ?_
  refine SX.block_ret ?_
  refine SX.then_ret ?_
  refine SX.ret [.tmp 6] rfl ?_
  refine RS.tmp (.bool false) rfl ?_
  exact RS.nil rfl
  refine SC.skip ?_
  refine SX.block ?_
  refine SX.seq ?_
  refine SC.region' ?_
  refine KT.pv 121 (.int .i64 s12) ?_
  refine KT.pv 122 (.int .i64 (w64 (s12 + 1))) ?_
  refine KT.pv 14 (.int .i64 (w64 (s12 + 1))) ?_
  refine KT.nil ?_
  exact SX.loop_next (.cons rfl (.cons rfl (.cons rfl (.cons rfl (.cons rfl (.cons rfl (.cons rfl (.nil))))))))
  refine SC.exit ?_
  refine SX.then_exit ?_
  refine SX.loop_exit ?_
  refine SX.block_hit ?_
  refine SX.seq ?_
  refine SC.seq ?_
  refine SC.region' ?_
  refine KT.pv 142 (.int .i64 x110.2) ?_
  refine KT.pv 143 (.bool (x110.2 == 0)) ?_
  refine KT.pv 144 (.bool (x110.2 == 0)) ?_
  refine KT.joinO (β := Bool) 3 (fun r13 => [(147, (.bool r13)), (11, (.bool x110.1)), (13, (.bool x116.1))]) (fun r13 => ?_) (fun j13 => ?_)
  refine KT.pv 148 (.bool r13) ?_
  refine KT.joinO (β := Bool) 3 (fun r14 => [(151, (.bool r14)), (13, (.bool x116.1))]) (fun r14 => ?_) (fun j14 => ?_)
  refine KT.pv 152 (.bool r14) ?_
  refine KT.joinO (β := Bool) 2 (fun r15 => [(154, (.bool r15))]) (fun r15 => ?_) (fun j15 => ?_)
  refine KT.pv 6 (.bool r15) ?_
  refine KT.nil ?_
  refine SX.seq ?_
  refine SC.ret ?_
  refine SX.ret [.tmp 6] rfl ?_
  refine RS.tmp (.bool r15) rfl ?_
  exact RS.nil rfl
  refine KT.ite (b := r14) 152 rfl ?_ ?_
  refine KT.pv 153 (.bool x116.1) ?_
  refine KT.pv 154 (.bool x116.1) ?_
  exact KT.leafO j15 (.cons rfl (.nil))
  refine KT.sk ?_
  refine KT.pv 154 (.bool false) ?_
  exact KT.leafO j15 (.cons rfl (.nil))
  refine KT.ite (b := r13) 148 rfl ?_ ?_
  refine KT.pv 149 (.bool x110.1) ?_
  refine KT.pv 150 (.bool (!x110.1)) ?_
  refine KT.pv 151 (.bool (!x110.1)) ?_
  exact KT.leafO j14 (.cons rfl (.cons rfl (.nil)))
  refine KT.sk ?_
  refine KT.sk ?_
  refine KT.pv 151 (.bool false) ?_
  exact KT.leafO j14 (.cons rfl (.cons rfl (.nil)))
  refine KT.ite (b := x110.2 == 0) 144 rfl ?_ ?_
  refine KT.pv 145 (.int .i64 x116.2) ?_
  refine KT.pv 146 (.bool (x116.2 == 0)) ?_
  refine KT.pv 147 (.bool (x116.2 == 0)) ?_
  exact KT.leafO j13 (.cons rfl (.cons rfl (.cons rfl (.nil))))
  refine KT.sk ?_
  refine KT.sk ?_
  refine KT.pv 147 (.bool false) ?_
  exact KT.leafO j13 (.cons rfl (.cons rfl (.cons rfl (.nil))))
  refine KT.ite (b := r10) 99 rfl ?_ ?_
  refine KT.sk ?_
  refine KT.sk ?_
  refine KT.sk ?_
  refine KT.sk ?_
  refine KT.sk ?_
  refine KT.pv 105 (.bool true) ?_
  exact KT.leafO j11 (.cons rfl (.cons rfl (.cons rfl (.cons rfl (.cons rfl (.nil))))))
  refine KT.pv 100 (.pointer x42.1) ?_
  refine KT.pv 101 (.int .i64 p2_slot) ?_
  refine KT.pv 102 (.int .i64 p0_seq) ?_
  refine KT.cl (Value.int .i64) 103 61 #[(.pointer x42.1), (.int .i64 4), (.int .i64 p2_slot), (.int .i64 p0_seq)] (stripe_Refill_sim x42.1 4 p2_slot p0_seq) (fun x103 => ?_)
  refine KT.pv 104 (.bool (x103 != 0)) ?_
  refine KT.pv 105 (.bool (x103 != 0)) ?_
  exact KT.leafO j11 (.cons rfl (.cons rfl (.cons rfl (.cons rfl (.cons rfl (.nil))))))
  refine KT.ite (b := r9) 95 rfl ?_ ?_
  refine KT.sk ?_
  refine KT.sk ?_
  refine KT.pv 98 (.bool true) ?_
  exact KT.leafO j10 (.cons rfl (.cons rfl (.cons rfl (.cons rfl (.cons rfl (.nil))))))
  refine KT.pv 96 (.bool x83.1) ?_
  refine KT.pv 97 (.bool (!x83.1)) ?_
  refine KT.pv 98 (.bool (!x83.1)) ?_
  exact KT.leafO j10 (.cons rfl (.cons rfl (.cons rfl (.cons rfl (.cons rfl (.nil))))))
  refine KT.ite (b := r8) 92 rfl ?_ ?_
  refine KT.sk ?_
  refine KT.pv 94 (.bool true) ?_
  exact KT.leafO j9 (.cons rfl (.cons rfl (.cons rfl (.cons rfl (.cons rfl (.cons rfl (.nil)))))))
  refine KT.pv 93 (.bool x72.1) ?_
  refine KT.pv 94 (.bool x72.1) ?_
  exact KT.leafO j9 (.cons rfl (.cons rfl (.cons rfl (.cons rfl (.cons rfl (.cons rfl (.nil)))))))
  refine KT.ite (b := x72.2 != 0) 88 rfl ?_ ?_
  refine KT.sk ?_
  refine KT.sk ?_
  refine KT.pv 91 (.bool true) ?_
  exact KT.leafO j8 (.cons rfl (.cons rfl (.cons rfl (.cons rfl (.cons rfl (.cons rfl (.cons rfl (.nil))))))))
  refine KT.pv 89 (.int .i64 x83.2) ?_
  refine KT.pv 90 (.bool (x83.2 != 0)) ?_
  refine KT.pv 91 (.bool (x83.2 != 0)) ?_
  exact KT.leafO j8 (.cons rfl (.cons rfl (.cons rfl (.cons rfl (.cons rfl (.cons rfl (.cons rfl (.nil))))))))
  refine KT.ite (b := r6) 58 rfl ?_ ?_
  refine KT.sk ?_
  refine KT.sk ?_
  refine KT.sk ?_
  refine KT.pv 62 (.bool true) ?_
  exact KT.leafO j7 (.cons rfl (.cons rfl (.cons rfl (.cons rfl (.cons rfl (.nil))))))
  refine KT.pv 59 (.pointer x42.1) ?_
  refine KT.cl (Value.int .i64) 60 35 #[(.pointer x42.1)] (bank_Bank_Flush_sim x42.1) (fun x60 => ?_)
  refine KT.pv 61 (.bool (x60 != 0)) ?_
  refine KT.pv 62 (.bool (x60 != 0)) ?_
  exact KT.leafO j7 (.cons rfl (.cons rfl (.cons rfl (.cons rfl (.cons rfl (.nil))))))
  refine KT.ite (b := r5) 51 rfl ?_ ?_
  refine KT.sk ?_
  refine KT.sk ?_
  refine KT.sk ?_
  refine KT.sk ?_
  refine KT.sk ?_
  refine KT.pv 57 (.bool true) ?_
  exact KT.leafO j6 (.cons rfl (.cons rfl (.cons rfl (.cons rfl (.cons rfl (.nil))))))
  refine KT.pv 52 (.pointer x42.1) ?_
  refine KT.pv 53 (.int .i64 p0_seq) ?_
  refine KT.pv 54 (.slice p1_blocks.base p1_blocks.len p1_blocks.cap) ?_
  refine KT.cl (Value.int .i64) 55 48 #[(.pointer x42.1), (.int .i64 4), (.int .i64 p0_seq), (.slice p1_blocks.base p1_blocks.len p1_blocks.cap)] (stripe_Write_sim x42.1 4 p0_seq p1_blocks) (fun x55 => ?_)
  refine KT.pv 56 (.bool (x55 != 0)) ?_
  refine KT.pv 57 (.bool (x55 != 0)) ?_
  exact KT.leafO j6 (.cons rfl (.cons rfl (.cons rfl (.cons rfl (.cons rfl (.nil))))))
  refine KT.ite (b := (x42.1).isNone) 47 rfl ?_ ?_
  refine KT.sk ?_
  refine KT.sk ?_
  refine KT.pv 50 (.bool true) ?_
  exact KT.leafO j5 (.cons rfl (.cons rfl (.cons rfl (.cons rfl (.cons rfl (.cons rfl (.nil)))))))
  refine KT.pv 48 (.pointer x42.2) ?_
  refine KT.oy rfl (OY.eqlNil (d := 49) (p := x42.2) _ _ _ _ rfl rfl rfl (by kernel_rfl) rfl rfl ?_)
  refine KT.pv 50 (.bool ((x42.2).isNone)) ?_
  exact KT.leafO j5 (.cons rfl (.cons rfl (.cons rfl (.cons rfl (.cons rfl (.cons rfl (.nil)))))))
  refine KT.ite (b := r3) 36 rfl ?_ ?_
  refine KT.sk ?_
  refine KT.sk ?_
  refine KT.pv 39 (.bool true) ?_
  exact KT.leafO j4 (.cons rfl (.cons rfl (.cons rfl (.cons rfl (.nil)))))
  refine KT.pv 37 (.int .i64 p2_slot) ?_
  refine KT.pv 38 (.bool (decide (p2_slot > 2))) ?_
  refine KT.pv 39 (.bool (decide (p2_slot > 2))) ?_
  exact KT.leafO j4 (.cons rfl (.cons rfl (.cons rfl (.cons rfl (.nil)))))
  refine KT.ite (b := r2) 32 rfl ?_ ?_
  refine KT.sk ?_
  refine KT.sk ?_
  refine KT.pv 35 (.bool true) ?_
  exact KT.leafO j3 (.cons rfl (.cons rfl (.cons rfl (.cons rfl (.nil)))))
  refine KT.pv 33 (.int .i64 p2_slot) ?_
  refine KT.pv 34 (.bool (decide (p2_slot < 0))) ?_
  refine KT.pv 35 (.bool (decide (p2_slot < 0))) ?_
  exact KT.leafO j3 (.cons rfl (.cons rfl (.cons rfl (.cons rfl (.nil)))))
  refine KT.ite (b := r1) 27 rfl ?_ ?_
  refine KT.sk ?_
  refine KT.sk ?_
  refine KT.sk ?_
  refine KT.pv 31 (.bool true) ?_
  exact KT.leafO j2 (.cons rfl (.cons rfl (.cons rfl (.cons rfl (.nil)))))
  refine KT.pv 28 (.slice p1_blocks.base p1_blocks.len p1_blocks.cap) ?_
  refine KT.cl Value.bool 29 46 #[(.slice p1_blocks.base p1_blocks.len p1_blocks.cap), (.int .i64 6)] (law07_fits_sim p1_blocks 6) (fun x29 => ?_)
  refine KT.pv 30 (.bool (!x29)) ?_
  refine KT.pv 31 (.bool (!x29)) ?_
  exact KT.leafO j2 (.cons rfl (.cons rfl (.cons rfl (.cons rfl (.nil)))))
  refine KT.ite (b := decide (p0_seq < 1)) 23 rfl ?_ ?_
  refine KT.sk ?_
  refine KT.sk ?_
  refine KT.pv 26 (.bool true) ?_
  exact KT.leafO j1 (.cons rfl (.cons rfl (.cons rfl (.cons rfl (.nil)))))
  refine KT.pv 24 (.int .i64 p0_seq) ?_
  refine KT.pv 25 (.bool (decide (p0_seq ≥ 4294967296))) ?_
  refine KT.pv 26 (.bool (decide (p0_seq ≥ 4294967296))) ?_
  exact KT.leafO j1 (.cons rfl (.cons rfl (.cons rfl (.cons rfl (.nil)))))

end Go.Proofs.Ytldmeimebebllaa
namespace Go.Proofs.Ytldmeimebebllaa
open Go.Mo
theorem disksOk : DisksOk (cvOf Try.prog) := fun b yv Q w hm =>
  enter_of (f := fid_bank_Bank_disks) (ags := #[.pointer b, yv]) (m := bank_Bank_disks (cvOf Try.prog) b yv) (enc := fun _ : Unit => .tuple #[]) (by simp [Deferred.ofValue, invoke]) (fun Qf' h => bank_Bank_disks_sim b yv Qf' w h) Q hm
end Go.Proofs.Ytldmeimebebllaa
namespace Go.Proofs.Ytldmeimebebllaa
open Go.Mo
theorem rowsOk : RowsOk (cvOf Try.prog) := fun a1 a2 yv Q w hm =>
  enter_of (f := fid_stripe_rows_c1) (ags := #[yv, .pointer (some a1), .pointer (some a2)]) (m := stripe_rows_c1 (cvOf Try.prog) yv a1 a2) (enc := fun _ : Unit => .tuple #[]) (by simp [Deferred.ofValue, invoke]) (fun Qf' h => stripe_rows_c1_sim yv a1 a2 Qf' w h) Q hm
end Go.Proofs.Ytldmeimebebllaa
namespace Go.Proofs.Ytldmeimebebllaa
open Go.Mo
theorem lacksOk : LacksOk (cvOf Try.prog) := ⟨fun p a Q w hm =>
  call_of_enter (enter_of (f := fid_stripe_lacks_c1_c1) (ags := #[.agg #[.int .i64 p.1, .int .i64 p.2], .pointer (some a)]) (m := stripe_lacks_c1_c1 p a) (enc := Value.bool) (by simp [Deferred.ofValue, invoke]) (fun Qf' h => stripe_lacks_c1_c1_sim p a Qf' w h) Q hm),
  fun a1 a2 a3 a4 yv Q w hm =>
  enter_of (f := fid_stripe_lacks_c1) (ags := #[yv, .pointer (some a1), .pointer (some a2), .pointer (some a3), .pointer (some a4)]) (m := stripe_lacks_c1 (cvOf Try.prog) yv a1 a2 a3 a4) (enc := fun _ : Unit => .tuple #[]) (by simp [Deferred.ofValue, invoke]) (fun Qf' h => stripe_lacks_c1_sim yv a1 a2 a3 a4 Qf' w h) Q hm⟩
end Go.Proofs.Ytldmeimebebllaa
