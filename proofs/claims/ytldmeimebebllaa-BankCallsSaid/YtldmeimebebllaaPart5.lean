/-
  A part of the proof: predicate transformers over the model, and a separation logic over them; what functions of the program do.
-/
import Derived.Test.YtldmeimebebllaaPart4
import Derived.Test.YtldmeimebebllaaProg
set_option linter.unusedSimpArgs false
namespace Go.Proofs.Ytldmeimebebllaa
open Go.Mo
set_option linter.unusedVariables false
set_option maxRecDepth 100000 in
theorem ref06_Bank_Bad_sim (p0_b : (Option Addr)) (Qf : Slc → World → Prop) (w : World) (hm : ref06_Bank_Bad p0_b Qf w) : Calls Try.prog 108 #[(.pointer p0_b)] w (RetPost vS Qf) := by
  refine calls_of (fn := Try.f108) (l := [(.pointer p0_b)]) (m := ref06_Bank_Bad p0_b) 45 (by kernel_rfl) rfl rfl rfl (fun Qf0 => ?_) Qf w hm
  clear hm w Qf
  unfold ref06_Bank_Bad
  refine SC.seq ?_
  refine SC.region' ?_
  refine KT.pv 2 (.slice none 0 0) ?_
  refine KT.nil ?_
  refine SX.seq ?_
  refine SC.seq ?_
  refine SC.region' ?_
  refine KT.nw 5 (fun ad => .slice (some ad) 0 0) 3 (fun x5 => ?_)
  refine KT.pv 3 (.slice (some x5) 0 0) ?_
  refine KT.nil ?_
  refine SX.seq ?_
  refine SC.seq ?_
  refine SC.seq ?_
  refine SC.region' ?_
  refine KT.pv 4 (.int .i64 0) ?_
  refine KT.nil ?_
  refine SX.seq ?_
  refine SC.block ?_
  refine SC.loop (σ := (Slc × Int)) (fun s1 => [(0, (.pointer p0_b)), (3, (.slice s1.1.base s1.1.len s1.1.cap)), (4, (.int .i64 s1.2))]) (.cons rfl (.cons rfl (.cons rfl (.nil)))) (fun _ _ _ s1 => ?_)
  refine SC.seq ?_
  refine SC.seq ?_
  refine SC.region' ?_
  refine KT.pv 6 (.int .i64 s1.2) ?_
  refine KT.pv 7 (.pointer p0_b) ?_
  refine KT.nm 8 (fun x8 => ?_)
  refine KT.pv 9 (.pointer (some (Addr.add x8 1))) ?_
  refine KT.pv 10 (.pointer (some (Addr.add x8 1))) ?_
  refine KT.l 11 (fun x11 => ?_)
  refine KT.pv 12 (.bool (decide (s1.2 < x11))) ?_
  refine KT.nil ?_
  refine SX.seq ?_
  refine SC.cond (b := decide (s1.2 < x11)) rfl ?_ ?_
  refine SC.skip ?_
  refine SX.seq ?_
  refine SC.seq ?_
  refine SC.block ?_
  refine SC.seq ?_
  refine SC.join (β := (Bool)) (fun b2 => [(0, (.pointer p0_b)), (3, (.slice s1.1.base s1.1.len s1.1.cap)), (4, (.int .i64 s1.2)), (39, (.bool b2))]) (fun b2 => ?_) (fun j2 => ?_)
  refine SX.seq ?_
  refine SC.cond (b := b2) rfl ?_ ?_
  refine SC.region' ?_
  refine KT.pv 40 (.slice s1.1.base s1.1.len s1.1.cap) ?_
  refine KT.pv 41 (.int .i64 s1.2) ?_
  refine KT.nw 42 (fun ad => .slice (some ad) 1 1) 3 (fun x42 => ?_)
  refine KT.ow rfl (OW.append (d := 43) (s := s1.1) (x := ⟨some x42, 1, 1⟩) [(.int .i64 0)] 8 3 _ _ _ _ rfl rfl rfl rfl (by kernel_rfl) (by kernel_rfl) rfl rfl rfl (fun x43 => ?_))
  refine KT.pv 3 (.slice x43.base x43.len x43.cap) ?_
  refine KT.nil ?_
  refine SX.block ?_
  refine SX.seq ?_
  refine SC.region' ?_
  refine KT.pv 13 (.int .i64 s1.2) ?_
  refine KT.pv 14 (.int .i64 (w64 (s1.2 + 1))) ?_
  refine KT.pv 4 (.int .i64 (w64 (s1.2 + 1))) ?_
  refine KT.nil ?_
  exact SX.loop_next (.cons rfl (.cons rfl (.cons rfl (.nil))))
  refine SC.skip ?_
  refine SX.block ?_
  refine SX.seq ?_
  refine SC.region' ?_
  refine KT.pv 13 (.int .i64 s1.2) ?_
  refine KT.pv 14 (.int .i64 (w64 (s1.2 + 1))) ?_
  refine KT.pv 4 (.int .i64 (w64 (s1.2 + 1))) ?_
  refine KT.nil ?_
  exact SX.loop_next (.cons rfl (.cons rfl (.cons rfl (.nil))))
  refine SC.draw 25 (fun _ => false) rfl (by kernel_rfl) (fun S3 => ?_)
  refine KT.pvA 0 15 (.pointer p0_b) ?_
  refine KT.tp 1 (OY.nil (d := 16) (p := p0_b) _ rfl rfl rfl rfl (fun x16 => ?_))
  refine KT.pvA 2 17 (.pointer (some x16)) ?_
  refine KT.tk 3 (OY.ldI (d := 18) _ _ rfl rfl (by kernel_rfl) rfl rfl (fun x18 => ?_))
  refine KT.pvA 4 19 (.pointer p0_b) ?_
  refine KT.pvA 5 20 (.int .i64 s1.2) ?_
  refine KT.one 6 rfl (by kernel_rfl) rfl (OW.step (OW.call (d := 21) (enc := (Value.int .i64)) 131 #[(.pointer p0_b), (.int .i64 s1.2)] rfl (fun _ => by kernel_rfl) (fun Qf w => ref06_Bank_disk_sim p0_b s1.2 Qf w) rfl rfl (fun x21 => ?_)))
  refine KT.and ?_
  refine KT.one 7 rfl (by kernel_rfl) rfl (OW.step (OW.call (d := 22) (enc := Value.bool) 58 #[(.pointer x18), (.int .i64 x21)] rfl (fun _ => by kernel_rfl) (fun Qf w => ref02_Rack_Failed_sim x18 x21 Qf w) rfl rfl (fun x22 => ?_)))
  refine KT.and ?_
  refine KT.pvA 8 23 (.bool x22) ?_
  refine KT.ite (b := x22) 23 rfl ?_ ?_
  refine KT.skA 9 ?_
  refine KT.skA 10 ?_
  refine KT.skA 11 ?_
  refine KT.skA 12 ?_
  refine KT.skA 13 ?_
  refine KT.skA 14 ?_
  refine KT.skA 15 ?_
  refine KT.skA 16 ?_
  refine KT.skA 17 ?_
  refine KT.skA 18 ?_
  refine KT.skA 19 ?_
  refine KT.skA 20 ?_
  refine KT.skA 21 ?_
  refine KT.skA 22 ?_
  refine KT.skA 23 ?_
  refine KT.pvA 24 39 (.bool true) ?_
  refine KT.doneA (by kernel_rfl) ?_
  refine SX.sub (T' := [(0, (.pointer p0_b)), (3, (.slice s1.1.base s1.1.len s1.1.cap)), (4, (.int .i64 s1.2)), (39, (.bool true))]) (.cons rfl (.cons rfl (.cons rfl (.cons rfl (.nil))))) ?_
  exact SX.leafS j2 (.cons rfl (.cons rfl (.cons rfl (.cons rfl (.nil)))))
  refine KT.pvA 9 24 (.pointer p0_b) ?_
  refine KT.tp 10 (OY.nil (d := 25) (p := p0_b) _ rfl rfl rfl rfl (fun x25 => ?_))
  refine KT.pvA 11 26 (.pointer (some (Addr.add x25 4))) ?_
  refine KT.pvA 12 27 (.pointer (some (Addr.add (Addr.add x25 4) 2))) ?_
  refine KT.tk 13 (OY.ldI (d := 28) _ _ rfl rfl (by kernel_rfl) rfl rfl (fun x28 => ?_))
  refine KT.pvA 14 29 (.bool (x28 == 1)) ?_
  refine KT.pvA 15 30 (.bool (x28 == 1)) ?_
  refine KT.ite (b := x28 == 1) 30 rfl ?_ ?_
  refine KT.pvA 16 31 (.pointer p0_b) ?_
  refine KT.tp 17 (OY.nil (d := 32) (p := p0_b) _ rfl rfl rfl rfl (fun x32 => ?_))
  refine KT.pvA 18 33 (.pointer (some (Addr.add x32 4))) ?_
  refine KT.pvA 19 34 (.pointer (some (Addr.add (Addr.add x32 4) 1))) ?_
  refine KT.tk 20 (OY.ldI (d := 35) _ _ rfl rfl (by kernel_rfl) rfl rfl (fun x35 => ?_))
  refine KT.pvA 21 36 (.int .i64 s1.2) ?_
  refine KT.pvA 22 37 (.bool (x35 == s1.2)) ?_
  refine KT.pvA 23 38 (.bool (x35 == s1.2)) ?_
  refine KT.pvA 24 39 (.bool (x35 == s1.2)) ?_
  refine KT.doneA (by kernel_rfl) ?_
  refine SX.sub (T' := [(0, (.pointer p0_b)), (3, (.slice s1.1.base s1.1.len s1.1.cap)), (4, (.int .i64 s1.2)), (39, (.bool (x35 == s1.2)))]) (.cons rfl (.cons rfl (.cons rfl (.cons rfl (.nil))))) ?_
  exact SX.leafS j2 (.cons rfl (.cons rfl (.cons rfl (.cons rfl (.nil)))))
  refine KT.skA 16 ?_
  refine KT.skA 17 ?_
  refine KT.skA 18 ?_
  refine KT.skA 19 ?_
  refine KT.skA 20 ?_
  refine KT.skA 21 ?_
  refine KT.skA 22 ?_
  refine KT.pvA 23 38 (.bool false) ?_
  refine KT.pvA 24 39 (.bool false) ?_
  refine KT.doneA (by kernel_rfl) ?_
  refine SX.sub (T' := [(0, (.pointer p0_b)), (3, (.slice s1.1.base s1.1.len s1.1.cap)), (4, (.int .i64 s1.2)), (39, (.bool false))]) (.cons rfl (.cons rfl (.cons rfl (.cons rfl (.nil))))) ?_
  exact SX.leafS j2 (.cons rfl (.cons rfl (.cons rfl (.cons rfl (.nil)))))
  refine SC.exit ?_
  refine SX.then_exit ?_
  refine SX.loop_exit ?_
  refine SX.block_hit ?_
  refine SX.seq ?_
  refine SC.seq ?_
  refine SC.region' ?_
  refine KT.pv 44 (.slice s1.1.base s1.1.len s1.1.cap) ?_
  refine KT.pv 2 (.slice s1.1.base s1.1.len s1.1.cap) ?_
  refine KT.nil ?_
  refine SX.seq ?_
  refine SC.ret ?_
  refine SX.ret [.tmp 2] rfl ?_
  refine RS.tmp (.slice s1.1.base s1.1.len s1.1.cap) rfl ?_
  exact RS.nil rfl
set_option maxRecDepth 100000 in
theorem bank_Bank_Member_sim (p0_b : (Option Addr)) (Qf : (Int × Int × Int) → World → Prop) (w : World) (hm : bank_Bank_Member p0_b Qf w) : Calls Try.prog 109 #[(.pointer p0_b)] w (RetPost (fun y : (Int × Int × Int) => (.agg #[(.int .i64 y.1), (.int .i64 y.2.1), (.int .i64 y.2.2)])) Qf) := by
  refine calls_of (fn := Try.f109) (l := [(.pointer p0_b)]) (m := bank_Bank_Member p0_b) 7 (by kernel_rfl) rfl rfl rfl (fun Qf0 => ?_) Qf w hm
  clear hm w Qf
  unfold bank_Bank_Member
  refine SC.seq ?_
  refine SC.region' ?_
  refine KT.nw 2 (fun ad => .pointer (some ad)) 25 (fun x2 => ?_)
  refine KT.nil ?_
  refine SX.seq ?_
  refine SC.seq ?_
  refine SC.region' ?_
  refine KT.pv 3 (.pointer p0_b) ?_
  refine KT.nm 4 (fun x4 => ?_)
  refine KT.pv 5 (.pointer (some (Addr.add x4 4))) ?_
  refine KT.ow rfl (OW.ldA (d := 6) (enc := (fun y : (Int × Int × Int) => [(.int .i64 y.1), (.int .i64 y.2.1), (.int .i64 y.2.2)])) 3 _ _ rfl rfl (by kernel_rfl) (by kernel_rfl) (fun _ => rfl) rfl rfl (fun x6 => ?_))
  refine KT.ow rfl (OW.stA _ _ _ rfl rfl rfl rfl rfl (by kernel_rfl) ?_)
  refine KT.nil ?_
  refine SX.seq ?_
  refine SC.ret ?_
  refine SX.ret [.cell 2 25] rfl ?_
  refine RS.cellA 3 (by kernel_rfl) rfl rfl (fun _ => rfl) (fun r2 => ?_)
  exact RS.nil rfl
set_option maxRecDepth 100000 in
theorem law06_told_sim (p0_r : (Option Addr)) (p1_b : (Option Addr)) (p2_q : (Option Addr)) (p3_m : (Option Addr)) (p4_c : (Int × Int × Int × Slc × Int × Int × Int)) (Qf : Bool → World → Prop) (w : World) (hm : law06_told (cvOf Try.prog) p0_r p1_b p2_q p3_m p4_c Qf w) : Calls Try.prog 62 #[(.pointer p0_r), (.pointer p1_b), (.pointer p2_q), (.pointer p3_m), (.agg #[(.int .i64 p4_c.1), (.int .i64 p4_c.2.1), (.int .i64 p4_c.2.2.1), (.slice p4_c.2.2.2.1.base p4_c.2.2.2.1.len p4_c.2.2.2.1.cap), (.int .i64 p4_c.2.2.2.2.1), (.int .i64 p4_c.2.2.2.2.2.1), (.int .i64 p4_c.2.2.2.2.2.2)])] w (RetPost Value.bool Qf) := by
  refine calls_of (fn := Try.f62) (l := [(.pointer p0_r), (.pointer p1_b), (.pointer p2_q), (.pointer p3_m), (.agg #[(.int .i64 p4_c.1), (.int .i64 p4_c.2.1), (.int .i64 p4_c.2.2.1), (.slice p4_c.2.2.2.1.base p4_c.2.2.2.1.len p4_c.2.2.2.1.cap), (.int .i64 p4_c.2.2.2.2.1), (.int .i64 p4_c.2.2.2.2.2.1), (.int .i64 p4_c.2.2.2.2.2.2)])]) (m := law06_told (cvOf Try.prog) p0_r p1_b p2_q p3_m p4_c) 181 (by kernel_rfl) rfl rfl rfl (fun Qf0 => ?_) Qf w hm
  clear hm w Qf
  unfold law06_told
  refine SC.seq ?_
  refine SC.region' ?_
  refine KT.nw 9 (fun ad => .pointer (some ad)) 104 (fun x9 => ?_)
  refine KT.pv 10 (.bool false) ?_
  refine KT.nil ?_
  refine SX.seq ?_
  refine SC.seq ?_
  refine SC.seq ?_
  refine SC.region' ?_
  refine KT.pv 15 (.pointer (some x9)) ?_
  refine KT.l 16 (fun x16 => ?_)
  refine KT.nil ?_
  refine SX.seq ?_
  refine SC.join (β := Unit) (fun b1 => [(1, (.pointer p1_b)), (2, (.pointer p2_q)), (3, (.pointer p3_m))]) (fun b1 => ?_) (fun j1 => ?_)
  refine SX.seq ?_
  refine SC.seq ?_
  refine SC.draw 36 (fun _ => false) rfl (by kernel_rfl) (fun S2 => ?_)
  refine KT.pvA 0 146 (.pointer p1_b) ?_
  refine KT.pvA 2 148 (.pointer p3_m) ?_
  refine KT.one 1 rfl (by kernel_rfl) rfl (OW.step (OW.call (d := 147) (enc := vS) 33 #[(.pointer p1_b)] rfl (fun _ => by kernel_rfl) (fun Qf w => bank_Bank_Bad_sim p1_b Qf w) rfl rfl (fun x147 => ?_)))
  refine KT.and ?_
  refine KT.one 3 rfl (by kernel_rfl) rfl (OW.step (OW.call (d := 149) (enc := vS) 108 #[(.pointer p3_m)] rfl (fun _ => by kernel_rfl) (fun Qf w => ref06_Bank_Bad_sim p3_m Qf w) rfl rfl (fun x149 => ?_)))
  refine KT.and ?_
  refine KT.one 4 rfl (by kernel_rfl) rfl (OW.step (OW.call (d := 150) (enc := Value.bool) 107 #[(.slice x147.base x147.len x147.cap), (.slice x149.base x149.len x149.cap)] rfl (fun _ => by kernel_rfl) (fun Qf w => ref00_SameInts_sim x147 x149 Qf w) rfl rfl (fun x150 => ?_)))
  refine KT.and ?_
  refine KT.pvA 5 151 (.bool x150) ?_
  refine KT.ite (b := x150) 151 rfl ?_ ?_
  refine KT.pvA 6 152 (.pointer p1_b) ?_
  refine KT.pvA 8 154 (.pointer p3_m) ?_
  refine KT.tp 9 (OY.nil (d := 155) (p := p3_m) _ rfl rfl rfl rfl (fun x155 => ?_))
  refine KT.pvA 10 156 (.pointer (some (Addr.add x155 4))) ?_
  refine KT.tk 11 (OY.ldAI (d := 157) (enc := (fun y : (Int × Int × Int) => [(.int .i64 y.1), (.int .i64 y.2.1), (.int .i64 y.2.2)])) 3 _ _ rfl rfl (by kernel_rfl) (by kernel_rfl) (fun _ => rfl) rfl rfl (fun x157 => ?_))
  refine KT.one 7 rfl (by kernel_rfl) rfl (OW.step (OW.call (d := 153) (enc := (fun y : (Int × Int × Int) => (.agg #[(.int .i64 y.1), (.int .i64 y.2.1), (.int .i64 y.2.2)]))) 109 #[(.pointer p1_b)] rfl (fun _ => by kernel_rfl) (fun Qf w => bank_Bank_Member_sim p1_b Qf w) rfl rfl (fun x153 => ?_)))
  refine KT.and ?_
  refine KT.tp 12 (OY.eqlAgg3 (d := 158) (x := (x153.1, x153.2.1, x153.2.2)) (y := (x157.1, x157.2.1, x157.2.2)) _ _ _ _ _ _ _ rfl rfl rfl rfl (by kernel_rfl) rfl rfl ?_)
  refine KT.pvA 13 159 (.bool (eq3 (x153.1, x153.2.1, x153.2.2) (x157.1, x157.2.1, x157.2.2))) ?_
  refine KT.pvA 14 160 (.bool (eq3 (x153.1, x153.2.1, x153.2.2) (x157.1, x157.2.1, x157.2.2))) ?_
  refine KT.ite (b := eq3 (x153.1, x153.2.1, x153.2.2) (x157.1, x157.2.1, x157.2.2)) 160 rfl ?_ ?_
  refine KT.pvA 15 161 (.pointer p1_b) ?_
  refine KT.pvA 17 163 (.pointer p2_q) ?_
  refine KT.tp 18 (OY.nil (d := 164) (p := p2_q) _ rfl rfl rfl rfl (fun x164 => ?_))
  refine KT.pvA 19 165 (.pointer (some (Addr.add x164 7))) ?_
  refine KT.tk 20 (OY.ldI (d := 166) _ _ rfl rfl (by kernel_rfl) rfl rfl (fun x166 => ?_))
  refine KT.one 16 rfl (by kernel_rfl) rfl (OW.step (OW.call (d := 162) (enc := Value.bool) 84 #[(.pointer p1_b)] rfl (fun _ => by kernel_rfl) (fun Qf w => bank_Bank_Off_sim p1_b Qf w) rfl rfl (fun x162 => ?_)))
  refine KT.and ?_
  refine KT.pvA 21 167 (.bool (x162 == x166)) ?_
  refine KT.pvA 22 168 (.bool (x162 == x166)) ?_
  refine KT.pvA 23 169 (.bool (x162 == x166)) ?_
  refine KT.ite (b := x162 == x166) 169 rfl ?_ ?_
  refine KT.pvA 24 170 (.pointer p1_b) ?_
  refine KT.pvA 26 172 (.pointer p2_q) ?_
  refine KT.pvA 27 173 (.pointer p3_m) ?_
  refine KT.tp 28 (OY.nil (d := 174) (p := p3_m) _ rfl rfl rfl rfl (fun x174 => ?_))
  refine KT.pvA 29 175 (.pointer (some (Addr.add x174 1))) ?_
  refine KT.pvA 30 176 (.pointer (some (Addr.add x174 1))) ?_
  refine KT.tk 31 (OY.ldI (d := 177) _ _ rfl rfl (by kernel_rfl) rfl rfl (fun x177 => ?_))
  refine KT.one 25 rfl (by kernel_rfl) rfl (OW.step (OW.call (d := 171) (enc := Value.bool) 37 #[(.pointer p1_b)] rfl (fun _ => by kernel_rfl) (fun Qf w => bank_Bank_SpareFailed_sim p1_b Qf w) rfl rfl (fun x171 => ?_)))
  refine KT.and ?_
  refine KT.one 32 rfl (by kernel_rfl) rfl (OW.step (OW.call (d := 178) (enc := Value.bool) 58 #[(.pointer p2_q), (.int .i64 x177)] rfl (fun _ => by kernel_rfl) (fun Qf w => ref02_Rack_Failed_sim p2_q x177 Qf w) rfl rfl (fun x178 => ?_)))
  refine KT.and ?_
  refine KT.pvA 33 179 (.bool (x171 == x178)) ?_
  refine KT.pvA 34 180 (.bool (x171 == x178)) ?_
  refine KT.pvA 35 10 (.bool (x171 == x178)) ?_
  refine KT.doneA (by kernel_rfl) ?_
  refine SX.sub (T' := [(10, (.bool (x171 == x178)))]) (.cons rfl (.nil)) ?_
  refine SX.seq ?_
  refine SC.ret ?_
  refine SX.ret [.tmp 10] rfl ?_
  refine RS.tmp (.bool (x171 == x178)) rfl ?_
  exact RS.nil rfl
  refine KT.skA 24 ?_
  refine KT.skA 25 ?_
  refine KT.skA 26 ?_
  refine KT.skA 27 ?_
  refine KT.skA 28 ?_
  refine KT.skA 29 ?_
  refine KT.skA 30 ?_
  refine KT.skA 31 ?_
  refine KT.skA 32 ?_
  refine KT.skA 33 ?_
  refine KT.pvA 34 180 (.bool false) ?_
  refine KT.pvA 35 10 (.bool false) ?_
  refine KT.doneA (by kernel_rfl) ?_
  refine SX.sub (T' := [(10, (.bool false))]) (.cons rfl (.nil)) ?_
  refine SX.seq ?_
  refine SC.ret ?_
  refine SX.ret [.tmp 10] rfl ?_
  refine RS.tmp (.bool false) rfl ?_
  exact RS.nil rfl
  refine KT.skA 15 ?_
  refine KT.skA 16 ?_
  refine KT.skA 17 ?_
  refine KT.skA 18 ?_
  refine KT.skA 19 ?_
  refine KT.skA 20 ?_
  refine KT.skA 21 ?_
  refine KT.pvA 22 168 (.bool false) ?_
  refine KT.pvA 23 169 (.bool false) ?_
  refine KT.skA 24 ?_
  refine KT.skA 25 ?_
  refine KT.skA 26 ?_
  refine KT.skA 27 ?_
  refine KT.skA 28 ?_
  refine KT.skA 29 ?_
  refine KT.skA 30 ?_
  refine KT.skA 31 ?_
  refine KT.skA 32 ?_
  refine KT.skA 33 ?_
  refine KT.pvA 34 180 (.bool false) ?_
  refine KT.pvA 35 10 (.bool false) ?_
  refine KT.doneA (by kernel_rfl) ?_
  refine SX.sub (T' := [(10, (.bool false))]) (.cons rfl (.nil)) ?_
  refine SX.seq ?_
  refine SC.ret ?_
  refine SX.ret [.tmp 10] rfl ?_
  refine RS.tmp (.bool false) rfl ?_
  exact RS.nil rfl
  refine KT.skA 6 ?_
  refine KT.skA 7 ?_
  refine KT.skA 8 ?_
  refine KT.skA 9 ?_
  refine KT.skA 10 ?_
  refine KT.skA 11 ?_
  refine KT.skA 12 ?_
  refine KT.pvA 13 159 (.bool false) ?_
  refine KT.pvA 14 160 (.bool false) ?_
  refine KT.skA 15 ?_
  refine KT.skA 16 ?_
  refine KT.skA 17 ?_
  refine KT.skA 18 ?_
  refine KT.skA 19 ?_
  refine KT.skA 20 ?_
  refine KT.skA 21 ?_
  refine KT.pvA 22 168 (.bool false) ?_
  refine KT.pvA 23 169 (.bool false) ?_
  refine KT.skA 24 ?_
  refine KT.skA 25 ?_
  refine KT.skA 26 ?_
  refine KT.skA 27 ?_
  refine KT.skA 28 ?_
  refine KT.skA 29 ?_
  refine KT.skA 30 ?_
  refine KT.skA 31 ?_
  refine KT.skA 32 ?_
  refine KT.skA 33 ?_
  refine KT.pvA 34 180 (.bool false) ?_
  refine KT.pvA 35 10 (.bool false) ?_
  refine KT.doneA (by kernel_rfl) ?_
  refine SX.sub (T' := [(10, (.bool false))]) (.cons rfl (.nil)) ?_
  refine SX.seq ?_
  refine SC.ret ?_
  refine SX.ret [.tmp 10] rfl ?_
  refine RS.tmp (.bool false) rfl ?_
  exact RS.nil rfl
  refine SC.block ?_
  refine SC.seq ?_
  refine SC.region' ?_
  refine KT.pv 18 (.bool (x16 == 0)) ?_
  refine KT.pv 17 (.bool (x16 == 0)) ?_
  refine KT.nil ?_
  refine SX.seq ?_
  refine SC.cond (b := x16 == 0) rfl ?_ ?_
  refine SC.seq ?_
  refine SC.region' ?_
  refine KT.pv 20 (.pointer p1_b) ?_
  refine KT.pv 21 (.pointer (some (Addr.add x9 1))) ?_
  refine KT.l 22 (fun x22 => ?_)
  refine KT.pv 23 (.pointer (some (Addr.add x9 2))) ?_
  refine KT.l 24 (fun x24 => ?_)
  refine KT.cl (fun y : (Slc × Int) => (.tuple #[(.slice y.1.base y.1.len y.1.cap), (.int .i64 y.2)])) 25 36 #[(.pointer p1_b), (.int .i64 x22), (.int .i64 x24)] (bank_Bank_Read_sim p1_b x22 x24) (fun x25 => ?_)
  refine KT.pv 19 (.tuple #[(.slice x25.1.base x25.1.len x25.1.cap), (.int .i64 x25.2)]) ?_
  refine KT.pv 26 (.slice x25.1.base x25.1.len x25.1.cap) ?_
  refine KT.pv 27 (.int .i64 x25.2) ?_
  refine KT.pv 11 (.slice x25.1.base x25.1.len x25.1.cap) ?_
  refine KT.pv 12 (.int .i64 x25.2) ?_
  refine KT.nil ?_
  refine SX.seq ?_
  refine SC.seq ?_
  refine SC.region' ?_
  refine KT.pv 29 (.pointer p3_m) ?_
  refine KT.pv 30 (.pointer (some (Addr.add x9 1))) ?_
  refine KT.l 31 (fun x31 => ?_)
  refine KT.pv 32 (.pointer (some (Addr.add x9 2))) ?_
  refine KT.l 33 (fun x33 => ?_)
  refine KT.cl (fun y : (Slc × Int) => (.tuple #[(.slice y.1.base y.1.len y.1.cap), (.int .i64 y.2)])) 34 100 #[(.pointer p3_m), (.int .i64 x31), (.int .i64 x33)] (ref06_Bank_Read_sim p3_m x31 x33) (fun x34 => ?_)
  refine KT.pv 28 (.tuple #[(.slice x34.1.base x34.1.len x34.1.cap), (.int .i64 x34.2)]) ?_
  refine KT.pv 35 (.slice x34.1.base x34.1.len x34.1.cap) ?_
  refine KT.pv 36 (.int .i64 x34.2) ?_
  refine KT.pv 13 (.slice x34.1.base x34.1.len x34.1.cap) ?_
  refine KT.pv 14 (.int .i64 x34.2) ?_
  refine KT.nil ?_
  refine SX.sub (T' := [(11, (.slice x25.1.base x25.1.len x25.1.cap)), (12, (.int .i64 x25.2)), (13, (.slice x34.1.base x34.1.len x34.1.cap)), (14, (.int .i64 x34.2))]) (.cons rfl (.cons rfl (.cons rfl (.cons rfl (.nil))))) ?_
  refine SX.seq ?_
  refine SC.seq ?_
  refine SC.region' ?_
  refine KT.pv 37 (.slice x25.1.base x25.1.len x25.1.cap) ?_
  refine KT.pv 38 (.slice x34.1.base x34.1.len x34.1.cap) ?_
  refine KT.cl Value.bool 39 30 #[(.slice x25.1.base x25.1.len x25.1.cap), (.slice x34.1.base x34.1.len x34.1.cap)] (ref00_SameBytes_sim x25.1 x34.1) (fun x39 => ?_)
  refine KT.pv 40 (.bool x39) ?_
  refine KT.joinO (β := Bool) 4 (fun r3 => [(44, (.bool r3))]) (fun r3 => ?_) (fun j3 => ?_)
  refine KT.pv 10 (.bool r3) ?_
  refine KT.nil ?_
  refine SX.seq ?_
  refine SC.ret ?_
  refine SX.block_ret ?_
  refine SX.rightM ?_
  refine SX.then_ret ?_
  refine SX.ret [.tmp 10] rfl ?_
  refine RS.tmp (.bool r3) rfl ?_
  exact RS.nil rfl
  refine KT.ite (b := x39) 40 rfl ?_ ?_
  refine KT.pv 41 (.int .i64 x25.2) ?_
  refine KT.pv 42 (.int .i64 x34.2) ?_
  refine KT.pv 43 (.bool (x25.2 == x34.2)) ?_
  refine KT.pv 44 (.bool (x25.2 == x34.2)) ?_
  exact KT.leafO j3 (.cons rfl (.nil))
  refine KT.sk ?_
  refine KT.sk ?_
  refine KT.sk ?_
  refine KT.pv 44 (.bool false) ?_
  exact KT.leafO j3 (.cons rfl (.nil))
  refine SC.seq ?_
  refine SC.region' ?_
  refine KT.pv 46 (.bool (x16 == 1)) ?_
  refine KT.pv 45 (.bool (x16 == 1)) ?_
  refine KT.nil ?_
  refine SX.seq ?_
  refine SC.cond (b := x16 == 1) rfl ?_ ?_
  refine SC.seq ?_
  refine SC.draw 19 (fun _ => false) rfl (by kernel_rfl) (fun S4 => ?_)
  refine KT.pvA 0 47 (.pointer p1_b) ?_
  refine KT.pvA 1 48 (.pointer (some (Addr.add x9 1))) ?_
  refine KT.tk 2 (OY.ldI (d := 49) _ _ rfl rfl (by kernel_rfl) rfl rfl (fun x49 => ?_))
  refine KT.pvA 3 50 (.pointer (some (Addr.add x9 2))) ?_
  refine KT.tk 4 (OY.ldI (d := 51) _ _ rfl rfl (by kernel_rfl) rfl rfl (fun x51 => ?_))
  refine KT.pvA 5 52 (.pointer (some (Addr.add x9 3))) ?_
  refine KT.tk 6 (OY.ldI (d := 53) _ _ rfl rfl (by kernel_rfl) rfl rfl (fun x53 => ?_))
  refine KT.pvA 9 56 (.pointer p3_m) ?_
  refine KT.pvA 10 57 (.pointer (some (Addr.add x9 1))) ?_
  refine KT.tk 11 (OY.ldI (d := 58) _ _ rfl rfl (by kernel_rfl) rfl rfl (fun x58 => ?_))
  refine KT.pvA 12 59 (.pointer (some (Addr.add x9 2))) ?_
  refine KT.tk 13 (OY.ldI (d := 60) _ _ rfl rfl (by kernel_rfl) rfl rfl (fun x60 => ?_))
  refine KT.pvA 14 61 (.pointer (some (Addr.add x9 3))) ?_
  refine KT.tk 15 (OY.ldI (d := 62) _ _ rfl rfl (by kernel_rfl) rfl rfl (fun x62 => ?_))
  refine KT.one 7 rfl (by kernel_rfl) rfl (OW.step (OW.call (d := 54) (enc := vS) 89 #[(.slice x53.base x53.len x53.cap)] rfl (fun _ => by kernel_rfl) (fun Qf w => ref00_CopyBytes_sim x53 Qf w) rfl rfl (fun x54 => ?_)))
  refine KT.and ?_
  refine KT.one 8 rfl (by kernel_rfl) rfl (OW.step (OW.call (d := 55) (enc := (Value.int .i64)) 32 #[(.pointer p1_b), (.int .i64 x49), (.int .i64 x51), (.slice x54.base x54.len x54.cap)] rfl (fun _ => by kernel_rfl) (fun Qf w => bank_Bank_Write_sim p1_b x49 x51 x54 Qf w) rfl rfl (fun x55 => ?_)))
  refine KT.and ?_
  refine KT.one 16 rfl (by kernel_rfl) rfl (OW.step (OW.call (d := 63) (enc := (Value.int .i64)) 101 #[(.pointer p3_m), (.int .i64 x58), (.int .i64 x60), (.slice x62.base x62.len x62.cap)] rfl (fun _ => by kernel_rfl) (fun Qf w => ref06_Bank_Write_sim p3_m x58 x60 x62 Qf w) rfl rfl (fun x63 => ?_)))
  refine KT.and ?_
  refine KT.pvA 17 64 (.bool (x55 == x63)) ?_
  refine KT.pvA 18 10 (.bool (x55 == x63)) ?_
  refine KT.doneA (by kernel_rfl) ?_
  refine SX.sub (T' := [(10, (.bool (x55 == x63)))]) (.cons rfl (.nil)) ?_
  refine SX.seq ?_
  refine SC.ret ?_
  refine SX.block_ret ?_
  refine SX.rightM ?_
  refine SX.then_ret ?_
  refine SX.ret [.tmp 10] rfl ?_
  refine RS.tmp (.bool (x55 == x63)) rfl ?_
  exact RS.nil rfl
  refine SC.seq ?_
  refine SC.region' ?_
  refine KT.pv 66 (.bool (x16 == 2)) ?_
  refine KT.pv 65 (.bool (x16 == 2)) ?_
  refine KT.nil ?_
  refine SX.seq ?_
  refine SC.cond (b := x16 == 2) rfl ?_ ?_
  refine SC.seq ?_
  refine SC.region' ?_
  refine KT.pv 67 (.pointer p1_b) ?_
  refine KT.cl (Value.int .i64) 68 35 #[(.pointer p1_b)] (bank_Bank_Flush_sim p1_b) (fun x68 => ?_)
  refine KT.pv 69 (.pointer p3_m) ?_
  refine KT.cl (Value.int .i64) 70 102 #[(.pointer p3_m)] (ref06_Bank_Flush_sim p3_m) (fun x70 => ?_)
  refine KT.pv 71 (.bool (x68 == x70)) ?_
  refine KT.pv 10 (.bool (x68 == x70)) ?_
  refine KT.nil ?_
  refine SX.seq ?_
  refine SC.ret ?_
  refine SX.block_ret ?_
  refine SX.rightM ?_
  refine SX.then_ret ?_
  refine SX.ret [.tmp 10] rfl ?_
  refine RS.tmp (.bool (x68 == x70)) rfl ?_
  exact RS.nil rfl
  refine SC.seq ?_
  refine SC.region' ?_
  refine KT.pv 73 (.bool (x16 == 4)) ?_
  refine KT.pv 72 (.bool (x16 == 4)) ?_
  refine KT.nil ?_
  refine SX.seq ?_
  refine SC.cond (b := x16 == 4) rfl ?_ ?_
  refine SC.seq ?_
  refine SC.draw 15 (fun _ => false) rfl (by kernel_rfl) (fun S5 => ?_)
  refine KT.pvA 0 74 (.pointer p1_b) ?_
  refine KT.pvA 1 75 (.pointer (some (Addr.add x9 2))) ?_
  refine KT.tk 2 (OY.ldI (d := 76) _ _ rfl rfl (by kernel_rfl) rfl rfl (fun x76 => ?_))
  refine KT.pvA 3 77 (.pointer (some (Addr.add x9 3))) ?_
  refine KT.tk 4 (OY.ldI (d := 78) _ _ rfl rfl (by kernel_rfl) rfl rfl (fun x78 => ?_))
  refine KT.pvA 7 81 (.pointer p3_m) ?_
  refine KT.pvA 8 82 (.pointer (some (Addr.add x9 2))) ?_
  refine KT.tk 9 (OY.ldI (d := 83) _ _ rfl rfl (by kernel_rfl) rfl rfl (fun x83 => ?_))
  refine KT.pvA 10 84 (.pointer (some (Addr.add x9 3))) ?_
  refine KT.tk 11 (OY.ldI (d := 85) _ _ rfl rfl (by kernel_rfl) rfl rfl (fun x85 => ?_))
  refine KT.one 5 rfl (by kernel_rfl) rfl (OW.step (OW.call (d := 79) (enc := vS) 89 #[(.slice x78.base x78.len x78.cap)] rfl (fun _ => by kernel_rfl) (fun Qf w => ref00_CopyBytes_sim x78 Qf w) rfl rfl (fun x79 => ?_)))
  refine KT.and ?_
  refine KT.one 6 rfl (by kernel_rfl) rfl (OW.step (OW.call (d := 80) (enc := (Value.int .i64)) 27 #[(.pointer p1_b), (.int .i64 x76), (.slice x79.base x79.len x79.cap)] rfl (fun _ => by kernel_rfl) (fun Qf w => bank_Bank_Everywhere_sim p1_b x76 x79 Qf w) rfl rfl (fun x80 => ?_)))
  refine KT.and ?_
  refine KT.one 12 rfl (by kernel_rfl) rfl (OW.step (OW.call (d := 86) (enc := (Value.int .i64)) 103 #[(.pointer p3_m), (.int .i64 x83), (.slice x85.base x85.len x85.cap)] rfl (fun _ => by kernel_rfl) (fun Qf w => ref06_Bank_Everywhere_sim p3_m x83 x85 Qf w) rfl rfl (fun x86 => ?_)))
  refine KT.and ?_
  refine KT.pvA 13 87 (.bool (x80 == x86)) ?_
  refine KT.pvA 14 10 (.bool (x80 == x86)) ?_
  refine KT.doneA (by kernel_rfl) ?_
  refine SX.sub (T' := [(10, (.bool (x80 == x86)))]) (.cons rfl (.nil)) ?_
  refine SX.seq ?_
  refine SC.ret ?_
  refine SX.block_ret ?_
  refine SX.rightM ?_
  refine SX.then_ret ?_
  refine SX.ret [.tmp 10] rfl ?_
  refine RS.tmp (.bool (x80 == x86)) rfl ?_
  exact RS.nil rfl
  refine SC.seq ?_
  refine SC.region' ?_
  refine KT.pv 89 (.bool (x16 == 5)) ?_
  refine KT.pv 88 (.bool (x16 == 5)) ?_
  refine KT.nil ?_
  refine SX.seq ?_
  refine SC.cond (b := x16 == 5) rfl ?_ ?_
  refine SC.seq ?_
  refine SC.draw 10 (fun _ => false) rfl (by kernel_rfl) (fun S6 => ?_)
  refine KT.pvA 0 90 (.pointer p1_b) ?_
  refine KT.pvA 1 91 (.pointer (some (Addr.add x9 2))) ?_
  refine KT.tk 2 (OY.ldI (d := 92) _ _ rfl rfl (by kernel_rfl) rfl rfl (fun x92 => ?_))
  refine KT.pvA 4 94 (.pointer p3_m) ?_
  refine KT.pvA 5 95 (.pointer (some (Addr.add x9 2))) ?_
  refine KT.tk 6 (OY.ldI (d := 96) _ _ rfl rfl (by kernel_rfl) rfl rfl (fun x96 => ?_))
  refine KT.one 3 rfl (by kernel_rfl) rfl (OW.step (OW.call (d := 93) (enc := vS) 28 #[(.pointer p1_b), (.int .i64 x92)] rfl (fun _ => by kernel_rfl) (fun Qf w => bank_Bank_All_sim p1_b x92 Qf w) rfl rfl (fun x93 => ?_)))
  refine KT.and ?_
  refine KT.one 7 rfl (by kernel_rfl) rfl (OW.step (OW.call (d := 97) (enc := vS) 105 #[(.pointer p3_m), (.int .i64 x96)] rfl (fun _ => by kernel_rfl) (fun Qf w => ref06_Bank_All_sim p3_m x96 Qf w) rfl rfl (fun x97 => ?_)))
  refine KT.and ?_
  refine KT.one 8 rfl (by kernel_rfl) rfl (OW.step (OW.call (d := 98) (enc := Value.bool) 104 #[(.slice x93.base x93.len x93.cap), (.slice x97.base x97.len x97.cap)] rfl (fun _ => by kernel_rfl) (fun Qf w => ref00_SameRows_sim x93 x97 Qf w) rfl rfl (fun x98 => ?_)))
  refine KT.and ?_
  refine KT.pvA 9 10 (.bool x98) ?_
  refine KT.doneA (by kernel_rfl) ?_
  refine SX.seq ?_
  refine SC.ret ?_
  refine SX.block_ret ?_
  refine SX.rightM ?_
  refine SX.then_ret ?_
  refine SX.ret [.tmp 10] rfl ?_
  refine RS.tmp (.bool x98) rfl ?_
  exact RS.nil rfl
  refine SC.seq ?_
  refine SC.region' ?_
  refine KT.pv 100 (.bool (x16 == 6)) ?_
  refine KT.pv 99 (.bool (x16 == 6)) ?_
  refine KT.nil ?_
  refine SX.seq ?_
  refine SC.cond (b := x16 == 6) rfl ?_ ?_
  refine SC.seq ?_
  refine SC.region' ?_
  refine KT.pv 101 (.pointer p1_b) ?_
  refine KT.pv 102 (.pointer (some (Addr.add x9 4))) ?_
  refine KT.ow rfl (OW.ldA (d := 103) (enc := (fun y : (Int × Int × Int) => [(.int .i64 y.1), (.int .i64 y.2.1), (.int .i64 y.2.2)])) 3 _ _ rfl rfl (by kernel_rfl) (by kernel_rfl) (fun _ => rfl) rfl rfl (fun x103 => ?_))
  refine KT.cl (fun y : Unit => (.tuple #[])) 104 31 #[(.pointer p1_b), (.agg #[(.int .i64 x103.1), (.int .i64 x103.2.1), (.int .i64 x103.2.2)])] (bank_Bank_Join_sim p1_b (x103.1, x103.2.1, x103.2.2)) (fun x104 => ?_)
  refine KT.nil ?_
  refine SX.seq ?_
  refine SC.region' ?_
  refine KT.pv 105 (.pointer p3_m) ?_
  refine KT.pv 106 (.pointer (some (Addr.add x9 4))) ?_
  refine KT.ow rfl (OW.ldA (d := 107) (enc := (fun y : (Int × Int × Int) => [(.int .i64 y.1), (.int .i64 y.2.1), (.int .i64 y.2.2)])) 3 _ _ rfl rfl (by kernel_rfl) (by kernel_rfl) (fun _ => rfl) rfl rfl (fun x107 => ?_))
  refine KT.cl (fun y : Unit => (.tuple #[])) 108 106 #[(.pointer p3_m), (.agg #[(.int .i64 x107.1), (.int .i64 x107.2.1), (.int .i64 x107.2.2)])] (ref06_Bank_Join_sim p3_m (x107.1, x107.2.1, x107.2.2)) (fun x108 => ?_)
  refine KT.nil ?_
  refine SX.block ?_
  exact SX.leafS j1 (.cons rfl (.cons rfl (.cons rfl (.nil))))
  refine SC.seq ?_
  refine SC.region' ?_
  refine KT.pv 110 (.bool (x16 == 7)) ?_
  refine KT.pv 109 (.bool (x16 == 7)) ?_
  refine KT.nil ?_
  refine SX.seq ?_
  refine SC.cond (b := x16 == 7) rfl ?_ ?_
  refine SC.seq ?_
  refine SC.region' ?_
  refine KT.pv 111 (.pointer p0_r) ?_
  refine KT.pv 112 (.pointer (some (Addr.add x9 2))) ?_
  refine KT.l 113 (fun x113 => ?_)
  refine KT.cl (fun y : Unit => (.tuple #[])) 114 43 #[(.pointer p0_r), (.int .i64 x113)] (device_Rack_Arm_sim p0_r x113) (fun x114 => ?_)
  refine KT.nil ?_
  refine SX.seq ?_
  refine SC.region' ?_
  refine KT.pv 115 (.pointer p2_q) ?_
  refine KT.pv 116 (.pointer (some (Addr.add x9 2))) ?_
  refine KT.l 117 (fun x117 => ?_)
  refine KT.cl (fun y : Unit => (.tuple #[])) 118 92 #[(.pointer p2_q), (.int .i64 x117)] (ref02_Rack_Arm_sim p2_q x117) (fun x118 => ?_)
  refine KT.nil ?_
  refine SX.sub (T' := [(1, (.pointer p1_b)), (2, (.pointer p2_q)), (3, (.pointer p3_m))]) (.cons rfl (.cons rfl (.cons rfl (.nil)))) ?_
  refine SX.block ?_
  exact SX.leafS j1 (.cons rfl (.cons rfl (.cons rfl (.nil))))
  refine SC.seq ?_
  refine SC.region' ?_
  refine KT.pv 120 (.bool (x16 == 8)) ?_
  refine KT.pv 119 (.bool (x16 == 8)) ?_
  refine KT.nil ?_
  refine SX.seq ?_
  refine SC.cond (b := x16 == 8) rfl ?_ ?_
  refine SC.seq ?_
  refine SC.draw 14 (fun _ => false) rfl (by kernel_rfl) (fun S7 => ?_)
  refine KT.pvA 0 121 (.pointer p0_r) ?_
  refine KT.pvA 1 122 (.pointer (some (Addr.add x9 1))) ?_
  refine KT.tk 2 (OY.ldI (d := 123) _ _ rfl rfl (by kernel_rfl) rfl rfl (fun x123 => ?_))
  refine KT.pvA 3 124 (.pointer (some (Addr.add x9 2))) ?_
  refine KT.tk 4 (OY.ldI (d := 125) _ _ rfl rfl (by kernel_rfl) rfl rfl (fun x125 => ?_))
  refine KT.pvA 6 127 (.pointer p2_q) ?_
  refine KT.pvA 7 128 (.pointer (some (Addr.add x9 1))) ?_
  refine KT.tk 8 (OY.ldI (d := 129) _ _ rfl rfl (by kernel_rfl) rfl rfl (fun x129 => ?_))
  refine KT.pvA 9 130 (.pointer (some (Addr.add x9 2))) ?_
  refine KT.tk 10 (OY.ldI (d := 131) _ _ rfl rfl (by kernel_rfl) rfl rfl (fun x131 => ?_))
  refine KT.one 5 rfl (by kernel_rfl) rfl (OW.step (OW.call (d := 126) (enc := (Value.int .i64)) 34 #[(.pointer p0_r), (.int .i64 x123), (.int .i64 x125)] rfl (fun _ => by kernel_rfl) (fun Qf w => device_Rack_Doom_sim p0_r x123 x125 Qf w) rfl rfl (fun x126 => ?_)))
  refine KT.and ?_
  refine KT.one 11 rfl (by kernel_rfl) rfl (OW.step (OW.call (d := 132) (enc := (Value.int .i64)) 93 #[(.pointer p2_q), (.int .i64 x129), (.int .i64 x131)] rfl (fun _ => by kernel_rfl) (fun Qf w => ref02_Rack_Doom_sim p2_q x129 x131 Qf w) rfl rfl (fun x132 => ?_)))
  refine KT.and ?_
  refine KT.pvA 12 133 (.bool (x126 == x132)) ?_
  refine KT.pvA 13 10 (.bool (x126 == x132)) ?_
  refine KT.doneA (by kernel_rfl) ?_
  refine SX.sub (T' := [(10, (.bool (x126 == x132)))]) (.cons rfl (.nil)) ?_
  refine SX.seq ?_
  refine SC.ret ?_
  refine SX.block_ret ?_
  refine SX.rightM ?_
  refine SX.then_ret ?_
  refine SX.ret [.tmp 10] rfl ?_
  refine RS.tmp (.bool (x126 == x132)) rfl ?_
  exact RS.nil rfl
  refine SC.seq ?_
  refine SC.region' ?_
  refine KT.pv 135 (.bool (x16 == 9)) ?_
  refine KT.pv 134 (.bool (x16 == 9)) ?_
  refine KT.nil ?_
  refine SX.seq ?_
  refine SC.cond (b := x16 == 9) rfl ?_ ?_
  refine SC.seq ?_
  refine SC.region' ?_
  refine KT.pv 136 (.pointer p0_r) ?_
  refine KT.pv 137 (.pointer (some (Addr.add x9 2))) ?_
  refine KT.l 138 (fun x138 => ?_)
  refine KT.nw 139 (fun ad => .slice (some ad) 1 1) 3 (fun x139 => ?_)
  refine KT.cl (fun y : Unit => (.tuple #[])) 140 40 #[(.pointer p0_r), (.slice (some x139) 1 1)] (device_Rack_Restore_sim p0_r (⟨some x139, 1, 1⟩)) (fun x140 => ?_)
  refine KT.nil ?_
  refine SX.sub (T' := [(1, (.pointer p1_b)), (2, (.pointer p2_q)), (3, (.pointer p3_m)), (9, (.pointer (some x9)))]) (.cons rfl (.cons rfl (.cons rfl (.cons rfl (.nil))))) ?_
  refine SX.seq ?_
  refine SC.region' ?_
  refine KT.pv 141 (.pointer p2_q) ?_
  refine KT.pv 142 (.pointer (some (Addr.add x9 2))) ?_
  refine KT.l 143 (fun x143 => ?_)
  refine KT.nw 144 (fun ad => .slice (some ad) 1 1) 3 (fun x144 => ?_)
  refine KT.cl (fun y : Unit => (.tuple #[])) 145 95 #[(.pointer p2_q), (.slice (some x144) 1 1)] (ref02_Rack_Restore_sim p2_q (⟨some x144, 1, 1⟩)) (fun x145 => ?_)
  refine KT.nil ?_
  refine SX.block ?_
  exact SX.leafS j1 (.cons rfl (.cons rfl (.cons rfl (.nil))))
  refine SC.skip ?_
  refine SX.block ?_
  exact SX.leafS j1 (.cons rfl (.cons rfl (.cons rfl (.nil))))
set_option maxRecDepth 100000 in
theorem law06_BankCalls_sim (p0_m : (Int × Int × Int)) (p1_calls : Slc) (Qf : Bool → World → Prop) (w : World) (hm : law06_BankCalls (cvOf Try.prog) p0_m p1_calls Qf w) : Calls Try.prog 18 #[(.agg #[(.int .i64 p0_m.1), (.int .i64 p0_m.2.1), (.int .i64 p0_m.2.2)]), (.slice p1_calls.base p1_calls.len p1_calls.cap)] w (RetPost Value.bool Qf) := by
  refine calls_of (fn := Try.f18) (l := [(.agg #[(.int .i64 p0_m.1), (.int .i64 p0_m.2.1), (.int .i64 p0_m.2.2)]), (.slice p1_calls.base p1_calls.len p1_calls.cap)]) (m := law06_BankCalls (cvOf Try.prog) p0_m p1_calls) 104 (by kernel_rfl) rfl rfl rfl (fun Qf0 => ?_) Qf w hm
  clear hm w Qf
  unfold law06_BankCalls
  refine SC.seq ?_
  refine SC.region' ?_
  refine KT.nw 2 (fun ad => .pointer (some ad)) 25 (fun x2 => ?_)
  refine KT.pv 4 (.bool false) ?_
  refine KT.nil ?_
  refine SX.seq ?_
  refine SC.seq ?_
  refine SC.seq ?_
  refine SC.region' ?_
  refine KT.cl Value.bool 16 20 #[] (law06_alive_sim ) (fun x16 => ?_)
  refine KT.pv 17 (.bool (!x16)) ?_
  refine KT.nil ?_
  refine SX.seq ?_
  refine SC.cond (b := !x16) rfl ?_ ?_
  refine SC.seq ?_
  refine SC.region' ?_
  refine KT.pv 4 (.bool false) ?_
  refine KT.nil ?_
  refine SX.seq ?_
  refine SC.ret ?_
  refine SX.then_ret ?_
  refine SX.ret [.tmp 4] rfl ?_
  refine RS.tmp (.bool false) rfl ?_
  exact RS.nil rfl
  refine SC.skip ?_
  refine SX.seq ?_
  refine SC.seq ?_
  refine SC.seq ?_
  refine SC.region' ?_
  refine KT.pv 18 (.slice p1_calls.base p1_calls.len p1_calls.cap) ?_
  refine KT.pv 19 (.int .i64 ((p1_calls.len : Nat) : Int)) ?_
  refine KT.pv 20 (.bool (decide (((p1_calls.len : Nat) : Int) > 100))) ?_
  refine KT.nil ?_
  refine SX.seq ?_
  refine SC.cond (b := decide (((p1_calls.len : Nat) : Int) > 100)) rfl ?_ ?_
  refine SC.seq ?_
  refine SC.region' ?_
  refine KT.pv 4 (.bool true) ?_
  refine KT.nil ?_
  refine SX.seq ?_
  refine SC.ret ?_
  refine SX.then_ret ?_
  refine SX.ret [.tmp 4] rfl ?_
  refine RS.tmp (.bool true) rfl ?_
  exact RS.nil rfl
  refine SC.skip ?_
  refine SX.seq ?_
  refine SC.seq ?_
  refine SC.region' ?_
  refine KT.pv 5 (.int .i64 0) ?_
  refine KT.nil ?_
  refine SX.seq ?_
  refine SC.seq ?_
  refine SC.seq ?_
  refine SC.region' ?_
  refine KT.pv 6 (.int .i64 0) ?_
  refine KT.nil ?_
  refine SX.seq ?_
  refine SC.block ?_
  refine SC.loop (σ := (Int × Int)) (fun s1 => [(1, (.slice p1_calls.base p1_calls.len p1_calls.cap)), (2, (.pointer (some x2))), (5, (.int .i64 s1.1)), (6, (.int .i64 s1.2))]) (.cons rfl (.cons rfl (.cons rfl (.cons rfl (.nil))))) (fun _ _ _ s1 => ?_)
  refine SC.seq ?_
  refine SC.seq ?_
  refine SC.region' ?_
  refine KT.pv 21 (.int .i64 s1.2) ?_
  refine KT.pv 22 (.slice p1_calls.base p1_calls.len p1_calls.cap) ?_
  refine KT.pv 23 (.int .i64 ((p1_calls.len : Nat) : Int)) ?_
  refine KT.pv 24 (.bool (decide (s1.2 < ((p1_calls.len : Nat) : Int)))) ?_
  refine KT.nil ?_
  refine SX.seq ?_
  refine SC.cond (b := decide (s1.2 < ((p1_calls.len : Nat) : Int))) rfl ?_ ?_
  refine SC.skip ?_
  refine SX.seq ?_
  refine SC.seq ?_
  refine SC.block ?_
  refine SC.seq ?_
  refine SC.region' ?_
  refine KT.pv 27 (.int .i64 s1.1) ?_
  refine KT.pv 28 (.slice p1_calls.base p1_calls.len p1_calls.cap) ?_
  refine KT.pv 29 (.int .i64 s1.2) ?_
  refine KT.oy rfl (OY.idx (d := 30) (s := p1_calls) (i := s1.2) (size := 7) (elem := 104) _ _ _ rfl rfl rfl (by kernel_rfl) (by kernel_rfl) rfl rfl (fun x30 => ?_))
  refine KT.pv 31 (.pointer (some (Addr.add x30 3))) ?_
  refine KT.l 32 (fun x32 => ?_)
  refine KT.pv 33 (.int .i64 ((x32.len : Nat) : Int)) ?_
  refine KT.pv 34 (.int .i64 (w64 (s1.1 + ((x32.len : Nat) : Int)))) ?_
  refine KT.pv 5 (.int .i64 (w64 (s1.1 + ((x32.len : Nat) : Int)))) ?_
  refine KT.nil ?_
  refine SX.seq ?_
  refine SC.seq ?_
  refine SC.region' ?_
  refine KT.pv 35 (.int .i64 (w64 (s1.1 + ((x32.len : Nat) : Int)))) ?_
  refine KT.pv 36 (.bool (decide ((w64 (s1.1 + ((x32.len : Nat) : Int))) > 20000))) ?_
  refine KT.nil ?_
  refine SX.seq ?_
  refine SC.cond (b := decide ((w64 (s1.1 + ((x32.len : Nat) : Int))) > 20000)) rfl ?_ ?_
  refine SC.seq ?_
  refine SC.region' ?_
  refine KT.pv 4 (.bool true) ?_
  refine KT.nil ?_
  refine SX.seq ?_
  refine SC.ret ?_
  refine SX.block_ret ?_
  refine SX.then_ret ?_
  refine SX.loop_ret ?_
  refine SX.block_ret ?_
  refine SX.then_ret ?_
  refine SX.ret [.tmp 4] rfl ?_
  refine RS.tmp (.bool true) rfl ?_
  exact RS.nil rfl
  refine SC.skip ?_
  refine SX.block ?_
  refine SX.seq ?_
  refine SC.region' ?_
  refine KT.pv 25 (.int .i64 s1.2) ?_
  refine KT.pv 26 (.int .i64 (w64 (s1.2 + 1))) ?_
  refine KT.pv 6 (.int .i64 (w64 (s1.2 + 1))) ?_
  refine KT.nil ?_
  exact SX.loop_next (.cons rfl (.cons rfl (.cons rfl (.cons rfl (.nil)))))
  refine SC.exit ?_
  refine SX.then_exit ?_
  refine SX.loop_exit ?_
  refine SX.block_hit ?_
  refine SX.seq ?_
  refine SC.seq ?_
  refine SC.region' ?_
  refine KT.cl (fun y : (Int × Int × Int) => (.agg #[(.int .i64 y.1), (.int .i64 y.2.1), (.int .i64 y.2.2)])) 37 25 #[] (law06_Small_sim ) (fun x37 => ?_)
  refine KT.nw 7 (fun ad => .pointer (some ad)) 23 (fun x7 => ?_)
  refine KT.ow rfl (OW.stA _ _ _ rfl rfl rfl rfl rfl (by kernel_rfl) ?_)
  refine KT.nil ?_
  refine SX.seq ?_
  refine SC.seq ?_
  refine SC.region' ?_
  refine KT.ow rfl (OW.ldA (d := 39) (enc := (fun y : (Int × Int × Int) => [(.int .i64 y.1), (.int .i64 y.2.1), (.int .i64 y.2.2)])) 3 _ _ rfl rfl (by kernel_rfl) (by kernel_rfl) (fun _ => rfl) rfl rfl (fun x39 => ?_))
  refine KT.cl (Value.int .i64) 40 26 #[(.agg #[(.int .i64 x39.1), (.int .i64 x39.2.1), (.int .i64 x39.2.2)])] (geo_Sectors_sim (x39.1, x39.2.1, x39.2.2)) (fun x40 => ?_)
  refine KT.cl (fun y : ((Option Addr) × Int) => (.tuple #[(.pointer y.1), (.int .i64 y.2)])) 41 21 #[(.int .i64 4), (.int .i64 x40)] (device_New_sim 4 x40) (fun x41 => ?_)
  refine KT.pv 38 (.tuple #[(.pointer x41.1), (.int .i64 x41.2)]) ?_
  refine KT.pv 42 (.pointer x41.1) ?_
  refine KT.pv 43 (.int .i64 x41.2) ?_
  refine KT.pv 8 (.pointer x41.1) ?_
  refine KT.pv 9 (.int .i64 x41.2) ?_
  refine KT.nil ?_
  refine SX.seq ?_
  refine SC.seq ?_
  refine SC.region' ?_
  refine KT.ow rfl (OW.ldA (d := 45) (enc := (fun y : (Int × Int × Int) => [(.int .i64 y.1), (.int .i64 y.2.1), (.int .i64 y.2.2)])) 3 _ _ rfl rfl (by kernel_rfl) (by kernel_rfl) (fun _ => rfl) rfl rfl (fun x45 => ?_))
  refine KT.cl (Value.int .i64) 46 26 #[(.agg #[(.int .i64 x45.1), (.int .i64 x45.2.1), (.int .i64 x45.2.2)])] (geo_Sectors_sim (x45.1, x45.2.1, x45.2.2)) (fun x46 => ?_)
  refine KT.cl (fun y : ((Int × Int × Slc × Slc × Slc × Slc × Int × Bool) × Int) => (.tuple #[(.agg #[(.int .i64 y.1.1), (.int .i64 y.1.2.1), (.slice y.1.2.2.1.base y.1.2.2.1.len y.1.2.2.1.cap), (.slice y.1.2.2.2.1.base y.1.2.2.2.1.len y.1.2.2.2.1.cap), (.slice y.1.2.2.2.2.1.base y.1.2.2.2.2.1.len y.1.2.2.2.2.1.cap), (.slice y.1.2.2.2.2.2.1.base y.1.2.2.2.2.2.1.len y.1.2.2.2.2.2.1.cap), (.int .i64 y.1.2.2.2.2.2.2.1), (.bool y.1.2.2.2.2.2.2.2)]), (.int .i64 y.2)])) 47 22 #[(.int .i64 4), (.int .i64 x46)] (ref02_New_sim 4 x46) (fun x47 => ?_)
  refine KT.pv 44 (.tuple #[(.agg #[(.int .i64 x47.1.1), (.int .i64 x47.1.2.1), (.slice x47.1.2.2.1.base x47.1.2.2.1.len x47.1.2.2.1.cap), (.slice x47.1.2.2.2.1.base x47.1.2.2.2.1.len x47.1.2.2.2.1.cap), (.slice x47.1.2.2.2.2.1.base x47.1.2.2.2.2.1.len x47.1.2.2.2.2.1.cap), (.slice x47.1.2.2.2.2.2.1.base x47.1.2.2.2.2.2.1.len x47.1.2.2.2.2.2.1.cap), (.int .i64 x47.1.2.2.2.2.2.2.1), (.bool x47.1.2.2.2.2.2.2.2)]), (.int .i64 x47.2)]) ?_
  refine KT.pv 48 (.agg #[(.int .i64 x47.1.1), (.int .i64 x47.1.2.1), (.slice x47.1.2.2.1.base x47.1.2.2.1.len x47.1.2.2.1.cap), (.slice x47.1.2.2.2.1.base x47.1.2.2.2.1.len x47.1.2.2.2.1.cap), (.slice x47.1.2.2.2.2.1.base x47.1.2.2.2.2.1.len x47.1.2.2.2.2.1.cap), (.slice x47.1.2.2.2.2.2.1.base x47.1.2.2.2.2.2.1.len x47.1.2.2.2.2.2.1.cap), (.int .i64 x47.1.2.2.2.2.2.2.1), (.bool x47.1.2.2.2.2.2.2.2)]) ?_
  refine KT.pv 49 (.int .i64 x47.2) ?_
  refine KT.nw 10 (fun ad => .pointer (some ad)) 35 (fun x10 => ?_)
  refine KT.ow rfl (OW.stA _ _ _ rfl rfl rfl rfl rfl (by kernel_rfl) ?_)
  refine KT.pv 11 (.int .i64 x47.2) ?_
  refine KT.nil ?_
  refine SX.seq ?_
  refine SC.seq ?_
  refine SC.seq ?_
  refine SC.region' ?_
  refine KT.pv 50 (.int .i64 x41.2) ?_
  refine KT.pv 51 (.bool (x41.2 != 0)) ?_
  refine KT.pv 52 (.bool (x41.2 != 0)) ?_
  refine KT.joinO (β := Bool) 3 (fun r2 => [(55, (.bool r2)), (1, (.slice p1_calls.base p1_calls.len p1_calls.cap)), (2, (.pointer (some x2))), (7, (.pointer (some x7))), (8, (.pointer x41.1)), (10, (.pointer (some x10)))]) (fun r2 => ?_) (fun j2 => ?_)
  refine KT.nil ?_
  refine SX.seq ?_
  refine SC.cond (b := r2) rfl ?_ ?_
  refine SC.seq ?_
  refine SC.region' ?_
  refine KT.pv 4 (.bool false) ?_
  refine KT.nil ?_
  refine SX.seq ?_
  refine SC.ret ?_
  refine SX.then_ret ?_
  refine SX.ret [.tmp 4] rfl ?_
  refine RS.tmp (.bool false) rfl ?_
  exact RS.nil rfl
  refine SC.skip ?_
  refine SX.seq ?_
  refine SC.seq ?_
  refine SC.region' ?_
  refine KT.pv 57 (.pointer x41.1) ?_
  refine KT.ow rfl (OW.ldA (d := 58) (enc := (fun y : (Int × Int × Int) => [(.int .i64 y.1), (.int .i64 y.2.1), (.int .i64 y.2.2)])) 3 _ _ rfl rfl (by kernel_rfl) (by kernel_rfl) (fun _ => rfl) rfl rfl (fun x58 => ?_))
  refine KT.ow rfl (OW.ldA (d := 59) (enc := (fun y : (Int × Int × Int) => [(.int .i64 y.1), (.int .i64 y.2.1), (.int .i64 y.2.2)])) 3 _ _ rfl rfl (by kernel_rfl) (by kernel_rfl) (fun _ => rfl) rfl rfl (fun x59 => ?_))
  refine KT.cl (fun y : ((Option Addr) × Int) => (.tuple #[(.pointer y.1), (.int .i64 y.2)])) 60 23 #[(.pointer x41.1), (.agg #[(.int .i64 x58.1), (.int .i64 x58.2.1), (.int .i64 x58.2.2)]), (.agg #[(.int .i64 x59.1), (.int .i64 x59.2.1), (.int .i64 x59.2.2)])] (bank_Open_sim x41.1 (x58.1, x58.2.1, x58.2.2) (x59.1, x59.2.1, x59.2.2)) (fun x60 => ?_)
  refine KT.pv 56 (.tuple #[(.pointer x60.1), (.int .i64 x60.2)]) ?_
  refine KT.pv 61 (.pointer x60.1) ?_
  refine KT.pv 62 (.int .i64 x60.2) ?_
  refine KT.pv 12 (.pointer x60.1) ?_
  refine KT.pv 9 (.int .i64 x60.2) ?_
  refine KT.nil ?_
  refine SX.seq ?_
  refine SC.seq ?_
  refine SC.region' ?_
  refine KT.ow rfl (OW.ldA (d := 64) (enc := (fun y : (Int × Int × Int) => [(.int .i64 y.1), (.int .i64 y.2.1), (.int .i64 y.2.2)])) 3 _ _ rfl rfl (by kernel_rfl) (by kernel_rfl) (fun _ => rfl) rfl rfl (fun x64 => ?_))
  refine KT.ow rfl (OW.ldA (d := 65) (enc := (fun y : (Int × Int × Int) => [(.int .i64 y.1), (.int .i64 y.2.1), (.int .i64 y.2.2)])) 3 _ _ rfl rfl (by kernel_rfl) (by kernel_rfl) (fun _ => rfl) rfl rfl (fun x65 => ?_))
  refine KT.cl (fun y : ((Option Addr) × Int) => (.tuple #[(.pointer y.1), (.int .i64 y.2)])) 66 24 #[(.pointer (some x10)), (.agg #[(.int .i64 x64.1), (.int .i64 x64.2.1), (.int .i64 x64.2.2)]), (.agg #[(.int .i64 x65.1), (.int .i64 x65.2.1), (.int .i64 x65.2.2)])] (ref06_Open_sim (some x10) (x64.1, x64.2.1, x64.2.2) (x65.1, x65.2.1, x65.2.2)) (fun x66 => ?_)
  refine KT.pv 63 (.tuple #[(.pointer x66.1), (.int .i64 x66.2)]) ?_
  refine KT.pv 67 (.pointer x66.1) ?_
  refine KT.pv 68 (.int .i64 x66.2) ?_
  refine KT.pv 13 (.pointer x66.1) ?_
  refine KT.pv 14 (.int .i64 x66.2) ?_
  refine KT.nil ?_
  refine SX.seq ?_
  refine SC.seq ?_
  refine SC.seq ?_
  refine SC.region' ?_
  refine KT.pv 69 (.int .i64 x60.2) ?_
  refine KT.pv 70 (.int .i64 x66.2) ?_
  refine KT.pv 71 (.bool (x60.2 != x66.2)) ?_
  refine KT.pv 72 (.bool (x60.2 != x66.2)) ?_
  refine KT.joinO (β := Bool) 6 (fun r3 => [(78, (.bool r3)), (1, (.slice p1_calls.base p1_calls.len p1_calls.cap)), (8, (.pointer x41.1)), (9, (.int .i64 x60.2)), (10, (.pointer (some x10))), (12, (.pointer x60.1)), (13, (.pointer x66.1))]) (fun r3 => ?_) (fun j3 => ?_)
  refine KT.nil ?_
  refine SX.seq ?_
  refine SC.cond (b := r3) rfl ?_ ?_
  refine SC.seq ?_
  refine SC.region' ?_
  refine KT.pv 4 (.bool false) ?_
  refine KT.nil ?_
  refine SX.seq ?_
  refine SC.ret ?_
  refine SX.then_ret ?_
  refine SX.ret [.tmp 4] rfl ?_
  refine RS.tmp (.bool false) rfl ?_
  exact RS.nil rfl
  refine SC.skip ?_
  refine SX.seq ?_
  refine SC.seq ?_
  refine SC.seq ?_
  refine SC.region' ?_
  refine KT.pv 79 (.int .i64 x60.2) ?_
  refine KT.pv 80 (.bool (x60.2 != 0)) ?_
  refine KT.pv 81 (.bool (x60.2 != 0)) ?_
  refine KT.joinO (β := Bool) 3 (fun r4 => [(84, (.bool r4)), (1, (.slice p1_calls.base p1_calls.len p1_calls.cap)), (8, (.pointer x41.1)), (10, (.pointer (some x10))), (12, (.pointer x60.1)), (13, (.pointer x66.1))]) (fun r4 => ?_) (fun j4 => ?_)
  refine KT.pv 85 (.bool r4) ?_
  refine KT.joinO (β := Bool) 3 (fun r5 => [(88, (.bool r5)), (1, (.slice p1_calls.base p1_calls.len p1_calls.cap)), (8, (.pointer x41.1)), (10, (.pointer (some x10))), (12, (.pointer x60.1)), (13, (.pointer x66.1))]) (fun r5 => ?_) (fun j5 => ?_)
  refine KT.nil ?_
  refine SX.seq ?_
  refine SC.cond (b := r5) rfl ?_ ?_
  refine SC.seq ?_
  refine SC.region' ?_
  refine KT.pv 4 (.bool true) ?_
  refine KT.nil ?_
  refine SX.seq ?_
  refine SC.ret ?_
  refine SX.then_ret ?_
  refine SX.ret [.tmp 4] rfl ?_
  refine RS.tmp (.bool true) rfl ?_
  exact RS.nil rfl
  refine SC.skip ?_
  refine SX.seq ?_
  refine SC.seq ?_
  refine SC.seq ?_
  refine SC.region' ?_
  refine KT.pv 15 (.int .i64 0) ?_
  refine KT.nil ?_
  refine SX.seq ?_
  refine SC.block ?_
  refine SC.loop (σ := (Int)) (fun s6 => [(1, (.slice p1_calls.base p1_calls.len p1_calls.cap)), (8, (.pointer x41.1)), (10, (.pointer (some x10))), (12, (.pointer x60.1)), (13, (.pointer x66.1)), (15, (.int .i64 s6))]) (.cons rfl (.cons rfl (.cons rfl (.cons rfl (.cons rfl (.cons rfl (.nil))))))) (fun _ _ _ s6 => ?_)
  refine SC.seq ?_
  refine SC.seq ?_
  refine SC.region' ?_
  refine KT.pv 89 (.int .i64 s6) ?_
  refine KT.pv 90 (.slice p1_calls.base p1_calls.len p1_calls.cap) ?_
  refine KT.pv 91 (.int .i64 ((p1_calls.len : Nat) : Int)) ?_
  refine KT.pv 92 (.bool (decide (s6 < ((p1_calls.len : Nat) : Int)))) ?_
  refine KT.nil ?_
  refine SX.seq ?_
  refine SC.cond (b := decide (s6 < ((p1_calls.len : Nat) : Int))) rfl ?_ ?_
  refine SC.skip ?_
  refine SX.seq ?_
  refine SC.seq ?_
  refine SC.block ?_
  refine SC.seq ?_
  refine SC.region' ?_
  refine KT.pv 95 (.pointer x41.1) ?_
  refine KT.pv 96 (.pointer x60.1) ?_
  refine KT.pv 97 (.pointer x66.1) ?_
  refine KT.pv 98 (.slice p1_calls.base p1_calls.len p1_calls.cap) ?_
  refine KT.pv 99 (.int .i64 s6) ?_
  refine KT.oy rfl (OY.idx (d := 100) (s := p1_calls) (i := s6) (size := 7) (elem := 104) _ _ _ rfl rfl rfl (by kernel_rfl) (by kernel_rfl) rfl rfl (fun x100 => ?_))
  refine KT.ow rfl (OW.ldA (d := 101) (enc := (fun y : (Int × Int × Int × Slc × Int × Int × Int) => [(.int .i64 y.1), (.int .i64 y.2.1), (.int .i64 y.2.2.1), (.slice y.2.2.2.1.base y.2.2.2.1.len y.2.2.2.1.cap), (.int .i64 y.2.2.2.2.1), (.int .i64 y.2.2.2.2.2.1), (.int .i64 y.2.2.2.2.2.2)])) 7 _ _ rfl rfl (by kernel_rfl) (by kernel_rfl) (fun _ => rfl) rfl rfl (fun x101 => ?_))
  refine KT.cl Value.bool 102 62 #[(.pointer x41.1), (.pointer x60.1), (.pointer (some x10)), (.pointer x66.1), (.agg #[(.int .i64 x101.1), (.int .i64 x101.2.1), (.int .i64 x101.2.2.1), (.slice x101.2.2.2.1.base x101.2.2.2.1.len x101.2.2.2.1.cap), (.int .i64 x101.2.2.2.2.1), (.int .i64 x101.2.2.2.2.2.1), (.int .i64 x101.2.2.2.2.2.2)])] (law06_told_sim x41.1 x60.1 (some x10) x66.1 (x101.1, x101.2.1, x101.2.2.1, x101.2.2.2.1, x101.2.2.2.2.1, x101.2.2.2.2.2.1, x101.2.2.2.2.2.2)) (fun x102 => ?_)
  refine KT.pv 103 (.bool (!x102)) ?_
  refine KT.nil ?_
  refine SX.seq ?_
  refine SC.cond (b := !x102) rfl ?_ ?_
  refine SC.seq ?_
  refine SC.region' ?_
  refine KT.pv 4 (.bool false) ?_
  refine KT.nil ?_
  refine SX.seq ?_
  refine SC.ret ?_
  refine SX.block_ret ?_
  refine SX.then_ret ?_
  refine SX.loop_ret ?_
  refine SX.block_ret ?_
  refine SX.then_ret ?_
  refine SX.ret [.tmp 4] rfl ?_
  refine RS.tmp (.bool false) rfl ?_
  exact RS.nil rfl
  refine SC.skip ?_
  refine SX.block ?_
  refine SX.seq ?_
  refine SC.region' ?_
  refine KT.pv 93 (.int .i64 s6) ?_
  refine KT.pv 94 (.int .i64 (w64 (s6 + 1))) ?_
  refine KT.pv 15 (.int .i64 (w64 (s6 + 1))) ?_
  refine KT.nil ?_
  exact SX.loop_next (.cons rfl (.cons rfl (.cons rfl (.cons rfl (.cons rfl (.cons rfl (.nil)))))))
  refine SC.exit ?_
  refine SX.then_exit ?_
  refine SX.loop_exit ?_
  refine SX.block_hit ?_
  refine SX.seq ?_
  refine SC.seq ?_
  refine SC.region' ?_
  refine KT.pv 4 (.bool true) ?_
  refine KT.nil ?_
  refine SX.seq ?_
  refine SC.ret ?_
  refine SX.ret [.tmp 4] rfl ?_
  refine RS.tmp (.bool true) rfl ?_
  exact RS.nil rfl
  refine KT.ite (b := r4) 85 rfl ?_ ?_
  refine KT.sk ?_
  refine KT.sk ?_
  refine KT.pv 88 (.bool true) ?_
  exact KT.leafO j5 (.cons rfl (.cons rfl (.cons rfl (.cons rfl (.cons rfl (.cons rfl (.nil)))))))
  refine KT.pv 86 (.pointer x66.1) ?_
  refine KT.oy rfl (OY.eqlNil (d := 87) (p := x66.1) _ _ _ _ rfl rfl rfl (by kernel_rfl) rfl rfl ?_)
  refine KT.pv 88 (.bool ((x66.1).isNone)) ?_
  exact KT.leafO j5 (.cons rfl (.cons rfl (.cons rfl (.cons rfl (.cons rfl (.cons rfl (.nil)))))))
  refine KT.ite (b := x60.2 != 0) 81 rfl ?_ ?_
  refine KT.sk ?_
  refine KT.sk ?_
  refine KT.pv 84 (.bool true) ?_
  exact KT.leafO j4 (.cons rfl (.cons rfl (.cons rfl (.cons rfl (.cons rfl (.cons rfl (.nil)))))))
  refine KT.pv 82 (.pointer x60.1) ?_
  refine KT.oy rfl (OY.eqlNil (d := 83) (p := x60.1) _ _ _ _ rfl rfl rfl (by kernel_rfl) rfl rfl ?_)
  refine KT.pv 84 (.bool ((x60.1).isNone)) ?_
  exact KT.leafO j4 (.cons rfl (.cons rfl (.cons rfl (.cons rfl (.cons rfl (.cons rfl (.nil)))))))
  refine KT.ite (b := x60.2 != x66.2) 72 rfl ?_ ?_
  refine KT.sk ?_
  refine KT.sk ?_
  refine KT.sk ?_
  refine KT.sk ?_
  refine KT.sk ?_
  refine KT.pv 78 (.bool true) ?_
  exact KT.leafO j3 (.cons rfl (.cons rfl (.cons rfl (.cons rfl (.cons rfl (.cons rfl (.cons rfl (.nil))))))))
  refine KT.pv 73 (.pointer x60.1) ?_
  refine KT.oy rfl (OY.eqlNil (d := 74) (p := x60.1) _ _ _ _ rfl rfl rfl (by kernel_rfl) rfl rfl ?_)
  refine KT.pv 75 (.int .i64 x60.2) ?_
  refine KT.pv 76 (.bool (x60.2 != 0)) ?_
  refine KT.pv 77 (.bool (!(((x60.1).isNone) == (x60.2 != 0)))) ?_
  refine KT.pv 78 (.bool (!(((x60.1).isNone) == (x60.2 != 0)))) ?_
  exact KT.leafO j3 (.cons rfl (.cons rfl (.cons rfl (.cons rfl (.cons rfl (.cons rfl (.cons rfl (.nil))))))))
  refine KT.ite (b := x41.2 != 0) 52 rfl ?_ ?_
  refine KT.sk ?_
  refine KT.sk ?_
  refine KT.pv 55 (.bool true) ?_
  exact KT.leafO j2 (.cons rfl (.cons rfl (.cons rfl (.cons rfl (.cons rfl (.cons rfl (.nil)))))))
  refine KT.pv 53 (.pointer x41.1) ?_
  refine KT.oy rfl (OY.eqlNil (d := 54) (p := x41.1) _ _ _ _ rfl rfl rfl (by kernel_rfl) rfl rfl ?_)
  refine KT.pv 55 (.bool ((x41.1).isNone)) ?_
  exact KT.leafO j2 (.cons rfl (.cons rfl (.cons rfl (.cons rfl (.cons rfl (.cons rfl (.nil)))))))

end Go.Proofs.Ytldmeimebebllaa
namespace Go.Proofs.Ytldmeimebebllaa
open Go.Mo
theorem disksOk : DisksOk (cvOf Try.prog) := fun b yv Q w hm =>
  enter_of (f := fid_bank_Bank_disks) (ags := #[.pointer b, yv]) (m := bank_Bank_disks (cvOf Try.prog) b yv) (enc := fun _ : Unit => .tuple #[]) (by simp [Deferred.ofValue, invoke]) (fun Qf' h => bank_Bank_disks_sim b yv Qf' w h) Q hm
end Go.Proofs.Ytldmeimebebllaa
namespace Go.Proofs.Ytldmeimebebllaa
open Go.Mo
theorem keysOk : KeysOk (cvOf Try.prog) := fun a yv Q w hm =>
  enter_of (f := fid_maps_Keys_m_c1) (ags := #[yv, .pointer (some a)]) (m := maps_Keys_m_c1 (cvOf Try.prog) yv a) (enc := fun _ : Unit => .tuple #[]) (by simp [Deferred.ofValue, invoke]) (fun Qf' h => maps_Keys_m_c1_sim yv a Qf' w h) Q hm
end Go.Proofs.Ytldmeimebebllaa
