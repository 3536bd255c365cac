/-
  A part of the proof: predicate transformers over the model, and a separation logic over them; what functions of the program do.
-/
import Derived.Test.YtldmeimebebllaaGreatPart5
import Derived.Test.YtldmeimebebllaaGreatProg
set_option linter.unusedSimpArgs false
namespace Go.Proofs.Ytldmeimebebllaa
open Go.Mo
set_option linter.unusedVariables false
set_option maxRecDepth 100000
theorem makeNoZero_run (nn : Int) (w : World) : (callFunc 120 #[.int .i64 nn]).run Tryz.prog w = ((Extern.BytealgMakeNoZero.makeNoZero #[3] #[49] #[.int .i64 nn]).run Tryz.prog w).andThen fun v w' => .ok (.value v) w' := run_callFunc_extern Tryz.func120 (by kernel_rfl) (by kernel_rfl) (by kernel_rfl) (e := Extern.BytealgMakeNoZero.makeNoZero #[3] #[49]) (by kernel_rfl) #[.int .i64 nn] w
theorem geo_within_sim (p0_n : Int) (p1_from : Int) (p2_to : Int) : Sm Tryz.prog 65 [(vi p0_n), (vi p1_from), (vi p2_to)] Value.bool (geo_within p0_n p1_from p2_to) := by
  refine sm_of 15 Tryz.func65 rfl rfl rfl fun _ => ?_
  unfold geo_within
  refine zG <| zp 6 (vb false) <| zN <| zp 7 (vi p1_from) <| zp 8 (vi p0_n) <| zp 9 (vb (decide (p1_from ≤ p0_n))) <| zp 10 (vb (decide (p1_from ≤ p0_n))) <| zj 4 (fun r1 => [(14, (vb r1))]) (fun r1 => ?_) (fun j1 => ?_)
  exact zp 6 (vb r1) <| zn <| SC.ret <| ze [.tmp 6] <| zm rfl zz
  refine KT.ite 10 rfl ?_ ?_
  exact zp 11 (vi p0_n) <| zp 12 (vi p2_to) <| zp 13 (vb (decide (p0_n ≤ p2_to))) <| zp 14 (vb (decide (p0_n ≤ p2_to))) <| zl j1
  exact zk <| zk <| zk <| zp 14 (vb false) <| zl j1
theorem geo_others_sim (p0_g : (Int × Int × Int)) : Sm Tryz.prog 66 [(.agg #[(vi p0_g.1), (vi p0_g.2.1), (vi p0_g.2.2)])] (Value.int .i64) (geo_others p0_g) := by
  refine sm_of 7 Tryz.func66 rfl rfl rfl fun _ => ?_
  unfold geo_others
  exact zG <| KT.nw 1 (fun ad => .pointer (some ad)) 41 fun x1 => zp 2 (vi 0) <| zN <| zp 3 (va x1 2) <| KT.l 4 fun x4 => zp 5 (vi (w64 (Int.tdiv x4 8))) <| zp 6 (vi (w64 (1 + (w64 (Int.tdiv x4 8))))) <| zp 2 (vi (w64 (1 + (w64 (Int.tdiv x4 8))))) <| zn <| SC.ret <| ze [.tmp 2] <| zm rfl zz
theorem geo_places_sim (p0_g : (Int × Int × Int)) : Sm Tryz.prog 67 [(.agg #[(vi p0_g.1), (vi p0_g.2.1), (vi p0_g.2.2)])] (Value.int .i64) (geo_places p0_g) := by
  refine sm_of 10 Tryz.func67 rfl rfl rfl fun _ => ?_
  unfold geo_places
  exact zG <| KT.nw 1 (fun ad => .pointer (some ad)) 41 fun x1 => zp 2 (vi 0) <| zN <| zp 3 (va x1 1) <| KT.l 4 fun x4 => zp 5 (vp x1) <| KT.l 6 fun x6 => zp 7 (vi (w64 (x6 - 1))) <| zp 8 (vi (w64 (x4 * (w64 (x6 - 1))))) <| zp 9 (vi (w64 ((w64 (x4 * (w64 (x6 - 1)))) - 1))) <| zp 2 (vi (w64 ((w64 (x4 * (w64 (x6 - 1)))) - 1))) <| zn <| SC.ret <| ze [.tmp 2] <| zm rfl zz
theorem geo_Right_sim (p0_g : (Int × Int × Int)) : Sm Tryz.prog 22 [(.agg #[(vi p0_g.1), (vi p0_g.2.1), (vi p0_g.2.2)])] Value.bool (geo_Right p0_g) := by
  refine sm_of 24 Tryz.func22 rfl rfl rfl fun _ => ?_
  unfold geo_Right
  refine zG <| KT.nw 1 (fun ad => .pointer (some ad)) 41 fun x1 => zp 2 (vb false) <| zn <| zq <| SC.draw 22 (fun _ => false) rfl (by kernel_rfl) fun S1 => zpA 0 3 (vp x1) <| zA 1 rfl <| oli 4 fun x4 => KT.one 2 rfl (by kernel_rfl) rfl <| OW.step <| ocall 5 (geo_within_sim _ _ _) fun x5 => KT.and <| zpA 3 6 (vb x5) <| KT.ite 6 rfl ?_ ?_
  refine zpA 4 7 (va x1 1) <| zA 5 rfl <| oli 8 fun x8 => KT.one 6 rfl (by kernel_rfl) rfl <| OW.step <| ocall 9 (geo_within_sim _ _ _) fun x9 => KT.and <| zpA 7 10 (vb x9) <| zpA 8 11 (vb x9) <| KT.ite 11 rfl ?_ ?_
  refine zpA 9 12 (va x1 2) <| zA 10 rfl <| oli 13 fun x13 => KT.one 11 rfl (by kernel_rfl) rfl <| OW.step <| ocall 14 (geo_within_sim _ _ _) fun x14 => KT.and <| zpA 12 15 (vb x14) <| zpA 13 16 (vb x14) <| KT.ite 16 rfl ?_ ?_
  exact zA 14 rfl <| olai 17 3 fun x17 => zA 16 rfl <| olai 19 3 fun x19 => KT.one 15 rfl (by kernel_rfl) rfl <| OW.step <| ocall 18 (geo_others_sim _) fun x18 => KT.and <| KT.one 17 rfl (by kernel_rfl) rfl <| OW.step <| ocall 20 (geo_places_sim _) fun x20 => KT.and <| zpA 18 21 (vi (w64 (x18 * x20))) <| zpA 19 22 (vb (decide ((w64 (x18 * x20)) ≥ 8))) <| zpA 20 23 (vb (decide ((w64 (x18 * x20)) ≥ 8))) <| zpA 21 2 (vb (decide ((w64 (x18 * x20)) ≥ 8))) <| KT.doneA (by kernel_rfl) <| SX.seq <| SC.ret <| ze [.tmp 2] <| zm rfl zz
  exact zkA 14 rfl <| zkA 15 rfl <| zkA 16 rfl <| zkA 17 rfl <| zkA 18 rfl <| zkA 19 rfl <| zpA 20 23 (vb false) <| zpA 21 2 (vb false) <| KT.doneA (by kernel_rfl) <| SX.seq <| SC.ret <| ze [.tmp 2] <| zm rfl zz
  exact zkA 9 rfl <| zkA 10 rfl <| zkA 11 rfl <| zpA 12 15 (vb false) <| zpA 13 16 (vb false) <| zkA 14 rfl <| zkA 15 rfl <| zkA 16 rfl <| zkA 17 rfl <| zkA 18 rfl <| zkA 19 rfl <| zpA 20 23 (vb false) <| zpA 21 2 (vb false) <| KT.doneA (by kernel_rfl) <| SX.seq <| SC.ret <| ze [.tmp 2] <| zm rfl zz
  exact zkA 4 rfl <| zkA 5 rfl <| zkA 6 rfl <| zpA 7 10 (vb false) <| zpA 8 11 (vb false) <| zkA 9 rfl <| zkA 10 rfl <| zkA 11 rfl <| zpA 12 15 (vb false) <| zpA 13 16 (vb false) <| zkA 14 rfl <| zkA 15 rfl <| zkA 16 rfl <| zkA 17 rfl <| zkA 18 rfl <| zkA 19 rfl <| zpA 20 23 (vb false) <| zpA 21 2 (vb false) <| KT.doneA (by kernel_rfl) <| SX.seq <| SC.ret <| ze [.tmp 2] <| zm rfl zz
theorem geo_Sectors_sim (p0_g : (Int × Int × Int)) : Sm Tryz.prog 8 [(.agg #[(vi p0_g.1), (vi p0_g.2.1), (vi p0_g.2.2)])] (Value.int .i64) (geo_Sectors p0_g) := by
  refine sm_of 12 Tryz.func8 rfl rfl rfl fun _ => ?_
  unfold geo_Sectors
  refine zG <| KT.nw 1 (fun ad => .pointer (some ad)) 41 fun x1 => zp 2 (vi 0) <| zn <| zq <| zG <| zo <| ola 3 3 fun x3 => zc 4 (geo_Right_sim _) fun x4 => zp 5 (vb (!x4)) <| zn <| SC.cond rfl ?_ ?_
  exact zG <| zp 2 (vi 0) <| zn <| zt <| ze [.tmp 2] <| zm rfl zz
  exact zw <| zG <| zp 6 (va x1 2) <| KT.l 7 fun x7 => zp 8 (va x1 1) <| KT.l 9 fun x9 => zp 10 (vi (w64 (x7 * x9))) <| zp 11 (vi (w64 (5 + (w64 (x7 * x9))))) <| zp 2 (vi (w64 (5 + (w64 (x7 * x9))))) <| zn <| SC.ret <| ze [.tmp 2] <| zm rfl zz
theorem law07_Small_sim  : Sm Tryz.prog 9 [] (fun y : (Int × Int × Int) => (.agg #[(vi y.1), (vi y.2.1), (vi y.2.2)])) (law07_Small ) := by
  refine sm_of 2 Tryz.func9 rfl rfl rfl fun _ => ?_
  unfold law07_Small
  exact zG <| KT.nw 0 (fun ad => .pointer (some ad)) 41 fun x0 => zN <| zp 1 (.agg #[(vi 3), (vi 3), (vi 12)]) <| zo <| osa <| zn <| SC.ret <| ze [.cell 0 41] <| RS.cellA 3 (by kernel_rfl) rfl rfl (fun _ => rfl) fun r0 => zz
theorem device_New_sim (p0_disks : Int) (p1_sectors : Int) : Sm Tryz.prog 20 [(vi p0_disks), (vi p1_sectors)] (fun y : ((Option Addr) × Int) => (.tuple #[(.pointer y.1), (vi y.2)])) (device_New p0_disks p1_sectors) := by
  refine sm_of 57 Tryz.func20 rfl rfl rfl fun _ => ?_
  unfold device_New
  refine zG <| zp 4 (.pointer none) <| zp 5 (vi 0) <| zn <| zq <| zG <| zp 8 (vi p0_disks) <| zp 9 (vb (decide (p0_disks < 1))) <| zp 10 (vb (decide (p0_disks < 1))) <| zj 3 (fun r1 => [(13, (vb r1)), (0, (vi p0_disks)), (1, (vi p1_sectors))]) (fun r1 => ?_) (fun j1 => ?_)
  refine zp 14 (vb r1) <| zj 3 (fun r2 => [(17, (vb r2)), (0, (vi p0_disks)), (1, (vi p1_sectors))]) (fun r2 => ?_) (fun j2 => ?_)
  refine zp 18 (vb r2) <| zj 3 (fun r3 => [(21, (vb r3)), (0, (vi p0_disks)), (1, (vi p1_sectors))]) (fun r3 => ?_) (fun j3 => ?_)
  refine zn <| SC.cond rfl ?_ ?_
  exact zG <| zp 4 (.pointer none) <| zp 5 (vi 10) <| zn <| zt <| ze [.tmp 4, .tmp 5] <| zm rfl <| zm rfl zz
  refine zw <| zG <| zp 22 (vi p1_sectors) <| zp 23 (.agg #[(.slice none 0 0), (vi p1_sectors), (vi (-1)), (vb false)]) <| KT.nw 24 (fun ad => .pointer (some ad)) 108 fun x24 => zp 6 (vp x24) <| zn <| zq <| zG <| zp 25 (vi p0_disks) <| zp 26 (vi 0) <| zn <| SC.block <| zL (σ := (Int)) (fun s4 => [(1, (vi p1_sectors)), (6, (vp x24)), (25, (vi p0_disks)), (26, (vi s4))]) fun _ _ _ s4 => zG <| zp 27 (vb (decide (s4 < p0_disks))) <| zn <| zq <| SC.cond rfl ?_ ?_
  refine zw <| zq <| SC.block <| zG <| KT.ow rfl (OW.newO (d := 28) (.map #[] 0) (fun r => .map (some r)) rfl (fun _ => by kernel_rfl) rfl rfl (fun x28 => ?_))
  refine zp 29 (.agg #[(.slice none 0 0), (.map (some x28)), (vb false), (vi (-1))]) <| KT.nw 30 (fun ad => .pointer (some ad)) 92 fun x30 => zp 7 (vp x30) <| zn <| zq <| zG <| zp 31 (vi p1_sectors) <| zp 32 (vi 0) <| zn <| SC.block <| zL (σ := (Int)) (fun s5 => [(1, (vi p1_sectors)), (6, (vp x24)), (7, (vp x30)), (25, (vi p0_disks)), (26, (vi s4)), (31, (vi p1_sectors)), (32, (vi s5))]) fun _ _ _ s5 => zG <| zp 33 (vb (decide (s5 < p1_sectors))) <| zn <| zq <| SC.cond rfl ?_ ?_
  refine zw <| zq <| SC.block <| SC.draw 11 (fun f => Nat.beq f 7 || Nat.beq f 10) rfl (by kernel_rfl) fun S6 => zpA 0 34 (vp x30) <| zpA 1 35 (vp x30) <| zpA 2 36 (vp x30) <| zpA 3 37 (vp x30) <| zA 4 rfl <| oli 38 fun x38 => KT.one 5 rfl (by kernel_rfl) rfl <| OW.step <| OW.new (d := 39) (List.replicate 64 (.int .u8 0)) (fun ad => .slice (some ad) 64 64) 5 rfl (fun _ => by kernel_rfl) rfl rfl fun x39 => KT.and <| KT.one 6 rfl (by kernel_rfl) rfl <| OW.step <| OW.new (d := 40) [(.slice (some x39) 64 64)] (fun ad => .slice (some ad) 1 1) 49 rfl (fun _ => by kernel_rfl) rfl rfl fun x40 => KT.and <| KT.last 7 rfl (by kernel_rfl) rfl rfl <| OW.append (d := 41) (s := x38) (x := ⟨some x40, 1, 1⟩) [(.slice none 0 0)] 24 49 _ _ _ _ rfl rfl rfl rfl (by kernel_rfl) (by kernel_rfl) rfl rfl rfl fun x41 => KT.pvN 8 42 (vp x30) <| KT.pvN 9 43 (vp x30) <| KT.lastN 10 rfl (by kernel_rfl) rfl rfl (OW.st _ _ _ rfl rfl rfl rfl (by kernel_rfl) rfl ?_)
  exact KT.doneN (by kernel_rfl) <| SX.block <| SX.seq <| zg <| zp 44 (vi (w64 (s5 + 1))) <| zp 32 (vi (w64 (s5 + 1))) <| KT.nil zX
  exact SC.exit <| SX.then_exit <| SX.loop_exit <| SX.block_hit <| SX.seq <| zg <| zp 45 (vp x24) <| zp 46 (vp x24) <| zp 47 (vp x24) <| zp 48 (vp x24) <| KT.l 49 fun x49 => zp 50 (vp x30) <| KT.nw 51 (fun ad => .slice (some ad) 1 1) 87 fun x51 => zo <| oapp 52 87 fun x52 => zp 53 (vp x24) <| zp 54 (vp x24) <| KT.s <| KT.nil <| SX.block <| SX.seq <| zg <| zp 55 (vi (w64 (s4 + 1))) <| zp 26 (vi (w64 (s4 + 1))) <| KT.nil zX
  exact SC.exit <| SX.then_exit <| SX.loop_exit <| SX.block_hit <| SX.seq <| zG <| zp 56 (vp x24) <| zp 4 (vp x24) <| zp 5 (vi 0) <| zn <| SC.ret <| ze [.tmp 4, .tmp 5] <| zm rfl <| zm rfl zz
  refine KT.ite 18 rfl ?_ ?_
  exact zk <| zk <| zp 21 (vb true) <| zl j3
  exact zp 19 (vi p1_sectors) <| zp 20 (vb (decide (p1_sectors > 4096))) <| zp 21 (vb (decide (p1_sectors > 4096))) <| zl j3
  refine KT.ite 14 rfl ?_ ?_
  exact zk <| zk <| zp 17 (vb true) <| zl j2
  exact zp 15 (vi p1_sectors) <| zp 16 (vb (decide (p1_sectors < 1))) <| zp 17 (vb (decide (p1_sectors < 1))) <| zl j2
  refine KT.ite 10 rfl ?_ ?_
  exact zk <| zk <| zp 13 (vb true) <| zl j1
  exact zp 11 (vi p0_disks) <| zp 12 (vb (decide (p0_disks > 17))) <| zp 13 (vb (decide (p0_disks > 17))) <| zl j1
theorem device_Rack_Size_sim (p0_r : (Option Addr)) : Sm Tryz.prog 63 [(.pointer p0_r)] (fun y : (Int × Int) => (.tuple #[(vi y.1), (vi y.2)])) (device_Rack_Size p0_r) := by
  refine sm_of 13 Tryz.func63 rfl rfl rfl fun _ => ?_
  unfold device_Rack_Size
  exact zG <| zp 2 (vi 0) <| zp 3 (vi 0) <| zn <| zq <| SC.draw 11 (fun _ => false) rfl (by kernel_rfl) fun S1 => zpA 0 4 (.pointer p0_r) <| zB 1 rfl <| onil 5 fun x5 => zpA 2 6 (vp x5) <| zA 3 rfl <| oli 7 fun x7 => zpA 4 8 (vi (vl x7)) <| zpA 5 9 (.pointer p0_r) <| zB 6 rfl <| onil 10 fun x10 => zpA 7 11 (va x10 1) <| zA 8 rfl <| oli 12 fun x12 => zpA 9 2 (vi (vl x7)) <| zpA 10 3 (vi x12) <| KT.doneA (by kernel_rfl) <| SX.seq <| SC.ret <| ze [.tmp 2, .tmp 3] <| zm rfl <| zm rfl zz
theorem bank_fits_sim (p0_g : (Int × Int × Int)) (p1_m : (Int × Int × Int)) : Sm Tryz.prog 64 [(.agg #[(vi p0_g.1), (vi p0_g.2.1), (vi p0_g.2.2)]), (.agg #[(vi p1_m.1), (vi p1_m.2.1), (vi p1_m.2.2)])] Value.bool (bank_fits p0_g p1_m) := by
  refine sm_of 22 Tryz.func64 rfl rfl rfl fun _ => ?_
  unfold bank_fits
  refine zG <| KT.nw 2 (fun ad => .pointer (some ad)) 41 fun x2 => KT.nw 3 (fun ad => .pointer (some ad)) 23 fun x3 => zp 4 (vb false) <| zn <| zq <| zG <| zp 5 (va x3 2) <| KT.l 6 fun x6 => zn <| SC.block <| zG <| zp 8 (vb (x6 == 0)) <| zp 7 (vb (x6 == 0)) <| zn <| SC.cond rfl ?_ ?_
  exact zG <| zp 4 (vb true) <| zn <| SC.ret <| SX.block_ret <| SX.then_ret <| ze [.tmp 4] <| zm rfl zz
  refine zq <| zG <| zp 10 (vb (x6 == 1)) <| zp 9 (vb (x6 == 1)) <| zn <| SC.join (β := (Bool)) (fun b1 => [(2, (vp x2)), (3, (vp x3)), (9, (vb b1))]) (fun b1 => ?_) (fun j1 => ?_)
  refine SX.seq <| SC.cond rfl ?_ ?_
  refine zG <| zp 12 (va x3 1) <| KT.l 13 fun x13 => zp 14 (vb (decide (x13 ≥ 0))) <| zp 15 (vb (decide (x13 ≥ 0))) <| zj 6 (fun r2 => [(21, (vb r2))]) (fun r2 => ?_) (fun j2 => ?_)
  exact zp 4 (vb r2) <| zn <| SC.ret <| SX.block_ret <| SX.then_ret <| ze [.tmp 4] <| zm rfl zz
  refine KT.ite 15 rfl ?_ ?_
  exact zp 16 (va x3 1) <| KT.l 17 fun x17 => zp 18 (vp x2) <| KT.l 19 fun x19 => zp 20 (vb (decide (x17 < x19))) <| zp 21 (vb (decide (x17 < x19))) <| zl j2
  exact zk <| zk <| zk <| zk <| zk <| zp 21 (vb false) <| zl j2
  exact SC.skip <| SX.block <| SX.seq <| zG <| zp 4 (vb false) <| zn <| SC.ret <| ze [.tmp 4] <| zm rfl zz
  refine SC.cond rfl ?_ ?_
  exact SC.skip <| zf j1
  exact zg <| zp 11 (vb (x6 == 2)) <| zp 9 (vb (x6 == 2)) <| KT.nil <| zf j1
theorem bank_Open_sim (p0_r : (Option Addr)) (p1_g : (Int × Int × Int)) (p2_m : (Int × Int × Int)) : Sm Tryz.prog 21 [(.pointer p0_r), (.agg #[(vi p1_g.1), (vi p1_g.2.1), (vi p1_g.2.2)]), (.agg #[(vi p2_m.1), (vi p2_m.2.1), (vi p2_m.2.2)])] (fun y : ((Option Addr) × Int) => (.tuple #[(.pointer y.1), (vi y.2)])) (bank_Open p0_r p1_g p2_m) := by
  refine sm_of 42 Tryz.func21 rfl rfl rfl fun _ => ?_
  unfold bank_Open
  refine zG <| KT.nw 4 (fun ad => .pointer (some ad)) 41 fun x4 => KT.nw 5 (fun ad => .pointer (some ad)) 23 fun x5 => zp 6 (.pointer none) <| zp 7 (vi 0) <| zN <| zp 11 (.pointer p0_r) <| zc 12 (device_Rack_Size_sim _) fun x12 => zp 10 (.tuple #[(vi x12.1), (vi x12.2)]) <| zp 13 (vi x12.1) <| zp 14 (vi x12.2) <| zp 8 (vi x12.1) <| zp 9 (vi x12.2) <| zn <| zq <| zG <| zo <| ola 15 3 fun x15 => zc 16 (geo_Right_sim _) fun x16 => zp 17 (vb (!x16)) <| zp 18 (vb (!x16)) <| zj 6 (fun r1 => [(24, (vb r1)), (0, (.pointer p0_r)), (4, (vp x4)), (5, (vp x5)), (9, (vi x12.2))]) (fun r1 => ?_) (fun j1 => ?_)
  refine zp 25 (vb r1) <| zj 5 (fun r2 => [(30, (vb r2)), (0, (.pointer p0_r)), (4, (vp x4)), (5, (vp x5))]) (fun r2 => ?_) (fun j2 => ?_)
  refine zp 31 (vb r2) <| zj 5 (fun r3 => [(36, (vb r3)), (0, (.pointer p0_r)), (4, (vp x4)), (5, (vp x5))]) (fun r3 => ?_) (fun j3 => ?_)
  refine zn <| SC.cond rfl ?_ ?_
  exact zG <| zp 6 (.pointer none) <| zp 7 (vi 10) <| zn <| zt <| ze [.tmp 6, .tmp 7] <| zm rfl <| zm rfl zz
  exact zw <| zG <| zp 37 (.pointer p0_r) <| zo <| ola 38 3 fun x38 => zo <| ola 39 3 fun x39 => zp 40 (.agg #[(.pointer p0_r), (vi x38.1), (vi x38.2.1), (vi x38.2.2), (vi x39.1), (vi x39.2.1), (vi x39.2.2)]) <| KT.nw 41 (fun ad => .pointer (some ad)) 111 fun x41 => zp 6 (vp x41) <| zp 7 (vi 0) <| zn <| SC.ret <| ze [.tmp 6, .tmp 7] <| zm rfl <| zm rfl zz
  refine KT.ite 31 rfl ?_ ?_
  exact zk <| zk <| zk <| zk <| zp 36 (vb true) <| zl j3
  exact zo <| ola 32 3 fun x32 => zo <| ola 33 3 fun x33 => zc 34 (bank_fits_sim _ _) fun x34 => zp 35 (vb (!x34)) <| zp 36 (vb (!x34)) <| zl j3
  refine KT.ite 25 rfl ?_ ?_
  exact zk <| zk <| zk <| zk <| zp 30 (vb true) <| zl j2
  exact zp 26 (vi x12.2) <| zo <| ola 27 3 fun x27 => zc 28 (geo_Sectors_sim _) fun x28 => zp 29 (vb (x12.2 != x28)) <| zp 30 (vb (x12.2 != x28)) <| zl j2
  refine KT.ite 18 rfl ?_ ?_
  exact zk <| zk <| zk <| zk <| zk <| zp 24 (vb true) <| zl j1
  exact zp 19 (vi x12.1) <| zp 20 (vp x4) <| KT.l 21 fun x21 => zp 22 (vi (w64 (x21 + 1))) <| zp 23 (vb (x12.1 != (w64 (x21 + 1)))) <| zp 24 (vb (x12.1 != (w64 (x21 + 1)))) <| zl j1
theorem law07_Open_sim (p0_m : (Int × Int × Int)) : Sm Tryz.prog 6 [(.agg #[(vi p0_m.1), (vi p0_m.2.1), (vi p0_m.2.2)])] (fun y : ((Option Addr) × (Option Addr)) => (.tuple #[(.pointer y.1), (.pointer y.2)])) (law07_Open p0_m) := by
  refine sm_of 34 Tryz.func6 rfl rfl rfl fun _ => ?_
  unfold law07_Open
  refine zG <| KT.nw 1 (fun ad => .pointer (some ad)) 23 fun x1 => zp 2 (.pointer none) <| zp 3 (.pointer none) <| zN <| zc 8 (law07_Small_sim ) fun x8 => zc 9 (geo_Sectors_sim _) fun x9 => zc 10 (device_New_sim _ _) fun x10 => zp 7 (.tuple #[(.pointer x10.1), (vi x10.2)]) <| zp 11 (.pointer x10.1) <| zp 12 (vi x10.2) <| zp 4 (.pointer x10.1) <| zp 5 (vi x10.2) <| zn <| zq <| zG <| zp 13 (vi x10.2) <| zp 14 (vb (x10.2 != 0)) <| zp 15 (vb (x10.2 != 0)) <| zj 3 (fun r1 => [(18, (vb r1)), (1, (vp x1)), (4, (.pointer x10.1))]) (fun r1 => ?_) (fun j1 => ?_)
  refine zn <| SC.cond rfl ?_ ?_
  exact zG <| zp 2 (.pointer none) <| zp 3 (.pointer none) <| zn <| zt <| ze [.tmp 2, .tmp 3] <| zm rfl <| zm rfl zz
  refine zw <| zq <| SC.draw 9 (fun f => Nat.beq f 3) rfl (by kernel_rfl) fun S2 => zpA 0 20 (.pointer x10.1) <| zA 2 rfl <| olai 22 3 fun x22 => KT.one 1 rfl (by kernel_rfl) rfl <| OW.step <| ocall 21 (law07_Small_sim ) fun x21 => KT.and <| KT.last 3 rfl (by kernel_rfl) rfl rfl <| ocall 23 (bank_Open_sim _ _ _) fun x23 => KT.pvN 4 19 (.tuple #[(.pointer x23.1), (vi x23.2)]) <| KT.pvN 5 24 (.pointer x23.1) <| KT.pvN 6 25 (vi x23.2) <| KT.pvN 7 6 (.pointer x23.1) <| KT.pvN 8 5 (vi x23.2) <| KT.doneN (by kernel_rfl) <| SX.seq <| zq <| zG <| zp 26 (vi x23.2) <| zp 27 (vb (x23.2 != 0)) <| zp 28 (vb (x23.2 != 0)) <| zj 3 (fun r3 => [(31, (vb r3)), (4, (.pointer x10.1)), (6, (.pointer x23.1))]) (fun r3 => ?_) (fun j3 => ?_)
  refine zn <| SC.cond rfl ?_ ?_
  exact zG <| zp 2 (.pointer none) <| zp 3 (.pointer none) <| zn <| zt <| ze [.tmp 2, .tmp 3] <| zm rfl <| zm rfl zz
  exact zw <| zG <| zp 32 (.pointer x23.1) <| zp 33 (.pointer x10.1) <| zp 2 (.pointer x23.1) <| zp 3 (.pointer x10.1) <| zn <| SC.ret <| ze [.tmp 2, .tmp 3] <| zm rfl <| zm rfl zz
  refine KT.ite 28 rfl ?_ ?_
  exact zk <| zk <| zp 31 (vb true) <| zl j3
  refine zp 29 (.pointer x23.1) <| KT.oy rfl (OY.eqlNil (d := 30) (p := x23.1) _ _ _ _ rfl rfl rfl (by kernel_rfl) rfl rfl ?_)
  exact zp 31 (vb ((x23.1).isNone)) <| zl j3
  refine KT.ite 15 rfl ?_ ?_
  exact zk <| zk <| zp 18 (vb true) <| zl j1
  refine zp 16 (.pointer x10.1) <| KT.oy rfl (OY.eqlNil (d := 17) (p := x10.1) _ _ _ _ rfl rfl rfl (by kernel_rfl) rfl rfl ?_)
  exact zp 18 (vb ((x10.1).isNone)) <| zl j1
theorem bank_Bank_disk_sim (p0_b : (Option Addr)) (p1_slot : Int) : Sm Tryz.prog 81 [(.pointer p0_b), (vi p1_slot)] (fun y : (Int × Bool) => (.tuple #[(vi y.1), (vb y.2)])) (bank_Bank_disk p0_b p1_slot) := by
  refine sm_of 38 Tryz.func81 rfl rfl rfl fun _ => ?_
  unfold bank_Bank_disk
  refine zG <| zp 4 (vi 0) <| zp 5 (vb false) <| zn <| zq <| zG <| zp 6 (vi p1_slot) <| zp 7 (vb (decide (p1_slot < 0))) <| zp 8 (vb (decide (p1_slot < 0))) <| zj 8 (fun r1 => [(16, (vb r1)), (0, (.pointer p0_b)), (1, (vi p1_slot))]) (fun r1 => ?_) (fun j1 => ?_)
  refine zn <| SC.cond rfl ?_ ?_
  exact zG <| zp 4 (vi 0) <| zp 5 (vb false) <| zn <| zt <| ze [.tmp 4, .tmp 5] <| zm rfl <| zm rfl zz
  refine zw <| zq <| zG <| zp 17 (.pointer p0_b) <| KT.nm 18 fun x18 => zp 19 (va x18 4) <| zp 20 (.pointer (some (Addr.add (Addr.add x18 4) 2))) <| KT.l 21 fun x21 => zp 22 (vb (x21 != 0)) <| zp 23 (vb (x21 != 0)) <| zj 8 (fun r2 => [(31, (vb r2)), (0, (.pointer p0_b)), (1, (vi p1_slot))]) (fun r2 => ?_) (fun j2 => ?_)
  refine zn <| SC.cond rfl ?_ ?_
  exact zG <| zp 32 (.pointer p0_b) <| KT.nm 33 fun x33 => zp 34 (va x33 1) <| zp 35 (va x33 1) <| KT.l 36 fun x36 => zp 4 (vi x36) <| zp 5 (vb true) <| zn <| zt <| ze [.tmp 4, .tmp 5] <| zm rfl <| zm rfl zz
  exact zw <| zG <| zp 37 (vi p1_slot) <| zp 4 (vi p1_slot) <| zp 5 (vb true) <| zn <| SC.ret <| ze [.tmp 4, .tmp 5] <| zm rfl <| zm rfl zz
  refine KT.ite 23 rfl ?_ ?_
  exact zp 24 (.pointer p0_b) <| KT.nm 25 fun x25 => zp 26 (va x25 4) <| zp 27 (.pointer (some (Addr.add (Addr.add x25 4) 1))) <| KT.l 28 fun x28 => zp 29 (vi p1_slot) <| zp 30 (vb (x28 == p1_slot)) <| zp 31 (vb (x28 == p1_slot)) <| zl j2
  exact zk <| zk <| zk <| zk <| zk <| zk <| zk <| zp 31 (vb false) <| zl j2
  refine KT.ite 8 rfl ?_ ?_
  exact zk <| zk <| zk <| zk <| zk <| zk <| zk <| zp 16 (vb true) <| zl j1
  exact zp 9 (vi p1_slot) <| zp 10 (.pointer p0_b) <| KT.nm 11 fun x11 => zp 12 (va x11 1) <| zp 13 (va x11 1) <| KT.l 14 fun x14 => zp 15 (vb (decide (p1_slot ≥ x14))) <| zp 16 (vb (decide (p1_slot ≥ x14))) <| zl j1
theorem slices_Clone_b_sim (p0_s : Slc) : Sm Tryz.prog 45 [(vS p0_s)] vS (slices_Clone_b p0_s) := by
  refine sm_of 8 Tryz.func45 rfl rfl rfl fun _ => ?_
  unfold slices_Clone_b
  refine zG <| zp 2 (.slice none 0 0) <| zn <| zq <| zG <| zp 3 (vS p0_s) <| KT.oy rfl (OY.eqlSl (d := 4) (s := p0_s) _ _ _ _ 5 rfl rfl rfl (by kernel_rfl) rfl rfl ?_)
  refine zn <| SC.cond rfl ?_ ?_
  exact zG <| zp 2 (.slice none 0 0) <| zn <| zt <| ze [.tmp 2] <| zm rfl zz
  exact zw <| zG <| KT.nw 5 (fun ad => .slice (some ad) 0 0) 5 fun x5 => zp 6 (vS p0_s) <| zo <| oapp 7 5 fun x7 => zp 2 (vS x7) <| zn <| SC.ret <| ze [.tmp 2] <| zm rfl zz
theorem device_Rack_disk_sim (p0_r : (Option Addr)) (p1_k : Int) (p2_sector : Int) : Sm Tryz.prog 44 [(.pointer p0_r), (vi p1_k), (vi p2_sector)] (fun y : ((Option Addr) × Int) => (.tuple #[(.pointer y.1), (vi y.2)])) (device_Rack_disk p0_r p1_k p2_sector) := by
  refine sm_of 42 Tryz.func44 rfl rfl rfl fun _ => ?_
  unfold device_Rack_disk
  refine zG <| zp 6 (.pointer none) <| zp 7 (vi 0) <| zn <| zq <| zG <| zp 8 (.pointer p0_r) <| KT.nm 9 fun x9 => zp 10 (va x9 3) <| KT.l 11 fun x11 => zn <| SC.cond rfl ?_ ?_
  exact zG <| zp 6 (.pointer none) <| zp 7 (vi 12) <| zn <| zt <| ze [.tmp 6, .tmp 7] <| zm rfl <| zm rfl zz
  refine zw <| zq <| zG <| zp 12 (vi p1_k) <| zp 13 (vb (decide (p1_k < 0))) <| zp 14 (vb (decide (p1_k < 0))) <| zj 8 (fun r1 => [(22, (vb r1)), (0, (.pointer p0_r)), (1, (vi p1_k)), (2, (vi p2_sector))]) (fun r1 => ?_) (fun j1 => ?_)
  refine zp 23 (vb r1) <| zj 3 (fun r2 => [(26, (vb r2)), (0, (.pointer p0_r)), (1, (vi p1_k)), (2, (vi p2_sector))]) (fun r2 => ?_) (fun j2 => ?_)
  refine zp 27 (vb r2) <| zj 7 (fun r3 => [(34, (vb r3)), (0, (.pointer p0_r)), (1, (vi p1_k))]) (fun r3 => ?_) (fun j3 => ?_)
  refine zn <| SC.cond rfl ?_ ?_
  exact zG <| zp 6 (.pointer none) <| zp 7 (vi 11) <| zn <| zt <| ze [.tmp 6, .tmp 7] <| zm rfl <| zm rfl zz
  exact zw <| zG <| zp 35 (.pointer p0_r) <| KT.nm 36 fun x36 => zp 37 (vp x36) <| KT.l 38 fun x38 => zp 39 (vi p1_k) <| zy <| oix 40 87 fun x40 => KT.l 41 fun x41 => zp 6 (.pointer x41) <| zp 7 (vi 0) <| zn <| SC.ret <| ze [.tmp 6, .tmp 7] <| zm rfl <| zm rfl zz
  refine KT.ite 27 rfl ?_ ?_
  exact zk <| zk <| zk <| zk <| zk <| zk <| zp 34 (vb true) <| zl j3
  exact zp 28 (vi p2_sector) <| zp 29 (.pointer p0_r) <| KT.nm 30 fun x30 => zp 31 (va x30 1) <| KT.l 32 fun x32 => zp 33 (vb (decide (p2_sector ≥ x32))) <| zp 34 (vb (decide (p2_sector ≥ x32))) <| zl j3
  refine KT.ite 23 rfl ?_ ?_
  exact zk <| zk <| zp 26 (vb true) <| zl j2
  exact zp 24 (vi p2_sector) <| zp 25 (vb (decide (p2_sector < 0))) <| zp 26 (vb (decide (p2_sector < 0))) <| zl j2
  refine KT.ite 14 rfl ?_ ?_
  exact zk <| zk <| zk <| zk <| zk <| zk <| zk <| zp 22 (vb true) <| zl j1
  exact zp 15 (vi p1_k) <| zp 16 (.pointer p0_r) <| KT.nm 17 fun x17 => zp 18 (vp x17) <| KT.l 19 fun x19 => zp 20 (vi (vl x19)) <| zp 21 (vb (decide (p1_k ≥ (vl x19)))) <| zp 22 (vb (decide (p1_k ≥ (vl x19)))) <| zl j1
theorem device_Rack_call_sim (p0_r : (Option Addr)) : Sm Tryz.prog 115 [(.pointer p0_r)] Value.bool (device_Rack_call p0_r) := by
  refine sm_of 55 Tryz.func115 rfl rfl rfl fun _ => ?_
  unfold device_Rack_call
  refine zG <| zp 2 (vb false) <| zn <| zq <| zG <| zp 5 (.pointer p0_r) <| KT.nm 6 fun x6 => zp 7 (va x6 2) <| KT.l 8 fun x8 => zp 9 (vb (x8 == 0)) <| zn <| SC.cond rfl ?_ ?_
  exact zG <| zp 10 (.pointer p0_r) <| KT.nm 11 fun x11 => zp 12 (va x11 3) <| KT.s <| zN <| zp 2 (vb false) <| zn <| zt <| ze [.tmp 2] <| zm rfl zz
  refine zw <| zG <| zp 13 (.pointer p0_r) <| zp 14 (.pointer p0_r) <| KT.nm 15 fun x15 => zp 16 (va x15 2) <| KT.l 17 fun x17 => zp 18 (vi (w64 (x17 - 1))) <| zp 19 (vi (maxI (w64 (x17 - 1)) (-1))) <| KT.nm 20 fun x20 => zp 21 (va x20 2) <| KT.s <| zn <| zq <| zG <| zp 22 (.pointer p0_r) <| KT.nm 23 fun x23 => zp 24 (vp x23) <| KT.l 25 fun x25 => zp 26 (vi (vl x25)) <| zp 27 (vi 0) <| zn <| SC.block <| zL (σ := (Int)) (fun s1 => [(25, (vS x25)), (26, (vi (vl x25))), (27, (vi s1))]) fun _ _ _ s1 => zG <| zp 28 (vb (decide (s1 < (vl x25)))) <| zn <| zq <| SC.cond rfl ?_ ?_
  refine zw <| zq <| SC.block <| zG <| zy <| oix 29 87 fun x29 => KT.l 30 fun x30 => zp 4 (.pointer x30) <| zN <| zp 31 (.pointer x30) <| zp 32 (.pointer x30) <| KT.nm 33 fun x33 => zp 34 (va x33 2) <| KT.l 35 fun x35 => zp 36 (vb x35) <| zj 6 (fun r2 => [(42, (vb r2)), (4, (.pointer x30)), (25, (vS x25)), (26, (vi (vl x25))), (27, (vi s1)), (31, (.pointer x30))]) (fun r2 => ?_) (fun j2 => ?_)
  exact KT.nm 43 fun x43 => zp 44 (va x43 2) <| KT.s <| zn <| zg <| zp 45 (.pointer x30) <| zp 46 (.pointer x30) <| KT.nm 47 fun x47 => zp 48 (va x47 3) <| KT.l 49 fun x49 => zp 50 (vi (w64 (x49 - 1))) <| zp 51 (vi (maxI (w64 (x49 - 1)) (-1))) <| KT.nm 52 fun x52 => zp 53 (va x52 3) <| KT.s <| KT.nil <| SX.block <| SX.seq <| zg <| zp 54 (vi (w64 (s1 + 1))) <| zp 27 (vi (w64 (s1 + 1))) <| KT.nil zX
  refine KT.ite 36 rfl ?_ ?_
  exact zk <| zk <| zk <| zk <| zk <| zp 42 (vb true) <| zl j2
  exact zp 37 (.pointer x30) <| KT.nm 38 fun x38 => zp 39 (va x38 3) <| KT.l 40 fun x40 => zp 41 (vb (x40 == 0)) <| zp 42 (vb (x40 == 0)) <| zl j2
  exact SC.exit <| SX.then_exit <| SX.loop_exit <| SX.block_hit <| SX.seq <| zG <| zp 2 (vb true) <| zn <| SC.ret <| ze [.tmp 2] <| zm rfl zz
theorem device_Rack_counted_sim (p0_r : (Option Addr)) (p1_k : Int) (p2_sector : Int) (p3_size : Int) : Sm Tryz.prog 95 [(.pointer p0_r), (vi p1_k), (vi p2_sector), (vi p3_size)] (fun y : ((Option Addr) × Int) => (.tuple #[(.pointer y.1), (vi y.2)])) (device_Rack_counted p0_r p1_k p2_sector p3_size) := by
  refine sm_of 36 Tryz.func95 rfl rfl rfl fun _ => ?_
  unfold device_Rack_counted
  refine zG <| zp 8 (.pointer none) <| zp 9 (vi 0) <| zN <| zp 13 (.pointer p0_r) <| zp 14 (vi p1_k) <| zp 15 (vi p2_sector) <| zc 16 (device_Rack_disk_sim _ _ _) fun x16 => zp 12 (.tuple #[(.pointer x16.1), (vi x16.2)]) <| zp 17 (.pointer x16.1) <| zp 18 (vi x16.2) <| zp 10 (.pointer x16.1) <| zp 11 (vi x16.2) <| zn <| zq <| SC.block <| zG <| zp 20 (vi x16.2) <| zp 21 (vb (x16.2 != 0)) <| zp 19 (vb (x16.2 != 0)) <| zn <| SC.cond rfl ?_ ?_
  exact zG <| zp 22 (vi x16.2) <| zp 8 (.pointer none) <| zp 9 (vi x16.2) <| zn <| SC.ret <| SX.block_ret <| SX.then_ret <| ze [.tmp 8, .tmp 9] <| zm rfl <| zm rfl zz
  refine zG <| zp 24 (vi p3_size) <| zp 25 (vb (p3_size != 64)) <| zp 23 (vb (p3_size != 64)) <| zn <| SC.cond rfl ?_ ?_
  exact zG <| zp 8 (.pointer none) <| zp 9 (vi 11) <| zn <| SC.ret <| SX.block_ret <| SX.then_ret <| ze [.tmp 8, .tmp 9] <| zm rfl <| zm rfl zz
  refine zG <| zp 27 (.pointer p0_r) <| zc 28 (device_Rack_call_sim _) fun x28 => zp 29 (vb (!x28)) <| zp 26 (vb (!x28)) <| zn <| SC.cond rfl ?_ ?_
  exact zG <| zp 8 (.pointer none) <| zp 9 (vi 12) <| zn <| SC.ret <| SX.block_ret <| SX.then_ret <| ze [.tmp 8, .tmp 9] <| zm rfl <| zm rfl zz
  refine zG <| zp 31 (.pointer x16.1) <| KT.nm 32 fun x32 => zp 33 (va x32 2) <| KT.l 34 fun x34 => zp 30 (vb x34) <| KT.nil <| zS (T' := [(10, (.pointer x16.1)), (30, (vb x34))]) <| SX.seq <| SC.cond rfl ?_ ?_
  exact zG <| zp 8 (.pointer none) <| zp 9 (vi 13) <| zn <| SC.ret <| SX.block_ret <| SX.then_ret <| ze [.tmp 8, .tmp 9] <| zm rfl <| zm rfl zz
  exact SC.skip <| SX.block <| SX.seq <| zG <| zp 35 (.pointer x16.1) <| zp 8 (.pointer x16.1) <| zp 9 (vi 0) <| zn <| SC.ret <| ze [.tmp 8, .tmp 9] <| zm rfl <| zm rfl zz
theorem device_Rack_Write_sim (p0_r : (Option Addr)) (p1_disk : Int) (p2_sector : Int) (p3_b : Slc) : Sm Tryz.prog 82 [(.pointer p0_r), (vi p1_disk), (vi p2_sector), (vS p3_b)] (Value.int .i64) (device_Rack_Write p0_r p1_disk p2_sector p3_b) := by
  refine sm_of 30 Tryz.func82 rfl rfl rfl fun _ => ?_
  unfold device_Rack_Write
  refine zG <| zp 8 (vi 0) <| zN <| zp 12 (.pointer p0_r) <| zp 13 (vi p1_disk) <| zp 14 (vi p2_sector) <| zp 15 (vS p3_b) <| zp 16 (vi (vl p3_b)) <| zc 17 (device_Rack_counted_sim _ _ _ _) fun x17 => zp 11 (.tuple #[(.pointer x17.1), (vi x17.2)]) <| zp 18 (.pointer x17.1) <| zp 19 (vi x17.2) <| zp 9 (.pointer x17.1) <| zp 10 (vi x17.2) <| zn <| zq <| zG <| zp 20 (vi x17.2) <| zp 21 (vb (x17.2 == 0)) <| zn <| SC.cond rfl ?_ ?_
  exact SC.draw 8 (fun f => Nat.beq f 7) rfl (by kernel_rfl) fun S1 => zpA 0 22 (.pointer x17.1) <| zB 1 rfl <| onil 23 fun x23 => zpA 2 24 (va x23 1) <| zA 3 rfl <| oli 25 fun x25 => zpA 4 26 (vi p2_sector) <| zpA 5 27 (vS p3_b) <| KT.one 6 rfl (by kernel_rfl) rfl <| OW.step <| ocall 28 (slices_Clone_b_sim _) fun x28 => KT.and <| KT.last 7 rfl (by kernel_rfl) rfl rfl <| OW.upd 3 49 .i64 _ _ _ _ rfl rfl rfl rfl (by kernel_rfl) (by kernel_rfl) rfl <| KT.doneN (by kernel_rfl) <| SX.seq <| zG <| zp 29 (vi x17.2) <| zp 8 (vi x17.2) <| zn <| SC.ret <| ze [.tmp 8] <| zm rfl zz
  exact zw <| zG <| zp 29 (vi x17.2) <| zp 8 (vi x17.2) <| zn <| SC.ret <| ze [.tmp 8] <| zm rfl zz
theorem bank_Bank_Write_sim (p0_b : (Option Addr)) (p1_slot : Int) (p2_sector : Int) (p3_data : Slc) : Sm Tryz.prog 35 [(.pointer p0_b), (vi p1_slot), (vi p2_sector), (vS p3_data)] (Value.int .i64) (bank_Bank_Write p0_b p1_slot p2_sector p3_data) := by
  refine sm_of 27 Tryz.func35 rfl rfl rfl fun _ => ?_
  unfold bank_Bank_Write
  refine zG <| zp 8 (vi 0) <| zN <| zp 12 (.pointer p0_b) <| zp 13 (vi p1_slot) <| zc 14 (bank_Bank_disk_sim _ _) fun x14 => zp 11 (.tuple #[(vi x14.1), (vb x14.2)]) <| zp 15 (vi x14.1) <| zp 16 (vb x14.2) <| zp 9 (vi x14.1) <| zp 10 (vb x14.2) <| zn <| zq <| zG <| zp 17 (vb x14.2) <| zp 18 (vb (!x14.2)) <| zn <| SC.cond rfl ?_ ?_
  exact zG <| zp 8 (vi 11) <| zn <| zt <| ze [.tmp 8] <| zm rfl zz
  exact zw <| zG <| zp 19 (.pointer p0_b) <| KT.nm 20 fun x20 => zp 21 (vp x20) <| KT.l 22 fun x22 => zp 23 (vi x14.1) <| zp 24 (vi p2_sector) <| zp 25 (vS p3_data) <| zc 26 (device_Rack_Write_sim _ _ _ _) fun x26 => zp 8 (vi x26) <| zn <| SC.ret <| ze [.tmp 8] <| zm rfl zz
theorem bank_Bank_Geo_sim (p0_b : (Option Addr)) : Sm Tryz.prog 48 [(.pointer p0_b)] (fun y : (Int × Int × Int) => (.agg #[(vi y.1), (vi y.2.1), (vi y.2.2)])) (bank_Bank_Geo p0_b) := by
  refine sm_of 7 Tryz.func48 rfl rfl rfl fun _ => ?_
  unfold bank_Bank_Geo
  exact zG <| KT.nw 2 (fun ad => .pointer (some ad)) 41 fun x2 => zN <| zp 3 (.pointer p0_b) <| KT.nm 4 fun x4 => zp 5 (va x4 1) <| zo <| ola 6 3 fun x6 => zo <| osa <| zn <| SC.ret <| ze [.cell 2 41] <| RS.cellA 3 (by kernel_rfl) rfl rfl (fun _ => rfl) fun r2 => zz
theorem geo_Places_sim (p0_g : (Int × Int × Int)) : Sm Tryz.prog 87 [(.agg #[(vi p0_g.1), (vi p0_g.2.1), (vi p0_g.2.2)])] (Value.int .i64) (geo_Places p0_g) := by
  refine sm_of 8 Tryz.func87 rfl rfl rfl fun _ => ?_
  unfold geo_Places
  refine zG <| KT.nw 1 (fun ad => .pointer (some ad)) 41 fun x1 => zp 2 (vi 0) <| zn <| zq <| zG <| zo <| ola 3 3 fun x3 => zc 4 (geo_Right_sim _) fun x4 => zp 5 (vb (!x4)) <| zn <| SC.cond rfl ?_ ?_
  exact zG <| zp 2 (vi 0) <| zn <| zt <| ze [.tmp 2] <| zm rfl zz
  exact zw <| zG <| zo <| ola 6 3 fun x6 => zc 7 (geo_places_sim _) fun x7 => zp 2 (vi x7) <| zn <| SC.ret <| ze [.tmp 2] <| zm rfl zz
theorem bytes_Join_sim (p0_s : Slc) (p1_sep : Slc) : Sm Tryz.prog 112 [(vS p0_s), (vS p1_sep)] vS (bytes_Join p0_s p1_sep) := by
  refine sm_of 92 Tryz.func112 rfl rfl rfl fun _ => ?_
  unfold bytes_Join
  refine zG <| zp 4 (.slice none 0 0) <| zn <| zq <| zG <| zp 12 (vS p0_s) <| zp 13 (vi (vl p0_s)) <| zp 14 (vb ((vl p0_s) == 0)) <| zn <| SC.cond rfl ?_ ?_
  exact zG <| KT.nw 15 (fun ad => .slice (some ad) 0 0) 5 fun x15 => zp 4 (.slice (some x15) 0 0) <| zn <| zt <| ze [.tmp 4] <| zm rfl zz
  refine zw <| zq <| zG <| zp 16 (vS p0_s) <| zp 17 (vi (vl p0_s)) <| zp 18 (vb ((vl p0_s) == 1)) <| zn <| SC.cond rfl ?_ ?_
  exact zG <| zp 19 (vS p0_s) <| zy <| oix 20 49 fun x20 => KT.l 21 fun x21 => zo <| oapp 22 5 fun x22 => zp 4 (vS x22) <| zn <| zt <| ze [.tmp 4] <| zm rfl zz
  refine zw <| zG <| zp 5 (vi 0) <| zn <| zq <| zG <| zp 23 (vS p1_sep) <| zp 24 (vi (vl p1_sep)) <| zp 25 (vb (decide ((vl p1_sep) > 0))) <| zn <| SC.join (β := (Int)) (fun b1 => [(0, (vS p0_s)), (1, (vS p1_sep)), (5, (vi b1))]) (fun b1 => ?_) (fun j1 => ?_)
  refine SX.seq <| zq <| zG <| zp 42 (vS p0_s) <| zp 43 (vi (vl p0_s)) <| zp 44 (vi 0) <| zn <| SC.block <| zL (σ := (Int × Int)) (fun s2 => [(0, (vS p0_s)), (1, (vS p1_sep)), (5, (vi s2.1)), (42, (vS p0_s)), (43, (vi (vl p0_s))), (44, (vi s2.2))]) fun _ _ _ s2 => zG <| zp 45 (vb (decide (s2.2 < (vl p0_s)))) <| zn <| zq <| SC.cond rfl ?_ ?_
  refine zw <| zq <| SC.block <| zG <| zy <| oix 46 49 fun x46 => KT.l 47 fun x47 => zp 7 (vS x47) <| zn <| zq <| zG <| zp 48 (vS x47) <| zp 49 (vi (vl x47)) <| zp 50 (vi s2.1) <| zp 51 (vi (w64 (9223372036854775807 - s2.1))) <| zp 52 (vb (decide ((vl x47) > (w64 (9223372036854775807 - s2.1))))) <| zn <| SC.join (β := Unit) (fun b3 => [(0, (vS p0_s)), (1, (vS p1_sep)), (5, (vi s2.1)), (7, (vS x47)), (42, (vS p0_s)), (43, (vi (vl p0_s))), (44, (vi s2.2))]) (fun b3 => ?_) (fun j3 => ?_)
  exact SX.seq <| zg <| zp 54 (vi s2.1) <| zp 55 (vS x47) <| zp 56 (vi (vl x47)) <| zp 57 (vi (w64 (s2.1 + (vl x47)))) <| zp 5 (vi (w64 (s2.1 + (vl x47)))) <| KT.nil <| SX.block <| SX.seq <| zg <| zp 58 (vi (w64 (s2.2 + 1))) <| zp 44 (vi (w64 (s2.2 + 1))) <| KT.nil zX
  refine SC.cond rfl ?_ ?_
  exact zg <| zp 53 (.iface 9 (.string (ByteArray.mk #[98, 121, 116, 101, 115, 58, 32, 74, 111, 105, 110, 32, 111, 117, 116, 112, 117, 116, 32, 108, 101, 110, 103, 116, 104, 32, 111, 118, 101, 114, 102, 108, 111, 119]))) <| fun _ _ _ hm => hm.elim
  exact SC.skip <| zf j3
  refine SC.exit <| SX.then_exit <| SX.loop_exit <| SX.block_hit <| SX.seq <| zG <| zp 59 (vi s2.1) <| KT.ow rfl (OW.noZero (d := 60) (nn := s2.1) 120 #[3] 49 5 rfl (fun _ => by kernel_rfl) (fun w => makeNoZero_run s2.1 w) rfl rfl rfl (fun x60 => ?_))
  refine zp 61 (vi s2.1) <| zp 62 (vi s2.1) <| KT.oy rfl (OY.slice3 (d := 63) (s := x60) (hi := s2.1) (mi := s2.1) (size := 1) (elem := 5) _ _ _ _ rfl rfl rfl rfl (by kernel_rfl) (by kernel_rfl) rfl rfl (fun x63 => ?_))
  refine zp 8 (vS x63) <| zN <| zp 64 (vS x63) <| zp 65 (vS p0_s) <| zy <| oix 66 49 fun x66 => KT.l 67 fun x67 => KT.ow rfl (OW.copy (d := 68) (s := x63) (x := x67) 1 5 _ _ _ _ rfl rfl rfl rfl (by kernel_rfl) (by kernel_rfl) rfl rfl (fun x68 => ?_))
  refine zp 9 (vi x68) <| zn <| zq <| zG <| zp 69 (vS p0_s) <| KT.oy rfl (OY.slice10 (d := 70) (s := p0_s) (lo := 1) (size := 1) (elem := 49) _ _ _ rfl rfl rfl (by kernel_rfl) (by kernel_rfl) rfl rfl (fun x70 => ?_))
  refine zp 71 (vi (vl x70)) <| zp 72 (vi 0) <| zn <| SC.block <| zL (σ := (Int × Int)) (fun s4 => [(1, (vS p1_sep)), (8, (vS x63)), (9, (vi s4.1)), (70, (vS x70)), (71, (vi (vl x70))), (72, (vi s4.2))]) fun _ _ _ s4 => zG <| zp 73 (vb (decide (s4.2 < (vl x70)))) <| zn <| zq <| SC.cond rfl ?_ ?_
  refine zw <| zq <| SC.block <| zG <| zy <| oix 74 49 fun x74 => KT.l 75 fun x75 => zp 11 (vS x75) <| zN <| zp 76 (vi s4.1) <| zp 77 (vS x63) <| zp 78 (vi s4.1) <| KT.oy rfl (OY.slice10 (d := 79) (s := x63) (lo := s4.1) (size := 1) (elem := 5) _ _ _ rfl rfl rfl (by kernel_rfl) (by kernel_rfl) rfl rfl (fun x79 => ?_))
  refine zp 80 (vS p1_sep) <| KT.ow rfl (OW.copy (d := 81) (s := x79) (x := p1_sep) 1 5 _ _ _ _ rfl rfl rfl rfl (by kernel_rfl) (by kernel_rfl) rfl rfl (fun x81 => ?_))
  refine zp 82 (vi (w64 (s4.1 + x81))) <| zp 9 (vi (w64 (s4.1 + x81))) <| zn <| zg <| zp 83 (vi (w64 (s4.1 + x81))) <| zp 84 (vS x63) <| zp 85 (vi (w64 (s4.1 + x81))) <| KT.oy rfl (OY.slice10 (d := 86) (s := x63) (lo := w64 (s4.1 + x81)) (size := 1) (elem := 5) _ _ _ rfl rfl rfl (by kernel_rfl) (by kernel_rfl) rfl rfl (fun x86 => ?_))
  refine zp 87 (vS x75) <| KT.ow rfl (OW.copy (d := 88) (s := x86) (x := x75) 1 5 _ _ _ _ rfl rfl rfl rfl (by kernel_rfl) (by kernel_rfl) rfl rfl (fun x88 => ?_))
  exact zp 89 (vi (w64 ((w64 (s4.1 + x81)) + x88))) <| zp 9 (vi (w64 ((w64 (s4.1 + x81)) + x88))) <| KT.nil <| SX.block <| SX.seq <| zg <| zp 90 (vi (w64 (s4.2 + 1))) <| zp 72 (vi (w64 (s4.2 + 1))) <| KT.nil zX
  exact SC.exit <| SX.then_exit <| SX.loop_exit <| SX.block_hit <| SX.seq <| zG <| zp 91 (vS x63) <| zp 4 (vS x63) <| zn <| SC.ret <| ze [.tmp 4] <| zm rfl zz
  refine SC.cond rfl ?_ ?_
  refine zq <| zG <| zp 26 (vS p1_sep) <| zp 27 (vi (vl p1_sep)) <| zp 28 (vS p0_s) <| zp 29 (vi (vl p0_s)) <| zp 30 (vi (w64 ((vl p0_s) - 1))) <| KT.oy rfl (OY.quo (d := 31) (x := 9223372036854775807) (y := w64 ((vl p0_s) - 1)) _ _ _ _ (w64 (Int.tdiv 9223372036854775807 (w64 ((vl p0_s) - 1)))) rfl rfl rfl rfl rfl rfl ?_)
  refine zp 32 (vb (decide ((vl p1_sep) ≥ (w64 (Int.tdiv 9223372036854775807 (w64 ((vl p0_s) - 1))))))) <| zn <| SC.join (β := Unit) (fun b5 => [(0, (vS p0_s)), (1, (vS p1_sep)), (5, (vi 0))]) (fun b5 => ?_) (fun j5 => ?_)
  exact SX.seq <| zg <| zp 34 (vi 0) <| zp 35 (vS p1_sep) <| zp 36 (vi (vl p1_sep)) <| zp 37 (vS p0_s) <| zp 38 (vi (vl p0_s)) <| zp 39 (vi (w64 ((vl p0_s) - 1))) <| zp 40 (vi (w64 ((vl p1_sep) * (w64 ((vl p0_s) - 1))))) <| zp 41 (vi (w64 (0 + (w64 ((vl p1_sep) * (w64 ((vl p0_s) - 1))))))) <| zp 5 (vi (w64 (0 + (w64 ((vl p1_sep) * (w64 ((vl p0_s) - 1))))))) <| KT.nil <| zf j1
  refine SC.cond rfl ?_ ?_
  exact zg <| zp 33 (.iface 9 (.string (ByteArray.mk #[98, 121, 116, 101, 115, 58, 32, 74, 111, 105, 110, 32, 111, 117, 116, 112, 117, 116, 32, 108, 101, 110, 103, 116, 104, 32, 111, 118, 101, 114, 102, 108, 111, 119]))) <| fun _ _ _ hm => hm.elim
  exact SC.skip <| zf j5
  exact SC.skip <| zf j1
theorem bits_Put_sim (p0_width : Int) (p1_n : Int) : Sm Tryz.prog 113 [(vi p0_width), (vi p1_n)] vS (bits_Put p0_width p1_n) := by
  refine sm_of 41 Tryz.func113 rfl rfl rfl fun _ => ?_
  unfold bits_Put
  refine zG <| zp 4 (.slice none 0 0) <| zn <| zq <| zG <| zp 7 (vi p0_width) <| zp 8 (vb (decide (p0_width < 1))) <| zp 9 (vb (decide (p0_width < 1))) <| zj 3 (fun r1 => [(12, (vb r1)), (0, (vi p0_width)), (1, (vi p1_n))]) (fun r1 => ?_) (fun j1 => ?_)
  refine zp 13 (vb r1) <| zj 3 (fun r2 => [(16, (vb r2)), (0, (vi p0_width)), (1, (vi p1_n))]) (fun r2 => ?_) (fun j2 => ?_)
  refine zp 17 (vb r2) <| zj 6 (fun r3 => [(23, (vb r3)), (0, (vi p0_width)), (1, (vi p1_n))]) (fun r3 => ?_) (fun j3 => ?_)
  refine zn <| SC.cond rfl ?_ ?_
  exact zG <| zp 4 (.slice none 0 0) <| zn <| zt <| ze [.tmp 4] <| zm rfl zz
  refine zw <| zG <| zp 24 (vi p0_width) <| KT.ow rfl (OW.make (d := 25) (nn := p0_width) [(.int .u8 0)] 1 5 _ _ _ rfl rfl rfl (by kernel_rfl) (by kernel_rfl) rfl rfl rfl (fun x25 => ?_))
  refine zp 5 (vS x25) <| zn <| zq <| zG <| zp 26 (vS x25) <| zp 27 (vi (vl x25)) <| zp 28 (vi 0) <| zn <| SC.block <| zL (σ := (Int)) (fun s4 => [(1, (vi p1_n)), (5, (vS x25)), (27, (vi (vl x25))), (28, (vi s4))]) fun _ _ _ s4 => zG <| zp 29 (vb (decide (s4 < (vl x25)))) <| zn <| zq <| SC.cond rfl ?_ ?_
  refine zw <| zq <| SC.block <| zG <| zp 30 (vi s4) <| zp 6 (vi s4) <| zn <| zg <| zp 31 (vS x25) <| zp 32 (vi s4) <| zp 33 (vi p1_n) <| zp 34 (vi s4) <| zp 35 (vi (w64 (8 * s4))) <| KT.oy rfl (OY.shr (d := 36) (x := p1_n) (y := w64 (8 * s4)) _ _ _ _ (bShr .i64 p1_n (w64 (8 * s4))) rfl rfl rfl rfl rfl rfl ?_)
  exact zp 37 (.int .u8 (IntKind.wrap .u8 (bShr .i64 p1_n (w64 (8 * s4))))) <| zy <| oix 38 5 fun x38 => KT.s <| KT.nil <| SX.block <| SX.seq <| zg <| zp 39 (vi (w64 (s4 + 1))) <| zp 28 (vi (w64 (s4 + 1))) <| KT.nil zX
  exact SC.exit <| SX.then_exit <| SX.loop_exit <| SX.block_hit <| SX.seq <| zG <| zp 40 (vS x25) <| zp 4 (vS x25) <| zn <| SC.ret <| ze [.tmp 4] <| zm rfl zz
  refine KT.ite 17 rfl ?_ ?_
  exact zk <| zk <| zk <| zk <| zk <| zp 23 (vb true) <| zl j3
  refine zp 18 (vi p1_n) <| zp 19 (vi p0_width) <| zp 20 (vi (w64 (8 * p0_width))) <| KT.oy rfl (OY.shr (d := 21) (x := p1_n) (y := w64 (8 * p0_width)) _ _ _ _ (bShr .i64 p1_n (w64 (8 * p0_width))) rfl rfl rfl rfl rfl rfl ?_)
  exact zp 22 (vb (decide ((bShr .i64 p1_n (w64 (8 * p0_width))) > 0))) <| zp 23 (vb (decide ((bShr .i64 p1_n (w64 (8 * p0_width))) > 0))) <| zl j3
  refine KT.ite 13 rfl ?_ ?_
  exact zk <| zk <| zp 16 (vb true) <| zl j2
  exact zp 14 (vi p1_n) <| zp 15 (vb (decide (p1_n < 0))) <| zp 16 (vb (decide (p1_n < 0))) <| zl j2
  refine KT.ite 9 rfl ?_ ?_
  exact zk <| zk <| zp 12 (vb true) <| zl j1
  exact zp 10 (vi p0_width) <| zp 11 (vb (decide (p0_width > 4))) <| zp 12 (vb (decide (p0_width > 4))) <| zl j1
theorem bits_Pad_sim (p0_b : Slc) (p1_n : Int) : Sm Tryz.prog 114 [(vS p0_b), (vi p1_n)] (fun y : (Slc × Bool) => (.tuple #[(vS y.1), (vb y.2)])) (bits_Pad p0_b p1_n) := by
  refine sm_of 21 Tryz.func114 rfl rfl rfl fun _ => ?_
  unfold bits_Pad
  refine zG <| zp 4 (.slice none 0 0) <| zp 5 (vb false) <| zn <| zq <| zG <| zp 7 (vi p1_n) <| zp 8 (vb (decide (p1_n > 65536))) <| zp 9 (vb (decide (p1_n > 65536))) <| zj 5 (fun r1 => [(14, (vb r1)), (0, (vS p0_b)), (1, (vi p1_n))]) (fun r1 => ?_) (fun j1 => ?_)
  refine zn <| SC.cond rfl ?_ ?_
  exact zG <| zp 4 (.slice none 0 0) <| zp 5 (vb false) <| zn <| zt <| ze [.tmp 4, .tmp 5] <| zm rfl <| zm rfl zz
  refine zw <| zG <| zp 15 (vi p1_n) <| KT.ow rfl (OW.make (d := 16) (nn := p1_n) [(.int .u8 0)] 1 5 _ _ _ rfl rfl rfl (by kernel_rfl) (by kernel_rfl) rfl rfl rfl (fun x16 => ?_))
  refine zp 6 (vS x16) <| zN <| zp 17 (vS x16) <| zp 18 (vS p0_b) <| KT.ow rfl (OW.copy (d := 19) (s := x16) (x := p0_b) 1 5 _ _ _ _ rfl rfl rfl rfl (by kernel_rfl) (by kernel_rfl) rfl rfl (fun x19 => ?_))
  exact zN <| zp 20 (vS x16) <| zp 4 (vS x16) <| zp 5 (vb true) <| zn <| SC.ret <| ze [.tmp 4, .tmp 5] <| zm rfl <| zm rfl zz
  refine KT.ite 9 rfl ?_ ?_
  exact zk <| zk <| zk <| zk <| zp 14 (vb true) <| zl j1
  exact zp 10 (vS p0_b) <| zp 11 (vi (vl p0_b)) <| zp 12 (vi p1_n) <| zp 13 (vb (decide ((vl p0_b) > p1_n))) <| zp 14 (vb (decide ((vl p0_b) > p1_n))) <| zl j1
theorem sector_Encode_sim (p0_h : (Int × Int × Int)) (p1_payload : Slc) : Sm Tryz.prog 88 [(.agg #[(vi p0_h.1), (vi p0_h.2.1), (vi p0_h.2.2)]), (vS p1_payload)] (fun y : (Slc × Bool) => (.tuple #[(vS y.1), (vb y.2)])) (sector_Encode p0_h p1_payload) := by
  refine sm_of 35 Tryz.func88 rfl rfl rfl fun _ => ?_
  unfold sector_Encode
  refine zG <| KT.nw 2 (fun ad => .pointer (some ad)) 116 fun x2 => zp 4 (.slice none 0 0) <| zp 5 (vb false) <| zn <| zq <| SC.draw 12 (fun _ => false) rfl (by kernel_rfl) fun S1 => zpA 0 9 (vp x2) <| zA 1 rfl <| oli 10 fun x10 => zpA 3 12 (va x2 1) <| zA 4 rfl <| oli 13 fun x13 => zpA 6 15 (va x2 2) <| zA 7 rfl <| oli 16 fun x16 => KT.one 2 rfl (by kernel_rfl) rfl <| OW.step <| ocall 11 (bits_Put_sim _ _) fun x11 => KT.and <| KT.one 5 rfl (by kernel_rfl) rfl <| OW.step <| ocall 14 (bits_Put_sim _ _) fun x14 => KT.and <| KT.one 8 rfl (by kernel_rfl) rfl <| OW.step <| ocall 17 (bits_Put_sim _ _) fun x17 => KT.and <| KT.one 9 rfl (by kernel_rfl) rfl <| OW.step <| OW.new (d := 18) [(vS x11), (vS x14), (vS x17)] (fun ad => .slice (some ad) 3 3) 49 rfl (fun _ => by kernel_rfl) rfl rfl fun x18 => KT.and <| KT.one 10 rfl (by kernel_rfl) rfl <| OW.step <| ocall 19 (bytes_Join_sim _ _) fun x19 => KT.and <| zpA 11 6 (vS x19) <| KT.doneA (by kernel_rfl) <| SX.seq <| zG <| zp 21 (vS p1_payload) <| zc 22 (bits_Pad_sim _ _) fun x22 => zp 20 (.tuple #[(vS x22.1), (vb x22.2)]) ?_
  refine zp 23 (vS x22.1) <| zp 24 (vb x22.2) <| zp 7 (vS x22.1) <| zp 8 (vb x22.2) <| zn <| zq <| zG <| zp 25 (vb x22.2) <| zp 26 (vb (!x22.2)) <| zp 27 (vb (!x22.2)) <| zj 4 (fun r2 => [(31, (vb r2)), (6, (vS x19)), (7, (vS x22.1))]) (fun r2 => ?_) (fun j2 => ?_)
  refine zn <| SC.cond rfl ?_ ?_
  exact zG <| zp 4 (.slice none 0 0) <| zp 5 (vb false) <| zn <| zt <| ze [.tmp 4, .tmp 5] <| zm rfl <| zm rfl zz
  exact zw <| zG <| zp 32 (vS x19) <| zp 33 (vS x22.1) <| zo <| oapp 34 5 fun x34 => zp 4 (vS x34) <| zp 5 (vb true) <| zn <| SC.ret <| ze [.tmp 4, .tmp 5] <| zm rfl <| zm rfl zz
  refine KT.ite 27 rfl ?_ ?_
  exact zk <| zk <| zk <| zp 31 (vb true) <| zl j2
  exact zp 28 (vS x19) <| zp 29 (vi (vl x19)) <| zp 30 (vb ((vl x19) != 8)) <| zp 31 (vb ((vl x19) != 8)) <| zl j2
theorem stripe_encoded_sim (p0_g : (Int × Int × Int)) (p1_seq : Int) (p2_blocks : Slc) : Sm Tryz.prog 49 [(.agg #[(vi p0_g.1), (vi p0_g.2.1), (vi p0_g.2.2)]), (vi p1_seq), (vS p2_blocks)] vS (stripe_encoded p0_g p1_seq p2_blocks) := by
  refine sm_of 46 Tryz.func49 rfl rfl rfl fun _ => ?_
  unfold stripe_encoded
  refine zG <| KT.nw 3 (fun ad => .pointer (some ad)) 41 fun x3 => zp 6 (.slice none 0 0) <| zN <| zp 7 (.slice none 0 0) <| zn <| zq <| zG <| zo <| ola 12 3 fun x12 => zc 13 (geo_Places_sim _) fun x13 => zp 14 (vi (w64 (x13 + 1))) <| zp 15 (vi 0) <| zn <| SC.block <| zL (σ := (Slc × Int)) (fun s1 => [(1, (vi p1_seq)), (2, (vS p2_blocks)), (7, (vS s1.1)), (14, (vi (w64 (x13 + 1)))), (15, (vi s1.2))]) fun _ _ _ s1 => zG <| zp 16 (vb (decide (s1.2 < (w64 (x13 + 1))))) <| zn <| zq <| SC.cond rfl ?_ ?_
  refine zw <| zq <| SC.block <| zG <| zp 17 (vi s1.2) <| zp 8 (vi s1.2) <| zN <| KT.nw 9 (fun ad => .pointer (some ad)) 58 fun x9 => zn <| zq <| zG <| zp 18 (vi s1.2) <| zp 19 (vS p2_blocks) <| zp 20 (vi (vl p2_blocks)) <| zp 21 (vb (decide (s1.2 < (vl p2_blocks)))) <| zn <| SC.join (β := Unit) (fun b2 => [(1, (vi p1_seq)), (2, (vS p2_blocks)), (7, (vS s1.1)), (9, (vp x9)), (14, (vi (w64 (x13 + 1)))), (15, (vi s1.2))]) (fun b2 => ?_) (fun j2 => ?_)
  refine SX.seq <| zG <| zp 27 (vi p1_seq) <| zp 28 (vp x9) <| KT.l 29 fun x29 => zp 30 (va x9 1) <| KT.l 31 fun x31 => zp 32 (.agg #[(vi p1_seq), (vi x29), (vi x31)]) <| zp 33 (va x9 2) <| KT.l 34 fun x34 => zc 35 (sector_Encode_sim _ _) fun x35 => zp 26 (.tuple #[(vS x35.1), (vb x35.2)]) <| zp 36 (vS x35.1) <| zp 37 (vb x35.2) <| zp 10 (vS x35.1) <| zp 11 (vb x35.2) <| zn <| zq <| zG <| zp 38 (vb x35.2) <| zp 39 (vb (!x35.2)) <| zn <| SC.cond rfl ?_ ?_
  exact zG <| zp 6 (.slice none 0 0) <| zn <| zt <| SX.block_ret <| SX.then_ret <| SX.loop_ret <| SX.block_ret <| SX.then_ret <| ze [.tmp 6] <| zm rfl zz
  exact zw <| zg <| zp 40 (vS s1.1) <| zp 41 (vS x35.1) <| KT.nw 42 (fun ad => .slice (some ad) 1 1) 49 fun x42 => zo <| oapp 43 49 fun x43 => zp 7 (vS x43) <| KT.nil <| SX.block <| SX.seq <| zg <| zp 44 (vi (w64 (s1.2 + 1))) <| zp 15 (vi (w64 (s1.2 + 1))) <| KT.nil zX
  refine SC.cond rfl ?_ ?_
  exact zg <| zp 22 (vS p2_blocks) <| zp 23 (vi s1.2) <| zy <| oix 24 58 fun x24 => zo <| ola 25 3 fun x25 => zo <| osa <| KT.nil <| zf j2
  exact SC.skip <| zf j2
  exact SC.exit <| SX.then_exit <| SX.loop_exit <| SX.block_hit <| SX.seq <| zG <| zp 45 (vS s1.1) <| zp 6 (vS s1.1) <| zn <| SC.ret <| ze [.tmp 6] <| zm rfl zz
theorem device_Rack_Failed_sim (p0_r : (Option Addr)) (p1_disk : Int) : Sm Tryz.prog 89 [(.pointer p0_r), (vi p1_disk)] Value.bool (device_Rack_Failed p0_r p1_disk) := by
  refine sm_of 28 Tryz.func89 rfl rfl rfl fun _ => ?_
  unfold device_Rack_Failed
  refine zG <| zp 4 (vb false) <| zN <| zp 5 (vi p1_disk) <| zp 6 (vb (decide (p1_disk ≥ 0))) <| zp 7 (vb (decide (p1_disk ≥ 0))) <| zj 8 (fun r1 => [(15, (vb r1)), (0, (.pointer p0_r)), (1, (vi p1_disk))]) (fun r1 => ?_) (fun j1 => ?_)
  refine zp 16 (vb r1) <| zj 11 (fun r2 => [(27, (vb r2))]) (fun r2 => ?_) (fun j2 => ?_)
  exact zp 4 (vb r2) <| zn <| SC.ret <| ze [.tmp 4] <| zm rfl zz
  refine KT.ite 16 rfl ?_ ?_
  exact zp 17 (.pointer p0_r) <| KT.nm 18 fun x18 => zp 19 (vp x18) <| KT.l 20 fun x20 => zp 21 (vi p1_disk) <| zy <| oix 22 87 fun x22 => KT.l 23 fun x23 => KT.nm 24 fun x24 => zp 25 (va x24 2) <| KT.l 26 fun x26 => zp 27 (vb x26) <| zl j2
  exact zk <| zk <| zk <| zk <| zk <| zk <| zk <| zk <| zk <| zk <| zp 27 (vb false) <| zl j2
  refine KT.ite 7 rfl ?_ ?_
  exact zp 8 (vi p1_disk) <| zp 9 (.pointer p0_r) <| KT.nm 10 fun x10 => zp 11 (vp x10) <| KT.l 12 fun x12 => zp 13 (vi (vl x12)) <| zp 14 (vb (decide (p1_disk < (vl x12)))) <| zp 15 (vb (decide (p1_disk < (vl x12)))) <| zl j1
  exact zk <| zk <| zk <| zk <| zk <| zk <| zk <| zp 15 (vb false) <| zl j1
theorem bank_Bank_Bad_sim (p0_b : (Option Addr)) : Sm Tryz.prog 50 [(.pointer p0_b)] vS (bank_Bank_Bad p0_b) := by
  refine sm_of 50 Tryz.func50 rfl rfl rfl fun _ => ?_
  unfold bank_Bank_Bad
  refine zG <| zp 2 (.slice none 0 0) <| zN <| zp 3 (.slice none 0 0) <| zn <| zq <| zG <| zp 7 (.pointer p0_b) <| KT.nm 8 fun x8 => zp 9 (va x8 1) <| zp 10 (va x8 1) <| KT.l 11 fun x11 => zp 12 (vi 0) <| zn <| SC.block <| zL (σ := (Slc × Int)) (fun s1 => [(0, (.pointer p0_b)), (3, (vS s1.1)), (11, (vi x11)), (12, (vi s1.2))]) fun _ _ _ s1 => zG <| zp 13 (vb (decide (s1.2 < x11))) <| zn <| zq <| SC.cond rfl ?_ ?_
  refine zw <| zq <| SC.block <| zG <| zp 14 (vi s1.2) <| zp 4 (vi s1.2) <| zN <| zp 16 (.pointer p0_b) <| zp 17 (vi s1.2) <| zc 18 (bank_Bank_disk_sim _ _) fun x18 => zp 15 (.tuple #[(vi x18.1), (vb x18.2)]) <| zp 19 (vi x18.1) <| zp 20 (vb x18.2) <| zp 5 (vi x18.1) <| zp 6 (vb x18.2) <| zN <| zp 21 (.pointer p0_b) <| KT.nm 22 fun x22 => zp 23 (vp x22) <| KT.l 24 fun x24 => zp 25 (vi x18.1) <| zc 26 (device_Rack_Failed_sim _ _) fun x26 => zp 27 (vb x26) <| zj 16 (fun r2 => [(43, (vb r2)), (0, (.pointer p0_b)), (3, (vS s1.1)), (4, (vi s1.2)), (11, (vi x11)), (12, (vi s1.2))]) (fun r2 => ?_) (fun j2 => ?_)
  refine zn <| SC.cond rfl ?_ ?_
  exact zg <| zp 44 (vS s1.1) <| zp 45 (vi s1.2) <| KT.nw 46 (fun ad => .slice (some ad) 1 1) 3 fun x46 => zo <| oapp 47 3 fun x47 => zp 3 (vS x47) <| KT.nil <| SX.block <| SX.seq <| zg <| zp 48 (vi (w64 (s1.2 + 1))) <| zp 12 (vi (w64 (s1.2 + 1))) <| KT.nil zX
  exact SC.skip <| SX.block <| SX.seq <| zg <| zp 48 (vi (w64 (s1.2 + 1))) <| zp 12 (vi (w64 (s1.2 + 1))) <| KT.nil zX
  refine KT.ite 27 rfl ?_ ?_
  exact zk <| zk <| zk <| zk <| zk <| zk <| zk <| zk <| zk <| zk <| zk <| zk <| zk <| zk <| zk <| zp 43 (vb true) <| zl j2
  refine zp 28 (.pointer p0_b) <| KT.nm 29 fun x29 => zp 30 (va x29 4) <| zp 31 (.pointer (some (Addr.add (Addr.add x29 4) 2))) <| KT.l 32 fun x32 => zp 33 (vb (x32 == 1)) <| zp 34 (vb (x32 == 1)) <| zj 8 (fun r3 => [(42, (vb r3)), (0, (.pointer p0_b)), (3, (vS s1.1)), (4, (vi s1.2)), (11, (vi x11)), (12, (vi s1.2)), (27, (vb false))]) (fun r3 => ?_) (fun j3 => ?_)
  exact zp 43 (vb r3) <| zl j2
  refine KT.ite 34 rfl ?_ ?_
  exact zp 35 (.pointer p0_b) <| KT.nm 36 fun x36 => zp 37 (va x36 4) <| zp 38 (.pointer (some (Addr.add (Addr.add x36 4) 1))) <| KT.l 39 fun x39 => zp 40 (vi s1.2) <| zp 41 (vb (x39 == s1.2)) <| zp 42 (vb (x39 == s1.2)) <| zl j3
  exact zk <| zk <| zk <| zk <| zk <| zk <| zk <| zp 42 (vb false) <| zl j3
  exact SC.exit <| SX.then_exit <| SX.loop_exit <| SX.block_hit <| SX.seq <| zG <| zp 49 (vS s1.1) <| zp 2 (vS s1.1) <| zn <| SC.ret <| ze [.tmp 2] <| zm rfl zz
theorem geo_Parity_sim (p0_g : (Int × Int × Int)) (p1_seg : Int) (p2_row : Int) : Sm Tryz.prog 91 [(.agg #[(vi p0_g.1), (vi p0_g.2.1), (vi p0_g.2.2)]), (vi p1_seg), (vi p2_row)] (fun y : ((Int × Int) × Bool) => (.tuple #[(.agg #[(vi y.1.1), (vi y.1.2)]), (vb y.2)])) (geo_Parity p0_g p1_seg p2_row) := by
  refine sm_of 46 Tryz.func91 rfl rfl rfl fun _ => ?_
  unfold geo_Parity
  refine zG <| KT.nw 3 (fun ad => .pointer (some ad)) 41 fun x3 => KT.nw 6 (fun ad => .pointer (some ad)) 105 fun x6 => zp 7 (vb false) <| zn <| zq <| zG <| zo <| ola 9 3 fun x9 => zc 10 (geo_Right_sim _) fun x10 => zp 11 (vb (!x10)) <| zp 12 (vb (!x10)) <| zj 7 (fun r1 => [(19, (vb r1)), (1, (vi p1_seg)), (2, (vi p2_row)), (3, (vp x3)), (6, (vp x6))]) (fun r1 => ?_) (fun j1 => ?_)
  refine zp 20 (vb r1) <| zj 7 (fun r2 => [(27, (vb r2)), (1, (vi p1_seg)), (2, (vi p2_row)), (3, (vp x3)), (6, (vp x6))]) (fun r2 => ?_) (fun j2 => ?_)
  refine zn <| SC.cond rfl ?_ ?_
  exact zG <| zp 28 (.agg #[(vi 0), (vi 0)]) <| zo <| osa <| zp 7 (vb false) <| zn <| zt <| ze [.cell 6 105, .tmp 7] <| RS.cellA 2 (by kernel_rfl) rfl rfl (fun _ => rfl) fun r6 => zm rfl zz
  refine zw <| zG <| zp 29 (vi p1_seg) <| zp 30 (va x3 1) <| KT.l 31 fun x31 => zp 32 (vi (w64 (p1_seg * x31))) <| zp 33 (vi p2_row) <| zp 34 (vi (w64 ((w64 (p1_seg * x31)) + p2_row))) <| zp 8 (vi (w64 ((w64 (p1_seg * x31)) + p2_row))) <| zn <| zq <| SC.draw 13 (fun f => Nat.beq f 11) rfl (by kernel_rfl) fun S3 => zpA 0 35 (vp x3) <| zA 1 rfl <| oli 36 fun x36 => zpA 2 37 (vi (w64 (x36 - 1))) <| zpA 3 38 (vi (w64 ((w64 (p1_seg * x31)) + p2_row))) <| zpA 4 39 (vp x3) <| zA 5 rfl <| oli 40 fun x40 => KT.tp 6 (OY.rem (d := 41) (x := w64 ((w64 (p1_seg * x31)) + p2_row)) (y := x40) _ _ _ _ (Int.tmod (w64 ((w64 (p1_seg * x31)) + p2_row)) x40) rfl rfl rfl rfl rfl rfl ?_)
  exact zpA 7 42 (vi (w64 ((w64 (x36 - 1)) - (Int.tmod (w64 ((w64 (p1_seg * x31)) + p2_row)) x40)))) <| zpA 8 43 (vi (w64 ((w64 (p1_seg * x31)) + p2_row))) <| zpA 9 44 (vi (w64 (5 + (w64 ((w64 (p1_seg * x31)) + p2_row))))) <| zpA 10 45 (.agg #[(vi (w64 ((w64 (x36 - 1)) - (Int.tmod (w64 ((w64 (p1_seg * x31)) + p2_row)) x40)))), (vi (w64 (5 + (w64 ((w64 (p1_seg * x31)) + p2_row)))))]) <| KT.last 11 rfl (by kernel_rfl) rfl rfl <| OW.stA _ _ _ rfl rfl rfl rfl rfl (by kernel_rfl) <| KT.pvN 12 7 (vb true) <| KT.doneN (by kernel_rfl) <| SX.seq <| SC.ret <| ze [.cell 6 105, .tmp 7] <| RS.cellA 2 (by kernel_rfl) rfl rfl (fun _ => rfl) fun r6 => zm rfl zz
  refine KT.ite 20 rfl ?_ ?_
  exact zk <| zk <| zk <| zk <| zk <| zk <| zp 27 (vb true) <| zl j2
  exact zp 21 (vi p2_row) <| zp 22 (va x3 1) <| KT.l 23 fun x23 => zp 24 (vi (w64 (x23 - 1))) <| zc 25 (geo_within_sim _ _ _) fun x25 => zp 26 (vb (!x25)) <| zp 27 (vb (!x25)) <| zl j2
  refine KT.ite 12 rfl ?_ ?_
  exact zk <| zk <| zk <| zk <| zk <| zk <| zp 19 (vb true) <| zl j1
  exact zp 13 (vi p1_seg) <| zp 14 (va x3 2) <| KT.l 15 fun x15 => zp 16 (vi (w64 (x15 - 1))) <| zc 17 (geo_within_sim _ _ _) fun x17 => zp 18 (vb (!x17)) <| zp 19 (vb (!x17)) <| zl j1
theorem geo_Block_sim (p0_g : (Int × Int × Int)) (p1_seg : Int) (p2_k : Int) : Sm Tryz.prog 59 [(.agg #[(vi p0_g.1), (vi p0_g.2.1), (vi p0_g.2.2)]), (vi p1_seg), (vi p2_k)] (fun y : ((Int × Int) × Bool) => (.tuple #[(.agg #[(vi y.1.1), (vi y.1.2)]), (vb y.2)])) (geo_Block p0_g p1_seg p2_k) := by
  refine sm_of 48 Tryz.func59 rfl rfl rfl fun _ => ?_
  unfold geo_Block
  refine zG <| KT.nw 3 (fun ad => .pointer (some ad)) 41 fun x3 => KT.nw 6 (fun ad => .pointer (some ad)) 105 fun x6 => zp 7 (vb false) <| zn <| zq <| zG <| zo <| ola 10 3 fun x10 => zc 11 (geo_Right_sim _) fun x11 => zp 12 (vb (!x11)) <| zp 13 (vb (!x11)) <| zj 6 (fun r1 => [(19, (vb r1)), (1, (vi p1_seg)), (2, (vi p2_k)), (3, (vp x3)), (6, (vp x6))]) (fun r1 => ?_) (fun j1 => ?_)
  refine zn <| SC.cond rfl ?_ ?_
  exact zG <| zp 20 (.agg #[(vi 0), (vi 0)]) <| zo <| osa <| zp 7 (vb false) <| zn <| zt <| ze [.cell 6 105, .tmp 7] <| RS.cellA 2 (by kernel_rfl) rfl rfl (fun _ => rfl) fun r6 => zm rfl zz
  refine zw <| zq <| SC.draw 14 (fun f => Nat.beq f 12) rfl (by kernel_rfl) fun S2 => zA 0 rfl <| olai 22 3 fun x22 => zpA 1 23 (vi p1_seg) <| zpA 2 24 (vi p2_k) <| zpA 3 25 (vp x3) <| zA 4 rfl <| oli 26 fun x26 => zpA 5 27 (vi (w64 (x26 - 1))) <| KT.tp 6 (OY.quo (d := 28) (x := p2_k) (y := w64 (x26 - 1)) _ _ _ _ (w64 (Int.tdiv p2_k (w64 (x26 - 1)))) rfl rfl rfl rfl rfl rfl ?_)
  refine KT.two 7 11 rfl rfl (by kernel_rfl) rfl rfl ?_ ?_
  refine OW.step (ocall 29 (geo_Parity_sim _ _ _) fun x29 => ?_)
  refine KT.and <| zpA 8 21 (.tuple #[(.agg #[(vi x29.1.1), (vi x29.1.2)]), (vb x29.2)]) <| zpA 9 30 (.agg #[(vi x29.1.1), (vi x29.1.2)]) <| zpA 10 31 (vb x29.2) <| KT.one 11 rfl (by kernel_rfl) rfl <| OW.step <| OW.new (d := 8) [(vi 0), (vi 0)] (fun ad => .pointer (some ad)) 105 rfl (fun _ => by kernel_rfl) rfl rfl fun x8 => KT.and <| KT.last 12 rfl (by kernel_rfl) rfl rfl <| OW.stA _ _ _ rfl rfl rfl rfl rfl (by kernel_rfl) <| KT.pvN 13 9 (vb x29.2) <| KT.doneN (by kernel_rfl) <| SX.seq <| zq <| zG <| zp 32 (vb x29.2) <| zn <| SC.cond rfl ?_ ?_
  refine SC.draw 14 (fun f => Nat.beq f 13) rfl (by kernel_rfl) fun S3 => zpA 0 33 (vp x8) <| zA 1 rfl <| oli 34 fun x34 => zpA 2 35 (vi (w64 (x34 + 1))) <| zpA 3 36 (vi p2_k) <| zpA 4 37 (vp x3) <| zA 5 rfl <| oli 38 fun x38 => zpA 6 39 (vi (w64 (x38 - 1))) <| KT.tp 7 (OY.rem (d := 40) (x := p2_k) (y := w64 (x38 - 1)) _ _ _ _ (Int.tmod p2_k (w64 (x38 - 1))) rfl rfl rfl rfl rfl rfl ?_)
  refine zpA 8 41 (vi (w64 ((w64 (x34 + 1)) + (Int.tmod p2_k (w64 (x38 - 1)))))) <| zpA 9 42 (vp x3) <| zA 10 rfl <| oli 43 fun x43 => KT.tp 11 (OY.rem (d := 44) (x := w64 ((w64 (x34 + 1)) + (Int.tmod p2_k (w64 (x38 - 1))))) (y := x43) _ _ _ _ (Int.tmod (w64 ((w64 (x34 + 1)) + (Int.tmod p2_k (w64 (x38 - 1))))) x43) rfl rfl rfl rfl rfl rfl ?_)
  exact zpA 12 45 (vp x8) <| KT.last 13 rfl (by kernel_rfl) rfl rfl <| OW.st _ _ _ rfl rfl rfl rfl (by kernel_rfl) rfl <| KT.doneN (by kernel_rfl) <| zS (T' := [(6, (vp x6)), (8, (vp x8)), (9, (vb x29.2))]) <| SX.seq <| zG <| zo <| ola 46 2 fun x46 => zp 47 (vb x29.2) <| zo <| osa <| zp 7 (vb x29.2) <| zn <| SC.ret <| ze [.cell 6 105, .tmp 7] <| RS.cellA 2 (by kernel_rfl) rfl rfl (fun _ => rfl) fun r6 => zm rfl zz
  exact zw <| zG <| zo <| ola 46 2 fun x46 => zp 47 (vb x29.2) <| zo <| osa <| zp 7 (vb x29.2) <| zn <| SC.ret <| ze [.cell 6 105, .tmp 7] <| RS.cellA 2 (by kernel_rfl) rfl rfl (fun _ => rfl) fun r6 => zm rfl zz
  refine OW.step (OW.new (d := 8) [(vi 0), (vi 0)] (fun ad => .pointer (some ad)) 105 rfl (fun _ => by kernel_rfl) rfl rfl (fun x8 => ?_))
  refine KT.and <| KT.one 7 rfl (by kernel_rfl) rfl <| OW.step <| ocall 29 (geo_Parity_sim _ _ _) fun x29 => KT.and <| zpA 8 21 (.tuple #[(.agg #[(vi x29.1.1), (vi x29.1.2)]), (vb x29.2)]) <| zpA 9 30 (.agg #[(vi x29.1.1), (vi x29.1.2)]) <| zpA 10 31 (vb x29.2) <| KT.last 12 rfl (by kernel_rfl) rfl rfl <| OW.stA _ _ _ rfl rfl rfl rfl rfl (by kernel_rfl) <| KT.pvN 13 9 (vb x29.2) <| KT.doneN (by kernel_rfl) <| SX.seq <| zq <| zG <| zp 32 (vb x29.2) <| zn <| SC.cond rfl ?_ ?_
  refine SC.draw 14 (fun f => Nat.beq f 13) rfl (by kernel_rfl) fun S4 => zpA 0 33 (vp x8) <| zA 1 rfl <| oli 34 fun x34 => zpA 2 35 (vi (w64 (x34 + 1))) <| zpA 3 36 (vi p2_k) <| zpA 4 37 (vp x3) <| zA 5 rfl <| oli 38 fun x38 => zpA 6 39 (vi (w64 (x38 - 1))) <| KT.tp 7 (OY.rem (d := 40) (x := p2_k) (y := w64 (x38 - 1)) _ _ _ _ (Int.tmod p2_k (w64 (x38 - 1))) rfl rfl rfl rfl rfl rfl ?_)
  refine zpA 8 41 (vi (w64 ((w64 (x34 + 1)) + (Int.tmod p2_k (w64 (x38 - 1)))))) <| zpA 9 42 (vp x3) <| zA 10 rfl <| oli 43 fun x43 => KT.tp 11 (OY.rem (d := 44) (x := w64 ((w64 (x34 + 1)) + (Int.tmod p2_k (w64 (x38 - 1))))) (y := x43) _ _ _ _ (Int.tmod (w64 ((w64 (x34 + 1)) + (Int.tmod p2_k (w64 (x38 - 1))))) x43) rfl rfl rfl rfl rfl rfl ?_)
  exact zpA 12 45 (vp x8) <| KT.last 13 rfl (by kernel_rfl) rfl rfl <| OW.st _ _ _ rfl rfl rfl rfl (by kernel_rfl) rfl <| KT.doneN (by kernel_rfl) <| zS (T' := [(6, (vp x6)), (8, (vp x8)), (9, (vb x29.2))]) <| SX.seq <| zG <| zo <| ola 46 2 fun x46 => zp 47 (vb x29.2) <| zo <| osa <| zp 7 (vb x29.2) <| zn <| SC.ret <| ze [.cell 6 105, .tmp 7] <| RS.cellA 2 (by kernel_rfl) rfl rfl (fun _ => rfl) fun r6 => zm rfl zz
  exact zw <| zG <| zo <| ola 46 2 fun x46 => zp 47 (vb x29.2) <| zo <| osa <| zp 7 (vb x29.2) <| zn <| SC.ret <| ze [.cell 6 105, .tmp 7] <| RS.cellA 2 (by kernel_rfl) rfl rfl (fun _ => rfl) fun r6 => zm rfl zz
  refine KT.ite 13 rfl ?_ ?_
  exact zk <| zk <| zk <| zk <| zk <| zp 19 (vb true) <| zl j1
  exact zp 14 (vi p2_k) <| zo <| ola 15 3 fun x15 => zc 16 (geo_places_sim _) fun x16 => zc 17 (geo_within_sim _ _ _) fun x17 => zp 18 (vb (!x17)) <| zp 19 (vb (!x17)) <| zl j1
theorem stripe_rows_c1_sim (p0_yield : Value) (p1_a : Addr) (p2_a : Addr) : Sm Tryz.prog 90 [p0_yield, (vp p1_a), (vp p2_a)] (fun y : Unit => (.tuple #[])) (stripe_rows_c1 (cvOf Tryz.prog) p0_yield p1_a p2_a) := by
  refine sm_of 56 Tryz.func90 rfl rfl rfl fun _ => ?_
  unfold stripe_rows_c1
  refine zG <| zp 12 (vp p1_a) <| KT.l 13 fun x13 => zp 14 (vi (w64 (x13 - 1))) <| zp 4 (vi (w64 (x13 - 1))) <| zN <| zp 15 (va p1_a 1) <| KT.l 16 fun x16 => zp 17 (vi 0) <| zn <| SC.block <| zL (σ := (Int)) (fun s1 => [(0, p0_yield), (1, (vp p1_a)), (2, (vp p2_a)), (4, (vi (w64 (x13 - 1)))), (16, (vi x16)), (17, (vi s1))]) fun _ _ _ s1 => zG <| zp 18 (vb (decide (s1 < x16))) <| zn <| zq <| SC.cond rfl ?_ ?_
  refine zw <| zq <| SC.block <| zG <| zp 19 (vi s1) <| zp 5 (vi s1) <| zN <| zp 6 (.slice none 0 0) <| zn <| zq <| zG <| zp 20 (vi (w64 (x13 - 1))) <| zp 21 (vi 0) <| zn <| SC.block <| zL (σ := (Slc × Int)) (fun s2 => [(0, p0_yield), (1, (vp p1_a)), (2, (vp p2_a)), (4, (vi (w64 (x13 - 1)))), (5, (vi s1)), (6, (vS s2.1)), (16, (vi x16)), (17, (vi s1)), (20, (vi (w64 (x13 - 1)))), (21, (vi s2.2))]) fun _ _ _ s2 => zG <| zp 22 (vb (decide (s2.2 < (w64 (x13 - 1))))) <| zn <| zq <| SC.cond rfl ?_ ?_
  refine zw <| zq <| SC.block <| zG <| zp 23 (vi s2.2) <| zp 7 (vi s2.2) <| zN <| zo <| ola 25 3 fun x25 => KT.l 26 fun x26 => zp 27 (vi s1) <| zp 28 (vi (w64 (x13 - 1))) <| zp 29 (vi (w64 (s1 * (w64 (x13 - 1))))) <| zp 30 (vi s2.2) <| zp 31 (vi (w64 ((w64 (s1 * (w64 (x13 - 1)))) + s2.2))) <| zc 32 (geo_Block_sim _ _ _) fun x32 => zp 24 (.tuple #[(.agg #[(vi x32.1.1), (vi x32.1.2)]), (vb x32.2)]) <| zp 33 (.agg #[(vi x32.1.1), (vi x32.1.2)]) <| zp 34 (vb x32.2) <| KT.nw 8 (fun ad => .pointer (some ad)) 105 fun x8 => zo <| osa <| zp 9 (vb x32.2) <| zn <| zg <| zp 35 (vS s2.1) <| zo <| ola 36 2 fun x36 => KT.nw 37 (fun ad => .slice (some ad) 1 1) 105 fun x37 => zo <| oapp 38 105 fun x38 => zp 6 (vS x38) <| KT.nil <| zS (T' := [(0, p0_yield), (1, (vp p1_a)), (2, (vp p2_a)), (4, (vi (w64 (x13 - 1)))), (5, (vi s1)), (6, (vS x38)), (16, (vi x16)), (17, (vi s1)), (20, (vi (w64 (x13 - 1)))), (21, (vi s2.2))]) ?_
  exact SX.block <| SX.seq <| zg <| zp 39 (vi (w64 (s2.2 + 1))) <| zp 21 (vi (w64 (s2.2 + 1))) <| KT.nil zX
  refine SC.exit <| SX.then_exit <| SX.loop_exit <| SX.block_hit <| SX.seq <| zG <| zo <| ola 41 3 fun x41 => KT.l 42 fun x42 => zp 43 (vi s1) <| zc 44 (geo_Parity_sim _ _ _) fun x44 => zp 40 (.tuple #[(.agg #[(vi x44.1.1), (vi x44.1.2)]), (vb x44.2)]) <| zp 45 (.agg #[(vi x44.1.1), (vi x44.1.2)]) <| zp 46 (vb x44.2) <| KT.nw 10 (fun ad => .pointer (some ad)) 105 fun x10 => zo <| osa <| zp 11 (vb x44.2) <| zN <| zp 47 p0_yield <| zp 48 (vi s1) <| zp 49 (vS s2.1) <| zo <| ola 50 2 fun x50 => KT.nw 51 (fun ad => .slice (some ad) 1 1) 105 fun x51 => zo <| oapp 52 105 fun x52 => KT.ow rfl (OW.callv (d := 53) (enc := Value.bool) (vs := [(vi s1), (vS x52)]) _ [.tmp 48, .tmp 52] _ rfl rfl rfl rfl rfl (fun x53 => ?_))
  refine zp 54 (vb (!x53)) <| zn <| SC.cond rfl ?_ ?_
  exact SC.ret <| SX.block_ret <| SX.then_ret <| SX.loop_ret <| SX.block_ret <| ze [] zz
  exact SC.skip <| SX.block <| SX.seq <| zg <| zp 55 (vi (w64 (s1 + 1))) <| zp 17 (vi (w64 (s1 + 1))) <| KT.nil <| zS (T' := [(0, p0_yield), (1, (vp p1_a)), (2, (vp p2_a)), (4, (vi (w64 (x13 - 1)))), (16, (vi x16)), (17, (vi (w64 (s1 + 1))))]) zX
  exact SC.exit <| SX.then_exit <| SX.loop_exit <| SX.block_hit <| SX.endBody [] rfl zz
theorem stripe_rows_sim (p0_g : (Int × Int × Int)) (p1_seg : Int) : Sm Tryz.prog 51 [(.agg #[(vi p0_g.1), (vi p0_g.2.1), (vi p0_g.2.2)]), (vi p1_seg)] (fun v : Value => v) (stripe_rows p0_g p1_seg) := by
  refine sm_of 6 Tryz.func51 rfl rfl rfl fun _ => ?_
  unfold stripe_rows
  exact zG <| KT.nw 2 (fun ad => .pointer (some ad)) 41 fun x2 => KT.nw 3 (fun ad => .pointer (some ad)) 3 fun x3 => zp 4 Value.nilFunc <| zN <| zp 5 (.func (.func fid_stripe_rows_c1) #[] #[(vp x2), (vp x3)]) <| zp 4 (.func (.func fid_stripe_rows_c1) #[] #[(vp x2), (vp x3)]) <| zn <| SC.ret <| ze [.tmp 4] <| zm rfl zz
theorem bytes_Equal_sim (p0_a : Slc) (p1_b : Slc) : Sm Tryz.prog 80 [(vS p0_a), (vS p1_b)] Value.bool (bytes_Equal p0_a p1_b) := by
  refine sm_of 10 Tryz.func80 rfl rfl rfl fun _ => ?_
  unfold bytes_Equal
  refine zG <| zp 4 (vb false) <| zN <| zp 5 (vS p0_a) <| KT.ow rfl (OW.bstr (d := 6) (s := p0_a) _ _ 5 _ rfl rfl (by kernel_rfl) (by kernel_rfl) (by kernel_rfl) rfl rfl (fun x6 => ?_))
  refine zp 7 (vS p1_b) <| KT.ow rfl (OW.bstr (d := 8) (s := p1_b) _ _ 5 _ rfl rfl (by kernel_rfl) (by kernel_rfl) (by kernel_rfl) rfl rfl (fun x8 => ?_))
  refine KT.oy rfl (OY.eqlStr (d := 9) (x := x6) (y := x8) _ _ _ _ rfl rfl rfl (by kernel_rfl) rfl rfl ?_)
  exact zp 4 (vb (strEq x6 x8)) <| zn <| SC.ret <| ze [.tmp 4] <| zm rfl zz
theorem bytes_HasPrefix_sim (p0_s : Slc) (p1_prefix : Slc) : Sm Tryz.prog 92 [(vS p0_s), (vS p1_prefix)] Value.bool (bytes_HasPrefix p0_s p1_prefix) := by
  refine sm_of 18 Tryz.func92 rfl rfl rfl fun _ => ?_
  unfold bytes_HasPrefix
  refine zG <| zp 4 (vb false) <| zN <| zp 5 (vS p0_s) <| zp 6 (vi (vl p0_s)) <| zp 7 (vS p1_prefix) <| zp 8 (vi (vl p1_prefix)) <| zp 9 (vb (decide ((vl p0_s) ≥ (vl p1_prefix)))) <| zp 10 (vb (decide ((vl p0_s) ≥ (vl p1_prefix)))) <| zj 7 (fun r1 => [(17, (vb r1))]) (fun r1 => ?_) (fun j1 => ?_)
  exact zp 4 (vb r1) <| zn <| SC.ret <| ze [.tmp 4] <| zm rfl zz
  refine KT.ite 10 rfl ?_ ?_
  refine zp 11 (vS p0_s) <| zp 12 (vS p1_prefix) <| zp 13 (vi (vl p1_prefix)) <| KT.oy rfl (OY.slice01 (d := 14) (s := p0_s) (hi := (vl p1_prefix)) (size := 1) (elem := 5) _ _ _ rfl rfl rfl (by kernel_rfl) (by kernel_rfl) rfl rfl (fun x14 => ?_))
  exact zp 15 (vS p1_prefix) <| zc 16 (bytes_Equal_sim _ _) fun x16 => zp 17 (vb x16) <| zl j1
  exact zk <| zk <| zk <| zk <| zk <| zk <| zp 17 (vb false) <| zl j1
theorem bytes_Clone_sim (p0_b : Slc) : Sm Tryz.prog 94 [(vS p0_b)] vS (bytes_Clone p0_b) := by
  refine sm_of 8 Tryz.func94 rfl rfl rfl fun _ => ?_
  unfold bytes_Clone
  refine zG <| zp 2 (.slice none 0 0) <| zn <| zq <| zG <| zp 3 (vS p0_b) <| KT.oy rfl (OY.eqlSl (d := 4) (s := p0_b) _ _ _ _ 5 rfl rfl rfl (by kernel_rfl) rfl rfl ?_)
  refine zn <| SC.cond rfl ?_ ?_
  exact zG <| zp 2 (.slice none 0 0) <| zn <| zt <| ze [.tmp 2] <| zm rfl zz
  exact zw <| zG <| KT.nw 5 (fun ad => .slice (some ad) 0 0) 5 fun x5 => zp 6 (vS p0_b) <| zo <| oapp 7 5 fun x7 => zp 2 (vS x7) <| zn <| SC.ret <| ze [.tmp 2] <| zm rfl zz
theorem bits_Xor_sim (p0_a : Slc) (p1_b : Slc) : Sm Tryz.prog 93 [(vS p0_a), (vS p1_b)] vS (bits_Xor p0_a p1_b) := by
  refine sm_of 33 Tryz.func93 rfl rfl rfl fun _ => ?_
  unfold bits_Xor
  refine zG <| zp 4 (.slice none 0 0) <| zn <| zq <| zG <| zp 8 (vS p0_a) <| zp 9 (vi (vl p0_a)) <| zp 10 (vS p1_b) <| zp 11 (vi (vl p1_b)) <| zp 12 (vb (decide ((vl p0_a) < (vl p1_b)))) <| zn <| SC.join (β := (Slc × Slc)) (fun b1 => [(0, (vS b1.1)), (1, (vS b1.2))]) (fun b1 => ?_) (fun j1 => ?_)
  refine SX.seq <| zG <| zp 15 (vS b1.1) <| zc 16 (bytes_Clone_sim _) fun x16 => zp 5 (vS x16) <| zn <| zq <| zG <| zp 17 (vS b1.2) <| zp 18 (vi (vl b1.2)) <| zp 19 (vi 0) <| zn <| SC.block <| zL (σ := (Int)) (fun s2 => [(5, (vS x16)), (17, (vS b1.2)), (18, (vi (vl b1.2))), (19, (vi s2))]) fun _ _ _ s2 => zG <| zp 20 (vb (decide (s2 < (vl b1.2)))) <| zn <| zq <| SC.cond rfl ?_ ?_
  exact zw <| zq <| SC.block <| zG <| zp 21 (vi s2) <| zy <| oix 22 5 fun x22 => KT.l 23 fun x23 => zp 6 (vi s2) <| zp 7 (.int .u8 x23) <| zn <| zg <| zp 24 (vS x16) <| zp 25 (vi s2) <| zy <| oix 26 5 fun x26 => KT.l 27 fun x27 => zp 28 (.int .u8 x23) <| zp 29 (.int .u8 (bXor .u8 x27 x23)) <| zy <| oix 30 5 fun x30 => KT.s <| KT.nil <| SX.block <| SX.seq <| zg <| zp 31 (vi (w64 (s2 + 1))) <| zp 19 (vi (w64 (s2 + 1))) <| KT.nil zX
  exact SC.exit <| SX.then_exit <| SX.loop_exit <| SX.block_hit <| SX.seq <| zG <| zp 32 (vS x16) <| zp 4 (vS x16) <| zn <| SC.ret <| ze [.tmp 4] <| zm rfl zz
  refine SC.cond rfl ?_ ?_
  exact zg <| zp 13 (vS p1_b) <| zp 14 (vS p0_a) <| zp 0 (vS p1_b) <| zp 1 (vS p0_a) <| KT.nil <| zf j1
  exact SC.skip <| zf j1
theorem sector_Parity_sim (p0_list : Slc) : Sm Tryz.prog 52 [(vS p0_list)] (fun y : (Slc × Bool) => (.tuple #[(vS y.1), (vb y.2)])) (sector_Parity p0_list) := by
  refine sm_of 46 Tryz.func52 rfl rfl rfl fun _ => ?_
  unfold sector_Parity
  refine zG <| zp 2 (.slice none 0 0) <| zp 3 (vb false) <| zn <| zq <| zG <| zp 8 (vS p0_list) <| zp 9 (vi (vl p0_list)) <| zp 10 (vb ((vl p0_list) == 0)) <| zp 11 (vb ((vl p0_list) == 0)) <| zj 6 (fun r1 => [(17, (vb r1)), (0, (vS p0_list))]) (fun r1 => ?_) (fun j1 => ?_)
  refine zn <| SC.cond rfl ?_ ?_
  exact zG <| zp 2 (.slice none 0 0) <| zp 3 (vb false) <| zn <| zt <| ze [.tmp 2, .tmp 3] <| zm rfl <| zm rfl zz
  refine zw <| zG <| zp 18 (vS p0_list) <| zy <| oix 19 49 fun x19 => KT.l 20 fun x20 => KT.oy rfl (OY.slice01 (d := 21) (s := x20) (hi := 4) (size := 1) (elem := 5) _ _ _ rfl rfl rfl (by kernel_rfl) (by kernel_rfl) rfl rfl (fun x21 => ?_))
  refine zp 4 (vS x21) <| zp 5 (.slice none 0 0) <| zn <| zq <| zG <| zp 22 (vS p0_list) <| zp 23 (vi (vl p0_list)) <| zp 24 (vi 0) <| zn <| SC.block <| zL (σ := (Slc × Int)) (fun s2 => [(4, (vS x21)), (5, (vS s2.1)), (22, (vS p0_list)), (23, (vi (vl p0_list))), (24, (vi s2.2))]) fun _ _ _ s2 => zG <| zp 25 (vb (decide (s2.2 < (vl p0_list)))) <| zn <| zq <| SC.cond rfl ?_ ?_
  refine zw <| zq <| SC.block <| zG <| zy <| oix 26 49 fun x26 => KT.l 27 fun x27 => zp 7 (vS x27) <| zn <| zq <| zG <| zp 28 (vS x27) <| zp 29 (vi (vl x27)) <| zp 30 (vb ((vl x27) != 64)) <| zp 31 (vb ((vl x27) != 64)) <| zj 5 (fun r3 => [(36, (vb r3)), (4, (vS x21)), (5, (vS s2.1)), (7, (vS x27)), (22, (vS p0_list)), (23, (vi (vl p0_list))), (24, (vi s2.2))]) (fun r3 => ?_) (fun j3 => ?_)
  refine zn <| SC.cond rfl ?_ ?_
  exact zG <| zp 2 (.slice none 0 0) <| zp 3 (vb false) <| zn <| zt <| SX.block_ret <| SX.then_ret <| SX.loop_ret <| SX.block_ret <| SX.then_ret <| ze [.tmp 2, .tmp 3] <| zm rfl <| zm rfl zz
  refine zw <| zg <| zp 37 (vS s2.1) <| zp 38 (vS x27) <| KT.oy rfl (OY.slice10 (d := 39) (s := x27) (lo := 4) (size := 1) (elem := 5) _ _ _ rfl rfl rfl (by kernel_rfl) (by kernel_rfl) rfl rfl (fun x39 => ?_))
  exact zc 40 (bits_Xor_sim _ _) fun x40 => zp 5 (vS x40) <| KT.nil <| SX.block <| SX.seq <| zg <| zp 41 (vi (w64 (s2.2 + 1))) <| zp 24 (vi (w64 (s2.2 + 1))) <| KT.nil zX
  refine KT.ite 31 rfl ?_ ?_
  exact zk <| zk <| zk <| zk <| zp 36 (vb true) <| zl j3
  exact zp 32 (vS x27) <| zp 33 (vS x21) <| zc 34 (bytes_HasPrefix_sim _ _) fun x34 => zp 35 (vb (!x34)) <| zp 36 (vb (!x34)) <| zl j3
  exact SC.exit <| SX.then_exit <| SX.loop_exit <| SX.block_hit <| SX.seq <| zG <| zp 42 (vS x21) <| zc 43 (bytes_Clone_sim _) fun x43 => zp 44 (vS s2.1) <| zo <| oapp 45 5 fun x45 => zp 2 (vS x45) <| zp 3 (vb true) <| zn <| SC.ret <| ze [.tmp 2, .tmp 3] <| zm rfl <| zm rfl zz
  refine KT.ite 11 rfl ?_ ?_
  exact zk <| zk <| zk <| zk <| zk <| zp 17 (vb true) <| zl j1
  exact zp 12 (vS p0_list) <| zy <| oix 13 49 fun x13 => KT.l 14 fun x14 => zp 15 (vi (vl x14)) <| zp 16 (vb ((vl x14) != 64)) <| zp 17 (vb ((vl x14) != 64)) <| zl j1
theorem stripe_Write_sim (p0_b : (Option Addr)) (p1_seg : Int) (p2_seq : Int) (p3_blocks : Slc) : Sm Tryz.prog 15 [(.pointer p0_b), (vi p1_seg), (vi p2_seq), (vS p3_blocks)] (Value.int .i64) (stripe_Write (cvOf Tryz.prog) p0_b p1_seg p2_seq p3_blocks) := by
  refine sm_of 106 Tryz.func15 rfl rfl rfl fun _ => ?_
  unfold stripe_Write
  refine zG <| KT.nw 4 (fun ad => .pointer (some ad)) 27 fun x4 => KT.nw 8 (fun ad => .pointer (some ad)) 36 fun x8 => zN <| KT.l 20 fun x20 => zc 21 (bank_Bank_Geo_sim _) fun x21 => KT.nw 9 (fun ad => .pointer (some ad)) 41 fun x9 => zo <| osa <| zn <| zq <| zG <| zp 22 (vi p1_seg) <| zp 23 (vb (decide (p1_seg < 0))) <| zp 24 (vb (decide (p1_seg < 0))) <| zj 5 (fun r1 => [(29, (vb r1)), (1, (vi p1_seg)), (2, (vi p2_seq)), (3, (vS p3_blocks)), (4, (vp x4)), (8, (vp x8)), (9, (vp x9))]) (fun r1 => ?_) (fun j1 => ?_)
  refine zp 30 (vb r1) <| zj 3 (fun r2 => [(33, (vb r2)), (1, (vi p1_seg)), (2, (vi p2_seq)), (3, (vS p3_blocks)), (4, (vp x4)), (8, (vp x8)), (9, (vp x9))]) (fun r2 => ?_) (fun j2 => ?_)
  refine zp 34 (vb r2) <| zj 3 (fun r3 => [(37, (vb r3)), (1, (vi p1_seg)), (2, (vi p2_seq)), (3, (vS p3_blocks)), (4, (vp x4)), (8, (vp x8)), (9, (vp x9))]) (fun r3 => ?_) (fun j3 => ?_)
  refine zn <| SC.cond rfl ?_ ?_
  exact zG <| KT.s <| zn <| zt <| ze [.cell 8 36] <| RS.cell rfl (by kernel_rfl) fun r8 => zz
  refine zw <| zG <| zo <| ola 38 3 fun x38 => zp 39 (vi p2_seq) <| zp 40 (vS p3_blocks) <| zc 41 (stripe_encoded_sim _ _ _) fun x41 => KT.nw 10 (fun ad => .pointer (some ad)) 31 fun x10 => KT.s <| zn <| zq <| zG <| KT.l 42 fun x42 => zp 43 (vi (vl x42)) <| zp 44 (vb ((vl x42) == 0)) <| zp 45 (vb ((vl x42) == 0)) <| zj 6 (fun r4 => [(51, (vb r4)), (1, (vi p1_seg)), (4, (vp x4)), (8, (vp x8)), (9, (vp x9)), (10, (vp x10))]) (fun r4 => ?_) (fun j4 => ?_)
  refine zn <| SC.cond rfl ?_ ?_
  exact zG <| KT.s <| zn <| zt <| ze [.cell 8 36] <| RS.cell rfl (by kernel_rfl) fun r8 => zz
  refine zw <| zq <| zG <| KT.l 52 fun x52 => zc 53 (bank_Bank_Bad_sim _) fun x53 => zp 54 (vi (vl x53)) <| zp 55 (vb (decide ((vl x53) > 1))) <| zn <| SC.cond rfl ?_ ?_
  exact zG <| KT.s <| zn <| zt <| ze [.cell 8 36] <| RS.cell rfl (by kernel_rfl) fun r8 => zz
  refine zw <| zq <| zG <| zo <| ola 56 3 fun x56 => zp 57 (vi p1_seg) <| zc 58 (stripe_rows_sim _ _) fun x58 => zn <| SC.block <| SC.rangeF (ξ := (Int × Slc)) (τ := (Int × Slc)) (fv := x58) (ps := [59, 60]) (encX := (fun x_5 : (Int × Slc) => [(vi x_5.1), (vS x_5.2)])) (fun t_5 => [(4, (vp x4)), (8, (vp x8)), (9, (vp x9)), (10, (vp x10)), (11, (vi t_5.1)), (12, (vS t_5.2))]) rfl (fun _ => rfl) rfl (fun _ x_5 _ _ h5 => ?_) (fun _ _ _ t_5 => ?_) (fun D5 => ?_) (fun D5 => ?_) (fun D5 i5 => ?_)
  exact zG <| zp 11 (vi x_5.1) <| zn <| zg <| zp 12 (vS x_5.2) <| KT.nil <| SX.leafP h5 (.cons rfl (.cons rfl (.cons rfl (.cons rfl (.cons rfl (.cons rfl (.nil)))))))
  refine SC.block <| zG <| zp 61 (vp x9) <| KT.l 62 fun x62 => zp 63 (vi (w64 (x62 - 1))) <| zp 13 (vi (w64 (x62 - 1))) <| zN <| KT.l 64 fun x64 => zp 65 (vi t_5.1) <| zp 66 (vi (w64 (x62 - 1))) <| zp 67 (vi (w64 (t_5.1 * (w64 (x62 - 1))))) <| zp 68 (vi t_5.1) <| zp 69 (vi (w64 (t_5.1 + 1))) <| zp 70 (vi (w64 (x62 - 1))) <| zp 71 (vi (w64 ((w64 (t_5.1 + 1)) * (w64 (x62 - 1))))) <| KT.oy rfl (OY.slice11 (d := 72) (s := x64) (lo := w64 (t_5.1 * (w64 (x62 - 1)))) (hi := w64 ((w64 (t_5.1 + 1)) * (w64 (x62 - 1)))) (size := 1) (elem := 49) _ _ _ _ rfl rfl rfl rfl (by kernel_rfl) (by kernel_rfl) rfl rfl (fun x72 => ?_))
  refine zp 14 (vS x72) <| zN <| zp 74 (vS x72) <| zc 75 (sector_Parity_sim _) fun x75 => zp 73 (.tuple #[(vS x75.1), (vb x75.2)]) <| zp 76 (vS x75.1) <| zp 77 (vb x75.2) <| zp 15 (vS x75.1) <| zp 16 (vb x75.2) <| zN <| zp 78 (vS t_5.2) <| zp 79 (vi (vl t_5.2)) <| zp 80 (vi 0) <| KT.nil <| zS (T' := [(4, (vp x4)), (8, (vp x8)), (13, (vi (w64 (x62 - 1)))), (14, (vS x72)), (15, (vS x75.1)), (78, (vS t_5.2)), (79, (vi (vl t_5.2))), (80, (vi 0))]) <| SX.seq <| SC.block <| zL (σ := (Int)) (fun s6 => [(4, (vp x4)), (8, (vp x8)), (13, (vi (w64 (x62 - 1)))), (14, (vS x72)), (15, (vS x75.1)), (78, (vS t_5.2)), (79, (vi (vl t_5.2))), (80, (vi s6))]) fun _ _ _ s6 => zG <| zp 81 (vb (decide (s6 < (vl t_5.2)))) <| zn <| zq <| SC.cond rfl ?_ ?_
  refine zw <| zq <| SC.block <| zG <| zp 82 (vi s6) <| zy <| oix 83 105 fun x83 => zo <| ola 84 2 fun x84 => KT.nw 18 (fun ad => .pointer (some ad)) 105 fun x18 => zp 17 (vi s6) <| zo <| osa <| zN <| zp 85 (vS x75.1) <| zp 19 (vS x75.1) <| zn <| zq <| zG <| zp 86 (vi s6) <| zp 87 (vi (w64 (x62 - 1))) <| zp 88 (vb (decide (s6 < (w64 (x62 - 1))))) <| zn <| SC.join (β := (Slc)) (fun b7 => [(4, (vp x4)), (8, (vp x8)), (13, (vi (w64 (x62 - 1)))), (14, (vS x72)), (15, (vS x75.1)), (18, (vp x18)), (19, (vS b7)), (78, (vS t_5.2)), (79, (vi (vl t_5.2))), (80, (vi s6))]) (fun b7 => ?_) (fun j7 => ?_)
  refine SX.seq <| zG <| KT.l 93 fun x93 => zp 94 (vp x18) <| KT.l 95 fun x95 => zp 96 (va x18 1) <| KT.l 97 fun x97 => zp 98 (vS b7) <| zc 99 (bank_Bank_Write_sim _ _ _ _) fun x99 => zp 100 (vb (x99 == 12)) <| zn <| SC.cond rfl ?_ ?_
  exact zG <| KT.s <| zn <| SC.ret <| SX.block_ret <| SX.then_ret <| SX.loop_ret <| SX.block_ret <| SX.block_ret SX.round_ret
  exact SC.skip <| SX.block <| SX.seq <| zg <| zp 101 (vi (w64 (s6 + 1))) <| zp 80 (vi (w64 (s6 + 1))) <| KT.nil zX
  refine SC.cond rfl ?_ ?_
  exact zg <| zp 89 (vS x72) <| zp 90 (vi s6) <| zy <| oix 91 49 fun x91 => KT.l 92 fun x92 => zp 19 (vS x92) <| KT.nil <| zf j7
  exact SC.skip <| zf j7
  exact SC.exit <| SX.then_exit <| SX.loop_exit <| SX.block_hit <| SX.block SX.round_next
  refine SX.block <| SX.seq <| zq <| zG <| KT.l 102 fun x102 => zc 103 (bank_Bank_Bad_sim _) fun x103 => zp 104 (vi (vl x103)) <| zp 105 (vb (decide ((vl x103) > 1))) <| zn <| SC.cond rfl ?_ ?_
  exact zG <| KT.s <| zn <| zt <| ze [.cell 8 36] <| RS.cell rfl (by kernel_rfl) fun r8 => zz
  exact zw <| zG <| KT.s <| zn <| SC.ret <| ze [.cell 8 36] <| RS.cell rfl (by kernel_rfl) fun r8 => zz
  exact SX.block_ret <| SX.then_ret <| ze [.cell 8 36] <| RS.cell rfl (by kernel_rfl) fun r8 => zz
  exact SX.fail
  refine KT.ite 45 rfl ?_ ?_
  exact zk <| zk <| zk <| zk <| zk <| zp 51 (vb true) <| zl j4
  exact zp 46 (vS p3_blocks) <| zp 47 (vi (vl p3_blocks)) <| KT.l 48 fun x48 => zp 49 (vi (vl x48)) <| zp 50 (vb (decide ((vl p3_blocks) > (vl x48)))) <| zp 51 (vb (decide ((vl p3_blocks) > (vl x48)))) <| zl j4
  refine KT.ite 34 rfl ?_ ?_
  exact zk <| zk <| zp 37 (vb true) <| zl j3
  exact zp 35 (vi p2_seq) <| zp 36 (vb (decide (p2_seq > 4294967295))) <| zp 37 (vb (decide (p2_seq > 4294967295))) <| zl j3
  refine KT.ite 30 rfl ?_ ?_
  exact zk <| zk <| zp 33 (vb true) <| zl j2
  exact zp 31 (vi p2_seq) <| zp 32 (vb (decide (p2_seq < 1))) <| zp 33 (vb (decide (p2_seq < 1))) <| zl j2
  refine KT.ite 24 rfl ?_ ?_
  exact zk <| zk <| zk <| zk <| zp 29 (vb true) <| zl j1
  exact zp 25 (vi p1_seg) <| zp 26 (va x9 2) <| KT.l 27 fun x27 => zp 28 (vb (decide (p1_seg ≥ x27))) <| zp 29 (vb (decide (p1_seg ≥ x27))) <| zl j1
theorem device_Rack_Doom_sim (p0_r : (Option Addr)) (p1_disk : Int) (p2_calls : Int) : Sm Tryz.prog 16 [(.pointer p0_r), (vi p1_disk), (vi p2_calls)] (Value.int .i64) (device_Rack_Doom p0_r p1_disk p2_calls) := by
  refine sm_of 29 Tryz.func16 rfl rfl rfl fun _ => ?_
  unfold device_Rack_Doom
  refine zG <| zp 6 (vi 0) <| zn <| zq <| zG <| zp 7 (vi p1_disk) <| zp 8 (vb (decide (p1_disk < 0))) <| zp 9 (vb (decide (p1_disk < 0))) <| zj 8 (fun r1 => [(17, (vb r1)), (0, (.pointer p0_r)), (1, (vi p1_disk)), (2, (vi p2_calls))]) (fun r1 => ?_) (fun j1 => ?_)
  refine zn <| SC.cond rfl ?_ ?_
  exact zG <| zp 6 (vi 11) <| zn <| zt <| ze [.tmp 6] <| zm rfl zz
  exact zw <| zG <| zp 18 (.pointer p0_r) <| KT.nm 19 fun x19 => zp 20 (vp x19) <| KT.l 21 fun x21 => zp 22 (vi p1_disk) <| zy <| oix 23 87 fun x23 => KT.l 24 fun x24 => zp 25 (vi p2_calls) <| zp 26 (vi (maxI p2_calls (-1))) <| KT.nm 27 fun x27 => zp 28 (va x27 3) <| KT.s <| zN <| zp 6 (vi 0) <| zn <| SC.ret <| ze [.tmp 6] <| zm rfl zz
  refine KT.ite 9 rfl ?_ ?_
  exact zk <| zk <| zk <| zk <| zk <| zk <| zk <| zp 17 (vb true) <| zl j1
  exact zp 10 (vi p1_disk) <| zp 11 (.pointer p0_r) <| KT.nm 12 fun x12 => zp 13 (vp x12) <| KT.l 14 fun x14 => zp 15 (vi (vl x14)) <| zp 16 (vb (decide (p1_disk ≥ (vl x14)))) <| zp 17 (vb (decide (p1_disk ≥ (vl x14)))) <| zl j1
theorem bank_Bank_disks_sim (p0_b : (Option Addr)) (p1_yield : Value) : Sm Tryz.prog 53 [(.pointer p0_b), p1_yield] (fun y : Unit => (.tuple #[])) (bank_Bank_disks (cvOf Tryz.prog) p0_b p1_yield) := by
  refine sm_of 39 Tryz.func53 rfl rfl rfl fun _ => ?_
  unfold bank_Bank_disks
  refine zq <| zG <| zp 7 (.pointer p0_b) <| KT.nm 8 fun x8 => zp 9 (va x8 1) <| zp 10 (va x8 1) <| KT.l 11 fun x11 => zp 12 (vi 0) <| zn <| SC.block <| zL (σ := (Int)) (fun s1 => [(0, (.pointer p0_b)), (1, p1_yield), (11, (vi x11)), (12, (vi s1))]) fun _ _ _ s1 => zG <| zp 13 (vb (decide (s1 < x11))) <| zn <| zq <| SC.cond rfl ?_ ?_
  refine zw <| zq <| SC.block <| zG <| zp 14 (vi s1) <| zp 4 (vi s1) <| zN <| zp 16 (.pointer p0_b) <| zp 17 (vi s1) <| zc 18 (bank_Bank_disk_sim _ _) fun x18 => zp 15 (.tuple #[(vi x18.1), (vb x18.2)]) <| zp 19 (vi x18.1) <| zp 20 (vb x18.2) <| zp 5 (vi x18.1) <| zp 6 (vb x18.2) <| zN <| zp 21 p1_yield <| zp 22 (vi x18.1) <| KT.ow rfl (OW.callv (d := 23) (enc := Value.bool) (vs := [(vi x18.1)]) _ [.tmp 22] _ rfl rfl rfl rfl rfl (fun x23 => ?_))
  refine zp 24 (vb (!x23)) <| zn <| SC.cond rfl ?_ ?_
  exact SC.ret <| SX.block_ret <| SX.then_ret <| SX.loop_ret <| SX.block_ret <| SX.then_ret <| ze [] zz
  exact SC.skip <| SX.block <| SX.seq <| zg <| zp 25 (vi (w64 (s1 + 1))) <| zp 12 (vi (w64 (s1 + 1))) <| KT.nil zX
  refine SC.exit <| SX.then_exit <| SX.loop_exit <| SX.block_hit <| SX.seq <| zG <| zp 26 (.pointer p0_b) <| KT.nm 27 fun x27 => zp 28 (va x27 4) <| zp 29 (.pointer (some (Addr.add (Addr.add x27 4) 2))) <| KT.l 30 fun x30 => zp 31 (vb (x30 == 0)) <| zn <| SC.cond rfl ?_ ?_
  refine zg <| zp 32 p1_yield <| zp 33 (.pointer p0_b) <| KT.nm 34 fun x34 => zp 35 (va x34 1) <| zp 36 (va x34 1) <| KT.l 37 fun x37 => KT.ow rfl (OW.callv (d := 38) (enc := Value.bool) (vs := [(vi x37)]) _ [.tmp 37] _ rfl rfl rfl rfl rfl (fun x38 => ?_))
  exact KT.nil <| SX.endBody [] rfl zz
  exact SC.skip <| SX.endBody [] rfl zz
theorem device_Rack_Flush_sim (p0_r : (Option Addr)) (p1_disk : Int) : Sm Tryz.prog 54 [(.pointer p0_r), (vi p1_disk)] (Value.int .i64) (device_Rack_Flush p0_r p1_disk) := by
  refine sm_of 39 Tryz.func54 rfl rfl rfl fun _ => ?_
  unfold device_Rack_Flush
  refine zG <| zp 4 (vi 0) <| zN <| zp 10 (.pointer p0_r) <| zp 11 (vi p1_disk) <| zc 12 (device_Rack_counted_sim _ _ _ _) fun x12 => zp 9 (.tuple #[(.pointer x12.1), (vi x12.2)]) <| zp 13 (.pointer x12.1) <| zp 14 (vi x12.2) <| zp 5 (.pointer x12.1) <| zp 6 (vi x12.2) <| zn <| zq <| zG <| zp 15 (vi x12.2) <| zp 16 (vb (x12.2 == 0)) <| zn <| SC.cond rfl ?_ ?_
  refine zq <| zG <| zp 17 (.pointer x12.1) <| KT.nm 18 fun x18 => zp 19 (va x18 1) <| KT.l 20 fun x20 => KT.ow rfl (OW.rangeMap (d := 21) _ _ 3 49 rfl rfl (by kernel_rfl) rfl rfl (fun x21 => ?_))
  refine zn <| SC.block <| zL (σ := Unit) (fun s1 => [(5, (.pointer x12.1)), (6, (vi x12.2)), (21, (vp x21))]) fun _ _ _ s1 => zG <| KT.ow rfl (OW.next (d := 22) _ rfl rfl rfl rfl (fun y22 => ?_))
  refine KT.opt (y := y22) 22 rfl ?_ (fun e22 => ?_)
  refine zp 23 (vb false) <| zn <| zq <| SC.cond_false rfl <| SC.exit <| SX.then_exit <| SX.loop_exit <| SX.block_hit <| SX.seq <| zg <| zp 34 (.pointer x12.1) <| KT.nm 35 fun x35 => zp 36 (va x35 1) <| KT.l 37 fun x37 => KT.ow rfl (OW.clearMap0 _ _ 3 49 rfl rfl (by kernel_rfl) rfl ?_)
  exact zN <| zp 38 (vi x12.2) <| zp 4 (vi x12.2) <| zn <| SC.ret <| ze [.tmp 4] <| zm rfl zz
  refine zp 23 (vb true) <| zn <| zq <| SC.cond_true rfl <| zw <| SC.block <| zG <| KT.ow rfl (OW.entry (d := 24) (ek := (Value.int .i64)) (evv := vS) _ rfl rfl rfl rfl (fun x24 => ?_))
  exact zp 25 (vi x24.1) <| zp 26 (vS x24.2) <| zp 7 (vi x24.1) <| zp 8 (vS x24.2) <| zn <| zg <| zp 27 (.pointer x12.1) <| KT.nm 28 fun x28 => zp 29 (vp x28) <| KT.l 30 fun x30 => zp 31 (vi x24.1) <| zp 32 (vS x24.2) <| zy <| oix 33 49 fun x33 => KT.s <| KT.nil <| SX.block zX
  exact zw <| zG <| zp 38 (vi x12.2) <| zp 4 (vi x12.2) <| zn <| SC.ret <| ze [.tmp 4] <| zm rfl zz
theorem bank_Bank_Flush_sim (p0_b : (Option Addr)) : Sm Tryz.prog 17 [(.pointer p0_b)] (Value.int .i64) (bank_Bank_Flush (cvOf Tryz.prog) p0_b) := by
  refine sm_of 17 Tryz.func17 rfl rfl rfl fun _ => ?_
  unfold bank_Bank_Flush
  refine zG <| KT.nw 1 (fun ad => .pointer (some ad)) 27 fun x1 => KT.nw 2 (fun ad => .pointer (some ad)) 36 fun x2 => zn <| zq <| zG <| KT.l 5 fun x5 => zp 6 (.func (.func fid_bank_Bank_disks) #[(.pointer x5)] #[]) <| zn <| SC.block <| SC.rangeF (ξ := (Int)) (τ := (Int)) (fv := (.func (.func fid_bank_Bank_disks) #[(.pointer x5)] #[])) (ps := [7]) (encX := (fun x_1 : (Int) => [(vi x_1)])) (fun t_1 => [(1, (vp x1)), (2, (vp x2)), (3, (vi t_1))]) rfl (fun _ => rfl) rfl (fun _ x_1 _ _ h1 => ?_) (fun _ _ _ t_1 => ?_) (fun D1 => ?_) (fun D1 => ?_) (fun D1 i1 => ?_)
  exact zg <| zp 3 (vi x_1) <| KT.nil <| SX.leafP h1 (.cons rfl (.cons rfl (.cons rfl (.nil))))
  refine SC.block <| zG <| KT.l 8 fun x8 => KT.nm 9 fun x9 => zp 10 (vp x9) <| KT.l 11 fun x11 => zp 12 (vi t_1) <| zc 13 (device_Rack_Flush_sim _ _) fun x13 => zp 4 (vi x13) <| zN <| zp 14 (vi x13) <| zp 15 (vb (x13 == 12)) <| zn <| SC.cond rfl ?_ ?_
  exact zG <| zp 16 (vi x13) <| KT.s <| zn <| SC.ret <| SX.block_ret SX.round_ret
  exact SC.skip <| SX.block SX.round_next
  exact SX.block <| SX.seq <| zG <| KT.s <| zn <| SC.ret <| ze [.cell 2 36] <| RS.cell rfl (by kernel_rfl) fun r2 => zz
  exact SX.block_ret <| SX.then_ret <| ze [.cell 2 36] <| RS.cell rfl (by kernel_rfl) fun r2 => zz
  exact SX.fail
theorem device_Rack_Off_sim (p0_r : (Option Addr)) : Sm Tryz.prog 98 [(.pointer p0_r)] Value.bool (device_Rack_Off p0_r) := by
  refine sm_of 7 Tryz.func98 rfl rfl rfl fun _ => ?_
  unfold device_Rack_Off
  exact zG <| zp 2 (vb false) <| zN <| zp 3 (.pointer p0_r) <| KT.nm 4 fun x4 => zp 5 (va x4 3) <| KT.l 6 fun x6 => zp 2 (vb x6) <| zn <| SC.ret <| ze [.tmp 2] <| zm rfl zz
theorem bank_Bank_Off_sim (p0_b : (Option Addr)) : Sm Tryz.prog 60 [(.pointer p0_b)] Value.bool (bank_Bank_Off p0_b) := by
  refine sm_of 8 Tryz.func60 rfl rfl rfl fun _ => ?_
  unfold bank_Bank_Off
  exact zG <| zp 2 (vb false) <| zN <| zp 3 (.pointer p0_b) <| KT.nm 4 fun x4 => zp 5 (vp x4) <| KT.l 6 fun x6 => zc 7 (device_Rack_Off_sim _) fun x7 => zp 2 (vb x7) <| zn <| SC.ret <| ze [.tmp 2] <| zm rfl zz
theorem stripe_there_sim (p0_b : (Option Addr)) (p1_seg : Int) : Sm Tryz.prog 55 [(.pointer p0_b), (vi p1_seg)] (Value.int .i64) (stripe_there p0_b p1_seg) := by
  refine sm_of 18 Tryz.func55 rfl rfl rfl fun _ => ?_
  unfold stripe_there
  refine zG <| zp 4 (vi 0) <| zn <| zq <| SC.block <| zG <| zp 6 (vi p1_seg) <| zp 7 (vb (decide (p1_seg < 0))) <| zp 8 (vb (decide (p1_seg < 0))) <| zj 6 (fun r1 => [(14, (vb r1)), (0, (.pointer p0_b))]) (fun r1 => ?_) (fun j1 => ?_)
  refine zp 5 (vb r1) <| zn <| SC.cond rfl ?_ ?_
  exact zG <| zp 4 (vi 28) <| zn <| SC.ret <| SX.block_ret <| SX.then_ret <| ze [.tmp 4] <| zm rfl zz
  refine zG <| zp 16 (.pointer p0_b) <| zc 17 (bank_Bank_Off_sim _) fun x17 => zp 15 (vb x17) <| zn <| SC.cond rfl ?_ ?_
  exact zG <| zp 4 (vi 12) <| zn <| SC.ret <| SX.block_ret <| SX.then_ret <| ze [.tmp 4] <| zm rfl zz
  exact SC.skip <| SX.block <| SX.seq <| zG <| zp 4 (vi 0) <| zn <| SC.ret <| ze [.tmp 4] <| zm rfl zz
  refine KT.ite 8 rfl ?_ ?_
  exact zk <| zk <| zk <| zk <| zk <| zp 14 (vb true) <| zl j1
  exact zp 9 (vi p1_seg) <| zp 10 (.pointer p0_b) <| zc 11 (bank_Bank_Geo_sim _) fun x11 => zp 12 (vi x11.2.2) <| zp 13 (vb (decide (p1_seg ≥ x11.2.2))) <| zp 14 (vb (decide (p1_seg ≥ x11.2.2))) <| zl j1
theorem slices_Index_i_sim (p0_s : Slc) (p1_v : Int) : Sm Tryz.prog 96 [(vS p0_s), (vi p1_v)] (Value.int .i64) (slices_Index_i p0_s p1_v) := by
  refine sm_of 19 Tryz.func96 rfl rfl rfl fun _ => ?_
  unfold slices_Index_i
  refine zG <| zp 4 (vi 0) <| zn <| zq <| zG <| zp 6 (vS p0_s) <| zp 7 (vi (vl p0_s)) <| zp 8 (vi 0) <| zn <| SC.block <| zL (σ := (Int)) (fun s1 => [(0, (vS p0_s)), (1, (vi p1_v)), (7, (vi (vl p0_s))), (8, (vi s1))]) fun _ _ _ s1 => zG <| zp 9 (vb (decide (s1 < (vl p0_s)))) <| zn <| zq <| SC.cond rfl ?_ ?_
  refine zw <| zq <| SC.block <| zG <| zp 10 (vi s1) <| zp 5 (vi s1) <| zN <| zp 11 (vi p1_v) <| zp 12 (vS p0_s) <| zp 13 (vi s1) <| zy <| oix 14 3 fun x14 => KT.l 15 fun x15 => zp 16 (vb (p1_v == x15)) <| zn <| SC.cond rfl ?_ ?_
  exact zG <| zp 17 (vi s1) <| zp 4 (vi s1) <| zn <| SC.ret <| SX.block_ret <| SX.then_ret <| SX.loop_ret <| SX.block_ret <| SX.then_ret <| ze [.tmp 4] <| zm rfl zz
  exact SC.skip <| SX.block <| SX.seq <| zg <| zp 18 (vi (w64 (s1 + 1))) <| zp 8 (vi (w64 (s1 + 1))) <| KT.nil zX
  exact SC.exit <| SX.then_exit <| SX.loop_exit <| SX.block_hit <| SX.seq <| zG <| zp 4 (vi (-1)) <| zn <| SC.ret <| ze [.tmp 4] <| zm rfl zz
theorem slices_Contains_i_sim (p0_s : Slc) (p1_v : Int) : Sm Tryz.prog 56 [(vS p0_s), (vi p1_v)] Value.bool (slices_Contains_i p0_s p1_v) := by
  refine sm_of 9 Tryz.func56 rfl rfl rfl fun _ => ?_
  unfold slices_Contains_i
  exact zG <| zp 4 (vb false) <| zN <| zp 5 (vS p0_s) <| zp 6 (vi p1_v) <| zc 7 (slices_Index_i_sim _ _) fun x7 => zp 8 (vb (decide (x7 ≥ 0))) <| zp 4 (vb (decide (x7 ≥ 0))) <| zn <| SC.ret <| ze [.tmp 4] <| zm rfl zz
theorem device_Rack_Read_sim (p0_r : (Option Addr)) (p1_disk : Int) (p2_sector : Int) : Sm Tryz.prog 12 [(.pointer p0_r), (vi p1_disk), (vi p2_sector)] (fun y : (Slc × Int) => (.tuple #[(vS y.1), (vi y.2)])) (device_Rack_Read p0_r p1_disk p2_sector) := by
  refine sm_of 46 Tryz.func12 rfl rfl rfl fun _ => ?_
  unfold device_Rack_Read
  refine zG <| zp 6 (.slice none 0 0) <| zp 7 (vi 0) <| zN <| zp 13 (.pointer p0_r) <| zp 14 (vi p1_disk) <| zp 15 (vi p2_sector) <| zc 16 (device_Rack_disk_sim _ _ _) fun x16 => zp 12 (.tuple #[(.pointer x16.1), (vi x16.2)]) <| zp 17 (.pointer x16.1) <| zp 18 (vi x16.2) <| zp 8 (.pointer x16.1) <| zp 9 (vi x16.2) <| zn <| zq <| zG <| zp 19 (vi x16.2) <| zp 20 (vb (x16.2 != 0)) <| zn <| SC.cond rfl ?_ ?_
  exact zG <| zp 21 (vi x16.2) <| zp 6 (.slice none 0 0) <| zp 7 (vi x16.2) <| zn <| zt <| ze [.tmp 6, .tmp 7] <| zm rfl <| zm rfl zz
  refine zw <| zq <| zG <| zp 22 (.pointer x16.1) <| KT.nm 23 fun x23 => zp 24 (va x23 2) <| KT.l 25 fun x25 => zn <| SC.cond rfl ?_ ?_
  exact zG <| zp 6 (.slice none 0 0) <| zp 7 (vi 13) <| zn <| zt <| ze [.tmp 6, .tmp 7] <| zm rfl <| zm rfl zz
  refine zw <| zq <| zG <| zp 27 (.pointer x16.1) <| KT.nm 28 fun x28 => zp 29 (va x28 1) <| KT.l 30 fun x30 => zp 31 (vi p2_sector) <| KT.ow rfl (OW.lookOk (d := 32) (enc := vS) (⟨none, 0, 0⟩) 3 49 .i64 _ _ _ rfl rfl rfl (by kernel_rfl) (by kernel_rfl) (by kernel_rfl) rfl rfl (fun x32 => ?_))
  refine zp 26 (.tuple #[(vS x32.1), (vb x32.2)]) <| zp 33 (vS x32.1) <| zp 34 (vb x32.2) <| zp 10 (vS x32.1) <| zp 11 (vb x32.2) <| KT.nil <| zS (T' := [(2, (vi p2_sector)), (8, (.pointer x16.1)), (10, (vS x32.1)), (11, (vb x32.2))]) <| SX.seq <| zG <| zp 35 (vb x32.2) <| zn <| SC.cond rfl ?_ ?_
  exact zG <| zp 36 (vS x32.1) <| zc 37 (slices_Clone_b_sim _) fun x37 => zp 6 (vS x37) <| zp 7 (vi 0) <| zn <| zt <| ze [.tmp 6, .tmp 7] <| zm rfl <| zm rfl zz
  exact zw <| zG <| zp 38 (.pointer x16.1) <| KT.nm 39 fun x39 => zp 40 (vp x39) <| KT.l 41 fun x41 => zp 42 (vi p2_sector) <| zy <| oix 43 49 fun x43 => KT.l 44 fun x44 => zc 45 (slices_Clone_b_sim _) fun x45 => zp 6 (vS x45) <| zp 7 (vi 0) <| zn <| SC.ret <| ze [.tmp 6, .tmp 7] <| zm rfl <| zm rfl zz
theorem bank_Bank_Read_sim (p0_b : (Option Addr)) (p1_slot : Int) (p2_sector : Int) : Sm Tryz.prog 57 [(.pointer p0_b), (vi p1_slot), (vi p2_sector)] (fun y : (Slc × Int) => (.tuple #[(vS y.1), (vi y.2)])) (bank_Bank_Read p0_b p1_slot p2_sector) := by
  refine sm_of 27 Tryz.func57 rfl rfl rfl fun _ => ?_
  unfold bank_Bank_Read
  refine zG <| zp 6 (.slice none 0 0) <| zp 7 (vi 0) <| zN <| zp 11 (.pointer p0_b) <| zp 12 (vi p1_slot) <| zc 13 (bank_Bank_disk_sim _ _) fun x13 => zp 10 (.tuple #[(vi x13.1), (vb x13.2)]) <| zp 14 (vi x13.1) <| zp 15 (vb x13.2) <| zp 8 (vi x13.1) <| zp 9 (vb x13.2) <| zn <| zq <| zG <| zp 16 (vb x13.2) <| zp 17 (vb (!x13.2)) <| zn <| SC.cond rfl ?_ ?_
  exact zG <| zp 6 (.slice none 0 0) <| zp 7 (vi 11) <| zn <| zt <| ze [.tmp 6, .tmp 7] <| zm rfl <| zm rfl zz
  exact zw <| zG <| zp 18 (.pointer p0_b) <| KT.nm 19 fun x19 => zp 20 (vp x19) <| KT.l 21 fun x21 => zp 22 (vi x13.1) <| zp 23 (vi p2_sector) <| zc 24 (device_Rack_Read_sim _ _ _) fun x24 => zp 25 (vS x24.1) <| zp 26 (vi x24.2) <| zp 6 (vS x24.1) <| zp 7 (vi x24.2) <| zn <| SC.ret <| ze [.tmp 6, .tmp 7] <| zm rfl <| zm rfl zz
theorem bits_Get_sim (p0_b : Slc) (p1_at : Int) (p2_width : Int) : Sm Tryz.prog 97 [(vS p0_b), (vi p1_at), (vi p2_width)] (fun y : (Int × Bool) => (.tuple #[(vi y.1), (vb y.2)])) (bits_Get p0_b p1_at p2_width) := by
  refine sm_of 56 Tryz.func97 rfl rfl rfl fun _ => ?_
  unfold bits_Get
  refine zG <| zp 6 (vi 0) <| zp 7 (vb false) <| zn <| zq <| zG <| zp 11 (vi p2_width) <| zp 12 (vb (decide (p2_width < 1))) <| zp 13 (vb (decide (p2_width < 1))) <| zj 3 (fun r1 => [(16, (vb r1)), (0, (vS p0_b)), (1, (vi p1_at)), (2, (vi p2_width))]) (fun r1 => ?_) (fun j1 => ?_)
  refine zp 17 (vb r1) <| zj 3 (fun r2 => [(20, (vb r2)), (0, (vS p0_b)), (1, (vi p1_at)), (2, (vi p2_width))]) (fun r2 => ?_) (fun j2 => ?_)
  refine zp 21 (vb r2) <| zj 5 (fun r3 => [(26, (vb r3)), (0, (vS p0_b)), (1, (vi p1_at)), (2, (vi p2_width))]) (fun r3 => ?_) (fun j3 => ?_)
  refine zp 27 (vb r3) <| zj 7 (fun r4 => [(34, (vb r4)), (0, (vS p0_b)), (1, (vi p1_at)), (2, (vi p2_width))]) (fun r4 => ?_) (fun j4 => ?_)
  refine zn <| SC.cond rfl ?_ ?_
  exact zG <| zp 6 (vi 0) <| zp 7 (vb false) <| zn <| zt <| ze [.tmp 6, .tmp 7] <| zm rfl <| zm rfl zz
  refine zw <| zG <| zp 8 (vi 0) <| zn <| zq <| zG <| zp 35 (vS p0_b) <| zp 36 (vi p1_at) <| zp 37 (vi p1_at) <| zp 38 (vi p2_width) <| zp 39 (vi (w64 (p1_at + p2_width))) <| KT.oy rfl (OY.slice11 (d := 40) (s := p0_b) (lo := p1_at) (hi := w64 (p1_at + p2_width)) (size := 1) (elem := 5) _ _ _ _ rfl rfl rfl rfl (by kernel_rfl) (by kernel_rfl) rfl rfl (fun x40 => ?_))
  refine zp 41 (vi (vl x40)) <| zp 42 (vi 0) <| zn <| SC.block <| zL (σ := (Int × Int)) (fun s5 => [(8, (vi s5.1)), (40, (vS x40)), (41, (vi (vl x40))), (42, (vi s5.2))]) fun _ _ _ s5 => zG <| zp 43 (vb (decide (s5.2 < (vl x40)))) <| zn <| zq <| SC.cond rfl ?_ ?_
  refine zw <| zq <| SC.block <| zG <| zp 44 (vi s5.2) <| zy <| oix 45 5 fun x45 => KT.l 46 fun x46 => zp 9 (vi s5.2) <| zp 10 (.int .u8 x46) <| zn <| zg <| zp 47 (vi s5.1) <| zp 48 (.int .u8 x46) <| zp 49 (vi (w64 x46)) <| zp 50 (vi s5.2) <| zp 51 (vi (w64 (8 * s5.2))) <| KT.oy rfl (OY.shl (d := 52) (x := w64 x46) (y := w64 (8 * s5.2)) _ _ _ _ (bShl .i64 (w64 x46) (w64 (8 * s5.2))) rfl rfl rfl rfl rfl rfl ?_)
  exact zp 53 (vi (bOr .i64 s5.1 (bShl .i64 (w64 x46) (w64 (8 * s5.2))))) <| zp 8 (vi (bOr .i64 s5.1 (bShl .i64 (w64 x46) (w64 (8 * s5.2))))) <| KT.nil <| SX.block <| SX.seq <| zg <| zp 54 (vi (w64 (s5.2 + 1))) <| zp 42 (vi (w64 (s5.2 + 1))) <| KT.nil zX
  exact SC.exit <| SX.then_exit <| SX.loop_exit <| SX.block_hit <| SX.seq <| zG <| zp 55 (vi s5.1) <| zp 6 (vi s5.1) <| zp 7 (vb true) <| zn <| SC.ret <| ze [.tmp 6, .tmp 7] <| zm rfl <| zm rfl zz
  refine KT.ite 27 rfl ?_ ?_
  exact zk <| zk <| zk <| zk <| zk <| zk <| zp 34 (vb true) <| zl j4
  exact zp 28 (vS p0_b) <| zp 29 (vi (vl p0_b)) <| zp 30 (vi p1_at) <| zp 31 (vi (w64 ((vl p0_b) - p1_at))) <| zp 32 (vi p2_width) <| zp 33 (vb (decide ((w64 ((vl p0_b) - p1_at)) < p2_width))) <| zp 34 (vb (decide ((w64 ((vl p0_b) - p1_at)) < p2_width))) <| zl j4
  refine KT.ite 21 rfl ?_ ?_
  exact zk <| zk <| zk <| zk <| zp 26 (vb true) <| zl j3
  exact zp 22 (vi p1_at) <| zp 23 (vS p0_b) <| zp 24 (vi (vl p0_b)) <| zp 25 (vb (decide (p1_at > (vl p0_b)))) <| zp 26 (vb (decide (p1_at > (vl p0_b)))) <| zl j3
  refine KT.ite 17 rfl ?_ ?_
  exact zk <| zk <| zp 20 (vb true) <| zl j2
  exact zp 18 (vi p1_at) <| zp 19 (vb (decide (p1_at < 0))) <| zp 20 (vb (decide (p1_at < 0))) <| zl j2
  refine KT.ite 13 rfl ?_ ?_
  exact zk <| zk <| zp 16 (vb true) <| zl j1
  exact zp 14 (vi p2_width) <| zp 15 (vb (decide (p2_width > 4))) <| zp 16 (vb (decide (p2_width > 4))) <| zl j1
theorem sector_Decode_sim (p0_b : Slc) : Sm Tryz.prog 58 [(vS p0_b)] (fun y : ((Int × Int × Int) × Slc × Bool) => (.tuple #[(.agg #[(vi y.1.1), (vi y.1.2.1), (vi y.1.2.2)]), (vS y.2.1), (vb y.2.2)])) (sector_Decode p0_b) := by
  refine sm_of 32 Tryz.func58 rfl rfl rfl fun _ => ?_
  unfold sector_Decode
  refine zG <| KT.nw 2 (fun ad => .pointer (some ad)) 116 fun x2 => zp 3 (.slice none 0 0) <| zp 4 (vb false) <| zn <| zq <| zG <| zp 6 (vS p0_b) <| zp 7 (vi (vl p0_b)) <| zp 8 (vb ((vl p0_b) != 64)) <| zn <| SC.cond rfl ?_ ?_
  exact zG <| zp 9 (.agg #[(vi 0), (vi 0), (vi 0)]) <| zo <| osa <| zp 3 (.slice none 0 0) <| zp 4 (vb false) <| zn <| zt <| ze [.cell 2 116, .tmp 3, .tmp 4] <| RS.cellA 3 (by kernel_rfl) rfl rfl (fun _ => rfl) fun r2 => zm rfl <| zm rfl zz
  refine zw <| zG <| KT.nw 5 (fun ad => .pointer (some ad)) 116 fun x5 => zN <| zp 11 (vS p0_b) <| zc 12 (bits_Get_sim _ _ _) fun x12 => zp 10 (.tuple #[(vi x12.1), (vb x12.2)]) <| zp 13 (vi x12.1) <| zp 14 (vb x12.2) <| zp 15 (vp x5) <| KT.s <| zN <| zp 17 (vS p0_b) <| zc 18 (bits_Get_sim _ _ _) fun x18 => zp 16 (.tuple #[(vi x18.1), (vb x18.2)]) <| zp 19 (vi x18.1) <| zp 20 (vb x18.2) <| zp 21 (va x5 1) <| KT.s <| zN <| zp 23 (vS p0_b) <| zc 24 (bits_Get_sim _ _ _) fun x24 => zp 22 (.tuple #[(vi x24.1), (vb x24.2)]) <| zp 25 (vi x24.1) <| zp 26 (vb x24.2) <| zp 27 (va x5 2) <| KT.s <| zn <| zq <| SC.draw 7 (fun f => Nat.beq f 4) rfl (by kernel_rfl) fun S1 => ?_
  refine zA 0 rfl <| olai 28 3 fun x28 => zpA 1 29 (vS p0_b) <| KT.tp 2 (OY.slice10 (d := 30) (s := p0_b) (lo := 8) (size := 1) (elem := 5) _ _ _ rfl rfl rfl (by kernel_rfl) (by kernel_rfl) rfl rfl (fun x30 => ?_))
  exact KT.one 3 rfl (by kernel_rfl) rfl <| OW.step <| ocall 31 (bytes_Clone_sim _) fun x31 => KT.and <| KT.last 4 rfl (by kernel_rfl) rfl rfl <| OW.stA _ _ _ rfl rfl rfl rfl rfl (by kernel_rfl) <| KT.pvN 5 3 (vS x31) <| KT.pvN 6 4 (vb true) <| KT.doneN (by kernel_rfl) <| zS (T' := [(2, (vp x2)), (3, (vS x31)), (4, (vb true))]) <| SX.seq <| SC.ret <| ze [.cell 2 116, .tmp 3, .tmp 4] <| RS.cellA 3 (by kernel_rfl) rfl rfl (fun _ => rfl) fun r2 => zm rfl <| zm rfl zz
theorem stripe_Whole_sim (p0_b : (Option Addr)) (p1_seg : Int) : Sm Tryz.prog 18 [(.pointer p0_b), (vi p1_seg)] (fun y : (Int × Bool × Int) => (.tuple #[(vi y.1), (vb y.2.1), (vi y.2.2)])) (stripe_Whole (cvOf Tryz.prog) p0_b p1_seg) := by
  refine sm_of 82 Tryz.func18 rfl rfl rfl fun _ => ?_
  unfold stripe_Whole
  refine zG <| KT.nw 2 (fun ad => .pointer (some ad)) 27 fun x2 => KT.nw 4 (fun ad => .pointer (some ad)) 3 fun x4 => KT.nw 5 (fun ad => .pointer (some ad)) 4 fun x5 => KT.nw 6 (fun ad => .pointer (some ad)) 36 fun x6 => zn <| zq <| zG <| KT.l 19 fun x19 => zp 20 (vi p1_seg) <| zc 21 (stripe_there_sim _ _) fun x21 => zp 7 (vi x21) <| zN <| zp 22 (vi x21) <| zp 23 (vb (x21 != 0)) <| zn <| SC.cond rfl ?_ ?_
  exact zG <| zp 24 (vi x21) <| KT.s <| KT.s <| KT.s <| zn <| zt <| ze [.cell 4 3, .cell 5 4, .cell 6 36] <| RS.cell rfl (by kernel_rfl) fun r4 => RS.cell rfl (by kernel_rfl) fun r5 => RS.cell rfl (by kernel_rfl) fun r6 => zz
  refine zw <| zG <| KT.l 25 fun x25 => zc 26 (bank_Bank_Bad_sim _) fun x26 => KT.nw 8 (fun ad => .pointer (some ad)) 33 fun x8 => KT.s <| zn <| zq <| zG <| KT.l 27 fun x27 => zp 28 (vi (vl x27)) <| zp 29 (vb (decide ((vl x27) > 1))) <| zn <| SC.cond rfl ?_ ?_
  exact zG <| KT.s <| KT.s <| KT.s <| zn <| zt <| ze [.cell 4 3, .cell 5 4, .cell 6 36] <| RS.cell rfl (by kernel_rfl) fun r4 => RS.cell rfl (by kernel_rfl) fun r5 => RS.cell rfl (by kernel_rfl) fun r6 => zz
  refine zw <| zG <| KT.nw 9 (fun ad => .pointer (some ad)) 3 fun x9 => KT.s <| zn <| zq <| zG <| KT.l 30 fun x30 => zc 31 (bank_Bank_Geo_sim _) fun x31 => zp 32 (vi p1_seg) <| zc 33 (stripe_rows_sim _ _) fun x33 => zn <| SC.block <| SC.rangeF (ξ := (Int × Slc)) (τ := (Slc)) (fv := x33) (ps := [34, 35]) (encX := (fun x_1 : (Int × Slc) => [(vi x_1.1), (vS x_1.2)])) (fun t_1 => [(2, (vp x2)), (4, (vp x4)), (5, (vp x5)), (6, (vp x6)), (8, (vp x8)), (9, (vp x9)), (11, (vS t_1))]) rfl (fun _ => rfl) rfl (fun _ x_1 _ _ h1 => ?_) (fun _ _ _ t_1 => ?_) (fun D1 => ?_) (fun D1 => ?_) (fun D1 i1 => ?_)
  exact zg <| zp 11 (vS x_1.2) <| KT.nil <| SX.leafP h1 (.cons rfl (.cons rfl (.cons rfl (.cons rfl (.cons rfl (.cons rfl (.cons rfl (.nil))))))))
  refine SC.block <| zG <| zp 36 (vS t_1) <| zp 37 (vi (vl t_1)) <| zp 38 (vi 0) <| zn <| SC.block <| zL (σ := (Int)) (fun s2 => [(2, (vp x2)), (4, (vp x4)), (5, (vp x5)), (6, (vp x6)), (8, (vp x8)), (9, (vp x9)), (36, (vS t_1)), (37, (vi (vl t_1))), (38, (vi s2))]) fun _ _ _ s2 => zG <| zp 39 (vb (decide (s2 < (vl t_1)))) <| zn <| zq <| SC.cond rfl ?_ ?_
  refine zw <| zq <| SC.block <| zG <| zy <| oix 40 105 fun x40 => zo <| ola 41 2 fun x41 => KT.nw 13 (fun ad => .pointer (some ad)) 105 fun x13 => zo <| osa <| zn <| zq <| zG <| KT.l 42 fun x42 => zp 43 (vp x13) <| KT.l 44 fun x44 => zc 45 (slices_Contains_i_sim _ _) fun x45 => zn <| SC.cond rfl ?_ ?_
  exact SC.exit <| SX.then_exit <| SX.block_hit <| SX.seq <| zg <| zp 80 (vi (w64 (s2 + 1))) <| zp 38 (vi (w64 (s2 + 1))) <| KT.nil zX
  refine zw <| zG <| KT.l 47 fun x47 => zp 48 (vp x13) <| KT.l 49 fun x49 => zp 50 (va x13 1) <| KT.l 51 fun x51 => zc 52 (bank_Bank_Read_sim _ _ _) fun x52 => zp 46 (.tuple #[(vS x52.1), (vi x52.2)]) <| zp 53 (vS x52.1) <| zp 54 (vi x52.2) <| zp 14 (vS x52.1) <| zp 15 (vi x52.2) <| zN <| zp 56 (vS x52.1) <| zc 57 (sector_Decode_sim _) fun x57 => zp 55 (.tuple #[(.agg #[(vi x57.1.1), (vi x57.1.2.1), (vi x57.1.2.2)]), (vS x57.2.1), (vb x57.2.2)]) <| zp 58 (.agg #[(vi x57.1.1), (vi x57.1.2.1), (vi x57.1.2.2)]) <| zp 59 (vS x57.2.1) <| zp 60 (vb x57.2.2) <| KT.nw 16 (fun ad => .pointer (some ad)) 116 fun x16 => zo <| osa <| zp 17 (vS x57.2.1) <| zp 18 (vb x57.2.2) <| KT.nil <| zS (T' := [(2, (vp x2)), (4, (vp x4)), (5, (vp x5)), (6, (vp x6)), (8, (vp x8)), (9, (vp x9)), (15, (vi x52.2)), (16, (vp x16)), (36, (vS t_1)), (37, (vi (vl t_1))), (38, (vi s2))]) <| SX.seq <| zq <| zG <| zp 61 (vi x52.2) ?_
  refine zp 62 (vb (x52.2 != 0)) <| zp 63 (vb (x52.2 != 0)) <| zj 4 (fun r3 => [(67, (vb r3)), (2, (vp x2)), (4, (vp x4)), (5, (vp x5)), (6, (vp x6)), (8, (vp x8)), (9, (vp x9)), (16, (vp x16)), (36, (vS t_1)), (37, (vi (vl t_1))), (38, (vi s2))]) (fun r3 => ?_) (fun j3 => ?_)
  refine zp 68 (vb r3) <| zj 9 (fun r4 => [(77, (vb r4)), (2, (vp x2)), (4, (vp x4)), (5, (vp x5)), (6, (vp x6)), (8, (vp x8)), (9, (vp x9)), (16, (vp x16)), (36, (vS t_1)), (37, (vi (vl t_1))), (38, (vi s2))]) (fun r4 => ?_) (fun j4 => ?_)
  refine zn <| SC.cond rfl ?_ ?_
  exact zG <| KT.s <| KT.s <| KT.s <| zn <| zt <| SX.block_ret <| SX.then_ret <| SX.loop_ret <| SX.block_ret <| SX.block_ret SX.round_ret
  exact zw <| zg <| zp 78 (vp x16) <| KT.l 79 fun x79 => KT.s <| KT.nil <| SX.block <| SX.seq <| zg <| zp 80 (vi (w64 (s2 + 1))) <| zp 38 (vi (w64 (s2 + 1))) <| KT.nil zX
  refine KT.ite 68 rfl ?_ ?_
  exact zk <| zk <| zk <| zk <| zk <| zk <| zk <| zk <| zp 77 (vb true) <| zl j4
  refine KT.l 69 fun x69 => zp 70 (vb (x69 != 0)) <| zp 71 (vb (x69 != 0)) <| zj 5 (fun r5 => [(76, (vb r5)), (2, (vp x2)), (4, (vp x4)), (5, (vp x5)), (6, (vp x6)), (8, (vp x8)), (9, (vp x9)), (16, (vp x16)), (36, (vS t_1)), (37, (vi (vl t_1))), (38, (vi s2)), (68, (vb false))]) (fun r5 => ?_) (fun j5 => ?_)
  exact zp 77 (vb r5) <| zl j4
  refine KT.ite 71 rfl ?_ ?_
  exact zp 72 (vp x16) <| KT.l 73 fun x73 => KT.l 74 fun x74 => zp 75 (vb (x73 != x74)) <| zp 76 (vb (x73 != x74)) <| zl j5
  exact zk <| zk <| zk <| zk <| zp 76 (vb false) <| zl j5
  refine KT.ite 63 rfl ?_ ?_
  exact zk <| zk <| zk <| zp 67 (vb true) <| zl j3
  exact zp 64 (vp x16) <| KT.l 65 fun x65 => zp 66 (vb (x65 == 0)) <| zp 67 (vb (x65 == 0)) <| zl j3
  exact SC.exit <| SX.then_exit <| SX.loop_exit <| SX.block_hit <| SX.block SX.round_next
  exact SX.block <| SX.seq <| zG <| KT.l 81 fun x81 => KT.s <| KT.s <| KT.s <| zn <| SC.ret <| ze [.cell 4 3, .cell 5 4, .cell 6 36] <| RS.cell rfl (by kernel_rfl) fun r4 => RS.cell rfl (by kernel_rfl) fun r5 => RS.cell rfl (by kernel_rfl) fun r6 => zz
  exact SX.block_ret <| SX.then_ret <| ze [.cell 4 3, .cell 5 4, .cell 6 36] <| RS.cell rfl (by kernel_rfl) fun r4 => RS.cell rfl (by kernel_rfl) fun r5 => RS.cell rfl (by kernel_rfl) fun r6 => zz
  exact SX.fail
theorem stripe_good_sim (p0_b : (Option Addr)) (p1_s : (Int × Int)) (p2_seq : Int) : Sm Tryz.prog 61 [(.pointer p0_b), (.agg #[(vi p1_s.1), (vi p1_s.2)]), (vi p2_seq)] (fun y : (Slc × Bool) => (.tuple #[(vS y.1), (vb y.2)])) (stripe_good p0_b p1_s p2_seq) := by
  refine sm_of 35 Tryz.func61 rfl rfl rfl fun _ => ?_
  unfold stripe_good
  refine zG <| KT.nw 4 (fun ad => .pointer (some ad)) 105 fun x4 => zp 6 (.slice none 0 0) <| zp 7 (vb false) <| zN <| zp 14 (.pointer p0_b) <| zp 15 (vp x4) <| KT.l 16 fun x16 => zp 17 (va x4 1) <| KT.l 18 fun x18 => zc 19 (bank_Bank_Read_sim _ _ _) fun x19 => zp 13 (.tuple #[(vS x19.1), (vi x19.2)]) <| zp 20 (vS x19.1) <| zp 21 (vi x19.2) <| zp 8 (vS x19.1) <| zp 9 (vi x19.2) <| zn <| zq <| zG <| zp 22 (vi x19.2) <| zp 23 (vb (x19.2 != 0)) <| zn <| SC.cond rfl ?_ ?_
  exact zG <| zp 6 (.slice none 0 0) <| zp 7 (vb false) <| zn <| zt <| ze [.tmp 6, .tmp 7] <| zm rfl <| zm rfl zz
  exact zw <| zG <| zp 25 (vS x19.1) <| zc 26 (sector_Decode_sim _) fun x26 => zp 24 (.tuple #[(.agg #[(vi x26.1.1), (vi x26.1.2.1), (vi x26.1.2.2)]), (vS x26.2.1), (vb x26.2.2)]) <| zp 27 (.agg #[(vi x26.1.1), (vi x26.1.2.1), (vi x26.1.2.2)]) <| zp 28 (vS x26.2.1) <| zp 29 (vb x26.2.2) <| KT.nw 10 (fun ad => .pointer (some ad)) 116 fun x10 => zo <| osa <| zp 11 (vS x26.2.1) <| zp 12 (vb x26.2.2) <| zn <| zq <| SC.draw 7 (fun _ => false) rfl (by kernel_rfl) fun S1 => zpA 0 30 (vS x19.1) <| zpA 1 31 (vp x10) <| zA 2 rfl <| oli 32 fun x32 => zpA 3 33 (vi p2_seq) <| zpA 4 34 (vb (x32 == p2_seq)) <| zpA 5 6 (vS x19.1) <| zpA 6 7 (vb (x32 == p2_seq)) <| KT.doneA (by kernel_rfl) <| zS (T' := [(6, (vS x19.1)), (7, (vb (x32 == p2_seq)))]) <| SX.seq <| SC.ret <| ze [.tmp 6, .tmp 7] <| zm rfl <| zm rfl zz
theorem sector_Restore_sim (p0_list : Slc) : Sm Tryz.prog 99 [(vS p0_list)] (fun y : (Slc × Bool) => (.tuple #[(vS y.1), (vb y.2)])) (sector_Restore p0_list) := by
  refine sm_of 8 Tryz.func99 rfl rfl rfl fun _ => ?_
  unfold sector_Restore
  exact zG <| zp 2 (.slice none 0 0) <| zp 3 (vb false) <| zN <| zp 4 (vS p0_list) <| zc 5 (sector_Parity_sim _) fun x5 => zp 6 (vS x5.1) <| zp 7 (vb x5.2) <| zp 2 (vS x5.1) <| zp 3 (vb x5.2) <| zn <| SC.ret <| ze [.tmp 2, .tmp 3] <| zm rfl <| zm rfl zz
theorem stripe_others_sim (p0_b : (Option Addr)) (p1_r : Slc) (p2_lost : (Int × Int)) (p3_seq : Int) : Sm Tryz.prog 62 [(.pointer p0_b), (vS p1_r), (.agg #[(vi p2_lost.1), (vi p2_lost.2)]), (vi p3_seq)] (fun y : (Slc × Bool) => (.tuple #[(vS y.1), (vb y.2)])) (stripe_others p0_b p1_r p2_lost p3_seq) := by
  refine sm_of 42 Tryz.func62 rfl rfl rfl fun _ => ?_
  unfold stripe_others
  refine zG <| KT.nw 6 (fun ad => .pointer (some ad)) 105 fun x6 => zp 8 (.slice none 0 0) <| zp 9 (vb false) <| zN <| zp 10 (.slice none 0 0) <| zn <| zq <| zG <| zp 15 (vS p1_r) <| zp 16 (vi (vl p1_r)) <| zp 17 (vi 0) <| zn <| SC.block <| zL (σ := (Slc × Int)) (fun s1 => [(0, (.pointer p0_b)), (3, (vi p3_seq)), (6, (vp x6)), (10, (vS s1.1)), (15, (vS p1_r)), (16, (vi (vl p1_r))), (17, (vi s1.2))]) fun _ _ _ s1 => zG <| zp 18 (vb (decide (s1.2 < (vl p1_r)))) <| zn <| zq <| SC.cond rfl ?_ ?_
  refine zw <| zq <| SC.block <| zG <| zy <| oix 19 105 fun x19 => zo <| ola 20 2 fun x20 => KT.nw 12 (fun ad => .pointer (some ad)) 105 fun x12 => zo <| osa <| zn <| zq <| zG <| zo <| ola 21 2 fun x21 => zo <| ola 22 2 fun x22 => KT.oy rfl (OY.eqlAgg2 (d := 23) (x := (x21.1, x21.2)) (y := (x22.1, x22.2)) _ _ _ _ _ _ rfl rfl rfl rfl (by kernel_rfl) rfl rfl ?_)
  refine zn <| SC.cond rfl ?_ ?_
  exact SC.exit <| SX.then_exit <| SX.block_hit <| SX.seq <| zg <| zp 37 (vi (w64 (s1.2 + 1))) <| zp 17 (vi (w64 (s1.2 + 1))) <| KT.nil zX
  refine zw <| zG <| zp 25 (.pointer p0_b) <| zo <| ola 26 2 fun x26 => zp 27 (vi p3_seq) <| zc 28 (stripe_good_sim _ _ _) fun x28 => zp 24 (.tuple #[(vS x28.1), (vb x28.2)]) <| zp 29 (vS x28.1) <| zp 30 (vb x28.2) <| zp 13 (vS x28.1) <| zp 14 (vb x28.2) <| zn <| zq <| zG <| zp 31 (vb x28.2) <| zp 32 (vb (!x28.2)) <| zn <| SC.cond rfl ?_ ?_
  exact zG <| zp 8 (.slice none 0 0) <| zp 9 (vb false) <| zn <| zt <| SX.block_ret <| SX.then_ret <| SX.loop_ret <| SX.block_ret <| SX.then_ret <| ze [.tmp 8, .tmp 9] <| zm rfl <| zm rfl zz
  exact zw <| zg <| zp 33 (vS s1.1) <| zp 34 (vS x28.1) <| KT.nw 35 (fun ad => .slice (some ad) 1 1) 49 fun x35 => zo <| oapp 36 49 fun x36 => zp 10 (vS x36) <| KT.nil <| zS (T' := [(0, (.pointer p0_b)), (3, (vi p3_seq)), (6, (vp x6)), (10, (vS x36)), (15, (vS p1_r)), (16, (vi (vl p1_r))), (17, (vi s1.2))]) <| SX.block <| SX.seq <| zg <| zp 37 (vi (w64 (s1.2 + 1))) <| zp 17 (vi (w64 (s1.2 + 1))) <| KT.nil zX
  exact SC.exit <| SX.then_exit <| SX.loop_exit <| SX.block_hit <| SX.seq <| zG <| zp 38 (vS s1.1) <| zc 39 (sector_Restore_sim _) fun x39 => zp 40 (vS x39.1) <| zp 41 (vb x39.2) <| zp 8 (vS x39.1) <| zp 9 (vb x39.2) <| zn <| SC.ret <| ze [.tmp 8, .tmp 9] <| zm rfl <| zm rfl zz
theorem stripe_Read_sim (p0_b : (Option Addr)) (p1_seg : Int) (p2_k : Int) (p3_seq : Int) : Sm Tryz.prog 19 [(.pointer p0_b), (vi p1_seg), (vi p2_k), (vi p3_seq)] (fun y : ((Int × Int × Slc) × Int) => (.tuple #[(.agg #[(vi y.1.1), (vi y.1.2.1), (vS y.1.2.2)]), (vi y.2)])) (stripe_Read (cvOf Tryz.prog) p0_b p1_seg p2_k p3_seq) := by
  refine sm_of 80 Tryz.func19 rfl rfl rfl fun _ => ?_
  unfold stripe_Read
  refine zG <| KT.nw 4 (fun ad => .pointer (some ad)) 27 fun x4 => KT.nw 6 (fun ad => .pointer (some ad)) 3 fun x6 => KT.nw 7 (fun ad => .pointer (some ad)) 3 fun x7 => KT.nw 8 (fun ad => .pointer (some ad)) 58 fun x8 => zp 9 (vi 0) <| zN <| KT.l 19 fun x19 => zc 20 (bank_Bank_Geo_sim _) fun x20 => KT.nw 10 (fun ad => .pointer (some ad)) 41 fun x10 => zo <| osa <| zN <| zo <| ola 22 3 fun x22 => zp 23 (vi p1_seg) <| KT.l 24 fun x24 => zc 25 (geo_Block_sim _ _ _) fun x25 => zp 21 (.tuple #[(.agg #[(vi x25.1.1), (vi x25.1.2)]), (vb x25.2)]) <| zp 26 (.agg #[(vi x25.1.1), (vi x25.1.2)]) <| zp 27 (vb x25.2) <| KT.nw 11 (fun ad => .pointer (some ad)) 105 fun x11 => KT.nw 12 (fun ad => .pointer (some ad)) 4 fun x12 => zo <| osa <| KT.s <| zn <| zq <| SC.block <| zG <| KT.l 29 fun x29 => zp 30 (vb (!x29)) <| zp 28 (vb (!x29)) ?_
  refine zn <| SC.cond rfl ?_ ?_
  exact zG <| zp 31 (.agg #[(vi 0), (vi 0), (.slice none 0 0)]) <| zo <| osa <| zp 9 (vi 28) <| zn <| SC.ret <| SX.block_ret <| SX.then_ret <| ze [.cell 8 58, .tmp 9] <| RS.cellA 3 (by kernel_rfl) rfl rfl (fun _ => rfl) fun r8 => zm rfl zz
  refine zG <| KT.l 33 fun x33 => zc 34 (bank_Bank_Off_sim _) fun x34 => zp 32 (vb x34) <| zn <| SC.cond rfl ?_ ?_
  exact zG <| zp 35 (.agg #[(vi 0), (vi 0), (.slice none 0 0)]) <| zo <| osa <| zp 9 (vi 12) <| zn <| SC.ret <| SX.block_ret <| SX.then_ret <| ze [.cell 8 58, .tmp 9] <| RS.cellA 3 (by kernel_rfl) rfl rfl (fun _ => rfl) fun r8 => zm rfl zz
  refine SC.skip <| SX.block <| SX.seq <| zG <| KT.l 37 fun x37 => zo <| ola 38 2 fun x38 => KT.l 39 fun x39 => zc 40 (stripe_good_sim _ _ _) fun x40 => zp 36 (.tuple #[(vS x40.1), (vb x40.2)]) <| zp 41 (vS x40.1) <| zp 42 (vb x40.2) <| KT.nw 13 (fun ad => .pointer (some ad)) 49 fun x13 => KT.s <| KT.s <| KT.nil <| zS (T' := [(1, (vi p1_seg)), (4, (vp x4)), (6, (vp x6)), (7, (vp x7)), (8, (vp x8)), (9, (vi 0)), (10, (vp x10)), (11, (vp x11)), (12, (vp x12)), (13, (vp x13))]) <| SX.seq <| zq <| zG <| KT.l 43 fun x43 => zp 44 (vb (!x43)) <| zn <| SC.joinN (β := List Nat) (fun b1 => ⟨80, b1⟩) (fun b1 => [(8, (vp x8)), (12, (vp x12)), (13, (vp x13))]) (fun b1 => ?_) (fun j1 => ?_)
  refine SX.seq <| zq <| zG <| KT.l 65 fun x65 => zp 66 (vb (!x65)) <| zn <| SC.cond rfl ?_ ?_
  exact zG <| zp 67 (.agg #[(vi 0), (vi 0), (.slice none 0 0)]) <| zo <| osa <| zp 9 (vi 14) <| zn <| zt <| ze [.cell 8 58, .tmp 9] <| RS.cellA 3 (by kernel_rfl) rfl rfl (fun _ => rfl) fun r8 => zm rfl zz
  exact zw <| zG <| KT.l 69 fun x69 => zc 70 (sector_Decode_sim _) fun x70 => zp 68 (.tuple #[(.agg #[(vi x70.1.1), (vi x70.1.2.1), (vi x70.1.2.2)]), (vS x70.2.1), (vb x70.2.2)]) <| zp 71 (.agg #[(vi x70.1.1), (vi x70.1.2.1), (vi x70.1.2.2)]) <| zp 72 (vS x70.2.1) <| zp 73 (vb x70.2.2) <| KT.nw 16 (fun ad => .pointer (some ad)) 116 fun x16 => zo <| osa <| zp 17 (vS x70.2.1) <| zp 18 (vb x70.2.2) <| zN <| zp 74 (va x16 1) <| KT.l 75 fun x75 => zp 76 (va x16 2) <| KT.l 77 fun x77 => zp 78 (vS x70.2.1) <| zp 79 (.agg #[(vi x75), (vi x77), (vS x70.2.1)]) <| zo <| osa <| zp 9 (vi 0) <| zn <| SC.ret <| ze [.cell 8 58, .tmp 9] <| RS.cellA 3 (by kernel_rfl) rfl rfl (fun _ => rfl) fun r8 => zm rfl zz
  refine SC.cond rfl ?_ ?_
  refine zG <| zo <| ola 45 3 fun x45 => zp 46 (vi p1_seg) <| zc 47 (stripe_rows_sim _ _) fun x47 => zn <| SC.block <| SC.rangeF (ξ := (Int × Slc)) (τ := (Int × Slc)) (fv := x47) (ps := [48, 49]) (encX := (fun x_2 : (Int × Slc) => [(vi x_2.1), (vS x_2.2)])) (fun t_2 => [(4, (vp x4)), (6, (vp x6)), (7, (vp x7)), (10, (vp x10)), (11, (vp x11)), (12, (vp x12)), (13, (vp x13)), (14, (vi t_2.1)), (15, (vS t_2.2))]) rfl (fun _ => rfl) rfl (fun _ x_2 _ _ h2 => ?_) (fun _ _ _ t_2 => ?_) (fun D2 => ?_) (fun D2 => ?_) (fun D2 i2 => ?_)
  exact zG <| zp 14 (vi x_2.1) <| zn <| zg <| zp 15 (vS x_2.2) <| KT.nil <| SX.leafP h2 (.cons rfl (.cons rfl (.cons rfl (.cons rfl (.cons rfl (.cons rfl (.cons rfl (.cons rfl (.cons rfl (.nil))))))))))
  refine SC.block <| zG <| zp 50 (vi t_2.1) <| KT.l 51 fun x51 => zp 52 (vp x10) <| KT.l 53 fun x53 => zp 54 (vi (w64 (x53 - 1))) <| KT.oy rfl (OY.quo (d := 55) (x := x51) (y := w64 (x53 - 1)) _ _ _ _ (w64 (Int.tdiv x51 (w64 (x53 - 1)))) rfl rfl rfl rfl rfl rfl ?_)
  refine zp 56 (vb (t_2.1 == (w64 (Int.tdiv x51 (w64 (x53 - 1)))))) <| zn <| SC.cond rfl ?_ ?_
  exact zg <| KT.l 58 fun x58 => zp 59 (vS t_2.2) <| zo <| ola 60 2 fun x60 => KT.l 61 fun x61 => zc 62 (stripe_others_sim _ _ _ _) fun x62 => zp 57 (.tuple #[(vS x62.1), (vb x62.2)]) <| zp 63 (vS x62.1) <| zp 64 (vb x62.2) <| KT.s <| KT.s <| KT.nil <| SX.block SX.round_next
  exact SC.skip <| SX.block SX.round_next
  exact SX.block <| SX.leafN j1 rfl (.cons rfl (.cons rfl (.cons rfl (.nil))))
  exact SX.fail
  exact SX.fail
  exact SC.skip <| SX.leafN j1 rfl (.cons rfl (.cons rfl (.cons rfl (.nil))))
theorem law07_alive_sim  : Sm Tryz.prog 4 [] Value.bool (law07_alive (cvOf Tryz.prog) ) := by
  refine sm_of 99 Tryz.func4 rfl rfl rfl fun _ => ?_
  unfold law07_alive
  refine zG <| zp 0 (vb false) <| zN <| zp 11 (.agg #[(vi 0), (vi 0), (vi 0)]) <| zc 12 (law07_Open_sim _) fun x12 => zp 10 (.tuple #[(.pointer x12.1), (.pointer x12.2)]) <| zp 13 (.pointer x12.1) <| zp 14 (.pointer x12.2) <| zp 1 (.pointer x12.1) <| zp 2 (.pointer x12.2) <| zn <| zq <| zG <| zp 15 (.pointer x12.1) <| KT.oy rfl (OY.eqlNil (d := 16) (p := x12.1) _ _ _ _ rfl rfl rfl (by kernel_rfl) rfl rfl ?_)
  refine zp 17 (vb ((x12.1).isNone)) <| zj 3 (fun r1 => [(20, (vb r1)), (1, (.pointer x12.1)), (2, (.pointer x12.2))]) (fun r1 => ?_) (fun j1 => ?_)
  refine zp 21 (vb r1) <| zj 9 (fun r2 => [(30, (vb r2)), (1, (.pointer x12.1)), (2, (.pointer x12.2))]) (fun r2 => ?_) (fun j2 => ?_)
  refine zn <| SC.cond rfl ?_ ?_
  exact zG <| zp 0 (vb false) <| zn <| zt <| ze [.tmp 0] <| zm rfl zz
  refine zw <| zG <| zp 31 (.pointer x12.2) <| zc 32 (device_Rack_Doom_sim _ _ _) fun x32 => zn <| zq <| zG <| zp 33 (.pointer x12.1) <| zc 34 (bank_Bank_Flush_sim _) fun x34 => zp 35 (vb (x34 != 0)) <| zn <| SC.cond rfl ?_ ?_
  exact zG <| zp 0 (vb false) <| zn <| zt <| ze [.tmp 0] <| zm rfl zz
  refine zw <| zG <| zp 37 (.pointer x12.1) <| zc 38 (stripe_Whole_sim _ _) fun x38 => zp 36 (.tuple #[(vi x38.1), (vb x38.2.1), (vi x38.2.2)]) <| zp 39 (vi x38.1) <| zp 40 (vb x38.2.1) <| zp 41 (vi x38.2.2) <| zp 3 (vi x38.1) <| zp 4 (vb x38.2.1) <| zp 5 (vi x38.2.2) <| zN <| zp 43 (.pointer x12.1) <| zc 44 (stripe_Read_sim _ _ _ _) fun x44 => zp 42 (.tuple #[(.agg #[(vi x44.1.1), (vi x44.1.2.1), (vS x44.1.2.2)]), (vi x44.2)]) <| zp 45 (.agg #[(vi x44.1.1), (vi x44.1.2.1), (vS x44.1.2.2)]) <| zp 46 (vi x44.2) <| KT.nw 6 (fun ad => .pointer (some ad)) 58 fun x6 => zo <| osa <| zp 7 (vi x44.2) <| zN <| zp 48 (.pointer x12.1) <| zc 49 (stripe_Read_sim _ _ _ _) fun x49 => zp 47 (.tuple #[(.agg #[(vi x49.1.1), (vi x49.1.2.1), (vS x49.1.2.2)]), (vi x49.2)]) <| zp 50 (.agg #[(vi x49.1.1), (vi x49.1.2.1), (vS x49.1.2.2)]) <| zp 51 (vi x49.2) <| KT.nw 8 (fun ad => .pointer (some ad)) 58 fun x8 => zo <| osa <| zp 9 (vi x49.2) <| KT.nil ?_
  refine zS (T' := [(3, (vi x38.1)), (4, (vb x38.2.1)), (5, (vi x38.2.2)), (6, (vp x6)), (7, (vi x44.2)), (8, (vp x8)), (9, (vi x49.2))]) <| SX.seq <| zG <| zp 52 (vi x38.1) <| zp 53 (vb (x38.1 == 7)) <| zp 54 (vb (x38.1 == 7)) <| zj 2 (fun r3 => [(56, (vb r3)), (5, (vi x38.2.2)), (6, (vp x6)), (7, (vi x44.2)), (8, (vp x8)), (9, (vi x49.2))]) (fun r3 => ?_) (fun j3 => ?_)
  refine zp 57 (vb r3) <| zj 3 (fun r4 => [(60, (vb r4)), (6, (vp x6)), (7, (vi x44.2)), (8, (vp x8)), (9, (vi x49.2))]) (fun r4 => ?_) (fun j4 => ?_)
  refine zp 61 (vb r4) <| zj 3 (fun r5 => [(64, (vb r5)), (6, (vp x6)), (8, (vp x8)), (9, (vi x49.2))]) (fun r5 => ?_) (fun j5 => ?_)
  refine zp 65 (vb r5) <| zj 3 (fun r6 => [(68, (vb r6)), (6, (vp x6)), (8, (vp x8))]) (fun r6 => ?_) (fun j6 => ?_)
  refine zp 69 (vb r6) <| zj 4 (fun r7 => [(73, (vb r7)), (6, (vp x6)), (8, (vp x8))]) (fun r7 => ?_) (fun j7 => ?_)
  refine zp 74 (vb r7) <| zj 4 (fun r8 => [(78, (vb r8)), (6, (vp x6)), (8, (vp x8))]) (fun r8 => ?_) (fun j8 => ?_)
  refine zp 79 (vb r8) <| zj 5 (fun r9 => [(84, (vb r9)), (6, (vp x6)), (8, (vp x8))]) (fun r9 => ?_) (fun j9 => ?_)
  refine zp 85 (vb r9) <| zj 6 (fun r10 => [(91, (vb r10)), (8, (vp x8))]) (fun r10 => ?_) (fun j10 => ?_)
  refine zp 92 (vb r10) <| zj 6 (fun r11 => [(98, (vb r11))]) (fun r11 => ?_) (fun j11 => ?_)
  exact zp 0 (vb r11) <| zn <| SC.ret <| ze [.tmp 0] <| zm rfl zz
  refine KT.ite 92 rfl ?_ ?_
  exact zp 93 (va x8 2) <| KT.l 94 fun x94 => zy <| oix 95 5 fun x95 => KT.l 96 fun x96 => zp 97 (vb (x96 == 5)) <| zp 98 (vb (x96 == 5)) <| zl j11
  exact zk <| zk <| zk <| zk <| zk <| zp 98 (vb false) <| zl j11
  refine KT.ite 85 rfl ?_ ?_
  exact zp 86 (va x6 2) <| KT.l 87 fun x87 => zy <| oix 88 5 fun x88 => KT.l 89 fun x89 => zp 90 (vb (x89 == 6)) <| zp 91 (vb (x89 == 6)) <| zl j10
  exact zk <| zk <| zk <| zk <| zk <| zp 91 (vb false) <| zl j10
  refine KT.ite 79 rfl ?_ ?_
  exact zp 80 (va x6 2) <| KT.l 81 fun x81 => zp 82 (vi (vl x81)) <| zp 83 (vb ((vl x81) == 56)) <| zp 84 (vb ((vl x81) == 56)) <| zl j9
  exact zk <| zk <| zk <| zk <| zp 84 (vb false) <| zl j9
  refine KT.ite 74 rfl ?_ ?_
  exact zp 75 (va x6 1) <| KT.l 76 fun x76 => zp 77 (vb (x76 == 3)) <| zp 78 (vb (x76 == 3)) <| zl j8
  exact zk <| zk <| zk <| zp 78 (vb false) <| zl j8
  refine KT.ite 69 rfl ?_ ?_
  exact zp 70 (vp x6) <| KT.l 71 fun x71 => zp 72 (vb (x71 == 2)) <| zp 73 (vb (x71 == 2)) <| zl j7
  exact zk <| zk <| zk <| zp 73 (vb false) <| zl j7
  refine KT.ite 65 rfl ?_ ?_
  exact zp 66 (vi x49.2) <| zp 67 (vb (x49.2 == 0)) <| zp 68 (vb (x49.2 == 0)) <| zl j6
  exact zk <| zk <| zp 68 (vb false) <| zl j6
  refine KT.ite 61 rfl ?_ ?_
  exact zp 62 (vi x44.2) <| zp 63 (vb (x44.2 == 0)) <| zp 64 (vb (x44.2 == 0)) <| zl j5
  exact zk <| zk <| zp 64 (vb false) <| zl j5
  refine KT.ite 57 rfl ?_ ?_
  exact zp 58 (vi x38.2.2) <| zp 59 (vb (x38.2.2 == 0)) <| zp 60 (vb (x38.2.2 == 0)) <| zl j4
  exact zk <| zk <| zp 60 (vb false) <| zl j4
  refine KT.ite 54 rfl ?_ ?_
  exact zp 55 (vb x38.2.1) <| zp 56 (vb x38.2.1) <| zl j3
  exact zk <| zp 56 (vb false) <| zl j3
  refine KT.ite 21 rfl ?_ ?_
  exact zk <| zk <| zk <| zk <| zk <| zk <| zk <| zk <| zp 30 (vb true) <| zl j2
  exact zp 22 (.pointer x12.1) <| KT.nw 23 (fun ad => .slice (some ad) 1 1) 5 fun x23 => zp 24 (.agg #[(vi 1), (vi 0), (.slice (some x23) 1 1)]) <| KT.nw 25 (fun ad => .slice (some ad) 1 1) 5 fun x25 => zp 26 (.agg #[(vi 2), (vi 3), (.slice (some x25) 1 1)]) <| KT.nw 27 (fun ad => .slice (some ad) 2 2) 58 fun x27 => zc 28 (stripe_Write_sim _ _ _ _) fun x28 => zp 29 (vb (x28 != 0)) <| zp 30 (vb (x28 != 0)) <| zl j2
  refine KT.ite 17 rfl ?_ ?_
  exact zk <| zk <| zp 20 (vb true) <| zl j1
  refine zp 18 (.pointer x12.2) <| KT.oy rfl (OY.eqlNil (d := 19) (p := x12.2) _ _ _ _ rfl rfl rfl (by kernel_rfl) rfl rfl ?_)
  exact zp 20 (vb ((x12.2).isNone)) <| zl j1
theorem law07_great_sim (p0_calls : Slc) : Sm Tryz.prog 5 [(vS p0_calls)] Value.bool (law07_great p0_calls) := by
  refine sm_of 58 Tryz.func5 rfl rfl rfl fun _ => ?_
  unfold law07_great
  refine zG <| zp 2 (vb false) <| zn <| zq <| zG <| zp 6 (vS p0_calls) <| zp 7 (vi (vl p0_calls)) <| zp 8 (vb (decide ((vl p0_calls) > 60))) <| zn <| SC.cond rfl ?_ ?_
  exact zG <| zp 2 (vb true) <| zn <| zt <| ze [.tmp 2] <| zm rfl zz
  refine zw <| zG <| zp 3 (vi 0) <| zn <| zq <| zG <| zp 4 (vi 0) <| zn <| SC.block <| zL (σ := (Int × Int)) (fun s1 => [(0, (vS p0_calls)), (3, (vi s1.1)), (4, (vi s1.2))]) fun _ _ _ s1 => zq <| zG <| zp 9 (vi s1.2) <| zp 10 (vS p0_calls) <| zp 11 (vi (vl p0_calls)) <| zp 12 (vb (decide (s1.2 < (vl p0_calls)))) <| zn <| SC.cond rfl ?_ ?_
  refine zw <| zq <| SC.block <| zq <| SC.draw 16 (fun _ => false) rfl (by kernel_rfl) fun S2 => zpA 0 15 (vi s1.1) <| zpA 1 16 (vS p0_calls) <| zpA 2 17 (vi s1.2) <| zB 3 rfl <| oix 18 51 fun x18 => zpA 4 19 (va x18 5) <| zA 5 rfl <| oli 20 fun x20 => zpA 6 21 (vi (vl x20)) <| zpA 7 22 (vS p0_calls) <| zpA 8 23 (vi s1.2) <| zB 9 rfl <| oix 24 51 fun x24 => zpA 10 25 (va x24 4) <| zA 11 rfl <| oli 26 fun x26 => zpA 12 27 (vi (vl x26)) <| zpA 13 28 (vi (w64 ((vl x20) + (vl x26)))) <| zpA 14 29 (vi (w64 (s1.1 + (w64 ((vl x20) + (vl x26)))))) <| zpA 15 3 (vi (w64 (s1.1 + (w64 ((vl x20) + (vl x26)))))) <| KT.doneA (by kernel_rfl) <| SX.seq <| zq <| zG <| zp 5 (vi 0) <| zn <| SC.block <| zL (σ := (Int × Int)) (fun s3 => [(0, (vS p0_calls)), (3, (vi s3.1)), (4, (vi s1.2)), (5, (vi s3.2))]) fun _ _ _ s3 => zq ?_
  refine zG <| zp 30 (vi s3.2) <| zp 31 (vS p0_calls) <| zp 32 (vi s1.2) <| zy <| oix 33 51 fun x33 => zp 34 (va x33 4) <| KT.l 35 fun x35 => zp 36 (vi (vl x35)) <| zp 37 (vb (decide (s3.2 < (vl x35)))) <| zp 38 (vb (decide (s3.2 < (vl x35)))) <| zj 3 (fun r4 => [(41, (vb r4)), (0, (vS p0_calls)), (3, (vi s3.1)), (4, (vi s1.2)), (5, (vi s3.2))]) (fun r4 => ?_) (fun j4 => ?_)
  refine zn <| SC.cond rfl ?_ ?_
  exact zw <| zq <| SC.block <| zg <| zp 44 (vi s3.1) <| zp 45 (vS p0_calls) <| zp 46 (vi s1.2) <| zy <| oix 47 51 fun x47 => zp 48 (va x47 4) <| KT.l 49 fun x49 => zp 50 (vi s3.2) <| zy <| oix 51 58 fun x51 => zp 52 (va x51 2) <| KT.l 53 fun x53 => zp 54 (vi (vl x53)) <| zp 55 (vi (w64 (s3.1 + (vl x53)))) <| zp 3 (vi (w64 (s3.1 + (vl x53)))) <| KT.nil <| SX.block <| SX.seq <| zg <| zp 42 (vi s3.2) <| zp 43 (vi (w64 (s3.2 + 1))) <| zp 5 (vi (w64 (s3.2 + 1))) <| KT.nil zX
  refine SC.exit <| SX.then_exit <| SX.loop_exit <| SX.block_hit <| SX.seq <| zG <| zp 56 (vi s3.1) <| zp 57 (vb (decide (s3.1 > 20000))) <| zn <| SC.cond rfl ?_ ?_
  exact zG <| zp 2 (vb true) <| zn <| SC.ret <| SX.block_ret <| SX.then_ret <| SX.loop_ret <| SX.block_ret <| SX.then_ret <| ze [.tmp 2] <| zm rfl zz
  exact SC.skip <| SX.block <| SX.seq <| zg <| zp 13 (vi s1.2) <| zp 14 (vi (w64 (s1.2 + 1))) <| zp 4 (vi (w64 (s1.2 + 1))) <| KT.nil zX
  refine KT.ite 38 rfl ?_ ?_
  exact zp 39 (vi s3.1) <| zp 40 (vb (decide (s3.1 ≤ 20000))) <| zp 41 (vb (decide (s3.1 ≤ 20000))) <| zl j4
  exact zk <| zk <| zp 41 (vb false) <| zl j4
  exact SC.exit <| SX.then_exit <| SX.loop_exit <| SX.block_hit <| SX.seq <| zG <| zp 2 (vb false) <| zn <| SC.ret <| ze [.tmp 2] <| zm rfl zz
theorem ref02_New_sim (p0_disks : Int) (p1_sectors : Int) : Sm Tryz.prog 7 [(vi p0_disks), (vi p1_sectors)] (fun y : ((Int × Int × Slc × Slc × Slc × Slc × Int × Bool) × Int) => (.tuple #[(.agg #[(vi y.1.1), (vi y.1.2.1), (vS y.1.2.2.1), (vS y.1.2.2.2.1), (vS y.1.2.2.2.2.1), (vS y.1.2.2.2.2.2.1), (vi y.1.2.2.2.2.2.2.1), (vb y.1.2.2.2.2.2.2.2)]), (vi y.2)])) (ref02_New p0_disks p1_sectors) := by
  refine sm_of 61 Tryz.func7 rfl rfl rfl fun _ => ?_
  unfold ref02_New
  refine zG <| KT.nw 4 (fun ad => .pointer (some ad)) 35 fun x4 => zp 5 (vi 0) <| zn <| zq <| zG <| zp 9 (vi p0_disks) <| zp 10 (vb (decide (p0_disks < 1))) <| zp 11 (vb (decide (p0_disks < 1))) <| zj 3 (fun r1 => [(14, (vb r1)), (0, (vi p0_disks)), (1, (vi p1_sectors)), (4, (vp x4))]) (fun r1 => ?_) (fun j1 => ?_)
  refine zp 15 (vb r1) <| zj 3 (fun r2 => [(18, (vb r2)), (0, (vi p0_disks)), (1, (vi p1_sectors)), (4, (vp x4))]) (fun r2 => ?_) (fun j2 => ?_)
  refine zp 19 (vb r2) <| zj 3 (fun r3 => [(22, (vb r3)), (0, (vi p0_disks)), (1, (vi p1_sectors)), (4, (vp x4))]) (fun r3 => ?_) (fun j3 => ?_)
  refine zn <| SC.cond rfl ?_ ?_
  exact zG <| zp 23 (.agg #[(vi 0), (vi 0), (.slice none 0 0), (.slice none 0 0), (.slice none 0 0), (.slice none 0 0), (vi 0), (vb false)]) <| zo <| osa <| zp 5 (vi 10) <| zn <| zt <| ze [.cell 4 35, .tmp 5] <| RS.cellA 8 (by kernel_rfl) rfl rfl (fun _ => rfl) fun r4 => zm rfl zz
  refine zw <| zG <| zp 24 (vi p0_disks) <| zp 25 (vi p1_sectors) <| zp 26 (.agg #[(vi p0_disks), (vi p1_sectors), (.slice none 0 0), (.slice none 0 0), (.slice none 0 0), (.slice none 0 0), (vi (-1)), (vb false)]) <| KT.nw 6 (fun ad => .pointer (some ad)) 35 fun x6 => zo <| osa <| zn <| zq <| zG <| zp 7 (vi 0) <| zn <| SC.block <| zL (σ := (Int)) (fun s4 => [(0, (vi p0_disks)), (1, (vi p1_sectors)), (4, (vp x4)), (6, (vp x6)), (7, (vi s4))]) fun _ _ _ s4 => zq <| zG <| zp 27 (vi s4) <| zp 28 (vi p0_disks) <| zp 29 (vi p1_sectors) <| zp 30 (vi (w64 (p0_disks * p1_sectors))) <| zp 31 (vb (decide (s4 < (w64 (p0_disks * p1_sectors))))) <| zn <| SC.cond rfl ?_ ?_
  refine zw <| zq <| SC.block <| zq <| SC.draw 7 (fun f => Nat.beq f 4 || Nat.beq f 6) rfl (by kernel_rfl) fun S5 => zpA 0 34 (va x6 2) <| zA 1 rfl <| oli 35 fun x35 => KT.one 2 rfl (by kernel_rfl) rfl <| OW.step <| OW.new (d := 36) (List.replicate 64 (.int .u8 0)) (fun ad => .slice (some ad) 64 64) 5 rfl (fun _ => by kernel_rfl) rfl rfl fun x36 => KT.and <| KT.one 3 rfl (by kernel_rfl) rfl <| OW.step <| OW.new (d := 37) [(.slice (some x36) 64 64)] (fun ad => .slice (some ad) 1 1) 49 rfl (fun _ => by kernel_rfl) rfl rfl fun x37 => KT.and <| KT.last 4 rfl (by kernel_rfl) rfl rfl <| OW.append (d := 38) (s := x35) (x := ⟨some x37, 1, 1⟩) [(.slice none 0 0)] 24 49 _ _ _ _ rfl rfl rfl rfl (by kernel_rfl) (by kernel_rfl) rfl rfl rfl fun x38 => KT.pvN 5 39 (va x6 2) <| KT.lastN 6 rfl (by kernel_rfl) rfl rfl (OW.st _ _ _ rfl rfl rfl rfl (by kernel_rfl) rfl ?_)
  exact KT.doneN (by kernel_rfl) <| SX.seq <| zg <| zp 40 (va x6 3) <| KT.l 41 fun x41 => KT.nw 42 (fun ad => .slice (some ad) 1 1) 49 fun x42 => zo <| oapp 43 49 fun x43 => zp 44 (va x6 3) <| KT.s <| KT.nil <| SX.block <| SX.seq <| zg <| zp 32 (vi s4) <| zp 33 (vi (w64 (s4 + 1))) <| zp 7 (vi (w64 (s4 + 1))) <| KT.nil zX
  refine SC.exit <| SX.then_exit <| SX.loop_exit <| SX.block_hit <| SX.seq <| zq <| zG <| zp 8 (vi 0) <| zn <| SC.block <| zL (σ := (Int)) (fun s6 => [(0, (vi p0_disks)), (4, (vp x4)), (6, (vp x6)), (8, (vi s6))]) fun _ _ _ s6 => zq <| zG <| zp 45 (vi s6) <| zp 46 (vi p0_disks) <| zp 47 (vb (decide (s6 < p0_disks))) <| zn <| SC.cond rfl ?_ ?_
  exact zw <| zq <| SC.block <| zG <| zp 50 (va x6 4) <| KT.l 51 fun x51 => KT.nw 52 (fun ad => .slice (some ad) 1 1) 4 fun x52 => zo <| oapp 53 4 fun x53 => zp 54 (va x6 4) <| KT.s <| zn <| zg <| zp 55 (va x6 5) <| KT.l 56 fun x56 => KT.nw 57 (fun ad => .slice (some ad) 1 1) 3 fun x57 => zo <| oapp 58 3 fun x58 => zp 59 (va x6 5) <| KT.s <| KT.nil <| SX.block <| SX.seq <| zg <| zp 48 (vi s6) <| zp 49 (vi (w64 (s6 + 1))) <| zp 8 (vi (w64 (s6 + 1))) <| KT.nil zX
  exact SC.exit <| SX.then_exit <| SX.loop_exit <| SX.block_hit <| SX.seq <| zG <| zo <| ola 60 8 fun x60 => zo <| osa <| zp 5 (vi 0) <| zn <| SC.ret <| ze [.cell 4 35, .tmp 5] <| RS.cellA 8 (by kernel_rfl) rfl rfl (fun _ => rfl) fun r4 => zm rfl zz
  refine KT.ite 19 rfl ?_ ?_
  exact zk <| zk <| zp 22 (vb true) <| zl j3
  exact zp 20 (vi p1_sectors) <| zp 21 (vb (decide (p1_sectors > 4096))) <| zp 22 (vb (decide (p1_sectors > 4096))) <| zl j3
  refine KT.ite 15 rfl ?_ ?_
  exact zk <| zk <| zp 18 (vb true) <| zl j2
  exact zp 16 (vi p1_sectors) <| zp 17 (vb (decide (p1_sectors < 1))) <| zp 18 (vb (decide (p1_sectors < 1))) <| zl j2
  refine KT.ite 11 rfl ?_ ?_
  exact zk <| zk <| zp 14 (vb true) <| zl j1
  exact zp 12 (vi p0_disks) <| zp 13 (vb (decide (p0_disks > 17))) <| zp 14 (vb (decide (p0_disks > 17))) <| zl j1
theorem ref03_Right_sim (p0_g : (Int × Int × Int)) : Sm Tryz.prog 23 [(.agg #[(vi p0_g.1), (vi p0_g.2.1), (vi p0_g.2.2)])] Value.bool (ref03_Right p0_g) := by
  refine sm_of 44 Tryz.func23 rfl rfl rfl fun _ => ?_
  unfold ref03_Right
  refine zG <| KT.nw 1 (fun ad => .pointer (some ad)) 41 fun x1 => zp 2 (vb false) <| zn <| zq <| zG <| zp 3 (vp x1) <| KT.l 4 fun x4 => zp 5 (vb (decide (x4 < 3))) <| zp 6 (vb (decide (x4 < 3))) <| zj 4 (fun r1 => [(10, (vb r1)), (1, (vp x1))]) (fun r1 => ?_) (fun j1 => ?_)
  refine zp 11 (vb r1) <| zj 4 (fun r2 => [(15, (vb r2)), (1, (vp x1))]) (fun r2 => ?_) (fun j2 => ?_)
  refine zp 16 (vb r2) <| zj 4 (fun r3 => [(20, (vb r3)), (1, (vp x1))]) (fun r3 => ?_) (fun j3 => ?_)
  refine zp 21 (vb r3) <| zj 4 (fun r4 => [(25, (vb r4)), (1, (vp x1))]) (fun r4 => ?_) (fun j4 => ?_)
  refine zp 26 (vb r4) <| zj 4 (fun r5 => [(30, (vb r5)), (1, (vp x1))]) (fun r5 => ?_) (fun j5 => ?_)
  refine zn <| SC.cond rfl ?_ ?_
  exact zG <| zp 2 (vb false) <| zn <| zt <| ze [.tmp 2] <| zm rfl zz
  exact zw <| zG <| zp 31 (va x1 2) <| KT.l 32 fun x32 => zp 33 (vi (w64 (Int.tdiv x32 8))) <| zp 34 (vi (w64 (1 + (w64 (Int.tdiv x32 8))))) <| zp 35 (va x1 1) <| KT.l 36 fun x36 => zp 37 (vp x1) <| KT.l 38 fun x38 => zp 39 (vi (w64 (x38 - 1))) <| zp 40 (vi (w64 (x36 * (w64 (x38 - 1))))) <| zp 41 (vi (w64 ((w64 (x36 * (w64 (x38 - 1)))) - 1))) <| zp 42 (vi (w64 ((w64 (1 + (w64 (Int.tdiv x32 8)))) * (w64 ((w64 (x36 * (w64 (x38 - 1)))) - 1))))) <| zp 43 (vb (decide ((w64 ((w64 (1 + (w64 (Int.tdiv x32 8)))) * (w64 ((w64 (x36 * (w64 (x38 - 1)))) - 1)))) ≥ 8))) <| zp 2 (vb (decide ((w64 ((w64 (1 + (w64 (Int.tdiv x32 8)))) * (w64 ((w64 (x36 * (w64 (x38 - 1)))) - 1)))) ≥ 8))) <| zn <| SC.ret <| ze [.tmp 2] <| zm rfl zz
  refine KT.ite 26 rfl ?_ ?_
  exact zk <| zk <| zk <| zp 30 (vb true) <| zl j5
  exact zp 27 (va x1 2) <| KT.l 28 fun x28 => zp 29 (vb (decide (x28 > 64))) <| zp 30 (vb (decide (x28 > 64))) <| zl j5
  refine KT.ite 21 rfl ?_ ?_
  exact zk <| zk <| zk <| zp 25 (vb true) <| zl j4
  exact zp 22 (va x1 2) <| KT.l 23 fun x23 => zp 24 (vb (decide (x23 < 12))) <| zp 25 (vb (decide (x23 < 12))) <| zl j4
  refine KT.ite 16 rfl ?_ ?_
  exact zk <| zk <| zk <| zp 20 (vb true) <| zl j3
  exact zp 17 (va x1 1) <| KT.l 18 fun x18 => zp 19 (vb (decide (x18 > 4))) <| zp 20 (vb (decide (x18 > 4))) <| zl j3
  refine KT.ite 11 rfl ?_ ?_
  exact zk <| zk <| zk <| zp 15 (vb true) <| zl j2
  exact zp 12 (va x1 1) <| KT.l 13 fun x13 => zp 14 (vb (decide (x13 < 1))) <| zp 15 (vb (decide (x13 < 1))) <| zl j2
  refine KT.ite 6 rfl ?_ ?_
  exact zk <| zk <| zk <| zp 10 (vb true) <| zl j1
  exact zp 7 (vp x1) <| KT.l 8 fun x8 => zp 9 (vb (decide (x8 > 16))) <| zp 10 (vb (decide (x8 > 16))) <| zl j1
theorem ref03_Sectors_sim (p0_g : (Int × Int × Int)) : Sm Tryz.prog 24 [(.agg #[(vi p0_g.1), (vi p0_g.2.1), (vi p0_g.2.2)])] (Value.int .i64) (ref03_Sectors p0_g) := by
  refine sm_of 12 Tryz.func24 rfl rfl rfl fun _ => ?_
  unfold ref03_Sectors
  refine zG <| KT.nw 1 (fun ad => .pointer (some ad)) 41 fun x1 => zp 2 (vi 0) <| zn <| zq <| zG <| zo <| ola 3 3 fun x3 => zc 4 (ref03_Right_sim _) fun x4 => zp 5 (vb (!x4)) <| zn <| SC.cond rfl ?_ ?_
  exact zG <| zp 2 (vi 0) <| zn <| zt <| ze [.tmp 2] <| zm rfl zz
  exact zw <| zG <| zp 6 (va x1 2) <| KT.l 7 fun x7 => zp 8 (va x1 1) <| KT.l 9 fun x9 => zp 10 (vi (w64 (x7 * x9))) <| zp 11 (vi (w64 (5 + (w64 (x7 * x9))))) <| zp 2 (vi (w64 (5 + (w64 (x7 * x9))))) <| zn <| SC.ret <| ze [.tmp 2] <| zm rfl zz
theorem ref06_Fits_sim (p0_g : (Int × Int × Int)) (p1_m : (Int × Int × Int)) : Sm Tryz.prog 25 [(.agg #[(vi p0_g.1), (vi p0_g.2.1), (vi p0_g.2.2)]), (.agg #[(vi p1_m.1), (vi p1_m.2.1), (vi p1_m.2.2)])] Value.bool (ref06_Fits p0_g p1_m) := by
  refine sm_of 30 Tryz.func25 rfl rfl rfl fun _ => ?_
  unfold ref06_Fits
  refine zG <| KT.nw 2 (fun ad => .pointer (some ad)) 41 fun x2 => KT.nw 3 (fun ad => .pointer (some ad)) 23 fun x3 => zp 4 (vb false) <| zN <| zp 5 (va x3 2) <| KT.l 6 fun x6 => zp 7 (vb (decide (x6 ≥ 0))) <| zp 8 (vb (decide (x6 ≥ 0))) <| zj 4 (fun r1 => [(12, (vb r1)), (2, (vp x2)), (3, (vp x3))]) (fun r1 => ?_) (fun j1 => ?_)
  refine zp 13 (vb r1) <| zj 16 (fun r2 => [(29, (vb r2))]) (fun r2 => ?_) (fun j2 => ?_)
  exact zp 4 (vb r2) <| zn <| SC.ret <| ze [.tmp 4] <| zm rfl zz
  refine KT.ite 13 rfl ?_ ?_
  refine zp 14 (va x3 2) <| KT.l 15 fun x15 => zp 16 (vb (x15 == 0)) <| zp 17 (vb (x15 == 0)) <| zj 11 (fun r3 => [(28, (vb r3)), (13, (vb true))]) (fun r3 => ?_) (fun j3 => ?_)
  exact zp 29 (vb r3) <| zl j2
  refine KT.ite 17 rfl ?_ ?_
  exact zk <| zk <| zk <| zk <| zk <| zk <| zk <| zk <| zk <| zk <| zp 28 (vb true) <| zl j3
  refine zp 18 (va x3 1) <| KT.l 19 fun x19 => zp 20 (vb (decide (x19 ≥ 0))) <| zp 21 (vb (decide (x19 ≥ 0))) <| zj 6 (fun r4 => [(27, (vb r4)), (13, (vb true)), (17, (vb false))]) (fun r4 => ?_) (fun j4 => ?_)
  exact zp 28 (vb r4) <| zl j3
  refine KT.ite 21 rfl ?_ ?_
  exact zp 22 (va x3 1) <| KT.l 23 fun x23 => zp 24 (vp x2) <| KT.l 25 fun x25 => zp 26 (vb (decide (x23 < x25))) <| zp 27 (vb (decide (x23 < x25))) <| zl j4
  exact zk <| zk <| zk <| zk <| zk <| zp 27 (vb false) <| zl j4
  exact zk <| zk <| zk <| zk <| zk <| zk <| zk <| zk <| zk <| zk <| zk <| zk <| zk <| zk <| zk <| zp 29 (vb false) <| zl j2
  refine KT.ite 8 rfl ?_ ?_
  exact zp 9 (va x3 2) <| KT.l 10 fun x10 => zp 11 (vb (decide (x10 ≤ 2))) <| zp 12 (vb (decide (x10 ≤ 2))) <| zl j1
  exact zk <| zk <| zk <| zp 12 (vb false) <| zl j1
theorem ref06_Open_sim (p0_r : (Option Addr)) (p1_g : (Int × Int × Int)) (p2_m : (Int × Int × Int)) : Sm Tryz.prog 10 [(.pointer p0_r), (.agg #[(vi p1_g.1), (vi p1_g.2.1), (vi p1_g.2.2)]), (.agg #[(vi p2_m.1), (vi p2_m.2.1), (vi p2_m.2.2)])] (fun y : ((Option Addr) × Int) => (.tuple #[(.pointer y.1), (vi y.2)])) (ref06_Open p0_r p1_g p2_m) := by
  refine sm_of 41 Tryz.func10 rfl rfl rfl fun _ => ?_
  unfold ref06_Open
  refine zG <| KT.nw 4 (fun ad => .pointer (some ad)) 41 fun x4 => KT.nw 5 (fun ad => .pointer (some ad)) 23 fun x5 => zp 6 (.pointer none) <| zp 7 (vi 0) <| zn <| zq <| zq <| SC.join (β := (Bool)) (fun b1 => [(0, (.pointer p0_r)), (4, (vp x4)), (5, (vp x5)), (35, (vb b1))]) (fun b1 => ?_) (fun j1 => ?_)
  refine SX.seq <| SC.cond rfl ?_ ?_
  exact zG <| zp 6 (.pointer none) <| zp 7 (vi 10) <| zn <| zt <| ze [.tmp 6, .tmp 7] <| zm rfl <| zm rfl zz
  exact zw <| zG <| zp 36 (.pointer p0_r) <| zo <| ola 37 3 fun x37 => zo <| ola 38 3 fun x38 => zp 39 (.agg #[(.pointer p0_r), (vi x37.1), (vi x37.2.1), (vi x37.2.2), (vi x38.1), (vi x38.2.1), (vi x38.2.2)]) <| KT.nw 40 (fun ad => .pointer (some ad)) 72 fun x40 => zp 6 (vp x40) <| zp 7 (vi 0) <| zn <| SC.ret <| ze [.tmp 6, .tmp 7] <| zm rfl <| zm rfl zz
  refine SC.draw 28 (fun _ => false) rfl (by kernel_rfl) fun S2 => zA 0 rfl <| olai 8 3 fun x8 => KT.one 1 rfl (by kernel_rfl) rfl <| OW.step <| ocall 9 (ref03_Right_sim _) fun x9 => KT.and <| zpA 2 10 (vb (!x9)) <| zpA 3 11 (vb (!x9)) <| KT.ite 11 rfl ?_ ?_
  exact zkA 4 rfl <| zkA 5 rfl <| zkA 6 rfl <| zkA 7 rfl <| zkA 8 rfl <| zkA 9 rfl <| zkA 10 rfl <| zkA 11 rfl <| zpA 12 20 (vb true) <| zpA 13 21 (vb true) <| zkA 14 rfl <| zkA 15 rfl <| zkA 16 rfl <| zkA 17 rfl <| zkA 18 rfl <| zkA 19 rfl <| zkA 20 rfl <| zpA 21 29 (vb true) <| zpA 22 30 (vb true) <| zkA 23 rfl <| zkA 24 rfl <| zkA 25 rfl <| zkA 26 rfl <| zpA 27 35 (vb true) <| KT.doneA (by kernel_rfl) <| zS (T' := [(0, (.pointer p0_r)), (4, (vp x4)), (5, (vp x5)), (35, (vb true))]) <| zf j1
  refine zpA 4 12 (.pointer p0_r) <| zB 5 rfl <| onil 13 fun x13 => zpA 6 14 (vp x13) <| zA 7 rfl <| oli 15 fun x15 => zpA 8 16 (vp x4) <| zA 9 rfl <| oli 17 fun x17 => zpA 10 18 (vi (w64 (x17 + 1))) <| zpA 11 19 (vb (x15 != (w64 (x17 + 1)))) <| zpA 12 20 (vb (x15 != (w64 (x17 + 1)))) <| zpA 13 21 (vb (x15 != (w64 (x17 + 1)))) <| KT.ite 21 rfl ?_ ?_
  exact zkA 14 rfl <| zkA 15 rfl <| zkA 16 rfl <| zkA 17 rfl <| zkA 18 rfl <| zkA 19 rfl <| zkA 20 rfl <| zpA 21 29 (vb true) <| zpA 22 30 (vb true) <| zkA 23 rfl <| zkA 24 rfl <| zkA 25 rfl <| zkA 26 rfl <| zpA 27 35 (vb true) <| KT.doneA (by kernel_rfl) <| zS (T' := [(0, (.pointer p0_r)), (4, (vp x4)), (5, (vp x5)), (35, (vb true))]) <| zf j1
  refine zpA 14 22 (.pointer p0_r) <| zB 15 rfl <| onil 23 fun x23 => zpA 16 24 (va x23 1) <| zA 17 rfl <| oli 25 fun x25 => zA 18 rfl <| olai 26 3 fun x26 => KT.one 19 rfl (by kernel_rfl) rfl <| OW.step <| ocall 27 (ref03_Sectors_sim _) fun x27 => KT.and <| zpA 20 28 (vb (x25 != x27)) <| zpA 21 29 (vb (x25 != x27)) <| zpA 22 30 (vb (x25 != x27)) <| KT.ite 30 rfl ?_ ?_
  exact zkA 23 rfl <| zkA 24 rfl <| zkA 25 rfl <| zkA 26 rfl <| zpA 27 35 (vb true) <| KT.doneA (by kernel_rfl) <| zS (T' := [(0, (.pointer p0_r)), (4, (vp x4)), (5, (vp x5)), (35, (vb true))]) <| zf j1
  exact zA 23 rfl <| olai 31 3 fun x31 => zA 24 rfl <| olai 32 3 fun x32 => KT.one 25 rfl (by kernel_rfl) rfl <| OW.step <| ocall 33 (ref06_Fits_sim _ _) fun x33 => KT.and <| zpA 26 34 (vb (!x33)) <| zpA 27 35 (vb (!x33)) <| KT.doneA (by kernel_rfl) <| zS (T' := [(0, (.pointer p0_r)), (4, (vp x4)), (5, (vp x5)), (35, (vb (!x33)))]) <| zf j1
theorem ref00_SameBytes_sim (p0_a : Slc) (p1_b : Slc) : Sm Tryz.prog 14 [(vS p0_a), (vS p1_b)] Value.bool (ref00_SameBytes p0_a p1_b) := by
  refine sm_of 26 Tryz.func14 rfl rfl rfl fun _ => ?_
  unfold ref00_SameBytes
  refine zG <| zp 4 (vb false) <| zn <| zq <| zG <| zp 6 (vS p0_a) <| zp 7 (vi (vl p0_a)) <| zp 8 (vS p1_b) <| zp 9 (vi (vl p1_b)) <| zp 10 (vb ((vl p0_a) != (vl p1_b))) <| zn <| SC.cond rfl ?_ ?_
  exact zG <| zp 4 (vb false) <| zn <| zt <| ze [.tmp 4] <| zm rfl zz
  refine zw <| zq <| zG <| zp 5 (vi 0) <| zn <| SC.block <| zL (σ := (Int)) (fun s1 => [(0, (vS p0_a)), (1, (vS p1_b)), (5, (vi s1))]) fun _ _ _ s1 => zq <| zG <| zp 11 (vi s1) <| zp 12 (vS p0_a) <| zp 13 (vi (vl p0_a)) <| zp 14 (vb (decide (s1 < (vl p0_a)))) <| zn <| SC.cond rfl ?_ ?_
  refine zw <| zq <| SC.block <| zq <| SC.draw 9 (fun _ => false) rfl (by kernel_rfl) fun S2 => zpA 0 17 (vS p0_a) <| zpA 1 18 (vi s1) <| zB 2 rfl <| oix 19 5 fun x19 => zA 3 rfl <| oli 20 fun x20 => zpA 4 21 (vS p1_b) <| zpA 5 22 (vi s1) <| zB 6 rfl <| oix 23 5 fun x23 => zA 7 rfl <| oli 24 fun x24 => zpA 8 25 (vb (x20 != x24)) <| KT.doneA (by kernel_rfl) <| SX.seq <| SC.cond rfl ?_ ?_
  exact zG <| zp 4 (vb false) <| zn <| SC.ret <| SX.block_ret <| SX.then_ret <| SX.loop_ret <| SX.block_ret <| SX.then_ret <| ze [.tmp 4] <| zm rfl zz
  exact SC.skip <| SX.block <| SX.seq <| zg <| zp 15 (vi s1) <| zp 16 (vi (w64 (s1 + 1))) <| zp 5 (vi (w64 (s1 + 1))) <| KT.nil zX
  exact SC.exit <| SX.then_exit <| SX.loop_exit <| SX.block_hit <| SX.seq <| zG <| zp 4 (vb true) <| zn <| SC.ret <| ze [.tmp 4] <| zm rfl zz
theorem ref02_Rack_there_sim (p0_r : (Option Addr)) (p1_disk : Int) (p2_sector : Int) : Sm Tryz.prog 46 [(.pointer p0_r), (vi p1_disk), (vi p2_sector)] Value.bool (ref02_Rack_there p0_r p1_disk p2_sector) := by
  refine sm_of 29 Tryz.func46 rfl rfl rfl fun _ => ?_
  unfold ref02_Rack_there
  refine zG <| zp 6 (vb false) <| zN <| zp 7 (vi p1_disk) <| zp 8 (vb (decide (p1_disk ≥ 0))) <| zp 9 (vb (decide (p1_disk ≥ 0))) <| zj 7 (fun r1 => [(16, (vb r1)), (0, (.pointer p0_r)), (2, (vi p2_sector))]) (fun r1 => ?_) (fun j1 => ?_)
  refine zp 17 (vb r1) <| zj 3 (fun r2 => [(20, (vb r2)), (0, (.pointer p0_r)), (2, (vi p2_sector))]) (fun r2 => ?_) (fun j2 => ?_)
  refine zp 21 (vb r2) <| zj 7 (fun r3 => [(28, (vb r3))]) (fun r3 => ?_) (fun j3 => ?_)
  exact zp 6 (vb r3) <| zn <| SC.ret <| ze [.tmp 6] <| zm rfl zz
  refine KT.ite 21 rfl ?_ ?_
  exact zp 22 (vi p2_sector) <| zp 23 (.pointer p0_r) <| KT.nm 24 fun x24 => zp 25 (va x24 1) <| KT.l 26 fun x26 => zp 27 (vb (decide (p2_sector < x26))) <| zp 28 (vb (decide (p2_sector < x26))) <| zl j3
  exact zk <| zk <| zk <| zk <| zk <| zk <| zp 28 (vb false) <| zl j3
  refine KT.ite 17 rfl ?_ ?_
  exact zp 18 (vi p2_sector) <| zp 19 (vb (decide (p2_sector ≥ 0))) <| zp 20 (vb (decide (p2_sector ≥ 0))) <| zl j2
  exact zk <| zk <| zp 20 (vb false) <| zl j2
  refine KT.ite 9 rfl ?_ ?_
  exact zp 10 (vi p1_disk) <| zp 11 (.pointer p0_r) <| KT.nm 12 fun x12 => zp 13 (vp x12) <| KT.l 14 fun x14 => zp 15 (vb (decide (p1_disk < x14))) <| zp 16 (vb (decide (p1_disk < x14))) <| zl j1
  exact zk <| zk <| zk <| zk <| zk <| zk <| zp 16 (vb false) <| zl j1
theorem ref00_CopyBytes_sim (p0_b : Slc) : Sm Tryz.prog 47 [(vS p0_b)] vS (ref00_CopyBytes p0_b) := by
  refine sm_of 9 Tryz.func47 rfl rfl rfl fun _ => ?_
  unfold ref00_CopyBytes
  exact zG <| zp 2 (.slice none 0 0) <| zN <| KT.nw 4 (fun ad => .slice (some ad) 0 0) 5 fun x4 => zp 3 (.slice (some x4) 0 0) <| zN <| zp 5 (.slice (some x4) 0 0) <| zp 6 (vS p0_b) <| zo <| oapp 7 5 fun x7 => zp 3 (vS x7) <| zN <| zp 8 (vS x7) <| zp 2 (vS x7) <| zn <| SC.ret <| ze [.tmp 2] <| zm rfl zz
theorem ref02_Rack_call_sim (p0_r : (Option Addr)) : Sm Tryz.prog 108 [(.pointer p0_r)] (Value.int .i64) (ref02_Rack_call p0_r) := by
  refine sm_of 70 Tryz.func108 rfl rfl rfl fun _ => ?_
  unfold ref02_Rack_call
  refine zG <| zp 2 (vi 0) <| zn <| zq <| zG <| zp 4 (.pointer p0_r) <| KT.nm 5 fun x5 => zp 6 (va x5 6) <| KT.l 7 fun x7 => zp 8 (vb (x7 == 0)) <| zn <| SC.cond rfl ?_ ?_
  exact zG <| zp 9 (.pointer p0_r) <| KT.nm 10 fun x10 => zp 11 (va x10 7) <| KT.s <| zN <| zp 2 (vi 12) <| zn <| zt <| ze [.tmp 2] <| zm rfl zz
  refine zw <| zq <| zG <| zp 12 (.pointer p0_r) <| KT.nm 13 fun x13 => zp 14 (va x13 6) <| KT.l 15 fun x15 => zp 16 (vb (decide (x15 > 0))) <| zn <| SC.join (β := Unit) (fun b1 => [(0, (.pointer p0_r))]) (fun b1 => ?_) (fun j1 => ?_)
  refine SX.seq <| zq <| zG <| zp 3 (vi 0) <| zn <| SC.block <| zL (σ := (Int)) (fun s2 => [(0, (.pointer p0_r)), (3, (vi s2))]) fun _ _ _ s2 => zq <| zG <| zp 24 (vi s2) <| zp 25 (.pointer p0_r) <| KT.nm 26 fun x26 => zp 27 (vp x26) <| KT.l 28 fun x28 => zp 29 (vb (decide (s2 < x28))) <| zn <| SC.cond rfl ?_ ?_
  refine zw <| zq <| SC.block <| zq <| zG <| zp 32 (.pointer p0_r) <| KT.nm 33 fun x33 => zp 34 (va x33 4) <| KT.l 35 fun x35 => zp 36 (vi s2) <| zy <| oix 37 4 fun x37 => KT.l 38 fun x38 => zn <| SC.cond rfl ?_ ?_
  exact SC.exit <| SX.then_exit <| SX.block_hit <| SX.seq <| zg <| zp 30 (vi s2) <| zp 31 (vi (w64 (s2 + 1))) <| zp 3 (vi (w64 (s2 + 1))) <| KT.nil zX
  refine zw <| zq <| zG <| zp 39 (.pointer p0_r) <| KT.nm 40 fun x40 => zp 41 (va x40 5) <| KT.l 42 fun x42 => zp 43 (vi s2) <| zy <| oix 44 3 fun x44 => KT.l 45 fun x45 => zp 46 (vb (x45 == 0)) <| zn <| SC.join (β := Unit) (fun b3 => [(0, (.pointer p0_r)), (3, (vi s2))]) (fun b3 => ?_) (fun j3 => ?_)
  refine SX.seq <| zG <| zp 53 (.pointer p0_r) <| KT.nm 54 fun x54 => zp 55 (va x54 5) <| KT.l 56 fun x56 => zp 57 (vi s2) <| zy <| oix 58 3 fun x58 => KT.l 59 fun x59 => zp 60 (vb (decide (x59 > 0))) <| zn <| SC.cond rfl ?_ ?_
  exact zg <| zp 61 (.pointer p0_r) <| KT.nm 62 fun x62 => zp 63 (va x62 5) <| KT.l 64 fun x64 => zp 65 (vi s2) <| zy <| oix 66 3 fun x66 => KT.l 67 fun x67 => zp 68 (vi (w64 (x67 - 1))) <| zy <| oix 69 3 fun x69 => KT.s <| KT.nil <| SX.block <| SX.seq <| zg <| zp 30 (vi s2) <| zp 31 (vi (w64 (s2 + 1))) <| zp 3 (vi (w64 (s2 + 1))) <| KT.nil zX
  exact SC.skip <| SX.block <| SX.seq <| zg <| zp 30 (vi s2) <| zp 31 (vi (w64 (s2 + 1))) <| zp 3 (vi (w64 (s2 + 1))) <| KT.nil zX
  refine SC.cond rfl ?_ ?_
  exact zg <| zp 47 (.pointer p0_r) <| KT.nm 48 fun x48 => zp 49 (va x48 4) <| KT.l 50 fun x50 => zp 51 (vi s2) <| zy <| oix 52 4 fun x52 => KT.s <| KT.nil <| zf j3
  exact SC.skip <| zf j3
  exact SC.exit <| SX.then_exit <| SX.loop_exit <| SX.block_hit <| SX.seq <| zG <| zp 2 (vi 0) <| zn <| SC.ret <| ze [.tmp 2] <| zm rfl zz
  refine SC.cond rfl ?_ ?_
  exact zg <| zp 17 (.pointer p0_r) <| KT.nm 18 fun x18 => zp 19 (va x18 6) <| KT.l 20 fun x20 => zp 21 (vi (w64 (x20 - 1))) <| KT.nm 22 fun x22 => zp 23 (va x22 6) <| KT.s <| KT.nil <| zf j1
  exact SC.skip <| zf j1
theorem ref02_Rack_Write_sim (p0_r : (Option Addr)) (p1_disk : Int) (p2_sector : Int) (p3_b : Slc) : Sm Tryz.prog 83 [(.pointer p0_r), (vi p1_disk), (vi p2_sector), (vS p3_b)] (Value.int .i64) (ref02_Rack_Write p0_r p1_disk p2_sector p3_b) := by
  refine sm_of 51 Tryz.func83 rfl rfl rfl fun _ => ?_
  unfold ref02_Rack_Write
  refine zG <| zp 8 (vi 0) <| zn <| zq <| zG <| zp 10 (.pointer p0_r) <| KT.nm 11 fun x11 => zp 12 (va x11 7) <| KT.l 13 fun x13 => zn <| SC.cond rfl ?_ ?_
  exact zG <| zp 8 (vi 12) <| zn <| zt <| ze [.tmp 8] <| zm rfl zz
  refine zw <| zq <| zG <| zp 14 (.pointer p0_r) <| zp 15 (vi p1_disk) <| zp 16 (vi p2_sector) <| zc 17 (ref02_Rack_there_sim _ _ _) fun x17 => zp 18 (vb (!x17)) <| zp 19 (vb (!x17)) <| zj 4 (fun r1 => [(23, (vb r1)), (0, (.pointer p0_r)), (1, (vi p1_disk)), (2, (vi p2_sector)), (3, (vS p3_b))]) (fun r1 => ?_) (fun j1 => ?_)
  refine zn <| SC.cond rfl ?_ ?_
  exact zG <| zp 8 (vi 11) <| zn <| zt <| ze [.tmp 8] <| zm rfl zz
  refine zw <| zG <| zp 24 (.pointer p0_r) <| zc 25 (ref02_Rack_call_sim _) fun x25 => zp 9 (vi x25) <| zn <| zq <| zG <| zp 26 (vi x25) <| zp 27 (vb (x25 != 0)) <| zn <| SC.cond rfl ?_ ?_
  exact zG <| zp 28 (vi x25) <| zp 8 (vi x25) <| zn <| zt <| ze [.tmp 8] <| zm rfl zz
  refine zw <| zq <| zG <| zp 29 (.pointer p0_r) <| KT.nm 30 fun x30 => zp 31 (va x30 4) <| KT.l 32 fun x32 => zp 33 (vi p1_disk) <| zy <| oix 34 4 fun x34 => KT.l 35 fun x35 => zn <| SC.cond rfl ?_ ?_
  exact zG <| zp 8 (vi 13) <| zn <| zt <| ze [.tmp 8] <| zm rfl zz
  exact zw <| zq <| SC.draw 16 (fun f => Nat.beq f 15) rfl (by kernel_rfl) fun S2 => zpA 0 36 (.pointer p0_r) <| zB 1 rfl <| onil 37 fun x37 => zpA 2 38 (va x37 3) <| zA 3 rfl <| oli 39 fun x39 => zpA 4 40 (vi p1_disk) <| zpA 5 41 (.pointer p0_r) <| zB 6 rfl <| onil 42 fun x42 => zpA 7 43 (va x42 1) <| zA 8 rfl <| oli 44 fun x44 => zpA 9 45 (vi (w64 (p1_disk * x44))) <| zpA 10 46 (vi p2_sector) <| zpA 11 47 (vi (w64 ((w64 (p1_disk * x44)) + p2_sector))) <| zpA 12 48 (vS p3_b) <| KT.one 13 rfl (by kernel_rfl) rfl <| OW.step <| ocall 49 (ref00_CopyBytes_sim _) fun x49 => KT.and <| zB 14 rfl <| oix 50 49 fun x50 => KT.last 15 rfl (by kernel_rfl) rfl rfl <| OW.st _ _ _ rfl rfl rfl rfl (by kernel_rfl) rfl <| KT.doneN (by kernel_rfl) <| zS (T' := []) <| SX.seq <| zG <| zp 8 (vi 0) <| zn <| SC.ret <| ze [.tmp 8] <| zm rfl zz
  refine KT.ite 19 rfl ?_ ?_
  exact zk <| zk <| zk <| zp 23 (vb true) <| zl j1
  exact zp 20 (vS p3_b) <| zp 21 (vi (vl p3_b)) <| zp 22 (vb ((vl p3_b) != 64)) <| zp 23 (vb ((vl p3_b) != 64)) <| zl j1
theorem ref06_Bank_disk_sim (p0_b : (Option Addr)) (p1_slot : Int) : Sm Tryz.prog 84 [(.pointer p0_b), (vi p1_slot)] (Value.int .i64) (ref06_Bank_disk p0_b p1_slot) := by
  refine sm_of 26 Tryz.func84 rfl rfl rfl fun _ => ?_
  unfold ref06_Bank_disk
  refine zG <| zp 4 (vi 0) <| zn <| zq <| zG <| zp 5 (.pointer p0_b) <| KT.nm 6 fun x6 => zp 7 (va x6 4) <| zp 8 (.pointer (some (Addr.add (Addr.add x6 4) 2))) <| KT.l 9 fun x9 => zp 10 (vb (x9 != 0)) <| zp 11 (vb (x9 != 0)) <| zj 8 (fun r1 => [(19, (vb r1)), (0, (.pointer p0_b)), (1, (vi p1_slot))]) (fun r1 => ?_) (fun j1 => ?_)
  refine zn <| SC.cond rfl ?_ ?_
  exact zG <| zp 20 (.pointer p0_b) <| KT.nm 21 fun x21 => zp 22 (va x21 1) <| zp 23 (va x21 1) <| KT.l 24 fun x24 => zp 4 (vi x24) <| zn <| zt <| ze [.tmp 4] <| zm rfl zz
  exact zw <| zG <| zp 25 (vi p1_slot) <| zp 4 (vi p1_slot) <| zn <| SC.ret <| ze [.tmp 4] <| zm rfl zz
  refine KT.ite 11 rfl ?_ ?_
  exact zp 12 (.pointer p0_b) <| KT.nm 13 fun x13 => zp 14 (va x13 4) <| zp 15 (.pointer (some (Addr.add (Addr.add x13 4) 1))) <| KT.l 16 fun x16 => zp 17 (vi p1_slot) <| zp 18 (vb (x16 == p1_slot)) <| zp 19 (vb (x16 == p1_slot)) <| zl j1
  exact zk <| zk <| zk <| zk <| zk <| zk <| zk <| zp 19 (vb false) <| zl j1
theorem ref06_Bank_Write_sim (p0_b : (Option Addr)) (p1_slot : Int) (p2_sector : Int) (p3_data : Slc) : Sm Tryz.prog 36 [(.pointer p0_b), (vi p1_slot), (vi p2_sector), (vS p3_data)] (Value.int .i64) (ref06_Bank_Write p0_b p1_slot p2_sector p3_data) := by
  refine sm_of 30 Tryz.func36 rfl rfl rfl fun _ => ?_
  unfold ref06_Bank_Write
  refine zG <| zp 8 (vi 0) <| zn <| zq <| zG <| zp 9 (vi p1_slot) <| zp 10 (vb (decide (p1_slot < 0))) <| zp 11 (vb (decide (p1_slot < 0))) <| zj 8 (fun r1 => [(19, (vb r1)), (0, (.pointer p0_b)), (1, (vi p1_slot)), (2, (vi p2_sector)), (3, (vS p3_data))]) (fun r1 => ?_) (fun j1 => ?_)
  refine zn <| SC.cond rfl ?_ ?_
  exact zG <| zp 8 (vi 11) <| zn <| zt <| ze [.tmp 8] <| zm rfl zz
  exact zw <| zq <| SC.draw 11 (fun f => Nat.beq f 9) rfl (by kernel_rfl) fun S2 => zpA 0 20 (.pointer p0_b) <| zB 1 rfl <| onil 21 fun x21 => zpA 2 22 (vp x21) <| zA 3 rfl <| oli 23 fun x23 => zpA 4 24 (.pointer p0_b) <| zpA 5 25 (vi p1_slot) <| zpA 7 27 (vi p2_sector) <| zpA 8 28 (vS p3_data) <| KT.one 6 rfl (by kernel_rfl) rfl <| OW.step <| ocall 26 (ref06_Bank_disk_sim _ _) fun x26 => KT.and <| KT.last 9 rfl (by kernel_rfl) rfl rfl <| ocall 29 (ref02_Rack_Write_sim _ _ _ _) fun x29 => KT.pvN 10 8 (vi x29) <| KT.doneN (by kernel_rfl) <| SX.seq <| SC.ret <| ze [.tmp 8] <| zm rfl zz
  refine KT.ite 11 rfl ?_ ?_
  exact zk <| zk <| zk <| zk <| zk <| zk <| zk <| zp 19 (vb true) <| zl j1
  exact zp 12 (vi p1_slot) <| zp 13 (.pointer p0_b) <| KT.nm 14 fun x14 => zp 15 (va x14 1) <| zp 16 (va x14 1) <| KT.l 17 fun x17 => zp 18 (vb (decide (p1_slot ≥ x17))) <| zp 19 (vb (decide (p1_slot ≥ x17))) <| zl j1
theorem ref03_Places_sim (p0_g : (Int × Int × Int)) : Sm Tryz.prog 68 [(.agg #[(vi p0_g.1), (vi p0_g.2.1), (vi p0_g.2.2)])] (Value.int .i64) (ref03_Places p0_g) := by
  refine sm_of 13 Tryz.func68 rfl rfl rfl fun _ => ?_
  unfold ref03_Places
  refine zG <| KT.nw 1 (fun ad => .pointer (some ad)) 41 fun x1 => zp 2 (vi 0) <| zn <| zq <| zG <| zo <| ola 3 3 fun x3 => zc 4 (ref03_Right_sim _) fun x4 => zp 5 (vb (!x4)) <| zn <| SC.cond rfl ?_ ?_
  exact zG <| zp 2 (vi 0) <| zn <| zt <| ze [.tmp 2] <| zm rfl zz
  exact zw <| zG <| zp 6 (va x1 1) <| KT.l 7 fun x7 => zp 8 (vp x1) <| KT.l 9 fun x9 => zp 10 (vi (w64 (x9 - 1))) <| zp 11 (vi (w64 (x7 * (w64 (x9 - 1))))) <| zp 12 (vi (w64 ((w64 (x7 * (w64 (x9 - 1)))) - 1))) <| zp 2 (vi (w64 ((w64 (x7 * (w64 (x9 - 1)))) - 1))) <| zn <| SC.ret <| ze [.tmp 2] <| zm rfl zz
theorem ref01_Put_sim (p0_width : Int) (p1_n : Int) : Sm Tryz.prog 116 [(vi p0_width), (vi p1_n)] vS (ref01_Put p0_width p1_n) := by
  refine sm_of 35 Tryz.func116 rfl rfl rfl fun _ => ?_
  unfold ref01_Put
  refine zG <| zp 4 (.slice none 0 0) <| zN <| KT.nw 7 (fun ad => .slice (some ad) 0 0) 5 fun x7 => zp 5 (.slice (some x7) 0 0) <| zn <| zq <| zG <| zp 8 (vi p0_width) <| zp 9 (vb (decide (p0_width < 1))) <| zp 10 (vb (decide (p0_width < 1))) <| zj 3 (fun r1 => [(13, (vb r1)), (0, (vi p0_width)), (1, (vi p1_n)), (5, (.slice (some x7) 0 0))]) (fun r1 => ?_) (fun j1 => ?_)
  refine zp 14 (vb r1) <| zj 3 (fun r2 => [(17, (vb r2)), (0, (vi p0_width)), (1, (vi p1_n)), (5, (.slice (some x7) 0 0))]) (fun r2 => ?_) (fun j2 => ?_)
  refine zn <| SC.cond rfl ?_ ?_
  exact zG <| zp 18 (.slice (some x7) 0 0) <| zp 4 (.slice (some x7) 0 0) <| zn <| zt <| ze [.tmp 4] <| zm rfl zz
  refine zw <| zq <| zG <| zp 6 (vi 0) <| zn <| SC.block <| zL (σ := (Int × Slc × Int)) (fun s3 => [(0, (vi p0_width)), (1, (vi s3.1)), (5, (vS s3.2.1)), (6, (vi s3.2.2))]) fun _ _ _ s3 => zq <| zG <| zp 19 (vi s3.2.2) <| zp 20 (vi p0_width) <| zp 21 (vb (decide (s3.2.2 < p0_width))) <| zn <| SC.cond rfl ?_ ?_
  exact zw <| zq <| SC.block <| zG <| zp 24 (vS s3.2.1) <| zp 25 (vi s3.1) <| zp 26 (vi (Int.tmod s3.1 256)) <| zp 27 (.int .u8 (IntKind.wrap .u8 (Int.tmod s3.1 256))) <| KT.nw 28 (fun ad => .slice (some ad) 1 1) 5 fun x28 => zo <| oapp 29 5 fun x29 => zp 5 (vS x29) <| zn <| zg <| zp 30 (vi s3.1) <| zp 31 (vi (w64 (Int.tdiv s3.1 256))) <| zp 1 (vi (w64 (Int.tdiv s3.1 256))) <| KT.nil <| SX.block <| SX.seq <| zg <| zp 22 (vi s3.2.2) <| zp 23 (vi (w64 (s3.2.2 + 1))) <| zp 6 (vi (w64 (s3.2.2 + 1))) <| KT.nil zX
  refine SC.exit <| SX.then_exit <| SX.loop_exit <| SX.block_hit <| SX.seq <| zq <| zG <| zp 32 (vi s3.1) <| zp 33 (vb (decide (s3.1 > 0))) <| zn <| SC.cond rfl ?_ ?_
  exact zG <| zp 4 (.slice none 0 0) <| zn <| zt <| ze [.tmp 4] <| zm rfl zz
  exact zw <| zG <| zp 34 (vS s3.2.1) <| zp 4 (vS s3.2.1) <| zn <| SC.ret <| ze [.tmp 4] <| zm rfl zz
  refine KT.ite 14 rfl ?_ ?_
  exact zk <| zk <| zp 17 (vb true) <| zl j2
  exact zp 15 (vi p1_n) <| zp 16 (vb (decide (p1_n < 0))) <| zp 17 (vb (decide (p1_n < 0))) <| zl j2
  refine KT.ite 10 rfl ?_ ?_
  exact zk <| zk <| zp 13 (vb true) <| zl j1
  exact zp 11 (vi p0_width) <| zp 12 (vb (decide (p0_width > 4))) <| zp 13 (vb (decide (p0_width > 4))) <| zl j1
theorem ref04_Encode_sim (p0_h : (Int × Int × Int)) (p1_payload : Slc) : Sm Tryz.prog 100 [(.agg #[(vi p0_h.1), (vi p0_h.2.1), (vi p0_h.2.2)]), (vS p1_payload)] (fun y : (Slc × Bool) => (.tuple #[(vS y.1), (vb y.2)])) (ref04_Encode p0_h p1_payload) := by
  refine sm_of 52 Tryz.func100 rfl rfl rfl fun _ => ?_
  unfold ref04_Encode
  refine zG <| KT.nw 2 (fun ad => .pointer (some ad)) 116 fun x2 => zp 4 (.slice none 0 0) <| zp 5 (vb false) <| zN <| zp 10 (vp x2) <| KT.l 11 fun x11 => zc 12 (ref01_Put_sim _ _) fun x12 => zp 6 (vS x12) <| zN <| zp 13 (va x2 1) <| KT.l 14 fun x14 => zc 15 (ref01_Put_sim _ _) fun x15 => zp 7 (vS x15) <| zN <| zp 16 (va x2 2) <| KT.l 17 fun x17 => zc 18 (ref01_Put_sim _ _) fun x18 => zp 8 (vS x18) <| zn <| zq <| zG <| zp 19 (vS x12) <| zp 20 (vi (vl x12)) <| zp 21 (vb ((vl x12) == 0)) <| zp 22 (vb ((vl x12) == 0)) <| zj 4 (fun r1 => [(26, (vb r1)), (1, (vS p1_payload)), (6, (vS x12)), (7, (vS x15)), (8, (vS x18))]) (fun r1 => ?_) (fun j1 => ?_)
  refine zp 27 (vb r1) <| zj 4 (fun r2 => [(31, (vb r2)), (1, (vS p1_payload)), (6, (vS x12)), (7, (vS x15)), (8, (vS x18))]) (fun r2 => ?_) (fun j2 => ?_)
  refine zp 32 (vb r2) <| zj 4 (fun r3 => [(36, (vb r3)), (1, (vS p1_payload)), (6, (vS x12)), (7, (vS x15)), (8, (vS x18))]) (fun r3 => ?_) (fun j3 => ?_)
  refine zn <| SC.cond rfl ?_ ?_
  exact zG <| zp 4 (.slice none 0 0) <| zp 5 (vb false) <| zn <| zt <| ze [.tmp 4, .tmp 5] <| zm rfl <| zm rfl zz
  refine zw <| zG <| zp 37 (vS x12) <| zp 38 (vS x15) <| zo <| oapp 39 5 fun x39 => zp 40 (vS x18) <| zo <| oapp 41 5 fun x41 => zp 9 (vS x41) <| zN <| zp 42 (vS x41) <| zp 43 (vS p1_payload) <| zo <| oapp 44 5 fun x44 => zp 9 (vS x44) <| zn <| zq <| SC.block <| zL (σ := (Slc)) (fun s4 => [(9, (vS s4))]) fun _ _ _ s4 => zq <| zG <| zp 45 (vS s4) <| zp 46 (vi (vl s4)) <| zp 47 (vb (decide ((vl s4) < 64))) <| zn <| SC.cond rfl ?_ ?_
  exact zw <| SC.block <| zg <| zp 48 (vS s4) <| KT.nw 49 (fun ad => .slice (some ad) 1 1) 5 fun x49 => zo <| oapp 50 5 fun x50 => zp 9 (vS x50) <| KT.nil <| SX.block zX
  exact SC.exit <| SX.then_exit <| SX.loop_exit <| SX.block_hit <| SX.seq <| zG <| zp 51 (vS s4) <| zp 4 (vS s4) <| zp 5 (vb true) <| zn <| SC.ret <| ze [.tmp 4, .tmp 5] <| zm rfl <| zm rfl zz
  refine KT.ite 32 rfl ?_ ?_
  exact zk <| zk <| zk <| zp 36 (vb true) <| zl j3
  exact zp 33 (vS p1_payload) <| zp 34 (vi (vl p1_payload)) <| zp 35 (vb (decide ((vl p1_payload) > 56))) <| zp 36 (vb (decide ((vl p1_payload) > 56))) <| zl j3
  refine KT.ite 27 rfl ?_ ?_
  exact zk <| zk <| zk <| zp 31 (vb true) <| zl j2
  exact zp 28 (vS x18) <| zp 29 (vi (vl x18)) <| zp 30 (vb ((vl x18) == 0)) <| zp 31 (vb ((vl x18) == 0)) <| zl j2
  refine KT.ite 22 rfl ?_ ?_
  exact zk <| zk <| zk <| zp 26 (vb true) <| zl j1
  exact zp 23 (vS x15) <| zp 24 (vi (vl x15)) <| zp 25 (vb ((vl x15) == 0)) <| zp 26 (vb ((vl x15) == 0)) <| zl j1
theorem ref04_Parity_sim (p0_list : Slc) : Sm Tryz.prog 101 [(vS p0_list)] (fun y : (Slc × Bool) => (.tuple #[(vS y.1), (vb y.2)])) (ref04_Parity p0_list) := by
  refine sm_of 65 Tryz.func101 rfl rfl rfl fun _ => ?_
  unfold ref04_Parity
  refine zG <| zp 2 (.slice none 0 0) <| zp 3 (vb false) <| zn <| zq <| zG <| zp 7 (vS p0_list) <| zp 8 (vi (vl p0_list)) <| zp 9 (vb ((vl p0_list) == 0)) <| zp 10 (vb ((vl p0_list) == 0)) <| zj 6 (fun r1 => [(16, (vb r1)), (0, (vS p0_list))]) (fun r1 => ?_) (fun j1 => ?_)
  refine zn <| SC.cond rfl ?_ ?_
  exact zG <| zp 2 (.slice none 0 0) <| zp 3 (vb false) <| zn <| zt <| ze [.tmp 2, .tmp 3] <| zm rfl <| zm rfl zz
  refine zw <| zG <| KT.nw 17 (fun ad => .slice (some ad) 64 64) 5 fun x17 => zp 4 (.slice (some x17) 64 64) <| zN <| zp 18 (.slice (some x17) 64 64) <| zp 19 (vS p0_list) <| zy <| oix 20 49 fun x20 => KT.l 21 fun x21 => KT.oy rfl (OY.slice01 (d := 22) (s := x21) (hi := 4) (size := 1) (elem := 5) _ _ _ rfl rfl rfl (by kernel_rfl) (by kernel_rfl) rfl rfl (fun x22 => ?_))
  refine KT.ow rfl (OW.copy (d := 23) (s := ⟨some x17, 64, 64⟩) (x := x22) 1 5 _ _ _ _ rfl rfl rfl rfl (by kernel_rfl) (by kernel_rfl) rfl rfl (fun x23 => ?_))
  refine zn <| zq <| zG <| zp 5 (vi 0) <| zn <| SC.block <| zL (σ := (Int)) (fun s2 => [(0, (vS p0_list)), (4, (.slice (some x17) 64 64)), (5, (vi s2))]) fun _ _ _ s2 => zq <| zG <| zp 24 (vi s2) <| zp 25 (vS p0_list) <| zp 26 (vi (vl p0_list)) <| zp 27 (vb (decide (s2 < (vl p0_list)))) <| zn <| SC.cond rfl ?_ ?_
  refine zw <| zq <| SC.block <| zq <| zq <| SC.join (β := (Bool)) (fun b3 => [(0, (vS p0_list)), (4, (.slice (some x17) 64 64)), (5, (vi s2)), (46, (vb b3))]) (fun b3 => ?_) (fun j3 => ?_)
  refine SX.seq <| SC.cond rfl ?_ ?_
  exact zG <| zp 2 (.slice none 0 0) <| zp 3 (vb false) <| zn <| zt <| SX.block_ret <| SX.then_ret <| SX.loop_ret <| SX.block_ret <| SX.then_ret <| ze [.tmp 2, .tmp 3] <| zm rfl <| zm rfl zz
  refine zw <| zG <| zp 6 (vi 4) <| zn <| SC.block <| zL (σ := (Int)) (fun s4 => [(0, (vS p0_list)), (4, (.slice (some x17) 64 64)), (5, (vi s2)), (6, (vi s4))]) fun _ _ _ s4 => zq <| zG <| zp 47 (vi s4) <| zp 48 (vb (decide (s4 < 64))) <| zn <| SC.cond rfl ?_ ?_
  exact zw <| zq <| SC.block <| SC.draw 14 (fun f => Nat.beq f 13) rfl (by kernel_rfl) fun S5 => zpA 0 51 (.slice (some x17) 64 64) <| zpA 1 52 (vi s4) <| zB 2 rfl <| oix 53 5 fun x53 => zA 3 rfl <| oli 54 fun x54 => zpA 4 55 (vS p0_list) <| zpA 5 56 (vi s2) <| zB 6 rfl <| oix 57 49 fun x57 => zA 7 rfl <| oli 58 fun x58 => zpA 8 59 (vi s4) <| zB 9 rfl <| oix 60 5 fun x60 => zA 10 rfl <| oli 61 fun x61 => zpA 11 62 (.int .u8 (bXor .u8 x54 x61)) <| zB 12 rfl <| oix 63 5 fun x63 => KT.last 13 rfl (by kernel_rfl) rfl rfl <| OW.st _ _ _ rfl rfl rfl rfl (by kernel_rfl) rfl <| KT.doneN (by kernel_rfl) <| SX.block <| SX.seq <| zg <| zp 49 (vi s4) <| zp 50 (vi (w64 (s4 + 1))) <| zp 6 (vi (w64 (s4 + 1))) <| KT.nil zX
  exact SC.exit <| SX.then_exit <| SX.loop_exit <| SX.block_hit <| SX.block <| SX.seq <| zg <| zp 28 (vi s2) <| zp 29 (vi (w64 (s2 + 1))) <| zp 5 (vi (w64 (s2 + 1))) <| KT.nil zX
  refine SC.draw 17 (fun _ => false) rfl (by kernel_rfl) fun S6 => zpA 0 30 (vS p0_list) <| zpA 1 31 (vi s2) <| zB 2 rfl <| oix 32 49 fun x32 => zA 3 rfl <| oli 33 fun x33 => zpA 4 34 (vi (vl x33)) <| zpA 5 35 (vb ((vl x33) != 64)) <| zpA 6 36 (vb ((vl x33) != 64)) <| KT.ite 36 rfl ?_ ?_
  exact zkA 7 rfl <| zkA 8 rfl <| zkA 9 rfl <| zkA 10 rfl <| zkA 11 rfl <| zkA 12 rfl <| zkA 13 rfl <| zkA 14 rfl <| zkA 15 rfl <| zpA 16 46 (vb true) <| KT.doneA (by kernel_rfl) <| zf j3
  refine zpA 7 37 (vS p0_list) <| zpA 8 38 (vi s2) <| zB 9 rfl <| oix 39 49 fun x39 => zA 10 rfl <| oli 40 fun x40 => KT.tp 11 (OY.slice01 (d := 41) (s := x40) (hi := 4) (size := 1) (elem := 5) _ _ _ rfl rfl rfl (by kernel_rfl) (by kernel_rfl) rfl rfl (fun x41 => ?_))
  refine zpA 12 42 (.slice (some x17) 64 64) <| KT.tp 13 (OY.slice01 (d := 43) (s := ⟨some x17, 64, 64⟩) (hi := 4) (size := 1) (elem := 5) _ _ _ rfl rfl rfl (by kernel_rfl) (by kernel_rfl) rfl rfl (fun x43 => ?_))
  exact KT.one 14 rfl (by kernel_rfl) rfl <| OW.step <| ocall 44 (ref00_SameBytes_sim _ _) fun x44 => KT.and <| zpA 15 45 (vb (!x44)) <| zpA 16 46 (vb (!x44)) <| KT.doneA (by kernel_rfl) <| zf j3
  exact SC.exit <| SX.then_exit <| SX.loop_exit <| SX.block_hit <| SX.seq <| zG <| zp 64 (.slice (some x17) 64 64) <| zp 2 (.slice (some x17) 64 64) <| zp 3 (vb true) <| zn <| SC.ret <| ze [.tmp 2, .tmp 3] <| zm rfl <| zm rfl zz
  refine KT.ite 10 rfl ?_ ?_
  exact zk <| zk <| zk <| zk <| zk <| zp 16 (vb true) <| zl j1
  exact zp 11 (vS p0_list) <| zy <| oix 12 49 fun x12 => KT.l 13 fun x13 => zp 14 (vi (vl x13)) <| zp 15 (vb ((vl x13) != 64)) <| zp 16 (vb ((vl x13) != 64)) <| zl j1
theorem ref07_sectors_sim (p0_g : (Int × Int × Int)) (p1_seq : Int) (p2_blocks : Slc) : Sm Tryz.prog 69 [(.agg #[(vi p0_g.1), (vi p0_g.2.1), (vi p0_g.2.2)]), (vi p1_seq), (vS p2_blocks)] (fun y : (Slc × Bool) => (.tuple #[(vS y.1), (vb y.2)])) (ref07_sectors p0_g p1_seq p2_blocks) := by
  refine sm_of 80 Tryz.func69 rfl rfl rfl fun _ => ?_
  unfold ref07_sectors
  refine zG <| KT.nw 3 (fun ad => .pointer (some ad)) 41 fun x3 => zp 6 (.slice none 0 0) <| zp 7 (vb false) <| zN <| KT.nw 18 (fun ad => .slice (some ad) 0 0) 49 fun x18 => zp 8 (.slice (some x18) 0 0) <| zn <| zq <| zG <| zp 9 (vi 0) <| zn <| SC.block <| zL (σ := (Slc × Int)) (fun s1 => [(1, (vi p1_seq)), (2, (vS p2_blocks)), (3, (vp x3)), (8, (vS s1.1)), (9, (vi s1.2))]) fun _ _ _ s1 => zq <| zG <| zp 19 (vi s1.2) <| zp 20 (va x3 1) <| KT.l 21 fun x21 => zp 22 (vb (decide (s1.2 < x21))) <| zn <| SC.cond rfl ?_ ?_
  refine zw <| zq <| SC.block <| zG <| KT.nw 25 (fun ad => .slice (some ad) 0 0) 49 fun x25 => zp 10 (.slice (some x25) 0 0) <| zn <| zq <| zG <| zp 11 (vi 0) <| zn <| SC.block <| zL (σ := (Slc × Int)) (fun s2 => [(1, (vi p1_seq)), (2, (vS p2_blocks)), (3, (vp x3)), (8, (vS s1.1)), (9, (vi s1.2)), (10, (vS s2.1)), (11, (vi s2.2))]) fun _ _ _ s2 => zq <| zG <| zp 26 (vi s2.2) <| zp 27 (vp x3) <| KT.l 28 fun x28 => zp 29 (vi (w64 (x28 - 1))) <| zp 30 (vb (decide (s2.2 < (w64 (x28 - 1))))) <| zn <| SC.cond rfl ?_ ?_
  refine zw <| zq <| SC.block <| zG <| zp 33 (vi s1.2) <| zp 34 (vp x3) <| KT.l 35 fun x35 => zp 36 (vi (w64 (x35 - 1))) <| zp 37 (vi (w64 (s1.2 * (w64 (x35 - 1))))) <| zp 38 (vi s2.2) <| zp 39 (vi (w64 ((w64 (s1.2 * (w64 (x35 - 1)))) + s2.2))) <| zp 12 (vi (w64 ((w64 (s1.2 * (w64 (x35 - 1)))) + s2.2))) <| zN <| zp 40 (.agg #[(vi 0), (vi 0), (.slice none 0 0)]) <| KT.nw 13 (fun ad => .pointer (some ad)) 58 fun x13 => zo <| osa <| zn <| zq <| zG <| zp 41 (vi (w64 ((w64 (s1.2 * (w64 (x35 - 1)))) + s2.2))) <| zp 42 (vS p2_blocks) <| zp 43 (vi (vl p2_blocks)) <| zp 44 (vb (decide ((w64 ((w64 (s1.2 * (w64 (x35 - 1)))) + s2.2)) < (vl p2_blocks)))) <| zn <| SC.join (β := Unit) (fun b3 => [(1, (vi p1_seq)), (2, (vS p2_blocks)), (3, (vp x3)), (8, (vS s1.1)), (9, (vi s1.2)), (10, (vS s2.1)), (11, (vi s2.2)), (13, (vp x13))]) (fun b3 => ?_) (fun j3 => ?_)
  refine SX.seq <| zG <| zp 50 (vi p1_seq) <| zp 51 (vp x13) <| KT.l 52 fun x52 => zp 53 (va x13 1) <| KT.l 54 fun x54 => zp 55 (.agg #[(vi p1_seq), (vi x52), (vi x54)]) <| zp 56 (va x13 2) <| KT.l 57 fun x57 => zc 58 (ref04_Encode_sim _ _) fun x58 => zp 49 (.tuple #[(vS x58.1), (vb x58.2)]) <| zp 59 (vS x58.1) <| zp 60 (vb x58.2) <| zp 14 (vS x58.1) <| zp 15 (vb x58.2) <| zn <| zq <| zG <| zp 61 (vb x58.2) <| zp 62 (vb (!x58.2)) <| zn <| SC.cond rfl ?_ ?_
  exact zG <| zp 6 (.slice none 0 0) <| zp 7 (vb false) <| zn <| zt <| SX.block_ret <| SX.then_ret <| SX.loop_ret <| SX.block_ret <| SX.then_ret <| SX.block_ret <| SX.then_ret <| SX.loop_ret <| SX.block_ret <| SX.then_ret <| ze [.tmp 6, .tmp 7] <| zm rfl <| zm rfl zz
  exact zw <| zg <| zp 63 (vS s2.1) <| zp 64 (vS x58.1) <| KT.nw 65 (fun ad => .slice (some ad) 1 1) 49 fun x65 => zo <| oapp 66 49 fun x66 => zp 10 (vS x66) <| KT.nil <| SX.block <| SX.seq <| zg <| zp 31 (vi s2.2) <| zp 32 (vi (w64 (s2.2 + 1))) <| zp 11 (vi (w64 (s2.2 + 1))) <| KT.nil <| zS (T' := [(1, (vi p1_seq)), (2, (vS p2_blocks)), (3, (vp x3)), (8, (vS s1.1)), (9, (vi s1.2)), (10, (vS x66)), (11, (vi (w64 (s2.2 + 1))))]) zX
  refine SC.cond rfl ?_ ?_
  exact zg <| zp 45 (vS p2_blocks) <| zp 46 (vi (w64 ((w64 (s1.2 * (w64 (x35 - 1)))) + s2.2))) <| zy <| oix 47 58 fun x47 => zo <| ola 48 3 fun x48 => zo <| osa <| KT.nil <| zS (T' := [(1, (vi p1_seq)), (2, (vS p2_blocks)), (3, (vp x3)), (8, (vS s1.1)), (9, (vi s1.2)), (10, (vS s2.1)), (11, (vi s2.2)), (13, (vp x13))]) <| zf j3
  exact SC.skip <| zf j3
  refine SC.exit <| SX.then_exit <| SX.loop_exit <| SX.block_hit <| SX.seq <| zG <| zp 68 (vS s2.1) <| zc 69 (ref04_Parity_sim _) fun x69 => zp 67 (.tuple #[(vS x69.1), (vb x69.2)]) <| zp 70 (vS x69.1) <| zp 71 (vb x69.2) <| zp 16 (vS x69.1) <| zp 17 (vb x69.2) <| zN <| zp 72 (vS s1.1) <| zp 73 (vS s2.1) <| zo <| oapp 74 49 fun x74 => zp 8 (vS x74) <| zn <| zg <| zp 75 (vS x74) <| zp 76 (vS x69.1) <| KT.nw 77 (fun ad => .slice (some ad) 1 1) 49 fun x77 => zo <| oapp 78 49 fun x78 => zp 8 (vS x78) <| KT.nil <| SX.block <| SX.seq <| zg <| zp 23 (vi s1.2) ?_
  exact zp 24 (vi (w64 (s1.2 + 1))) <| zp 9 (vi (w64 (s1.2 + 1))) <| KT.nil <| zS (T' := [(1, (vi p1_seq)), (2, (vS p2_blocks)), (3, (vp x3)), (8, (vS x78)), (9, (vi (w64 (s1.2 + 1))))]) zX
  exact SC.exit <| SX.then_exit <| SX.loop_exit <| SX.block_hit <| SX.seq <| zG <| zp 79 (vS s1.1) <| zp 6 (vS s1.1) <| zp 7 (vb true) <| zn <| SC.ret <| ze [.tmp 6, .tmp 7] <| zm rfl <| zm rfl zz
theorem ref02_Rack_Failed_sim (p0_r : (Option Addr)) (p1_disk : Int) : Sm Tryz.prog 102 [(.pointer p0_r), (vi p1_disk)] Value.bool (ref02_Rack_Failed p0_r p1_disk) := by
  refine sm_of 24 Tryz.func102 rfl rfl rfl fun _ => ?_
  unfold ref02_Rack_Failed
  refine zG <| zp 4 (vb false) <| zN <| zp 5 (vi p1_disk) <| zp 6 (vb (decide (p1_disk ≥ 0))) <| zp 7 (vb (decide (p1_disk ≥ 0))) <| zj 7 (fun r1 => [(14, (vb r1)), (0, (.pointer p0_r)), (1, (vi p1_disk))]) (fun r1 => ?_) (fun j1 => ?_)
  refine zp 15 (vb r1) <| zj 8 (fun r2 => [(23, (vb r2))]) (fun r2 => ?_) (fun j2 => ?_)
  exact zp 4 (vb r2) <| zn <| SC.ret <| ze [.tmp 4] <| zm rfl zz
  refine KT.ite 15 rfl ?_ ?_
  exact zp 16 (.pointer p0_r) <| KT.nm 17 fun x17 => zp 18 (va x17 4) <| KT.l 19 fun x19 => zp 20 (vi p1_disk) <| zy <| oix 21 4 fun x21 => KT.l 22 fun x22 => zp 23 (vb x22) <| zl j2
  exact zk <| zk <| zk <| zk <| zk <| zk <| zk <| zp 23 (vb false) <| zl j2
  refine KT.ite 7 rfl ?_ ?_
  exact zp 8 (vi p1_disk) <| zp 9 (.pointer p0_r) <| KT.nm 10 fun x10 => zp 11 (vp x10) <| KT.l 12 fun x12 => zp 13 (vb (decide (p1_disk < x12))) <| zp 14 (vb (decide (p1_disk < x12))) <| zl j1
  exact zk <| zk <| zk <| zk <| zk <| zk <| zp 14 (vb false) <| zl j1
theorem ref06_Bank_Bad_sim (p0_b : (Option Addr)) : Sm Tryz.prog 70 [(.pointer p0_b)] vS (ref06_Bank_Bad p0_b) := by
  refine sm_of 45 Tryz.func70 rfl rfl rfl fun _ => ?_
  unfold ref06_Bank_Bad
  refine zG <| zp 2 (.slice none 0 0) <| zN <| KT.nw 5 (fun ad => .slice (some ad) 0 0) 3 fun x5 => zp 3 (.slice (some x5) 0 0) <| zn <| zq <| zG <| zp 4 (vi 0) <| zn <| SC.block <| zL (σ := (Slc × Int)) (fun s1 => [(0, (.pointer p0_b)), (3, (vS s1.1)), (4, (vi s1.2))]) fun _ _ _ s1 => zq <| zG <| zp 6 (vi s1.2) <| zp 7 (.pointer p0_b) <| KT.nm 8 fun x8 => zp 9 (va x8 1) <| zp 10 (va x8 1) <| KT.l 11 fun x11 => zp 12 (vb (decide (s1.2 < x11))) <| zn <| SC.cond rfl ?_ ?_
  refine zw <| zq <| SC.block <| zq <| SC.join (β := (Bool)) (fun b2 => [(0, (.pointer p0_b)), (3, (vS s1.1)), (4, (vi s1.2)), (39, (vb b2))]) (fun b2 => ?_) (fun j2 => ?_)
  refine SX.seq <| SC.cond rfl ?_ ?_
  exact zg <| zp 40 (vS s1.1) <| zp 41 (vi s1.2) <| KT.nw 42 (fun ad => .slice (some ad) 1 1) 3 fun x42 => zo <| oapp 43 3 fun x43 => zp 3 (vS x43) <| KT.nil <| SX.block <| SX.seq <| zg <| zp 13 (vi s1.2) <| zp 14 (vi (w64 (s1.2 + 1))) <| zp 4 (vi (w64 (s1.2 + 1))) <| KT.nil zX
  exact SC.skip <| SX.block <| SX.seq <| zg <| zp 13 (vi s1.2) <| zp 14 (vi (w64 (s1.2 + 1))) <| zp 4 (vi (w64 (s1.2 + 1))) <| KT.nil zX
  refine SC.draw 25 (fun _ => false) rfl (by kernel_rfl) fun S3 => zpA 0 15 (.pointer p0_b) <| zB 1 rfl <| onil 16 fun x16 => zpA 2 17 (vp x16) <| zA 3 rfl <| oli 18 fun x18 => zpA 4 19 (.pointer p0_b) <| zpA 5 20 (vi s1.2) <| KT.one 6 rfl (by kernel_rfl) rfl <| OW.step <| ocall 21 (ref06_Bank_disk_sim _ _) fun x21 => KT.and <| KT.one 7 rfl (by kernel_rfl) rfl <| OW.step <| ocall 22 (ref02_Rack_Failed_sim _ _) fun x22 => KT.and <| zpA 8 23 (vb x22) <| KT.ite 23 rfl ?_ ?_
  exact zkA 9 rfl <| zkA 10 rfl <| zkA 11 rfl <| zkA 12 rfl <| zkA 13 rfl <| zkA 14 rfl <| zkA 15 rfl <| zkA 16 rfl <| zkA 17 rfl <| zkA 18 rfl <| zkA 19 rfl <| zkA 20 rfl <| zkA 21 rfl <| zkA 22 rfl <| zkA 23 rfl <| zpA 24 39 (vb true) <| KT.doneA (by kernel_rfl) <| zS (T' := [(0, (.pointer p0_b)), (3, (vS s1.1)), (4, (vi s1.2)), (39, (vb true))]) <| zf j2
  refine zpA 9 24 (.pointer p0_b) <| zB 10 rfl <| onil 25 fun x25 => zpA 11 26 (va x25 4) <| zpA 12 27 (.pointer (some (Addr.add (Addr.add x25 4) 2))) <| zA 13 rfl <| oli 28 fun x28 => zpA 14 29 (vb (x28 == 1)) <| zpA 15 30 (vb (x28 == 1)) <| KT.ite 30 rfl ?_ ?_
  exact zpA 16 31 (.pointer p0_b) <| zB 17 rfl <| onil 32 fun x32 => zpA 18 33 (va x32 4) <| zpA 19 34 (.pointer (some (Addr.add (Addr.add x32 4) 1))) <| zA 20 rfl <| oli 35 fun x35 => zpA 21 36 (vi s1.2) <| zpA 22 37 (vb (x35 == s1.2)) <| zpA 23 38 (vb (x35 == s1.2)) <| zpA 24 39 (vb (x35 == s1.2)) <| KT.doneA (by kernel_rfl) <| zS (T' := [(0, (.pointer p0_b)), (3, (vS s1.1)), (4, (vi s1.2)), (39, (vb (x35 == s1.2)))]) <| zf j2
  exact zkA 16 rfl <| zkA 17 rfl <| zkA 18 rfl <| zkA 19 rfl <| zkA 20 rfl <| zkA 21 rfl <| zkA 22 rfl <| zpA 23 38 (vb false) <| zpA 24 39 (vb false) <| KT.doneA (by kernel_rfl) <| zS (T' := [(0, (.pointer p0_b)), (3, (vS s1.1)), (4, (vi s1.2)), (39, (vb false))]) <| zf j2
  exact SC.exit <| SX.then_exit <| SX.loop_exit <| SX.block_hit <| SX.seq <| zG <| zp 44 (vS s1.1) <| zp 2 (vS s1.1) <| zn <| SC.ret <| ze [.tmp 2] <| zm rfl zz
theorem ref03_Parity_sim (p0_g : (Int × Int × Int)) (p1_seg : Int) (p2_row : Int) : Sm Tryz.prog 103 [(.agg #[(vi p0_g.1), (vi p0_g.2.1), (vi p0_g.2.2)]), (vi p1_seg), (vi p2_row)] (fun y : ((Int × Int) × Bool) => (.tuple #[(.agg #[(vi y.1.1), (vi y.1.2)]), (vb y.2)])) (ref03_Parity p0_g p1_seg p2_row) := by
  refine sm_of 63 Tryz.func103 rfl rfl rfl fun _ => ?_
  unfold ref03_Parity
  refine zG <| KT.nw 3 (fun ad => .pointer (some ad)) 41 fun x3 => KT.nw 6 (fun ad => .pointer (some ad)) 105 fun x6 => zp 7 (vb false) <| zn <| zq <| zG <| zo <| ola 10 3 fun x10 => zc 11 (ref03_Right_sim _) fun x11 => zp 12 (vb (!x11)) <| zp 13 (vb (!x11)) <| zj 3 (fun r1 => [(16, (vb r1)), (1, (vi p1_seg)), (2, (vi p2_row)), (3, (vp x3)), (6, (vp x6))]) (fun r1 => ?_) (fun j1 => ?_)
  refine zp 17 (vb r1) <| zj 5 (fun r2 => [(22, (vb r2)), (1, (vi p1_seg)), (2, (vi p2_row)), (3, (vp x3)), (6, (vp x6))]) (fun r2 => ?_) (fun j2 => ?_)
  refine zp 23 (vb r2) <| zj 3 (fun r3 => [(26, (vb r3)), (1, (vi p1_seg)), (2, (vi p2_row)), (3, (vp x3)), (6, (vp x6))]) (fun r3 => ?_) (fun j3 => ?_)
  refine zp 27 (vb r3) <| zj 5 (fun r4 => [(32, (vb r4)), (1, (vi p1_seg)), (2, (vi p2_row)), (3, (vp x3)), (6, (vp x6))]) (fun r4 => ?_) (fun j4 => ?_)
  refine zn <| SC.cond rfl ?_ ?_
  exact zG <| zp 33 (.agg #[(vi 0), (vi 0)]) <| zo <| osa <| zp 7 (vb false) <| zn <| zt <| ze [.cell 6 105, .tmp 7] <| RS.cellA 2 (by kernel_rfl) rfl rfl (fun _ => rfl) fun r6 => zm rfl zz
  refine zw <| zG <| zp 34 (vp x3) <| KT.l 35 fun x35 => zp 36 (vi (w64 (x35 - 1))) <| zp 8 (vi (w64 (x35 - 1))) <| zn <| zq <| zG <| zp 9 (vi 0) <| zn <| SC.block <| zL (σ := (Int × Int)) (fun s5 => [(1, (vi p1_seg)), (2, (vi p2_row)), (3, (vp x3)), (6, (vp x6)), (8, (vi s5.1)), (9, (vi s5.2))]) fun _ _ _ s5 => zq <| zG <| zp 37 (vi s5.2) <| zp 38 (vi p1_seg) <| zp 39 (va x3 1) <| KT.l 40 fun x40 => zp 41 (vi (w64 (p1_seg * x40))) <| zp 42 (vi p2_row) <| zp 43 (vi (w64 ((w64 (p1_seg * x40)) + p2_row))) <| zp 44 (vb (decide (s5.2 < (w64 ((w64 (p1_seg * x40)) + p2_row))))) <| zn <| SC.cond rfl ?_ ?_
  refine zw <| zq <| SC.block <| zG <| zp 47 (vi s5.1) <| zp 48 (vi (w64 (s5.1 - 1))) <| zp 8 (vi (w64 (s5.1 - 1))) <| zN <| zp 49 (vi (w64 (s5.1 - 1))) <| zp 50 (vb (decide ((w64 (s5.1 - 1)) < 0))) <| zn <| SC.cond rfl ?_ ?_
  exact zg <| zp 51 (vp x3) <| KT.l 52 fun x52 => zp 53 (vi (w64 (x52 - 1))) <| zp 8 (vi (w64 (x52 - 1))) <| KT.nil <| SX.block <| SX.seq <| zg <| zp 45 (vi s5.2) <| zp 46 (vi (w64 (s5.2 + 1))) <| zp 9 (vi (w64 (s5.2 + 1))) <| KT.nil zX
  exact SC.skip <| SX.block <| SX.seq <| zg <| zp 45 (vi s5.2) <| zp 46 (vi (w64 (s5.2 + 1))) <| zp 9 (vi (w64 (s5.2 + 1))) <| KT.nil zX
  exact SC.exit <| SX.then_exit <| SX.loop_exit <| SX.block_hit <| SX.seq <| zG <| zp 54 (vi s5.1) <| zp 55 (vi p1_seg) <| zp 56 (va x3 1) <| KT.l 57 fun x57 => zp 58 (vi (w64 (p1_seg * x57))) <| zp 59 (vi (w64 (5 + (w64 (p1_seg * x57))))) <| zp 60 (vi p2_row) <| zp 61 (vi (w64 ((w64 (5 + (w64 (p1_seg * x57)))) + p2_row))) <| zp 62 (.agg #[(vi s5.1), (vi (w64 ((w64 (5 + (w64 (p1_seg * x57)))) + p2_row)))]) <| zo <| osa <| zp 7 (vb true) <| zn <| SC.ret <| ze [.cell 6 105, .tmp 7] <| RS.cellA 2 (by kernel_rfl) rfl rfl (fun _ => rfl) fun r6 => zm rfl zz
  refine KT.ite 27 rfl ?_ ?_
  exact zk <| zk <| zk <| zk <| zp 32 (vb true) <| zl j4
  exact zp 28 (vi p2_row) <| zp 29 (va x3 1) <| KT.l 30 fun x30 => zp 31 (vb (decide (p2_row ≥ x30))) <| zp 32 (vb (decide (p2_row ≥ x30))) <| zl j4
  refine KT.ite 23 rfl ?_ ?_
  exact zk <| zk <| zp 26 (vb true) <| zl j3
  exact zp 24 (vi p2_row) <| zp 25 (vb (decide (p2_row < 0))) <| zp 26 (vb (decide (p2_row < 0))) <| zl j3
  refine KT.ite 17 rfl ?_ ?_
  exact zk <| zk <| zk <| zk <| zp 22 (vb true) <| zl j2
  exact zp 18 (vi p1_seg) <| zp 19 (va x3 2) <| KT.l 20 fun x20 => zp 21 (vb (decide (p1_seg ≥ x20))) <| zp 22 (vb (decide (p1_seg ≥ x20))) <| zl j2
  refine KT.ite 13 rfl ?_ ?_
  exact zk <| zk <| zp 16 (vb true) <| zl j1
  exact zp 14 (vi p1_seg) <| zp 15 (vb (decide (p1_seg < 0))) <| zp 16 (vb (decide (p1_seg < 0))) <| zl j1
theorem ref03_Block_sim (p0_g : (Int × Int × Int)) (p1_seg : Int) (p2_k : Int) : Sm Tryz.prog 72 [(.agg #[(vi p0_g.1), (vi p0_g.2.1), (vi p0_g.2.2)]), (vi p1_seg), (vi p2_k)] (fun y : ((Int × Int) × Bool) => (.tuple #[(.agg #[(vi y.1.1), (vi y.1.2)]), (vb y.2)])) (ref03_Block p0_g p1_seg p2_k) := by
  refine sm_of 64 Tryz.func72 rfl rfl rfl fun _ => ?_
  unfold ref03_Block
  refine zG <| KT.nw 3 (fun ad => .pointer (some ad)) 41 fun x3 => KT.nw 6 (fun ad => .pointer (some ad)) 105 fun x6 => zp 7 (vb false) <| zn <| zq <| zG <| zo <| ola 12 3 fun x12 => zc 13 (ref03_Right_sim _) fun x13 => zp 14 (vb (!x13)) <| zp 15 (vb (!x13)) <| zj 3 (fun r1 => [(18, (vb r1)), (1, (vi p1_seg)), (2, (vi p2_k)), (3, (vp x3)), (6, (vp x6))]) (fun r1 => ?_) (fun j1 => ?_)
  refine zp 19 (vb r1) <| zj 5 (fun r2 => [(24, (vb r2)), (1, (vi p1_seg)), (2, (vi p2_k)), (3, (vp x3)), (6, (vp x6))]) (fun r2 => ?_) (fun j2 => ?_)
  refine zn <| SC.cond rfl ?_ ?_
  exact zG <| zp 25 (.agg #[(vi 0), (vi 0)]) <| zo <| osa <| zp 7 (vb false) <| zn <| zt <| ze [.cell 6 105, .tmp 7] <| RS.cellA 2 (by kernel_rfl) rfl rfl (fun _ => rfl) fun r6 => zm rfl zz
  refine zw <| zG <| zp 8 (vi 0) <| zn <| zq <| SC.block <| zL (σ := (Int × Int)) (fun s3 => [(1, (vi p1_seg)), (2, (vi s3.1)), (3, (vp x3)), (6, (vp x6)), (8, (vi s3.2))]) fun _ _ _ s3 => zq <| zG <| zp 26 (vi s3.1) <| zp 27 (vp x3) <| KT.l 28 fun x28 => zp 29 (vi (w64 (x28 - 1))) <| zp 30 (vb (decide (s3.1 ≥ (w64 (x28 - 1))))) <| zn <| SC.cond rfl ?_ ?_
  exact zw <| SC.block <| zG <| zp 31 (vi s3.1) <| zp 32 (vp x3) <| KT.l 33 fun x33 => zp 34 (vi (w64 (x33 - 1))) <| zp 35 (vi (w64 (s3.1 - (w64 (x33 - 1))))) <| zp 2 (vi (w64 (s3.1 - (w64 (x33 - 1))))) <| zn <| zg <| zp 36 (vi s3.2) <| zp 37 (vi (w64 (s3.2 + 1))) <| zp 8 (vi (w64 (s3.2 + 1))) <| KT.nil <| SX.block zX
  refine SC.exit <| SX.then_exit <| SX.loop_exit <| SX.block_hit <| SX.seq <| zG <| zo <| ola 39 3 fun x39 => zp 40 (vi p1_seg) <| zp 41 (vi s3.2) <| zc 42 (ref03_Parity_sim _ _ _) fun x42 => zp 38 (.tuple #[(.agg #[(vi x42.1.1), (vi x42.1.2)]), (vb x42.2)]) <| zp 43 (.agg #[(vi x42.1.1), (vi x42.1.2)]) <| zp 44 (vb x42.2) <| KT.nw 9 (fun ad => .pointer (some ad)) 105 fun x9 => zo <| osa <| zp 10 (vb x42.2) <| zn <| zq <| zG <| zp 45 (vb x42.2) <| zp 46 (vb (!x42.2)) <| zn <| SC.cond rfl ?_ ?_
  exact zG <| zp 47 (.agg #[(vi 0), (vi 0)]) <| zo <| osa <| zp 7 (vb false) <| zn <| zt <| ze [.cell 6 105, .tmp 7] <| RS.cellA 2 (by kernel_rfl) rfl rfl (fun _ => rfl) fun r6 => zm rfl zz
  refine zw <| zq <| zG <| zp 11 (vi 0) <| zn <| SC.block <| zL (σ := (Int)) (fun s4 => [(2, (vi s3.1)), (3, (vp x3)), (6, (vp x6)), (9, (vp x9)), (11, (vi s4))]) fun _ _ _ s4 => zq <| zG <| zp 48 (vi s4) <| zp 49 (vi s3.1) <| zp 50 (vb (decide (s4 ≤ s3.1))) <| zn <| SC.cond rfl ?_ ?_
  refine zw <| zq <| SC.block <| zG <| zp 53 (vp x9) <| KT.l 54 fun x54 => zp 55 (vi (w64 (x54 + 1))) <| zp 56 (vp x9) <| KT.s <| zN <| zp 57 (vp x9) <| KT.l 58 fun x58 => zp 59 (vp x3) <| KT.l 60 fun x60 => zp 61 (vb (x58 == x60)) <| zn <| SC.cond rfl ?_ ?_
  exact zg <| zp 62 (vp x9) <| KT.s <| KT.nil <| SX.block <| SX.seq <| zg <| zp 51 (vi s4) <| zp 52 (vi (w64 (s4 + 1))) <| zp 11 (vi (w64 (s4 + 1))) <| KT.nil zX
  exact SC.skip <| SX.block <| SX.seq <| zg <| zp 51 (vi s4) <| zp 52 (vi (w64 (s4 + 1))) <| zp 11 (vi (w64 (s4 + 1))) <| KT.nil zX
  exact SC.exit <| SX.then_exit <| SX.loop_exit <| SX.block_hit <| SX.seq <| zG <| zo <| ola 63 2 fun x63 => zo <| osa <| zp 7 (vb true) <| zn <| SC.ret <| ze [.cell 6 105, .tmp 7] <| RS.cellA 2 (by kernel_rfl) rfl rfl (fun _ => rfl) fun r6 => zm rfl zz
  refine KT.ite 19 rfl ?_ ?_
  exact zk <| zk <| zk <| zk <| zp 24 (vb true) <| zl j2
  exact zp 20 (vi p2_k) <| zo <| ola 21 3 fun x21 => zc 22 (ref03_Places_sim _) fun x22 => zp 23 (vb (decide (p2_k > x22))) <| zp 24 (vb (decide (p2_k > x22))) <| zl j2
  refine KT.ite 15 rfl ?_ ?_
  exact zk <| zk <| zp 18 (vb true) <| zl j1
  exact zp 16 (vi p2_k) <| zp 17 (vb (decide (p2_k < 0))) <| zp 18 (vb (decide (p2_k < 0))) <| zl j1
theorem ref07_spot_sim (p0_g : (Int × Int × Int)) (p1_seg : Int) (p2_i : Int) : Sm Tryz.prog 71 [(.agg #[(vi p0_g.1), (vi p0_g.2.1), (vi p0_g.2.2)]), (vi p1_seg), (vi p2_i)] (fun y : (Int × Int) => (.agg #[(vi y.1), (vi y.2)])) (ref07_spot p0_g p1_seg p2_i) := by
  refine sm_of 49 Tryz.func71 rfl rfl rfl fun _ => ?_
  unfold ref07_spot
  refine zG <| KT.nw 3 (fun ad => .pointer (some ad)) 41 fun x3 => KT.nw 6 (fun ad => .pointer (some ad)) 105 fun x6 => zN <| zp 12 (vi p2_i) <| zp 13 (vp x3) <| KT.l 14 fun x14 => KT.oy rfl (OY.quo (d := 15) (x := p2_i) (y := x14) _ _ _ _ (w64 (Int.tdiv p2_i x14)) rfl rfl rfl rfl rfl rfl ?_)
  refine zp 7 (vi (w64 (Int.tdiv p2_i x14))) <| zn <| zq <| zq <| SC.draw 8 (fun _ => false) rfl (by kernel_rfl) fun S1 => zpA 0 16 (vi p2_i) <| zpA 1 17 (vp x3) <| zA 2 rfl <| oli 18 fun x18 => KT.tp 3 (OY.rem (d := 19) (x := p2_i) (y := x18) _ _ _ _ (Int.tmod p2_i x18) rfl rfl rfl rfl rfl rfl ?_)
  refine zpA 4 20 (vp x3) <| zA 5 rfl <| oli 21 fun x21 => zpA 6 22 (vi (w64 (x21 - 1))) <| zpA 7 23 (vb ((Int.tmod p2_i x18) == (w64 (x21 - 1)))) <| KT.doneA (by kernel_rfl) <| SX.seq <| SC.cond rfl ?_ ?_
  exact zG <| zo <| ola 25 3 fun x25 => zp 26 (vi p1_seg) <| zp 27 (vi (w64 (Int.tdiv p2_i x14))) <| zc 28 (ref03_Parity_sim _ _ _) fun x28 => zp 24 (.tuple #[(.agg #[(vi x28.1.1), (vi x28.1.2)]), (vb x28.2)]) <| zp 29 (.agg #[(vi x28.1.1), (vi x28.1.2)]) <| zp 30 (vb x28.2) <| KT.nw 8 (fun ad => .pointer (some ad)) 105 fun x8 => zo <| osa <| zp 9 (vb x28.2) <| zN <| zo <| ola 31 2 fun x31 => zo <| osa <| zn <| zt <| ze [.cell 6 105] <| RS.cellA 2 (by kernel_rfl) rfl rfl (fun _ => rfl) fun r6 => zz
  refine zw <| zq <| SC.draw 19 (fun f => Nat.beq f 17) rfl (by kernel_rfl) fun S2 => zA 0 rfl <| olai 33 3 fun x33 => zpA 1 34 (vi p1_seg) <| zpA 2 35 (vi (w64 (Int.tdiv p2_i x14))) <| zpA 3 36 (vp x3) <| zA 4 rfl <| oli 37 fun x37 => zpA 5 38 (vi (w64 (x37 - 1))) <| zpA 6 39 (vi (w64 ((w64 (Int.tdiv p2_i x14)) * (w64 (x37 - 1))))) <| zpA 7 40 (vi p2_i) <| zpA 8 41 (vp x3) <| zA 9 rfl <| oli 42 fun x42 => KT.tp 10 (OY.rem (d := 43) (x := p2_i) (y := x42) _ _ _ _ (Int.tmod p2_i x42) rfl rfl rfl rfl rfl rfl ?_)
  refine zpA 11 44 (vi (w64 ((w64 ((w64 (Int.tdiv p2_i x14)) * (w64 (x37 - 1)))) + (Int.tmod p2_i x42)))) <| KT.two 12 16 rfl rfl (by kernel_rfl) rfl rfl ?_ ?_
  refine OW.step (ocall 45 (ref03_Block_sim _ _ _) fun x45 => ?_)
  exact KT.and <| zpA 13 32 (.tuple #[(.agg #[(vi x45.1.1), (vi x45.1.2)]), (vb x45.2)]) <| zpA 14 46 (.agg #[(vi x45.1.1), (vi x45.1.2)]) <| zpA 15 47 (vb x45.2) <| KT.one 16 rfl (by kernel_rfl) rfl <| OW.step <| OW.new (d := 10) [(vi 0), (vi 0)] (fun ad => .pointer (some ad)) 105 rfl (fun _ => by kernel_rfl) rfl rfl fun x10 => KT.and <| KT.last 17 rfl (by kernel_rfl) rfl rfl <| OW.stA _ _ _ rfl rfl rfl rfl rfl (by kernel_rfl) <| KT.pvN 18 11 (vb x45.2) <| KT.doneN (by kernel_rfl) <| zS (T' := [(6, (vp x6)), (10, (vp x10))]) <| SX.seq <| zG <| zo <| ola 48 2 fun x48 => zo <| osa <| zn <| SC.ret <| ze [.cell 6 105] <| RS.cellA 2 (by kernel_rfl) rfl rfl (fun _ => rfl) fun r6 => zz
  refine OW.step (OW.new (d := 10) [(vi 0), (vi 0)] (fun ad => .pointer (some ad)) 105 rfl (fun _ => by kernel_rfl) rfl rfl (fun x10 => ?_))
  exact KT.and <| KT.one 12 rfl (by kernel_rfl) rfl <| OW.step <| ocall 45 (ref03_Block_sim _ _ _) fun x45 => KT.and <| zpA 13 32 (.tuple #[(.agg #[(vi x45.1.1), (vi x45.1.2)]), (vb x45.2)]) <| zpA 14 46 (.agg #[(vi x45.1.1), (vi x45.1.2)]) <| zpA 15 47 (vb x45.2) <| KT.last 17 rfl (by kernel_rfl) rfl rfl <| OW.stA _ _ _ rfl rfl rfl rfl rfl (by kernel_rfl) <| KT.pvN 18 11 (vb x45.2) <| KT.doneN (by kernel_rfl) <| zS (T' := [(6, (vp x6)), (10, (vp x10))]) <| SX.seq <| zG <| zo <| ola 48 2 fun x48 => zo <| osa <| zn <| SC.ret <| ze [.cell 6 105] <| RS.cellA 2 (by kernel_rfl) rfl rfl (fun _ => rfl) fun r6 => zz
theorem ref07_Write_sim (p0_b : (Option Addr)) (p1_seg : Int) (p2_seq : Int) (p3_blocks : Slc) : Sm Tryz.prog 26 [(.pointer p0_b), (vi p1_seg), (vi p2_seq), (vS p3_blocks)] (Value.int .i64) (ref07_Write p0_b p1_seg p2_seq p3_blocks) := by
  refine sm_of 85 Tryz.func26 rfl rfl rfl fun _ => ?_
  unfold ref07_Write
  refine zG <| zp 8 (vi 0) <| zn <| zq <| zG <| zp 13 (vi p1_seg) <| zp 14 (vb (decide (p1_seg < 0))) <| zp 15 (vb (decide (p1_seg < 0))) <| zj 8 (fun r1 => [(23, (vb r1)), (0, (.pointer p0_b)), (1, (vi p1_seg)), (2, (vi p2_seq)), (3, (vS p3_blocks))]) (fun r1 => ?_) (fun j1 => ?_)
  refine zp 24 (vb r1) <| zj 3 (fun r2 => [(27, (vb r2)), (0, (.pointer p0_b)), (1, (vi p1_seg)), (2, (vi p2_seq)), (3, (vS p3_blocks))]) (fun r2 => ?_) (fun j2 => ?_)
  refine zp 28 (vb r2) <| zj 3 (fun r3 => [(31, (vb r3)), (0, (.pointer p0_b)), (1, (vi p1_seg)), (2, (vi p2_seq)), (3, (vS p3_blocks))]) (fun r3 => ?_) (fun j3 => ?_)
  refine zn <| SC.cond rfl ?_ ?_
  exact zG <| zp 8 (vi 28) <| zn <| zt <| ze [.tmp 8] <| zm rfl zz
  refine zw <| zq <| zG <| zp 32 (vS p3_blocks) <| zp 33 (vi (vl p3_blocks)) <| zp 34 (.pointer p0_b) <| KT.nm 35 fun x35 => zp 36 (va x35 1) <| zo <| ola 37 3 fun x37 => zc 38 (ref03_Places_sim _) fun x38 => zp 39 (vi (w64 (x38 + 1))) <| zp 40 (vb (decide ((vl p3_blocks) > (w64 (x38 + 1))))) <| zn <| SC.cond rfl ?_ ?_
  exact zG <| zp 8 (vi 41) <| zn <| zt <| ze [.tmp 8] <| zm rfl zz
  refine zw <| zG <| zp 42 (.pointer p0_b) <| KT.nm 43 fun x43 => zp 44 (va x43 1) <| zo <| ola 45 3 fun x45 => zp 46 (vi p2_seq) <| zp 47 (vS p3_blocks) <| zc 48 (ref07_sectors_sim _ _ _) fun x48 => zp 41 (.tuple #[(vS x48.1), (vb x48.2)]) <| zp 49 (vS x48.1) <| zp 50 (vb x48.2) <| zp 9 (vS x48.1) <| zp 10 (vb x48.2) <| zn <| zq <| zG <| zp 51 (vb x48.2) <| zp 52 (vb (!x48.2)) <| zn <| SC.cond rfl ?_ ?_
  exact zG <| zp 8 (vi 41) <| zn <| zt <| ze [.tmp 8] <| zm rfl zz
  refine zw <| zq <| zG <| zp 53 (.pointer p0_b) <| zc 54 (ref06_Bank_Bad_sim _) fun x54 => zp 55 (vi (vl x54)) <| zp 56 (vb (decide ((vl x54) > 1))) <| KT.nil <| zS (T' := [(0, (.pointer p0_b)), (1, (vi p1_seg)), (9, (vS x48.1)), (56, (vb (decide ((vl x54) > 1))))]) <| SX.seq <| SC.cond rfl ?_ ?_
  exact zG <| zp 8 (vi 14) <| zn <| zt <| ze [.tmp 8] <| zm rfl zz
  refine zw <| zq <| zG <| zp 11 (vi 0) <| zn <| SC.block <| zL (σ := (Int)) (fun s4 => [(0, (.pointer p0_b)), (1, (vi p1_seg)), (9, (vS x48.1)), (11, (vi s4))]) fun _ _ _ s4 => zq <| zG <| zp 57 (vi s4) <| zp 58 (vS x48.1) <| zp 59 (vi (vl x48.1)) <| zp 60 (vb (decide (s4 < (vl x48.1)))) <| zn <| SC.cond rfl ?_ ?_
  refine zw <| zq <| SC.block <| zG <| zp 63 (.pointer p0_b) <| KT.nm 64 fun x64 => zp 65 (va x64 1) <| zo <| ola 66 3 fun x66 => zp 67 (vi p1_seg) <| zp 68 (vi s4) <| zc 69 (ref07_spot_sim _ _ _) fun x69 => KT.nw 12 (fun ad => .pointer (some ad)) 105 fun x12 => zo <| osa <| zn <| zq <| SC.draw 11 (fun f => Nat.beq f 9) rfl (by kernel_rfl) fun S5 => zpA 0 70 (.pointer p0_b) <| zpA 1 71 (vp x12) <| zA 2 rfl <| oli 72 fun x72 => zpA 3 73 (va x12 1) <| zA 4 rfl <| oli 74 fun x74 => zpA 5 75 (vS x48.1) <| zpA 6 76 (vi s4) <| zB 7 rfl <| oix 77 49 fun x77 => zA 8 rfl <| oli 78 fun x78 => KT.last 9 rfl (by kernel_rfl) rfl rfl <| ocall 79 (ref06_Bank_Write_sim _ _ _ _) fun x79 => KT.pvN 10 80 (vb (x79 == 12)) <| KT.doneN (by kernel_rfl) <| SX.seq <| SC.cond rfl ?_ ?_
  exact zG <| zp 8 (vi 12) <| zn <| SC.ret <| SX.block_ret <| SX.then_ret <| SX.loop_ret <| SX.block_ret <| SX.then_ret <| ze [.tmp 8] <| zm rfl zz
  exact SC.skip <| SX.block <| SX.seq <| zg <| zp 61 (vi s4) <| zp 62 (vi (w64 (s4 + 1))) <| zp 11 (vi (w64 (s4 + 1))) <| KT.nil <| zS (T' := [(0, (.pointer p0_b)), (1, (vi p1_seg)), (9, (vS x48.1)), (11, (vi (w64 (s4 + 1))))]) zX
  refine SC.exit <| SX.then_exit <| SX.loop_exit <| SX.block_hit <| SX.seq <| zq <| zG <| zp 81 (.pointer p0_b) <| zc 82 (ref06_Bank_Bad_sim _) fun x82 => zp 83 (vi (vl x82)) <| zp 84 (vb (decide ((vl x82) > 1))) <| zn <| SC.cond rfl ?_ ?_
  exact zG <| zp 8 (vi 14) <| zn <| zt <| ze [.tmp 8] <| zm rfl zz
  exact zw <| zG <| zp 8 (vi 0) <| zn <| SC.ret <| ze [.tmp 8] <| zm rfl zz
  refine KT.ite 28 rfl ?_ ?_
  exact zk <| zk <| zp 31 (vb true) <| zl j3
  exact zp 29 (vi p2_seq) <| zp 30 (vb (decide (p2_seq ≥ 4294967296))) <| zp 31 (vb (decide (p2_seq ≥ 4294967296))) <| zl j3
  refine KT.ite 24 rfl ?_ ?_
  exact zk <| zk <| zp 27 (vb true) <| zl j2
  exact zp 25 (vi p2_seq) <| zp 26 (vb (decide (p2_seq < 1))) <| zp 27 (vb (decide (p2_seq < 1))) <| zl j2
  refine KT.ite 15 rfl ?_ ?_
  exact zk <| zk <| zk <| zk <| zk <| zk <| zk <| zp 23 (vb true) <| zl j1
  exact zp 16 (vi p1_seg) <| zp 17 (.pointer p0_b) <| KT.nm 18 fun x18 => zp 19 (va x18 1) <| zp 20 (.pointer (some (Addr.add (Addr.add x18 1) 2))) <| KT.l 21 fun x21 => zp 22 (vb (decide (p1_seg ≥ x21))) <| zp 23 (vb (decide (p1_seg ≥ x21))) <| zl j1
theorem ref01_Get_sim (p0_b : Slc) (p1_at : Int) (p2_width : Int) : Sm Tryz.prog 104 [(vS p0_b), (vi p1_at), (vi p2_width)] (fun y : (Int × Bool) => (.tuple #[(vi y.1), (vb y.2)])) (ref01_Get p0_b p1_at p2_width) := by
  refine sm_of 51 Tryz.func104 rfl rfl rfl fun _ => ?_
  unfold ref01_Get
  refine zG <| zp 6 (vi 0) <| zp 7 (vb false) <| zn <| zq <| zG <| zp 10 (vi p2_width) <| zp 11 (vb (decide (p2_width < 1))) <| zp 12 (vb (decide (p2_width < 1))) <| zj 3 (fun r1 => [(15, (vb r1)), (0, (vS p0_b)), (1, (vi p1_at)), (2, (vi p2_width))]) (fun r1 => ?_) (fun j1 => ?_)
  refine zp 16 (vb r1) <| zj 3 (fun r2 => [(19, (vb r2)), (0, (vS p0_b)), (1, (vi p1_at)), (2, (vi p2_width))]) (fun r2 => ?_) (fun j2 => ?_)
  refine zp 20 (vb r2) <| zj 5 (fun r3 => [(25, (vb r3)), (0, (vS p0_b)), (1, (vi p1_at)), (2, (vi p2_width))]) (fun r3 => ?_) (fun j3 => ?_)
  refine zp 26 (vb r3) <| zj 7 (fun r4 => [(33, (vb r4)), (0, (vS p0_b)), (1, (vi p1_at)), (2, (vi p2_width))]) (fun r4 => ?_) (fun j4 => ?_)
  refine zn <| SC.cond rfl ?_ ?_
  exact zG <| zp 6 (vi 0) <| zp 7 (vb false) <| zn <| zt <| ze [.tmp 6, .tmp 7] <| zm rfl <| zm rfl zz
  refine zw <| zG <| zp 8 (vi 0) <| zn <| zq <| zG <| zp 34 (vi p2_width) <| zp 35 (vi (w64 (p2_width - 1))) <| zp 9 (vi (w64 (p2_width - 1))) <| zn <| SC.block <| zL (σ := (Int × Int)) (fun s5 => [(0, (vS p0_b)), (1, (vi p1_at)), (8, (vi s5.1)), (9, (vi s5.2))]) fun _ _ _ s5 => zq <| zG <| zp 36 (vi s5.2) <| zp 37 (vb (decide (s5.2 ≥ 0))) <| zn <| SC.cond rfl ?_ ?_
  exact zw <| zq <| SC.block <| zg <| zp 40 (vi s5.1) <| zp 41 (vi (w64 (s5.1 * 256))) <| zp 42 (vS p0_b) <| zp 43 (vi p1_at) <| zp 44 (vi s5.2) <| zp 45 (vi (w64 (p1_at + s5.2))) <| zy <| oix 46 5 fun x46 => KT.l 47 fun x47 => zp 48 (vi (w64 x47)) <| zp 49 (vi (w64 ((w64 (s5.1 * 256)) + (w64 x47)))) <| zp 8 (vi (w64 ((w64 (s5.1 * 256)) + (w64 x47)))) <| KT.nil <| SX.block <| SX.seq <| zg <| zp 38 (vi s5.2) <| zp 39 (vi (w64 (s5.2 - 1))) <| zp 9 (vi (w64 (s5.2 - 1))) <| KT.nil zX
  exact SC.exit <| SX.then_exit <| SX.loop_exit <| SX.block_hit <| SX.seq <| zG <| zp 50 (vi s5.1) <| zp 6 (vi s5.1) <| zp 7 (vb true) <| zn <| SC.ret <| ze [.tmp 6, .tmp 7] <| zm rfl <| zm rfl zz
  refine KT.ite 26 rfl ?_ ?_
  exact zk <| zk <| zk <| zk <| zk <| zk <| zp 33 (vb true) <| zl j4
  exact zp 27 (vS p0_b) <| zp 28 (vi (vl p0_b)) <| zp 29 (vi p1_at) <| zp 30 (vi (w64 ((vl p0_b) - p1_at))) <| zp 31 (vi p2_width) <| zp 32 (vb (decide ((w64 ((vl p0_b) - p1_at)) < p2_width))) <| zp 33 (vb (decide ((w64 ((vl p0_b) - p1_at)) < p2_width))) <| zl j4
  refine KT.ite 20 rfl ?_ ?_
  exact zk <| zk <| zk <| zk <| zp 25 (vb true) <| zl j3
  exact zp 21 (vi p1_at) <| zp 22 (vS p0_b) <| zp 23 (vi (vl p0_b)) <| zp 24 (vb (decide (p1_at > (vl p0_b)))) <| zp 25 (vb (decide (p1_at > (vl p0_b)))) <| zl j3
  refine KT.ite 16 rfl ?_ ?_
  exact zk <| zk <| zp 19 (vb true) <| zl j2
  exact zp 17 (vi p1_at) <| zp 18 (vb (decide (p1_at < 0))) <| zp 19 (vb (decide (p1_at < 0))) <| zl j2
  refine KT.ite 12 rfl ?_ ?_
  exact zk <| zk <| zp 15 (vb true) <| zl j1
  exact zp 13 (vi p2_width) <| zp 14 (vb (decide (p2_width > 4))) <| zp 15 (vb (decide (p2_width > 4))) <| zl j1
theorem ref04_Decode_sim (p0_b : Slc) : Sm Tryz.prog 75 [(vS p0_b)] (fun y : ((Int × Int × Int) × Slc × Bool) => (.tuple #[(.agg #[(vi y.1.1), (vi y.1.2.1), (vi y.1.2.2)]), (vS y.2.1), (vb y.2.2)])) (ref04_Decode p0_b) := by
  refine sm_of 33 Tryz.func75 rfl rfl rfl fun _ => ?_
  unfold ref04_Decode
  refine zG <| KT.nw 2 (fun ad => .pointer (some ad)) 116 fun x2 => zp 3 (.slice none 0 0) <| zp 4 (vb false) <| zn <| zq <| zG <| zp 6 (vS p0_b) <| zp 7 (vi (vl p0_b)) <| zp 8 (vb ((vl p0_b) != 64)) <| zn <| SC.cond rfl ?_ ?_
  exact zG <| zp 9 (.agg #[(vi 0), (vi 0), (vi 0)]) <| zo <| osa <| zp 3 (.slice none 0 0) <| zp 4 (vb false) <| zn <| zt <| ze [.cell 2 116, .tmp 3, .tmp 4] <| RS.cellA 3 (by kernel_rfl) rfl rfl (fun _ => rfl) fun r2 => zm rfl <| zm rfl zz
  refine zw <| zG <| zp 10 (.agg #[(vi 0), (vi 0), (vi 0)]) <| KT.nw 5 (fun ad => .pointer (some ad)) 116 fun x5 => zo <| osa <| zN <| zp 12 (vS p0_b) <| zc 13 (ref01_Get_sim _ _ _) fun x13 => zp 11 (.tuple #[(vi x13.1), (vb x13.2)]) <| zp 14 (vi x13.1) <| zp 15 (vb x13.2) <| zp 16 (vp x5) <| KT.s <| zN <| zp 18 (vS p0_b) <| zc 19 (ref01_Get_sim _ _ _) fun x19 => zp 17 (.tuple #[(vi x19.1), (vb x19.2)]) <| zp 20 (vi x19.1) <| zp 21 (vb x19.2) <| zp 22 (va x5 1) <| KT.s <| zN <| zp 24 (vS p0_b) <| zc 25 (ref01_Get_sim _ _ _) fun x25 => zp 23 (.tuple #[(vi x25.1), (vb x25.2)]) <| zp 26 (vi x25.1) <| zp 27 (vb x25.2) <| zp 28 (va x5 2) <| KT.s <| zn ?_
  refine zq <| SC.draw 7 (fun f => Nat.beq f 4) rfl (by kernel_rfl) fun S1 => zA 0 rfl <| olai 29 3 fun x29 => zpA 1 30 (vS p0_b) <| KT.tp 2 (OY.slice10 (d := 31) (s := p0_b) (lo := 8) (size := 1) (elem := 5) _ _ _ rfl rfl rfl (by kernel_rfl) (by kernel_rfl) rfl rfl (fun x31 => ?_))
  exact KT.one 3 rfl (by kernel_rfl) rfl <| OW.step <| ocall 32 (ref00_CopyBytes_sim _) fun x32 => KT.and <| KT.last 4 rfl (by kernel_rfl) rfl rfl <| OW.stA _ _ _ rfl rfl rfl rfl rfl (by kernel_rfl) <| KT.pvN 5 3 (vS x32) <| KT.pvN 6 4 (vb true) <| KT.doneN (by kernel_rfl) <| zS (T' := [(2, (vp x2)), (3, (vS x32)), (4, (vb true))]) <| SX.seq <| SC.ret <| ze [.cell 2 116, .tmp 3, .tmp 4] <| RS.cellA 3 (by kernel_rfl) rfl rfl (fun _ => rfl) fun r2 => zm rfl <| zm rfl zz
theorem ref02_Rack_Read_sim (p0_r : (Option Addr)) (p1_disk : Int) (p2_sector : Int) : Sm Tryz.prog 13 [(.pointer p0_r), (vi p1_disk), (vi p2_sector)] (fun y : (Slc × Int) => (.tuple #[(vS y.1), (vi y.2)])) (ref02_Rack_Read p0_r p1_disk p2_sector) := by
  refine sm_of 58 Tryz.func13 rfl rfl rfl fun _ => ?_
  unfold ref02_Rack_Read
  refine zG <| zp 6 (.slice none 0 0) <| zp 7 (vi 0) <| zn <| zq <| zG <| zp 9 (.pointer p0_r) <| KT.nm 10 fun x10 => zp 11 (va x10 7) <| KT.l 12 fun x12 => zn <| SC.cond rfl ?_ ?_
  exact zG <| zp 6 (.slice none 0 0) <| zp 7 (vi 12) <| zn <| zt <| ze [.tmp 6, .tmp 7] <| zm rfl <| zm rfl zz
  refine zw <| zq <| zG <| zp 13 (.pointer p0_r) <| zp 14 (vi p1_disk) <| zp 15 (vi p2_sector) <| zc 16 (ref02_Rack_there_sim _ _ _) fun x16 => zp 17 (vb (!x16)) <| zn <| SC.cond rfl ?_ ?_
  exact zG <| zp 6 (.slice none 0 0) <| zp 7 (vi 11) <| zn <| zt <| ze [.tmp 6, .tmp 7] <| zm rfl <| zm rfl zz
  refine zw <| zq <| zG <| zp 18 (.pointer p0_r) <| KT.nm 19 fun x19 => zp 20 (va x19 4) <| KT.l 21 fun x21 => zp 22 (vi p1_disk) <| zy <| oix 23 4 fun x23 => KT.l 24 fun x24 => zn <| SC.cond rfl ?_ ?_
  exact zG <| zp 6 (.slice none 0 0) <| zp 7 (vi 13) <| zn <| zt <| ze [.tmp 6, .tmp 7] <| zm rfl <| zm rfl zz
  refine zw <| zG <| zp 25 (vi p1_disk) <| zp 26 (.pointer p0_r) <| KT.nm 27 fun x27 => zp 28 (va x27 1) <| KT.l 29 fun x29 => zp 30 (vi (w64 (p1_disk * x29))) <| zp 31 (vi p2_sector) <| zp 32 (vi (w64 ((w64 (p1_disk * x29)) + p2_sector))) <| zp 8 (vi (w64 ((w64 (p1_disk * x29)) + p2_sector))) <| KT.nil <| zS (T' := [(0, (.pointer p0_r)), (8, (vi (w64 ((w64 (p1_disk * x29)) + p2_sector))))]) <| SX.seq <| zq <| zG <| zp 33 (.pointer p0_r) <| KT.nm 34 fun x34 => zp 35 (va x34 3) <| KT.l 36 fun x36 => zp 37 (vi (w64 ((w64 (p1_disk * x29)) + p2_sector))) <| zy <| oix 38 49 fun x38 => KT.l 39 fun x39 => zp 40 (vi (vl x39)) <| zp 41 (vb (decide ((vl x39) > 0))) <| zn <| SC.cond rfl ?_ ?_
  exact zG <| zp 42 (.pointer p0_r) <| KT.nm 43 fun x43 => zp 44 (va x43 3) <| KT.l 45 fun x45 => zp 46 (vi (w64 ((w64 (p1_disk * x29)) + p2_sector))) <| zy <| oix 47 49 fun x47 => KT.l 48 fun x48 => zc 49 (ref00_CopyBytes_sim _) fun x49 => zp 6 (vS x49) <| zp 7 (vi 0) <| zn <| zt <| ze [.tmp 6, .tmp 7] <| zm rfl <| zm rfl zz
  exact zw <| zG <| zp 50 (.pointer p0_r) <| KT.nm 51 fun x51 => zp 52 (va x51 2) <| KT.l 53 fun x53 => zp 54 (vi (w64 ((w64 (p1_disk * x29)) + p2_sector))) <| zy <| oix 55 49 fun x55 => KT.l 56 fun x56 => zc 57 (ref00_CopyBytes_sim _) fun x57 => zp 6 (vS x57) <| zp 7 (vi 0) <| zn <| SC.ret <| ze [.tmp 6, .tmp 7] <| zm rfl <| zm rfl zz
theorem ref06_Bank_Read_sim (p0_b : (Option Addr)) (p1_slot : Int) (p2_sector : Int) : Sm Tryz.prog 76 [(.pointer p0_b), (vi p1_slot), (vi p2_sector)] (fun y : (Slc × Int) => (.tuple #[(vS y.1), (vi y.2)])) (ref06_Bank_Read p0_b p1_slot p2_sector) := by
  refine sm_of 30 Tryz.func76 rfl rfl rfl fun _ => ?_
  unfold ref06_Bank_Read
  refine zG <| zp 6 (.slice none 0 0) <| zp 7 (vi 0) <| zn <| zq <| zG <| zp 8 (vi p1_slot) <| zp 9 (vb (decide (p1_slot < 0))) <| zp 10 (vb (decide (p1_slot < 0))) <| zj 8 (fun r1 => [(18, (vb r1)), (0, (.pointer p0_b)), (1, (vi p1_slot)), (2, (vi p2_sector))]) (fun r1 => ?_) (fun j1 => ?_)
  refine zn <| SC.cond rfl ?_ ?_
  exact zG <| zp 6 (.slice none 0 0) <| zp 7 (vi 11) <| zn <| zt <| ze [.tmp 6, .tmp 7] <| zm rfl <| zm rfl zz
  exact zw <| zq <| SC.draw 13 (fun f => Nat.beq f 8) rfl (by kernel_rfl) fun S2 => zpA 0 19 (.pointer p0_b) <| zB 1 rfl <| onil 20 fun x20 => zpA 2 21 (vp x20) <| zA 3 rfl <| oli 22 fun x22 => zpA 4 23 (.pointer p0_b) <| zpA 5 24 (vi p1_slot) <| zpA 7 26 (vi p2_sector) <| KT.one 6 rfl (by kernel_rfl) rfl <| OW.step <| ocall 25 (ref06_Bank_disk_sim _ _) fun x25 => KT.and <| KT.last 8 rfl (by kernel_rfl) rfl rfl <| ocall 27 (ref02_Rack_Read_sim _ _ _) fun x27 => KT.pvN 9 28 (vS x27.1) <| KT.pvN 10 29 (vi x27.2) <| KT.pvN 11 6 (vS x27.1) <| KT.pvN 12 7 (vi x27.2) <| KT.doneN (by kernel_rfl) <| SX.seq <| SC.ret <| ze [.tmp 6, .tmp 7] <| zm rfl <| zm rfl zz
  refine KT.ite 10 rfl ?_ ?_
  exact zk <| zk <| zk <| zk <| zk <| zk <| zk <| zp 18 (vb true) <| zl j1
  exact zp 11 (vi p1_slot) <| zp 12 (.pointer p0_b) <| KT.nm 13 fun x13 => zp 14 (va x13 1) <| zp 15 (va x13 1) <| KT.l 16 fun x16 => zp 17 (vb (decide (p1_slot ≥ x16))) <| zp 18 (vb (decide (p1_slot ≥ x16))) <| zl j1
theorem ref07_good_sim (p0_b : (Option Addr)) (p1_s : (Int × Int)) (p2_seq : Int) : Sm Tryz.prog 73 [(.pointer p0_b), (.agg #[(vi p1_s.1), (vi p1_s.2)]), (vi p2_seq)] (fun y : (Slc × Bool) => (.tuple #[(vS y.1), (vb y.2)])) (ref07_good p0_b p1_s p2_seq) := by
  refine sm_of 35 Tryz.func73 rfl rfl rfl fun _ => ?_
  unfold ref07_good
  refine zG <| KT.nw 4 (fun ad => .pointer (some ad)) 105 fun x4 => zp 6 (.slice none 0 0) <| zp 7 (vb false) <| zN <| zp 14 (.pointer p0_b) <| zp 15 (vp x4) <| KT.l 16 fun x16 => zp 17 (va x4 1) <| KT.l 18 fun x18 => zc 19 (ref06_Bank_Read_sim _ _ _) fun x19 => zp 13 (.tuple #[(vS x19.1), (vi x19.2)]) <| zp 20 (vS x19.1) <| zp 21 (vi x19.2) <| zp 8 (vS x19.1) <| zp 9 (vi x19.2) <| zn <| zq <| zG <| zp 22 (vi x19.2) <| zp 23 (vb (x19.2 != 0)) <| zn <| SC.cond rfl ?_ ?_
  exact zG <| zp 6 (.slice none 0 0) <| zp 7 (vb false) <| zn <| zt <| ze [.tmp 6, .tmp 7] <| zm rfl <| zm rfl zz
  exact zw <| zG <| zp 25 (vS x19.1) <| zc 26 (ref04_Decode_sim _) fun x26 => zp 24 (.tuple #[(.agg #[(vi x26.1.1), (vi x26.1.2.1), (vi x26.1.2.2)]), (vS x26.2.1), (vb x26.2.2)]) <| zp 27 (.agg #[(vi x26.1.1), (vi x26.1.2.1), (vi x26.1.2.2)]) <| zp 28 (vS x26.2.1) <| zp 29 (vb x26.2.2) <| KT.nw 10 (fun ad => .pointer (some ad)) 116 fun x10 => zo <| osa <| zp 11 (vS x26.2.1) <| zp 12 (vb x26.2.2) <| zn <| zq <| SC.draw 7 (fun _ => false) rfl (by kernel_rfl) fun S1 => zpA 0 30 (vS x19.1) <| zpA 1 31 (vp x10) <| zA 2 rfl <| oli 32 fun x32 => zpA 3 33 (vi p2_seq) <| zpA 4 34 (vb (x32 == p2_seq)) <| zpA 5 6 (vS x19.1) <| zpA 6 7 (vb (x32 == p2_seq)) <| KT.doneA (by kernel_rfl) <| zS (T' := [(6, (vS x19.1)), (7, (vb (x32 == p2_seq)))]) <| SX.seq <| SC.ret <| ze [.tmp 6, .tmp 7] <| zm rfl <| zm rfl zz
theorem ref07_others_sim (p0_b : (Option Addr)) (p1_seg : Int) (p2_row : Int) (p3_lost : (Int × Int)) (p4_seq : Int) : Sm Tryz.prog 74 [(.pointer p0_b), (vi p1_seg), (vi p2_row), (.agg #[(vi p3_lost.1), (vi p3_lost.2)]), (vi p4_seq)] (fun y : (Slc × Bool) => (.tuple #[(vS y.1), (vb y.2)])) (ref07_others p0_b p1_seg p2_row p3_lost p4_seq) := by
  refine sm_of 64 Tryz.func74 rfl rfl rfl fun _ => ?_
  unfold ref07_others
  refine zG <| KT.nw 8 (fun ad => .pointer (some ad)) 105 fun x8 => zp 10 (.slice none 0 0) <| zp 11 (vb false) <| zN <| KT.nw 17 (fun ad => .slice (some ad) 0 0) 49 fun x17 => zp 12 (.slice (some x17) 0 0) <| zn <| zq <| zG <| zp 18 (vi p2_row) <| zp 19 (.pointer p0_b) <| KT.nm 20 fun x20 => zp 21 (va x20 1) <| zp 22 (va x20 1) <| KT.l 23 fun x23 => zp 24 (vi (w64 (p2_row * x23))) <| zp 13 (vi (w64 (p2_row * x23))) <| zn <| SC.block <| zL (σ := (Slc × Int)) (fun s1 => [(0, (.pointer p0_b)), (1, (vi p1_seg)), (2, (vi p2_row)), (4, (vi p4_seq)), (8, (vp x8)), (12, (vS s1.1)), (13, (vi s1.2))]) fun _ _ _ s1 => zq <| zG <| zp 25 (vi s1.2) <| zp 26 (vi p2_row) <| zp 27 (vi (w64 (p2_row + 1))) <| zp 28 (.pointer p0_b) <| KT.nm 29 fun x29 => zp 30 (va x29 1) <| zp 31 (va x29 1) ?_
  refine KT.l 32 fun x32 => zp 33 (vi (w64 ((w64 (p2_row + 1)) * x32))) <| zp 34 (vb (decide (s1.2 < (w64 ((w64 (p2_row + 1)) * x32))))) <| zn <| SC.cond rfl ?_ ?_
  refine zw <| zq <| SC.block <| zG <| zp 37 (.pointer p0_b) <| KT.nm 38 fun x38 => zp 39 (va x38 1) <| zo <| ola 40 3 fun x40 => zp 41 (vi p1_seg) <| zp 42 (vi s1.2) <| zc 43 (ref07_spot_sim _ _ _) fun x43 => KT.nw 14 (fun ad => .pointer (some ad)) 105 fun x14 => zo <| osa <| zn <| zq <| zG <| zo <| ola 44 2 fun x44 => zo <| ola 45 2 fun x45 => KT.oy rfl (OY.eqlAgg2 (d := 46) (x := (x44.1, x44.2)) (y := (x45.1, x45.2)) _ _ _ _ _ _ rfl rfl rfl rfl (by kernel_rfl) rfl rfl ?_)
  refine zn <| SC.cond rfl ?_ ?_
  exact SC.exit <| SX.then_exit <| SX.block_hit <| SX.seq <| zg <| zp 35 (vi s1.2) <| zp 36 (vi (w64 (s1.2 + 1))) <| zp 13 (vi (w64 (s1.2 + 1))) <| KT.nil <| zS (T' := [(0, (.pointer p0_b)), (1, (vi p1_seg)), (2, (vi p2_row)), (4, (vi p4_seq)), (8, (vp x8)), (12, (vS s1.1)), (13, (vi (w64 (s1.2 + 1))))]) zX
  refine zw <| zG <| zp 48 (.pointer p0_b) <| zo <| ola 49 2 fun x49 => zp 50 (vi p4_seq) <| zc 51 (ref07_good_sim _ _ _) fun x51 => zp 47 (.tuple #[(vS x51.1), (vb x51.2)]) <| zp 52 (vS x51.1) <| zp 53 (vb x51.2) <| zp 15 (vS x51.1) <| zp 16 (vb x51.2) <| KT.nil <| zS (T' := [(0, (.pointer p0_b)), (1, (vi p1_seg)), (2, (vi p2_row)), (4, (vi p4_seq)), (8, (vp x8)), (12, (vS s1.1)), (13, (vi s1.2)), (15, (vS x51.1)), (16, (vb x51.2))]) <| SX.seq <| zq <| zG <| zp 54 (vb x51.2) <| zp 55 (vb (!x51.2)) <| zn <| SC.cond rfl ?_ ?_
  exact zG <| zp 10 (.slice none 0 0) <| zp 11 (vb false) <| zn <| zt <| SX.block_ret <| SX.then_ret <| SX.loop_ret <| SX.block_ret <| SX.then_ret <| ze [.tmp 10, .tmp 11] <| zm rfl <| zm rfl zz
  exact zw <| zg <| zp 56 (vS s1.1) <| zp 57 (vS x51.1) <| KT.nw 58 (fun ad => .slice (some ad) 1 1) 49 fun x58 => zo <| oapp 59 49 fun x59 => zp 12 (vS x59) <| KT.nil <| SX.block <| SX.seq <| zg <| zp 35 (vi s1.2) <| zp 36 (vi (w64 (s1.2 + 1))) <| zp 13 (vi (w64 (s1.2 + 1))) <| KT.nil zX
  exact SC.exit <| SX.then_exit <| SX.loop_exit <| SX.block_hit <| SX.seq <| zG <| zp 60 (vS s1.1) <| zc 61 (ref04_Parity_sim _) fun x61 => zp 62 (vS x61.1) <| zp 63 (vb x61.2) <| zp 10 (vS x61.1) <| zp 11 (vb x61.2) <| zn <| SC.ret <| ze [.tmp 10, .tmp 11] <| zm rfl <| zm rfl zz
theorem ref07_Read_sim (p0_b : (Option Addr)) (p1_seg : Int) (p2_k : Int) (p3_seq : Int) : Sm Tryz.prog 27 [(.pointer p0_b), (vi p1_seg), (vi p2_k), (vi p3_seq)] (fun y : ((Int × Int × Slc) × Int) => (.tuple #[(.agg #[(vi y.1.1), (vi y.1.2.1), (vS y.1.2.2)]), (vi y.2)])) (ref07_Read p0_b p1_seg p2_k p3_seq) := by
  refine sm_of 77 Tryz.func27 rfl rfl rfl fun _ => ?_
  unfold ref07_Read
  refine zG <| KT.nw 8 (fun ad => .pointer (some ad)) 58 fun x8 => zp 9 (vi 0) <| zN <| zp 17 (.pointer p0_b) <| KT.nm 18 fun x18 => zp 19 (va x18 1) <| zo <| ola 20 3 fun x20 => zp 21 (vi p1_seg) <| zp 22 (vi p2_k) <| zc 23 (ref03_Block_sim _ _ _) fun x23 => zp 16 (.tuple #[(.agg #[(vi x23.1.1), (vi x23.1.2)]), (vb x23.2)]) <| zp 24 (.agg #[(vi x23.1.1), (vi x23.1.2)]) <| zp 25 (vb x23.2) <| KT.nw 10 (fun ad => .pointer (some ad)) 105 fun x10 => zo <| osa <| zp 11 (vb x23.2) <| zn <| zq <| zG <| zp 26 (vb x23.2) <| zp 27 (vb (!x23.2)) <| zn <| SC.cond rfl ?_ ?_
  exact zG <| zp 28 (.agg #[(vi 0), (vi 0), (.slice none 0 0)]) <| zo <| osa <| zp 9 (vi 28) <| zn <| zt <| ze [.cell 8 58, .tmp 9] <| RS.cellA 3 (by kernel_rfl) rfl rfl (fun _ => rfl) fun r8 => zm rfl zz
  refine zw <| zq <| zG <| zp 29 (.pointer p0_b) <| KT.nm 30 fun x30 => zp 31 (vp x30) <| KT.l 32 fun x32 => KT.nm 33 fun x33 => zp 34 (va x33 7) <| KT.l 35 fun x35 => zn <| SC.cond rfl ?_ ?_
  exact zG <| zp 36 (.agg #[(vi 0), (vi 0), (.slice none 0 0)]) <| zo <| osa <| zp 9 (vi 12) <| zn <| zt <| ze [.cell 8 58, .tmp 9] <| RS.cellA 3 (by kernel_rfl) rfl rfl (fun _ => rfl) fun r8 => zm rfl zz
  refine zw <| zG <| zp 38 (.pointer p0_b) <| zo <| ola 39 2 fun x39 => zp 40 (vi p3_seq) <| zc 41 (ref07_good_sim _ _ _) fun x41 => zp 37 (.tuple #[(vS x41.1), (vb x41.2)]) <| zp 42 (vS x41.1) <| zp 43 (vb x41.2) <| zp 12 (vS x41.1) <| zp 11 (vb x41.2) <| KT.nil <| zS (T' := [(0, (.pointer p0_b)), (1, (vi p1_seg)), (2, (vi p2_k)), (3, (vi p3_seq)), (8, (vp x8)), (10, (vp x10)), (11, (vb x41.2)), (12, (vS x41.1))]) <| SX.seq <| zq <| zG <| zp 44 (vb x41.2) <| zp 45 (vb (!x41.2)) <| zn <| SC.join (β := (Bool × Slc)) (fun b1 => [(8, (vp x8)), (11, (vb b1.1)), (12, (vS b1.2))]) (fun b1 => ?_) (fun j1 => ?_)
  refine SX.seq <| zq <| zG <| zp 62 (vb b1.1) <| zp 63 (vb (!b1.1)) <| zn <| SC.cond rfl ?_ ?_
  exact zG <| zp 64 (.agg #[(vi 0), (vi 0), (.slice none 0 0)]) <| zo <| osa <| zp 9 (vi 14) <| zn <| zt <| ze [.cell 8 58, .tmp 9] <| RS.cellA 3 (by kernel_rfl) rfl rfl (fun _ => rfl) fun r8 => zm rfl zz
  exact zw <| zG <| zp 66 (vS b1.2) <| zc 67 (ref04_Decode_sim _) fun x67 => zp 65 (.tuple #[(.agg #[(vi x67.1.1), (vi x67.1.2.1), (vi x67.1.2.2)]), (vS x67.2.1), (vb x67.2.2)]) <| zp 68 (.agg #[(vi x67.1.1), (vi x67.1.2.1), (vi x67.1.2.2)]) <| zp 69 (vS x67.2.1) <| zp 70 (vb x67.2.2) <| KT.nw 13 (fun ad => .pointer (some ad)) 116 fun x13 => zo <| osa <| zp 14 (vS x67.2.1) <| zp 15 (vb x67.2.2) <| zN <| zp 71 (va x13 1) <| KT.l 72 fun x72 => zp 73 (va x13 2) <| KT.l 74 fun x74 => zp 75 (vS x67.2.1) <| zp 76 (.agg #[(vi x72), (vi x74), (vS x67.2.1)]) <| zo <| osa <| zp 9 (vi 0) <| zn <| SC.ret <| ze [.cell 8 58, .tmp 9] <| RS.cellA 3 (by kernel_rfl) rfl rfl (fun _ => rfl) fun r8 => zm rfl zz
  refine SC.cond rfl ?_ ?_
  refine SC.draw 18 (fun _ => false) rfl (by kernel_rfl) fun S2 => zpA 0 47 (.pointer p0_b) <| zpA 1 48 (vi p1_seg) <| zpA 2 49 (vi p2_k) <| zpA 3 50 (.pointer p0_b) <| zB 4 rfl <| onil 51 fun x51 => zpA 5 52 (va x51 1) <| zpA 6 53 (va x51 1) <| zA 7 rfl <| oli 54 fun x54 => zpA 8 55 (vi (w64 (x54 - 1))) <| KT.tp 9 (OY.quo (d := 56) (x := p2_k) (y := w64 (x54 - 1)) _ _ _ _ (w64 (Int.tdiv p2_k (w64 (x54 - 1)))) rfl rfl rfl rfl rfl rfl ?_)
  exact zA 10 rfl <| olai 57 2 fun x57 => zpA 11 58 (vi p3_seq) <| KT.one 12 rfl (by kernel_rfl) rfl <| OW.step <| ocall 59 (ref07_others_sim _ _ _ _ _) fun x59 => KT.and <| zpA 13 46 (.tuple #[(vS x59.1), (vb x59.2)]) <| zpA 14 60 (vS x59.1) <| zpA 15 61 (vb x59.2) <| zpA 16 12 (vS x59.1) <| zpA 17 11 (vb x59.2) <| KT.doneA (by kernel_rfl) <| zf j1
  exact SC.skip <| zf j1
theorem ref07_Whole_sim (p0_b : (Option Addr)) (p1_seg : Int) : Sm Tryz.prog 28 [(.pointer p0_b), (vi p1_seg)] (fun y : (Int × Bool × Int) => (.tuple #[(vi y.1), (vb y.2.1), (vi y.2.2)])) (ref07_Whole p0_b p1_seg) := by
  refine sm_of 106 Tryz.func28 rfl rfl rfl fun _ => ?_
  unfold ref07_Whole
  refine zG <| zp 4 (vi 0) <| zp 5 (vb false) <| zp 6 (vi 0) <| zn <| zq <| zG <| zp 16 (vi p1_seg) <| zp 17 (vb (decide (p1_seg < 0))) <| zp 18 (vb (decide (p1_seg < 0))) <| zj 8 (fun r1 => [(26, (vb r1)), (0, (.pointer p0_b)), (1, (vi p1_seg))]) (fun r1 => ?_) (fun j1 => ?_)
  refine zn <| SC.cond rfl ?_ ?_
  exact zG <| zp 4 (vi 0) <| zp 5 (vb false) <| zp 6 (vi 28) <| zn <| zt <| ze [.tmp 4, .tmp 5, .tmp 6] <| zm rfl <| zm rfl <| zm rfl zz
  refine zw <| zq <| zG <| zp 27 (.pointer p0_b) <| KT.nm 28 fun x28 => zp 29 (vp x28) <| KT.l 30 fun x30 => KT.nm 31 fun x31 => zp 32 (va x31 7) <| KT.l 33 fun x33 => zn <| SC.cond rfl ?_ ?_
  exact zG <| zp 4 (vi 0) <| zp 5 (vb false) <| zp 6 (vi 12) <| zn <| zt <| ze [.tmp 4, .tmp 5, .tmp 6] <| zm rfl <| zm rfl <| zm rfl zz
  refine zw <| zG <| zp 34 (.pointer p0_b) <| zc 35 (ref06_Bank_Bad_sim _) fun x35 => zp 7 (vS x35) <| zN <| zp 8 (vi (-1)) <| zn <| zq <| zG <| zp 9 (vi 0) <| zn <| SC.block <| zL (σ := (Int × Int)) (fun s2 => [(0, (.pointer p0_b)), (1, (vi p1_seg)), (7, (vS x35)), (8, (vi s2.1)), (9, (vi s2.2))]) fun _ _ _ s2 => zq <| zq <| SC.draw 13 (fun _ => false) rfl (by kernel_rfl) fun S3 => zpA 0 36 (vi s2.2) <| zpA 1 37 (.pointer p0_b) <| zB 2 rfl <| onil 38 fun x38 => zpA 3 39 (va x38 1) <| zpA 4 40 (.pointer (some (Addr.add (Addr.add x38 1) 1))) <| zA 5 rfl <| oli 41 fun x41 => zpA 6 42 (.pointer p0_b) <| zB 7 rfl <| onil 43 fun x43 => zpA 8 44 (va x43 1) <| zpA 9 45 (va x43 1) <| zA 10 rfl <| oli 46 fun x46 => zpA 11 47 (vi (w64 (x41 * x46))) <| zpA 12 48 (vb (decide (s2.2 < (w64 (x41 * x46))))) ?_
  refine KT.doneA (by kernel_rfl) <| SX.seq <| SC.cond rfl ?_ ?_
  refine zw <| zq <| SC.block <| zG <| zp 51 (.pointer p0_b) <| KT.nm 52 fun x52 => zp 53 (va x52 1) <| zo <| ola 54 3 fun x54 => zp 55 (vi p1_seg) <| zp 56 (vi s2.2) <| zc 57 (ref07_spot_sim _ _ _) fun x57 => KT.nw 10 (fun ad => .pointer (some ad)) 105 fun x10 => zo <| osa <| zn <| zq <| zq <| SC.join (β := (Bool)) (fun b4 => [(0, (.pointer p0_b)), (1, (vi p1_seg)), (7, (vS x35)), (8, (vi s2.1)), (9, (vi s2.2)), (10, (vp x10)), (68, (vb b4))]) (fun b4 => ?_) (fun j4 => ?_)
  refine SX.seq <| SC.cond rfl ?_ ?_
  exact SC.exit <| SX.then_exit <| SX.block_hit <| SX.seq <| zg <| zp 49 (vi s2.2) <| zp 50 (vi (w64 (s2.2 + 1))) <| zp 9 (vi (w64 (s2.2 + 1))) <| KT.nil zX
  refine zw <| zG <| zp 70 (.pointer p0_b) <| zp 71 (vp x10) <| KT.l 72 fun x72 => zp 73 (va x10 1) <| KT.l 74 fun x74 => zc 75 (ref06_Bank_Read_sim _ _ _) fun x75 => zp 69 (.tuple #[(vS x75.1), (vi x75.2)]) <| zp 76 (vS x75.1) <| zp 77 (vi x75.2) <| zp 11 (vS x75.1) <| zp 12 (vi x75.2) <| zN <| zp 79 (vS x75.1) <| zc 80 (ref04_Decode_sim _) fun x80 => zp 78 (.tuple #[(.agg #[(vi x80.1.1), (vi x80.1.2.1), (vi x80.1.2.2)]), (vS x80.2.1), (vb x80.2.2)]) <| zp 81 (.agg #[(vi x80.1.1), (vi x80.1.2.1), (vi x80.1.2.2)]) <| zp 82 (vS x80.2.1) <| zp 83 (vb x80.2.2) <| KT.nw 13 (fun ad => .pointer (some ad)) 116 fun x13 => zo <| osa <| zp 14 (vS x80.2.1) <| zp 15 (vb x80.2.2) <| zn <| zq <| zG <| zp 84 (vi x75.2) <| zp 85 (vb (x75.2 != 0)) <| zp 86 (vb (x75.2 != 0)) ?_
  refine zj 9 (fun r5 => [(95, (vb r5)), (0, (.pointer p0_b)), (1, (vi p1_seg)), (7, (vS x35)), (9, (vi s2.2)), (13, (vp x13))]) (fun r5 => ?_) (fun j5 => ?_)
  refine zn <| SC.cond rfl ?_ ?_
  exact zG <| zp 4 (vi 0) <| zp 5 (vb false) <| zp 6 (vi 0) <| zn <| zt <| SX.block_ret <| SX.then_ret <| SX.loop_ret <| SX.block_ret <| SX.then_ret <| ze [.tmp 4, .tmp 5, .tmp 6] <| zm rfl <| zm rfl <| zm rfl zz
  exact zw <| zg <| zp 96 (vp x13) <| KT.l 97 fun x97 => zp 8 (vi x97) <| KT.nil <| SX.block <| SX.seq <| zg <| zp 49 (vi s2.2) <| zp 50 (vi (w64 (s2.2 + 1))) <| zp 9 (vi (w64 (s2.2 + 1))) <| KT.nil zX
  refine KT.ite 86 rfl ?_ ?_
  exact zk <| zk <| zk <| zk <| zk <| zk <| zk <| zk <| zp 95 (vb true) <| zl j5
  refine zp 87 (vi s2.1) <| zp 88 (vb (decide (s2.1 ≥ 0))) <| zp 89 (vb (decide (s2.1 ≥ 0))) <| zj 5 (fun r6 => [(94, (vb r6)), (0, (.pointer p0_b)), (1, (vi p1_seg)), (7, (vS x35)), (9, (vi s2.2)), (13, (vp x13)), (86, (vb false))]) (fun r6 => ?_) (fun j6 => ?_)
  exact zp 95 (vb r6) <| zl j5
  refine KT.ite 89 rfl ?_ ?_
  exact zp 90 (vp x13) <| KT.l 91 fun x91 => zp 92 (vi s2.1) <| zp 93 (vb (x91 != s2.1)) <| zp 94 (vb (x91 != s2.1)) <| zl j6
  exact zk <| zk <| zk <| zk <| zp 94 (vb false) <| zl j6
  refine SC.draw 11 (fun _ => false) rfl (by kernel_rfl) fun S7 => zpA 0 58 (vS x35) <| zpA 1 59 (vi (vl x35)) <| zpA 2 60 (vb (decide ((vl x35) > 0))) <| zpA 3 61 (vb (decide ((vl x35) > 0))) <| KT.ite 61 rfl ?_ ?_
  exact zpA 4 62 (vS x35) <| zB 5 rfl <| oix 63 3 fun x63 => zA 6 rfl <| oli 64 fun x64 => zpA 7 65 (vp x10) <| zA 8 rfl <| oli 66 fun x66 => zpA 9 67 (vb (x64 == x66)) <| zpA 10 68 (vb (x64 == x66)) <| KT.doneA (by kernel_rfl) <| zS (T' := [(0, (.pointer p0_b)), (1, (vi p1_seg)), (7, (vS x35)), (8, (vi s2.1)), (9, (vi s2.2)), (10, (vp x10)), (68, (vb (x64 == x66)))]) <| zf j4
  exact zkA 4 rfl <| zkA 5 rfl <| zkA 6 rfl <| zkA 7 rfl <| zkA 8 rfl <| zkA 9 rfl <| zpA 10 68 (vb false) <| KT.doneA (by kernel_rfl) <| zS (T' := [(0, (.pointer p0_b)), (1, (vi p1_seg)), (7, (vS x35)), (8, (vi s2.1)), (9, (vi s2.2)), (10, (vp x10)), (68, (vb false))]) <| zf j4
  refine SC.exit <| SX.then_exit <| SX.loop_exit <| SX.block_hit <| SX.seq <| zq <| zG <| zp 98 (vS x35) <| zp 99 (vi (vl x35)) <| zp 100 (vb (decide ((vl x35) > 1))) <| zp 101 (vb (decide ((vl x35) > 1))) <| zj 3 (fun r8 => [(104, (vb r8)), (8, (vi s2.1))]) (fun r8 => ?_) (fun j8 => ?_)
  refine zn <| SC.cond rfl ?_ ?_
  exact zG <| zp 4 (vi 0) <| zp 5 (vb false) <| zp 6 (vi 0) <| zn <| zt <| ze [.tmp 4, .tmp 5, .tmp 6] <| zm rfl <| zm rfl <| zm rfl zz
  exact zw <| zG <| zp 105 (vi s2.1) <| zp 4 (vi s2.1) <| zp 5 (vb true) <| zp 6 (vi 0) <| zn <| SC.ret <| ze [.tmp 4, .tmp 5, .tmp 6] <| zm rfl <| zm rfl <| zm rfl zz
  refine KT.ite 101 rfl ?_ ?_
  exact zk <| zk <| zp 104 (vb true) <| zl j8
  exact zp 102 (vi s2.1) <| zp 103 (vb (decide (s2.1 < 1))) <| zp 104 (vb (decide (s2.1 < 1))) <| zl j8
  refine KT.ite 18 rfl ?_ ?_
  exact zk <| zk <| zk <| zk <| zk <| zk <| zk <| zp 26 (vb true) <| zl j1
  exact zp 19 (vi p1_seg) <| zp 20 (.pointer p0_b) <| KT.nm 21 fun x21 => zp 22 (va x21 1) <| zp 23 (.pointer (some (Addr.add (Addr.add x21 1) 2))) <| KT.l 24 fun x24 => zp 25 (vb (decide (p1_seg ≥ x24))) <| zp 26 (vb (decide (p1_seg ≥ x24))) <| zl j1
theorem stripe_slotted_sim (p0_b : (Option Addr)) (p1_seg : Int) (p2_slot : Int) : Sm Tryz.prog 77 [(.pointer p0_b), (vi p1_seg), (vi p2_slot)] (Value.int .i64) (stripe_slotted p0_b p1_seg p2_slot) := by
  refine sm_of 19 Tryz.func77 rfl rfl rfl fun _ => ?_
  unfold stripe_slotted
  refine zG <| zp 6 (vi 0) <| zn <| zq <| zG <| zp 7 (vi p2_slot) <| zp 8 (vb (decide (p2_slot < 0))) <| zp 9 (vb (decide (p2_slot < 0))) <| zj 6 (fun r1 => [(15, (vb r1)), (0, (.pointer p0_b)), (1, (vi p1_seg))]) (fun r1 => ?_) (fun j1 => ?_)
  refine zn <| SC.cond rfl ?_ ?_
  exact zG <| zp 6 (vi 28) <| zn <| zt <| ze [.tmp 6] <| zm rfl zz
  exact zw <| zG <| zp 16 (.pointer p0_b) <| zp 17 (vi p1_seg) <| zc 18 (stripe_there_sim _ _) fun x18 => zp 6 (vi x18) <| zn <| SC.ret <| ze [.tmp 6] <| zm rfl zz
  refine KT.ite 9 rfl ?_ ?_
  exact zk <| zk <| zk <| zk <| zk <| zp 15 (vb true) <| zl j1
  exact zp 10 (vi p2_slot) <| zp 11 (.pointer p0_b) <| zc 12 (bank_Bank_Geo_sim _) fun x12 => zp 13 (vi x12.1) <| zp 14 (vb (decide (p2_slot ≥ x12.1))) <| zp 15 (vb (decide (p2_slot ≥ x12.1))) <| zl j1
theorem slices_IndexFunc_g_sim (p0_s : Slc) (p1_f : Value) : Sm Tryz.prog 106 [(vS p0_s), p1_f] (Value.int .i64) (slices_IndexFunc_g (cvOf Tryz.prog) p0_s p1_f) := by
  refine sm_of 19 Tryz.func106 rfl rfl rfl fun _ => ?_
  unfold slices_IndexFunc_g
  refine zG <| zp 4 (vi 0) <| zn <| zq <| zG <| zp 6 (vS p0_s) <| zp 7 (vi (vl p0_s)) <| zp 8 (vi 0) <| zn <| SC.block <| zL (σ := (Int)) (fun s1 => [(0, (vS p0_s)), (1, p1_f), (7, (vi (vl p0_s))), (8, (vi s1))]) fun _ _ _ s1 => zG <| zp 9 (vb (decide (s1 < (vl p0_s)))) <| zn <| zq <| SC.cond rfl ?_ ?_
  refine zw <| zq <| SC.block <| zG <| zp 10 (vi s1) <| zp 5 (vi s1) <| zN <| zp 11 p1_f <| zp 12 (vS p0_s) <| zp 13 (vi s1) <| zy <| oix 14 105 fun x14 => zo <| ola 15 2 fun x15 => KT.ow rfl (OW.callv (d := 16) (enc := Value.bool) (vs := [(.agg #[(vi x15.1), (vi x15.2)])]) _ [.tmp 15] _ rfl rfl rfl rfl rfl (fun x16 => ?_))
  refine zn <| SC.cond rfl ?_ ?_
  exact zG <| zp 17 (vi s1) <| zp 4 (vi s1) <| zn <| SC.ret <| SX.block_ret <| SX.then_ret <| SX.loop_ret <| SX.block_ret <| SX.then_ret <| ze [.tmp 4] <| zm rfl zz
  exact SC.skip <| SX.block <| SX.seq <| zg <| zp 18 (vi (w64 (s1 + 1))) <| zp 8 (vi (w64 (s1 + 1))) <| KT.nil zX
  exact SC.exit <| SX.then_exit <| SX.loop_exit <| SX.block_hit <| SX.seq <| zG <| zp 4 (vi (-1)) <| zn <| SC.ret <| ze [.tmp 4] <| zm rfl zz
theorem stripe_lacks_c1_c1_sim (p0_s : (Int × Int)) (p1_a : Addr) : Sm Tryz.prog 107 [(.agg #[(vi p0_s.1), (vi p0_s.2)]), (vp p1_a)] Value.bool (stripe_lacks_c1_c1 p0_s p1_a) := by
  refine sm_of 8 Tryz.func107 rfl rfl rfl fun _ => ?_
  unfold stripe_lacks_c1_c1
  exact zG <| KT.nw 2 (fun ad => .pointer (some ad)) 105 fun x2 => zp 3 (vb false) <| zN <| zp 4 (vp x2) <| KT.l 5 fun x5 => KT.l 6 fun x6 => zp 7 (vb (x5 == x6)) <| zp 3 (vb (x5 == x6)) <| zn <| SC.ret <| ze [.tmp 3] <| zm rfl zz
theorem stripe_lacks_c1_sim (p0_yield : Value) (p1_a : Addr) (p2_a : Addr) (p3_a : Addr) (p4_a : Addr) : Sm Tryz.prog 105 [p0_yield, (vp p1_a), (vp p2_a), (vp p3_a), (vp p4_a)] (fun y : Unit => (.tuple #[])) (stripe_lacks_c1 (cvOf Tryz.prog) p0_yield p1_a p2_a p3_a p4_a) := by
  refine sm_of 42 Tryz.func105 rfl rfl rfl fun _ => ?_
  unfold stripe_lacks_c1
  refine zG <| KT.ow rfl (OW.boxVal (d := 5) _ _ rfl rfl rfl rfl (fun x5 => ?_))
  refine zn <| zq <| SC.draw 4 (fun _ => false) rfl (by kernel_rfl) fun S1 => zA 0 rfl <| oli 11 fun x11 => zA 2 rfl <| oli 13 fun x13 => KT.one 1 rfl (by kernel_rfl) rfl <| OW.step <| ocall 12 (bank_Bank_Geo_sim _) fun x12 => KT.and <| KT.one 3 rfl (by kernel_rfl) rfl <| OW.step <| ocall 14 (stripe_rows_sim _ _) fun x14 => KT.and <| KT.doneA (by kernel_rfl) <| SX.seq <| SC.block <| SC.rangeF (ξ := (Int × Slc)) (τ := (Slc)) (fv := x14) (ps := [15, 16]) (encX := (fun x_2 : (Int × Slc) => [(vi x_2.1), (vS x_2.2)])) (fun t_2 => [(1, (vp p1_a)), (3, (vp p3_a)), (4, (vp p4_a)), (5, (vp x5)), (7, (vS t_2))]) rfl (fun _ => rfl) rfl (fun _ x_2 _ _ h2 => ?_) (fun _ _ _ t_2 => ?_) (fun D2 => ?_) (fun D2 => ?_) (fun D2 i2 => ?_)
  exact zg <| zp 7 (vS x_2.2) <| KT.nil <| SX.leafP h2 (.cons rfl (.cons rfl (.cons rfl (.cons rfl (.cons rfl (.nil))))))
  refine SC.block <| zG <| zp 17 (vS t_2) <| zp 18 (.func (.func fid_stripe_lacks_c1_c1) #[] #[(vp p3_a)]) <| zc 19 (slices_IndexFunc_g_sim _ _) fun x19 => zp 8 (vi x19) <| zn <| zq <| SC.draw 12 (fun f => Nat.beq f 6) rfl (by kernel_rfl) fun S3 => zA 0 rfl <| oli 21 fun x21 => zpA 1 22 (vS t_2) <| zpA 2 23 (vi x19) <| zB 3 rfl <| oix 24 105 fun x24 => zA 4 rfl <| olai 25 2 fun x25 => zA 5 rfl <| oli 26 fun x26 => KT.last 6 rfl (by kernel_rfl) rfl rfl <| ocall 27 (stripe_good_sim _ _ _) fun x27 => KT.pvN 7 20 (.tuple #[(vS x27.1), (vb x27.2)]) <| KT.pvN 8 28 (vS x27.1) <| KT.pvN 9 29 (vb x27.2) <| KT.pvN 10 9 (vS x27.1) <| KT.pvN 11 10 (vb x27.2) <| KT.doneN (by kernel_rfl) <| SX.seq <| zq <| SC.draw 12 (fun f => Nat.beq f 9) rfl (by kernel_rfl) fun S4 => zpA 0 30 (vb x27.2) <| zpA 1 31 (vb (!x27.2)) <| zpA 2 32 (vb (!x27.2)) <| KT.ite 32 rfl ?_ ?_
  refine zA 3 rfl <| oli 33 fun x33 => zpA 4 34 (vS t_2) <| zpA 5 35 (vS t_2) <| zpA 6 36 (vi x19) <| zB 7 rfl <| oix 37 105 fun x37 => zA 8 rfl <| olai 38 2 fun x38 => KT.last 9 rfl (by kernel_rfl) rfl rfl <| OW.callv (d := 39) (enc := Value.bool) (vs := [(vS t_2), (.agg #[(vi x38.1), (vi x38.2)])]) _ [.tmp 34, .tmp 38] _ rfl rfl rfl rfl rfl fun x39 => KT.pvN 10 40 (vb (!x39)) <| KT.pvN 11 41 (vb (!x39)) <| KT.doneN (by kernel_rfl) <| zS (T' := [(41, (vb (!x39)))]) <| SX.seq <| SC.cond rfl ?_ ?_
  exact SC.ret <| SX.block_ret SX.round_ret
  exact SC.skip <| SX.block SX.round_next
  exact zkA 3 rfl <| zkA 4 rfl <| zkA 5 rfl <| zkA 6 rfl <| zkA 7 rfl <| zkA 8 rfl <| zkA 9 rfl <| zkA 10 rfl <| zpA 11 41 (vb false) <| KT.doneA (by kernel_rfl) <| zS (T' := [(41, (vb false))]) <| SX.seq <| SC.cond_false rfl <| SC.skip <| SX.block SX.round_next
  exact SX.block <| SX.endBody [] rfl zz
  exact SX.block_ret <| ze [] zz
  exact SX.fail
theorem stripe_lacks_sim (p0_b : (Option Addr)) (p1_seg : Int) (p2_slot : Int) (p3_seq : Int) : Sm Tryz.prog 78 [(.pointer p0_b), (vi p1_seg), (vi p2_slot), (vi p3_seq)] (fun v : Value => v) (stripe_lacks p0_b p1_seg p2_slot p3_seq) := by
  refine sm_of 10 Tryz.func78 rfl rfl rfl fun _ => ?_
  unfold stripe_lacks
  exact zG <| KT.nw 4 (fun ad => .pointer (some ad)) 27 fun x4 => KT.nw 5 (fun ad => .pointer (some ad)) 3 fun x5 => KT.nw 6 (fun ad => .pointer (some ad)) 3 fun x6 => KT.nw 7 (fun ad => .pointer (some ad)) 3 fun x7 => zp 8 Value.nilFunc <| zN <| zp 9 (.func (.func fid_stripe_lacks_c1) #[] #[(vp x4), (vp x5), (vp x6), (vp x7)]) <| zp 8 (.func (.func fid_stripe_lacks_c1) #[] #[(vp x4), (vp x5), (vp x6), (vp x7)]) <| zn <| SC.ret <| ze [.tmp 8] <| zm rfl zz
theorem stripe_Missing_sim (p0_b : (Option Addr)) (p1_seg : Int) (p2_slot : Int) (p3_seq : Int) : Sm Tryz.prog 29 [(.pointer p0_b), (vi p1_seg), (vi p2_slot), (vi p3_seq)] (fun y : (Bool × Int) => (.tuple #[(vb y.1), (vi y.2)])) (stripe_Missing (cvOf Tryz.prog) p0_b p1_seg p2_slot p3_seq) := by
  refine sm_of 25 Tryz.func29 rfl rfl rfl fun _ => ?_
  unfold stripe_Missing
  refine zG <| KT.nw 8 (fun ad => .pointer (some ad)) 4 fun x8 => KT.nw 9 (fun ad => .pointer (some ad)) 36 fun x9 => zn <| zq <| zG <| zp 11 (.pointer p0_b) <| zp 12 (vi p1_seg) <| zp 13 (vi p2_slot) <| zc 14 (stripe_slotted_sim _ _ _) fun x14 => zp 10 (vi x14) <| zN <| zp 15 (vi x14) <| zp 16 (vb (x14 != 0)) <| zn <| SC.cond rfl ?_ ?_
  exact zG <| zp 17 (vi x14) <| KT.s <| KT.s <| zn <| zt <| ze [.cell 8 4, .cell 9 36] <| RS.cell rfl (by kernel_rfl) fun r8 => RS.cell rfl (by kernel_rfl) fun r9 => zz
  refine zw <| zq <| zG <| zp 18 (.pointer p0_b) <| zp 19 (vi p1_seg) <| zp 20 (vi p2_slot) <| zp 21 (vi p3_seq) <| zc 22 (stripe_lacks_sim _ _ _ _) fun x22 => zn <| SC.block <| SC.rangeF (ξ := (Slc × (Int × Int))) (τ := Unit) (fv := x22) (ps := [23, 24]) (encX := (fun x_1 : (Slc × (Int × Int)) => [(vS x_1.1), (.agg #[(vi x_1.2.1), (vi x_1.2.2)])])) (fun t_1 => [(8, (vp x8)), (9, (vp x9))]) rfl (fun _ => rfl) rfl (fun _ x_1 _ _ h1 => ?_) (fun _ _ _ t_1 => ?_) (fun D1 => ?_) (fun D1 => ?_) (fun D1 i1 => ?_)
  exact SC.skip <| SX.leafP h1 (.cons rfl (.cons rfl (.nil)))
  exact SC.block <| zG <| KT.s <| KT.s <| zn <| SC.ret <| SX.block_ret SX.round_ret
  exact SX.block <| SX.seq <| zG <| KT.s <| KT.s <| zn <| SC.ret <| ze [.cell 8 4, .cell 9 36] <| RS.cell rfl (by kernel_rfl) fun r8 => RS.cell rfl (by kernel_rfl) fun r9 => zz
  exact SX.block_ret <| SX.then_ret <| ze [.cell 8 4, .cell 9 36] <| RS.cell rfl (by kernel_rfl) fun r8 => RS.cell rfl (by kernel_rfl) fun r9 => zz
  exact SX.fail
theorem ref07_in_sim (p0_g : (Int × Int × Int)) (p1_seg : Int) (p2_slot : Int) : Sm Tryz.prog 79 [(.agg #[(vi p0_g.1), (vi p0_g.2.1), (vi p0_g.2.2)]), (vi p1_seg), (vi p2_slot)] vS (ref07_in p0_g p1_seg p2_slot) := by
  refine sm_of 33 Tryz.func79 rfl rfl rfl fun _ => ?_
  unfold ref07_in
  refine zG <| KT.nw 3 (fun ad => .pointer (some ad)) 41 fun x3 => zp 6 (.slice none 0 0) <| zN <| KT.nw 10 (fun ad => .slice (some ad) 0 0) 105 fun x10 => zp 7 (.slice (some x10) 0 0) <| zn <| zq <| zG <| zp 8 (vi 0) <| zn <| SC.block <| zL (σ := (Slc × Int)) (fun s1 => [(1, (vi p1_seg)), (2, (vi p2_slot)), (3, (vp x3)), (7, (vS s1.1)), (8, (vi s1.2))]) fun _ _ _ s1 => zq <| zG <| zp 11 (vi s1.2) <| zp 12 (va x3 1) <| KT.l 13 fun x13 => zp 14 (vp x3) <| KT.l 15 fun x15 => zp 16 (vi (w64 (x13 * x15))) <| zp 17 (vb (decide (s1.2 < (w64 (x13 * x15))))) <| zn <| SC.cond rfl ?_ ?_
  refine zw <| zq <| SC.block <| zG <| zo <| ola 20 3 fun x20 => zp 21 (vi p1_seg) <| zp 22 (vi s1.2) <| zc 23 (ref07_spot_sim _ _ _) fun x23 => KT.nw 9 (fun ad => .pointer (some ad)) 105 fun x9 => zo <| osa <| zN <| zp 24 (vp x9) <| KT.l 25 fun x25 => zp 26 (vi p2_slot) <| zp 27 (vb (x25 == p2_slot)) <| zn <| SC.cond rfl ?_ ?_
  exact zg <| zp 28 (vS s1.1) <| zo <| ola 29 2 fun x29 => KT.nw 30 (fun ad => .slice (some ad) 1 1) 105 fun x30 => zo <| oapp 31 105 fun x31 => zp 7 (vS x31) <| KT.nil <| SX.block <| SX.seq <| zg <| zp 18 (vi s1.2) <| zp 19 (vi (w64 (s1.2 + 1))) <| zp 8 (vi (w64 (s1.2 + 1))) <| KT.nil zX
  exact SC.skip <| SX.block <| SX.seq <| zg <| zp 18 (vi s1.2) <| zp 19 (vi (w64 (s1.2 + 1))) <| zp 8 (vi (w64 (s1.2 + 1))) <| KT.nil zX
  exact SC.exit <| SX.then_exit <| SX.loop_exit <| SX.block_hit <| SX.seq <| zG <| zp 32 (vS s1.1) <| zp 6 (vS s1.1) <| zn <| SC.ret <| ze [.tmp 6] <| zm rfl zz
theorem ref07_Missing_sim (p0_b : (Option Addr)) (p1_seg : Int) (p2_slot : Int) (p3_seq : Int) : Sm Tryz.prog 30 [(.pointer p0_b), (vi p1_seg), (vi p2_slot), (vi p3_seq)] (fun y : (Bool × Int) => (.tuple #[(vb y.1), (vi y.2)])) (ref07_Missing p0_b p1_seg p2_slot p3_seq) := by
  refine sm_of 70 Tryz.func30 rfl rfl rfl fun _ => ?_
  unfold ref07_Missing
  refine zG <| zp 8 (vb false) <| zp 9 (vi 0) <| zn <| zq <| zG <| zp 14 (vi p1_seg) <| zp 15 (vb (decide (p1_seg < 0))) <| zp 16 (vb (decide (p1_seg < 0))) <| zj 8 (fun r1 => [(24, (vb r1)), (0, (.pointer p0_b)), (1, (vi p1_seg)), (2, (vi p2_slot)), (3, (vi p3_seq))]) (fun r1 => ?_) (fun j1 => ?_)
  refine zp 25 (vb r1) <| zj 3 (fun r2 => [(28, (vb r2)), (0, (.pointer p0_b)), (1, (vi p1_seg)), (2, (vi p2_slot)), (3, (vi p3_seq))]) (fun r2 => ?_) (fun j2 => ?_)
  refine zp 29 (vb r2) <| zj 8 (fun r3 => [(37, (vb r3)), (0, (.pointer p0_b)), (1, (vi p1_seg)), (2, (vi p2_slot)), (3, (vi p3_seq))]) (fun r3 => ?_) (fun j3 => ?_)
  refine zn <| SC.cond rfl ?_ ?_
  exact zG <| zp 8 (vb false) <| zp 9 (vi 28) <| zn <| zt <| ze [.tmp 8, .tmp 9] <| zm rfl <| zm rfl zz
  refine zw <| zq <| zG <| zp 38 (.pointer p0_b) <| KT.nm 39 fun x39 => zp 40 (vp x39) <| KT.l 41 fun x41 => KT.nm 42 fun x42 => zp 43 (va x42 7) <| KT.l 44 fun x44 => zn <| SC.cond rfl ?_ ?_
  exact zG <| zp 8 (vb false) <| zp 9 (vi 12) <| zn <| zt <| ze [.tmp 8, .tmp 9] <| zm rfl <| zm rfl zz
  refine zw <| zG <| zp 45 (.pointer p0_b) <| KT.nm 46 fun x46 => zp 47 (va x46 1) <| zo <| ola 48 3 fun x48 => zp 49 (vi p1_seg) <| zp 50 (vi p2_slot) <| zc 51 (ref07_in_sim _ _ _) fun x51 => zp 10 (vS x51) <| zn <| zq <| zG <| zp 11 (vi 0) <| zn <| SC.block <| zL (σ := (Int)) (fun s4 => [(0, (.pointer p0_b)), (3, (vi p3_seq)), (10, (vS x51)), (11, (vi s4))]) fun _ _ _ s4 => zq <| zG <| zp 52 (vi s4) <| zp 53 (vS x51) <| zp 54 (vi (vl x51)) <| zp 55 (vb (decide (s4 < (vl x51)))) <| zn <| SC.cond rfl ?_ ?_
  refine zw <| zq <| SC.block <| zG <| zp 59 (.pointer p0_b) <| zp 60 (vS x51) <| zp 61 (vi s4) <| zy <| oix 62 105 fun x62 => zo <| ola 63 2 fun x63 => zp 64 (vi p3_seq) <| zc 65 (ref07_good_sim _ _ _) fun x65 => zp 58 (.tuple #[(vS x65.1), (vb x65.2)]) <| zp 66 (vS x65.1) <| zp 67 (vb x65.2) <| zp 12 (vS x65.1) <| zp 13 (vb x65.2) <| zN <| zp 68 (vb x65.2) <| zp 69 (vb (!x65.2)) <| zn <| SC.cond rfl ?_ ?_
  exact zG <| zp 8 (vb true) <| zp 9 (vi 0) <| zn <| SC.ret <| SX.block_ret <| SX.then_ret <| SX.loop_ret <| SX.block_ret <| SX.then_ret <| ze [.tmp 8, .tmp 9] <| zm rfl <| zm rfl zz
  exact SC.skip <| SX.block <| SX.seq <| zg <| zp 56 (vi s4) <| zp 57 (vi (w64 (s4 + 1))) <| zp 11 (vi (w64 (s4 + 1))) <| KT.nil zX
  exact SC.exit <| SX.then_exit <| SX.loop_exit <| SX.block_hit <| SX.seq <| zG <| zp 8 (vb false) <| zp 9 (vi 0) <| zn <| SC.ret <| ze [.tmp 8, .tmp 9] <| zm rfl <| zm rfl zz
  refine KT.ite 29 rfl ?_ ?_
  exact zk <| zk <| zk <| zk <| zk <| zk <| zk <| zp 37 (vb true) <| zl j3
  exact zp 30 (vi p2_slot) <| zp 31 (.pointer p0_b) <| KT.nm 32 fun x32 => zp 33 (va x32 1) <| zp 34 (va x32 1) <| KT.l 35 fun x35 => zp 36 (vb (decide (p2_slot ≥ x35))) <| zp 37 (vb (decide (p2_slot ≥ x35))) <| zl j3
  refine KT.ite 25 rfl ?_ ?_
  exact zk <| zk <| zp 28 (vb true) <| zl j2
  exact zp 26 (vi p2_slot) <| zp 27 (vb (decide (p2_slot < 0))) <| zp 28 (vb (decide (p2_slot < 0))) <| zl j2
  refine KT.ite 16 rfl ?_ ?_
  exact zk <| zk <| zk <| zk <| zk <| zk <| zk <| zp 24 (vb true) <| zl j1
  exact zp 17 (vi p1_seg) <| zp 18 (.pointer p0_b) <| KT.nm 19 fun x19 => zp 20 (va x19 1) <| zp 21 (.pointer (some (Addr.add (Addr.add x19 1) 2))) <| KT.l 22 fun x22 => zp 23 (vb (decide (p1_seg ≥ x22))) <| zp 24 (vb (decide (p1_seg ≥ x22))) <| zl j1
theorem stripe_Refill_sim (p0_b : (Option Addr)) (p1_seg : Int) (p2_slot : Int) (p3_seq : Int) : Sm Tryz.prog 31 [(.pointer p0_b), (vi p1_seg), (vi p2_slot), (vi p3_seq)] (Value.int .i64) (stripe_Refill (cvOf Tryz.prog) p0_b p1_seg p2_slot p3_seq) := by
  refine sm_of 49 Tryz.func31 rfl rfl rfl fun _ => ?_
  unfold stripe_Refill
  refine zG <| KT.nw 4 (fun ad => .pointer (some ad)) 27 fun x4 => KT.nw 7 (fun ad => .pointer (some ad)) 3 fun x7 => KT.nw 8 (fun ad => .pointer (some ad)) 36 fun x8 => zn <| zq <| zG <| KT.l 15 fun x15 => zp 16 (vi p1_seg) <| zp 17 (vi p2_slot) <| zc 18 (stripe_slotted_sim _ _ _) fun x18 => zp 9 (vi x18) <| zN <| zp 19 (vi x18) <| zp 20 (vb (x18 != 0)) <| zn <| SC.cond rfl ?_ ?_
  exact zG <| zp 21 (vi x18) <| KT.s <| zn <| zt <| ze [.cell 8 36] <| RS.cell rfl (by kernel_rfl) fun r8 => zz
  refine zw <| zq <| zG <| KT.l 22 fun x22 => zp 23 (vi p1_seg) <| zp 24 (vi p2_slot) <| KT.l 25 fun x25 => zc 26 (stripe_lacks_sim _ _ _ _) fun x26 => zn <| SC.block <| SC.rangeF (ξ := (Slc × (Int × Int))) (τ := (Slc × Addr)) (fv := x26) (ps := [27, 28]) (encX := (fun x_1 : (Slc × (Int × Int)) => [(vS x_1.1), (.agg #[(vi x_1.2.1), (vi x_1.2.2)])])) (fun t_1 => [(4, (vp x4)), (7, (vp x7)), (8, (vp x8)), (10, (vS t_1.1)), (11, (.pointer (some t_1.2)))]) rfl (fun _ => rfl) rfl (fun _ x_1 _ _ h1 => ?_) (fun _ _ _ t_1 => ?_) (fun D1 => ?_) (fun D1 => ?_) (fun D1 i1 => ?_)
  exact zG <| zp 10 (vS x_1.1) <| zn <| zg <| KT.nw 11 (fun ad => .pointer (some ad)) 105 fun x11 => zo <| osa <| KT.nil <| SX.leafP h1 (.cons rfl (.cons rfl (.cons rfl (.cons rfl (.cons rfl (.nil))))))
  refine SC.block <| zG <| KT.l 30 fun x30 => zp 31 (vS t_1.1) <| zo <| ola 32 2 fun x32 => KT.l 33 fun x33 => zc 34 (stripe_others_sim _ _ _ _) fun x34 => zp 29 (.tuple #[(vS x34.1), (vb x34.2)]) <| zp 35 (vS x34.1) <| zp 36 (vb x34.2) <| zp 12 (vS x34.1) <| zp 13 (vb x34.2) <| zn <| zq <| zG <| zp 37 (vb x34.2) <| zp 38 (vb (!x34.2)) <| zn <| SC.cond rfl ?_ ?_
  exact zG <| KT.s <| zn <| zt <| SX.block_ret SX.round_ret
  refine zw <| zG <| KT.l 39 fun x39 => zp 40 (.pointer (some t_1.2)) <| KT.l 41 fun x41 => zp 42 (.pointer (some (Addr.add t_1.2 1))) <| KT.l 43 fun x43 => zp 44 (vS x34.1) <| zc 45 (bank_Bank_Write_sim _ _ _ _) fun x45 => zp 14 (vi x45) <| zN <| zp 46 (vi x45) <| zp 47 (vb (x45 != 0)) <| zn <| SC.cond rfl ?_ ?_
  exact zG <| zp 48 (vi x45) <| KT.s <| zn <| SC.ret <| SX.block_ret SX.round_ret
  exact SC.skip <| SX.block SX.round_next
  exact SX.block <| SX.seq <| zG <| KT.s <| zn <| SC.ret <| ze [.cell 8 36] <| RS.cell rfl (by kernel_rfl) fun r8 => zz
  exact SX.block_ret <| SX.then_ret <| ze [.cell 8 36] <| RS.cell rfl (by kernel_rfl) fun r8 => zz
  exact SX.fail
theorem ref07_Refill_sim (p0_b : (Option Addr)) (p1_seg : Int) (p2_slot : Int) (p3_seq : Int) : Sm Tryz.prog 32 [(.pointer p0_b), (vi p1_seg), (vi p2_slot), (vi p3_seq)] (Value.int .i64) (ref07_Refill p0_b p1_seg p2_slot p3_seq) := by
  refine sm_of 82 Tryz.func32 rfl rfl rfl fun _ => ?_
  unfold ref07_Refill
  refine zG <| zp 8 (vi 0) <| zN <| zp 18 (.pointer p0_b) <| zp 19 (vi p1_seg) <| zp 20 (vi p2_slot) <| zp 21 (vi p3_seq) <| zc 22 (ref07_Missing_sim _ _ _ _) fun x22 => zp 17 (.tuple #[(vb x22.1), (vi x22.2)]) <| zp 23 (vb x22.1) <| zp 24 (vi x22.2) <| zp 9 (vb x22.1) <| zp 10 (vi x22.2) <| zn <| zq <| zG <| zp 25 (vi x22.2) <| zp 26 (vb (x22.2 != 0)) <| zn <| SC.cond rfl ?_ ?_
  exact zG <| zp 27 (vi x22.2) <| zp 8 (vi x22.2) <| zn <| zt <| ze [.tmp 8] <| zm rfl zz
  refine zw <| zG <| zp 28 (.pointer p0_b) <| KT.nm 29 fun x29 => zp 30 (va x29 1) <| zo <| ola 31 3 fun x31 => zp 32 (vi p1_seg) <| zp 33 (vi p2_slot) <| zc 34 (ref07_in_sim _ _ _) fun x34 => zp 11 (vS x34) <| zn <| zq <| zG <| zp 12 (vi 0) <| zn <| SC.block <| zL (σ := (Int)) (fun s1 => [(0, (.pointer p0_b)), (1, (vi p1_seg)), (3, (vi p3_seq)), (11, (vS x34)), (12, (vi s1))]) fun _ _ _ s1 => zq <| zG <| zp 35 (vi s1) <| zp 36 (vS x34) <| zp 37 (vi (vl x34)) <| zp 38 (vb (decide (s1 < (vl x34)))) <| zn <| SC.cond rfl ?_ ?_
  refine zw <| zq <| SC.block <| zG <| zp 42 (.pointer p0_b) <| zp 43 (vS x34) <| zp 44 (vi s1) <| zy <| oix 45 105 fun x45 => zo <| ola 46 2 fun x46 => zp 47 (vi p3_seq) <| zc 48 (ref07_good_sim _ _ _) fun x48 => zp 41 (.tuple #[(vS x48.1), (vb x48.2)]) <| zp 49 (vS x48.1) <| zp 50 (vb x48.2) <| zp 13 (vS x48.1) <| zp 14 (vb x48.2) <| zn <| zq <| zG <| zp 51 (vb x48.2) <| zn <| SC.cond rfl ?_ ?_
  exact SC.exit <| SX.then_exit <| SX.block_hit <| SX.seq <| zg <| zp 39 (vi s1) <| zp 40 (vi (w64 (s1 + 1))) <| zp 12 (vi (w64 (s1 + 1))) <| KT.nil zX
  refine zw <| zG <| zp 53 (.pointer p0_b) <| zp 54 (vi p1_seg) <| zp 55 (vi s1) <| zp 56 (vS x34) <| zp 57 (vi s1) <| zy <| oix 58 105 fun x58 => zo <| ola 59 2 fun x59 => zp 60 (vi p3_seq) <| zc 61 (ref07_others_sim _ _ _ _ _) fun x61 => zp 52 (.tuple #[(vS x61.1), (vb x61.2)]) <| zp 62 (vS x61.1) <| zp 63 (vb x61.2) <| zp 15 (vS x61.1) <| zp 14 (vb x61.2) <| KT.nil <| zS (T' := [(0, (.pointer p0_b)), (1, (vi p1_seg)), (3, (vi p3_seq)), (11, (vS x34)), (12, (vi s1)), (14, (vb x61.2)), (15, (vS x61.1))]) <| SX.seq <| zq <| zG <| zp 64 (vb x61.2) <| zp 65 (vb (!x61.2)) <| zn <| SC.cond rfl ?_ ?_
  exact zG <| zp 8 (vi 14) <| zn <| zt <| SX.block_ret <| SX.then_ret <| SX.loop_ret <| SX.block_ret <| SX.then_ret <| ze [.tmp 8] <| zm rfl zz
  refine zw <| zq <| SC.draw 14 (fun f => Nat.beq f 12) rfl (by kernel_rfl) fun S2 => zpA 0 66 (.pointer p0_b) <| zpA 1 67 (vS x34) <| zpA 2 68 (vi s1) <| zB 3 rfl <| oix 69 105 fun x69 => zpA 4 70 (vp x69) <| zA 5 rfl <| oli 71 fun x71 => zpA 6 72 (vS x34) <| zpA 7 73 (vi s1) <| zB 8 rfl <| oix 74 105 fun x74 => zpA 9 75 (va x74 1) <| zA 10 rfl <| oli 76 fun x76 => zpA 11 77 (vS x61.1) <| KT.last 12 rfl (by kernel_rfl) rfl rfl <| ocall 78 (ref06_Bank_Write_sim _ _ _ _) fun x78 => KT.pvN 13 16 (vi x78) <| KT.doneN (by kernel_rfl) <| SX.seq <| zG <| zp 79 (vi x78) <| zp 80 (vb (x78 != 0)) <| zn <| SC.cond rfl ?_ ?_
  exact zG <| zp 81 (vi x78) <| zp 8 (vi x78) <| zn <| SC.ret <| SX.block_ret <| SX.then_ret <| SX.loop_ret <| SX.block_ret <| SX.then_ret <| ze [.tmp 8] <| zm rfl zz
  exact SC.skip <| SX.block <| SX.seq <| zg <| zp 39 (vi s1) <| zp 40 (vi (w64 (s1 + 1))) <| zp 12 (vi (w64 (s1 + 1))) <| KT.nil zX
  exact SC.exit <| SX.then_exit <| SX.loop_exit <| SX.block_hit <| SX.seq <| zG <| zp 8 (vi 0) <| zn <| SC.ret <| ze [.tmp 8] <| zm rfl zz
theorem stripe_Sound_sim (p0_b : (Option Addr)) (p1_seg : Int) (p2_seq : Int) : Sm Tryz.prog 33 [(.pointer p0_b), (vi p1_seg), (vi p2_seq)] (fun y : (Bool × Int) => (.tuple #[(vb y.1), (vi y.2)])) (stripe_Sound (cvOf Tryz.prog) p0_b p1_seg p2_seq) := by
  refine sm_of 61 Tryz.func33 rfl rfl rfl fun _ => ?_
  unfold stripe_Sound
  refine zG <| KT.nw 3 (fun ad => .pointer (some ad)) 27 fun x3 => KT.nw 5 (fun ad => .pointer (some ad)) 3 fun x5 => KT.nw 6 (fun ad => .pointer (some ad)) 4 fun x6 => KT.nw 7 (fun ad => .pointer (some ad)) 36 fun x7 => zn <| zq <| zG <| KT.l 16 fun x16 => zp 17 (vi p1_seg) <| zc 18 (stripe_there_sim _ _) fun x18 => zp 8 (vi x18) <| zN <| zp 19 (vi x18) <| zp 20 (vb (x18 != 0)) <| zn <| SC.cond rfl ?_ ?_
  exact zG <| zp 21 (vi x18) <| KT.s <| KT.s <| zn <| zt <| ze [.cell 6 4, .cell 7 36] <| RS.cell rfl (by kernel_rfl) fun r6 => RS.cell rfl (by kernel_rfl) fun r7 => zz
  refine zw <| zq <| zG <| KT.l 22 fun x22 => zc 23 (bank_Bank_Geo_sim _) fun x23 => zp 24 (vi p1_seg) <| zc 25 (stripe_rows_sim _ _) fun x25 => zn <| SC.block <| SC.rangeF (ξ := (Int × Slc)) (τ := (Slc)) (fv := x25) (ps := [26, 27]) (encX := (fun x_1 : (Int × Slc) => [(vi x_1.1), (vS x_1.2)])) (fun t_1 => [(3, (vp x3)), (5, (vp x5)), (6, (vp x6)), (7, (vp x7)), (10, (vS t_1))]) rfl (fun _ => rfl) rfl (fun _ x_1 _ _ h1 => ?_) (fun _ _ _ t_1 => ?_) (fun D1 => ?_) (fun D1 => ?_) (fun D1 i1 => ?_)
  exact zg <| zp 10 (vS x_1.2) <| KT.nil <| SX.leafP h1 (.cons rfl (.cons rfl (.cons rfl (.cons rfl (.cons rfl (.nil))))))
  refine SC.block <| zG <| zp 28 (vS t_1) <| zp 29 (vS t_1) <| zp 30 (vi (vl t_1)) <| zp 31 (vi (w64 ((vl t_1) - 1))) <| zy <| oix 32 105 fun x32 => zo <| ola 33 2 fun x33 => KT.nw 11 (fun ad => .pointer (some ad)) 105 fun x11 => zo <| osa <| zN <| KT.l 35 fun x35 => zo <| ola 36 2 fun x36 => KT.l 37 fun x37 => zc 38 (stripe_good_sim _ _ _) fun x38 => zp 34 (.tuple #[(vS x38.1), (vb x38.2)]) <| zp 39 (vS x38.1) <| zp 40 (vb x38.2) <| zp 12 (vS x38.1) <| zp 13 (vb x38.2) <| zN <| KT.l 42 fun x42 => zp 43 (vS t_1) <| zo <| ola 44 2 fun x44 => KT.l 45 fun x45 => zc 46 (stripe_others_sim _ _ _ _) fun x46 => zp 41 (.tuple #[(vS x46.1), (vb x46.2)]) <| zp 47 (vS x46.1) <| zp 48 (vb x46.2) <| zp 14 (vS x46.1) ?_
  refine zp 15 (vb x46.2) <| KT.nil <| zS (T' := [(6, (vp x6)), (7, (vp x7)), (12, (vS x38.1)), (13, (vb x38.2)), (14, (vS x46.1)), (15, (vb x46.2))]) <| SX.seq <| zG <| zp 49 (vb x38.2) <| zp 50 (vb (!x38.2)) <| zp 51 (vb (!x38.2)) <| zj 3 (fun r2 => [(54, (vb r2)), (6, (vp x6)), (7, (vp x7)), (12, (vS x38.1)), (14, (vS x46.1))]) (fun r2 => ?_) (fun j2 => ?_)
  refine zp 55 (vb r2) <| zj 5 (fun r3 => [(60, (vb r3)), (6, (vp x6)), (7, (vp x7))]) (fun r3 => ?_) (fun j3 => ?_)
  refine zn <| SC.cond rfl ?_ ?_
  exact zG <| KT.s <| KT.s <| zn <| SC.ret <| SX.block_ret SX.round_ret
  exact SC.skip <| SX.block SX.round_next
  refine KT.ite 55 rfl ?_ ?_
  exact zk <| zk <| zk <| zk <| zp 60 (vb true) <| zl j3
  exact zp 56 (vS x38.1) <| zp 57 (vS x46.1) <| zc 58 (bytes_Equal_sim _ _) fun x58 => zp 59 (vb (!x58)) <| zp 60 (vb (!x58)) <| zl j3
  refine KT.ite 51 rfl ?_ ?_
  exact zk <| zk <| zp 54 (vb true) <| zl j2
  exact zp 52 (vb x46.2) <| zp 53 (vb (!x46.2)) <| zp 54 (vb (!x46.2)) <| zl j2
  exact SX.block <| SX.seq <| zG <| KT.s <| KT.s <| zn <| SC.ret <| ze [.cell 6 4, .cell 7 36] <| RS.cell rfl (by kernel_rfl) fun r6 => RS.cell rfl (by kernel_rfl) fun r7 => zz
  exact SX.block_ret <| SX.then_ret <| ze [.cell 6 4, .cell 7 36] <| RS.cell rfl (by kernel_rfl) fun r6 => RS.cell rfl (by kernel_rfl) fun r7 => zz
  exact SX.fail
theorem ref07_Sound_sim (p0_b : (Option Addr)) (p1_seg : Int) (p2_seq : Int) : Sm Tryz.prog 34 [(.pointer p0_b), (vi p1_seg), (vi p2_seq)] (fun y : (Bool × Int) => (.tuple #[(vb y.1), (vi y.2)])) (ref07_Sound p0_b p1_seg p2_seq) := by
  refine sm_of 84 Tryz.func34 rfl rfl rfl fun _ => ?_
  unfold ref07_Sound
  refine zG <| zp 6 (vb false) <| zp 7 (vi 0) <| zn <| zq <| zG <| zp 14 (vi p1_seg) <| zp 15 (vb (decide (p1_seg < 0))) <| zp 16 (vb (decide (p1_seg < 0))) <| zj 8 (fun r1 => [(24, (vb r1)), (0, (.pointer p0_b)), (1, (vi p1_seg)), (2, (vi p2_seq))]) (fun r1 => ?_) (fun j1 => ?_)
  refine zn <| SC.cond rfl ?_ ?_
  exact zG <| zp 6 (vb false) <| zp 7 (vi 28) <| zn <| zt <| ze [.tmp 6, .tmp 7] <| zm rfl <| zm rfl zz
  refine zw <| zq <| zG <| zp 25 (.pointer p0_b) <| KT.nm 26 fun x26 => zp 27 (vp x26) <| KT.l 28 fun x28 => KT.nm 29 fun x29 => zp 30 (va x29 7) <| KT.l 31 fun x31 => zn <| SC.cond rfl ?_ ?_
  exact zG <| zp 6 (vb false) <| zp 7 (vi 12) <| zn <| zt <| ze [.tmp 6, .tmp 7] <| zm rfl <| zm rfl zz
  refine zw <| zq <| zG <| zp 8 (vi 0) <| zn <| SC.block <| zL (σ := (Int)) (fun s2 => [(0, (.pointer p0_b)), (1, (vi p1_seg)), (2, (vi p2_seq)), (8, (vi s2))]) fun _ _ _ s2 => zq <| zG <| zp 32 (vi s2) <| zp 33 (.pointer p0_b) <| KT.nm 34 fun x34 => zp 35 (va x34 1) <| zp 36 (.pointer (some (Addr.add (Addr.add x34 1) 1))) <| KT.l 37 fun x37 => zp 38 (vb (decide (s2 < x37))) <| zn <| SC.cond rfl ?_ ?_
  refine zw <| zq <| SC.block <| zq <| SC.draw 17 (fun f => Nat.beq f 16) rfl (by kernel_rfl) fun S3 => zpA 0 41 (.pointer p0_b) <| zB 1 rfl <| onil 42 fun x42 => zpA 2 43 (va x42 1) <| zA 3 rfl <| olai 44 3 fun x44 => zpA 4 45 (vi p1_seg) <| zpA 5 46 (vi s2) <| zpA 6 47 (vi (w64 (s2 + 1))) <| zpA 7 48 (.pointer p0_b) <| zB 8 rfl <| onil 49 fun x49 => zpA 9 50 (va x49 1) <| zpA 10 51 (va x49 1) <| zA 11 rfl <| oli 52 fun x52 => zpA 12 53 (vi (w64 ((w64 (s2 + 1)) * x52))) <| zpA 13 54 (vi (w64 ((w64 ((w64 (s2 + 1)) * x52)) - 1))) <| KT.two 14 15 rfl rfl (by kernel_rfl) rfl rfl ?_ ?_
  refine OW.step (ocall 55 (ref07_spot_sim _ _ _) fun x55 => ?_)
  refine KT.and <| KT.one 15 rfl (by kernel_rfl) rfl <| OW.step <| OW.new (d := 9) [(vi 0), (vi 0)] (fun ad => .pointer (some ad)) 105 rfl (fun _ => by kernel_rfl) rfl rfl fun x9 => KT.and <| KT.last 16 rfl (by kernel_rfl) rfl rfl <| OW.stA _ _ _ rfl rfl rfl rfl rfl (by kernel_rfl) <| KT.doneN (by kernel_rfl) <| SX.seq <| zG <| zp 57 (.pointer p0_b) <| zo <| ola 58 2 fun x58 => zp 59 (vi p2_seq) <| zc 60 (ref07_good_sim _ _ _) fun x60 => zp 56 (.tuple #[(vS x60.1), (vb x60.2)]) <| zp 61 (vS x60.1) <| zp 62 (vb x60.2) <| zp 10 (vS x60.1) <| zp 11 (vb x60.2) <| KT.nil <| zS (T' := [(0, (.pointer p0_b)), (1, (vi p1_seg)), (2, (vi p2_seq)), (8, (vi s2)), (9, (vp x9)), (10, (vS x60.1)), (11, (vb x60.2))]) <| SX.seq <| zG <| zp 64 (.pointer p0_b) <| zp 65 (vi p1_seg) <| zp 66 (vi s2) <| zo <| ola 67 2 fun x67 => zp 68 (vi p2_seq) <| zc 69 (ref07_others_sim _ _ _ _ _) fun x69 => zp 63 (.tuple #[(vS x69.1), (vb x69.2)]) <| zp 70 (vS x69.1) <| zp 71 (vb x69.2) <| zp 12 (vS x69.1) ?_
  refine zp 13 (vb x69.2) <| zN <| zp 72 (vb x60.2) <| zp 73 (vb (!x60.2)) <| zp 74 (vb (!x60.2)) <| zj 3 (fun r4 => [(77, (vb r4)), (0, (.pointer p0_b)), (1, (vi p1_seg)), (2, (vi p2_seq)), (8, (vi s2)), (10, (vS x60.1)), (12, (vS x69.1))]) (fun r4 => ?_) (fun j4 => ?_)
  refine zp 78 (vb r4) <| zj 5 (fun r5 => [(83, (vb r5)), (0, (.pointer p0_b)), (1, (vi p1_seg)), (2, (vi p2_seq)), (8, (vi s2))]) (fun r5 => ?_) (fun j5 => ?_)
  refine zn <| SC.cond rfl ?_ ?_
  exact zG <| zp 6 (vb false) <| zp 7 (vi 0) <| zn <| SC.ret <| SX.block_ret <| SX.then_ret <| SX.loop_ret <| SX.block_ret <| SX.then_ret <| ze [.tmp 6, .tmp 7] <| zm rfl <| zm rfl zz
  exact SC.skip <| SX.block <| SX.seq <| zg <| zp 39 (vi s2) <| zp 40 (vi (w64 (s2 + 1))) <| zp 8 (vi (w64 (s2 + 1))) <| KT.nil zX
  refine KT.ite 78 rfl ?_ ?_
  exact zk <| zk <| zk <| zk <| zp 83 (vb true) <| zl j5
  exact zp 79 (vS x60.1) <| zp 80 (vS x69.1) <| zc 81 (ref00_SameBytes_sim _ _) fun x81 => zp 82 (vb (!x81)) <| zp 83 (vb (!x81)) <| zl j5
  refine KT.ite 74 rfl ?_ ?_
  exact zk <| zk <| zp 77 (vb true) <| zl j4
  exact zp 75 (vb x69.2) <| zp 76 (vb (!x69.2)) <| zp 77 (vb (!x69.2)) <| zl j4
  refine OW.step (OW.new (d := 9) [(vi 0), (vi 0)] (fun ad => .pointer (some ad)) 105 rfl (fun _ => by kernel_rfl) rfl rfl (fun x9 => ?_))
  refine KT.and <| KT.one 14 rfl (by kernel_rfl) rfl <| OW.step <| ocall 55 (ref07_spot_sim _ _ _) fun x55 => KT.and <| KT.last 16 rfl (by kernel_rfl) rfl rfl <| OW.stA _ _ _ rfl rfl rfl rfl rfl (by kernel_rfl) <| KT.doneN (by kernel_rfl) <| SX.seq <| zG <| zp 57 (.pointer p0_b) <| zo <| ola 58 2 fun x58 => zp 59 (vi p2_seq) <| zc 60 (ref07_good_sim _ _ _) fun x60 => zp 56 (.tuple #[(vS x60.1), (vb x60.2)]) <| zp 61 (vS x60.1) <| zp 62 (vb x60.2) <| zp 10 (vS x60.1) <| zp 11 (vb x60.2) <| KT.nil <| zS (T' := [(0, (.pointer p0_b)), (1, (vi p1_seg)), (2, (vi p2_seq)), (8, (vi s2)), (9, (vp x9)), (10, (vS x60.1)), (11, (vb x60.2))]) <| SX.seq <| zG <| zp 64 (.pointer p0_b) <| zp 65 (vi p1_seg) <| zp 66 (vi s2) <| zo <| ola 67 2 fun x67 => zp 68 (vi p2_seq) <| zc 69 (ref07_others_sim _ _ _ _ _) fun x69 => zp 63 (.tuple #[(vS x69.1), (vb x69.2)]) <| zp 70 (vS x69.1) <| zp 71 (vb x69.2) <| zp 12 (vS x69.1) ?_
  refine zp 13 (vb x69.2) <| zN <| zp 72 (vb x60.2) <| zp 73 (vb (!x60.2)) <| zp 74 (vb (!x60.2)) <| zj 3 (fun r6 => [(77, (vb r6)), (0, (.pointer p0_b)), (1, (vi p1_seg)), (2, (vi p2_seq)), (8, (vi s2)), (10, (vS x60.1)), (12, (vS x69.1))]) (fun r6 => ?_) (fun j6 => ?_)
  refine zp 78 (vb r6) <| zj 5 (fun r7 => [(83, (vb r7)), (0, (.pointer p0_b)), (1, (vi p1_seg)), (2, (vi p2_seq)), (8, (vi s2))]) (fun r7 => ?_) (fun j7 => ?_)
  refine zn <| SC.cond rfl ?_ ?_
  exact zG <| zp 6 (vb false) <| zp 7 (vi 0) <| zn <| SC.ret <| SX.block_ret <| SX.then_ret <| SX.loop_ret <| SX.block_ret <| SX.then_ret <| ze [.tmp 6, .tmp 7] <| zm rfl <| zm rfl zz
  exact SC.skip <| SX.block <| SX.seq <| zg <| zp 39 (vi s2) <| zp 40 (vi (w64 (s2 + 1))) <| zp 8 (vi (w64 (s2 + 1))) <| KT.nil zX
  refine KT.ite 78 rfl ?_ ?_
  exact zk <| zk <| zk <| zk <| zp 83 (vb true) <| zl j7
  exact zp 79 (vS x60.1) <| zp 80 (vS x69.1) <| zc 81 (ref00_SameBytes_sim _ _) fun x81 => zp 82 (vb (!x81)) <| zp 83 (vb (!x81)) <| zl j7
  refine KT.ite 74 rfl ?_ ?_
  exact zk <| zk <| zp 77 (vb true) <| zl j6
  exact zp 75 (vb x69.2) <| zp 76 (vb (!x69.2)) <| zp 77 (vb (!x69.2)) <| zl j6
  exact SC.exit <| SX.then_exit <| SX.loop_exit <| SX.block_hit <| SX.seq <| zG <| zp 6 (vb true) <| zp 7 (vi 0) <| zn <| SC.ret <| ze [.tmp 6, .tmp 7] <| zm rfl <| zm rfl zz
  refine KT.ite 16 rfl ?_ ?_
  exact zk <| zk <| zk <| zk <| zk <| zk <| zk <| zp 24 (vb true) <| zl j1
  exact zp 17 (vi p1_seg) <| zp 18 (.pointer p0_b) <| KT.nm 19 fun x19 => zp 20 (va x19 1) <| zp 21 (.pointer (some (Addr.add (Addr.add x19 1) 2))) <| KT.l 22 fun x22 => zp 23 (vb (decide (p1_seg ≥ x22))) <| zp 24 (vb (decide (p1_seg ≥ x22))) <| zl j1
theorem bank_Bank_Join_sim (p0_b : (Option Addr)) (p1_m : (Int × Int × Int)) : Sm Tryz.prog 37 [(.pointer p0_b), (.agg #[(vi p1_m.1), (vi p1_m.2.1), (vi p1_m.2.2)])] (fun y : Unit => (.tuple #[])) (bank_Bank_Join p0_b p1_m) := by
  refine sm_of 14 Tryz.func37 rfl rfl rfl fun _ => ?_
  unfold bank_Bank_Join
  refine zG <| KT.nw 3 (fun ad => .pointer (some ad)) 23 fun x3 => zn <| zq <| SC.draw 6 (fun f => Nat.beq f 5) rfl (by kernel_rfl) fun S1 => zpA 0 4 (.pointer p0_b) <| zB 1 rfl <| onil 5 fun x5 => zpA 2 6 (va x5 1) <| zA 3 rfl <| olai 7 3 fun x7 => zA 4 rfl <| olai 8 3 fun x8 => KT.last 5 rfl (by kernel_rfl) rfl rfl <| ocall 9 (bank_fits_sim _ _) fun x9 => KT.doneN (by kernel_rfl) <| SX.seq <| SC.cond rfl ?_ ?_
  exact zg <| zp 10 (.pointer p0_b) <| zo <| ola 11 3 fun x11 => KT.nm 12 fun x12 => zp 13 (va x12 4) <| zo <| osa <| KT.nil <| SX.endBody [] rfl zz
  exact SC.skip <| SX.endBody [] rfl zz
theorem ref06_Bank_Join_sim (p0_b : (Option Addr)) (p1_m : (Int × Int × Int)) : Sm Tryz.prog 38 [(.pointer p0_b), (.agg #[(vi p1_m.1), (vi p1_m.2.1), (vi p1_m.2.2)])] (fun y : Unit => (.tuple #[])) (ref06_Bank_Join p0_b p1_m) := by
  refine sm_of 14 Tryz.func38 rfl rfl rfl fun _ => ?_
  unfold ref06_Bank_Join
  refine zG <| KT.nw 3 (fun ad => .pointer (some ad)) 23 fun x3 => zn <| zq <| SC.draw 6 (fun f => Nat.beq f 5) rfl (by kernel_rfl) fun S1 => zpA 0 4 (.pointer p0_b) <| zB 1 rfl <| onil 5 fun x5 => zpA 2 6 (va x5 1) <| zA 3 rfl <| olai 7 3 fun x7 => zA 4 rfl <| olai 8 3 fun x8 => KT.last 5 rfl (by kernel_rfl) rfl rfl <| ocall 9 (ref06_Fits_sim _ _) fun x9 => KT.doneN (by kernel_rfl) <| SX.seq <| SC.cond rfl ?_ ?_
  exact zg <| zp 10 (.pointer p0_b) <| zo <| ola 11 3 fun x11 => KT.nm 12 fun x12 => zp 13 (va x12 4) <| zo <| osa <| KT.nil <| SX.endBody [] rfl zz
  exact SC.skip <| SX.endBody [] rfl zz
theorem ref02_Rack_Doom_sim (p0_r : (Option Addr)) (p1_disk : Int) (p2_calls : Int) : Sm Tryz.prog 39 [(.pointer p0_r), (vi p1_disk), (vi p2_calls)] (Value.int .i64) (ref02_Rack_Doom p0_r p1_disk p2_calls) := by
  refine sm_of 25 Tryz.func39 rfl rfl rfl fun _ => ?_
  unfold ref02_Rack_Doom
  refine zG <| zp 6 (vi 0) <| zn <| zq <| zG <| zp 7 (vi p1_disk) <| zp 8 (vb (decide (p1_disk < 0))) <| zp 9 (vb (decide (p1_disk < 0))) <| zj 7 (fun r1 => [(16, (vb r1)), (0, (.pointer p0_r)), (1, (vi p1_disk)), (2, (vi p2_calls))]) (fun r1 => ?_) (fun j1 => ?_)
  refine zn <| SC.cond rfl ?_ ?_
  exact zG <| zp 6 (vi 11) <| zn <| zt <| ze [.tmp 6] <| zm rfl zz
  exact zw <| zG <| zp 17 (.pointer p0_r) <| KT.nm 18 fun x18 => zp 19 (va x18 5) <| KT.l 20 fun x20 => zp 21 (vi p1_disk) <| zp 22 (vi p2_calls) <| zp 23 (vi (maxI p2_calls (-1))) <| zy <| oix 24 3 fun x24 => KT.s <| zN <| zp 6 (vi 0) <| zn <| SC.ret <| ze [.tmp 6] <| zm rfl zz
  refine KT.ite 9 rfl ?_ ?_
  exact zk <| zk <| zk <| zk <| zk <| zk <| zp 16 (vb true) <| zl j1
  exact zp 10 (vi p1_disk) <| zp 11 (.pointer p0_r) <| KT.nm 12 fun x12 => zp 13 (vp x12) <| KT.l 14 fun x14 => zp 15 (vb (decide (p1_disk ≥ x14))) <| zp 16 (vb (decide (p1_disk ≥ x14))) <| zl j1
theorem device_Rack_Arm_sim (p0_r : (Option Addr)) (p1_calls : Int) : Sm Tryz.prog 40 [(.pointer p0_r), (vi p1_calls)] (fun y : Unit => (.tuple #[])) (device_Rack_Arm p0_r p1_calls) := by
  refine sm_of 9 Tryz.func40 rfl rfl rfl fun _ => ?_
  unfold device_Rack_Arm
  exact zg <| zp 4 (.pointer p0_r) <| zp 5 (vi p1_calls) <| zp 6 (vi (maxI p1_calls (-1))) <| KT.nm 7 fun x7 => zp 8 (va x7 2) <| KT.s <| KT.nil <| SX.endBody [] rfl zz
theorem ref02_Rack_Arm_sim (p0_r : (Option Addr)) (p1_calls : Int) : Sm Tryz.prog 41 [(.pointer p0_r), (vi p1_calls)] (fun y : Unit => (.tuple #[])) (ref02_Rack_Arm p0_r p1_calls) := by
  refine sm_of 9 Tryz.func41 rfl rfl rfl fun _ => ?_
  unfold ref02_Rack_Arm
  exact zg <| zp 4 (.pointer p0_r) <| zp 5 (vi p1_calls) <| zp 6 (vi (maxI p1_calls (-1))) <| KT.nm 7 fun x7 => zp 8 (va x7 6) <| KT.s <| KT.nil <| SX.endBody [] rfl zz
theorem slices_AppendSeq_i_sim (p0_s : Slc) (p1_seq : Value) : Sm Tryz.prog 117 [(vS p0_s), p1_seq] vS (slices_AppendSeq_i (cvOf Tryz.prog) p0_s p1_seq) := by
  refine sm_of 13 Tryz.func117 rfl rfl rfl fun _ => ?_
  unfold slices_AppendSeq_i
  refine zG <| KT.nw 2 (fun ad => .pointer (some ad)) 33 fun x2 => zp 4 (.slice none 0 0) <| zn <| zq <| zG <| zp 6 p1_seq <| zn <| SC.block <| SC.rangeF (ξ := (Int)) (τ := (Int)) (fv := p1_seq) (ps := [7]) (encX := (fun x_1 : (Int) => [(vi x_1)])) (fun t_1 => [(2, (vp x2)), (5, (vi t_1))]) rfl (fun _ => rfl) rfl (fun _ x_1 _ _ h1 => ?_) (fun _ _ _ t_1 => ?_) (fun D1 => ?_) (fun D1 => ?_) (fun D1 i1 => ?_)
  exact zg <| zp 5 (vi x_1) <| KT.nil <| SX.leafP h1 (.cons rfl (.cons rfl (.nil)))
  exact SC.block <| zg <| KT.l 8 fun x8 => zp 9 (vi t_1) <| KT.nw 10 (fun ad => .slice (some ad) 1 1) 3 fun x10 => zo <| oapp 11 3 fun x11 => KT.s <| KT.nil <| SX.block SX.round_next
  exact SX.block <| SX.seq <| zG <| KT.l 12 fun x12 => zp 4 (vS x12) <| zn <| SC.ret <| ze [.tmp 4] <| zm rfl zz
  exact SX.fail
  exact SX.fail
theorem slices_Collect_i_sim (p0_seq : Value) : Sm Tryz.prog 109 [p0_seq] vS (slices_Collect_i (cvOf Tryz.prog) p0_seq) := by
  refine sm_of 5 Tryz.func109 rfl rfl rfl fun _ => ?_
  unfold slices_Collect_i
  exact zG <| zp 2 (.slice none 0 0) <| zN <| zp 3 p0_seq <| zc 4 (slices_AppendSeq_i_sim _ _) fun x4 => zp 2 (vS x4) <| zn <| SC.ret <| ze [.tmp 2] <| zm rfl zz
theorem slices_Sorted_i_sim (p0_seq : Value) : Sm Tryz.prog 85 [p0_seq] vS (slices_Sorted_i (cvOf Tryz.prog) p0_seq) := by
  refine sm_of 9 Tryz.func85 rfl rfl rfl fun _ => ?_
  unfold slices_Sorted_i
  exact zG <| zp 2 (.slice none 0 0) <| zN <| zp 4 p0_seq <| zc 5 (slices_Collect_i_sim _) fun x5 => zp 3 (vS x5) <| zN <| zp 6 (vS x5) <| zc 7 (slices_Sort_i_sim x5) fun x7 => zN <| zp 8 (vS x5) <| zp 2 (vS x5) <| zn <| SC.ret <| ze [.tmp 2] <| zm rfl zz
theorem maps_Keys_m_c1_sim (p0_yield : Value) (p1_a : Addr) : Sm Tryz.prog 111 [p0_yield, (vp p1_a)] (fun y : Unit => (.tuple #[])) (maps_Keys_m_c1 (cvOf Tryz.prog) p0_yield p1_a) := by
  refine sm_of 14 Tryz.func111 rfl rfl rfl fun _ => ?_
  unfold maps_Keys_m_c1
  refine zG <| KT.l 4 fun x4 => KT.ow rfl (OW.rangeMap (d := 5) _ _ 3 49 rfl rfl (by kernel_rfl) rfl rfl (fun x5 => ?_))
  refine zn <| SC.block <| zL (σ := Unit) (fun s1 => [(0, p0_yield), (5, (vp x5))]) fun _ _ _ s1 => zG <| KT.ow rfl (OW.next (d := 6) _ rfl rfl rfl rfl (fun y6 => ?_))
  refine KT.opt (y := y6) 6 rfl ?_ (fun e6 => ?_)
  exact zp 7 (vb false) <| zn <| zq <| SC.cond_false rfl <| SC.exit <| SX.then_exit <| SX.loop_exit <| SX.block_hit <| SX.endBody [] rfl zz
  refine zp 7 (vb true) <| zn <| zq <| SC.cond_true rfl <| zw <| SC.block <| zG <| KT.ow rfl (OW.entry (d := 8) (ek := (Value.int .i64)) (evv := vS) _ rfl rfl rfl rfl (fun x8 => ?_))
  refine zp 9 (vi x8.1) <| zp 3 (vi x8.1) <| zN <| zp 10 p0_yield <| zp 11 (vi x8.1) <| KT.ow rfl (OW.callv (d := 12) (enc := Value.bool) (vs := [(vi x8.1)]) _ [.tmp 11] _ rfl rfl rfl rfl rfl (fun x12 => ?_))
  refine zp 13 (vb (!x12)) <| zn <| SC.cond rfl ?_ ?_
  exact SC.ret <| SX.block_ret <| SX.loop_ret <| SX.block_ret <| ze [] zz
  exact SC.skip <| SX.block zX
theorem maps_Keys_m_sim (p0_m : (Option Nat)) : Sm Tryz.prog 86 [(.map p0_m)] (fun v : Value => v) (maps_Keys_m p0_m) := by
  refine sm_of 4 Tryz.func86 rfl rfl rfl fun _ => ?_
  unfold maps_Keys_m
  exact zG <| KT.nw 1 (fun ad => .pointer (some ad)) 90 fun x1 => zp 2 Value.nilFunc <| zN <| zp 3 (.func (.func fid_maps_Keys_m_c1) #[] #[(vp x1)]) <| zp 2 (.func (.func fid_maps_Keys_m_c1) #[] #[(vp x1)]) <| zn <| SC.ret <| ze [.tmp 2] <| zm rfl zz
theorem device_Rack_Restore_sim (p0_r : (Option Addr)) (p1_keeps : Slc) : Sm Tryz.prog 42 [(.pointer p0_r), (vS p1_keeps)] (fun y : Unit => (.tuple #[])) (device_Rack_Restore (cvOf Tryz.prog) p0_r p1_keeps) := by
  refine sm_of 76 Tryz.func42 rfl rfl rfl fun _ => ?_
  unfold device_Rack_Restore
  refine zG <| zp 9 (.pointer p0_r) <| zp 10 (.pointer p0_r) <| KT.nm 11 fun x11 => zp 12 (va x11 3) <| KT.s <| KT.nm 13 fun x13 => zp 14 (va x13 2) <| KT.s <| zN <| zp 4 (vi 0) <| zN <| zp 15 (.pointer p0_r) <| KT.nm 16 fun x16 => zp 17 (vp x16) <| KT.l 18 fun x18 => zp 19 (vi (vl x18)) <| zp 20 (vi 0) <| zn <| SC.block <| zL (σ := (Int × Int)) (fun s1 => [(1, (vS p1_keeps)), (4, (vi s1.1)), (18, (vS x18)), (19, (vi (vl x18))), (20, (vi s1.2))]) fun _ _ _ s1 => zG <| zp 21 (vb (decide (s1.2 < (vl x18)))) <| zn <| zq <| SC.cond rfl ?_ ?_
  refine zw <| zq <| SC.block <| zG <| zy <| oix 22 87 fun x22 => KT.l 23 fun x23 => zp 6 (.pointer x23) <| zn <| zq <| zG <| zp 24 (.pointer x23) <| KT.nm 25 fun x25 => zp 26 (va x25 1) <| KT.l 27 fun x27 => zc 28 (maps_Keys_m_sim _) fun x28 => zc 29 (slices_Sorted_i_sim _) fun x29 => zp 30 (vi (vl x29)) <| zp 31 (vi 0) <| zn <| SC.block <| zL (σ := (Int × Int)) (fun s2 => [(1, (vS p1_keeps)), (4, (vi s2.1)), (6, (.pointer x23)), (18, (vS x18)), (19, (vi (vl x18))), (20, (vi s1.2)), (29, (vS x29)), (30, (vi (vl x29))), (31, (vi s2.2))]) fun _ _ _ s2 => zG <| zp 32 (vb (decide (s2.2 < (vl x29)))) <| zn <| zq <| SC.cond rfl ?_ ?_
  refine zw <| zq <| SC.block <| zG <| zy <| oix 33 3 fun x33 => KT.l 34 fun x34 => zp 8 (vi x34) <| zn <| zq <| zG <| zp 35 (vS p1_keeps) <| zp 36 (vi (vl p1_keeps)) <| zp 37 (vb (decide ((vl p1_keeps) > 0))) <| zp 38 (vb (decide ((vl p1_keeps) > 0))) <| zj 10 (fun r3 => [(48, (vb r3)), (1, (vS p1_keeps)), (4, (vi s2.1)), (6, (.pointer x23)), (8, (vi x34)), (18, (vS x18)), (19, (vi (vl x18))), (20, (vi s1.2)), (29, (vS x29)), (30, (vi (vl x29))), (31, (vi s2.2))]) (fun r3 => ?_) (fun j3 => ?_)
  refine zp 49 (vb r3) <| zj 6 (fun r4 => [(55, (vb r4)), (1, (vS p1_keeps)), (4, (vi s2.1)), (6, (.pointer x23)), (8, (vi x34)), (18, (vS x18)), (19, (vi (vl x18))), (20, (vi s1.2)), (29, (vS x29)), (30, (vi (vl x29))), (31, (vi s2.2))]) (fun r4 => ?_) (fun j4 => ?_)
  refine zn <| SC.cond rfl ?_ ?_
  exact SC.draw 13 (fun f => Nat.beq f 12) rfl (by kernel_rfl) fun S5 => zpA 0 56 (.pointer x23) <| zB 1 rfl <| onil 57 fun x57 => zpA 2 58 (vp x57) <| zA 3 rfl <| oli 59 fun x59 => zpA 4 60 (vi x34) <| zpA 5 61 (.pointer x23) <| zB 6 rfl <| onil 62 fun x62 => zpA 7 63 (va x62 1) <| zA 8 rfl <| oli 64 fun x64 => zpA 9 65 (vi x34) <| KT.one 10 rfl (by kernel_rfl) rfl <| OW.step <| OW.look (d := 66) (enc := vS) (⟨none, 0, 0⟩) 3 49 .i64 _ _ _ rfl rfl rfl (by kernel_rfl) (by kernel_rfl) (by kernel_rfl) rfl rfl fun x66 => KT.and <| zB 11 rfl <| oix 67 49 fun x67 => KT.last 12 rfl (by kernel_rfl) rfl rfl <| OW.st _ _ _ rfl rfl rfl rfl (by kernel_rfl) rfl <| KT.doneN (by kernel_rfl) <| SX.seq <| zg <| zp 68 (vi s2.1) <| zp 69 (vi (w64 (s2.1 + 1))) <| zp 4 (vi (w64 (s2.1 + 1))) <| KT.nil <| SX.block <| SX.seq <| zg <| zp 70 (vi (w64 (s2.2 + 1))) <| zp 31 (vi (w64 (s2.2 + 1))) <| KT.nil zX
  exact zw <| zg <| zp 68 (vi s2.1) <| zp 69 (vi (w64 (s2.1 + 1))) <| zp 4 (vi (w64 (s2.1 + 1))) <| KT.nil <| SX.block <| SX.seq <| zg <| zp 70 (vi (w64 (s2.2 + 1))) <| zp 31 (vi (w64 (s2.2 + 1))) <| KT.nil zX
  refine KT.ite 49 rfl ?_ ?_
  exact zp 50 (.pointer x23) <| KT.nm 51 fun x51 => zp 52 (va x51 2) <| KT.l 53 fun x53 => zp 54 (vb (!x53)) <| zp 55 (vb (!x53)) <| zl j4
  exact zk <| zk <| zk <| zk <| zk <| zp 55 (vb false) <| zl j4
  refine KT.ite 38 rfl ?_ ?_
  refine zp 39 (vS p1_keeps) <| zp 40 (vi s2.1) <| zp 41 (vS p1_keeps) <| zp 42 (vi (vl p1_keeps)) <| KT.oy rfl (OY.rem (d := 43) (x := s2.1) (y := (vl p1_keeps)) _ _ _ _ (Int.tmod s2.1 (vl p1_keeps)) rfl rfl rfl rfl rfl rfl ?_)
  exact zy <| oix 44 3 fun x44 => KT.l 45 fun x45 => zp 46 (vi (bAnd .i64 x45 1)) <| zp 47 (vb ((bAnd .i64 x45 1) == 1)) <| zp 48 (vb ((bAnd .i64 x45 1) == 1)) <| zl j3
  exact zk <| zk <| zk <| zk <| zk <| zk <| zk <| zk <| zk <| zp 48 (vb false) <| zl j3
  refine SC.exit <| SX.then_exit <| SX.loop_exit <| SX.block_hit <| SX.seq <| zg <| zp 71 (.pointer x23) <| KT.nm 72 fun x72 => zp 73 (va x72 1) <| KT.l 74 fun x74 => KT.ow rfl (OW.clearMap0 _ _ 3 49 rfl rfl (by kernel_rfl) rfl ?_)
  exact KT.nil <| SX.block <| SX.seq <| zg <| zp 75 (vi (w64 (s1.2 + 1))) <| zp 20 (vi (w64 (s1.2 + 1))) <| KT.nil zX
  exact SC.exit <| SX.then_exit <| SX.loop_exit <| SX.block_hit <| SX.endBody [] rfl zz
theorem ref02_Rack_Restore_sim (p0_r : (Option Addr)) (p1_keeps : Slc) : Sm Tryz.prog 43 [(.pointer p0_r), (vS p1_keeps)] (fun y : Unit => (.tuple #[])) (ref02_Rack_Restore p0_r p1_keeps) := by
  refine sm_of 80 Tryz.func43 rfl rfl rfl fun _ => ?_
  unfold ref02_Rack_Restore
  refine zG <| zp 6 (.pointer p0_r) <| KT.nm 7 fun x7 => zp 8 (va x7 7) <| KT.s <| zN <| zp 9 (.pointer p0_r) <| KT.nm 10 fun x10 => zp 11 (va x10 6) <| KT.s <| zN <| zp 4 (vi 0) <| zN <| zp 5 (vi 0) <| zn <| SC.block <| zL (σ := (Int × Int)) (fun s1 => [(0, (.pointer p0_r)), (1, (vS p1_keeps)), (4, (vi s1.1)), (5, (vi s1.2))]) fun _ _ _ s1 => zq <| zG <| zp 12 (vi s1.2) <| zp 13 (.pointer p0_r) <| KT.nm 14 fun x14 => zp 15 (va x14 3) <| KT.l 16 fun x16 => zp 17 (vi (vl x16)) <| zp 18 (vb (decide (s1.2 < (vl x16)))) <| zn <| SC.cond rfl ?_ ?_
  refine zw <| zq <| SC.block <| zq <| zG <| zp 21 (.pointer p0_r) <| KT.nm 22 fun x22 => zp 23 (va x22 3) <| KT.l 24 fun x24 => zp 25 (vi s1.2) <| zy <| oix 26 49 fun x26 => KT.l 27 fun x27 => zp 28 (vi (vl x27)) <| zp 29 (vb ((vl x27) == 0)) <| zn <| SC.cond rfl ?_ ?_
  exact SC.exit <| SX.then_exit <| SX.block_hit <| SX.seq <| zg <| zp 19 (vi s1.2) <| zp 20 (vi (w64 (s1.2 + 1))) <| zp 5 (vi (w64 (s1.2 + 1))) <| KT.nil zX
  refine zw <| zq <| zq <| SC.join (β := (Bool)) (fun b2 => [(0, (.pointer p0_r)), (1, (vS p1_keeps)), (4, (vi s1.1)), (5, (vi s1.2)), (58, (vb b2))]) (fun b2 => ?_) (fun j2 => ?_)
  refine SX.seq <| SC.join (β := Unit) (fun b3 => [(0, (.pointer p0_r)), (1, (vS p1_keeps)), (4, (vi s1.1)), (5, (vi s1.2))]) (fun b3 => ?_) (fun j3 => ?_)
  exact SX.seq <| zG <| zp 72 (.pointer p0_r) <| KT.nm 73 fun x73 => zp 74 (va x73 3) <| KT.l 75 fun x75 => zp 76 (vi s1.2) <| zy <| oix 77 49 fun x77 => KT.s <| zn <| zg <| zp 78 (vi s1.1) <| zp 79 (vi (w64 (s1.1 + 1))) <| zp 4 (vi (w64 (s1.1 + 1))) <| KT.nil <| SX.block <| SX.seq <| zg <| zp 19 (vi s1.2) <| zp 20 (vi (w64 (s1.2 + 1))) <| zp 5 (vi (w64 (s1.2 + 1))) <| KT.nil zX
  refine SC.cond rfl ?_ ?_
  exact SC.draw 14 (fun f => Nat.beq f 13) rfl (by kernel_rfl) fun S4 => zpA 0 59 (.pointer p0_r) <| zB 1 rfl <| onil 60 fun x60 => zpA 2 61 (va x60 2) <| zA 3 rfl <| oli 62 fun x62 => zpA 4 63 (vi s1.2) <| zpA 5 64 (.pointer p0_r) <| zB 6 rfl <| onil 65 fun x65 => zpA 7 66 (va x65 3) <| zA 8 rfl <| oli 67 fun x67 => zpA 9 68 (vi s1.2) <| zB 10 rfl <| oix 69 49 fun x69 => zA 11 rfl <| oli 70 fun x70 => zB 12 rfl <| oix 71 49 fun x71 => KT.last 13 rfl (by kernel_rfl) rfl rfl <| OW.st _ _ _ rfl rfl rfl rfl (by kernel_rfl) rfl <| KT.doneN (by kernel_rfl) <| zf j3
  exact SC.skip <| zf j3
  refine SC.draw 29 (fun _ => false) rfl (by kernel_rfl) fun S5 => zpA 0 30 (vS p1_keeps) <| zpA 1 31 (vi (vl p1_keeps)) <| zpA 2 32 (vb (decide ((vl p1_keeps) > 0))) <| zpA 3 33 (vb (decide ((vl p1_keeps) > 0))) <| KT.ite 33 rfl ?_ ?_
  refine zpA 4 34 (vS p1_keeps) <| zpA 5 35 (vi s1.1) <| zpA 6 36 (vS p1_keeps) <| zpA 7 37 (vi (vl p1_keeps)) <| KT.tp 8 (OY.rem (d := 38) (x := s1.1) (y := (vl p1_keeps)) _ _ _ _ (Int.tmod s1.1 (vl p1_keeps)) rfl rfl rfl rfl rfl rfl ?_)
  refine zB 9 rfl <| oix 39 3 fun x39 => zA 10 rfl <| oli 40 fun x40 => zpA 11 41 (vi (bAnd .i64 x40 1)) <| zpA 12 42 (vb ((bAnd .i64 x40 1) == 1)) <| zpA 13 43 (vb ((bAnd .i64 x40 1) == 1)) <| zpA 14 44 (vb ((bAnd .i64 x40 1) == 1)) <| KT.ite 44 rfl ?_ ?_
  refine zpA 15 45 (.pointer p0_r) <| zB 16 rfl <| onil 46 fun x46 => zpA 17 47 (va x46 4) <| zA 18 rfl <| oli 48 fun x48 => zpA 19 49 (vi s1.2) <| zpA 20 50 (.pointer p0_r) <| zB 21 rfl <| onil 51 fun x51 => zpA 22 52 (va x51 1) <| zA 23 rfl <| oli 53 fun x53 => KT.tp 24 (OY.quo (d := 54) (x := s1.2) (y := x53) _ _ _ _ (w64 (Int.tdiv s1.2 x53)) rfl rfl rfl rfl rfl rfl ?_)
  exact zB 25 rfl <| oix 55 4 fun x55 => zA 26 rfl <| oli 56 fun x56 => zpA 27 57 (vb (!x56)) <| zpA 28 58 (vb (!x56)) <| KT.doneA (by kernel_rfl) <| zS (T' := [(0, (.pointer p0_r)), (1, (vS p1_keeps)), (4, (vi s1.1)), (5, (vi s1.2)), (58, (vb (!x56)))]) <| zf j2
  exact zkA 15 rfl <| zkA 16 rfl <| zkA 17 rfl <| zkA 18 rfl <| zkA 19 rfl <| zkA 20 rfl <| zkA 21 rfl <| zkA 22 rfl <| zkA 23 rfl <| zkA 24 rfl <| zkA 25 rfl <| zkA 26 rfl <| zkA 27 rfl <| zpA 28 58 (vb false) <| KT.doneA (by kernel_rfl) <| zS (T' := [(0, (.pointer p0_r)), (1, (vS p1_keeps)), (4, (vi s1.1)), (5, (vi s1.2)), (58, (vb false))]) <| zf j2
  exact zkA 4 rfl <| zkA 5 rfl <| zkA 6 rfl <| zkA 7 rfl <| zkA 8 rfl <| zkA 9 rfl <| zkA 10 rfl <| zkA 11 rfl <| zkA 12 rfl <| zpA 13 43 (vb false) <| zpA 14 44 (vb false) <| zkA 15 rfl <| zkA 16 rfl <| zkA 17 rfl <| zkA 18 rfl <| zkA 19 rfl <| zkA 20 rfl <| zkA 21 rfl <| zkA 22 rfl <| zkA 23 rfl <| zkA 24 rfl <| zkA 25 rfl <| zkA 26 rfl <| zkA 27 rfl <| zpA 28 58 (vb false) <| KT.doneA (by kernel_rfl) <| zS (T' := [(0, (.pointer p0_r)), (1, (vS p1_keeps)), (4, (vi s1.1)), (5, (vi s1.2)), (58, (vb false))]) <| zf j2
  exact SC.exit <| SX.then_exit <| SX.loop_exit <| SX.block_hit <| SX.endBody [] rfl zz
end Go.Proofs.Ytldmeimebebllaa
