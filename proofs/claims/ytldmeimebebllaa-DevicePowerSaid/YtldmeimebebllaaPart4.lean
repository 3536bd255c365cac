/-
  A part of the proof: predicate transformers over the model, and a separation logic over them; what functions of the program do.
-/
import Derived.Test.YtldmeimebebllaaPart3
import Derived.Test.YtldmeimebebllaaProg
namespace Go.Proofs.Ytldmeimebebllaa
open Go.Mo Go.Shelf
set_option maxRecDepth 100000
def sortRen : Go.Shelf.Ren := ⟨fun | 5 => 115 | 8 => 135 | 7 => 134 | 19 => 148 | 20 => 149 | 10 => 139 | 11 => 140 | 12 => 141 | 13 => 142 | 14 => 143 | 15 => 144 | 16 => 145 | 17 => 146 | 18 => 147 | 30 => 151 | 31 => 152 | 32 => 153 | 33 => 154 | 34 => 155 | 35 => 156 | 40 => 157 | n => n, fun | 23 => 33 | 25 => 3 | 3 => 3 | 32 => 58 | 22 => 33 | 0 => 0 | 44 => 184 | 46 => 186 | 4 => 4 | 36 => 178 | 35 => 177 | 41 => 126 | 5 => 5 | 9 => 9 | 53 => 188 | 57 => 192 | 63 => 194 | 64 => 95 | n => n, fun | n => n⟩
theorem sortLay : SlLaysM.n5 Try.prog sortRen := {
  mixed := by kernel_rfl,
  f5 := ⟨Try.f115.name, by decide, Try.func115.trans (congrArg some (by kernel_rfl))⟩,
  f7 := ⟨Try.f134.name, by decide, Try.func134.trans (congrArg some (by kernel_rfl))⟩,
  f8 := Try.func135.trans (congrArg some (by kernel_rfl)),
  f10 := ⟨Try.f139.name, by decide, Try.func139.trans (congrArg some (by kernel_rfl))⟩,
  f11 := ⟨Try.f140.name, by decide, Try.func140.trans (congrArg some (by kernel_rfl))⟩,
  f12 := ⟨Try.f141.name, by decide, Try.func141.trans (congrArg some (by kernel_rfl))⟩,
  f13 := ⟨Try.f142.name, by decide, Try.func142.trans (congrArg some (by kernel_rfl))⟩,
  f14 := ⟨Try.f143.name, by decide, Try.func143.trans (congrArg some (by kernel_rfl))⟩,
  f15 := ⟨Try.f144.name, by decide, Try.func144.trans (congrArg some (by kernel_rfl))⟩,
  f16 := ⟨Try.f145.name, by decide, Try.func145.trans (congrArg some (by kernel_rfl))⟩,
  f17 := ⟨Try.f146.name, by decide, Try.func146.trans (congrArg some (by kernel_rfl))⟩,
  f18 := ⟨Try.f147.name, by decide, Try.func147.trans (congrArg some (by kernel_rfl))⟩,
  f19 := Try.func148.trans (congrArg some (by kernel_rfl)),
  f20 := Try.func149.trans (congrArg some (by kernel_rfl)),
  f30 := ⟨Try.f151.name, by decide, Try.func151.trans (congrArg some (by kernel_rfl))⟩,
  f31 := Try.func152.trans (congrArg some (by kernel_rfl)),
  f32 := Try.func153.trans (congrArg some (by kernel_rfl)),
  f33 := ⟨Try.f154.name, by decide, Try.func154.trans (congrArg some (by kernel_rfl))⟩,
  f34 := ⟨Try.f155.name, by decide, Try.func155.trans (congrArg some (by kernel_rfl))⟩,
  f35 := ⟨Try.f156.name, by decide, Try.func156.trans (congrArg some (by kernel_rfl))⟩,
  f40 := ⟨Try.f157.name, by decide, Try.func157.trans (congrArg some (by kernel_rfl))⟩,
  t0 := Try.underlying0,
  a0 := Try.isAgg0,
  z0 := Try.sizeOf0,
  v0 := Try.zeroValue0,
  t3 := Try.underlying3,
  a3 := Try.isAgg3,
  z3 := Try.sizeOf3,
  v3 := Try.zeroValue3,
  t4 := Try.underlying4,
  a4 := Try.isAgg4,
  z4 := Try.sizeOf4,
  v4 := Try.zeroValue4,
  t5 := Try.underlying5,
  a5 := Try.isAgg5,
  z5 := Try.sizeOf5,
  v5 := Try.zeroValue5,
  t9 := Try.underlying9,
  a9 := Try.isAgg9,
  z9 := Try.sizeOf9,
  v9 := Try.zeroValue9,
  t22 := Try.underlying33,
  a22 := Try.isAgg33,
  z22 := Try.sizeOf33,
  v22 := Try.zeroValue33,
  t23 := Try.underlying33,
  a23 := Try.isAgg33,
  z23 := Try.sizeOf33,
  v23 := Try.zeroValue33,
  t25 := Try.underlying3,
  a25 := Try.isAgg3,
  z25 := Try.sizeOf3,
  v25 := Try.zeroValue3,
  t32 := Try.underlying58,
  a32 := Try.isAgg58,
  z32 := Try.sizeOf58,
  v32 := Try.zeroValue58,
  t35 := Try.underlying177,
  a35 := Try.isAgg177,
  z35 := Try.sizeOf177,
  v35 := Try.zeroValue177,
  t36 := Try.underlying178,
  a36 := Try.isAgg178,
  z36 := Try.sizeOf178,
  v36 := Try.zeroValue178,
  t41 := Try.underlying126,
  a41 := Try.isAgg126,
  z41 := Try.sizeOf126,
  v41 := Try.zeroValue126,
  t44 := Try.underlying184,
  a44 := Try.isAgg184,
  z44 := Try.sizeOf184,
  v44 := Try.zeroValue184,
  t46 := Try.underlying186,
  a46 := Try.isAgg186,
  z46 := Try.sizeOf186,
  v46 := Try.zeroValue186,
  t53 := Try.underlying188,
  a53 := Try.isAgg188,
  z53 := Try.sizeOf188,
  v53 := Try.zeroValue188,
  t57 := Try.underlying192,
  a57 := Try.isAgg192,
  z57 := Try.sizeOf192,
  v57 := Try.zeroValue192,
  t63 := Try.underlying194,
  a63 := Try.isAgg194,
  z63 := Try.sizeOf194,
  v63 := Try.zeroValue194,
  t64 := Try.underlying95,
  a64 := Try.isAgg95,
  z64 := Try.sizeOf95,
  v64 := Try.zeroValue95
}
theorem slices_Sort_i_sim (p0 : Slc) (Qf : Unit → World → Prop) (w : World) (hm : sortM p0 Qf w) : Calls Try.prog 115 #[.slice p0.base p0.len p0.cap] w (RetPost (fun _ : Unit => .tuple #[]) Qf) := sortM_sim sortLay p0 Qf w hm
end Go.Proofs.Ytldmeimebebllaa
namespace Go.Proofs.Ytldmeimebebllaa
open Go.Mo
set_option linter.unusedVariables false
set_option maxRecDepth 100000 in
theorem device_New_sim (p0_disks : Int) (p1_sectors : Int) (Qf : ((Option Addr) × Int) → World → Prop) (w : World) (hm : device_New p0_disks p1_sectors Qf w) : Calls Try.prog 21 #[(.int .i64 p0_disks), (.int .i64 p1_sectors)] w (RetPost (fun y : ((Option Addr) × Int) => (.tuple #[(.pointer y.1), (.int .i64 y.2)])) Qf) := by
  refine calls_of (fn := Try.f21) (l := [(.int .i64 p0_disks), (.int .i64 p1_sectors)]) (m := device_New p0_disks p1_sectors) 57 (by kernel_rfl) rfl rfl rfl (fun Qf0 => ?_) Qf w hm
  clear hm w Qf
  unfold device_New
  refine SC.seq ?_
  refine SC.region' ?_
  refine KT.pv 4 (.pointer none) ?_
  refine KT.pv 5 (.int .i64 0) ?_
  refine KT.nil ?_
  refine SX.seq ?_
  refine SC.seq ?_
  refine SC.seq ?_
  refine SC.region' ?_
  refine KT.pv 8 (.int .i64 p0_disks) ?_
  refine KT.pv 9 (.bool (decide (p0_disks < 1))) ?_
  refine KT.pv 10 (.bool (decide (p0_disks < 1))) ?_
  refine KT.joinO (β := Bool) 3 (fun r1 => [(13, (.bool r1)), (0, (.int .i64 p0_disks)), (1, (.int .i64 p1_sectors))]) (fun r1 => ?_) (fun j1 => ?_)
  refine KT.pv 14 (.bool r1) ?_
  refine KT.joinO (β := Bool) 3 (fun r2 => [(17, (.bool r2)), (0, (.int .i64 p0_disks)), (1, (.int .i64 p1_sectors))]) (fun r2 => ?_) (fun j2 => ?_)
  refine KT.pv 18 (.bool r2) ?_
  refine KT.joinO (β := Bool) 3 (fun r3 => [(21, (.bool r3)), (0, (.int .i64 p0_disks)), (1, (.int .i64 p1_sectors))]) (fun r3 => ?_) (fun j3 => ?_)
  refine KT.nil ?_
  refine SX.seq ?_
  refine SC.cond (b := r3) rfl ?_ ?_
  refine SC.seq ?_
  refine SC.region' ?_
  refine KT.pv 4 (.pointer none) ?_
  refine KT.pv 5 (.int .i64 10) ?_
  refine KT.nil ?_
  refine SX.seq ?_
  refine SC.ret ?_
  refine SX.then_ret ?_
  refine SX.ret [.tmp 4, .tmp 5] rfl ?_
  refine RS.tmp (.pointer none) rfl ?_
  refine RS.tmp (.int .i64 10) rfl ?_
  exact RS.nil rfl
  refine SC.skip ?_
  refine SX.seq ?_
  refine SC.seq ?_
  refine SC.region' ?_
  refine KT.pv 22 (.int .i64 p1_sectors) ?_
  refine KT.pv 23 (.agg #[(.slice none 0 0), (.int .i64 p1_sectors), (.int .i64 (-1)), (.bool false)]) ?_
  refine KT.nw 24 (fun ad => .pointer (some ad)) 110 (fun x24 => ?_)
  refine KT.pv 6 (.pointer (some x24)) ?_
  refine KT.nil ?_
  refine SX.seq ?_
  refine SC.seq ?_
  refine SC.seq ?_
  refine SC.region' ?_
  refine KT.pv 25 (.int .i64 p0_disks) ?_
  refine KT.pv 26 (.int .i64 0) ?_
  refine KT.nil ?_
  refine SX.seq ?_
  refine SC.block ?_
  refine SC.loop (σ := (Int)) (fun s4 => [(1, (.int .i64 p1_sectors)), (6, (.pointer (some x24))), (25, (.int .i64 p0_disks)), (26, (.int .i64 s4))]) (.cons rfl (.cons rfl (.cons rfl (.cons rfl (.nil))))) (fun _ _ _ s4 => ?_)
  refine SC.seq ?_
  refine SC.region' ?_
  refine KT.pv 27 (.bool (decide (s4 < p0_disks))) ?_
  refine KT.nil ?_
  refine SX.seq ?_
  refine SC.seq ?_
  refine SC.cond (b := decide (s4 < p0_disks)) rfl ?_ ?_
  refine SC.skip ?_
  refine SX.seq ?_
  refine SC.seq ?_
  refine SC.block ?_
  refine SC.seq ?_
  refine SC.region' ?_
  refine KT.ow rfl (OW.newO (d := 28) (.map #[] 0) (fun r => .map (some r)) rfl (fun _ => by kernel_rfl) rfl rfl (fun x28 => ?_))
  refine KT.pv 29 (.agg #[(.slice none 0 0), (.map (some x28)), (.bool false), (.int .i64 (-1))]) ?_
  refine KT.nw 30 (fun ad => .pointer (some ad)) 114 (fun x30 => ?_)
  refine KT.pv 7 (.pointer (some x30)) ?_
  refine KT.nil ?_
  refine SX.seq ?_
  refine SC.seq ?_
  refine SC.seq ?_
  refine SC.region' ?_
  refine KT.pv 31 (.int .i64 p1_sectors) ?_
  refine KT.pv 32 (.int .i64 0) ?_
  refine KT.nil ?_
  refine SX.seq ?_
  refine SC.block ?_
  refine SC.loop (σ := (Int)) (fun s5 => [(1, (.int .i64 p1_sectors)), (6, (.pointer (some x24))), (7, (.pointer (some x30))), (25, (.int .i64 p0_disks)), (26, (.int .i64 s4)), (31, (.int .i64 p1_sectors)), (32, (.int .i64 s5))]) (.cons rfl (.cons rfl (.cons rfl (.cons rfl (.cons rfl (.cons rfl (.cons rfl (.nil)))))))) (fun _ _ _ s5 => ?_)
  refine SC.seq ?_
  refine SC.region' ?_
  refine KT.pv 33 (.bool (decide (s5 < p1_sectors))) ?_
  refine KT.nil ?_
  refine SX.seq ?_
  refine SC.seq ?_
  refine SC.cond (b := decide (s5 < p1_sectors)) rfl ?_ ?_
  refine SC.skip ?_
  refine SX.seq ?_
  refine SC.seq ?_
  refine SC.block ?_
  refine SC.draw 11 (fun f => Nat.beq f 7 || Nat.beq f 10) rfl (by kernel_rfl) (fun S6 => ?_)
  refine KT.pvA 0 34 (.pointer (some x30)) ?_
  refine KT.pvA 1 35 (.pointer (some x30)) ?_
  refine KT.pvA 2 36 (.pointer (some x30)) ?_
  refine KT.pvA 3 37 (.pointer (some x30)) ?_
  refine KT.tk 4 (OY.ldI (d := 38) _ _ rfl rfl (by kernel_rfl) rfl rfl (fun x38 => ?_))
  refine KT.one 5 rfl (by kernel_rfl) rfl (OW.step (OW.new (d := 39) (List.replicate 64 (.int .u8 0)) (fun ad => .slice (some ad) 64 64) 5 rfl (fun _ => by kernel_rfl) rfl rfl (fun x39 => ?_)))
  refine KT.and ?_
  refine KT.one 6 rfl (by kernel_rfl) rfl (OW.step (OW.new (d := 40) [(.slice (some x39) 64 64)] (fun ad => .slice (some ad) 1 1) 46 rfl (fun _ => by kernel_rfl) rfl rfl (fun x40 => ?_)))
  refine KT.and ?_
  refine KT.last 7 rfl (by kernel_rfl) rfl rfl (OW.append (d := 41) (s := x38) (x := ⟨some x40, 1, 1⟩) [(.slice none 0 0)] 24 46 _ _ _ _ rfl rfl rfl rfl (by kernel_rfl) (by kernel_rfl) rfl rfl rfl (fun x41 => ?_))
  refine KT.pvN 8 42 (.pointer (some x30)) ?_
  refine KT.pvN 9 43 (.pointer (some x30)) ?_
  refine KT.lastN 10 rfl (by kernel_rfl) rfl rfl (OW.st _ _ _ rfl rfl rfl rfl (by kernel_rfl) rfl ?_)
  refine KT.doneN (by kernel_rfl) ?_
  refine SX.block ?_
  refine SX.seq ?_
  refine SC.region' ?_
  refine KT.pv 44 (.int .i64 (w64 (s5 + 1))) ?_
  refine KT.pv 32 (.int .i64 (w64 (s5 + 1))) ?_
  refine KT.nil ?_
  exact SX.loop_next (.cons rfl (.cons rfl (.cons rfl (.cons rfl (.cons rfl (.cons rfl (.cons rfl (.nil))))))))
  refine SC.exit ?_
  refine SX.then_exit ?_
  refine SX.loop_exit ?_
  refine SX.block_hit ?_
  refine SX.seq ?_
  refine SC.region' ?_
  refine KT.pv 45 (.pointer (some x24)) ?_
  refine KT.pv 46 (.pointer (some x24)) ?_
  refine KT.pv 47 (.pointer (some x24)) ?_
  refine KT.pv 48 (.pointer (some x24)) ?_
  refine KT.l 49 (fun x49 => ?_)
  refine KT.pv 50 (.pointer (some x30)) ?_
  refine KT.nw 51 (fun ad => .slice (some ad) 1 1) 111 (fun x51 => ?_)
  refine KT.ow rfl (OW.append (d := 52) (s := x49) (x := ⟨some x51, 1, 1⟩) [(.pointer none)] 8 111 _ _ _ _ rfl rfl rfl rfl (by kernel_rfl) (by kernel_rfl) rfl rfl rfl (fun x52 => ?_))
  refine KT.pv 53 (.pointer (some x24)) ?_
  refine KT.pv 54 (.pointer (some x24)) ?_
  refine KT.s ?_
  refine KT.nil ?_
  refine SX.block ?_
  refine SX.seq ?_
  refine SC.region' ?_
  refine KT.pv 55 (.int .i64 (w64 (s4 + 1))) ?_
  refine KT.pv 26 (.int .i64 (w64 (s4 + 1))) ?_
  refine KT.nil ?_
  exact SX.loop_next (.cons rfl (.cons rfl (.cons rfl (.cons rfl (.nil)))))
  refine SC.exit ?_
  refine SX.then_exit ?_
  refine SX.loop_exit ?_
  refine SX.block_hit ?_
  refine SX.seq ?_
  refine SC.seq ?_
  refine SC.region' ?_
  refine KT.pv 56 (.pointer (some x24)) ?_
  refine KT.pv 4 (.pointer (some x24)) ?_
  refine KT.pv 5 (.int .i64 0) ?_
  refine KT.nil ?_
  refine SX.seq ?_
  refine SC.ret ?_
  refine SX.ret [.tmp 4, .tmp 5] rfl ?_
  refine RS.tmp (.pointer (some x24)) rfl ?_
  refine RS.tmp (.int .i64 0) rfl ?_
  exact RS.nil rfl
  refine KT.ite (b := r2) 18 rfl ?_ ?_
  refine KT.sk ?_
  refine KT.sk ?_
  refine KT.pv 21 (.bool true) ?_
  exact KT.leafO j3 (.cons rfl (.cons rfl (.cons rfl (.nil))))
  refine KT.pv 19 (.int .i64 p1_sectors) ?_
  refine KT.pv 20 (.bool (decide (p1_sectors > 4096))) ?_
  refine KT.pv 21 (.bool (decide (p1_sectors > 4096))) ?_
  exact KT.leafO j3 (.cons rfl (.cons rfl (.cons rfl (.nil))))
  refine KT.ite (b := r1) 14 rfl ?_ ?_
  refine KT.sk ?_
  refine KT.sk ?_
  refine KT.pv 17 (.bool true) ?_
  exact KT.leafO j2 (.cons rfl (.cons rfl (.cons rfl (.nil))))
  refine KT.pv 15 (.int .i64 p1_sectors) ?_
  refine KT.pv 16 (.bool (decide (p1_sectors < 1))) ?_
  refine KT.pv 17 (.bool (decide (p1_sectors < 1))) ?_
  exact KT.leafO j2 (.cons rfl (.cons rfl (.cons rfl (.nil))))
  refine KT.ite (b := decide (p0_disks < 1)) 10 rfl ?_ ?_
  refine KT.sk ?_
  refine KT.sk ?_
  refine KT.pv 13 (.bool true) ?_
  exact KT.leafO j1 (.cons rfl (.cons rfl (.cons rfl (.nil))))
  refine KT.pv 11 (.int .i64 p0_disks) ?_
  refine KT.pv 12 (.bool (decide (p0_disks > 17))) ?_
  refine KT.pv 13 (.bool (decide (p0_disks > 17))) ?_
  exact KT.leafO j1 (.cons rfl (.cons rfl (.cons rfl (.nil))))

set_option maxRecDepth 100000 in
theorem device_Rack_disk_sim (p0_r : (Option Addr)) (p1_k : Int) (p2_sector : Int) (Qf : ((Option Addr) × Int) → World → Prop) (w : World) (hm : device_Rack_disk p0_r p1_k p2_sector Qf w) : Calls Try.prog 70 #[(.pointer p0_r), (.int .i64 p1_k), (.int .i64 p2_sector)] w (RetPost (fun y : ((Option Addr) × Int) => (.tuple #[(.pointer y.1), (.int .i64 y.2)])) Qf) := by
  refine calls_of (fn := Try.f70) (l := [(.pointer p0_r), (.int .i64 p1_k), (.int .i64 p2_sector)]) (m := device_Rack_disk p0_r p1_k p2_sector) 42 (by kernel_rfl) rfl rfl rfl (fun Qf0 => ?_) Qf w hm
  clear hm w Qf
  unfold device_Rack_disk
  refine SC.seq ?_
  refine SC.region' ?_
  refine KT.pv 6 (.pointer none) ?_
  refine KT.pv 7 (.int .i64 0) ?_
  refine KT.nil ?_
  refine SX.seq ?_
  refine SC.seq ?_
  refine SC.seq ?_
  refine SC.region' ?_
  refine KT.pv 8 (.pointer p0_r) ?_
  refine KT.nm 9 (fun x9 => ?_)
  refine KT.pv 10 (.pointer (some (Addr.add x9 3))) ?_
  refine KT.l 11 (fun x11 => ?_)
  refine KT.nil ?_
  refine SX.seq ?_
  refine SC.cond (b := x11) rfl ?_ ?_
  refine SC.seq ?_
  refine SC.region' ?_
  refine KT.pv 6 (.pointer none) ?_
  refine KT.pv 7 (.int .i64 12) ?_
  refine KT.nil ?_
  refine SX.seq ?_
  refine SC.ret ?_
  refine SX.then_ret ?_
  refine SX.ret [.tmp 6, .tmp 7] rfl ?_
  refine RS.tmp (.pointer none) rfl ?_
  refine RS.tmp (.int .i64 12) rfl ?_
  exact RS.nil rfl
  refine SC.skip ?_
  refine SX.seq ?_
  refine SC.seq ?_
  refine SC.seq ?_
  refine SC.region' ?_
  refine KT.pv 12 (.int .i64 p1_k) ?_
  refine KT.pv 13 (.bool (decide (p1_k < 0))) ?_
  refine KT.pv 14 (.bool (decide (p1_k < 0))) ?_
  refine KT.joinO (β := Bool) 8 (fun r1 => [(22, (.bool r1)), (0, (.pointer p0_r)), (1, (.int .i64 p1_k)), (2, (.int .i64 p2_sector))]) (fun r1 => ?_) (fun j1 => ?_)
  refine KT.pv 23 (.bool r1) ?_
  refine KT.joinO (β := Bool) 3 (fun r2 => [(26, (.bool r2)), (0, (.pointer p0_r)), (1, (.int .i64 p1_k)), (2, (.int .i64 p2_sector))]) (fun r2 => ?_) (fun j2 => ?_)
  refine KT.pv 27 (.bool r2) ?_
  refine KT.joinO (β := Bool) 7 (fun r3 => [(34, (.bool r3)), (0, (.pointer p0_r)), (1, (.int .i64 p1_k))]) (fun r3 => ?_) (fun j3 => ?_)
  refine KT.nil ?_
  refine SX.seq ?_
  refine SC.cond (b := r3) rfl ?_ ?_
  refine SC.seq ?_
  refine SC.region' ?_
  refine KT.pv 6 (.pointer none) ?_
  refine KT.pv 7 (.int .i64 11) ?_
  refine KT.nil ?_
  refine SX.seq ?_
  refine SC.ret ?_
  refine SX.then_ret ?_
  refine SX.ret [.tmp 6, .tmp 7] rfl ?_
  refine RS.tmp (.pointer none) rfl ?_
  refine RS.tmp (.int .i64 11) rfl ?_
  exact RS.nil rfl
  refine SC.skip ?_
  refine SX.seq ?_
  refine SC.seq ?_
  refine SC.region' ?_
  refine KT.pv 35 (.pointer p0_r) ?_
  refine KT.nm 36 (fun x36 => ?_)
  refine KT.pv 37 (.pointer (some x36)) ?_
  refine KT.l 38 (fun x38 => ?_)
  refine KT.pv 39 (.int .i64 p1_k) ?_
  refine KT.oy rfl (OY.idx (d := 40) (s := x38) (i := p1_k) (size := 1) (elem := 111) _ _ _ rfl rfl rfl (by kernel_rfl) (by kernel_rfl) rfl rfl (fun x40 => ?_))
  refine KT.l 41 (fun x41 => ?_)
  refine KT.pv 6 (.pointer x41) ?_
  refine KT.pv 7 (.int .i64 0) ?_
  refine KT.nil ?_
  refine SX.seq ?_
  refine SC.ret ?_
  refine SX.ret [.tmp 6, .tmp 7] rfl ?_
  refine RS.tmp (.pointer x41) rfl ?_
  refine RS.tmp (.int .i64 0) rfl ?_
  exact RS.nil rfl
  refine KT.ite (b := r2) 27 rfl ?_ ?_
  refine KT.sk ?_
  refine KT.sk ?_
  refine KT.sk ?_
  refine KT.sk ?_
  refine KT.sk ?_
  refine KT.sk ?_
  refine KT.pv 34 (.bool true) ?_
  exact KT.leafO j3 (.cons rfl (.cons rfl (.cons rfl (.nil))))
  refine KT.pv 28 (.int .i64 p2_sector) ?_
  refine KT.pv 29 (.pointer p0_r) ?_
  refine KT.nm 30 (fun x30 => ?_)
  refine KT.pv 31 (.pointer (some (Addr.add x30 1))) ?_
  refine KT.l 32 (fun x32 => ?_)
  refine KT.pv 33 (.bool (decide (p2_sector ≥ x32))) ?_
  refine KT.pv 34 (.bool (decide (p2_sector ≥ x32))) ?_
  exact KT.leafO j3 (.cons rfl (.cons rfl (.cons rfl (.nil))))
  refine KT.ite (b := r1) 23 rfl ?_ ?_
  refine KT.sk ?_
  refine KT.sk ?_
  refine KT.pv 26 (.bool true) ?_
  exact KT.leafO j2 (.cons rfl (.cons rfl (.cons rfl (.cons rfl (.nil)))))
  refine KT.pv 24 (.int .i64 p2_sector) ?_
  refine KT.pv 25 (.bool (decide (p2_sector < 0))) ?_
  refine KT.pv 26 (.bool (decide (p2_sector < 0))) ?_
  exact KT.leafO j2 (.cons rfl (.cons rfl (.cons rfl (.cons rfl (.nil)))))
  refine KT.ite (b := decide (p1_k < 0)) 14 rfl ?_ ?_
  refine KT.sk ?_
  refine KT.sk ?_
  refine KT.sk ?_
  refine KT.sk ?_
  refine KT.sk ?_
  refine KT.sk ?_
  refine KT.sk ?_
  refine KT.pv 22 (.bool true) ?_
  exact KT.leafO j1 (.cons rfl (.cons rfl (.cons rfl (.cons rfl (.nil)))))
  refine KT.pv 15 (.int .i64 p1_k) ?_
  refine KT.pv 16 (.pointer p0_r) ?_
  refine KT.nm 17 (fun x17 => ?_)
  refine KT.pv 18 (.pointer (some x17)) ?_
  refine KT.l 19 (fun x19 => ?_)
  refine KT.pv 20 (.int .i64 ((x19.len : Nat) : Int)) ?_
  refine KT.pv 21 (.bool (decide (p1_k ≥ ((x19.len : Nat) : Int)))) ?_
  refine KT.pv 22 (.bool (decide (p1_k ≥ ((x19.len : Nat) : Int)))) ?_
  exact KT.leafO j1 (.cons rfl (.cons rfl (.cons rfl (.cons rfl (.nil)))))

set_option maxRecDepth 100000 in
theorem slices_Clone_b_sim (p0_s : Slc) (Qf : Slc → World → Prop) (w : World) (hm : slices_Clone_b p0_s Qf w) : Calls Try.prog 71 #[(.slice p0_s.base p0_s.len p0_s.cap)] w (RetPost vS Qf) := by
  refine calls_of (fn := Try.f71) (l := [(.slice p0_s.base p0_s.len p0_s.cap)]) (m := slices_Clone_b p0_s) 8 (by kernel_rfl) rfl rfl rfl (fun Qf0 => ?_) Qf w hm
  clear hm w Qf
  unfold slices_Clone_b
  refine SC.seq ?_
  refine SC.region' ?_
  refine KT.pv 2 (.slice none 0 0) ?_
  refine KT.nil ?_
  refine SX.seq ?_
  refine SC.seq ?_
  refine SC.seq ?_
  refine SC.region' ?_
  refine KT.pv 3 (.slice p0_s.base p0_s.len p0_s.cap) ?_
  refine KT.oy rfl (OY.eqlSl (d := 4) (s := p0_s) _ _ _ _ 5 rfl rfl rfl (by kernel_rfl) rfl rfl ?_)
  refine KT.nil ?_
  refine SX.seq ?_
  refine SC.cond (b := p0_s.base.isNone) rfl ?_ ?_
  refine SC.seq ?_
  refine SC.region' ?_
  refine KT.pv 2 (.slice none 0 0) ?_
  refine KT.nil ?_
  refine SX.seq ?_
  refine SC.ret ?_
  refine SX.then_ret ?_
  refine SX.ret [.tmp 2] rfl ?_
  refine RS.tmp (.slice none 0 0) rfl ?_
  exact RS.nil rfl
  refine SC.skip ?_
  refine SX.seq ?_
  refine SC.seq ?_
  refine SC.region' ?_
  refine KT.nw 5 (fun ad => .slice (some ad) 0 0) 5 (fun x5 => ?_)
  refine KT.pv 6 (.slice p0_s.base p0_s.len p0_s.cap) ?_
  refine KT.ow rfl (OW.append (d := 7) (s := ⟨some x5, 0, 0⟩) (x := p0_s) [(.int .u8 0)] 1 5 _ _ _ _ rfl rfl rfl rfl (by kernel_rfl) (by kernel_rfl) rfl rfl rfl (fun x7 => ?_))
  refine KT.pv 2 (.slice x7.base x7.len x7.cap) ?_
  refine KT.nil ?_
  refine SX.seq ?_
  refine SC.ret ?_
  refine SX.ret [.tmp 2] rfl ?_
  refine RS.tmp (.slice x7.base x7.len x7.cap) rfl ?_
  exact RS.nil rfl

set_option maxRecDepth 100000 in
theorem device_Rack_Read_sim (p0_r : (Option Addr)) (p1_disk : Int) (p2_sector : Int) (Qf : (Slc × Int) → World → Prop) (w : World) (hm : device_Rack_Read p0_r p1_disk p2_sector Qf w) : Calls Try.prog 29 #[(.pointer p0_r), (.int .i64 p1_disk), (.int .i64 p2_sector)] w (RetPost (fun y : (Slc × Int) => (.tuple #[(.slice y.1.base y.1.len y.1.cap), (.int .i64 y.2)])) Qf) := by
  refine calls_of (fn := Try.f29) (l := [(.pointer p0_r), (.int .i64 p1_disk), (.int .i64 p2_sector)]) (m := device_Rack_Read p0_r p1_disk p2_sector) 46 (by kernel_rfl) rfl rfl rfl (fun Qf0 => ?_) Qf w hm
  clear hm w Qf
  unfold device_Rack_Read
  refine SC.seq ?_
  refine SC.region' ?_
  refine KT.pv 6 (.slice none 0 0) ?_
  refine KT.pv 7 (.int .i64 0) ?_
  refine KT.nil ?_
  refine SX.seq ?_
  refine SC.seq ?_
  refine SC.region' ?_
  refine KT.pv 13 (.pointer p0_r) ?_
  refine KT.pv 14 (.int .i64 p1_disk) ?_
  refine KT.pv 15 (.int .i64 p2_sector) ?_
  refine KT.cl (fun y : ((Option Addr) × Int) => (.tuple #[(.pointer y.1), (.int .i64 y.2)])) 16 70 #[(.pointer p0_r), (.int .i64 p1_disk), (.int .i64 p2_sector)] (device_Rack_disk_sim p0_r p1_disk p2_sector) (fun x16 => ?_)
  refine KT.pv 12 (.tuple #[(.pointer x16.1), (.int .i64 x16.2)]) ?_
  refine KT.pv 17 (.pointer x16.1) ?_
  refine KT.pv 18 (.int .i64 x16.2) ?_
  refine KT.pv 8 (.pointer x16.1) ?_
  refine KT.pv 9 (.int .i64 x16.2) ?_
  refine KT.nil ?_
  refine SX.seq ?_
  refine SC.seq ?_
  refine SC.seq ?_
  refine SC.region' ?_
  refine KT.pv 19 (.int .i64 x16.2) ?_
  refine KT.pv 20 (.bool (x16.2 != 0)) ?_
  refine KT.nil ?_
  refine SX.seq ?_
  refine SC.cond (b := x16.2 != 0) rfl ?_ ?_
  refine SC.seq ?_
  refine SC.region' ?_
  refine KT.pv 21 (.int .i64 x16.2) ?_
  refine KT.pv 6 (.slice none 0 0) ?_
  refine KT.pv 7 (.int .i64 x16.2) ?_
  refine KT.nil ?_
  refine SX.seq ?_
  refine SC.ret ?_
  refine SX.then_ret ?_
  refine SX.ret [.tmp 6, .tmp 7] rfl ?_
  refine RS.tmp (.slice none 0 0) rfl ?_
  refine RS.tmp (.int .i64 x16.2) rfl ?_
  exact RS.nil rfl
  refine SC.skip ?_
  refine SX.seq ?_
  refine SC.seq ?_
  refine SC.seq ?_
  refine SC.region' ?_
  refine KT.pv 22 (.pointer x16.1) ?_
  refine KT.nm 23 (fun x23 => ?_)
  refine KT.pv 24 (.pointer (some (Addr.add x23 2))) ?_
  refine KT.l 25 (fun x25 => ?_)
  refine KT.nil ?_
  refine SX.seq ?_
  refine SC.cond (b := x25) rfl ?_ ?_
  refine SC.seq ?_
  refine SC.region' ?_
  refine KT.pv 6 (.slice none 0 0) ?_
  refine KT.pv 7 (.int .i64 13) ?_
  refine KT.nil ?_
  refine SX.seq ?_
  refine SC.ret ?_
  refine SX.then_ret ?_
  refine SX.ret [.tmp 6, .tmp 7] rfl ?_
  refine RS.tmp (.slice none 0 0) rfl ?_
  refine RS.tmp (.int .i64 13) rfl ?_
  exact RS.nil rfl
  refine SC.skip ?_
  refine SX.seq ?_
  refine SC.seq ?_
  refine SC.seq ?_
  refine SC.region' ?_
  refine KT.pv 27 (.pointer x16.1) ?_
  refine KT.nm 28 (fun x28 => ?_)
  refine KT.pv 29 (.pointer (some (Addr.add x28 1))) ?_
  refine KT.l 30 (fun x30 => ?_)
  refine KT.pv 31 (.int .i64 p2_sector) ?_
  refine KT.ow rfl (OW.lookOk (d := 32) (enc := vS) (⟨none, 0, 0⟩) 3 46 .i64 _ _ _ rfl rfl rfl (by kernel_rfl) (by kernel_rfl) (by kernel_rfl) rfl rfl (fun x32 => ?_))
  refine KT.pv 26 (.tuple #[(.slice x32.1.base x32.1.len x32.1.cap), (.bool x32.2)]) ?_
  refine KT.pv 33 (.slice x32.1.base x32.1.len x32.1.cap) ?_
  refine KT.pv 34 (.bool x32.2) ?_
  refine KT.pv 10 (.slice x32.1.base x32.1.len x32.1.cap) ?_
  refine KT.pv 11 (.bool x32.2) ?_
  refine KT.nil ?_
  refine SX.sub (T' := [(2, (.int .i64 p2_sector)), (8, (.pointer x16.1)), (10, (.slice x32.1.base x32.1.len x32.1.cap)), (11, (.bool x32.2))]) (.cons rfl (.cons rfl (.cons rfl (.cons rfl (.nil))))) ?_
  refine SX.seq ?_
  refine SC.seq ?_
  refine SC.region' ?_
  refine KT.pv 35 (.bool x32.2) ?_
  refine KT.nil ?_
  refine SX.seq ?_
  refine SC.cond (b := x32.2) rfl ?_ ?_
  refine SC.seq ?_
  refine SC.region' ?_
  refine KT.pv 36 (.slice x32.1.base x32.1.len x32.1.cap) ?_
  refine KT.cl vS 37 71 #[(.slice x32.1.base x32.1.len x32.1.cap)] (slices_Clone_b_sim x32.1) (fun x37 => ?_)
  refine KT.pv 6 (.slice x37.base x37.len x37.cap) ?_
  refine KT.pv 7 (.int .i64 0) ?_
  refine KT.nil ?_
  refine SX.seq ?_
  refine SC.ret ?_
  refine SX.then_ret ?_
  refine SX.ret [.tmp 6, .tmp 7] rfl ?_
  refine RS.tmp (.slice x37.base x37.len x37.cap) rfl ?_
  refine RS.tmp (.int .i64 0) rfl ?_
  exact RS.nil rfl
  refine SC.skip ?_
  refine SX.seq ?_
  refine SC.seq ?_
  refine SC.region' ?_
  refine KT.pv 38 (.pointer x16.1) ?_
  refine KT.nm 39 (fun x39 => ?_)
  refine KT.pv 40 (.pointer (some x39)) ?_
  refine KT.l 41 (fun x41 => ?_)
  refine KT.pv 42 (.int .i64 p2_sector) ?_
  refine KT.oy rfl (OY.idx (d := 43) (s := x41) (i := p2_sector) (size := 1) (elem := 46) _ _ _ rfl rfl rfl (by kernel_rfl) (by kernel_rfl) rfl rfl (fun x43 => ?_))
  refine KT.l 44 (fun x44 => ?_)
  refine KT.cl vS 45 71 #[(.slice x44.base x44.len x44.cap)] (slices_Clone_b_sim x44) (fun x45 => ?_)
  refine KT.pv 6 (.slice x45.base x45.len x45.cap) ?_
  refine KT.pv 7 (.int .i64 0) ?_
  refine KT.nil ?_
  refine SX.seq ?_
  refine SC.ret ?_
  refine SX.ret [.tmp 6, .tmp 7] rfl ?_
  refine RS.tmp (.slice x45.base x45.len x45.cap) rfl ?_
  refine RS.tmp (.int .i64 0) rfl ?_
  exact RS.nil rfl

set_option maxRecDepth 100000 in
theorem device_Rack_call_sim (p0_r : (Option Addr)) (Qf : Bool → World → Prop) (w : World) (hm : device_Rack_call p0_r Qf w) : Calls Try.prog 113 #[(.pointer p0_r)] w (RetPost Value.bool Qf) := by
  refine calls_of (fn := Try.f113) (l := [(.pointer p0_r)]) (m := device_Rack_call p0_r) 55 (by kernel_rfl) rfl rfl rfl (fun Qf0 => ?_) Qf w hm
  clear hm w Qf
  unfold device_Rack_call
  refine SC.seq ?_
  refine SC.region' ?_
  refine KT.pv 2 (.bool false) ?_
  refine KT.nil ?_
  refine SX.seq ?_
  refine SC.seq ?_
  refine SC.seq ?_
  refine SC.region' ?_
  refine KT.pv 5 (.pointer p0_r) ?_
  refine KT.nm 6 (fun x6 => ?_)
  refine KT.pv 7 (.pointer (some (Addr.add x6 2))) ?_
  refine KT.l 8 (fun x8 => ?_)
  refine KT.pv 9 (.bool (x8 == 0)) ?_
  refine KT.nil ?_
  refine SX.seq ?_
  refine SC.cond (b := x8 == 0) rfl ?_ ?_
  refine SC.seq ?_
  refine SC.region' ?_
  refine KT.pv 10 (.pointer p0_r) ?_
  refine KT.nm 11 (fun x11 => ?_)
  refine KT.pv 12 (.pointer (some (Addr.add x11 3))) ?_
  refine KT.s ?_
  refine KT.nil ?_
  refine SX.seq ?_
  refine SC.seq ?_
  refine SC.region' ?_
  refine KT.pv 2 (.bool false) ?_
  refine KT.nil ?_
  refine SX.seq ?_
  refine SC.ret ?_
  refine SX.then_ret ?_
  refine SX.ret [.tmp 2] rfl ?_
  refine RS.tmp (.bool false) rfl ?_
  exact RS.nil rfl
  refine SC.skip ?_
  refine SX.seq ?_
  refine SC.seq ?_
  refine SC.region' ?_
  refine KT.pv 13 (.pointer p0_r) ?_
  refine KT.pv 14 (.pointer p0_r) ?_
  refine KT.nm 15 (fun x15 => ?_)
  refine KT.pv 16 (.pointer (some (Addr.add x15 2))) ?_
  refine KT.l 17 (fun x17 => ?_)
  refine KT.pv 18 (.int .i64 (w64 (x17 - 1))) ?_
  refine KT.pv 19 (.int .i64 (maxI (w64 (x17 - 1)) (-1))) ?_
  refine KT.nm 20 (fun x20 => ?_)
  refine KT.pv 21 (.pointer (some (Addr.add x20 2))) ?_
  refine KT.s ?_
  refine KT.nil ?_
  refine SX.seq ?_
  refine SC.seq ?_
  refine SC.seq ?_
  refine SC.region' ?_
  refine KT.pv 22 (.pointer p0_r) ?_
  refine KT.nm 23 (fun x23 => ?_)
  refine KT.pv 24 (.pointer (some x23)) ?_
  refine KT.l 25 (fun x25 => ?_)
  refine KT.pv 26 (.int .i64 ((x25.len : Nat) : Int)) ?_
  refine KT.pv 27 (.int .i64 0) ?_
  refine KT.nil ?_
  refine SX.seq ?_
  refine SC.block ?_
  refine SC.loop (σ := (Int)) (fun s1 => [(25, (.slice x25.base x25.len x25.cap)), (26, (.int .i64 ((x25.len : Nat) : Int))), (27, (.int .i64 s1))]) (.cons rfl (.cons rfl (.cons rfl (.nil)))) (fun _ _ _ s1 => ?_)
  refine SC.seq ?_
  refine SC.region' ?_
  refine KT.pv 28 (.bool (decide (s1 < ((x25.len : Nat) : Int)))) ?_
  refine KT.nil ?_
  refine SX.seq ?_
  refine SC.seq ?_
  refine SC.cond (b := decide (s1 < ((x25.len : Nat) : Int))) rfl ?_ ?_
  refine SC.skip ?_
  refine SX.seq ?_
  refine SC.seq ?_
  refine SC.block ?_
  refine SC.seq ?_
  refine SC.region' ?_
  refine KT.oy rfl (OY.idx (d := 29) (s := x25) (i := s1) (size := 1) (elem := 111) _ _ _ rfl rfl rfl (by kernel_rfl) (by kernel_rfl) rfl rfl (fun x29 => ?_))
  refine KT.l 30 (fun x30 => ?_)
  refine KT.pv 4 (.pointer x30) ?_
  refine KT.nil ?_
  refine SX.seq ?_
  refine SC.seq ?_
  refine SC.region' ?_
  refine KT.pv 31 (.pointer x30) ?_
  refine KT.pv 32 (.pointer x30) ?_
  refine KT.nm 33 (fun x33 => ?_)
  refine KT.pv 34 (.pointer (some (Addr.add x33 2))) ?_
  refine KT.l 35 (fun x35 => ?_)
  refine KT.pv 36 (.bool x35) ?_
  refine KT.joinO (β := Bool) 6 (fun r2 => [(42, (.bool r2)), (4, (.pointer x30)), (25, (.slice x25.base x25.len x25.cap)), (26, (.int .i64 ((x25.len : Nat) : Int))), (27, (.int .i64 s1)), (31, (.pointer x30))]) (fun r2 => ?_) (fun j2 => ?_)
  refine KT.nm 43 (fun x43 => ?_)
  refine KT.pv 44 (.pointer (some (Addr.add x43 2))) ?_
  refine KT.s ?_
  refine KT.nil ?_
  refine SX.seq ?_
  refine SC.region' ?_
  refine KT.pv 45 (.pointer x30) ?_
  refine KT.pv 46 (.pointer x30) ?_
  refine KT.nm 47 (fun x47 => ?_)
  refine KT.pv 48 (.pointer (some (Addr.add x47 3))) ?_
  refine KT.l 49 (fun x49 => ?_)
  refine KT.pv 50 (.int .i64 (w64 (x49 - 1))) ?_
  refine KT.pv 51 (.int .i64 (maxI (w64 (x49 - 1)) (-1))) ?_
  refine KT.nm 52 (fun x52 => ?_)
  refine KT.pv 53 (.pointer (some (Addr.add x52 3))) ?_
  refine KT.s ?_
  refine KT.nil ?_
  refine SX.block ?_
  refine SX.seq ?_
  refine SC.region' ?_
  refine KT.pv 54 (.int .i64 (w64 (s1 + 1))) ?_
  refine KT.pv 27 (.int .i64 (w64 (s1 + 1))) ?_
  refine KT.nil ?_
  exact SX.loop_next (.cons rfl (.cons rfl (.cons rfl (.nil))))
  refine KT.ite (b := x35) 36 rfl ?_ ?_
  refine KT.sk ?_
  refine KT.sk ?_
  refine KT.sk ?_
  refine KT.sk ?_
  refine KT.sk ?_
  refine KT.pv 42 (.bool true) ?_
  exact KT.leafO j2 (.cons rfl (.cons rfl (.cons rfl (.cons rfl (.cons rfl (.cons rfl (.nil)))))))
  refine KT.pv 37 (.pointer x30) ?_
  refine KT.nm 38 (fun x38 => ?_)
  refine KT.pv 39 (.pointer (some (Addr.add x38 3))) ?_
  refine KT.l 40 (fun x40 => ?_)
  refine KT.pv 41 (.bool (x40 == 0)) ?_
  refine KT.pv 42 (.bool (x40 == 0)) ?_
  exact KT.leafO j2 (.cons rfl (.cons rfl (.cons rfl (.cons rfl (.cons rfl (.cons rfl (.nil)))))))
  refine SC.exit ?_
  refine SX.then_exit ?_
  refine SX.loop_exit ?_
  refine SX.block_hit ?_
  refine SX.seq ?_
  refine SC.seq ?_
  refine SC.region' ?_
  refine KT.pv 2 (.bool true) ?_
  refine KT.nil ?_
  refine SX.seq ?_
  refine SC.ret ?_
  refine SX.ret [.tmp 2] rfl ?_
  refine RS.tmp (.bool true) rfl ?_
  exact RS.nil rfl

set_option maxRecDepth 100000 in
theorem device_Rack_counted_sim (p0_r : (Option Addr)) (p1_k : Int) (p2_sector : Int) (p3_size : Int) (Qf : ((Option Addr) × Int) → World → Prop) (w : World) (hm : device_Rack_counted p0_r p1_k p2_sector p3_size Qf w) : Calls Try.prog 73 #[(.pointer p0_r), (.int .i64 p1_k), (.int .i64 p2_sector), (.int .i64 p3_size)] w (RetPost (fun y : ((Option Addr) × Int) => (.tuple #[(.pointer y.1), (.int .i64 y.2)])) Qf) := by
  refine calls_of (fn := Try.f73) (l := [(.pointer p0_r), (.int .i64 p1_k), (.int .i64 p2_sector), (.int .i64 p3_size)]) (m := device_Rack_counted p0_r p1_k p2_sector p3_size) 36 (by kernel_rfl) rfl rfl rfl (fun Qf0 => ?_) Qf w hm
  clear hm w Qf
  unfold device_Rack_counted
  refine SC.seq ?_
  refine SC.region' ?_
  refine KT.pv 8 (.pointer none) ?_
  refine KT.pv 9 (.int .i64 0) ?_
  refine KT.nil ?_
  refine SX.seq ?_
  refine SC.seq ?_
  refine SC.region' ?_
  refine KT.pv 13 (.pointer p0_r) ?_
  refine KT.pv 14 (.int .i64 p1_k) ?_
  refine KT.pv 15 (.int .i64 p2_sector) ?_
  refine KT.cl (fun y : ((Option Addr) × Int) => (.tuple #[(.pointer y.1), (.int .i64 y.2)])) 16 70 #[(.pointer p0_r), (.int .i64 p1_k), (.int .i64 p2_sector)] (device_Rack_disk_sim p0_r p1_k p2_sector) (fun x16 => ?_)
  refine KT.pv 12 (.tuple #[(.pointer x16.1), (.int .i64 x16.2)]) ?_
  refine KT.pv 17 (.pointer x16.1) ?_
  refine KT.pv 18 (.int .i64 x16.2) ?_
  refine KT.pv 10 (.pointer x16.1) ?_
  refine KT.pv 11 (.int .i64 x16.2) ?_
  refine KT.nil ?_
  refine SX.seq ?_
  refine SC.seq ?_
  refine SC.block ?_
  refine SC.seq ?_
  refine SC.region' ?_
  refine KT.pv 20 (.int .i64 x16.2) ?_
  refine KT.pv 21 (.bool (x16.2 != 0)) ?_
  refine KT.pv 19 (.bool (x16.2 != 0)) ?_
  refine KT.nil ?_
  refine SX.seq ?_
  refine SC.cond (b := x16.2 != 0) rfl ?_ ?_
  refine SC.seq ?_
  refine SC.region' ?_
  refine KT.pv 22 (.int .i64 x16.2) ?_
  refine KT.pv 8 (.pointer none) ?_
  refine KT.pv 9 (.int .i64 x16.2) ?_
  refine KT.nil ?_
  refine SX.seq ?_
  refine SC.ret ?_
  refine SX.block_ret ?_
  refine SX.then_ret ?_
  refine SX.ret [.tmp 8, .tmp 9] rfl ?_
  refine RS.tmp (.pointer none) rfl ?_
  refine RS.tmp (.int .i64 x16.2) rfl ?_
  exact RS.nil rfl
  refine SC.seq ?_
  refine SC.region' ?_
  refine KT.pv 24 (.int .i64 p3_size) ?_
  refine KT.pv 25 (.bool (p3_size != 64)) ?_
  refine KT.pv 23 (.bool (p3_size != 64)) ?_
  refine KT.nil ?_
  refine SX.seq ?_
  refine SC.cond (b := p3_size != 64) rfl ?_ ?_
  refine SC.seq ?_
  refine SC.region' ?_
  refine KT.pv 8 (.pointer none) ?_
  refine KT.pv 9 (.int .i64 11) ?_
  refine KT.nil ?_
  refine SX.seq ?_
  refine SC.ret ?_
  refine SX.block_ret ?_
  refine SX.then_ret ?_
  refine SX.ret [.tmp 8, .tmp 9] rfl ?_
  refine RS.tmp (.pointer none) rfl ?_
  refine RS.tmp (.int .i64 11) rfl ?_
  exact RS.nil rfl
  refine SC.seq ?_
  refine SC.region' ?_
  refine KT.pv 27 (.pointer p0_r) ?_
  refine KT.cl Value.bool 28 113 #[(.pointer p0_r)] (device_Rack_call_sim p0_r) (fun x28 => ?_)
  refine KT.pv 29 (.bool (!x28)) ?_
  refine KT.pv 26 (.bool (!x28)) ?_
  refine KT.nil ?_
  refine SX.seq ?_
  refine SC.cond (b := !x28) rfl ?_ ?_
  refine SC.seq ?_
  refine SC.region' ?_
  refine KT.pv 8 (.pointer none) ?_
  refine KT.pv 9 (.int .i64 12) ?_
  refine KT.nil ?_
  refine SX.seq ?_
  refine SC.ret ?_
  refine SX.block_ret ?_
  refine SX.then_ret ?_
  refine SX.ret [.tmp 8, .tmp 9] rfl ?_
  refine RS.tmp (.pointer none) rfl ?_
  refine RS.tmp (.int .i64 12) rfl ?_
  exact RS.nil rfl
  refine SC.seq ?_
  refine SC.region' ?_
  refine KT.pv 31 (.pointer x16.1) ?_
  refine KT.nm 32 (fun x32 => ?_)
  refine KT.pv 33 (.pointer (some (Addr.add x32 2))) ?_
  refine KT.l 34 (fun x34 => ?_)
  refine KT.pv 30 (.bool x34) ?_
  refine KT.nil ?_
  refine SX.sub (T' := [(10, (.pointer x16.1)), (30, (.bool x34))]) (.cons rfl (.cons rfl (.nil))) ?_
  refine SX.seq ?_
  refine SC.cond (b := x34) rfl ?_ ?_
  refine SC.seq ?_
  refine SC.region' ?_
  refine KT.pv 8 (.pointer none) ?_
  refine KT.pv 9 (.int .i64 13) ?_
  refine KT.nil ?_
  refine SX.seq ?_
  refine SC.ret ?_
  refine SX.block_ret ?_
  refine SX.then_ret ?_
  refine SX.ret [.tmp 8, .tmp 9] rfl ?_
  refine RS.tmp (.pointer none) rfl ?_
  refine RS.tmp (.int .i64 13) rfl ?_
  exact RS.nil rfl
  refine SC.skip ?_
  refine SX.block ?_
  refine SX.seq ?_
  refine SC.seq ?_
  refine SC.region' ?_
  refine KT.pv 35 (.pointer x16.1) ?_
  refine KT.pv 8 (.pointer x16.1) ?_
  refine KT.pv 9 (.int .i64 0) ?_
  refine KT.nil ?_
  refine SX.seq ?_
  refine SC.ret ?_
  refine SX.ret [.tmp 8, .tmp 9] rfl ?_
  refine RS.tmp (.pointer x16.1) rfl ?_
  refine RS.tmp (.int .i64 0) rfl ?_
  exact RS.nil rfl

set_option maxRecDepth 100000 in
theorem device_Rack_Write_sim (p0_r : (Option Addr)) (p1_disk : Int) (p2_sector : Int) (p3_b : Slc) (Qf : Int → World → Prop) (w : World) (hm : device_Rack_Write p0_r p1_disk p2_sector p3_b Qf w) : Calls Try.prog 39 #[(.pointer p0_r), (.int .i64 p1_disk), (.int .i64 p2_sector), (.slice p3_b.base p3_b.len p3_b.cap)] w (RetPost (Value.int .i64) Qf) := by
  refine calls_of (fn := Try.f39) (l := [(.pointer p0_r), (.int .i64 p1_disk), (.int .i64 p2_sector), (.slice p3_b.base p3_b.len p3_b.cap)]) (m := device_Rack_Write p0_r p1_disk p2_sector p3_b) 30 (by kernel_rfl) rfl rfl rfl (fun Qf0 => ?_) Qf w hm
  clear hm w Qf
  unfold device_Rack_Write
  refine SC.seq ?_
  refine SC.region' ?_
  refine KT.pv 8 (.int .i64 0) ?_
  refine KT.nil ?_
  refine SX.seq ?_
  refine SC.seq ?_
  refine SC.region' ?_
  refine KT.pv 12 (.pointer p0_r) ?_
  refine KT.pv 13 (.int .i64 p1_disk) ?_
  refine KT.pv 14 (.int .i64 p2_sector) ?_
  refine KT.pv 15 (.slice p3_b.base p3_b.len p3_b.cap) ?_
  refine KT.pv 16 (.int .i64 ((p3_b.len : Nat) : Int)) ?_
  refine KT.cl (fun y : ((Option Addr) × Int) => (.tuple #[(.pointer y.1), (.int .i64 y.2)])) 17 73 #[(.pointer p0_r), (.int .i64 p1_disk), (.int .i64 p2_sector), (.int .i64 ((p3_b.len : Nat) : Int))] (device_Rack_counted_sim p0_r p1_disk p2_sector ((p3_b.len : Nat) : Int)) (fun x17 => ?_)
  refine KT.pv 11 (.tuple #[(.pointer x17.1), (.int .i64 x17.2)]) ?_
  refine KT.pv 18 (.pointer x17.1) ?_
  refine KT.pv 19 (.int .i64 x17.2) ?_
  refine KT.pv 9 (.pointer x17.1) ?_
  refine KT.pv 10 (.int .i64 x17.2) ?_
  refine KT.nil ?_
  refine SX.seq ?_
  refine SC.seq ?_
  refine SC.seq ?_
  refine SC.region' ?_
  refine KT.pv 20 (.int .i64 x17.2) ?_
  refine KT.pv 21 (.bool (x17.2 == 0)) ?_
  refine KT.nil ?_
  refine SX.seq ?_
  refine SC.cond (b := x17.2 == 0) rfl ?_ ?_
  refine SC.draw 8 (fun f => Nat.beq f 7) rfl (by kernel_rfl) (fun S1 => ?_)
  refine KT.pvA 0 22 (.pointer x17.1) ?_
  refine KT.tp 1 (OY.nil (d := 23) (p := x17.1) _ rfl rfl rfl rfl (fun x23 => ?_))
  refine KT.pvA 2 24 (.pointer (some (Addr.add x23 1))) ?_
  refine KT.tk 3 (OY.ldI (d := 25) _ _ rfl rfl (by kernel_rfl) rfl rfl (fun x25 => ?_))
  refine KT.pvA 4 26 (.int .i64 p2_sector) ?_
  refine KT.pvA 5 27 (.slice p3_b.base p3_b.len p3_b.cap) ?_
  refine KT.one 6 rfl (by kernel_rfl) rfl (OW.step (OW.call (d := 28) (enc := vS) 71 #[(.slice p3_b.base p3_b.len p3_b.cap)] rfl (fun _ => by kernel_rfl) (fun Qf w => slices_Clone_b_sim p3_b Qf w) rfl rfl (fun x28 => ?_)))
  refine KT.and ?_
  refine KT.last 7 rfl (by kernel_rfl) rfl rfl (OW.upd 3 46 .i64 _ _ _ _ rfl rfl rfl rfl (by kernel_rfl) (by kernel_rfl) rfl ?_)
  refine KT.doneN (by kernel_rfl) ?_
  refine SX.seq ?_
  refine SC.seq ?_
  refine SC.region' ?_
  refine KT.pv 29 (.int .i64 x17.2) ?_
  refine KT.pv 8 (.int .i64 x17.2) ?_
  refine KT.nil ?_
  refine SX.seq ?_
  refine SC.ret ?_
  refine SX.ret [.tmp 8] rfl ?_
  refine RS.tmp (.int .i64 x17.2) rfl ?_
  exact RS.nil rfl
  refine SC.skip ?_
  refine SX.seq ?_
  refine SC.seq ?_
  refine SC.region' ?_
  refine KT.pv 29 (.int .i64 x17.2) ?_
  refine KT.pv 8 (.int .i64 x17.2) ?_
  refine KT.nil ?_
  refine SX.seq ?_
  refine SC.ret ?_
  refine SX.ret [.tmp 8] rfl ?_
  refine RS.tmp (.int .i64 x17.2) rfl ?_
  exact RS.nil rfl

set_option maxRecDepth 100000 in
theorem slices_AppendSeq_i_sim (p0_s : Slc) (p1_seq : Value) (Qf : Slc → World → Prop) (w : World) (hm : slices_AppendSeq_i (cvOf Try.prog) p0_s p1_seq Qf w) : Calls Try.prog 133 #[(.slice p0_s.base p0_s.len p0_s.cap), p1_seq] w (RetPost vS Qf) := by
  refine calls_of (fn := Try.f133) (l := [(.slice p0_s.base p0_s.len p0_s.cap), p1_seq]) (m := slices_AppendSeq_i (cvOf Try.prog) p0_s p1_seq) 13 (by kernel_rfl) rfl rfl rfl (fun Qf0 => ?_) Qf w hm
  clear hm w Qf
  unfold slices_AppendSeq_i
  refine SC.seq ?_
  refine SC.region' ?_
  refine KT.nw 2 (fun ad => .pointer (some ad)) 33 (fun x2 => ?_)
  refine KT.pv 4 (.slice none 0 0) ?_
  refine KT.nil ?_
  refine SX.seq ?_
  refine SC.seq ?_
  refine SC.seq ?_
  refine SC.region' ?_
  refine KT.pv 6 p1_seq ?_
  refine KT.nil ?_
  refine SX.seq ?_
  refine SC.block ?_
  refine SC.rangeF (ξ := (Int)) (τ := (Int)) (fv := p1_seq) (ps := [7]) (encX := (fun x_1 : (Int) => [(.int .i64 x_1)])) (fun t_1 => [(2, (.pointer (some x2))), (5, (.int .i64 t_1))]) rfl (fun _ => rfl) rfl (fun _ x_1 _ _ h1 => ?_) (fun _ _ _ t_1 => ?_) (fun D1 => ?_) (fun D1 => ?_) (fun D1 i1 => ?_)
  refine SC.region' ?_
  refine KT.pv 5 (.int .i64 x_1) ?_
  refine KT.nil ?_
  exact SX.leafP h1 (.cons rfl (.cons rfl (.nil)))
  refine SC.block ?_
  refine SC.region' ?_
  refine KT.l 8 (fun x8 => ?_)
  refine KT.pv 9 (.int .i64 t_1) ?_
  refine KT.nw 10 (fun ad => .slice (some ad) 1 1) 3 (fun x10 => ?_)
  refine KT.ow rfl (OW.append (d := 11) (s := x8) (x := ⟨some x10, 1, 1⟩) [(.int .i64 0)] 8 3 _ _ _ _ rfl rfl rfl rfl (by kernel_rfl) (by kernel_rfl) rfl rfl rfl (fun x11 => ?_))
  refine KT.s ?_
  refine KT.nil ?_
  refine SX.block ?_
  exact SX.round_next
  refine SX.block ?_
  refine SX.seq ?_
  refine SC.seq ?_
  refine SC.region' ?_
  refine KT.l 12 (fun x12 => ?_)
  refine KT.pv 4 (.slice x12.base x12.len x12.cap) ?_
  refine KT.nil ?_
  refine SX.seq ?_
  refine SC.ret ?_
  refine SX.ret [.tmp 4] rfl ?_
  refine RS.tmp (.slice x12.base x12.len x12.cap) rfl ?_
  exact RS.nil rfl
  exact SX.fail
  exact SX.fail

set_option maxRecDepth 100000 in
theorem slices_Collect_i_sim (p0_seq : Value) (Qf : Slc → World → Prop) (w : World) (hm : slices_Collect_i (cvOf Try.prog) p0_seq Qf w) : Calls Try.prog 114 #[p0_seq] w (RetPost vS Qf) := by
  refine calls_of (fn := Try.f114) (l := [p0_seq]) (m := slices_Collect_i (cvOf Try.prog) p0_seq) 5 (by kernel_rfl) rfl rfl rfl (fun Qf0 => ?_) Qf w hm
  clear hm w Qf
  unfold slices_Collect_i
  refine SC.seq ?_
  refine SC.region' ?_
  refine KT.pv 2 (.slice none 0 0) ?_
  refine KT.nil ?_
  refine SX.seq ?_
  refine SC.seq ?_
  refine SC.region' ?_
  refine KT.pv 3 p0_seq ?_
  refine KT.cl vS 4 133 #[(.slice none 0 0), p0_seq] (slices_AppendSeq_i_sim (⟨none, 0, 0⟩) p0_seq) (fun x4 => ?_)
  refine KT.pv 2 (.slice x4.base x4.len x4.cap) ?_
  refine KT.nil ?_
  refine SX.seq ?_
  refine SC.ret ?_
  refine SX.ret [.tmp 2] rfl ?_
  refine RS.tmp (.slice x4.base x4.len x4.cap) rfl ?_
  exact RS.nil rfl

set_option maxRecDepth 100000 in
theorem slices_Sorted_i_sim (p0_seq : Value) (Qf : Slc → World → Prop) (w : World) (hm : slices_Sorted_i (cvOf Try.prog) p0_seq Qf w) : Calls Try.prog 74 #[p0_seq] w (RetPost vS Qf) := by
  refine calls_of (fn := Try.f74) (l := [p0_seq]) (m := slices_Sorted_i (cvOf Try.prog) p0_seq) 9 (by kernel_rfl) rfl rfl rfl (fun Qf0 => ?_) Qf w hm
  clear hm w Qf
  unfold slices_Sorted_i
  refine SC.seq ?_
  refine SC.region' ?_
  refine KT.pv 2 (.slice none 0 0) ?_
  refine KT.nil ?_
  refine SX.seq ?_
  refine SC.seq ?_
  refine SC.region' ?_
  refine KT.pv 4 p0_seq ?_
  refine KT.cl vS 5 114 #[p0_seq] (slices_Collect_i_sim p0_seq) (fun x5 => ?_)
  refine KT.pv 3 (.slice x5.base x5.len x5.cap) ?_
  refine KT.nil ?_
  refine SX.seq ?_
  refine SC.seq ?_
  refine SC.region' ?_
  refine KT.pv 6 (.slice x5.base x5.len x5.cap) ?_
  refine KT.cl (fun y : Unit => (.tuple #[])) 7 115 #[(.slice x5.base x5.len x5.cap)] (slices_Sort_i_sim x5) (fun x7 => ?_)
  refine KT.nil ?_
  refine SX.seq ?_
  refine SC.seq ?_
  refine SC.region' ?_
  refine KT.pv 8 (.slice x5.base x5.len x5.cap) ?_
  refine KT.pv 2 (.slice x5.base x5.len x5.cap) ?_
  refine KT.nil ?_
  refine SX.seq ?_
  refine SC.ret ?_
  refine SX.ret [.tmp 2] rfl ?_
  refine RS.tmp (.slice x5.base x5.len x5.cap) rfl ?_
  exact RS.nil rfl

set_option maxRecDepth 100000 in
theorem maps_Keys_m_c1_sim (p0_yield : Value) (p1_a : Addr) (Qf : Unit → World → Prop) (w : World) (hm : maps_Keys_m_c1 (cvOf Try.prog) p0_yield p1_a Qf w) : Calls Try.prog 116 #[p0_yield, (.pointer (some p1_a))] w (RetPost (fun y : Unit => (.tuple #[])) Qf) := by
  refine calls_of (fn := Try.f116) (l := [p0_yield, (.pointer (some p1_a))]) (m := maps_Keys_m_c1 (cvOf Try.prog) p0_yield p1_a) 14 (by kernel_rfl) rfl rfl rfl (fun Qf0 => ?_) Qf w hm
  clear hm w Qf
  unfold maps_Keys_m_c1
  refine SC.seq ?_
  refine SC.region' ?_
  refine KT.l 4 (fun x4 => ?_)
  refine KT.ow rfl (OW.rangeMap (d := 5) _ _ 3 46 rfl rfl (by kernel_rfl) rfl rfl (fun x5 => ?_))
  refine KT.nil ?_
  refine SX.seq ?_
  refine SC.block ?_
  refine SC.loop (σ := Unit) (fun s1 => [(0, p0_yield), (5, (.pointer (some x5)))]) (.cons rfl (.cons rfl (.nil))) (fun _ _ _ s1 => ?_)
  refine SC.seq ?_
  refine SC.region' ?_
  refine KT.ow rfl (OW.next (d := 6) _ rfl rfl rfl rfl (fun y6 => ?_))
  refine KT.opt (y := y6) 6 rfl ?_ (fun e6 => ?_)
  refine KT.pv 7 (.bool false) ?_
  refine KT.nil ?_
  refine SX.seq ?_
  refine SC.seq ?_
  refine SC.cond_false rfl ?_
  refine SC.exit ?_
  refine SX.then_exit ?_
  refine SX.loop_exit ?_
  refine SX.block_hit ?_
  refine SX.endBody [] rfl ?_
  exact RS.nil rfl
  refine KT.pv 7 (.bool true) ?_
  refine KT.nil ?_
  refine SX.seq ?_
  refine SC.seq ?_
  refine SC.cond_true rfl ?_
  refine SC.skip ?_
  refine SX.seq ?_
  refine SC.block ?_
  refine SC.seq ?_
  refine SC.region' ?_
  refine KT.ow rfl (OW.entry (d := 8) (ek := (Value.int .i64)) (evv := vS) _ rfl rfl rfl rfl (fun x8 => ?_))
  refine KT.pv 9 (.int .i64 x8.1) ?_
  refine KT.pv 3 (.int .i64 x8.1) ?_
  refine KT.nil ?_
  refine SX.seq ?_
  refine SC.seq ?_
  refine SC.region' ?_
  refine KT.pv 10 p0_yield ?_
  refine KT.pv 11 (.int .i64 x8.1) ?_
  refine KT.ow rfl (OW.callv (d := 12) (enc := Value.bool) (vs := [(.int .i64 x8.1)]) _ [.tmp 11] _ rfl rfl rfl rfl rfl (fun x12 => ?_))
  refine KT.pv 13 (.bool (!x12)) ?_
  refine KT.nil ?_
  refine SX.seq ?_
  refine SC.cond (b := !x12) rfl ?_ ?_
  refine SC.ret ?_
  refine SX.block_ret ?_
  refine SX.loop_ret ?_
  refine SX.block_ret ?_
  refine SX.ret [] rfl ?_
  exact RS.nil rfl
  refine SC.skip ?_
  refine SX.block ?_
  exact SX.loop_next (.cons rfl (.cons rfl (.nil)))

set_option maxRecDepth 100000 in
theorem maps_Keys_m_sim (p0_m : (Option Nat)) (Qf : Value → World → Prop) (w : World) (hm : maps_Keys_m p0_m Qf w) : Calls Try.prog 75 #[(.map p0_m)] w (RetPost (fun v : Value => v) Qf) := by
  refine calls_of (fn := Try.f75) (l := [(.map p0_m)]) (m := maps_Keys_m p0_m) 4 (by kernel_rfl) rfl rfl rfl (fun Qf0 => ?_) Qf w hm
  clear hm w Qf
  unfold maps_Keys_m
  refine SC.seq ?_
  refine SC.region' ?_
  refine KT.nw 1 (fun ad => .pointer (some ad)) 112 (fun x1 => ?_)
  refine KT.pv 2 Value.nilFunc ?_
  refine KT.nil ?_
  refine SX.seq ?_
  refine SC.seq ?_
  refine SC.region' ?_
  refine KT.pv 3 (.func (.func fid_maps_Keys_m_c1) #[] #[(.pointer (some x1))]) ?_
  refine KT.pv 2 (.func (.func fid_maps_Keys_m_c1) #[] #[(.pointer (some x1))]) ?_
  refine KT.nil ?_
  refine SX.seq ?_
  refine SC.ret ?_
  refine SX.ret [.tmp 2] rfl ?_
  refine RS.tmp (.func (.func fid_maps_Keys_m_c1) #[] #[(.pointer (some x1))]) rfl ?_
  exact RS.nil rfl

set_option maxRecDepth 100000 in
theorem device_Rack_Restore_sim (p0_r : (Option Addr)) (p1_keeps : Slc) (Qf : Unit → World → Prop) (w : World) (hm : device_Rack_Restore (cvOf Try.prog) p0_r p1_keeps Qf w) : Calls Try.prog 40 #[(.pointer p0_r), (.slice p1_keeps.base p1_keeps.len p1_keeps.cap)] w (RetPost (fun y : Unit => (.tuple #[])) Qf) := by
  refine calls_of (fn := Try.f40) (l := [(.pointer p0_r), (.slice p1_keeps.base p1_keeps.len p1_keeps.cap)]) (m := device_Rack_Restore (cvOf Try.prog) p0_r p1_keeps) 76 (by kernel_rfl) rfl rfl rfl (fun Qf0 => ?_) Qf w hm
  clear hm w Qf
  unfold device_Rack_Restore
  refine SC.seq ?_
  refine SC.region' ?_
  refine KT.pv 9 (.pointer p0_r) ?_
  refine KT.pv 10 (.pointer p0_r) ?_
  refine KT.nm 11 (fun x11 => ?_)
  refine KT.pv 12 (.pointer (some (Addr.add x11 3))) ?_
  refine KT.s ?_
  refine KT.nm 13 (fun x13 => ?_)
  refine KT.pv 14 (.pointer (some (Addr.add x13 2))) ?_
  refine KT.s ?_
  refine KT.nil ?_
  refine SX.seq ?_
  refine SC.seq ?_
  refine SC.region' ?_
  refine KT.pv 4 (.int .i64 0) ?_
  refine KT.nil ?_
  refine SX.seq ?_
  refine SC.seq ?_
  refine SC.region' ?_
  refine KT.pv 15 (.pointer p0_r) ?_
  refine KT.nm 16 (fun x16 => ?_)
  refine KT.pv 17 (.pointer (some x16)) ?_
  refine KT.l 18 (fun x18 => ?_)
  refine KT.pv 19 (.int .i64 ((x18.len : Nat) : Int)) ?_
  refine KT.pv 20 (.int .i64 0) ?_
  refine KT.nil ?_
  refine SX.seq ?_
  refine SC.block ?_
  refine SC.loop (σ := (Int × Int)) (fun s1 => [(1, (.slice p1_keeps.base p1_keeps.len p1_keeps.cap)), (4, (.int .i64 s1.1)), (18, (.slice x18.base x18.len x18.cap)), (19, (.int .i64 ((x18.len : Nat) : Int))), (20, (.int .i64 s1.2))]) (.cons rfl (.cons rfl (.cons rfl (.cons rfl (.cons rfl (.nil)))))) (fun _ _ _ s1 => ?_)
  refine SC.seq ?_
  refine SC.region' ?_
  refine KT.pv 21 (.bool (decide (s1.2 < ((x18.len : Nat) : Int)))) ?_
  refine KT.nil ?_
  refine SX.seq ?_
  refine SC.seq ?_
  refine SC.cond (b := decide (s1.2 < ((x18.len : Nat) : Int))) rfl ?_ ?_
  refine SC.skip ?_
  refine SX.seq ?_
  refine SC.seq ?_
  refine SC.block ?_
  refine SC.seq ?_
  refine SC.region' ?_
  refine KT.oy rfl (OY.idx (d := 22) (s := x18) (i := s1.2) (size := 1) (elem := 111) _ _ _ rfl rfl rfl (by kernel_rfl) (by kernel_rfl) rfl rfl (fun x22 => ?_))
  refine KT.l 23 (fun x23 => ?_)
  refine KT.pv 6 (.pointer x23) ?_
  refine KT.nil ?_
  refine SX.seq ?_
  refine SC.seq ?_
  refine SC.seq ?_
  refine SC.region' ?_
  refine KT.pv 24 (.pointer x23) ?_
  refine KT.nm 25 (fun x25 => ?_)
  refine KT.pv 26 (.pointer (some (Addr.add x25 1))) ?_
  refine KT.l 27 (fun x27 => ?_)
  refine KT.cl (fun v : Value => v) 28 75 #[(.map x27)] (maps_Keys_m_sim x27) (fun x28 => ?_)
  refine KT.cl vS 29 74 #[x28] (slices_Sorted_i_sim x28) (fun x29 => ?_)
  refine KT.pv 30 (.int .i64 ((x29.len : Nat) : Int)) ?_
  refine KT.pv 31 (.int .i64 0) ?_
  refine KT.nil ?_
  refine SX.seq ?_
  refine SC.block ?_
  refine SC.loop (σ := (Int × Int)) (fun s2 => [(1, (.slice p1_keeps.base p1_keeps.len p1_keeps.cap)), (4, (.int .i64 s2.1)), (6, (.pointer x23)), (18, (.slice x18.base x18.len x18.cap)), (19, (.int .i64 ((x18.len : Nat) : Int))), (20, (.int .i64 s1.2)), (29, (.slice x29.base x29.len x29.cap)), (30, (.int .i64 ((x29.len : Nat) : Int))), (31, (.int .i64 s2.2))]) (.cons rfl (.cons rfl (.cons rfl (.cons rfl (.cons rfl (.cons rfl (.cons rfl (.cons rfl (.cons rfl (.nil)))))))))) (fun _ _ _ s2 => ?_)
  refine SC.seq ?_
  refine SC.region' ?_
  refine KT.pv 32 (.bool (decide (s2.2 < ((x29.len : Nat) : Int)))) ?_
  refine KT.nil ?_
  refine SX.seq ?_
  refine SC.seq ?_
  refine SC.cond (b := decide (s2.2 < ((x29.len : Nat) : Int))) rfl ?_ ?_
  refine SC.skip ?_
  refine SX.seq ?_
  refine SC.seq ?_
  refine SC.block ?_
  refine SC.seq ?_
  refine SC.region' ?_
  refine KT.oy rfl (OY.idx (d := 33) (s := x29) (i := s2.2) (size := 1) (elem := 3) _ _ _ rfl rfl rfl (by kernel_rfl) (by kernel_rfl) rfl rfl (fun x33 => ?_))
  refine KT.l 34 (fun x34 => ?_)
  refine KT.pv 8 (.int .i64 x34) ?_
  refine KT.nil ?_
  refine SX.seq ?_
  refine SC.seq ?_
  refine SC.seq ?_
  refine SC.region' ?_
  refine KT.pv 35 (.slice p1_keeps.base p1_keeps.len p1_keeps.cap) ?_
  refine KT.pv 36 (.int .i64 ((p1_keeps.len : Nat) : Int)) ?_
  refine KT.pv 37 (.bool (decide (((p1_keeps.len : Nat) : Int) > 0))) ?_
  refine KT.pv 38 (.bool (decide (((p1_keeps.len : Nat) : Int) > 0))) ?_
  refine KT.joinO (β := Bool) 10 (fun r3 => [(48, (.bool r3)), (1, (.slice p1_keeps.base p1_keeps.len p1_keeps.cap)), (4, (.int .i64 s2.1)), (6, (.pointer x23)), (8, (.int .i64 x34)), (18, (.slice x18.base x18.len x18.cap)), (19, (.int .i64 ((x18.len : Nat) : Int))), (20, (.int .i64 s1.2)), (29, (.slice x29.base x29.len x29.cap)), (30, (.int .i64 ((x29.len : Nat) : Int))), (31, (.int .i64 s2.2))]) (fun r3 => ?_) (fun j3 => ?_)
  refine KT.pv 49 (.bool r3) ?_
  refine KT.joinO (β := Bool) 6 (fun r4 => [(55, (.bool r4)), (1, (.slice p1_keeps.base p1_keeps.len p1_keeps.cap)), (4, (.int .i64 s2.1)), (6, (.pointer x23)), (8, (.int .i64 x34)), (18, (.slice x18.base x18.len x18.cap)), (19, (.int .i64 ((x18.len : Nat) : Int))), (20, (.int .i64 s1.2)), (29, (.slice x29.base x29.len x29.cap)), (30, (.int .i64 ((x29.len : Nat) : Int))), (31, (.int .i64 s2.2))]) (fun r4 => ?_) (fun j4 => ?_)
  refine KT.nil ?_
  refine SX.seq ?_
  refine SC.cond (b := r4) rfl ?_ ?_
  refine SC.draw 13 (fun f => Nat.beq f 12) rfl (by kernel_rfl) (fun S5 => ?_)
  refine KT.pvA 0 56 (.pointer x23) ?_
  refine KT.tp 1 (OY.nil (d := 57) (p := x23) _ rfl rfl rfl rfl (fun x57 => ?_))
  refine KT.pvA 2 58 (.pointer (some x57)) ?_
  refine KT.tk 3 (OY.ldI (d := 59) _ _ rfl rfl (by kernel_rfl) rfl rfl (fun x59 => ?_))
  refine KT.pvA 4 60 (.int .i64 x34) ?_
  refine KT.pvA 5 61 (.pointer x23) ?_
  refine KT.tp 6 (OY.nil (d := 62) (p := x23) _ rfl rfl rfl rfl (fun x62 => ?_))
  refine KT.pvA 7 63 (.pointer (some (Addr.add x62 1))) ?_
  refine KT.tk 8 (OY.ldI (d := 64) _ _ rfl rfl (by kernel_rfl) rfl rfl (fun x64 => ?_))
  refine KT.pvA 9 65 (.int .i64 x34) ?_
  refine KT.one 10 rfl (by kernel_rfl) rfl (OW.step (OW.look (d := 66) (enc := vS) (⟨none, 0, 0⟩) 3 46 .i64 _ _ _ rfl rfl rfl (by kernel_rfl) (by kernel_rfl) (by kernel_rfl) rfl rfl (fun x66 => ?_)))
  refine KT.and ?_
  refine KT.tp 11 (OY.idx (d := 67) (s := x59) (i := x34) (size := 1) (elem := 46) _ _ _ rfl rfl rfl (by kernel_rfl) (by kernel_rfl) rfl rfl (fun x67 => ?_))
  refine KT.last 12 rfl (by kernel_rfl) rfl rfl (OW.st _ _ _ rfl rfl rfl rfl (by kernel_rfl) rfl ?_)
  refine KT.doneN (by kernel_rfl) ?_
  refine SX.seq ?_
  refine SC.region' ?_
  refine KT.pv 68 (.int .i64 s2.1) ?_
  refine KT.pv 69 (.int .i64 (w64 (s2.1 + 1))) ?_
  refine KT.pv 4 (.int .i64 (w64 (s2.1 + 1))) ?_
  refine KT.nil ?_
  refine SX.block ?_
  refine SX.seq ?_
  refine SC.region' ?_
  refine KT.pv 70 (.int .i64 (w64 (s2.2 + 1))) ?_
  refine KT.pv 31 (.int .i64 (w64 (s2.2 + 1))) ?_
  refine KT.nil ?_
  exact SX.loop_next (.cons rfl (.cons rfl (.cons rfl (.cons rfl (.cons rfl (.cons rfl (.cons rfl (.cons rfl (.cons rfl (.nil))))))))))
  refine SC.skip ?_
  refine SX.seq ?_
  refine SC.region' ?_
  refine KT.pv 68 (.int .i64 s2.1) ?_
  refine KT.pv 69 (.int .i64 (w64 (s2.1 + 1))) ?_
  refine KT.pv 4 (.int .i64 (w64 (s2.1 + 1))) ?_
  refine KT.nil ?_
  refine SX.block ?_
  refine SX.seq ?_
  refine SC.region' ?_
  refine KT.pv 70 (.int .i64 (w64 (s2.2 + 1))) ?_
  refine KT.pv 31 (.int .i64 (w64 (s2.2 + 1))) ?_
  refine KT.nil ?_
  exact SX.loop_next (.cons rfl (.cons rfl (.cons rfl (.cons rfl (.cons rfl (.cons rfl (.cons rfl (.cons rfl (.cons rfl (.nil))))))))))
  refine KT.ite (b := r3) 49 rfl ?_ ?_
  refine KT.pv 50 (.pointer x23) ?_
  refine KT.nm 51 (fun x51 => ?_)
  refine KT.pv 52 (.pointer (some (Addr.add x51 2))) ?_
  refine KT.l 53 (fun x53 => ?_)
  refine KT.pv 54 (.bool (!x53)) ?_
  refine KT.pv 55 (.bool (!x53)) ?_
  exact KT.leafO j4 (.cons rfl (.cons rfl (.cons rfl (.cons rfl (.cons rfl (.cons rfl (.cons rfl (.cons rfl (.cons rfl (.cons rfl (.cons rfl (.nil))))))))))))
  refine KT.sk ?_
  refine KT.sk ?_
  refine KT.sk ?_
  refine KT.sk ?_
  refine KT.sk ?_
  refine KT.pv 55 (.bool false) ?_
  exact KT.leafO j4 (.cons rfl (.cons rfl (.cons rfl (.cons rfl (.cons rfl (.cons rfl (.cons rfl (.cons rfl (.cons rfl (.cons rfl (.cons rfl (.nil))))))))))))
  refine KT.ite (b := decide (((p1_keeps.len : Nat) : Int) > 0)) 38 rfl ?_ ?_
  refine KT.pv 39 (.slice p1_keeps.base p1_keeps.len p1_keeps.cap) ?_
  refine KT.pv 40 (.int .i64 s2.1) ?_
  refine KT.pv 41 (.slice p1_keeps.base p1_keeps.len p1_keeps.cap) ?_
  refine KT.pv 42 (.int .i64 ((p1_keeps.len : Nat) : Int)) ?_
  refine KT.oy rfl (OY.rem (d := 43) (x := s2.1) (y := ((p1_keeps.len : Nat) : Int)) _ _ _ _ (Int.tmod s2.1 ((p1_keeps.len : Nat) : Int)) rfl rfl rfl rfl rfl rfl ?_)
  refine KT.oy rfl (OY.idx (d := 44) (s := p1_keeps) (i := Int.tmod s2.1 ((p1_keeps.len : Nat) : Int)) (size := 1) (elem := 3) _ _ _ rfl rfl rfl (by kernel_rfl) (by kernel_rfl) rfl rfl (fun x44 => ?_))
  refine KT.l 45 (fun x45 => ?_)
  refine KT.pv 46 (.int .i64 (bAnd .i64 x45 1)) ?_
  refine KT.pv 47 (.bool ((bAnd .i64 x45 1) == 1)) ?_
  refine KT.pv 48 (.bool ((bAnd .i64 x45 1) == 1)) ?_
  exact KT.leafO j3 (.cons rfl (.cons rfl (.cons rfl (.cons rfl (.cons rfl (.cons rfl (.cons rfl (.cons rfl (.cons rfl (.cons rfl (.cons rfl (.nil))))))))))))
  refine KT.sk ?_
  refine KT.sk ?_
  refine KT.sk ?_
  refine KT.sk ?_
  refine KT.sk ?_
  refine KT.sk ?_
  refine KT.sk ?_
  refine KT.sk ?_
  refine KT.sk ?_
  refine KT.pv 48 (.bool false) ?_
  exact KT.leafO j3 (.cons rfl (.cons rfl (.cons rfl (.cons rfl (.cons rfl (.cons rfl (.cons rfl (.cons rfl (.cons rfl (.cons rfl (.cons rfl (.nil))))))))))))
  refine SC.exit ?_
  refine SX.then_exit ?_
  refine SX.loop_exit ?_
  refine SX.block_hit ?_
  refine SX.seq ?_
  refine SC.region' ?_
  refine KT.pv 71 (.pointer x23) ?_
  refine KT.nm 72 (fun x72 => ?_)
  refine KT.pv 73 (.pointer (some (Addr.add x72 1))) ?_
  refine KT.l 74 (fun x74 => ?_)
  refine KT.ow rfl (OW.clearMap0 _ _ 3 46 rfl rfl (by kernel_rfl) rfl ?_)
  refine KT.nil ?_
  refine SX.block ?_
  refine SX.seq ?_
  refine SC.region' ?_
  refine KT.pv 75 (.int .i64 (w64 (s1.2 + 1))) ?_
  refine KT.pv 20 (.int .i64 (w64 (s1.2 + 1))) ?_
  refine KT.nil ?_
  exact SX.loop_next (.cons rfl (.cons rfl (.cons rfl (.cons rfl (.cons rfl (.nil))))))
  refine SC.exit ?_
  refine SX.then_exit ?_
  refine SX.loop_exit ?_
  refine SX.block_hit ?_
  refine SX.endBody [] rfl ?_
  exact RS.nil rfl

set_option maxRecDepth 100000 in
theorem device_Rack_Lasting_sim (p0_r : (Option Addr)) (p1_disk : Int) (p2_sector : Int) (Qf : (Slc × Int) → World → Prop) (w : World) (hm : device_Rack_Lasting p0_r p1_disk p2_sector Qf w) : Calls Try.prog 41 #[(.pointer p0_r), (.int .i64 p1_disk), (.int .i64 p2_sector)] w (RetPost (fun y : (Slc × Int) => (.tuple #[(.slice y.1.base y.1.len y.1.cap), (.int .i64 y.2)])) Qf) := by
  refine calls_of (fn := Try.f41) (l := [(.pointer p0_r), (.int .i64 p1_disk), (.int .i64 p2_sector)]) (m := device_Rack_Lasting p0_r p1_disk p2_sector) 45 (by kernel_rfl) rfl rfl rfl (fun Qf0 => ?_) Qf w hm
  clear hm w Qf
  unfold device_Rack_Lasting
  refine SC.seq ?_
  refine SC.region' ?_
  refine KT.pv 6 (.slice none 0 0) ?_
  refine KT.pv 7 (.int .i64 0) ?_
  refine KT.nil ?_
  refine SX.seq ?_
  refine SC.seq ?_
  refine SC.seq ?_
  refine SC.region' ?_
  refine KT.pv 8 (.int .i64 p1_disk) ?_
  refine KT.pv 9 (.bool (decide (p1_disk < 0))) ?_
  refine KT.pv 10 (.bool (decide (p1_disk < 0))) ?_
  refine KT.joinO (β := Bool) 8 (fun r1 => [(18, (.bool r1)), (0, (.pointer p0_r)), (1, (.int .i64 p1_disk)), (2, (.int .i64 p2_sector))]) (fun r1 => ?_) (fun j1 => ?_)
  refine KT.pv 19 (.bool r1) ?_
  refine KT.joinO (β := Bool) 3 (fun r2 => [(22, (.bool r2)), (0, (.pointer p0_r)), (1, (.int .i64 p1_disk)), (2, (.int .i64 p2_sector))]) (fun r2 => ?_) (fun j2 => ?_)
  refine KT.pv 23 (.bool r2) ?_
  refine KT.joinO (β := Bool) 7 (fun r3 => [(30, (.bool r3)), (0, (.pointer p0_r)), (1, (.int .i64 p1_disk)), (2, (.int .i64 p2_sector))]) (fun r3 => ?_) (fun j3 => ?_)
  refine KT.nil ?_
  refine SX.seq ?_
  refine SC.cond (b := r3) rfl ?_ ?_
  refine SC.seq ?_
  refine SC.region' ?_
  refine KT.pv 6 (.slice none 0 0) ?_
  refine KT.pv 7 (.int .i64 11) ?_
  refine KT.nil ?_
  refine SX.seq ?_
  refine SC.ret ?_
  refine SX.then_ret ?_
  refine SX.ret [.tmp 6, .tmp 7] rfl ?_
  refine RS.tmp (.slice none 0 0) rfl ?_
  refine RS.tmp (.int .i64 11) rfl ?_
  exact RS.nil rfl
  refine SC.skip ?_
  refine SX.seq ?_
  refine SC.seq ?_
  refine SC.region' ?_
  refine KT.pv 31 (.pointer p0_r) ?_
  refine KT.nm 32 (fun x32 => ?_)
  refine KT.pv 33 (.pointer (some x32)) ?_
  refine KT.l 34 (fun x34 => ?_)
  refine KT.pv 35 (.int .i64 p1_disk) ?_
  refine KT.oy rfl (OY.idx (d := 36) (s := x34) (i := p1_disk) (size := 1) (elem := 111) _ _ _ rfl rfl rfl (by kernel_rfl) (by kernel_rfl) rfl rfl (fun x36 => ?_))
  refine KT.l 37 (fun x37 => ?_)
  refine KT.nm 38 (fun x38 => ?_)
  refine KT.pv 39 (.pointer (some x38)) ?_
  refine KT.l 40 (fun x40 => ?_)
  refine KT.pv 41 (.int .i64 p2_sector) ?_
  refine KT.oy rfl (OY.idx (d := 42) (s := x40) (i := p2_sector) (size := 1) (elem := 46) _ _ _ rfl rfl rfl (by kernel_rfl) (by kernel_rfl) rfl rfl (fun x42 => ?_))
  refine KT.l 43 (fun x43 => ?_)
  refine KT.cl vS 44 71 #[(.slice x43.base x43.len x43.cap)] (slices_Clone_b_sim x43) (fun x44 => ?_)
  refine KT.pv 6 (.slice x44.base x44.len x44.cap) ?_
  refine KT.pv 7 (.int .i64 0) ?_
  refine KT.nil ?_
  refine SX.seq ?_
  refine SC.ret ?_
  refine SX.ret [.tmp 6, .tmp 7] rfl ?_
  refine RS.tmp (.slice x44.base x44.len x44.cap) rfl ?_
  refine RS.tmp (.int .i64 0) rfl ?_
  exact RS.nil rfl
  refine KT.ite (b := r2) 23 rfl ?_ ?_
  refine KT.sk ?_
  refine KT.sk ?_
  refine KT.sk ?_
  refine KT.sk ?_
  refine KT.sk ?_
  refine KT.sk ?_
  refine KT.pv 30 (.bool true) ?_
  exact KT.leafO j3 (.cons rfl (.cons rfl (.cons rfl (.cons rfl (.nil)))))
  refine KT.pv 24 (.int .i64 p2_sector) ?_
  refine KT.pv 25 (.pointer p0_r) ?_
  refine KT.nm 26 (fun x26 => ?_)
  refine KT.pv 27 (.pointer (some (Addr.add x26 1))) ?_
  refine KT.l 28 (fun x28 => ?_)
  refine KT.pv 29 (.bool (decide (p2_sector ≥ x28))) ?_
  refine KT.pv 30 (.bool (decide (p2_sector ≥ x28))) ?_
  exact KT.leafO j3 (.cons rfl (.cons rfl (.cons rfl (.cons rfl (.nil)))))
  refine KT.ite (b := r1) 19 rfl ?_ ?_
  refine KT.sk ?_
  refine KT.sk ?_
  refine KT.pv 22 (.bool true) ?_
  exact KT.leafO j2 (.cons rfl (.cons rfl (.cons rfl (.cons rfl (.nil)))))
  refine KT.pv 20 (.int .i64 p2_sector) ?_
  refine KT.pv 21 (.bool (decide (p2_sector < 0))) ?_
  refine KT.pv 22 (.bool (decide (p2_sector < 0))) ?_
  exact KT.leafO j2 (.cons rfl (.cons rfl (.cons rfl (.cons rfl (.nil)))))
  refine KT.ite (b := decide (p1_disk < 0)) 10 rfl ?_ ?_
  refine KT.sk ?_
  refine KT.sk ?_
  refine KT.sk ?_
  refine KT.sk ?_
  refine KT.sk ?_
  refine KT.sk ?_
  refine KT.sk ?_
  refine KT.pv 18 (.bool true) ?_
  exact KT.leafO j1 (.cons rfl (.cons rfl (.cons rfl (.cons rfl (.nil)))))
  refine KT.pv 11 (.int .i64 p1_disk) ?_
  refine KT.pv 12 (.pointer p0_r) ?_
  refine KT.nm 13 (fun x13 => ?_)
  refine KT.pv 14 (.pointer (some x13)) ?_
  refine KT.l 15 (fun x15 => ?_)
  refine KT.pv 16 (.int .i64 ((x15.len : Nat) : Int)) ?_
  refine KT.pv 17 (.bool (decide (p1_disk ≥ ((x15.len : Nat) : Int)))) ?_
  refine KT.pv 18 (.bool (decide (p1_disk ≥ ((x15.len : Nat) : Int)))) ?_
  exact KT.leafO j1 (.cons rfl (.cons rfl (.cons rfl (.cons rfl (.nil)))))

set_option maxRecDepth 100000 in
theorem device_Rack_Arm_sim (p0_r : (Option Addr)) (p1_calls : Int) (Qf : Unit → World → Prop) (w : World) (hm : device_Rack_Arm p0_r p1_calls Qf w) : Calls Try.prog 43 #[(.pointer p0_r), (.int .i64 p1_calls)] w (RetPost (fun y : Unit => (.tuple #[])) Qf) := by
  refine calls_of (fn := Try.f43) (l := [(.pointer p0_r), (.int .i64 p1_calls)]) (m := device_Rack_Arm p0_r p1_calls) 9 (by kernel_rfl) rfl rfl rfl (fun Qf0 => ?_) Qf w hm
  clear hm w Qf
  unfold device_Rack_Arm
  refine SC.region' ?_
  refine KT.pv 4 (.pointer p0_r) ?_
  refine KT.pv 5 (.int .i64 p1_calls) ?_
  refine KT.pv 6 (.int .i64 (maxI p1_calls (-1))) ?_
  refine KT.nm 7 (fun x7 => ?_)
  refine KT.pv 8 (.pointer (some (Addr.add x7 2))) ?_
  refine KT.s ?_
  refine KT.nil ?_
  refine SX.endBody [] rfl ?_
  exact RS.nil rfl

set_option maxRecDepth 100000 in
theorem device_Rack_Off_sim (p0_r : (Option Addr)) (Qf : Bool → World → Prop) (w : World) (hm : device_Rack_Off p0_r Qf w) : Calls Try.prog 56 #[(.pointer p0_r)] w (RetPost Value.bool Qf) := by
  refine calls_of (fn := Try.f56) (l := [(.pointer p0_r)]) (m := device_Rack_Off p0_r) 7 (by kernel_rfl) rfl rfl rfl (fun Qf0 => ?_) Qf w hm
  clear hm w Qf
  unfold device_Rack_Off
  refine SC.seq ?_
  refine SC.region' ?_
  refine KT.pv 2 (.bool false) ?_
  refine KT.nil ?_
  refine SX.seq ?_
  refine SC.seq ?_
  refine SC.region' ?_
  refine KT.pv 3 (.pointer p0_r) ?_
  refine KT.nm 4 (fun x4 => ?_)
  refine KT.pv 5 (.pointer (some (Addr.add x4 3))) ?_
  refine KT.l 6 (fun x6 => ?_)
  refine KT.pv 2 (.bool x6) ?_
  refine KT.nil ?_
  refine SX.seq ?_
  refine SC.ret ?_
  refine SX.ret [.tmp 2] rfl ?_
  refine RS.tmp (.bool x6) rfl ?_
  exact RS.nil rfl

set_option maxRecDepth 100000 in
theorem law02_alive_sim  (Qf : Bool → World → Prop) (w : World) (hm : law02_alive (cvOf Try.prog)  Qf w) : Calls Try.prog 38 #[] w (RetPost Value.bool Qf) := by
  refine calls_of (fn := Try.f38) (l := []) (m := law02_alive (cvOf Try.prog) ) 65 (by kernel_rfl) rfl rfl rfl (fun Qf0 => ?_) Qf w hm
  clear hm w Qf
  unfold law02_alive
  refine SC.seq ?_
  refine SC.region' ?_
  refine KT.pv 0 (.bool false) ?_
  refine KT.nil ?_
  refine SX.seq ?_
  refine SC.seq ?_
  refine SC.region' ?_
  refine KT.cl (fun y : ((Option Addr) × Int) => (.tuple #[(.pointer y.1), (.int .i64 y.2)])) 10 21 #[(.int .i64 2), (.int .i64 3)] (device_New_sim 2 3) (fun x10 => ?_)
  refine KT.pv 9 (.tuple #[(.pointer x10.1), (.int .i64 x10.2)]) ?_
  refine KT.pv 11 (.pointer x10.1) ?_
  refine KT.pv 12 (.int .i64 x10.2) ?_
  refine KT.pv 1 (.pointer x10.1) ?_
  refine KT.pv 2 (.int .i64 x10.2) ?_
  refine KT.nil ?_
  refine SX.seq ?_
  refine SC.seq ?_
  refine SC.seq ?_
  refine SC.region' ?_
  refine KT.pv 13 (.int .i64 x10.2) ?_
  refine KT.pv 14 (.bool (x10.2 != 0)) ?_
  refine KT.pv 15 (.bool (x10.2 != 0)) ?_
  refine KT.joinO (β := Bool) 3 (fun r1 => [(18, (.bool r1)), (1, (.pointer x10.1))]) (fun r1 => ?_) (fun j1 => ?_)
  refine KT.nil ?_
  refine SX.seq ?_
  refine SC.cond (b := r1) rfl ?_ ?_
  refine SC.seq ?_
  refine SC.region' ?_
  refine KT.pv 0 (.bool false) ?_
  refine KT.nil ?_
  refine SX.seq ?_
  refine SC.ret ?_
  refine SX.then_ret ?_
  refine SX.ret [.tmp 0] rfl ?_
  refine RS.tmp (.bool false) rfl ?_
  exact RS.nil rfl
  refine SC.skip ?_
  refine SX.seq ?_
  refine SC.seq ?_
  refine SC.region' ?_
  refine KT.nw 19 (fun ad => .slice (some ad) 64 64) 5 (fun x19 => ?_)
  refine KT.pv 3 (.slice (some x19) 64 64) ?_
  refine KT.nil ?_
  refine SX.seq ?_
  refine SC.seq ?_
  refine SC.region' ?_
  refine KT.pv 20 (.slice (some x19) 64 64) ?_
  refine KT.oy rfl (OY.idx (d := 21) (s := ⟨some x19, 64, 64⟩) (i := 0) (size := 1) (elem := 5) _ _ _ rfl rfl rfl (by kernel_rfl) (by kernel_rfl) rfl rfl (fun x21 => ?_))
  refine KT.s ?_
  refine KT.nil ?_
  refine SX.seq ?_
  refine SC.seq ?_
  refine SC.region' ?_
  refine KT.pv 22 (.pointer x10.1) ?_
  refine KT.cl (fun y : Unit => (.tuple #[])) 23 43 #[(.pointer x10.1), (.int .i64 1)] (device_Rack_Arm_sim x10.1 1) (fun x23 => ?_)
  refine KT.nil ?_
  refine SX.seq ?_
  refine SC.seq ?_
  refine SC.region' ?_
  refine KT.pv 24 (.pointer x10.1) ?_
  refine KT.pv 25 (.slice (some x19) 64 64) ?_
  refine KT.cl (Value.int .i64) 26 39 #[(.pointer x10.1), (.int .i64 1), (.int .i64 2), (.slice (some x19) 64 64)] (device_Rack_Write_sim x10.1 1 2 (⟨some x19, 64, 64⟩)) (fun x26 => ?_)
  refine KT.pv 4 (.int .i64 x26) ?_
  refine KT.nil ?_
  refine SX.seq ?_
  refine SC.seq ?_
  refine SC.region' ?_
  refine KT.pv 27 (.pointer x10.1) ?_
  refine KT.pv 28 (.slice (some x19) 64 64) ?_
  refine KT.cl (Value.int .i64) 29 39 #[(.pointer x10.1), (.int .i64 1), (.int .i64 1), (.slice (some x19) 64 64)] (device_Rack_Write_sim x10.1 1 1 (⟨some x19, 64, 64⟩)) (fun x29 => ?_)
  refine KT.pv 5 (.int .i64 x29) ?_
  refine KT.nil ?_
  refine SX.seq ?_
  refine SC.seq ?_
  refine SC.region' ?_
  refine KT.pv 30 (.pointer x10.1) ?_
  refine KT.cl Value.bool 31 56 #[(.pointer x10.1)] (device_Rack_Off_sim x10.1) (fun x31 => ?_)
  refine KT.pv 6 (.bool x31) ?_
  refine KT.nil ?_
  refine SX.seq ?_
  refine SC.seq ?_
  refine SC.region' ?_
  refine KT.pv 32 (.pointer x10.1) ?_
  refine KT.nw 33 (fun ad => .slice (some ad) 1 1) 3 (fun x33 => ?_)
  refine KT.cl (fun y : Unit => (.tuple #[])) 34 40 #[(.pointer x10.1), (.slice (some x33) 1 1)] (device_Rack_Restore_sim x10.1 (⟨some x33, 1, 1⟩)) (fun x34 => ?_)
  refine KT.nil ?_
  refine SX.seq ?_
  refine SC.seq ?_
  refine SC.region' ?_
  refine KT.pv 36 (.pointer x10.1) ?_
  refine KT.cl (fun y : (Slc × Int) => (.tuple #[(.slice y.1.base y.1.len y.1.cap), (.int .i64 y.2)])) 37 41 #[(.pointer x10.1), (.int .i64 1), (.int .i64 2)] (device_Rack_Lasting_sim x10.1 1 2) (fun x37 => ?_)
  refine KT.pv 35 (.tuple #[(.slice x37.1.base x37.1.len x37.1.cap), (.int .i64 x37.2)]) ?_
  refine KT.pv 38 (.slice x37.1.base x37.1.len x37.1.cap) ?_
  refine KT.pv 39 (.int .i64 x37.2) ?_
  refine KT.pv 7 (.slice x37.1.base x37.1.len x37.1.cap) ?_
  refine KT.pv 8 (.int .i64 x37.2) ?_
  refine KT.nil ?_
  refine SX.seq ?_
  refine SC.seq ?_
  refine SC.region' ?_
  refine KT.pv 40 (.int .i64 x26) ?_
  refine KT.pv 41 (.bool (x26 == 0)) ?_
  refine KT.pv 42 (.bool (x26 == 0)) ?_
  refine KT.joinO (β := Bool) 3 (fun r2 => [(45, (.bool r2)), (1, (.pointer x10.1)), (6, (.bool x31)), (7, (.slice x37.1.base x37.1.len x37.1.cap))]) (fun r2 => ?_) (fun j2 => ?_)
  refine KT.pv 46 (.bool r2) ?_
  refine KT.joinO (β := Bool) 2 (fun r3 => [(48, (.bool r3)), (1, (.pointer x10.1)), (7, (.slice x37.1.base x37.1.len x37.1.cap))]) (fun r3 => ?_) (fun j3 => ?_)
  refine KT.pv 49 (.bool r3) ?_
  refine KT.joinO (β := Bool) 4 (fun r4 => [(53, (.bool r4)), (7, (.slice x37.1.base x37.1.len x37.1.cap))]) (fun r4 => ?_) (fun j4 => ?_)
  refine KT.pv 54 (.bool r4) ?_
  refine KT.joinO (β := Bool) 4 (fun r5 => [(58, (.bool r5)), (7, (.slice x37.1.base x37.1.len x37.1.cap))]) (fun r5 => ?_) (fun j5 => ?_)
  refine KT.pv 59 (.bool r5) ?_
  refine KT.joinO (β := Bool) 5 (fun r6 => [(64, (.bool r6))]) (fun r6 => ?_) (fun j6 => ?_)
  refine KT.pv 0 (.bool r6) ?_
  refine KT.nil ?_
  refine SX.seq ?_
  refine SC.ret ?_
  refine SX.ret [.tmp 0] rfl ?_
  refine RS.tmp (.bool r6) rfl ?_
  exact RS.nil rfl
  refine KT.ite (b := r5) 59 rfl ?_ ?_
  refine KT.pv 60 (.slice x37.1.base x37.1.len x37.1.cap) ?_
  refine KT.oy rfl (OY.idx (d := 61) (s := x37.1) (i := 0) (size := 1) (elem := 5) _ _ _ rfl rfl rfl (by kernel_rfl) (by kernel_rfl) rfl rfl (fun x61 => ?_))
  refine KT.l 62 (fun x62 => ?_)
  refine KT.pv 63 (.bool (x62 == 7)) ?_
  refine KT.pv 64 (.bool (x62 == 7)) ?_
  exact KT.leafO j6 (.cons rfl (.nil))
  refine KT.sk ?_
  refine KT.sk ?_
  refine KT.sk ?_
  refine KT.sk ?_
  refine KT.pv 64 (.bool false) ?_
  exact KT.leafO j6 (.cons rfl (.nil))
  refine KT.ite (b := r4) 54 rfl ?_ ?_
  refine KT.pv 55 (.slice x37.1.base x37.1.len x37.1.cap) ?_
  refine KT.pv 56 (.int .i64 ((x37.1.len : Nat) : Int)) ?_
  refine KT.pv 57 (.bool (((x37.1.len : Nat) : Int) == 64)) ?_
  refine KT.pv 58 (.bool (((x37.1.len : Nat) : Int) == 64)) ?_
  exact KT.leafO j5 (.cons rfl (.cons rfl (.nil)))
  refine KT.sk ?_
  refine KT.sk ?_
  refine KT.sk ?_
  refine KT.pv 58 (.bool false) ?_
  exact KT.leafO j5 (.cons rfl (.cons rfl (.nil)))
  refine KT.ite (b := r3) 49 rfl ?_ ?_
  refine KT.pv 50 (.pointer x10.1) ?_
  refine KT.cl Value.bool 51 56 #[(.pointer x10.1)] (device_Rack_Off_sim x10.1) (fun x51 => ?_)
  refine KT.pv 52 (.bool (!x51)) ?_
  refine KT.pv 53 (.bool (!x51)) ?_
  exact KT.leafO j4 (.cons rfl (.cons rfl (.nil)))
  refine KT.sk ?_
  refine KT.sk ?_
  refine KT.sk ?_
  refine KT.pv 53 (.bool false) ?_
  exact KT.leafO j4 (.cons rfl (.cons rfl (.nil)))
  refine KT.ite (b := r2) 46 rfl ?_ ?_
  refine KT.pv 47 (.bool x31) ?_
  refine KT.pv 48 (.bool x31) ?_
  exact KT.leafO j3 (.cons rfl (.cons rfl (.cons rfl (.nil))))
  refine KT.sk ?_
  refine KT.pv 48 (.bool false) ?_
  exact KT.leafO j3 (.cons rfl (.cons rfl (.cons rfl (.nil))))
  refine KT.ite (b := x26 == 0) 42 rfl ?_ ?_
  refine KT.pv 43 (.int .i64 x29) ?_
  refine KT.pv 44 (.bool (x29 == 12)) ?_
  refine KT.pv 45 (.bool (x29 == 12)) ?_
  exact KT.leafO j2 (.cons rfl (.cons rfl (.cons rfl (.cons rfl (.nil)))))
  refine KT.sk ?_
  refine KT.sk ?_
  refine KT.pv 45 (.bool false) ?_
  exact KT.leafO j2 (.cons rfl (.cons rfl (.cons rfl (.cons rfl (.nil)))))
  refine KT.ite (b := x10.2 != 0) 15 rfl ?_ ?_
  refine KT.sk ?_
  refine KT.sk ?_
  refine KT.pv 18 (.bool true) ?_
  exact KT.leafO j1 (.cons rfl (.cons rfl (.nil)))
  refine KT.pv 16 (.pointer x10.1) ?_
  refine KT.oy rfl (OY.eqlNil (d := 17) (p := x10.1) _ _ _ _ rfl rfl rfl (by kernel_rfl) rfl rfl ?_)
  refine KT.pv 18 (.bool ((x10.1).isNone)) ?_
  exact KT.leafO j1 (.cons rfl (.cons rfl (.nil)))

set_option maxRecDepth 100000 in
theorem device_Rack_Flush_sim (p0_r : (Option Addr)) (p1_disk : Int) (Qf : Int → World → Prop) (w : World) (hm : device_Rack_Flush p0_r p1_disk Qf w) : Calls Try.prog 42 #[(.pointer p0_r), (.int .i64 p1_disk)] w (RetPost (Value.int .i64) Qf) := by
  refine calls_of (fn := Try.f42) (l := [(.pointer p0_r), (.int .i64 p1_disk)]) (m := device_Rack_Flush p0_r p1_disk) 39 (by kernel_rfl) rfl rfl rfl (fun Qf0 => ?_) Qf w hm
  clear hm w Qf
  unfold device_Rack_Flush
  refine SC.seq ?_
  refine SC.region' ?_
  refine KT.pv 4 (.int .i64 0) ?_
  refine KT.nil ?_
  refine SX.seq ?_
  refine SC.seq ?_
  refine SC.region' ?_
  refine KT.pv 10 (.pointer p0_r) ?_
  refine KT.pv 11 (.int .i64 p1_disk) ?_
  refine KT.cl (fun y : ((Option Addr) × Int) => (.tuple #[(.pointer y.1), (.int .i64 y.2)])) 12 73 #[(.pointer p0_r), (.int .i64 p1_disk), (.int .i64 0), (.int .i64 64)] (device_Rack_counted_sim p0_r p1_disk 0 64) (fun x12 => ?_)
  refine KT.pv 9 (.tuple #[(.pointer x12.1), (.int .i64 x12.2)]) ?_
  refine KT.pv 13 (.pointer x12.1) ?_
  refine KT.pv 14 (.int .i64 x12.2) ?_
  refine KT.pv 5 (.pointer x12.1) ?_
  refine KT.pv 6 (.int .i64 x12.2) ?_
  refine KT.nil ?_
  refine SX.seq ?_
  refine SC.seq ?_
  refine SC.seq ?_
  refine SC.region' ?_
  refine KT.pv 15 (.int .i64 x12.2) ?_
  refine KT.pv 16 (.bool (x12.2 == 0)) ?_
  refine KT.nil ?_
  refine SX.seq ?_
  refine SC.cond (b := x12.2 == 0) rfl ?_ ?_
  refine SC.seq ?_
  refine SC.seq ?_
  refine SC.region' ?_
  refine KT.pv 17 (.pointer x12.1) ?_
  refine KT.nm 18 (fun x18 => ?_)
  refine KT.pv 19 (.pointer (some (Addr.add x18 1))) ?_
  refine KT.l 20 (fun x20 => ?_)
  refine KT.ow rfl (OW.rangeMap (d := 21) _ _ 3 46 rfl rfl (by kernel_rfl) rfl rfl (fun x21 => ?_))
  refine KT.nil ?_
  refine SX.seq ?_
  refine SC.block ?_
  refine SC.loop (σ := Unit) (fun s1 => [(5, (.pointer x12.1)), (6, (.int .i64 x12.2)), (21, (.pointer (some x21)))]) (.cons rfl (.cons rfl (.cons rfl (.nil)))) (fun _ _ _ s1 => ?_)
  refine SC.seq ?_
  refine SC.region' ?_
  refine KT.ow rfl (OW.next (d := 22) _ rfl rfl rfl rfl (fun y22 => ?_))
  refine KT.opt (y := y22) 22 rfl ?_ (fun e22 => ?_)
  refine KT.pv 23 (.bool false) ?_
  refine KT.nil ?_
  refine SX.seq ?_
  refine SC.seq ?_
  refine SC.cond_false rfl ?_
  refine SC.exit ?_
  refine SX.then_exit ?_
  refine SX.loop_exit ?_
  refine SX.block_hit ?_
  refine SX.seq ?_
  refine SC.region' ?_
  refine KT.pv 34 (.pointer x12.1) ?_
  refine KT.nm 35 (fun x35 => ?_)
  refine KT.pv 36 (.pointer (some (Addr.add x35 1))) ?_
  refine KT.l 37 (fun x37 => ?_)
  refine KT.ow rfl (OW.clearMap0 _ _ 3 46 rfl rfl (by kernel_rfl) rfl ?_)
  refine KT.nil ?_
  refine SX.seq ?_
  refine SC.seq ?_
  refine SC.region' ?_
  refine KT.pv 38 (.int .i64 x12.2) ?_
  refine KT.pv 4 (.int .i64 x12.2) ?_
  refine KT.nil ?_
  refine SX.seq ?_
  refine SC.ret ?_
  refine SX.ret [.tmp 4] rfl ?_
  refine RS.tmp (.int .i64 x12.2) rfl ?_
  exact RS.nil rfl
  refine KT.pv 23 (.bool true) ?_
  refine KT.nil ?_
  refine SX.seq ?_
  refine SC.seq ?_
  refine SC.cond_true rfl ?_
  refine SC.skip ?_
  refine SX.seq ?_
  refine SC.block ?_
  refine SC.seq ?_
  refine SC.region' ?_
  refine KT.ow rfl (OW.entry (d := 24) (ek := (Value.int .i64)) (evv := vS) _ rfl rfl rfl rfl (fun x24 => ?_))
  refine KT.pv 25 (.int .i64 x24.1) ?_
  refine KT.pv 26 (.slice x24.2.base x24.2.len x24.2.cap) ?_
  refine KT.pv 7 (.int .i64 x24.1) ?_
  refine KT.pv 8 (.slice x24.2.base x24.2.len x24.2.cap) ?_
  refine KT.nil ?_
  refine SX.seq ?_
  refine SC.region' ?_
  refine KT.pv 27 (.pointer x12.1) ?_
  refine KT.nm 28 (fun x28 => ?_)
  refine KT.pv 29 (.pointer (some x28)) ?_
  refine KT.l 30 (fun x30 => ?_)
  refine KT.pv 31 (.int .i64 x24.1) ?_
  refine KT.pv 32 (.slice x24.2.base x24.2.len x24.2.cap) ?_
  refine KT.oy rfl (OY.idx (d := 33) (s := x30) (i := x24.1) (size := 1) (elem := 46) _ _ _ rfl rfl rfl (by kernel_rfl) (by kernel_rfl) rfl rfl (fun x33 => ?_))
  refine KT.s ?_
  refine KT.nil ?_
  refine SX.block ?_
  exact SX.loop_next (.cons rfl (.cons rfl (.cons rfl (.nil))))
  refine SC.skip ?_
  refine SX.seq ?_
  refine SC.seq ?_
  refine SC.region' ?_
  refine KT.pv 38 (.int .i64 x12.2) ?_
  refine KT.pv 4 (.int .i64 x12.2) ?_
  refine KT.nil ?_
  refine SX.seq ?_
  refine SC.ret ?_
  refine SX.ret [.tmp 4] rfl ?_
  refine RS.tmp (.int .i64 x12.2) rfl ?_
  exact RS.nil rfl

set_option maxRecDepth 100000 in
theorem law02_DevicePower_sim (p0_n : Int) (p1_kinds : Slc) (Qf : Bool → World → Prop) (w : World) (hm : law02_DevicePower (cvOf Try.prog) p0_n p1_kinds Qf w) : Calls Try.prog 8 #[(.int .i64 p0_n), (.slice p1_kinds.base p1_kinds.len p1_kinds.cap)] w (RetPost Value.bool Qf) := by
  refine calls_of (fn := Try.f8) (l := [(.int .i64 p0_n), (.slice p1_kinds.base p1_kinds.len p1_kinds.cap)]) (m := law02_DevicePower (cvOf Try.prog) p0_n p1_kinds) 83 (by kernel_rfl) rfl rfl rfl (fun Qf0 => ?_) Qf w hm
  clear hm w Qf
  unfold law02_DevicePower
  refine SC.seq ?_
  refine SC.region' ?_
  refine KT.pv 4 (.bool false) ?_
  refine KT.nil ?_
  refine SX.seq ?_
  refine SC.seq ?_
  refine SC.seq ?_
  refine SC.region' ?_
  refine KT.cl Value.bool 10 38 #[] (law02_alive_sim ) (fun x10 => ?_)
  refine KT.pv 11 (.bool (!x10)) ?_
  refine KT.nil ?_
  refine SX.seq ?_
  refine SC.cond (b := !x10) rfl ?_ ?_
  refine SC.seq ?_
  refine SC.region' ?_
  refine KT.pv 4 (.bool false) ?_
  refine KT.nil ?_
  refine SX.seq ?_
  refine SC.ret ?_
  refine SX.then_ret ?_
  refine SX.ret [.tmp 4] rfl ?_
  refine RS.tmp (.bool false) rfl ?_
  exact RS.nil rfl
  refine SC.skip ?_
  refine SX.seq ?_
  refine SC.seq ?_
  refine SC.seq ?_
  refine SC.region' ?_
  refine KT.pv 12 (.slice p1_kinds.base p1_kinds.len p1_kinds.cap) ?_
  refine KT.pv 13 (.int .i64 ((p1_kinds.len : Nat) : Int)) ?_
  refine KT.pv 14 (.bool (decide (((p1_kinds.len : Nat) : Int) > 300))) ?_
  refine KT.pv 15 (.bool (decide (((p1_kinds.len : Nat) : Int) > 300))) ?_
  refine KT.joinO (β := Bool) 3 (fun r1 => [(18, (.bool r1)), (0, (.int .i64 p0_n)), (1, (.slice p1_kinds.base p1_kinds.len p1_kinds.cap))]) (fun r1 => ?_) (fun j1 => ?_)
  refine KT.nil ?_
  refine SX.seq ?_
  refine SC.cond (b := r1) rfl ?_ ?_
  refine SC.seq ?_
  refine SC.region' ?_
  refine KT.pv 4 (.bool true) ?_
  refine KT.nil ?_
  refine SX.seq ?_
  refine SC.ret ?_
  refine SX.then_ret ?_
  refine SX.ret [.tmp 4] rfl ?_
  refine RS.tmp (.bool true) rfl ?_
  exact RS.nil rfl
  refine SC.skip ?_
  refine SX.seq ?_
  refine SC.seq ?_
  refine SC.region' ?_
  refine KT.cl (fun y : ((Option Addr) × Int) => (.tuple #[(.pointer y.1), (.int .i64 y.2)])) 20 21 #[(.int .i64 1), (.int .i64 2)] (device_New_sim 1 2) (fun x20 => ?_)
  refine KT.pv 19 (.tuple #[(.pointer x20.1), (.int .i64 x20.2)]) ?_
  refine KT.pv 21 (.pointer x20.1) ?_
  refine KT.pv 22 (.int .i64 x20.2) ?_
  refine KT.pv 5 (.pointer x20.1) ?_
  refine KT.pv 6 (.int .i64 x20.2) ?_
  refine KT.nil ?_
  refine SX.seq ?_
  refine SC.seq ?_
  refine SC.seq ?_
  refine SC.region' ?_
  refine KT.pv 23 (.int .i64 x20.2) ?_
  refine KT.pv 24 (.bool (x20.2 != 0)) ?_
  refine KT.pv 25 (.bool (x20.2 != 0)) ?_
  refine KT.joinO (β := Bool) 3 (fun r2 => [(28, (.bool r2)), (0, (.int .i64 p0_n)), (1, (.slice p1_kinds.base p1_kinds.len p1_kinds.cap)), (5, (.pointer x20.1))]) (fun r2 => ?_) (fun j2 => ?_)
  refine KT.nil ?_
  refine SX.seq ?_
  refine SC.cond (b := r2) rfl ?_ ?_
  refine SC.seq ?_
  refine SC.region' ?_
  refine KT.pv 4 (.bool false) ?_
  refine KT.nil ?_
  refine SX.seq ?_
  refine SC.ret ?_
  refine SX.then_ret ?_
  refine SX.ret [.tmp 4] rfl ?_
  refine RS.tmp (.bool false) rfl ?_
  exact RS.nil rfl
  refine SC.skip ?_
  refine SX.seq ?_
  refine SC.seq ?_
  refine SC.region' ?_
  refine KT.pv 29 (.pointer x20.1) ?_
  refine KT.pv 30 (.int .i64 p0_n) ?_
  refine KT.cl (fun y : Unit => (.tuple #[])) 31 43 #[(.pointer x20.1), (.int .i64 p0_n)] (device_Rack_Arm_sim x20.1 p0_n) (fun x31 => ?_)
  refine KT.nil ?_
  refine SX.seq ?_
  refine SC.seq ?_
  refine SC.region' ?_
  refine KT.nw 32 (fun ad => .slice (some ad) 64 64) 5 (fun x32 => ?_)
  refine KT.pv 7 (.slice (some x32) 64 64) ?_
  refine KT.nil ?_
  refine SX.seq ?_
  refine SC.seq ?_
  refine SC.seq ?_
  refine SC.region' ?_
  refine KT.pv 8 (.int .i64 0) ?_
  refine KT.nil ?_
  refine SX.seq ?_
  refine SC.block ?_
  refine SC.loop (σ := (Int)) (fun s3 => [(0, (.int .i64 p0_n)), (1, (.slice p1_kinds.base p1_kinds.len p1_kinds.cap)), (5, (.pointer x20.1)), (7, (.slice (some x32) 64 64)), (8, (.int .i64 s3))]) (.cons rfl (.cons rfl (.cons rfl (.cons rfl (.cons rfl (.nil)))))) (fun _ _ _ s3 => ?_)
  refine SC.seq ?_
  refine SC.seq ?_
  refine SC.region' ?_
  refine KT.pv 33 (.int .i64 s3) ?_
  refine KT.pv 34 (.slice p1_kinds.base p1_kinds.len p1_kinds.cap) ?_
  refine KT.pv 35 (.int .i64 ((p1_kinds.len : Nat) : Int)) ?_
  refine KT.pv 36 (.bool (decide (s3 < ((p1_kinds.len : Nat) : Int)))) ?_
  refine KT.nil ?_
  refine SX.seq ?_
  refine SC.cond (b := decide (s3 < ((p1_kinds.len : Nat) : Int))) rfl ?_ ?_
  refine SC.skip ?_
  refine SX.seq ?_
  refine SC.seq ?_
  refine SC.block ?_
  refine SC.seq ?_
  refine SC.region' ?_
  refine KT.pv 9 (.int .i64 0) ?_
  refine KT.nil ?_
  refine SX.seq ?_
  refine SC.seq ?_
  refine SC.seq ?_
  refine SC.region' ?_
  refine KT.pv 39 (.slice p1_kinds.base p1_kinds.len p1_kinds.cap) ?_
  refine KT.pv 40 (.int .i64 s3) ?_
  refine KT.oy rfl (OY.idx (d := 41) (s := p1_kinds) (i := s3) (size := 1) (elem := 3) _ _ _ rfl rfl rfl (by kernel_rfl) (by kernel_rfl) rfl rfl (fun x41 => ?_))
  refine KT.l 42 (fun x42 => ?_)
  refine KT.pv 43 (.int .i64 (bAnd .i64 x42 3)) ?_
  refine KT.nil ?_
  refine SX.seq ?_
  refine SC.join (β := (Int)) (fun b4 => [(0, (.int .i64 p0_n)), (1, (.slice p1_kinds.base p1_kinds.len p1_kinds.cap)), (5, (.pointer x20.1)), (7, (.slice (some x32) 64 64)), (8, (.int .i64 s3)), (9, (.int .i64 b4))]) (fun b4 => ?_) (fun j4 => ?_)
  refine SX.seq ?_
  refine SC.seq ?_
  refine SC.region' ?_
  refine KT.pv 65 (.int .i64 b4) ?_
  refine KT.pv 66 (.bool (b4 == 12)) ?_
  refine KT.pv 67 (.int .i64 s3) ?_
  refine KT.pv 68 (.int .i64 p0_n) ?_
  refine KT.pv 69 (.bool (decide (s3 ≥ p0_n))) ?_
  refine KT.pv 70 (.bool (!((b4 == 12) == (decide (s3 ≥ p0_n))))) ?_
  refine KT.nil ?_
  refine SX.seq ?_
  refine SC.cond (b := !((b4 == 12) == (decide (s3 ≥ p0_n)))) rfl ?_ ?_
  refine SC.seq ?_
  refine SC.region' ?_
  refine KT.pv 4 (.bool false) ?_
  refine KT.nil ?_
  refine SX.seq ?_
  refine SC.ret ?_
  refine SX.block_ret ?_
  refine SX.then_ret ?_
  refine SX.loop_ret ?_
  refine SX.block_ret ?_
  refine SX.then_ret ?_
  refine SX.ret [.tmp 4] rfl ?_
  refine RS.tmp (.bool false) rfl ?_
  exact RS.nil rfl
  refine SC.skip ?_
  refine SX.block ?_
  refine SX.seq ?_
  refine SC.region' ?_
  refine KT.pv 37 (.int .i64 s3) ?_
  refine KT.pv 38 (.int .i64 (w64 (s3 + 1))) ?_
  refine KT.pv 8 (.int .i64 (w64 (s3 + 1))) ?_
  refine KT.nil ?_
  exact SX.loop_next (.cons rfl (.cons rfl (.cons rfl (.cons rfl (.cons rfl (.nil))))))
  refine SC.block ?_
  refine SC.seq ?_
  refine SC.region' ?_
  refine KT.pv 48 (.bool ((bAnd .i64 x42 3) == 0)) ?_
  refine KT.pv 47 (.bool ((bAnd .i64 x42 3) == 0)) ?_
  refine KT.nil ?_
  refine SX.seq ?_
  refine SC.cond (b := (bAnd .i64 x42 3) == 0) rfl ?_ ?_
  refine SC.region' ?_
  refine KT.pv 49 (.pointer x20.1) ?_
  refine KT.cl (Value.int .i64) 50 42 #[(.pointer x20.1), (.int .i64 0)] (device_Rack_Flush_sim x20.1 0) (fun x50 => ?_)
  refine KT.pv 9 (.int .i64 x50) ?_
  refine KT.nil ?_
  refine SX.block ?_
  exact SX.leafS j4 (.cons rfl (.cons rfl (.cons rfl (.cons rfl (.cons rfl (.cons rfl (.nil)))))))
  refine SC.seq ?_
  refine SC.region' ?_
  refine KT.pv 52 (.bool ((bAnd .i64 x42 3) == 1)) ?_
  refine KT.pv 51 (.bool ((bAnd .i64 x42 3) == 1)) ?_
  refine KT.nil ?_
  refine SX.seq ?_
  refine SC.cond (b := (bAnd .i64 x42 3) == 1) rfl ?_ ?_
  refine SC.seq ?_
  refine SC.seq ?_
  refine SC.region' ?_
  refine KT.pv 53 (.pointer x20.1) ?_
  refine KT.pv 54 (.slice (some x32) 64 64) ?_
  refine KT.cl (Value.int .i64) 55 39 #[(.pointer x20.1), (.int .i64 0), (.int .i64 5), (.slice (some x32) 64 64)] (device_Rack_Write_sim x20.1 0 5 (⟨some x32, 64, 64⟩)) (fun x55 => ?_)
  refine KT.pv 56 (.bool (x55 != 11)) ?_
  refine KT.pv 57 (.bool (x55 != 11)) ?_
  refine KT.joinO (β := Bool) 4 (fun r5 => [(61, (.bool r5)), (0, (.int .i64 p0_n)), (1, (.slice p1_kinds.base p1_kinds.len p1_kinds.cap)), (5, (.pointer x20.1)), (7, (.slice (some x32) 64 64)), (8, (.int .i64 s3))]) (fun r5 => ?_) (fun j5 => ?_)
  refine KT.nil ?_
  refine SX.seq ?_
  refine SC.cond (b := r5) rfl ?_ ?_
  refine SC.seq ?_
  refine SC.region' ?_
  refine KT.pv 4 (.bool false) ?_
  refine KT.nil ?_
  refine SX.seq ?_
  refine SC.ret ?_
  refine SX.then_ret ?_
  refine SX.block_ret ?_
  refine SX.rightM ?_
  refine SX.then_ret ?_
  refine SX.block_ret ?_
  refine SX.then_ret ?_
  refine SX.loop_ret ?_
  refine SX.block_ret ?_
  refine SX.then_ret ?_
  refine SX.ret [.tmp 4] rfl ?_
  refine RS.tmp (.bool false) rfl ?_
  exact RS.nil rfl
  refine SC.skip ?_
  refine SX.seq ?_
  refine SC.region' ?_
  refine KT.pv 62 (.pointer x20.1) ?_
  refine KT.pv 63 (.slice (some x32) 64 64) ?_
  refine KT.cl (Value.int .i64) 64 39 #[(.pointer x20.1), (.int .i64 0), (.int .i64 1), (.slice (some x32) 64 64)] (device_Rack_Write_sim x20.1 0 1 (⟨some x32, 64, 64⟩)) (fun x64 => ?_)
  refine KT.pv 9 (.int .i64 x64) ?_
  refine KT.nil ?_
  refine SX.block ?_
  exact SX.leafS j4 (.cons rfl (.cons rfl (.cons rfl (.cons rfl (.cons rfl (.cons rfl (.nil)))))))
  refine KT.ite (b := x55 != 11) 57 rfl ?_ ?_
  refine KT.pv 58 (.int .i64 s3) ?_
  refine KT.pv 59 (.int .i64 p0_n) ?_
  refine KT.pv 60 (.bool (decide (s3 < p0_n))) ?_
  refine KT.pv 61 (.bool (decide (s3 < p0_n))) ?_
  exact KT.leafO j5 (.cons rfl (.cons rfl (.cons rfl (.cons rfl (.cons rfl (.cons rfl (.nil)))))))
  refine KT.sk ?_
  refine KT.sk ?_
  refine KT.sk ?_
  refine KT.pv 61 (.bool false) ?_
  exact KT.leafO j5 (.cons rfl (.cons rfl (.cons rfl (.cons rfl (.cons rfl (.cons rfl (.nil)))))))
  refine SC.region' ?_
  refine KT.pv 44 (.pointer x20.1) ?_
  refine KT.pv 45 (.slice (some x32) 64 64) ?_
  refine KT.cl (Value.int .i64) 46 39 #[(.pointer x20.1), (.int .i64 0), (.int .i64 0), (.slice (some x32) 64 64)] (device_Rack_Write_sim x20.1 0 0 (⟨some x32, 64, 64⟩)) (fun x46 => ?_)
  refine KT.pv 9 (.int .i64 x46) ?_
  refine KT.nil ?_
  refine SX.block ?_
  exact SX.leafS j4 (.cons rfl (.cons rfl (.cons rfl (.cons rfl (.cons rfl (.cons rfl (.nil)))))))
  refine SC.exit ?_
  refine SX.then_exit ?_
  refine SX.loop_exit ?_
  refine SX.block_hit ?_
  refine SX.seq ?_
  refine SC.seq ?_
  refine SC.region' ?_
  refine KT.pv 72 (.pointer x20.1) ?_
  refine KT.cl (fun y : (Slc × Int) => (.tuple #[(.slice y.1.base y.1.len y.1.cap), (.int .i64 y.2)])) 73 29 #[(.pointer x20.1), (.int .i64 0), (.int .i64 0)] (device_Rack_Read_sim x20.1 0 0) (fun x73 => ?_)
  refine KT.pv 71 (.tuple #[(.slice x73.1.base x73.1.len x73.1.cap), (.int .i64 x73.2)]) ?_
  refine KT.pv 74 (.slice x73.1.base x73.1.len x73.1.cap) ?_
  refine KT.pv 75 (.int .i64 x73.2) ?_
  refine KT.pv 6 (.int .i64 x73.2) ?_
  refine KT.nil ?_
  refine SX.seq ?_
  refine SC.seq ?_
  refine SC.region' ?_
  refine KT.pv 76 (.int .i64 x73.2) ?_
  refine KT.pv 77 (.bool (x73.2 == 12)) ?_
  refine KT.pv 78 (.slice p1_kinds.base p1_kinds.len p1_kinds.cap) ?_
  refine KT.pv 79 (.int .i64 ((p1_kinds.len : Nat) : Int)) ?_
  refine KT.pv 80 (.int .i64 p0_n) ?_
  refine KT.pv 81 (.bool (decide (((p1_kinds.len : Nat) : Int) > p0_n))) ?_
  refine KT.pv 82 (.bool ((x73.2 == 12) == (decide (((p1_kinds.len : Nat) : Int) > p0_n)))) ?_
  refine KT.pv 4 (.bool ((x73.2 == 12) == (decide (((p1_kinds.len : Nat) : Int) > p0_n)))) ?_
  refine KT.nil ?_
  refine SX.seq ?_
  refine SC.ret ?_
  refine SX.ret [.tmp 4] rfl ?_
  refine RS.tmp (.bool ((x73.2 == 12) == (decide (((p1_kinds.len : Nat) : Int) > p0_n)))) rfl ?_
  exact RS.nil rfl
  refine KT.ite (b := x20.2 != 0) 25 rfl ?_ ?_
  refine KT.sk ?_
  refine KT.sk ?_
  refine KT.pv 28 (.bool true) ?_
  exact KT.leafO j2 (.cons rfl (.cons rfl (.cons rfl (.cons rfl (.nil)))))
  refine KT.pv 26 (.pointer x20.1) ?_
  refine KT.oy rfl (OY.eqlNil (d := 27) (p := x20.1) _ _ _ _ rfl rfl rfl (by kernel_rfl) rfl rfl ?_)
  refine KT.pv 28 (.bool ((x20.1).isNone)) ?_
  exact KT.leafO j2 (.cons rfl (.cons rfl (.cons rfl (.cons rfl (.nil)))))
  refine KT.ite (b := decide (((p1_kinds.len : Nat) : Int) > 300)) 15 rfl ?_ ?_
  refine KT.sk ?_
  refine KT.sk ?_
  refine KT.pv 18 (.bool true) ?_
  exact KT.leafO j1 (.cons rfl (.cons rfl (.cons rfl (.nil))))
  refine KT.pv 16 (.int .i64 p0_n) ?_
  refine KT.pv 17 (.bool (decide (p0_n < 0))) ?_
  refine KT.pv 18 (.bool (decide (p0_n < 0))) ?_
  exact KT.leafO j1 (.cons rfl (.cons rfl (.cons rfl (.nil))))
end Go.Proofs.Ytldmeimebebllaa
namespace Go.Proofs.Ytldmeimebebllaa
open Go.Mo
theorem keysOk : KeysOk (cvOf Try.prog) := fun a yv Q w hm =>
  enter_of (f := fid_maps_Keys_m_c1) (ags := #[yv, .pointer (some a)]) (m := maps_Keys_m_c1 (cvOf Try.prog) yv a) (enc := fun _ : Unit => .tuple #[]) (by simp [Deferred.ofValue, invoke]) (fun Qf' h => maps_Keys_m_c1_sim yv a Qf' w h) Q hm
end Go.Proofs.Ytldmeimebebllaa
