/-
  A part of the proof: predicate transformers over the model, and a separation logic over them; what functions of the program do.
-/
import Derived.Test.YtldmeimebebllaaPart4
import Derived.Test.YtldmeimebebllaaProg
set_option linter.unusedSimpArgs false
namespace Go.Proofs.Ytldmeimebebllaa
open Go.Mo Go.Shelf
set_option maxRecDepth 100000
def sortRen : Go.Shelf.Ren := ⟨fun | 5 => 115 | 8 => 135 | 7 => 134 | 19 => 148 | 20 => 149 | 10 => 139 | 11 => 140 | 12 => 141 | 13 => 142 | 14 => 143 | 15 => 144 | 16 => 145 | 17 => 146 | 18 => 147 | 30 => 151 | 31 => 152 | 32 => 153 | 33 => 154 | 34 => 155 | 35 => 156 | 40 => 157 | n => n, fun | 23 => 33 | 25 => 3 | 3 => 3 | 32 => 58 | 22 => 33 | 0 => 0 | 44 => 184 | 46 => 186 | 4 => 4 | 36 => 178 | 35 => 177 | 41 => 126 | 5 => 5 | 9 => 9 | 53 => 188 | 57 => 192 | 63 => 194 | 64 => 95 | n => n, fun | n => n⟩
theorem sortLay : SlLaysM.n5 Try.prog sortRen := {
  mixed := by kernel_rfl,
  f5 := ⟨Try.f115.name, by decide, Try.func115.trans (congrArg some (by kernel_rfl))⟩,
  f7 := ⟨Try.f134.name, by decide, Try.func134.trans (congrArg some (by kernel_rfl))⟩,
  f8 := Try.func135.trans (congrArg some (by kernel_rfl)),
  f10 := ⟨Try.f139.name, by decide, Try.func139.trans (congrArg some (by kernel_rfl))⟩,
  f11 := ⟨Try.f140.name, by decide, Try.func140.trans (congrArg some (by kernel_rfl))⟩,
  f12 := ⟨Try.f141.name, by decide, Try.func141.trans (congrArg some (by kernel_rfl))⟩,
  f13 := ⟨Try.f142.name, by decide, Try.func142.trans (congrArg some (by kernel_rfl))⟩,
  f14 := ⟨Try.f143.name, by decide, Try.func143.trans (congrArg some (by kernel_rfl))⟩,
  f15 := ⟨Try.f144.name, by decide, Try.func144.trans (congrArg some (by kernel_rfl))⟩,
  f16 := ⟨Try.f145.name, by decide, Try.func145.trans (congrArg some (by kernel_rfl))⟩,
  f17 := ⟨Try.f146.name, by decide, Try.func146.trans (congrArg some (by kernel_rfl))⟩,
  f18 := ⟨Try.f147.name, by decide, Try.func147.trans (congrArg some (by kernel_rfl))⟩,
  f19 := Try.func148.trans (congrArg some (by kernel_rfl)),
  f20 := Try.func149.trans (congrArg some (by kernel_rfl)),
  f30 := ⟨Try.f151.name, by decide, Try.func151.trans (congrArg some (by kernel_rfl))⟩,
  f31 := Try.func152.trans (congrArg some (by kernel_rfl)),
  f32 := Try.func153.trans (congrArg some (by kernel_rfl)),
  f33 := ⟨Try.f154.name, by decide, Try.func154.trans (congrArg some (by kernel_rfl))⟩,
  f34 := ⟨Try.f155.name, by decide, Try.func155.trans (congrArg some (by kernel_rfl))⟩,
  f35 := ⟨Try.f156.name, by decide, Try.func156.trans (congrArg some (by kernel_rfl))⟩,
  f40 := ⟨Try.f157.name, by decide, Try.func157.trans (congrArg some (by kernel_rfl))⟩,
  t0 := Try.underlying0,
  a0 := Try.isAgg0,
  z0 := Try.sizeOf0,
  v0 := Try.zeroValue0,
  t3 := Try.underlying3,
  a3 := Try.isAgg3,
  z3 := Try.sizeOf3,
  v3 := Try.zeroValue3,
  t4 := Try.underlying4,
  a4 := Try.isAgg4,
  z4 := Try.sizeOf4,
  v4 := Try.zeroValue4,
  t5 := Try.underlying5,
  a5 := Try.isAgg5,
  z5 := Try.sizeOf5,
  v5 := Try.zeroValue5,
  t9 := Try.underlying9,
  a9 := Try.isAgg9,
  z9 := Try.sizeOf9,
  v9 := Try.zeroValue9,
  t22 := Try.underlying33,
  a22 := Try.isAgg33,
  z22 := Try.sizeOf33,
  v22 := Try.zeroValue33,
  t23 := Try.underlying33,
  a23 := Try.isAgg33,
  z23 := Try.sizeOf33,
  v23 := Try.zeroValue33,
  t25 := Try.underlying3,
  a25 := Try.isAgg3,
  z25 := Try.sizeOf3,
  v25 := Try.zeroValue3,
  t32 := Try.underlying58,
  a32 := Try.isAgg58,
  z32 := Try.sizeOf58,
  v32 := Try.zeroValue58,
  t35 := Try.underlying177,
  a35 := Try.isAgg177,
  z35 := Try.sizeOf177,
  v35 := Try.zeroValue177,
  t36 := Try.underlying178,
  a36 := Try.isAgg178,
  z36 := Try.sizeOf178,
  v36 := Try.zeroValue178,
  t41 := Try.underlying126,
  a41 := Try.isAgg126,
  z41 := Try.sizeOf126,
  v41 := Try.zeroValue126,
  t44 := Try.underlying184,
  a44 := Try.isAgg184,
  z44 := Try.sizeOf184,
  v44 := Try.zeroValue184,
  t46 := Try.underlying186,
  a46 := Try.isAgg186,
  z46 := Try.sizeOf186,
  v46 := Try.zeroValue186,
  t53 := Try.underlying188,
  a53 := Try.isAgg188,
  z53 := Try.sizeOf188,
  v53 := Try.zeroValue188,
  t57 := Try.underlying192,
  a57 := Try.isAgg192,
  z57 := Try.sizeOf192,
  v57 := Try.zeroValue192,
  t63 := Try.underlying194,
  a63 := Try.isAgg194,
  z63 := Try.sizeOf194,
  v63 := Try.zeroValue194,
  t64 := Try.underlying95,
  a64 := Try.isAgg95,
  z64 := Try.sizeOf95,
  v64 := Try.zeroValue95
}
theorem slices_Sort_i_sim (p0 : Slc) (Qf : Unit → World → Prop) (w : World) (hm : sortM p0 Qf w) : Calls Try.prog 115 #[.slice p0.base p0.len p0.cap] w (RetPost (fun _ : Unit => .tuple #[]) Qf) := sortM_sim sortLay p0 Qf w hm
end Go.Proofs.Ytldmeimebebllaa
namespace Go.Proofs.Ytldmeimebebllaa
open Go.Mo
set_option linter.unusedVariables false
set_option maxRecDepth 100000 in
theorem device_New_sim (p0_disks : Int) (p1_sectors : Int) (Qf : ((Option Addr) × Int) → World → Prop) (w : World) (hm : device_New p0_disks p1_sectors Qf w) : Calls Try.prog 21 #[(.int .i64 p0_disks), (.int .i64 p1_sectors)] w (RetPost (fun y : ((Option Addr) × Int) => (.tuple #[(.pointer y.1), (.int .i64 y.2)])) Qf) := by
  refine calls_of (fn := Try.f21) (l := [(.int .i64 p0_disks), (.int .i64 p1_sectors)]) (m := device_New p0_disks p1_sectors) 57 (by kernel_rfl) rfl rfl rfl (fun Qf0 => ?_) Qf w hm
  clear hm w Qf
  unfold device_New
  refine SC.seq ?_
  refine SC.region' ?_
  refine KT.pv 4 (.pointer none) ?_
  refine KT.pv 5 (.int .i64 0) ?_
  refine KT.nil ?_
  refine SX.seq ?_
  refine SC.seq ?_
  refine SC.seq ?_
  refine SC.region' ?_
  refine KT.pv 8 (.int .i64 p0_disks) ?_
  refine KT.pv 9 (.bool (decide (p0_disks < 1))) ?_
  refine KT.pv 10 (.bool (decide (p0_disks < 1))) ?_
  refine KT.joinO (β := Bool) 3 (fun r1 => [(13, (.bool r1)), (0, (.int .i64 p0_disks)), (1, (.int .i64 p1_sectors))]) (fun r1 => ?_) (fun j1 => ?_)
  refine KT.pv 14 (.bool r1) ?_
  refine KT.joinO (β := Bool) 3 (fun r2 => [(17, (.bool r2)), (0, (.int .i64 p0_disks)), (1, (.int .i64 p1_sectors))]) (fun r2 => ?_) (fun j2 => ?_)
  refine KT.pv 18 (.bool r2) ?_
  refine KT.joinO (β := Bool) 3 (fun r3 => [(21, (.bool r3)), (0, (.int .i64 p0_disks)), (1, (.int .i64 p1_sectors))]) (fun r3 => ?_) (fun j3 => ?_)
  refine KT.nil ?_
  refine SX.seq ?_
  refine SC.cond (b := r3) rfl ?_ ?_
  refine SC.seq ?_
  refine SC.region' ?_
  refine KT.pv 4 (.pointer none) ?_
  refine KT.pv 5 (.int .i64 10) ?_
  refine KT.nil ?_
  refine SX.seq ?_
  refine SC.ret ?_
  refine SX.then_ret ?_
  refine SX.ret [.tmp 4, .tmp 5] rfl ?_
  refine RS.tmp (.pointer none) rfl ?_
  refine RS.tmp (.int .i64 10) rfl ?_
  exact RS.nil rfl
  refine SC.skip ?_
  refine SX.seq ?_
  refine SC.seq ?_
  refine SC.region' ?_
  refine KT.pv 22 (.int .i64 p1_sectors) ?_
  refine KT.pv 23 (.agg #[(.slice none 0 0), (.int .i64 p1_sectors), (.int .i64 (-1)), (.bool false)]) ?_
  refine KT.nw 24 (fun ad => .pointer (some ad)) 110 (fun x24 => ?_)
  refine KT.pv 6 (.pointer (some x24)) ?_
  refine KT.nil ?_
  refine SX.seq ?_
  refine SC.seq ?_
  refine SC.seq ?_
  refine SC.region' ?_
  refine KT.pv 25 (.int .i64 p0_disks) ?_
  refine KT.pv 26 (.int .i64 0) ?_
  refine KT.nil ?_
  refine SX.seq ?_
  refine SC.block ?_
  refine SC.loop (σ := (Int)) (fun s4 => [(1, (.int .i64 p1_sectors)), (6, (.pointer (some x24))), (25, (.int .i64 p0_disks)), (26, (.int .i64 s4))]) (.cons rfl (.cons rfl (.cons rfl (.cons rfl (.nil))))) (fun _ _ _ s4 => ?_)
  refine SC.seq ?_
  refine SC.region' ?_
  refine KT.pv 27 (.bool (decide (s4 < p0_disks))) ?_
  refine KT.nil ?_
  refine SX.seq ?_
  refine SC.seq ?_
  refine SC.cond (b := decide (s4 < p0_disks)) rfl ?_ ?_
  refine SC.skip ?_
  refine SX.seq ?_
  refine SC.seq ?_
  refine SC.block ?_
  refine SC.seq ?_
  refine SC.region' ?_
  refine KT.ow rfl (OW.newO (d := 28) (.map #[] 0) (fun r => .map (some r)) rfl (fun _ => by kernel_rfl) rfl rfl (fun x28 => ?_))
  refine KT.pv 29 (.agg #[(.slice none 0 0), (.map (some x28)), (.bool false), (.int .i64 (-1))]) ?_
  refine KT.nw 30 (fun ad => .pointer (some ad)) 114 (fun x30 => ?_)
  refine KT.pv 7 (.pointer (some x30)) ?_
  refine KT.nil ?_
  refine SX.seq ?_
  refine SC.seq ?_
  refine SC.seq ?_
  refine SC.region' ?_
  refine KT.pv 31 (.int .i64 p1_sectors) ?_
  refine KT.pv 32 (.int .i64 0) ?_
  refine KT.nil ?_
  refine SX.seq ?_
  refine SC.block ?_
  refine SC.loop (σ := (Int)) (fun s5 => [(1, (.int .i64 p1_sectors)), (6, (.pointer (some x24))), (7, (.pointer (some x30))), (25, (.int .i64 p0_disks)), (26, (.int .i64 s4)), (31, (.int .i64 p1_sectors)), (32, (.int .i64 s5))]) (.cons rfl (.cons rfl (.cons rfl (.cons rfl (.cons rfl (.cons rfl (.cons rfl (.nil)))))))) (fun _ _ _ s5 => ?_)
  refine SC.seq ?_
  refine SC.region' ?_
  refine KT.pv 33 (.bool (decide (s5 < p1_sectors))) ?_
  refine KT.nil ?_
  refine SX.seq ?_
  refine SC.seq ?_
  refine SC.cond (b := decide (s5 < p1_sectors)) rfl ?_ ?_
  refine SC.skip ?_
  refine SX.seq ?_
  refine SC.seq ?_
  refine SC.block ?_
  refine SC.draw 11 (fun f => Nat.beq f 7 || Nat.beq f 10) rfl (by kernel_rfl) (fun S6 => ?_)
  refine KT.pvA 0 34 (.pointer (some x30)) ?_
  refine KT.pvA 1 35 (.pointer (some x30)) ?_
  refine KT.pvA 2 36 (.pointer (some x30)) ?_
  refine KT.pvA 3 37 (.pointer (some x30)) ?_
  refine KT.tk 4 (OY.ldI (d := 38) _ _ rfl rfl (by kernel_rfl) rfl rfl (fun x38 => ?_))
  refine KT.one 5 rfl (by kernel_rfl) rfl (OW.step (OW.new (d := 39) (List.replicate 64 (.int .u8 0)) (fun ad => .slice (some ad) 64 64) 5 rfl (fun _ => by kernel_rfl) rfl rfl (fun x39 => ?_)))
  refine KT.and ?_
  refine KT.one 6 rfl (by kernel_rfl) rfl (OW.step (OW.new (d := 40) [(.slice (some x39) 64 64)] (fun ad => .slice (some ad) 1 1) 46 rfl (fun _ => by kernel_rfl) rfl rfl (fun x40 => ?_)))
  refine KT.and ?_
  refine KT.last 7 rfl (by kernel_rfl) rfl rfl (OW.append (d := 41) (s := x38) (x := ⟨some x40, 1, 1⟩) [(.slice none 0 0)] 24 46 _ _ _ _ rfl rfl rfl rfl (by kernel_rfl) (by kernel_rfl) rfl rfl rfl (fun x41 => ?_))
  refine KT.pvN 8 42 (.pointer (some x30)) ?_
  refine KT.pvN 9 43 (.pointer (some x30)) ?_
  refine KT.lastN 10 rfl (by kernel_rfl) rfl rfl (OW.st _ _ _ rfl rfl rfl rfl (by kernel_rfl) rfl ?_)
  refine KT.doneN (by kernel_rfl) ?_
  refine SX.block ?_
  refine SX.seq ?_
  refine SC.region' ?_
  refine KT.pv 44 (.int .i64 (w64 (s5 + 1))) ?_
  refine KT.pv 32 (.int .i64 (w64 (s5 + 1))) ?_
  refine KT.nil ?_
  exact SX.loop_next (.cons rfl (.cons rfl (.cons rfl (.cons rfl (.cons rfl (.cons rfl (.cons rfl (.nil))))))))
  refine SC.exit ?_
  refine SX.then_exit ?_
  refine SX.loop_exit ?_
  refine SX.block_hit ?_
  refine SX.seq ?_
  refine SC.region' ?_
  refine KT.pv 45 (.pointer (some x24)) ?_
  refine KT.pv 46 (.pointer (some x24)) ?_
  refine KT.pv 47 (.pointer (some x24)) ?_
  refine KT.pv 48 (.pointer (some x24)) ?_
  refine KT.l 49 (fun x49 => ?_)
  refine KT.pv 50 (.pointer (some x30)) ?_
  refine KT.nw 51 (fun ad => .slice (some ad) 1 1) 111 (fun x51 => ?_)
  refine KT.ow rfl (OW.append (d := 52) (s := x49) (x := ⟨some x51, 1, 1⟩) [(.pointer none)] 8 111 _ _ _ _ rfl rfl rfl rfl (by kernel_rfl) (by kernel_rfl) rfl rfl rfl (fun x52 => ?_))
  refine KT.pv 53 (.pointer (some x24)) ?_
  refine KT.pv 54 (.pointer (some x24)) ?_
  refine KT.s ?_
  refine KT.nil ?_
  refine SX.block ?_
  refine SX.seq ?_
  refine SC.region' ?_
  refine KT.pv 55 (.int .i64 (w64 (s4 + 1))) ?_
  refine KT.pv 26 (.int .i64 (w64 (s4 + 1))) ?_
  refine KT.nil ?_
  exact SX.loop_next (.cons rfl (.cons rfl (.cons rfl (.cons rfl (.nil)))))
  refine SC.exit ?_
  refine SX.then_exit ?_
  refine SX.loop_exit ?_
  refine SX.block_hit ?_
  refine SX.seq ?_
  refine SC.seq ?_
  refine SC.region' ?_
  refine KT.pv 56 (.pointer (some x24)) ?_
  refine KT.pv 4 (.pointer (some x24)) ?_
  refine KT.pv 5 (.int .i64 0) ?_
  refine KT.nil ?_
  refine SX.seq ?_
  refine SC.ret ?_
  refine SX.ret [.tmp 4, .tmp 5] rfl ?_
  refine RS.tmp (.pointer (some x24)) rfl ?_
  refine RS.tmp (.int .i64 0) rfl ?_
  exact RS.nil rfl
  refine KT.ite (b := r2) 18 rfl ?_ ?_
  refine KT.sk ?_
  refine KT.sk ?_
  refine KT.pv 21 (.bool true) ?_
  exact KT.leafO j3 (.cons rfl (.cons rfl (.cons rfl (.nil))))
  refine KT.pv 19 (.int .i64 p1_sectors) ?_
  refine KT.pv 20 (.bool (decide (p1_sectors > 4096))) ?_
  refine KT.pv 21 (.bool (decide (p1_sectors > 4096))) ?_
  exact KT.leafO j3 (.cons rfl (.cons rfl (.cons rfl (.nil))))
  refine KT.ite (b := r1) 14 rfl ?_ ?_
  refine KT.sk ?_
  refine KT.sk ?_
  refine KT.pv 17 (.bool true) ?_
  exact KT.leafO j2 (.cons rfl (.cons rfl (.cons rfl (.nil))))
  refine KT.pv 15 (.int .i64 p1_sectors) ?_
  refine KT.pv 16 (.bool (decide (p1_sectors < 1))) ?_
  refine KT.pv 17 (.bool (decide (p1_sectors < 1))) ?_
  exact KT.leafO j2 (.cons rfl (.cons rfl (.cons rfl (.nil))))
  refine KT.ite (b := decide (p0_disks < 1)) 10 rfl ?_ ?_
  refine KT.sk ?_
  refine KT.sk ?_
  refine KT.pv 13 (.bool true) ?_
  exact KT.leafO j1 (.cons rfl (.cons rfl (.cons rfl (.nil))))
  refine KT.pv 11 (.int .i64 p0_disks) ?_
  refine KT.pv 12 (.bool (decide (p0_disks > 17))) ?_
  refine KT.pv 13 (.bool (decide (p0_disks > 17))) ?_
  exact KT.leafO j1 (.cons rfl (.cons rfl (.cons rfl (.nil))))

set_option maxRecDepth 100000 in
theorem ref02_New_sim (p0_disks : Int) (p1_sectors : Int) (Qf : ((Int × Int × Slc × Slc × Slc × Slc × Int × Bool) × Int) → World → Prop) (w : World) (hm : ref02_New p0_disks p1_sectors Qf w) : Calls Try.prog 22 #[(.int .i64 p0_disks), (.int .i64 p1_sectors)] w (RetPost (fun y : ((Int × Int × Slc × Slc × Slc × Slc × Int × Bool) × Int) => (.tuple #[(.agg #[(.int .i64 y.1.1), (.int .i64 y.1.2.1), (.slice y.1.2.2.1.base y.1.2.2.1.len y.1.2.2.1.cap), (.slice y.1.2.2.2.1.base y.1.2.2.2.1.len y.1.2.2.2.1.cap), (.slice y.1.2.2.2.2.1.base y.1.2.2.2.2.1.len y.1.2.2.2.2.1.cap), (.slice y.1.2.2.2.2.2.1.base y.1.2.2.2.2.2.1.len y.1.2.2.2.2.2.1.cap), (.int .i64 y.1.2.2.2.2.2.2.1), (.bool y.1.2.2.2.2.2.2.2)]), (.int .i64 y.2)])) Qf) := by
  refine calls_of (fn := Try.f22) (l := [(.int .i64 p0_disks), (.int .i64 p1_sectors)]) (m := ref02_New p0_disks p1_sectors) 61 (by kernel_rfl) rfl rfl rfl (fun Qf0 => ?_) Qf w hm
  clear hm w Qf
  unfold ref02_New
  refine SC.seq ?_
  refine SC.region' ?_
  refine KT.nw 4 (fun ad => .pointer (some ad)) 35 (fun x4 => ?_)
  refine KT.pv 5 (.int .i64 0) ?_
  refine KT.nil ?_
  refine SX.seq ?_
  refine SC.seq ?_
  refine SC.seq ?_
  refine SC.region' ?_
  refine KT.pv 9 (.int .i64 p0_disks) ?_
  refine KT.pv 10 (.bool (decide (p0_disks < 1))) ?_
  refine KT.pv 11 (.bool (decide (p0_disks < 1))) ?_
  refine KT.joinO (β := Bool) 3 (fun r1 => [(14, (.bool r1)), (0, (.int .i64 p0_disks)), (1, (.int .i64 p1_sectors)), (4, (.pointer (some x4)))]) (fun r1 => ?_) (fun j1 => ?_)
  refine KT.pv 15 (.bool r1) ?_
  refine KT.joinO (β := Bool) 3 (fun r2 => [(18, (.bool r2)), (0, (.int .i64 p0_disks)), (1, (.int .i64 p1_sectors)), (4, (.pointer (some x4)))]) (fun r2 => ?_) (fun j2 => ?_)
  refine KT.pv 19 (.bool r2) ?_
  refine KT.joinO (β := Bool) 3 (fun r3 => [(22, (.bool r3)), (0, (.int .i64 p0_disks)), (1, (.int .i64 p1_sectors)), (4, (.pointer (some x4)))]) (fun r3 => ?_) (fun j3 => ?_)
  refine KT.nil ?_
  refine SX.seq ?_
  refine SC.cond (b := r3) rfl ?_ ?_
  refine SC.seq ?_
  refine SC.region' ?_
  refine KT.pv 23 (.agg #[(.int .i64 0), (.int .i64 0), (.slice none 0 0), (.slice none 0 0), (.slice none 0 0), (.slice none 0 0), (.int .i64 0), (.bool false)]) ?_
  refine KT.ow rfl (OW.stA _ _ _ rfl rfl rfl rfl rfl (by kernel_rfl) ?_)
  refine KT.pv 5 (.int .i64 10) ?_
  refine KT.nil ?_
  refine SX.seq ?_
  refine SC.ret ?_
  refine SX.then_ret ?_
  refine SX.ret [.cell 4 35, .tmp 5] rfl ?_
  refine RS.cellA 8 (by kernel_rfl) rfl rfl (fun _ => rfl) (fun r4 => ?_)
  refine RS.tmp (.int .i64 10) rfl ?_
  exact RS.nil rfl
  refine SC.skip ?_
  refine SX.seq ?_
  refine SC.seq ?_
  refine SC.region' ?_
  refine KT.pv 24 (.int .i64 p0_disks) ?_
  refine KT.pv 25 (.int .i64 p1_sectors) ?_
  refine KT.pv 26 (.agg #[(.int .i64 p0_disks), (.int .i64 p1_sectors), (.slice none 0 0), (.slice none 0 0), (.slice none 0 0), (.slice none 0 0), (.int .i64 (-1)), (.bool false)]) ?_
  refine KT.nw 6 (fun ad => .pointer (some ad)) 35 (fun x6 => ?_)
  refine KT.ow rfl (OW.stA _ _ _ rfl rfl rfl rfl rfl (by kernel_rfl) ?_)
  refine KT.nil ?_
  refine SX.seq ?_
  refine SC.seq ?_
  refine SC.seq ?_
  refine SC.region' ?_
  refine KT.pv 7 (.int .i64 0) ?_
  refine KT.nil ?_
  refine SX.seq ?_
  refine SC.block ?_
  refine SC.loop (σ := (Int)) (fun s4 => [(0, (.int .i64 p0_disks)), (1, (.int .i64 p1_sectors)), (4, (.pointer (some x4))), (6, (.pointer (some x6))), (7, (.int .i64 s4))]) (.cons rfl (.cons rfl (.cons rfl (.cons rfl (.cons rfl (.nil)))))) (fun _ _ _ s4 => ?_)
  refine SC.seq ?_
  refine SC.seq ?_
  refine SC.region' ?_
  refine KT.pv 27 (.int .i64 s4) ?_
  refine KT.pv 28 (.int .i64 p0_disks) ?_
  refine KT.pv 29 (.int .i64 p1_sectors) ?_
  refine KT.pv 30 (.int .i64 (w64 (p0_disks * p1_sectors))) ?_
  refine KT.pv 31 (.bool (decide (s4 < (w64 (p0_disks * p1_sectors))))) ?_
  refine KT.nil ?_
  refine SX.seq ?_
  refine SC.cond (b := decide (s4 < (w64 (p0_disks * p1_sectors)))) rfl ?_ ?_
  refine SC.skip ?_
  refine SX.seq ?_
  refine SC.seq ?_
  refine SC.block ?_
  refine SC.seq ?_
  refine SC.draw 7 (fun f => Nat.beq f 4 || Nat.beq f 6) rfl (by kernel_rfl) (fun S5 => ?_)
  refine KT.pvA 0 34 (.pointer (some (Addr.add x6 2))) ?_
  refine KT.tk 1 (OY.ldI (d := 35) _ _ rfl rfl (by kernel_rfl) rfl rfl (fun x35 => ?_))
  refine KT.one 2 rfl (by kernel_rfl) rfl (OW.step (OW.new (d := 36) (List.replicate 64 (.int .u8 0)) (fun ad => .slice (some ad) 64 64) 5 rfl (fun _ => by kernel_rfl) rfl rfl (fun x36 => ?_)))
  refine KT.and ?_
  refine KT.one 3 rfl (by kernel_rfl) rfl (OW.step (OW.new (d := 37) [(.slice (some x36) 64 64)] (fun ad => .slice (some ad) 1 1) 46 rfl (fun _ => by kernel_rfl) rfl rfl (fun x37 => ?_)))
  refine KT.and ?_
  refine KT.last 4 rfl (by kernel_rfl) rfl rfl (OW.append (d := 38) (s := x35) (x := ⟨some x37, 1, 1⟩) [(.slice none 0 0)] 24 46 _ _ _ _ rfl rfl rfl rfl (by kernel_rfl) (by kernel_rfl) rfl rfl rfl (fun x38 => ?_))
  refine KT.pvN 5 39 (.pointer (some (Addr.add x6 2))) ?_
  refine KT.lastN 6 rfl (by kernel_rfl) rfl rfl (OW.st _ _ _ rfl rfl rfl rfl (by kernel_rfl) rfl ?_)
  refine KT.doneN (by kernel_rfl) ?_
  refine SX.seq ?_
  refine SC.region' ?_
  refine KT.pv 40 (.pointer (some (Addr.add x6 3))) ?_
  refine KT.l 41 (fun x41 => ?_)
  refine KT.nw 42 (fun ad => .slice (some ad) 1 1) 46 (fun x42 => ?_)
  refine KT.ow rfl (OW.append (d := 43) (s := x41) (x := ⟨some x42, 1, 1⟩) [(.slice none 0 0)] 24 46 _ _ _ _ rfl rfl rfl rfl (by kernel_rfl) (by kernel_rfl) rfl rfl rfl (fun x43 => ?_))
  refine KT.pv 44 (.pointer (some (Addr.add x6 3))) ?_
  refine KT.s ?_
  refine KT.nil ?_
  refine SX.block ?_
  refine SX.seq ?_
  refine SC.region' ?_
  refine KT.pv 32 (.int .i64 s4) ?_
  refine KT.pv 33 (.int .i64 (w64 (s4 + 1))) ?_
  refine KT.pv 7 (.int .i64 (w64 (s4 + 1))) ?_
  refine KT.nil ?_
  exact SX.loop_next (.cons rfl (.cons rfl (.cons rfl (.cons rfl (.cons rfl (.nil))))))
  refine SC.exit ?_
  refine SX.then_exit ?_
  refine SX.loop_exit ?_
  refine SX.block_hit ?_
  refine SX.seq ?_
  refine SC.seq ?_
  refine SC.seq ?_
  refine SC.region' ?_
  refine KT.pv 8 (.int .i64 0) ?_
  refine KT.nil ?_
  refine SX.seq ?_
  refine SC.block ?_
  refine SC.loop (σ := (Int)) (fun s6 => [(0, (.int .i64 p0_disks)), (4, (.pointer (some x4))), (6, (.pointer (some x6))), (8, (.int .i64 s6))]) (.cons rfl (.cons rfl (.cons rfl (.cons rfl (.nil))))) (fun _ _ _ s6 => ?_)
  refine SC.seq ?_
  refine SC.seq ?_
  refine SC.region' ?_
  refine KT.pv 45 (.int .i64 s6) ?_
  refine KT.pv 46 (.int .i64 p0_disks) ?_
  refine KT.pv 47 (.bool (decide (s6 < p0_disks))) ?_
  refine KT.nil ?_
  refine SX.seq ?_
  refine SC.cond (b := decide (s6 < p0_disks)) rfl ?_ ?_
  refine SC.skip ?_
  refine SX.seq ?_
  refine SC.seq ?_
  refine SC.block ?_
  refine SC.seq ?_
  refine SC.region' ?_
  refine KT.pv 50 (.pointer (some (Addr.add x6 4))) ?_
  refine KT.l 51 (fun x51 => ?_)
  refine KT.nw 52 (fun ad => .slice (some ad) 1 1) 4 (fun x52 => ?_)
  refine KT.ow rfl (OW.append (d := 53) (s := x51) (x := ⟨some x52, 1, 1⟩) [(.bool false)] 1 4 _ _ _ _ rfl rfl rfl rfl (by kernel_rfl) (by kernel_rfl) rfl rfl rfl (fun x53 => ?_))
  refine KT.pv 54 (.pointer (some (Addr.add x6 4))) ?_
  refine KT.s ?_
  refine KT.nil ?_
  refine SX.seq ?_
  refine SC.region' ?_
  refine KT.pv 55 (.pointer (some (Addr.add x6 5))) ?_
  refine KT.l 56 (fun x56 => ?_)
  refine KT.nw 57 (fun ad => .slice (some ad) 1 1) 3 (fun x57 => ?_)
  refine KT.ow rfl (OW.append (d := 58) (s := x56) (x := ⟨some x57, 1, 1⟩) [(.int .i64 0)] 8 3 _ _ _ _ rfl rfl rfl rfl (by kernel_rfl) (by kernel_rfl) rfl rfl rfl (fun x58 => ?_))
  refine KT.pv 59 (.pointer (some (Addr.add x6 5))) ?_
  refine KT.s ?_
  refine KT.nil ?_
  refine SX.block ?_
  refine SX.seq ?_
  refine SC.region' ?_
  refine KT.pv 48 (.int .i64 s6) ?_
  refine KT.pv 49 (.int .i64 (w64 (s6 + 1))) ?_
  refine KT.pv 8 (.int .i64 (w64 (s6 + 1))) ?_
  refine KT.nil ?_
  exact SX.loop_next (.cons rfl (.cons rfl (.cons rfl (.cons rfl (.nil)))))
  refine SC.exit ?_
  refine SX.then_exit ?_
  refine SX.loop_exit ?_
  refine SX.block_hit ?_
  refine SX.seq ?_
  refine SC.seq ?_
  refine SC.region' ?_
  refine KT.ow rfl (OW.ldA (d := 60) (enc := (fun y : (Int × Int × Slc × Slc × Slc × Slc × Int × Bool) => [(.int .i64 y.1), (.int .i64 y.2.1), (.slice y.2.2.1.base y.2.2.1.len y.2.2.1.cap), (.slice y.2.2.2.1.base y.2.2.2.1.len y.2.2.2.1.cap), (.slice y.2.2.2.2.1.base y.2.2.2.2.1.len y.2.2.2.2.1.cap), (.slice y.2.2.2.2.2.1.base y.2.2.2.2.2.1.len y.2.2.2.2.2.1.cap), (.int .i64 y.2.2.2.2.2.2.1), (.bool y.2.2.2.2.2.2.2)])) 8 _ _ rfl rfl (by kernel_rfl) (by kernel_rfl) (fun _ => rfl) rfl rfl (fun x60 => ?_))
  refine KT.ow rfl (OW.stA _ _ _ rfl rfl rfl rfl rfl (by kernel_rfl) ?_)
  refine KT.pv 5 (.int .i64 0) ?_
  refine KT.nil ?_
  refine SX.seq ?_
  refine SC.ret ?_
  refine SX.ret [.cell 4 35, .tmp 5] rfl ?_
  refine RS.cellA 8 (by kernel_rfl) rfl rfl (fun _ => rfl) (fun r4 => ?_)
  refine RS.tmp (.int .i64 0) rfl ?_
  exact RS.nil rfl
  refine KT.ite (b := r2) 19 rfl ?_ ?_
  refine KT.sk ?_
  refine KT.sk ?_
  refine KT.pv 22 (.bool true) ?_
  exact KT.leafO j3 (.cons rfl (.cons rfl (.cons rfl (.cons rfl (.nil)))))
  refine KT.pv 20 (.int .i64 p1_sectors) ?_
  refine KT.pv 21 (.bool (decide (p1_sectors > 4096))) ?_
  refine KT.pv 22 (.bool (decide (p1_sectors > 4096))) ?_
  exact KT.leafO j3 (.cons rfl (.cons rfl (.cons rfl (.cons rfl (.nil)))))
  refine KT.ite (b := r1) 15 rfl ?_ ?_
  refine KT.sk ?_
  refine KT.sk ?_
  refine KT.pv 18 (.bool true) ?_
  exact KT.leafO j2 (.cons rfl (.cons rfl (.cons rfl (.cons rfl (.nil)))))
  refine KT.pv 16 (.int .i64 p1_sectors) ?_
  refine KT.pv 17 (.bool (decide (p1_sectors < 1))) ?_
  refine KT.pv 18 (.bool (decide (p1_sectors < 1))) ?_
  exact KT.leafO j2 (.cons rfl (.cons rfl (.cons rfl (.cons rfl (.nil)))))
  refine KT.ite (b := decide (p0_disks < 1)) 11 rfl ?_ ?_
  refine KT.sk ?_
  refine KT.sk ?_
  refine KT.pv 14 (.bool true) ?_
  exact KT.leafO j1 (.cons rfl (.cons rfl (.cons rfl (.cons rfl (.nil)))))
  refine KT.pv 12 (.int .i64 p0_disks) ?_
  refine KT.pv 13 (.bool (decide (p0_disks > 17))) ?_
  refine KT.pv 14 (.bool (decide (p0_disks > 17))) ?_
  exact KT.leafO j1 (.cons rfl (.cons rfl (.cons rfl (.cons rfl (.nil)))))

set_option maxRecDepth 100000 in
theorem device_Rack_disk_sim (p0_r : (Option Addr)) (p1_k : Int) (p2_sector : Int) (Qf : ((Option Addr) × Int) → World → Prop) (w : World) (hm : device_Rack_disk p0_r p1_k p2_sector Qf w) : Calls Try.prog 70 #[(.pointer p0_r), (.int .i64 p1_k), (.int .i64 p2_sector)] w (RetPost (fun y : ((Option Addr) × Int) => (.tuple #[(.pointer y.1), (.int .i64 y.2)])) Qf) := by
  refine calls_of (fn := Try.f70) (l := [(.pointer p0_r), (.int .i64 p1_k), (.int .i64 p2_sector)]) (m := device_Rack_disk p0_r p1_k p2_sector) 42 (by kernel_rfl) rfl rfl rfl (fun Qf0 => ?_) Qf w hm
  clear hm w Qf
  unfold device_Rack_disk
  refine SC.seq ?_
  refine SC.region' ?_
  refine KT.pv 6 (.pointer none) ?_
  refine KT.pv 7 (.int .i64 0) ?_
  refine KT.nil ?_
  refine SX.seq ?_
  refine SC.seq ?_
  refine SC.seq ?_
  refine SC.region' ?_
  refine KT.pv 8 (.pointer p0_r) ?_
  refine KT.nm 9 (fun x9 => ?_)
  refine KT.pv 10 (.pointer (some (Addr.add x9 3))) ?_
  refine KT.l 11 (fun x11 => ?_)
  refine KT.nil ?_
  refine SX.seq ?_
  refine SC.cond (b := x11) rfl ?_ ?_
  refine SC.seq ?_
  refine SC.region' ?_
  refine KT.pv 6 (.pointer none) ?_
  refine KT.pv 7 (.int .i64 12) ?_
  refine KT.nil ?_
  refine SX.seq ?_
  refine SC.ret ?_
  refine SX.then_ret ?_
  refine SX.ret [.tmp 6, .tmp 7] rfl ?_
  refine RS.tmp (.pointer none) rfl ?_
  refine RS.tmp (.int .i64 12) rfl ?_
  exact RS.nil rfl
  refine SC.skip ?_
  refine SX.seq ?_
  refine SC.seq ?_
  refine SC.seq ?_
  refine SC.region' ?_
  refine KT.pv 12 (.int .i64 p1_k) ?_
  refine KT.pv 13 (.bool (decide (p1_k < 0))) ?_
  refine KT.pv 14 (.bool (decide (p1_k < 0))) ?_
  refine KT.joinO (β := Bool) 8 (fun r1 => [(22, (.bool r1)), (0, (.pointer p0_r)), (1, (.int .i64 p1_k)), (2, (.int .i64 p2_sector))]) (fun r1 => ?_) (fun j1 => ?_)
  refine KT.pv 23 (.bool r1) ?_
  refine KT.joinO (β := Bool) 3 (fun r2 => [(26, (.bool r2)), (0, (.pointer p0_r)), (1, (.int .i64 p1_k)), (2, (.int .i64 p2_sector))]) (fun r2 => ?_) (fun j2 => ?_)
  refine KT.pv 27 (.bool r2) ?_
  refine KT.joinO (β := Bool) 7 (fun r3 => [(34, (.bool r3)), (0, (.pointer p0_r)), (1, (.int .i64 p1_k))]) (fun r3 => ?_) (fun j3 => ?_)
  refine KT.nil ?_
  refine SX.seq ?_
  refine SC.cond (b := r3) rfl ?_ ?_
  refine SC.seq ?_
  refine SC.region' ?_
  refine KT.pv 6 (.pointer none) ?_
  refine KT.pv 7 (.int .i64 11) ?_
  refine KT.nil ?_
  refine SX.seq ?_
  refine SC.ret ?_
  refine SX.then_ret ?_
  refine SX.ret [.tmp 6, .tmp 7] rfl ?_
  refine RS.tmp (.pointer none) rfl ?_
  refine RS.tmp (.int .i64 11) rfl ?_
  exact RS.nil rfl
  refine SC.skip ?_
  refine SX.seq ?_
  refine SC.seq ?_
  refine SC.region' ?_
  refine KT.pv 35 (.pointer p0_r) ?_
  refine KT.nm 36 (fun x36 => ?_)
  refine KT.pv 37 (.pointer (some x36)) ?_
  refine KT.l 38 (fun x38 => ?_)
  refine KT.pv 39 (.int .i64 p1_k) ?_
  refine KT.oy rfl (OY.idx (d := 40) (s := x38) (i := p1_k) (size := 1) (elem := 111) _ _ _ rfl rfl rfl (by kernel_rfl) (by kernel_rfl) rfl rfl (fun x40 => ?_))
  refine KT.l 41 (fun x41 => ?_)
  refine KT.pv 6 (.pointer x41) ?_
  refine KT.pv 7 (.int .i64 0) ?_
  refine KT.nil ?_
  refine SX.seq ?_
  refine SC.ret ?_
  refine SX.ret [.tmp 6, .tmp 7] rfl ?_
  refine RS.tmp (.pointer x41) rfl ?_
  refine RS.tmp (.int .i64 0) rfl ?_
  exact RS.nil rfl
  refine KT.ite (b := r2) 27 rfl ?_ ?_
  refine KT.sk ?_
  refine KT.sk ?_
  refine KT.sk ?_
  refine KT.sk ?_
  refine KT.sk ?_
  refine KT.sk ?_
  refine KT.pv 34 (.bool true) ?_
  exact KT.leafO j3 (.cons rfl (.cons rfl (.cons rfl (.nil))))
  refine KT.pv 28 (.int .i64 p2_sector) ?_
  refine KT.pv 29 (.pointer p0_r) ?_
  refine KT.nm 30 (fun x30 => ?_)
  refine KT.pv 31 (.pointer (some (Addr.add x30 1))) ?_
  refine KT.l 32 (fun x32 => ?_)
  refine KT.pv 33 (.bool (decide (p2_sector ≥ x32))) ?_
  refine KT.pv 34 (.bool (decide (p2_sector ≥ x32))) ?_
  exact KT.leafO j3 (.cons rfl (.cons rfl (.cons rfl (.nil))))
  refine KT.ite (b := r1) 23 rfl ?_ ?_
  refine KT.sk ?_
  refine KT.sk ?_
  refine KT.pv 26 (.bool true) ?_
  exact KT.leafO j2 (.cons rfl (.cons rfl (.cons rfl (.cons rfl (.nil)))))
  refine KT.pv 24 (.int .i64 p2_sector) ?_
  refine KT.pv 25 (.bool (decide (p2_sector < 0))) ?_
  refine KT.pv 26 (.bool (decide (p2_sector < 0))) ?_
  exact KT.leafO j2 (.cons rfl (.cons rfl (.cons rfl (.cons rfl (.nil)))))
  refine KT.ite (b := decide (p1_k < 0)) 14 rfl ?_ ?_
  refine KT.sk ?_
  refine KT.sk ?_
  refine KT.sk ?_
  refine KT.sk ?_
  refine KT.sk ?_
  refine KT.sk ?_
  refine KT.sk ?_
  refine KT.pv 22 (.bool true) ?_
  exact KT.leafO j1 (.cons rfl (.cons rfl (.cons rfl (.cons rfl (.nil)))))
  refine KT.pv 15 (.int .i64 p1_k) ?_
  refine KT.pv 16 (.pointer p0_r) ?_
  refine KT.nm 17 (fun x17 => ?_)
  refine KT.pv 18 (.pointer (some x17)) ?_
  refine KT.l 19 (fun x19 => ?_)
  refine KT.pv 20 (.int .i64 ((x19.len : Nat) : Int)) ?_
  refine KT.pv 21 (.bool (decide (p1_k ≥ ((x19.len : Nat) : Int)))) ?_
  refine KT.pv 22 (.bool (decide (p1_k ≥ ((x19.len : Nat) : Int)))) ?_
  exact KT.leafO j1 (.cons rfl (.cons rfl (.cons rfl (.cons rfl (.nil)))))

set_option maxRecDepth 100000 in
theorem slices_Clone_b_sim (p0_s : Slc) (Qf : Slc → World → Prop) (w : World) (hm : slices_Clone_b p0_s Qf w) : Calls Try.prog 71 #[(.slice p0_s.base p0_s.len p0_s.cap)] w (RetPost vS Qf) := by
  refine calls_of (fn := Try.f71) (l := [(.slice p0_s.base p0_s.len p0_s.cap)]) (m := slices_Clone_b p0_s) 8 (by kernel_rfl) rfl rfl rfl (fun Qf0 => ?_) Qf w hm
  clear hm w Qf
  unfold slices_Clone_b
  refine SC.seq ?_
  refine SC.region' ?_
  refine KT.pv 2 (.slice none 0 0) ?_
  refine KT.nil ?_
  refine SX.seq ?_
  refine SC.seq ?_
  refine SC.seq ?_
  refine SC.region' ?_
  refine KT.pv 3 (.slice p0_s.base p0_s.len p0_s.cap) ?_
  refine KT.oy rfl (OY.eqlSl (d := 4) (s := p0_s) _ _ _ _ 5 rfl rfl rfl (by kernel_rfl) rfl rfl ?_)
  refine KT.nil ?_
  refine SX.seq ?_
  refine SC.cond (b := p0_s.base.isNone) rfl ?_ ?_
  refine SC.seq ?_
  refine SC.region' ?_
  refine KT.pv 2 (.slice none 0 0) ?_
  refine KT.nil ?_
  refine SX.seq ?_
  refine SC.ret ?_
  refine SX.then_ret ?_
  refine SX.ret [.tmp 2] rfl ?_
  refine RS.tmp (.slice none 0 0) rfl ?_
  exact RS.nil rfl
  refine SC.skip ?_
  refine SX.seq ?_
  refine SC.seq ?_
  refine SC.region' ?_
  refine KT.nw 5 (fun ad => .slice (some ad) 0 0) 5 (fun x5 => ?_)
  refine KT.pv 6 (.slice p0_s.base p0_s.len p0_s.cap) ?_
  refine KT.ow rfl (OW.append (d := 7) (s := ⟨some x5, 0, 0⟩) (x := p0_s) [(.int .u8 0)] 1 5 _ _ _ _ rfl rfl rfl rfl (by kernel_rfl) (by kernel_rfl) rfl rfl rfl (fun x7 => ?_))
  refine KT.pv 2 (.slice x7.base x7.len x7.cap) ?_
  refine KT.nil ?_
  refine SX.seq ?_
  refine SC.ret ?_
  refine SX.ret [.tmp 2] rfl ?_
  refine RS.tmp (.slice x7.base x7.len x7.cap) rfl ?_
  exact RS.nil rfl

set_option maxRecDepth 100000 in
theorem device_Rack_Read_sim (p0_r : (Option Addr)) (p1_disk : Int) (p2_sector : Int) (Qf : (Slc × Int) → World → Prop) (w : World) (hm : device_Rack_Read p0_r p1_disk p2_sector Qf w) : Calls Try.prog 29 #[(.pointer p0_r), (.int .i64 p1_disk), (.int .i64 p2_sector)] w (RetPost (fun y : (Slc × Int) => (.tuple #[(.slice y.1.base y.1.len y.1.cap), (.int .i64 y.2)])) Qf) := by
  refine calls_of (fn := Try.f29) (l := [(.pointer p0_r), (.int .i64 p1_disk), (.int .i64 p2_sector)]) (m := device_Rack_Read p0_r p1_disk p2_sector) 46 (by kernel_rfl) rfl rfl rfl (fun Qf0 => ?_) Qf w hm
  clear hm w Qf
  unfold device_Rack_Read
  refine SC.seq ?_
  refine SC.region' ?_
  refine KT.pv 6 (.slice none 0 0) ?_
  refine KT.pv 7 (.int .i64 0) ?_
  refine KT.nil ?_
  refine SX.seq ?_
  refine SC.seq ?_
  refine SC.region' ?_
  refine KT.pv 13 (.pointer p0_r) ?_
  refine KT.pv 14 (.int .i64 p1_disk) ?_
  refine KT.pv 15 (.int .i64 p2_sector) ?_
  refine KT.cl (fun y : ((Option Addr) × Int) => (.tuple #[(.pointer y.1), (.int .i64 y.2)])) 16 70 #[(.pointer p0_r), (.int .i64 p1_disk), (.int .i64 p2_sector)] (device_Rack_disk_sim p0_r p1_disk p2_sector) (fun x16 => ?_)
  refine KT.pv 12 (.tuple #[(.pointer x16.1), (.int .i64 x16.2)]) ?_
  refine KT.pv 17 (.pointer x16.1) ?_
  refine KT.pv 18 (.int .i64 x16.2) ?_
  refine KT.pv 8 (.pointer x16.1) ?_
  refine KT.pv 9 (.int .i64 x16.2) ?_
  refine KT.nil ?_
  refine SX.seq ?_
  refine SC.seq ?_
  refine SC.seq ?_
  refine SC.region' ?_
  refine KT.pv 19 (.int .i64 x16.2) ?_
  refine KT.pv 20 (.bool (x16.2 != 0)) ?_
  refine KT.nil ?_
  refine SX.seq ?_
  refine SC.cond (b := x16.2 != 0) rfl ?_ ?_
  refine SC.seq ?_
  refine SC.region' ?_
  refine KT.pv 21 (.int .i64 x16.2) ?_
  refine KT.pv 6 (.slice none 0 0) ?_
  refine KT.pv 7 (.int .i64 x16.2) ?_
  refine KT.nil ?_
  refine SX.seq ?_
  refine SC.ret ?_
  refine SX.then_ret ?_
  refine SX.ret [.tmp 6, .tmp 7] rfl ?_
  refine RS.tmp (.slice none 0 0) rfl ?_
  refine RS.tmp (.int .i64 x16.2) rfl ?_
  exact RS.nil rfl
  refine SC.skip ?_
  refine SX.seq ?_
  refine SC.seq ?_
  refine SC.seq ?_
  refine SC.region' ?_
  refine KT.pv 22 (.pointer x16.1) ?_
  refine KT.nm 23 (fun x23 => ?_)
  refine KT.pv 24 (.pointer (some (Addr.add x23 2))) ?_
  refine KT.l 25 (fun x25 => ?_)
  refine KT.nil ?_
  refine SX.seq ?_
  refine SC.cond (b := x25) rfl ?_ ?_
  refine SC.seq ?_
  refine SC.region' ?_
  refine KT.pv 6 (.slice none 0 0) ?_
  refine KT.pv 7 (.int .i64 13) ?_
  refine KT.nil ?_
  refine SX.seq ?_
  refine SC.ret ?_
  refine SX.then_ret ?_
  refine SX.ret [.tmp 6, .tmp 7] rfl ?_
  refine RS.tmp (.slice none 0 0) rfl ?_
  refine RS.tmp (.int .i64 13) rfl ?_
  exact RS.nil rfl
  refine SC.skip ?_
  refine SX.seq ?_
  refine SC.seq ?_
  refine SC.seq ?_
  refine SC.region' ?_
  refine KT.pv 27 (.pointer x16.1) ?_
  refine KT.nm 28 (fun x28 => ?_)
  refine KT.pv 29 (.pointer (some (Addr.add x28 1))) ?_
  refine KT.l 30 (fun x30 => ?_)
  refine KT.pv 31 (.int .i64 p2_sector) ?_
  refine KT.ow rfl (OW.lookOk (d := 32) (enc := vS) (⟨none, 0, 0⟩) 3 46 .i64 _ _ _ rfl rfl rfl (by kernel_rfl) (by kernel_rfl) (by kernel_rfl) rfl rfl (fun x32 => ?_))
  refine KT.pv 26 (.tuple #[(.slice x32.1.base x32.1.len x32.1.cap), (.bool x32.2)]) ?_
  refine KT.pv 33 (.slice x32.1.base x32.1.len x32.1.cap) ?_
  refine KT.pv 34 (.bool x32.2) ?_
  refine KT.pv 10 (.slice x32.1.base x32.1.len x32.1.cap) ?_
  refine KT.pv 11 (.bool x32.2) ?_
  refine KT.nil ?_
  refine SX.sub (T' := [(2, (.int .i64 p2_sector)), (8, (.pointer x16.1)), (10, (.slice x32.1.base x32.1.len x32.1.cap)), (11, (.bool x32.2))]) (.cons rfl (.cons rfl (.cons rfl (.cons rfl (.nil))))) ?_
  refine SX.seq ?_
  refine SC.seq ?_
  refine SC.region' ?_
  refine KT.pv 35 (.bool x32.2) ?_
  refine KT.nil ?_
  refine SX.seq ?_
  refine SC.cond (b := x32.2) rfl ?_ ?_
  refine SC.seq ?_
  refine SC.region' ?_
  refine KT.pv 36 (.slice x32.1.base x32.1.len x32.1.cap) ?_
  refine KT.cl vS 37 71 #[(.slice x32.1.base x32.1.len x32.1.cap)] (slices_Clone_b_sim x32.1) (fun x37 => ?_)
  refine KT.pv 6 (.slice x37.base x37.len x37.cap) ?_
  refine KT.pv 7 (.int .i64 0) ?_
  refine KT.nil ?_
  refine SX.seq ?_
  refine SC.ret ?_
  refine SX.then_ret ?_
  refine SX.ret [.tmp 6, .tmp 7] rfl ?_
  refine RS.tmp (.slice x37.base x37.len x37.cap) rfl ?_
  refine RS.tmp (.int .i64 0) rfl ?_
  exact RS.nil rfl
  refine SC.skip ?_
  refine SX.seq ?_
  refine SC.seq ?_
  refine SC.region' ?_
  refine KT.pv 38 (.pointer x16.1) ?_
  refine KT.nm 39 (fun x39 => ?_)
  refine KT.pv 40 (.pointer (some x39)) ?_
  refine KT.l 41 (fun x41 => ?_)
  refine KT.pv 42 (.int .i64 p2_sector) ?_
  refine KT.oy rfl (OY.idx (d := 43) (s := x41) (i := p2_sector) (size := 1) (elem := 46) _ _ _ rfl rfl rfl (by kernel_rfl) (by kernel_rfl) rfl rfl (fun x43 => ?_))
  refine KT.l 44 (fun x44 => ?_)
  refine KT.cl vS 45 71 #[(.slice x44.base x44.len x44.cap)] (slices_Clone_b_sim x44) (fun x45 => ?_)
  refine KT.pv 6 (.slice x45.base x45.len x45.cap) ?_
  refine KT.pv 7 (.int .i64 0) ?_
  refine KT.nil ?_
  refine SX.seq ?_
  refine SC.ret ?_
  refine SX.ret [.tmp 6, .tmp 7] rfl ?_
  refine RS.tmp (.slice x45.base x45.len x45.cap) rfl ?_
  refine RS.tmp (.int .i64 0) rfl ?_
  exact RS.nil rfl

set_option maxRecDepth 100000 in
theorem device_Rack_Doom_sim (p0_r : (Option Addr)) (p1_disk : Int) (p2_calls : Int) (Qf : Int → World → Prop) (w : World) (hm : device_Rack_Doom p0_r p1_disk p2_calls Qf w) : Calls Try.prog 34 #[(.pointer p0_r), (.int .i64 p1_disk), (.int .i64 p2_calls)] w (RetPost (Value.int .i64) Qf) := by
  refine calls_of (fn := Try.f34) (l := [(.pointer p0_r), (.int .i64 p1_disk), (.int .i64 p2_calls)]) (m := device_Rack_Doom p0_r p1_disk p2_calls) 29 (by kernel_rfl) rfl rfl rfl (fun Qf0 => ?_) Qf w hm
  clear hm w Qf
  unfold device_Rack_Doom
  refine SC.seq ?_
  refine SC.region' ?_
  refine KT.pv 6 (.int .i64 0) ?_
  refine KT.nil ?_
  refine SX.seq ?_
  refine SC.seq ?_
  refine SC.seq ?_
  refine SC.region' ?_
  refine KT.pv 7 (.int .i64 p1_disk) ?_
  refine KT.pv 8 (.bool (decide (p1_disk < 0))) ?_
  refine KT.pv 9 (.bool (decide (p1_disk < 0))) ?_
  refine KT.joinO (β := Bool) 8 (fun r1 => [(17, (.bool r1)), (0, (.pointer p0_r)), (1, (.int .i64 p1_disk)), (2, (.int .i64 p2_calls))]) (fun r1 => ?_) (fun j1 => ?_)
  refine KT.nil ?_
  refine SX.seq ?_
  refine SC.cond (b := r1) rfl ?_ ?_
  refine SC.seq ?_
  refine SC.region' ?_
  refine KT.pv 6 (.int .i64 11) ?_
  refine KT.nil ?_
  refine SX.seq ?_
  refine SC.ret ?_
  refine SX.then_ret ?_
  refine SX.ret [.tmp 6] rfl ?_
  refine RS.tmp (.int .i64 11) rfl ?_
  exact RS.nil rfl
  refine SC.skip ?_
  refine SX.seq ?_
  refine SC.seq ?_
  refine SC.region' ?_
  refine KT.pv 18 (.pointer p0_r) ?_
  refine KT.nm 19 (fun x19 => ?_)
  refine KT.pv 20 (.pointer (some x19)) ?_
  refine KT.l 21 (fun x21 => ?_)
  refine KT.pv 22 (.int .i64 p1_disk) ?_
  refine KT.oy rfl (OY.idx (d := 23) (s := x21) (i := p1_disk) (size := 1) (elem := 111) _ _ _ rfl rfl rfl (by kernel_rfl) (by kernel_rfl) rfl rfl (fun x23 => ?_))
  refine KT.l 24 (fun x24 => ?_)
  refine KT.pv 25 (.int .i64 p2_calls) ?_
  refine KT.pv 26 (.int .i64 (maxI p2_calls (-1))) ?_
  refine KT.nm 27 (fun x27 => ?_)
  refine KT.pv 28 (.pointer (some (Addr.add x27 3))) ?_
  refine KT.s ?_
  refine KT.nil ?_
  refine SX.seq ?_
  refine SC.seq ?_
  refine SC.region' ?_
  refine KT.pv 6 (.int .i64 0) ?_
  refine KT.nil ?_
  refine SX.seq ?_
  refine SC.ret ?_
  refine SX.ret [.tmp 6] rfl ?_
  refine RS.tmp (.int .i64 0) rfl ?_
  exact RS.nil rfl
  refine KT.ite (b := decide (p1_disk < 0)) 9 rfl ?_ ?_
  refine KT.sk ?_
  refine KT.sk ?_
  refine KT.sk ?_
  refine KT.sk ?_
  refine KT.sk ?_
  refine KT.sk ?_
  refine KT.sk ?_
  refine KT.pv 17 (.bool true) ?_
  exact KT.leafO j1 (.cons rfl (.cons rfl (.cons rfl (.cons rfl (.nil)))))
  refine KT.pv 10 (.int .i64 p1_disk) ?_
  refine KT.pv 11 (.pointer p0_r) ?_
  refine KT.nm 12 (fun x12 => ?_)
  refine KT.pv 13 (.pointer (some x12)) ?_
  refine KT.l 14 (fun x14 => ?_)
  refine KT.pv 15 (.int .i64 ((x14.len : Nat) : Int)) ?_
  refine KT.pv 16 (.bool (decide (p1_disk ≥ ((x14.len : Nat) : Int)))) ?_
  refine KT.pv 17 (.bool (decide (p1_disk ≥ ((x14.len : Nat) : Int)))) ?_
  exact KT.leafO j1 (.cons rfl (.cons rfl (.cons rfl (.cons rfl (.nil)))))

set_option maxRecDepth 100000 in
theorem device_Rack_call_sim (p0_r : (Option Addr)) (Qf : Bool → World → Prop) (w : World) (hm : device_Rack_call p0_r Qf w) : Calls Try.prog 113 #[(.pointer p0_r)] w (RetPost Value.bool Qf) := by
  refine calls_of (fn := Try.f113) (l := [(.pointer p0_r)]) (m := device_Rack_call p0_r) 55 (by kernel_rfl) rfl rfl rfl (fun Qf0 => ?_) Qf w hm
  clear hm w Qf
  unfold device_Rack_call
  refine SC.seq ?_
  refine SC.region' ?_
  refine KT.pv 2 (.bool false) ?_
  refine KT.nil ?_
  refine SX.seq ?_
  refine SC.seq ?_
  refine SC.seq ?_
  refine SC.region' ?_
  refine KT.pv 5 (.pointer p0_r) ?_
  refine KT.nm 6 (fun x6 => ?_)
  refine KT.pv 7 (.pointer (some (Addr.add x6 2))) ?_
  refine KT.l 8 (fun x8 => ?_)
  refine KT.pv 9 (.bool (x8 == 0)) ?_
  refine KT.nil ?_
  refine SX.seq ?_
  refine SC.cond (b := x8 == 0) rfl ?_ ?_
  refine SC.seq ?_
  refine SC.region' ?_
  refine KT.pv 10 (.pointer p0_r) ?_
  refine KT.nm 11 (fun x11 => ?_)
  refine KT.pv 12 (.pointer (some (Addr.add x11 3))) ?_
  refine KT.s ?_
  refine KT.nil ?_
  refine SX.seq ?_
  refine SC.seq ?_
  refine SC.region' ?_
  refine KT.pv 2 (.bool false) ?_
  refine KT.nil ?_
  refine SX.seq ?_
  refine SC.ret ?_
  refine SX.then_ret ?_
  refine SX.ret [.tmp 2] rfl ?_
  refine RS.tmp (.bool false) rfl ?_
  exact RS.nil rfl
  refine SC.skip ?_
  refine SX.seq ?_
  refine SC.seq ?_
  refine SC.region' ?_
  refine KT.pv 13 (.pointer p0_r) ?_
  refine KT.pv 14 (.pointer p0_r) ?_
  refine KT.nm 15 (fun x15 => ?_)
  refine KT.pv 16 (.pointer (some (Addr.add x15 2))) ?_
  refine KT.l 17 (fun x17 => ?_)
  refine KT.pv 18 (.int .i64 (w64 (x17 - 1))) ?_
  refine KT.pv 19 (.int .i64 (maxI (w64 (x17 - 1)) (-1))) ?_
  refine KT.nm 20 (fun x20 => ?_)
  refine KT.pv 21 (.pointer (some (Addr.add x20 2))) ?_
  refine KT.s ?_
  refine KT.nil ?_
  refine SX.seq ?_
  refine SC.seq ?_
  refine SC.seq ?_
  refine SC.region' ?_
  refine KT.pv 22 (.pointer p0_r) ?_
  refine KT.nm 23 (fun x23 => ?_)
  refine KT.pv 24 (.pointer (some x23)) ?_
  refine KT.l 25 (fun x25 => ?_)
  refine KT.pv 26 (.int .i64 ((x25.len : Nat) : Int)) ?_
  refine KT.pv 27 (.int .i64 0) ?_
  refine KT.nil ?_
  refine SX.seq ?_
  refine SC.block ?_
  refine SC.loop (σ := (Int)) (fun s1 => [(25, (.slice x25.base x25.len x25.cap)), (26, (.int .i64 ((x25.len : Nat) : Int))), (27, (.int .i64 s1))]) (.cons rfl (.cons rfl (.cons rfl (.nil)))) (fun _ _ _ s1 => ?_)
  refine SC.seq ?_
  refine SC.region' ?_
  refine KT.pv 28 (.bool (decide (s1 < ((x25.len : Nat) : Int)))) ?_
  refine KT.nil ?_
  refine SX.seq ?_
  refine SC.seq ?_
  refine SC.cond (b := decide (s1 < ((x25.len : Nat) : Int))) rfl ?_ ?_
  refine SC.skip ?_
  refine SX.seq ?_
  refine SC.seq ?_
  refine SC.block ?_
  refine SC.seq ?_
  refine SC.region' ?_
  refine KT.oy rfl (OY.idx (d := 29) (s := x25) (i := s1) (size := 1) (elem := 111) _ _ _ rfl rfl rfl (by kernel_rfl) (by kernel_rfl) rfl rfl (fun x29 => ?_))
  refine KT.l 30 (fun x30 => ?_)
  refine KT.pv 4 (.pointer x30) ?_
  refine KT.nil ?_
  refine SX.seq ?_
  refine SC.seq ?_
  refine SC.region' ?_
  refine KT.pv 31 (.pointer x30) ?_
  refine KT.pv 32 (.pointer x30) ?_
  refine KT.nm 33 (fun x33 => ?_)
  refine KT.pv 34 (.pointer (some (Addr.add x33 2))) ?_
  refine KT.l 35 (fun x35 => ?_)
  refine KT.pv 36 (.bool x35) ?_
  refine KT.joinO (β := Bool) 6 (fun r2 => [(42, (.bool r2)), (4, (.pointer x30)), (25, (.slice x25.base x25.len x25.cap)), (26, (.int .i64 ((x25.len : Nat) : Int))), (27, (.int .i64 s1)), (31, (.pointer x30))]) (fun r2 => ?_) (fun j2 => ?_)
  refine KT.nm 43 (fun x43 => ?_)
  refine KT.pv 44 (.pointer (some (Addr.add x43 2))) ?_
  refine KT.s ?_
  refine KT.nil ?_
  refine SX.seq ?_
  refine SC.region' ?_
  refine KT.pv 45 (.pointer x30) ?_
  refine KT.pv 46 (.pointer x30) ?_
  refine KT.nm 47 (fun x47 => ?_)
  refine KT.pv 48 (.pointer (some (Addr.add x47 3))) ?_
  refine KT.l 49 (fun x49 => ?_)
  refine KT.pv 50 (.int .i64 (w64 (x49 - 1))) ?_
  refine KT.pv 51 (.int .i64 (maxI (w64 (x49 - 1)) (-1))) ?_
  refine KT.nm 52 (fun x52 => ?_)
  refine KT.pv 53 (.pointer (some (Addr.add x52 3))) ?_
  refine KT.s ?_
  refine KT.nil ?_
  refine SX.block ?_
  refine SX.seq ?_
  refine SC.region' ?_
  refine KT.pv 54 (.int .i64 (w64 (s1 + 1))) ?_
  refine KT.pv 27 (.int .i64 (w64 (s1 + 1))) ?_
  refine KT.nil ?_
  exact SX.loop_next (.cons rfl (.cons rfl (.cons rfl (.nil))))
  refine KT.ite (b := x35) 36 rfl ?_ ?_
  refine KT.sk ?_
  refine KT.sk ?_
  refine KT.sk ?_
  refine KT.sk ?_
  refine KT.sk ?_
  refine KT.pv 42 (.bool true) ?_
  exact KT.leafO j2 (.cons rfl (.cons rfl (.cons rfl (.cons rfl (.cons rfl (.cons rfl (.nil)))))))
  refine KT.pv 37 (.pointer x30) ?_
  refine KT.nm 38 (fun x38 => ?_)
  refine KT.pv 39 (.pointer (some (Addr.add x38 3))) ?_
  refine KT.l 40 (fun x40 => ?_)
  refine KT.pv 41 (.bool (x40 == 0)) ?_
  refine KT.pv 42 (.bool (x40 == 0)) ?_
  exact KT.leafO j2 (.cons rfl (.cons rfl (.cons rfl (.cons rfl (.cons rfl (.cons rfl (.nil)))))))
  refine SC.exit ?_
  refine SX.then_exit ?_
  refine SX.loop_exit ?_
  refine SX.block_hit ?_
  refine SX.seq ?_
  refine SC.seq ?_
  refine SC.region' ?_
  refine KT.pv 2 (.bool true) ?_
  refine KT.nil ?_
  refine SX.seq ?_
  refine SC.ret ?_
  refine SX.ret [.tmp 2] rfl ?_
  refine RS.tmp (.bool true) rfl ?_
  exact RS.nil rfl

set_option maxRecDepth 100000 in
theorem device_Rack_counted_sim (p0_r : (Option Addr)) (p1_k : Int) (p2_sector : Int) (p3_size : Int) (Qf : ((Option Addr) × Int) → World → Prop) (w : World) (hm : device_Rack_counted p0_r p1_k p2_sector p3_size Qf w) : Calls Try.prog 73 #[(.pointer p0_r), (.int .i64 p1_k), (.int .i64 p2_sector), (.int .i64 p3_size)] w (RetPost (fun y : ((Option Addr) × Int) => (.tuple #[(.pointer y.1), (.int .i64 y.2)])) Qf) := by
  refine calls_of (fn := Try.f73) (l := [(.pointer p0_r), (.int .i64 p1_k), (.int .i64 p2_sector), (.int .i64 p3_size)]) (m := device_Rack_counted p0_r p1_k p2_sector p3_size) 36 (by kernel_rfl) rfl rfl rfl (fun Qf0 => ?_) Qf w hm
  clear hm w Qf
  unfold device_Rack_counted
  refine SC.seq ?_
  refine SC.region' ?_
  refine KT.pv 8 (.pointer none) ?_
  refine KT.pv 9 (.int .i64 0) ?_
  refine KT.nil ?_
  refine SX.seq ?_
  refine SC.seq ?_
  refine SC.region' ?_
  refine KT.pv 13 (.pointer p0_r) ?_
  refine KT.pv 14 (.int .i64 p1_k) ?_
  refine KT.pv 15 (.int .i64 p2_sector) ?_
  refine KT.cl (fun y : ((Option Addr) × Int) => (.tuple #[(.pointer y.1), (.int .i64 y.2)])) 16 70 #[(.pointer p0_r), (.int .i64 p1_k), (.int .i64 p2_sector)] (device_Rack_disk_sim p0_r p1_k p2_sector) (fun x16 => ?_)
  refine KT.pv 12 (.tuple #[(.pointer x16.1), (.int .i64 x16.2)]) ?_
  refine KT.pv 17 (.pointer x16.1) ?_
  refine KT.pv 18 (.int .i64 x16.2) ?_
  refine KT.pv 10 (.pointer x16.1) ?_
  refine KT.pv 11 (.int .i64 x16.2) ?_
  refine KT.nil ?_
  refine SX.seq ?_
  refine SC.seq ?_
  refine SC.block ?_
  refine SC.seq ?_
  refine SC.region' ?_
  refine KT.pv 20 (.int .i64 x16.2) ?_
  refine KT.pv 21 (.bool (x16.2 != 0)) ?_
  refine KT.pv 19 (.bool (x16.2 != 0)) ?_
  refine KT.nil ?_
  refine SX.seq ?_
  refine SC.cond (b := x16.2 != 0) rfl ?_ ?_
  refine SC.seq ?_
  refine SC.region' ?_
  refine KT.pv 22 (.int .i64 x16.2) ?_
  refine KT.pv 8 (.pointer none) ?_
  refine KT.pv 9 (.int .i64 x16.2) ?_
  refine KT.nil ?_
  refine SX.seq ?_
  refine SC.ret ?_
  refine SX.block_ret ?_
  refine SX.then_ret ?_
  refine SX.ret [.tmp 8, .tmp 9] rfl ?_
  refine RS.tmp (.pointer none) rfl ?_
  refine RS.tmp (.int .i64 x16.2) rfl ?_
  exact RS.nil rfl
  refine SC.seq ?_
  refine SC.region' ?_
  refine KT.pv 24 (.int .i64 p3_size) ?_
  refine KT.pv 25 (.bool (p3_size != 64)) ?_
  refine KT.pv 23 (.bool (p3_size != 64)) ?_
  refine KT.nil ?_
  refine SX.seq ?_
  refine SC.cond (b := p3_size != 64) rfl ?_ ?_
  refine SC.seq ?_
  refine SC.region' ?_
  refine KT.pv 8 (.pointer none) ?_
  refine KT.pv 9 (.int .i64 11) ?_
  refine KT.nil ?_
  refine SX.seq ?_
  refine SC.ret ?_
  refine SX.block_ret ?_
  refine SX.then_ret ?_
  refine SX.ret [.tmp 8, .tmp 9] rfl ?_
  refine RS.tmp (.pointer none) rfl ?_
  refine RS.tmp (.int .i64 11) rfl ?_
  exact RS.nil rfl
  refine SC.seq ?_
  refine SC.region' ?_
  refine KT.pv 27 (.pointer p0_r) ?_
  refine KT.cl Value.bool 28 113 #[(.pointer p0_r)] (device_Rack_call_sim p0_r) (fun x28 => ?_)
  refine KT.pv 29 (.bool (!x28)) ?_
  refine KT.pv 26 (.bool (!x28)) ?_
  refine KT.nil ?_
  refine SX.seq ?_
  refine SC.cond (b := !x28) rfl ?_ ?_
  refine SC.seq ?_
  refine SC.region' ?_
  refine KT.pv 8 (.pointer none) ?_
  refine KT.pv 9 (.int .i64 12) ?_
  refine KT.nil ?_
  refine SX.seq ?_
  refine SC.ret ?_
  refine SX.block_ret ?_
  refine SX.then_ret ?_
  refine SX.ret [.tmp 8, .tmp 9] rfl ?_
  refine RS.tmp (.pointer none) rfl ?_
  refine RS.tmp (.int .i64 12) rfl ?_
  exact RS.nil rfl
  refine SC.seq ?_
  refine SC.region' ?_
  refine KT.pv 31 (.pointer x16.1) ?_
  refine KT.nm 32 (fun x32 => ?_)
  refine KT.pv 33 (.pointer (some (Addr.add x32 2))) ?_
  refine KT.l 34 (fun x34 => ?_)
  refine KT.pv 30 (.bool x34) ?_
  refine KT.nil ?_
  refine SX.sub (T' := [(10, (.pointer x16.1)), (30, (.bool x34))]) (.cons rfl (.cons rfl (.nil))) ?_
  refine SX.seq ?_
  refine SC.cond (b := x34) rfl ?_ ?_
  refine SC.seq ?_
  refine SC.region' ?_
  refine KT.pv 8 (.pointer none) ?_
  refine KT.pv 9 (.int .i64 13) ?_
  refine KT.nil ?_
  refine SX.seq ?_
  refine SC.ret ?_
  refine SX.block_ret ?_
  refine SX.then_ret ?_
  refine SX.ret [.tmp 8, .tmp 9] rfl ?_
  refine RS.tmp (.pointer none) rfl ?_
  refine RS.tmp (.int .i64 13) rfl ?_
  exact RS.nil rfl
  refine SC.skip ?_
  refine SX.block ?_
  refine SX.seq ?_
  refine SC.seq ?_
  refine SC.region' ?_
  refine KT.pv 35 (.pointer x16.1) ?_
  refine KT.pv 8 (.pointer x16.1) ?_
  refine KT.pv 9 (.int .i64 0) ?_
  refine KT.nil ?_
  refine SX.seq ?_
  refine SC.ret ?_
  refine SX.ret [.tmp 8, .tmp 9] rfl ?_
  refine RS.tmp (.pointer x16.1) rfl ?_
  refine RS.tmp (.int .i64 0) rfl ?_
  exact RS.nil rfl

set_option maxRecDepth 100000 in
theorem device_Rack_Write_sim (p0_r : (Option Addr)) (p1_disk : Int) (p2_sector : Int) (p3_b : Slc) (Qf : Int → World → Prop) (w : World) (hm : device_Rack_Write p0_r p1_disk p2_sector p3_b Qf w) : Calls Try.prog 39 #[(.pointer p0_r), (.int .i64 p1_disk), (.int .i64 p2_sector), (.slice p3_b.base p3_b.len p3_b.cap)] w (RetPost (Value.int .i64) Qf) := by
  refine calls_of (fn := Try.f39) (l := [(.pointer p0_r), (.int .i64 p1_disk), (.int .i64 p2_sector), (.slice p3_b.base p3_b.len p3_b.cap)]) (m := device_Rack_Write p0_r p1_disk p2_sector p3_b) 30 (by kernel_rfl) rfl rfl rfl (fun Qf0 => ?_) Qf w hm
  clear hm w Qf
  unfold device_Rack_Write
  refine SC.seq ?_
  refine SC.region' ?_
  refine KT.pv 8 (.int .i64 0) ?_
  refine KT.nil ?_
  refine SX.seq ?_
  refine SC.seq ?_
  refine SC.region' ?_
  refine KT.pv 12 (.pointer p0_r) ?_
  refine KT.pv 13 (.int .i64 p1_disk) ?_
  refine KT.pv 14 (.int .i64 p2_sector) ?_
  refine KT.pv 15 (.slice p3_b.base p3_b.len p3_b.cap) ?_
  refine KT.pv 16 (.int .i64 ((p3_b.len : Nat) : Int)) ?_
  refine KT.cl (fun y : ((Option Addr) × Int) => (.tuple #[(.pointer y.1), (.int .i64 y.2)])) 17 73 #[(.pointer p0_r), (.int .i64 p1_disk), (.int .i64 p2_sector), (.int .i64 ((p3_b.len : Nat) : Int))] (device_Rack_counted_sim p0_r p1_disk p2_sector ((p3_b.len : Nat) : Int)) (fun x17 => ?_)
  refine KT.pv 11 (.tuple #[(.pointer x17.1), (.int .i64 x17.2)]) ?_
  refine KT.pv 18 (.pointer x17.1) ?_
  refine KT.pv 19 (.int .i64 x17.2) ?_
  refine KT.pv 9 (.pointer x17.1) ?_
  refine KT.pv 10 (.int .i64 x17.2) ?_
  refine KT.nil ?_
  refine SX.seq ?_
  refine SC.seq ?_
  refine SC.seq ?_
  refine SC.region' ?_
  refine KT.pv 20 (.int .i64 x17.2) ?_
  refine KT.pv 21 (.bool (x17.2 == 0)) ?_
  refine KT.nil ?_
  refine SX.seq ?_
  refine SC.cond (b := x17.2 == 0) rfl ?_ ?_
  refine SC.draw 8 (fun f => Nat.beq f 7) rfl (by kernel_rfl) (fun S1 => ?_)
  refine KT.pvA 0 22 (.pointer x17.1) ?_
  refine KT.tp 1 (OY.nil (d := 23) (p := x17.1) _ rfl rfl rfl rfl (fun x23 => ?_))
  refine KT.pvA 2 24 (.pointer (some (Addr.add x23 1))) ?_
  refine KT.tk 3 (OY.ldI (d := 25) _ _ rfl rfl (by kernel_rfl) rfl rfl (fun x25 => ?_))
  refine KT.pvA 4 26 (.int .i64 p2_sector) ?_
  refine KT.pvA 5 27 (.slice p3_b.base p3_b.len p3_b.cap) ?_
  refine KT.one 6 rfl (by kernel_rfl) rfl (OW.step (OW.call (d := 28) (enc := vS) 71 #[(.slice p3_b.base p3_b.len p3_b.cap)] rfl (fun _ => by kernel_rfl) (fun Qf w => slices_Clone_b_sim p3_b Qf w) rfl rfl (fun x28 => ?_)))
  refine KT.and ?_
  refine KT.last 7 rfl (by kernel_rfl) rfl rfl (OW.upd 3 46 .i64 _ _ _ _ rfl rfl rfl rfl (by kernel_rfl) (by kernel_rfl) rfl ?_)
  refine KT.doneN (by kernel_rfl) ?_
  refine SX.seq ?_
  refine SC.seq ?_
  refine SC.region' ?_
  refine KT.pv 29 (.int .i64 x17.2) ?_
  refine KT.pv 8 (.int .i64 x17.2) ?_
  refine KT.nil ?_
  refine SX.seq ?_
  refine SC.ret ?_
  refine SX.ret [.tmp 8] rfl ?_
  refine RS.tmp (.int .i64 x17.2) rfl ?_
  exact RS.nil rfl
  refine SC.skip ?_
  refine SX.seq ?_
  refine SC.seq ?_
  refine SC.region' ?_
  refine KT.pv 29 (.int .i64 x17.2) ?_
  refine KT.pv 8 (.int .i64 x17.2) ?_
  refine KT.nil ?_
  refine SX.seq ?_
  refine SC.ret ?_
  refine SX.ret [.tmp 8] rfl ?_
  refine RS.tmp (.int .i64 x17.2) rfl ?_
  exact RS.nil rfl

set_option maxRecDepth 100000 in
theorem slices_AppendSeq_i_sim (p0_s : Slc) (p1_seq : Value) (Qf : Slc → World → Prop) (w : World) (hm : slices_AppendSeq_i (cvOf Try.prog) p0_s p1_seq Qf w) : Calls Try.prog 133 #[(.slice p0_s.base p0_s.len p0_s.cap), p1_seq] w (RetPost vS Qf) := by
  refine calls_of (fn := Try.f133) (l := [(.slice p0_s.base p0_s.len p0_s.cap), p1_seq]) (m := slices_AppendSeq_i (cvOf Try.prog) p0_s p1_seq) 13 (by kernel_rfl) rfl rfl rfl (fun Qf0 => ?_) Qf w hm
  clear hm w Qf
  unfold slices_AppendSeq_i
  refine SC.seq ?_
  refine SC.region' ?_
  refine KT.nw 2 (fun ad => .pointer (some ad)) 33 (fun x2 => ?_)
  refine KT.pv 4 (.slice none 0 0) ?_
  refine KT.nil ?_
  refine SX.seq ?_
  refine SC.seq ?_
  refine SC.seq ?_
  refine SC.region' ?_
  refine KT.pv 6 p1_seq ?_
  refine KT.nil ?_
  refine SX.seq ?_
  refine SC.block ?_
  refine SC.rangeF (ξ := (Int)) (τ := (Int)) (fv := p1_seq) (ps := [7]) (encX := (fun x_1 : (Int) => [(.int .i64 x_1)])) (fun t_1 => [(2, (.pointer (some x2))), (5, (.int .i64 t_1))]) rfl (fun _ => rfl) rfl (fun _ x_1 _ _ h1 => ?_) (fun _ _ _ t_1 => ?_) (fun D1 => ?_) (fun D1 => ?_) (fun D1 i1 => ?_)
  refine SC.region' ?_
  refine KT.pv 5 (.int .i64 x_1) ?_
  refine KT.nil ?_
  exact SX.leafP h1 (.cons rfl (.cons rfl (.nil)))
  refine SC.block ?_
  refine SC.region' ?_
  refine KT.l 8 (fun x8 => ?_)
  refine KT.pv 9 (.int .i64 t_1) ?_
  refine KT.nw 10 (fun ad => .slice (some ad) 1 1) 3 (fun x10 => ?_)
  refine KT.ow rfl (OW.append (d := 11) (s := x8) (x := ⟨some x10, 1, 1⟩) [(.int .i64 0)] 8 3 _ _ _ _ rfl rfl rfl rfl (by kernel_rfl) (by kernel_rfl) rfl rfl rfl (fun x11 => ?_))
  refine KT.s ?_
  refine KT.nil ?_
  refine SX.block ?_
  exact SX.round_next
  refine SX.block ?_
  refine SX.seq ?_
  refine SC.seq ?_
  refine SC.region' ?_
  refine KT.l 12 (fun x12 => ?_)
  refine KT.pv 4 (.slice x12.base x12.len x12.cap) ?_
  refine KT.nil ?_
  refine SX.seq ?_
  refine SC.ret ?_
  refine SX.ret [.tmp 4] rfl ?_
  refine RS.tmp (.slice x12.base x12.len x12.cap) rfl ?_
  exact RS.nil rfl
  exact SX.fail
  exact SX.fail

set_option maxRecDepth 100000 in
theorem slices_Collect_i_sim (p0_seq : Value) (Qf : Slc → World → Prop) (w : World) (hm : slices_Collect_i (cvOf Try.prog) p0_seq Qf w) : Calls Try.prog 114 #[p0_seq] w (RetPost vS Qf) := by
  refine calls_of (fn := Try.f114) (l := [p0_seq]) (m := slices_Collect_i (cvOf Try.prog) p0_seq) 5 (by kernel_rfl) rfl rfl rfl (fun Qf0 => ?_) Qf w hm
  clear hm w Qf
  unfold slices_Collect_i
  refine SC.seq ?_
  refine SC.region' ?_
  refine KT.pv 2 (.slice none 0 0) ?_
  refine KT.nil ?_
  refine SX.seq ?_
  refine SC.seq ?_
  refine SC.region' ?_
  refine KT.pv 3 p0_seq ?_
  refine KT.cl vS 4 133 #[(.slice none 0 0), p0_seq] (slices_AppendSeq_i_sim (⟨none, 0, 0⟩) p0_seq) (fun x4 => ?_)
  refine KT.pv 2 (.slice x4.base x4.len x4.cap) ?_
  refine KT.nil ?_
  refine SX.seq ?_
  refine SC.ret ?_
  refine SX.ret [.tmp 2] rfl ?_
  refine RS.tmp (.slice x4.base x4.len x4.cap) rfl ?_
  exact RS.nil rfl

set_option maxRecDepth 100000 in
theorem slices_Sorted_i_sim (p0_seq : Value) (Qf : Slc → World → Prop) (w : World) (hm : slices_Sorted_i (cvOf Try.prog) p0_seq Qf w) : Calls Try.prog 74 #[p0_seq] w (RetPost vS Qf) := by
  refine calls_of (fn := Try.f74) (l := [p0_seq]) (m := slices_Sorted_i (cvOf Try.prog) p0_seq) 9 (by kernel_rfl) rfl rfl rfl (fun Qf0 => ?_) Qf w hm
  clear hm w Qf
  unfold slices_Sorted_i
  refine SC.seq ?_
  refine SC.region' ?_
  refine KT.pv 2 (.slice none 0 0) ?_
  refine KT.nil ?_
  refine SX.seq ?_
  refine SC.seq ?_
  refine SC.region' ?_
  refine KT.pv 4 p0_seq ?_
  refine KT.cl vS 5 114 #[p0_seq] (slices_Collect_i_sim p0_seq) (fun x5 => ?_)
  refine KT.pv 3 (.slice x5.base x5.len x5.cap) ?_
  refine KT.nil ?_
  refine SX.seq ?_
  refine SC.seq ?_
  refine SC.region' ?_
  refine KT.pv 6 (.slice x5.base x5.len x5.cap) ?_
  refine KT.cl (fun y : Unit => (.tuple #[])) 7 115 #[(.slice x5.base x5.len x5.cap)] (slices_Sort_i_sim x5) (fun x7 => ?_)
  refine KT.nil ?_
  refine SX.seq ?_
  refine SC.seq ?_
  refine SC.region' ?_
  refine KT.pv 8 (.slice x5.base x5.len x5.cap) ?_
  refine KT.pv 2 (.slice x5.base x5.len x5.cap) ?_
  refine KT.nil ?_
  refine SX.seq ?_
  refine SC.ret ?_
  refine SX.ret [.tmp 2] rfl ?_
  refine RS.tmp (.slice x5.base x5.len x5.cap) rfl ?_
  exact RS.nil rfl

set_option maxRecDepth 100000 in
theorem maps_Keys_m_c1_sim (p0_yield : Value) (p1_a : Addr) (Qf : Unit → World → Prop) (w : World) (hm : maps_Keys_m_c1 (cvOf Try.prog) p0_yield p1_a Qf w) : Calls Try.prog 116 #[p0_yield, (.pointer (some p1_a))] w (RetPost (fun y : Unit => (.tuple #[])) Qf) := by
  refine calls_of (fn := Try.f116) (l := [p0_yield, (.pointer (some p1_a))]) (m := maps_Keys_m_c1 (cvOf Try.prog) p0_yield p1_a) 14 (by kernel_rfl) rfl rfl rfl (fun Qf0 => ?_) Qf w hm
  clear hm w Qf
  unfold maps_Keys_m_c1
  refine SC.seq ?_
  refine SC.region' ?_
  refine KT.l 4 (fun x4 => ?_)
  refine KT.ow rfl (OW.rangeMap (d := 5) _ _ 3 46 rfl rfl (by kernel_rfl) rfl rfl (fun x5 => ?_))
  refine KT.nil ?_
  refine SX.seq ?_
  refine SC.block ?_
  refine SC.loop (σ := Unit) (fun s1 => [(0, p0_yield), (5, (.pointer (some x5)))]) (.cons rfl (.cons rfl (.nil))) (fun _ _ _ s1 => ?_)
  refine SC.seq ?_
  refine SC.region' ?_
  refine KT.ow rfl (OW.next (d := 6) _ rfl rfl rfl rfl (fun y6 => ?_))
  refine KT.opt (y := y6) 6 rfl ?_ (fun e6 => ?_)
  refine KT.pv 7 (.bool false) ?_
  refine KT.nil ?_
  refine SX.seq ?_
  refine SC.seq ?_
  refine SC.cond_false rfl ?_
  refine SC.exit ?_
  refine SX.then_exit ?_
  refine SX.loop_exit ?_
  refine SX.block_hit ?_
  refine SX.endBody [] rfl ?_
  exact RS.nil rfl
  refine KT.pv 7 (.bool true) ?_
  refine KT.nil ?_
  refine SX.seq ?_
  refine SC.seq ?_
  refine SC.cond_true rfl ?_
  refine SC.skip ?_
  refine SX.seq ?_
  refine SC.block ?_
  refine SC.seq ?_
  refine SC.region' ?_
  refine KT.ow rfl (OW.entry (d := 8) (ek := (Value.int .i64)) (evv := vS) _ rfl rfl rfl rfl (fun x8 => ?_))
  refine KT.pv 9 (.int .i64 x8.1) ?_
  refine KT.pv 3 (.int .i64 x8.1) ?_
  refine KT.nil ?_
  refine SX.seq ?_
  refine SC.seq ?_
  refine SC.region' ?_
  refine KT.pv 10 p0_yield ?_
  refine KT.pv 11 (.int .i64 x8.1) ?_
  refine KT.ow rfl (OW.callv (d := 12) (enc := Value.bool) (vs := [(.int .i64 x8.1)]) _ [.tmp 11] _ rfl rfl rfl rfl rfl (fun x12 => ?_))
  refine KT.pv 13 (.bool (!x12)) ?_
  refine KT.nil ?_
  refine SX.seq ?_
  refine SC.cond (b := !x12) rfl ?_ ?_
  refine SC.ret ?_
  refine SX.block_ret ?_
  refine SX.loop_ret ?_
  refine SX.block_ret ?_
  refine SX.ret [] rfl ?_
  exact RS.nil rfl
  refine SC.skip ?_
  refine SX.block ?_
  exact SX.loop_next (.cons rfl (.cons rfl (.nil)))

set_option maxRecDepth 100000 in
theorem maps_Keys_m_sim (p0_m : (Option Nat)) (Qf : Value → World → Prop) (w : World) (hm : maps_Keys_m p0_m Qf w) : Calls Try.prog 75 #[(.map p0_m)] w (RetPost (fun v : Value => v) Qf) := by
  refine calls_of (fn := Try.f75) (l := [(.map p0_m)]) (m := maps_Keys_m p0_m) 4 (by kernel_rfl) rfl rfl rfl (fun Qf0 => ?_) Qf w hm
  clear hm w Qf
  unfold maps_Keys_m
  refine SC.seq ?_
  refine SC.region' ?_
  refine KT.nw 1 (fun ad => .pointer (some ad)) 112 (fun x1 => ?_)
  refine KT.pv 2 Value.nilFunc ?_
  refine KT.nil ?_
  refine SX.seq ?_
  refine SC.seq ?_
  refine SC.region' ?_
  refine KT.pv 3 (.func (.func fid_maps_Keys_m_c1) #[] #[(.pointer (some x1))]) ?_
  refine KT.pv 2 (.func (.func fid_maps_Keys_m_c1) #[] #[(.pointer (some x1))]) ?_
  refine KT.nil ?_
  refine SX.seq ?_
  refine SC.ret ?_
  refine SX.ret [.tmp 2] rfl ?_
  refine RS.tmp (.func (.func fid_maps_Keys_m_c1) #[] #[(.pointer (some x1))]) rfl ?_
  exact RS.nil rfl

set_option maxRecDepth 100000 in
theorem device_Rack_Restore_sim (p0_r : (Option Addr)) (p1_keeps : Slc) (Qf : Unit → World → Prop) (w : World) (hm : device_Rack_Restore (cvOf Try.prog) p0_r p1_keeps Qf w) : Calls Try.prog 40 #[(.pointer p0_r), (.slice p1_keeps.base p1_keeps.len p1_keeps.cap)] w (RetPost (fun y : Unit => (.tuple #[])) Qf) := by
  refine calls_of (fn := Try.f40) (l := [(.pointer p0_r), (.slice p1_keeps.base p1_keeps.len p1_keeps.cap)]) (m := device_Rack_Restore (cvOf Try.prog) p0_r p1_keeps) 76 (by kernel_rfl) rfl rfl rfl (fun Qf0 => ?_) Qf w hm
  clear hm w Qf
  unfold device_Rack_Restore
  refine SC.seq ?_
  refine SC.region' ?_
  refine KT.pv 9 (.pointer p0_r) ?_
  refine KT.pv 10 (.pointer p0_r) ?_
  refine KT.nm 11 (fun x11 => ?_)
  refine KT.pv 12 (.pointer (some (Addr.add x11 3))) ?_
  refine KT.s ?_
  refine KT.nm 13 (fun x13 => ?_)
  refine KT.pv 14 (.pointer (some (Addr.add x13 2))) ?_
  refine KT.s ?_
  refine KT.nil ?_
  refine SX.seq ?_
  refine SC.seq ?_
  refine SC.region' ?_
  refine KT.pv 4 (.int .i64 0) ?_
  refine KT.nil ?_
  refine SX.seq ?_
  refine SC.seq ?_
  refine SC.region' ?_
  refine KT.pv 15 (.pointer p0_r) ?_
  refine KT.nm 16 (fun x16 => ?_)
  refine KT.pv 17 (.pointer (some x16)) ?_
  refine KT.l 18 (fun x18 => ?_)
  refine KT.pv 19 (.int .i64 ((x18.len : Nat) : Int)) ?_
  refine KT.pv 20 (.int .i64 0) ?_
  refine KT.nil ?_
  refine SX.seq ?_
  refine SC.block ?_
  refine SC.loop (σ := (Int × Int)) (fun s1 => [(1, (.slice p1_keeps.base p1_keeps.len p1_keeps.cap)), (4, (.int .i64 s1.1)), (18, (.slice x18.base x18.len x18.cap)), (19, (.int .i64 ((x18.len : Nat) : Int))), (20, (.int .i64 s1.2))]) (.cons rfl (.cons rfl (.cons rfl (.cons rfl (.cons rfl (.nil)))))) (fun _ _ _ s1 => ?_)
  refine SC.seq ?_
  refine SC.region' ?_
  refine KT.pv 21 (.bool (decide (s1.2 < ((x18.len : Nat) : Int)))) ?_
  refine KT.nil ?_
  refine SX.seq ?_
  refine SC.seq ?_
  refine SC.cond (b := decide (s1.2 < ((x18.len : Nat) : Int))) rfl ?_ ?_
  refine SC.skip ?_
  refine SX.seq ?_
  refine SC.seq ?_
  refine SC.block ?_
  refine SC.seq ?_
  refine SC.region' ?_
  refine KT.oy rfl (OY.idx (d := 22) (s := x18) (i := s1.2) (size := 1) (elem := 111) _ _ _ rfl rfl rfl (by kernel_rfl) (by kernel_rfl) rfl rfl (fun x22 => ?_))
  refine KT.l 23 (fun x23 => ?_)
  refine KT.pv 6 (.pointer x23) ?_
  refine KT.nil ?_
  refine SX.seq ?_
  refine SC.seq ?_
  refine SC.seq ?_
  refine SC.region' ?_
  refine KT.pv 24 (.pointer x23) ?_
  refine KT.nm 25 (fun x25 => ?_)
  refine KT.pv 26 (.pointer (some (Addr.add x25 1))) ?_
  refine KT.l 27 (fun x27 => ?_)
  refine KT.cl (fun v : Value => v) 28 75 #[(.map x27)] (maps_Keys_m_sim x27) (fun x28 => ?_)
  refine KT.cl vS 29 74 #[x28] (slices_Sorted_i_sim x28) (fun x29 => ?_)
  refine KT.pv 30 (.int .i64 ((x29.len : Nat) : Int)) ?_
  refine KT.pv 31 (.int .i64 0) ?_
  refine KT.nil ?_
  refine SX.seq ?_
  refine SC.block ?_
  refine SC.loop (σ := (Int × Int)) (fun s2 => [(1, (.slice p1_keeps.base p1_keeps.len p1_keeps.cap)), (4, (.int .i64 s2.1)), (6, (.pointer x23)), (18, (.slice x18.base x18.len x18.cap)), (19, (.int .i64 ((x18.len : Nat) : Int))), (20, (.int .i64 s1.2)), (29, (.slice x29.base x29.len x29.cap)), (30, (.int .i64 ((x29.len : Nat) : Int))), (31, (.int .i64 s2.2))]) (.cons rfl (.cons rfl (.cons rfl (.cons rfl (.cons rfl (.cons rfl (.cons rfl (.cons rfl (.cons rfl (.nil)))))))))) (fun _ _ _ s2 => ?_)
  refine SC.seq ?_
  refine SC.region' ?_
  refine KT.pv 32 (.bool (decide (s2.2 < ((x29.len : Nat) : Int)))) ?_
  refine KT.nil ?_
  refine SX.seq ?_
  refine SC.seq ?_
  refine SC.cond (b := decide (s2.2 < ((x29.len : Nat) : Int))) rfl ?_ ?_
  refine SC.skip ?_
  refine SX.seq ?_
  refine SC.seq ?_
  refine SC.block ?_
  refine SC.seq ?_
  refine SC.region' ?_
  refine KT.oy rfl (OY.idx (d := 33) (s := x29) (i := s2.2) (size := 1) (elem := 3) _ _ _ rfl rfl rfl (by kernel_rfl) (by kernel_rfl) rfl rfl (fun x33 => ?_))
  refine KT.l 34 (fun x34 => ?_)
  refine KT.pv 8 (.int .i64 x34) ?_
  refine KT.nil ?_
  refine SX.seq ?_
  refine SC.seq ?_
  refine SC.seq ?_
  refine SC.region' ?_
  refine KT.pv 35 (.slice p1_keeps.base p1_keeps.len p1_keeps.cap) ?_
  refine KT.pv 36 (.int .i64 ((p1_keeps.len : Nat) : Int)) ?_
  refine KT.pv 37 (.bool (decide (((p1_keeps.len : Nat) : Int) > 0))) ?_
  refine KT.pv 38 (.bool (decide (((p1_keeps.len : Nat) : Int) > 0))) ?_
  refine KT.joinO (β := Bool) 10 (fun r3 => [(48, (.bool r3)), (1, (.slice p1_keeps.base p1_keeps.len p1_keeps.cap)), (4, (.int .i64 s2.1)), (6, (.pointer x23)), (8, (.int .i64 x34)), (18, (.slice x18.base x18.len x18.cap)), (19, (.int .i64 ((x18.len : Nat) : Int))), (20, (.int .i64 s1.2)), (29, (.slice x29.base x29.len x29.cap)), (30, (.int .i64 ((x29.len : Nat) : Int))), (31, (.int .i64 s2.2))]) (fun r3 => ?_) (fun j3 => ?_)
  refine KT.pv 49 (.bool r3) ?_
  refine KT.joinO (β := Bool) 6 (fun r4 => [(55, (.bool r4)), (1, (.slice p1_keeps.base p1_keeps.len p1_keeps.cap)), (4, (.int .i64 s2.1)), (6, (.pointer x23)), (8, (.int .i64 x34)), (18, (.slice x18.base x18.len x18.cap)), (19, (.int .i64 ((x18.len : Nat) : Int))), (20, (.int .i64 s1.2)), (29, (.slice x29.base x29.len x29.cap)), (30, (.int .i64 ((x29.len : Nat) : Int))), (31, (.int .i64 s2.2))]) (fun r4 => ?_) (fun j4 => ?_)
  refine KT.nil ?_
  refine SX.seq ?_
  refine SC.cond (b := r4) rfl ?_ ?_
  refine SC.draw 13 (fun f => Nat.beq f 12) rfl (by kernel_rfl) (fun S5 => ?_)
  refine KT.pvA 0 56 (.pointer x23) ?_
  refine KT.tp 1 (OY.nil (d := 57) (p := x23) _ rfl rfl rfl rfl (fun x57 => ?_))
  refine KT.pvA 2 58 (.pointer (some x57)) ?_
  refine KT.tk 3 (OY.ldI (d := 59) _ _ rfl rfl (by kernel_rfl) rfl rfl (fun x59 => ?_))
  refine KT.pvA 4 60 (.int .i64 x34) ?_
  refine KT.pvA 5 61 (.pointer x23) ?_
  refine KT.tp 6 (OY.nil (d := 62) (p := x23) _ rfl rfl rfl rfl (fun x62 => ?_))
  refine KT.pvA 7 63 (.pointer (some (Addr.add x62 1))) ?_
  refine KT.tk 8 (OY.ldI (d := 64) _ _ rfl rfl (by kernel_rfl) rfl rfl (fun x64 => ?_))
  refine KT.pvA 9 65 (.int .i64 x34) ?_
  refine KT.one 10 rfl (by kernel_rfl) rfl (OW.step (OW.look (d := 66) (enc := vS) (⟨none, 0, 0⟩) 3 46 .i64 _ _ _ rfl rfl rfl (by kernel_rfl) (by kernel_rfl) (by kernel_rfl) rfl rfl (fun x66 => ?_)))
  refine KT.and ?_
  refine KT.tp 11 (OY.idx (d := 67) (s := x59) (i := x34) (size := 1) (elem := 46) _ _ _ rfl rfl rfl (by kernel_rfl) (by kernel_rfl) rfl rfl (fun x67 => ?_))
  refine KT.last 12 rfl (by kernel_rfl) rfl rfl (OW.st _ _ _ rfl rfl rfl rfl (by kernel_rfl) rfl ?_)
  refine KT.doneN (by kernel_rfl) ?_
  refine SX.seq ?_
  refine SC.region' ?_
  refine KT.pv 68 (.int .i64 s2.1) ?_
  refine KT.pv 69 (.int .i64 (w64 (s2.1 + 1))) ?_
  refine KT.pv 4 (.int .i64 (w64 (s2.1 + 1))) ?_
  refine KT.nil ?_
  refine SX.block ?_
  refine SX.seq ?_
  refine SC.region' ?_
  refine KT.pv 70 (.int .i64 (w64 (s2.2 + 1))) ?_
  refine KT.pv 31 (.int .i64 (w64 (s2.2 + 1))) ?_
  refine KT.nil ?_
  exact SX.loop_next (.cons rfl (.cons rfl (.cons rfl (.cons rfl (.cons rfl (.cons rfl (.cons rfl (.cons rfl (.cons rfl (.nil))))))))))
  refine SC.skip ?_
  refine SX.seq ?_
  refine SC.region' ?_
  refine KT.pv 68 (.int .i64 s2.1) ?_
  refine KT.pv 69 (.int .i64 (w64 (s2.1 + 1))) ?_
  refine KT.pv 4 (.int .i64 (w64 (s2.1 + 1))) ?_
  refine KT.nil ?_
  refine SX.block ?_
  refine SX.seq ?_
  refine SC.region' ?_
  refine KT.pv 70 (.int .i64 (w64 (s2.2 + 1))) ?_
  refine KT.pv 31 (.int .i64 (w64 (s2.2 + 1))) ?_
  refine KT.nil ?_
  exact SX.loop_next (.cons rfl (.cons rfl (.cons rfl (.cons rfl (.cons rfl (.cons rfl (.cons rfl (.cons rfl (.cons rfl (.nil))))))))))
  refine KT.ite (b := r3) 49 rfl ?_ ?_
  refine KT.pv 50 (.pointer x23) ?_
  refine KT.nm 51 (fun x51 => ?_)
  refine KT.pv 52 (.pointer (some (Addr.add x51 2))) ?_
  refine KT.l 53 (fun x53 => ?_)
  refine KT.pv 54 (.bool (!x53)) ?_
  refine KT.pv 55 (.bool (!x53)) ?_
  exact KT.leafO j4 (.cons rfl (.cons rfl (.cons rfl (.cons rfl (.cons rfl (.cons rfl (.cons rfl (.cons rfl (.cons rfl (.cons rfl (.cons rfl (.nil))))))))))))
  refine KT.sk ?_
  refine KT.sk ?_
  refine KT.sk ?_
  refine KT.sk ?_
  refine KT.sk ?_
  refine KT.pv 55 (.bool false) ?_
  exact KT.leafO j4 (.cons rfl (.cons rfl (.cons rfl (.cons rfl (.cons rfl (.cons rfl (.cons rfl (.cons rfl (.cons rfl (.cons rfl (.cons rfl (.nil))))))))))))
  refine KT.ite (b := decide (((p1_keeps.len : Nat) : Int) > 0)) 38 rfl ?_ ?_
  refine KT.pv 39 (.slice p1_keeps.base p1_keeps.len p1_keeps.cap) ?_
  refine KT.pv 40 (.int .i64 s2.1) ?_
  refine KT.pv 41 (.slice p1_keeps.base p1_keeps.len p1_keeps.cap) ?_
  refine KT.pv 42 (.int .i64 ((p1_keeps.len : Nat) : Int)) ?_
  refine KT.oy rfl (OY.rem (d := 43) (x := s2.1) (y := ((p1_keeps.len : Nat) : Int)) _ _ _ _ (Int.tmod s2.1 ((p1_keeps.len : Nat) : Int)) rfl rfl rfl rfl rfl rfl ?_)
  refine KT.oy rfl (OY.idx (d := 44) (s := p1_keeps) (i := Int.tmod s2.1 ((p1_keeps.len : Nat) : Int)) (size := 1) (elem := 3) _ _ _ rfl rfl rfl (by kernel_rfl) (by kernel_rfl) rfl rfl (fun x44 => ?_))
  refine KT.l 45 (fun x45 => ?_)
  refine KT.pv 46 (.int .i64 (bAnd .i64 x45 1)) ?_
  refine KT.pv 47 (.bool ((bAnd .i64 x45 1) == 1)) ?_
  refine KT.pv 48 (.bool ((bAnd .i64 x45 1) == 1)) ?_
  exact KT.leafO j3 (.cons rfl (.cons rfl (.cons rfl (.cons rfl (.cons rfl (.cons rfl (.cons rfl (.cons rfl (.cons rfl (.cons rfl (.cons rfl (.nil))))))))))))
  refine KT.sk ?_
  refine KT.sk ?_
  refine KT.sk ?_
  refine KT.sk ?_
  refine KT.sk ?_
  refine KT.sk ?_
  refine KT.sk ?_
  refine KT.sk ?_
  refine KT.sk ?_
  refine KT.pv 48 (.bool false) ?_
  exact KT.leafO j3 (.cons rfl (.cons rfl (.cons rfl (.cons rfl (.cons rfl (.cons rfl (.cons rfl (.cons rfl (.cons rfl (.cons rfl (.cons rfl (.nil))))))))))))
  refine SC.exit ?_
  refine SX.then_exit ?_
  refine SX.loop_exit ?_
  refine SX.block_hit ?_
  refine SX.seq ?_
  refine SC.region' ?_
  refine KT.pv 71 (.pointer x23) ?_
  refine KT.nm 72 (fun x72 => ?_)
  refine KT.pv 73 (.pointer (some (Addr.add x72 1))) ?_
  refine KT.l 74 (fun x74 => ?_)
  refine KT.ow rfl (OW.clearMap0 _ _ 3 46 rfl rfl (by kernel_rfl) rfl ?_)
  refine KT.nil ?_
  refine SX.block ?_
  refine SX.seq ?_
  refine SC.region' ?_
  refine KT.pv 75 (.int .i64 (w64 (s1.2 + 1))) ?_
  refine KT.pv 20 (.int .i64 (w64 (s1.2 + 1))) ?_
  refine KT.nil ?_
  exact SX.loop_next (.cons rfl (.cons rfl (.cons rfl (.cons rfl (.cons rfl (.nil))))))
  refine SC.exit ?_
  refine SX.then_exit ?_
  refine SX.loop_exit ?_
  refine SX.block_hit ?_
  refine SX.endBody [] rfl ?_
  exact RS.nil rfl

set_option maxRecDepth 100000 in
theorem device_Rack_Lasting_sim (p0_r : (Option Addr)) (p1_disk : Int) (p2_sector : Int) (Qf : (Slc × Int) → World → Prop) (w : World) (hm : device_Rack_Lasting p0_r p1_disk p2_sector Qf w) : Calls Try.prog 41 #[(.pointer p0_r), (.int .i64 p1_disk), (.int .i64 p2_sector)] w (RetPost (fun y : (Slc × Int) => (.tuple #[(.slice y.1.base y.1.len y.1.cap), (.int .i64 y.2)])) Qf) := by
  refine calls_of (fn := Try.f41) (l := [(.pointer p0_r), (.int .i64 p1_disk), (.int .i64 p2_sector)]) (m := device_Rack_Lasting p0_r p1_disk p2_sector) 45 (by kernel_rfl) rfl rfl rfl (fun Qf0 => ?_) Qf w hm
  clear hm w Qf
  unfold device_Rack_Lasting
  refine SC.seq ?_
  refine SC.region' ?_
  refine KT.pv 6 (.slice none 0 0) ?_
  refine KT.pv 7 (.int .i64 0) ?_
  refine KT.nil ?_
  refine SX.seq ?_
  refine SC.seq ?_
  refine SC.seq ?_
  refine SC.region' ?_
  refine KT.pv 8 (.int .i64 p1_disk) ?_
  refine KT.pv 9 (.bool (decide (p1_disk < 0))) ?_
  refine KT.pv 10 (.bool (decide (p1_disk < 0))) ?_
  refine KT.joinO (β := Bool) 8 (fun r1 => [(18, (.bool r1)), (0, (.pointer p0_r)), (1, (.int .i64 p1_disk)), (2, (.int .i64 p2_sector))]) (fun r1 => ?_) (fun j1 => ?_)
  refine KT.pv 19 (.bool r1) ?_
  refine KT.joinO (β := Bool) 3 (fun r2 => [(22, (.bool r2)), (0, (.pointer p0_r)), (1, (.int .i64 p1_disk)), (2, (.int .i64 p2_sector))]) (fun r2 => ?_) (fun j2 => ?_)
  refine KT.pv 23 (.bool r2) ?_
  refine KT.joinO (β := Bool) 7 (fun r3 => [(30, (.bool r3)), (0, (.pointer p0_r)), (1, (.int .i64 p1_disk)), (2, (.int .i64 p2_sector))]) (fun r3 => ?_) (fun j3 => ?_)
  refine KT.nil ?_
  refine SX.seq ?_
  refine SC.cond (b := r3) rfl ?_ ?_
  refine SC.seq ?_
  refine SC.region' ?_
  refine KT.pv 6 (.slice none 0 0) ?_
  refine KT.pv 7 (.int .i64 11) ?_
  refine KT.nil ?_
  refine SX.seq ?_
  refine SC.ret ?_
  refine SX.then_ret ?_
  refine SX.ret [.tmp 6, .tmp 7] rfl ?_
  refine RS.tmp (.slice none 0 0) rfl ?_
  refine RS.tmp (.int .i64 11) rfl ?_
  exact RS.nil rfl
  refine SC.skip ?_
  refine SX.seq ?_
  refine SC.seq ?_
  refine SC.region' ?_
  refine KT.pv 31 (.pointer p0_r) ?_
  refine KT.nm 32 (fun x32 => ?_)
  refine KT.pv 33 (.pointer (some x32)) ?_
  refine KT.l 34 (fun x34 => ?_)
  refine KT.pv 35 (.int .i64 p1_disk) ?_
  refine KT.oy rfl (OY.idx (d := 36) (s := x34) (i := p1_disk) (size := 1) (elem := 111) _ _ _ rfl rfl rfl (by kernel_rfl) (by kernel_rfl) rfl rfl (fun x36 => ?_))
  refine KT.l 37 (fun x37 => ?_)
  refine KT.nm 38 (fun x38 => ?_)
  refine KT.pv 39 (.pointer (some x38)) ?_
  refine KT.l 40 (fun x40 => ?_)
  refine KT.pv 41 (.int .i64 p2_sector) ?_
  refine KT.oy rfl (OY.idx (d := 42) (s := x40) (i := p2_sector) (size := 1) (elem := 46) _ _ _ rfl rfl rfl (by kernel_rfl) (by kernel_rfl) rfl rfl (fun x42 => ?_))
  refine KT.l 43 (fun x43 => ?_)
  refine KT.cl vS 44 71 #[(.slice x43.base x43.len x43.cap)] (slices_Clone_b_sim x43) (fun x44 => ?_)
  refine KT.pv 6 (.slice x44.base x44.len x44.cap) ?_
  refine KT.pv 7 (.int .i64 0) ?_
  refine KT.nil ?_
  refine SX.seq ?_
  refine SC.ret ?_
  refine SX.ret [.tmp 6, .tmp 7] rfl ?_
  refine RS.tmp (.slice x44.base x44.len x44.cap) rfl ?_
  refine RS.tmp (.int .i64 0) rfl ?_
  exact RS.nil rfl
  refine KT.ite (b := r2) 23 rfl ?_ ?_
  refine KT.sk ?_
  refine KT.sk ?_
  refine KT.sk ?_
  refine KT.sk ?_
  refine KT.sk ?_
  refine KT.sk ?_
  refine KT.pv 30 (.bool true) ?_
  exact KT.leafO j3 (.cons rfl (.cons rfl (.cons rfl (.cons rfl (.nil)))))
  refine KT.pv 24 (.int .i64 p2_sector) ?_
  refine KT.pv 25 (.pointer p0_r) ?_
  refine KT.nm 26 (fun x26 => ?_)
  refine KT.pv 27 (.pointer (some (Addr.add x26 1))) ?_
  refine KT.l 28 (fun x28 => ?_)
  refine KT.pv 29 (.bool (decide (p2_sector ≥ x28))) ?_
  refine KT.pv 30 (.bool (decide (p2_sector ≥ x28))) ?_
  exact KT.leafO j3 (.cons rfl (.cons rfl (.cons rfl (.cons rfl (.nil)))))
  refine KT.ite (b := r1) 19 rfl ?_ ?_
  refine KT.sk ?_
  refine KT.sk ?_
  refine KT.pv 22 (.bool true) ?_
  exact KT.leafO j2 (.cons rfl (.cons rfl (.cons rfl (.cons rfl (.nil)))))
  refine KT.pv 20 (.int .i64 p2_sector) ?_
  refine KT.pv 21 (.bool (decide (p2_sector < 0))) ?_
  refine KT.pv 22 (.bool (decide (p2_sector < 0))) ?_
  exact KT.leafO j2 (.cons rfl (.cons rfl (.cons rfl (.cons rfl (.nil)))))
  refine KT.ite (b := decide (p1_disk < 0)) 10 rfl ?_ ?_
  refine KT.sk ?_
  refine KT.sk ?_
  refine KT.sk ?_
  refine KT.sk ?_
  refine KT.sk ?_
  refine KT.sk ?_
  refine KT.sk ?_
  refine KT.pv 18 (.bool true) ?_
  exact KT.leafO j1 (.cons rfl (.cons rfl (.cons rfl (.cons rfl (.nil)))))
  refine KT.pv 11 (.int .i64 p1_disk) ?_
  refine KT.pv 12 (.pointer p0_r) ?_
  refine KT.nm 13 (fun x13 => ?_)
  refine KT.pv 14 (.pointer (some x13)) ?_
  refine KT.l 15 (fun x15 => ?_)
  refine KT.pv 16 (.int .i64 ((x15.len : Nat) : Int)) ?_
  refine KT.pv 17 (.bool (decide (p1_disk ≥ ((x15.len : Nat) : Int)))) ?_
  refine KT.pv 18 (.bool (decide (p1_disk ≥ ((x15.len : Nat) : Int)))) ?_
  exact KT.leafO j1 (.cons rfl (.cons rfl (.cons rfl (.cons rfl (.nil)))))

set_option maxRecDepth 100000 in
theorem device_Rack_Arm_sim (p0_r : (Option Addr)) (p1_calls : Int) (Qf : Unit → World → Prop) (w : World) (hm : device_Rack_Arm p0_r p1_calls Qf w) : Calls Try.prog 43 #[(.pointer p0_r), (.int .i64 p1_calls)] w (RetPost (fun y : Unit => (.tuple #[])) Qf) := by
  refine calls_of (fn := Try.f43) (l := [(.pointer p0_r), (.int .i64 p1_calls)]) (m := device_Rack_Arm p0_r p1_calls) 9 (by kernel_rfl) rfl rfl rfl (fun Qf0 => ?_) Qf w hm
  clear hm w Qf
  unfold device_Rack_Arm
  refine SC.region' ?_
  refine KT.pv 4 (.pointer p0_r) ?_
  refine KT.pv 5 (.int .i64 p1_calls) ?_
  refine KT.pv 6 (.int .i64 (maxI p1_calls (-1))) ?_
  refine KT.nm 7 (fun x7 => ?_)
  refine KT.pv 8 (.pointer (some (Addr.add x7 2))) ?_
  refine KT.s ?_
  refine KT.nil ?_
  refine SX.endBody [] rfl ?_
  exact RS.nil rfl

set_option maxRecDepth 100000 in
theorem device_Rack_Off_sim (p0_r : (Option Addr)) (Qf : Bool → World → Prop) (w : World) (hm : device_Rack_Off p0_r Qf w) : Calls Try.prog 56 #[(.pointer p0_r)] w (RetPost Value.bool Qf) := by
  refine calls_of (fn := Try.f56) (l := [(.pointer p0_r)]) (m := device_Rack_Off p0_r) 7 (by kernel_rfl) rfl rfl rfl (fun Qf0 => ?_) Qf w hm
  clear hm w Qf
  unfold device_Rack_Off
  refine SC.seq ?_
  refine SC.region' ?_
  refine KT.pv 2 (.bool false) ?_
  refine KT.nil ?_
  refine SX.seq ?_
  refine SC.seq ?_
  refine SC.region' ?_
  refine KT.pv 3 (.pointer p0_r) ?_
  refine KT.nm 4 (fun x4 => ?_)
  refine KT.pv 5 (.pointer (some (Addr.add x4 3))) ?_
  refine KT.l 6 (fun x6 => ?_)
  refine KT.pv 2 (.bool x6) ?_
  refine KT.nil ?_
  refine SX.seq ?_
  refine SC.ret ?_
  refine SX.ret [.tmp 2] rfl ?_
  refine RS.tmp (.bool x6) rfl ?_
  exact RS.nil rfl

set_option maxRecDepth 100000 in
theorem law02_alive_sim  (Qf : Bool → World → Prop) (w : World) (hm : law02_alive (cvOf Try.prog)  Qf w) : Calls Try.prog 38 #[] w (RetPost Value.bool Qf) := by
  refine calls_of (fn := Try.f38) (l := []) (m := law02_alive (cvOf Try.prog) ) 65 (by kernel_rfl) rfl rfl rfl (fun Qf0 => ?_) Qf w hm
  clear hm w Qf
  unfold law02_alive
  refine SC.seq ?_
  refine SC.region' ?_
  refine KT.pv 0 (.bool false) ?_
  refine KT.nil ?_
  refine SX.seq ?_
  refine SC.seq ?_
  refine SC.region' ?_
  refine KT.cl (fun y : ((Option Addr) × Int) => (.tuple #[(.pointer y.1), (.int .i64 y.2)])) 10 21 #[(.int .i64 2), (.int .i64 3)] (device_New_sim 2 3) (fun x10 => ?_)
  refine KT.pv 9 (.tuple #[(.pointer x10.1), (.int .i64 x10.2)]) ?_
  refine KT.pv 11 (.pointer x10.1) ?_
  refine KT.pv 12 (.int .i64 x10.2) ?_
  refine KT.pv 1 (.pointer x10.1) ?_
  refine KT.pv 2 (.int .i64 x10.2) ?_
  refine KT.nil ?_
  refine SX.seq ?_
  refine SC.seq ?_
  refine SC.seq ?_
  refine SC.region' ?_
  refine KT.pv 13 (.int .i64 x10.2) ?_
  refine KT.pv 14 (.bool (x10.2 != 0)) ?_
  refine KT.pv 15 (.bool (x10.2 != 0)) ?_
  refine KT.joinO (β := Bool) 3 (fun r1 => [(18, (.bool r1)), (1, (.pointer x10.1))]) (fun r1 => ?_) (fun j1 => ?_)
  refine KT.nil ?_
  refine SX.seq ?_
  refine SC.cond (b := r1) rfl ?_ ?_
  refine SC.seq ?_
  refine SC.region' ?_
  refine KT.pv 0 (.bool false) ?_
  refine KT.nil ?_
  refine SX.seq ?_
  refine SC.ret ?_
  refine SX.then_ret ?_
  refine SX.ret [.tmp 0] rfl ?_
  refine RS.tmp (.bool false) rfl ?_
  exact RS.nil rfl
  refine SC.skip ?_
  refine SX.seq ?_
  refine SC.seq ?_
  refine SC.region' ?_
  refine KT.nw 19 (fun ad => .slice (some ad) 64 64) 5 (fun x19 => ?_)
  refine KT.pv 3 (.slice (some x19) 64 64) ?_
  refine KT.nil ?_
  refine SX.seq ?_
  refine SC.seq ?_
  refine SC.region' ?_
  refine KT.pv 20 (.slice (some x19) 64 64) ?_
  refine KT.oy rfl (OY.idx (d := 21) (s := ⟨some x19, 64, 64⟩) (i := 0) (size := 1) (elem := 5) _ _ _ rfl rfl rfl (by kernel_rfl) (by kernel_rfl) rfl rfl (fun x21 => ?_))
  refine KT.s ?_
  refine KT.nil ?_
  refine SX.seq ?_
  refine SC.seq ?_
  refine SC.region' ?_
  refine KT.pv 22 (.pointer x10.1) ?_
  refine KT.cl (fun y : Unit => (.tuple #[])) 23 43 #[(.pointer x10.1), (.int .i64 1)] (device_Rack_Arm_sim x10.1 1) (fun x23 => ?_)
  refine KT.nil ?_
  refine SX.seq ?_
  refine SC.seq ?_
  refine SC.region' ?_
  refine KT.pv 24 (.pointer x10.1) ?_
  refine KT.pv 25 (.slice (some x19) 64 64) ?_
  refine KT.cl (Value.int .i64) 26 39 #[(.pointer x10.1), (.int .i64 1), (.int .i64 2), (.slice (some x19) 64 64)] (device_Rack_Write_sim x10.1 1 2 (⟨some x19, 64, 64⟩)) (fun x26 => ?_)
  refine KT.pv 4 (.int .i64 x26) ?_
  refine KT.nil ?_
  refine SX.seq ?_
  refine SC.seq ?_
  refine SC.region' ?_
  refine KT.pv 27 (.pointer x10.1) ?_
  refine KT.pv 28 (.slice (some x19) 64 64) ?_
  refine KT.cl (Value.int .i64) 29 39 #[(.pointer x10.1), (.int .i64 1), (.int .i64 1), (.slice (some x19) 64 64)] (device_Rack_Write_sim x10.1 1 1 (⟨some x19, 64, 64⟩)) (fun x29 => ?_)
  refine KT.pv 5 (.int .i64 x29) ?_
  refine KT.nil ?_
  refine SX.seq ?_
  refine SC.seq ?_
  refine SC.region' ?_
  refine KT.pv 30 (.pointer x10.1) ?_
  refine KT.cl Value.bool 31 56 #[(.pointer x10.1)] (device_Rack_Off_sim x10.1) (fun x31 => ?_)
  refine KT.pv 6 (.bool x31) ?_
  refine KT.nil ?_
  refine SX.seq ?_
  refine SC.seq ?_
  refine SC.region' ?_
  refine KT.pv 32 (.pointer x10.1) ?_
  refine KT.nw 33 (fun ad => .slice (some ad) 1 1) 3 (fun x33 => ?_)
  refine KT.cl (fun y : Unit => (.tuple #[])) 34 40 #[(.pointer x10.1), (.slice (some x33) 1 1)] (device_Rack_Restore_sim x10.1 (⟨some x33, 1, 1⟩)) (fun x34 => ?_)
  refine KT.nil ?_
  refine SX.seq ?_
  refine SC.seq ?_
  refine SC.region' ?_
  refine KT.pv 36 (.pointer x10.1) ?_
  refine KT.cl (fun y : (Slc × Int) => (.tuple #[(.slice y.1.base y.1.len y.1.cap), (.int .i64 y.2)])) 37 41 #[(.pointer x10.1), (.int .i64 1), (.int .i64 2)] (device_Rack_Lasting_sim x10.1 1 2) (fun x37 => ?_)
  refine KT.pv 35 (.tuple #[(.slice x37.1.base x37.1.len x37.1.cap), (.int .i64 x37.2)]) ?_
  refine KT.pv 38 (.slice x37.1.base x37.1.len x37.1.cap) ?_
  refine KT.pv 39 (.int .i64 x37.2) ?_
  refine KT.pv 7 (.slice x37.1.base x37.1.len x37.1.cap) ?_
  refine KT.pv 8 (.int .i64 x37.2) ?_
  refine KT.nil ?_
  refine SX.seq ?_
  refine SC.seq ?_
  refine SC.region' ?_
  refine KT.pv 40 (.int .i64 x26) ?_
  refine KT.pv 41 (.bool (x26 == 0)) ?_
  refine KT.pv 42 (.bool (x26 == 0)) ?_
  refine KT.joinO (β := Bool) 3 (fun r2 => [(45, (.bool r2)), (1, (.pointer x10.1)), (6, (.bool x31)), (7, (.slice x37.1.base x37.1.len x37.1.cap))]) (fun r2 => ?_) (fun j2 => ?_)
  refine KT.pv 46 (.bool r2) ?_
  refine KT.joinO (β := Bool) 2 (fun r3 => [(48, (.bool r3)), (1, (.pointer x10.1)), (7, (.slice x37.1.base x37.1.len x37.1.cap))]) (fun r3 => ?_) (fun j3 => ?_)
  refine KT.pv 49 (.bool r3) ?_
  refine KT.joinO (β := Bool) 4 (fun r4 => [(53, (.bool r4)), (7, (.slice x37.1.base x37.1.len x37.1.cap))]) (fun r4 => ?_) (fun j4 => ?_)
  refine KT.pv 54 (.bool r4) ?_
  refine KT.joinO (β := Bool) 4 (fun r5 => [(58, (.bool r5)), (7, (.slice x37.1.base x37.1.len x37.1.cap))]) (fun r5 => ?_) (fun j5 => ?_)
  refine KT.pv 59 (.bool r5) ?_
  refine KT.joinO (β := Bool) 5 (fun r6 => [(64, (.bool r6))]) (fun r6 => ?_) (fun j6 => ?_)
  refine KT.pv 0 (.bool r6) ?_
  refine KT.nil ?_
  refine SX.seq ?_
  refine SC.ret ?_
  refine SX.ret [.tmp 0] rfl ?_
  refine RS.tmp (.bool r6) rfl ?_
  exact RS.nil rfl
  refine KT.ite (b := r5) 59 rfl ?_ ?_
  refine KT.pv 60 (.slice x37.1.base x37.1.len x37.1.cap) ?_
  refine KT.oy rfl (OY.idx (d := 61) (s := x37.1) (i := 0) (size := 1) (elem := 5) _ _ _ rfl rfl rfl (by kernel_rfl) (by kernel_rfl) rfl rfl (fun x61 => ?_))
  refine KT.l 62 (fun x62 => ?_)
  refine KT.pv 63 (.bool (x62 == 7)) ?_
  refine KT.pv 64 (.bool (x62 == 7)) ?_
  exact KT.leafO j6 (.cons rfl (.nil))
  refine KT.sk ?_
  refine KT.sk ?_
  refine KT.sk ?_
  refine KT.sk ?_
  refine KT.pv 64 (.bool false) ?_
  exact KT.leafO j6 (.cons rfl (.nil))
  refine KT.ite (b := r4) 54 rfl ?_ ?_
  refine KT.pv 55 (.slice x37.1.base x37.1.len x37.1.cap) ?_
  refine KT.pv 56 (.int .i64 ((x37.1.len : Nat) : Int)) ?_
  refine KT.pv 57 (.bool (((x37.1.len : Nat) : Int) == 64)) ?_
  refine KT.pv 58 (.bool (((x37.1.len : Nat) : Int) == 64)) ?_
  exact KT.leafO j5 (.cons rfl (.cons rfl (.nil)))
  refine KT.sk ?_
  refine KT.sk ?_
  refine KT.sk ?_
  refine KT.pv 58 (.bool false) ?_
  exact KT.leafO j5 (.cons rfl (.cons rfl (.nil)))
  refine KT.ite (b := r3) 49 rfl ?_ ?_
  refine KT.pv 50 (.pointer x10.1) ?_
  refine KT.cl Value.bool 51 56 #[(.pointer x10.1)] (device_Rack_Off_sim x10.1) (fun x51 => ?_)
  refine KT.pv 52 (.bool (!x51)) ?_
  refine KT.pv 53 (.bool (!x51)) ?_
  exact KT.leafO j4 (.cons rfl (.cons rfl (.nil)))
  refine KT.sk ?_
  refine KT.sk ?_
  refine KT.sk ?_
  refine KT.pv 53 (.bool false) ?_
  exact KT.leafO j4 (.cons rfl (.cons rfl (.nil)))
  refine KT.ite (b := r2) 46 rfl ?_ ?_
  refine KT.pv 47 (.bool x31) ?_
  refine KT.pv 48 (.bool x31) ?_
  exact KT.leafO j3 (.cons rfl (.cons rfl (.cons rfl (.nil))))
  refine KT.sk ?_
  refine KT.pv 48 (.bool false) ?_
  exact KT.leafO j3 (.cons rfl (.cons rfl (.cons rfl (.nil))))
  refine KT.ite (b := x26 == 0) 42 rfl ?_ ?_
  refine KT.pv 43 (.int .i64 x29) ?_
  refine KT.pv 44 (.bool (x29 == 12)) ?_
  refine KT.pv 45 (.bool (x29 == 12)) ?_
  exact KT.leafO j2 (.cons rfl (.cons rfl (.cons rfl (.cons rfl (.nil)))))
  refine KT.sk ?_
  refine KT.sk ?_
  refine KT.pv 45 (.bool false) ?_
  exact KT.leafO j2 (.cons rfl (.cons rfl (.cons rfl (.cons rfl (.nil)))))
  refine KT.ite (b := x10.2 != 0) 15 rfl ?_ ?_
  refine KT.sk ?_
  refine KT.sk ?_
  refine KT.pv 18 (.bool true) ?_
  exact KT.leafO j1 (.cons rfl (.cons rfl (.nil)))
  refine KT.pv 16 (.pointer x10.1) ?_
  refine KT.oy rfl (OY.eqlNil (d := 17) (p := x10.1) _ _ _ _ rfl rfl rfl (by kernel_rfl) rfl rfl ?_)
  refine KT.pv 18 (.bool ((x10.1).isNone)) ?_
  exact KT.leafO j1 (.cons rfl (.cons rfl (.nil)))

set_option maxRecDepth 100000 in
theorem device_Rack_Flush_sim (p0_r : (Option Addr)) (p1_disk : Int) (Qf : Int → World → Prop) (w : World) (hm : device_Rack_Flush p0_r p1_disk Qf w) : Calls Try.prog 42 #[(.pointer p0_r), (.int .i64 p1_disk)] w (RetPost (Value.int .i64) Qf) := by
  refine calls_of (fn := Try.f42) (l := [(.pointer p0_r), (.int .i64 p1_disk)]) (m := device_Rack_Flush p0_r p1_disk) 39 (by kernel_rfl) rfl rfl rfl (fun Qf0 => ?_) Qf w hm
  clear hm w Qf
  unfold device_Rack_Flush
  refine SC.seq ?_
  refine SC.region' ?_
  refine KT.pv 4 (.int .i64 0) ?_
  refine KT.nil ?_
  refine SX.seq ?_
  refine SC.seq ?_
  refine SC.region' ?_
  refine KT.pv 10 (.pointer p0_r) ?_
  refine KT.pv 11 (.int .i64 p1_disk) ?_
  refine KT.cl (fun y : ((Option Addr) × Int) => (.tuple #[(.pointer y.1), (.int .i64 y.2)])) 12 73 #[(.pointer p0_r), (.int .i64 p1_disk), (.int .i64 0), (.int .i64 64)] (device_Rack_counted_sim p0_r p1_disk 0 64) (fun x12 => ?_)
  refine KT.pv 9 (.tuple #[(.pointer x12.1), (.int .i64 x12.2)]) ?_
  refine KT.pv 13 (.pointer x12.1) ?_
  refine KT.pv 14 (.int .i64 x12.2) ?_
  refine KT.pv 5 (.pointer x12.1) ?_
  refine KT.pv 6 (.int .i64 x12.2) ?_
  refine KT.nil ?_
  refine SX.seq ?_
  refine SC.seq ?_
  refine SC.seq ?_
  refine SC.region' ?_
  refine KT.pv 15 (.int .i64 x12.2) ?_
  refine KT.pv 16 (.bool (x12.2 == 0)) ?_
  refine KT.nil ?_
  refine SX.seq ?_
  refine SC.cond (b := x12.2 == 0) rfl ?_ ?_
  refine SC.seq ?_
  refine SC.seq ?_
  refine SC.region' ?_
  refine KT.pv 17 (.pointer x12.1) ?_
  refine KT.nm 18 (fun x18 => ?_)
  refine KT.pv 19 (.pointer (some (Addr.add x18 1))) ?_
  refine KT.l 20 (fun x20 => ?_)
  refine KT.ow rfl (OW.rangeMap (d := 21) _ _ 3 46 rfl rfl (by kernel_rfl) rfl rfl (fun x21 => ?_))
  refine KT.nil ?_
  refine SX.seq ?_
  refine SC.block ?_
  refine SC.loop (σ := Unit) (fun s1 => [(5, (.pointer x12.1)), (6, (.int .i64 x12.2)), (21, (.pointer (some x21)))]) (.cons rfl (.cons rfl (.cons rfl (.nil)))) (fun _ _ _ s1 => ?_)
  refine SC.seq ?_
  refine SC.region' ?_
  refine KT.ow rfl (OW.next (d := 22) _ rfl rfl rfl rfl (fun y22 => ?_))
  refine KT.opt (y := y22) 22 rfl ?_ (fun e22 => ?_)
  refine KT.pv 23 (.bool false) ?_
  refine KT.nil ?_
  refine SX.seq ?_
  refine SC.seq ?_
  refine SC.cond_false rfl ?_
  refine SC.exit ?_
  refine SX.then_exit ?_
  refine SX.loop_exit ?_
  refine SX.block_hit ?_
  refine SX.seq ?_
  refine SC.region' ?_
  refine KT.pv 34 (.pointer x12.1) ?_
  refine KT.nm 35 (fun x35 => ?_)
  refine KT.pv 36 (.pointer (some (Addr.add x35 1))) ?_
  refine KT.l 37 (fun x37 => ?_)
  refine KT.ow rfl (OW.clearMap0 _ _ 3 46 rfl rfl (by kernel_rfl) rfl ?_)
  refine KT.nil ?_
  refine SX.seq ?_
  refine SC.seq ?_
  refine SC.region' ?_
  refine KT.pv 38 (.int .i64 x12.2) ?_
  refine KT.pv 4 (.int .i64 x12.2) ?_
  refine KT.nil ?_
  refine SX.seq ?_
  refine SC.ret ?_
  refine SX.ret [.tmp 4] rfl ?_
  refine RS.tmp (.int .i64 x12.2) rfl ?_
  exact RS.nil rfl
  refine KT.pv 23 (.bool true) ?_
  refine KT.nil ?_
  refine SX.seq ?_
  refine SC.seq ?_
  refine SC.cond_true rfl ?_
  refine SC.skip ?_
  refine SX.seq ?_
  refine SC.block ?_
  refine SC.seq ?_
  refine SC.region' ?_
  refine KT.ow rfl (OW.entry (d := 24) (ek := (Value.int .i64)) (evv := vS) _ rfl rfl rfl rfl (fun x24 => ?_))
  refine KT.pv 25 (.int .i64 x24.1) ?_
  refine KT.pv 26 (.slice x24.2.base x24.2.len x24.2.cap) ?_
  refine KT.pv 7 (.int .i64 x24.1) ?_
  refine KT.pv 8 (.slice x24.2.base x24.2.len x24.2.cap) ?_
  refine KT.nil ?_
  refine SX.seq ?_
  refine SC.region' ?_
  refine KT.pv 27 (.pointer x12.1) ?_
  refine KT.nm 28 (fun x28 => ?_)
  refine KT.pv 29 (.pointer (some x28)) ?_
  refine KT.l 30 (fun x30 => ?_)
  refine KT.pv 31 (.int .i64 x24.1) ?_
  refine KT.pv 32 (.slice x24.2.base x24.2.len x24.2.cap) ?_
  refine KT.oy rfl (OY.idx (d := 33) (s := x30) (i := x24.1) (size := 1) (elem := 46) _ _ _ rfl rfl rfl (by kernel_rfl) (by kernel_rfl) rfl rfl (fun x33 => ?_))
  refine KT.s ?_
  refine KT.nil ?_
  refine SX.block ?_
  exact SX.loop_next (.cons rfl (.cons rfl (.cons rfl (.nil))))
  refine SC.skip ?_
  refine SX.seq ?_
  refine SC.seq ?_
  refine SC.region' ?_
  refine KT.pv 38 (.int .i64 x12.2) ?_
  refine KT.pv 4 (.int .i64 x12.2) ?_
  refine KT.nil ?_
  refine SX.seq ?_
  refine SC.ret ?_
  refine SX.ret [.tmp 4] rfl ?_
  refine RS.tmp (.int .i64 x12.2) rfl ?_
  exact RS.nil rfl

set_option maxRecDepth 100000 in
theorem law02_great_sim (p0_disks : Int) (p1_sectors : Int) (p2_calls : Slc) (Qf : Bool → World → Prop) (w : World) (hm : law02_great p0_disks p1_sectors p2_calls Qf w) : Calls Try.prog 53 #[(.int .i64 p0_disks), (.int .i64 p1_sectors), (.slice p2_calls.base p2_calls.len p2_calls.cap)] w (RetPost Value.bool Qf) := by
  refine calls_of (fn := Try.f53) (l := [(.int .i64 p0_disks), (.int .i64 p1_sectors), (.slice p2_calls.base p2_calls.len p2_calls.cap)]) (m := law02_great p0_disks p1_sectors p2_calls) 47 (by kernel_rfl) rfl rfl rfl (fun Qf0 => ?_) Qf w hm
  clear hm w Qf
  unfold law02_great
  refine SC.seq ?_
  refine SC.region' ?_
  refine KT.pv 6 (.bool false) ?_
  refine KT.nil ?_
  refine SX.seq ?_
  refine SC.seq ?_
  refine SC.seq ?_
  refine SC.region' ?_
  refine KT.pv 9 (.slice p2_calls.base p2_calls.len p2_calls.cap) ?_
  refine KT.pv 10 (.int .i64 ((p2_calls.len : Nat) : Int)) ?_
  refine KT.pv 11 (.bool (decide (((p2_calls.len : Nat) : Int) > 200))) ?_
  refine KT.pv 12 (.bool (decide (((p2_calls.len : Nat) : Int) > 200))) ?_
  refine KT.joinO (β := Bool) 3 (fun r1 => [(15, (.bool r1)), (1, (.int .i64 p1_sectors)), (2, (.slice p2_calls.base p2_calls.len p2_calls.cap))]) (fun r1 => ?_) (fun j1 => ?_)
  refine KT.pv 16 (.bool r1) ?_
  refine KT.joinO (β := Bool) 7 (fun r2 => [(23, (.bool r2)), (2, (.slice p2_calls.base p2_calls.len p2_calls.cap))]) (fun r2 => ?_) (fun j2 => ?_)
  refine KT.nil ?_
  refine SX.seq ?_
  refine SC.cond (b := r2) rfl ?_ ?_
  refine SC.seq ?_
  refine SC.region' ?_
  refine KT.pv 6 (.bool true) ?_
  refine KT.nil ?_
  refine SX.seq ?_
  refine SC.ret ?_
  refine SX.then_ret ?_
  refine SX.ret [.tmp 6] rfl ?_
  refine RS.tmp (.bool true) rfl ?_
  exact RS.nil rfl
  refine SC.skip ?_
  refine SX.seq ?_
  refine SC.seq ?_
  refine SC.region' ?_
  refine KT.pv 7 (.int .i64 0) ?_
  refine KT.nil ?_
  refine SX.seq ?_
  refine SC.seq ?_
  refine SC.seq ?_
  refine SC.region' ?_
  refine KT.pv 8 (.int .i64 0) ?_
  refine KT.nil ?_
  refine SX.seq ?_
  refine SC.block ?_
  refine SC.loop (σ := (Int × Int)) (fun s3 => [(2, (.slice p2_calls.base p2_calls.len p2_calls.cap)), (7, (.int .i64 s3.1)), (8, (.int .i64 s3.2))]) (.cons rfl (.cons rfl (.cons rfl (.nil)))) (fun _ _ _ s3 => ?_)
  refine SC.seq ?_
  refine SC.seq ?_
  refine SC.region' ?_
  refine KT.pv 24 (.int .i64 s3.2) ?_
  refine KT.pv 25 (.slice p2_calls.base p2_calls.len p2_calls.cap) ?_
  refine KT.pv 26 (.int .i64 ((p2_calls.len : Nat) : Int)) ?_
  refine KT.pv 27 (.bool (decide (s3.2 < ((p2_calls.len : Nat) : Int)))) ?_
  refine KT.nil ?_
  refine SX.seq ?_
  refine SC.cond (b := decide (s3.2 < ((p2_calls.len : Nat) : Int))) rfl ?_ ?_
  refine SC.skip ?_
  refine SX.seq ?_
  refine SC.seq ?_
  refine SC.block ?_
  refine SC.seq ?_
  refine SC.draw 16 (fun _ => false) rfl (by kernel_rfl) (fun S4 => ?_)
  refine KT.pvA 0 30 (.int .i64 s3.1) ?_
  refine KT.pvA 1 31 (.slice p2_calls.base p2_calls.len p2_calls.cap) ?_
  refine KT.pvA 2 32 (.int .i64 s3.2) ?_
  refine KT.tp 3 (OY.idx (d := 33) (s := p2_calls) (i := s3.2) (size := 5) (elem := 92) _ _ _ rfl rfl rfl (by kernel_rfl) (by kernel_rfl) rfl rfl (fun x33 => ?_))
  refine KT.pvA 4 34 (.pointer (some (Addr.add x33 3))) ?_
  refine KT.tk 5 (OY.ldI (d := 35) _ _ rfl rfl (by kernel_rfl) rfl rfl (fun x35 => ?_))
  refine KT.pvA 6 36 (.int .i64 ((x35.len : Nat) : Int)) ?_
  refine KT.pvA 7 37 (.slice p2_calls.base p2_calls.len p2_calls.cap) ?_
  refine KT.pvA 8 38 (.int .i64 s3.2) ?_
  refine KT.tp 9 (OY.idx (d := 39) (s := p2_calls) (i := s3.2) (size := 5) (elem := 92) _ _ _ rfl rfl rfl (by kernel_rfl) (by kernel_rfl) rfl rfl (fun x39 => ?_))
  refine KT.pvA 10 40 (.pointer (some (Addr.add x39 4))) ?_
  refine KT.tk 11 (OY.ldI (d := 41) _ _ rfl rfl (by kernel_rfl) rfl rfl (fun x41 => ?_))
  refine KT.pvA 12 42 (.int .i64 ((x41.len : Nat) : Int)) ?_
  refine KT.pvA 13 43 (.int .i64 (w64 (((x35.len : Nat) : Int) + ((x41.len : Nat) : Int)))) ?_
  refine KT.pvA 14 44 (.int .i64 (w64 (s3.1 + (w64 (((x35.len : Nat) : Int) + ((x41.len : Nat) : Int)))))) ?_
  refine KT.pvA 15 7 (.int .i64 (w64 (s3.1 + (w64 (((x35.len : Nat) : Int) + ((x41.len : Nat) : Int)))))) ?_
  refine KT.doneA (by kernel_rfl) ?_
  refine SX.seq ?_
  refine SC.seq ?_
  refine SC.region' ?_
  refine KT.pv 45 (.int .i64 (w64 (s3.1 + (w64 (((x35.len : Nat) : Int) + ((x41.len : Nat) : Int)))))) ?_
  refine KT.pv 46 (.bool (decide ((w64 (s3.1 + (w64 (((x35.len : Nat) : Int) + ((x41.len : Nat) : Int))))) > 20000))) ?_
  refine KT.nil ?_
  refine SX.seq ?_
  refine SC.cond (b := decide ((w64 (s3.1 + (w64 (((x35.len : Nat) : Int) + ((x41.len : Nat) : Int))))) > 20000)) rfl ?_ ?_
  refine SC.seq ?_
  refine SC.region' ?_
  refine KT.pv 6 (.bool true) ?_
  refine KT.nil ?_
  refine SX.seq ?_
  refine SC.ret ?_
  refine SX.block_ret ?_
  refine SX.then_ret ?_
  refine SX.loop_ret ?_
  refine SX.block_ret ?_
  refine SX.then_ret ?_
  refine SX.ret [.tmp 6] rfl ?_
  refine RS.tmp (.bool true) rfl ?_
  exact RS.nil rfl
  refine SC.skip ?_
  refine SX.block ?_
  refine SX.seq ?_
  refine SC.region' ?_
  refine KT.pv 28 (.int .i64 s3.2) ?_
  refine KT.pv 29 (.int .i64 (w64 (s3.2 + 1))) ?_
  refine KT.pv 8 (.int .i64 (w64 (s3.2 + 1))) ?_
  refine KT.nil ?_
  exact SX.loop_next (.cons rfl (.cons rfl (.cons rfl (.nil))))
  refine SC.exit ?_
  refine SX.then_exit ?_
  refine SX.loop_exit ?_
  refine SX.block_hit ?_
  refine SX.seq ?_
  refine SC.seq ?_
  refine SC.region' ?_
  refine KT.pv 6 (.bool false) ?_
  refine KT.nil ?_
  refine SX.seq ?_
  refine SC.ret ?_
  refine SX.ret [.tmp 6] rfl ?_
  refine RS.tmp (.bool false) rfl ?_
  exact RS.nil rfl
  refine KT.ite (b := r1) 16 rfl ?_ ?_
  refine KT.sk ?_
  refine KT.sk ?_
  refine KT.sk ?_
  refine KT.sk ?_
  refine KT.sk ?_
  refine KT.sk ?_
  refine KT.pv 23 (.bool true) ?_
  exact KT.leafO j2 (.cons rfl (.cons rfl (.nil)))
  refine KT.pv 17 (.int .i64 p1_sectors) ?_
  refine KT.pv 18 (.bool (decide (p1_sectors > 100))) ?_
  refine KT.pv 19 (.bool (decide (p1_sectors > 100))) ?_
  refine KT.joinO (β := Bool) 3 (fun r5 => [(22, (.bool r5)), (2, (.slice p2_calls.base p2_calls.len p2_calls.cap)), (16, (.bool false))]) (fun r5 => ?_) (fun j5 => ?_)
  refine KT.pv 23 (.bool r5) ?_
  exact KT.leafO j2 (.cons rfl (.cons rfl (.nil)))
  refine KT.ite (b := decide (p1_sectors > 100)) 19 rfl ?_ ?_
  refine KT.pv 20 (.int .i64 p1_sectors) ?_
  refine KT.pv 21 (.bool (decide (p1_sectors ≤ 4096))) ?_
  refine KT.pv 22 (.bool (decide (p1_sectors ≤ 4096))) ?_
  exact KT.leafO j5 (.cons rfl (.cons rfl (.cons rfl (.nil))))
  refine KT.sk ?_
  refine KT.sk ?_
  refine KT.pv 22 (.bool false) ?_
  exact KT.leafO j5 (.cons rfl (.cons rfl (.cons rfl (.nil))))
  refine KT.ite (b := decide (((p2_calls.len : Nat) : Int) > 200)) 12 rfl ?_ ?_
  refine KT.sk ?_
  refine KT.sk ?_
  refine KT.pv 15 (.bool true) ?_
  exact KT.leafO j1 (.cons rfl (.cons rfl (.cons rfl (.nil))))
  refine KT.pv 13 (.int .i64 p0_disks) ?_
  refine KT.pv 14 (.bool (decide (p0_disks > 20))) ?_
  refine KT.pv 15 (.bool (decide (p0_disks > 20))) ?_
  exact KT.leafO j1 (.cons rfl (.cons rfl (.cons rfl (.nil))))

set_option maxRecDepth 100000 in
theorem device_Rack_Failed_sim (p0_r : (Option Addr)) (p1_disk : Int) (Qf : Bool → World → Prop) (w : World) (hm : device_Rack_Failed p0_r p1_disk Qf w) : Calls Try.prog 54 #[(.pointer p0_r), (.int .i64 p1_disk)] w (RetPost Value.bool Qf) := by
  refine calls_of (fn := Try.f54) (l := [(.pointer p0_r), (.int .i64 p1_disk)]) (m := device_Rack_Failed p0_r p1_disk) 28 (by kernel_rfl) rfl rfl rfl (fun Qf0 => ?_) Qf w hm
  clear hm w Qf
  unfold device_Rack_Failed
  refine SC.seq ?_
  refine SC.region' ?_
  refine KT.pv 4 (.bool false) ?_
  refine KT.nil ?_
  refine SX.seq ?_
  refine SC.seq ?_
  refine SC.region' ?_
  refine KT.pv 5 (.int .i64 p1_disk) ?_
  refine KT.pv 6 (.bool (decide (p1_disk ≥ 0))) ?_
  refine KT.pv 7 (.bool (decide (p1_disk ≥ 0))) ?_
  refine KT.joinO (β := Bool) 8 (fun r1 => [(15, (.bool r1)), (0, (.pointer p0_r)), (1, (.int .i64 p1_disk))]) (fun r1 => ?_) (fun j1 => ?_)
  refine KT.pv 16 (.bool r1) ?_
  refine KT.joinO (β := Bool) 11 (fun r2 => [(27, (.bool r2))]) (fun r2 => ?_) (fun j2 => ?_)
  refine KT.pv 4 (.bool r2) ?_
  refine KT.nil ?_
  refine SX.seq ?_
  refine SC.ret ?_
  refine SX.ret [.tmp 4] rfl ?_
  refine RS.tmp (.bool r2) rfl ?_
  exact RS.nil rfl
  refine KT.ite (b := r1) 16 rfl ?_ ?_
  refine KT.pv 17 (.pointer p0_r) ?_
  refine KT.nm 18 (fun x18 => ?_)
  refine KT.pv 19 (.pointer (some x18)) ?_
  refine KT.l 20 (fun x20 => ?_)
  refine KT.pv 21 (.int .i64 p1_disk) ?_
  refine KT.oy rfl (OY.idx (d := 22) (s := x20) (i := p1_disk) (size := 1) (elem := 111) _ _ _ rfl rfl rfl (by kernel_rfl) (by kernel_rfl) rfl rfl (fun x22 => ?_))
  refine KT.l 23 (fun x23 => ?_)
  refine KT.nm 24 (fun x24 => ?_)
  refine KT.pv 25 (.pointer (some (Addr.add x24 2))) ?_
  refine KT.l 26 (fun x26 => ?_)
  refine KT.pv 27 (.bool x26) ?_
  exact KT.leafO j2 (.cons rfl (.nil))
  refine KT.sk ?_
  refine KT.sk ?_
  refine KT.sk ?_
  refine KT.sk ?_
  refine KT.sk ?_
  refine KT.sk ?_
  refine KT.sk ?_
  refine KT.sk ?_
  refine KT.sk ?_
  refine KT.sk ?_
  refine KT.pv 27 (.bool false) ?_
  exact KT.leafO j2 (.cons rfl (.nil))
  refine KT.ite (b := decide (p1_disk ≥ 0)) 7 rfl ?_ ?_
  refine KT.pv 8 (.int .i64 p1_disk) ?_
  refine KT.pv 9 (.pointer p0_r) ?_
  refine KT.nm 10 (fun x10 => ?_)
  refine KT.pv 11 (.pointer (some x10)) ?_
  refine KT.l 12 (fun x12 => ?_)
  refine KT.pv 13 (.int .i64 ((x12.len : Nat) : Int)) ?_
  refine KT.pv 14 (.bool (decide (p1_disk < ((x12.len : Nat) : Int)))) ?_
  refine KT.pv 15 (.bool (decide (p1_disk < ((x12.len : Nat) : Int)))) ?_
  exact KT.leafO j1 (.cons rfl (.cons rfl (.cons rfl (.nil))))
  refine KT.sk ?_
  refine KT.sk ?_
  refine KT.sk ?_
  refine KT.sk ?_
  refine KT.sk ?_
  refine KT.sk ?_
  refine KT.sk ?_
  refine KT.pv 15 (.bool false) ?_
  exact KT.leafO j1 (.cons rfl (.cons rfl (.cons rfl (.nil))))

set_option maxRecDepth 100000 in
theorem ref00_SameBytes_sim (p0_a : Slc) (p1_b : Slc) (Qf : Bool → World → Prop) (w : World) (hm : ref00_SameBytes p0_a p1_b Qf w) : Calls Try.prog 30 #[(.slice p0_a.base p0_a.len p0_a.cap), (.slice p1_b.base p1_b.len p1_b.cap)] w (RetPost Value.bool Qf) := by
  refine calls_of (fn := Try.f30) (l := [(.slice p0_a.base p0_a.len p0_a.cap), (.slice p1_b.base p1_b.len p1_b.cap)]) (m := ref00_SameBytes p0_a p1_b) 26 (by kernel_rfl) rfl rfl rfl (fun Qf0 => ?_) Qf w hm
  clear hm w Qf
  unfold ref00_SameBytes
  refine SC.seq ?_
  refine SC.region' ?_
  refine KT.pv 4 (.bool false) ?_
  refine KT.nil ?_
  refine SX.seq ?_
  refine SC.seq ?_
  refine SC.seq ?_
  refine SC.region' ?_
  refine KT.pv 6 (.slice p0_a.base p0_a.len p0_a.cap) ?_
  refine KT.pv 7 (.int .i64 ((p0_a.len : Nat) : Int)) ?_
  refine KT.pv 8 (.slice p1_b.base p1_b.len p1_b.cap) ?_
  refine KT.pv 9 (.int .i64 ((p1_b.len : Nat) : Int)) ?_
  refine KT.pv 10 (.bool (((p0_a.len : Nat) : Int) != ((p1_b.len : Nat) : Int))) ?_
  refine KT.nil ?_
  refine SX.seq ?_
  refine SC.cond (b := ((p0_a.len : Nat) : Int) != ((p1_b.len : Nat) : Int)) rfl ?_ ?_
  refine SC.seq ?_
  refine SC.region' ?_
  refine KT.pv 4 (.bool false) ?_
  refine KT.nil ?_
  refine SX.seq ?_
  refine SC.ret ?_
  refine SX.then_ret ?_
  refine SX.ret [.tmp 4] rfl ?_
  refine RS.tmp (.bool false) rfl ?_
  exact RS.nil rfl
  refine SC.skip ?_
  refine SX.seq ?_
  refine SC.seq ?_
  refine SC.seq ?_
  refine SC.region' ?_
  refine KT.pv 5 (.int .i64 0) ?_
  refine KT.nil ?_
  refine SX.seq ?_
  refine SC.block ?_
  refine SC.loop (σ := (Int)) (fun s1 => [(0, (.slice p0_a.base p0_a.len p0_a.cap)), (1, (.slice p1_b.base p1_b.len p1_b.cap)), (5, (.int .i64 s1))]) (.cons rfl (.cons rfl (.cons rfl (.nil)))) (fun _ _ _ s1 => ?_)
  refine SC.seq ?_
  refine SC.seq ?_
  refine SC.region' ?_
  refine KT.pv 11 (.int .i64 s1) ?_
  refine KT.pv 12 (.slice p0_a.base p0_a.len p0_a.cap) ?_
  refine KT.pv 13 (.int .i64 ((p0_a.len : Nat) : Int)) ?_
  refine KT.pv 14 (.bool (decide (s1 < ((p0_a.len : Nat) : Int)))) ?_
  refine KT.nil ?_
  refine SX.seq ?_
  refine SC.cond (b := decide (s1 < ((p0_a.len : Nat) : Int))) rfl ?_ ?_
  refine SC.skip ?_
  refine SX.seq ?_
  refine SC.seq ?_
  refine SC.block ?_
  refine SC.seq ?_
  refine SC.draw 9 (fun _ => false) rfl (by kernel_rfl) (fun S2 => ?_)
  refine KT.pvA 0 17 (.slice p0_a.base p0_a.len p0_a.cap) ?_
  refine KT.pvA 1 18 (.int .i64 s1) ?_
  refine KT.tp 2 (OY.idx (d := 19) (s := p0_a) (i := s1) (size := 1) (elem := 5) _ _ _ rfl rfl rfl (by kernel_rfl) (by kernel_rfl) rfl rfl (fun x19 => ?_))
  refine KT.tk 3 (OY.ldI (d := 20) _ _ rfl rfl (by kernel_rfl) rfl rfl (fun x20 => ?_))
  refine KT.pvA 4 21 (.slice p1_b.base p1_b.len p1_b.cap) ?_
  refine KT.pvA 5 22 (.int .i64 s1) ?_
  refine KT.tp 6 (OY.idx (d := 23) (s := p1_b) (i := s1) (size := 1) (elem := 5) _ _ _ rfl rfl rfl (by kernel_rfl) (by kernel_rfl) rfl rfl (fun x23 => ?_))
  refine KT.tk 7 (OY.ldI (d := 24) _ _ rfl rfl (by kernel_rfl) rfl rfl (fun x24 => ?_))
  refine KT.pvA 8 25 (.bool (x20 != x24)) ?_
  refine KT.doneA (by kernel_rfl) ?_
  refine SX.seq ?_
  refine SC.cond (b := x20 != x24) rfl ?_ ?_
  refine SC.seq ?_
  refine SC.region' ?_
  refine KT.pv 4 (.bool false) ?_
  refine KT.nil ?_
  refine SX.seq ?_
  refine SC.ret ?_
  refine SX.block_ret ?_
  refine SX.then_ret ?_
  refine SX.loop_ret ?_
  refine SX.block_ret ?_
  refine SX.then_ret ?_
  refine SX.ret [.tmp 4] rfl ?_
  refine RS.tmp (.bool false) rfl ?_
  exact RS.nil rfl
  refine SC.skip ?_
  refine SX.block ?_
  refine SX.seq ?_
  refine SC.region' ?_
  refine KT.pv 15 (.int .i64 s1) ?_
  refine KT.pv 16 (.int .i64 (w64 (s1 + 1))) ?_
  refine KT.pv 5 (.int .i64 (w64 (s1 + 1))) ?_
  refine KT.nil ?_
  exact SX.loop_next (.cons rfl (.cons rfl (.cons rfl (.nil))))
  refine SC.exit ?_
  refine SX.then_exit ?_
  refine SX.loop_exit ?_
  refine SX.block_hit ?_
  refine SX.seq ?_
  refine SC.seq ?_
  refine SC.region' ?_
  refine KT.pv 4 (.bool true) ?_
  refine KT.nil ?_
  refine SX.seq ?_
  refine SC.ret ?_
  refine SX.ret [.tmp 4] rfl ?_
  refine RS.tmp (.bool true) rfl ?_
  exact RS.nil rfl

set_option maxRecDepth 100000 in
theorem device_Rack_Load_sim (p0_r : (Option Addr)) (p1_disk : Int) (p2_image : Slc) (Qf : Int → World → Prop) (w : World) (hm : device_Rack_Load p0_r p1_disk p2_image Qf w) : Calls Try.prog 44 #[(.pointer p0_r), (.int .i64 p1_disk), (.slice p2_image.base p2_image.len p2_image.cap)] w (RetPost (Value.int .i64) Qf) := by
  refine calls_of (fn := Try.f44) (l := [(.pointer p0_r), (.int .i64 p1_disk), (.slice p2_image.base p2_image.len p2_image.cap)]) (m := device_Rack_Load p0_r p1_disk p2_image) 58 (by kernel_rfl) rfl rfl rfl (fun Qf0 => ?_) Qf w hm
  clear hm w Qf
  unfold device_Rack_Load
  refine SC.seq ?_
  refine SC.region' ?_
  refine KT.pv 6 (.int .i64 0) ?_
  refine KT.nil ?_
  refine SX.seq ?_
  refine SC.seq ?_
  refine SC.seq ?_
  refine SC.region' ?_
  refine KT.pv 10 (.int .i64 p1_disk) ?_
  refine KT.pv 11 (.bool (decide (p1_disk < 0))) ?_
  refine KT.pv 12 (.bool (decide (p1_disk < 0))) ?_
  refine KT.joinO (β := Bool) 8 (fun r1 => [(20, (.bool r1)), (0, (.pointer p0_r)), (1, (.int .i64 p1_disk)), (2, (.slice p2_image.base p2_image.len p2_image.cap))]) (fun r1 => ?_) (fun j1 => ?_)
  refine KT.nil ?_
  refine SX.seq ?_
  refine SC.cond (b := r1) rfl ?_ ?_
  refine SC.seq ?_
  refine SC.region' ?_
  refine KT.pv 6 (.int .i64 11) ?_
  refine KT.nil ?_
  refine SX.seq ?_
  refine SC.ret ?_
  refine SX.then_ret ?_
  refine SX.ret [.tmp 6] rfl ?_
  refine RS.tmp (.int .i64 11) rfl ?_
  exact RS.nil rfl
  refine SC.skip ?_
  refine SX.seq ?_
  refine SC.seq ?_
  refine SC.region' ?_
  refine KT.pv 21 (.pointer p0_r) ?_
  refine KT.nm 22 (fun x22 => ?_)
  refine KT.pv 23 (.pointer (some x22)) ?_
  refine KT.l 24 (fun x24 => ?_)
  refine KT.pv 25 (.int .i64 p1_disk) ?_
  refine KT.oy rfl (OY.idx (d := 26) (s := x24) (i := p1_disk) (size := 1) (elem := 111) _ _ _ rfl rfl rfl (by kernel_rfl) (by kernel_rfl) rfl rfl (fun x26 => ?_))
  refine KT.l 27 (fun x27 => ?_)
  refine KT.pv 7 (.pointer x27) ?_
  refine KT.nil ?_
  refine SX.seq ?_
  refine SC.seq ?_
  refine SC.region' ?_
  refine KT.pv 28 (.pointer x27) ?_
  refine KT.nm 29 (fun x29 => ?_)
  refine KT.pv 30 (.pointer (some (Addr.add x29 1))) ?_
  refine KT.l 31 (fun x31 => ?_)
  refine KT.ow rfl (OW.clearMap0 _ _ 3 46 rfl rfl (by kernel_rfl) rfl ?_)
  refine KT.nil ?_
  refine SX.seq ?_
  refine SC.seq ?_
  refine SC.seq ?_
  refine SC.region' ?_
  refine KT.pv 32 (.pointer x27) ?_
  refine KT.nm 33 (fun x33 => ?_)
  refine KT.pv 34 (.pointer (some x33)) ?_
  refine KT.l 35 (fun x35 => ?_)
  refine KT.pv 36 (.int .i64 ((x35.len : Nat) : Int)) ?_
  refine KT.pv 37 (.int .i64 0) ?_
  refine KT.nil ?_
  refine SX.seq ?_
  refine SC.block ?_
  refine SC.loop (σ := (Int)) (fun s2 => [(2, (.slice p2_image.base p2_image.len p2_image.cap)), (7, (.pointer x27)), (36, (.int .i64 ((x35.len : Nat) : Int))), (37, (.int .i64 s2))]) (.cons rfl (.cons rfl (.cons rfl (.cons rfl (.nil))))) (fun _ _ _ s2 => ?_)
  refine SC.seq ?_
  refine SC.region' ?_
  refine KT.pv 38 (.bool (decide (s2 < ((x35.len : Nat) : Int)))) ?_
  refine KT.nil ?_
  refine SX.seq ?_
  refine SC.seq ?_
  refine SC.cond (b := decide (s2 < ((x35.len : Nat) : Int))) rfl ?_ ?_
  refine SC.skip ?_
  refine SX.seq ?_
  refine SC.seq ?_
  refine SC.block ?_
  refine SC.seq ?_
  refine SC.region' ?_
  refine KT.pv 39 (.int .i64 s2) ?_
  refine KT.pv 8 (.int .i64 s2) ?_
  refine KT.nil ?_
  refine SX.seq ?_
  refine SC.seq ?_
  refine SC.region' ?_
  refine KT.nw 40 (fun ad => .slice (some ad) 64 64) 5 (fun x40 => ?_)
  refine KT.pv 9 (.slice (some x40) 64 64) ?_
  refine KT.nil ?_
  refine SX.seq ?_
  refine SC.seq ?_
  refine SC.region' ?_
  refine KT.pv 41 (.slice (some x40) 64 64) ?_
  refine KT.pv 42 (.slice p2_image.base p2_image.len p2_image.cap) ?_
  refine KT.pv 43 (.int .i64 s2) ?_
  refine KT.pv 44 (.int .i64 (w64 (s2 * 64))) ?_
  refine KT.pv 45 (.slice p2_image.base p2_image.len p2_image.cap) ?_
  refine KT.pv 46 (.int .i64 ((p2_image.len : Nat) : Int)) ?_
  refine KT.pv 47 (.int .i64 (minI (w64 (s2 * 64)) ((p2_image.len : Nat) : Int))) ?_
  refine KT.oy rfl (OY.slice10 (d := 48) (s := p2_image) (lo := minI (w64 (s2 * 64)) ((p2_image.len : Nat) : Int)) (size := 1) (elem := 5) _ _ _ rfl rfl rfl (by kernel_rfl) (by kernel_rfl) rfl rfl (fun x48 => ?_))
  refine KT.ow rfl (OW.copy (d := 49) (s := ⟨some x40, 64, 64⟩) (x := x48) 1 5 _ _ _ _ rfl rfl rfl rfl (by kernel_rfl) (by kernel_rfl) rfl rfl (fun x49 => ?_))
  refine KT.nil ?_
  refine SX.seq ?_
  refine SC.region' ?_
  refine KT.pv 50 (.pointer x27) ?_
  refine KT.nm 51 (fun x51 => ?_)
  refine KT.pv 52 (.pointer (some x51)) ?_
  refine KT.l 53 (fun x53 => ?_)
  refine KT.pv 54 (.int .i64 s2) ?_
  refine KT.pv 55 (.slice (some x40) 64 64) ?_
  refine KT.oy rfl (OY.idx (d := 56) (s := x53) (i := s2) (size := 1) (elem := 46) _ _ _ rfl rfl rfl (by kernel_rfl) (by kernel_rfl) rfl rfl (fun x56 => ?_))
  refine KT.s ?_
  refine KT.nil ?_
  refine SX.block ?_
  refine SX.seq ?_
  refine SC.region' ?_
  refine KT.pv 57 (.int .i64 (w64 (s2 + 1))) ?_
  refine KT.pv 37 (.int .i64 (w64 (s2 + 1))) ?_
  refine KT.nil ?_
  exact SX.loop_next (.cons rfl (.cons rfl (.cons rfl (.cons rfl (.nil)))))
  refine SC.exit ?_
  refine SX.then_exit ?_
  refine SX.loop_exit ?_
  refine SX.block_hit ?_
  refine SX.seq ?_
  refine SC.seq ?_
  refine SC.region' ?_
  refine KT.pv 6 (.int .i64 0) ?_
  refine KT.nil ?_
  refine SX.seq ?_
  refine SC.ret ?_
  refine SX.ret [.tmp 6] rfl ?_
  refine RS.tmp (.int .i64 0) rfl ?_
  exact RS.nil rfl
  refine KT.ite (b := decide (p1_disk < 0)) 12 rfl ?_ ?_
  refine KT.sk ?_
  refine KT.sk ?_
  refine KT.sk ?_
  refine KT.sk ?_
  refine KT.sk ?_
  refine KT.sk ?_
  refine KT.sk ?_
  refine KT.pv 20 (.bool true) ?_
  exact KT.leafO j1 (.cons rfl (.cons rfl (.cons rfl (.cons rfl (.nil)))))
  refine KT.pv 13 (.int .i64 p1_disk) ?_
  refine KT.pv 14 (.pointer p0_r) ?_
  refine KT.nm 15 (fun x15 => ?_)
  refine KT.pv 16 (.pointer (some x15)) ?_
  refine KT.l 17 (fun x17 => ?_)
  refine KT.pv 18 (.int .i64 ((x17.len : Nat) : Int)) ?_
  refine KT.pv 19 (.bool (decide (p1_disk ≥ ((x17.len : Nat) : Int)))) ?_
  refine KT.pv 20 (.bool (decide (p1_disk ≥ ((x17.len : Nat) : Int)))) ?_
  exact KT.leafO j1 (.cons rfl (.cons rfl (.cons rfl (.cons rfl (.nil)))))

set_option maxRecDepth 100000 in
theorem ref02_Rack_Failed_sim (p0_r : (Option Addr)) (p1_disk : Int) (Qf : Bool → World → Prop) (w : World) (hm : ref02_Rack_Failed p0_r p1_disk Qf w) : Calls Try.prog 58 #[(.pointer p0_r), (.int .i64 p1_disk)] w (RetPost Value.bool Qf) := by
  refine calls_of (fn := Try.f58) (l := [(.pointer p0_r), (.int .i64 p1_disk)]) (m := ref02_Rack_Failed p0_r p1_disk) 24 (by kernel_rfl) rfl rfl rfl (fun Qf0 => ?_) Qf w hm
  clear hm w Qf
  unfold ref02_Rack_Failed
  refine SC.seq ?_
  refine SC.region' ?_
  refine KT.pv 4 (.bool false) ?_
  refine KT.nil ?_
  refine SX.seq ?_
  refine SC.seq ?_
  refine SC.region' ?_
  refine KT.pv 5 (.int .i64 p1_disk) ?_
  refine KT.pv 6 (.bool (decide (p1_disk ≥ 0))) ?_
  refine KT.pv 7 (.bool (decide (p1_disk ≥ 0))) ?_
  refine KT.joinO (β := Bool) 7 (fun r1 => [(14, (.bool r1)), (0, (.pointer p0_r)), (1, (.int .i64 p1_disk))]) (fun r1 => ?_) (fun j1 => ?_)
  refine KT.pv 15 (.bool r1) ?_
  refine KT.joinO (β := Bool) 8 (fun r2 => [(23, (.bool r2))]) (fun r2 => ?_) (fun j2 => ?_)
  refine KT.pv 4 (.bool r2) ?_
  refine KT.nil ?_
  refine SX.seq ?_
  refine SC.ret ?_
  refine SX.ret [.tmp 4] rfl ?_
  refine RS.tmp (.bool r2) rfl ?_
  exact RS.nil rfl
  refine KT.ite (b := r1) 15 rfl ?_ ?_
  refine KT.pv 16 (.pointer p0_r) ?_
  refine KT.nm 17 (fun x17 => ?_)
  refine KT.pv 18 (.pointer (some (Addr.add x17 4))) ?_
  refine KT.l 19 (fun x19 => ?_)
  refine KT.pv 20 (.int .i64 p1_disk) ?_
  refine KT.oy rfl (OY.idx (d := 21) (s := x19) (i := p1_disk) (size := 1) (elem := 4) _ _ _ rfl rfl rfl (by kernel_rfl) (by kernel_rfl) rfl rfl (fun x21 => ?_))
  refine KT.l 22 (fun x22 => ?_)
  refine KT.pv 23 (.bool x22) ?_
  exact KT.leafO j2 (.cons rfl (.nil))
  refine KT.sk ?_
  refine KT.sk ?_
  refine KT.sk ?_
  refine KT.sk ?_
  refine KT.sk ?_
  refine KT.sk ?_
  refine KT.sk ?_
  refine KT.pv 23 (.bool false) ?_
  exact KT.leafO j2 (.cons rfl (.nil))
  refine KT.ite (b := decide (p1_disk ≥ 0)) 7 rfl ?_ ?_
  refine KT.pv 8 (.int .i64 p1_disk) ?_
  refine KT.pv 9 (.pointer p0_r) ?_
  refine KT.nm 10 (fun x10 => ?_)
  refine KT.pv 11 (.pointer (some x10)) ?_
  refine KT.l 12 (fun x12 => ?_)
  refine KT.pv 13 (.bool (decide (p1_disk < x12))) ?_
  refine KT.pv 14 (.bool (decide (p1_disk < x12))) ?_
  exact KT.leafO j1 (.cons rfl (.cons rfl (.cons rfl (.nil))))
  refine KT.sk ?_
  refine KT.sk ?_
  refine KT.sk ?_
  refine KT.sk ?_
  refine KT.sk ?_
  refine KT.sk ?_
  refine KT.pv 14 (.bool false) ?_
  exact KT.leafO j1 (.cons rfl (.cons rfl (.cons rfl (.nil))))

set_option maxRecDepth 100000 in
theorem ref00_CopyBytes_sim (p0_b : Slc) (Qf : Slc → World → Prop) (w : World) (hm : ref00_CopyBytes p0_b Qf w) : Calls Try.prog 89 #[(.slice p0_b.base p0_b.len p0_b.cap)] w (RetPost vS Qf) := by
  refine calls_of (fn := Try.f89) (l := [(.slice p0_b.base p0_b.len p0_b.cap)]) (m := ref00_CopyBytes p0_b) 9 (by kernel_rfl) rfl rfl rfl (fun Qf0 => ?_) Qf w hm
  clear hm w Qf
  unfold ref00_CopyBytes
  refine SC.seq ?_
  refine SC.region' ?_
  refine KT.pv 2 (.slice none 0 0) ?_
  refine KT.nil ?_
  refine SX.seq ?_
  refine SC.seq ?_
  refine SC.region' ?_
  refine KT.nw 4 (fun ad => .slice (some ad) 0 0) 5 (fun x4 => ?_)
  refine KT.pv 3 (.slice (some x4) 0 0) ?_
  refine KT.nil ?_
  refine SX.seq ?_
  refine SC.seq ?_
  refine SC.region' ?_
  refine KT.pv 5 (.slice (some x4) 0 0) ?_
  refine KT.pv 6 (.slice p0_b.base p0_b.len p0_b.cap) ?_
  refine KT.ow rfl (OW.append (d := 7) (s := ⟨some x4, 0, 0⟩) (x := p0_b) [(.int .u8 0)] 1 5 _ _ _ _ rfl rfl rfl rfl (by kernel_rfl) (by kernel_rfl) rfl rfl rfl (fun x7 => ?_))
  refine KT.pv 3 (.slice x7.base x7.len x7.cap) ?_
  refine KT.nil ?_
  refine SX.seq ?_
  refine SC.seq ?_
  refine SC.region' ?_
  refine KT.pv 8 (.slice x7.base x7.len x7.cap) ?_
  refine KT.pv 2 (.slice x7.base x7.len x7.cap) ?_
  refine KT.nil ?_
  refine SX.seq ?_
  refine SC.ret ?_
  refine SX.ret [.tmp 2] rfl ?_
  refine RS.tmp (.slice x7.base x7.len x7.cap) rfl ?_
  exact RS.nil rfl

set_option maxRecDepth 100000 in
theorem ref02_Rack_there_sim (p0_r : (Option Addr)) (p1_disk : Int) (p2_sector : Int) (Qf : Bool → World → Prop) (w : World) (hm : ref02_Rack_there p0_r p1_disk p2_sector Qf w) : Calls Try.prog 97 #[(.pointer p0_r), (.int .i64 p1_disk), (.int .i64 p2_sector)] w (RetPost Value.bool Qf) := by
  refine calls_of (fn := Try.f97) (l := [(.pointer p0_r), (.int .i64 p1_disk), (.int .i64 p2_sector)]) (m := ref02_Rack_there p0_r p1_disk p2_sector) 29 (by kernel_rfl) rfl rfl rfl (fun Qf0 => ?_) Qf w hm
  clear hm w Qf
  unfold ref02_Rack_there
  refine SC.seq ?_
  refine SC.region' ?_
  refine KT.pv 6 (.bool false) ?_
  refine KT.nil ?_
  refine SX.seq ?_
  refine SC.seq ?_
  refine SC.region' ?_
  refine KT.pv 7 (.int .i64 p1_disk) ?_
  refine KT.pv 8 (.bool (decide (p1_disk ≥ 0))) ?_
  refine KT.pv 9 (.bool (decide (p1_disk ≥ 0))) ?_
  refine KT.joinO (β := Bool) 7 (fun r1 => [(16, (.bool r1)), (0, (.pointer p0_r)), (2, (.int .i64 p2_sector))]) (fun r1 => ?_) (fun j1 => ?_)
  refine KT.pv 17 (.bool r1) ?_
  refine KT.joinO (β := Bool) 3 (fun r2 => [(20, (.bool r2)), (0, (.pointer p0_r)), (2, (.int .i64 p2_sector))]) (fun r2 => ?_) (fun j2 => ?_)
  refine KT.pv 21 (.bool r2) ?_
  refine KT.joinO (β := Bool) 7 (fun r3 => [(28, (.bool r3))]) (fun r3 => ?_) (fun j3 => ?_)
  refine KT.pv 6 (.bool r3) ?_
  refine KT.nil ?_
  refine SX.seq ?_
  refine SC.ret ?_
  refine SX.ret [.tmp 6] rfl ?_
  refine RS.tmp (.bool r3) rfl ?_
  exact RS.nil rfl
  refine KT.ite (b := r2) 21 rfl ?_ ?_
  refine KT.pv 22 (.int .i64 p2_sector) ?_
  refine KT.pv 23 (.pointer p0_r) ?_
  refine KT.nm 24 (fun x24 => ?_)
  refine KT.pv 25 (.pointer (some (Addr.add x24 1))) ?_
  refine KT.l 26 (fun x26 => ?_)
  refine KT.pv 27 (.bool (decide (p2_sector < x26))) ?_
  refine KT.pv 28 (.bool (decide (p2_sector < x26))) ?_
  exact KT.leafO j3 (.cons rfl (.nil))
  refine KT.sk ?_
  refine KT.sk ?_
  refine KT.sk ?_
  refine KT.sk ?_
  refine KT.sk ?_
  refine KT.sk ?_
  refine KT.pv 28 (.bool false) ?_
  exact KT.leafO j3 (.cons rfl (.nil))
  refine KT.ite (b := r1) 17 rfl ?_ ?_
  refine KT.pv 18 (.int .i64 p2_sector) ?_
  refine KT.pv 19 (.bool (decide (p2_sector ≥ 0))) ?_
  refine KT.pv 20 (.bool (decide (p2_sector ≥ 0))) ?_
  exact KT.leafO j2 (.cons rfl (.cons rfl (.cons rfl (.nil))))
  refine KT.sk ?_
  refine KT.sk ?_
  refine KT.pv 20 (.bool false) ?_
  exact KT.leafO j2 (.cons rfl (.cons rfl (.cons rfl (.nil))))
  refine KT.ite (b := decide (p1_disk ≥ 0)) 9 rfl ?_ ?_
  refine KT.pv 10 (.int .i64 p1_disk) ?_
  refine KT.pv 11 (.pointer p0_r) ?_
  refine KT.nm 12 (fun x12 => ?_)
  refine KT.pv 13 (.pointer (some x12)) ?_
  refine KT.l 14 (fun x14 => ?_)
  refine KT.pv 15 (.bool (decide (p1_disk < x14))) ?_
  refine KT.pv 16 (.bool (decide (p1_disk < x14))) ?_
  exact KT.leafO j1 (.cons rfl (.cons rfl (.cons rfl (.nil))))
  refine KT.sk ?_
  refine KT.sk ?_
  refine KT.sk ?_
  refine KT.sk ?_
  refine KT.sk ?_
  refine KT.sk ?_
  refine KT.pv 16 (.bool false) ?_
  exact KT.leafO j1 (.cons rfl (.cons rfl (.cons rfl (.nil))))

set_option maxRecDepth 100000 in
theorem ref02_Rack_Lasting_sim (p0_r : (Option Addr)) (p1_disk : Int) (p2_sector : Int) (Qf : (Slc × Int) → World → Prop) (w : World) (hm : ref02_Rack_Lasting p0_r p1_disk p2_sector Qf w) : Calls Try.prog 59 #[(.pointer p0_r), (.int .i64 p1_disk), (.int .i64 p2_sector)] w (RetPost (fun y : (Slc × Int) => (.tuple #[(.slice y.1.base y.1.len y.1.cap), (.int .i64 y.2)])) Qf) := by
  refine calls_of (fn := Try.f59) (l := [(.pointer p0_r), (.int .i64 p1_disk), (.int .i64 p2_sector)]) (m := ref02_Rack_Lasting p0_r p1_disk p2_sector) 28 (by kernel_rfl) rfl rfl rfl (fun Qf0 => ?_) Qf w hm
  clear hm w Qf
  unfold ref02_Rack_Lasting
  refine SC.seq ?_
  refine SC.region' ?_
  refine KT.pv 6 (.slice none 0 0) ?_
  refine KT.pv 7 (.int .i64 0) ?_
  refine KT.nil ?_
  refine SX.seq ?_
  refine SC.seq ?_
  refine SC.seq ?_
  refine SC.region' ?_
  refine KT.pv 8 (.pointer p0_r) ?_
  refine KT.pv 9 (.int .i64 p1_disk) ?_
  refine KT.pv 10 (.int .i64 p2_sector) ?_
  refine KT.cl Value.bool 11 97 #[(.pointer p0_r), (.int .i64 p1_disk), (.int .i64 p2_sector)] (ref02_Rack_there_sim p0_r p1_disk p2_sector) (fun x11 => ?_)
  refine KT.pv 12 (.bool (!x11)) ?_
  refine KT.nil ?_
  refine SX.seq ?_
  refine SC.cond (b := !x11) rfl ?_ ?_
  refine SC.seq ?_
  refine SC.region' ?_
  refine KT.pv 6 (.slice none 0 0) ?_
  refine KT.pv 7 (.int .i64 11) ?_
  refine KT.nil ?_
  refine SX.seq ?_
  refine SC.ret ?_
  refine SX.then_ret ?_
  refine SX.ret [.tmp 6, .tmp 7] rfl ?_
  refine RS.tmp (.slice none 0 0) rfl ?_
  refine RS.tmp (.int .i64 11) rfl ?_
  exact RS.nil rfl
  refine SC.skip ?_
  refine SX.seq ?_
  refine SC.seq ?_
  refine SC.draw 17 (fun _ => false) rfl (by kernel_rfl) (fun S1 => ?_)
  refine KT.pvA 0 13 (.pointer p0_r) ?_
  refine KT.tp 1 (OY.nil (d := 14) (p := p0_r) _ rfl rfl rfl rfl (fun x14 => ?_))
  refine KT.pvA 2 15 (.pointer (some (Addr.add x14 2))) ?_
  refine KT.tk 3 (OY.ldI (d := 16) _ _ rfl rfl (by kernel_rfl) rfl rfl (fun x16 => ?_))
  refine KT.pvA 4 17 (.int .i64 p1_disk) ?_
  refine KT.pvA 5 18 (.pointer p0_r) ?_
  refine KT.tp 6 (OY.nil (d := 19) (p := p0_r) _ rfl rfl rfl rfl (fun x19 => ?_))
  refine KT.pvA 7 20 (.pointer (some (Addr.add x19 1))) ?_
  refine KT.tk 8 (OY.ldI (d := 21) _ _ rfl rfl (by kernel_rfl) rfl rfl (fun x21 => ?_))
  refine KT.pvA 9 22 (.int .i64 (w64 (p1_disk * x21))) ?_
  refine KT.pvA 10 23 (.int .i64 p2_sector) ?_
  refine KT.pvA 11 24 (.int .i64 (w64 ((w64 (p1_disk * x21)) + p2_sector))) ?_
  refine KT.tp 12 (OY.idx (d := 25) (s := x16) (i := w64 ((w64 (p1_disk * x21)) + p2_sector)) (size := 1) (elem := 46) _ _ _ rfl rfl rfl (by kernel_rfl) (by kernel_rfl) rfl rfl (fun x25 => ?_))
  refine KT.tk 13 (OY.ldI (d := 26) _ _ rfl rfl (by kernel_rfl) rfl rfl (fun x26 => ?_))
  refine KT.one 14 rfl (by kernel_rfl) rfl (OW.step (OW.call (d := 27) (enc := vS) 89 #[(.slice x26.base x26.len x26.cap)] rfl (fun _ => by kernel_rfl) (fun Qf w => ref00_CopyBytes_sim x26 Qf w) rfl rfl (fun x27 => ?_)))
  refine KT.and ?_
  refine KT.pvA 15 6 (.slice x27.base x27.len x27.cap) ?_
  refine KT.pvA 16 7 (.int .i64 0) ?_
  refine KT.doneA (by kernel_rfl) ?_
  refine SX.seq ?_
  refine SC.ret ?_
  refine SX.ret [.tmp 6, .tmp 7] rfl ?_
  refine RS.tmp (.slice x27.base x27.len x27.cap) rfl ?_
  refine RS.tmp (.int .i64 0) rfl ?_
  exact RS.nil rfl

set_option maxRecDepth 100000 in
theorem ref02_Rack_Read_sim (p0_r : (Option Addr)) (p1_disk : Int) (p2_sector : Int) (Qf : (Slc × Int) → World → Prop) (w : World) (hm : ref02_Rack_Read p0_r p1_disk p2_sector Qf w) : Calls Try.prog 88 #[(.pointer p0_r), (.int .i64 p1_disk), (.int .i64 p2_sector)] w (RetPost (fun y : (Slc × Int) => (.tuple #[(.slice y.1.base y.1.len y.1.cap), (.int .i64 y.2)])) Qf) := by
  refine calls_of (fn := Try.f88) (l := [(.pointer p0_r), (.int .i64 p1_disk), (.int .i64 p2_sector)]) (m := ref02_Rack_Read p0_r p1_disk p2_sector) 58 (by kernel_rfl) rfl rfl rfl (fun Qf0 => ?_) Qf w hm
  clear hm w Qf
  unfold ref02_Rack_Read
  refine SC.seq ?_
  refine SC.region' ?_
  refine KT.pv 6 (.slice none 0 0) ?_
  refine KT.pv 7 (.int .i64 0) ?_
  refine KT.nil ?_
  refine SX.seq ?_
  refine SC.seq ?_
  refine SC.seq ?_
  refine SC.region' ?_
  refine KT.pv 9 (.pointer p0_r) ?_
  refine KT.nm 10 (fun x10 => ?_)
  refine KT.pv 11 (.pointer (some (Addr.add x10 7))) ?_
  refine KT.l 12 (fun x12 => ?_)
  refine KT.nil ?_
  refine SX.seq ?_
  refine SC.cond (b := x12) rfl ?_ ?_
  refine SC.seq ?_
  refine SC.region' ?_
  refine KT.pv 6 (.slice none 0 0) ?_
  refine KT.pv 7 (.int .i64 12) ?_
  refine KT.nil ?_
  refine SX.seq ?_
  refine SC.ret ?_
  refine SX.then_ret ?_
  refine SX.ret [.tmp 6, .tmp 7] rfl ?_
  refine RS.tmp (.slice none 0 0) rfl ?_
  refine RS.tmp (.int .i64 12) rfl ?_
  exact RS.nil rfl
  refine SC.skip ?_
  refine SX.seq ?_
  refine SC.seq ?_
  refine SC.seq ?_
  refine SC.region' ?_
  refine KT.pv 13 (.pointer p0_r) ?_
  refine KT.pv 14 (.int .i64 p1_disk) ?_
  refine KT.pv 15 (.int .i64 p2_sector) ?_
  refine KT.cl Value.bool 16 97 #[(.pointer p0_r), (.int .i64 p1_disk), (.int .i64 p2_sector)] (ref02_Rack_there_sim p0_r p1_disk p2_sector) (fun x16 => ?_)
  refine KT.pv 17 (.bool (!x16)) ?_
  refine KT.nil ?_
  refine SX.seq ?_
  refine SC.cond (b := !x16) rfl ?_ ?_
  refine SC.seq ?_
  refine SC.region' ?_
  refine KT.pv 6 (.slice none 0 0) ?_
  refine KT.pv 7 (.int .i64 11) ?_
  refine KT.nil ?_
  refine SX.seq ?_
  refine SC.ret ?_
  refine SX.then_ret ?_
  refine SX.ret [.tmp 6, .tmp 7] rfl ?_
  refine RS.tmp (.slice none 0 0) rfl ?_
  refine RS.tmp (.int .i64 11) rfl ?_
  exact RS.nil rfl
  refine SC.skip ?_
  refine SX.seq ?_
  refine SC.seq ?_
  refine SC.seq ?_
  refine SC.region' ?_
  refine KT.pv 18 (.pointer p0_r) ?_
  refine KT.nm 19 (fun x19 => ?_)
  refine KT.pv 20 (.pointer (some (Addr.add x19 4))) ?_
  refine KT.l 21 (fun x21 => ?_)
  refine KT.pv 22 (.int .i64 p1_disk) ?_
  refine KT.oy rfl (OY.idx (d := 23) (s := x21) (i := p1_disk) (size := 1) (elem := 4) _ _ _ rfl rfl rfl (by kernel_rfl) (by kernel_rfl) rfl rfl (fun x23 => ?_))
  refine KT.l 24 (fun x24 => ?_)
  refine KT.nil ?_
  refine SX.seq ?_
  refine SC.cond (b := x24) rfl ?_ ?_
  refine SC.seq ?_
  refine SC.region' ?_
  refine KT.pv 6 (.slice none 0 0) ?_
  refine KT.pv 7 (.int .i64 13) ?_
  refine KT.nil ?_
  refine SX.seq ?_
  refine SC.ret ?_
  refine SX.then_ret ?_
  refine SX.ret [.tmp 6, .tmp 7] rfl ?_
  refine RS.tmp (.slice none 0 0) rfl ?_
  refine RS.tmp (.int .i64 13) rfl ?_
  exact RS.nil rfl
  refine SC.skip ?_
  refine SX.seq ?_
  refine SC.seq ?_
  refine SC.region' ?_
  refine KT.pv 25 (.int .i64 p1_disk) ?_
  refine KT.pv 26 (.pointer p0_r) ?_
  refine KT.nm 27 (fun x27 => ?_)
  refine KT.pv 28 (.pointer (some (Addr.add x27 1))) ?_
  refine KT.l 29 (fun x29 => ?_)
  refine KT.pv 30 (.int .i64 (w64 (p1_disk * x29))) ?_
  refine KT.pv 31 (.int .i64 p2_sector) ?_
  refine KT.pv 32 (.int .i64 (w64 ((w64 (p1_disk * x29)) + p2_sector))) ?_
  refine KT.pv 8 (.int .i64 (w64 ((w64 (p1_disk * x29)) + p2_sector))) ?_
  refine KT.nil ?_
  refine SX.sub (T' := [(0, (.pointer p0_r)), (8, (.int .i64 (w64 ((w64 (p1_disk * x29)) + p2_sector))))]) (.cons rfl (.cons rfl (.nil))) ?_
  refine SX.seq ?_
  refine SC.seq ?_
  refine SC.seq ?_
  refine SC.region' ?_
  refine KT.pv 33 (.pointer p0_r) ?_
  refine KT.nm 34 (fun x34 => ?_)
  refine KT.pv 35 (.pointer (some (Addr.add x34 3))) ?_
  refine KT.l 36 (fun x36 => ?_)
  refine KT.pv 37 (.int .i64 (w64 ((w64 (p1_disk * x29)) + p2_sector))) ?_
  refine KT.oy rfl (OY.idx (d := 38) (s := x36) (i := w64 ((w64 (p1_disk * x29)) + p2_sector)) (size := 1) (elem := 46) _ _ _ rfl rfl rfl (by kernel_rfl) (by kernel_rfl) rfl rfl (fun x38 => ?_))
  refine KT.l 39 (fun x39 => ?_)
  refine KT.pv 40 (.int .i64 ((x39.len : Nat) : Int)) ?_
  refine KT.pv 41 (.bool (decide (((x39.len : Nat) : Int) > 0))) ?_
  refine KT.nil ?_
  refine SX.seq ?_
  refine SC.cond (b := decide (((x39.len : Nat) : Int) > 0)) rfl ?_ ?_
  refine SC.seq ?_
  refine SC.region' ?_
  refine KT.pv 42 (.pointer p0_r) ?_
  refine KT.nm 43 (fun x43 => ?_)
  refine KT.pv 44 (.pointer (some (Addr.add x43 3))) ?_
  refine KT.l 45 (fun x45 => ?_)
  refine KT.pv 46 (.int .i64 (w64 ((w64 (p1_disk * x29)) + p2_sector))) ?_
  refine KT.oy rfl (OY.idx (d := 47) (s := x45) (i := w64 ((w64 (p1_disk * x29)) + p2_sector)) (size := 1) (elem := 46) _ _ _ rfl rfl rfl (by kernel_rfl) (by kernel_rfl) rfl rfl (fun x47 => ?_))
  refine KT.l 48 (fun x48 => ?_)
  refine KT.cl vS 49 89 #[(.slice x48.base x48.len x48.cap)] (ref00_CopyBytes_sim x48) (fun x49 => ?_)
  refine KT.pv 6 (.slice x49.base x49.len x49.cap) ?_
  refine KT.pv 7 (.int .i64 0) ?_
  refine KT.nil ?_
  refine SX.seq ?_
  refine SC.ret ?_
  refine SX.then_ret ?_
  refine SX.ret [.tmp 6, .tmp 7] rfl ?_
  refine RS.tmp (.slice x49.base x49.len x49.cap) rfl ?_
  refine RS.tmp (.int .i64 0) rfl ?_
  exact RS.nil rfl
  refine SC.skip ?_
  refine SX.seq ?_
  refine SC.seq ?_
  refine SC.region' ?_
  refine KT.pv 50 (.pointer p0_r) ?_
  refine KT.nm 51 (fun x51 => ?_)
  refine KT.pv 52 (.pointer (some (Addr.add x51 2))) ?_
  refine KT.l 53 (fun x53 => ?_)
  refine KT.pv 54 (.int .i64 (w64 ((w64 (p1_disk * x29)) + p2_sector))) ?_
  refine KT.oy rfl (OY.idx (d := 55) (s := x53) (i := w64 ((w64 (p1_disk * x29)) + p2_sector)) (size := 1) (elem := 46) _ _ _ rfl rfl rfl (by kernel_rfl) (by kernel_rfl) rfl rfl (fun x55 => ?_))
  refine KT.l 56 (fun x56 => ?_)
  refine KT.cl vS 57 89 #[(.slice x56.base x56.len x56.cap)] (ref00_CopyBytes_sim x56) (fun x57 => ?_)
  refine KT.pv 6 (.slice x57.base x57.len x57.cap) ?_
  refine KT.pv 7 (.int .i64 0) ?_
  refine KT.nil ?_
  refine SX.seq ?_
  refine SC.ret ?_
  refine SX.ret [.tmp 6, .tmp 7] rfl ?_
  refine RS.tmp (.slice x57.base x57.len x57.cap) rfl ?_
  refine RS.tmp (.int .i64 0) rfl ?_
  exact RS.nil rfl

set_option maxRecDepth 100000 in
theorem ref02_Rack_call_sim (p0_r : (Option Addr)) (Qf : Int → World → Prop) (w : World) (hm : ref02_Rack_call p0_r Qf w) : Calls Try.prog 127 #[(.pointer p0_r)] w (RetPost (Value.int .i64) Qf) := by
  refine calls_of (fn := Try.f127) (l := [(.pointer p0_r)]) (m := ref02_Rack_call p0_r) 70 (by kernel_rfl) rfl rfl rfl (fun Qf0 => ?_) Qf w hm
  clear hm w Qf
  unfold ref02_Rack_call
  refine SC.seq ?_
  refine SC.region' ?_
  refine KT.pv 2 (.int .i64 0) ?_
  refine KT.nil ?_
  refine SX.seq ?_
  refine SC.seq ?_
  refine SC.seq ?_
  refine SC.region' ?_
  refine KT.pv 4 (.pointer p0_r) ?_
  refine KT.nm 5 (fun x5 => ?_)
  refine KT.pv 6 (.pointer (some (Addr.add x5 6))) ?_
  refine KT.l 7 (fun x7 => ?_)
  refine KT.pv 8 (.bool (x7 == 0)) ?_
  refine KT.nil ?_
  refine SX.seq ?_
  refine SC.cond (b := x7 == 0) rfl ?_ ?_
  refine SC.seq ?_
  refine SC.region' ?_
  refine KT.pv 9 (.pointer p0_r) ?_
  refine KT.nm 10 (fun x10 => ?_)
  refine KT.pv 11 (.pointer (some (Addr.add x10 7))) ?_
  refine KT.s ?_
  refine KT.nil ?_
  refine SX.seq ?_
  refine SC.seq ?_
  refine SC.region' ?_
  refine KT.pv 2 (.int .i64 12) ?_
  refine KT.nil ?_
  refine SX.seq ?_
  refine SC.ret ?_
  refine SX.then_ret ?_
  refine SX.ret [.tmp 2] rfl ?_
  refine RS.tmp (.int .i64 12) rfl ?_
  exact RS.nil rfl
  refine SC.skip ?_
  refine SX.seq ?_
  refine SC.seq ?_
  refine SC.seq ?_
  refine SC.region' ?_
  refine KT.pv 12 (.pointer p0_r) ?_
  refine KT.nm 13 (fun x13 => ?_)
  refine KT.pv 14 (.pointer (some (Addr.add x13 6))) ?_
  refine KT.l 15 (fun x15 => ?_)
  refine KT.pv 16 (.bool (decide (x15 > 0))) ?_
  refine KT.nil ?_
  refine SX.seq ?_
  refine SC.join (β := Unit) (fun b1 => [(0, (.pointer p0_r))]) (fun b1 => ?_) (fun j1 => ?_)
  refine SX.seq ?_
  refine SC.seq ?_
  refine SC.seq ?_
  refine SC.region' ?_
  refine KT.pv 3 (.int .i64 0) ?_
  refine KT.nil ?_
  refine SX.seq ?_
  refine SC.block ?_
  refine SC.loop (σ := (Int)) (fun s2 => [(0, (.pointer p0_r)), (3, (.int .i64 s2))]) (.cons rfl (.cons rfl (.nil))) (fun _ _ _ s2 => ?_)
  refine SC.seq ?_
  refine SC.seq ?_
  refine SC.region' ?_
  refine KT.pv 24 (.int .i64 s2) ?_
  refine KT.pv 25 (.pointer p0_r) ?_
  refine KT.nm 26 (fun x26 => ?_)
  refine KT.pv 27 (.pointer (some x26)) ?_
  refine KT.l 28 (fun x28 => ?_)
  refine KT.pv 29 (.bool (decide (s2 < x28))) ?_
  refine KT.nil ?_
  refine SX.seq ?_
  refine SC.cond (b := decide (s2 < x28)) rfl ?_ ?_
  refine SC.skip ?_
  refine SX.seq ?_
  refine SC.seq ?_
  refine SC.block ?_
  refine SC.seq ?_
  refine SC.seq ?_
  refine SC.region' ?_
  refine KT.pv 32 (.pointer p0_r) ?_
  refine KT.nm 33 (fun x33 => ?_)
  refine KT.pv 34 (.pointer (some (Addr.add x33 4))) ?_
  refine KT.l 35 (fun x35 => ?_)
  refine KT.pv 36 (.int .i64 s2) ?_
  refine KT.oy rfl (OY.idx (d := 37) (s := x35) (i := s2) (size := 1) (elem := 4) _ _ _ rfl rfl rfl (by kernel_rfl) (by kernel_rfl) rfl rfl (fun x37 => ?_))
  refine KT.l 38 (fun x38 => ?_)
  refine KT.nil ?_
  refine SX.seq ?_
  refine SC.cond (b := x38) rfl ?_ ?_
  refine SC.exit ?_
  refine SX.then_exit ?_
  refine SX.block_hit ?_
  refine SX.seq ?_
  refine SC.region' ?_
  refine KT.pv 30 (.int .i64 s2) ?_
  refine KT.pv 31 (.int .i64 (w64 (s2 + 1))) ?_
  refine KT.pv 3 (.int .i64 (w64 (s2 + 1))) ?_
  refine KT.nil ?_
  exact SX.loop_next (.cons rfl (.cons rfl (.nil)))
  refine SC.skip ?_
  refine SX.seq ?_
  refine SC.seq ?_
  refine SC.seq ?_
  refine SC.region' ?_
  refine KT.pv 39 (.pointer p0_r) ?_
  refine KT.nm 40 (fun x40 => ?_)
  refine KT.pv 41 (.pointer (some (Addr.add x40 5))) ?_
  refine KT.l 42 (fun x42 => ?_)
  refine KT.pv 43 (.int .i64 s2) ?_
  refine KT.oy rfl (OY.idx (d := 44) (s := x42) (i := s2) (size := 1) (elem := 3) _ _ _ rfl rfl rfl (by kernel_rfl) (by kernel_rfl) rfl rfl (fun x44 => ?_))
  refine KT.l 45 (fun x45 => ?_)
  refine KT.pv 46 (.bool (x45 == 0)) ?_
  refine KT.nil ?_
  refine SX.seq ?_
  refine SC.join (β := Unit) (fun b3 => [(0, (.pointer p0_r)), (3, (.int .i64 s2))]) (fun b3 => ?_) (fun j3 => ?_)
  refine SX.seq ?_
  refine SC.seq ?_
  refine SC.region' ?_
  refine KT.pv 53 (.pointer p0_r) ?_
  refine KT.nm 54 (fun x54 => ?_)
  refine KT.pv 55 (.pointer (some (Addr.add x54 5))) ?_
  refine KT.l 56 (fun x56 => ?_)
  refine KT.pv 57 (.int .i64 s2) ?_
  refine KT.oy rfl (OY.idx (d := 58) (s := x56) (i := s2) (size := 1) (elem := 3) _ _ _ rfl rfl rfl (by kernel_rfl) (by kernel_rfl) rfl rfl (fun x58 => ?_))
  refine KT.l 59 (fun x59 => ?_)
  refine KT.pv 60 (.bool (decide (x59 > 0))) ?_
  refine KT.nil ?_
  refine SX.seq ?_
  refine SC.cond (b := decide (x59 > 0)) rfl ?_ ?_
  refine SC.region' ?_
  refine KT.pv 61 (.pointer p0_r) ?_
  refine KT.nm 62 (fun x62 => ?_)
  refine KT.pv 63 (.pointer (some (Addr.add x62 5))) ?_
  refine KT.l 64 (fun x64 => ?_)
  refine KT.pv 65 (.int .i64 s2) ?_
  refine KT.oy rfl (OY.idx (d := 66) (s := x64) (i := s2) (size := 1) (elem := 3) _ _ _ rfl rfl rfl (by kernel_rfl) (by kernel_rfl) rfl rfl (fun x66 => ?_))
  refine KT.l 67 (fun x67 => ?_)
  refine KT.pv 68 (.int .i64 (w64 (x67 - 1))) ?_
  refine KT.oy rfl (OY.idx (d := 69) (s := x64) (i := s2) (size := 1) (elem := 3) _ _ _ rfl rfl rfl (by kernel_rfl) (by kernel_rfl) rfl rfl (fun x69 => ?_))
  refine KT.s ?_
  refine KT.nil ?_
  refine SX.block ?_
  refine SX.seq ?_
  refine SC.region' ?_
  refine KT.pv 30 (.int .i64 s2) ?_
  refine KT.pv 31 (.int .i64 (w64 (s2 + 1))) ?_
  refine KT.pv 3 (.int .i64 (w64 (s2 + 1))) ?_
  refine KT.nil ?_
  exact SX.loop_next (.cons rfl (.cons rfl (.nil)))
  refine SC.skip ?_
  refine SX.block ?_
  refine SX.seq ?_
  refine SC.region' ?_
  refine KT.pv 30 (.int .i64 s2) ?_
  refine KT.pv 31 (.int .i64 (w64 (s2 + 1))) ?_
  refine KT.pv 3 (.int .i64 (w64 (s2 + 1))) ?_
  refine KT.nil ?_
  exact SX.loop_next (.cons rfl (.cons rfl (.nil)))
  refine SC.cond (b := x45 == 0) rfl ?_ ?_
  refine SC.region' ?_
  refine KT.pv 47 (.pointer p0_r) ?_
  refine KT.nm 48 (fun x48 => ?_)
  refine KT.pv 49 (.pointer (some (Addr.add x48 4))) ?_
  refine KT.l 50 (fun x50 => ?_)
  refine KT.pv 51 (.int .i64 s2) ?_
  refine KT.oy rfl (OY.idx (d := 52) (s := x50) (i := s2) (size := 1) (elem := 4) _ _ _ rfl rfl rfl (by kernel_rfl) (by kernel_rfl) rfl rfl (fun x52 => ?_))
  refine KT.s ?_
  refine KT.nil ?_
  exact SX.leafS j3 (.cons rfl (.cons rfl (.nil)))
  refine SC.skip ?_
  exact SX.leafS j3 (.cons rfl (.cons rfl (.nil)))
  refine SC.exit ?_
  refine SX.then_exit ?_
  refine SX.loop_exit ?_
  refine SX.block_hit ?_
  refine SX.seq ?_
  refine SC.seq ?_
  refine SC.region' ?_
  refine KT.pv 2 (.int .i64 0) ?_
  refine KT.nil ?_
  refine SX.seq ?_
  refine SC.ret ?_
  refine SX.ret [.tmp 2] rfl ?_
  refine RS.tmp (.int .i64 0) rfl ?_
  exact RS.nil rfl
  refine SC.cond (b := decide (x15 > 0)) rfl ?_ ?_
  refine SC.region' ?_
  refine KT.pv 17 (.pointer p0_r) ?_
  refine KT.nm 18 (fun x18 => ?_)
  refine KT.pv 19 (.pointer (some (Addr.add x18 6))) ?_
  refine KT.l 20 (fun x20 => ?_)
  refine KT.pv 21 (.int .i64 (w64 (x20 - 1))) ?_
  refine KT.nm 22 (fun x22 => ?_)
  refine KT.pv 23 (.pointer (some (Addr.add x22 6))) ?_
  refine KT.s ?_
  refine KT.nil ?_
  exact SX.leafS j1 (.cons rfl (.nil))
  refine SC.skip ?_
  exact SX.leafS j1 (.cons rfl (.nil))

set_option maxRecDepth 100000 in
theorem ref02_Rack_Write_sim (p0_r : (Option Addr)) (p1_disk : Int) (p2_sector : Int) (p3_b : Slc) (Qf : Int → World → Prop) (w : World) (hm : ref02_Rack_Write p0_r p1_disk p2_sector p3_b Qf w) : Calls Try.prog 90 #[(.pointer p0_r), (.int .i64 p1_disk), (.int .i64 p2_sector), (.slice p3_b.base p3_b.len p3_b.cap)] w (RetPost (Value.int .i64) Qf) := by
  refine calls_of (fn := Try.f90) (l := [(.pointer p0_r), (.int .i64 p1_disk), (.int .i64 p2_sector), (.slice p3_b.base p3_b.len p3_b.cap)]) (m := ref02_Rack_Write p0_r p1_disk p2_sector p3_b) 51 (by kernel_rfl) rfl rfl rfl (fun Qf0 => ?_) Qf w hm
  clear hm w Qf
  unfold ref02_Rack_Write
  refine SC.seq ?_
  refine SC.region' ?_
  refine KT.pv 8 (.int .i64 0) ?_
  refine KT.nil ?_
  refine SX.seq ?_
  refine SC.seq ?_
  refine SC.seq ?_
  refine SC.region' ?_
  refine KT.pv 10 (.pointer p0_r) ?_
  refine KT.nm 11 (fun x11 => ?_)
  refine KT.pv 12 (.pointer (some (Addr.add x11 7))) ?_
  refine KT.l 13 (fun x13 => ?_)
  refine KT.nil ?_
  refine SX.seq ?_
  refine SC.cond (b := x13) rfl ?_ ?_
  refine SC.seq ?_
  refine SC.region' ?_
  refine KT.pv 8 (.int .i64 12) ?_
  refine KT.nil ?_
  refine SX.seq ?_
  refine SC.ret ?_
  refine SX.then_ret ?_
  refine SX.ret [.tmp 8] rfl ?_
  refine RS.tmp (.int .i64 12) rfl ?_
  exact RS.nil rfl
  refine SC.skip ?_
  refine SX.seq ?_
  refine SC.seq ?_
  refine SC.seq ?_
  refine SC.region' ?_
  refine KT.pv 14 (.pointer p0_r) ?_
  refine KT.pv 15 (.int .i64 p1_disk) ?_
  refine KT.pv 16 (.int .i64 p2_sector) ?_
  refine KT.cl Value.bool 17 97 #[(.pointer p0_r), (.int .i64 p1_disk), (.int .i64 p2_sector)] (ref02_Rack_there_sim p0_r p1_disk p2_sector) (fun x17 => ?_)
  refine KT.pv 18 (.bool (!x17)) ?_
  refine KT.pv 19 (.bool (!x17)) ?_
  refine KT.joinO (β := Bool) 4 (fun r1 => [(23, (.bool r1)), (0, (.pointer p0_r)), (1, (.int .i64 p1_disk)), (2, (.int .i64 p2_sector)), (3, (.slice p3_b.base p3_b.len p3_b.cap))]) (fun r1 => ?_) (fun j1 => ?_)
  refine KT.nil ?_
  refine SX.seq ?_
  refine SC.cond (b := r1) rfl ?_ ?_
  refine SC.seq ?_
  refine SC.region' ?_
  refine KT.pv 8 (.int .i64 11) ?_
  refine KT.nil ?_
  refine SX.seq ?_
  refine SC.ret ?_
  refine SX.then_ret ?_
  refine SX.ret [.tmp 8] rfl ?_
  refine RS.tmp (.int .i64 11) rfl ?_
  exact RS.nil rfl
  refine SC.skip ?_
  refine SX.seq ?_
  refine SC.seq ?_
  refine SC.region' ?_
  refine KT.pv 24 (.pointer p0_r) ?_
  refine KT.cl (Value.int .i64) 25 127 #[(.pointer p0_r)] (ref02_Rack_call_sim p0_r) (fun x25 => ?_)
  refine KT.pv 9 (.int .i64 x25) ?_
  refine KT.nil ?_
  refine SX.seq ?_
  refine SC.seq ?_
  refine SC.seq ?_
  refine SC.region' ?_
  refine KT.pv 26 (.int .i64 x25) ?_
  refine KT.pv 27 (.bool (x25 != 0)) ?_
  refine KT.nil ?_
  refine SX.seq ?_
  refine SC.cond (b := x25 != 0) rfl ?_ ?_
  refine SC.seq ?_
  refine SC.region' ?_
  refine KT.pv 28 (.int .i64 x25) ?_
  refine KT.pv 8 (.int .i64 x25) ?_
  refine KT.nil ?_
  refine SX.seq ?_
  refine SC.ret ?_
  refine SX.then_ret ?_
  refine SX.ret [.tmp 8] rfl ?_
  refine RS.tmp (.int .i64 x25) rfl ?_
  exact RS.nil rfl
  refine SC.skip ?_
  refine SX.seq ?_
  refine SC.seq ?_
  refine SC.seq ?_
  refine SC.region' ?_
  refine KT.pv 29 (.pointer p0_r) ?_
  refine KT.nm 30 (fun x30 => ?_)
  refine KT.pv 31 (.pointer (some (Addr.add x30 4))) ?_
  refine KT.l 32 (fun x32 => ?_)
  refine KT.pv 33 (.int .i64 p1_disk) ?_
  refine KT.oy rfl (OY.idx (d := 34) (s := x32) (i := p1_disk) (size := 1) (elem := 4) _ _ _ rfl rfl rfl (by kernel_rfl) (by kernel_rfl) rfl rfl (fun x34 => ?_))
  refine KT.l 35 (fun x35 => ?_)
  refine KT.nil ?_
  refine SX.seq ?_
  refine SC.cond (b := x35) rfl ?_ ?_
  refine SC.seq ?_
  refine SC.region' ?_
  refine KT.pv 8 (.int .i64 13) ?_
  refine KT.nil ?_
  refine SX.seq ?_
  refine SC.ret ?_
  refine SX.then_ret ?_
  refine SX.ret [.tmp 8] rfl ?_
  refine RS.tmp (.int .i64 13) rfl ?_
  exact RS.nil rfl
  refine SC.skip ?_
  refine SX.seq ?_
  refine SC.seq ?_
  refine SC.draw 16 (fun f => Nat.beq f 15) rfl (by kernel_rfl) (fun S2 => ?_)
  refine KT.pvA 0 36 (.pointer p0_r) ?_
  refine KT.tp 1 (OY.nil (d := 37) (p := p0_r) _ rfl rfl rfl rfl (fun x37 => ?_))
  refine KT.pvA 2 38 (.pointer (some (Addr.add x37 3))) ?_
  refine KT.tk 3 (OY.ldI (d := 39) _ _ rfl rfl (by kernel_rfl) rfl rfl (fun x39 => ?_))
  refine KT.pvA 4 40 (.int .i64 p1_disk) ?_
  refine KT.pvA 5 41 (.pointer p0_r) ?_
  refine KT.tp 6 (OY.nil (d := 42) (p := p0_r) _ rfl rfl rfl rfl (fun x42 => ?_))
  refine KT.pvA 7 43 (.pointer (some (Addr.add x42 1))) ?_
  refine KT.tk 8 (OY.ldI (d := 44) _ _ rfl rfl (by kernel_rfl) rfl rfl (fun x44 => ?_))
  refine KT.pvA 9 45 (.int .i64 (w64 (p1_disk * x44))) ?_
  refine KT.pvA 10 46 (.int .i64 p2_sector) ?_
  refine KT.pvA 11 47 (.int .i64 (w64 ((w64 (p1_disk * x44)) + p2_sector))) ?_
  refine KT.pvA 12 48 (.slice p3_b.base p3_b.len p3_b.cap) ?_
  refine KT.one 13 rfl (by kernel_rfl) rfl (OW.step (OW.call (d := 49) (enc := vS) 89 #[(.slice p3_b.base p3_b.len p3_b.cap)] rfl (fun _ => by kernel_rfl) (fun Qf w => ref00_CopyBytes_sim p3_b Qf w) rfl rfl (fun x49 => ?_)))
  refine KT.and ?_
  refine KT.tp 14 (OY.idx (d := 50) (s := x39) (i := w64 ((w64 (p1_disk * x44)) + p2_sector)) (size := 1) (elem := 46) _ _ _ rfl rfl rfl (by kernel_rfl) (by kernel_rfl) rfl rfl (fun x50 => ?_))
  refine KT.last 15 rfl (by kernel_rfl) rfl rfl (OW.st _ _ _ rfl rfl rfl rfl (by kernel_rfl) rfl ?_)
  refine KT.doneN (by kernel_rfl) ?_
  refine SX.sub (T' := []) (.nil) ?_
  refine SX.seq ?_
  refine SC.seq ?_
  refine SC.region' ?_
  refine KT.pv 8 (.int .i64 0) ?_
  refine KT.nil ?_
  refine SX.seq ?_
  refine SC.ret ?_
  refine SX.ret [.tmp 8] rfl ?_
  refine RS.tmp (.int .i64 0) rfl ?_
  exact RS.nil rfl
  refine KT.ite (b := !x17) 19 rfl ?_ ?_
  refine KT.sk ?_
  refine KT.sk ?_
  refine KT.sk ?_
  refine KT.pv 23 (.bool true) ?_
  exact KT.leafO j1 (.cons rfl (.cons rfl (.cons rfl (.cons rfl (.cons rfl (.nil))))))
  refine KT.pv 20 (.slice p3_b.base p3_b.len p3_b.cap) ?_
  refine KT.pv 21 (.int .i64 ((p3_b.len : Nat) : Int)) ?_
  refine KT.pv 22 (.bool (((p3_b.len : Nat) : Int) != 64)) ?_
  refine KT.pv 23 (.bool (((p3_b.len : Nat) : Int) != 64)) ?_
  exact KT.leafO j1 (.cons rfl (.cons rfl (.cons rfl (.cons rfl (.cons rfl (.nil))))))

set_option maxRecDepth 100000 in
theorem ref02_Rack_Flush_sim (p0_r : (Option Addr)) (p1_disk : Int) (Qf : Int → World → Prop) (w : World) (hm : ref02_Rack_Flush p0_r p1_disk Qf w) : Calls Try.prog 91 #[(.pointer p0_r), (.int .i64 p1_disk)] w (RetPost (Value.int .i64) Qf) := by
  refine calls_of (fn := Try.f91) (l := [(.pointer p0_r), (.int .i64 p1_disk)]) (m := ref02_Rack_Flush p0_r p1_disk) 72 (by kernel_rfl) rfl rfl rfl (fun Qf0 => ?_) Qf w hm
  clear hm w Qf
  unfold ref02_Rack_Flush
  refine SC.seq ?_
  refine SC.region' ?_
  refine KT.pv 4 (.int .i64 0) ?_
  refine KT.nil ?_
  refine SX.seq ?_
  refine SC.seq ?_
  refine SC.seq ?_
  refine SC.region' ?_
  refine KT.pv 7 (.pointer p0_r) ?_
  refine KT.nm 8 (fun x8 => ?_)
  refine KT.pv 9 (.pointer (some (Addr.add x8 7))) ?_
  refine KT.l 10 (fun x10 => ?_)
  refine KT.nil ?_
  refine SX.seq ?_
  refine SC.cond (b := x10) rfl ?_ ?_
  refine SC.seq ?_
  refine SC.region' ?_
  refine KT.pv 4 (.int .i64 12) ?_
  refine KT.nil ?_
  refine SX.seq ?_
  refine SC.ret ?_
  refine SX.then_ret ?_
  refine SX.ret [.tmp 4] rfl ?_
  refine RS.tmp (.int .i64 12) rfl ?_
  exact RS.nil rfl
  refine SC.skip ?_
  refine SX.seq ?_
  refine SC.seq ?_
  refine SC.seq ?_
  refine SC.region' ?_
  refine KT.pv 11 (.pointer p0_r) ?_
  refine KT.pv 12 (.int .i64 p1_disk) ?_
  refine KT.cl Value.bool 13 97 #[(.pointer p0_r), (.int .i64 p1_disk), (.int .i64 0)] (ref02_Rack_there_sim p0_r p1_disk 0) (fun x13 => ?_)
  refine KT.pv 14 (.bool (!x13)) ?_
  refine KT.nil ?_
  refine SX.seq ?_
  refine SC.cond (b := !x13) rfl ?_ ?_
  refine SC.seq ?_
  refine SC.region' ?_
  refine KT.pv 4 (.int .i64 11) ?_
  refine KT.nil ?_
  refine SX.seq ?_
  refine SC.ret ?_
  refine SX.then_ret ?_
  refine SX.ret [.tmp 4] rfl ?_
  refine RS.tmp (.int .i64 11) rfl ?_
  exact RS.nil rfl
  refine SC.skip ?_
  refine SX.seq ?_
  refine SC.seq ?_
  refine SC.region' ?_
  refine KT.pv 15 (.pointer p0_r) ?_
  refine KT.cl (Value.int .i64) 16 127 #[(.pointer p0_r)] (ref02_Rack_call_sim p0_r) (fun x16 => ?_)
  refine KT.pv 5 (.int .i64 x16) ?_
  refine KT.nil ?_
  refine SX.seq ?_
  refine SC.seq ?_
  refine SC.seq ?_
  refine SC.region' ?_
  refine KT.pv 17 (.int .i64 x16) ?_
  refine KT.pv 18 (.bool (x16 != 0)) ?_
  refine KT.nil ?_
  refine SX.seq ?_
  refine SC.cond (b := x16 != 0) rfl ?_ ?_
  refine SC.seq ?_
  refine SC.region' ?_
  refine KT.pv 19 (.int .i64 x16) ?_
  refine KT.pv 4 (.int .i64 x16) ?_
  refine KT.nil ?_
  refine SX.seq ?_
  refine SC.ret ?_
  refine SX.then_ret ?_
  refine SX.ret [.tmp 4] rfl ?_
  refine RS.tmp (.int .i64 x16) rfl ?_
  exact RS.nil rfl
  refine SC.skip ?_
  refine SX.seq ?_
  refine SC.seq ?_
  refine SC.seq ?_
  refine SC.region' ?_
  refine KT.pv 20 (.pointer p0_r) ?_
  refine KT.nm 21 (fun x21 => ?_)
  refine KT.pv 22 (.pointer (some (Addr.add x21 4))) ?_
  refine KT.l 23 (fun x23 => ?_)
  refine KT.pv 24 (.int .i64 p1_disk) ?_
  refine KT.oy rfl (OY.idx (d := 25) (s := x23) (i := p1_disk) (size := 1) (elem := 4) _ _ _ rfl rfl rfl (by kernel_rfl) (by kernel_rfl) rfl rfl (fun x25 => ?_))
  refine KT.l 26 (fun x26 => ?_)
  refine KT.nil ?_
  refine SX.seq ?_
  refine SC.cond (b := x26) rfl ?_ ?_
  refine SC.seq ?_
  refine SC.region' ?_
  refine KT.pv 4 (.int .i64 13) ?_
  refine KT.nil ?_
  refine SX.seq ?_
  refine SC.ret ?_
  refine SX.then_ret ?_
  refine SX.ret [.tmp 4] rfl ?_
  refine RS.tmp (.int .i64 13) rfl ?_
  exact RS.nil rfl
  refine SC.skip ?_
  refine SX.seq ?_
  refine SC.seq ?_
  refine SC.seq ?_
  refine SC.region' ?_
  refine KT.pv 27 (.int .i64 p1_disk) ?_
  refine KT.pv 28 (.pointer p0_r) ?_
  refine KT.nm 29 (fun x29 => ?_)
  refine KT.pv 30 (.pointer (some (Addr.add x29 1))) ?_
  refine KT.l 31 (fun x31 => ?_)
  refine KT.pv 32 (.int .i64 (w64 (p1_disk * x31))) ?_
  refine KT.pv 6 (.int .i64 (w64 (p1_disk * x31))) ?_
  refine KT.nil ?_
  refine SX.sub (T' := [(0, (.pointer p0_r)), (1, (.int .i64 p1_disk)), (6, (.int .i64 (w64 (p1_disk * x31))))]) (.cons rfl (.cons rfl (.cons rfl (.nil)))) ?_
  refine SX.seq ?_
  refine SC.block ?_
  refine SC.loop (σ := (Int)) (fun s1 => [(0, (.pointer p0_r)), (1, (.int .i64 p1_disk)), (6, (.int .i64 s1))]) (.cons rfl (.cons rfl (.cons rfl (.nil)))) (fun _ _ _ s1 => ?_)
  refine SC.seq ?_
  refine SC.seq ?_
  refine SC.region' ?_
  refine KT.pv 33 (.int .i64 s1) ?_
  refine KT.pv 34 (.int .i64 p1_disk) ?_
  refine KT.pv 35 (.int .i64 (w64 (p1_disk + 1))) ?_
  refine KT.pv 36 (.pointer p0_r) ?_
  refine KT.nm 37 (fun x37 => ?_)
  refine KT.pv 38 (.pointer (some (Addr.add x37 1))) ?_
  refine KT.l 39 (fun x39 => ?_)
  refine KT.pv 40 (.int .i64 (w64 ((w64 (p1_disk + 1)) * x39))) ?_
  refine KT.pv 41 (.bool (decide (s1 < (w64 ((w64 (p1_disk + 1)) * x39))))) ?_
  refine KT.nil ?_
  refine SX.seq ?_
  refine SC.cond (b := decide (s1 < (w64 ((w64 (p1_disk + 1)) * x39)))) rfl ?_ ?_
  refine SC.skip ?_
  refine SX.seq ?_
  refine SC.seq ?_
  refine SC.block ?_
  refine SC.seq ?_
  refine SC.region' ?_
  refine KT.pv 44 (.pointer p0_r) ?_
  refine KT.nm 45 (fun x45 => ?_)
  refine KT.pv 46 (.pointer (some (Addr.add x45 3))) ?_
  refine KT.l 47 (fun x47 => ?_)
  refine KT.pv 48 (.int .i64 s1) ?_
  refine KT.oy rfl (OY.idx (d := 49) (s := x47) (i := s1) (size := 1) (elem := 46) _ _ _ rfl rfl rfl (by kernel_rfl) (by kernel_rfl) rfl rfl (fun x49 => ?_))
  refine KT.l 50 (fun x50 => ?_)
  refine KT.pv 51 (.int .i64 ((x50.len : Nat) : Int)) ?_
  refine KT.pv 52 (.bool (decide (((x50.len : Nat) : Int) > 0))) ?_
  refine KT.nil ?_
  refine SX.seq ?_
  refine SC.cond (b := decide (((x50.len : Nat) : Int) > 0)) rfl ?_ ?_
  refine SC.seq ?_
  refine SC.draw 14 (fun f => Nat.beq f 13) rfl (by kernel_rfl) (fun S2 => ?_)
  refine KT.pvA 0 53 (.pointer p0_r) ?_
  refine KT.tp 1 (OY.nil (d := 54) (p := p0_r) _ rfl rfl rfl rfl (fun x54 => ?_))
  refine KT.pvA 2 55 (.pointer (some (Addr.add x54 2))) ?_
  refine KT.tk 3 (OY.ldI (d := 56) _ _ rfl rfl (by kernel_rfl) rfl rfl (fun x56 => ?_))
  refine KT.pvA 4 57 (.int .i64 s1) ?_
  refine KT.pvA 5 58 (.pointer p0_r) ?_
  refine KT.tp 6 (OY.nil (d := 59) (p := p0_r) _ rfl rfl rfl rfl (fun x59 => ?_))
  refine KT.pvA 7 60 (.pointer (some (Addr.add x59 3))) ?_
  refine KT.tk 8 (OY.ldI (d := 61) _ _ rfl rfl (by kernel_rfl) rfl rfl (fun x61 => ?_))
  refine KT.pvA 9 62 (.int .i64 s1) ?_
  refine KT.tp 10 (OY.idx (d := 63) (s := x61) (i := s1) (size := 1) (elem := 46) _ _ _ rfl rfl rfl (by kernel_rfl) (by kernel_rfl) rfl rfl (fun x63 => ?_))
  refine KT.tk 11 (OY.ldI (d := 64) _ _ rfl rfl (by kernel_rfl) rfl rfl (fun x64 => ?_))
  refine KT.tp 12 (OY.idx (d := 65) (s := x56) (i := s1) (size := 1) (elem := 46) _ _ _ rfl rfl rfl (by kernel_rfl) (by kernel_rfl) rfl rfl (fun x65 => ?_))
  refine KT.last 13 rfl (by kernel_rfl) rfl rfl (OW.st _ _ _ rfl rfl rfl rfl (by kernel_rfl) rfl ?_)
  refine KT.doneN (by kernel_rfl) ?_
  refine SX.sub (T' := [(0, (.pointer p0_r)), (1, (.int .i64 p1_disk)), (6, (.int .i64 s1))]) (.cons rfl (.cons rfl (.cons rfl (.nil)))) ?_
  refine SX.seq ?_
  refine SC.region' ?_
  refine KT.pv 66 (.pointer p0_r) ?_
  refine KT.nm 67 (fun x67 => ?_)
  refine KT.pv 68 (.pointer (some (Addr.add x67 3))) ?_
  refine KT.l 69 (fun x69 => ?_)
  refine KT.pv 70 (.int .i64 s1) ?_
  refine KT.oy rfl (OY.idx (d := 71) (s := x69) (i := s1) (size := 1) (elem := 46) _ _ _ rfl rfl rfl (by kernel_rfl) (by kernel_rfl) rfl rfl (fun x71 => ?_))
  refine KT.s ?_
  refine KT.nil ?_
  refine SX.block ?_
  refine SX.seq ?_
  refine SC.region' ?_
  refine KT.pv 42 (.int .i64 s1) ?_
  refine KT.pv 43 (.int .i64 (w64 (s1 + 1))) ?_
  refine KT.pv 6 (.int .i64 (w64 (s1 + 1))) ?_
  refine KT.nil ?_
  exact SX.loop_next (.cons rfl (.cons rfl (.cons rfl (.nil))))
  refine SC.skip ?_
  refine SX.block ?_
  refine SX.seq ?_
  refine SC.region' ?_
  refine KT.pv 42 (.int .i64 s1) ?_
  refine KT.pv 43 (.int .i64 (w64 (s1 + 1))) ?_
  refine KT.pv 6 (.int .i64 (w64 (s1 + 1))) ?_
  refine KT.nil ?_
  exact SX.loop_next (.cons rfl (.cons rfl (.cons rfl (.nil))))
  refine SC.exit ?_
  refine SX.then_exit ?_
  refine SX.loop_exit ?_
  refine SX.block_hit ?_
  refine SX.seq ?_
  refine SC.seq ?_
  refine SC.region' ?_
  refine KT.pv 4 (.int .i64 0) ?_
  refine KT.nil ?_
  refine SX.seq ?_
  refine SC.ret ?_
  refine SX.ret [.tmp 4] rfl ?_
  refine RS.tmp (.int .i64 0) rfl ?_
  exact RS.nil rfl

set_option maxRecDepth 100000 in
theorem ref02_Rack_Arm_sim (p0_r : (Option Addr)) (p1_calls : Int) (Qf : Unit → World → Prop) (w : World) (hm : ref02_Rack_Arm p0_r p1_calls Qf w) : Calls Try.prog 92 #[(.pointer p0_r), (.int .i64 p1_calls)] w (RetPost (fun y : Unit => (.tuple #[])) Qf) := by
  refine calls_of (fn := Try.f92) (l := [(.pointer p0_r), (.int .i64 p1_calls)]) (m := ref02_Rack_Arm p0_r p1_calls) 9 (by kernel_rfl) rfl rfl rfl (fun Qf0 => ?_) Qf w hm
  clear hm w Qf
  unfold ref02_Rack_Arm
  refine SC.region' ?_
  refine KT.pv 4 (.pointer p0_r) ?_
  refine KT.pv 5 (.int .i64 p1_calls) ?_
  refine KT.pv 6 (.int .i64 (maxI p1_calls (-1))) ?_
  refine KT.nm 7 (fun x7 => ?_)
  refine KT.pv 8 (.pointer (some (Addr.add x7 6))) ?_
  refine KT.s ?_
  refine KT.nil ?_
  refine SX.endBody [] rfl ?_
  exact RS.nil rfl

set_option maxRecDepth 100000 in
theorem ref02_Rack_Doom_sim (p0_r : (Option Addr)) (p1_disk : Int) (p2_calls : Int) (Qf : Int → World → Prop) (w : World) (hm : ref02_Rack_Doom p0_r p1_disk p2_calls Qf w) : Calls Try.prog 93 #[(.pointer p0_r), (.int .i64 p1_disk), (.int .i64 p2_calls)] w (RetPost (Value.int .i64) Qf) := by
  refine calls_of (fn := Try.f93) (l := [(.pointer p0_r), (.int .i64 p1_disk), (.int .i64 p2_calls)]) (m := ref02_Rack_Doom p0_r p1_disk p2_calls) 25 (by kernel_rfl) rfl rfl rfl (fun Qf0 => ?_) Qf w hm
  clear hm w Qf
  unfold ref02_Rack_Doom
  refine SC.seq ?_
  refine SC.region' ?_
  refine KT.pv 6 (.int .i64 0) ?_
  refine KT.nil ?_
  refine SX.seq ?_
  refine SC.seq ?_
  refine SC.seq ?_
  refine SC.region' ?_
  refine KT.pv 7 (.int .i64 p1_disk) ?_
  refine KT.pv 8 (.bool (decide (p1_disk < 0))) ?_
  refine KT.pv 9 (.bool (decide (p1_disk < 0))) ?_
  refine KT.joinO (β := Bool) 7 (fun r1 => [(16, (.bool r1)), (0, (.pointer p0_r)), (1, (.int .i64 p1_disk)), (2, (.int .i64 p2_calls))]) (fun r1 => ?_) (fun j1 => ?_)
  refine KT.nil ?_
  refine SX.seq ?_
  refine SC.cond (b := r1) rfl ?_ ?_
  refine SC.seq ?_
  refine SC.region' ?_
  refine KT.pv 6 (.int .i64 11) ?_
  refine KT.nil ?_
  refine SX.seq ?_
  refine SC.ret ?_
  refine SX.then_ret ?_
  refine SX.ret [.tmp 6] rfl ?_
  refine RS.tmp (.int .i64 11) rfl ?_
  exact RS.nil rfl
  refine SC.skip ?_
  refine SX.seq ?_
  refine SC.seq ?_
  refine SC.region' ?_
  refine KT.pv 17 (.pointer p0_r) ?_
  refine KT.nm 18 (fun x18 => ?_)
  refine KT.pv 19 (.pointer (some (Addr.add x18 5))) ?_
  refine KT.l 20 (fun x20 => ?_)
  refine KT.pv 21 (.int .i64 p1_disk) ?_
  refine KT.pv 22 (.int .i64 p2_calls) ?_
  refine KT.pv 23 (.int .i64 (maxI p2_calls (-1))) ?_
  refine KT.oy rfl (OY.idx (d := 24) (s := x20) (i := p1_disk) (size := 1) (elem := 3) _ _ _ rfl rfl rfl (by kernel_rfl) (by kernel_rfl) rfl rfl (fun x24 => ?_))
  refine KT.s ?_
  refine KT.nil ?_
  refine SX.seq ?_
  refine SC.seq ?_
  refine SC.region' ?_
  refine KT.pv 6 (.int .i64 0) ?_
  refine KT.nil ?_
  refine SX.seq ?_
  refine SC.ret ?_
  refine SX.ret [.tmp 6] rfl ?_
  refine RS.tmp (.int .i64 0) rfl ?_
  exact RS.nil rfl
  refine KT.ite (b := decide (p1_disk < 0)) 9 rfl ?_ ?_
  refine KT.sk ?_
  refine KT.sk ?_
  refine KT.sk ?_
  refine KT.sk ?_
  refine KT.sk ?_
  refine KT.sk ?_
  refine KT.pv 16 (.bool true) ?_
  exact KT.leafO j1 (.cons rfl (.cons rfl (.cons rfl (.cons rfl (.nil)))))
  refine KT.pv 10 (.int .i64 p1_disk) ?_
  refine KT.pv 11 (.pointer p0_r) ?_
  refine KT.nm 12 (fun x12 => ?_)
  refine KT.pv 13 (.pointer (some x12)) ?_
  refine KT.l 14 (fun x14 => ?_)
  refine KT.pv 15 (.bool (decide (p1_disk ≥ x14))) ?_
  refine KT.pv 16 (.bool (decide (p1_disk ≥ x14))) ?_
  exact KT.leafO j1 (.cons rfl (.cons rfl (.cons rfl (.cons rfl (.nil)))))

set_option maxRecDepth 100000 in
theorem ref00_CopyInts_sim (p0_s : Slc) (Qf : Slc → World → Prop) (w : World) (hm : ref00_CopyInts p0_s Qf w) : Calls Try.prog 94 #[(.slice p0_s.base p0_s.len p0_s.cap)] w (RetPost vS Qf) := by
  refine calls_of (fn := Try.f94) (l := [(.slice p0_s.base p0_s.len p0_s.cap)]) (m := ref00_CopyInts p0_s) 9 (by kernel_rfl) rfl rfl rfl (fun Qf0 => ?_) Qf w hm
  clear hm w Qf
  unfold ref00_CopyInts
  refine SC.seq ?_
  refine SC.region' ?_
  refine KT.pv 2 (.slice none 0 0) ?_
  refine KT.nil ?_
  refine SX.seq ?_
  refine SC.seq ?_
  refine SC.region' ?_
  refine KT.nw 4 (fun ad => .slice (some ad) 0 0) 3 (fun x4 => ?_)
  refine KT.pv 3 (.slice (some x4) 0 0) ?_
  refine KT.nil ?_
  refine SX.seq ?_
  refine SC.seq ?_
  refine SC.region' ?_
  refine KT.pv 5 (.slice (some x4) 0 0) ?_
  refine KT.pv 6 (.slice p0_s.base p0_s.len p0_s.cap) ?_
  refine KT.ow rfl (OW.append (d := 7) (s := ⟨some x4, 0, 0⟩) (x := p0_s) [(.int .i64 0)] 8 3 _ _ _ _ rfl rfl rfl rfl (by kernel_rfl) (by kernel_rfl) rfl rfl rfl (fun x7 => ?_))
  refine KT.pv 3 (.slice x7.base x7.len x7.cap) ?_
  refine KT.nil ?_
  refine SX.seq ?_
  refine SC.seq ?_
  refine SC.region' ?_
  refine KT.pv 8 (.slice x7.base x7.len x7.cap) ?_
  refine KT.pv 2 (.slice x7.base x7.len x7.cap) ?_
  refine KT.nil ?_
  refine SX.seq ?_
  refine SC.ret ?_
  refine SX.ret [.tmp 2] rfl ?_
  refine RS.tmp (.slice x7.base x7.len x7.cap) rfl ?_
  exact RS.nil rfl

set_option maxRecDepth 100000 in
theorem ref02_Rack_Restore_sim (p0_r : (Option Addr)) (p1_keeps : Slc) (Qf : Unit → World → Prop) (w : World) (hm : ref02_Rack_Restore p0_r p1_keeps Qf w) : Calls Try.prog 95 #[(.pointer p0_r), (.slice p1_keeps.base p1_keeps.len p1_keeps.cap)] w (RetPost (fun y : Unit => (.tuple #[])) Qf) := by
  refine calls_of (fn := Try.f95) (l := [(.pointer p0_r), (.slice p1_keeps.base p1_keeps.len p1_keeps.cap)]) (m := ref02_Rack_Restore p0_r p1_keeps) 80 (by kernel_rfl) rfl rfl rfl (fun Qf0 => ?_) Qf w hm
  clear hm w Qf
  unfold ref02_Rack_Restore
  refine SC.seq ?_
  refine SC.region' ?_
  refine KT.pv 6 (.pointer p0_r) ?_
  refine KT.nm 7 (fun x7 => ?_)
  refine KT.pv 8 (.pointer (some (Addr.add x7 7))) ?_
  refine KT.s ?_
  refine KT.nil ?_
  refine SX.seq ?_
  refine SC.seq ?_
  refine SC.region' ?_
  refine KT.pv 9 (.pointer p0_r) ?_
  refine KT.nm 10 (fun x10 => ?_)
  refine KT.pv 11 (.pointer (some (Addr.add x10 6))) ?_
  refine KT.s ?_
  refine KT.nil ?_
  refine SX.seq ?_
  refine SC.seq ?_
  refine SC.region' ?_
  refine KT.pv 4 (.int .i64 0) ?_
  refine KT.nil ?_
  refine SX.seq ?_
  refine SC.seq ?_
  refine SC.region' ?_
  refine KT.pv 5 (.int .i64 0) ?_
  refine KT.nil ?_
  refine SX.seq ?_
  refine SC.block ?_
  refine SC.loop (σ := (Int × Int)) (fun s1 => [(0, (.pointer p0_r)), (1, (.slice p1_keeps.base p1_keeps.len p1_keeps.cap)), (4, (.int .i64 s1.1)), (5, (.int .i64 s1.2))]) (.cons rfl (.cons rfl (.cons rfl (.cons rfl (.nil))))) (fun _ _ _ s1 => ?_)
  refine SC.seq ?_
  refine SC.seq ?_
  refine SC.region' ?_
  refine KT.pv 12 (.int .i64 s1.2) ?_
  refine KT.pv 13 (.pointer p0_r) ?_
  refine KT.nm 14 (fun x14 => ?_)
  refine KT.pv 15 (.pointer (some (Addr.add x14 3))) ?_
  refine KT.l 16 (fun x16 => ?_)
  refine KT.pv 17 (.int .i64 ((x16.len : Nat) : Int)) ?_
  refine KT.pv 18 (.bool (decide (s1.2 < ((x16.len : Nat) : Int)))) ?_
  refine KT.nil ?_
  refine SX.seq ?_
  refine SC.cond (b := decide (s1.2 < ((x16.len : Nat) : Int))) rfl ?_ ?_
  refine SC.skip ?_
  refine SX.seq ?_
  refine SC.seq ?_
  refine SC.block ?_
  refine SC.seq ?_
  refine SC.seq ?_
  refine SC.region' ?_
  refine KT.pv 21 (.pointer p0_r) ?_
  refine KT.nm 22 (fun x22 => ?_)
  refine KT.pv 23 (.pointer (some (Addr.add x22 3))) ?_
  refine KT.l 24 (fun x24 => ?_)
  refine KT.pv 25 (.int .i64 s1.2) ?_
  refine KT.oy rfl (OY.idx (d := 26) (s := x24) (i := s1.2) (size := 1) (elem := 46) _ _ _ rfl rfl rfl (by kernel_rfl) (by kernel_rfl) rfl rfl (fun x26 => ?_))
  refine KT.l 27 (fun x27 => ?_)
  refine KT.pv 28 (.int .i64 ((x27.len : Nat) : Int)) ?_
  refine KT.pv 29 (.bool (((x27.len : Nat) : Int) == 0)) ?_
  refine KT.nil ?_
  refine SX.seq ?_
  refine SC.cond (b := ((x27.len : Nat) : Int) == 0) rfl ?_ ?_
  refine SC.exit ?_
  refine SX.then_exit ?_
  refine SX.block_hit ?_
  refine SX.seq ?_
  refine SC.region' ?_
  refine KT.pv 19 (.int .i64 s1.2) ?_
  refine KT.pv 20 (.int .i64 (w64 (s1.2 + 1))) ?_
  refine KT.pv 5 (.int .i64 (w64 (s1.2 + 1))) ?_
  refine KT.nil ?_
  exact SX.loop_next (.cons rfl (.cons rfl (.cons rfl (.cons rfl (.nil)))))
  refine SC.skip ?_
  refine SX.seq ?_
  refine SC.seq ?_
  refine SC.seq ?_
  refine SC.join (β := (Bool)) (fun b2 => [(0, (.pointer p0_r)), (1, (.slice p1_keeps.base p1_keeps.len p1_keeps.cap)), (4, (.int .i64 s1.1)), (5, (.int .i64 s1.2)), (58, (.bool b2))]) (fun b2 => ?_) (fun j2 => ?_)
  refine SX.seq ?_
  refine SC.join (β := Unit) (fun b3 => [(0, (.pointer p0_r)), (1, (.slice p1_keeps.base p1_keeps.len p1_keeps.cap)), (4, (.int .i64 s1.1)), (5, (.int .i64 s1.2))]) (fun b3 => ?_) (fun j3 => ?_)
  refine SX.seq ?_
  refine SC.seq ?_
  refine SC.region' ?_
  refine KT.pv 72 (.pointer p0_r) ?_
  refine KT.nm 73 (fun x73 => ?_)
  refine KT.pv 74 (.pointer (some (Addr.add x73 3))) ?_
  refine KT.l 75 (fun x75 => ?_)
  refine KT.pv 76 (.int .i64 s1.2) ?_
  refine KT.oy rfl (OY.idx (d := 77) (s := x75) (i := s1.2) (size := 1) (elem := 46) _ _ _ rfl rfl rfl (by kernel_rfl) (by kernel_rfl) rfl rfl (fun x77 => ?_))
  refine KT.s ?_
  refine KT.nil ?_
  refine SX.seq ?_
  refine SC.region' ?_
  refine KT.pv 78 (.int .i64 s1.1) ?_
  refine KT.pv 79 (.int .i64 (w64 (s1.1 + 1))) ?_
  refine KT.pv 4 (.int .i64 (w64 (s1.1 + 1))) ?_
  refine KT.nil ?_
  refine SX.block ?_
  refine SX.seq ?_
  refine SC.region' ?_
  refine KT.pv 19 (.int .i64 s1.2) ?_
  refine KT.pv 20 (.int .i64 (w64 (s1.2 + 1))) ?_
  refine KT.pv 5 (.int .i64 (w64 (s1.2 + 1))) ?_
  refine KT.nil ?_
  exact SX.loop_next (.cons rfl (.cons rfl (.cons rfl (.cons rfl (.nil)))))
  refine SC.cond (b := b2) rfl ?_ ?_
  refine SC.draw 14 (fun f => Nat.beq f 13) rfl (by kernel_rfl) (fun S4 => ?_)
  refine KT.pvA 0 59 (.pointer p0_r) ?_
  refine KT.tp 1 (OY.nil (d := 60) (p := p0_r) _ rfl rfl rfl rfl (fun x60 => ?_))
  refine KT.pvA 2 61 (.pointer (some (Addr.add x60 2))) ?_
  refine KT.tk 3 (OY.ldI (d := 62) _ _ rfl rfl (by kernel_rfl) rfl rfl (fun x62 => ?_))
  refine KT.pvA 4 63 (.int .i64 s1.2) ?_
  refine KT.pvA 5 64 (.pointer p0_r) ?_
  refine KT.tp 6 (OY.nil (d := 65) (p := p0_r) _ rfl rfl rfl rfl (fun x65 => ?_))
  refine KT.pvA 7 66 (.pointer (some (Addr.add x65 3))) ?_
  refine KT.tk 8 (OY.ldI (d := 67) _ _ rfl rfl (by kernel_rfl) rfl rfl (fun x67 => ?_))
  refine KT.pvA 9 68 (.int .i64 s1.2) ?_
  refine KT.tp 10 (OY.idx (d := 69) (s := x67) (i := s1.2) (size := 1) (elem := 46) _ _ _ rfl rfl rfl (by kernel_rfl) (by kernel_rfl) rfl rfl (fun x69 => ?_))
  refine KT.tk 11 (OY.ldI (d := 70) _ _ rfl rfl (by kernel_rfl) rfl rfl (fun x70 => ?_))
  refine KT.tp 12 (OY.idx (d := 71) (s := x62) (i := s1.2) (size := 1) (elem := 46) _ _ _ rfl rfl rfl (by kernel_rfl) (by kernel_rfl) rfl rfl (fun x71 => ?_))
  refine KT.last 13 rfl (by kernel_rfl) rfl rfl (OW.st _ _ _ rfl rfl rfl rfl (by kernel_rfl) rfl ?_)
  refine KT.doneN (by kernel_rfl) ?_
  exact SX.leafS j3 (.cons rfl (.cons rfl (.cons rfl (.cons rfl (.nil)))))
  refine SC.skip ?_
  exact SX.leafS j3 (.cons rfl (.cons rfl (.cons rfl (.cons rfl (.nil)))))
  refine SC.draw 29 (fun _ => false) rfl (by kernel_rfl) (fun S5 => ?_)
  refine KT.pvA 0 30 (.slice p1_keeps.base p1_keeps.len p1_keeps.cap) ?_
  refine KT.pvA 1 31 (.int .i64 ((p1_keeps.len : Nat) : Int)) ?_
  refine KT.pvA 2 32 (.bool (decide (((p1_keeps.len : Nat) : Int) > 0))) ?_
  refine KT.pvA 3 33 (.bool (decide (((p1_keeps.len : Nat) : Int) > 0))) ?_
  refine KT.ite (b := decide (((p1_keeps.len : Nat) : Int) > 0)) 33 rfl ?_ ?_
  refine KT.pvA 4 34 (.slice p1_keeps.base p1_keeps.len p1_keeps.cap) ?_
  refine KT.pvA 5 35 (.int .i64 s1.1) ?_
  refine KT.pvA 6 36 (.slice p1_keeps.base p1_keeps.len p1_keeps.cap) ?_
  refine KT.pvA 7 37 (.int .i64 ((p1_keeps.len : Nat) : Int)) ?_
  refine KT.tp 8 (OY.rem (d := 38) (x := s1.1) (y := ((p1_keeps.len : Nat) : Int)) _ _ _ _ (Int.tmod s1.1 ((p1_keeps.len : Nat) : Int)) rfl rfl rfl rfl rfl rfl ?_)
  refine KT.tp 9 (OY.idx (d := 39) (s := p1_keeps) (i := Int.tmod s1.1 ((p1_keeps.len : Nat) : Int)) (size := 1) (elem := 3) _ _ _ rfl rfl rfl (by kernel_rfl) (by kernel_rfl) rfl rfl (fun x39 => ?_))
  refine KT.tk 10 (OY.ldI (d := 40) _ _ rfl rfl (by kernel_rfl) rfl rfl (fun x40 => ?_))
  refine KT.pvA 11 41 (.int .i64 (bAnd .i64 x40 1)) ?_
  refine KT.pvA 12 42 (.bool ((bAnd .i64 x40 1) == 1)) ?_
  refine KT.pvA 13 43 (.bool ((bAnd .i64 x40 1) == 1)) ?_
  refine KT.pvA 14 44 (.bool ((bAnd .i64 x40 1) == 1)) ?_
  refine KT.ite (b := (bAnd .i64 x40 1) == 1) 44 rfl ?_ ?_
  refine KT.pvA 15 45 (.pointer p0_r) ?_
  refine KT.tp 16 (OY.nil (d := 46) (p := p0_r) _ rfl rfl rfl rfl (fun x46 => ?_))
  refine KT.pvA 17 47 (.pointer (some (Addr.add x46 4))) ?_
  refine KT.tk 18 (OY.ldI (d := 48) _ _ rfl rfl (by kernel_rfl) rfl rfl (fun x48 => ?_))
  refine KT.pvA 19 49 (.int .i64 s1.2) ?_
  refine KT.pvA 20 50 (.pointer p0_r) ?_
  refine KT.tp 21 (OY.nil (d := 51) (p := p0_r) _ rfl rfl rfl rfl (fun x51 => ?_))
  refine KT.pvA 22 52 (.pointer (some (Addr.add x51 1))) ?_
  refine KT.tk 23 (OY.ldI (d := 53) _ _ rfl rfl (by kernel_rfl) rfl rfl (fun x53 => ?_))
  refine KT.tp 24 (OY.quo (d := 54) (x := s1.2) (y := x53) _ _ _ _ (w64 (Int.tdiv s1.2 x53)) rfl rfl rfl rfl rfl rfl ?_)
  refine KT.tp 25 (OY.idx (d := 55) (s := x48) (i := w64 (Int.tdiv s1.2 x53)) (size := 1) (elem := 4) _ _ _ rfl rfl rfl (by kernel_rfl) (by kernel_rfl) rfl rfl (fun x55 => ?_))
  refine KT.tk 26 (OY.ldI (d := 56) _ _ rfl rfl (by kernel_rfl) rfl rfl (fun x56 => ?_))
  refine KT.pvA 27 57 (.bool (!x56)) ?_
  refine KT.pvA 28 58 (.bool (!x56)) ?_
  refine KT.doneA (by kernel_rfl) ?_
  refine SX.sub (T' := [(0, (.pointer p0_r)), (1, (.slice p1_keeps.base p1_keeps.len p1_keeps.cap)), (4, (.int .i64 s1.1)), (5, (.int .i64 s1.2)), (58, (.bool (!x56)))]) (.cons rfl (.cons rfl (.cons rfl (.cons rfl (.cons rfl (.nil)))))) ?_
  exact SX.leafS j2 (.cons rfl (.cons rfl (.cons rfl (.cons rfl (.cons rfl (.nil))))))
  refine KT.skA 15 ?_
  refine KT.skA 16 ?_
  refine KT.skA 17 ?_
  refine KT.skA 18 ?_
  refine KT.skA 19 ?_
  refine KT.skA 20 ?_
  refine KT.skA 21 ?_
  refine KT.skA 22 ?_
  refine KT.skA 23 ?_
  refine KT.skA 24 ?_
  refine KT.skA 25 ?_
  refine KT.skA 26 ?_
  refine KT.skA 27 ?_
  refine KT.pvA 28 58 (.bool false) ?_
  refine KT.doneA (by kernel_rfl) ?_
  refine SX.sub (T' := [(0, (.pointer p0_r)), (1, (.slice p1_keeps.base p1_keeps.len p1_keeps.cap)), (4, (.int .i64 s1.1)), (5, (.int .i64 s1.2)), (58, (.bool false))]) (.cons rfl (.cons rfl (.cons rfl (.cons rfl (.cons rfl (.nil)))))) ?_
  exact SX.leafS j2 (.cons rfl (.cons rfl (.cons rfl (.cons rfl (.cons rfl (.nil))))))
  refine KT.skA 4 ?_
  refine KT.skA 5 ?_
  refine KT.skA 6 ?_
  refine KT.skA 7 ?_
  refine KT.skA 8 ?_
  refine KT.skA 9 ?_
  refine KT.skA 10 ?_
  refine KT.skA 11 ?_
  refine KT.skA 12 ?_
  refine KT.pvA 13 43 (.bool false) ?_
  refine KT.pvA 14 44 (.bool false) ?_
  refine KT.skA 15 ?_
  refine KT.skA 16 ?_
  refine KT.skA 17 ?_
  refine KT.skA 18 ?_
  refine KT.skA 19 ?_
  refine KT.skA 20 ?_
  refine KT.skA 21 ?_
  refine KT.skA 22 ?_
  refine KT.skA 23 ?_
  refine KT.skA 24 ?_
  refine KT.skA 25 ?_
  refine KT.skA 26 ?_
  refine KT.skA 27 ?_
  refine KT.pvA 28 58 (.bool false) ?_
  refine KT.doneA (by kernel_rfl) ?_
  refine SX.sub (T' := [(0, (.pointer p0_r)), (1, (.slice p1_keeps.base p1_keeps.len p1_keeps.cap)), (4, (.int .i64 s1.1)), (5, (.int .i64 s1.2)), (58, (.bool false))]) (.cons rfl (.cons rfl (.cons rfl (.cons rfl (.cons rfl (.nil)))))) ?_
  exact SX.leafS j2 (.cons rfl (.cons rfl (.cons rfl (.cons rfl (.cons rfl (.nil))))))
  refine SC.exit ?_
  refine SX.then_exit ?_
  refine SX.loop_exit ?_
  refine SX.block_hit ?_
  refine SX.endBody [] rfl ?_
  exact RS.nil rfl

set_option maxRecDepth 100000 in
theorem ref02_Rack_Load_sim (p0_r : (Option Addr)) (p1_disk : Int) (p2_image : Slc) (Qf : Int → World → Prop) (w : World) (hm : ref02_Rack_Load p0_r p1_disk p2_image Qf w) : Calls Try.prog 96 #[(.pointer p0_r), (.int .i64 p1_disk), (.slice p2_image.base p2_image.len p2_image.cap)] w (RetPost (Value.int .i64) Qf) := by
  refine calls_of (fn := Try.f96) (l := [(.pointer p0_r), (.int .i64 p1_disk), (.slice p2_image.base p2_image.len p2_image.cap)]) (m := ref02_Rack_Load p0_r p1_disk p2_image) 79 (by kernel_rfl) rfl rfl rfl (fun Qf0 => ?_) Qf w hm
  clear hm w Qf
  unfold ref02_Rack_Load
  refine SC.seq ?_
  refine SC.region' ?_
  refine KT.pv 6 (.int .i64 0) ?_
  refine KT.nil ?_
  refine SX.seq ?_
  refine SC.seq ?_
  refine SC.seq ?_
  refine SC.region' ?_
  refine KT.pv 10 (.int .i64 p1_disk) ?_
  refine KT.pv 11 (.bool (decide (p1_disk < 0))) ?_
  refine KT.pv 12 (.bool (decide (p1_disk < 0))) ?_
  refine KT.joinO (β := Bool) 7 (fun r1 => [(19, (.bool r1)), (0, (.pointer p0_r)), (1, (.int .i64 p1_disk)), (2, (.slice p2_image.base p2_image.len p2_image.cap))]) (fun r1 => ?_) (fun j1 => ?_)
  refine KT.nil ?_
  refine SX.seq ?_
  refine SC.cond (b := r1) rfl ?_ ?_
  refine SC.seq ?_
  refine SC.region' ?_
  refine KT.pv 6 (.int .i64 11) ?_
  refine KT.nil ?_
  refine SX.seq ?_
  refine SC.ret ?_
  refine SX.then_ret ?_
  refine SX.ret [.tmp 6] rfl ?_
  refine RS.tmp (.int .i64 11) rfl ?_
  exact RS.nil rfl
  refine SC.skip ?_
  refine SX.seq ?_
  refine SC.seq ?_
  refine SC.seq ?_
  refine SC.region' ?_
  refine KT.pv 7 (.int .i64 0) ?_
  refine KT.nil ?_
  refine SX.seq ?_
  refine SC.block ?_
  refine SC.loop (σ := (Int)) (fun s2 => [(0, (.pointer p0_r)), (1, (.int .i64 p1_disk)), (2, (.slice p2_image.base p2_image.len p2_image.cap)), (7, (.int .i64 s2))]) (.cons rfl (.cons rfl (.cons rfl (.cons rfl (.nil))))) (fun _ _ _ s2 => ?_)
  refine SC.seq ?_
  refine SC.seq ?_
  refine SC.region' ?_
  refine KT.pv 20 (.int .i64 s2) ?_
  refine KT.pv 21 (.pointer p0_r) ?_
  refine KT.nm 22 (fun x22 => ?_)
  refine KT.pv 23 (.pointer (some (Addr.add x22 1))) ?_
  refine KT.l 24 (fun x24 => ?_)
  refine KT.pv 25 (.bool (decide (s2 < x24))) ?_
  refine KT.nil ?_
  refine SX.seq ?_
  refine SC.cond (b := decide (s2 < x24)) rfl ?_ ?_
  refine SC.skip ?_
  refine SX.seq ?_
  refine SC.seq ?_
  refine SC.block ?_
  refine SC.seq ?_
  refine SC.region' ?_
  refine KT.nw 28 (fun ad => .slice (some ad) 64 64) 5 (fun x28 => ?_)
  refine KT.pv 8 (.slice (some x28) 64 64) ?_
  refine KT.nil ?_
  refine SX.seq ?_
  refine SC.seq ?_
  refine SC.seq ?_
  refine SC.region' ?_
  refine KT.pv 9 (.int .i64 0) ?_
  refine KT.nil ?_
  refine SX.seq ?_
  refine SC.block ?_
  refine SC.loop (σ := (Int)) (fun s3 => [(0, (.pointer p0_r)), (1, (.int .i64 p1_disk)), (2, (.slice p2_image.base p2_image.len p2_image.cap)), (7, (.int .i64 s2)), (8, (.slice (some x28) 64 64)), (9, (.int .i64 s3))]) (.cons rfl (.cons rfl (.cons rfl (.cons rfl (.cons rfl (.cons rfl (.nil))))))) (fun _ _ _ s3 => ?_)
  refine SC.seq ?_
  refine SC.seq ?_
  refine SC.region' ?_
  refine KT.pv 29 (.int .i64 s3) ?_
  refine KT.pv 30 (.bool (decide (s3 < 64))) ?_
  refine KT.pv 31 (.bool (decide (s3 < 64))) ?_
  refine KT.joinO (β := Bool) 8 (fun r4 => [(39, (.bool r4)), (0, (.pointer p0_r)), (1, (.int .i64 p1_disk)), (2, (.slice p2_image.base p2_image.len p2_image.cap)), (7, (.int .i64 s2)), (8, (.slice (some x28) 64 64)), (9, (.int .i64 s3))]) (fun r4 => ?_) (fun j4 => ?_)
  refine KT.nil ?_
  refine SX.seq ?_
  refine SC.cond (b := r4) rfl ?_ ?_
  refine SC.skip ?_
  refine SX.seq ?_
  refine SC.seq ?_
  refine SC.block ?_
  refine SC.region' ?_
  refine KT.pv 42 (.slice (some x28) 64 64) ?_
  refine KT.pv 43 (.int .i64 s3) ?_
  refine KT.pv 44 (.slice p2_image.base p2_image.len p2_image.cap) ?_
  refine KT.pv 45 (.int .i64 s2) ?_
  refine KT.pv 46 (.int .i64 (w64 (s2 * 64))) ?_
  refine KT.pv 47 (.int .i64 s3) ?_
  refine KT.pv 48 (.int .i64 (w64 ((w64 (s2 * 64)) + s3))) ?_
  refine KT.oy rfl (OY.idx (d := 49) (s := p2_image) (i := w64 ((w64 (s2 * 64)) + s3)) (size := 1) (elem := 5) _ _ _ rfl rfl rfl (by kernel_rfl) (by kernel_rfl) rfl rfl (fun x49 => ?_))
  refine KT.l 50 (fun x50 => ?_)
  refine KT.oy rfl (OY.idx (d := 51) (s := ⟨some x28, 64, 64⟩) (i := s3) (size := 1) (elem := 5) _ _ _ rfl rfl rfl (by kernel_rfl) (by kernel_rfl) rfl rfl (fun x51 => ?_))
  refine KT.s ?_
  refine KT.nil ?_
  refine SX.block ?_
  refine SX.seq ?_
  refine SC.region' ?_
  refine KT.pv 40 (.int .i64 s3) ?_
  refine KT.pv 41 (.int .i64 (w64 (s3 + 1))) ?_
  refine KT.pv 9 (.int .i64 (w64 (s3 + 1))) ?_
  refine KT.nil ?_
  exact SX.loop_next (.cons rfl (.cons rfl (.cons rfl (.cons rfl (.cons rfl (.cons rfl (.nil)))))))
  refine SC.exit ?_
  refine SX.then_exit ?_
  refine SX.loop_exit ?_
  refine SX.block_hit ?_
  refine SX.seq ?_
  refine SC.seq ?_
  refine SC.draw 15 (fun f => Nat.beq f 14) rfl (by kernel_rfl) (fun S5 => ?_)
  refine KT.pvA 0 52 (.pointer p0_r) ?_
  refine KT.tp 1 (OY.nil (d := 53) (p := p0_r) _ rfl rfl rfl rfl (fun x53 => ?_))
  refine KT.pvA 2 54 (.pointer (some (Addr.add x53 2))) ?_
  refine KT.tk 3 (OY.ldI (d := 55) _ _ rfl rfl (by kernel_rfl) rfl rfl (fun x55 => ?_))
  refine KT.pvA 4 56 (.int .i64 p1_disk) ?_
  refine KT.pvA 5 57 (.pointer p0_r) ?_
  refine KT.tp 6 (OY.nil (d := 58) (p := p0_r) _ rfl rfl rfl rfl (fun x58 => ?_))
  refine KT.pvA 7 59 (.pointer (some (Addr.add x58 1))) ?_
  refine KT.tk 8 (OY.ldI (d := 60) _ _ rfl rfl (by kernel_rfl) rfl rfl (fun x60 => ?_))
  refine KT.pvA 9 61 (.int .i64 (w64 (p1_disk * x60))) ?_
  refine KT.pvA 10 62 (.int .i64 s2) ?_
  refine KT.pvA 11 63 (.int .i64 (w64 ((w64 (p1_disk * x60)) + s2))) ?_
  refine KT.pvA 12 64 (.slice (some x28) 64 64) ?_
  refine KT.tp 13 (OY.idx (d := 65) (s := x55) (i := w64 ((w64 (p1_disk * x60)) + s2)) (size := 1) (elem := 46) _ _ _ rfl rfl rfl (by kernel_rfl) (by kernel_rfl) rfl rfl (fun x65 => ?_))
  refine KT.last 14 rfl (by kernel_rfl) rfl rfl (OW.st _ _ _ rfl rfl rfl rfl (by kernel_rfl) rfl ?_)
  refine KT.doneN (by kernel_rfl) ?_
  refine SX.seq ?_
  refine SC.draw 14 (fun f => Nat.beq f 13) rfl (by kernel_rfl) (fun S6 => ?_)
  refine KT.pvA 0 66 (.pointer p0_r) ?_
  refine KT.tp 1 (OY.nil (d := 67) (p := p0_r) _ rfl rfl rfl rfl (fun x67 => ?_))
  refine KT.pvA 2 68 (.pointer (some (Addr.add x67 3))) ?_
  refine KT.tk 3 (OY.ldI (d := 69) _ _ rfl rfl (by kernel_rfl) rfl rfl (fun x69 => ?_))
  refine KT.pvA 4 70 (.int .i64 p1_disk) ?_
  refine KT.pvA 5 71 (.pointer p0_r) ?_
  refine KT.tp 6 (OY.nil (d := 72) (p := p0_r) _ rfl rfl rfl rfl (fun x72 => ?_))
  refine KT.pvA 7 73 (.pointer (some (Addr.add x72 1))) ?_
  refine KT.tk 8 (OY.ldI (d := 74) _ _ rfl rfl (by kernel_rfl) rfl rfl (fun x74 => ?_))
  refine KT.pvA 9 75 (.int .i64 (w64 (p1_disk * x74))) ?_
  refine KT.pvA 10 76 (.int .i64 s2) ?_
  refine KT.pvA 11 77 (.int .i64 (w64 ((w64 (p1_disk * x74)) + s2))) ?_
  refine KT.tp 12 (OY.idx (d := 78) (s := x69) (i := w64 ((w64 (p1_disk * x74)) + s2)) (size := 1) (elem := 46) _ _ _ rfl rfl rfl (by kernel_rfl) (by kernel_rfl) rfl rfl (fun x78 => ?_))
  refine KT.last 13 rfl (by kernel_rfl) rfl rfl (OW.st _ _ _ rfl rfl rfl rfl (by kernel_rfl) rfl ?_)
  refine KT.doneN (by kernel_rfl) ?_
  refine SX.sub (T' := [(0, (.pointer p0_r)), (1, (.int .i64 p1_disk)), (2, (.slice p2_image.base p2_image.len p2_image.cap)), (7, (.int .i64 s2))]) (.cons rfl (.cons rfl (.cons rfl (.cons rfl (.nil))))) ?_
  refine SX.block ?_
  refine SX.seq ?_
  refine SC.region' ?_
  refine KT.pv 26 (.int .i64 s2) ?_
  refine KT.pv 27 (.int .i64 (w64 (s2 + 1))) ?_
  refine KT.pv 7 (.int .i64 (w64 (s2 + 1))) ?_
  refine KT.nil ?_
  exact SX.loop_next (.cons rfl (.cons rfl (.cons rfl (.cons rfl (.nil)))))
  refine KT.ite (b := decide (s3 < 64)) 31 rfl ?_ ?_
  refine KT.pv 32 (.int .i64 s2) ?_
  refine KT.pv 33 (.int .i64 (w64 (s2 * 64))) ?_
  refine KT.pv 34 (.int .i64 s3) ?_
  refine KT.pv 35 (.int .i64 (w64 ((w64 (s2 * 64)) + s3))) ?_
  refine KT.pv 36 (.slice p2_image.base p2_image.len p2_image.cap) ?_
  refine KT.pv 37 (.int .i64 ((p2_image.len : Nat) : Int)) ?_
  refine KT.pv 38 (.bool (decide ((w64 ((w64 (s2 * 64)) + s3)) < ((p2_image.len : Nat) : Int)))) ?_
  refine KT.pv 39 (.bool (decide ((w64 ((w64 (s2 * 64)) + s3)) < ((p2_image.len : Nat) : Int)))) ?_
  exact KT.leafO j4 (.cons rfl (.cons rfl (.cons rfl (.cons rfl (.cons rfl (.cons rfl (.cons rfl (.nil))))))))
  refine KT.sk ?_
  refine KT.sk ?_
  refine KT.sk ?_
  refine KT.sk ?_
  refine KT.sk ?_
  refine KT.sk ?_
  refine KT.sk ?_
  refine KT.pv 39 (.bool false) ?_
  exact KT.leafO j4 (.cons rfl (.cons rfl (.cons rfl (.cons rfl (.cons rfl (.cons rfl (.cons rfl (.nil))))))))
  refine SC.exit ?_
  refine SX.then_exit ?_
  refine SX.loop_exit ?_
  refine SX.block_hit ?_
  refine SX.seq ?_
  refine SC.seq ?_
  refine SC.region' ?_
  refine KT.pv 6 (.int .i64 0) ?_
  refine KT.nil ?_
  refine SX.seq ?_
  refine SC.ret ?_
  refine SX.ret [.tmp 6] rfl ?_
  refine RS.tmp (.int .i64 0) rfl ?_
  exact RS.nil rfl
  refine KT.ite (b := decide (p1_disk < 0)) 12 rfl ?_ ?_
  refine KT.sk ?_
  refine KT.sk ?_
  refine KT.sk ?_
  refine KT.sk ?_
  refine KT.sk ?_
  refine KT.sk ?_
  refine KT.pv 19 (.bool true) ?_
  exact KT.leafO j1 (.cons rfl (.cons rfl (.cons rfl (.cons rfl (.nil)))))
  refine KT.pv 13 (.int .i64 p1_disk) ?_
  refine KT.pv 14 (.pointer p0_r) ?_
  refine KT.nm 15 (fun x15 => ?_)
  refine KT.pv 16 (.pointer (some x15)) ?_
  refine KT.l 17 (fun x17 => ?_)
  refine KT.pv 18 (.bool (decide (p1_disk ≥ x17))) ?_
  refine KT.pv 19 (.bool (decide (p1_disk ≥ x17))) ?_
  exact KT.leafO j1 (.cons rfl (.cons rfl (.cons rfl (.cons rfl (.nil)))))

set_option maxRecDepth 100000 in
theorem law02_told_sim (p0_r : (Option Addr)) (p1_m : (Option Addr)) (p2_c : (Int × Int × Int × Slc × Slc)) (Qf : Bool → World → Prop) (w : World) (hm : law02_told (cvOf Try.prog) p0_r p1_m p2_c Qf w) : Calls Try.prog 55 #[(.pointer p0_r), (.pointer p1_m), (.agg #[(.int .i64 p2_c.1), (.int .i64 p2_c.2.1), (.int .i64 p2_c.2.2.1), (.slice p2_c.2.2.2.1.base p2_c.2.2.2.1.len p2_c.2.2.2.1.cap), (.slice p2_c.2.2.2.2.base p2_c.2.2.2.2.len p2_c.2.2.2.2.cap)])] w (RetPost Value.bool Qf) := by
  refine calls_of (fn := Try.f55) (l := [(.pointer p0_r), (.pointer p1_m), (.agg #[(.int .i64 p2_c.1), (.int .i64 p2_c.2.1), (.int .i64 p2_c.2.2.1), (.slice p2_c.2.2.2.1.base p2_c.2.2.2.1.len p2_c.2.2.2.1.cap), (.slice p2_c.2.2.2.2.base p2_c.2.2.2.2.len p2_c.2.2.2.2.cap)])]) (m := law02_told (cvOf Try.prog) p0_r p1_m p2_c) 190 (by kernel_rfl) rfl rfl rfl (fun Qf0 => ?_) Qf w hm
  clear hm w Qf
  unfold law02_told
  refine SC.seq ?_
  refine SC.region' ?_
  refine KT.nw 5 (fun ad => .pointer (some ad)) 92 (fun x5 => ?_)
  refine KT.pv 6 (.bool false) ?_
  refine KT.nil ?_
  refine SX.seq ?_
  refine SC.seq ?_
  refine SC.seq ?_
  refine SC.region' ?_
  refine KT.pv 17 (.pointer (some x5)) ?_
  refine KT.l 18 (fun x18 => ?_)
  refine KT.nil ?_
  refine SX.seq ?_
  refine SC.join (β := Unit) (fun b1 => [(0, (.pointer p0_r)), (1, (.pointer p1_m)), (5, (.pointer (some x5)))]) (fun b1 => ?_) (fun j1 => ?_)
  refine SX.seq ?_
  refine SC.seq ?_
  refine SC.draw 19 (fun _ => false) rfl (by kernel_rfl) (fun S2 => ?_)
  refine KT.pvA 0 172 (.pointer p0_r) ?_
  refine KT.pvA 2 174 (.pointer p1_m) ?_
  refine KT.tp 3 (OY.nil (d := 175) (p := p1_m) _ rfl rfl rfl rfl (fun x175 => ?_))
  refine KT.pvA 4 176 (.pointer (some (Addr.add x175 7))) ?_
  refine KT.tk 5 (OY.ldI (d := 177) _ _ rfl rfl (by kernel_rfl) rfl rfl (fun x177 => ?_))
  refine KT.one 1 rfl (by kernel_rfl) rfl (OW.step (OW.call (d := 173) (enc := Value.bool) 56 #[(.pointer p0_r)] rfl (fun _ => by kernel_rfl) (fun Qf w => device_Rack_Off_sim p0_r Qf w) rfl rfl (fun x173 => ?_)))
  refine KT.and ?_
  refine KT.pvA 6 178 (.bool (x173 == x177)) ?_
  refine KT.pvA 7 179 (.bool (x173 == x177)) ?_
  refine KT.ite (b := x173 == x177) 179 rfl ?_ ?_
  refine KT.pvA 8 180 (.pointer p0_r) ?_
  refine KT.pvA 9 181 (.pointer (some (Addr.add x5 1))) ?_
  refine KT.tk 10 (OY.ldI (d := 182) _ _ rfl rfl (by kernel_rfl) rfl rfl (fun x182 => ?_))
  refine KT.pvA 12 184 (.pointer p1_m) ?_
  refine KT.pvA 13 185 (.pointer (some (Addr.add x5 1))) ?_
  refine KT.tk 14 (OY.ldI (d := 186) _ _ rfl rfl (by kernel_rfl) rfl rfl (fun x186 => ?_))
  refine KT.one 11 rfl (by kernel_rfl) rfl (OW.step (OW.call (d := 183) (enc := Value.bool) 54 #[(.pointer p0_r), (.int .i64 x182)] rfl (fun _ => by kernel_rfl) (fun Qf w => device_Rack_Failed_sim p0_r x182 Qf w) rfl rfl (fun x183 => ?_)))
  refine KT.and ?_
  refine KT.one 15 rfl (by kernel_rfl) rfl (OW.step (OW.call (d := 187) (enc := Value.bool) 58 #[(.pointer p1_m), (.int .i64 x186)] rfl (fun _ => by kernel_rfl) (fun Qf w => ref02_Rack_Failed_sim p1_m x186 Qf w) rfl rfl (fun x187 => ?_)))
  refine KT.and ?_
  refine KT.pvA 16 188 (.bool (x183 == x187)) ?_
  refine KT.pvA 17 189 (.bool (x183 == x187)) ?_
  refine KT.pvA 18 6 (.bool (x183 == x187)) ?_
  refine KT.doneA (by kernel_rfl) ?_
  refine SX.seq ?_
  refine SC.ret ?_
  refine SX.ret [.tmp 6] rfl ?_
  refine RS.tmp (.bool (x183 == x187)) rfl ?_
  exact RS.nil rfl
  refine KT.skA 8 ?_
  refine KT.skA 9 ?_
  refine KT.skA 10 ?_
  refine KT.skA 11 ?_
  refine KT.skA 12 ?_
  refine KT.skA 13 ?_
  refine KT.skA 14 ?_
  refine KT.skA 15 ?_
  refine KT.skA 16 ?_
  refine KT.pvA 17 189 (.bool false) ?_
  refine KT.pvA 18 6 (.bool false) ?_
  refine KT.doneA (by kernel_rfl) ?_
  refine SX.seq ?_
  refine SC.ret ?_
  refine SX.ret [.tmp 6] rfl ?_
  refine RS.tmp (.bool false) rfl ?_
  exact RS.nil rfl
  refine SC.block ?_
  refine SC.seq ?_
  refine SC.region' ?_
  refine KT.pv 20 (.bool (x18 == 0)) ?_
  refine KT.pv 19 (.bool (x18 == 0)) ?_
  refine KT.nil ?_
  refine SX.seq ?_
  refine SC.cond (b := x18 == 0) rfl ?_ ?_
  refine SC.seq ?_
  refine SC.region' ?_
  refine KT.pv 22 (.pointer p0_r) ?_
  refine KT.pv 23 (.pointer (some (Addr.add x5 1))) ?_
  refine KT.l 24 (fun x24 => ?_)
  refine KT.pv 25 (.pointer (some (Addr.add x5 2))) ?_
  refine KT.l 26 (fun x26 => ?_)
  refine KT.cl (fun y : (Slc × Int) => (.tuple #[(.slice y.1.base y.1.len y.1.cap), (.int .i64 y.2)])) 27 29 #[(.pointer p0_r), (.int .i64 x24), (.int .i64 x26)] (device_Rack_Read_sim p0_r x24 x26) (fun x27 => ?_)
  refine KT.pv 21 (.tuple #[(.slice x27.1.base x27.1.len x27.1.cap), (.int .i64 x27.2)]) ?_
  refine KT.pv 28 (.slice x27.1.base x27.1.len x27.1.cap) ?_
  refine KT.pv 29 (.int .i64 x27.2) ?_
  refine KT.pv 7 (.slice x27.1.base x27.1.len x27.1.cap) ?_
  refine KT.pv 8 (.int .i64 x27.2) ?_
  refine KT.nil ?_
  refine SX.seq ?_
  refine SC.seq ?_
  refine SC.region' ?_
  refine KT.pv 31 (.pointer p1_m) ?_
  refine KT.pv 32 (.pointer (some (Addr.add x5 1))) ?_
  refine KT.l 33 (fun x33 => ?_)
  refine KT.pv 34 (.pointer (some (Addr.add x5 2))) ?_
  refine KT.l 35 (fun x35 => ?_)
  refine KT.cl (fun y : (Slc × Int) => (.tuple #[(.slice y.1.base y.1.len y.1.cap), (.int .i64 y.2)])) 36 88 #[(.pointer p1_m), (.int .i64 x33), (.int .i64 x35)] (ref02_Rack_Read_sim p1_m x33 x35) (fun x36 => ?_)
  refine KT.pv 30 (.tuple #[(.slice x36.1.base x36.1.len x36.1.cap), (.int .i64 x36.2)]) ?_
  refine KT.pv 37 (.slice x36.1.base x36.1.len x36.1.cap) ?_
  refine KT.pv 38 (.int .i64 x36.2) ?_
  refine KT.pv 9 (.slice x36.1.base x36.1.len x36.1.cap) ?_
  refine KT.pv 10 (.int .i64 x36.2) ?_
  refine KT.nil ?_
  refine SX.sub (T' := [(7, (.slice x27.1.base x27.1.len x27.1.cap)), (8, (.int .i64 x27.2)), (9, (.slice x36.1.base x36.1.len x36.1.cap)), (10, (.int .i64 x36.2))]) (.cons rfl (.cons rfl (.cons rfl (.cons rfl (.nil))))) ?_
  refine SX.seq ?_
  refine SC.seq ?_
  refine SC.region' ?_
  refine KT.pv 39 (.slice x27.1.base x27.1.len x27.1.cap) ?_
  refine KT.pv 40 (.slice x36.1.base x36.1.len x36.1.cap) ?_
  refine KT.cl Value.bool 41 30 #[(.slice x27.1.base x27.1.len x27.1.cap), (.slice x36.1.base x36.1.len x36.1.cap)] (ref00_SameBytes_sim x27.1 x36.1) (fun x41 => ?_)
  refine KT.pv 42 (.bool x41) ?_
  refine KT.joinO (β := Bool) 4 (fun r3 => [(46, (.bool r3))]) (fun r3 => ?_) (fun j3 => ?_)
  refine KT.pv 6 (.bool r3) ?_
  refine KT.nil ?_
  refine SX.seq ?_
  refine SC.ret ?_
  refine SX.block_ret ?_
  refine SX.rightM ?_
  refine SX.then_ret ?_
  refine SX.ret [.tmp 6] rfl ?_
  refine RS.tmp (.bool r3) rfl ?_
  exact RS.nil rfl
  refine KT.ite (b := x41) 42 rfl ?_ ?_
  refine KT.pv 43 (.int .i64 x27.2) ?_
  refine KT.pv 44 (.int .i64 x36.2) ?_
  refine KT.pv 45 (.bool (x27.2 == x36.2)) ?_
  refine KT.pv 46 (.bool (x27.2 == x36.2)) ?_
  exact KT.leafO j3 (.cons rfl (.nil))
  refine KT.sk ?_
  refine KT.sk ?_
  refine KT.sk ?_
  refine KT.pv 46 (.bool false) ?_
  exact KT.leafO j3 (.cons rfl (.nil))
  refine SC.seq ?_
  refine SC.region' ?_
  refine KT.pv 48 (.bool (x18 == 1)) ?_
  refine KT.pv 47 (.bool (x18 == 1)) ?_
  refine KT.nil ?_
  refine SX.seq ?_
  refine SC.cond (b := x18 == 1) rfl ?_ ?_
  refine SC.seq ?_
  refine SC.region' ?_
  refine KT.pv 49 (.pointer (some (Addr.add x5 3))) ?_
  refine KT.l 50 (fun x50 => ?_)
  refine KT.cl vS 51 89 #[(.slice x50.base x50.len x50.cap)] (ref00_CopyBytes_sim x50) (fun x51 => ?_)
  refine KT.pv 11 (.slice x51.base x51.len x51.cap) ?_
  refine KT.nil ?_
  refine SX.seq ?_
  refine SC.seq ?_
  refine SC.draw 23 (fun _ => false) rfl (by kernel_rfl) (fun S4 => ?_)
  refine KT.pvA 0 52 (.pointer p0_r) ?_
  refine KT.pvA 1 53 (.pointer (some (Addr.add x5 1))) ?_
  refine KT.tk 2 (OY.ldI (d := 54) _ _ rfl rfl (by kernel_rfl) rfl rfl (fun x54 => ?_))
  refine KT.pvA 3 55 (.pointer (some (Addr.add x5 2))) ?_
  refine KT.tk 4 (OY.ldI (d := 56) _ _ rfl rfl (by kernel_rfl) rfl rfl (fun x56 => ?_))
  refine KT.pvA 5 57 (.slice x51.base x51.len x51.cap) ?_
  refine KT.pvA 7 59 (.pointer p1_m) ?_
  refine KT.pvA 8 60 (.pointer (some (Addr.add x5 1))) ?_
  refine KT.tk 9 (OY.ldI (d := 61) _ _ rfl rfl (by kernel_rfl) rfl rfl (fun x61 => ?_))
  refine KT.pvA 10 62 (.pointer (some (Addr.add x5 2))) ?_
  refine KT.tk 11 (OY.ldI (d := 63) _ _ rfl rfl (by kernel_rfl) rfl rfl (fun x63 => ?_))
  refine KT.pvA 12 64 (.pointer (some (Addr.add x5 3))) ?_
  refine KT.tk 13 (OY.ldI (d := 65) _ _ rfl rfl (by kernel_rfl) rfl rfl (fun x65 => ?_))
  refine KT.one 6 rfl (by kernel_rfl) rfl (OW.step (OW.call (d := 58) (enc := (Value.int .i64)) 39 #[(.pointer p0_r), (.int .i64 x54), (.int .i64 x56), (.slice x51.base x51.len x51.cap)] rfl (fun _ => by kernel_rfl) (fun Qf w => device_Rack_Write_sim p0_r x54 x56 x51 Qf w) rfl rfl (fun x58 => ?_)))
  refine KT.and ?_
  refine KT.one 14 rfl (by kernel_rfl) rfl (OW.step (OW.call (d := 66) (enc := (Value.int .i64)) 90 #[(.pointer p1_m), (.int .i64 x61), (.int .i64 x63), (.slice x65.base x65.len x65.cap)] rfl (fun _ => by kernel_rfl) (fun Qf w => ref02_Rack_Write_sim p1_m x61 x63 x65 Qf w) rfl rfl (fun x66 => ?_)))
  refine KT.and ?_
  refine KT.pvA 15 67 (.bool (x58 == x66)) ?_
  refine KT.pvA 16 68 (.bool (x58 == x66)) ?_
  refine KT.ite (b := x58 == x66) 68 rfl ?_ ?_
  refine KT.pvA 17 69 (.slice x51.base x51.len x51.cap) ?_
  refine KT.pvA 18 70 (.pointer (some (Addr.add x5 3))) ?_
  refine KT.tk 19 (OY.ldI (d := 71) _ _ rfl rfl (by kernel_rfl) rfl rfl (fun x71 => ?_))
  refine KT.one 20 rfl (by kernel_rfl) rfl (OW.step (OW.call (d := 72) (enc := Value.bool) 30 #[(.slice x51.base x51.len x51.cap), (.slice x71.base x71.len x71.cap)] rfl (fun _ => by kernel_rfl) (fun Qf w => ref00_SameBytes_sim x51 x71 Qf w) rfl rfl (fun x72 => ?_)))
  refine KT.and ?_
  refine KT.pvA 21 73 (.bool x72) ?_
  refine KT.pvA 22 6 (.bool x72) ?_
  refine KT.doneA (by kernel_rfl) ?_
  refine SX.sub (T' := [(6, (.bool x72))]) (.cons rfl (.nil)) ?_
  refine SX.seq ?_
  refine SC.ret ?_
  refine SX.block_ret ?_
  refine SX.rightM ?_
  refine SX.then_ret ?_
  refine SX.ret [.tmp 6] rfl ?_
  refine RS.tmp (.bool x72) rfl ?_
  exact RS.nil rfl
  refine KT.skA 17 ?_
  refine KT.skA 18 ?_
  refine KT.skA 19 ?_
  refine KT.skA 20 ?_
  refine KT.pvA 21 73 (.bool false) ?_
  refine KT.pvA 22 6 (.bool false) ?_
  refine KT.doneA (by kernel_rfl) ?_
  refine SX.sub (T' := [(6, (.bool false))]) (.cons rfl (.nil)) ?_
  refine SX.seq ?_
  refine SC.ret ?_
  refine SX.block_ret ?_
  refine SX.rightM ?_
  refine SX.then_ret ?_
  refine SX.ret [.tmp 6] rfl ?_
  refine RS.tmp (.bool false) rfl ?_
  exact RS.nil rfl
  refine SC.seq ?_
  refine SC.region' ?_
  refine KT.pv 75 (.bool (x18 == 2)) ?_
  refine KT.pv 74 (.bool (x18 == 2)) ?_
  refine KT.nil ?_
  refine SX.seq ?_
  refine SC.cond (b := x18 == 2) rfl ?_ ?_
  refine SC.seq ?_
  refine SC.draw 10 (fun _ => false) rfl (by kernel_rfl) (fun S5 => ?_)
  refine KT.pvA 0 76 (.pointer p0_r) ?_
  refine KT.pvA 1 77 (.pointer (some (Addr.add x5 1))) ?_
  refine KT.tk 2 (OY.ldI (d := 78) _ _ rfl rfl (by kernel_rfl) rfl rfl (fun x78 => ?_))
  refine KT.pvA 4 80 (.pointer p1_m) ?_
  refine KT.pvA 5 81 (.pointer (some (Addr.add x5 1))) ?_
  refine KT.tk 6 (OY.ldI (d := 82) _ _ rfl rfl (by kernel_rfl) rfl rfl (fun x82 => ?_))
  refine KT.one 3 rfl (by kernel_rfl) rfl (OW.step (OW.call (d := 79) (enc := (Value.int .i64)) 42 #[(.pointer p0_r), (.int .i64 x78)] rfl (fun _ => by kernel_rfl) (fun Qf w => device_Rack_Flush_sim p0_r x78 Qf w) rfl rfl (fun x79 => ?_)))
  refine KT.and ?_
  refine KT.one 7 rfl (by kernel_rfl) rfl (OW.step (OW.call (d := 83) (enc := (Value.int .i64)) 91 #[(.pointer p1_m), (.int .i64 x82)] rfl (fun _ => by kernel_rfl) (fun Qf w => ref02_Rack_Flush_sim p1_m x82 Qf w) rfl rfl (fun x83 => ?_)))
  refine KT.and ?_
  refine KT.pvA 8 84 (.bool (x79 == x83)) ?_
  refine KT.pvA 9 6 (.bool (x79 == x83)) ?_
  refine KT.doneA (by kernel_rfl) ?_
  refine SX.seq ?_
  refine SC.ret ?_
  refine SX.block_ret ?_
  refine SX.rightM ?_
  refine SX.then_ret ?_
  refine SX.ret [.tmp 6] rfl ?_
  refine RS.tmp (.bool (x79 == x83)) rfl ?_
  exact RS.nil rfl
  refine SC.seq ?_
  refine SC.region' ?_
  refine KT.pv 86 (.bool (x18 == 3)) ?_
  refine KT.pv 85 (.bool (x18 == 3)) ?_
  refine KT.nil ?_
  refine SX.seq ?_
  refine SC.cond (b := x18 == 3) rfl ?_ ?_
  refine SC.seq ?_
  refine SC.region' ?_
  refine KT.pv 87 (.pointer p0_r) ?_
  refine KT.pv 88 (.pointer (some (Addr.add x5 2))) ?_
  refine KT.l 89 (fun x89 => ?_)
  refine KT.cl (fun y : Unit => (.tuple #[])) 90 43 #[(.pointer p0_r), (.int .i64 x89)] (device_Rack_Arm_sim p0_r x89) (fun x90 => ?_)
  refine KT.nil ?_
  refine SX.seq ?_
  refine SC.region' ?_
  refine KT.pv 91 (.pointer p1_m) ?_
  refine KT.pv 92 (.pointer (some (Addr.add x5 2))) ?_
  refine KT.l 93 (fun x93 => ?_)
  refine KT.cl (fun y : Unit => (.tuple #[])) 94 92 #[(.pointer p1_m), (.int .i64 x93)] (ref02_Rack_Arm_sim p1_m x93) (fun x94 => ?_)
  refine KT.nil ?_
  refine SX.block ?_
  exact SX.leafS j1 (.cons rfl (.cons rfl (.cons rfl (.nil))))
  refine SC.seq ?_
  refine SC.region' ?_
  refine KT.pv 96 (.bool (x18 == 4)) ?_
  refine KT.pv 95 (.bool (x18 == 4)) ?_
  refine KT.nil ?_
  refine SX.seq ?_
  refine SC.cond (b := x18 == 4) rfl ?_ ?_
  refine SC.seq ?_
  refine SC.draw 14 (fun _ => false) rfl (by kernel_rfl) (fun S6 => ?_)
  refine KT.pvA 0 97 (.pointer p0_r) ?_
  refine KT.pvA 1 98 (.pointer (some (Addr.add x5 1))) ?_
  refine KT.tk 2 (OY.ldI (d := 99) _ _ rfl rfl (by kernel_rfl) rfl rfl (fun x99 => ?_))
  refine KT.pvA 3 100 (.pointer (some (Addr.add x5 2))) ?_
  refine KT.tk 4 (OY.ldI (d := 101) _ _ rfl rfl (by kernel_rfl) rfl rfl (fun x101 => ?_))
  refine KT.pvA 6 103 (.pointer p1_m) ?_
  refine KT.pvA 7 104 (.pointer (some (Addr.add x5 1))) ?_
  refine KT.tk 8 (OY.ldI (d := 105) _ _ rfl rfl (by kernel_rfl) rfl rfl (fun x105 => ?_))
  refine KT.pvA 9 106 (.pointer (some (Addr.add x5 2))) ?_
  refine KT.tk 10 (OY.ldI (d := 107) _ _ rfl rfl (by kernel_rfl) rfl rfl (fun x107 => ?_))
  refine KT.one 5 rfl (by kernel_rfl) rfl (OW.step (OW.call (d := 102) (enc := (Value.int .i64)) 34 #[(.pointer p0_r), (.int .i64 x99), (.int .i64 x101)] rfl (fun _ => by kernel_rfl) (fun Qf w => device_Rack_Doom_sim p0_r x99 x101 Qf w) rfl rfl (fun x102 => ?_)))
  refine KT.and ?_
  refine KT.one 11 rfl (by kernel_rfl) rfl (OW.step (OW.call (d := 108) (enc := (Value.int .i64)) 93 #[(.pointer p1_m), (.int .i64 x105), (.int .i64 x107)] rfl (fun _ => by kernel_rfl) (fun Qf w => ref02_Rack_Doom_sim p1_m x105 x107 Qf w) rfl rfl (fun x108 => ?_)))
  refine KT.and ?_
  refine KT.pvA 12 109 (.bool (x102 == x108)) ?_
  refine KT.pvA 13 6 (.bool (x102 == x108)) ?_
  refine KT.doneA (by kernel_rfl) ?_
  refine SX.sub (T' := [(6, (.bool (x102 == x108)))]) (.cons rfl (.nil)) ?_
  refine SX.seq ?_
  refine SC.ret ?_
  refine SX.block_ret ?_
  refine SX.rightM ?_
  refine SX.then_ret ?_
  refine SX.ret [.tmp 6] rfl ?_
  refine RS.tmp (.bool (x102 == x108)) rfl ?_
  exact RS.nil rfl
  refine SC.seq ?_
  refine SC.region' ?_
  refine KT.pv 111 (.bool (x18 == 5)) ?_
  refine KT.pv 110 (.bool (x18 == 5)) ?_
  refine KT.nil ?_
  refine SX.seq ?_
  refine SC.cond (b := x18 == 5) rfl ?_ ?_
  refine SC.seq ?_
  refine SC.region' ?_
  refine KT.pv 112 (.pointer p0_r) ?_
  refine KT.pv 113 (.pointer (some (Addr.add x5 4))) ?_
  refine KT.l 114 (fun x114 => ?_)
  refine KT.cl vS 115 94 #[(.slice x114.base x114.len x114.cap)] (ref00_CopyInts_sim x114) (fun x115 => ?_)
  refine KT.cl (fun y : Unit => (.tuple #[])) 116 40 #[(.pointer p0_r), (.slice x115.base x115.len x115.cap)] (device_Rack_Restore_sim p0_r x115) (fun x116 => ?_)
  refine KT.nil ?_
  refine SX.seq ?_
  refine SC.region' ?_
  refine KT.pv 117 (.pointer p1_m) ?_
  refine KT.pv 118 (.pointer (some (Addr.add x5 4))) ?_
  refine KT.l 119 (fun x119 => ?_)
  refine KT.cl (fun y : Unit => (.tuple #[])) 120 95 #[(.pointer p1_m), (.slice x119.base x119.len x119.cap)] (ref02_Rack_Restore_sim p1_m x119) (fun x120 => ?_)
  refine KT.nil ?_
  refine SX.block ?_
  exact SX.leafS j1 (.cons rfl (.cons rfl (.cons rfl (.nil))))
  refine SC.seq ?_
  refine SC.region' ?_
  refine KT.pv 122 (.bool (x18 == 6)) ?_
  refine KT.pv 121 (.bool (x18 == 6)) ?_
  refine KT.nil ?_
  refine SX.seq ?_
  refine SC.cond (b := x18 == 6) rfl ?_ ?_
  refine SC.seq ?_
  refine SC.region' ?_
  refine KT.pv 123 (.pointer (some (Addr.add x5 3))) ?_
  refine KT.l 124 (fun x124 => ?_)
  refine KT.cl vS 125 89 #[(.slice x124.base x124.len x124.cap)] (ref00_CopyBytes_sim x124) (fun x125 => ?_)
  refine KT.pv 12 (.slice x125.base x125.len x125.cap) ?_
  refine KT.nil ?_
  refine SX.seq ?_
  refine SC.seq ?_
  refine SC.draw 19 (fun _ => false) rfl (by kernel_rfl) (fun S7 => ?_)
  refine KT.pvA 0 126 (.pointer p0_r) ?_
  refine KT.pvA 1 127 (.pointer (some (Addr.add x5 1))) ?_
  refine KT.tk 2 (OY.ldI (d := 128) _ _ rfl rfl (by kernel_rfl) rfl rfl (fun x128 => ?_))
  refine KT.pvA 3 129 (.slice x125.base x125.len x125.cap) ?_
  refine KT.pvA 5 131 (.pointer p1_m) ?_
  refine KT.pvA 6 132 (.pointer (some (Addr.add x5 1))) ?_
  refine KT.tk 7 (OY.ldI (d := 133) _ _ rfl rfl (by kernel_rfl) rfl rfl (fun x133 => ?_))
  refine KT.pvA 8 134 (.pointer (some (Addr.add x5 3))) ?_
  refine KT.tk 9 (OY.ldI (d := 135) _ _ rfl rfl (by kernel_rfl) rfl rfl (fun x135 => ?_))
  refine KT.one 4 rfl (by kernel_rfl) rfl (OW.step (OW.call (d := 130) (enc := (Value.int .i64)) 44 #[(.pointer p0_r), (.int .i64 x128), (.slice x125.base x125.len x125.cap)] rfl (fun _ => by kernel_rfl) (fun Qf w => device_Rack_Load_sim p0_r x128 x125 Qf w) rfl rfl (fun x130 => ?_)))
  refine KT.and ?_
  refine KT.one 10 rfl (by kernel_rfl) rfl (OW.step (OW.call (d := 136) (enc := (Value.int .i64)) 96 #[(.pointer p1_m), (.int .i64 x133), (.slice x135.base x135.len x135.cap)] rfl (fun _ => by kernel_rfl) (fun Qf w => ref02_Rack_Load_sim p1_m x133 x135 Qf w) rfl rfl (fun x136 => ?_)))
  refine KT.and ?_
  refine KT.pvA 11 137 (.bool (x130 == x136)) ?_
  refine KT.pvA 12 138 (.bool (x130 == x136)) ?_
  refine KT.ite (b := x130 == x136) 138 rfl ?_ ?_
  refine KT.pvA 13 139 (.slice x125.base x125.len x125.cap) ?_
  refine KT.pvA 14 140 (.pointer (some (Addr.add x5 3))) ?_
  refine KT.tk 15 (OY.ldI (d := 141) _ _ rfl rfl (by kernel_rfl) rfl rfl (fun x141 => ?_))
  refine KT.one 16 rfl (by kernel_rfl) rfl (OW.step (OW.call (d := 142) (enc := Value.bool) 30 #[(.slice x125.base x125.len x125.cap), (.slice x141.base x141.len x141.cap)] rfl (fun _ => by kernel_rfl) (fun Qf w => ref00_SameBytes_sim x125 x141 Qf w) rfl rfl (fun x142 => ?_)))
  refine KT.and ?_
  refine KT.pvA 17 143 (.bool x142) ?_
  refine KT.pvA 18 6 (.bool x142) ?_
  refine KT.doneA (by kernel_rfl) ?_
  refine SX.sub (T' := [(6, (.bool x142))]) (.cons rfl (.nil)) ?_
  refine SX.seq ?_
  refine SC.ret ?_
  refine SX.block_ret ?_
  refine SX.rightM ?_
  refine SX.then_ret ?_
  refine SX.ret [.tmp 6] rfl ?_
  refine RS.tmp (.bool x142) rfl ?_
  exact RS.nil rfl
  refine KT.skA 13 ?_
  refine KT.skA 14 ?_
  refine KT.skA 15 ?_
  refine KT.skA 16 ?_
  refine KT.pvA 17 143 (.bool false) ?_
  refine KT.pvA 18 6 (.bool false) ?_
  refine KT.doneA (by kernel_rfl) ?_
  refine SX.sub (T' := [(6, (.bool false))]) (.cons rfl (.nil)) ?_
  refine SX.seq ?_
  refine SC.ret ?_
  refine SX.block_ret ?_
  refine SX.rightM ?_
  refine SX.then_ret ?_
  refine SX.ret [.tmp 6] rfl ?_
  refine RS.tmp (.bool false) rfl ?_
  exact RS.nil rfl
  refine SC.seq ?_
  refine SC.region' ?_
  refine KT.pv 145 (.bool (x18 == 7)) ?_
  refine KT.pv 144 (.bool (x18 == 7)) ?_
  refine KT.nil ?_
  refine SX.seq ?_
  refine SC.cond (b := x18 == 7) rfl ?_ ?_
  refine SC.seq ?_
  refine SC.region' ?_
  refine KT.pv 147 (.pointer p0_r) ?_
  refine KT.pv 148 (.pointer (some (Addr.add x5 1))) ?_
  refine KT.l 149 (fun x149 => ?_)
  refine KT.pv 150 (.pointer (some (Addr.add x5 2))) ?_
  refine KT.l 151 (fun x151 => ?_)
  refine KT.cl (fun y : (Slc × Int) => (.tuple #[(.slice y.1.base y.1.len y.1.cap), (.int .i64 y.2)])) 152 41 #[(.pointer p0_r), (.int .i64 x149), (.int .i64 x151)] (device_Rack_Lasting_sim p0_r x149 x151) (fun x152 => ?_)
  refine KT.pv 146 (.tuple #[(.slice x152.1.base x152.1.len x152.1.cap), (.int .i64 x152.2)]) ?_
  refine KT.pv 153 (.slice x152.1.base x152.1.len x152.1.cap) ?_
  refine KT.pv 154 (.int .i64 x152.2) ?_
  refine KT.pv 13 (.slice x152.1.base x152.1.len x152.1.cap) ?_
  refine KT.pv 14 (.int .i64 x152.2) ?_
  refine KT.nil ?_
  refine SX.sub (T' := [(1, (.pointer p1_m)), (5, (.pointer (some x5))), (13, (.slice x152.1.base x152.1.len x152.1.cap)), (14, (.int .i64 x152.2))]) (.cons rfl (.cons rfl (.cons rfl (.cons rfl (.nil))))) ?_
  refine SX.seq ?_
  refine SC.seq ?_
  refine SC.region' ?_
  refine KT.pv 156 (.pointer p1_m) ?_
  refine KT.pv 157 (.pointer (some (Addr.add x5 1))) ?_
  refine KT.l 158 (fun x158 => ?_)
  refine KT.pv 159 (.pointer (some (Addr.add x5 2))) ?_
  refine KT.l 160 (fun x160 => ?_)
  refine KT.cl (fun y : (Slc × Int) => (.tuple #[(.slice y.1.base y.1.len y.1.cap), (.int .i64 y.2)])) 161 59 #[(.pointer p1_m), (.int .i64 x158), (.int .i64 x160)] (ref02_Rack_Lasting_sim p1_m x158 x160) (fun x161 => ?_)
  refine KT.pv 155 (.tuple #[(.slice x161.1.base x161.1.len x161.1.cap), (.int .i64 x161.2)]) ?_
  refine KT.pv 162 (.slice x161.1.base x161.1.len x161.1.cap) ?_
  refine KT.pv 163 (.int .i64 x161.2) ?_
  refine KT.pv 15 (.slice x161.1.base x161.1.len x161.1.cap) ?_
  refine KT.pv 16 (.int .i64 x161.2) ?_
  refine KT.nil ?_
  refine SX.seq ?_
  refine SC.seq ?_
  refine SC.region' ?_
  refine KT.pv 164 (.slice x152.1.base x152.1.len x152.1.cap) ?_
  refine KT.pv 165 (.slice x161.1.base x161.1.len x161.1.cap) ?_
  refine KT.cl Value.bool 166 30 #[(.slice x152.1.base x152.1.len x152.1.cap), (.slice x161.1.base x161.1.len x161.1.cap)] (ref00_SameBytes_sim x152.1 x161.1) (fun x166 => ?_)
  refine KT.pv 167 (.bool x166) ?_
  refine KT.joinO (β := Bool) 4 (fun r8 => [(171, (.bool r8))]) (fun r8 => ?_) (fun j8 => ?_)
  refine KT.pv 6 (.bool r8) ?_
  refine KT.nil ?_
  refine SX.seq ?_
  refine SC.ret ?_
  refine SX.block_ret ?_
  refine SX.rightM ?_
  refine SX.then_ret ?_
  refine SX.ret [.tmp 6] rfl ?_
  refine RS.tmp (.bool r8) rfl ?_
  exact RS.nil rfl
  refine KT.ite (b := x166) 167 rfl ?_ ?_
  refine KT.pv 168 (.int .i64 x152.2) ?_
  refine KT.pv 169 (.int .i64 x161.2) ?_
  refine KT.pv 170 (.bool (x152.2 == x161.2)) ?_
  refine KT.pv 171 (.bool (x152.2 == x161.2)) ?_
  exact KT.leafO j8 (.cons rfl (.nil))
  refine KT.sk ?_
  refine KT.sk ?_
  refine KT.sk ?_
  refine KT.pv 171 (.bool false) ?_
  exact KT.leafO j8 (.cons rfl (.nil))
  refine SC.skip ?_
  refine SX.block ?_
  exact SX.leafS j1 (.cons rfl (.cons rfl (.cons rfl (.nil))))

set_option maxRecDepth 100000 in
theorem law02_DeviceFails_sim (p0_calls : Slc) (p1_at : Int) (Qf : Bool → World → Prop) (w : World) (hm : law02_DeviceFails (cvOf Try.prog) p0_calls p1_at Qf w) : Calls Try.prog 14 #[(.slice p0_calls.base p0_calls.len p0_calls.cap), (.int .i64 p1_at)] w (RetPost Value.bool Qf) := by
  refine calls_of (fn := Try.f14) (l := [(.slice p0_calls.base p0_calls.len p0_calls.cap), (.int .i64 p1_at)]) (m := law02_DeviceFails (cvOf Try.prog) p0_calls p1_at) 103 (by kernel_rfl) rfl rfl rfl (fun Qf0 => ?_) Qf w hm
  clear hm w Qf
  unfold law02_DeviceFails
  refine SC.seq ?_
  refine SC.region' ?_
  refine KT.pv 4 (.bool false) ?_
  refine KT.nil ?_
  refine SX.seq ?_
  refine SC.seq ?_
  refine SC.seq ?_
  refine SC.region' ?_
  refine KT.cl Value.bool 13 38 #[] (law02_alive_sim ) (fun x13 => ?_)
  refine KT.pv 14 (.bool (!x13)) ?_
  refine KT.nil ?_
  refine SX.seq ?_
  refine SC.cond (b := !x13) rfl ?_ ?_
  refine SC.seq ?_
  refine SC.region' ?_
  refine KT.pv 4 (.bool false) ?_
  refine KT.nil ?_
  refine SX.seq ?_
  refine SC.ret ?_
  refine SX.then_ret ?_
  refine SX.ret [.tmp 4] rfl ?_
  refine RS.tmp (.bool false) rfl ?_
  exact RS.nil rfl
  refine SC.skip ?_
  refine SX.seq ?_
  refine SC.seq ?_
  refine SC.seq ?_
  refine SC.region' ?_
  refine KT.pv 15 (.slice p0_calls.base p0_calls.len p0_calls.cap) ?_
  refine KT.cl Value.bool 16 53 #[(.int .i64 3), (.int .i64 4), (.slice p0_calls.base p0_calls.len p0_calls.cap)] (law02_great_sim 3 4 p0_calls) (fun x16 => ?_)
  refine KT.nil ?_
  refine SX.seq ?_
  refine SC.cond (b := x16) rfl ?_ ?_
  refine SC.seq ?_
  refine SC.region' ?_
  refine KT.pv 4 (.bool true) ?_
  refine KT.nil ?_
  refine SX.seq ?_
  refine SC.ret ?_
  refine SX.then_ret ?_
  refine SX.ret [.tmp 4] rfl ?_
  refine RS.tmp (.bool true) rfl ?_
  exact RS.nil rfl
  refine SC.skip ?_
  refine SX.seq ?_
  refine SC.seq ?_
  refine SC.region' ?_
  refine KT.cl (fun y : ((Option Addr) × Int) => (.tuple #[(.pointer y.1), (.int .i64 y.2)])) 18 21 #[(.int .i64 3), (.int .i64 4)] (device_New_sim 3 4) (fun x18 => ?_)
  refine KT.pv 17 (.tuple #[(.pointer x18.1), (.int .i64 x18.2)]) ?_
  refine KT.pv 19 (.pointer x18.1) ?_
  refine KT.pv 20 (.int .i64 x18.2) ?_
  refine KT.pv 5 (.pointer x18.1) ?_
  refine KT.pv 6 (.int .i64 x18.2) ?_
  refine KT.nil ?_
  refine SX.seq ?_
  refine SC.seq ?_
  refine SC.seq ?_
  refine SC.region' ?_
  refine KT.pv 21 (.int .i64 x18.2) ?_
  refine KT.pv 22 (.bool (x18.2 != 0)) ?_
  refine KT.pv 23 (.bool (x18.2 != 0)) ?_
  refine KT.joinO (β := Bool) 3 (fun r1 => [(26, (.bool r1)), (0, (.slice p0_calls.base p0_calls.len p0_calls.cap)), (1, (.int .i64 p1_at)), (5, (.pointer x18.1))]) (fun r1 => ?_) (fun j1 => ?_)
  refine KT.pv 27 (.bool r1) ?_
  refine KT.joinO (β := Bool) 4 (fun r2 => [(31, (.bool r2)), (0, (.slice p0_calls.base p0_calls.len p0_calls.cap)), (1, (.int .i64 p1_at)), (5, (.pointer x18.1))]) (fun r2 => ?_) (fun j2 => ?_)
  refine KT.nil ?_
  refine SX.seq ?_
  refine SC.cond (b := r2) rfl ?_ ?_
  refine SC.seq ?_
  refine SC.region' ?_
  refine KT.pv 4 (.bool false) ?_
  refine KT.nil ?_
  refine SX.seq ?_
  refine SC.ret ?_
  refine SX.then_ret ?_
  refine SX.ret [.tmp 4] rfl ?_
  refine RS.tmp (.bool false) rfl ?_
  exact RS.nil rfl
  refine SC.skip ?_
  refine SX.seq ?_
  refine SC.seq ?_
  refine SC.region' ?_
  refine KT.nw 32 (fun ad => .slice (some ad) 64 64) 5 (fun x32 => ?_)
  refine KT.pv 7 (.slice (some x32) 64 64) ?_
  refine KT.nil ?_
  refine SX.seq ?_
  refine SC.seq ?_
  refine SC.seq ?_
  refine SC.region' ?_
  refine KT.pv 33 (.pointer x18.1) ?_
  refine KT.pv 34 (.slice (some x32) 64 64) ?_
  refine KT.cl (Value.int .i64) 35 39 #[(.pointer x18.1), (.int .i64 0), (.int .i64 0), (.slice (some x32) 64 64)] (device_Rack_Write_sim x18.1 0 0 (⟨some x32, 64, 64⟩)) (fun x35 => ?_)
  refine KT.pv 36 (.bool (x35 != 0)) ?_
  refine KT.pv 37 (.bool (x35 != 0)) ?_
  refine KT.joinO (β := Bool) 4 (fun r3 => [(41, (.bool r3)), (0, (.slice p0_calls.base p0_calls.len p0_calls.cap)), (1, (.int .i64 p1_at)), (5, (.pointer x18.1)), (7, (.slice (some x32) 64 64))]) (fun r3 => ?_) (fun j3 => ?_)
  refine KT.pv 42 (.bool r3) ?_
  refine KT.joinO (β := Bool) 3 (fun r4 => [(45, (.bool r4)), (0, (.slice p0_calls.base p0_calls.len p0_calls.cap)), (1, (.int .i64 p1_at)), (5, (.pointer x18.1)), (7, (.slice (some x32) 64 64))]) (fun r4 => ?_) (fun j4 => ?_)
  refine KT.nil ?_
  refine SX.seq ?_
  refine SC.cond (b := r4) rfl ?_ ?_
  refine SC.seq ?_
  refine SC.region' ?_
  refine KT.pv 4 (.bool false) ?_
  refine KT.nil ?_
  refine SX.seq ?_
  refine SC.ret ?_
  refine SX.then_ret ?_
  refine SX.ret [.tmp 4] rfl ?_
  refine RS.tmp (.bool false) rfl ?_
  exact RS.nil rfl
  refine SC.skip ?_
  refine SX.seq ?_
  refine SC.seq ?_
  refine SC.seq ?_
  refine SC.region' ?_
  refine KT.pv 8 (.int .i64 0) ?_
  refine KT.nil ?_
  refine SX.seq ?_
  refine SC.block ?_
  refine SC.loop (σ := (Int)) (fun s5 => [(0, (.slice p0_calls.base p0_calls.len p0_calls.cap)), (1, (.int .i64 p1_at)), (5, (.pointer x18.1)), (7, (.slice (some x32) 64 64)), (8, (.int .i64 s5))]) (.cons rfl (.cons rfl (.cons rfl (.cons rfl (.cons rfl (.nil)))))) (fun _ _ _ s5 => ?_)
  refine SC.seq ?_
  refine SC.seq ?_
  refine SC.region' ?_
  refine KT.pv 46 (.int .i64 s5) ?_
  refine KT.pv 47 (.slice p0_calls.base p0_calls.len p0_calls.cap) ?_
  refine KT.pv 48 (.int .i64 ((p0_calls.len : Nat) : Int)) ?_
  refine KT.pv 49 (.bool (decide (s5 < ((p0_calls.len : Nat) : Int)))) ?_
  refine KT.nil ?_
  refine SX.seq ?_
  refine SC.cond (b := decide (s5 < ((p0_calls.len : Nat) : Int))) rfl ?_ ?_
  refine SC.skip ?_
  refine SX.seq ?_
  refine SC.seq ?_
  refine SC.block ?_
  refine SC.seq ?_
  refine SC.region' ?_
  refine KT.pv 52 (.slice p0_calls.base p0_calls.len p0_calls.cap) ?_
  refine KT.pv 53 (.int .i64 s5) ?_
  refine KT.oy rfl (OY.idx (d := 54) (s := p0_calls) (i := s5) (size := 5) (elem := 92) _ _ _ rfl rfl rfl (by kernel_rfl) (by kernel_rfl) rfl rfl (fun x54 => ?_))
  refine KT.ow rfl (OW.ldA (d := 55) (enc := (fun y : (Int × Int × Int × Slc × Slc) => [(.int .i64 y.1), (.int .i64 y.2.1), (.int .i64 y.2.2.1), (.slice y.2.2.2.1.base y.2.2.2.1.len y.2.2.2.1.cap), (.slice y.2.2.2.2.base y.2.2.2.2.len y.2.2.2.2.cap)])) 5 _ _ rfl rfl (by kernel_rfl) (by kernel_rfl) (fun _ => rfl) rfl rfl (fun x55 => ?_))
  refine KT.nw 9 (fun ad => .pointer (some ad)) 92 (fun x9 => ?_)
  refine KT.ow rfl (OW.stA _ _ _ rfl rfl rfl rfl rfl (by kernel_rfl) ?_)
  refine KT.nil ?_
  refine SX.seq ?_
  refine SC.seq ?_
  refine SC.seq ?_
  refine SC.region' ?_
  refine KT.pv 56 (.pointer (some x9)) ?_
  refine KT.l 57 (fun x57 => ?_)
  refine KT.pv 58 (.bool (x57 == 3)) ?_
  refine KT.pv 59 (.bool (x57 == 3)) ?_
  refine KT.joinO (β := Bool) 4 (fun r6 => [(63, (.bool r6)), (0, (.slice p0_calls.base p0_calls.len p0_calls.cap)), (1, (.int .i64 p1_at)), (5, (.pointer x18.1)), (7, (.slice (some x32) 64 64)), (8, (.int .i64 s5)), (9, (.pointer (some x9)))]) (fun r6 => ?_) (fun j6 => ?_)
  refine KT.nil ?_
  refine SX.seq ?_
  refine SC.cond (b := r6) rfl ?_ ?_
  refine SC.exit ?_
  refine SX.then_exit ?_
  refine SX.block_hit ?_
  refine SX.seq ?_
  refine SC.region' ?_
  refine KT.pv 50 (.int .i64 s5) ?_
  refine KT.pv 51 (.int .i64 (w64 (s5 + 1))) ?_
  refine KT.pv 8 (.int .i64 (w64 (s5 + 1))) ?_
  refine KT.nil ?_
  exact SX.loop_next (.cons rfl (.cons rfl (.cons rfl (.cons rfl (.cons rfl (.nil))))))
  refine SC.skip ?_
  refine SX.seq ?_
  refine SC.seq ?_
  refine SC.region' ?_
  refine KT.pv 64 (.agg #[(.int .i64 0), (.int .i64 0), (.slice none 0 0), (.slice none 0 0), (.slice none 0 0), (.slice none 0 0), (.int .i64 0), (.bool false)]) ?_
  refine KT.nw 10 (fun ad => .pointer (some ad)) 35 (fun x10 => ?_)
  refine KT.ow rfl (OW.stA _ _ _ rfl rfl rfl rfl rfl (by kernel_rfl) ?_)
  refine KT.nil ?_
  refine SX.seq ?_
  refine SC.seq ?_
  refine SC.region' ?_
  refine KT.cl (fun y : ((Int × Int × Slc × Slc × Slc × Slc × Int × Bool) × Int) => (.tuple #[(.agg #[(.int .i64 y.1.1), (.int .i64 y.1.2.1), (.slice y.1.2.2.1.base y.1.2.2.1.len y.1.2.2.1.cap), (.slice y.1.2.2.2.1.base y.1.2.2.2.1.len y.1.2.2.2.1.cap), (.slice y.1.2.2.2.2.1.base y.1.2.2.2.2.1.len y.1.2.2.2.2.1.cap), (.slice y.1.2.2.2.2.2.1.base y.1.2.2.2.2.2.1.len y.1.2.2.2.2.2.1.cap), (.int .i64 y.1.2.2.2.2.2.2.1), (.bool y.1.2.2.2.2.2.2.2)]), (.int .i64 y.2)])) 66 22 #[(.int .i64 3), (.int .i64 4)] (ref02_New_sim 3 4) (fun x66 => ?_)
  refine KT.pv 65 (.tuple #[(.agg #[(.int .i64 x66.1.1), (.int .i64 x66.1.2.1), (.slice x66.1.2.2.1.base x66.1.2.2.1.len x66.1.2.2.1.cap), (.slice x66.1.2.2.2.1.base x66.1.2.2.2.1.len x66.1.2.2.2.1.cap), (.slice x66.1.2.2.2.2.1.base x66.1.2.2.2.2.1.len x66.1.2.2.2.2.1.cap), (.slice x66.1.2.2.2.2.2.1.base x66.1.2.2.2.2.2.1.len x66.1.2.2.2.2.2.1.cap), (.int .i64 x66.1.2.2.2.2.2.2.1), (.bool x66.1.2.2.2.2.2.2.2)]), (.int .i64 x66.2)]) ?_
  refine KT.pv 67 (.agg #[(.int .i64 x66.1.1), (.int .i64 x66.1.2.1), (.slice x66.1.2.2.1.base x66.1.2.2.1.len x66.1.2.2.1.cap), (.slice x66.1.2.2.2.1.base x66.1.2.2.2.1.len x66.1.2.2.2.1.cap), (.slice x66.1.2.2.2.2.1.base x66.1.2.2.2.2.1.len x66.1.2.2.2.2.1.cap), (.slice x66.1.2.2.2.2.2.1.base x66.1.2.2.2.2.2.1.len x66.1.2.2.2.2.2.1.cap), (.int .i64 x66.1.2.2.2.2.2.2.1), (.bool x66.1.2.2.2.2.2.2.2)]) ?_
  refine KT.pv 68 (.int .i64 x66.2) ?_
  refine KT.ow rfl (OW.stA _ _ _ rfl rfl rfl rfl rfl (by kernel_rfl) ?_)
  refine KT.nil ?_
  refine SX.seq ?_
  refine SC.seq ?_
  refine SC.region' ?_
  refine KT.pv 69 (.pointer x18.1) ?_
  refine KT.ow rfl (OW.ldA (d := 70) (enc := (fun y : (Int × Int × Int × Slc × Slc) => [(.int .i64 y.1), (.int .i64 y.2.1), (.int .i64 y.2.2.1), (.slice y.2.2.2.1.base y.2.2.2.1.len y.2.2.2.1.cap), (.slice y.2.2.2.2.base y.2.2.2.2.len y.2.2.2.2.cap)])) 5 _ _ rfl rfl (by kernel_rfl) (by kernel_rfl) (fun _ => rfl) rfl rfl (fun x70 => ?_))
  refine KT.cl Value.bool 71 55 #[(.pointer x18.1), (.pointer (some x10)), (.agg #[(.int .i64 x70.1), (.int .i64 x70.2.1), (.int .i64 x70.2.2.1), (.slice x70.2.2.2.1.base x70.2.2.2.1.len x70.2.2.2.1.cap), (.slice x70.2.2.2.2.base x70.2.2.2.2.len x70.2.2.2.2.cap)])] (law02_told_sim x18.1 (some x10) (x70.1, x70.2.1, x70.2.2.1, x70.2.2.2.1, x70.2.2.2.2)) (fun x71 => ?_)
  refine KT.nil ?_
  refine SX.seq ?_
  refine SC.seq ?_
  refine SC.region' ?_
  refine KT.pv 73 (.pointer x18.1) ?_
  refine KT.pv 74 (.int .i64 p1_at) ?_
  refine KT.pv 75 (.int .i64 (bAnd .i64 p1_at 3)) ?_
  refine KT.cl (fun y : (Slc × Int) => (.tuple #[(.slice y.1.base y.1.len y.1.cap), (.int .i64 y.2)])) 76 29 #[(.pointer x18.1), (.int .i64 1), (.int .i64 (bAnd .i64 p1_at 3))] (device_Rack_Read_sim x18.1 1 (bAnd .i64 p1_at 3)) (fun x76 => ?_)
  refine KT.pv 72 (.tuple #[(.slice x76.1.base x76.1.len x76.1.cap), (.int .i64 x76.2)]) ?_
  refine KT.pv 77 (.slice x76.1.base x76.1.len x76.1.cap) ?_
  refine KT.pv 78 (.int .i64 x76.2) ?_
  refine KT.pv 11 (.slice x76.1.base x76.1.len x76.1.cap) ?_
  refine KT.pv 12 (.int .i64 x76.2) ?_
  refine KT.nil ?_
  refine SX.seq ?_
  refine SC.seq ?_
  refine SC.region' ?_
  refine KT.pv 79 (.pointer x18.1) ?_
  refine KT.cl Value.bool 80 56 #[(.pointer x18.1)] (device_Rack_Off_sim x18.1) (fun x80 => ?_)
  refine KT.pv 81 (.bool x80) ?_
  refine KT.joinO (β := Bool) 3 (fun r7 => [(84, (.bool r7)), (0, (.slice p0_calls.base p0_calls.len p0_calls.cap)), (1, (.int .i64 p1_at)), (5, (.pointer x18.1)), (7, (.slice (some x32) 64 64)), (8, (.int .i64 s5))]) (fun r7 => ?_) (fun j7 => ?_)
  refine KT.pv 85 (.bool r7) ?_
  refine KT.joinO (β := Bool) 7 (fun r8 => [(92, (.bool r8)), (0, (.slice p0_calls.base p0_calls.len p0_calls.cap)), (1, (.int .i64 p1_at)), (5, (.pointer x18.1)), (7, (.slice (some x32) 64 64)), (8, (.int .i64 s5))]) (fun r8 => ?_) (fun j8 => ?_)
  refine KT.pv 93 (.bool r8) ?_
  refine KT.joinO (β := Bool) 4 (fun r9 => [(97, (.bool r9)), (0, (.slice p0_calls.base p0_calls.len p0_calls.cap)), (1, (.int .i64 p1_at)), (5, (.pointer x18.1)), (7, (.slice (some x32) 64 64)), (8, (.int .i64 s5))]) (fun r9 => ?_) (fun j9 => ?_)
  refine KT.pv 98 (.bool r9) ?_
  refine KT.joinO (β := Bool) 4 (fun r10 => [(102, (.bool r10)), (0, (.slice p0_calls.base p0_calls.len p0_calls.cap)), (1, (.int .i64 p1_at)), (5, (.pointer x18.1)), (7, (.slice (some x32) 64 64)), (8, (.int .i64 s5))]) (fun r10 => ?_) (fun j10 => ?_)
  refine KT.nil ?_
  refine SX.seq ?_
  refine SC.cond (b := r10) rfl ?_ ?_
  refine SC.seq ?_
  refine SC.region' ?_
  refine KT.pv 4 (.bool false) ?_
  refine KT.nil ?_
  refine SX.seq ?_
  refine SC.ret ?_
  refine SX.block_ret ?_
  refine SX.then_ret ?_
  refine SX.loop_ret ?_
  refine SX.block_ret ?_
  refine SX.then_ret ?_
  refine SX.ret [.tmp 4] rfl ?_
  refine RS.tmp (.bool false) rfl ?_
  exact RS.nil rfl
  refine SC.skip ?_
  refine SX.block ?_
  refine SX.seq ?_
  refine SC.region' ?_
  refine KT.pv 50 (.int .i64 s5) ?_
  refine KT.pv 51 (.int .i64 (w64 (s5 + 1))) ?_
  refine KT.pv 8 (.int .i64 (w64 (s5 + 1))) ?_
  refine KT.nil ?_
  exact SX.loop_next (.cons rfl (.cons rfl (.cons rfl (.cons rfl (.cons rfl (.nil))))))
  refine KT.ite (b := r9) 98 rfl ?_ ?_
  refine KT.sk ?_
  refine KT.sk ?_
  refine KT.sk ?_
  refine KT.pv 102 (.bool true) ?_
  exact KT.leafO j10 (.cons rfl (.cons rfl (.cons rfl (.cons rfl (.cons rfl (.cons rfl (.nil)))))))
  refine KT.pv 99 (.pointer x18.1) ?_
  refine KT.cl Value.bool 100 54 #[(.pointer x18.1), (.int .i64 1)] (device_Rack_Failed_sim x18.1 1) (fun x100 => ?_)
  refine KT.pv 101 (.bool (!x100)) ?_
  refine KT.pv 102 (.bool (!x100)) ?_
  exact KT.leafO j10 (.cons rfl (.cons rfl (.cons rfl (.cons rfl (.cons rfl (.cons rfl (.nil)))))))
  refine KT.ite (b := r8) 93 rfl ?_ ?_
  refine KT.sk ?_
  refine KT.sk ?_
  refine KT.sk ?_
  refine KT.pv 97 (.bool true) ?_
  exact KT.leafO j9 (.cons rfl (.cons rfl (.cons rfl (.cons rfl (.cons rfl (.cons rfl (.nil)))))))
  refine KT.pv 94 (.pointer x18.1) ?_
  refine KT.cl (Value.int .i64) 95 42 #[(.pointer x18.1), (.int .i64 1)] (device_Rack_Flush_sim x18.1 1) (fun x95 => ?_)
  refine KT.pv 96 (.bool (x95 != 13)) ?_
  refine KT.pv 97 (.bool (x95 != 13)) ?_
  exact KT.leafO j9 (.cons rfl (.cons rfl (.cons rfl (.cons rfl (.cons rfl (.cons rfl (.nil)))))))
  refine KT.ite (b := r7) 85 rfl ?_ ?_
  refine KT.sk ?_
  refine KT.sk ?_
  refine KT.sk ?_
  refine KT.sk ?_
  refine KT.sk ?_
  refine KT.sk ?_
  refine KT.pv 92 (.bool true) ?_
  exact KT.leafO j8 (.cons rfl (.cons rfl (.cons rfl (.cons rfl (.cons rfl (.cons rfl (.nil)))))))
  refine KT.pv 86 (.pointer x18.1) ?_
  refine KT.pv 87 (.int .i64 p1_at) ?_
  refine KT.pv 88 (.int .i64 (bAnd .i64 p1_at 3)) ?_
  refine KT.pv 89 (.slice (some x32) 64 64) ?_
  refine KT.cl (Value.int .i64) 90 39 #[(.pointer x18.1), (.int .i64 1), (.int .i64 (bAnd .i64 p1_at 3)), (.slice (some x32) 64 64)] (device_Rack_Write_sim x18.1 1 (bAnd .i64 p1_at 3) (⟨some x32, 64, 64⟩)) (fun x90 => ?_)
  refine KT.pv 91 (.bool (x90 != 13)) ?_
  refine KT.pv 92 (.bool (x90 != 13)) ?_
  exact KT.leafO j8 (.cons rfl (.cons rfl (.cons rfl (.cons rfl (.cons rfl (.cons rfl (.nil)))))))
  refine KT.ite (b := x80) 81 rfl ?_ ?_
  refine KT.sk ?_
  refine KT.sk ?_
  refine KT.pv 84 (.bool true) ?_
  exact KT.leafO j7 (.cons rfl (.cons rfl (.cons rfl (.cons rfl (.cons rfl (.cons rfl (.nil)))))))
  refine KT.pv 82 (.int .i64 x76.2) ?_
  refine KT.pv 83 (.bool (x76.2 != 13)) ?_
  refine KT.pv 84 (.bool (x76.2 != 13)) ?_
  exact KT.leafO j7 (.cons rfl (.cons rfl (.cons rfl (.cons rfl (.cons rfl (.cons rfl (.nil)))))))
  refine KT.ite (b := x57 == 3) 59 rfl ?_ ?_
  refine KT.sk ?_
  refine KT.sk ?_
  refine KT.sk ?_
  refine KT.pv 63 (.bool true) ?_
  exact KT.leafO j6 (.cons rfl (.cons rfl (.cons rfl (.cons rfl (.cons rfl (.cons rfl (.cons rfl (.nil))))))))
  refine KT.pv 60 (.pointer (some x9)) ?_
  refine KT.l 61 (fun x61 => ?_)
  refine KT.pv 62 (.bool (x61 == 4)) ?_
  refine KT.pv 63 (.bool (x61 == 4)) ?_
  exact KT.leafO j6 (.cons rfl (.cons rfl (.cons rfl (.cons rfl (.cons rfl (.cons rfl (.cons rfl (.nil))))))))
  refine SC.exit ?_
  refine SX.then_exit ?_
  refine SX.loop_exit ?_
  refine SX.block_hit ?_
  refine SX.seq ?_
  refine SC.seq ?_
  refine SC.region' ?_
  refine KT.pv 4 (.bool true) ?_
  refine KT.nil ?_
  refine SX.seq ?_
  refine SC.ret ?_
  refine SX.ret [.tmp 4] rfl ?_
  refine RS.tmp (.bool true) rfl ?_
  exact RS.nil rfl
  refine KT.ite (b := r3) 42 rfl ?_ ?_
  refine KT.sk ?_
  refine KT.sk ?_
  refine KT.pv 45 (.bool true) ?_
  exact KT.leafO j4 (.cons rfl (.cons rfl (.cons rfl (.cons rfl (.cons rfl (.nil))))))
  refine KT.pv 43 (.pointer x18.1) ?_
  refine KT.cl Value.bool 44 54 #[(.pointer x18.1), (.int .i64 0)] (device_Rack_Failed_sim x18.1 0) (fun x44 => ?_)
  refine KT.pv 45 (.bool x44) ?_
  exact KT.leafO j4 (.cons rfl (.cons rfl (.cons rfl (.cons rfl (.cons rfl (.nil))))))
  refine KT.ite (b := x35 != 0) 37 rfl ?_ ?_
  refine KT.sk ?_
  refine KT.sk ?_
  refine KT.sk ?_
  refine KT.pv 41 (.bool true) ?_
  exact KT.leafO j3 (.cons rfl (.cons rfl (.cons rfl (.cons rfl (.cons rfl (.nil))))))
  refine KT.pv 38 (.pointer x18.1) ?_
  refine KT.cl Value.bool 39 54 #[(.pointer x18.1), (.int .i64 1)] (device_Rack_Failed_sim x18.1 1) (fun x39 => ?_)
  refine KT.pv 40 (.bool (!x39)) ?_
  refine KT.pv 41 (.bool (!x39)) ?_
  exact KT.leafO j3 (.cons rfl (.cons rfl (.cons rfl (.cons rfl (.cons rfl (.nil))))))
  refine KT.ite (b := r1) 27 rfl ?_ ?_
  refine KT.sk ?_
  refine KT.sk ?_
  refine KT.sk ?_
  refine KT.pv 31 (.bool true) ?_
  exact KT.leafO j2 (.cons rfl (.cons rfl (.cons rfl (.cons rfl (.nil)))))
  refine KT.pv 28 (.pointer x18.1) ?_
  refine KT.cl (Value.int .i64) 29 34 #[(.pointer x18.1), (.int .i64 1), (.int .i64 0)] (device_Rack_Doom_sim x18.1 1 0) (fun x29 => ?_)
  refine KT.pv 30 (.bool (x29 != 0)) ?_
  refine KT.pv 31 (.bool (x29 != 0)) ?_
  exact KT.leafO j2 (.cons rfl (.cons rfl (.cons rfl (.cons rfl (.nil)))))
  refine KT.ite (b := x18.2 != 0) 23 rfl ?_ ?_
  refine KT.sk ?_
  refine KT.sk ?_
  refine KT.pv 26 (.bool true) ?_
  exact KT.leafO j1 (.cons rfl (.cons rfl (.cons rfl (.cons rfl (.nil)))))
  refine KT.pv 24 (.pointer x18.1) ?_
  refine KT.oy rfl (OY.eqlNil (d := 25) (p := x18.1) _ _ _ _ rfl rfl rfl (by kernel_rfl) rfl rfl ?_)
  refine KT.pv 26 (.bool ((x18.1).isNone)) ?_
  exact KT.leafO j1 (.cons rfl (.cons rfl (.cons rfl (.cons rfl (.nil)))))
end Go.Proofs.Ytldmeimebebllaa
namespace Go.Proofs.Ytldmeimebebllaa
open Go.Mo
theorem keysOk : KeysOk (cvOf Try.prog) := fun a yv Q w hm =>
  enter_of (f := fid_maps_Keys_m_c1) (ags := #[yv, .pointer (some a)]) (m := maps_Keys_m_c1 (cvOf Try.prog) yv a) (enc := fun _ : Unit => .tuple #[]) (by simp [Deferred.ofValue, invoke]) (fun Qf' h => maps_Keys_m_c1_sim yv a Qf' w h) Q hm
end Go.Proofs.Ytldmeimebebllaa
