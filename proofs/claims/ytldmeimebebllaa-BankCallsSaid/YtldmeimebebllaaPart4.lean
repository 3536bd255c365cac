/-
  A part of the proof: predicate transformers over the model, and a separation logic over them; what functions of the program do.
-/
import Derived.Test.YtldmeimebebllaaPart3
import Derived.Test.YtldmeimebebllaaProg
set_option linter.unusedSimpArgs false
namespace Go.Proofs.Ytldmeimebebllaa
open Go.Mo Go.Shelf
set_option maxRecDepth 100000
def sortRen : Go.Shelf.Ren := ⟨fun | 5 => 115 | 8 => 135 | 7 => 134 | 19 => 148 | 20 => 149 | 10 => 139 | 11 => 140 | 12 => 141 | 13 => 142 | 14 => 143 | 15 => 144 | 16 => 145 | 17 => 146 | 18 => 147 | 30 => 151 | 31 => 152 | 32 => 153 | 33 => 154 | 34 => 155 | 35 => 156 | 40 => 157 | n => n, fun | 23 => 33 | 25 => 3 | 3 => 3 | 32 => 58 | 22 => 33 | 0 => 0 | 44 => 184 | 46 => 186 | 4 => 4 | 36 => 178 | 35 => 177 | 41 => 126 | 5 => 5 | 9 => 9 | 53 => 188 | 57 => 192 | 63 => 194 | 64 => 95 | n => n, fun | n => n⟩
theorem sortLay : SlLaysM.n5 Try.prog sortRen := {
  mixed := by kernel_rfl,
  f5 := ⟨Try.f115.name, by decide, Try.func115.trans (congrArg some (by kernel_rfl))⟩,
  f7 := ⟨Try.f134.name, by decide, Try.func134.trans (congrArg some (by kernel_rfl))⟩,
  f8 := Try.func135.trans (congrArg some (by kernel_rfl)),
  f10 := ⟨Try.f139.name, by decide, Try.func139.trans (congrArg some (by kernel_rfl))⟩,
  f11 := ⟨Try.f140.name, by decide, Try.func140.trans (congrArg some (by kernel_rfl))⟩,
  f12 := ⟨Try.f141.name, by decide, Try.func141.trans (congrArg some (by kernel_rfl))⟩,
  f13 := ⟨Try.f142.name, by decide, Try.func142.trans (congrArg some (by kernel_rfl))⟩,
  f14 := ⟨Try.f143.name, by decide, Try.func143.trans (congrArg some (by kernel_rfl))⟩,
  f15 := ⟨Try.f144.name, by decide, Try.func144.trans (congrArg some (by kernel_rfl))⟩,
  f16 := ⟨Try.f145.name, by decide, Try.func145.trans (congrArg some (by kernel_rfl))⟩,
  f17 := ⟨Try.f146.name, by decide, Try.func146.trans (congrArg some (by kernel_rfl))⟩,
  f18 := ⟨Try.f147.name, by decide, Try.func147.trans (congrArg some (by kernel_rfl))⟩,
  f19 := Try.func148.trans (congrArg some (by kernel_rfl)),
  f20 := Try.func149.trans (congrArg some (by kernel_rfl)),
  f30 := ⟨Try.f151.name, by decide, Try.func151.trans (congrArg some (by kernel_rfl))⟩,
  f31 := Try.func152.trans (congrArg some (by kernel_rfl)),
  f32 := Try.func153.trans (congrArg some (by kernel_rfl)),
  f33 := ⟨Try.f154.name, by decide, Try.func154.trans (congrArg some (by kernel_rfl))⟩,
  f34 := ⟨Try.f155.name, by decide, Try.func155.trans (congrArg some (by kernel_rfl))⟩,
  f35 := ⟨Try.f156.name, by decide, Try.func156.trans (congrArg some (by kernel_rfl))⟩,
  f40 := ⟨Try.f157.name, by decide, Try.func157.trans (congrArg some (by kernel_rfl))⟩,
  t0 := Try.underlying0,
  a0 := Try.isAgg0,
  z0 := Try.sizeOf0,
  v0 := Try.zeroValue0,
  t3 := Try.underlying3,
  a3 := Try.isAgg3,
  z3 := Try.sizeOf3,
  v3 := Try.zeroValue3,
  t4 := Try.underlying4,
  a4 := Try.isAgg4,
  z4 := Try.sizeOf4,
  v4 := Try.zeroValue4,
  t5 := Try.underlying5,
  a5 := Try.isAgg5,
  z5 := Try.sizeOf5,
  v5 := Try.zeroValue5,
  t9 := Try.underlying9,
  a9 := Try.isAgg9,
  z9 := Try.sizeOf9,
  v9 := Try.zeroValue9,
  t22 := Try.underlying33,
  a22 := Try.isAgg33,
  z22 := Try.sizeOf33,
  v22 := Try.zeroValue33,
  t23 := Try.underlying33,
  a23 := Try.isAgg33,
  z23 := Try.sizeOf33,
  v23 := Try.zeroValue33,
  t25 := Try.underlying3,
  a25 := Try.isAgg3,
  z25 := Try.sizeOf3,
  v25 := Try.zeroValue3,
  t32 := Try.underlying58,
  a32 := Try.isAgg58,
  z32 := Try.sizeOf58,
  v32 := Try.zeroValue58,
  t35 := Try.underlying177,
  a35 := Try.isAgg177,
  z35 := Try.sizeOf177,
  v35 := Try.zeroValue177,
  t36 := Try.underlying178,
  a36 := Try.isAgg178,
  z36 := Try.sizeOf178,
  v36 := Try.zeroValue178,
  t41 := Try.underlying126,
  a41 := Try.isAgg126,
  z41 := Try.sizeOf126,
  v41 := Try.zeroValue126,
  t44 := Try.underlying184,
  a44 := Try.isAgg184,
  z44 := Try.sizeOf184,
  v44 := Try.zeroValue184,
  t46 := Try.underlying186,
  a46 := Try.isAgg186,
  z46 := Try.sizeOf186,
  v46 := Try.zeroValue186,
  t53 := Try.underlying188,
  a53 := Try.isAgg188,
  z53 := Try.sizeOf188,
  v53 := Try.zeroValue188,
  t57 := Try.underlying192,
  a57 := Try.isAgg192,
  z57 := Try.sizeOf192,
  v57 := Try.zeroValue192,
  t63 := Try.underlying194,
  a63 := Try.isAgg194,
  z63 := Try.sizeOf194,
  v63 := Try.zeroValue194,
  t64 := Try.underlying95,
  a64 := Try.isAgg95,
  z64 := Try.sizeOf95,
  v64 := Try.zeroValue95
}
theorem slices_Sort_i_sim (p0 : Slc) (Qf : Unit → World → Prop) (w : World) (hm : sortM p0 Qf w) : Calls Try.prog 115 #[.slice p0.base p0.len p0.cap] w (RetPost (fun _ : Unit => .tuple #[]) Qf) := sortM_sim sortLay p0 Qf w hm
end Go.Proofs.Ytldmeimebebllaa
namespace Go.Proofs.Ytldmeimebebllaa
open Go.Mo
set_option linter.unusedVariables false
set_option maxRecDepth 100000 in
theorem device_New_sim (p0_disks : Int) (p1_sectors : Int) (Qf : ((Option Addr) × Int) → World → Prop) (w : World) (hm : device_New p0_disks p1_sectors Qf w) : Calls Try.prog 21 #[(.int .i64 p0_disks), (.int .i64 p1_sectors)] w (RetPost (fun y : ((Option Addr) × Int) => (.tuple #[(.pointer y.1), (.int .i64 y.2)])) Qf) := by
  refine calls_of (fn := Try.f21) (l := [(.int .i64 p0_disks), (.int .i64 p1_sectors)]) (m := device_New p0_disks p1_sectors) 57 (by kernel_rfl) rfl rfl rfl (fun Qf0 => ?_) Qf w hm
  clear hm w Qf
  unfold device_New
  refine SC.seq ?_
  refine SC.region' ?_
  refine KT.pv 4 (.pointer none) ?_
  refine KT.pv 5 (.int .i64 0) ?_
  refine KT.nil ?_
  refine SX.seq ?_
  refine SC.seq ?_
  refine SC.seq ?_
  refine SC.region' ?_
  refine KT.pv 8 (.int .i64 p0_disks) ?_
  refine KT.pv 9 (.bool (decide (p0_disks < 1))) ?_
  refine KT.pv 10 (.bool (decide (p0_disks < 1))) ?_
  refine KT.joinO (β := Bool) 3 (fun r1 => [(13, (.bool r1)), (0, (.int .i64 p0_disks)), (1, (.int .i64 p1_sectors))]) (fun r1 => ?_) (fun j1 => ?_)
  refine KT.pv 14 (.bool r1) ?_
  refine KT.joinO (β := Bool) 3 (fun r2 => [(17, (.bool r2)), (0, (.int .i64 p0_disks)), (1, (.int .i64 p1_sectors))]) (fun r2 => ?_) (fun j2 => ?_)
  refine KT.pv 18 (.bool r2) ?_
  refine KT.joinO (β := Bool) 3 (fun r3 => [(21, (.bool r3)), (0, (.int .i64 p0_disks)), (1, (.int .i64 p1_sectors))]) (fun r3 => ?_) (fun j3 => ?_)
  refine KT.nil ?_
  refine SX.seq ?_
  refine SC.cond (b := r3) rfl ?_ ?_
  refine SC.seq ?_
  refine SC.region' ?_
  refine KT.pv 4 (.pointer none) ?_
  refine KT.pv 5 (.int .i64 10) ?_
  refine KT.nil ?_
  refine SX.seq ?_
  refine SC.ret ?_
  refine SX.then_ret ?_
  refine SX.ret [.tmp 4, .tmp 5] rfl ?_
  refine RS.tmp (.pointer none) rfl ?_
  refine RS.tmp (.int .i64 10) rfl ?_
  exact RS.nil rfl
  refine SC.skip ?_
  refine SX.seq ?_
  refine SC.seq ?_
  refine SC.region' ?_
  refine KT.pv 22 (.int .i64 p1_sectors) ?_
  refine KT.pv 23 (.agg #[(.slice none 0 0), (.int .i64 p1_sectors), (.int .i64 (-1)), (.bool false)]) ?_
  refine KT.nw 24 (fun ad => .pointer (some ad)) 110 (fun x24 => ?_)
  refine KT.pv 6 (.pointer (some x24)) ?_
  refine KT.nil ?_
  refine SX.seq ?_
  refine SC.seq ?_
  refine SC.seq ?_
  refine SC.region' ?_
  refine KT.pv 25 (.int .i64 p0_disks) ?_
  refine KT.pv 26 (.int .i64 0) ?_
  refine KT.nil ?_
  refine SX.seq ?_
  refine SC.block ?_
  refine SC.loop (σ := (Int)) (fun s4 => [(1, (.int .i64 p1_sectors)), (6, (.pointer (some x24))), (25, (.int .i64 p0_disks)), (26, (.int .i64 s4))]) (.cons rfl (.cons rfl (.cons rfl (.cons rfl (.nil))))) (fun _ _ _ s4 => ?_)
  refine SC.seq ?_
  refine SC.region' ?_
  refine KT.pv 27 (.bool (decide (s4 < p0_disks))) ?_
  refine KT.nil ?_
  refine SX.seq ?_
  refine SC.seq ?_
  refine SC.cond (b := decide (s4 < p0_disks)) rfl ?_ ?_
  refine SC.skip ?_
  refine SX.seq ?_
  refine SC.seq ?_
  refine SC.block ?_
  refine SC.seq ?_
  refine SC.region' ?_
  refine KT.ow rfl (OW.newO (d := 28) (.map #[] 0) (fun r => .map (some r)) rfl (fun _ => by kernel_rfl) rfl rfl (fun x28 => ?_))
  refine KT.pv 29 (.agg #[(.slice none 0 0), (.map (some x28)), (.bool false), (.int .i64 (-1))]) ?_
  refine KT.nw 30 (fun ad => .pointer (some ad)) 114 (fun x30 => ?_)
  refine KT.pv 7 (.pointer (some x30)) ?_
  refine KT.nil ?_
  refine SX.seq ?_
  refine SC.seq ?_
  refine SC.seq ?_
  refine SC.region' ?_
  refine KT.pv 31 (.int .i64 p1_sectors) ?_
  refine KT.pv 32 (.int .i64 0) ?_
  refine KT.nil ?_
  refine SX.seq ?_
  refine SC.block ?_
  refine SC.loop (σ := (Int)) (fun s5 => [(1, (.int .i64 p1_sectors)), (6, (.pointer (some x24))), (7, (.pointer (some x30))), (25, (.int .i64 p0_disks)), (26, (.int .i64 s4)), (31, (.int .i64 p1_sectors)), (32, (.int .i64 s5))]) (.cons rfl (.cons rfl (.cons rfl (.cons rfl (.cons rfl (.cons rfl (.cons rfl (.nil)))))))) (fun _ _ _ s5 => ?_)
  refine SC.seq ?_
  refine SC.region' ?_
  refine KT.pv 33 (.bool (decide (s5 < p1_sectors))) ?_
  refine KT.nil ?_
  refine SX.seq ?_
  refine SC.seq ?_
  refine SC.cond (b := decide (s5 < p1_sectors)) rfl ?_ ?_
  refine SC.skip ?_
  refine SX.seq ?_
  refine SC.seq ?_
  refine SC.block ?_
  refine SC.draw 11 (fun f => Nat.beq f 7 || Nat.beq f 10) rfl (by kernel_rfl) (fun S6 => ?_)
  refine KT.pvA 0 34 (.pointer (some x30)) ?_
  refine KT.pvA 1 35 (.pointer (some x30)) ?_
  refine KT.pvA 2 36 (.pointer (some x30)) ?_
  refine KT.pvA 3 37 (.pointer (some x30)) ?_
  refine KT.tk 4 (OY.ldI (d := 38) _ _ rfl rfl (by kernel_rfl) rfl rfl (fun x38 => ?_))
  refine KT.one 5 rfl (by kernel_rfl) rfl (OW.step (OW.new (d := 39) (List.replicate 64 (.int .u8 0)) (fun ad => .slice (some ad) 64 64) 5 rfl (fun _ => by kernel_rfl) rfl rfl (fun x39 => ?_)))
  refine KT.and ?_
  refine KT.one 6 rfl (by kernel_rfl) rfl (OW.step (OW.new (d := 40) [(.slice (some x39) 64 64)] (fun ad => .slice (some ad) 1 1) 46 rfl (fun _ => by kernel_rfl) rfl rfl (fun x40 => ?_)))
  refine KT.and ?_
  refine KT.last 7 rfl (by kernel_rfl) rfl rfl (OW.append (d := 41) (s := x38) (x := ⟨some x40, 1, 1⟩) [(.slice none 0 0)] 24 46 _ _ _ _ rfl rfl rfl rfl (by kernel_rfl) (by kernel_rfl) rfl rfl rfl (fun x41 => ?_))
  refine KT.pvN 8 42 (.pointer (some x30)) ?_
  refine KT.pvN 9 43 (.pointer (some x30)) ?_
  refine KT.lastN 10 rfl (by kernel_rfl) rfl rfl (OW.st _ _ _ rfl rfl rfl rfl (by kernel_rfl) rfl ?_)
  refine KT.doneN (by kernel_rfl) ?_
  refine SX.block ?_
  refine SX.seq ?_
  refine SC.region' ?_
  refine KT.pv 44 (.int .i64 (w64 (s5 + 1))) ?_
  refine KT.pv 32 (.int .i64 (w64 (s5 + 1))) ?_
  refine KT.nil ?_
  exact SX.loop_next (.cons rfl (.cons rfl (.cons rfl (.cons rfl (.cons rfl (.cons rfl (.cons rfl (.nil))))))))
  refine SC.exit ?_
  refine SX.then_exit ?_
  refine SX.loop_exit ?_
  refine SX.block_hit ?_
  refine SX.seq ?_
  refine SC.region' ?_
  refine KT.pv 45 (.pointer (some x24)) ?_
  refine KT.pv 46 (.pointer (some x24)) ?_
  refine KT.pv 47 (.pointer (some x24)) ?_
  refine KT.pv 48 (.pointer (some x24)) ?_
  refine KT.l 49 (fun x49 => ?_)
  refine KT.pv 50 (.pointer (some x30)) ?_
  refine KT.nw 51 (fun ad => .slice (some ad) 1 1) 111 (fun x51 => ?_)
  refine KT.ow rfl (OW.append (d := 52) (s := x49) (x := ⟨some x51, 1, 1⟩) [(.pointer none)] 8 111 _ _ _ _ rfl rfl rfl rfl (by kernel_rfl) (by kernel_rfl) rfl rfl rfl (fun x52 => ?_))
  refine KT.pv 53 (.pointer (some x24)) ?_
  refine KT.pv 54 (.pointer (some x24)) ?_
  refine KT.s ?_
  refine KT.nil ?_
  refine SX.block ?_
  refine SX.seq ?_
  refine SC.region' ?_
  refine KT.pv 55 (.int .i64 (w64 (s4 + 1))) ?_
  refine KT.pv 26 (.int .i64 (w64 (s4 + 1))) ?_
  refine KT.nil ?_
  exact SX.loop_next (.cons rfl (.cons rfl (.cons rfl (.cons rfl (.nil)))))
  refine SC.exit ?_
  refine SX.then_exit ?_
  refine SX.loop_exit ?_
  refine SX.block_hit ?_
  refine SX.seq ?_
  refine SC.seq ?_
  refine SC.region' ?_
  refine KT.pv 56 (.pointer (some x24)) ?_
  refine KT.pv 4 (.pointer (some x24)) ?_
  refine KT.pv 5 (.int .i64 0) ?_
  refine KT.nil ?_
  refine SX.seq ?_
  refine SC.ret ?_
  refine SX.ret [.tmp 4, .tmp 5] rfl ?_
  refine RS.tmp (.pointer (some x24)) rfl ?_
  refine RS.tmp (.int .i64 0) rfl ?_
  exact RS.nil rfl
  refine KT.ite (b := r2) 18 rfl ?_ ?_
  refine KT.sk ?_
  refine KT.sk ?_
  refine KT.pv 21 (.bool true) ?_
  exact KT.leafO j3 (.cons rfl (.cons rfl (.cons rfl (.nil))))
  refine KT.pv 19 (.int .i64 p1_sectors) ?_
  refine KT.pv 20 (.bool (decide (p1_sectors > 4096))) ?_
  refine KT.pv 21 (.bool (decide (p1_sectors > 4096))) ?_
  exact KT.leafO j3 (.cons rfl (.cons rfl (.cons rfl (.nil))))
  refine KT.ite (b := r1) 14 rfl ?_ ?_
  refine KT.sk ?_
  refine KT.sk ?_
  refine KT.pv 17 (.bool true) ?_
  exact KT.leafO j2 (.cons rfl (.cons rfl (.cons rfl (.nil))))
  refine KT.pv 15 (.int .i64 p1_sectors) ?_
  refine KT.pv 16 (.bool (decide (p1_sectors < 1))) ?_
  refine KT.pv 17 (.bool (decide (p1_sectors < 1))) ?_
  exact KT.leafO j2 (.cons rfl (.cons rfl (.cons rfl (.nil))))
  refine KT.ite (b := decide (p0_disks < 1)) 10 rfl ?_ ?_
  refine KT.sk ?_
  refine KT.sk ?_
  refine KT.pv 13 (.bool true) ?_
  exact KT.leafO j1 (.cons rfl (.cons rfl (.cons rfl (.nil))))
  refine KT.pv 11 (.int .i64 p0_disks) ?_
  refine KT.pv 12 (.bool (decide (p0_disks > 17))) ?_
  refine KT.pv 13 (.bool (decide (p0_disks > 17))) ?_
  exact KT.leafO j1 (.cons rfl (.cons rfl (.cons rfl (.nil))))
set_option maxRecDepth 100000 in
theorem geo_within_sim (p0_n : Int) (p1_from : Int) (p2_to : Int) (Qf : Bool → World → Prop) (w : World) (hm : geo_within p0_n p1_from p2_to Qf w) : Calls Try.prog 110 #[(.int .i64 p0_n), (.int .i64 p1_from), (.int .i64 p2_to)] w (RetPost Value.bool Qf) := by
  refine calls_of (fn := Try.f110) (l := [(.int .i64 p0_n), (.int .i64 p1_from), (.int .i64 p2_to)]) (m := geo_within p0_n p1_from p2_to) 15 (by kernel_rfl) rfl rfl rfl (fun Qf0 => ?_) Qf w hm
  clear hm w Qf
  unfold geo_within
  refine SC.seq ?_
  refine SC.region' ?_
  refine KT.pv 6 (.bool false) ?_
  refine KT.nil ?_
  refine SX.seq ?_
  refine SC.seq ?_
  refine SC.region' ?_
  refine KT.pv 7 (.int .i64 p1_from) ?_
  refine KT.pv 8 (.int .i64 p0_n) ?_
  refine KT.pv 9 (.bool (decide (p1_from ≤ p0_n))) ?_
  refine KT.pv 10 (.bool (decide (p1_from ≤ p0_n))) ?_
  refine KT.joinO (β := Bool) 4 (fun r1 => [(14, (.bool r1))]) (fun r1 => ?_) (fun j1 => ?_)
  refine KT.pv 6 (.bool r1) ?_
  refine KT.nil ?_
  refine SX.seq ?_
  refine SC.ret ?_
  refine SX.ret [.tmp 6] rfl ?_
  refine RS.tmp (.bool r1) rfl ?_
  exact RS.nil rfl
  refine KT.ite (b := decide (p1_from ≤ p0_n)) 10 rfl ?_ ?_
  refine KT.pv 11 (.int .i64 p0_n) ?_
  refine KT.pv 12 (.int .i64 p2_to) ?_
  refine KT.pv 13 (.bool (decide (p0_n ≤ p2_to))) ?_
  refine KT.pv 14 (.bool (decide (p0_n ≤ p2_to))) ?_
  exact KT.leafO j1 (.cons rfl (.nil))
  refine KT.sk ?_
  refine KT.sk ?_
  refine KT.sk ?_
  refine KT.pv 14 (.bool false) ?_
  exact KT.leafO j1 (.cons rfl (.nil))
set_option maxRecDepth 100000 in
theorem geo_others_sim (p0_g : (Int × Int × Int)) (Qf : Int → World → Prop) (w : World) (hm : geo_others p0_g Qf w) : Calls Try.prog 111 #[(.agg #[(.int .i64 p0_g.1), (.int .i64 p0_g.2.1), (.int .i64 p0_g.2.2)])] w (RetPost (Value.int .i64) Qf) := by
  refine calls_of (fn := Try.f111) (l := [(.agg #[(.int .i64 p0_g.1), (.int .i64 p0_g.2.1), (.int .i64 p0_g.2.2)])]) (m := geo_others p0_g) 7 (by kernel_rfl) rfl rfl rfl (fun Qf0 => ?_) Qf w hm
  clear hm w Qf
  unfold geo_others
  refine SC.seq ?_
  refine SC.region' ?_
  refine KT.nw 1 (fun ad => .pointer (some ad)) 23 (fun x1 => ?_)
  refine KT.pv 2 (.int .i64 0) ?_
  refine KT.nil ?_
  refine SX.seq ?_
  refine SC.seq ?_
  refine SC.region' ?_
  refine KT.pv 3 (.pointer (some (Addr.add x1 2))) ?_
  refine KT.l 4 (fun x4 => ?_)
  refine KT.pv 5 (.int .i64 (w64 (Int.tdiv x4 8))) ?_
  refine KT.pv 6 (.int .i64 (w64 (1 + (w64 (Int.tdiv x4 8))))) ?_
  refine KT.pv 2 (.int .i64 (w64 (1 + (w64 (Int.tdiv x4 8))))) ?_
  refine KT.nil ?_
  refine SX.seq ?_
  refine SC.ret ?_
  refine SX.ret [.tmp 2] rfl ?_
  refine RS.tmp (.int .i64 (w64 (1 + (w64 (Int.tdiv x4 8))))) rfl ?_
  exact RS.nil rfl
set_option maxRecDepth 100000 in
theorem geo_places_sim (p0_g : (Int × Int × Int)) (Qf : Int → World → Prop) (w : World) (hm : geo_places p0_g Qf w) : Calls Try.prog 112 #[(.agg #[(.int .i64 p0_g.1), (.int .i64 p0_g.2.1), (.int .i64 p0_g.2.2)])] w (RetPost (Value.int .i64) Qf) := by
  refine calls_of (fn := Try.f112) (l := [(.agg #[(.int .i64 p0_g.1), (.int .i64 p0_g.2.1), (.int .i64 p0_g.2.2)])]) (m := geo_places p0_g) 10 (by kernel_rfl) rfl rfl rfl (fun Qf0 => ?_) Qf w hm
  clear hm w Qf
  unfold geo_places
  refine SC.seq ?_
  refine SC.region' ?_
  refine KT.nw 1 (fun ad => .pointer (some ad)) 23 (fun x1 => ?_)
  refine KT.pv 2 (.int .i64 0) ?_
  refine KT.nil ?_
  refine SX.seq ?_
  refine SC.seq ?_
  refine SC.region' ?_
  refine KT.pv 3 (.pointer (some (Addr.add x1 1))) ?_
  refine KT.l 4 (fun x4 => ?_)
  refine KT.pv 5 (.pointer (some x1)) ?_
  refine KT.l 6 (fun x6 => ?_)
  refine KT.pv 7 (.int .i64 (w64 (x6 - 1))) ?_
  refine KT.pv 8 (.int .i64 (w64 (x4 * (w64 (x6 - 1))))) ?_
  refine KT.pv 9 (.int .i64 (w64 ((w64 (x4 * (w64 (x6 - 1)))) - 1))) ?_
  refine KT.pv 2 (.int .i64 (w64 ((w64 (x4 * (w64 (x6 - 1)))) - 1))) ?_
  refine KT.nil ?_
  refine SX.seq ?_
  refine SC.ret ?_
  refine SX.ret [.tmp 2] rfl ?_
  refine RS.tmp (.int .i64 (w64 ((w64 (x4 * (w64 (x6 - 1)))) - 1))) rfl ?_
  exact RS.nil rfl
set_option maxRecDepth 100000 in
theorem geo_Right_sim (p0_g : (Int × Int × Int)) (Qf : Bool → World → Prop) (w : World) (hm : geo_Right p0_g Qf w) : Calls Try.prog 64 #[(.agg #[(.int .i64 p0_g.1), (.int .i64 p0_g.2.1), (.int .i64 p0_g.2.2)])] w (RetPost Value.bool Qf) := by
  refine calls_of (fn := Try.f64) (l := [(.agg #[(.int .i64 p0_g.1), (.int .i64 p0_g.2.1), (.int .i64 p0_g.2.2)])]) (m := geo_Right p0_g) 24 (by kernel_rfl) rfl rfl rfl (fun Qf0 => ?_) Qf w hm
  clear hm w Qf
  unfold geo_Right
  refine SC.seq ?_
  refine SC.region' ?_
  refine KT.nw 1 (fun ad => .pointer (some ad)) 23 (fun x1 => ?_)
  refine KT.pv 2 (.bool false) ?_
  refine KT.nil ?_
  refine SX.seq ?_
  refine SC.seq ?_
  refine SC.draw 22 (fun _ => false) rfl (by kernel_rfl) (fun S1 => ?_)
  refine KT.pvA 0 3 (.pointer (some x1)) ?_
  refine KT.tk 1 (OY.ldI (d := 4) _ _ rfl rfl (by kernel_rfl) rfl rfl (fun x4 => ?_))
  refine KT.one 2 rfl (by kernel_rfl) rfl (OW.step (OW.call (d := 5) (enc := Value.bool) 110 #[(.int .i64 x4), (.int .i64 3), (.int .i64 16)] rfl (fun _ => by kernel_rfl) (fun Qf w => geo_within_sim x4 3 16 Qf w) rfl rfl (fun x5 => ?_)))
  refine KT.and ?_
  refine KT.pvA 3 6 (.bool x5) ?_
  refine KT.ite (b := x5) 6 rfl ?_ ?_
  refine KT.pvA 4 7 (.pointer (some (Addr.add x1 1))) ?_
  refine KT.tk 5 (OY.ldI (d := 8) _ _ rfl rfl (by kernel_rfl) rfl rfl (fun x8 => ?_))
  refine KT.one 6 rfl (by kernel_rfl) rfl (OW.step (OW.call (d := 9) (enc := Value.bool) 110 #[(.int .i64 x8), (.int .i64 1), (.int .i64 4)] rfl (fun _ => by kernel_rfl) (fun Qf w => geo_within_sim x8 1 4 Qf w) rfl rfl (fun x9 => ?_)))
  refine KT.and ?_
  refine KT.pvA 7 10 (.bool x9) ?_
  refine KT.pvA 8 11 (.bool x9) ?_
  refine KT.ite (b := x9) 11 rfl ?_ ?_
  refine KT.pvA 9 12 (.pointer (some (Addr.add x1 2))) ?_
  refine KT.tk 10 (OY.ldI (d := 13) _ _ rfl rfl (by kernel_rfl) rfl rfl (fun x13 => ?_))
  refine KT.one 11 rfl (by kernel_rfl) rfl (OW.step (OW.call (d := 14) (enc := Value.bool) 110 #[(.int .i64 x13), (.int .i64 12), (.int .i64 64)] rfl (fun _ => by kernel_rfl) (fun Qf w => geo_within_sim x13 12 64 Qf w) rfl rfl (fun x14 => ?_)))
  refine KT.and ?_
  refine KT.pvA 12 15 (.bool x14) ?_
  refine KT.pvA 13 16 (.bool x14) ?_
  refine KT.ite (b := x14) 16 rfl ?_ ?_
  refine KT.tk 14 (OY.ldAI (d := 17) (enc := (fun y : (Int × Int × Int) => [(.int .i64 y.1), (.int .i64 y.2.1), (.int .i64 y.2.2)])) 3 _ _ rfl rfl (by kernel_rfl) (by kernel_rfl) (fun _ => rfl) rfl rfl (fun x17 => ?_))
  refine KT.tk 16 (OY.ldAI (d := 19) (enc := (fun y : (Int × Int × Int) => [(.int .i64 y.1), (.int .i64 y.2.1), (.int .i64 y.2.2)])) 3 _ _ rfl rfl (by kernel_rfl) (by kernel_rfl) (fun _ => rfl) rfl rfl (fun x19 => ?_))
  refine KT.one 15 rfl (by kernel_rfl) rfl (OW.step (OW.call (d := 18) (enc := (Value.int .i64)) 111 #[(.agg #[(.int .i64 x17.1), (.int .i64 x17.2.1), (.int .i64 x17.2.2)])] rfl (fun _ => by kernel_rfl) (fun Qf w => geo_others_sim (x17.1, x17.2.1, x17.2.2) Qf w) rfl rfl (fun x18 => ?_)))
  refine KT.and ?_
  refine KT.one 17 rfl (by kernel_rfl) rfl (OW.step (OW.call (d := 20) (enc := (Value.int .i64)) 112 #[(.agg #[(.int .i64 x19.1), (.int .i64 x19.2.1), (.int .i64 x19.2.2)])] rfl (fun _ => by kernel_rfl) (fun Qf w => geo_places_sim (x19.1, x19.2.1, x19.2.2) Qf w) rfl rfl (fun x20 => ?_)))
  refine KT.and ?_
  refine KT.pvA 18 21 (.int .i64 (w64 (x18 * x20))) ?_
  refine KT.pvA 19 22 (.bool (decide ((w64 (x18 * x20)) ≥ 8))) ?_
  refine KT.pvA 20 23 (.bool (decide ((w64 (x18 * x20)) ≥ 8))) ?_
  refine KT.pvA 21 2 (.bool (decide ((w64 (x18 * x20)) ≥ 8))) ?_
  refine KT.doneA (by kernel_rfl) ?_
  refine SX.seq ?_
  refine SC.ret ?_
  refine SX.ret [.tmp 2] rfl ?_
  refine RS.tmp (.bool (decide ((w64 (x18 * x20)) ≥ 8))) rfl ?_
  exact RS.nil rfl
  refine KT.skA 14 ?_
  refine KT.skA 15 ?_
  refine KT.skA 16 ?_
  refine KT.skA 17 ?_
  refine KT.skA 18 ?_
  refine KT.skA 19 ?_
  refine KT.pvA 20 23 (.bool false) ?_
  refine KT.pvA 21 2 (.bool false) ?_
  refine KT.doneA (by kernel_rfl) ?_
  refine SX.seq ?_
  refine SC.ret ?_
  refine SX.ret [.tmp 2] rfl ?_
  refine RS.tmp (.bool false) rfl ?_
  exact RS.nil rfl
  refine KT.skA 9 ?_
  refine KT.skA 10 ?_
  refine KT.skA 11 ?_
  refine KT.pvA 12 15 (.bool false) ?_
  refine KT.pvA 13 16 (.bool false) ?_
  refine KT.skA 14 ?_
  refine KT.skA 15 ?_
  refine KT.skA 16 ?_
  refine KT.skA 17 ?_
  refine KT.skA 18 ?_
  refine KT.skA 19 ?_
  refine KT.pvA 20 23 (.bool false) ?_
  refine KT.pvA 21 2 (.bool false) ?_
  refine KT.doneA (by kernel_rfl) ?_
  refine SX.seq ?_
  refine SC.ret ?_
  refine SX.ret [.tmp 2] rfl ?_
  refine RS.tmp (.bool false) rfl ?_
  exact RS.nil rfl
  refine KT.skA 4 ?_
  refine KT.skA 5 ?_
  refine KT.skA 6 ?_
  refine KT.pvA 7 10 (.bool false) ?_
  refine KT.pvA 8 11 (.bool false) ?_
  refine KT.skA 9 ?_
  refine KT.skA 10 ?_
  refine KT.skA 11 ?_
  refine KT.pvA 12 15 (.bool false) ?_
  refine KT.pvA 13 16 (.bool false) ?_
  refine KT.skA 14 ?_
  refine KT.skA 15 ?_
  refine KT.skA 16 ?_
  refine KT.skA 17 ?_
  refine KT.skA 18 ?_
  refine KT.skA 19 ?_
  refine KT.pvA 20 23 (.bool false) ?_
  refine KT.pvA 21 2 (.bool false) ?_
  refine KT.doneA (by kernel_rfl) ?_
  refine SX.seq ?_
  refine SC.ret ?_
  refine SX.ret [.tmp 2] rfl ?_
  refine RS.tmp (.bool false) rfl ?_
  exact RS.nil rfl
set_option maxRecDepth 100000 in
theorem geo_Sectors_sim (p0_g : (Int × Int × Int)) (Qf : Int → World → Prop) (w : World) (hm : geo_Sectors p0_g Qf w) : Calls Try.prog 26 #[(.agg #[(.int .i64 p0_g.1), (.int .i64 p0_g.2.1), (.int .i64 p0_g.2.2)])] w (RetPost (Value.int .i64) Qf) := by
  refine calls_of (fn := Try.f26) (l := [(.agg #[(.int .i64 p0_g.1), (.int .i64 p0_g.2.1), (.int .i64 p0_g.2.2)])]) (m := geo_Sectors p0_g) 12 (by kernel_rfl) rfl rfl rfl (fun Qf0 => ?_) Qf w hm
  clear hm w Qf
  unfold geo_Sectors
  refine SC.seq ?_
  refine SC.region' ?_
  refine KT.nw 1 (fun ad => .pointer (some ad)) 23 (fun x1 => ?_)
  refine KT.pv 2 (.int .i64 0) ?_
  refine KT.nil ?_
  refine SX.seq ?_
  refine SC.seq ?_
  refine SC.seq ?_
  refine SC.region' ?_
  refine KT.ow rfl (OW.ldA (d := 3) (enc := (fun y : (Int × Int × Int) => [(.int .i64 y.1), (.int .i64 y.2.1), (.int .i64 y.2.2)])) 3 _ _ rfl rfl (by kernel_rfl) (by kernel_rfl) (fun _ => rfl) rfl rfl (fun x3 => ?_))
  refine KT.cl Value.bool 4 64 #[(.agg #[(.int .i64 x3.1), (.int .i64 x3.2.1), (.int .i64 x3.2.2)])] (geo_Right_sim (x3.1, x3.2.1, x3.2.2)) (fun x4 => ?_)
  refine KT.pv 5 (.bool (!x4)) ?_
  refine KT.nil ?_
  refine SX.seq ?_
  refine SC.cond (b := !x4) rfl ?_ ?_
  refine SC.seq ?_
  refine SC.region' ?_
  refine KT.pv 2 (.int .i64 0) ?_
  refine KT.nil ?_
  refine SX.seq ?_
  refine SC.ret ?_
  refine SX.then_ret ?_
  refine SX.ret [.tmp 2] rfl ?_
  refine RS.tmp (.int .i64 0) rfl ?_
  exact RS.nil rfl
  refine SC.skip ?_
  refine SX.seq ?_
  refine SC.seq ?_
  refine SC.region' ?_
  refine KT.pv 6 (.pointer (some (Addr.add x1 2))) ?_
  refine KT.l 7 (fun x7 => ?_)
  refine KT.pv 8 (.pointer (some (Addr.add x1 1))) ?_
  refine KT.l 9 (fun x9 => ?_)
  refine KT.pv 10 (.int .i64 (w64 (x7 * x9))) ?_
  refine KT.pv 11 (.int .i64 (w64 (5 + (w64 (x7 * x9))))) ?_
  refine KT.pv 2 (.int .i64 (w64 (5 + (w64 (x7 * x9))))) ?_
  refine KT.nil ?_
  refine SX.seq ?_
  refine SC.ret ?_
  refine SX.ret [.tmp 2] rfl ?_
  refine RS.tmp (.int .i64 (w64 (5 + (w64 (x7 * x9))))) rfl ?_
  exact RS.nil rfl
set_option maxRecDepth 100000 in
theorem device_Rack_Size_sim (p0_r : (Option Addr)) (Qf : (Int × Int) → World → Prop) (w : World) (hm : device_Rack_Size p0_r Qf w) : Calls Try.prog 57 #[(.pointer p0_r)] w (RetPost (fun y : (Int × Int) => (.tuple #[(.int .i64 y.1), (.int .i64 y.2)])) Qf) := by
  refine calls_of (fn := Try.f57) (l := [(.pointer p0_r)]) (m := device_Rack_Size p0_r) 13 (by kernel_rfl) rfl rfl rfl (fun Qf0 => ?_) Qf w hm
  clear hm w Qf
  unfold device_Rack_Size
  refine SC.seq ?_
  refine SC.region' ?_
  refine KT.pv 2 (.int .i64 0) ?_
  refine KT.pv 3 (.int .i64 0) ?_
  refine KT.nil ?_
  refine SX.seq ?_
  refine SC.seq ?_
  refine SC.draw 11 (fun _ => false) rfl (by kernel_rfl) (fun S1 => ?_)
  refine KT.pvA 0 4 (.pointer p0_r) ?_
  refine KT.tp 1 (OY.nil (d := 5) (p := p0_r) _ rfl rfl rfl rfl (fun x5 => ?_))
  refine KT.pvA 2 6 (.pointer (some x5)) ?_
  refine KT.tk 3 (OY.ldI (d := 7) _ _ rfl rfl (by kernel_rfl) rfl rfl (fun x7 => ?_))
  refine KT.pvA 4 8 (.int .i64 ((x7.len : Nat) : Int)) ?_
  refine KT.pvA 5 9 (.pointer p0_r) ?_
  refine KT.tp 6 (OY.nil (d := 10) (p := p0_r) _ rfl rfl rfl rfl (fun x10 => ?_))
  refine KT.pvA 7 11 (.pointer (some (Addr.add x10 1))) ?_
  refine KT.tk 8 (OY.ldI (d := 12) _ _ rfl rfl (by kernel_rfl) rfl rfl (fun x12 => ?_))
  refine KT.pvA 9 2 (.int .i64 ((x7.len : Nat) : Int)) ?_
  refine KT.pvA 10 3 (.int .i64 x12) ?_
  refine KT.doneA (by kernel_rfl) ?_
  refine SX.seq ?_
  refine SC.ret ?_
  refine SX.ret [.tmp 2, .tmp 3] rfl ?_
  refine RS.tmp (.int .i64 ((x7.len : Nat) : Int)) rfl ?_
  refine RS.tmp (.int .i64 x12) rfl ?_
  exact RS.nil rfl
set_option maxRecDepth 100000 in
theorem bank_fits_sim (p0_g : (Int × Int × Int)) (p1_m : (Int × Int × Int)) (Qf : Bool → World → Prop) (w : World) (hm : bank_fits p0_g p1_m Qf w) : Calls Try.prog 65 #[(.agg #[(.int .i64 p0_g.1), (.int .i64 p0_g.2.1), (.int .i64 p0_g.2.2)]), (.agg #[(.int .i64 p1_m.1), (.int .i64 p1_m.2.1), (.int .i64 p1_m.2.2)])] w (RetPost Value.bool Qf) := by
  refine calls_of (fn := Try.f65) (l := [(.agg #[(.int .i64 p0_g.1), (.int .i64 p0_g.2.1), (.int .i64 p0_g.2.2)]), (.agg #[(.int .i64 p1_m.1), (.int .i64 p1_m.2.1), (.int .i64 p1_m.2.2)])]) (m := bank_fits p0_g p1_m) 22 (by kernel_rfl) rfl rfl rfl (fun Qf0 => ?_) Qf w hm
  clear hm w Qf
  unfold bank_fits
  refine SC.seq ?_
  refine SC.region' ?_
  refine KT.nw 2 (fun ad => .pointer (some ad)) 23 (fun x2 => ?_)
  refine KT.nw 3 (fun ad => .pointer (some ad)) 25 (fun x3 => ?_)
  refine KT.pv 4 (.bool false) ?_
  refine KT.nil ?_
  refine SX.seq ?_
  refine SC.seq ?_
  refine SC.seq ?_
  refine SC.region' ?_
  refine KT.pv 5 (.pointer (some (Addr.add x3 2))) ?_
  refine KT.l 6 (fun x6 => ?_)
  refine KT.nil ?_
  refine SX.seq ?_
  refine SC.block ?_
  refine SC.seq ?_
  refine SC.region' ?_
  refine KT.pv 8 (.bool (x6 == 0)) ?_
  refine KT.pv 7 (.bool (x6 == 0)) ?_
  refine KT.nil ?_
  refine SX.seq ?_
  refine SC.cond (b := x6 == 0) rfl ?_ ?_
  refine SC.seq ?_
  refine SC.region' ?_
  refine KT.pv 4 (.bool true) ?_
  refine KT.nil ?_
  refine SX.seq ?_
  refine SC.ret ?_
  refine SX.block_ret ?_
  refine SX.then_ret ?_
  refine SX.ret [.tmp 4] rfl ?_
  refine RS.tmp (.bool true) rfl ?_
  exact RS.nil rfl
  refine SC.seq ?_
  refine SC.seq ?_
  refine SC.region' ?_
  refine KT.pv 10 (.bool (x6 == 1)) ?_
  refine KT.pv 9 (.bool (x6 == 1)) ?_
  refine KT.nil ?_
  refine SX.seq ?_
  refine SC.join (β := (Bool)) (fun b1 => [(2, (.pointer (some x2))), (3, (.pointer (some x3))), (9, (.bool b1))]) (fun b1 => ?_) (fun j1 => ?_)
  refine SX.seq ?_
  refine SC.cond (b := b1) rfl ?_ ?_
  refine SC.seq ?_
  refine SC.region' ?_
  refine KT.pv 12 (.pointer (some (Addr.add x3 1))) ?_
  refine KT.l 13 (fun x13 => ?_)
  refine KT.pv 14 (.bool (decide (x13 ≥ 0))) ?_
  refine KT.pv 15 (.bool (decide (x13 ≥ 0))) ?_
  refine KT.joinO (β := Bool) 6 (fun r2 => [(21, (.bool r2))]) (fun r2 => ?_) (fun j2 => ?_)
  refine KT.pv 4 (.bool r2) ?_
  refine KT.nil ?_
  refine SX.seq ?_
  refine SC.ret ?_
  refine SX.block_ret ?_
  refine SX.then_ret ?_
  refine SX.ret [.tmp 4] rfl ?_
  refine RS.tmp (.bool r2) rfl ?_
  exact RS.nil rfl
  refine KT.ite (b := decide (x13 ≥ 0)) 15 rfl ?_ ?_
  refine KT.pv 16 (.pointer (some (Addr.add x3 1))) ?_
  refine KT.l 17 (fun x17 => ?_)
  refine KT.pv 18 (.pointer (some x2)) ?_
  refine KT.l 19 (fun x19 => ?_)
  refine KT.pv 20 (.bool (decide (x17 < x19))) ?_
  refine KT.pv 21 (.bool (decide (x17 < x19))) ?_
  exact KT.leafO j2 (.cons rfl (.nil))
  refine KT.sk ?_
  refine KT.sk ?_
  refine KT.sk ?_
  refine KT.sk ?_
  refine KT.sk ?_
  refine KT.pv 21 (.bool false) ?_
  exact KT.leafO j2 (.cons rfl (.nil))
  refine SC.skip ?_
  refine SX.block ?_
  refine SX.seq ?_
  refine SC.seq ?_
  refine SC.region' ?_
  refine KT.pv 4 (.bool false) ?_
  refine KT.nil ?_
  refine SX.seq ?_
  refine SC.ret ?_
  refine SX.ret [.tmp 4] rfl ?_
  refine RS.tmp (.bool false) rfl ?_
  exact RS.nil rfl
  refine SC.cond (b := x6 == 1) rfl ?_ ?_
  refine SC.skip ?_
  exact SX.leafS j1 (.cons rfl (.cons rfl (.cons rfl (.nil))))
  refine SC.region' ?_
  refine KT.pv 11 (.bool (x6 == 2)) ?_
  refine KT.pv 9 (.bool (x6 == 2)) ?_
  refine KT.nil ?_
  exact SX.leafS j1 (.cons rfl (.cons rfl (.cons rfl (.nil))))
set_option maxRecDepth 100000 in
theorem bank_Open_sim (p0_r : (Option Addr)) (p1_g : (Int × Int × Int)) (p2_m : (Int × Int × Int)) (Qf : ((Option Addr) × Int) → World → Prop) (w : World) (hm : bank_Open p0_r p1_g p2_m Qf w) : Calls Try.prog 23 #[(.pointer p0_r), (.agg #[(.int .i64 p1_g.1), (.int .i64 p1_g.2.1), (.int .i64 p1_g.2.2)]), (.agg #[(.int .i64 p2_m.1), (.int .i64 p2_m.2.1), (.int .i64 p2_m.2.2)])] w (RetPost (fun y : ((Option Addr) × Int) => (.tuple #[(.pointer y.1), (.int .i64 y.2)])) Qf) := by
  refine calls_of (fn := Try.f23) (l := [(.pointer p0_r), (.agg #[(.int .i64 p1_g.1), (.int .i64 p1_g.2.1), (.int .i64 p1_g.2.2)]), (.agg #[(.int .i64 p2_m.1), (.int .i64 p2_m.2.1), (.int .i64 p2_m.2.2)])]) (m := bank_Open p0_r p1_g p2_m) 42 (by kernel_rfl) rfl rfl rfl (fun Qf0 => ?_) Qf w hm
  clear hm w Qf
  unfold bank_Open
  refine SC.seq ?_
  refine SC.region' ?_
  refine KT.nw 4 (fun ad => .pointer (some ad)) 23 (fun x4 => ?_)
  refine KT.nw 5 (fun ad => .pointer (some ad)) 25 (fun x5 => ?_)
  refine KT.pv 6 (.pointer none) ?_
  refine KT.pv 7 (.int .i64 0) ?_
  refine KT.nil ?_
  refine SX.seq ?_
  refine SC.seq ?_
  refine SC.region' ?_
  refine KT.pv 11 (.pointer p0_r) ?_
  refine KT.cl (fun y : (Int × Int) => (.tuple #[(.int .i64 y.1), (.int .i64 y.2)])) 12 57 #[(.pointer p0_r)] (device_Rack_Size_sim p0_r) (fun x12 => ?_)
  refine KT.pv 10 (.tuple #[(.int .i64 x12.1), (.int .i64 x12.2)]) ?_
  refine KT.pv 13 (.int .i64 x12.1) ?_
  refine KT.pv 14 (.int .i64 x12.2) ?_
  refine KT.pv 8 (.int .i64 x12.1) ?_
  refine KT.pv 9 (.int .i64 x12.2) ?_
  refine KT.nil ?_
  refine SX.seq ?_
  refine SC.seq ?_
  refine SC.seq ?_
  refine SC.region' ?_
  refine KT.ow rfl (OW.ldA (d := 15) (enc := (fun y : (Int × Int × Int) => [(.int .i64 y.1), (.int .i64 y.2.1), (.int .i64 y.2.2)])) 3 _ _ rfl rfl (by kernel_rfl) (by kernel_rfl) (fun _ => rfl) rfl rfl (fun x15 => ?_))
  refine KT.cl Value.bool 16 64 #[(.agg #[(.int .i64 x15.1), (.int .i64 x15.2.1), (.int .i64 x15.2.2)])] (geo_Right_sim (x15.1, x15.2.1, x15.2.2)) (fun x16 => ?_)
  refine KT.pv 17 (.bool (!x16)) ?_
  refine KT.pv 18 (.bool (!x16)) ?_
  refine KT.joinO (β := Bool) 6 (fun r1 => [(24, (.bool r1)), (0, (.pointer p0_r)), (4, (.pointer (some x4))), (5, (.pointer (some x5))), (9, (.int .i64 x12.2))]) (fun r1 => ?_) (fun j1 => ?_)
  refine KT.pv 25 (.bool r1) ?_
  refine KT.joinO (β := Bool) 5 (fun r2 => [(30, (.bool r2)), (0, (.pointer p0_r)), (4, (.pointer (some x4))), (5, (.pointer (some x5)))]) (fun r2 => ?_) (fun j2 => ?_)
  refine KT.pv 31 (.bool r2) ?_
  refine KT.joinO (β := Bool) 5 (fun r3 => [(36, (.bool r3)), (0, (.pointer p0_r)), (4, (.pointer (some x4))), (5, (.pointer (some x5)))]) (fun r3 => ?_) (fun j3 => ?_)
  refine KT.nil ?_
  refine SX.seq ?_
  refine SC.cond (b := r3) rfl ?_ ?_
  refine SC.seq ?_
  refine SC.region' ?_
  refine KT.pv 6 (.pointer none) ?_
  refine KT.pv 7 (.int .i64 10) ?_
  refine KT.nil ?_
  refine SX.seq ?_
  refine SC.ret ?_
  refine SX.then_ret ?_
  refine SX.ret [.tmp 6, .tmp 7] rfl ?_
  refine RS.tmp (.pointer none) rfl ?_
  refine RS.tmp (.int .i64 10) rfl ?_
  exact RS.nil rfl
  refine SC.skip ?_
  refine SX.seq ?_
  refine SC.seq ?_
  refine SC.region' ?_
  refine KT.pv 37 (.pointer p0_r) ?_
  refine KT.ow rfl (OW.ldA (d := 38) (enc := (fun y : (Int × Int × Int) => [(.int .i64 y.1), (.int .i64 y.2.1), (.int .i64 y.2.2)])) 3 _ _ rfl rfl (by kernel_rfl) (by kernel_rfl) (fun _ => rfl) rfl rfl (fun x38 => ?_))
  refine KT.ow rfl (OW.ldA (d := 39) (enc := (fun y : (Int × Int × Int) => [(.int .i64 y.1), (.int .i64 y.2.1), (.int .i64 y.2.2)])) 3 _ _ rfl rfl (by kernel_rfl) (by kernel_rfl) (fun _ => rfl) rfl rfl (fun x39 => ?_))
  refine KT.pv 40 (.agg #[(.pointer p0_r), (.int .i64 x38.1), (.int .i64 x38.2.1), (.int .i64 x38.2.2), (.int .i64 x39.1), (.int .i64 x39.2.1), (.int .i64 x39.2.2)]) ?_
  refine KT.nw 41 (fun ad => .pointer (some ad)) 118 (fun x41 => ?_)
  refine KT.pv 6 (.pointer (some x41)) ?_
  refine KT.pv 7 (.int .i64 0) ?_
  refine KT.nil ?_
  refine SX.seq ?_
  refine SC.ret ?_
  refine SX.ret [.tmp 6, .tmp 7] rfl ?_
  refine RS.tmp (.pointer (some x41)) rfl ?_
  refine RS.tmp (.int .i64 0) rfl ?_
  exact RS.nil rfl
  refine KT.ite (b := r2) 31 rfl ?_ ?_
  refine KT.sk ?_
  refine KT.sk ?_
  refine KT.sk ?_
  refine KT.sk ?_
  refine KT.pv 36 (.bool true) ?_
  exact KT.leafO j3 (.cons rfl (.cons rfl (.cons rfl (.cons rfl (.nil)))))
  refine KT.ow rfl (OW.ldA (d := 32) (enc := (fun y : (Int × Int × Int) => [(.int .i64 y.1), (.int .i64 y.2.1), (.int .i64 y.2.2)])) 3 _ _ rfl rfl (by kernel_rfl) (by kernel_rfl) (fun _ => rfl) rfl rfl (fun x32 => ?_))
  refine KT.ow rfl (OW.ldA (d := 33) (enc := (fun y : (Int × Int × Int) => [(.int .i64 y.1), (.int .i64 y.2.1), (.int .i64 y.2.2)])) 3 _ _ rfl rfl (by kernel_rfl) (by kernel_rfl) (fun _ => rfl) rfl rfl (fun x33 => ?_))
  refine KT.cl Value.bool 34 65 #[(.agg #[(.int .i64 x32.1), (.int .i64 x32.2.1), (.int .i64 x32.2.2)]), (.agg #[(.int .i64 x33.1), (.int .i64 x33.2.1), (.int .i64 x33.2.2)])] (bank_fits_sim (x32.1, x32.2.1, x32.2.2) (x33.1, x33.2.1, x33.2.2)) (fun x34 => ?_)
  refine KT.pv 35 (.bool (!x34)) ?_
  refine KT.pv 36 (.bool (!x34)) ?_
  exact KT.leafO j3 (.cons rfl (.cons rfl (.cons rfl (.cons rfl (.nil)))))
  refine KT.ite (b := r1) 25 rfl ?_ ?_
  refine KT.sk ?_
  refine KT.sk ?_
  refine KT.sk ?_
  refine KT.sk ?_
  refine KT.pv 30 (.bool true) ?_
  exact KT.leafO j2 (.cons rfl (.cons rfl (.cons rfl (.cons rfl (.nil)))))
  refine KT.pv 26 (.int .i64 x12.2) ?_
  refine KT.ow rfl (OW.ldA (d := 27) (enc := (fun y : (Int × Int × Int) => [(.int .i64 y.1), (.int .i64 y.2.1), (.int .i64 y.2.2)])) 3 _ _ rfl rfl (by kernel_rfl) (by kernel_rfl) (fun _ => rfl) rfl rfl (fun x27 => ?_))
  refine KT.cl (Value.int .i64) 28 26 #[(.agg #[(.int .i64 x27.1), (.int .i64 x27.2.1), (.int .i64 x27.2.2)])] (geo_Sectors_sim (x27.1, x27.2.1, x27.2.2)) (fun x28 => ?_)
  refine KT.pv 29 (.bool (x12.2 != x28)) ?_
  refine KT.pv 30 (.bool (x12.2 != x28)) ?_
  exact KT.leafO j2 (.cons rfl (.cons rfl (.cons rfl (.cons rfl (.nil)))))
  refine KT.ite (b := !x16) 18 rfl ?_ ?_
  refine KT.sk ?_
  refine KT.sk ?_
  refine KT.sk ?_
  refine KT.sk ?_
  refine KT.sk ?_
  refine KT.pv 24 (.bool true) ?_
  exact KT.leafO j1 (.cons rfl (.cons rfl (.cons rfl (.cons rfl (.cons rfl (.nil))))))
  refine KT.pv 19 (.int .i64 x12.1) ?_
  refine KT.pv 20 (.pointer (some x4)) ?_
  refine KT.l 21 (fun x21 => ?_)
  refine KT.pv 22 (.int .i64 (w64 (x21 + 1))) ?_
  refine KT.pv 23 (.bool (x12.1 != (w64 (x21 + 1)))) ?_
  refine KT.pv 24 (.bool (x12.1 != (w64 (x21 + 1)))) ?_
  exact KT.leafO j1 (.cons rfl (.cons rfl (.cons rfl (.cons rfl (.cons rfl (.nil))))))
set_option maxRecDepth 100000 in
theorem law06_Small_sim  (Qf : (Int × Int × Int) → World → Prop) (w : World) (hm : law06_Small  Qf w) : Calls Try.prog 25 #[] w (RetPost (fun y : (Int × Int × Int) => (.agg #[(.int .i64 y.1), (.int .i64 y.2.1), (.int .i64 y.2.2)])) Qf) := by
  refine calls_of (fn := Try.f25) (l := []) (m := law06_Small ) 2 (by kernel_rfl) rfl rfl rfl (fun Qf0 => ?_) Qf w hm
  clear hm w Qf
  unfold law06_Small
  refine SC.seq ?_
  refine SC.region' ?_
  refine KT.nw 0 (fun ad => .pointer (some ad)) 23 (fun x0 => ?_)
  refine KT.nil ?_
  refine SX.seq ?_
  refine SC.seq ?_
  refine SC.region' ?_
  refine KT.pv 1 (.agg #[(.int .i64 3), (.int .i64 3), (.int .i64 12)]) ?_
  refine KT.ow rfl (OW.stA _ _ _ rfl rfl rfl rfl rfl (by kernel_rfl) ?_)
  refine KT.nil ?_
  refine SX.seq ?_
  refine SC.ret ?_
  refine SX.ret [.cell 0 23] rfl ?_
  refine RS.cellA 3 (by kernel_rfl) rfl rfl (fun _ => rfl) (fun r0 => ?_)
  exact RS.nil rfl
set_option maxRecDepth 100000 in
theorem device_Rack_disk_sim (p0_r : (Option Addr)) (p1_k : Int) (p2_sector : Int) (Qf : ((Option Addr) × Int) → World → Prop) (w : World) (hm : device_Rack_disk p0_r p1_k p2_sector Qf w) : Calls Try.prog 70 #[(.pointer p0_r), (.int .i64 p1_k), (.int .i64 p2_sector)] w (RetPost (fun y : ((Option Addr) × Int) => (.tuple #[(.pointer y.1), (.int .i64 y.2)])) Qf) := by
  refine calls_of (fn := Try.f70) (l := [(.pointer p0_r), (.int .i64 p1_k), (.int .i64 p2_sector)]) (m := device_Rack_disk p0_r p1_k p2_sector) 42 (by kernel_rfl) rfl rfl rfl (fun Qf0 => ?_) Qf w hm
  clear hm w Qf
  unfold device_Rack_disk
  refine SC.seq ?_
  refine SC.region' ?_
  refine KT.pv 6 (.pointer none) ?_
  refine KT.pv 7 (.int .i64 0) ?_
  refine KT.nil ?_
  refine SX.seq ?_
  refine SC.seq ?_
  refine SC.seq ?_
  refine SC.region' ?_
  refine KT.pv 8 (.pointer p0_r) ?_
  refine KT.nm 9 (fun x9 => ?_)
  refine KT.pv 10 (.pointer (some (Addr.add x9 3))) ?_
  refine KT.l 11 (fun x11 => ?_)
  refine KT.nil ?_
  refine SX.seq ?_
  refine SC.cond (b := x11) rfl ?_ ?_
  refine SC.seq ?_
  refine SC.region' ?_
  refine KT.pv 6 (.pointer none) ?_
  refine KT.pv 7 (.int .i64 12) ?_
  refine KT.nil ?_
  refine SX.seq ?_
  refine SC.ret ?_
  refine SX.then_ret ?_
  refine SX.ret [.tmp 6, .tmp 7] rfl ?_
  refine RS.tmp (.pointer none) rfl ?_
  refine RS.tmp (.int .i64 12) rfl ?_
  exact RS.nil rfl
  refine SC.skip ?_
  refine SX.seq ?_
  refine SC.seq ?_
  refine SC.seq ?_
  refine SC.region' ?_
  refine KT.pv 12 (.int .i64 p1_k) ?_
  refine KT.pv 13 (.bool (decide (p1_k < 0))) ?_
  refine KT.pv 14 (.bool (decide (p1_k < 0))) ?_
  refine KT.joinO (β := Bool) 8 (fun r1 => [(22, (.bool r1)), (0, (.pointer p0_r)), (1, (.int .i64 p1_k)), (2, (.int .i64 p2_sector))]) (fun r1 => ?_) (fun j1 => ?_)
  refine KT.pv 23 (.bool r1) ?_
  refine KT.joinO (β := Bool) 3 (fun r2 => [(26, (.bool r2)), (0, (.pointer p0_r)), (1, (.int .i64 p1_k)), (2, (.int .i64 p2_sector))]) (fun r2 => ?_) (fun j2 => ?_)
  refine KT.pv 27 (.bool r2) ?_
  refine KT.joinO (β := Bool) 7 (fun r3 => [(34, (.bool r3)), (0, (.pointer p0_r)), (1, (.int .i64 p1_k))]) (fun r3 => ?_) (fun j3 => ?_)
  refine KT.nil ?_
  refine SX.seq ?_
  refine SC.cond (b := r3) rfl ?_ ?_
  refine SC.seq ?_
  refine SC.region' ?_
  refine KT.pv 6 (.pointer none) ?_
  refine KT.pv 7 (.int .i64 11) ?_
  refine KT.nil ?_
  refine SX.seq ?_
  refine SC.ret ?_
  refine SX.then_ret ?_
  refine SX.ret [.tmp 6, .tmp 7] rfl ?_
  refine RS.tmp (.pointer none) rfl ?_
  refine RS.tmp (.int .i64 11) rfl ?_
  exact RS.nil rfl
  refine SC.skip ?_
  refine SX.seq ?_
  refine SC.seq ?_
  refine SC.region' ?_
  refine KT.pv 35 (.pointer p0_r) ?_
  refine KT.nm 36 (fun x36 => ?_)
  refine KT.pv 37 (.pointer (some x36)) ?_
  refine KT.l 38 (fun x38 => ?_)
  refine KT.pv 39 (.int .i64 p1_k) ?_
  refine KT.oy rfl (OY.idx (d := 40) (s := x38) (i := p1_k) (size := 1) (elem := 111) _ _ _ rfl rfl rfl (by kernel_rfl) (by kernel_rfl) rfl rfl (fun x40 => ?_))
  refine KT.l 41 (fun x41 => ?_)
  refine KT.pv 6 (.pointer x41) ?_
  refine KT.pv 7 (.int .i64 0) ?_
  refine KT.nil ?_
  refine SX.seq ?_
  refine SC.ret ?_
  refine SX.ret [.tmp 6, .tmp 7] rfl ?_
  refine RS.tmp (.pointer x41) rfl ?_
  refine RS.tmp (.int .i64 0) rfl ?_
  exact RS.nil rfl
  refine KT.ite (b := r2) 27 rfl ?_ ?_
  refine KT.sk ?_
  refine KT.sk ?_
  refine KT.sk ?_
  refine KT.sk ?_
  refine KT.sk ?_
  refine KT.sk ?_
  refine KT.pv 34 (.bool true) ?_
  exact KT.leafO j3 (.cons rfl (.cons rfl (.cons rfl (.nil))))
  refine KT.pv 28 (.int .i64 p2_sector) ?_
  refine KT.pv 29 (.pointer p0_r) ?_
  refine KT.nm 30 (fun x30 => ?_)
  refine KT.pv 31 (.pointer (some (Addr.add x30 1))) ?_
  refine KT.l 32 (fun x32 => ?_)
  refine KT.pv 33 (.bool (decide (p2_sector ≥ x32))) ?_
  refine KT.pv 34 (.bool (decide (p2_sector ≥ x32))) ?_
  exact KT.leafO j3 (.cons rfl (.cons rfl (.cons rfl (.nil))))
  refine KT.ite (b := r1) 23 rfl ?_ ?_
  refine KT.sk ?_
  refine KT.sk ?_
  refine KT.pv 26 (.bool true) ?_
  exact KT.leafO j2 (.cons rfl (.cons rfl (.cons rfl (.cons rfl (.nil)))))
  refine KT.pv 24 (.int .i64 p2_sector) ?_
  refine KT.pv 25 (.bool (decide (p2_sector < 0))) ?_
  refine KT.pv 26 (.bool (decide (p2_sector < 0))) ?_
  exact KT.leafO j2 (.cons rfl (.cons rfl (.cons rfl (.cons rfl (.nil)))))
  refine KT.ite (b := decide (p1_k < 0)) 14 rfl ?_ ?_
  refine KT.sk ?_
  refine KT.sk ?_
  refine KT.sk ?_
  refine KT.sk ?_
  refine KT.sk ?_
  refine KT.sk ?_
  refine KT.sk ?_
  refine KT.pv 22 (.bool true) ?_
  exact KT.leafO j1 (.cons rfl (.cons rfl (.cons rfl (.cons rfl (.nil)))))
  refine KT.pv 15 (.int .i64 p1_k) ?_
  refine KT.pv 16 (.pointer p0_r) ?_
  refine KT.nm 17 (fun x17 => ?_)
  refine KT.pv 18 (.pointer (some x17)) ?_
  refine KT.l 19 (fun x19 => ?_)
  refine KT.pv 20 (.int .i64 ((x19.len : Nat) : Int)) ?_
  refine KT.pv 21 (.bool (decide (p1_k ≥ ((x19.len : Nat) : Int)))) ?_
  refine KT.pv 22 (.bool (decide (p1_k ≥ ((x19.len : Nat) : Int)))) ?_
  exact KT.leafO j1 (.cons rfl (.cons rfl (.cons rfl (.cons rfl (.nil)))))
set_option maxRecDepth 100000 in
theorem slices_Clone_b_sim (p0_s : Slc) (Qf : Slc → World → Prop) (w : World) (hm : slices_Clone_b p0_s Qf w) : Calls Try.prog 71 #[(.slice p0_s.base p0_s.len p0_s.cap)] w (RetPost vS Qf) := by
  refine calls_of (fn := Try.f71) (l := [(.slice p0_s.base p0_s.len p0_s.cap)]) (m := slices_Clone_b p0_s) 8 (by kernel_rfl) rfl rfl rfl (fun Qf0 => ?_) Qf w hm
  clear hm w Qf
  unfold slices_Clone_b
  refine SC.seq ?_
  refine SC.region' ?_
  refine KT.pv 2 (.slice none 0 0) ?_
  refine KT.nil ?_
  refine SX.seq ?_
  refine SC.seq ?_
  refine SC.seq ?_
  refine SC.region' ?_
  refine KT.pv 3 (.slice p0_s.base p0_s.len p0_s.cap) ?_
  refine KT.oy rfl (OY.eqlSl (d := 4) (s := p0_s) _ _ _ _ 5 rfl rfl rfl (by kernel_rfl) rfl rfl ?_)
  refine KT.nil ?_
  refine SX.seq ?_
  refine SC.cond (b := p0_s.base.isNone) rfl ?_ ?_
  refine SC.seq ?_
  refine SC.region' ?_
  refine KT.pv 2 (.slice none 0 0) ?_
  refine KT.nil ?_
  refine SX.seq ?_
  refine SC.ret ?_
  refine SX.then_ret ?_
  refine SX.ret [.tmp 2] rfl ?_
  refine RS.tmp (.slice none 0 0) rfl ?_
  exact RS.nil rfl
  refine SC.skip ?_
  refine SX.seq ?_
  refine SC.seq ?_
  refine SC.region' ?_
  refine KT.nw 5 (fun ad => .slice (some ad) 0 0) 5 (fun x5 => ?_)
  refine KT.pv 6 (.slice p0_s.base p0_s.len p0_s.cap) ?_
  refine KT.ow rfl (OW.append (d := 7) (s := ⟨some x5, 0, 0⟩) (x := p0_s) [(.int .u8 0)] 1 5 _ _ _ _ rfl rfl rfl rfl (by kernel_rfl) (by kernel_rfl) rfl rfl rfl (fun x7 => ?_))
  refine KT.pv 2 (.slice x7.base x7.len x7.cap) ?_
  refine KT.nil ?_
  refine SX.seq ?_
  refine SC.ret ?_
  refine SX.ret [.tmp 2] rfl ?_
  refine RS.tmp (.slice x7.base x7.len x7.cap) rfl ?_
  exact RS.nil rfl
set_option maxRecDepth 100000 in
theorem device_Rack_Read_sim (p0_r : (Option Addr)) (p1_disk : Int) (p2_sector : Int) (Qf : (Slc × Int) → World → Prop) (w : World) (hm : device_Rack_Read p0_r p1_disk p2_sector Qf w) : Calls Try.prog 29 #[(.pointer p0_r), (.int .i64 p1_disk), (.int .i64 p2_sector)] w (RetPost (fun y : (Slc × Int) => (.tuple #[(.slice y.1.base y.1.len y.1.cap), (.int .i64 y.2)])) Qf) := by
  refine calls_of (fn := Try.f29) (l := [(.pointer p0_r), (.int .i64 p1_disk), (.int .i64 p2_sector)]) (m := device_Rack_Read p0_r p1_disk p2_sector) 46 (by kernel_rfl) rfl rfl rfl (fun Qf0 => ?_) Qf w hm
  clear hm w Qf
  unfold device_Rack_Read
  refine SC.seq ?_
  refine SC.region' ?_
  refine KT.pv 6 (.slice none 0 0) ?_
  refine KT.pv 7 (.int .i64 0) ?_
  refine KT.nil ?_
  refine SX.seq ?_
  refine SC.seq ?_
  refine SC.region' ?_
  refine KT.pv 13 (.pointer p0_r) ?_
  refine KT.pv 14 (.int .i64 p1_disk) ?_
  refine KT.pv 15 (.int .i64 p2_sector) ?_
  refine KT.cl (fun y : ((Option Addr) × Int) => (.tuple #[(.pointer y.1), (.int .i64 y.2)])) 16 70 #[(.pointer p0_r), (.int .i64 p1_disk), (.int .i64 p2_sector)] (device_Rack_disk_sim p0_r p1_disk p2_sector) (fun x16 => ?_)
  refine KT.pv 12 (.tuple #[(.pointer x16.1), (.int .i64 x16.2)]) ?_
  refine KT.pv 17 (.pointer x16.1) ?_
  refine KT.pv 18 (.int .i64 x16.2) ?_
  refine KT.pv 8 (.pointer x16.1) ?_
  refine KT.pv 9 (.int .i64 x16.2) ?_
  refine KT.nil ?_
  refine SX.seq ?_
  refine SC.seq ?_
  refine SC.seq ?_
  refine SC.region' ?_
  refine KT.pv 19 (.int .i64 x16.2) ?_
  refine KT.pv 20 (.bool (x16.2 != 0)) ?_
  refine KT.nil ?_
  refine SX.seq ?_
  refine SC.cond (b := x16.2 != 0) rfl ?_ ?_
  refine SC.seq ?_
  refine SC.region' ?_
  refine KT.pv 21 (.int .i64 x16.2) ?_
  refine KT.pv 6 (.slice none 0 0) ?_
  refine KT.pv 7 (.int .i64 x16.2) ?_
  refine KT.nil ?_
  refine SX.seq ?_
  refine SC.ret ?_
  refine SX.then_ret ?_
  refine SX.ret [.tmp 6, .tmp 7] rfl ?_
  refine RS.tmp (.slice none 0 0) rfl ?_
  refine RS.tmp (.int .i64 x16.2) rfl ?_
  exact RS.nil rfl
  refine SC.skip ?_
  refine SX.seq ?_
  refine SC.seq ?_
  refine SC.seq ?_
  refine SC.region' ?_
  refine KT.pv 22 (.pointer x16.1) ?_
  refine KT.nm 23 (fun x23 => ?_)
  refine KT.pv 24 (.pointer (some (Addr.add x23 2))) ?_
  refine KT.l 25 (fun x25 => ?_)
  refine KT.nil ?_
  refine SX.seq ?_
  refine SC.cond (b := x25) rfl ?_ ?_
  refine SC.seq ?_
  refine SC.region' ?_
  refine KT.pv 6 (.slice none 0 0) ?_
  refine KT.pv 7 (.int .i64 13) ?_
  refine KT.nil ?_
  refine SX.seq ?_
  refine SC.ret ?_
  refine SX.then_ret ?_
  refine SX.ret [.tmp 6, .tmp 7] rfl ?_
  refine RS.tmp (.slice none 0 0) rfl ?_
  refine RS.tmp (.int .i64 13) rfl ?_
  exact RS.nil rfl
  refine SC.skip ?_
  refine SX.seq ?_
  refine SC.seq ?_
  refine SC.seq ?_
  refine SC.region' ?_
  refine KT.pv 27 (.pointer x16.1) ?_
  refine KT.nm 28 (fun x28 => ?_)
  refine KT.pv 29 (.pointer (some (Addr.add x28 1))) ?_
  refine KT.l 30 (fun x30 => ?_)
  refine KT.pv 31 (.int .i64 p2_sector) ?_
  refine KT.ow rfl (OW.lookOk (d := 32) (enc := vS) (⟨none, 0, 0⟩) 3 46 .i64 _ _ _ rfl rfl rfl (by kernel_rfl) (by kernel_rfl) (by kernel_rfl) rfl rfl (fun x32 => ?_))
  refine KT.pv 26 (.tuple #[(.slice x32.1.base x32.1.len x32.1.cap), (.bool x32.2)]) ?_
  refine KT.pv 33 (.slice x32.1.base x32.1.len x32.1.cap) ?_
  refine KT.pv 34 (.bool x32.2) ?_
  refine KT.pv 10 (.slice x32.1.base x32.1.len x32.1.cap) ?_
  refine KT.pv 11 (.bool x32.2) ?_
  refine KT.nil ?_
  refine SX.sub (T' := [(2, (.int .i64 p2_sector)), (8, (.pointer x16.1)), (10, (.slice x32.1.base x32.1.len x32.1.cap)), (11, (.bool x32.2))]) (.cons rfl (.cons rfl (.cons rfl (.cons rfl (.nil))))) ?_
  refine SX.seq ?_
  refine SC.seq ?_
  refine SC.region' ?_
  refine KT.pv 35 (.bool x32.2) ?_
  refine KT.nil ?_
  refine SX.seq ?_
  refine SC.cond (b := x32.2) rfl ?_ ?_
  refine SC.seq ?_
  refine SC.region' ?_
  refine KT.pv 36 (.slice x32.1.base x32.1.len x32.1.cap) ?_
  refine KT.cl vS 37 71 #[(.slice x32.1.base x32.1.len x32.1.cap)] (slices_Clone_b_sim x32.1) (fun x37 => ?_)
  refine KT.pv 6 (.slice x37.base x37.len x37.cap) ?_
  refine KT.pv 7 (.int .i64 0) ?_
  refine KT.nil ?_
  refine SX.seq ?_
  refine SC.ret ?_
  refine SX.then_ret ?_
  refine SX.ret [.tmp 6, .tmp 7] rfl ?_
  refine RS.tmp (.slice x37.base x37.len x37.cap) rfl ?_
  refine RS.tmp (.int .i64 0) rfl ?_
  exact RS.nil rfl
  refine SC.skip ?_
  refine SX.seq ?_
  refine SC.seq ?_
  refine SC.region' ?_
  refine KT.pv 38 (.pointer x16.1) ?_
  refine KT.nm 39 (fun x39 => ?_)
  refine KT.pv 40 (.pointer (some x39)) ?_
  refine KT.l 41 (fun x41 => ?_)
  refine KT.pv 42 (.int .i64 p2_sector) ?_
  refine KT.oy rfl (OY.idx (d := 43) (s := x41) (i := p2_sector) (size := 1) (elem := 46) _ _ _ rfl rfl rfl (by kernel_rfl) (by kernel_rfl) rfl rfl (fun x43 => ?_))
  refine KT.l 44 (fun x44 => ?_)
  refine KT.cl vS 45 71 #[(.slice x44.base x44.len x44.cap)] (slices_Clone_b_sim x44) (fun x45 => ?_)
  refine KT.pv 6 (.slice x45.base x45.len x45.cap) ?_
  refine KT.pv 7 (.int .i64 0) ?_
  refine KT.nil ?_
  refine SX.seq ?_
  refine SC.ret ?_
  refine SX.ret [.tmp 6, .tmp 7] rfl ?_
  refine RS.tmp (.slice x45.base x45.len x45.cap) rfl ?_
  refine RS.tmp (.int .i64 0) rfl ?_
  exact RS.nil rfl
set_option maxRecDepth 100000 in
theorem device_Rack_call_sim (p0_r : (Option Addr)) (Qf : Bool → World → Prop) (w : World) (hm : device_Rack_call p0_r Qf w) : Calls Try.prog 113 #[(.pointer p0_r)] w (RetPost Value.bool Qf) := by
  refine calls_of (fn := Try.f113) (l := [(.pointer p0_r)]) (m := device_Rack_call p0_r) 55 (by kernel_rfl) rfl rfl rfl (fun Qf0 => ?_) Qf w hm
  clear hm w Qf
  unfold device_Rack_call
  refine SC.seq ?_
  refine SC.region' ?_
  refine KT.pv 2 (.bool false) ?_
  refine KT.nil ?_
  refine SX.seq ?_
  refine SC.seq ?_
  refine SC.seq ?_
  refine SC.region' ?_
  refine KT.pv 5 (.pointer p0_r) ?_
  refine KT.nm 6 (fun x6 => ?_)
  refine KT.pv 7 (.pointer (some (Addr.add x6 2))) ?_
  refine KT.l 8 (fun x8 => ?_)
  refine KT.pv 9 (.bool (x8 == 0)) ?_
  refine KT.nil ?_
  refine SX.seq ?_
  refine SC.cond (b := x8 == 0) rfl ?_ ?_
  refine SC.seq ?_
  refine SC.region' ?_
  refine KT.pv 10 (.pointer p0_r) ?_
  refine KT.nm 11 (fun x11 => ?_)
  refine KT.pv 12 (.pointer (some (Addr.add x11 3))) ?_
  refine KT.s ?_
  refine KT.nil ?_
  refine SX.seq ?_
  refine SC.seq ?_
  refine SC.region' ?_
  refine KT.pv 2 (.bool false) ?_
  refine KT.nil ?_
  refine SX.seq ?_
  refine SC.ret ?_
  refine SX.then_ret ?_
  refine SX.ret [.tmp 2] rfl ?_
  refine RS.tmp (.bool false) rfl ?_
  exact RS.nil rfl
  refine SC.skip ?_
  refine SX.seq ?_
  refine SC.seq ?_
  refine SC.region' ?_
  refine KT.pv 13 (.pointer p0_r) ?_
  refine KT.pv 14 (.pointer p0_r) ?_
  refine KT.nm 15 (fun x15 => ?_)
  refine KT.pv 16 (.pointer (some (Addr.add x15 2))) ?_
  refine KT.l 17 (fun x17 => ?_)
  refine KT.pv 18 (.int .i64 (w64 (x17 - 1))) ?_
  refine KT.pv 19 (.int .i64 (maxI (w64 (x17 - 1)) (-1))) ?_
  refine KT.nm 20 (fun x20 => ?_)
  refine KT.pv 21 (.pointer (some (Addr.add x20 2))) ?_
  refine KT.s ?_
  refine KT.nil ?_
  refine SX.seq ?_
  refine SC.seq ?_
  refine SC.seq ?_
  refine SC.region' ?_
  refine KT.pv 22 (.pointer p0_r) ?_
  refine KT.nm 23 (fun x23 => ?_)
  refine KT.pv 24 (.pointer (some x23)) ?_
  refine KT.l 25 (fun x25 => ?_)
  refine KT.pv 26 (.int .i64 ((x25.len : Nat) : Int)) ?_
  refine KT.pv 27 (.int .i64 0) ?_
  refine KT.nil ?_
  refine SX.seq ?_
  refine SC.block ?_
  refine SC.loop (σ := (Int)) (fun s1 => [(25, (.slice x25.base x25.len x25.cap)), (26, (.int .i64 ((x25.len : Nat) : Int))), (27, (.int .i64 s1))]) (.cons rfl (.cons rfl (.cons rfl (.nil)))) (fun _ _ _ s1 => ?_)
  refine SC.seq ?_
  refine SC.region' ?_
  refine KT.pv 28 (.bool (decide (s1 < ((x25.len : Nat) : Int)))) ?_
  refine KT.nil ?_
  refine SX.seq ?_
  refine SC.seq ?_
  refine SC.cond (b := decide (s1 < ((x25.len : Nat) : Int))) rfl ?_ ?_
  refine SC.skip ?_
  refine SX.seq ?_
  refine SC.seq ?_
  refine SC.block ?_
  refine SC.seq ?_
  refine SC.region' ?_
  refine KT.oy rfl (OY.idx (d := 29) (s := x25) (i := s1) (size := 1) (elem := 111) _ _ _ rfl rfl rfl (by kernel_rfl) (by kernel_rfl) rfl rfl (fun x29 => ?_))
  refine KT.l 30 (fun x30 => ?_)
  refine KT.pv 4 (.pointer x30) ?_
  refine KT.nil ?_
  refine SX.seq ?_
  refine SC.seq ?_
  refine SC.region' ?_
  refine KT.pv 31 (.pointer x30) ?_
  refine KT.pv 32 (.pointer x30) ?_
  refine KT.nm 33 (fun x33 => ?_)
  refine KT.pv 34 (.pointer (some (Addr.add x33 2))) ?_
  refine KT.l 35 (fun x35 => ?_)
  refine KT.pv 36 (.bool x35) ?_
  refine KT.joinO (β := Bool) 6 (fun r2 => [(42, (.bool r2)), (4, (.pointer x30)), (25, (.slice x25.base x25.len x25.cap)), (26, (.int .i64 ((x25.len : Nat) : Int))), (27, (.int .i64 s1)), (31, (.pointer x30))]) (fun r2 => ?_) (fun j2 => ?_)
  refine KT.nm 43 (fun x43 => ?_)
  refine KT.pv 44 (.pointer (some (Addr.add x43 2))) ?_
  refine KT.s ?_
  refine KT.nil ?_
  refine SX.seq ?_
  refine SC.region' ?_
  refine KT.pv 45 (.pointer x30) ?_
  refine KT.pv 46 (.pointer x30) ?_
  refine KT.nm 47 (fun x47 => ?_)
  refine KT.pv 48 (.pointer (some (Addr.add x47 3))) ?_
  refine KT.l 49 (fun x49 => ?_)
  refine KT.pv 50 (.int .i64 (w64 (x49 - 1))) ?_
  refine KT.pv 51 (.int .i64 (maxI (w64 (x49 - 1)) (-1))) ?_
  refine KT.nm 52 (fun x52 => ?_)
  refine KT.pv 53 (.pointer (some (Addr.add x52 3))) ?_
  refine KT.s ?_
  refine KT.nil ?_
  refine SX.block ?_
  refine SX.seq ?_
  refine SC.region' ?_
  refine KT.pv 54 (.int .i64 (w64 (s1 + 1))) ?_
  refine KT.pv 27 (.int .i64 (w64 (s1 + 1))) ?_
  refine KT.nil ?_
  exact SX.loop_next (.cons rfl (.cons rfl (.cons rfl (.nil))))
  refine KT.ite (b := x35) 36 rfl ?_ ?_
  refine KT.sk ?_
  refine KT.sk ?_
  refine KT.sk ?_
  refine KT.sk ?_
  refine KT.sk ?_
  refine KT.pv 42 (.bool true) ?_
  exact KT.leafO j2 (.cons rfl (.cons rfl (.cons rfl (.cons rfl (.cons rfl (.cons rfl (.nil)))))))
  refine KT.pv 37 (.pointer x30) ?_
  refine KT.nm 38 (fun x38 => ?_)
  refine KT.pv 39 (.pointer (some (Addr.add x38 3))) ?_
  refine KT.l 40 (fun x40 => ?_)
  refine KT.pv 41 (.bool (x40 == 0)) ?_
  refine KT.pv 42 (.bool (x40 == 0)) ?_
  exact KT.leafO j2 (.cons rfl (.cons rfl (.cons rfl (.cons rfl (.cons rfl (.cons rfl (.nil)))))))
  refine SC.exit ?_
  refine SX.then_exit ?_
  refine SX.loop_exit ?_
  refine SX.block_hit ?_
  refine SX.seq ?_
  refine SC.seq ?_
  refine SC.region' ?_
  refine KT.pv 2 (.bool true) ?_
  refine KT.nil ?_
  refine SX.seq ?_
  refine SC.ret ?_
  refine SX.ret [.tmp 2] rfl ?_
  refine RS.tmp (.bool true) rfl ?_
  exact RS.nil rfl
set_option maxRecDepth 100000 in
theorem device_Rack_counted_sim (p0_r : (Option Addr)) (p1_k : Int) (p2_sector : Int) (p3_size : Int) (Qf : ((Option Addr) × Int) → World → Prop) (w : World) (hm : device_Rack_counted p0_r p1_k p2_sector p3_size Qf w) : Calls Try.prog 73 #[(.pointer p0_r), (.int .i64 p1_k), (.int .i64 p2_sector), (.int .i64 p3_size)] w (RetPost (fun y : ((Option Addr) × Int) => (.tuple #[(.pointer y.1), (.int .i64 y.2)])) Qf) := by
  refine calls_of (fn := Try.f73) (l := [(.pointer p0_r), (.int .i64 p1_k), (.int .i64 p2_sector), (.int .i64 p3_size)]) (m := device_Rack_counted p0_r p1_k p2_sector p3_size) 36 (by kernel_rfl) rfl rfl rfl (fun Qf0 => ?_) Qf w hm
  clear hm w Qf
  unfold device_Rack_counted
  refine SC.seq ?_
  refine SC.region' ?_
  refine KT.pv 8 (.pointer none) ?_
  refine KT.pv 9 (.int .i64 0) ?_
  refine KT.nil ?_
  refine SX.seq ?_
  refine SC.seq ?_
  refine SC.region' ?_
  refine KT.pv 13 (.pointer p0_r) ?_
  refine KT.pv 14 (.int .i64 p1_k) ?_
  refine KT.pv 15 (.int .i64 p2_sector) ?_
  refine KT.cl (fun y : ((Option Addr) × Int) => (.tuple #[(.pointer y.1), (.int .i64 y.2)])) 16 70 #[(.pointer p0_r), (.int .i64 p1_k), (.int .i64 p2_sector)] (device_Rack_disk_sim p0_r p1_k p2_sector) (fun x16 => ?_)
  refine KT.pv 12 (.tuple #[(.pointer x16.1), (.int .i64 x16.2)]) ?_
  refine KT.pv 17 (.pointer x16.1) ?_
  refine KT.pv 18 (.int .i64 x16.2) ?_
  refine KT.pv 10 (.pointer x16.1) ?_
  refine KT.pv 11 (.int .i64 x16.2) ?_
  refine KT.nil ?_
  refine SX.seq ?_
  refine SC.seq ?_
  refine SC.block ?_
  refine SC.seq ?_
  refine SC.region' ?_
  refine KT.pv 20 (.int .i64 x16.2) ?_
  refine KT.pv 21 (.bool (x16.2 != 0)) ?_
  refine KT.pv 19 (.bool (x16.2 != 0)) ?_
  refine KT.nil ?_
  refine SX.seq ?_
  refine SC.cond (b := x16.2 != 0) rfl ?_ ?_
  refine SC.seq ?_
  refine SC.region' ?_
  refine KT.pv 22 (.int .i64 x16.2) ?_
  refine KT.pv 8 (.pointer none) ?_
  refine KT.pv 9 (.int .i64 x16.2) ?_
  refine KT.nil ?_
  refine SX.seq ?_
  refine SC.ret ?_
  refine SX.block_ret ?_
  refine SX.then_ret ?_
  refine SX.ret [.tmp 8, .tmp 9] rfl ?_
  refine RS.tmp (.pointer none) rfl ?_
  refine RS.tmp (.int .i64 x16.2) rfl ?_
  exact RS.nil rfl
  refine SC.seq ?_
  refine SC.region' ?_
  refine KT.pv 24 (.int .i64 p3_size) ?_
  refine KT.pv 25 (.bool (p3_size != 64)) ?_
  refine KT.pv 23 (.bool (p3_size != 64)) ?_
  refine KT.nil ?_
  refine SX.seq ?_
  refine SC.cond (b := p3_size != 64) rfl ?_ ?_
  refine SC.seq ?_
  refine SC.region' ?_
  refine KT.pv 8 (.pointer none) ?_
  refine KT.pv 9 (.int .i64 11) ?_
  refine KT.nil ?_
  refine SX.seq ?_
  refine SC.ret ?_
  refine SX.block_ret ?_
  refine SX.then_ret ?_
  refine SX.ret [.tmp 8, .tmp 9] rfl ?_
  refine RS.tmp (.pointer none) rfl ?_
  refine RS.tmp (.int .i64 11) rfl ?_
  exact RS.nil rfl
  refine SC.seq ?_
  refine SC.region' ?_
  refine KT.pv 27 (.pointer p0_r) ?_
  refine KT.cl Value.bool 28 113 #[(.pointer p0_r)] (device_Rack_call_sim p0_r) (fun x28 => ?_)
  refine KT.pv 29 (.bool (!x28)) ?_
  refine KT.pv 26 (.bool (!x28)) ?_
  refine KT.nil ?_
  refine SX.seq ?_
  refine SC.cond (b := !x28) rfl ?_ ?_
  refine SC.seq ?_
  refine SC.region' ?_
  refine KT.pv 8 (.pointer none) ?_
  refine KT.pv 9 (.int .i64 12) ?_
  refine KT.nil ?_
  refine SX.seq ?_
  refine SC.ret ?_
  refine SX.block_ret ?_
  refine SX.then_ret ?_
  refine SX.ret [.tmp 8, .tmp 9] rfl ?_
  refine RS.tmp (.pointer none) rfl ?_
  refine RS.tmp (.int .i64 12) rfl ?_
  exact RS.nil rfl
  refine SC.seq ?_
  refine SC.region' ?_
  refine KT.pv 31 (.pointer x16.1) ?_
  refine KT.nm 32 (fun x32 => ?_)
  refine KT.pv 33 (.pointer (some (Addr.add x32 2))) ?_
  refine KT.l 34 (fun x34 => ?_)
  refine KT.pv 30 (.bool x34) ?_
  refine KT.nil ?_
  refine SX.sub (T' := [(10, (.pointer x16.1)), (30, (.bool x34))]) (.cons rfl (.cons rfl (.nil))) ?_
  refine SX.seq ?_
  refine SC.cond (b := x34) rfl ?_ ?_
  refine SC.seq ?_
  refine SC.region' ?_
  refine KT.pv 8 (.pointer none) ?_
  refine KT.pv 9 (.int .i64 13) ?_
  refine KT.nil ?_
  refine SX.seq ?_
  refine SC.ret ?_
  refine SX.block_ret ?_
  refine SX.then_ret ?_
  refine SX.ret [.tmp 8, .tmp 9] rfl ?_
  refine RS.tmp (.pointer none) rfl ?_
  refine RS.tmp (.int .i64 13) rfl ?_
  exact RS.nil rfl
  refine SC.skip ?_
  refine SX.block ?_
  refine SX.seq ?_
  refine SC.seq ?_
  refine SC.region' ?_
  refine KT.pv 35 (.pointer x16.1) ?_
  refine KT.pv 8 (.pointer x16.1) ?_
  refine KT.pv 9 (.int .i64 0) ?_
  refine KT.nil ?_
  refine SX.seq ?_
  refine SC.ret ?_
  refine SX.ret [.tmp 8, .tmp 9] rfl ?_
  refine RS.tmp (.pointer x16.1) rfl ?_
  refine RS.tmp (.int .i64 0) rfl ?_
  exact RS.nil rfl
set_option maxRecDepth 100000 in
theorem device_Rack_Write_sim (p0_r : (Option Addr)) (p1_disk : Int) (p2_sector : Int) (p3_b : Slc) (Qf : Int → World → Prop) (w : World) (hm : device_Rack_Write p0_r p1_disk p2_sector p3_b Qf w) : Calls Try.prog 39 #[(.pointer p0_r), (.int .i64 p1_disk), (.int .i64 p2_sector), (.slice p3_b.base p3_b.len p3_b.cap)] w (RetPost (Value.int .i64) Qf) := by
  refine calls_of (fn := Try.f39) (l := [(.pointer p0_r), (.int .i64 p1_disk), (.int .i64 p2_sector), (.slice p3_b.base p3_b.len p3_b.cap)]) (m := device_Rack_Write p0_r p1_disk p2_sector p3_b) 30 (by kernel_rfl) rfl rfl rfl (fun Qf0 => ?_) Qf w hm
  clear hm w Qf
  unfold device_Rack_Write
  refine SC.seq ?_
  refine SC.region' ?_
  refine KT.pv 8 (.int .i64 0) ?_
  refine KT.nil ?_
  refine SX.seq ?_
  refine SC.seq ?_
  refine SC.region' ?_
  refine KT.pv 12 (.pointer p0_r) ?_
  refine KT.pv 13 (.int .i64 p1_disk) ?_
  refine KT.pv 14 (.int .i64 p2_sector) ?_
  refine KT.pv 15 (.slice p3_b.base p3_b.len p3_b.cap) ?_
  refine KT.pv 16 (.int .i64 ((p3_b.len : Nat) : Int)) ?_
  refine KT.cl (fun y : ((Option Addr) × Int) => (.tuple #[(.pointer y.1), (.int .i64 y.2)])) 17 73 #[(.pointer p0_r), (.int .i64 p1_disk), (.int .i64 p2_sector), (.int .i64 ((p3_b.len : Nat) : Int))] (device_Rack_counted_sim p0_r p1_disk p2_sector ((p3_b.len : Nat) : Int)) (fun x17 => ?_)
  refine KT.pv 11 (.tuple #[(.pointer x17.1), (.int .i64 x17.2)]) ?_
  refine KT.pv 18 (.pointer x17.1) ?_
  refine KT.pv 19 (.int .i64 x17.2) ?_
  refine KT.pv 9 (.pointer x17.1) ?_
  refine KT.pv 10 (.int .i64 x17.2) ?_
  refine KT.nil ?_
  refine SX.seq ?_
  refine SC.seq ?_
  refine SC.seq ?_
  refine SC.region' ?_
  refine KT.pv 20 (.int .i64 x17.2) ?_
  refine KT.pv 21 (.bool (x17.2 == 0)) ?_
  refine KT.nil ?_
  refine SX.seq ?_
  refine SC.cond (b := x17.2 == 0) rfl ?_ ?_
  refine SC.draw 8 (fun f => Nat.beq f 7) rfl (by kernel_rfl) (fun S1 => ?_)
  refine KT.pvA 0 22 (.pointer x17.1) ?_
  refine KT.tp 1 (OY.nil (d := 23) (p := x17.1) _ rfl rfl rfl rfl (fun x23 => ?_))
  refine KT.pvA 2 24 (.pointer (some (Addr.add x23 1))) ?_
  refine KT.tk 3 (OY.ldI (d := 25) _ _ rfl rfl (by kernel_rfl) rfl rfl (fun x25 => ?_))
  refine KT.pvA 4 26 (.int .i64 p2_sector) ?_
  refine KT.pvA 5 27 (.slice p3_b.base p3_b.len p3_b.cap) ?_
  refine KT.one 6 rfl (by kernel_rfl) rfl (OW.step (OW.call (d := 28) (enc := vS) 71 #[(.slice p3_b.base p3_b.len p3_b.cap)] rfl (fun _ => by kernel_rfl) (fun Qf w => slices_Clone_b_sim p3_b Qf w) rfl rfl (fun x28 => ?_)))
  refine KT.and ?_
  refine KT.last 7 rfl (by kernel_rfl) rfl rfl (OW.upd 3 46 .i64 _ _ _ _ rfl rfl rfl rfl (by kernel_rfl) (by kernel_rfl) rfl ?_)
  refine KT.doneN (by kernel_rfl) ?_
  refine SX.seq ?_
  refine SC.seq ?_
  refine SC.region' ?_
  refine KT.pv 29 (.int .i64 x17.2) ?_
  refine KT.pv 8 (.int .i64 x17.2) ?_
  refine KT.nil ?_
  refine SX.seq ?_
  refine SC.ret ?_
  refine SX.ret [.tmp 8] rfl ?_
  refine RS.tmp (.int .i64 x17.2) rfl ?_
  exact RS.nil rfl
  refine SC.skip ?_
  refine SX.seq ?_
  refine SC.seq ?_
  refine SC.region' ?_
  refine KT.pv 29 (.int .i64 x17.2) ?_
  refine KT.pv 8 (.int .i64 x17.2) ?_
  refine KT.nil ?_
  refine SX.seq ?_
  refine SC.ret ?_
  refine SX.ret [.tmp 8] rfl ?_
  refine RS.tmp (.int .i64 x17.2) rfl ?_
  exact RS.nil rfl
set_option maxRecDepth 100000 in
theorem bank_Bank_disk_sim (p0_b : (Option Addr)) (p1_slot : Int) (Qf : (Int × Bool) → World → Prop) (w : World) (hm : bank_Bank_disk p0_b p1_slot Qf w) : Calls Try.prog 72 #[(.pointer p0_b), (.int .i64 p1_slot)] w (RetPost (fun y : (Int × Bool) => (.tuple #[(.int .i64 y.1), (.bool y.2)])) Qf) := by
  refine calls_of (fn := Try.f72) (l := [(.pointer p0_b), (.int .i64 p1_slot)]) (m := bank_Bank_disk p0_b p1_slot) 38 (by kernel_rfl) rfl rfl rfl (fun Qf0 => ?_) Qf w hm
  clear hm w Qf
  unfold bank_Bank_disk
  refine SC.seq ?_
  refine SC.region' ?_
  refine KT.pv 4 (.int .i64 0) ?_
  refine KT.pv 5 (.bool false) ?_
  refine KT.nil ?_
  refine SX.seq ?_
  refine SC.seq ?_
  refine SC.seq ?_
  refine SC.region' ?_
  refine KT.pv 6 (.int .i64 p1_slot) ?_
  refine KT.pv 7 (.bool (decide (p1_slot < 0))) ?_
  refine KT.pv 8 (.bool (decide (p1_slot < 0))) ?_
  refine KT.joinO (β := Bool) 8 (fun r1 => [(16, (.bool r1)), (0, (.pointer p0_b)), (1, (.int .i64 p1_slot))]) (fun r1 => ?_) (fun j1 => ?_)
  refine KT.nil ?_
  refine SX.seq ?_
  refine SC.cond (b := r1) rfl ?_ ?_
  refine SC.seq ?_
  refine SC.region' ?_
  refine KT.pv 4 (.int .i64 0) ?_
  refine KT.pv 5 (.bool false) ?_
  refine KT.nil ?_
  refine SX.seq ?_
  refine SC.ret ?_
  refine SX.then_ret ?_
  refine SX.ret [.tmp 4, .tmp 5] rfl ?_
  refine RS.tmp (.int .i64 0) rfl ?_
  refine RS.tmp (.bool false) rfl ?_
  exact RS.nil rfl
  refine SC.skip ?_
  refine SX.seq ?_
  refine SC.seq ?_
  refine SC.seq ?_
  refine SC.region' ?_
  refine KT.pv 17 (.pointer p0_b) ?_
  refine KT.nm 18 (fun x18 => ?_)
  refine KT.pv 19 (.pointer (some (Addr.add x18 4))) ?_
  refine KT.pv 20 (.pointer (some (Addr.add (Addr.add x18 4) 2))) ?_
  refine KT.l 21 (fun x21 => ?_)
  refine KT.pv 22 (.bool (x21 != 0)) ?_
  refine KT.pv 23 (.bool (x21 != 0)) ?_
  refine KT.joinO (β := Bool) 8 (fun r2 => [(31, (.bool r2)), (0, (.pointer p0_b)), (1, (.int .i64 p1_slot))]) (fun r2 => ?_) (fun j2 => ?_)
  refine KT.nil ?_
  refine SX.seq ?_
  refine SC.cond (b := r2) rfl ?_ ?_
  refine SC.seq ?_
  refine SC.region' ?_
  refine KT.pv 32 (.pointer p0_b) ?_
  refine KT.nm 33 (fun x33 => ?_)
  refine KT.pv 34 (.pointer (some (Addr.add x33 1))) ?_
  refine KT.pv 35 (.pointer (some (Addr.add x33 1))) ?_
  refine KT.l 36 (fun x36 => ?_)
  refine KT.pv 4 (.int .i64 x36) ?_
  refine KT.pv 5 (.bool true) ?_
  refine KT.nil ?_
  refine SX.seq ?_
  refine SC.ret ?_
  refine SX.then_ret ?_
  refine SX.ret [.tmp 4, .tmp 5] rfl ?_
  refine RS.tmp (.int .i64 x36) rfl ?_
  refine RS.tmp (.bool true) rfl ?_
  exact RS.nil rfl
  refine SC.skip ?_
  refine SX.seq ?_
  refine SC.seq ?_
  refine SC.region' ?_
  refine KT.pv 37 (.int .i64 p1_slot) ?_
  refine KT.pv 4 (.int .i64 p1_slot) ?_
  refine KT.pv 5 (.bool true) ?_
  refine KT.nil ?_
  refine SX.seq ?_
  refine SC.ret ?_
  refine SX.ret [.tmp 4, .tmp 5] rfl ?_
  refine RS.tmp (.int .i64 p1_slot) rfl ?_
  refine RS.tmp (.bool true) rfl ?_
  exact RS.nil rfl
  refine KT.ite (b := x21 != 0) 23 rfl ?_ ?_
  refine KT.pv 24 (.pointer p0_b) ?_
  refine KT.nm 25 (fun x25 => ?_)
  refine KT.pv 26 (.pointer (some (Addr.add x25 4))) ?_
  refine KT.pv 27 (.pointer (some (Addr.add (Addr.add x25 4) 1))) ?_
  refine KT.l 28 (fun x28 => ?_)
  refine KT.pv 29 (.int .i64 p1_slot) ?_
  refine KT.pv 30 (.bool (x28 == p1_slot)) ?_
  refine KT.pv 31 (.bool (x28 == p1_slot)) ?_
  exact KT.leafO j2 (.cons rfl (.cons rfl (.cons rfl (.nil))))
  refine KT.sk ?_
  refine KT.sk ?_
  refine KT.sk ?_
  refine KT.sk ?_
  refine KT.sk ?_
  refine KT.sk ?_
  refine KT.sk ?_
  refine KT.pv 31 (.bool false) ?_
  exact KT.leafO j2 (.cons rfl (.cons rfl (.cons rfl (.nil))))
  refine KT.ite (b := decide (p1_slot < 0)) 8 rfl ?_ ?_
  refine KT.sk ?_
  refine KT.sk ?_
  refine KT.sk ?_
  refine KT.sk ?_
  refine KT.sk ?_
  refine KT.sk ?_
  refine KT.sk ?_
  refine KT.pv 16 (.bool true) ?_
  exact KT.leafO j1 (.cons rfl (.cons rfl (.cons rfl (.nil))))
  refine KT.pv 9 (.int .i64 p1_slot) ?_
  refine KT.pv 10 (.pointer p0_b) ?_
  refine KT.nm 11 (fun x11 => ?_)
  refine KT.pv 12 (.pointer (some (Addr.add x11 1))) ?_
  refine KT.pv 13 (.pointer (some (Addr.add x11 1))) ?_
  refine KT.l 14 (fun x14 => ?_)
  refine KT.pv 15 (.bool (decide (p1_slot ≥ x14))) ?_
  refine KT.pv 16 (.bool (decide (p1_slot ≥ x14))) ?_
  exact KT.leafO j1 (.cons rfl (.cons rfl (.cons rfl (.nil))))
set_option maxRecDepth 100000 in
theorem bank_Bank_Write_sim (p0_b : (Option Addr)) (p1_slot : Int) (p2_sector : Int) (p3_data : Slc) (Qf : Int → World → Prop) (w : World) (hm : bank_Bank_Write p0_b p1_slot p2_sector p3_data Qf w) : Calls Try.prog 32 #[(.pointer p0_b), (.int .i64 p1_slot), (.int .i64 p2_sector), (.slice p3_data.base p3_data.len p3_data.cap)] w (RetPost (Value.int .i64) Qf) := by
  refine calls_of (fn := Try.f32) (l := [(.pointer p0_b), (.int .i64 p1_slot), (.int .i64 p2_sector), (.slice p3_data.base p3_data.len p3_data.cap)]) (m := bank_Bank_Write p0_b p1_slot p2_sector p3_data) 27 (by kernel_rfl) rfl rfl rfl (fun Qf0 => ?_) Qf w hm
  clear hm w Qf
  unfold bank_Bank_Write
  refine SC.seq ?_
  refine SC.region' ?_
  refine KT.pv 8 (.int .i64 0) ?_
  refine KT.nil ?_
  refine SX.seq ?_
  refine SC.seq ?_
  refine SC.region' ?_
  refine KT.pv 12 (.pointer p0_b) ?_
  refine KT.pv 13 (.int .i64 p1_slot) ?_
  refine KT.cl (fun y : (Int × Bool) => (.tuple #[(.int .i64 y.1), (.bool y.2)])) 14 72 #[(.pointer p0_b), (.int .i64 p1_slot)] (bank_Bank_disk_sim p0_b p1_slot) (fun x14 => ?_)
  refine KT.pv 11 (.tuple #[(.int .i64 x14.1), (.bool x14.2)]) ?_
  refine KT.pv 15 (.int .i64 x14.1) ?_
  refine KT.pv 16 (.bool x14.2) ?_
  refine KT.pv 9 (.int .i64 x14.1) ?_
  refine KT.pv 10 (.bool x14.2) ?_
  refine KT.nil ?_
  refine SX.seq ?_
  refine SC.seq ?_
  refine SC.seq ?_
  refine SC.region' ?_
  refine KT.pv 17 (.bool x14.2) ?_
  refine KT.pv 18 (.bool (!x14.2)) ?_
  refine KT.nil ?_
  refine SX.seq ?_
  refine SC.cond (b := !x14.2) rfl ?_ ?_
  refine SC.seq ?_
  refine SC.region' ?_
  refine KT.pv 8 (.int .i64 11) ?_
  refine KT.nil ?_
  refine SX.seq ?_
  refine SC.ret ?_
  refine SX.then_ret ?_
  refine SX.ret [.tmp 8] rfl ?_
  refine RS.tmp (.int .i64 11) rfl ?_
  exact RS.nil rfl
  refine SC.skip ?_
  refine SX.seq ?_
  refine SC.seq ?_
  refine SC.region' ?_
  refine KT.pv 19 (.pointer p0_b) ?_
  refine KT.nm 20 (fun x20 => ?_)
  refine KT.pv 21 (.pointer (some x20)) ?_
  refine KT.l 22 (fun x22 => ?_)
  refine KT.pv 23 (.int .i64 x14.1) ?_
  refine KT.pv 24 (.int .i64 p2_sector) ?_
  refine KT.pv 25 (.slice p3_data.base p3_data.len p3_data.cap) ?_
  refine KT.cl (Value.int .i64) 26 39 #[(.pointer x22), (.int .i64 x14.1), (.int .i64 p2_sector), (.slice p3_data.base p3_data.len p3_data.cap)] (device_Rack_Write_sim x22 x14.1 p2_sector p3_data) (fun x26 => ?_)
  refine KT.pv 8 (.int .i64 x26) ?_
  refine KT.nil ?_
  refine SX.seq ?_
  refine SC.ret ?_
  refine SX.ret [.tmp 8] rfl ?_
  refine RS.tmp (.int .i64 x26) rfl ?_
  exact RS.nil rfl
set_option maxRecDepth 100000 in
theorem device_Rack_Failed_sim (p0_r : (Option Addr)) (p1_disk : Int) (Qf : Bool → World → Prop) (w : World) (hm : device_Rack_Failed p0_r p1_disk Qf w) : Calls Try.prog 54 #[(.pointer p0_r), (.int .i64 p1_disk)] w (RetPost Value.bool Qf) := by
  refine calls_of (fn := Try.f54) (l := [(.pointer p0_r), (.int .i64 p1_disk)]) (m := device_Rack_Failed p0_r p1_disk) 28 (by kernel_rfl) rfl rfl rfl (fun Qf0 => ?_) Qf w hm
  clear hm w Qf
  unfold device_Rack_Failed
  refine SC.seq ?_
  refine SC.region' ?_
  refine KT.pv 4 (.bool false) ?_
  refine KT.nil ?_
  refine SX.seq ?_
  refine SC.seq ?_
  refine SC.region' ?_
  refine KT.pv 5 (.int .i64 p1_disk) ?_
  refine KT.pv 6 (.bool (decide (p1_disk ≥ 0))) ?_
  refine KT.pv 7 (.bool (decide (p1_disk ≥ 0))) ?_
  refine KT.joinO (β := Bool) 8 (fun r1 => [(15, (.bool r1)), (0, (.pointer p0_r)), (1, (.int .i64 p1_disk))]) (fun r1 => ?_) (fun j1 => ?_)
  refine KT.pv 16 (.bool r1) ?_
  refine KT.joinO (β := Bool) 11 (fun r2 => [(27, (.bool r2))]) (fun r2 => ?_) (fun j2 => ?_)
  refine KT.pv 4 (.bool r2) ?_
  refine KT.nil ?_
  refine SX.seq ?_
  refine SC.ret ?_
  refine SX.ret [.tmp 4] rfl ?_
  refine RS.tmp (.bool r2) rfl ?_
  exact RS.nil rfl
  refine KT.ite (b := r1) 16 rfl ?_ ?_
  refine KT.pv 17 (.pointer p0_r) ?_
  refine KT.nm 18 (fun x18 => ?_)
  refine KT.pv 19 (.pointer (some x18)) ?_
  refine KT.l 20 (fun x20 => ?_)
  refine KT.pv 21 (.int .i64 p1_disk) ?_
  refine KT.oy rfl (OY.idx (d := 22) (s := x20) (i := p1_disk) (size := 1) (elem := 111) _ _ _ rfl rfl rfl (by kernel_rfl) (by kernel_rfl) rfl rfl (fun x22 => ?_))
  refine KT.l 23 (fun x23 => ?_)
  refine KT.nm 24 (fun x24 => ?_)
  refine KT.pv 25 (.pointer (some (Addr.add x24 2))) ?_
  refine KT.l 26 (fun x26 => ?_)
  refine KT.pv 27 (.bool x26) ?_
  exact KT.leafO j2 (.cons rfl (.nil))
  refine KT.sk ?_
  refine KT.sk ?_
  refine KT.sk ?_
  refine KT.sk ?_
  refine KT.sk ?_
  refine KT.sk ?_
  refine KT.sk ?_
  refine KT.sk ?_
  refine KT.sk ?_
  refine KT.sk ?_
  refine KT.pv 27 (.bool false) ?_
  exact KT.leafO j2 (.cons rfl (.nil))
  refine KT.ite (b := decide (p1_disk ≥ 0)) 7 rfl ?_ ?_
  refine KT.pv 8 (.int .i64 p1_disk) ?_
  refine KT.pv 9 (.pointer p0_r) ?_
  refine KT.nm 10 (fun x10 => ?_)
  refine KT.pv 11 (.pointer (some x10)) ?_
  refine KT.l 12 (fun x12 => ?_)
  refine KT.pv 13 (.int .i64 ((x12.len : Nat) : Int)) ?_
  refine KT.pv 14 (.bool (decide (p1_disk < ((x12.len : Nat) : Int)))) ?_
  refine KT.pv 15 (.bool (decide (p1_disk < ((x12.len : Nat) : Int)))) ?_
  exact KT.leafO j1 (.cons rfl (.cons rfl (.cons rfl (.nil))))
  refine KT.sk ?_
  refine KT.sk ?_
  refine KT.sk ?_
  refine KT.sk ?_
  refine KT.sk ?_
  refine KT.sk ?_
  refine KT.sk ?_
  refine KT.pv 15 (.bool false) ?_
  exact KT.leafO j1 (.cons rfl (.cons rfl (.cons rfl (.nil))))
set_option maxRecDepth 100000 in
theorem bank_Bank_Bad_sim (p0_b : (Option Addr)) (Qf : Slc → World → Prop) (w : World) (hm : bank_Bank_Bad p0_b Qf w) : Calls Try.prog 33 #[(.pointer p0_b)] w (RetPost vS Qf) := by
  refine calls_of (fn := Try.f33) (l := [(.pointer p0_b)]) (m := bank_Bank_Bad p0_b) 50 (by kernel_rfl) rfl rfl rfl (fun Qf0 => ?_) Qf w hm
  clear hm w Qf
  unfold bank_Bank_Bad
  refine SC.seq ?_
  refine SC.region' ?_
  refine KT.pv 2 (.slice none 0 0) ?_
  refine KT.nil ?_
  refine SX.seq ?_
  refine SC.seq ?_
  refine SC.region' ?_
  refine KT.pv 3 (.slice none 0 0) ?_
  refine KT.nil ?_
  refine SX.seq ?_
  refine SC.seq ?_
  refine SC.seq ?_
  refine SC.region' ?_
  refine KT.pv 7 (.pointer p0_b) ?_
  refine KT.nm 8 (fun x8 => ?_)
  refine KT.pv 9 (.pointer (some (Addr.add x8 1))) ?_
  refine KT.pv 10 (.pointer (some (Addr.add x8 1))) ?_
  refine KT.l 11 (fun x11 => ?_)
  refine KT.pv 12 (.int .i64 0) ?_
  refine KT.nil ?_
  refine SX.seq ?_
  refine SC.block ?_
  refine SC.loop (σ := (Slc × Int)) (fun s1 => [(0, (.pointer p0_b)), (3, (.slice s1.1.base s1.1.len s1.1.cap)), (11, (.int .i64 x11)), (12, (.int .i64 s1.2))]) (.cons rfl (.cons rfl (.cons rfl (.cons rfl (.nil))))) (fun _ _ _ s1 => ?_)
  refine SC.seq ?_
  refine SC.region' ?_
  refine KT.pv 13 (.bool (decide (s1.2 < x11))) ?_
  refine KT.nil ?_
  refine SX.seq ?_
  refine SC.seq ?_
  refine SC.cond (b := decide (s1.2 < x11)) rfl ?_ ?_
  refine SC.skip ?_
  refine SX.seq ?_
  refine SC.seq ?_
  refine SC.block ?_
  refine SC.seq ?_
  refine SC.region' ?_
  refine KT.pv 14 (.int .i64 s1.2) ?_
  refine KT.pv 4 (.int .i64 s1.2) ?_
  refine KT.nil ?_
  refine SX.seq ?_
  refine SC.seq ?_
  refine SC.region' ?_
  refine KT.pv 16 (.pointer p0_b) ?_
  refine KT.pv 17 (.int .i64 s1.2) ?_
  refine KT.cl (fun y : (Int × Bool) => (.tuple #[(.int .i64 y.1), (.bool y.2)])) 18 72 #[(.pointer p0_b), (.int .i64 s1.2)] (bank_Bank_disk_sim p0_b s1.2) (fun x18 => ?_)
  refine KT.pv 15 (.tuple #[(.int .i64 x18.1), (.bool x18.2)]) ?_
  refine KT.pv 19 (.int .i64 x18.1) ?_
  refine KT.pv 20 (.bool x18.2) ?_
  refine KT.pv 5 (.int .i64 x18.1) ?_
  refine KT.pv 6 (.bool x18.2) ?_
  refine KT.nil ?_
  refine SX.seq ?_
  refine SC.seq ?_
  refine SC.region' ?_
  refine KT.pv 21 (.pointer p0_b) ?_
  refine KT.nm 22 (fun x22 => ?_)
  refine KT.pv 23 (.pointer (some x22)) ?_
  refine KT.l 24 (fun x24 => ?_)
  refine KT.pv 25 (.int .i64 x18.1) ?_
  refine KT.cl Value.bool 26 54 #[(.pointer x24), (.int .i64 x18.1)] (device_Rack_Failed_sim x24 x18.1) (fun x26 => ?_)
  refine KT.pv 27 (.bool x26) ?_
  refine KT.joinO (β := Bool) 16 (fun r2 => [(43, (.bool r2)), (0, (.pointer p0_b)), (3, (.slice s1.1.base s1.1.len s1.1.cap)), (4, (.int .i64 s1.2)), (11, (.int .i64 x11)), (12, (.int .i64 s1.2))]) (fun r2 => ?_) (fun j2 => ?_)
  refine KT.nil ?_
  refine SX.seq ?_
  refine SC.cond (b := r2) rfl ?_ ?_
  refine SC.region' ?_
  refine KT.pv 44 (.slice s1.1.base s1.1.len s1.1.cap) ?_
  refine KT.pv 45 (.int .i64 s1.2) ?_
  refine KT.nw 46 (fun ad => .slice (some ad) 1 1) 3 (fun x46 => ?_)
  refine KT.ow rfl (OW.append (d := 47) (s := s1.1) (x := ⟨some x46, 1, 1⟩) [(.int .i64 0)] 8 3 _ _ _ _ rfl rfl rfl rfl (by kernel_rfl) (by kernel_rfl) rfl rfl rfl (fun x47 => ?_))
  refine KT.pv 3 (.slice x47.base x47.len x47.cap) ?_
  refine KT.nil ?_
  refine SX.block ?_
  refine SX.seq ?_
  refine SC.region' ?_
  refine KT.pv 48 (.int .i64 (w64 (s1.2 + 1))) ?_
  refine KT.pv 12 (.int .i64 (w64 (s1.2 + 1))) ?_
  refine KT.nil ?_
  exact SX.loop_next (.cons rfl (.cons rfl (.cons rfl (.cons rfl (.nil)))))
  refine SC.skip ?_
  refine SX.block ?_
  refine SX.seq ?_
  refine SC.region' ?_
  refine KT.pv 48 (.int .i64 (w64 (s1.2 + 1))) ?_
  refine KT.pv 12 (.int .i64 (w64 (s1.2 + 1))) ?_
  refine KT.nil ?_
  exact SX.loop_next (.cons rfl (.cons rfl (.cons rfl (.cons rfl (.nil)))))
  refine KT.ite (b := x26) 27 rfl ?_ ?_
  refine KT.sk ?_
  refine KT.sk ?_
  refine KT.sk ?_
  refine KT.sk ?_
  refine KT.sk ?_
  refine KT.sk ?_
  refine KT.sk ?_
  refine KT.sk ?_
  refine KT.sk ?_
  refine KT.sk ?_
  refine KT.sk ?_
  refine KT.sk ?_
  refine KT.sk ?_
  refine KT.sk ?_
  refine KT.sk ?_
  refine KT.pv 43 (.bool true) ?_
  exact KT.leafO j2 (.cons rfl (.cons rfl (.cons rfl (.cons rfl (.cons rfl (.cons rfl (.nil)))))))
  refine KT.pv 28 (.pointer p0_b) ?_
  refine KT.nm 29 (fun x29 => ?_)
  refine KT.pv 30 (.pointer (some (Addr.add x29 4))) ?_
  refine KT.pv 31 (.pointer (some (Addr.add (Addr.add x29 4) 2))) ?_
  refine KT.l 32 (fun x32 => ?_)
  refine KT.pv 33 (.bool (x32 == 1)) ?_
  refine KT.pv 34 (.bool (x32 == 1)) ?_
  refine KT.joinO (β := Bool) 8 (fun r3 => [(42, (.bool r3)), (0, (.pointer p0_b)), (3, (.slice s1.1.base s1.1.len s1.1.cap)), (4, (.int .i64 s1.2)), (11, (.int .i64 x11)), (12, (.int .i64 s1.2)), (27, (.bool false))]) (fun r3 => ?_) (fun j3 => ?_)
  refine KT.pv 43 (.bool r3) ?_
  exact KT.leafO j2 (.cons rfl (.cons rfl (.cons rfl (.cons rfl (.cons rfl (.cons rfl (.nil)))))))
  refine KT.ite (b := x32 == 1) 34 rfl ?_ ?_
  refine KT.pv 35 (.pointer p0_b) ?_
  refine KT.nm 36 (fun x36 => ?_)
  refine KT.pv 37 (.pointer (some (Addr.add x36 4))) ?_
  refine KT.pv 38 (.pointer (some (Addr.add (Addr.add x36 4) 1))) ?_
  refine KT.l 39 (fun x39 => ?_)
  refine KT.pv 40 (.int .i64 s1.2) ?_
  refine KT.pv 41 (.bool (x39 == s1.2)) ?_
  refine KT.pv 42 (.bool (x39 == s1.2)) ?_
  exact KT.leafO j3 (.cons rfl (.cons rfl (.cons rfl (.cons rfl (.cons rfl (.cons rfl (.cons rfl (.nil))))))))
  refine KT.sk ?_
  refine KT.sk ?_
  refine KT.sk ?_
  refine KT.sk ?_
  refine KT.sk ?_
  refine KT.sk ?_
  refine KT.sk ?_
  refine KT.pv 42 (.bool false) ?_
  exact KT.leafO j3 (.cons rfl (.cons rfl (.cons rfl (.cons rfl (.cons rfl (.cons rfl (.cons rfl (.nil))))))))
  refine SC.exit ?_
  refine SX.then_exit ?_
  refine SX.loop_exit ?_
  refine SX.block_hit ?_
  refine SX.seq ?_
  refine SC.seq ?_
  refine SC.region' ?_
  refine KT.pv 49 (.slice s1.1.base s1.1.len s1.1.cap) ?_
  refine KT.pv 2 (.slice s1.1.base s1.1.len s1.1.cap) ?_
  refine KT.nil ?_
  refine SX.seq ?_
  refine SC.ret ?_
  refine SX.ret [.tmp 2] rfl ?_
  refine RS.tmp (.slice s1.1.base s1.1.len s1.1.cap) rfl ?_
  exact RS.nil rfl
set_option maxRecDepth 100000 in
theorem bank_Bank_Geo_sim (p0_b : (Option Addr)) (Qf : (Int × Int × Int) → World → Prop) (w : World) (hm : bank_Bank_Geo p0_b Qf w) : Calls Try.prog 63 #[(.pointer p0_b)] w (RetPost (fun y : (Int × Int × Int) => (.agg #[(.int .i64 y.1), (.int .i64 y.2.1), (.int .i64 y.2.2)])) Qf) := by
  refine calls_of (fn := Try.f63) (l := [(.pointer p0_b)]) (m := bank_Bank_Geo p0_b) 7 (by kernel_rfl) rfl rfl rfl (fun Qf0 => ?_) Qf w hm
  clear hm w Qf
  unfold bank_Bank_Geo
  refine SC.seq ?_
  refine SC.region' ?_
  refine KT.nw 2 (fun ad => .pointer (some ad)) 23 (fun x2 => ?_)
  refine KT.nil ?_
  refine SX.seq ?_
  refine SC.seq ?_
  refine SC.region' ?_
  refine KT.pv 3 (.pointer p0_b) ?_
  refine KT.nm 4 (fun x4 => ?_)
  refine KT.pv 5 (.pointer (some (Addr.add x4 1))) ?_
  refine KT.ow rfl (OW.ldA (d := 6) (enc := (fun y : (Int × Int × Int) => [(.int .i64 y.1), (.int .i64 y.2.1), (.int .i64 y.2.2)])) 3 _ _ rfl rfl (by kernel_rfl) (by kernel_rfl) (fun _ => rfl) rfl rfl (fun x6 => ?_))
  refine KT.ow rfl (OW.stA _ _ _ rfl rfl rfl rfl rfl (by kernel_rfl) ?_)
  refine KT.nil ?_
  refine SX.seq ?_
  refine SC.ret ?_
  refine SX.ret [.cell 2 23] rfl ?_
  refine RS.cellA 3 (by kernel_rfl) rfl rfl (fun _ => rfl) (fun r2 => ?_)
  exact RS.nil rfl
set_option maxRecDepth 100000 in
theorem law06_alive_sim  (Qf : Bool → World → Prop) (w : World) (hm : law06_alive  Qf w) : Calls Try.prog 20 #[] w (RetPost Value.bool Qf) := by
  refine calls_of (fn := Try.f20) (l := []) (m := law06_alive ) 89 (by kernel_rfl) rfl rfl rfl (fun Qf0 => ?_) Qf w hm
  clear hm w Qf
  unfold law06_alive
  refine SC.seq ?_
  refine SC.region' ?_
  refine KT.pv 0 (.bool false) ?_
  refine KT.nil ?_
  refine SX.seq ?_
  refine SC.seq ?_
  refine SC.region' ?_
  refine KT.cl (fun y : (Int × Int × Int) => (.agg #[(.int .i64 y.1), (.int .i64 y.2.1), (.int .i64 y.2.2)])) 11 25 #[] (law06_Small_sim ) (fun x11 => ?_)
  refine KT.nw 1 (fun ad => .pointer (some ad)) 23 (fun x1 => ?_)
  refine KT.ow rfl (OW.stA _ _ _ rfl rfl rfl rfl rfl (by kernel_rfl) ?_)
  refine KT.nil ?_
  refine SX.seq ?_
  refine SC.seq ?_
  refine SC.region' ?_
  refine KT.ow rfl (OW.ldA (d := 13) (enc := (fun y : (Int × Int × Int) => [(.int .i64 y.1), (.int .i64 y.2.1), (.int .i64 y.2.2)])) 3 _ _ rfl rfl (by kernel_rfl) (by kernel_rfl) (fun _ => rfl) rfl rfl (fun x13 => ?_))
  refine KT.cl (Value.int .i64) 14 26 #[(.agg #[(.int .i64 x13.1), (.int .i64 x13.2.1), (.int .i64 x13.2.2)])] (geo_Sectors_sim (x13.1, x13.2.1, x13.2.2)) (fun x14 => ?_)
  refine KT.cl (fun y : ((Option Addr) × Int) => (.tuple #[(.pointer y.1), (.int .i64 y.2)])) 15 21 #[(.int .i64 4), (.int .i64 x14)] (device_New_sim 4 x14) (fun x15 => ?_)
  refine KT.pv 12 (.tuple #[(.pointer x15.1), (.int .i64 x15.2)]) ?_
  refine KT.pv 16 (.pointer x15.1) ?_
  refine KT.pv 17 (.int .i64 x15.2) ?_
  refine KT.pv 2 (.pointer x15.1) ?_
  refine KT.pv 3 (.int .i64 x15.2) ?_
  refine KT.nil ?_
  refine SX.seq ?_
  refine SC.seq ?_
  refine SC.seq ?_
  refine SC.region' ?_
  refine KT.pv 18 (.int .i64 x15.2) ?_
  refine KT.pv 19 (.bool (x15.2 != 0)) ?_
  refine KT.pv 20 (.bool (x15.2 != 0)) ?_
  refine KT.joinO (β := Bool) 3 (fun r1 => [(23, (.bool r1)), (1, (.pointer (some x1))), (2, (.pointer x15.1))]) (fun r1 => ?_) (fun j1 => ?_)
  refine KT.nil ?_
  refine SX.seq ?_
  refine SC.cond (b := r1) rfl ?_ ?_
  refine SC.seq ?_
  refine SC.region' ?_
  refine KT.pv 0 (.bool false) ?_
  refine KT.nil ?_
  refine SX.seq ?_
  refine SC.ret ?_
  refine SX.then_ret ?_
  refine SX.ret [.tmp 0] rfl ?_
  refine RS.tmp (.bool false) rfl ?_
  exact RS.nil rfl
  refine SC.skip ?_
  refine SX.seq ?_
  refine SC.seq ?_
  refine SC.region' ?_
  refine KT.pv 25 (.pointer x15.1) ?_
  refine KT.ow rfl (OW.ldA (d := 26) (enc := (fun y : (Int × Int × Int) => [(.int .i64 y.1), (.int .i64 y.2.1), (.int .i64 y.2.2)])) 3 _ _ rfl rfl (by kernel_rfl) (by kernel_rfl) (fun _ => rfl) rfl rfl (fun x26 => ?_))
  refine KT.pv 27 (.agg #[(.int .i64 0), (.int .i64 1), (.int .i64 2)]) ?_
  refine KT.cl (fun y : ((Option Addr) × Int) => (.tuple #[(.pointer y.1), (.int .i64 y.2)])) 28 23 #[(.pointer x15.1), (.agg #[(.int .i64 x26.1), (.int .i64 x26.2.1), (.int .i64 x26.2.2)]), (.agg #[(.int .i64 0), (.int .i64 1), (.int .i64 2)])] (bank_Open_sim x15.1 (x26.1, x26.2.1, x26.2.2) (0, 1, 2)) (fun x28 => ?_)
  refine KT.pv 24 (.tuple #[(.pointer x28.1), (.int .i64 x28.2)]) ?_
  refine KT.pv 29 (.pointer x28.1) ?_
  refine KT.pv 30 (.int .i64 x28.2) ?_
  refine KT.pv 4 (.pointer x28.1) ?_
  refine KT.pv 3 (.int .i64 x28.2) ?_
  refine KT.nil ?_
  refine SX.seq ?_
  refine SC.seq ?_
  refine SC.seq ?_
  refine SC.join (β := (Bool)) (fun b2 => [(2, (.pointer x15.1)), (4, (.pointer x28.1)), (42, (.bool b2))]) (fun b2 => ?_) (fun j2 => ?_)
  refine SX.seq ?_
  refine SC.cond (b := b2) rfl ?_ ?_
  refine SC.seq ?_
  refine SC.region' ?_
  refine KT.pv 0 (.bool false) ?_
  refine KT.nil ?_
  refine SX.seq ?_
  refine SC.ret ?_
  refine SX.then_ret ?_
  refine SX.ret [.tmp 0] rfl ?_
  refine RS.tmp (.bool false) rfl ?_
  exact RS.nil rfl
  refine SC.skip ?_
  refine SX.seq ?_
  refine SC.seq ?_
  refine SC.region' ?_
  refine KT.nw 43 (fun ad => .slice (some ad) 64 64) 5 (fun x43 => ?_)
  refine KT.pv 5 (.slice (some x43) 64 64) ?_
  refine KT.nil ?_
  refine SX.seq ?_
  refine SC.seq ?_
  refine SC.region' ?_
  refine KT.pv 44 (.slice (some x43) 64 64) ?_
  refine KT.oy rfl (OY.idx (d := 45) (s := ⟨some x43, 64, 64⟩) (i := 0) (size := 1) (elem := 5) _ _ _ rfl rfl rfl (by kernel_rfl) (by kernel_rfl) rfl rfl (fun x45 => ?_))
  refine KT.s ?_
  refine KT.nil ?_
  refine SX.seq ?_
  refine SC.seq ?_
  refine SC.region' ?_
  refine KT.pv 46 (.pointer x28.1) ?_
  refine KT.pv 47 (.slice (some x43) 64 64) ?_
  refine KT.cl (Value.int .i64) 48 32 #[(.pointer x28.1), (.int .i64 1), (.int .i64 2), (.slice (some x43) 64 64)] (bank_Bank_Write_sim x28.1 1 2 (⟨some x43, 64, 64⟩)) (fun x48 => ?_)
  refine KT.pv 6 (.int .i64 x48) ?_
  refine KT.nil ?_
  refine SX.seq ?_
  refine SC.seq ?_
  refine SC.region' ?_
  refine KT.pv 50 (.pointer x15.1) ?_
  refine KT.cl (fun y : (Slc × Int) => (.tuple #[(.slice y.1.base y.1.len y.1.cap), (.int .i64 y.2)])) 51 29 #[(.pointer x15.1), (.int .i64 3), (.int .i64 2)] (device_Rack_Read_sim x15.1 3 2) (fun x51 => ?_)
  refine KT.pv 49 (.tuple #[(.slice x51.1.base x51.1.len x51.1.cap), (.int .i64 x51.2)]) ?_
  refine KT.pv 52 (.slice x51.1.base x51.1.len x51.1.cap) ?_
  refine KT.pv 53 (.int .i64 x51.2) ?_
  refine KT.pv 7 (.slice x51.1.base x51.1.len x51.1.cap) ?_
  refine KT.pv 8 (.int .i64 x51.2) ?_
  refine KT.nil ?_
  refine SX.seq ?_
  refine SC.seq ?_
  refine SC.region' ?_
  refine KT.pv 55 (.pointer x15.1) ?_
  refine KT.cl (fun y : (Slc × Int) => (.tuple #[(.slice y.1.base y.1.len y.1.cap), (.int .i64 y.2)])) 56 29 #[(.pointer x15.1), (.int .i64 1), (.int .i64 2)] (device_Rack_Read_sim x15.1 1 2) (fun x56 => ?_)
  refine KT.pv 54 (.tuple #[(.slice x56.1.base x56.1.len x56.1.cap), (.int .i64 x56.2)]) ?_
  refine KT.pv 57 (.slice x56.1.base x56.1.len x56.1.cap) ?_
  refine KT.pv 58 (.int .i64 x56.2) ?_
  refine KT.pv 9 (.slice x56.1.base x56.1.len x56.1.cap) ?_
  refine KT.pv 10 (.int .i64 x56.2) ?_
  refine KT.nil ?_
  refine SX.seq ?_
  refine SC.seq ?_
  refine SC.region' ?_
  refine KT.pv 59 (.int .i64 x48) ?_
  refine KT.pv 60 (.bool (x48 == 0)) ?_
  refine KT.pv 61 (.bool (x48 == 0)) ?_
  refine KT.joinO (β := Bool) 4 (fun r3 => [(65, (.bool r3)), (4, (.pointer x28.1)), (7, (.slice x51.1.base x51.1.len x51.1.cap)), (9, (.slice x56.1.base x56.1.len x56.1.cap))]) (fun r3 => ?_) (fun j3 => ?_)
  refine KT.pv 66 (.bool r3) ?_
  refine KT.joinO (β := Bool) 5 (fun r4 => [(71, (.bool r4)), (4, (.pointer x28.1)), (9, (.slice x56.1.base x56.1.len x56.1.cap))]) (fun r4 => ?_) (fun j4 => ?_)
  refine KT.pv 72 (.bool r4) ?_
  refine KT.joinO (β := Bool) 4 (fun r5 => [(76, (.bool r5)), (4, (.pointer x28.1)), (9, (.slice x56.1.base x56.1.len x56.1.cap))]) (fun r5 => ?_) (fun j5 => ?_)
  refine KT.pv 77 (.bool r5) ?_
  refine KT.joinO (β := Bool) 5 (fun r6 => [(82, (.bool r6)), (4, (.pointer x28.1))]) (fun r6 => ?_) (fun j6 => ?_)
  refine KT.pv 83 (.bool r6) ?_
  refine KT.joinO (β := Bool) 5 (fun r7 => [(88, (.bool r7))]) (fun r7 => ?_) (fun j7 => ?_)
  refine KT.pv 0 (.bool r7) ?_
  refine KT.nil ?_
  refine SX.seq ?_
  refine SC.ret ?_
  refine SX.ret [.tmp 0] rfl ?_
  refine RS.tmp (.bool r7) rfl ?_
  exact RS.nil rfl
  refine KT.ite (b := r6) 83 rfl ?_ ?_
  refine KT.pv 84 (.pointer x28.1) ?_
  refine KT.cl vS 85 33 #[(.pointer x28.1)] (bank_Bank_Bad_sim x28.1) (fun x85 => ?_)
  refine KT.pv 86 (.int .i64 ((x85.len : Nat) : Int)) ?_
  refine KT.pv 87 (.bool (((x85.len : Nat) : Int) == 0)) ?_
  refine KT.pv 88 (.bool (((x85.len : Nat) : Int) == 0)) ?_
  exact KT.leafO j7 (.cons rfl (.nil))
  refine KT.sk ?_
  refine KT.sk ?_
  refine KT.sk ?_
  refine KT.sk ?_
  refine KT.pv 88 (.bool false) ?_
  exact KT.leafO j7 (.cons rfl (.nil))
  refine KT.ite (b := r5) 77 rfl ?_ ?_
  refine KT.pv 78 (.slice x56.1.base x56.1.len x56.1.cap) ?_
  refine KT.oy rfl (OY.idx (d := 79) (s := x56.1) (i := 0) (size := 1) (elem := 5) _ _ _ rfl rfl rfl (by kernel_rfl) (by kernel_rfl) rfl rfl (fun x79 => ?_))
  refine KT.l 80 (fun x80 => ?_)
  refine KT.pv 81 (.bool (x80 == 0)) ?_
  refine KT.pv 82 (.bool (x80 == 0)) ?_
  exact KT.leafO j6 (.cons rfl (.cons rfl (.nil)))
  refine KT.sk ?_
  refine KT.sk ?_
  refine KT.sk ?_
  refine KT.sk ?_
  refine KT.pv 82 (.bool false) ?_
  exact KT.leafO j6 (.cons rfl (.cons rfl (.nil)))
  refine KT.ite (b := r4) 72 rfl ?_ ?_
  refine KT.pv 73 (.slice x56.1.base x56.1.len x56.1.cap) ?_
  refine KT.pv 74 (.int .i64 ((x56.1.len : Nat) : Int)) ?_
  refine KT.pv 75 (.bool (((x56.1.len : Nat) : Int) == 64)) ?_
  refine KT.pv 76 (.bool (((x56.1.len : Nat) : Int) == 64)) ?_
  exact KT.leafO j5 (.cons rfl (.cons rfl (.cons rfl (.nil))))
  refine KT.sk ?_
  refine KT.sk ?_
  refine KT.sk ?_
  refine KT.pv 76 (.bool false) ?_
  exact KT.leafO j5 (.cons rfl (.cons rfl (.cons rfl (.nil))))
  refine KT.ite (b := r3) 66 rfl ?_ ?_
  refine KT.pv 67 (.slice x51.1.base x51.1.len x51.1.cap) ?_
  refine KT.oy rfl (OY.idx (d := 68) (s := x51.1) (i := 0) (size := 1) (elem := 5) _ _ _ rfl rfl rfl (by kernel_rfl) (by kernel_rfl) rfl rfl (fun x68 => ?_))
  refine KT.l 69 (fun x69 => ?_)
  refine KT.pv 70 (.bool (x69 == 5)) ?_
  refine KT.pv 71 (.bool (x69 == 5)) ?_
  exact KT.leafO j4 (.cons rfl (.cons rfl (.cons rfl (.nil))))
  refine KT.sk ?_
  refine KT.sk ?_
  refine KT.sk ?_
  refine KT.sk ?_
  refine KT.pv 71 (.bool false) ?_
  exact KT.leafO j4 (.cons rfl (.cons rfl (.cons rfl (.nil))))
  refine KT.ite (b := x48 == 0) 61 rfl ?_ ?_
  refine KT.pv 62 (.slice x51.1.base x51.1.len x51.1.cap) ?_
  refine KT.pv 63 (.int .i64 ((x51.1.len : Nat) : Int)) ?_
  refine KT.pv 64 (.bool (((x51.1.len : Nat) : Int) == 64)) ?_
  refine KT.pv 65 (.bool (((x51.1.len : Nat) : Int) == 64)) ?_
  exact KT.leafO j3 (.cons rfl (.cons rfl (.cons rfl (.cons rfl (.nil)))))
  refine KT.sk ?_
  refine KT.sk ?_
  refine KT.sk ?_
  refine KT.pv 65 (.bool false) ?_
  exact KT.leafO j3 (.cons rfl (.cons rfl (.cons rfl (.cons rfl (.nil)))))
  refine SC.draw 12 (fun _ => false) rfl (by kernel_rfl) (fun S8 => ?_)
  refine KT.pvA 0 31 (.int .i64 x28.2) ?_
  refine KT.pvA 1 32 (.bool (x28.2 != 0)) ?_
  refine KT.pvA 2 33 (.bool (x28.2 != 0)) ?_
  refine KT.ite (b := x28.2 != 0) 33 rfl ?_ ?_
  refine KT.skA 3 ?_
  refine KT.skA 4 ?_
  refine KT.pvA 5 36 (.bool true) ?_
  refine KT.pvA 6 37 (.bool true) ?_
  refine KT.skA 7 ?_
  refine KT.skA 8 ?_
  refine KT.skA 9 ?_
  refine KT.skA 10 ?_
  refine KT.pvA 11 42 (.bool true) ?_
  refine KT.doneA (by kernel_rfl) ?_
  exact SX.leafS j2 (.cons rfl (.cons rfl (.cons rfl (.nil))))
  refine KT.pvA 3 34 (.pointer x28.1) ?_
  refine KT.tp 4 (OY.eqlNil (d := 35) (p := x28.1) _ _ _ _ rfl rfl rfl (by kernel_rfl) rfl rfl ?_)
  refine KT.pvA 5 36 (.bool ((x28.1).isNone)) ?_
  refine KT.pvA 6 37 (.bool ((x28.1).isNone)) ?_
  refine KT.ite (b := (x28.1).isNone) 37 rfl ?_ ?_
  refine KT.skA 7 ?_
  refine KT.skA 8 ?_
  refine KT.skA 9 ?_
  refine KT.skA 10 ?_
  refine KT.pvA 11 42 (.bool true) ?_
  refine KT.doneA (by kernel_rfl) ?_
  exact SX.leafS j2 (.cons rfl (.cons rfl (.cons rfl (.nil))))
  refine KT.pvA 7 38 (.pointer x28.1) ?_
  refine KT.tk 9 (OY.ldAI (d := 40) (enc := (fun y : (Int × Int × Int) => [(.int .i64 y.1), (.int .i64 y.2.1), (.int .i64 y.2.2)])) 3 _ _ rfl rfl (by kernel_rfl) (by kernel_rfl) (fun _ => rfl) rfl rfl (fun x40 => ?_))
  refine KT.one 8 rfl (by kernel_rfl) rfl (OW.step (OW.call (d := 39) (enc := (fun y : (Int × Int × Int) => (.agg #[(.int .i64 y.1), (.int .i64 y.2.1), (.int .i64 y.2.2)]))) 63 #[(.pointer x28.1)] rfl (fun _ => by kernel_rfl) (fun Qf w => bank_Bank_Geo_sim x28.1 Qf w) rfl rfl (fun x39 => ?_)))
  refine KT.and ?_
  refine KT.tp 10 (OY.neqAgg3 (d := 41) (x := (x39.1, x39.2.1, x39.2.2)) (y := (x40.1, x40.2.1, x40.2.2)) _ _ _ _ _ _ _ rfl rfl rfl rfl (by kernel_rfl) rfl rfl ?_)
  refine KT.pvA 11 42 (.bool (!(eq3 (x39.1, x39.2.1, x39.2.2) (x40.1, x40.2.1, x40.2.2)))) ?_
  refine KT.doneA (by kernel_rfl) ?_
  exact SX.leafS j2 (.cons rfl (.cons rfl (.cons rfl (.nil))))
  refine KT.ite (b := x15.2 != 0) 20 rfl ?_ ?_
  refine KT.sk ?_
  refine KT.sk ?_
  refine KT.pv 23 (.bool true) ?_
  exact KT.leafO j1 (.cons rfl (.cons rfl (.cons rfl (.nil))))
  refine KT.pv 21 (.pointer x15.1) ?_
  refine KT.oy rfl (OY.eqlNil (d := 22) (p := x15.1) _ _ _ _ rfl rfl rfl (by kernel_rfl) rfl rfl ?_)
  refine KT.pv 23 (.bool ((x15.1).isNone)) ?_
  exact KT.leafO j1 (.cons rfl (.cons rfl (.cons rfl (.nil))))
set_option maxRecDepth 100000 in
theorem ref02_New_sim (p0_disks : Int) (p1_sectors : Int) (Qf : ((Int × Int × Slc × Slc × Slc × Slc × Int × Bool) × Int) → World → Prop) (w : World) (hm : ref02_New p0_disks p1_sectors Qf w) : Calls Try.prog 22 #[(.int .i64 p0_disks), (.int .i64 p1_sectors)] w (RetPost (fun y : ((Int × Int × Slc × Slc × Slc × Slc × Int × Bool) × Int) => (.tuple #[(.agg #[(.int .i64 y.1.1), (.int .i64 y.1.2.1), (.slice y.1.2.2.1.base y.1.2.2.1.len y.1.2.2.1.cap), (.slice y.1.2.2.2.1.base y.1.2.2.2.1.len y.1.2.2.2.1.cap), (.slice y.1.2.2.2.2.1.base y.1.2.2.2.2.1.len y.1.2.2.2.2.1.cap), (.slice y.1.2.2.2.2.2.1.base y.1.2.2.2.2.2.1.len y.1.2.2.2.2.2.1.cap), (.int .i64 y.1.2.2.2.2.2.2.1), (.bool y.1.2.2.2.2.2.2.2)]), (.int .i64 y.2)])) Qf) := by
  refine calls_of (fn := Try.f22) (l := [(.int .i64 p0_disks), (.int .i64 p1_sectors)]) (m := ref02_New p0_disks p1_sectors) 61 (by kernel_rfl) rfl rfl rfl (fun Qf0 => ?_) Qf w hm
  clear hm w Qf
  unfold ref02_New
  refine SC.seq ?_
  refine SC.region' ?_
  refine KT.nw 4 (fun ad => .pointer (some ad)) 35 (fun x4 => ?_)
  refine KT.pv 5 (.int .i64 0) ?_
  refine KT.nil ?_
  refine SX.seq ?_
  refine SC.seq ?_
  refine SC.seq ?_
  refine SC.region' ?_
  refine KT.pv 9 (.int .i64 p0_disks) ?_
  refine KT.pv 10 (.bool (decide (p0_disks < 1))) ?_
  refine KT.pv 11 (.bool (decide (p0_disks < 1))) ?_
  refine KT.joinO (β := Bool) 3 (fun r1 => [(14, (.bool r1)), (0, (.int .i64 p0_disks)), (1, (.int .i64 p1_sectors)), (4, (.pointer (some x4)))]) (fun r1 => ?_) (fun j1 => ?_)
  refine KT.pv 15 (.bool r1) ?_
  refine KT.joinO (β := Bool) 3 (fun r2 => [(18, (.bool r2)), (0, (.int .i64 p0_disks)), (1, (.int .i64 p1_sectors)), (4, (.pointer (some x4)))]) (fun r2 => ?_) (fun j2 => ?_)
  refine KT.pv 19 (.bool r2) ?_
  refine KT.joinO (β := Bool) 3 (fun r3 => [(22, (.bool r3)), (0, (.int .i64 p0_disks)), (1, (.int .i64 p1_sectors)), (4, (.pointer (some x4)))]) (fun r3 => ?_) (fun j3 => ?_)
  refine KT.nil ?_
  refine SX.seq ?_
  refine SC.cond (b := r3) rfl ?_ ?_
  refine SC.seq ?_
  refine SC.region' ?_
  refine KT.pv 23 (.agg #[(.int .i64 0), (.int .i64 0), (.slice none 0 0), (.slice none 0 0), (.slice none 0 0), (.slice none 0 0), (.int .i64 0), (.bool false)]) ?_
  refine KT.ow rfl (OW.stA _ _ _ rfl rfl rfl rfl rfl (by kernel_rfl) ?_)
  refine KT.pv 5 (.int .i64 10) ?_
  refine KT.nil ?_
  refine SX.seq ?_
  refine SC.ret ?_
  refine SX.then_ret ?_
  refine SX.ret [.cell 4 35, .tmp 5] rfl ?_
  refine RS.cellA 8 (by kernel_rfl) rfl rfl (fun _ => rfl) (fun r4 => ?_)
  refine RS.tmp (.int .i64 10) rfl ?_
  exact RS.nil rfl
  refine SC.skip ?_
  refine SX.seq ?_
  refine SC.seq ?_
  refine SC.region' ?_
  refine KT.pv 24 (.int .i64 p0_disks) ?_
  refine KT.pv 25 (.int .i64 p1_sectors) ?_
  refine KT.pv 26 (.agg #[(.int .i64 p0_disks), (.int .i64 p1_sectors), (.slice none 0 0), (.slice none 0 0), (.slice none 0 0), (.slice none 0 0), (.int .i64 (-1)), (.bool false)]) ?_
  refine KT.nw 6 (fun ad => .pointer (some ad)) 35 (fun x6 => ?_)
  refine KT.ow rfl (OW.stA _ _ _ rfl rfl rfl rfl rfl (by kernel_rfl) ?_)
  refine KT.nil ?_
  refine SX.seq ?_
  refine SC.seq ?_
  refine SC.seq ?_
  refine SC.region' ?_
  refine KT.pv 7 (.int .i64 0) ?_
  refine KT.nil ?_
  refine SX.seq ?_
  refine SC.block ?_
  refine SC.loop (σ := (Int)) (fun s4 => [(0, (.int .i64 p0_disks)), (1, (.int .i64 p1_sectors)), (4, (.pointer (some x4))), (6, (.pointer (some x6))), (7, (.int .i64 s4))]) (.cons rfl (.cons rfl (.cons rfl (.cons rfl (.cons rfl (.nil)))))) (fun _ _ _ s4 => ?_)
  refine SC.seq ?_
  refine SC.seq ?_
  refine SC.region' ?_
  refine KT.pv 27 (.int .i64 s4) ?_
  refine KT.pv 28 (.int .i64 p0_disks) ?_
  refine KT.pv 29 (.int .i64 p1_sectors) ?_
  refine KT.pv 30 (.int .i64 (w64 (p0_disks * p1_sectors))) ?_
  refine KT.pv 31 (.bool (decide (s4 < (w64 (p0_disks * p1_sectors))))) ?_
  refine KT.nil ?_
  refine SX.seq ?_
  refine SC.cond (b := decide (s4 < (w64 (p0_disks * p1_sectors)))) rfl ?_ ?_
  refine SC.skip ?_
  refine SX.seq ?_
  refine SC.seq ?_
  refine SC.block ?_
  refine SC.seq ?_
  refine SC.draw 7 (fun f => Nat.beq f 4 || Nat.beq f 6) rfl (by kernel_rfl) (fun S5 => ?_)
  refine KT.pvA 0 34 (.pointer (some (Addr.add x6 2))) ?_
  refine KT.tk 1 (OY.ldI (d := 35) _ _ rfl rfl (by kernel_rfl) rfl rfl (fun x35 => ?_))
  refine KT.one 2 rfl (by kernel_rfl) rfl (OW.step (OW.new (d := 36) (List.replicate 64 (.int .u8 0)) (fun ad => .slice (some ad) 64 64) 5 rfl (fun _ => by kernel_rfl) rfl rfl (fun x36 => ?_)))
  refine KT.and ?_
  refine KT.one 3 rfl (by kernel_rfl) rfl (OW.step (OW.new (d := 37) [(.slice (some x36) 64 64)] (fun ad => .slice (some ad) 1 1) 46 rfl (fun _ => by kernel_rfl) rfl rfl (fun x37 => ?_)))
  refine KT.and ?_
  refine KT.last 4 rfl (by kernel_rfl) rfl rfl (OW.append (d := 38) (s := x35) (x := ⟨some x37, 1, 1⟩) [(.slice none 0 0)] 24 46 _ _ _ _ rfl rfl rfl rfl (by kernel_rfl) (by kernel_rfl) rfl rfl rfl (fun x38 => ?_))
  refine KT.pvN 5 39 (.pointer (some (Addr.add x6 2))) ?_
  refine KT.lastN 6 rfl (by kernel_rfl) rfl rfl (OW.st _ _ _ rfl rfl rfl rfl (by kernel_rfl) rfl ?_)
  refine KT.doneN (by kernel_rfl) ?_
  refine SX.seq ?_
  refine SC.region' ?_
  refine KT.pv 40 (.pointer (some (Addr.add x6 3))) ?_
  refine KT.l 41 (fun x41 => ?_)
  refine KT.nw 42 (fun ad => .slice (some ad) 1 1) 46 (fun x42 => ?_)
  refine KT.ow rfl (OW.append (d := 43) (s := x41) (x := ⟨some x42, 1, 1⟩) [(.slice none 0 0)] 24 46 _ _ _ _ rfl rfl rfl rfl (by kernel_rfl) (by kernel_rfl) rfl rfl rfl (fun x43 => ?_))
  refine KT.pv 44 (.pointer (some (Addr.add x6 3))) ?_
  refine KT.s ?_
  refine KT.nil ?_
  refine SX.block ?_
  refine SX.seq ?_
  refine SC.region' ?_
  refine KT.pv 32 (.int .i64 s4) ?_
  refine KT.pv 33 (.int .i64 (w64 (s4 + 1))) ?_
  refine KT.pv 7 (.int .i64 (w64 (s4 + 1))) ?_
  refine KT.nil ?_
  exact SX.loop_next (.cons rfl (.cons rfl (.cons rfl (.cons rfl (.cons rfl (.nil))))))
  refine SC.exit ?_
  refine SX.then_exit ?_
  refine SX.loop_exit ?_
  refine SX.block_hit ?_
  refine SX.seq ?_
  refine SC.seq ?_
  refine SC.seq ?_
  refine SC.region' ?_
  refine KT.pv 8 (.int .i64 0) ?_
  refine KT.nil ?_
  refine SX.seq ?_
  refine SC.block ?_
  refine SC.loop (σ := (Int)) (fun s6 => [(0, (.int .i64 p0_disks)), (4, (.pointer (some x4))), (6, (.pointer (some x6))), (8, (.int .i64 s6))]) (.cons rfl (.cons rfl (.cons rfl (.cons rfl (.nil))))) (fun _ _ _ s6 => ?_)
  refine SC.seq ?_
  refine SC.seq ?_
  refine SC.region' ?_
  refine KT.pv 45 (.int .i64 s6) ?_
  refine KT.pv 46 (.int .i64 p0_disks) ?_
  refine KT.pv 47 (.bool (decide (s6 < p0_disks))) ?_
  refine KT.nil ?_
  refine SX.seq ?_
  refine SC.cond (b := decide (s6 < p0_disks)) rfl ?_ ?_
  refine SC.skip ?_
  refine SX.seq ?_
  refine SC.seq ?_
  refine SC.block ?_
  refine SC.seq ?_
  refine SC.region' ?_
  refine KT.pv 50 (.pointer (some (Addr.add x6 4))) ?_
  refine KT.l 51 (fun x51 => ?_)
  refine KT.nw 52 (fun ad => .slice (some ad) 1 1) 4 (fun x52 => ?_)
  refine KT.ow rfl (OW.append (d := 53) (s := x51) (x := ⟨some x52, 1, 1⟩) [(.bool false)] 1 4 _ _ _ _ rfl rfl rfl rfl (by kernel_rfl) (by kernel_rfl) rfl rfl rfl (fun x53 => ?_))
  refine KT.pv 54 (.pointer (some (Addr.add x6 4))) ?_
  refine KT.s ?_
  refine KT.nil ?_
  refine SX.seq ?_
  refine SC.region' ?_
  refine KT.pv 55 (.pointer (some (Addr.add x6 5))) ?_
  refine KT.l 56 (fun x56 => ?_)
  refine KT.nw 57 (fun ad => .slice (some ad) 1 1) 3 (fun x57 => ?_)
  refine KT.ow rfl (OW.append (d := 58) (s := x56) (x := ⟨some x57, 1, 1⟩) [(.int .i64 0)] 8 3 _ _ _ _ rfl rfl rfl rfl (by kernel_rfl) (by kernel_rfl) rfl rfl rfl (fun x58 => ?_))
  refine KT.pv 59 (.pointer (some (Addr.add x6 5))) ?_
  refine KT.s ?_
  refine KT.nil ?_
  refine SX.block ?_
  refine SX.seq ?_
  refine SC.region' ?_
  refine KT.pv 48 (.int .i64 s6) ?_
  refine KT.pv 49 (.int .i64 (w64 (s6 + 1))) ?_
  refine KT.pv 8 (.int .i64 (w64 (s6 + 1))) ?_
  refine KT.nil ?_
  exact SX.loop_next (.cons rfl (.cons rfl (.cons rfl (.cons rfl (.nil)))))
  refine SC.exit ?_
  refine SX.then_exit ?_
  refine SX.loop_exit ?_
  refine SX.block_hit ?_
  refine SX.seq ?_
  refine SC.seq ?_
  refine SC.region' ?_
  refine KT.ow rfl (OW.ldA (d := 60) (enc := (fun y : (Int × Int × Slc × Slc × Slc × Slc × Int × Bool) => [(.int .i64 y.1), (.int .i64 y.2.1), (.slice y.2.2.1.base y.2.2.1.len y.2.2.1.cap), (.slice y.2.2.2.1.base y.2.2.2.1.len y.2.2.2.1.cap), (.slice y.2.2.2.2.1.base y.2.2.2.2.1.len y.2.2.2.2.1.cap), (.slice y.2.2.2.2.2.1.base y.2.2.2.2.2.1.len y.2.2.2.2.2.1.cap), (.int .i64 y.2.2.2.2.2.2.1), (.bool y.2.2.2.2.2.2.2)])) 8 _ _ rfl rfl (by kernel_rfl) (by kernel_rfl) (fun _ => rfl) rfl rfl (fun x60 => ?_))
  refine KT.ow rfl (OW.stA _ _ _ rfl rfl rfl rfl rfl (by kernel_rfl) ?_)
  refine KT.pv 5 (.int .i64 0) ?_
  refine KT.nil ?_
  refine SX.seq ?_
  refine SC.ret ?_
  refine SX.ret [.cell 4 35, .tmp 5] rfl ?_
  refine RS.cellA 8 (by kernel_rfl) rfl rfl (fun _ => rfl) (fun r4 => ?_)
  refine RS.tmp (.int .i64 0) rfl ?_
  exact RS.nil rfl
  refine KT.ite (b := r2) 19 rfl ?_ ?_
  refine KT.sk ?_
  refine KT.sk ?_
  refine KT.pv 22 (.bool true) ?_
  exact KT.leafO j3 (.cons rfl (.cons rfl (.cons rfl (.cons rfl (.nil)))))
  refine KT.pv 20 (.int .i64 p1_sectors) ?_
  refine KT.pv 21 (.bool (decide (p1_sectors > 4096))) ?_
  refine KT.pv 22 (.bool (decide (p1_sectors > 4096))) ?_
  exact KT.leafO j3 (.cons rfl (.cons rfl (.cons rfl (.cons rfl (.nil)))))
  refine KT.ite (b := r1) 15 rfl ?_ ?_
  refine KT.sk ?_
  refine KT.sk ?_
  refine KT.pv 18 (.bool true) ?_
  exact KT.leafO j2 (.cons rfl (.cons rfl (.cons rfl (.cons rfl (.nil)))))
  refine KT.pv 16 (.int .i64 p1_sectors) ?_
  refine KT.pv 17 (.bool (decide (p1_sectors < 1))) ?_
  refine KT.pv 18 (.bool (decide (p1_sectors < 1))) ?_
  exact KT.leafO j2 (.cons rfl (.cons rfl (.cons rfl (.cons rfl (.nil)))))
  refine KT.ite (b := decide (p0_disks < 1)) 11 rfl ?_ ?_
  refine KT.sk ?_
  refine KT.sk ?_
  refine KT.pv 14 (.bool true) ?_
  exact KT.leafO j1 (.cons rfl (.cons rfl (.cons rfl (.cons rfl (.nil)))))
  refine KT.pv 12 (.int .i64 p0_disks) ?_
  refine KT.pv 13 (.bool (decide (p0_disks > 17))) ?_
  refine KT.pv 14 (.bool (decide (p0_disks > 17))) ?_
  exact KT.leafO j1 (.cons rfl (.cons rfl (.cons rfl (.cons rfl (.nil)))))
set_option maxRecDepth 100000 in
theorem ref03_Right_sim (p0_g : (Int × Int × Int)) (Qf : Bool → World → Prop) (w : World) (hm : ref03_Right p0_g Qf w) : Calls Try.prog 66 #[(.agg #[(.int .i64 p0_g.1), (.int .i64 p0_g.2.1), (.int .i64 p0_g.2.2)])] w (RetPost Value.bool Qf) := by
  refine calls_of (fn := Try.f66) (l := [(.agg #[(.int .i64 p0_g.1), (.int .i64 p0_g.2.1), (.int .i64 p0_g.2.2)])]) (m := ref03_Right p0_g) 44 (by kernel_rfl) rfl rfl rfl (fun Qf0 => ?_) Qf w hm
  clear hm w Qf
  unfold ref03_Right
  refine SC.seq ?_
  refine SC.region' ?_
  refine KT.nw 1 (fun ad => .pointer (some ad)) 23 (fun x1 => ?_)
  refine KT.pv 2 (.bool false) ?_
  refine KT.nil ?_
  refine SX.seq ?_
  refine SC.seq ?_
  refine SC.seq ?_
  refine SC.region' ?_
  refine KT.pv 3 (.pointer (some x1)) ?_
  refine KT.l 4 (fun x4 => ?_)
  refine KT.pv 5 (.bool (decide (x4 < 3))) ?_
  refine KT.pv 6 (.bool (decide (x4 < 3))) ?_
  refine KT.joinO (β := Bool) 4 (fun r1 => [(10, (.bool r1)), (1, (.pointer (some x1)))]) (fun r1 => ?_) (fun j1 => ?_)
  refine KT.pv 11 (.bool r1) ?_
  refine KT.joinO (β := Bool) 4 (fun r2 => [(15, (.bool r2)), (1, (.pointer (some x1)))]) (fun r2 => ?_) (fun j2 => ?_)
  refine KT.pv 16 (.bool r2) ?_
  refine KT.joinO (β := Bool) 4 (fun r3 => [(20, (.bool r3)), (1, (.pointer (some x1)))]) (fun r3 => ?_) (fun j3 => ?_)
  refine KT.pv 21 (.bool r3) ?_
  refine KT.joinO (β := Bool) 4 (fun r4 => [(25, (.bool r4)), (1, (.pointer (some x1)))]) (fun r4 => ?_) (fun j4 => ?_)
  refine KT.pv 26 (.bool r4) ?_
  refine KT.joinO (β := Bool) 4 (fun r5 => [(30, (.bool r5)), (1, (.pointer (some x1)))]) (fun r5 => ?_) (fun j5 => ?_)
  refine KT.nil ?_
  refine SX.seq ?_
  refine SC.cond (b := r5) rfl ?_ ?_
  refine SC.seq ?_
  refine SC.region' ?_
  refine KT.pv 2 (.bool false) ?_
  refine KT.nil ?_
  refine SX.seq ?_
  refine SC.ret ?_
  refine SX.then_ret ?_
  refine SX.ret [.tmp 2] rfl ?_
  refine RS.tmp (.bool false) rfl ?_
  exact RS.nil rfl
  refine SC.skip ?_
  refine SX.seq ?_
  refine SC.seq ?_
  refine SC.region' ?_
  refine KT.pv 31 (.pointer (some (Addr.add x1 2))) ?_
  refine KT.l 32 (fun x32 => ?_)
  refine KT.pv 33 (.int .i64 (w64 (Int.tdiv x32 8))) ?_
  refine KT.pv 34 (.int .i64 (w64 (1 + (w64 (Int.tdiv x32 8))))) ?_
  refine KT.pv 35 (.pointer (some (Addr.add x1 1))) ?_
  refine KT.l 36 (fun x36 => ?_)
  refine KT.pv 37 (.pointer (some x1)) ?_
  refine KT.l 38 (fun x38 => ?_)
  refine KT.pv 39 (.int .i64 (w64 (x38 - 1))) ?_
  refine KT.pv 40 (.int .i64 (w64 (x36 * (w64 (x38 - 1))))) ?_
  refine KT.pv 41 (.int .i64 (w64 ((w64 (x36 * (w64 (x38 - 1)))) - 1))) ?_
  refine KT.pv 42 (.int .i64 (w64 ((w64 (1 + (w64 (Int.tdiv x32 8)))) * (w64 ((w64 (x36 * (w64 (x38 - 1)))) - 1))))) ?_
  refine KT.pv 43 (.bool (decide ((w64 ((w64 (1 + (w64 (Int.tdiv x32 8)))) * (w64 ((w64 (x36 * (w64 (x38 - 1)))) - 1)))) ≥ 8))) ?_
  refine KT.pv 2 (.bool (decide ((w64 ((w64 (1 + (w64 (Int.tdiv x32 8)))) * (w64 ((w64 (x36 * (w64 (x38 - 1)))) - 1)))) ≥ 8))) ?_
  refine KT.nil ?_
  refine SX.seq ?_
  refine SC.ret ?_
  refine SX.ret [.tmp 2] rfl ?_
  refine RS.tmp (.bool (decide ((w64 ((w64 (1 + (w64 (Int.tdiv x32 8)))) * (w64 ((w64 (x36 * (w64 (x38 - 1)))) - 1)))) ≥ 8))) rfl ?_
  exact RS.nil rfl
  refine KT.ite (b := r4) 26 rfl ?_ ?_
  refine KT.sk ?_
  refine KT.sk ?_
  refine KT.sk ?_
  refine KT.pv 30 (.bool true) ?_
  exact KT.leafO j5 (.cons rfl (.cons rfl (.nil)))
  refine KT.pv 27 (.pointer (some (Addr.add x1 2))) ?_
  refine KT.l 28 (fun x28 => ?_)
  refine KT.pv 29 (.bool (decide (x28 > 64))) ?_
  refine KT.pv 30 (.bool (decide (x28 > 64))) ?_
  exact KT.leafO j5 (.cons rfl (.cons rfl (.nil)))
  refine KT.ite (b := r3) 21 rfl ?_ ?_
  refine KT.sk ?_
  refine KT.sk ?_
  refine KT.sk ?_
  refine KT.pv 25 (.bool true) ?_
  exact KT.leafO j4 (.cons rfl (.cons rfl (.nil)))
  refine KT.pv 22 (.pointer (some (Addr.add x1 2))) ?_
  refine KT.l 23 (fun x23 => ?_)
  refine KT.pv 24 (.bool (decide (x23 < 12))) ?_
  refine KT.pv 25 (.bool (decide (x23 < 12))) ?_
  exact KT.leafO j4 (.cons rfl (.cons rfl (.nil)))
  refine KT.ite (b := r2) 16 rfl ?_ ?_
  refine KT.sk ?_
  refine KT.sk ?_
  refine KT.sk ?_
  refine KT.pv 20 (.bool true) ?_
  exact KT.leafO j3 (.cons rfl (.cons rfl (.nil)))
  refine KT.pv 17 (.pointer (some (Addr.add x1 1))) ?_
  refine KT.l 18 (fun x18 => ?_)
  refine KT.pv 19 (.bool (decide (x18 > 4))) ?_
  refine KT.pv 20 (.bool (decide (x18 > 4))) ?_
  exact KT.leafO j3 (.cons rfl (.cons rfl (.nil)))
  refine KT.ite (b := r1) 11 rfl ?_ ?_
  refine KT.sk ?_
  refine KT.sk ?_
  refine KT.sk ?_
  refine KT.pv 15 (.bool true) ?_
  exact KT.leafO j2 (.cons rfl (.cons rfl (.nil)))
  refine KT.pv 12 (.pointer (some (Addr.add x1 1))) ?_
  refine KT.l 13 (fun x13 => ?_)
  refine KT.pv 14 (.bool (decide (x13 < 1))) ?_
  refine KT.pv 15 (.bool (decide (x13 < 1))) ?_
  exact KT.leafO j2 (.cons rfl (.cons rfl (.nil)))
  refine KT.ite (b := decide (x4 < 3)) 6 rfl ?_ ?_
  refine KT.sk ?_
  refine KT.sk ?_
  refine KT.sk ?_
  refine KT.pv 10 (.bool true) ?_
  exact KT.leafO j1 (.cons rfl (.cons rfl (.nil)))
  refine KT.pv 7 (.pointer (some x1)) ?_
  refine KT.l 8 (fun x8 => ?_)
  refine KT.pv 9 (.bool (decide (x8 > 16))) ?_
  refine KT.pv 10 (.bool (decide (x8 > 16))) ?_
  exact KT.leafO j1 (.cons rfl (.cons rfl (.nil)))
set_option maxRecDepth 100000 in
theorem ref03_Sectors_sim (p0_g : (Int × Int × Int)) (Qf : Int → World → Prop) (w : World) (hm : ref03_Sectors p0_g Qf w) : Calls Try.prog 67 #[(.agg #[(.int .i64 p0_g.1), (.int .i64 p0_g.2.1), (.int .i64 p0_g.2.2)])] w (RetPost (Value.int .i64) Qf) := by
  refine calls_of (fn := Try.f67) (l := [(.agg #[(.int .i64 p0_g.1), (.int .i64 p0_g.2.1), (.int .i64 p0_g.2.2)])]) (m := ref03_Sectors p0_g) 12 (by kernel_rfl) rfl rfl rfl (fun Qf0 => ?_) Qf w hm
  clear hm w Qf
  unfold ref03_Sectors
  refine SC.seq ?_
  refine SC.region' ?_
  refine KT.nw 1 (fun ad => .pointer (some ad)) 23 (fun x1 => ?_)
  refine KT.pv 2 (.int .i64 0) ?_
  refine KT.nil ?_
  refine SX.seq ?_
  refine SC.seq ?_
  refine SC.seq ?_
  refine SC.region' ?_
  refine KT.ow rfl (OW.ldA (d := 3) (enc := (fun y : (Int × Int × Int) => [(.int .i64 y.1), (.int .i64 y.2.1), (.int .i64 y.2.2)])) 3 _ _ rfl rfl (by kernel_rfl) (by kernel_rfl) (fun _ => rfl) rfl rfl (fun x3 => ?_))
  refine KT.cl Value.bool 4 66 #[(.agg #[(.int .i64 x3.1), (.int .i64 x3.2.1), (.int .i64 x3.2.2)])] (ref03_Right_sim (x3.1, x3.2.1, x3.2.2)) (fun x4 => ?_)
  refine KT.pv 5 (.bool (!x4)) ?_
  refine KT.nil ?_
  refine SX.seq ?_
  refine SC.cond (b := !x4) rfl ?_ ?_
  refine SC.seq ?_
  refine SC.region' ?_
  refine KT.pv 2 (.int .i64 0) ?_
  refine KT.nil ?_
  refine SX.seq ?_
  refine SC.ret ?_
  refine SX.then_ret ?_
  refine SX.ret [.tmp 2] rfl ?_
  refine RS.tmp (.int .i64 0) rfl ?_
  exact RS.nil rfl
  refine SC.skip ?_
  refine SX.seq ?_
  refine SC.seq ?_
  refine SC.region' ?_
  refine KT.pv 6 (.pointer (some (Addr.add x1 2))) ?_
  refine KT.l 7 (fun x7 => ?_)
  refine KT.pv 8 (.pointer (some (Addr.add x1 1))) ?_
  refine KT.l 9 (fun x9 => ?_)
  refine KT.pv 10 (.int .i64 (w64 (x7 * x9))) ?_
  refine KT.pv 11 (.int .i64 (w64 (5 + (w64 (x7 * x9))))) ?_
  refine KT.pv 2 (.int .i64 (w64 (5 + (w64 (x7 * x9))))) ?_
  refine KT.nil ?_
  refine SX.seq ?_
  refine SC.ret ?_
  refine SX.ret [.tmp 2] rfl ?_
  refine RS.tmp (.int .i64 (w64 (5 + (w64 (x7 * x9))))) rfl ?_
  exact RS.nil rfl
set_option maxRecDepth 100000 in
theorem ref06_Fits_sim (p0_g : (Int × Int × Int)) (p1_m : (Int × Int × Int)) (Qf : Bool → World → Prop) (w : World) (hm : ref06_Fits p0_g p1_m Qf w) : Calls Try.prog 68 #[(.agg #[(.int .i64 p0_g.1), (.int .i64 p0_g.2.1), (.int .i64 p0_g.2.2)]), (.agg #[(.int .i64 p1_m.1), (.int .i64 p1_m.2.1), (.int .i64 p1_m.2.2)])] w (RetPost Value.bool Qf) := by
  refine calls_of (fn := Try.f68) (l := [(.agg #[(.int .i64 p0_g.1), (.int .i64 p0_g.2.1), (.int .i64 p0_g.2.2)]), (.agg #[(.int .i64 p1_m.1), (.int .i64 p1_m.2.1), (.int .i64 p1_m.2.2)])]) (m := ref06_Fits p0_g p1_m) 30 (by kernel_rfl) rfl rfl rfl (fun Qf0 => ?_) Qf w hm
  clear hm w Qf
  unfold ref06_Fits
  refine SC.seq ?_
  refine SC.region' ?_
  refine KT.nw 2 (fun ad => .pointer (some ad)) 23 (fun x2 => ?_)
  refine KT.nw 3 (fun ad => .pointer (some ad)) 25 (fun x3 => ?_)
  refine KT.pv 4 (.bool false) ?_
  refine KT.nil ?_
  refine SX.seq ?_
  refine SC.seq ?_
  refine SC.region' ?_
  refine KT.pv 5 (.pointer (some (Addr.add x3 2))) ?_
  refine KT.l 6 (fun x6 => ?_)
  refine KT.pv 7 (.bool (decide (x6 ≥ 0))) ?_
  refine KT.pv 8 (.bool (decide (x6 ≥ 0))) ?_
  refine KT.joinO (β := Bool) 4 (fun r1 => [(12, (.bool r1)), (2, (.pointer (some x2))), (3, (.pointer (some x3)))]) (fun r1 => ?_) (fun j1 => ?_)
  refine KT.pv 13 (.bool r1) ?_
  refine KT.joinO (β := Bool) 16 (fun r2 => [(29, (.bool r2))]) (fun r2 => ?_) (fun j2 => ?_)
  refine KT.pv 4 (.bool r2) ?_
  refine KT.nil ?_
  refine SX.seq ?_
  refine SC.ret ?_
  refine SX.ret [.tmp 4] rfl ?_
  refine RS.tmp (.bool r2) rfl ?_
  exact RS.nil rfl
  refine KT.ite (b := r1) 13 rfl ?_ ?_
  refine KT.pv 14 (.pointer (some (Addr.add x3 2))) ?_
  refine KT.l 15 (fun x15 => ?_)
  refine KT.pv 16 (.bool (x15 == 0)) ?_
  refine KT.pv 17 (.bool (x15 == 0)) ?_
  refine KT.joinO (β := Bool) 11 (fun r3 => [(28, (.bool r3)), (13, (.bool true))]) (fun r3 => ?_) (fun j3 => ?_)
  refine KT.pv 29 (.bool r3) ?_
  exact KT.leafO j2 (.cons rfl (.nil))
  refine KT.ite (b := x15 == 0) 17 rfl ?_ ?_
  refine KT.sk ?_
  refine KT.sk ?_
  refine KT.sk ?_
  refine KT.sk ?_
  refine KT.sk ?_
  refine KT.sk ?_
  refine KT.sk ?_
  refine KT.sk ?_
  refine KT.sk ?_
  refine KT.sk ?_
  refine KT.pv 28 (.bool true) ?_
  exact KT.leafO j3 (.cons rfl (.cons rfl (.nil)))
  refine KT.pv 18 (.pointer (some (Addr.add x3 1))) ?_
  refine KT.l 19 (fun x19 => ?_)
  refine KT.pv 20 (.bool (decide (x19 ≥ 0))) ?_
  refine KT.pv 21 (.bool (decide (x19 ≥ 0))) ?_
  refine KT.joinO (β := Bool) 6 (fun r4 => [(27, (.bool r4)), (13, (.bool true)), (17, (.bool false))]) (fun r4 => ?_) (fun j4 => ?_)
  refine KT.pv 28 (.bool r4) ?_
  exact KT.leafO j3 (.cons rfl (.cons rfl (.nil)))
  refine KT.ite (b := decide (x19 ≥ 0)) 21 rfl ?_ ?_
  refine KT.pv 22 (.pointer (some (Addr.add x3 1))) ?_
  refine KT.l 23 (fun x23 => ?_)
  refine KT.pv 24 (.pointer (some x2)) ?_
  refine KT.l 25 (fun x25 => ?_)
  refine KT.pv 26 (.bool (decide (x23 < x25))) ?_
  refine KT.pv 27 (.bool (decide (x23 < x25))) ?_
  exact KT.leafO j4 (.cons rfl (.cons rfl (.cons rfl (.nil))))
  refine KT.sk ?_
  refine KT.sk ?_
  refine KT.sk ?_
  refine KT.sk ?_
  refine KT.sk ?_
  refine KT.pv 27 (.bool false) ?_
  exact KT.leafO j4 (.cons rfl (.cons rfl (.cons rfl (.nil))))
  refine KT.sk ?_
  refine KT.sk ?_
  refine KT.sk ?_
  refine KT.sk ?_
  refine KT.sk ?_
  refine KT.sk ?_
  refine KT.sk ?_
  refine KT.sk ?_
  refine KT.sk ?_
  refine KT.sk ?_
  refine KT.sk ?_
  refine KT.sk ?_
  refine KT.sk ?_
  refine KT.sk ?_
  refine KT.sk ?_
  refine KT.pv 29 (.bool false) ?_
  exact KT.leafO j2 (.cons rfl (.nil))
  refine KT.ite (b := decide (x6 ≥ 0)) 8 rfl ?_ ?_
  refine KT.pv 9 (.pointer (some (Addr.add x3 2))) ?_
  refine KT.l 10 (fun x10 => ?_)
  refine KT.pv 11 (.bool (decide (x10 ≤ 2))) ?_
  refine KT.pv 12 (.bool (decide (x10 ≤ 2))) ?_
  exact KT.leafO j1 (.cons rfl (.cons rfl (.cons rfl (.nil))))
  refine KT.sk ?_
  refine KT.sk ?_
  refine KT.sk ?_
  refine KT.pv 12 (.bool false) ?_
  exact KT.leafO j1 (.cons rfl (.cons rfl (.cons rfl (.nil))))
set_option maxRecDepth 100000 in
theorem ref06_Open_sim (p0_r : (Option Addr)) (p1_g : (Int × Int × Int)) (p2_m : (Int × Int × Int)) (Qf : ((Option Addr) × Int) → World → Prop) (w : World) (hm : ref06_Open p0_r p1_g p2_m Qf w) : Calls Try.prog 24 #[(.pointer p0_r), (.agg #[(.int .i64 p1_g.1), (.int .i64 p1_g.2.1), (.int .i64 p1_g.2.2)]), (.agg #[(.int .i64 p2_m.1), (.int .i64 p2_m.2.1), (.int .i64 p2_m.2.2)])] w (RetPost (fun y : ((Option Addr) × Int) => (.tuple #[(.pointer y.1), (.int .i64 y.2)])) Qf) := by
  refine calls_of (fn := Try.f24) (l := [(.pointer p0_r), (.agg #[(.int .i64 p1_g.1), (.int .i64 p1_g.2.1), (.int .i64 p1_g.2.2)]), (.agg #[(.int .i64 p2_m.1), (.int .i64 p2_m.2.1), (.int .i64 p2_m.2.2)])]) (m := ref06_Open p0_r p1_g p2_m) 41 (by kernel_rfl) rfl rfl rfl (fun Qf0 => ?_) Qf w hm
  clear hm w Qf
  unfold ref06_Open
  refine SC.seq ?_
  refine SC.region' ?_
  refine KT.nw 4 (fun ad => .pointer (some ad)) 23 (fun x4 => ?_)
  refine KT.nw 5 (fun ad => .pointer (some ad)) 25 (fun x5 => ?_)
  refine KT.pv 6 (.pointer none) ?_
  refine KT.pv 7 (.int .i64 0) ?_
  refine KT.nil ?_
  refine SX.seq ?_
  refine SC.seq ?_
  refine SC.seq ?_
  refine SC.join (β := (Bool)) (fun b1 => [(0, (.pointer p0_r)), (4, (.pointer (some x4))), (5, (.pointer (some x5))), (35, (.bool b1))]) (fun b1 => ?_) (fun j1 => ?_)
  refine SX.seq ?_
  refine SC.cond (b := b1) rfl ?_ ?_
  refine SC.seq ?_
  refine SC.region' ?_
  refine KT.pv 6 (.pointer none) ?_
  refine KT.pv 7 (.int .i64 10) ?_
  refine KT.nil ?_
  refine SX.seq ?_
  refine SC.ret ?_
  refine SX.then_ret ?_
  refine SX.ret [.tmp 6, .tmp 7] rfl ?_
  refine RS.tmp (.pointer none) rfl ?_
  refine RS.tmp (.int .i64 10) rfl ?_
  exact RS.nil rfl
  refine SC.skip ?_
  refine SX.seq ?_
  refine SC.seq ?_
  refine SC.region' ?_
  refine KT.pv 36 (.pointer p0_r) ?_
  refine KT.ow rfl (OW.ldA (d := 37) (enc := (fun y : (Int × Int × Int) => [(.int .i64 y.1), (.int .i64 y.2.1), (.int .i64 y.2.2)])) 3 _ _ rfl rfl (by kernel_rfl) (by kernel_rfl) (fun _ => rfl) rfl rfl (fun x37 => ?_))
  refine KT.ow rfl (OW.ldA (d := 38) (enc := (fun y : (Int × Int × Int) => [(.int .i64 y.1), (.int .i64 y.2.1), (.int .i64 y.2.2)])) 3 _ _ rfl rfl (by kernel_rfl) (by kernel_rfl) (fun _ => rfl) rfl rfl (fun x38 => ?_))
  refine KT.pv 39 (.agg #[(.pointer p0_r), (.int .i64 x37.1), (.int .i64 x37.2.1), (.int .i64 x37.2.2), (.int .i64 x38.1), (.int .i64 x38.2.1), (.int .i64 x38.2.2)]) ?_
  refine KT.nw 40 (fun ad => .pointer (some ad)) 120 (fun x40 => ?_)
  refine KT.pv 6 (.pointer (some x40)) ?_
  refine KT.pv 7 (.int .i64 0) ?_
  refine KT.nil ?_
  refine SX.seq ?_
  refine SC.ret ?_
  refine SX.ret [.tmp 6, .tmp 7] rfl ?_
  refine RS.tmp (.pointer (some x40)) rfl ?_
  refine RS.tmp (.int .i64 0) rfl ?_
  exact RS.nil rfl
  refine SC.draw 28 (fun _ => false) rfl (by kernel_rfl) (fun S2 => ?_)
  refine KT.tk 0 (OY.ldAI (d := 8) (enc := (fun y : (Int × Int × Int) => [(.int .i64 y.1), (.int .i64 y.2.1), (.int .i64 y.2.2)])) 3 _ _ rfl rfl (by kernel_rfl) (by kernel_rfl) (fun _ => rfl) rfl rfl (fun x8 => ?_))
  refine KT.one 1 rfl (by kernel_rfl) rfl (OW.step (OW.call (d := 9) (enc := Value.bool) 66 #[(.agg #[(.int .i64 x8.1), (.int .i64 x8.2.1), (.int .i64 x8.2.2)])] rfl (fun _ => by kernel_rfl) (fun Qf w => ref03_Right_sim (x8.1, x8.2.1, x8.2.2) Qf w) rfl rfl (fun x9 => ?_)))
  refine KT.and ?_
  refine KT.pvA 2 10 (.bool (!x9)) ?_
  refine KT.pvA 3 11 (.bool (!x9)) ?_
  refine KT.ite (b := !x9) 11 rfl ?_ ?_
  refine KT.skA 4 ?_
  refine KT.skA 5 ?_
  refine KT.skA 6 ?_
  refine KT.skA 7 ?_
  refine KT.skA 8 ?_
  refine KT.skA 9 ?_
  refine KT.skA 10 ?_
  refine KT.skA 11 ?_
  refine KT.pvA 12 20 (.bool true) ?_
  refine KT.pvA 13 21 (.bool true) ?_
  refine KT.skA 14 ?_
  refine KT.skA 15 ?_
  refine KT.skA 16 ?_
  refine KT.skA 17 ?_
  refine KT.skA 18 ?_
  refine KT.skA 19 ?_
  refine KT.skA 20 ?_
  refine KT.pvA 21 29 (.bool true) ?_
  refine KT.pvA 22 30 (.bool true) ?_
  refine KT.skA 23 ?_
  refine KT.skA 24 ?_
  refine KT.skA 25 ?_
  refine KT.skA 26 ?_
  refine KT.pvA 27 35 (.bool true) ?_
  refine KT.doneA (by kernel_rfl) ?_
  refine SX.sub (T' := [(0, (.pointer p0_r)), (4, (.pointer (some x4))), (5, (.pointer (some x5))), (35, (.bool true))]) (.cons rfl (.cons rfl (.cons rfl (.cons rfl (.nil))))) ?_
  exact SX.leafS j1 (.cons rfl (.cons rfl (.cons rfl (.cons rfl (.nil)))))
  refine KT.pvA 4 12 (.pointer p0_r) ?_
  refine KT.tp 5 (OY.nil (d := 13) (p := p0_r) _ rfl rfl rfl rfl (fun x13 => ?_))
  refine KT.pvA 6 14 (.pointer (some x13)) ?_
  refine KT.tk 7 (OY.ldI (d := 15) _ _ rfl rfl (by kernel_rfl) rfl rfl (fun x15 => ?_))
  refine KT.pvA 8 16 (.pointer (some x4)) ?_
  refine KT.tk 9 (OY.ldI (d := 17) _ _ rfl rfl (by kernel_rfl) rfl rfl (fun x17 => ?_))
  refine KT.pvA 10 18 (.int .i64 (w64 (x17 + 1))) ?_
  refine KT.pvA 11 19 (.bool (x15 != (w64 (x17 + 1)))) ?_
  refine KT.pvA 12 20 (.bool (x15 != (w64 (x17 + 1)))) ?_
  refine KT.pvA 13 21 (.bool (x15 != (w64 (x17 + 1)))) ?_
  refine KT.ite (b := x15 != (w64 (x17 + 1))) 21 rfl ?_ ?_
  refine KT.skA 14 ?_
  refine KT.skA 15 ?_
  refine KT.skA 16 ?_
  refine KT.skA 17 ?_
  refine KT.skA 18 ?_
  refine KT.skA 19 ?_
  refine KT.skA 20 ?_
  refine KT.pvA 21 29 (.bool true) ?_
  refine KT.pvA 22 30 (.bool true) ?_
  refine KT.skA 23 ?_
  refine KT.skA 24 ?_
  refine KT.skA 25 ?_
  refine KT.skA 26 ?_
  refine KT.pvA 27 35 (.bool true) ?_
  refine KT.doneA (by kernel_rfl) ?_
  refine SX.sub (T' := [(0, (.pointer p0_r)), (4, (.pointer (some x4))), (5, (.pointer (some x5))), (35, (.bool true))]) (.cons rfl (.cons rfl (.cons rfl (.cons rfl (.nil))))) ?_
  exact SX.leafS j1 (.cons rfl (.cons rfl (.cons rfl (.cons rfl (.nil)))))
  refine KT.pvA 14 22 (.pointer p0_r) ?_
  refine KT.tp 15 (OY.nil (d := 23) (p := p0_r) _ rfl rfl rfl rfl (fun x23 => ?_))
  refine KT.pvA 16 24 (.pointer (some (Addr.add x23 1))) ?_
  refine KT.tk 17 (OY.ldI (d := 25) _ _ rfl rfl (by kernel_rfl) rfl rfl (fun x25 => ?_))
  refine KT.tk 18 (OY.ldAI (d := 26) (enc := (fun y : (Int × Int × Int) => [(.int .i64 y.1), (.int .i64 y.2.1), (.int .i64 y.2.2)])) 3 _ _ rfl rfl (by kernel_rfl) (by kernel_rfl) (fun _ => rfl) rfl rfl (fun x26 => ?_))
  refine KT.one 19 rfl (by kernel_rfl) rfl (OW.step (OW.call (d := 27) (enc := (Value.int .i64)) 67 #[(.agg #[(.int .i64 x26.1), (.int .i64 x26.2.1), (.int .i64 x26.2.2)])] rfl (fun _ => by kernel_rfl) (fun Qf w => ref03_Sectors_sim (x26.1, x26.2.1, x26.2.2) Qf w) rfl rfl (fun x27 => ?_)))
  refine KT.and ?_
  refine KT.pvA 20 28 (.bool (x25 != x27)) ?_
  refine KT.pvA 21 29 (.bool (x25 != x27)) ?_
  refine KT.pvA 22 30 (.bool (x25 != x27)) ?_
  refine KT.ite (b := x25 != x27) 30 rfl ?_ ?_
  refine KT.skA 23 ?_
  refine KT.skA 24 ?_
  refine KT.skA 25 ?_
  refine KT.skA 26 ?_
  refine KT.pvA 27 35 (.bool true) ?_
  refine KT.doneA (by kernel_rfl) ?_
  refine SX.sub (T' := [(0, (.pointer p0_r)), (4, (.pointer (some x4))), (5, (.pointer (some x5))), (35, (.bool true))]) (.cons rfl (.cons rfl (.cons rfl (.cons rfl (.nil))))) ?_
  exact SX.leafS j1 (.cons rfl (.cons rfl (.cons rfl (.cons rfl (.nil)))))
  refine KT.tk 23 (OY.ldAI (d := 31) (enc := (fun y : (Int × Int × Int) => [(.int .i64 y.1), (.int .i64 y.2.1), (.int .i64 y.2.2)])) 3 _ _ rfl rfl (by kernel_rfl) (by kernel_rfl) (fun _ => rfl) rfl rfl (fun x31 => ?_))
  refine KT.tk 24 (OY.ldAI (d := 32) (enc := (fun y : (Int × Int × Int) => [(.int .i64 y.1), (.int .i64 y.2.1), (.int .i64 y.2.2)])) 3 _ _ rfl rfl (by kernel_rfl) (by kernel_rfl) (fun _ => rfl) rfl rfl (fun x32 => ?_))
  refine KT.one 25 rfl (by kernel_rfl) rfl (OW.step (OW.call (d := 33) (enc := Value.bool) 68 #[(.agg #[(.int .i64 x31.1), (.int .i64 x31.2.1), (.int .i64 x31.2.2)]), (.agg #[(.int .i64 x32.1), (.int .i64 x32.2.1), (.int .i64 x32.2.2)])] rfl (fun _ => by kernel_rfl) (fun Qf w => ref06_Fits_sim (x31.1, x31.2.1, x31.2.2) (x32.1, x32.2.1, x32.2.2) Qf w) rfl rfl (fun x33 => ?_)))
  refine KT.and ?_
  refine KT.pvA 26 34 (.bool (!x33)) ?_
  refine KT.pvA 27 35 (.bool (!x33)) ?_
  refine KT.doneA (by kernel_rfl) ?_
  refine SX.sub (T' := [(0, (.pointer p0_r)), (4, (.pointer (some x4))), (5, (.pointer (some x5))), (35, (.bool (!x33)))]) (.cons rfl (.cons rfl (.cons rfl (.cons rfl (.nil))))) ?_
  exact SX.leafS j1 (.cons rfl (.cons rfl (.cons rfl (.cons rfl (.nil)))))
set_option maxRecDepth 100000 in
theorem bank_Bank_disks_sim (p0_b : (Option Addr)) (p1_yield : Value) (Qf : Unit → World → Prop) (w : World) (hm : bank_Bank_disks (cvOf Try.prog) p0_b p1_yield Qf w) : Calls Try.prog 69 #[(.pointer p0_b), p1_yield] w (RetPost (fun y : Unit => (.tuple #[])) Qf) := by
  refine calls_of (fn := Try.f69) (l := [(.pointer p0_b), p1_yield]) (m := bank_Bank_disks (cvOf Try.prog) p0_b p1_yield) 39 (by kernel_rfl) rfl rfl rfl (fun Qf0 => ?_) Qf w hm
  clear hm w Qf
  unfold bank_Bank_disks
  refine SC.seq ?_
  refine SC.seq ?_
  refine SC.region' ?_
  refine KT.pv 7 (.pointer p0_b) ?_
  refine KT.nm 8 (fun x8 => ?_)
  refine KT.pv 9 (.pointer (some (Addr.add x8 1))) ?_
  refine KT.pv 10 (.pointer (some (Addr.add x8 1))) ?_
  refine KT.l 11 (fun x11 => ?_)
  refine KT.pv 12 (.int .i64 0) ?_
  refine KT.nil ?_
  refine SX.seq ?_
  refine SC.block ?_
  refine SC.loop (σ := (Int)) (fun s1 => [(0, (.pointer p0_b)), (1, p1_yield), (11, (.int .i64 x11)), (12, (.int .i64 s1))]) (.cons rfl (.cons rfl (.cons rfl (.cons rfl (.nil))))) (fun _ _ _ s1 => ?_)
  refine SC.seq ?_
  refine SC.region' ?_
  refine KT.pv 13 (.bool (decide (s1 < x11))) ?_
  refine KT.nil ?_
  refine SX.seq ?_
  refine SC.seq ?_
  refine SC.cond (b := decide (s1 < x11)) rfl ?_ ?_
  refine SC.skip ?_
  refine SX.seq ?_
  refine SC.seq ?_
  refine SC.block ?_
  refine SC.seq ?_
  refine SC.region' ?_
  refine KT.pv 14 (.int .i64 s1) ?_
  refine KT.pv 4 (.int .i64 s1) ?_
  refine KT.nil ?_
  refine SX.seq ?_
  refine SC.seq ?_
  refine SC.region' ?_
  refine KT.pv 16 (.pointer p0_b) ?_
  refine KT.pv 17 (.int .i64 s1) ?_
  refine KT.cl (fun y : (Int × Bool) => (.tuple #[(.int .i64 y.1), (.bool y.2)])) 18 72 #[(.pointer p0_b), (.int .i64 s1)] (bank_Bank_disk_sim p0_b s1) (fun x18 => ?_)
  refine KT.pv 15 (.tuple #[(.int .i64 x18.1), (.bool x18.2)]) ?_
  refine KT.pv 19 (.int .i64 x18.1) ?_
  refine KT.pv 20 (.bool x18.2) ?_
  refine KT.pv 5 (.int .i64 x18.1) ?_
  refine KT.pv 6 (.bool x18.2) ?_
  refine KT.nil ?_
  refine SX.seq ?_
  refine SC.seq ?_
  refine SC.region' ?_
  refine KT.pv 21 p1_yield ?_
  refine KT.pv 22 (.int .i64 x18.1) ?_
  refine KT.ow rfl (OW.callv (d := 23) (enc := Value.bool) (vs := [(.int .i64 x18.1)]) _ [.tmp 22] _ rfl rfl rfl rfl rfl (fun x23 => ?_))
  refine KT.pv 24 (.bool (!x23)) ?_
  refine KT.nil ?_
  refine SX.seq ?_
  refine SC.cond (b := !x23) rfl ?_ ?_
  refine SC.ret ?_
  refine SX.block_ret ?_
  refine SX.then_ret ?_
  refine SX.loop_ret ?_
  refine SX.block_ret ?_
  refine SX.then_ret ?_
  refine SX.ret [] rfl ?_
  exact RS.nil rfl
  refine SC.skip ?_
  refine SX.block ?_
  refine SX.seq ?_
  refine SC.region' ?_
  refine KT.pv 25 (.int .i64 (w64 (s1 + 1))) ?_
  refine KT.pv 12 (.int .i64 (w64 (s1 + 1))) ?_
  refine KT.nil ?_
  exact SX.loop_next (.cons rfl (.cons rfl (.cons rfl (.cons rfl (.nil)))))
  refine SC.exit ?_
  refine SX.then_exit ?_
  refine SX.loop_exit ?_
  refine SX.block_hit ?_
  refine SX.seq ?_
  refine SC.seq ?_
  refine SC.region' ?_
  refine KT.pv 26 (.pointer p0_b) ?_
  refine KT.nm 27 (fun x27 => ?_)
  refine KT.pv 28 (.pointer (some (Addr.add x27 4))) ?_
  refine KT.pv 29 (.pointer (some (Addr.add (Addr.add x27 4) 2))) ?_
  refine KT.l 30 (fun x30 => ?_)
  refine KT.pv 31 (.bool (x30 == 0)) ?_
  refine KT.nil ?_
  refine SX.seq ?_
  refine SC.cond (b := x30 == 0) rfl ?_ ?_
  refine SC.region' ?_
  refine KT.pv 32 p1_yield ?_
  refine KT.pv 33 (.pointer p0_b) ?_
  refine KT.nm 34 (fun x34 => ?_)
  refine KT.pv 35 (.pointer (some (Addr.add x34 1))) ?_
  refine KT.pv 36 (.pointer (some (Addr.add x34 1))) ?_
  refine KT.l 37 (fun x37 => ?_)
  refine KT.ow rfl (OW.callv (d := 38) (enc := Value.bool) (vs := [(.int .i64 x37)]) _ [.tmp 37] _ rfl rfl rfl rfl rfl (fun x38 => ?_))
  refine KT.nil ?_
  refine SX.endBody [] rfl ?_
  exact RS.nil rfl
  refine SC.skip ?_
  refine SX.endBody [] rfl ?_
  exact RS.nil rfl
set_option maxRecDepth 100000 in
theorem bank_Bank_Everywhere_sim (p0_b : (Option Addr)) (p1_sector : Int) (p2_data : Slc) (Qf : Int → World → Prop) (w : World) (hm : bank_Bank_Everywhere (cvOf Try.prog) p0_b p1_sector p2_data Qf w) : Calls Try.prog 27 #[(.pointer p0_b), (.int .i64 p1_sector), (.slice p2_data.base p2_data.len p2_data.cap)] w (RetPost (Value.int .i64) Qf) := by
  refine calls_of (fn := Try.f27) (l := [(.pointer p0_b), (.int .i64 p1_sector), (.slice p2_data.base p2_data.len p2_data.cap)]) (m := bank_Bank_Everywhere (cvOf Try.prog) p0_b p1_sector p2_data) 29 (by kernel_rfl) rfl rfl rfl (fun Qf0 => ?_) Qf w hm
  clear hm w Qf
  unfold bank_Bank_Everywhere
  refine SC.seq ?_
  refine SC.region' ?_
  refine KT.nw 3 (fun ad => .pointer (some ad)) 38 (fun x3 => ?_)
  refine KT.nw 4 (fun ad => .pointer (some ad)) 3 (fun x4 => ?_)
  refine KT.nw 5 (fun ad => .pointer (some ad)) 46 (fun x5 => ?_)
  refine KT.nw 6 (fun ad => .pointer (some ad)) 28 (fun x6 => ?_)
  refine KT.nil ?_
  refine SX.seq ?_
  refine SC.seq ?_
  refine SC.region' ?_
  refine KT.nw 7 (fun ad => .pointer (some ad)) 28 (fun x7 => ?_)
  refine KT.s ?_
  refine KT.nil ?_
  refine SX.seq ?_
  refine SC.seq ?_
  refine SC.seq ?_
  refine SC.region' ?_
  refine KT.l 10 (fun x10 => ?_)
  refine KT.pv 11 (.func (.func fid_bank_Bank_disks) #[(.pointer x10)] #[]) ?_
  refine KT.nil ?_
  refine SX.seq ?_
  refine SC.block ?_
  refine SC.rangeF (ξ := (Int)) (τ := (Int)) (fv := (.func (.func fid_bank_Bank_disks) #[(.pointer x10)] #[])) (ps := [12]) (encX := (fun x_1 : (Int) => [(.int .i64 x_1)])) (fun t_1 => [(3, (.pointer (some x3))), (4, (.pointer (some x4))), (5, (.pointer (some x5))), (6, (.pointer (some x6))), (7, (.pointer (some x7))), (8, (.int .i64 t_1))]) rfl (fun _ => rfl) rfl (fun _ x_1 _ _ h1 => ?_) (fun _ _ _ t_1 => ?_) (fun D1 => ?_) (fun D1 => ?_) (fun D1 i1 => ?_)
  refine SC.region' ?_
  refine KT.pv 8 (.int .i64 x_1) ?_
  refine KT.nil ?_
  exact SX.leafP h1 (.cons rfl (.cons rfl (.cons rfl (.cons rfl (.cons rfl (.cons rfl (.nil)))))))
  refine SC.block ?_
  refine SC.seq ?_
  refine SC.draw 9 (fun _ => false) rfl (by kernel_rfl) (fun S2 => ?_)
  refine KT.tk 0 (OY.ldI (d := 13) _ _ rfl rfl (by kernel_rfl) rfl rfl (fun x13 => ?_))
  refine KT.tp 1 (OY.nil (d := 14) (p := x13) _ rfl rfl rfl rfl (fun x14 => ?_))
  refine KT.pvA 2 15 (.pointer (some x14)) ?_
  refine KT.tk 3 (OY.ldI (d := 16) _ _ rfl rfl (by kernel_rfl) rfl rfl (fun x16 => ?_))
  refine KT.pvA 4 17 (.int .i64 t_1) ?_
  refine KT.tk 5 (OY.ldI (d := 18) _ _ rfl rfl (by kernel_rfl) rfl rfl (fun x18 => ?_))
  refine KT.tk 6 (OY.ldI (d := 19) _ _ rfl rfl (by kernel_rfl) rfl rfl (fun x19 => ?_))
  refine KT.one 7 rfl (by kernel_rfl) rfl (OW.step (OW.call (d := 20) (enc := (Value.int .i64)) 39 #[(.pointer x16), (.int .i64 t_1), (.int .i64 x18), (.slice x19.base x19.len x19.cap)] rfl (fun _ => by kernel_rfl) (fun Qf w => device_Rack_Write_sim x16 t_1 x18 x19 Qf w) rfl rfl (fun x20 => ?_)))
  refine KT.and ?_
  refine KT.pvA 8 9 (.int .i64 x20) ?_
  refine KT.doneA (by kernel_rfl) ?_
  refine SX.seq ?_
  refine SC.seq ?_
  refine SC.region' ?_
  refine KT.pv 21 (.int .i64 x20) ?_
  refine KT.nil ?_
  refine SX.seq ?_
  refine SC.block ?_
  refine SC.seq ?_
  refine SC.region' ?_
  refine KT.pv 23 (.bool (x20 == 12)) ?_
  refine KT.pv 22 (.bool (x20 == 12)) ?_
  refine KT.nil ?_
  refine SX.seq ?_
  refine SC.cond (b := x20 == 12) rfl ?_ ?_
  refine SC.seq ?_
  refine SC.region' ?_
  refine KT.pv 24 (.int .i64 x20) ?_
  refine KT.s ?_
  refine KT.nil ?_
  refine SX.seq ?_
  refine SC.ret ?_
  refine SX.block_ret ?_
  refine SX.block_ret ?_
  exact SX.round_ret
  refine SC.seq ?_
  refine SC.region' ?_
  refine KT.pv 26 (.bool (x20 == 11)) ?_
  refine KT.pv 25 (.bool (x20 == 11)) ?_
  refine KT.nil ?_
  refine SX.seq ?_
  refine SC.cond (b := x20 == 11) rfl ?_ ?_
  refine SC.region' ?_
  refine KT.pv 27 (.int .i64 x20) ?_
  refine KT.s ?_
  refine KT.nil ?_
  refine SX.block ?_
  refine SX.block ?_
  exact SX.round_next
  refine SC.skip ?_
  refine SX.block ?_
  refine SX.block ?_
  exact SX.round_next
  refine SX.block ?_
  refine SX.seq ?_
  refine SC.seq ?_
  refine SC.region' ?_
  refine KT.l 28 (fun x28 => ?_)
  refine KT.s ?_
  refine KT.nil ?_
  refine SX.seq ?_
  refine SC.ret ?_
  refine SX.ret [.cell 6 28] rfl ?_
  refine RS.cell rfl (by kernel_rfl) (fun r6 => ?_)
  exact RS.nil rfl
  refine SX.block_ret ?_
  refine SX.then_ret ?_
  refine SX.ret [.cell 6 28] rfl ?_
  refine RS.cell rfl (by kernel_rfl) (fun r6 => ?_)
  exact RS.nil rfl
  exact SX.fail
set_option maxRecDepth 100000 in
theorem bank_Bank_All_sim (p0_b : (Option Addr)) (p1_sector : Int) (Qf : Slc → World → Prop) (w : World) (hm : bank_Bank_All (cvOf Try.prog) p0_b p1_sector Qf w) : Calls Try.prog 28 #[(.pointer p0_b), (.int .i64 p1_sector)] w (RetPost vS Qf) := by
  refine calls_of (fn := Try.f28) (l := [(.pointer p0_b), (.int .i64 p1_sector)]) (m := bank_Bank_All (cvOf Try.prog) p0_b p1_sector) 29 (by kernel_rfl) rfl rfl rfl (fun Qf0 => ?_) Qf w hm
  clear hm w Qf
  unfold bank_Bank_All
  refine SC.seq ?_
  refine SC.region' ?_
  refine KT.nw 2 (fun ad => .pointer (some ad)) 38 (fun x2 => ?_)
  refine KT.nw 3 (fun ad => .pointer (some ad)) 3 (fun x3 => ?_)
  refine KT.pv 4 (.slice none 0 0) ?_
  refine KT.nil ?_
  refine SX.seq ?_
  refine SC.seq ?_
  refine SC.region' ?_
  refine KT.nw 5 (fun ad => .pointer (some ad)) 31 (fun x5 => ?_)
  refine KT.nil ?_
  refine SX.seq ?_
  refine SC.seq ?_
  refine SC.seq ?_
  refine SC.region' ?_
  refine KT.l 9 (fun x9 => ?_)
  refine KT.pv 10 (.func (.func fid_bank_Bank_disks) #[(.pointer x9)] #[]) ?_
  refine KT.nil ?_
  refine SX.seq ?_
  refine SC.block ?_
  refine SC.rangeF (ξ := (Int)) (τ := (Int)) (fv := (.func (.func fid_bank_Bank_disks) #[(.pointer x9)] #[])) (ps := [11]) (encX := (fun x_1 : (Int) => [(.int .i64 x_1)])) (fun t_1 => [(2, (.pointer (some x2))), (3, (.pointer (some x3))), (5, (.pointer (some x5))), (6, (.int .i64 t_1))]) rfl (fun _ => rfl) rfl (fun _ x_1 _ _ h1 => ?_) (fun _ _ _ t_1 => ?_) (fun D1 => ?_) (fun D1 => ?_) (fun D1 i1 => ?_)
  refine SC.region' ?_
  refine KT.pv 6 (.int .i64 x_1) ?_
  refine KT.nil ?_
  exact SX.leafP h1 (.cons rfl (.cons rfl (.cons rfl (.cons rfl (.nil)))))
  refine SC.block ?_
  refine SC.seq ?_
  refine SC.draw 12 (fun _ => false) rfl (by kernel_rfl) (fun S2 => ?_)
  refine KT.tk 0 (OY.ldI (d := 13) _ _ rfl rfl (by kernel_rfl) rfl rfl (fun x13 => ?_))
  refine KT.tp 1 (OY.nil (d := 14) (p := x13) _ rfl rfl rfl rfl (fun x14 => ?_))
  refine KT.pvA 2 15 (.pointer (some x14)) ?_
  refine KT.tk 3 (OY.ldI (d := 16) _ _ rfl rfl (by kernel_rfl) rfl rfl (fun x16 => ?_))
  refine KT.pvA 4 17 (.int .i64 t_1) ?_
  refine KT.tk 5 (OY.ldI (d := 18) _ _ rfl rfl (by kernel_rfl) rfl rfl (fun x18 => ?_))
  refine KT.one 6 rfl (by kernel_rfl) rfl (OW.step (OW.call (d := 19) (enc := (fun y : (Slc × Int) => (.tuple #[(.slice y.1.base y.1.len y.1.cap), (.int .i64 y.2)]))) 29 #[(.pointer x16), (.int .i64 t_1), (.int .i64 x18)] rfl (fun _ => by kernel_rfl) (fun Qf w => device_Rack_Read_sim x16 t_1 x18 Qf w) rfl rfl (fun x19 => ?_)))
  refine KT.and ?_
  refine KT.pvA 7 12 (.tuple #[(.slice x19.1.base x19.1.len x19.1.cap), (.int .i64 x19.2)]) ?_
  refine KT.pvA 8 20 (.slice x19.1.base x19.1.len x19.1.cap) ?_
  refine KT.pvA 9 21 (.int .i64 x19.2) ?_
  refine KT.pvA 10 7 (.slice x19.1.base x19.1.len x19.1.cap) ?_
  refine KT.pvA 11 8 (.int .i64 x19.2) ?_
  refine KT.doneA (by kernel_rfl) ?_
  refine SX.seq ?_
  refine SC.seq ?_
  refine SC.region' ?_
  refine KT.pv 22 (.int .i64 x19.2) ?_
  refine KT.pv 23 (.bool (x19.2 == 0)) ?_
  refine KT.nil ?_
  refine SX.seq ?_
  refine SC.cond (b := x19.2 == 0) rfl ?_ ?_
  refine SC.region' ?_
  refine KT.l 24 (fun x24 => ?_)
  refine KT.pv 25 (.slice x19.1.base x19.1.len x19.1.cap) ?_
  refine KT.nw 26 (fun ad => .slice (some ad) 1 1) 46 (fun x26 => ?_)
  refine KT.ow rfl (OW.append (d := 27) (s := x24) (x := ⟨some x26, 1, 1⟩) [(.slice none 0 0)] 24 46 _ _ _ _ rfl rfl rfl rfl (by kernel_rfl) (by kernel_rfl) rfl rfl rfl (fun x27 => ?_))
  refine KT.s ?_
  refine KT.nil ?_
  refine SX.block ?_
  exact SX.round_next
  refine SC.skip ?_
  refine SX.block ?_
  exact SX.round_next
  refine SX.block ?_
  refine SX.seq ?_
  refine SC.seq ?_
  refine SC.region' ?_
  refine KT.l 28 (fun x28 => ?_)
  refine KT.pv 4 (.slice x28.base x28.len x28.cap) ?_
  refine KT.nil ?_
  refine SX.seq ?_
  refine SC.ret ?_
  refine SX.ret [.tmp 4] rfl ?_
  refine RS.tmp (.slice x28.base x28.len x28.cap) rfl ?_
  exact RS.nil rfl
  exact SX.fail
  exact SX.fail
set_option maxRecDepth 100000 in
theorem ref00_SameBytes_sim (p0_a : Slc) (p1_b : Slc) (Qf : Bool → World → Prop) (w : World) (hm : ref00_SameBytes p0_a p1_b Qf w) : Calls Try.prog 30 #[(.slice p0_a.base p0_a.len p0_a.cap), (.slice p1_b.base p1_b.len p1_b.cap)] w (RetPost Value.bool Qf) := by
  refine calls_of (fn := Try.f30) (l := [(.slice p0_a.base p0_a.len p0_a.cap), (.slice p1_b.base p1_b.len p1_b.cap)]) (m := ref00_SameBytes p0_a p1_b) 26 (by kernel_rfl) rfl rfl rfl (fun Qf0 => ?_) Qf w hm
  clear hm w Qf
  unfold ref00_SameBytes
  refine SC.seq ?_
  refine SC.region' ?_
  refine KT.pv 4 (.bool false) ?_
  refine KT.nil ?_
  refine SX.seq ?_
  refine SC.seq ?_
  refine SC.seq ?_
  refine SC.region' ?_
  refine KT.pv 6 (.slice p0_a.base p0_a.len p0_a.cap) ?_
  refine KT.pv 7 (.int .i64 ((p0_a.len : Nat) : Int)) ?_
  refine KT.pv 8 (.slice p1_b.base p1_b.len p1_b.cap) ?_
  refine KT.pv 9 (.int .i64 ((p1_b.len : Nat) : Int)) ?_
  refine KT.pv 10 (.bool (((p0_a.len : Nat) : Int) != ((p1_b.len : Nat) : Int))) ?_
  refine KT.nil ?_
  refine SX.seq ?_
  refine SC.cond (b := ((p0_a.len : Nat) : Int) != ((p1_b.len : Nat) : Int)) rfl ?_ ?_
  refine SC.seq ?_
  refine SC.region' ?_
  refine KT.pv 4 (.bool false) ?_
  refine KT.nil ?_
  refine SX.seq ?_
  refine SC.ret ?_
  refine SX.then_ret ?_
  refine SX.ret [.tmp 4] rfl ?_
  refine RS.tmp (.bool false) rfl ?_
  exact RS.nil rfl
  refine SC.skip ?_
  refine SX.seq ?_
  refine SC.seq ?_
  refine SC.seq ?_
  refine SC.region' ?_
  refine KT.pv 5 (.int .i64 0) ?_
  refine KT.nil ?_
  refine SX.seq ?_
  refine SC.block ?_
  refine SC.loop (σ := (Int)) (fun s1 => [(0, (.slice p0_a.base p0_a.len p0_a.cap)), (1, (.slice p1_b.base p1_b.len p1_b.cap)), (5, (.int .i64 s1))]) (.cons rfl (.cons rfl (.cons rfl (.nil)))) (fun _ _ _ s1 => ?_)
  refine SC.seq ?_
  refine SC.seq ?_
  refine SC.region' ?_
  refine KT.pv 11 (.int .i64 s1) ?_
  refine KT.pv 12 (.slice p0_a.base p0_a.len p0_a.cap) ?_
  refine KT.pv 13 (.int .i64 ((p0_a.len : Nat) : Int)) ?_
  refine KT.pv 14 (.bool (decide (s1 < ((p0_a.len : Nat) : Int)))) ?_
  refine KT.nil ?_
  refine SX.seq ?_
  refine SC.cond (b := decide (s1 < ((p0_a.len : Nat) : Int))) rfl ?_ ?_
  refine SC.skip ?_
  refine SX.seq ?_
  refine SC.seq ?_
  refine SC.block ?_
  refine SC.seq ?_
  refine SC.draw 9 (fun _ => false) rfl (by kernel_rfl) (fun S2 => ?_)
  refine KT.pvA 0 17 (.slice p0_a.base p0_a.len p0_a.cap) ?_
  refine KT.pvA 1 18 (.int .i64 s1) ?_
  refine KT.tp 2 (OY.idx (d := 19) (s := p0_a) (i := s1) (size := 1) (elem := 5) _ _ _ rfl rfl rfl (by kernel_rfl) (by kernel_rfl) rfl rfl (fun x19 => ?_))
  refine KT.tk 3 (OY.ldI (d := 20) _ _ rfl rfl (by kernel_rfl) rfl rfl (fun x20 => ?_))
  refine KT.pvA 4 21 (.slice p1_b.base p1_b.len p1_b.cap) ?_
  refine KT.pvA 5 22 (.int .i64 s1) ?_
  refine KT.tp 6 (OY.idx (d := 23) (s := p1_b) (i := s1) (size := 1) (elem := 5) _ _ _ rfl rfl rfl (by kernel_rfl) (by kernel_rfl) rfl rfl (fun x23 => ?_))
  refine KT.tk 7 (OY.ldI (d := 24) _ _ rfl rfl (by kernel_rfl) rfl rfl (fun x24 => ?_))
  refine KT.pvA 8 25 (.bool (x20 != x24)) ?_
  refine KT.doneA (by kernel_rfl) ?_
  refine SX.seq ?_
  refine SC.cond (b := x20 != x24) rfl ?_ ?_
  refine SC.seq ?_
  refine SC.region' ?_
  refine KT.pv 4 (.bool false) ?_
  refine KT.nil ?_
  refine SX.seq ?_
  refine SC.ret ?_
  refine SX.block_ret ?_
  refine SX.then_ret ?_
  refine SX.loop_ret ?_
  refine SX.block_ret ?_
  refine SX.then_ret ?_
  refine SX.ret [.tmp 4] rfl ?_
  refine RS.tmp (.bool false) rfl ?_
  exact RS.nil rfl
  refine SC.skip ?_
  refine SX.block ?_
  refine SX.seq ?_
  refine SC.region' ?_
  refine KT.pv 15 (.int .i64 s1) ?_
  refine KT.pv 16 (.int .i64 (w64 (s1 + 1))) ?_
  refine KT.pv 5 (.int .i64 (w64 (s1 + 1))) ?_
  refine KT.nil ?_
  exact SX.loop_next (.cons rfl (.cons rfl (.cons rfl (.nil))))
  refine SC.exit ?_
  refine SX.then_exit ?_
  refine SX.loop_exit ?_
  refine SX.block_hit ?_
  refine SX.seq ?_
  refine SC.seq ?_
  refine SC.region' ?_
  refine KT.pv 4 (.bool true) ?_
  refine KT.nil ?_
  refine SX.seq ?_
  refine SC.ret ?_
  refine SX.ret [.tmp 4] rfl ?_
  refine RS.tmp (.bool true) rfl ?_
  exact RS.nil rfl
set_option maxRecDepth 100000 in
theorem bank_Bank_Join_sim (p0_b : (Option Addr)) (p1_m : (Int × Int × Int)) (Qf : Unit → World → Prop) (w : World) (hm : bank_Bank_Join p0_b p1_m Qf w) : Calls Try.prog 31 #[(.pointer p0_b), (.agg #[(.int .i64 p1_m.1), (.int .i64 p1_m.2.1), (.int .i64 p1_m.2.2)])] w (RetPost (fun y : Unit => (.tuple #[])) Qf) := by
  refine calls_of (fn := Try.f31) (l := [(.pointer p0_b), (.agg #[(.int .i64 p1_m.1), (.int .i64 p1_m.2.1), (.int .i64 p1_m.2.2)])]) (m := bank_Bank_Join p0_b p1_m) 14 (by kernel_rfl) rfl rfl rfl (fun Qf0 => ?_) Qf w hm
  clear hm w Qf
  unfold bank_Bank_Join
  refine SC.seq ?_
  refine SC.region' ?_
  refine KT.nw 3 (fun ad => .pointer (some ad)) 25 (fun x3 => ?_)
  refine KT.nil ?_
  refine SX.seq ?_
  refine SC.seq ?_
  refine SC.draw 6 (fun f => Nat.beq f 5) rfl (by kernel_rfl) (fun S1 => ?_)
  refine KT.pvA 0 4 (.pointer p0_b) ?_
  refine KT.tp 1 (OY.nil (d := 5) (p := p0_b) _ rfl rfl rfl rfl (fun x5 => ?_))
  refine KT.pvA 2 6 (.pointer (some (Addr.add x5 1))) ?_
  refine KT.tk 3 (OY.ldAI (d := 7) (enc := (fun y : (Int × Int × Int) => [(.int .i64 y.1), (.int .i64 y.2.1), (.int .i64 y.2.2)])) 3 _ _ rfl rfl (by kernel_rfl) (by kernel_rfl) (fun _ => rfl) rfl rfl (fun x7 => ?_))
  refine KT.tk 4 (OY.ldAI (d := 8) (enc := (fun y : (Int × Int × Int) => [(.int .i64 y.1), (.int .i64 y.2.1), (.int .i64 y.2.2)])) 3 _ _ rfl rfl (by kernel_rfl) (by kernel_rfl) (fun _ => rfl) rfl rfl (fun x8 => ?_))
  refine KT.last 5 rfl (by kernel_rfl) rfl rfl (OW.call (d := 9) (enc := Value.bool) 65 #[(.agg #[(.int .i64 x7.1), (.int .i64 x7.2.1), (.int .i64 x7.2.2)]), (.agg #[(.int .i64 x8.1), (.int .i64 x8.2.1), (.int .i64 x8.2.2)])] rfl (fun _ => by kernel_rfl) (fun Qf w => bank_fits_sim (x7.1, x7.2.1, x7.2.2) (x8.1, x8.2.1, x8.2.2) Qf w) rfl rfl (fun x9 => ?_))
  refine KT.doneN (by kernel_rfl) ?_
  refine SX.seq ?_
  refine SC.cond (b := x9) rfl ?_ ?_
  refine SC.region' ?_
  refine KT.pv 10 (.pointer p0_b) ?_
  refine KT.ow rfl (OW.ldA (d := 11) (enc := (fun y : (Int × Int × Int) => [(.int .i64 y.1), (.int .i64 y.2.1), (.int .i64 y.2.2)])) 3 _ _ rfl rfl (by kernel_rfl) (by kernel_rfl) (fun _ => rfl) rfl rfl (fun x11 => ?_))
  refine KT.nm 12 (fun x12 => ?_)
  refine KT.pv 13 (.pointer (some (Addr.add x12 4))) ?_
  refine KT.ow rfl (OW.stA _ _ _ rfl rfl rfl rfl rfl (by kernel_rfl) ?_)
  refine KT.nil ?_
  refine SX.endBody [] rfl ?_
  exact RS.nil rfl
  refine SC.skip ?_
  refine SX.endBody [] rfl ?_
  exact RS.nil rfl
set_option maxRecDepth 100000 in
theorem device_Rack_Doom_sim (p0_r : (Option Addr)) (p1_disk : Int) (p2_calls : Int) (Qf : Int → World → Prop) (w : World) (hm : device_Rack_Doom p0_r p1_disk p2_calls Qf w) : Calls Try.prog 34 #[(.pointer p0_r), (.int .i64 p1_disk), (.int .i64 p2_calls)] w (RetPost (Value.int .i64) Qf) := by
  refine calls_of (fn := Try.f34) (l := [(.pointer p0_r), (.int .i64 p1_disk), (.int .i64 p2_calls)]) (m := device_Rack_Doom p0_r p1_disk p2_calls) 29 (by kernel_rfl) rfl rfl rfl (fun Qf0 => ?_) Qf w hm
  clear hm w Qf
  unfold device_Rack_Doom
  refine SC.seq ?_
  refine SC.region' ?_
  refine KT.pv 6 (.int .i64 0) ?_
  refine KT.nil ?_
  refine SX.seq ?_
  refine SC.seq ?_
  refine SC.seq ?_
  refine SC.region' ?_
  refine KT.pv 7 (.int .i64 p1_disk) ?_
  refine KT.pv 8 (.bool (decide (p1_disk < 0))) ?_
  refine KT.pv 9 (.bool (decide (p1_disk < 0))) ?_
  refine KT.joinO (β := Bool) 8 (fun r1 => [(17, (.bool r1)), (0, (.pointer p0_r)), (1, (.int .i64 p1_disk)), (2, (.int .i64 p2_calls))]) (fun r1 => ?_) (fun j1 => ?_)
  refine KT.nil ?_
  refine SX.seq ?_
  refine SC.cond (b := r1) rfl ?_ ?_
  refine SC.seq ?_
  refine SC.region' ?_
  refine KT.pv 6 (.int .i64 11) ?_
  refine KT.nil ?_
  refine SX.seq ?_
  refine SC.ret ?_
  refine SX.then_ret ?_
  refine SX.ret [.tmp 6] rfl ?_
  refine RS.tmp (.int .i64 11) rfl ?_
  exact RS.nil rfl
  refine SC.skip ?_
  refine SX.seq ?_
  refine SC.seq ?_
  refine SC.region' ?_
  refine KT.pv 18 (.pointer p0_r) ?_
  refine KT.nm 19 (fun x19 => ?_)
  refine KT.pv 20 (.pointer (some x19)) ?_
  refine KT.l 21 (fun x21 => ?_)
  refine KT.pv 22 (.int .i64 p1_disk) ?_
  refine KT.oy rfl (OY.idx (d := 23) (s := x21) (i := p1_disk) (size := 1) (elem := 111) _ _ _ rfl rfl rfl (by kernel_rfl) (by kernel_rfl) rfl rfl (fun x23 => ?_))
  refine KT.l 24 (fun x24 => ?_)
  refine KT.pv 25 (.int .i64 p2_calls) ?_
  refine KT.pv 26 (.int .i64 (maxI p2_calls (-1))) ?_
  refine KT.nm 27 (fun x27 => ?_)
  refine KT.pv 28 (.pointer (some (Addr.add x27 3))) ?_
  refine KT.s ?_
  refine KT.nil ?_
  refine SX.seq ?_
  refine SC.seq ?_
  refine SC.region' ?_
  refine KT.pv 6 (.int .i64 0) ?_
  refine KT.nil ?_
  refine SX.seq ?_
  refine SC.ret ?_
  refine SX.ret [.tmp 6] rfl ?_
  refine RS.tmp (.int .i64 0) rfl ?_
  exact RS.nil rfl
  refine KT.ite (b := decide (p1_disk < 0)) 9 rfl ?_ ?_
  refine KT.sk ?_
  refine KT.sk ?_
  refine KT.sk ?_
  refine KT.sk ?_
  refine KT.sk ?_
  refine KT.sk ?_
  refine KT.sk ?_
  refine KT.pv 17 (.bool true) ?_
  exact KT.leafO j1 (.cons rfl (.cons rfl (.cons rfl (.cons rfl (.nil)))))
  refine KT.pv 10 (.int .i64 p1_disk) ?_
  refine KT.pv 11 (.pointer p0_r) ?_
  refine KT.nm 12 (fun x12 => ?_)
  refine KT.pv 13 (.pointer (some x12)) ?_
  refine KT.l 14 (fun x14 => ?_)
  refine KT.pv 15 (.int .i64 ((x14.len : Nat) : Int)) ?_
  refine KT.pv 16 (.bool (decide (p1_disk ≥ ((x14.len : Nat) : Int)))) ?_
  refine KT.pv 17 (.bool (decide (p1_disk ≥ ((x14.len : Nat) : Int)))) ?_
  exact KT.leafO j1 (.cons rfl (.cons rfl (.cons rfl (.cons rfl (.nil)))))
set_option maxRecDepth 100000 in
theorem device_Rack_Flush_sim (p0_r : (Option Addr)) (p1_disk : Int) (Qf : Int → World → Prop) (w : World) (hm : device_Rack_Flush p0_r p1_disk Qf w) : Calls Try.prog 42 #[(.pointer p0_r), (.int .i64 p1_disk)] w (RetPost (Value.int .i64) Qf) := by
  refine calls_of (fn := Try.f42) (l := [(.pointer p0_r), (.int .i64 p1_disk)]) (m := device_Rack_Flush p0_r p1_disk) 39 (by kernel_rfl) rfl rfl rfl (fun Qf0 => ?_) Qf w hm
  clear hm w Qf
  unfold device_Rack_Flush
  refine SC.seq ?_
  refine SC.region' ?_
  refine KT.pv 4 (.int .i64 0) ?_
  refine KT.nil ?_
  refine SX.seq ?_
  refine SC.seq ?_
  refine SC.region' ?_
  refine KT.pv 10 (.pointer p0_r) ?_
  refine KT.pv 11 (.int .i64 p1_disk) ?_
  refine KT.cl (fun y : ((Option Addr) × Int) => (.tuple #[(.pointer y.1), (.int .i64 y.2)])) 12 73 #[(.pointer p0_r), (.int .i64 p1_disk), (.int .i64 0), (.int .i64 64)] (device_Rack_counted_sim p0_r p1_disk 0 64) (fun x12 => ?_)
  refine KT.pv 9 (.tuple #[(.pointer x12.1), (.int .i64 x12.2)]) ?_
  refine KT.pv 13 (.pointer x12.1) ?_
  refine KT.pv 14 (.int .i64 x12.2) ?_
  refine KT.pv 5 (.pointer x12.1) ?_
  refine KT.pv 6 (.int .i64 x12.2) ?_
  refine KT.nil ?_
  refine SX.seq ?_
  refine SC.seq ?_
  refine SC.seq ?_
  refine SC.region' ?_
  refine KT.pv 15 (.int .i64 x12.2) ?_
  refine KT.pv 16 (.bool (x12.2 == 0)) ?_
  refine KT.nil ?_
  refine SX.seq ?_
  refine SC.cond (b := x12.2 == 0) rfl ?_ ?_
  refine SC.seq ?_
  refine SC.seq ?_
  refine SC.region' ?_
  refine KT.pv 17 (.pointer x12.1) ?_
  refine KT.nm 18 (fun x18 => ?_)
  refine KT.pv 19 (.pointer (some (Addr.add x18 1))) ?_
  refine KT.l 20 (fun x20 => ?_)
  refine KT.ow rfl (OW.rangeMap (d := 21) _ _ 3 46 rfl rfl (by kernel_rfl) rfl rfl (fun x21 => ?_))
  refine KT.nil ?_
  refine SX.seq ?_
  refine SC.block ?_
  refine SC.loop (σ := Unit) (fun s1 => [(5, (.pointer x12.1)), (6, (.int .i64 x12.2)), (21, (.pointer (some x21)))]) (.cons rfl (.cons rfl (.cons rfl (.nil)))) (fun _ _ _ s1 => ?_)
  refine SC.seq ?_
  refine SC.region' ?_
  refine KT.ow rfl (OW.next (d := 22) _ rfl rfl rfl rfl (fun y22 => ?_))
  refine KT.opt (y := y22) 22 rfl ?_ (fun e22 => ?_)
  refine KT.pv 23 (.bool false) ?_
  refine KT.nil ?_
  refine SX.seq ?_
  refine SC.seq ?_
  refine SC.cond_false rfl ?_
  refine SC.exit ?_
  refine SX.then_exit ?_
  refine SX.loop_exit ?_
  refine SX.block_hit ?_
  refine SX.seq ?_
  refine SC.region' ?_
  refine KT.pv 34 (.pointer x12.1) ?_
  refine KT.nm 35 (fun x35 => ?_)
  refine KT.pv 36 (.pointer (some (Addr.add x35 1))) ?_
  refine KT.l 37 (fun x37 => ?_)
  refine KT.ow rfl (OW.clearMap0 _ _ 3 46 rfl rfl (by kernel_rfl) rfl ?_)
  refine KT.nil ?_
  refine SX.seq ?_
  refine SC.seq ?_
  refine SC.region' ?_
  refine KT.pv 38 (.int .i64 x12.2) ?_
  refine KT.pv 4 (.int .i64 x12.2) ?_
  refine KT.nil ?_
  refine SX.seq ?_
  refine SC.ret ?_
  refine SX.ret [.tmp 4] rfl ?_
  refine RS.tmp (.int .i64 x12.2) rfl ?_
  exact RS.nil rfl
  refine KT.pv 23 (.bool true) ?_
  refine KT.nil ?_
  refine SX.seq ?_
  refine SC.seq ?_
  refine SC.cond_true rfl ?_
  refine SC.skip ?_
  refine SX.seq ?_
  refine SC.block ?_
  refine SC.seq ?_
  refine SC.region' ?_
  refine KT.ow rfl (OW.entry (d := 24) (ek := (Value.int .i64)) (evv := vS) _ rfl rfl rfl rfl (fun x24 => ?_))
  refine KT.pv 25 (.int .i64 x24.1) ?_
  refine KT.pv 26 (.slice x24.2.base x24.2.len x24.2.cap) ?_
  refine KT.pv 7 (.int .i64 x24.1) ?_
  refine KT.pv 8 (.slice x24.2.base x24.2.len x24.2.cap) ?_
  refine KT.nil ?_
  refine SX.seq ?_
  refine SC.region' ?_
  refine KT.pv 27 (.pointer x12.1) ?_
  refine KT.nm 28 (fun x28 => ?_)
  refine KT.pv 29 (.pointer (some x28)) ?_
  refine KT.l 30 (fun x30 => ?_)
  refine KT.pv 31 (.int .i64 x24.1) ?_
  refine KT.pv 32 (.slice x24.2.base x24.2.len x24.2.cap) ?_
  refine KT.oy rfl (OY.idx (d := 33) (s := x30) (i := x24.1) (size := 1) (elem := 46) _ _ _ rfl rfl rfl (by kernel_rfl) (by kernel_rfl) rfl rfl (fun x33 => ?_))
  refine KT.s ?_
  refine KT.nil ?_
  refine SX.block ?_
  exact SX.loop_next (.cons rfl (.cons rfl (.cons rfl (.nil))))
  refine SC.skip ?_
  refine SX.seq ?_
  refine SC.seq ?_
  refine SC.region' ?_
  refine KT.pv 38 (.int .i64 x12.2) ?_
  refine KT.pv 4 (.int .i64 x12.2) ?_
  refine KT.nil ?_
  refine SX.seq ?_
  refine SC.ret ?_
  refine SX.ret [.tmp 4] rfl ?_
  refine RS.tmp (.int .i64 x12.2) rfl ?_
  exact RS.nil rfl
set_option maxRecDepth 100000 in
theorem bank_Bank_Flush_sim (p0_b : (Option Addr)) (Qf : Int → World → Prop) (w : World) (hm : bank_Bank_Flush (cvOf Try.prog) p0_b Qf w) : Calls Try.prog 35 #[(.pointer p0_b)] w (RetPost (Value.int .i64) Qf) := by
  refine calls_of (fn := Try.f35) (l := [(.pointer p0_b)]) (m := bank_Bank_Flush (cvOf Try.prog) p0_b) 17 (by kernel_rfl) rfl rfl rfl (fun Qf0 => ?_) Qf w hm
  clear hm w Qf
  unfold bank_Bank_Flush
  refine SC.seq ?_
  refine SC.region' ?_
  refine KT.nw 1 (fun ad => .pointer (some ad)) 38 (fun x1 => ?_)
  refine KT.nw 2 (fun ad => .pointer (some ad)) 28 (fun x2 => ?_)
  refine KT.nil ?_
  refine SX.seq ?_
  refine SC.seq ?_
  refine SC.seq ?_
  refine SC.region' ?_
  refine KT.l 5 (fun x5 => ?_)
  refine KT.pv 6 (.func (.func fid_bank_Bank_disks) #[(.pointer x5)] #[]) ?_
  refine KT.nil ?_
  refine SX.seq ?_
  refine SC.block ?_
  refine SC.rangeF (ξ := (Int)) (τ := (Int)) (fv := (.func (.func fid_bank_Bank_disks) #[(.pointer x5)] #[])) (ps := [7]) (encX := (fun x_1 : (Int) => [(.int .i64 x_1)])) (fun t_1 => [(1, (.pointer (some x1))), (2, (.pointer (some x2))), (3, (.int .i64 t_1))]) rfl (fun _ => rfl) rfl (fun _ x_1 _ _ h1 => ?_) (fun _ _ _ t_1 => ?_) (fun D1 => ?_) (fun D1 => ?_) (fun D1 i1 => ?_)
  refine SC.region' ?_
  refine KT.pv 3 (.int .i64 x_1) ?_
  refine KT.nil ?_
  exact SX.leafP h1 (.cons rfl (.cons rfl (.cons rfl (.nil))))
  refine SC.block ?_
  refine SC.seq ?_
  refine SC.region' ?_
  refine KT.l 8 (fun x8 => ?_)
  refine KT.nm 9 (fun x9 => ?_)
  refine KT.pv 10 (.pointer (some x9)) ?_
  refine KT.l 11 (fun x11 => ?_)
  refine KT.pv 12 (.int .i64 t_1) ?_
  refine KT.cl (Value.int .i64) 13 42 #[(.pointer x11), (.int .i64 t_1)] (device_Rack_Flush_sim x11 t_1) (fun x13 => ?_)
  refine KT.pv 4 (.int .i64 x13) ?_
  refine KT.nil ?_
  refine SX.seq ?_
  refine SC.seq ?_
  refine SC.region' ?_
  refine KT.pv 14 (.int .i64 x13) ?_
  refine KT.pv 15 (.bool (x13 == 12)) ?_
  refine KT.nil ?_
  refine SX.seq ?_
  refine SC.cond (b := x13 == 12) rfl ?_ ?_
  refine SC.seq ?_
  refine SC.region' ?_
  refine KT.pv 16 (.int .i64 x13) ?_
  refine KT.s ?_
  refine KT.nil ?_
  refine SX.seq ?_
  refine SC.ret ?_
  refine SX.block_ret ?_
  exact SX.round_ret
  refine SC.skip ?_
  refine SX.block ?_
  exact SX.round_next
  refine SX.block ?_
  refine SX.seq ?_
  refine SC.seq ?_
  refine SC.region' ?_
  refine KT.s ?_
  refine KT.nil ?_
  refine SX.seq ?_
  refine SC.ret ?_
  refine SX.ret [.cell 2 28] rfl ?_
  refine RS.cell rfl (by kernel_rfl) (fun r2 => ?_)
  exact RS.nil rfl
  refine SX.block_ret ?_
  refine SX.then_ret ?_
  refine SX.ret [.cell 2 28] rfl ?_
  refine RS.cell rfl (by kernel_rfl) (fun r2 => ?_)
  exact RS.nil rfl
  exact SX.fail
set_option maxRecDepth 100000 in
theorem bank_Bank_Read_sim (p0_b : (Option Addr)) (p1_slot : Int) (p2_sector : Int) (Qf : (Slc × Int) → World → Prop) (w : World) (hm : bank_Bank_Read p0_b p1_slot p2_sector Qf w) : Calls Try.prog 36 #[(.pointer p0_b), (.int .i64 p1_slot), (.int .i64 p2_sector)] w (RetPost (fun y : (Slc × Int) => (.tuple #[(.slice y.1.base y.1.len y.1.cap), (.int .i64 y.2)])) Qf) := by
  refine calls_of (fn := Try.f36) (l := [(.pointer p0_b), (.int .i64 p1_slot), (.int .i64 p2_sector)]) (m := bank_Bank_Read p0_b p1_slot p2_sector) 27 (by kernel_rfl) rfl rfl rfl (fun Qf0 => ?_) Qf w hm
  clear hm w Qf
  unfold bank_Bank_Read
  refine SC.seq ?_
  refine SC.region' ?_
  refine KT.pv 6 (.slice none 0 0) ?_
  refine KT.pv 7 (.int .i64 0) ?_
  refine KT.nil ?_
  refine SX.seq ?_
  refine SC.seq ?_
  refine SC.region' ?_
  refine KT.pv 11 (.pointer p0_b) ?_
  refine KT.pv 12 (.int .i64 p1_slot) ?_
  refine KT.cl (fun y : (Int × Bool) => (.tuple #[(.int .i64 y.1), (.bool y.2)])) 13 72 #[(.pointer p0_b), (.int .i64 p1_slot)] (bank_Bank_disk_sim p0_b p1_slot) (fun x13 => ?_)
  refine KT.pv 10 (.tuple #[(.int .i64 x13.1), (.bool x13.2)]) ?_
  refine KT.pv 14 (.int .i64 x13.1) ?_
  refine KT.pv 15 (.bool x13.2) ?_
  refine KT.pv 8 (.int .i64 x13.1) ?_
  refine KT.pv 9 (.bool x13.2) ?_
  refine KT.nil ?_
  refine SX.seq ?_
  refine SC.seq ?_
  refine SC.seq ?_
  refine SC.region' ?_
  refine KT.pv 16 (.bool x13.2) ?_
  refine KT.pv 17 (.bool (!x13.2)) ?_
  refine KT.nil ?_
  refine SX.seq ?_
  refine SC.cond (b := !x13.2) rfl ?_ ?_
  refine SC.seq ?_
  refine SC.region' ?_
  refine KT.pv 6 (.slice none 0 0) ?_
  refine KT.pv 7 (.int .i64 11) ?_
  refine KT.nil ?_
  refine SX.seq ?_
  refine SC.ret ?_
  refine SX.then_ret ?_
  refine SX.ret [.tmp 6, .tmp 7] rfl ?_
  refine RS.tmp (.slice none 0 0) rfl ?_
  refine RS.tmp (.int .i64 11) rfl ?_
  exact RS.nil rfl
  refine SC.skip ?_
  refine SX.seq ?_
  refine SC.seq ?_
  refine SC.region' ?_
  refine KT.pv 18 (.pointer p0_b) ?_
  refine KT.nm 19 (fun x19 => ?_)
  refine KT.pv 20 (.pointer (some x19)) ?_
  refine KT.l 21 (fun x21 => ?_)
  refine KT.pv 22 (.int .i64 x13.1) ?_
  refine KT.pv 23 (.int .i64 p2_sector) ?_
  refine KT.cl (fun y : (Slc × Int) => (.tuple #[(.slice y.1.base y.1.len y.1.cap), (.int .i64 y.2)])) 24 29 #[(.pointer x21), (.int .i64 x13.1), (.int .i64 p2_sector)] (device_Rack_Read_sim x21 x13.1 p2_sector) (fun x24 => ?_)
  refine KT.pv 25 (.slice x24.1.base x24.1.len x24.1.cap) ?_
  refine KT.pv 26 (.int .i64 x24.2) ?_
  refine KT.pv 6 (.slice x24.1.base x24.1.len x24.1.cap) ?_
  refine KT.pv 7 (.int .i64 x24.2) ?_
  refine KT.nil ?_
  refine SX.seq ?_
  refine SC.ret ?_
  refine SX.ret [.tmp 6, .tmp 7] rfl ?_
  refine RS.tmp (.slice x24.1.base x24.1.len x24.1.cap) rfl ?_
  refine RS.tmp (.int .i64 x24.2) rfl ?_
  exact RS.nil rfl
set_option maxRecDepth 100000 in
theorem bank_Bank_SpareFailed_sim (p0_b : (Option Addr)) (Qf : Bool → World → Prop) (w : World) (hm : bank_Bank_SpareFailed p0_b Qf w) : Calls Try.prog 37 #[(.pointer p0_b)] w (RetPost Value.bool Qf) := by
  refine calls_of (fn := Try.f37) (l := [(.pointer p0_b)]) (m := bank_Bank_SpareFailed p0_b) 13 (by kernel_rfl) rfl rfl rfl (fun Qf0 => ?_) Qf w hm
  clear hm w Qf
  unfold bank_Bank_SpareFailed
  refine SC.seq ?_
  refine SC.region' ?_
  refine KT.pv 2 (.bool false) ?_
  refine KT.nil ?_
  refine SX.seq ?_
  refine SC.seq ?_
  refine SC.draw 11 (fun f => Nat.beq f 9) rfl (by kernel_rfl) (fun S1 => ?_)
  refine KT.pvA 0 3 (.pointer p0_b) ?_
  refine KT.tp 1 (OY.nil (d := 4) (p := p0_b) _ rfl rfl rfl rfl (fun x4 => ?_))
  refine KT.pvA 2 5 (.pointer (some x4)) ?_
  refine KT.tk 3 (OY.ldI (d := 6) _ _ rfl rfl (by kernel_rfl) rfl rfl (fun x6 => ?_))
  refine KT.pvA 4 7 (.pointer p0_b) ?_
  refine KT.tp 5 (OY.nil (d := 8) (p := p0_b) _ rfl rfl rfl rfl (fun x8 => ?_))
  refine KT.pvA 6 9 (.pointer (some (Addr.add x8 1))) ?_
  refine KT.pvA 7 10 (.pointer (some (Addr.add x8 1))) ?_
  refine KT.tk 8 (OY.ldI (d := 11) _ _ rfl rfl (by kernel_rfl) rfl rfl (fun x11 => ?_))
  refine KT.last 9 rfl (by kernel_rfl) rfl rfl (OW.call (d := 12) (enc := Value.bool) 54 #[(.pointer x6), (.int .i64 x11)] rfl (fun _ => by kernel_rfl) (fun Qf w => device_Rack_Failed_sim x6 x11 Qf w) rfl rfl (fun x12 => ?_))
  refine KT.pvN 10 2 (.bool x12) ?_
  refine KT.doneN (by kernel_rfl) ?_
  refine SX.seq ?_
  refine SC.ret ?_
  refine SX.ret [.tmp 2] rfl ?_
  refine RS.tmp (.bool x12) rfl ?_
  exact RS.nil rfl
set_option maxRecDepth 100000 in
theorem slices_AppendSeq_i_sim (p0_s : Slc) (p1_seq : Value) (Qf : Slc → World → Prop) (w : World) (hm : slices_AppendSeq_i (cvOf Try.prog) p0_s p1_seq Qf w) : Calls Try.prog 133 #[(.slice p0_s.base p0_s.len p0_s.cap), p1_seq] w (RetPost vS Qf) := by
  refine calls_of (fn := Try.f133) (l := [(.slice p0_s.base p0_s.len p0_s.cap), p1_seq]) (m := slices_AppendSeq_i (cvOf Try.prog) p0_s p1_seq) 13 (by kernel_rfl) rfl rfl rfl (fun Qf0 => ?_) Qf w hm
  clear hm w Qf
  unfold slices_AppendSeq_i
  refine SC.seq ?_
  refine SC.region' ?_
  refine KT.nw 2 (fun ad => .pointer (some ad)) 33 (fun x2 => ?_)
  refine KT.pv 4 (.slice none 0 0) ?_
  refine KT.nil ?_
  refine SX.seq ?_
  refine SC.seq ?_
  refine SC.seq ?_
  refine SC.region' ?_
  refine KT.pv 6 p1_seq ?_
  refine KT.nil ?_
  refine SX.seq ?_
  refine SC.block ?_
  refine SC.rangeF (ξ := (Int)) (τ := (Int)) (fv := p1_seq) (ps := [7]) (encX := (fun x_1 : (Int) => [(.int .i64 x_1)])) (fun t_1 => [(2, (.pointer (some x2))), (5, (.int .i64 t_1))]) rfl (fun _ => rfl) rfl (fun _ x_1 _ _ h1 => ?_) (fun _ _ _ t_1 => ?_) (fun D1 => ?_) (fun D1 => ?_) (fun D1 i1 => ?_)
  refine SC.region' ?_
  refine KT.pv 5 (.int .i64 x_1) ?_
  refine KT.nil ?_
  exact SX.leafP h1 (.cons rfl (.cons rfl (.nil)))
  refine SC.block ?_
  refine SC.region' ?_
  refine KT.l 8 (fun x8 => ?_)
  refine KT.pv 9 (.int .i64 t_1) ?_
  refine KT.nw 10 (fun ad => .slice (some ad) 1 1) 3 (fun x10 => ?_)
  refine KT.ow rfl (OW.append (d := 11) (s := x8) (x := ⟨some x10, 1, 1⟩) [(.int .i64 0)] 8 3 _ _ _ _ rfl rfl rfl rfl (by kernel_rfl) (by kernel_rfl) rfl rfl rfl (fun x11 => ?_))
  refine KT.s ?_
  refine KT.nil ?_
  refine SX.block ?_
  exact SX.round_next
  refine SX.block ?_
  refine SX.seq ?_
  refine SC.seq ?_
  refine SC.region' ?_
  refine KT.l 12 (fun x12 => ?_)
  refine KT.pv 4 (.slice x12.base x12.len x12.cap) ?_
  refine KT.nil ?_
  refine SX.seq ?_
  refine SC.ret ?_
  refine SX.ret [.tmp 4] rfl ?_
  refine RS.tmp (.slice x12.base x12.len x12.cap) rfl ?_
  exact RS.nil rfl
  exact SX.fail
  exact SX.fail
set_option maxRecDepth 100000 in
theorem slices_Collect_i_sim (p0_seq : Value) (Qf : Slc → World → Prop) (w : World) (hm : slices_Collect_i (cvOf Try.prog) p0_seq Qf w) : Calls Try.prog 114 #[p0_seq] w (RetPost vS Qf) := by
  refine calls_of (fn := Try.f114) (l := [p0_seq]) (m := slices_Collect_i (cvOf Try.prog) p0_seq) 5 (by kernel_rfl) rfl rfl rfl (fun Qf0 => ?_) Qf w hm
  clear hm w Qf
  unfold slices_Collect_i
  refine SC.seq ?_
  refine SC.region' ?_
  refine KT.pv 2 (.slice none 0 0) ?_
  refine KT.nil ?_
  refine SX.seq ?_
  refine SC.seq ?_
  refine SC.region' ?_
  refine KT.pv 3 p0_seq ?_
  refine KT.cl vS 4 133 #[(.slice none 0 0), p0_seq] (slices_AppendSeq_i_sim (⟨none, 0, 0⟩) p0_seq) (fun x4 => ?_)
  refine KT.pv 2 (.slice x4.base x4.len x4.cap) ?_
  refine KT.nil ?_
  refine SX.seq ?_
  refine SC.ret ?_
  refine SX.ret [.tmp 2] rfl ?_
  refine RS.tmp (.slice x4.base x4.len x4.cap) rfl ?_
  exact RS.nil rfl
set_option maxRecDepth 100000 in
theorem slices_Sorted_i_sim (p0_seq : Value) (Qf : Slc → World → Prop) (w : World) (hm : slices_Sorted_i (cvOf Try.prog) p0_seq Qf w) : Calls Try.prog 74 #[p0_seq] w (RetPost vS Qf) := by
  refine calls_of (fn := Try.f74) (l := [p0_seq]) (m := slices_Sorted_i (cvOf Try.prog) p0_seq) 9 (by kernel_rfl) rfl rfl rfl (fun Qf0 => ?_) Qf w hm
  clear hm w Qf
  unfold slices_Sorted_i
  refine SC.seq ?_
  refine SC.region' ?_
  refine KT.pv 2 (.slice none 0 0) ?_
  refine KT.nil ?_
  refine SX.seq ?_
  refine SC.seq ?_
  refine SC.region' ?_
  refine KT.pv 4 p0_seq ?_
  refine KT.cl vS 5 114 #[p0_seq] (slices_Collect_i_sim p0_seq) (fun x5 => ?_)
  refine KT.pv 3 (.slice x5.base x5.len x5.cap) ?_
  refine KT.nil ?_
  refine SX.seq ?_
  refine SC.seq ?_
  refine SC.region' ?_
  refine KT.pv 6 (.slice x5.base x5.len x5.cap) ?_
  refine KT.cl (fun y : Unit => (.tuple #[])) 7 115 #[(.slice x5.base x5.len x5.cap)] (slices_Sort_i_sim x5) (fun x7 => ?_)
  refine KT.nil ?_
  refine SX.seq ?_
  refine SC.seq ?_
  refine SC.region' ?_
  refine KT.pv 8 (.slice x5.base x5.len x5.cap) ?_
  refine KT.pv 2 (.slice x5.base x5.len x5.cap) ?_
  refine KT.nil ?_
  refine SX.seq ?_
  refine SC.ret ?_
  refine SX.ret [.tmp 2] rfl ?_
  refine RS.tmp (.slice x5.base x5.len x5.cap) rfl ?_
  exact RS.nil rfl
set_option maxRecDepth 100000 in
theorem maps_Keys_m_c1_sim (p0_yield : Value) (p1_a : Addr) (Qf : Unit → World → Prop) (w : World) (hm : maps_Keys_m_c1 (cvOf Try.prog) p0_yield p1_a Qf w) : Calls Try.prog 116 #[p0_yield, (.pointer (some p1_a))] w (RetPost (fun y : Unit => (.tuple #[])) Qf) := by
  refine calls_of (fn := Try.f116) (l := [p0_yield, (.pointer (some p1_a))]) (m := maps_Keys_m_c1 (cvOf Try.prog) p0_yield p1_a) 14 (by kernel_rfl) rfl rfl rfl (fun Qf0 => ?_) Qf w hm
  clear hm w Qf
  unfold maps_Keys_m_c1
  refine SC.seq ?_
  refine SC.region' ?_
  refine KT.l 4 (fun x4 => ?_)
  refine KT.ow rfl (OW.rangeMap (d := 5) _ _ 3 46 rfl rfl (by kernel_rfl) rfl rfl (fun x5 => ?_))
  refine KT.nil ?_
  refine SX.seq ?_
  refine SC.block ?_
  refine SC.loop (σ := Unit) (fun s1 => [(0, p0_yield), (5, (.pointer (some x5)))]) (.cons rfl (.cons rfl (.nil))) (fun _ _ _ s1 => ?_)
  refine SC.seq ?_
  refine SC.region' ?_
  refine KT.ow rfl (OW.next (d := 6) _ rfl rfl rfl rfl (fun y6 => ?_))
  refine KT.opt (y := y6) 6 rfl ?_ (fun e6 => ?_)
  refine KT.pv 7 (.bool false) ?_
  refine KT.nil ?_
  refine SX.seq ?_
  refine SC.seq ?_
  refine SC.cond_false rfl ?_
  refine SC.exit ?_
  refine SX.then_exit ?_
  refine SX.loop_exit ?_
  refine SX.block_hit ?_
  refine SX.endBody [] rfl ?_
  exact RS.nil rfl
  refine KT.pv 7 (.bool true) ?_
  refine KT.nil ?_
  refine SX.seq ?_
  refine SC.seq ?_
  refine SC.cond_true rfl ?_
  refine SC.skip ?_
  refine SX.seq ?_
  refine SC.block ?_
  refine SC.seq ?_
  refine SC.region' ?_
  refine KT.ow rfl (OW.entry (d := 8) (ek := (Value.int .i64)) (evv := vS) _ rfl rfl rfl rfl (fun x8 => ?_))
  refine KT.pv 9 (.int .i64 x8.1) ?_
  refine KT.pv 3 (.int .i64 x8.1) ?_
  refine KT.nil ?_
  refine SX.seq ?_
  refine SC.seq ?_
  refine SC.region' ?_
  refine KT.pv 10 p0_yield ?_
  refine KT.pv 11 (.int .i64 x8.1) ?_
  refine KT.ow rfl (OW.callv (d := 12) (enc := Value.bool) (vs := [(.int .i64 x8.1)]) _ [.tmp 11] _ rfl rfl rfl rfl rfl (fun x12 => ?_))
  refine KT.pv 13 (.bool (!x12)) ?_
  refine KT.nil ?_
  refine SX.seq ?_
  refine SC.cond (b := !x12) rfl ?_ ?_
  refine SC.ret ?_
  refine SX.block_ret ?_
  refine SX.loop_ret ?_
  refine SX.block_ret ?_
  refine SX.ret [] rfl ?_
  exact RS.nil rfl
  refine SC.skip ?_
  refine SX.block ?_
  exact SX.loop_next (.cons rfl (.cons rfl (.nil)))
set_option maxRecDepth 100000 in
theorem maps_Keys_m_sim (p0_m : (Option Nat)) (Qf : Value → World → Prop) (w : World) (hm : maps_Keys_m p0_m Qf w) : Calls Try.prog 75 #[(.map p0_m)] w (RetPost (fun v : Value => v) Qf) := by
  refine calls_of (fn := Try.f75) (l := [(.map p0_m)]) (m := maps_Keys_m p0_m) 4 (by kernel_rfl) rfl rfl rfl (fun Qf0 => ?_) Qf w hm
  clear hm w Qf
  unfold maps_Keys_m
  refine SC.seq ?_
  refine SC.region' ?_
  refine KT.nw 1 (fun ad => .pointer (some ad)) 112 (fun x1 => ?_)
  refine KT.pv 2 Value.nilFunc ?_
  refine KT.nil ?_
  refine SX.seq ?_
  refine SC.seq ?_
  refine SC.region' ?_
  refine KT.pv 3 (.func (.func fid_maps_Keys_m_c1) #[] #[(.pointer (some x1))]) ?_
  refine KT.pv 2 (.func (.func fid_maps_Keys_m_c1) #[] #[(.pointer (some x1))]) ?_
  refine KT.nil ?_
  refine SX.seq ?_
  refine SC.ret ?_
  refine SX.ret [.tmp 2] rfl ?_
  refine RS.tmp (.func (.func fid_maps_Keys_m_c1) #[] #[(.pointer (some x1))]) rfl ?_
  exact RS.nil rfl
set_option maxRecDepth 100000 in
theorem device_Rack_Restore_sim (p0_r : (Option Addr)) (p1_keeps : Slc) (Qf : Unit → World → Prop) (w : World) (hm : device_Rack_Restore (cvOf Try.prog) p0_r p1_keeps Qf w) : Calls Try.prog 40 #[(.pointer p0_r), (.slice p1_keeps.base p1_keeps.len p1_keeps.cap)] w (RetPost (fun y : Unit => (.tuple #[])) Qf) := by
  refine calls_of (fn := Try.f40) (l := [(.pointer p0_r), (.slice p1_keeps.base p1_keeps.len p1_keeps.cap)]) (m := device_Rack_Restore (cvOf Try.prog) p0_r p1_keeps) 76 (by kernel_rfl) rfl rfl rfl (fun Qf0 => ?_) Qf w hm
  clear hm w Qf
  unfold device_Rack_Restore
  refine SC.seq ?_
  refine SC.region' ?_
  refine KT.pv 9 (.pointer p0_r) ?_
  refine KT.pv 10 (.pointer p0_r) ?_
  refine KT.nm 11 (fun x11 => ?_)
  refine KT.pv 12 (.pointer (some (Addr.add x11 3))) ?_
  refine KT.s ?_
  refine KT.nm 13 (fun x13 => ?_)
  refine KT.pv 14 (.pointer (some (Addr.add x13 2))) ?_
  refine KT.s ?_
  refine KT.nil ?_
  refine SX.seq ?_
  refine SC.seq ?_
  refine SC.region' ?_
  refine KT.pv 4 (.int .i64 0) ?_
  refine KT.nil ?_
  refine SX.seq ?_
  refine SC.seq ?_
  refine SC.region' ?_
  refine KT.pv 15 (.pointer p0_r) ?_
  refine KT.nm 16 (fun x16 => ?_)
  refine KT.pv 17 (.pointer (some x16)) ?_
  refine KT.l 18 (fun x18 => ?_)
  refine KT.pv 19 (.int .i64 ((x18.len : Nat) : Int)) ?_
  refine KT.pv 20 (.int .i64 0) ?_
  refine KT.nil ?_
  refine SX.seq ?_
  refine SC.block ?_
  refine SC.loop (σ := (Int × Int)) (fun s1 => [(1, (.slice p1_keeps.base p1_keeps.len p1_keeps.cap)), (4, (.int .i64 s1.1)), (18, (.slice x18.base x18.len x18.cap)), (19, (.int .i64 ((x18.len : Nat) : Int))), (20, (.int .i64 s1.2))]) (.cons rfl (.cons rfl (.cons rfl (.cons rfl (.cons rfl (.nil)))))) (fun _ _ _ s1 => ?_)
  refine SC.seq ?_
  refine SC.region' ?_
  refine KT.pv 21 (.bool (decide (s1.2 < ((x18.len : Nat) : Int)))) ?_
  refine KT.nil ?_
  refine SX.seq ?_
  refine SC.seq ?_
  refine SC.cond (b := decide (s1.2 < ((x18.len : Nat) : Int))) rfl ?_ ?_
  refine SC.skip ?_
  refine SX.seq ?_
  refine SC.seq ?_
  refine SC.block ?_
  refine SC.seq ?_
  refine SC.region' ?_
  refine KT.oy rfl (OY.idx (d := 22) (s := x18) (i := s1.2) (size := 1) (elem := 111) _ _ _ rfl rfl rfl (by kernel_rfl) (by kernel_rfl) rfl rfl (fun x22 => ?_))
  refine KT.l 23 (fun x23 => ?_)
  refine KT.pv 6 (.pointer x23) ?_
  refine KT.nil ?_
  refine SX.seq ?_
  refine SC.seq ?_
  refine SC.seq ?_
  refine SC.region' ?_
  refine KT.pv 24 (.pointer x23) ?_
  refine KT.nm 25 (fun x25 => ?_)
  refine KT.pv 26 (.pointer (some (Addr.add x25 1))) ?_
  refine KT.l 27 (fun x27 => ?_)
  refine KT.cl (fun v : Value => v) 28 75 #[(.map x27)] (maps_Keys_m_sim x27) (fun x28 => ?_)
  refine KT.cl vS 29 74 #[x28] (slices_Sorted_i_sim x28) (fun x29 => ?_)
  refine KT.pv 30 (.int .i64 ((x29.len : Nat) : Int)) ?_
  refine KT.pv 31 (.int .i64 0) ?_
  refine KT.nil ?_
  refine SX.seq ?_
  refine SC.block ?_
  refine SC.loop (σ := (Int × Int)) (fun s2 => [(1, (.slice p1_keeps.base p1_keeps.len p1_keeps.cap)), (4, (.int .i64 s2.1)), (6, (.pointer x23)), (18, (.slice x18.base x18.len x18.cap)), (19, (.int .i64 ((x18.len : Nat) : Int))), (20, (.int .i64 s1.2)), (29, (.slice x29.base x29.len x29.cap)), (30, (.int .i64 ((x29.len : Nat) : Int))), (31, (.int .i64 s2.2))]) (.cons rfl (.cons rfl (.cons rfl (.cons rfl (.cons rfl (.cons rfl (.cons rfl (.cons rfl (.cons rfl (.nil)))))))))) (fun _ _ _ s2 => ?_)
  refine SC.seq ?_
  refine SC.region' ?_
  refine KT.pv 32 (.bool (decide (s2.2 < ((x29.len : Nat) : Int)))) ?_
  refine KT.nil ?_
  refine SX.seq ?_
  refine SC.seq ?_
  refine SC.cond (b := decide (s2.2 < ((x29.len : Nat) : Int))) rfl ?_ ?_
  refine SC.skip ?_
  refine SX.seq ?_
  refine SC.seq ?_
  refine SC.block ?_
  refine SC.seq ?_
  refine SC.region' ?_
  refine KT.oy rfl (OY.idx (d := 33) (s := x29) (i := s2.2) (size := 1) (elem := 3) _ _ _ rfl rfl rfl (by kernel_rfl) (by kernel_rfl) rfl rfl (fun x33 => ?_))
  refine KT.l 34 (fun x34 => ?_)
  refine KT.pv 8 (.int .i64 x34) ?_
  refine KT.nil ?_
  refine SX.seq ?_
  refine SC.seq ?_
  refine SC.seq ?_
  refine SC.region' ?_
  refine KT.pv 35 (.slice p1_keeps.base p1_keeps.len p1_keeps.cap) ?_
  refine KT.pv 36 (.int .i64 ((p1_keeps.len : Nat) : Int)) ?_
  refine KT.pv 37 (.bool (decide (((p1_keeps.len : Nat) : Int) > 0))) ?_
  refine KT.pv 38 (.bool (decide (((p1_keeps.len : Nat) : Int) > 0))) ?_
  refine KT.joinO (β := Bool) 10 (fun r3 => [(48, (.bool r3)), (1, (.slice p1_keeps.base p1_keeps.len p1_keeps.cap)), (4, (.int .i64 s2.1)), (6, (.pointer x23)), (8, (.int .i64 x34)), (18, (.slice x18.base x18.len x18.cap)), (19, (.int .i64 ((x18.len : Nat) : Int))), (20, (.int .i64 s1.2)), (29, (.slice x29.base x29.len x29.cap)), (30, (.int .i64 ((x29.len : Nat) : Int))), (31, (.int .i64 s2.2))]) (fun r3 => ?_) (fun j3 => ?_)
  refine KT.pv 49 (.bool r3) ?_
  refine KT.joinO (β := Bool) 6 (fun r4 => [(55, (.bool r4)), (1, (.slice p1_keeps.base p1_keeps.len p1_keeps.cap)), (4, (.int .i64 s2.1)), (6, (.pointer x23)), (8, (.int .i64 x34)), (18, (.slice x18.base x18.len x18.cap)), (19, (.int .i64 ((x18.len : Nat) : Int))), (20, (.int .i64 s1.2)), (29, (.slice x29.base x29.len x29.cap)), (30, (.int .i64 ((x29.len : Nat) : Int))), (31, (.int .i64 s2.2))]) (fun r4 => ?_) (fun j4 => ?_)
  refine KT.nil ?_
  refine SX.seq ?_
  refine SC.cond (b := r4) rfl ?_ ?_
  refine SC.draw 13 (fun f => Nat.beq f 12) rfl (by kernel_rfl) (fun S5 => ?_)
  refine KT.pvA 0 56 (.pointer x23) ?_
  refine KT.tp 1 (OY.nil (d := 57) (p := x23) _ rfl rfl rfl rfl (fun x57 => ?_))
  refine KT.pvA 2 58 (.pointer (some x57)) ?_
  refine KT.tk 3 (OY.ldI (d := 59) _ _ rfl rfl (by kernel_rfl) rfl rfl (fun x59 => ?_))
  refine KT.pvA 4 60 (.int .i64 x34) ?_
  refine KT.pvA 5 61 (.pointer x23) ?_
  refine KT.tp 6 (OY.nil (d := 62) (p := x23) _ rfl rfl rfl rfl (fun x62 => ?_))
  refine KT.pvA 7 63 (.pointer (some (Addr.add x62 1))) ?_
  refine KT.tk 8 (OY.ldI (d := 64) _ _ rfl rfl (by kernel_rfl) rfl rfl (fun x64 => ?_))
  refine KT.pvA 9 65 (.int .i64 x34) ?_
  refine KT.one 10 rfl (by kernel_rfl) rfl (OW.step (OW.look (d := 66) (enc := vS) (⟨none, 0, 0⟩) 3 46 .i64 _ _ _ rfl rfl rfl (by kernel_rfl) (by kernel_rfl) (by kernel_rfl) rfl rfl (fun x66 => ?_)))
  refine KT.and ?_
  refine KT.tp 11 (OY.idx (d := 67) (s := x59) (i := x34) (size := 1) (elem := 46) _ _ _ rfl rfl rfl (by kernel_rfl) (by kernel_rfl) rfl rfl (fun x67 => ?_))
  refine KT.last 12 rfl (by kernel_rfl) rfl rfl (OW.st _ _ _ rfl rfl rfl rfl (by kernel_rfl) rfl ?_)
  refine KT.doneN (by kernel_rfl) ?_
  refine SX.seq ?_
  refine SC.region' ?_
  refine KT.pv 68 (.int .i64 s2.1) ?_
  refine KT.pv 69 (.int .i64 (w64 (s2.1 + 1))) ?_
  refine KT.pv 4 (.int .i64 (w64 (s2.1 + 1))) ?_
  refine KT.nil ?_
  refine SX.block ?_
  refine SX.seq ?_
  refine SC.region' ?_
  refine KT.pv 70 (.int .i64 (w64 (s2.2 + 1))) ?_
  refine KT.pv 31 (.int .i64 (w64 (s2.2 + 1))) ?_
  refine KT.nil ?_
  exact SX.loop_next (.cons rfl (.cons rfl (.cons rfl (.cons rfl (.cons rfl (.cons rfl (.cons rfl (.cons rfl (.cons rfl (.nil))))))))))
  refine SC.skip ?_
  refine SX.seq ?_
  refine SC.region' ?_
  refine KT.pv 68 (.int .i64 s2.1) ?_
  refine KT.pv 69 (.int .i64 (w64 (s2.1 + 1))) ?_
  refine KT.pv 4 (.int .i64 (w64 (s2.1 + 1))) ?_
  refine KT.nil ?_
  refine SX.block ?_
  refine SX.seq ?_
  refine SC.region' ?_
  refine KT.pv 70 (.int .i64 (w64 (s2.2 + 1))) ?_
  refine KT.pv 31 (.int .i64 (w64 (s2.2 + 1))) ?_
  refine KT.nil ?_
  exact SX.loop_next (.cons rfl (.cons rfl (.cons rfl (.cons rfl (.cons rfl (.cons rfl (.cons rfl (.cons rfl (.cons rfl (.nil))))))))))
  refine KT.ite (b := r3) 49 rfl ?_ ?_
  refine KT.pv 50 (.pointer x23) ?_
  refine KT.nm 51 (fun x51 => ?_)
  refine KT.pv 52 (.pointer (some (Addr.add x51 2))) ?_
  refine KT.l 53 (fun x53 => ?_)
  refine KT.pv 54 (.bool (!x53)) ?_
  refine KT.pv 55 (.bool (!x53)) ?_
  exact KT.leafO j4 (.cons rfl (.cons rfl (.cons rfl (.cons rfl (.cons rfl (.cons rfl (.cons rfl (.cons rfl (.cons rfl (.cons rfl (.cons rfl (.nil))))))))))))
  refine KT.sk ?_
  refine KT.sk ?_
  refine KT.sk ?_
  refine KT.sk ?_
  refine KT.sk ?_
  refine KT.pv 55 (.bool false) ?_
  exact KT.leafO j4 (.cons rfl (.cons rfl (.cons rfl (.cons rfl (.cons rfl (.cons rfl (.cons rfl (.cons rfl (.cons rfl (.cons rfl (.cons rfl (.nil))))))))))))
  refine KT.ite (b := decide (((p1_keeps.len : Nat) : Int) > 0)) 38 rfl ?_ ?_
  refine KT.pv 39 (.slice p1_keeps.base p1_keeps.len p1_keeps.cap) ?_
  refine KT.pv 40 (.int .i64 s2.1) ?_
  refine KT.pv 41 (.slice p1_keeps.base p1_keeps.len p1_keeps.cap) ?_
  refine KT.pv 42 (.int .i64 ((p1_keeps.len : Nat) : Int)) ?_
  refine KT.oy rfl (OY.rem (d := 43) (x := s2.1) (y := ((p1_keeps.len : Nat) : Int)) _ _ _ _ (Int.tmod s2.1 ((p1_keeps.len : Nat) : Int)) rfl rfl rfl rfl rfl rfl ?_)
  refine KT.oy rfl (OY.idx (d := 44) (s := p1_keeps) (i := Int.tmod s2.1 ((p1_keeps.len : Nat) : Int)) (size := 1) (elem := 3) _ _ _ rfl rfl rfl (by kernel_rfl) (by kernel_rfl) rfl rfl (fun x44 => ?_))
  refine KT.l 45 (fun x45 => ?_)
  refine KT.pv 46 (.int .i64 (bAnd .i64 x45 1)) ?_
  refine KT.pv 47 (.bool ((bAnd .i64 x45 1) == 1)) ?_
  refine KT.pv 48 (.bool ((bAnd .i64 x45 1) == 1)) ?_
  exact KT.leafO j3 (.cons rfl (.cons rfl (.cons rfl (.cons rfl (.cons rfl (.cons rfl (.cons rfl (.cons rfl (.cons rfl (.cons rfl (.cons rfl (.nil))))))))))))
  refine KT.sk ?_
  refine KT.sk ?_
  refine KT.sk ?_
  refine KT.sk ?_
  refine KT.sk ?_
  refine KT.sk ?_
  refine KT.sk ?_
  refine KT.sk ?_
  refine KT.sk ?_
  refine KT.pv 48 (.bool false) ?_
  exact KT.leafO j3 (.cons rfl (.cons rfl (.cons rfl (.cons rfl (.cons rfl (.cons rfl (.cons rfl (.cons rfl (.cons rfl (.cons rfl (.cons rfl (.nil))))))))))))
  refine SC.exit ?_
  refine SX.then_exit ?_
  refine SX.loop_exit ?_
  refine SX.block_hit ?_
  refine SX.seq ?_
  refine SC.region' ?_
  refine KT.pv 71 (.pointer x23) ?_
  refine KT.nm 72 (fun x72 => ?_)
  refine KT.pv 73 (.pointer (some (Addr.add x72 1))) ?_
  refine KT.l 74 (fun x74 => ?_)
  refine KT.ow rfl (OW.clearMap0 _ _ 3 46 rfl rfl (by kernel_rfl) rfl ?_)
  refine KT.nil ?_
  refine SX.block ?_
  refine SX.seq ?_
  refine SC.region' ?_
  refine KT.pv 75 (.int .i64 (w64 (s1.2 + 1))) ?_
  refine KT.pv 20 (.int .i64 (w64 (s1.2 + 1))) ?_
  refine KT.nil ?_
  exact SX.loop_next (.cons rfl (.cons rfl (.cons rfl (.cons rfl (.cons rfl (.nil))))))
  refine SC.exit ?_
  refine SX.then_exit ?_
  refine SX.loop_exit ?_
  refine SX.block_hit ?_
  refine SX.endBody [] rfl ?_
  exact RS.nil rfl
set_option maxRecDepth 100000 in
theorem device_Rack_Arm_sim (p0_r : (Option Addr)) (p1_calls : Int) (Qf : Unit → World → Prop) (w : World) (hm : device_Rack_Arm p0_r p1_calls Qf w) : Calls Try.prog 43 #[(.pointer p0_r), (.int .i64 p1_calls)] w (RetPost (fun y : Unit => (.tuple #[])) Qf) := by
  refine calls_of (fn := Try.f43) (l := [(.pointer p0_r), (.int .i64 p1_calls)]) (m := device_Rack_Arm p0_r p1_calls) 9 (by kernel_rfl) rfl rfl rfl (fun Qf0 => ?_) Qf w hm
  clear hm w Qf
  unfold device_Rack_Arm
  refine SC.region' ?_
  refine KT.pv 4 (.pointer p0_r) ?_
  refine KT.pv 5 (.int .i64 p1_calls) ?_
  refine KT.pv 6 (.int .i64 (maxI p1_calls (-1))) ?_
  refine KT.nm 7 (fun x7 => ?_)
  refine KT.pv 8 (.pointer (some (Addr.add x7 2))) ?_
  refine KT.s ?_
  refine KT.nil ?_
  refine SX.endBody [] rfl ?_
  exact RS.nil rfl
set_option maxRecDepth 100000 in
theorem ref02_Rack_Failed_sim (p0_r : (Option Addr)) (p1_disk : Int) (Qf : Bool → World → Prop) (w : World) (hm : ref02_Rack_Failed p0_r p1_disk Qf w) : Calls Try.prog 58 #[(.pointer p0_r), (.int .i64 p1_disk)] w (RetPost Value.bool Qf) := by
  refine calls_of (fn := Try.f58) (l := [(.pointer p0_r), (.int .i64 p1_disk)]) (m := ref02_Rack_Failed p0_r p1_disk) 24 (by kernel_rfl) rfl rfl rfl (fun Qf0 => ?_) Qf w hm
  clear hm w Qf
  unfold ref02_Rack_Failed
  refine SC.seq ?_
  refine SC.region' ?_
  refine KT.pv 4 (.bool false) ?_
  refine KT.nil ?_
  refine SX.seq ?_
  refine SC.seq ?_
  refine SC.region' ?_
  refine KT.pv 5 (.int .i64 p1_disk) ?_
  refine KT.pv 6 (.bool (decide (p1_disk ≥ 0))) ?_
  refine KT.pv 7 (.bool (decide (p1_disk ≥ 0))) ?_
  refine KT.joinO (β := Bool) 7 (fun r1 => [(14, (.bool r1)), (0, (.pointer p0_r)), (1, (.int .i64 p1_disk))]) (fun r1 => ?_) (fun j1 => ?_)
  refine KT.pv 15 (.bool r1) ?_
  refine KT.joinO (β := Bool) 8 (fun r2 => [(23, (.bool r2))]) (fun r2 => ?_) (fun j2 => ?_)
  refine KT.pv 4 (.bool r2) ?_
  refine KT.nil ?_
  refine SX.seq ?_
  refine SC.ret ?_
  refine SX.ret [.tmp 4] rfl ?_
  refine RS.tmp (.bool r2) rfl ?_
  exact RS.nil rfl
  refine KT.ite (b := r1) 15 rfl ?_ ?_
  refine KT.pv 16 (.pointer p0_r) ?_
  refine KT.nm 17 (fun x17 => ?_)
  refine KT.pv 18 (.pointer (some (Addr.add x17 4))) ?_
  refine KT.l 19 (fun x19 => ?_)
  refine KT.pv 20 (.int .i64 p1_disk) ?_
  refine KT.oy rfl (OY.idx (d := 21) (s := x19) (i := p1_disk) (size := 1) (elem := 4) _ _ _ rfl rfl rfl (by kernel_rfl) (by kernel_rfl) rfl rfl (fun x21 => ?_))
  refine KT.l 22 (fun x22 => ?_)
  refine KT.pv 23 (.bool x22) ?_
  exact KT.leafO j2 (.cons rfl (.nil))
  refine KT.sk ?_
  refine KT.sk ?_
  refine KT.sk ?_
  refine KT.sk ?_
  refine KT.sk ?_
  refine KT.sk ?_
  refine KT.sk ?_
  refine KT.pv 23 (.bool false) ?_
  exact KT.leafO j2 (.cons rfl (.nil))
  refine KT.ite (b := decide (p1_disk ≥ 0)) 7 rfl ?_ ?_
  refine KT.pv 8 (.int .i64 p1_disk) ?_
  refine KT.pv 9 (.pointer p0_r) ?_
  refine KT.nm 10 (fun x10 => ?_)
  refine KT.pv 11 (.pointer (some x10)) ?_
  refine KT.l 12 (fun x12 => ?_)
  refine KT.pv 13 (.bool (decide (p1_disk < x12))) ?_
  refine KT.pv 14 (.bool (decide (p1_disk < x12))) ?_
  exact KT.leafO j1 (.cons rfl (.cons rfl (.cons rfl (.nil))))
  refine KT.sk ?_
  refine KT.sk ?_
  refine KT.sk ?_
  refine KT.sk ?_
  refine KT.sk ?_
  refine KT.sk ?_
  refine KT.pv 14 (.bool false) ?_
  exact KT.leafO j1 (.cons rfl (.cons rfl (.cons rfl (.nil))))
set_option maxRecDepth 100000 in
theorem device_Rack_Off_sim (p0_r : (Option Addr)) (Qf : Bool → World → Prop) (w : World) (hm : device_Rack_Off p0_r Qf w) : Calls Try.prog 56 #[(.pointer p0_r)] w (RetPost Value.bool Qf) := by
  refine calls_of (fn := Try.f56) (l := [(.pointer p0_r)]) (m := device_Rack_Off p0_r) 7 (by kernel_rfl) rfl rfl rfl (fun Qf0 => ?_) Qf w hm
  clear hm w Qf
  unfold device_Rack_Off
  refine SC.seq ?_
  refine SC.region' ?_
  refine KT.pv 2 (.bool false) ?_
  refine KT.nil ?_
  refine SX.seq ?_
  refine SC.seq ?_
  refine SC.region' ?_
  refine KT.pv 3 (.pointer p0_r) ?_
  refine KT.nm 4 (fun x4 => ?_)
  refine KT.pv 5 (.pointer (some (Addr.add x4 3))) ?_
  refine KT.l 6 (fun x6 => ?_)
  refine KT.pv 2 (.bool x6) ?_
  refine KT.nil ?_
  refine SX.seq ?_
  refine SC.ret ?_
  refine SX.ret [.tmp 2] rfl ?_
  refine RS.tmp (.bool x6) rfl ?_
  exact RS.nil rfl
set_option maxRecDepth 100000 in
theorem bank_Bank_Off_sim (p0_b : (Option Addr)) (Qf : Bool → World → Prop) (w : World) (hm : bank_Bank_Off p0_b Qf w) : Calls Try.prog 84 #[(.pointer p0_b)] w (RetPost Value.bool Qf) := by
  refine calls_of (fn := Try.f84) (l := [(.pointer p0_b)]) (m := bank_Bank_Off p0_b) 8 (by kernel_rfl) rfl rfl rfl (fun Qf0 => ?_) Qf w hm
  clear hm w Qf
  unfold bank_Bank_Off
  refine SC.seq ?_
  refine SC.region' ?_
  refine KT.pv 2 (.bool false) ?_
  refine KT.nil ?_
  refine SX.seq ?_
  refine SC.seq ?_
  refine SC.region' ?_
  refine KT.pv 3 (.pointer p0_b) ?_
  refine KT.nm 4 (fun x4 => ?_)
  refine KT.pv 5 (.pointer (some x4)) ?_
  refine KT.l 6 (fun x6 => ?_)
  refine KT.cl Value.bool 7 56 #[(.pointer x6)] (device_Rack_Off_sim x6) (fun x7 => ?_)
  refine KT.pv 2 (.bool x7) ?_
  refine KT.nil ?_
  refine SX.seq ?_
  refine SC.ret ?_
  refine SX.ret [.tmp 2] rfl ?_
  refine RS.tmp (.bool x7) rfl ?_
  exact RS.nil rfl
set_option maxRecDepth 100000 in
theorem ref00_CopyBytes_sim (p0_b : Slc) (Qf : Slc → World → Prop) (w : World) (hm : ref00_CopyBytes p0_b Qf w) : Calls Try.prog 89 #[(.slice p0_b.base p0_b.len p0_b.cap)] w (RetPost vS Qf) := by
  refine calls_of (fn := Try.f89) (l := [(.slice p0_b.base p0_b.len p0_b.cap)]) (m := ref00_CopyBytes p0_b) 9 (by kernel_rfl) rfl rfl rfl (fun Qf0 => ?_) Qf w hm
  clear hm w Qf
  unfold ref00_CopyBytes
  refine SC.seq ?_
  refine SC.region' ?_
  refine KT.pv 2 (.slice none 0 0) ?_
  refine KT.nil ?_
  refine SX.seq ?_
  refine SC.seq ?_
  refine SC.region' ?_
  refine KT.nw 4 (fun ad => .slice (some ad) 0 0) 5 (fun x4 => ?_)
  refine KT.pv 3 (.slice (some x4) 0 0) ?_
  refine KT.nil ?_
  refine SX.seq ?_
  refine SC.seq ?_
  refine SC.region' ?_
  refine KT.pv 5 (.slice (some x4) 0 0) ?_
  refine KT.pv 6 (.slice p0_b.base p0_b.len p0_b.cap) ?_
  refine KT.ow rfl (OW.append (d := 7) (s := ⟨some x4, 0, 0⟩) (x := p0_b) [(.int .u8 0)] 1 5 _ _ _ _ rfl rfl rfl rfl (by kernel_rfl) (by kernel_rfl) rfl rfl rfl (fun x7 => ?_))
  refine KT.pv 3 (.slice x7.base x7.len x7.cap) ?_
  refine KT.nil ?_
  refine SX.seq ?_
  refine SC.seq ?_
  refine SC.region' ?_
  refine KT.pv 8 (.slice x7.base x7.len x7.cap) ?_
  refine KT.pv 2 (.slice x7.base x7.len x7.cap) ?_
  refine KT.nil ?_
  refine SX.seq ?_
  refine SC.ret ?_
  refine SX.ret [.tmp 2] rfl ?_
  refine RS.tmp (.slice x7.base x7.len x7.cap) rfl ?_
  exact RS.nil rfl
set_option maxRecDepth 100000 in
theorem ref02_Rack_Arm_sim (p0_r : (Option Addr)) (p1_calls : Int) (Qf : Unit → World → Prop) (w : World) (hm : ref02_Rack_Arm p0_r p1_calls Qf w) : Calls Try.prog 92 #[(.pointer p0_r), (.int .i64 p1_calls)] w (RetPost (fun y : Unit => (.tuple #[])) Qf) := by
  refine calls_of (fn := Try.f92) (l := [(.pointer p0_r), (.int .i64 p1_calls)]) (m := ref02_Rack_Arm p0_r p1_calls) 9 (by kernel_rfl) rfl rfl rfl (fun Qf0 => ?_) Qf w hm
  clear hm w Qf
  unfold ref02_Rack_Arm
  refine SC.region' ?_
  refine KT.pv 4 (.pointer p0_r) ?_
  refine KT.pv 5 (.int .i64 p1_calls) ?_
  refine KT.pv 6 (.int .i64 (maxI p1_calls (-1))) ?_
  refine KT.nm 7 (fun x7 => ?_)
  refine KT.pv 8 (.pointer (some (Addr.add x7 6))) ?_
  refine KT.s ?_
  refine KT.nil ?_
  refine SX.endBody [] rfl ?_
  exact RS.nil rfl
set_option maxRecDepth 100000 in
theorem ref02_Rack_Doom_sim (p0_r : (Option Addr)) (p1_disk : Int) (p2_calls : Int) (Qf : Int → World → Prop) (w : World) (hm : ref02_Rack_Doom p0_r p1_disk p2_calls Qf w) : Calls Try.prog 93 #[(.pointer p0_r), (.int .i64 p1_disk), (.int .i64 p2_calls)] w (RetPost (Value.int .i64) Qf) := by
  refine calls_of (fn := Try.f93) (l := [(.pointer p0_r), (.int .i64 p1_disk), (.int .i64 p2_calls)]) (m := ref02_Rack_Doom p0_r p1_disk p2_calls) 25 (by kernel_rfl) rfl rfl rfl (fun Qf0 => ?_) Qf w hm
  clear hm w Qf
  unfold ref02_Rack_Doom
  refine SC.seq ?_
  refine SC.region' ?_
  refine KT.pv 6 (.int .i64 0) ?_
  refine KT.nil ?_
  refine SX.seq ?_
  refine SC.seq ?_
  refine SC.seq ?_
  refine SC.region' ?_
  refine KT.pv 7 (.int .i64 p1_disk) ?_
  refine KT.pv 8 (.bool (decide (p1_disk < 0))) ?_
  refine KT.pv 9 (.bool (decide (p1_disk < 0))) ?_
  refine KT.joinO (β := Bool) 7 (fun r1 => [(16, (.bool r1)), (0, (.pointer p0_r)), (1, (.int .i64 p1_disk)), (2, (.int .i64 p2_calls))]) (fun r1 => ?_) (fun j1 => ?_)
  refine KT.nil ?_
  refine SX.seq ?_
  refine SC.cond (b := r1) rfl ?_ ?_
  refine SC.seq ?_
  refine SC.region' ?_
  refine KT.pv 6 (.int .i64 11) ?_
  refine KT.nil ?_
  refine SX.seq ?_
  refine SC.ret ?_
  refine SX.then_ret ?_
  refine SX.ret [.tmp 6] rfl ?_
  refine RS.tmp (.int .i64 11) rfl ?_
  exact RS.nil rfl
  refine SC.skip ?_
  refine SX.seq ?_
  refine SC.seq ?_
  refine SC.region' ?_
  refine KT.pv 17 (.pointer p0_r) ?_
  refine KT.nm 18 (fun x18 => ?_)
  refine KT.pv 19 (.pointer (some (Addr.add x18 5))) ?_
  refine KT.l 20 (fun x20 => ?_)
  refine KT.pv 21 (.int .i64 p1_disk) ?_
  refine KT.pv 22 (.int .i64 p2_calls) ?_
  refine KT.pv 23 (.int .i64 (maxI p2_calls (-1))) ?_
  refine KT.oy rfl (OY.idx (d := 24) (s := x20) (i := p1_disk) (size := 1) (elem := 3) _ _ _ rfl rfl rfl (by kernel_rfl) (by kernel_rfl) rfl rfl (fun x24 => ?_))
  refine KT.s ?_
  refine KT.nil ?_
  refine SX.seq ?_
  refine SC.seq ?_
  refine SC.region' ?_
  refine KT.pv 6 (.int .i64 0) ?_
  refine KT.nil ?_
  refine SX.seq ?_
  refine SC.ret ?_
  refine SX.ret [.tmp 6] rfl ?_
  refine RS.tmp (.int .i64 0) rfl ?_
  exact RS.nil rfl
  refine KT.ite (b := decide (p1_disk < 0)) 9 rfl ?_ ?_
  refine KT.sk ?_
  refine KT.sk ?_
  refine KT.sk ?_
  refine KT.sk ?_
  refine KT.sk ?_
  refine KT.sk ?_
  refine KT.pv 16 (.bool true) ?_
  exact KT.leafO j1 (.cons rfl (.cons rfl (.cons rfl (.cons rfl (.nil)))))
  refine KT.pv 10 (.int .i64 p1_disk) ?_
  refine KT.pv 11 (.pointer p0_r) ?_
  refine KT.nm 12 (fun x12 => ?_)
  refine KT.pv 13 (.pointer (some x12)) ?_
  refine KT.l 14 (fun x14 => ?_)
  refine KT.pv 15 (.bool (decide (p1_disk ≥ x14))) ?_
  refine KT.pv 16 (.bool (decide (p1_disk ≥ x14))) ?_
  exact KT.leafO j1 (.cons rfl (.cons rfl (.cons rfl (.cons rfl (.nil)))))
set_option maxRecDepth 100000 in
theorem ref02_Rack_Restore_sim (p0_r : (Option Addr)) (p1_keeps : Slc) (Qf : Unit → World → Prop) (w : World) (hm : ref02_Rack_Restore p0_r p1_keeps Qf w) : Calls Try.prog 95 #[(.pointer p0_r), (.slice p1_keeps.base p1_keeps.len p1_keeps.cap)] w (RetPost (fun y : Unit => (.tuple #[])) Qf) := by
  refine calls_of (fn := Try.f95) (l := [(.pointer p0_r), (.slice p1_keeps.base p1_keeps.len p1_keeps.cap)]) (m := ref02_Rack_Restore p0_r p1_keeps) 80 (by kernel_rfl) rfl rfl rfl (fun Qf0 => ?_) Qf w hm
  clear hm w Qf
  unfold ref02_Rack_Restore
  refine SC.seq ?_
  refine SC.region' ?_
  refine KT.pv 6 (.pointer p0_r) ?_
  refine KT.nm 7 (fun x7 => ?_)
  refine KT.pv 8 (.pointer (some (Addr.add x7 7))) ?_
  refine KT.s ?_
  refine KT.nil ?_
  refine SX.seq ?_
  refine SC.seq ?_
  refine SC.region' ?_
  refine KT.pv 9 (.pointer p0_r) ?_
  refine KT.nm 10 (fun x10 => ?_)
  refine KT.pv 11 (.pointer (some (Addr.add x10 6))) ?_
  refine KT.s ?_
  refine KT.nil ?_
  refine SX.seq ?_
  refine SC.seq ?_
  refine SC.region' ?_
  refine KT.pv 4 (.int .i64 0) ?_
  refine KT.nil ?_
  refine SX.seq ?_
  refine SC.seq ?_
  refine SC.region' ?_
  refine KT.pv 5 (.int .i64 0) ?_
  refine KT.nil ?_
  refine SX.seq ?_
  refine SC.block ?_
  refine SC.loop (σ := (Int × Int)) (fun s1 => [(0, (.pointer p0_r)), (1, (.slice p1_keeps.base p1_keeps.len p1_keeps.cap)), (4, (.int .i64 s1.1)), (5, (.int .i64 s1.2))]) (.cons rfl (.cons rfl (.cons rfl (.cons rfl (.nil))))) (fun _ _ _ s1 => ?_)
  refine SC.seq ?_
  refine SC.seq ?_
  refine SC.region' ?_
  refine KT.pv 12 (.int .i64 s1.2) ?_
  refine KT.pv 13 (.pointer p0_r) ?_
  refine KT.nm 14 (fun x14 => ?_)
  refine KT.pv 15 (.pointer (some (Addr.add x14 3))) ?_
  refine KT.l 16 (fun x16 => ?_)
  refine KT.pv 17 (.int .i64 ((x16.len : Nat) : Int)) ?_
  refine KT.pv 18 (.bool (decide (s1.2 < ((x16.len : Nat) : Int)))) ?_
  refine KT.nil ?_
  refine SX.seq ?_
  refine SC.cond (b := decide (s1.2 < ((x16.len : Nat) : Int))) rfl ?_ ?_
  refine SC.skip ?_
  refine SX.seq ?_
  refine SC.seq ?_
  refine SC.block ?_
  refine SC.seq ?_
  refine SC.seq ?_
  refine SC.region' ?_
  refine KT.pv 21 (.pointer p0_r) ?_
  refine KT.nm 22 (fun x22 => ?_)
  refine KT.pv 23 (.pointer (some (Addr.add x22 3))) ?_
  refine KT.l 24 (fun x24 => ?_)
  refine KT.pv 25 (.int .i64 s1.2) ?_
  refine KT.oy rfl (OY.idx (d := 26) (s := x24) (i := s1.2) (size := 1) (elem := 46) _ _ _ rfl rfl rfl (by kernel_rfl) (by kernel_rfl) rfl rfl (fun x26 => ?_))
  refine KT.l 27 (fun x27 => ?_)
  refine KT.pv 28 (.int .i64 ((x27.len : Nat) : Int)) ?_
  refine KT.pv 29 (.bool (((x27.len : Nat) : Int) == 0)) ?_
  refine KT.nil ?_
  refine SX.seq ?_
  refine SC.cond (b := ((x27.len : Nat) : Int) == 0) rfl ?_ ?_
  refine SC.exit ?_
  refine SX.then_exit ?_
  refine SX.block_hit ?_
  refine SX.seq ?_
  refine SC.region' ?_
  refine KT.pv 19 (.int .i64 s1.2) ?_
  refine KT.pv 20 (.int .i64 (w64 (s1.2 + 1))) ?_
  refine KT.pv 5 (.int .i64 (w64 (s1.2 + 1))) ?_
  refine KT.nil ?_
  exact SX.loop_next (.cons rfl (.cons rfl (.cons rfl (.cons rfl (.nil)))))
  refine SC.skip ?_
  refine SX.seq ?_
  refine SC.seq ?_
  refine SC.seq ?_
  refine SC.join (β := (Bool)) (fun b2 => [(0, (.pointer p0_r)), (1, (.slice p1_keeps.base p1_keeps.len p1_keeps.cap)), (4, (.int .i64 s1.1)), (5, (.int .i64 s1.2)), (58, (.bool b2))]) (fun b2 => ?_) (fun j2 => ?_)
  refine SX.seq ?_
  refine SC.join (β := Unit) (fun b3 => [(0, (.pointer p0_r)), (1, (.slice p1_keeps.base p1_keeps.len p1_keeps.cap)), (4, (.int .i64 s1.1)), (5, (.int .i64 s1.2))]) (fun b3 => ?_) (fun j3 => ?_)
  refine SX.seq ?_
  refine SC.seq ?_
  refine SC.region' ?_
  refine KT.pv 72 (.pointer p0_r) ?_
  refine KT.nm 73 (fun x73 => ?_)
  refine KT.pv 74 (.pointer (some (Addr.add x73 3))) ?_
  refine KT.l 75 (fun x75 => ?_)
  refine KT.pv 76 (.int .i64 s1.2) ?_
  refine KT.oy rfl (OY.idx (d := 77) (s := x75) (i := s1.2) (size := 1) (elem := 46) _ _ _ rfl rfl rfl (by kernel_rfl) (by kernel_rfl) rfl rfl (fun x77 => ?_))
  refine KT.s ?_
  refine KT.nil ?_
  refine SX.seq ?_
  refine SC.region' ?_
  refine KT.pv 78 (.int .i64 s1.1) ?_
  refine KT.pv 79 (.int .i64 (w64 (s1.1 + 1))) ?_
  refine KT.pv 4 (.int .i64 (w64 (s1.1 + 1))) ?_
  refine KT.nil ?_
  refine SX.block ?_
  refine SX.seq ?_
  refine SC.region' ?_
  refine KT.pv 19 (.int .i64 s1.2) ?_
  refine KT.pv 20 (.int .i64 (w64 (s1.2 + 1))) ?_
  refine KT.pv 5 (.int .i64 (w64 (s1.2 + 1))) ?_
  refine KT.nil ?_
  exact SX.loop_next (.cons rfl (.cons rfl (.cons rfl (.cons rfl (.nil)))))
  refine SC.cond (b := b2) rfl ?_ ?_
  refine SC.draw 14 (fun f => Nat.beq f 13) rfl (by kernel_rfl) (fun S4 => ?_)
  refine KT.pvA 0 59 (.pointer p0_r) ?_
  refine KT.tp 1 (OY.nil (d := 60) (p := p0_r) _ rfl rfl rfl rfl (fun x60 => ?_))
  refine KT.pvA 2 61 (.pointer (some (Addr.add x60 2))) ?_
  refine KT.tk 3 (OY.ldI (d := 62) _ _ rfl rfl (by kernel_rfl) rfl rfl (fun x62 => ?_))
  refine KT.pvA 4 63 (.int .i64 s1.2) ?_
  refine KT.pvA 5 64 (.pointer p0_r) ?_
  refine KT.tp 6 (OY.nil (d := 65) (p := p0_r) _ rfl rfl rfl rfl (fun x65 => ?_))
  refine KT.pvA 7 66 (.pointer (some (Addr.add x65 3))) ?_
  refine KT.tk 8 (OY.ldI (d := 67) _ _ rfl rfl (by kernel_rfl) rfl rfl (fun x67 => ?_))
  refine KT.pvA 9 68 (.int .i64 s1.2) ?_
  refine KT.tp 10 (OY.idx (d := 69) (s := x67) (i := s1.2) (size := 1) (elem := 46) _ _ _ rfl rfl rfl (by kernel_rfl) (by kernel_rfl) rfl rfl (fun x69 => ?_))
  refine KT.tk 11 (OY.ldI (d := 70) _ _ rfl rfl (by kernel_rfl) rfl rfl (fun x70 => ?_))
  refine KT.tp 12 (OY.idx (d := 71) (s := x62) (i := s1.2) (size := 1) (elem := 46) _ _ _ rfl rfl rfl (by kernel_rfl) (by kernel_rfl) rfl rfl (fun x71 => ?_))
  refine KT.last 13 rfl (by kernel_rfl) rfl rfl (OW.st _ _ _ rfl rfl rfl rfl (by kernel_rfl) rfl ?_)
  refine KT.doneN (by kernel_rfl) ?_
  exact SX.leafS j3 (.cons rfl (.cons rfl (.cons rfl (.cons rfl (.nil)))))
  refine SC.skip ?_
  exact SX.leafS j3 (.cons rfl (.cons rfl (.cons rfl (.cons rfl (.nil)))))
  refine SC.draw 29 (fun _ => false) rfl (by kernel_rfl) (fun S5 => ?_)
  refine KT.pvA 0 30 (.slice p1_keeps.base p1_keeps.len p1_keeps.cap) ?_
  refine KT.pvA 1 31 (.int .i64 ((p1_keeps.len : Nat) : Int)) ?_
  refine KT.pvA 2 32 (.bool (decide (((p1_keeps.len : Nat) : Int) > 0))) ?_
  refine KT.pvA 3 33 (.bool (decide (((p1_keeps.len : Nat) : Int) > 0))) ?_
  refine KT.ite (b := decide (((p1_keeps.len : Nat) : Int) > 0)) 33 rfl ?_ ?_
  refine KT.pvA 4 34 (.slice p1_keeps.base p1_keeps.len p1_keeps.cap) ?_
  refine KT.pvA 5 35 (.int .i64 s1.1) ?_
  refine KT.pvA 6 36 (.slice p1_keeps.base p1_keeps.len p1_keeps.cap) ?_
  refine KT.pvA 7 37 (.int .i64 ((p1_keeps.len : Nat) : Int)) ?_
  refine KT.tp 8 (OY.rem (d := 38) (x := s1.1) (y := ((p1_keeps.len : Nat) : Int)) _ _ _ _ (Int.tmod s1.1 ((p1_keeps.len : Nat) : Int)) rfl rfl rfl rfl rfl rfl ?_)
  refine KT.tp 9 (OY.idx (d := 39) (s := p1_keeps) (i := Int.tmod s1.1 ((p1_keeps.len : Nat) : Int)) (size := 1) (elem := 3) _ _ _ rfl rfl rfl (by kernel_rfl) (by kernel_rfl) rfl rfl (fun x39 => ?_))
  refine KT.tk 10 (OY.ldI (d := 40) _ _ rfl rfl (by kernel_rfl) rfl rfl (fun x40 => ?_))
  refine KT.pvA 11 41 (.int .i64 (bAnd .i64 x40 1)) ?_
  refine KT.pvA 12 42 (.bool ((bAnd .i64 x40 1) == 1)) ?_
  refine KT.pvA 13 43 (.bool ((bAnd .i64 x40 1) == 1)) ?_
  refine KT.pvA 14 44 (.bool ((bAnd .i64 x40 1) == 1)) ?_
  refine KT.ite (b := (bAnd .i64 x40 1) == 1) 44 rfl ?_ ?_
  refine KT.pvA 15 45 (.pointer p0_r) ?_
  refine KT.tp 16 (OY.nil (d := 46) (p := p0_r) _ rfl rfl rfl rfl (fun x46 => ?_))
  refine KT.pvA 17 47 (.pointer (some (Addr.add x46 4))) ?_
  refine KT.tk 18 (OY.ldI (d := 48) _ _ rfl rfl (by kernel_rfl) rfl rfl (fun x48 => ?_))
  refine KT.pvA 19 49 (.int .i64 s1.2) ?_
  refine KT.pvA 20 50 (.pointer p0_r) ?_
  refine KT.tp 21 (OY.nil (d := 51) (p := p0_r) _ rfl rfl rfl rfl (fun x51 => ?_))
  refine KT.pvA 22 52 (.pointer (some (Addr.add x51 1))) ?_
  refine KT.tk 23 (OY.ldI (d := 53) _ _ rfl rfl (by kernel_rfl) rfl rfl (fun x53 => ?_))
  refine KT.tp 24 (OY.quo (d := 54) (x := s1.2) (y := x53) _ _ _ _ (w64 (Int.tdiv s1.2 x53)) rfl rfl rfl rfl rfl rfl ?_)
  refine KT.tp 25 (OY.idx (d := 55) (s := x48) (i := w64 (Int.tdiv s1.2 x53)) (size := 1) (elem := 4) _ _ _ rfl rfl rfl (by kernel_rfl) (by kernel_rfl) rfl rfl (fun x55 => ?_))
  refine KT.tk 26 (OY.ldI (d := 56) _ _ rfl rfl (by kernel_rfl) rfl rfl (fun x56 => ?_))
  refine KT.pvA 27 57 (.bool (!x56)) ?_
  refine KT.pvA 28 58 (.bool (!x56)) ?_
  refine KT.doneA (by kernel_rfl) ?_
  refine SX.sub (T' := [(0, (.pointer p0_r)), (1, (.slice p1_keeps.base p1_keeps.len p1_keeps.cap)), (4, (.int .i64 s1.1)), (5, (.int .i64 s1.2)), (58, (.bool (!x56)))]) (.cons rfl (.cons rfl (.cons rfl (.cons rfl (.cons rfl (.nil)))))) ?_
  exact SX.leafS j2 (.cons rfl (.cons rfl (.cons rfl (.cons rfl (.cons rfl (.nil))))))
  refine KT.skA 15 ?_
  refine KT.skA 16 ?_
  refine KT.skA 17 ?_
  refine KT.skA 18 ?_
  refine KT.skA 19 ?_
  refine KT.skA 20 ?_
  refine KT.skA 21 ?_
  refine KT.skA 22 ?_
  refine KT.skA 23 ?_
  refine KT.skA 24 ?_
  refine KT.skA 25 ?_
  refine KT.skA 26 ?_
  refine KT.skA 27 ?_
  refine KT.pvA 28 58 (.bool false) ?_
  refine KT.doneA (by kernel_rfl) ?_
  refine SX.sub (T' := [(0, (.pointer p0_r)), (1, (.slice p1_keeps.base p1_keeps.len p1_keeps.cap)), (4, (.int .i64 s1.1)), (5, (.int .i64 s1.2)), (58, (.bool false))]) (.cons rfl (.cons rfl (.cons rfl (.cons rfl (.cons rfl (.nil)))))) ?_
  exact SX.leafS j2 (.cons rfl (.cons rfl (.cons rfl (.cons rfl (.cons rfl (.nil))))))
  refine KT.skA 4 ?_
  refine KT.skA 5 ?_
  refine KT.skA 6 ?_
  refine KT.skA 7 ?_
  refine KT.skA 8 ?_
  refine KT.skA 9 ?_
  refine KT.skA 10 ?_
  refine KT.skA 11 ?_
  refine KT.skA 12 ?_
  refine KT.pvA 13 43 (.bool false) ?_
  refine KT.pvA 14 44 (.bool false) ?_
  refine KT.skA 15 ?_
  refine KT.skA 16 ?_
  refine KT.skA 17 ?_
  refine KT.skA 18 ?_
  refine KT.skA 19 ?_
  refine KT.skA 20 ?_
  refine KT.skA 21 ?_
  refine KT.skA 22 ?_
  refine KT.skA 23 ?_
  refine KT.skA 24 ?_
  refine KT.skA 25 ?_
  refine KT.skA 26 ?_
  refine KT.skA 27 ?_
  refine KT.pvA 28 58 (.bool false) ?_
  refine KT.doneA (by kernel_rfl) ?_
  refine SX.sub (T' := [(0, (.pointer p0_r)), (1, (.slice p1_keeps.base p1_keeps.len p1_keeps.cap)), (4, (.int .i64 s1.1)), (5, (.int .i64 s1.2)), (58, (.bool false))]) (.cons rfl (.cons rfl (.cons rfl (.cons rfl (.cons rfl (.nil)))))) ?_
  exact SX.leafS j2 (.cons rfl (.cons rfl (.cons rfl (.cons rfl (.cons rfl (.nil))))))
  refine SC.exit ?_
  refine SX.then_exit ?_
  refine SX.loop_exit ?_
  refine SX.block_hit ?_
  refine SX.endBody [] rfl ?_
  exact RS.nil rfl
set_option maxRecDepth 100000 in
theorem ref02_Rack_there_sim (p0_r : (Option Addr)) (p1_disk : Int) (p2_sector : Int) (Qf : Bool → World → Prop) (w : World) (hm : ref02_Rack_there p0_r p1_disk p2_sector Qf w) : Calls Try.prog 97 #[(.pointer p0_r), (.int .i64 p1_disk), (.int .i64 p2_sector)] w (RetPost Value.bool Qf) := by
  refine calls_of (fn := Try.f97) (l := [(.pointer p0_r), (.int .i64 p1_disk), (.int .i64 p2_sector)]) (m := ref02_Rack_there p0_r p1_disk p2_sector) 29 (by kernel_rfl) rfl rfl rfl (fun Qf0 => ?_) Qf w hm
  clear hm w Qf
  unfold ref02_Rack_there
  refine SC.seq ?_
  refine SC.region' ?_
  refine KT.pv 6 (.bool false) ?_
  refine KT.nil ?_
  refine SX.seq ?_
  refine SC.seq ?_
  refine SC.region' ?_
  refine KT.pv 7 (.int .i64 p1_disk) ?_
  refine KT.pv 8 (.bool (decide (p1_disk ≥ 0))) ?_
  refine KT.pv 9 (.bool (decide (p1_disk ≥ 0))) ?_
  refine KT.joinO (β := Bool) 7 (fun r1 => [(16, (.bool r1)), (0, (.pointer p0_r)), (2, (.int .i64 p2_sector))]) (fun r1 => ?_) (fun j1 => ?_)
  refine KT.pv 17 (.bool r1) ?_
  refine KT.joinO (β := Bool) 3 (fun r2 => [(20, (.bool r2)), (0, (.pointer p0_r)), (2, (.int .i64 p2_sector))]) (fun r2 => ?_) (fun j2 => ?_)
  refine KT.pv 21 (.bool r2) ?_
  refine KT.joinO (β := Bool) 7 (fun r3 => [(28, (.bool r3))]) (fun r3 => ?_) (fun j3 => ?_)
  refine KT.pv 6 (.bool r3) ?_
  refine KT.nil ?_
  refine SX.seq ?_
  refine SC.ret ?_
  refine SX.ret [.tmp 6] rfl ?_
  refine RS.tmp (.bool r3) rfl ?_
  exact RS.nil rfl
  refine KT.ite (b := r2) 21 rfl ?_ ?_
  refine KT.pv 22 (.int .i64 p2_sector) ?_
  refine KT.pv 23 (.pointer p0_r) ?_
  refine KT.nm 24 (fun x24 => ?_)
  refine KT.pv 25 (.pointer (some (Addr.add x24 1))) ?_
  refine KT.l 26 (fun x26 => ?_)
  refine KT.pv 27 (.bool (decide (p2_sector < x26))) ?_
  refine KT.pv 28 (.bool (decide (p2_sector < x26))) ?_
  exact KT.leafO j3 (.cons rfl (.nil))
  refine KT.sk ?_
  refine KT.sk ?_
  refine KT.sk ?_
  refine KT.sk ?_
  refine KT.sk ?_
  refine KT.sk ?_
  refine KT.pv 28 (.bool false) ?_
  exact KT.leafO j3 (.cons rfl (.nil))
  refine KT.ite (b := r1) 17 rfl ?_ ?_
  refine KT.pv 18 (.int .i64 p2_sector) ?_
  refine KT.pv 19 (.bool (decide (p2_sector ≥ 0))) ?_
  refine KT.pv 20 (.bool (decide (p2_sector ≥ 0))) ?_
  exact KT.leafO j2 (.cons rfl (.cons rfl (.cons rfl (.nil))))
  refine KT.sk ?_
  refine KT.sk ?_
  refine KT.pv 20 (.bool false) ?_
  exact KT.leafO j2 (.cons rfl (.cons rfl (.cons rfl (.nil))))
  refine KT.ite (b := decide (p1_disk ≥ 0)) 9 rfl ?_ ?_
  refine KT.pv 10 (.int .i64 p1_disk) ?_
  refine KT.pv 11 (.pointer p0_r) ?_
  refine KT.nm 12 (fun x12 => ?_)
  refine KT.pv 13 (.pointer (some x12)) ?_
  refine KT.l 14 (fun x14 => ?_)
  refine KT.pv 15 (.bool (decide (p1_disk < x14))) ?_
  refine KT.pv 16 (.bool (decide (p1_disk < x14))) ?_
  exact KT.leafO j1 (.cons rfl (.cons rfl (.cons rfl (.nil))))
  refine KT.sk ?_
  refine KT.sk ?_
  refine KT.sk ?_
  refine KT.sk ?_
  refine KT.sk ?_
  refine KT.sk ?_
  refine KT.pv 16 (.bool false) ?_
  exact KT.leafO j1 (.cons rfl (.cons rfl (.cons rfl (.nil))))
set_option maxRecDepth 100000 in
theorem ref02_Rack_Read_sim (p0_r : (Option Addr)) (p1_disk : Int) (p2_sector : Int) (Qf : (Slc × Int) → World → Prop) (w : World) (hm : ref02_Rack_Read p0_r p1_disk p2_sector Qf w) : Calls Try.prog 88 #[(.pointer p0_r), (.int .i64 p1_disk), (.int .i64 p2_sector)] w (RetPost (fun y : (Slc × Int) => (.tuple #[(.slice y.1.base y.1.len y.1.cap), (.int .i64 y.2)])) Qf) := by
  refine calls_of (fn := Try.f88) (l := [(.pointer p0_r), (.int .i64 p1_disk), (.int .i64 p2_sector)]) (m := ref02_Rack_Read p0_r p1_disk p2_sector) 58 (by kernel_rfl) rfl rfl rfl (fun Qf0 => ?_) Qf w hm
  clear hm w Qf
  unfold ref02_Rack_Read
  refine SC.seq ?_
  refine SC.region' ?_
  refine KT.pv 6 (.slice none 0 0) ?_
  refine KT.pv 7 (.int .i64 0) ?_
  refine KT.nil ?_
  refine SX.seq ?_
  refine SC.seq ?_
  refine SC.seq ?_
  refine SC.region' ?_
  refine KT.pv 9 (.pointer p0_r) ?_
  refine KT.nm 10 (fun x10 => ?_)
  refine KT.pv 11 (.pointer (some (Addr.add x10 7))) ?_
  refine KT.l 12 (fun x12 => ?_)
  refine KT.nil ?_
  refine SX.seq ?_
  refine SC.cond (b := x12) rfl ?_ ?_
  refine SC.seq ?_
  refine SC.region' ?_
  refine KT.pv 6 (.slice none 0 0) ?_
  refine KT.pv 7 (.int .i64 12) ?_
  refine KT.nil ?_
  refine SX.seq ?_
  refine SC.ret ?_
  refine SX.then_ret ?_
  refine SX.ret [.tmp 6, .tmp 7] rfl ?_
  refine RS.tmp (.slice none 0 0) rfl ?_
  refine RS.tmp (.int .i64 12) rfl ?_
  exact RS.nil rfl
  refine SC.skip ?_
  refine SX.seq ?_
  refine SC.seq ?_
  refine SC.seq ?_
  refine SC.region' ?_
  refine KT.pv 13 (.pointer p0_r) ?_
  refine KT.pv 14 (.int .i64 p1_disk) ?_
  refine KT.pv 15 (.int .i64 p2_sector) ?_
  refine KT.cl Value.bool 16 97 #[(.pointer p0_r), (.int .i64 p1_disk), (.int .i64 p2_sector)] (ref02_Rack_there_sim p0_r p1_disk p2_sector) (fun x16 => ?_)
  refine KT.pv 17 (.bool (!x16)) ?_
  refine KT.nil ?_
  refine SX.seq ?_
  refine SC.cond (b := !x16) rfl ?_ ?_
  refine SC.seq ?_
  refine SC.region' ?_
  refine KT.pv 6 (.slice none 0 0) ?_
  refine KT.pv 7 (.int .i64 11) ?_
  refine KT.nil ?_
  refine SX.seq ?_
  refine SC.ret ?_
  refine SX.then_ret ?_
  refine SX.ret [.tmp 6, .tmp 7] rfl ?_
  refine RS.tmp (.slice none 0 0) rfl ?_
  refine RS.tmp (.int .i64 11) rfl ?_
  exact RS.nil rfl
  refine SC.skip ?_
  refine SX.seq ?_
  refine SC.seq ?_
  refine SC.seq ?_
  refine SC.region' ?_
  refine KT.pv 18 (.pointer p0_r) ?_
  refine KT.nm 19 (fun x19 => ?_)
  refine KT.pv 20 (.pointer (some (Addr.add x19 4))) ?_
  refine KT.l 21 (fun x21 => ?_)
  refine KT.pv 22 (.int .i64 p1_disk) ?_
  refine KT.oy rfl (OY.idx (d := 23) (s := x21) (i := p1_disk) (size := 1) (elem := 4) _ _ _ rfl rfl rfl (by kernel_rfl) (by kernel_rfl) rfl rfl (fun x23 => ?_))
  refine KT.l 24 (fun x24 => ?_)
  refine KT.nil ?_
  refine SX.seq ?_
  refine SC.cond (b := x24) rfl ?_ ?_
  refine SC.seq ?_
  refine SC.region' ?_
  refine KT.pv 6 (.slice none 0 0) ?_
  refine KT.pv 7 (.int .i64 13) ?_
  refine KT.nil ?_
  refine SX.seq ?_
  refine SC.ret ?_
  refine SX.then_ret ?_
  refine SX.ret [.tmp 6, .tmp 7] rfl ?_
  refine RS.tmp (.slice none 0 0) rfl ?_
  refine RS.tmp (.int .i64 13) rfl ?_
  exact RS.nil rfl
  refine SC.skip ?_
  refine SX.seq ?_
  refine SC.seq ?_
  refine SC.region' ?_
  refine KT.pv 25 (.int .i64 p1_disk) ?_
  refine KT.pv 26 (.pointer p0_r) ?_
  refine KT.nm 27 (fun x27 => ?_)
  refine KT.pv 28 (.pointer (some (Addr.add x27 1))) ?_
  refine KT.l 29 (fun x29 => ?_)
  refine KT.pv 30 (.int .i64 (w64 (p1_disk * x29))) ?_
  refine KT.pv 31 (.int .i64 p2_sector) ?_
  refine KT.pv 32 (.int .i64 (w64 ((w64 (p1_disk * x29)) + p2_sector))) ?_
  refine KT.pv 8 (.int .i64 (w64 ((w64 (p1_disk * x29)) + p2_sector))) ?_
  refine KT.nil ?_
  refine SX.sub (T' := [(0, (.pointer p0_r)), (8, (.int .i64 (w64 ((w64 (p1_disk * x29)) + p2_sector))))]) (.cons rfl (.cons rfl (.nil))) ?_
  refine SX.seq ?_
  refine SC.seq ?_
  refine SC.seq ?_
  refine SC.region' ?_
  refine KT.pv 33 (.pointer p0_r) ?_
  refine KT.nm 34 (fun x34 => ?_)
  refine KT.pv 35 (.pointer (some (Addr.add x34 3))) ?_
  refine KT.l 36 (fun x36 => ?_)
  refine KT.pv 37 (.int .i64 (w64 ((w64 (p1_disk * x29)) + p2_sector))) ?_
  refine KT.oy rfl (OY.idx (d := 38) (s := x36) (i := w64 ((w64 (p1_disk * x29)) + p2_sector)) (size := 1) (elem := 46) _ _ _ rfl rfl rfl (by kernel_rfl) (by kernel_rfl) rfl rfl (fun x38 => ?_))
  refine KT.l 39 (fun x39 => ?_)
  refine KT.pv 40 (.int .i64 ((x39.len : Nat) : Int)) ?_
  refine KT.pv 41 (.bool (decide (((x39.len : Nat) : Int) > 0))) ?_
  refine KT.nil ?_
  refine SX.seq ?_
  refine SC.cond (b := decide (((x39.len : Nat) : Int) > 0)) rfl ?_ ?_
  refine SC.seq ?_
  refine SC.region' ?_
  refine KT.pv 42 (.pointer p0_r) ?_
  refine KT.nm 43 (fun x43 => ?_)
  refine KT.pv 44 (.pointer (some (Addr.add x43 3))) ?_
  refine KT.l 45 (fun x45 => ?_)
  refine KT.pv 46 (.int .i64 (w64 ((w64 (p1_disk * x29)) + p2_sector))) ?_
  refine KT.oy rfl (OY.idx (d := 47) (s := x45) (i := w64 ((w64 (p1_disk * x29)) + p2_sector)) (size := 1) (elem := 46) _ _ _ rfl rfl rfl (by kernel_rfl) (by kernel_rfl) rfl rfl (fun x47 => ?_))
  refine KT.l 48 (fun x48 => ?_)
  refine KT.cl vS 49 89 #[(.slice x48.base x48.len x48.cap)] (ref00_CopyBytes_sim x48) (fun x49 => ?_)
  refine KT.pv 6 (.slice x49.base x49.len x49.cap) ?_
  refine KT.pv 7 (.int .i64 0) ?_
  refine KT.nil ?_
  refine SX.seq ?_
  refine SC.ret ?_
  refine SX.then_ret ?_
  refine SX.ret [.tmp 6, .tmp 7] rfl ?_
  refine RS.tmp (.slice x49.base x49.len x49.cap) rfl ?_
  refine RS.tmp (.int .i64 0) rfl ?_
  exact RS.nil rfl
  refine SC.skip ?_
  refine SX.seq ?_
  refine SC.seq ?_
  refine SC.region' ?_
  refine KT.pv 50 (.pointer p0_r) ?_
  refine KT.nm 51 (fun x51 => ?_)
  refine KT.pv 52 (.pointer (some (Addr.add x51 2))) ?_
  refine KT.l 53 (fun x53 => ?_)
  refine KT.pv 54 (.int .i64 (w64 ((w64 (p1_disk * x29)) + p2_sector))) ?_
  refine KT.oy rfl (OY.idx (d := 55) (s := x53) (i := w64 ((w64 (p1_disk * x29)) + p2_sector)) (size := 1) (elem := 46) _ _ _ rfl rfl rfl (by kernel_rfl) (by kernel_rfl) rfl rfl (fun x55 => ?_))
  refine KT.l 56 (fun x56 => ?_)
  refine KT.cl vS 57 89 #[(.slice x56.base x56.len x56.cap)] (ref00_CopyBytes_sim x56) (fun x57 => ?_)
  refine KT.pv 6 (.slice x57.base x57.len x57.cap) ?_
  refine KT.pv 7 (.int .i64 0) ?_
  refine KT.nil ?_
  refine SX.seq ?_
  refine SC.ret ?_
  refine SX.ret [.tmp 6, .tmp 7] rfl ?_
  refine RS.tmp (.slice x57.base x57.len x57.cap) rfl ?_
  refine RS.tmp (.int .i64 0) rfl ?_
  exact RS.nil rfl
set_option maxRecDepth 100000 in
theorem ref06_Bank_disk_sim (p0_b : (Option Addr)) (p1_slot : Int) (Qf : Int → World → Prop) (w : World) (hm : ref06_Bank_disk p0_b p1_slot Qf w) : Calls Try.prog 131 #[(.pointer p0_b), (.int .i64 p1_slot)] w (RetPost (Value.int .i64) Qf) := by
  refine calls_of (fn := Try.f131) (l := [(.pointer p0_b), (.int .i64 p1_slot)]) (m := ref06_Bank_disk p0_b p1_slot) 26 (by kernel_rfl) rfl rfl rfl (fun Qf0 => ?_) Qf w hm
  clear hm w Qf
  unfold ref06_Bank_disk
  refine SC.seq ?_
  refine SC.region' ?_
  refine KT.pv 4 (.int .i64 0) ?_
  refine KT.nil ?_
  refine SX.seq ?_
  refine SC.seq ?_
  refine SC.seq ?_
  refine SC.region' ?_
  refine KT.pv 5 (.pointer p0_b) ?_
  refine KT.nm 6 (fun x6 => ?_)
  refine KT.pv 7 (.pointer (some (Addr.add x6 4))) ?_
  refine KT.pv 8 (.pointer (some (Addr.add (Addr.add x6 4) 2))) ?_
  refine KT.l 9 (fun x9 => ?_)
  refine KT.pv 10 (.bool (x9 != 0)) ?_
  refine KT.pv 11 (.bool (x9 != 0)) ?_
  refine KT.joinO (β := Bool) 8 (fun r1 => [(19, (.bool r1)), (0, (.pointer p0_b)), (1, (.int .i64 p1_slot))]) (fun r1 => ?_) (fun j1 => ?_)
  refine KT.nil ?_
  refine SX.seq ?_
  refine SC.cond (b := r1) rfl ?_ ?_
  refine SC.seq ?_
  refine SC.region' ?_
  refine KT.pv 20 (.pointer p0_b) ?_
  refine KT.nm 21 (fun x21 => ?_)
  refine KT.pv 22 (.pointer (some (Addr.add x21 1))) ?_
  refine KT.pv 23 (.pointer (some (Addr.add x21 1))) ?_
  refine KT.l 24 (fun x24 => ?_)
  refine KT.pv 4 (.int .i64 x24) ?_
  refine KT.nil ?_
  refine SX.seq ?_
  refine SC.ret ?_
  refine SX.then_ret ?_
  refine SX.ret [.tmp 4] rfl ?_
  refine RS.tmp (.int .i64 x24) rfl ?_
  exact RS.nil rfl
  refine SC.skip ?_
  refine SX.seq ?_
  refine SC.seq ?_
  refine SC.region' ?_
  refine KT.pv 25 (.int .i64 p1_slot) ?_
  refine KT.pv 4 (.int .i64 p1_slot) ?_
  refine KT.nil ?_
  refine SX.seq ?_
  refine SC.ret ?_
  refine SX.ret [.tmp 4] rfl ?_
  refine RS.tmp (.int .i64 p1_slot) rfl ?_
  exact RS.nil rfl
  refine KT.ite (b := x9 != 0) 11 rfl ?_ ?_
  refine KT.pv 12 (.pointer p0_b) ?_
  refine KT.nm 13 (fun x13 => ?_)
  refine KT.pv 14 (.pointer (some (Addr.add x13 4))) ?_
  refine KT.pv 15 (.pointer (some (Addr.add (Addr.add x13 4) 1))) ?_
  refine KT.l 16 (fun x16 => ?_)
  refine KT.pv 17 (.int .i64 p1_slot) ?_
  refine KT.pv 18 (.bool (x16 == p1_slot)) ?_
  refine KT.pv 19 (.bool (x16 == p1_slot)) ?_
  exact KT.leafO j1 (.cons rfl (.cons rfl (.cons rfl (.nil))))
  refine KT.sk ?_
  refine KT.sk ?_
  refine KT.sk ?_
  refine KT.sk ?_
  refine KT.sk ?_
  refine KT.sk ?_
  refine KT.sk ?_
  refine KT.pv 19 (.bool false) ?_
  exact KT.leafO j1 (.cons rfl (.cons rfl (.cons rfl (.nil))))
set_option maxRecDepth 100000 in
theorem ref06_Bank_Read_sim (p0_b : (Option Addr)) (p1_slot : Int) (p2_sector : Int) (Qf : (Slc × Int) → World → Prop) (w : World) (hm : ref06_Bank_Read p0_b p1_slot p2_sector Qf w) : Calls Try.prog 100 #[(.pointer p0_b), (.int .i64 p1_slot), (.int .i64 p2_sector)] w (RetPost (fun y : (Slc × Int) => (.tuple #[(.slice y.1.base y.1.len y.1.cap), (.int .i64 y.2)])) Qf) := by
  refine calls_of (fn := Try.f100) (l := [(.pointer p0_b), (.int .i64 p1_slot), (.int .i64 p2_sector)]) (m := ref06_Bank_Read p0_b p1_slot p2_sector) 30 (by kernel_rfl) rfl rfl rfl (fun Qf0 => ?_) Qf w hm
  clear hm w Qf
  unfold ref06_Bank_Read
  refine SC.seq ?_
  refine SC.region' ?_
  refine KT.pv 6 (.slice none 0 0) ?_
  refine KT.pv 7 (.int .i64 0) ?_
  refine KT.nil ?_
  refine SX.seq ?_
  refine SC.seq ?_
  refine SC.seq ?_
  refine SC.region' ?_
  refine KT.pv 8 (.int .i64 p1_slot) ?_
  refine KT.pv 9 (.bool (decide (p1_slot < 0))) ?_
  refine KT.pv 10 (.bool (decide (p1_slot < 0))) ?_
  refine KT.joinO (β := Bool) 8 (fun r1 => [(18, (.bool r1)), (0, (.pointer p0_b)), (1, (.int .i64 p1_slot)), (2, (.int .i64 p2_sector))]) (fun r1 => ?_) (fun j1 => ?_)
  refine KT.nil ?_
  refine SX.seq ?_
  refine SC.cond (b := r1) rfl ?_ ?_
  refine SC.seq ?_
  refine SC.region' ?_
  refine KT.pv 6 (.slice none 0 0) ?_
  refine KT.pv 7 (.int .i64 11) ?_
  refine KT.nil ?_
  refine SX.seq ?_
  refine SC.ret ?_
  refine SX.then_ret ?_
  refine SX.ret [.tmp 6, .tmp 7] rfl ?_
  refine RS.tmp (.slice none 0 0) rfl ?_
  refine RS.tmp (.int .i64 11) rfl ?_
  exact RS.nil rfl
  refine SC.skip ?_
  refine SX.seq ?_
  refine SC.seq ?_
  refine SC.draw 13 (fun f => Nat.beq f 8) rfl (by kernel_rfl) (fun S2 => ?_)
  refine KT.pvA 0 19 (.pointer p0_b) ?_
  refine KT.tp 1 (OY.nil (d := 20) (p := p0_b) _ rfl rfl rfl rfl (fun x20 => ?_))
  refine KT.pvA 2 21 (.pointer (some x20)) ?_
  refine KT.tk 3 (OY.ldI (d := 22) _ _ rfl rfl (by kernel_rfl) rfl rfl (fun x22 => ?_))
  refine KT.pvA 4 23 (.pointer p0_b) ?_
  refine KT.pvA 5 24 (.int .i64 p1_slot) ?_
  refine KT.pvA 7 26 (.int .i64 p2_sector) ?_
  refine KT.one 6 rfl (by kernel_rfl) rfl (OW.step (OW.call (d := 25) (enc := (Value.int .i64)) 131 #[(.pointer p0_b), (.int .i64 p1_slot)] rfl (fun _ => by kernel_rfl) (fun Qf w => ref06_Bank_disk_sim p0_b p1_slot Qf w) rfl rfl (fun x25 => ?_)))
  refine KT.and ?_
  refine KT.last 8 rfl (by kernel_rfl) rfl rfl (OW.call (d := 27) (enc := (fun y : (Slc × Int) => (.tuple #[(.slice y.1.base y.1.len y.1.cap), (.int .i64 y.2)]))) 88 #[(.pointer x22), (.int .i64 x25), (.int .i64 p2_sector)] rfl (fun _ => by kernel_rfl) (fun Qf w => ref02_Rack_Read_sim x22 x25 p2_sector Qf w) rfl rfl (fun x27 => ?_))
  refine KT.pvN 9 28 (.slice x27.1.base x27.1.len x27.1.cap) ?_
  refine KT.pvN 10 29 (.int .i64 x27.2) ?_
  refine KT.pvN 11 6 (.slice x27.1.base x27.1.len x27.1.cap) ?_
  refine KT.pvN 12 7 (.int .i64 x27.2) ?_
  refine KT.doneN (by kernel_rfl) ?_
  refine SX.seq ?_
  refine SC.ret ?_
  refine SX.ret [.tmp 6, .tmp 7] rfl ?_
  refine RS.tmp (.slice x27.1.base x27.1.len x27.1.cap) rfl ?_
  refine RS.tmp (.int .i64 x27.2) rfl ?_
  exact RS.nil rfl
  refine KT.ite (b := decide (p1_slot < 0)) 10 rfl ?_ ?_
  refine KT.sk ?_
  refine KT.sk ?_
  refine KT.sk ?_
  refine KT.sk ?_
  refine KT.sk ?_
  refine KT.sk ?_
  refine KT.sk ?_
  refine KT.pv 18 (.bool true) ?_
  exact KT.leafO j1 (.cons rfl (.cons rfl (.cons rfl (.cons rfl (.nil)))))
  refine KT.pv 11 (.int .i64 p1_slot) ?_
  refine KT.pv 12 (.pointer p0_b) ?_
  refine KT.nm 13 (fun x13 => ?_)
  refine KT.pv 14 (.pointer (some (Addr.add x13 1))) ?_
  refine KT.pv 15 (.pointer (some (Addr.add x13 1))) ?_
  refine KT.l 16 (fun x16 => ?_)
  refine KT.pv 17 (.bool (decide (p1_slot ≥ x16))) ?_
  refine KT.pv 18 (.bool (decide (p1_slot ≥ x16))) ?_
  exact KT.leafO j1 (.cons rfl (.cons rfl (.cons rfl (.cons rfl (.nil)))))
set_option maxRecDepth 100000 in
theorem ref02_Rack_call_sim (p0_r : (Option Addr)) (Qf : Int → World → Prop) (w : World) (hm : ref02_Rack_call p0_r Qf w) : Calls Try.prog 127 #[(.pointer p0_r)] w (RetPost (Value.int .i64) Qf) := by
  refine calls_of (fn := Try.f127) (l := [(.pointer p0_r)]) (m := ref02_Rack_call p0_r) 70 (by kernel_rfl) rfl rfl rfl (fun Qf0 => ?_) Qf w hm
  clear hm w Qf
  unfold ref02_Rack_call
  refine SC.seq ?_
  refine SC.region' ?_
  refine KT.pv 2 (.int .i64 0) ?_
  refine KT.nil ?_
  refine SX.seq ?_
  refine SC.seq ?_
  refine SC.seq ?_
  refine SC.region' ?_
  refine KT.pv 4 (.pointer p0_r) ?_
  refine KT.nm 5 (fun x5 => ?_)
  refine KT.pv 6 (.pointer (some (Addr.add x5 6))) ?_
  refine KT.l 7 (fun x7 => ?_)
  refine KT.pv 8 (.bool (x7 == 0)) ?_
  refine KT.nil ?_
  refine SX.seq ?_
  refine SC.cond (b := x7 == 0) rfl ?_ ?_
  refine SC.seq ?_
  refine SC.region' ?_
  refine KT.pv 9 (.pointer p0_r) ?_
  refine KT.nm 10 (fun x10 => ?_)
  refine KT.pv 11 (.pointer (some (Addr.add x10 7))) ?_
  refine KT.s ?_
  refine KT.nil ?_
  refine SX.seq ?_
  refine SC.seq ?_
  refine SC.region' ?_
  refine KT.pv 2 (.int .i64 12) ?_
  refine KT.nil ?_
  refine SX.seq ?_
  refine SC.ret ?_
  refine SX.then_ret ?_
  refine SX.ret [.tmp 2] rfl ?_
  refine RS.tmp (.int .i64 12) rfl ?_
  exact RS.nil rfl
  refine SC.skip ?_
  refine SX.seq ?_
  refine SC.seq ?_
  refine SC.seq ?_
  refine SC.region' ?_
  refine KT.pv 12 (.pointer p0_r) ?_
  refine KT.nm 13 (fun x13 => ?_)
  refine KT.pv 14 (.pointer (some (Addr.add x13 6))) ?_
  refine KT.l 15 (fun x15 => ?_)
  refine KT.pv 16 (.bool (decide (x15 > 0))) ?_
  refine KT.nil ?_
  refine SX.seq ?_
  refine SC.join (β := Unit) (fun b1 => [(0, (.pointer p0_r))]) (fun b1 => ?_) (fun j1 => ?_)
  refine SX.seq ?_
  refine SC.seq ?_
  refine SC.seq ?_
  refine SC.region' ?_
  refine KT.pv 3 (.int .i64 0) ?_
  refine KT.nil ?_
  refine SX.seq ?_
  refine SC.block ?_
  refine SC.loop (σ := (Int)) (fun s2 => [(0, (.pointer p0_r)), (3, (.int .i64 s2))]) (.cons rfl (.cons rfl (.nil))) (fun _ _ _ s2 => ?_)
  refine SC.seq ?_
  refine SC.seq ?_
  refine SC.region' ?_
  refine KT.pv 24 (.int .i64 s2) ?_
  refine KT.pv 25 (.pointer p0_r) ?_
  refine KT.nm 26 (fun x26 => ?_)
  refine KT.pv 27 (.pointer (some x26)) ?_
  refine KT.l 28 (fun x28 => ?_)
  refine KT.pv 29 (.bool (decide (s2 < x28))) ?_
  refine KT.nil ?_
  refine SX.seq ?_
  refine SC.cond (b := decide (s2 < x28)) rfl ?_ ?_
  refine SC.skip ?_
  refine SX.seq ?_
  refine SC.seq ?_
  refine SC.block ?_
  refine SC.seq ?_
  refine SC.seq ?_
  refine SC.region' ?_
  refine KT.pv 32 (.pointer p0_r) ?_
  refine KT.nm 33 (fun x33 => ?_)
  refine KT.pv 34 (.pointer (some (Addr.add x33 4))) ?_
  refine KT.l 35 (fun x35 => ?_)
  refine KT.pv 36 (.int .i64 s2) ?_
  refine KT.oy rfl (OY.idx (d := 37) (s := x35) (i := s2) (size := 1) (elem := 4) _ _ _ rfl rfl rfl (by kernel_rfl) (by kernel_rfl) rfl rfl (fun x37 => ?_))
  refine KT.l 38 (fun x38 => ?_)
  refine KT.nil ?_
  refine SX.seq ?_
  refine SC.cond (b := x38) rfl ?_ ?_
  refine SC.exit ?_
  refine SX.then_exit ?_
  refine SX.block_hit ?_
  refine SX.seq ?_
  refine SC.region' ?_
  refine KT.pv 30 (.int .i64 s2) ?_
  refine KT.pv 31 (.int .i64 (w64 (s2 + 1))) ?_
  refine KT.pv 3 (.int .i64 (w64 (s2 + 1))) ?_
  refine KT.nil ?_
  exact SX.loop_next (.cons rfl (.cons rfl (.nil)))
  refine SC.skip ?_
  refine SX.seq ?_
  refine SC.seq ?_
  refine SC.seq ?_
  refine SC.region' ?_
  refine KT.pv 39 (.pointer p0_r) ?_
  refine KT.nm 40 (fun x40 => ?_)
  refine KT.pv 41 (.pointer (some (Addr.add x40 5))) ?_
  refine KT.l 42 (fun x42 => ?_)
  refine KT.pv 43 (.int .i64 s2) ?_
  refine KT.oy rfl (OY.idx (d := 44) (s := x42) (i := s2) (size := 1) (elem := 3) _ _ _ rfl rfl rfl (by kernel_rfl) (by kernel_rfl) rfl rfl (fun x44 => ?_))
  refine KT.l 45 (fun x45 => ?_)
  refine KT.pv 46 (.bool (x45 == 0)) ?_
  refine KT.nil ?_
  refine SX.seq ?_
  refine SC.join (β := Unit) (fun b3 => [(0, (.pointer p0_r)), (3, (.int .i64 s2))]) (fun b3 => ?_) (fun j3 => ?_)
  refine SX.seq ?_
  refine SC.seq ?_
  refine SC.region' ?_
  refine KT.pv 53 (.pointer p0_r) ?_
  refine KT.nm 54 (fun x54 => ?_)
  refine KT.pv 55 (.pointer (some (Addr.add x54 5))) ?_
  refine KT.l 56 (fun x56 => ?_)
  refine KT.pv 57 (.int .i64 s2) ?_
  refine KT.oy rfl (OY.idx (d := 58) (s := x56) (i := s2) (size := 1) (elem := 3) _ _ _ rfl rfl rfl (by kernel_rfl) (by kernel_rfl) rfl rfl (fun x58 => ?_))
  refine KT.l 59 (fun x59 => ?_)
  refine KT.pv 60 (.bool (decide (x59 > 0))) ?_
  refine KT.nil ?_
  refine SX.seq ?_
  refine SC.cond (b := decide (x59 > 0)) rfl ?_ ?_
  refine SC.region' ?_
  refine KT.pv 61 (.pointer p0_r) ?_
  refine KT.nm 62 (fun x62 => ?_)
  refine KT.pv 63 (.pointer (some (Addr.add x62 5))) ?_
  refine KT.l 64 (fun x64 => ?_)
  refine KT.pv 65 (.int .i64 s2) ?_
  refine KT.oy rfl (OY.idx (d := 66) (s := x64) (i := s2) (size := 1) (elem := 3) _ _ _ rfl rfl rfl (by kernel_rfl) (by kernel_rfl) rfl rfl (fun x66 => ?_))
  refine KT.l 67 (fun x67 => ?_)
  refine KT.pv 68 (.int .i64 (w64 (x67 - 1))) ?_
  refine KT.oy rfl (OY.idx (d := 69) (s := x64) (i := s2) (size := 1) (elem := 3) _ _ _ rfl rfl rfl (by kernel_rfl) (by kernel_rfl) rfl rfl (fun x69 => ?_))
  refine KT.s ?_
  refine KT.nil ?_
  refine SX.block ?_
  refine SX.seq ?_
  refine SC.region' ?_
  refine KT.pv 30 (.int .i64 s2) ?_
  refine KT.pv 31 (.int .i64 (w64 (s2 + 1))) ?_
  refine KT.pv 3 (.int .i64 (w64 (s2 + 1))) ?_
  refine KT.nil ?_
  exact SX.loop_next (.cons rfl (.cons rfl (.nil)))
  refine SC.skip ?_
  refine SX.block ?_
  refine SX.seq ?_
  refine SC.region' ?_
  refine KT.pv 30 (.int .i64 s2) ?_
  refine KT.pv 31 (.int .i64 (w64 (s2 + 1))) ?_
  refine KT.pv 3 (.int .i64 (w64 (s2 + 1))) ?_
  refine KT.nil ?_
  exact SX.loop_next (.cons rfl (.cons rfl (.nil)))
  refine SC.cond (b := x45 == 0) rfl ?_ ?_
  refine SC.region' ?_
  refine KT.pv 47 (.pointer p0_r) ?_
  refine KT.nm 48 (fun x48 => ?_)
  refine KT.pv 49 (.pointer (some (Addr.add x48 4))) ?_
  refine KT.l 50 (fun x50 => ?_)
  refine KT.pv 51 (.int .i64 s2) ?_
  refine KT.oy rfl (OY.idx (d := 52) (s := x50) (i := s2) (size := 1) (elem := 4) _ _ _ rfl rfl rfl (by kernel_rfl) (by kernel_rfl) rfl rfl (fun x52 => ?_))
  refine KT.s ?_
  refine KT.nil ?_
  exact SX.leafS j3 (.cons rfl (.cons rfl (.nil)))
  refine SC.skip ?_
  exact SX.leafS j3 (.cons rfl (.cons rfl (.nil)))
  refine SC.exit ?_
  refine SX.then_exit ?_
  refine SX.loop_exit ?_
  refine SX.block_hit ?_
  refine SX.seq ?_
  refine SC.seq ?_
  refine SC.region' ?_
  refine KT.pv 2 (.int .i64 0) ?_
  refine KT.nil ?_
  refine SX.seq ?_
  refine SC.ret ?_
  refine SX.ret [.tmp 2] rfl ?_
  refine RS.tmp (.int .i64 0) rfl ?_
  exact RS.nil rfl
  refine SC.cond (b := decide (x15 > 0)) rfl ?_ ?_
  refine SC.region' ?_
  refine KT.pv 17 (.pointer p0_r) ?_
  refine KT.nm 18 (fun x18 => ?_)
  refine KT.pv 19 (.pointer (some (Addr.add x18 6))) ?_
  refine KT.l 20 (fun x20 => ?_)
  refine KT.pv 21 (.int .i64 (w64 (x20 - 1))) ?_
  refine KT.nm 22 (fun x22 => ?_)
  refine KT.pv 23 (.pointer (some (Addr.add x22 6))) ?_
  refine KT.s ?_
  refine KT.nil ?_
  exact SX.leafS j1 (.cons rfl (.nil))
  refine SC.skip ?_
  exact SX.leafS j1 (.cons rfl (.nil))
set_option maxRecDepth 100000 in
theorem ref02_Rack_Write_sim (p0_r : (Option Addr)) (p1_disk : Int) (p2_sector : Int) (p3_b : Slc) (Qf : Int → World → Prop) (w : World) (hm : ref02_Rack_Write p0_r p1_disk p2_sector p3_b Qf w) : Calls Try.prog 90 #[(.pointer p0_r), (.int .i64 p1_disk), (.int .i64 p2_sector), (.slice p3_b.base p3_b.len p3_b.cap)] w (RetPost (Value.int .i64) Qf) := by
  refine calls_of (fn := Try.f90) (l := [(.pointer p0_r), (.int .i64 p1_disk), (.int .i64 p2_sector), (.slice p3_b.base p3_b.len p3_b.cap)]) (m := ref02_Rack_Write p0_r p1_disk p2_sector p3_b) 51 (by kernel_rfl) rfl rfl rfl (fun Qf0 => ?_) Qf w hm
  clear hm w Qf
  unfold ref02_Rack_Write
  refine SC.seq ?_
  refine SC.region' ?_
  refine KT.pv 8 (.int .i64 0) ?_
  refine KT.nil ?_
  refine SX.seq ?_
  refine SC.seq ?_
  refine SC.seq ?_
  refine SC.region' ?_
  refine KT.pv 10 (.pointer p0_r) ?_
  refine KT.nm 11 (fun x11 => ?_)
  refine KT.pv 12 (.pointer (some (Addr.add x11 7))) ?_
  refine KT.l 13 (fun x13 => ?_)
  refine KT.nil ?_
  refine SX.seq ?_
  refine SC.cond (b := x13) rfl ?_ ?_
  refine SC.seq ?_
  refine SC.region' ?_
  refine KT.pv 8 (.int .i64 12) ?_
  refine KT.nil ?_
  refine SX.seq ?_
  refine SC.ret ?_
  refine SX.then_ret ?_
  refine SX.ret [.tmp 8] rfl ?_
  refine RS.tmp (.int .i64 12) rfl ?_
  exact RS.nil rfl
  refine SC.skip ?_
  refine SX.seq ?_
  refine SC.seq ?_
  refine SC.seq ?_
  refine SC.region' ?_
  refine KT.pv 14 (.pointer p0_r) ?_
  refine KT.pv 15 (.int .i64 p1_disk) ?_
  refine KT.pv 16 (.int .i64 p2_sector) ?_
  refine KT.cl Value.bool 17 97 #[(.pointer p0_r), (.int .i64 p1_disk), (.int .i64 p2_sector)] (ref02_Rack_there_sim p0_r p1_disk p2_sector) (fun x17 => ?_)
  refine KT.pv 18 (.bool (!x17)) ?_
  refine KT.pv 19 (.bool (!x17)) ?_
  refine KT.joinO (β := Bool) 4 (fun r1 => [(23, (.bool r1)), (0, (.pointer p0_r)), (1, (.int .i64 p1_disk)), (2, (.int .i64 p2_sector)), (3, (.slice p3_b.base p3_b.len p3_b.cap))]) (fun r1 => ?_) (fun j1 => ?_)
  refine KT.nil ?_
  refine SX.seq ?_
  refine SC.cond (b := r1) rfl ?_ ?_
  refine SC.seq ?_
  refine SC.region' ?_
  refine KT.pv 8 (.int .i64 11) ?_
  refine KT.nil ?_
  refine SX.seq ?_
  refine SC.ret ?_
  refine SX.then_ret ?_
  refine SX.ret [.tmp 8] rfl ?_
  refine RS.tmp (.int .i64 11) rfl ?_
  exact RS.nil rfl
  refine SC.skip ?_
  refine SX.seq ?_
  refine SC.seq ?_
  refine SC.region' ?_
  refine KT.pv 24 (.pointer p0_r) ?_
  refine KT.cl (Value.int .i64) 25 127 #[(.pointer p0_r)] (ref02_Rack_call_sim p0_r) (fun x25 => ?_)
  refine KT.pv 9 (.int .i64 x25) ?_
  refine KT.nil ?_
  refine SX.seq ?_
  refine SC.seq ?_
  refine SC.seq ?_
  refine SC.region' ?_
  refine KT.pv 26 (.int .i64 x25) ?_
  refine KT.pv 27 (.bool (x25 != 0)) ?_
  refine KT.nil ?_
  refine SX.seq ?_
  refine SC.cond (b := x25 != 0) rfl ?_ ?_
  refine SC.seq ?_
  refine SC.region' ?_
  refine KT.pv 28 (.int .i64 x25) ?_
  refine KT.pv 8 (.int .i64 x25) ?_
  refine KT.nil ?_
  refine SX.seq ?_
  refine SC.ret ?_
  refine SX.then_ret ?_
  refine SX.ret [.tmp 8] rfl ?_
  refine RS.tmp (.int .i64 x25) rfl ?_
  exact RS.nil rfl
  refine SC.skip ?_
  refine SX.seq ?_
  refine SC.seq ?_
  refine SC.seq ?_
  refine SC.region' ?_
  refine KT.pv 29 (.pointer p0_r) ?_
  refine KT.nm 30 (fun x30 => ?_)
  refine KT.pv 31 (.pointer (some (Addr.add x30 4))) ?_
  refine KT.l 32 (fun x32 => ?_)
  refine KT.pv 33 (.int .i64 p1_disk) ?_
  refine KT.oy rfl (OY.idx (d := 34) (s := x32) (i := p1_disk) (size := 1) (elem := 4) _ _ _ rfl rfl rfl (by kernel_rfl) (by kernel_rfl) rfl rfl (fun x34 => ?_))
  refine KT.l 35 (fun x35 => ?_)
  refine KT.nil ?_
  refine SX.seq ?_
  refine SC.cond (b := x35) rfl ?_ ?_
  refine SC.seq ?_
  refine SC.region' ?_
  refine KT.pv 8 (.int .i64 13) ?_
  refine KT.nil ?_
  refine SX.seq ?_
  refine SC.ret ?_
  refine SX.then_ret ?_
  refine SX.ret [.tmp 8] rfl ?_
  refine RS.tmp (.int .i64 13) rfl ?_
  exact RS.nil rfl
  refine SC.skip ?_
  refine SX.seq ?_
  refine SC.seq ?_
  refine SC.draw 16 (fun f => Nat.beq f 15) rfl (by kernel_rfl) (fun S2 => ?_)
  refine KT.pvA 0 36 (.pointer p0_r) ?_
  refine KT.tp 1 (OY.nil (d := 37) (p := p0_r) _ rfl rfl rfl rfl (fun x37 => ?_))
  refine KT.pvA 2 38 (.pointer (some (Addr.add x37 3))) ?_
  refine KT.tk 3 (OY.ldI (d := 39) _ _ rfl rfl (by kernel_rfl) rfl rfl (fun x39 => ?_))
  refine KT.pvA 4 40 (.int .i64 p1_disk) ?_
  refine KT.pvA 5 41 (.pointer p0_r) ?_
  refine KT.tp 6 (OY.nil (d := 42) (p := p0_r) _ rfl rfl rfl rfl (fun x42 => ?_))
  refine KT.pvA 7 43 (.pointer (some (Addr.add x42 1))) ?_
  refine KT.tk 8 (OY.ldI (d := 44) _ _ rfl rfl (by kernel_rfl) rfl rfl (fun x44 => ?_))
  refine KT.pvA 9 45 (.int .i64 (w64 (p1_disk * x44))) ?_
  refine KT.pvA 10 46 (.int .i64 p2_sector) ?_
  refine KT.pvA 11 47 (.int .i64 (w64 ((w64 (p1_disk * x44)) + p2_sector))) ?_
  refine KT.pvA 12 48 (.slice p3_b.base p3_b.len p3_b.cap) ?_
  refine KT.one 13 rfl (by kernel_rfl) rfl (OW.step (OW.call (d := 49) (enc := vS) 89 #[(.slice p3_b.base p3_b.len p3_b.cap)] rfl (fun _ => by kernel_rfl) (fun Qf w => ref00_CopyBytes_sim p3_b Qf w) rfl rfl (fun x49 => ?_)))
  refine KT.and ?_
  refine KT.tp 14 (OY.idx (d := 50) (s := x39) (i := w64 ((w64 (p1_disk * x44)) + p2_sector)) (size := 1) (elem := 46) _ _ _ rfl rfl rfl (by kernel_rfl) (by kernel_rfl) rfl rfl (fun x50 => ?_))
  refine KT.last 15 rfl (by kernel_rfl) rfl rfl (OW.st _ _ _ rfl rfl rfl rfl (by kernel_rfl) rfl ?_)
  refine KT.doneN (by kernel_rfl) ?_
  refine SX.sub (T' := []) (.nil) ?_
  refine SX.seq ?_
  refine SC.seq ?_
  refine SC.region' ?_
  refine KT.pv 8 (.int .i64 0) ?_
  refine KT.nil ?_
  refine SX.seq ?_
  refine SC.ret ?_
  refine SX.ret [.tmp 8] rfl ?_
  refine RS.tmp (.int .i64 0) rfl ?_
  exact RS.nil rfl
  refine KT.ite (b := !x17) 19 rfl ?_ ?_
  refine KT.sk ?_
  refine KT.sk ?_
  refine KT.sk ?_
  refine KT.pv 23 (.bool true) ?_
  exact KT.leafO j1 (.cons rfl (.cons rfl (.cons rfl (.cons rfl (.cons rfl (.nil))))))
  refine KT.pv 20 (.slice p3_b.base p3_b.len p3_b.cap) ?_
  refine KT.pv 21 (.int .i64 ((p3_b.len : Nat) : Int)) ?_
  refine KT.pv 22 (.bool (((p3_b.len : Nat) : Int) != 64)) ?_
  refine KT.pv 23 (.bool (((p3_b.len : Nat) : Int) != 64)) ?_
  exact KT.leafO j1 (.cons rfl (.cons rfl (.cons rfl (.cons rfl (.cons rfl (.nil))))))
set_option maxRecDepth 100000 in
theorem ref06_Bank_Write_sim (p0_b : (Option Addr)) (p1_slot : Int) (p2_sector : Int) (p3_data : Slc) (Qf : Int → World → Prop) (w : World) (hm : ref06_Bank_Write p0_b p1_slot p2_sector p3_data Qf w) : Calls Try.prog 101 #[(.pointer p0_b), (.int .i64 p1_slot), (.int .i64 p2_sector), (.slice p3_data.base p3_data.len p3_data.cap)] w (RetPost (Value.int .i64) Qf) := by
  refine calls_of (fn := Try.f101) (l := [(.pointer p0_b), (.int .i64 p1_slot), (.int .i64 p2_sector), (.slice p3_data.base p3_data.len p3_data.cap)]) (m := ref06_Bank_Write p0_b p1_slot p2_sector p3_data) 30 (by kernel_rfl) rfl rfl rfl (fun Qf0 => ?_) Qf w hm
  clear hm w Qf
  unfold ref06_Bank_Write
  refine SC.seq ?_
  refine SC.region' ?_
  refine KT.pv 8 (.int .i64 0) ?_
  refine KT.nil ?_
  refine SX.seq ?_
  refine SC.seq ?_
  refine SC.seq ?_
  refine SC.region' ?_
  refine KT.pv 9 (.int .i64 p1_slot) ?_
  refine KT.pv 10 (.bool (decide (p1_slot < 0))) ?_
  refine KT.pv 11 (.bool (decide (p1_slot < 0))) ?_
  refine KT.joinO (β := Bool) 8 (fun r1 => [(19, (.bool r1)), (0, (.pointer p0_b)), (1, (.int .i64 p1_slot)), (2, (.int .i64 p2_sector)), (3, (.slice p3_data.base p3_data.len p3_data.cap))]) (fun r1 => ?_) (fun j1 => ?_)
  refine KT.nil ?_
  refine SX.seq ?_
  refine SC.cond (b := r1) rfl ?_ ?_
  refine SC.seq ?_
  refine SC.region' ?_
  refine KT.pv 8 (.int .i64 11) ?_
  refine KT.nil ?_
  refine SX.seq ?_
  refine SC.ret ?_
  refine SX.then_ret ?_
  refine SX.ret [.tmp 8] rfl ?_
  refine RS.tmp (.int .i64 11) rfl ?_
  exact RS.nil rfl
  refine SC.skip ?_
  refine SX.seq ?_
  refine SC.seq ?_
  refine SC.draw 11 (fun f => Nat.beq f 9) rfl (by kernel_rfl) (fun S2 => ?_)
  refine KT.pvA 0 20 (.pointer p0_b) ?_
  refine KT.tp 1 (OY.nil (d := 21) (p := p0_b) _ rfl rfl rfl rfl (fun x21 => ?_))
  refine KT.pvA 2 22 (.pointer (some x21)) ?_
  refine KT.tk 3 (OY.ldI (d := 23) _ _ rfl rfl (by kernel_rfl) rfl rfl (fun x23 => ?_))
  refine KT.pvA 4 24 (.pointer p0_b) ?_
  refine KT.pvA 5 25 (.int .i64 p1_slot) ?_
  refine KT.pvA 7 27 (.int .i64 p2_sector) ?_
  refine KT.pvA 8 28 (.slice p3_data.base p3_data.len p3_data.cap) ?_
  refine KT.one 6 rfl (by kernel_rfl) rfl (OW.step (OW.call (d := 26) (enc := (Value.int .i64)) 131 #[(.pointer p0_b), (.int .i64 p1_slot)] rfl (fun _ => by kernel_rfl) (fun Qf w => ref06_Bank_disk_sim p0_b p1_slot Qf w) rfl rfl (fun x26 => ?_)))
  refine KT.and ?_
  refine KT.last 9 rfl (by kernel_rfl) rfl rfl (OW.call (d := 29) (enc := (Value.int .i64)) 90 #[(.pointer x23), (.int .i64 x26), (.int .i64 p2_sector), (.slice p3_data.base p3_data.len p3_data.cap)] rfl (fun _ => by kernel_rfl) (fun Qf w => ref02_Rack_Write_sim x23 x26 p2_sector p3_data Qf w) rfl rfl (fun x29 => ?_))
  refine KT.pvN 10 8 (.int .i64 x29) ?_
  refine KT.doneN (by kernel_rfl) ?_
  refine SX.seq ?_
  refine SC.ret ?_
  refine SX.ret [.tmp 8] rfl ?_
  refine RS.tmp (.int .i64 x29) rfl ?_
  exact RS.nil rfl
  refine KT.ite (b := decide (p1_slot < 0)) 11 rfl ?_ ?_
  refine KT.sk ?_
  refine KT.sk ?_
  refine KT.sk ?_
  refine KT.sk ?_
  refine KT.sk ?_
  refine KT.sk ?_
  refine KT.sk ?_
  refine KT.pv 19 (.bool true) ?_
  exact KT.leafO j1 (.cons rfl (.cons rfl (.cons rfl (.cons rfl (.cons rfl (.nil))))))
  refine KT.pv 12 (.int .i64 p1_slot) ?_
  refine KT.pv 13 (.pointer p0_b) ?_
  refine KT.nm 14 (fun x14 => ?_)
  refine KT.pv 15 (.pointer (some (Addr.add x14 1))) ?_
  refine KT.pv 16 (.pointer (some (Addr.add x14 1))) ?_
  refine KT.l 17 (fun x17 => ?_)
  refine KT.pv 18 (.bool (decide (p1_slot ≥ x17))) ?_
  refine KT.pv 19 (.bool (decide (p1_slot ≥ x17))) ?_
  exact KT.leafO j1 (.cons rfl (.cons rfl (.cons rfl (.cons rfl (.cons rfl (.nil))))))
set_option maxRecDepth 100000 in
theorem ref02_Rack_Flush_sim (p0_r : (Option Addr)) (p1_disk : Int) (Qf : Int → World → Prop) (w : World) (hm : ref02_Rack_Flush p0_r p1_disk Qf w) : Calls Try.prog 91 #[(.pointer p0_r), (.int .i64 p1_disk)] w (RetPost (Value.int .i64) Qf) := by
  refine calls_of (fn := Try.f91) (l := [(.pointer p0_r), (.int .i64 p1_disk)]) (m := ref02_Rack_Flush p0_r p1_disk) 72 (by kernel_rfl) rfl rfl rfl (fun Qf0 => ?_) Qf w hm
  clear hm w Qf
  unfold ref02_Rack_Flush
  refine SC.seq ?_
  refine SC.region' ?_
  refine KT.pv 4 (.int .i64 0) ?_
  refine KT.nil ?_
  refine SX.seq ?_
  refine SC.seq ?_
  refine SC.seq ?_
  refine SC.region' ?_
  refine KT.pv 7 (.pointer p0_r) ?_
  refine KT.nm 8 (fun x8 => ?_)
  refine KT.pv 9 (.pointer (some (Addr.add x8 7))) ?_
  refine KT.l 10 (fun x10 => ?_)
  refine KT.nil ?_
  refine SX.seq ?_
  refine SC.cond (b := x10) rfl ?_ ?_
  refine SC.seq ?_
  refine SC.region' ?_
  refine KT.pv 4 (.int .i64 12) ?_
  refine KT.nil ?_
  refine SX.seq ?_
  refine SC.ret ?_
  refine SX.then_ret ?_
  refine SX.ret [.tmp 4] rfl ?_
  refine RS.tmp (.int .i64 12) rfl ?_
  exact RS.nil rfl
  refine SC.skip ?_
  refine SX.seq ?_
  refine SC.seq ?_
  refine SC.seq ?_
  refine SC.region' ?_
  refine KT.pv 11 (.pointer p0_r) ?_
  refine KT.pv 12 (.int .i64 p1_disk) ?_
  refine KT.cl Value.bool 13 97 #[(.pointer p0_r), (.int .i64 p1_disk), (.int .i64 0)] (ref02_Rack_there_sim p0_r p1_disk 0) (fun x13 => ?_)
  refine KT.pv 14 (.bool (!x13)) ?_
  refine KT.nil ?_
  refine SX.seq ?_
  refine SC.cond (b := !x13) rfl ?_ ?_
  refine SC.seq ?_
  refine SC.region' ?_
  refine KT.pv 4 (.int .i64 11) ?_
  refine KT.nil ?_
  refine SX.seq ?_
  refine SC.ret ?_
  refine SX.then_ret ?_
  refine SX.ret [.tmp 4] rfl ?_
  refine RS.tmp (.int .i64 11) rfl ?_
  exact RS.nil rfl
  refine SC.skip ?_
  refine SX.seq ?_
  refine SC.seq ?_
  refine SC.region' ?_
  refine KT.pv 15 (.pointer p0_r) ?_
  refine KT.cl (Value.int .i64) 16 127 #[(.pointer p0_r)] (ref02_Rack_call_sim p0_r) (fun x16 => ?_)
  refine KT.pv 5 (.int .i64 x16) ?_
  refine KT.nil ?_
  refine SX.seq ?_
  refine SC.seq ?_
  refine SC.seq ?_
  refine SC.region' ?_
  refine KT.pv 17 (.int .i64 x16) ?_
  refine KT.pv 18 (.bool (x16 != 0)) ?_
  refine KT.nil ?_
  refine SX.seq ?_
  refine SC.cond (b := x16 != 0) rfl ?_ ?_
  refine SC.seq ?_
  refine SC.region' ?_
  refine KT.pv 19 (.int .i64 x16) ?_
  refine KT.pv 4 (.int .i64 x16) ?_
  refine KT.nil ?_
  refine SX.seq ?_
  refine SC.ret ?_
  refine SX.then_ret ?_
  refine SX.ret [.tmp 4] rfl ?_
  refine RS.tmp (.int .i64 x16) rfl ?_
  exact RS.nil rfl
  refine SC.skip ?_
  refine SX.seq ?_
  refine SC.seq ?_
  refine SC.seq ?_
  refine SC.region' ?_
  refine KT.pv 20 (.pointer p0_r) ?_
  refine KT.nm 21 (fun x21 => ?_)
  refine KT.pv 22 (.pointer (some (Addr.add x21 4))) ?_
  refine KT.l 23 (fun x23 => ?_)
  refine KT.pv 24 (.int .i64 p1_disk) ?_
  refine KT.oy rfl (OY.idx (d := 25) (s := x23) (i := p1_disk) (size := 1) (elem := 4) _ _ _ rfl rfl rfl (by kernel_rfl) (by kernel_rfl) rfl rfl (fun x25 => ?_))
  refine KT.l 26 (fun x26 => ?_)
  refine KT.nil ?_
  refine SX.seq ?_
  refine SC.cond (b := x26) rfl ?_ ?_
  refine SC.seq ?_
  refine SC.region' ?_
  refine KT.pv 4 (.int .i64 13) ?_
  refine KT.nil ?_
  refine SX.seq ?_
  refine SC.ret ?_
  refine SX.then_ret ?_
  refine SX.ret [.tmp 4] rfl ?_
  refine RS.tmp (.int .i64 13) rfl ?_
  exact RS.nil rfl
  refine SC.skip ?_
  refine SX.seq ?_
  refine SC.seq ?_
  refine SC.seq ?_
  refine SC.region' ?_
  refine KT.pv 27 (.int .i64 p1_disk) ?_
  refine KT.pv 28 (.pointer p0_r) ?_
  refine KT.nm 29 (fun x29 => ?_)
  refine KT.pv 30 (.pointer (some (Addr.add x29 1))) ?_
  refine KT.l 31 (fun x31 => ?_)
  refine KT.pv 32 (.int .i64 (w64 (p1_disk * x31))) ?_
  refine KT.pv 6 (.int .i64 (w64 (p1_disk * x31))) ?_
  refine KT.nil ?_
  refine SX.sub (T' := [(0, (.pointer p0_r)), (1, (.int .i64 p1_disk)), (6, (.int .i64 (w64 (p1_disk * x31))))]) (.cons rfl (.cons rfl (.cons rfl (.nil)))) ?_
  refine SX.seq ?_
  refine SC.block ?_
  refine SC.loop (σ := (Int)) (fun s1 => [(0, (.pointer p0_r)), (1, (.int .i64 p1_disk)), (6, (.int .i64 s1))]) (.cons rfl (.cons rfl (.cons rfl (.nil)))) (fun _ _ _ s1 => ?_)
  refine SC.seq ?_
  refine SC.seq ?_
  refine SC.region' ?_
  refine KT.pv 33 (.int .i64 s1) ?_
  refine KT.pv 34 (.int .i64 p1_disk) ?_
  refine KT.pv 35 (.int .i64 (w64 (p1_disk + 1))) ?_
  refine KT.pv 36 (.pointer p0_r) ?_
  refine KT.nm 37 (fun x37 => ?_)
  refine KT.pv 38 (.pointer (some (Addr.add x37 1))) ?_
  refine KT.l 39 (fun x39 => ?_)
  refine KT.pv 40 (.int .i64 (w64 ((w64 (p1_disk + 1)) * x39))) ?_
  refine KT.pv 41 (.bool (decide (s1 < (w64 ((w64 (p1_disk + 1)) * x39))))) ?_
  refine KT.nil ?_
  refine SX.seq ?_
  refine SC.cond (b := decide (s1 < (w64 ((w64 (p1_disk + 1)) * x39)))) rfl ?_ ?_
  refine SC.skip ?_
  refine SX.seq ?_
  refine SC.seq ?_
  refine SC.block ?_
  refine SC.seq ?_
  refine SC.region' ?_
  refine KT.pv 44 (.pointer p0_r) ?_
  refine KT.nm 45 (fun x45 => ?_)
  refine KT.pv 46 (.pointer (some (Addr.add x45 3))) ?_
  refine KT.l 47 (fun x47 => ?_)
  refine KT.pv 48 (.int .i64 s1) ?_
  refine KT.oy rfl (OY.idx (d := 49) (s := x47) (i := s1) (size := 1) (elem := 46) _ _ _ rfl rfl rfl (by kernel_rfl) (by kernel_rfl) rfl rfl (fun x49 => ?_))
  refine KT.l 50 (fun x50 => ?_)
  refine KT.pv 51 (.int .i64 ((x50.len : Nat) : Int)) ?_
  refine KT.pv 52 (.bool (decide (((x50.len : Nat) : Int) > 0))) ?_
  refine KT.nil ?_
  refine SX.seq ?_
  refine SC.cond (b := decide (((x50.len : Nat) : Int) > 0)) rfl ?_ ?_
  refine SC.seq ?_
  refine SC.draw 14 (fun f => Nat.beq f 13) rfl (by kernel_rfl) (fun S2 => ?_)
  refine KT.pvA 0 53 (.pointer p0_r) ?_
  refine KT.tp 1 (OY.nil (d := 54) (p := p0_r) _ rfl rfl rfl rfl (fun x54 => ?_))
  refine KT.pvA 2 55 (.pointer (some (Addr.add x54 2))) ?_
  refine KT.tk 3 (OY.ldI (d := 56) _ _ rfl rfl (by kernel_rfl) rfl rfl (fun x56 => ?_))
  refine KT.pvA 4 57 (.int .i64 s1) ?_
  refine KT.pvA 5 58 (.pointer p0_r) ?_
  refine KT.tp 6 (OY.nil (d := 59) (p := p0_r) _ rfl rfl rfl rfl (fun x59 => ?_))
  refine KT.pvA 7 60 (.pointer (some (Addr.add x59 3))) ?_
  refine KT.tk 8 (OY.ldI (d := 61) _ _ rfl rfl (by kernel_rfl) rfl rfl (fun x61 => ?_))
  refine KT.pvA 9 62 (.int .i64 s1) ?_
  refine KT.tp 10 (OY.idx (d := 63) (s := x61) (i := s1) (size := 1) (elem := 46) _ _ _ rfl rfl rfl (by kernel_rfl) (by kernel_rfl) rfl rfl (fun x63 => ?_))
  refine KT.tk 11 (OY.ldI (d := 64) _ _ rfl rfl (by kernel_rfl) rfl rfl (fun x64 => ?_))
  refine KT.tp 12 (OY.idx (d := 65) (s := x56) (i := s1) (size := 1) (elem := 46) _ _ _ rfl rfl rfl (by kernel_rfl) (by kernel_rfl) rfl rfl (fun x65 => ?_))
  refine KT.last 13 rfl (by kernel_rfl) rfl rfl (OW.st _ _ _ rfl rfl rfl rfl (by kernel_rfl) rfl ?_)
  refine KT.doneN (by kernel_rfl) ?_
  refine SX.sub (T' := [(0, (.pointer p0_r)), (1, (.int .i64 p1_disk)), (6, (.int .i64 s1))]) (.cons rfl (.cons rfl (.cons rfl (.nil)))) ?_
  refine SX.seq ?_
  refine SC.region' ?_
  refine KT.pv 66 (.pointer p0_r) ?_
  refine KT.nm 67 (fun x67 => ?_)
  refine KT.pv 68 (.pointer (some (Addr.add x67 3))) ?_
  refine KT.l 69 (fun x69 => ?_)
  refine KT.pv 70 (.int .i64 s1) ?_
  refine KT.oy rfl (OY.idx (d := 71) (s := x69) (i := s1) (size := 1) (elem := 46) _ _ _ rfl rfl rfl (by kernel_rfl) (by kernel_rfl) rfl rfl (fun x71 => ?_))
  refine KT.s ?_
  refine KT.nil ?_
  refine SX.block ?_
  refine SX.seq ?_
  refine SC.region' ?_
  refine KT.pv 42 (.int .i64 s1) ?_
  refine KT.pv 43 (.int .i64 (w64 (s1 + 1))) ?_
  refine KT.pv 6 (.int .i64 (w64 (s1 + 1))) ?_
  refine KT.nil ?_
  exact SX.loop_next (.cons rfl (.cons rfl (.cons rfl (.nil))))
  refine SC.skip ?_
  refine SX.block ?_
  refine SX.seq ?_
  refine SC.region' ?_
  refine KT.pv 42 (.int .i64 s1) ?_
  refine KT.pv 43 (.int .i64 (w64 (s1 + 1))) ?_
  refine KT.pv 6 (.int .i64 (w64 (s1 + 1))) ?_
  refine KT.nil ?_
  exact SX.loop_next (.cons rfl (.cons rfl (.cons rfl (.nil))))
  refine SC.exit ?_
  refine SX.then_exit ?_
  refine SX.loop_exit ?_
  refine SX.block_hit ?_
  refine SX.seq ?_
  refine SC.seq ?_
  refine SC.region' ?_
  refine KT.pv 4 (.int .i64 0) ?_
  refine KT.nil ?_
  refine SX.seq ?_
  refine SC.ret ?_
  refine SX.ret [.tmp 4] rfl ?_
  refine RS.tmp (.int .i64 0) rfl ?_
  exact RS.nil rfl
set_option maxRecDepth 100000 in
theorem ref06_Bank_disks_sim (p0_b : (Option Addr)) (Qf : Slc → World → Prop) (w : World) (hm : ref06_Bank_disks p0_b Qf w) : Calls Try.prog 132 #[(.pointer p0_b)] w (RetPost vS Qf) := by
  refine calls_of (fn := Try.f132) (l := [(.pointer p0_b)]) (m := ref06_Bank_disks p0_b) 36 (by kernel_rfl) rfl rfl rfl (fun Qf0 => ?_) Qf w hm
  clear hm w Qf
  unfold ref06_Bank_disks
  refine SC.seq ?_
  refine SC.region' ?_
  refine KT.pv 2 (.slice none 0 0) ?_
  refine KT.nil ?_
  refine SX.seq ?_
  refine SC.seq ?_
  refine SC.region' ?_
  refine KT.nw 5 (fun ad => .slice (some ad) 0 0) 3 (fun x5 => ?_)
  refine KT.pv 3 (.slice (some x5) 0 0) ?_
  refine KT.nil ?_
  refine SX.seq ?_
  refine SC.seq ?_
  refine SC.seq ?_
  refine SC.region' ?_
  refine KT.pv 4 (.int .i64 0) ?_
  refine KT.nil ?_
  refine SX.seq ?_
  refine SC.block ?_
  refine SC.loop (σ := (Slc × Int)) (fun s1 => [(0, (.pointer p0_b)), (3, (.slice s1.1.base s1.1.len s1.1.cap)), (4, (.int .i64 s1.2))]) (.cons rfl (.cons rfl (.cons rfl (.nil)))) (fun _ _ _ s1 => ?_)
  refine SC.seq ?_
  refine SC.seq ?_
  refine SC.region' ?_
  refine KT.pv 6 (.int .i64 s1.2) ?_
  refine KT.pv 7 (.pointer p0_b) ?_
  refine KT.nm 8 (fun x8 => ?_)
  refine KT.pv 9 (.pointer (some (Addr.add x8 1))) ?_
  refine KT.pv 10 (.pointer (some (Addr.add x8 1))) ?_
  refine KT.l 11 (fun x11 => ?_)
  refine KT.pv 12 (.bool (decide (s1.2 < x11))) ?_
  refine KT.nil ?_
  refine SX.seq ?_
  refine SC.cond (b := decide (s1.2 < x11)) rfl ?_ ?_
  refine SC.skip ?_
  refine SX.seq ?_
  refine SC.seq ?_
  refine SC.block ?_
  refine SC.region' ?_
  refine KT.pv 15 (.slice s1.1.base s1.1.len s1.1.cap) ?_
  refine KT.pv 16 (.pointer p0_b) ?_
  refine KT.pv 17 (.int .i64 s1.2) ?_
  refine KT.cl (Value.int .i64) 18 131 #[(.pointer p0_b), (.int .i64 s1.2)] (ref06_Bank_disk_sim p0_b s1.2) (fun x18 => ?_)
  refine KT.nw 19 (fun ad => .slice (some ad) 1 1) 3 (fun x19 => ?_)
  refine KT.ow rfl (OW.append (d := 20) (s := s1.1) (x := ⟨some x19, 1, 1⟩) [(.int .i64 0)] 8 3 _ _ _ _ rfl rfl rfl rfl (by kernel_rfl) (by kernel_rfl) rfl rfl rfl (fun x20 => ?_))
  refine KT.pv 3 (.slice x20.base x20.len x20.cap) ?_
  refine KT.nil ?_
  refine SX.block ?_
  refine SX.seq ?_
  refine SC.region' ?_
  refine KT.pv 13 (.int .i64 s1.2) ?_
  refine KT.pv 14 (.int .i64 (w64 (s1.2 + 1))) ?_
  refine KT.pv 4 (.int .i64 (w64 (s1.2 + 1))) ?_
  refine KT.nil ?_
  exact SX.loop_next (.cons rfl (.cons rfl (.cons rfl (.nil))))
  refine SC.exit ?_
  refine SX.then_exit ?_
  refine SX.loop_exit ?_
  refine SX.block_hit ?_
  refine SX.seq ?_
  refine SC.seq ?_
  refine SC.seq ?_
  refine SC.region' ?_
  refine KT.pv 21 (.pointer p0_b) ?_
  refine KT.nm 22 (fun x22 => ?_)
  refine KT.pv 23 (.pointer (some (Addr.add x22 4))) ?_
  refine KT.pv 24 (.pointer (some (Addr.add (Addr.add x22 4) 2))) ?_
  refine KT.l 25 (fun x25 => ?_)
  refine KT.pv 26 (.bool (x25 == 0)) ?_
  refine KT.nil ?_
  refine SX.seq ?_
  refine SC.cond (b := x25 == 0) rfl ?_ ?_
  refine SC.region' ?_
  refine KT.pv 27 (.slice s1.1.base s1.1.len s1.1.cap) ?_
  refine KT.pv 28 (.pointer p0_b) ?_
  refine KT.nm 29 (fun x29 => ?_)
  refine KT.pv 30 (.pointer (some (Addr.add x29 1))) ?_
  refine KT.pv 31 (.pointer (some (Addr.add x29 1))) ?_
  refine KT.l 32 (fun x32 => ?_)
  refine KT.nw 33 (fun ad => .slice (some ad) 1 1) 3 (fun x33 => ?_)
  refine KT.ow rfl (OW.append (d := 34) (s := s1.1) (x := ⟨some x33, 1, 1⟩) [(.int .i64 0)] 8 3 _ _ _ _ rfl rfl rfl rfl (by kernel_rfl) (by kernel_rfl) rfl rfl rfl (fun x34 => ?_))
  refine KT.pv 3 (.slice x34.base x34.len x34.cap) ?_
  refine KT.nil ?_
  refine SX.seq ?_
  refine SC.seq ?_
  refine SC.region' ?_
  refine KT.pv 35 (.slice x34.base x34.len x34.cap) ?_
  refine KT.pv 2 (.slice x34.base x34.len x34.cap) ?_
  refine KT.nil ?_
  refine SX.seq ?_
  refine SC.ret ?_
  refine SX.ret [.tmp 2] rfl ?_
  refine RS.tmp (.slice x34.base x34.len x34.cap) rfl ?_
  exact RS.nil rfl
  refine SC.skip ?_
  refine SX.seq ?_
  refine SC.seq ?_
  refine SC.region' ?_
  refine KT.pv 35 (.slice s1.1.base s1.1.len s1.1.cap) ?_
  refine KT.pv 2 (.slice s1.1.base s1.1.len s1.1.cap) ?_
  refine KT.nil ?_
  refine SX.seq ?_
  refine SC.ret ?_
  refine SX.ret [.tmp 2] rfl ?_
  refine RS.tmp (.slice s1.1.base s1.1.len s1.1.cap) rfl ?_
  exact RS.nil rfl
set_option maxRecDepth 100000 in
theorem ref06_Bank_Flush_sim (p0_b : (Option Addr)) (Qf : Int → World → Prop) (w : World) (hm : ref06_Bank_Flush p0_b Qf w) : Calls Try.prog 102 #[(.pointer p0_b)] w (RetPost (Value.int .i64) Qf) := by
  refine calls_of (fn := Try.f102) (l := [(.pointer p0_b)]) (m := ref06_Bank_Flush p0_b) 23 (by kernel_rfl) rfl rfl rfl (fun Qf0 => ?_) Qf w hm
  clear hm w Qf
  unfold ref06_Bank_Flush
  refine SC.seq ?_
  refine SC.region' ?_
  refine KT.pv 2 (.int .i64 0) ?_
  refine KT.nil ?_
  refine SX.seq ?_
  refine SC.seq ?_
  refine SC.region' ?_
  refine KT.pv 5 (.pointer p0_b) ?_
  refine KT.cl vS 6 132 #[(.pointer p0_b)] (ref06_Bank_disks_sim p0_b) (fun x6 => ?_)
  refine KT.pv 3 (.slice x6.base x6.len x6.cap) ?_
  refine KT.nil ?_
  refine SX.seq ?_
  refine SC.seq ?_
  refine SC.seq ?_
  refine SC.region' ?_
  refine KT.pv 4 (.int .i64 0) ?_
  refine KT.nil ?_
  refine SX.seq ?_
  refine SC.block ?_
  refine SC.loop (σ := (Int)) (fun s1 => [(0, (.pointer p0_b)), (3, (.slice x6.base x6.len x6.cap)), (4, (.int .i64 s1))]) (.cons rfl (.cons rfl (.cons rfl (.nil)))) (fun _ _ _ s1 => ?_)
  refine SC.seq ?_
  refine SC.seq ?_
  refine SC.region' ?_
  refine KT.pv 7 (.int .i64 s1) ?_
  refine KT.pv 8 (.slice x6.base x6.len x6.cap) ?_
  refine KT.pv 9 (.int .i64 ((x6.len : Nat) : Int)) ?_
  refine KT.pv 10 (.bool (decide (s1 < ((x6.len : Nat) : Int)))) ?_
  refine KT.nil ?_
  refine SX.seq ?_
  refine SC.cond (b := decide (s1 < ((x6.len : Nat) : Int))) rfl ?_ ?_
  refine SC.skip ?_
  refine SX.seq ?_
  refine SC.seq ?_
  refine SC.block ?_
  refine SC.seq ?_
  refine SC.draw 10 (fun f => Nat.beq f 8) rfl (by kernel_rfl) (fun S2 => ?_)
  refine KT.pvA 0 13 (.pointer p0_b) ?_
  refine KT.tp 1 (OY.nil (d := 14) (p := p0_b) _ rfl rfl rfl rfl (fun x14 => ?_))
  refine KT.pvA 2 15 (.pointer (some x14)) ?_
  refine KT.tk 3 (OY.ldI (d := 16) _ _ rfl rfl (by kernel_rfl) rfl rfl (fun x16 => ?_))
  refine KT.pvA 4 17 (.slice x6.base x6.len x6.cap) ?_
  refine KT.pvA 5 18 (.int .i64 s1) ?_
  refine KT.tp 6 (OY.idx (d := 19) (s := x6) (i := s1) (size := 1) (elem := 3) _ _ _ rfl rfl rfl (by kernel_rfl) (by kernel_rfl) rfl rfl (fun x19 => ?_))
  refine KT.tk 7 (OY.ldI (d := 20) _ _ rfl rfl (by kernel_rfl) rfl rfl (fun x20 => ?_))
  refine KT.last 8 rfl (by kernel_rfl) rfl rfl (OW.call (d := 21) (enc := (Value.int .i64)) 91 #[(.pointer x16), (.int .i64 x20)] rfl (fun _ => by kernel_rfl) (fun Qf w => ref02_Rack_Flush_sim x16 x20 Qf w) rfl rfl (fun x21 => ?_))
  refine KT.pvN 9 22 (.bool (x21 == 12)) ?_
  refine KT.doneN (by kernel_rfl) ?_
  refine SX.seq ?_
  refine SC.cond (b := x21 == 12) rfl ?_ ?_
  refine SC.seq ?_
  refine SC.region' ?_
  refine KT.pv 2 (.int .i64 12) ?_
  refine KT.nil ?_
  refine SX.seq ?_
  refine SC.ret ?_
  refine SX.block_ret ?_
  refine SX.then_ret ?_
  refine SX.loop_ret ?_
  refine SX.block_ret ?_
  refine SX.then_ret ?_
  refine SX.ret [.tmp 2] rfl ?_
  refine RS.tmp (.int .i64 12) rfl ?_
  exact RS.nil rfl
  refine SC.skip ?_
  refine SX.block ?_
  refine SX.seq ?_
  refine SC.region' ?_
  refine KT.pv 11 (.int .i64 s1) ?_
  refine KT.pv 12 (.int .i64 (w64 (s1 + 1))) ?_
  refine KT.pv 4 (.int .i64 (w64 (s1 + 1))) ?_
  refine KT.nil ?_
  exact SX.loop_next (.cons rfl (.cons rfl (.cons rfl (.nil))))
  refine SC.exit ?_
  refine SX.then_exit ?_
  refine SX.loop_exit ?_
  refine SX.block_hit ?_
  refine SX.seq ?_
  refine SC.seq ?_
  refine SC.region' ?_
  refine KT.pv 2 (.int .i64 0) ?_
  refine KT.nil ?_
  refine SX.seq ?_
  refine SC.ret ?_
  refine SX.ret [.tmp 2] rfl ?_
  refine RS.tmp (.int .i64 0) rfl ?_
  exact RS.nil rfl
set_option maxRecDepth 100000 in
theorem ref06_Bank_Everywhere_sim (p0_b : (Option Addr)) (p1_sector : Int) (p2_data : Slc) (Qf : Int → World → Prop) (w : World) (hm : ref06_Bank_Everywhere p0_b p1_sector p2_data Qf w) : Calls Try.prog 103 #[(.pointer p0_b), (.int .i64 p1_sector), (.slice p2_data.base p2_data.len p2_data.cap)] w (RetPost (Value.int .i64) Qf) := by
  refine calls_of (fn := Try.f103) (l := [(.pointer p0_b), (.int .i64 p1_sector), (.slice p2_data.base p2_data.len p2_data.cap)]) (m := ref06_Bank_Everywhere p0_b p1_sector p2_data) 37 (by kernel_rfl) rfl rfl rfl (fun Qf0 => ?_) Qf w hm
  clear hm w Qf
  unfold ref06_Bank_Everywhere
  refine SC.seq ?_
  refine SC.region' ?_
  refine KT.pv 6 (.int .i64 0) ?_
  refine KT.nil ?_
  refine SX.seq ?_
  refine SC.seq ?_
  refine SC.region' ?_
  refine KT.pv 11 (.pointer p0_b) ?_
  refine KT.cl vS 12 132 #[(.pointer p0_b)] (ref06_Bank_disks_sim p0_b) (fun x12 => ?_)
  refine KT.pv 7 (.slice x12.base x12.len x12.cap) ?_
  refine KT.nil ?_
  refine SX.seq ?_
  refine SC.seq ?_
  refine SC.region' ?_
  refine KT.pv 8 (.int .i64 0) ?_
  refine KT.nil ?_
  refine SX.seq ?_
  refine SC.seq ?_
  refine SC.seq ?_
  refine SC.region' ?_
  refine KT.pv 9 (.int .i64 0) ?_
  refine KT.nil ?_
  refine SX.seq ?_
  refine SC.block ?_
  refine SC.loop (σ := (Int × Int)) (fun s1 => [(0, (.pointer p0_b)), (1, (.int .i64 p1_sector)), (2, (.slice p2_data.base p2_data.len p2_data.cap)), (7, (.slice x12.base x12.len x12.cap)), (8, (.int .i64 s1.1)), (9, (.int .i64 s1.2))]) (.cons rfl (.cons rfl (.cons rfl (.cons rfl (.cons rfl (.cons rfl (.nil))))))) (fun _ _ _ s1 => ?_)
  refine SC.seq ?_
  refine SC.seq ?_
  refine SC.region' ?_
  refine KT.pv 13 (.int .i64 s1.2) ?_
  refine KT.pv 14 (.slice x12.base x12.len x12.cap) ?_
  refine KT.pv 15 (.int .i64 ((x12.len : Nat) : Int)) ?_
  refine KT.pv 16 (.bool (decide (s1.2 < ((x12.len : Nat) : Int)))) ?_
  refine KT.nil ?_
  refine SX.seq ?_
  refine SC.cond (b := decide (s1.2 < ((x12.len : Nat) : Int))) rfl ?_ ?_
  refine SC.skip ?_
  refine SX.seq ?_
  refine SC.seq ?_
  refine SC.block ?_
  refine SC.seq ?_
  refine SC.draw 12 (fun f => Nat.beq f 10) rfl (by kernel_rfl) (fun S2 => ?_)
  refine KT.pvA 0 19 (.pointer p0_b) ?_
  refine KT.tp 1 (OY.nil (d := 20) (p := p0_b) _ rfl rfl rfl rfl (fun x20 => ?_))
  refine KT.pvA 2 21 (.pointer (some x20)) ?_
  refine KT.tk 3 (OY.ldI (d := 22) _ _ rfl rfl (by kernel_rfl) rfl rfl (fun x22 => ?_))
  refine KT.pvA 4 23 (.slice x12.base x12.len x12.cap) ?_
  refine KT.pvA 5 24 (.int .i64 s1.2) ?_
  refine KT.tp 6 (OY.idx (d := 25) (s := x12) (i := s1.2) (size := 1) (elem := 3) _ _ _ rfl rfl rfl (by kernel_rfl) (by kernel_rfl) rfl rfl (fun x25 => ?_))
  refine KT.tk 7 (OY.ldI (d := 26) _ _ rfl rfl (by kernel_rfl) rfl rfl (fun x26 => ?_))
  refine KT.pvA 8 27 (.int .i64 p1_sector) ?_
  refine KT.pvA 9 28 (.slice p2_data.base p2_data.len p2_data.cap) ?_
  refine KT.last 10 rfl (by kernel_rfl) rfl rfl (OW.call (d := 29) (enc := (Value.int .i64)) 90 #[(.pointer x22), (.int .i64 x26), (.int .i64 p1_sector), (.slice p2_data.base p2_data.len p2_data.cap)] rfl (fun _ => by kernel_rfl) (fun Qf w => ref02_Rack_Write_sim x22 x26 p1_sector p2_data Qf w) rfl rfl (fun x29 => ?_))
  refine KT.pvN 11 10 (.int .i64 x29) ?_
  refine KT.doneN (by kernel_rfl) ?_
  refine SX.seq ?_
  refine SC.seq ?_
  refine SC.seq ?_
  refine SC.region' ?_
  refine KT.pv 30 (.int .i64 x29) ?_
  refine KT.pv 31 (.bool (x29 == 12)) ?_
  refine KT.nil ?_
  refine SX.seq ?_
  refine SC.cond (b := x29 == 12) rfl ?_ ?_
  refine SC.seq ?_
  refine SC.region' ?_
  refine KT.pv 32 (.int .i64 x29) ?_
  refine KT.pv 6 (.int .i64 x29) ?_
  refine KT.nil ?_
  refine SX.seq ?_
  refine SC.ret ?_
  refine SX.then_ret ?_
  refine SX.block_ret ?_
  refine SX.then_ret ?_
  refine SX.loop_ret ?_
  refine SX.block_ret ?_
  refine SX.then_ret ?_
  refine SX.ret [.tmp 6] rfl ?_
  refine RS.tmp (.int .i64 x29) rfl ?_
  exact RS.nil rfl
  refine SC.skip ?_
  refine SX.seq ?_
  refine SC.seq ?_
  refine SC.region' ?_
  refine KT.pv 33 (.int .i64 x29) ?_
  refine KT.pv 34 (.bool (x29 == 11)) ?_
  refine KT.nil ?_
  refine SX.seq ?_
  refine SC.cond (b := x29 == 11) rfl ?_ ?_
  refine SC.region' ?_
  refine KT.pv 35 (.int .i64 x29) ?_
  refine KT.pv 8 (.int .i64 x29) ?_
  refine KT.nil ?_
  refine SX.block ?_
  refine SX.seq ?_
  refine SC.region' ?_
  refine KT.pv 17 (.int .i64 s1.2) ?_
  refine KT.pv 18 (.int .i64 (w64 (s1.2 + 1))) ?_
  refine KT.pv 9 (.int .i64 (w64 (s1.2 + 1))) ?_
  refine KT.nil ?_
  refine SX.sub (T' := [(0, (.pointer p0_b)), (1, (.int .i64 p1_sector)), (2, (.slice p2_data.base p2_data.len p2_data.cap)), (7, (.slice x12.base x12.len x12.cap)), (8, (.int .i64 x29)), (9, (.int .i64 (w64 (s1.2 + 1))))]) (.cons rfl (.cons rfl (.cons rfl (.cons rfl (.cons rfl (.cons rfl (.nil))))))) ?_
  exact SX.loop_next (.cons rfl (.cons rfl (.cons rfl (.cons rfl (.cons rfl (.cons rfl (.nil)))))))
  refine SC.skip ?_
  refine SX.block ?_
  refine SX.seq ?_
  refine SC.region' ?_
  refine KT.pv 17 (.int .i64 s1.2) ?_
  refine KT.pv 18 (.int .i64 (w64 (s1.2 + 1))) ?_
  refine KT.pv 9 (.int .i64 (w64 (s1.2 + 1))) ?_
  refine KT.nil ?_
  exact SX.loop_next (.cons rfl (.cons rfl (.cons rfl (.cons rfl (.cons rfl (.cons rfl (.nil)))))))
  refine SC.exit ?_
  refine SX.then_exit ?_
  refine SX.loop_exit ?_
  refine SX.block_hit ?_
  refine SX.seq ?_
  refine SC.seq ?_
  refine SC.region' ?_
  refine KT.pv 36 (.int .i64 s1.1) ?_
  refine KT.pv 6 (.int .i64 s1.1) ?_
  refine KT.nil ?_
  refine SX.seq ?_
  refine SC.ret ?_
  refine SX.ret [.tmp 6] rfl ?_
  refine RS.tmp (.int .i64 s1.1) rfl ?_
  exact RS.nil rfl
set_option maxRecDepth 100000 in
theorem ref00_SameRows_sim (p0_a : Slc) (p1_b : Slc) (Qf : Bool → World → Prop) (w : World) (hm : ref00_SameRows p0_a p1_b Qf w) : Calls Try.prog 104 #[(.slice p0_a.base p0_a.len p0_a.cap), (.slice p1_b.base p1_b.len p1_b.cap)] w (RetPost Value.bool Qf) := by
  refine calls_of (fn := Try.f104) (l := [(.slice p0_a.base p0_a.len p0_a.cap), (.slice p1_b.base p1_b.len p1_b.cap)]) (m := ref00_SameRows p0_a p1_b) 27 (by kernel_rfl) rfl rfl rfl (fun Qf0 => ?_) Qf w hm
  clear hm w Qf
  unfold ref00_SameRows
  refine SC.seq ?_
  refine SC.region' ?_
  refine KT.pv 4 (.bool false) ?_
  refine KT.nil ?_
  refine SX.seq ?_
  refine SC.seq ?_
  refine SC.seq ?_
  refine SC.region' ?_
  refine KT.pv 6 (.slice p0_a.base p0_a.len p0_a.cap) ?_
  refine KT.pv 7 (.int .i64 ((p0_a.len : Nat) : Int)) ?_
  refine KT.pv 8 (.slice p1_b.base p1_b.len p1_b.cap) ?_
  refine KT.pv 9 (.int .i64 ((p1_b.len : Nat) : Int)) ?_
  refine KT.pv 10 (.bool (((p0_a.len : Nat) : Int) != ((p1_b.len : Nat) : Int))) ?_
  refine KT.nil ?_
  refine SX.seq ?_
  refine SC.cond (b := ((p0_a.len : Nat) : Int) != ((p1_b.len : Nat) : Int)) rfl ?_ ?_
  refine SC.seq ?_
  refine SC.region' ?_
  refine KT.pv 4 (.bool false) ?_
  refine KT.nil ?_
  refine SX.seq ?_
  refine SC.ret ?_
  refine SX.then_ret ?_
  refine SX.ret [.tmp 4] rfl ?_
  refine RS.tmp (.bool false) rfl ?_
  exact RS.nil rfl
  refine SC.skip ?_
  refine SX.seq ?_
  refine SC.seq ?_
  refine SC.seq ?_
  refine SC.region' ?_
  refine KT.pv 5 (.int .i64 0) ?_
  refine KT.nil ?_
  refine SX.seq ?_
  refine SC.block ?_
  refine SC.loop (σ := (Int)) (fun s1 => [(0, (.slice p0_a.base p0_a.len p0_a.cap)), (1, (.slice p1_b.base p1_b.len p1_b.cap)), (5, (.int .i64 s1))]) (.cons rfl (.cons rfl (.cons rfl (.nil)))) (fun _ _ _ s1 => ?_)
  refine SC.seq ?_
  refine SC.seq ?_
  refine SC.region' ?_
  refine KT.pv 11 (.int .i64 s1) ?_
  refine KT.pv 12 (.slice p0_a.base p0_a.len p0_a.cap) ?_
  refine KT.pv 13 (.int .i64 ((p0_a.len : Nat) : Int)) ?_
  refine KT.pv 14 (.bool (decide (s1 < ((p0_a.len : Nat) : Int)))) ?_
  refine KT.nil ?_
  refine SX.seq ?_
  refine SC.cond (b := decide (s1 < ((p0_a.len : Nat) : Int))) rfl ?_ ?_
  refine SC.skip ?_
  refine SX.seq ?_
  refine SC.seq ?_
  refine SC.block ?_
  refine SC.seq ?_
  refine SC.draw 10 (fun f => Nat.beq f 8) rfl (by kernel_rfl) (fun S2 => ?_)
  refine KT.pvA 0 17 (.slice p0_a.base p0_a.len p0_a.cap) ?_
  refine KT.pvA 1 18 (.int .i64 s1) ?_
  refine KT.tp 2 (OY.idx (d := 19) (s := p0_a) (i := s1) (size := 1) (elem := 46) _ _ _ rfl rfl rfl (by kernel_rfl) (by kernel_rfl) rfl rfl (fun x19 => ?_))
  refine KT.tk 3 (OY.ldI (d := 20) _ _ rfl rfl (by kernel_rfl) rfl rfl (fun x20 => ?_))
  refine KT.pvA 4 21 (.slice p1_b.base p1_b.len p1_b.cap) ?_
  refine KT.pvA 5 22 (.int .i64 s1) ?_
  refine KT.tp 6 (OY.idx (d := 23) (s := p1_b) (i := s1) (size := 1) (elem := 46) _ _ _ rfl rfl rfl (by kernel_rfl) (by kernel_rfl) rfl rfl (fun x23 => ?_))
  refine KT.tk 7 (OY.ldI (d := 24) _ _ rfl rfl (by kernel_rfl) rfl rfl (fun x24 => ?_))
  refine KT.last 8 rfl (by kernel_rfl) rfl rfl (OW.call (d := 25) (enc := Value.bool) 30 #[(.slice x20.base x20.len x20.cap), (.slice x24.base x24.len x24.cap)] rfl (fun _ => by kernel_rfl) (fun Qf w => ref00_SameBytes_sim x20 x24 Qf w) rfl rfl (fun x25 => ?_))
  refine KT.pvN 9 26 (.bool (!x25)) ?_
  refine KT.doneN (by kernel_rfl) ?_
  refine SX.seq ?_
  refine SC.cond (b := !x25) rfl ?_ ?_
  refine SC.seq ?_
  refine SC.region' ?_
  refine KT.pv 4 (.bool false) ?_
  refine KT.nil ?_
  refine SX.seq ?_
  refine SC.ret ?_
  refine SX.block_ret ?_
  refine SX.then_ret ?_
  refine SX.loop_ret ?_
  refine SX.block_ret ?_
  refine SX.then_ret ?_
  refine SX.ret [.tmp 4] rfl ?_
  refine RS.tmp (.bool false) rfl ?_
  exact RS.nil rfl
  refine SC.skip ?_
  refine SX.block ?_
  refine SX.seq ?_
  refine SC.region' ?_
  refine KT.pv 15 (.int .i64 s1) ?_
  refine KT.pv 16 (.int .i64 (w64 (s1 + 1))) ?_
  refine KT.pv 5 (.int .i64 (w64 (s1 + 1))) ?_
  refine KT.nil ?_
  exact SX.loop_next (.cons rfl (.cons rfl (.cons rfl (.nil))))
  refine SC.exit ?_
  refine SX.then_exit ?_
  refine SX.loop_exit ?_
  refine SX.block_hit ?_
  refine SX.seq ?_
  refine SC.seq ?_
  refine SC.region' ?_
  refine KT.pv 4 (.bool true) ?_
  refine KT.nil ?_
  refine SX.seq ?_
  refine SC.ret ?_
  refine SX.ret [.tmp 4] rfl ?_
  refine RS.tmp (.bool true) rfl ?_
  exact RS.nil rfl
set_option maxRecDepth 100000 in
theorem ref06_Bank_All_sim (p0_b : (Option Addr)) (p1_sector : Int) (Qf : Slc → World → Prop) (w : World) (hm : ref06_Bank_All p0_b p1_sector Qf w) : Calls Try.prog 105 #[(.pointer p0_b), (.int .i64 p1_sector)] w (RetPost vS Qf) := by
  refine calls_of (fn := Try.f105) (l := [(.pointer p0_b), (.int .i64 p1_sector)]) (m := ref06_Bank_All p0_b p1_sector) 39 (by kernel_rfl) rfl rfl rfl (fun Qf0 => ?_) Qf w hm
  clear hm w Qf
  unfold ref06_Bank_All
  refine SC.seq ?_
  refine SC.region' ?_
  refine KT.pv 4 (.slice none 0 0) ?_
  refine KT.nil ?_
  refine SX.seq ?_
  refine SC.seq ?_
  refine SC.region' ?_
  refine KT.nw 10 (fun ad => .slice (some ad) 0 0) 46 (fun x10 => ?_)
  refine KT.pv 5 (.slice (some x10) 0 0) ?_
  refine KT.nil ?_
  refine SX.seq ?_
  refine SC.seq ?_
  refine SC.region' ?_
  refine KT.pv 11 (.pointer p0_b) ?_
  refine KT.cl vS 12 132 #[(.pointer p0_b)] (ref06_Bank_disks_sim p0_b) (fun x12 => ?_)
  refine KT.pv 6 (.slice x12.base x12.len x12.cap) ?_
  refine KT.nil ?_
  refine SX.seq ?_
  refine SC.seq ?_
  refine SC.seq ?_
  refine SC.region' ?_
  refine KT.pv 7 (.int .i64 0) ?_
  refine KT.nil ?_
  refine SX.seq ?_
  refine SC.block ?_
  refine SC.loop (σ := (Slc × Int)) (fun s1 => [(0, (.pointer p0_b)), (1, (.int .i64 p1_sector)), (5, (.slice s1.1.base s1.1.len s1.1.cap)), (6, (.slice x12.base x12.len x12.cap)), (7, (.int .i64 s1.2))]) (.cons rfl (.cons rfl (.cons rfl (.cons rfl (.cons rfl (.nil)))))) (fun _ _ _ s1 => ?_)
  refine SC.seq ?_
  refine SC.seq ?_
  refine SC.region' ?_
  refine KT.pv 13 (.int .i64 s1.2) ?_
  refine KT.pv 14 (.slice x12.base x12.len x12.cap) ?_
  refine KT.pv 15 (.int .i64 ((x12.len : Nat) : Int)) ?_
  refine KT.pv 16 (.bool (decide (s1.2 < ((x12.len : Nat) : Int)))) ?_
  refine KT.nil ?_
  refine SX.seq ?_
  refine SC.cond (b := decide (s1.2 < ((x12.len : Nat) : Int))) rfl ?_ ?_
  refine SC.skip ?_
  refine SX.seq ?_
  refine SC.seq ?_
  refine SC.block ?_
  refine SC.seq ?_
  refine SC.draw 15 (fun f => Nat.beq f 9) rfl (by kernel_rfl) (fun S2 => ?_)
  refine KT.pvA 0 20 (.pointer p0_b) ?_
  refine KT.tp 1 (OY.nil (d := 21) (p := p0_b) _ rfl rfl rfl rfl (fun x21 => ?_))
  refine KT.pvA 2 22 (.pointer (some x21)) ?_
  refine KT.tk 3 (OY.ldI (d := 23) _ _ rfl rfl (by kernel_rfl) rfl rfl (fun x23 => ?_))
  refine KT.pvA 4 24 (.slice x12.base x12.len x12.cap) ?_
  refine KT.pvA 5 25 (.int .i64 s1.2) ?_
  refine KT.tp 6 (OY.idx (d := 26) (s := x12) (i := s1.2) (size := 1) (elem := 3) _ _ _ rfl rfl rfl (by kernel_rfl) (by kernel_rfl) rfl rfl (fun x26 => ?_))
  refine KT.tk 7 (OY.ldI (d := 27) _ _ rfl rfl (by kernel_rfl) rfl rfl (fun x27 => ?_))
  refine KT.pvA 8 28 (.int .i64 p1_sector) ?_
  refine KT.last 9 rfl (by kernel_rfl) rfl rfl (OW.call (d := 29) (enc := (fun y : (Slc × Int) => (.tuple #[(.slice y.1.base y.1.len y.1.cap), (.int .i64 y.2)]))) 88 #[(.pointer x23), (.int .i64 x27), (.int .i64 p1_sector)] rfl (fun _ => by kernel_rfl) (fun Qf w => ref02_Rack_Read_sim x23 x27 p1_sector Qf w) rfl rfl (fun x29 => ?_))
  refine KT.pvN 10 19 (.tuple #[(.slice x29.1.base x29.1.len x29.1.cap), (.int .i64 x29.2)]) ?_
  refine KT.pvN 11 30 (.slice x29.1.base x29.1.len x29.1.cap) ?_
  refine KT.pvN 12 31 (.int .i64 x29.2) ?_
  refine KT.pvN 13 8 (.slice x29.1.base x29.1.len x29.1.cap) ?_
  refine KT.pvN 14 9 (.int .i64 x29.2) ?_
  refine KT.doneN (by kernel_rfl) ?_
  refine SX.seq ?_
  refine SC.seq ?_
  refine SC.region' ?_
  refine KT.pv 32 (.int .i64 x29.2) ?_
  refine KT.pv 33 (.bool (x29.2 == 0)) ?_
  refine KT.nil ?_
  refine SX.seq ?_
  refine SC.cond (b := x29.2 == 0) rfl ?_ ?_
  refine SC.region' ?_
  refine KT.pv 34 (.slice s1.1.base s1.1.len s1.1.cap) ?_
  refine KT.pv 35 (.slice x29.1.base x29.1.len x29.1.cap) ?_
  refine KT.nw 36 (fun ad => .slice (some ad) 1 1) 46 (fun x36 => ?_)
  refine KT.ow rfl (OW.append (d := 37) (s := s1.1) (x := ⟨some x36, 1, 1⟩) [(.slice none 0 0)] 24 46 _ _ _ _ rfl rfl rfl rfl (by kernel_rfl) (by kernel_rfl) rfl rfl rfl (fun x37 => ?_))
  refine KT.pv 5 (.slice x37.base x37.len x37.cap) ?_
  refine KT.nil ?_
  refine SX.sub (T' := [(0, (.pointer p0_b)), (1, (.int .i64 p1_sector)), (5, (.slice x37.base x37.len x37.cap)), (6, (.slice x12.base x12.len x12.cap)), (7, (.int .i64 s1.2))]) (.cons rfl (.cons rfl (.cons rfl (.cons rfl (.cons rfl (.nil)))))) ?_
  refine SX.block ?_
  refine SX.seq ?_
  refine SC.region' ?_
  refine KT.pv 17 (.int .i64 s1.2) ?_
  refine KT.pv 18 (.int .i64 (w64 (s1.2 + 1))) ?_
  refine KT.pv 7 (.int .i64 (w64 (s1.2 + 1))) ?_
  refine KT.nil ?_
  exact SX.loop_next (.cons rfl (.cons rfl (.cons rfl (.cons rfl (.cons rfl (.nil))))))
  refine SC.skip ?_
  refine SX.block ?_
  refine SX.seq ?_
  refine SC.region' ?_
  refine KT.pv 17 (.int .i64 s1.2) ?_
  refine KT.pv 18 (.int .i64 (w64 (s1.2 + 1))) ?_
  refine KT.pv 7 (.int .i64 (w64 (s1.2 + 1))) ?_
  refine KT.nil ?_
  exact SX.loop_next (.cons rfl (.cons rfl (.cons rfl (.cons rfl (.cons rfl (.nil))))))
  refine SC.exit ?_
  refine SX.then_exit ?_
  refine SX.loop_exit ?_
  refine SX.block_hit ?_
  refine SX.seq ?_
  refine SC.seq ?_
  refine SC.region' ?_
  refine KT.pv 38 (.slice s1.1.base s1.1.len s1.1.cap) ?_
  refine KT.pv 4 (.slice s1.1.base s1.1.len s1.1.cap) ?_
  refine KT.nil ?_
  refine SX.seq ?_
  refine SC.ret ?_
  refine SX.ret [.tmp 4] rfl ?_
  refine RS.tmp (.slice s1.1.base s1.1.len s1.1.cap) rfl ?_
  exact RS.nil rfl
set_option maxRecDepth 100000 in
theorem ref06_Bank_Join_sim (p0_b : (Option Addr)) (p1_m : (Int × Int × Int)) (Qf : Unit → World → Prop) (w : World) (hm : ref06_Bank_Join p0_b p1_m Qf w) : Calls Try.prog 106 #[(.pointer p0_b), (.agg #[(.int .i64 p1_m.1), (.int .i64 p1_m.2.1), (.int .i64 p1_m.2.2)])] w (RetPost (fun y : Unit => (.tuple #[])) Qf) := by
  refine calls_of (fn := Try.f106) (l := [(.pointer p0_b), (.agg #[(.int .i64 p1_m.1), (.int .i64 p1_m.2.1), (.int .i64 p1_m.2.2)])]) (m := ref06_Bank_Join p0_b p1_m) 14 (by kernel_rfl) rfl rfl rfl (fun Qf0 => ?_) Qf w hm
  clear hm w Qf
  unfold ref06_Bank_Join
  refine SC.seq ?_
  refine SC.region' ?_
  refine KT.nw 3 (fun ad => .pointer (some ad)) 25 (fun x3 => ?_)
  refine KT.nil ?_
  refine SX.seq ?_
  refine SC.seq ?_
  refine SC.draw 6 (fun f => Nat.beq f 5) rfl (by kernel_rfl) (fun S1 => ?_)
  refine KT.pvA 0 4 (.pointer p0_b) ?_
  refine KT.tp 1 (OY.nil (d := 5) (p := p0_b) _ rfl rfl rfl rfl (fun x5 => ?_))
  refine KT.pvA 2 6 (.pointer (some (Addr.add x5 1))) ?_
  refine KT.tk 3 (OY.ldAI (d := 7) (enc := (fun y : (Int × Int × Int) => [(.int .i64 y.1), (.int .i64 y.2.1), (.int .i64 y.2.2)])) 3 _ _ rfl rfl (by kernel_rfl) (by kernel_rfl) (fun _ => rfl) rfl rfl (fun x7 => ?_))
  refine KT.tk 4 (OY.ldAI (d := 8) (enc := (fun y : (Int × Int × Int) => [(.int .i64 y.1), (.int .i64 y.2.1), (.int .i64 y.2.2)])) 3 _ _ rfl rfl (by kernel_rfl) (by kernel_rfl) (fun _ => rfl) rfl rfl (fun x8 => ?_))
  refine KT.last 5 rfl (by kernel_rfl) rfl rfl (OW.call (d := 9) (enc := Value.bool) 68 #[(.agg #[(.int .i64 x7.1), (.int .i64 x7.2.1), (.int .i64 x7.2.2)]), (.agg #[(.int .i64 x8.1), (.int .i64 x8.2.1), (.int .i64 x8.2.2)])] rfl (fun _ => by kernel_rfl) (fun Qf w => ref06_Fits_sim (x7.1, x7.2.1, x7.2.2) (x8.1, x8.2.1, x8.2.2) Qf w) rfl rfl (fun x9 => ?_))
  refine KT.doneN (by kernel_rfl) ?_
  refine SX.seq ?_
  refine SC.cond (b := x9) rfl ?_ ?_
  refine SC.region' ?_
  refine KT.pv 10 (.pointer p0_b) ?_
  refine KT.ow rfl (OW.ldA (d := 11) (enc := (fun y : (Int × Int × Int) => [(.int .i64 y.1), (.int .i64 y.2.1), (.int .i64 y.2.2)])) 3 _ _ rfl rfl (by kernel_rfl) (by kernel_rfl) (fun _ => rfl) rfl rfl (fun x11 => ?_))
  refine KT.nm 12 (fun x12 => ?_)
  refine KT.pv 13 (.pointer (some (Addr.add x12 4))) ?_
  refine KT.ow rfl (OW.stA _ _ _ rfl rfl rfl rfl rfl (by kernel_rfl) ?_)
  refine KT.nil ?_
  refine SX.endBody [] rfl ?_
  exact RS.nil rfl
  refine SC.skip ?_
  refine SX.endBody [] rfl ?_
  exact RS.nil rfl
set_option maxRecDepth 100000 in
theorem ref00_SameInts_sim (p0_a : Slc) (p1_b : Slc) (Qf : Bool → World → Prop) (w : World) (hm : ref00_SameInts p0_a p1_b Qf w) : Calls Try.prog 107 #[(.slice p0_a.base p0_a.len p0_a.cap), (.slice p1_b.base p1_b.len p1_b.cap)] w (RetPost Value.bool Qf) := by
  refine calls_of (fn := Try.f107) (l := [(.slice p0_a.base p0_a.len p0_a.cap), (.slice p1_b.base p1_b.len p1_b.cap)]) (m := ref00_SameInts p0_a p1_b) 26 (by kernel_rfl) rfl rfl rfl (fun Qf0 => ?_) Qf w hm
  clear hm w Qf
  unfold ref00_SameInts
  refine SC.seq ?_
  refine SC.region' ?_
  refine KT.pv 4 (.bool false) ?_
  refine KT.nil ?_
  refine SX.seq ?_
  refine SC.seq ?_
  refine SC.seq ?_
  refine SC.region' ?_
  refine KT.pv 6 (.slice p0_a.base p0_a.len p0_a.cap) ?_
  refine KT.pv 7 (.int .i64 ((p0_a.len : Nat) : Int)) ?_
  refine KT.pv 8 (.slice p1_b.base p1_b.len p1_b.cap) ?_
  refine KT.pv 9 (.int .i64 ((p1_b.len : Nat) : Int)) ?_
  refine KT.pv 10 (.bool (((p0_a.len : Nat) : Int) != ((p1_b.len : Nat) : Int))) ?_
  refine KT.nil ?_
  refine SX.seq ?_
  refine SC.cond (b := ((p0_a.len : Nat) : Int) != ((p1_b.len : Nat) : Int)) rfl ?_ ?_
  refine SC.seq ?_
  refine SC.region' ?_
  refine KT.pv 4 (.bool false) ?_
  refine KT.nil ?_
  refine SX.seq ?_
  refine SC.ret ?_
  refine SX.then_ret ?_
  refine SX.ret [.tmp 4] rfl ?_
  refine RS.tmp (.bool false) rfl ?_
  exact RS.nil rfl
  refine SC.skip ?_
  refine SX.seq ?_
  refine SC.seq ?_
  refine SC.seq ?_
  refine SC.region' ?_
  refine KT.pv 5 (.int .i64 0) ?_
  refine KT.nil ?_
  refine SX.seq ?_
  refine SC.block ?_
  refine SC.loop (σ := (Int)) (fun s1 => [(0, (.slice p0_a.base p0_a.len p0_a.cap)), (1, (.slice p1_b.base p1_b.len p1_b.cap)), (5, (.int .i64 s1))]) (.cons rfl (.cons rfl (.cons rfl (.nil)))) (fun _ _ _ s1 => ?_)
  refine SC.seq ?_
  refine SC.seq ?_
  refine SC.region' ?_
  refine KT.pv 11 (.int .i64 s1) ?_
  refine KT.pv 12 (.slice p0_a.base p0_a.len p0_a.cap) ?_
  refine KT.pv 13 (.int .i64 ((p0_a.len : Nat) : Int)) ?_
  refine KT.pv 14 (.bool (decide (s1 < ((p0_a.len : Nat) : Int)))) ?_
  refine KT.nil ?_
  refine SX.seq ?_
  refine SC.cond (b := decide (s1 < ((p0_a.len : Nat) : Int))) rfl ?_ ?_
  refine SC.skip ?_
  refine SX.seq ?_
  refine SC.seq ?_
  refine SC.block ?_
  refine SC.seq ?_
  refine SC.draw 9 (fun _ => false) rfl (by kernel_rfl) (fun S2 => ?_)
  refine KT.pvA 0 17 (.slice p0_a.base p0_a.len p0_a.cap) ?_
  refine KT.pvA 1 18 (.int .i64 s1) ?_
  refine KT.tp 2 (OY.idx (d := 19) (s := p0_a) (i := s1) (size := 1) (elem := 3) _ _ _ rfl rfl rfl (by kernel_rfl) (by kernel_rfl) rfl rfl (fun x19 => ?_))
  refine KT.tk 3 (OY.ldI (d := 20) _ _ rfl rfl (by kernel_rfl) rfl rfl (fun x20 => ?_))
  refine KT.pvA 4 21 (.slice p1_b.base p1_b.len p1_b.cap) ?_
  refine KT.pvA 5 22 (.int .i64 s1) ?_
  refine KT.tp 6 (OY.idx (d := 23) (s := p1_b) (i := s1) (size := 1) (elem := 3) _ _ _ rfl rfl rfl (by kernel_rfl) (by kernel_rfl) rfl rfl (fun x23 => ?_))
  refine KT.tk 7 (OY.ldI (d := 24) _ _ rfl rfl (by kernel_rfl) rfl rfl (fun x24 => ?_))
  refine KT.pvA 8 25 (.bool (x20 != x24)) ?_
  refine KT.doneA (by kernel_rfl) ?_
  refine SX.seq ?_
  refine SC.cond (b := x20 != x24) rfl ?_ ?_
  refine SC.seq ?_
  refine SC.region' ?_
  refine KT.pv 4 (.bool false) ?_
  refine KT.nil ?_
  refine SX.seq ?_
  refine SC.ret ?_
  refine SX.block_ret ?_
  refine SX.then_ret ?_
  refine SX.loop_ret ?_
  refine SX.block_ret ?_
  refine SX.then_ret ?_
  refine SX.ret [.tmp 4] rfl ?_
  refine RS.tmp (.bool false) rfl ?_
  exact RS.nil rfl
  refine SC.skip ?_
  refine SX.block ?_
  refine SX.seq ?_
  refine SC.region' ?_
  refine KT.pv 15 (.int .i64 s1) ?_
  refine KT.pv 16 (.int .i64 (w64 (s1 + 1))) ?_
  refine KT.pv 5 (.int .i64 (w64 (s1 + 1))) ?_
  refine KT.nil ?_
  exact SX.loop_next (.cons rfl (.cons rfl (.cons rfl (.nil))))
  refine SC.exit ?_
  refine SX.then_exit ?_
  refine SX.loop_exit ?_
  refine SX.block_hit ?_
  refine SX.seq ?_
  refine SC.seq ?_
  refine SC.region' ?_
  refine KT.pv 4 (.bool true) ?_
  refine KT.nil ?_
  refine SX.seq ?_
  refine SC.ret ?_
  refine SX.ret [.tmp 4] rfl ?_
  refine RS.tmp (.bool true) rfl ?_
  exact RS.nil rfl
end Go.Proofs.Ytldmeimebebllaa
