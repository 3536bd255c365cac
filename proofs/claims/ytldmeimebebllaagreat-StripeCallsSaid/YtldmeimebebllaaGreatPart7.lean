/-
  A part of the proof: predicate transformers over the model, and a separation logic over them; what functions of the program do.
-/
import Derived.Test.YtldmeimebebllaaGreatPart6
import Derived.Test.YtldmeimebebllaaGreatProg
set_option linter.unusedSimpArgs false
namespace Go.Proofs.Ytldmeimebebllaa
open Go.Mo
set_option linter.unusedVariables false
set_option maxRecDepth 100000
theorem law07_told_sim (p0_r : (Option Addr)) (p1_b : (Option Addr)) (p2_q : (Option Addr)) (p3_m : (Option Addr)) (p4_c : (Int × Int × Int × Int × Slc × Slc × Int × Int × Int)) : Sm Tryz.prog 11 [(.pointer p0_r), (.pointer p1_b), (.pointer p2_q), (.pointer p3_m), (.agg #[(vi p4_c.1), (vi p4_c.2.1), (vi p4_c.2.2.1), (vi p4_c.2.2.2.1), (vS p4_c.2.2.2.2.1), (vS p4_c.2.2.2.2.2.1), (vi p4_c.2.2.2.2.2.2.1), (vi p4_c.2.2.2.2.2.2.2.1), (vi p4_c.2.2.2.2.2.2.2.2)])] Value.bool (law07_told (cvOf Tryz.prog) p0_r p1_b p2_q p3_m p4_c) := by
  refine sm_of 278 Tryz.func11 rfl rfl rfl fun _ => ?_
  unfold law07_told
  refine zG <| KT.nw 9 (fun ad => .pointer (some ad)) 51 fun x9 => zp 10 (vb false) <| zn <| zq <| zG <| zp 29 (vp x9) <| KT.l 30 fun x30 => zn <| SC.block <| zG <| zp 32 (vb (x30 == 0)) <| zp 31 (vb (x30 == 0)) <| zn <| SC.cond rfl ?_ ?_
  exact zq <| SC.draw 18 (fun _ => false) rfl (by kernel_rfl) fun S1 => zpA 0 33 (.pointer p1_b) <| zpA 1 34 (va x9 1) <| zA 2 rfl <| oli 35 fun x35 => zpA 3 36 (va x9 3) <| zA 4 rfl <| oli 37 fun x37 => zpA 5 38 (va x9 4) <| zA 6 rfl <| oli 39 fun x39 => zpA 8 41 (.pointer p3_m) <| zpA 9 42 (va x9 1) <| zA 10 rfl <| oli 43 fun x43 => zpA 11 44 (va x9 3) <| zA 12 rfl <| oli 45 fun x45 => zpA 13 46 (va x9 4) <| zA 14 rfl <| oli 47 fun x47 => KT.one 7 rfl (by kernel_rfl) rfl <| OW.step <| ocall 40 (stripe_Write_sim _ _ _ _) fun x40 => KT.and <| KT.one 15 rfl (by kernel_rfl) rfl <| OW.step <| ocall 48 (ref07_Write_sim _ _ _ _) fun x48 => KT.and <| zpA 16 49 (vb (x40 == x48)) <| zpA 17 10 (vb (x40 == x48)) <| KT.doneA (by kernel_rfl) <| SX.seq <| SC.ret <| SX.block_ret <| SX.then_ret <| ze [.tmp 10] <| zm rfl zz
  refine zG <| zp 51 (vb (x30 == 1)) <| zp 50 (vb (x30 == 1)) <| zn <| SC.cond rfl ?_ ?_
  refine zG <| zp 53 (.pointer p1_b) <| zp 54 (va x9 1) <| KT.l 55 fun x55 => zp 56 (va x9 2) <| KT.l 57 fun x57 => zp 58 (va x9 3) <| KT.l 59 fun x59 => zc 60 (stripe_Read_sim _ _ _ _) fun x60 => zp 52 (.tuple #[(.agg #[(vi x60.1.1), (vi x60.1.2.1), (vS x60.1.2.2)]), (vi x60.2)]) <| zp 61 (.agg #[(vi x60.1.1), (vi x60.1.2.1), (vS x60.1.2.2)]) <| zp 62 (vi x60.2) <| KT.nw 11 (fun ad => .pointer (some ad)) 58 fun x11 => zo <| osa <| zp 12 (vi x60.2) <| zN <| zp 64 (.pointer p3_m) <| zp 65 (va x9 1) <| KT.l 66 fun x66 => zp 67 (va x9 2) <| KT.l 68 fun x68 => zp 69 (va x9 3) <| KT.l 70 fun x70 => zc 71 (ref07_Read_sim _ _ _ _) fun x71 => zp 63 (.tuple #[(.agg #[(vi x71.1.1), (vi x71.1.2.1), (vS x71.1.2.2)]), (vi x71.2)]) <| zp 72 (.agg #[(vi x71.1.1), (vi x71.1.2.1), (vS x71.1.2.2)]) <| zp 73 (vi x71.2) <| KT.nw 13 (fun ad => .pointer (some ad)) 58 fun x13 => zo <| osa <| zp 14 (vi x71.2) ?_
  refine KT.nil <| zS (T' := [(11, (vp x11)), (12, (vi x60.2)), (13, (vp x13)), (14, (vi x71.2))]) <| SX.seq <| zG <| zp 74 (vp x11) <| KT.l 75 fun x75 => zp 76 (vp x13) <| KT.l 77 fun x77 => zp 78 (vb (x75 == x77)) <| zp 79 (vb (x75 == x77)) <| zj 6 (fun r2 => [(85, (vb r2)), (11, (vp x11)), (12, (vi x60.2)), (13, (vp x13)), (14, (vi x71.2))]) (fun r2 => ?_) (fun j2 => ?_)
  refine zp 86 (vb r2) <| zj 6 (fun r3 => [(92, (vb r3)), (12, (vi x60.2)), (14, (vi x71.2))]) (fun r3 => ?_) (fun j3 => ?_)
  refine zp 93 (vb r3) <| zj 4 (fun r4 => [(97, (vb r4))]) (fun r4 => ?_) (fun j4 => ?_)
  exact zp 10 (vb r4) <| zn <| SC.ret <| SX.block_ret <| SX.then_ret <| ze [.tmp 10] <| zm rfl zz
  refine KT.ite 93 rfl ?_ ?_
  exact zp 94 (vi x60.2) <| zp 95 (vi x71.2) <| zp 96 (vb (x60.2 == x71.2)) <| zp 97 (vb (x60.2 == x71.2)) <| zl j4
  exact zk <| zk <| zk <| zp 97 (vb false) <| zl j4
  refine KT.ite 86 rfl ?_ ?_
  exact zp 87 (va x11 2) <| KT.l 88 fun x88 => zp 89 (va x13 2) <| KT.l 90 fun x90 => zc 91 (ref00_SameBytes_sim _ _) fun x91 => zp 92 (vb x91) <| zl j3
  exact zk <| zk <| zk <| zk <| zk <| zp 92 (vb false) <| zl j3
  refine KT.ite 79 rfl ?_ ?_
  exact zp 80 (va x11 1) <| KT.l 81 fun x81 => zp 82 (va x13 1) <| KT.l 83 fun x83 => zp 84 (vb (x81 == x83)) <| zp 85 (vb (x81 == x83)) <| zl j2
  exact zk <| zk <| zk <| zk <| zk <| zp 85 (vb false) <| zl j2
  refine zG <| zp 99 (vb (x30 == 2)) <| zp 98 (vb (x30 == 2)) <| zn <| SC.cond rfl ?_ ?_
  refine zG <| zp 101 (.pointer p1_b) <| zp 102 (va x9 1) <| KT.l 103 fun x103 => zc 104 (stripe_Whole_sim _ _) fun x104 => zp 100 (.tuple #[(vi x104.1), (vb x104.2.1), (vi x104.2.2)]) <| zp 105 (vi x104.1) <| zp 106 (vb x104.2.1) <| zp 107 (vi x104.2.2) <| zp 15 (vi x104.1) <| zp 16 (vb x104.2.1) <| zp 17 (vi x104.2.2) <| zN <| zp 109 (.pointer p3_m) <| zp 110 (va x9 1) <| KT.l 111 fun x111 => zc 112 (ref07_Whole_sim _ _) fun x112 => zp 108 (.tuple #[(vi x112.1), (vb x112.2.1), (vi x112.2.2)]) <| zp 113 (vi x112.1) <| zp 114 (vb x112.2.1) <| zp 115 (vi x112.2.2) <| zp 18 (vi x112.1) <| zp 19 (vb x112.2.1) <| zp 20 (vi x112.2.2) <| KT.nil <| zS (T' := [(15, (vi x104.1)), (16, (vb x104.2.1)), (17, (vi x104.2.2)), (18, (vi x112.1)), (19, (vb x112.2.1)), (20, (vi x112.2.2))]) <| SX.seq <| zG <| zp 116 (vi x104.1) <| zp 117 (vi x112.1) ?_
  refine zp 118 (vb (x104.1 == x112.1)) <| zp 119 (vb (x104.1 == x112.1)) <| zj 4 (fun r5 => [(123, (vb r5)), (17, (vi x104.2.2)), (20, (vi x112.2.2))]) (fun r5 => ?_) (fun j5 => ?_)
  refine zp 124 (vb r5) <| zj 4 (fun r6 => [(128, (vb r6))]) (fun r6 => ?_) (fun j6 => ?_)
  exact zp 10 (vb r6) <| zn <| SC.ret <| SX.block_ret <| SX.then_ret <| ze [.tmp 10] <| zm rfl zz
  refine KT.ite 124 rfl ?_ ?_
  exact zp 125 (vi x104.2.2) <| zp 126 (vi x112.2.2) <| zp 127 (vb (x104.2.2 == x112.2.2)) <| zp 128 (vb (x104.2.2 == x112.2.2)) <| zl j6
  exact zk <| zk <| zk <| zp 128 (vb false) <| zl j6
  refine KT.ite 119 rfl ?_ ?_
  exact zp 120 (vb x104.2.1) <| zp 121 (vb x112.2.1) <| zp 122 (vb (x104.2.1 == x112.2.1)) <| zp 123 (vb (x104.2.1 == x112.2.1)) <| zl j5
  exact zk <| zk <| zk <| zp 123 (vb false) <| zl j5
  refine zG <| zp 130 (vb (x30 == 3)) <| zp 129 (vb (x30 == 3)) <| zn <| SC.cond rfl ?_ ?_
  refine zG <| zp 132 (.pointer p1_b) <| zp 133 (va x9 1) <| KT.l 134 fun x134 => zp 135 (va x9 2) <| KT.l 136 fun x136 => zp 137 (va x9 3) <| KT.l 138 fun x138 => zc 139 (stripe_Missing_sim _ _ _ _) fun x139 => zp 131 (.tuple #[(vb x139.1), (vi x139.2)]) <| zp 140 (vb x139.1) <| zp 141 (vi x139.2) <| zp 21 (vb x139.1) <| zp 22 (vi x139.2) <| KT.nil <| zS (T' := [(3, (.pointer p3_m)), (9, (vp x9)), (21, (vb x139.1)), (22, (vi x139.2))]) <| SX.seq <| zG <| zp 143 (.pointer p3_m) <| zp 144 (va x9 1) <| KT.l 145 fun x145 => zp 146 (va x9 2) <| KT.l 147 fun x147 => zp 148 (va x9 3) <| KT.l 149 fun x149 => zc 150 (ref07_Missing_sim _ _ _ _) fun x150 => zp 142 (.tuple #[(vb x150.1), (vi x150.2)]) <| zp 151 (vb x150.1) <| zp 152 (vi x150.2) <| zp 23 (vb x150.1) ?_
  refine zp 24 (vi x150.2) <| zN <| zp 153 (vb x139.1) <| zp 154 (vb x150.1) <| zp 155 (vb (x139.1 == x150.1)) <| zp 156 (vb (x139.1 == x150.1)) <| zj 4 (fun r7 => [(160, (vb r7))]) (fun r7 => ?_) (fun j7 => ?_)
  exact zp 10 (vb r7) <| zn <| SC.ret <| SX.block_ret <| SX.then_ret <| ze [.tmp 10] <| zm rfl zz
  refine KT.ite 156 rfl ?_ ?_
  exact zp 157 (vi x139.2) <| zp 158 (vi x150.2) <| zp 159 (vb (x139.2 == x150.2)) <| zp 160 (vb (x139.2 == x150.2)) <| zl j7
  exact zk <| zk <| zk <| zp 160 (vb false) <| zl j7
  refine zG <| zp 162 (vb (x30 == 4)) <| zp 161 (vb (x30 == 4)) <| zn <| SC.cond rfl ?_ ?_
  refine zq <| SC.draw 18 (fun _ => false) rfl (by kernel_rfl) fun S8 => zpA 0 163 (.pointer p1_b) <| zpA 1 164 (va x9 1) <| zA 2 rfl <| oli 165 fun x165 => zpA 3 166 (va x9 2) <| zA 4 rfl <| oli 167 fun x167 => zpA 5 168 (va x9 3) <| zA 6 rfl <| oli 169 fun x169 => zpA 8 171 (.pointer p3_m) <| zpA 9 172 (va x9 1) <| zA 10 rfl <| oli 173 fun x173 => zpA 11 174 (va x9 2) <| zA 12 rfl <| oli 175 fun x175 => zpA 13 176 (va x9 3) <| zA 14 rfl <| oli 177 fun x177 => KT.one 7 rfl (by kernel_rfl) rfl <| OW.step <| ocall 170 (stripe_Refill_sim _ _ _ _) fun x170 => KT.and <| KT.one 15 rfl (by kernel_rfl) rfl <| OW.step <| ocall 178 (ref07_Refill_sim _ _ _ _) fun x178 => KT.and <| zpA 16 179 (vb (x170 == x178)) <| zpA 17 10 (vb (x170 == x178)) <| KT.doneA (by kernel_rfl) <| zS (T' := [(10, (vb (x170 == x178)))]) <| SX.seq <| SC.ret <| SX.block_ret <| SX.then_ret <| ze [.tmp 10] <| zm rfl ?_
  exact zz
  refine zG <| zp 181 (vb (x30 == 5)) <| zp 180 (vb (x30 == 5)) <| zn <| SC.cond rfl ?_ ?_
  refine zG <| zp 183 (.pointer p1_b) <| zp 184 (va x9 1) <| KT.l 185 fun x185 => zp 186 (va x9 3) <| KT.l 187 fun x187 => zc 188 (stripe_Sound_sim _ _ _) fun x188 => zp 182 (.tuple #[(vb x188.1), (vi x188.2)]) <| zp 189 (vb x188.1) <| zp 190 (vi x188.2) <| zp 25 (vb x188.1) <| zp 26 (vi x188.2) <| KT.nil <| zS (T' := [(3, (.pointer p3_m)), (9, (vp x9)), (25, (vb x188.1)), (26, (vi x188.2))]) <| SX.seq <| zG <| zp 192 (.pointer p3_m) <| zp 193 (va x9 1) <| KT.l 194 fun x194 => zp 195 (va x9 3) <| KT.l 196 fun x196 => zc 197 (ref07_Sound_sim _ _ _) fun x197 => zp 191 (.tuple #[(vb x197.1), (vi x197.2)]) <| zp 198 (vb x197.1) <| zp 199 (vi x197.2) <| zp 27 (vb x197.1) <| zp 28 (vi x197.2) <| zN <| zp 200 (vb x188.1) <| zp 201 (vb x197.1) ?_
  refine zp 202 (vb (x188.1 == x197.1)) <| zp 203 (vb (x188.1 == x197.1)) <| zj 4 (fun r9 => [(207, (vb r9))]) (fun r9 => ?_) (fun j9 => ?_)
  exact zp 10 (vb r9) <| zn <| SC.ret <| SX.block_ret <| SX.then_ret <| ze [.tmp 10] <| zm rfl zz
  refine KT.ite 203 rfl ?_ ?_
  exact zp 204 (vi x188.2) <| zp 205 (vi x197.2) <| zp 206 (vb (x188.2 == x197.2)) <| zp 207 (vb (x188.2 == x197.2)) <| zl j9
  exact zk <| zk <| zk <| zp 207 (vb false) <| zl j9
  refine zG <| zp 209 (vb (x30 == 6)) <| zp 208 (vb (x30 == 6)) <| zn <| SC.cond rfl ?_ ?_
  refine zq <| SC.draw 18 (fun _ => false) rfl (by kernel_rfl) fun S10 => zpA 0 210 (.pointer p1_b) <| zpA 1 211 (va x9 2) <| zA 2 rfl <| oli 212 fun x212 => zpA 3 213 (va x9 1) <| zA 4 rfl <| oli 214 fun x214 => zpA 5 215 (va x9 5) <| zA 6 rfl <| oli 216 fun x216 => zpA 8 218 (.pointer p3_m) <| zpA 9 219 (va x9 2) <| zA 10 rfl <| oli 220 fun x220 => zpA 11 221 (va x9 1) <| zA 12 rfl <| oli 222 fun x222 => zpA 13 223 (va x9 5) <| zA 14 rfl <| oli 224 fun x224 => KT.one 7 rfl (by kernel_rfl) rfl <| OW.step <| ocall 217 (bank_Bank_Write_sim _ _ _ _) fun x217 => KT.and <| KT.one 15 rfl (by kernel_rfl) rfl <| OW.step <| ocall 225 (ref06_Bank_Write_sim _ _ _ _) fun x225 => KT.and <| zpA 16 226 (vb (x217 == x225)) <| zpA 17 10 (vb (x217 == x225)) <| KT.doneA (by kernel_rfl) <| zS (T' := [(10, (vb (x217 == x225)))]) <| SX.seq <| SC.ret <| SX.block_ret <| SX.then_ret <| ze [.tmp 10] <| zm rfl ?_
  exact zz
  refine zG <| zp 228 (vb (x30 == 7)) <| zp 227 (vb (x30 == 7)) <| zn <| SC.cond rfl ?_ ?_
  exact zG <| zp 229 (.pointer p1_b) <| zp 230 (va x9 6) <| zo <| ola 231 3 fun x231 => zc 232 (bank_Bank_Join_sim _ _) fun x232 => zn <| zg <| zp 233 (.pointer p3_m) <| zp 234 (va x9 6) <| zo <| ola 235 3 fun x235 => zc 236 (ref06_Bank_Join_sim _ _) fun x236 => KT.nil <| zS (T' := []) <| SX.block <| SX.seq <| zG <| zp 10 (vb true) <| zn <| SC.ret <| ze [.tmp 10] <| zm rfl zz
  refine zG <| zp 238 (vb (x30 == 8)) <| zp 237 (vb (x30 == 8)) <| zn <| SC.cond rfl ?_ ?_
  exact zq <| SC.draw 14 (fun _ => false) rfl (by kernel_rfl) fun S11 => zpA 0 239 (.pointer p0_r) <| zpA 1 240 (va x9 2) <| zA 2 rfl <| oli 241 fun x241 => zpA 3 242 (va x9 3) <| zA 4 rfl <| oli 243 fun x243 => zpA 6 245 (.pointer p2_q) <| zpA 7 246 (va x9 2) <| zA 8 rfl <| oli 247 fun x247 => zpA 9 248 (va x9 3) <| zA 10 rfl <| oli 249 fun x249 => KT.one 5 rfl (by kernel_rfl) rfl <| OW.step <| ocall 244 (device_Rack_Doom_sim _ _ _) fun x244 => KT.and <| KT.one 11 rfl (by kernel_rfl) rfl <| OW.step <| ocall 250 (ref02_Rack_Doom_sim _ _ _) fun x250 => KT.and <| zpA 12 251 (vb (x244 == x250)) <| zpA 13 10 (vb (x244 == x250)) <| KT.doneA (by kernel_rfl) <| zS (T' := [(10, (vb (x244 == x250)))]) <| SX.seq <| SC.ret <| SX.block_ret <| SX.then_ret <| ze [.tmp 10] <| zm rfl zz
  refine zG <| zp 253 (vb (x30 == 9)) <| zp 252 (vb (x30 == 9)) <| zn <| SC.cond rfl ?_ ?_
  exact zG <| zp 254 (.pointer p0_r) <| zp 255 (va x9 3) <| KT.l 256 fun x256 => zc 257 (device_Rack_Arm_sim _ _) fun x257 => KT.nil <| zS (T' := [(2, (.pointer p2_q)), (9, (vp x9))]) <| SX.seq <| zg <| zp 258 (.pointer p2_q) <| zp 259 (va x9 3) <| KT.l 260 fun x260 => zc 261 (ref02_Rack_Arm_sim _ _) fun x261 => KT.nil <| SX.block <| SX.seq <| zG <| zp 10 (vb true) <| zn <| SC.ret <| ze [.tmp 10] <| zm rfl zz
  refine zG <| zp 263 (vb (x30 == 10)) <| zp 262 (vb (x30 == 10)) <| KT.nil <| zS (T' := [(0, (.pointer p0_r)), (2, (.pointer p2_q)), (9, (vp x9)), (262, (vb (x30 == 10)))]) <| SX.seq <| SC.cond rfl ?_ ?_
  exact zG <| zp 264 (.pointer p0_r) <| zp 265 (va x9 3) <| KT.l 266 fun x266 => zp 267 (va x9 2) <| KT.l 268 fun x268 => KT.nw 269 (fun ad => .slice (some ad) 2 2) 3 fun x269 => zc 270 (device_Rack_Restore_sim _ _) fun x270 => zn <| zg <| zp 271 (.pointer p2_q) <| zp 272 (va x9 3) <| KT.l 273 fun x273 => zp 274 (va x9 2) <| KT.l 275 fun x275 => KT.nw 276 (fun ad => .slice (some ad) 2 2) 3 fun x276 => zc 277 (ref02_Rack_Restore_sim _ _) fun x277 => KT.nil <| SX.block <| SX.seq <| zG <| zp 10 (vb true) <| zn <| SC.ret <| ze [.tmp 10] <| zm rfl zz
  exact SC.skip <| SX.block <| SX.seq <| zG <| zp 10 (vb true) <| zn <| SC.ret <| ze [.tmp 10] <| zm rfl zz
theorem law07_StripeCalls_sim (p0_member : (Int × Int × Int)) (p1_calls : Slc) : Sm Tryz.prog 3 [(.agg #[(vi p0_member.1), (vi p0_member.2.1), (vi p0_member.2.2)]), (vS p1_calls)] Value.bool (law07_StripeCalls (cvOf Tryz.prog) p0_member p1_calls) := by
  refine sm_of 101 Tryz.func3 rfl rfl rfl fun _ => ?_
  unfold law07_StripeCalls
  refine zG <| KT.nw 2 (fun ad => .pointer (some ad)) 23 fun x2 => zp 4 (vb false) <| zn <| zq <| zG <| zc 18 (law07_alive_sim ) fun x18 => zp 19 (vb (!x18)) <| zn <| SC.cond rfl ?_ ?_
  exact zG <| zp 4 (vb false) <| zn <| zt <| ze [.tmp 4] <| zm rfl zz
  refine zw <| zq <| zG <| zp 20 (vS p1_calls) <| zc 21 (law07_great_sim _) fun x21 => zn <| SC.cond rfl ?_ ?_
  exact zG <| zp 4 (vb true) <| zn <| zt <| ze [.tmp 4] <| zm rfl zz
  refine zw <| zG <| zo <| ola 23 3 fun x23 => zc 24 (law07_Open_sim _) fun x24 => zp 22 (.tuple #[(.pointer x24.1), (.pointer x24.2)]) <| zp 25 (.pointer x24.1) <| zp 26 (.pointer x24.2) <| zp 5 (.pointer x24.1) <| zp 6 (.pointer x24.2) <| zN <| zc 28 (law07_Small_sim ) fun x28 => zc 29 (geo_Sectors_sim _) fun x29 => zc 30 (ref02_New_sim _ _) fun x30 => zp 27 (.tuple #[(.agg #[(vi x30.1.1), (vi x30.1.2.1), (vS x30.1.2.2.1), (vS x30.1.2.2.2.1), (vS x30.1.2.2.2.2.1), (vS x30.1.2.2.2.2.2.1), (vi x30.1.2.2.2.2.2.2.1), (vb x30.1.2.2.2.2.2.2.2)]), (vi x30.2)]) <| zp 31 (.agg #[(vi x30.1.1), (vi x30.1.2.1), (vS x30.1.2.2.1), (vS x30.1.2.2.2.1), (vS x30.1.2.2.2.2.1), (vS x30.1.2.2.2.2.2.1), (vi x30.1.2.2.2.2.2.2.1), (vb x30.1.2.2.2.2.2.2.2)]) <| zp 32 (vi x30.2) <| KT.nw 7 (fun ad => .pointer (some ad)) 35 fun x7 => zo <| osa <| zp 8 (vi x30.2) <| zn <| zq <| SC.draw 8 (fun f => Nat.beq f 2) rfl (by kernel_rfl) fun S1 => zA 1 rfl <| olai 35 3 fun x35 => KT.one 0 rfl (by kernel_rfl) rfl <| OW.step <| ocall 34 (law07_Small_sim ) fun x34 => KT.and <| KT.last 2 rfl (by kernel_rfl) rfl rfl <| ocall 36 (ref06_Open_sim _ _ _) fun x36 => KT.pvN 3 33 (.tuple #[(.pointer x36.1), (vi x36.2)]) <| KT.pvN 4 37 (.pointer x36.1) <| KT.pvN 5 38 (vi x36.2) <| KT.pvN 6 9 (.pointer x36.1) ?_
  refine KT.pvN 7 10 (vi x36.2) <| KT.doneN (by kernel_rfl) <| zS (T' := [(1, (vS p1_calls)), (5, (.pointer x24.1)), (6, (.pointer x24.2)), (7, (vp x7)), (9, (.pointer x36.1)), (10, (vi x36.2))]) <| SX.seq <| zq <| zG <| zp 39 (.pointer x24.1) <| KT.oy rfl (OY.eqlNil (d := 40) (p := x24.1) _ _ _ _ rfl rfl rfl (by kernel_rfl) rfl rfl ?_)
  refine zp 41 (vi x36.2) <| zp 42 (vb (x36.2 != 0)) <| zp 43 (vb (!(((x24.1).isNone) == (x36.2 != 0)))) <| zn <| SC.cond rfl ?_ ?_
  exact zG <| zp 4 (vb false) <| zn <| zt <| ze [.tmp 4] <| zm rfl zz
  refine zw <| zq <| zG <| zp 44 (.pointer x24.1) <| KT.oy rfl (OY.eqlNil (d := 45) (p := x24.1) _ _ _ _ rfl rfl rfl (by kernel_rfl) rfl rfl ?_)
  refine zp 46 (vb ((x24.1).isNone)) <| zj 3 (fun r2 => [(49, (vb r2)), (1, (vS p1_calls)), (5, (.pointer x24.1)), (6, (.pointer x24.2)), (7, (vp x7)), (9, (.pointer x36.1))]) (fun r2 => ?_) (fun j2 => ?_)
  refine zp 50 (vb r2) <| zj 3 (fun r3 => [(53, (vb r3)), (1, (vS p1_calls)), (5, (.pointer x24.1)), (6, (.pointer x24.2)), (7, (vp x7)), (9, (.pointer x36.1))]) (fun r3 => ?_) (fun j3 => ?_)
  refine zn <| SC.cond rfl ?_ ?_
  exact zG <| zp 4 (vb true) <| zn <| zt <| ze [.tmp 4] <| zm rfl zz
  refine zw <| zq <| zG <| zp 11 (vi 0) <| zn <| SC.block <| zL (σ := (Int)) (fun s4 => [(1, (vS p1_calls)), (5, (.pointer x24.1)), (6, (.pointer x24.2)), (7, (vp x7)), (9, (.pointer x36.1)), (11, (vi s4))]) fun _ _ _ s4 => zq <| zG <| zp 54 (vi s4) <| zp 55 (vS p1_calls) <| zp 56 (vi (vl p1_calls)) <| zp 57 (vb (decide (s4 < (vl p1_calls)))) <| zn <| SC.cond rfl ?_ ?_
  refine zw <| zq <| SC.block <| zG <| zp 60 (.pointer x24.2) <| zp 61 (.pointer x24.1) <| zp 62 (.pointer x36.1) <| zp 63 (vS p1_calls) <| zp 64 (vi s4) <| zy <| oix 65 51 fun x65 => zo <| ola 66 9 fun x66 => zc 67 (law07_told_sim _ _ _ _ _) fun x67 => zp 68 (vb (!x67)) <| zn <| SC.cond rfl ?_ ?_
  exact zG <| zp 4 (vb false) <| zn <| SC.ret <| SX.block_ret <| SX.then_ret <| SX.loop_ret <| SX.block_ret <| SX.then_ret <| ze [.tmp 4] <| zm rfl zz
  exact SC.skip <| SX.block <| SX.seq <| zg <| zp 58 (vi s4) <| zp 59 (vi (w64 (s4 + 1))) <| zp 11 (vi (w64 (s4 + 1))) <| KT.nil zX
  refine SC.exit <| SX.then_exit <| SX.loop_exit <| SX.block_hit <| SX.seq <| zq <| zG <| zp 12 (vi 0) <| zn <| SC.block <| zL (σ := (Int)) (fun s5 => [(6, (.pointer x24.2)), (7, (vp x7)), (12, (vi s5))]) fun _ _ _ s5 => zq <| zG <| zp 69 (vi s5) <| zp 70 (vb (decide (s5 < 4))) <| zn <| SC.cond rfl ?_ ?_
  refine zw <| zq <| SC.block <| zG <| zp 13 (vi 0) <| zn <| SC.block <| zL (σ := (Int)) (fun s6 => [(6, (.pointer x24.2)), (7, (vp x7)), (12, (vi s5)), (13, (vi s6))]) fun _ _ _ s6 => zq <| zG <| zp 73 (vi s6) <| zp 74 (va x7 1) <| KT.l 75 fun x75 => zp 76 (vb (decide (s6 < x75))) <| zn <| SC.cond rfl ?_ ?_
  refine zw <| zq <| SC.block <| zG <| zp 80 (.pointer x24.2) <| zp 81 (vi s5) <| zp 82 (vi s6) <| zc 83 (device_Rack_Read_sim _ _ _) fun x83 => zp 79 (.tuple #[(vS x83.1), (vi x83.2)]) <| zp 84 (vS x83.1) <| zp 85 (vi x83.2) <| zp 14 (vS x83.1) <| zp 15 (vi x83.2) <| zN <| zp 87 (vi s5) <| zp 88 (vi s6) <| zc 89 (ref02_Rack_Read_sim _ _ _) fun x89 => zp 86 (.tuple #[(vS x89.1), (vi x89.2)]) <| zp 90 (vS x89.1) <| zp 91 (vi x89.2) <| zp 16 (vS x89.1) <| zp 17 (vi x89.2) <| zN <| zp 92 (vS x83.1) <| zp 93 (vS x89.1) <| zc 94 (ref00_SameBytes_sim _ _) fun x94 => zp 95 (vb (!x94)) <| zp 96 (vb (!x94)) <| zj 4 (fun r7 => [(100, (vb r7)), (6, (.pointer x24.2)), (7, (vp x7)), (12, (vi s5)), (13, (vi s6))]) (fun r7 => ?_) (fun j7 => ?_)
  refine zn <| SC.cond rfl ?_ ?_
  exact zG <| zp 4 (vb false) <| zn <| SC.ret <| SX.block_ret <| SX.then_ret <| SX.loop_ret <| SX.block_ret <| SX.block_ret <| SX.then_ret <| SX.loop_ret <| SX.block_ret <| SX.then_ret <| ze [.tmp 4] <| zm rfl zz
  exact SC.skip <| SX.block <| SX.seq <| zg <| zp 77 (vi s6) <| zp 78 (vi (w64 (s6 + 1))) <| zp 13 (vi (w64 (s6 + 1))) <| KT.nil zX
  refine KT.ite 96 rfl ?_ ?_
  exact zk <| zk <| zk <| zp 100 (vb true) <| zl j7
  exact zp 97 (vi x83.2) <| zp 98 (vi x89.2) <| zp 99 (vb (x83.2 != x89.2)) <| zp 100 (vb (x83.2 != x89.2)) <| zl j7
  exact SC.exit <| SX.then_exit <| SX.loop_exit <| SX.block_hit <| SX.block <| SX.seq <| zg <| zp 71 (vi s5) <| zp 72 (vi (w64 (s5 + 1))) <| zp 12 (vi (w64 (s5 + 1))) <| KT.nil zX
  exact SC.exit <| SX.then_exit <| SX.loop_exit <| SX.block_hit <| SX.seq <| zG <| zp 4 (vb true) <| zn <| SC.ret <| ze [.tmp 4] <| zm rfl zz
  refine KT.ite 50 rfl ?_ ?_
  exact zk <| zk <| zp 53 (vb true) <| zl j3
  refine zp 51 (.pointer x36.1) <| KT.oy rfl (OY.eqlNil (d := 52) (p := x36.1) _ _ _ _ rfl rfl rfl (by kernel_rfl) rfl rfl ?_)
  exact zp 53 (vb ((x36.1).isNone)) <| zl j3
  refine KT.ite 46 rfl ?_ ?_
  exact zk <| zk <| zp 49 (vb true) <| zl j2
  refine zp 47 (.pointer x24.2) <| KT.oy rfl (OY.eqlNil (d := 48) (p := x24.2) _ _ _ _ rfl rfl rfl (by kernel_rfl) rfl rfl ?_)
  exact zp 49 (vb ((x24.2).isNone)) <| zl j2

end Go.Proofs.Ytldmeimebebllaa
namespace Go.Proofs.Ytldmeimebebllaa
open Go.Mo
theorem disksOk : DisksOk (cvOf Tryz.prog) := fun b yv Q w hm =>
  enter_of (f := fid_bank_Bank_disks) (ags := #[.pointer b, yv]) (m := bank_Bank_disks (cvOf Tryz.prog) b yv) (enc := fun _ : Unit => .tuple #[]) (by simp [Deferred.ofValue, invoke]) (fun Qf' h => bank_Bank_disks_sim b yv Qf' w h) Q hm
end Go.Proofs.Ytldmeimebebllaa
namespace Go.Proofs.Ytldmeimebebllaa
open Go.Mo
theorem rowsOk : RowsOk (cvOf Tryz.prog) := fun a1 a2 yv Q w hm =>
  enter_of (f := fid_stripe_rows_c1) (ags := #[yv, .pointer (some a1), .pointer (some a2)]) (m := stripe_rows_c1 (cvOf Tryz.prog) yv a1 a2) (enc := fun _ : Unit => .tuple #[]) (by simp [Deferred.ofValue, invoke]) (fun Qf' h => stripe_rows_c1_sim yv a1 a2 Qf' w h) Q hm
end Go.Proofs.Ytldmeimebebllaa
namespace Go.Proofs.Ytldmeimebebllaa
open Go.Mo
theorem lacksOk : LacksOk (cvOf Tryz.prog) := ⟨fun p a Q w hm =>
  call_of_enter (enter_of (f := fid_stripe_lacks_c1_c1) (ags := #[.agg #[.int .i64 p.1, .int .i64 p.2], .pointer (some a)]) (m := stripe_lacks_c1_c1 p a) (enc := Value.bool) (by simp [Deferred.ofValue, invoke]) (fun Qf' h => stripe_lacks_c1_c1_sim p a Qf' w h) Q hm),
  fun a1 a2 a3 a4 yv Q w hm =>
  enter_of (f := fid_stripe_lacks_c1) (ags := #[yv, .pointer (some a1), .pointer (some a2), .pointer (some a3), .pointer (some a4)]) (m := stripe_lacks_c1 (cvOf Tryz.prog) yv a1 a2 a3 a4) (enc := fun _ : Unit => .tuple #[]) (by simp [Deferred.ofValue, invoke]) (fun Qf' h => stripe_lacks_c1_sim yv a1 a2 a3 a4 Qf' w h) Q hm⟩
end Go.Proofs.Ytldmeimebebllaa
namespace Go.Proofs.Ytldmeimebebllaa
open Go.Mo
theorem keysOk : KeysOk (cvOf Tryz.prog) := fun a yv Q w hm =>
  enter_of (f := fid_maps_Keys_m_c1) (ags := #[yv, .pointer (some a)]) (m := maps_Keys_m_c1 (cvOf Tryz.prog) yv a) (enc := fun _ : Unit => .tuple #[]) (by simp [Deferred.ofValue, invoke]) (fun Qf' h => maps_Keys_m_c1_sim yv a Qf' w h) Q hm
end Go.Proofs.Ytldmeimebebllaa
