/-
  A part of the proof: what functions of the program do, a symbolic executor of the code with its proof, and closed runs.
-/
import Derived.Test.YtnmkienagpgnmaaGreatDoorPart0
import Derived.Test.YtnmkienagpgnmaaGreatDoorPart2
import Derived.Test.YtnmkienagpgnmaaGreatDoorPart3
import Derived.Test.YtnmkienagpgnmaaGreatDoorExTok0
import Derived.Test.YtnmkienagpgnmaaGreatDoorExTok1
import Derived.Test.YtnmkienagpgnmaaGreatDoorExTok2
namespace Go.Ex
open Go.Proofs
open Go.Mo
set_option linter.unusedVariables false
def LfOK (P : Program) (i : Nat) (f : FI) : Prop := (∀ xf, f = .fn (some xf) → ∃ fn c loc, Fn' P i xf fn c loc) ∧ ∀ k, f = .ext k → ∃ fn e, P.funcs[i]? = some fn ∧ (fn.name == "runtime.NumGoroutine") = false ∧ fn.body.isNone = true ∧ Extern.findNext fn = none ∧ Extern.find fn = some e ∧ ExtF P k e
section
variable {P : Program} {lo hi m : Nat}
def Rng (P : Program) (lo hi : Nat) (s : Sr) : Prop := ∀ i, lo ≤ i → i < hi → LfOK P i (s.at i)
theorem lf_none : Rng P lo hi (.l (.fn none)) := fun i _ _ => ⟨fun xf h => (by cases h), fun k h => by cases h⟩
theorem lf_d {a b : Sr} (ha : Rng P lo m a) (hb : Rng P m hi b) : Rng P lo hi (.d m a b) := fun i h1 h2 => by
  unfold Sr.at
  cases h : Nat.ble m i with
  | true => exact hb i (Nat.le_of_ble_eq_true h) h2
  | false => exact ha i h1 (ble_f h)
theorem lf_fn {f : Func} {loc : Nat} (hf : P.funcs[lo]? = some f) (hok : (f.body.any fun c => okF P loc f c) = true) (hn : (f.name == "runtime.NumGoroutine") = false) : Rng P lo (lo + 1) (.l (.fn (cF P loc f))) := fun i h1 h2 => by
  have : i = lo := by omega
  subst this
  refine ⟨fun xf h => ?_, fun k h => by cases h⟩
  have h : cF P loc f = some xf := by
    unfold Sr.at at h
    simpa using h
  obtain ⟨c, hc, hok⟩ := Option.any_eq_true _ _ |>.1 hok
  unfold cF at h
  rw [hc] at h
  cases h
  exact ⟨f, c, loc, hf, hc, rfl, rfl, rfl, hok, hn⟩
theorem lf_ext {k : Nat} (h : ∃ fn e, P.funcs[lo]? = some fn ∧ (fn.name == "runtime.NumGoroutine") = false ∧ fn.body.isNone = true ∧ Extern.findNext fn = none ∧ Extern.find fn = some e ∧ ExtF P k e) : Rng P lo (lo + 1) (.l (.ext k)) := fun i h1 h2 => by
  have : i = lo := by omega
  subst this
  refine ⟨fun xf h => (by cases h), fun k' h' => ?_⟩
  cases h'
  exact h
end
theorem h3 : Tryz.prog.funcs[3]? = some Tryz.f3 := by kernel_rfl
theorem n3 : (Tryz.f3.name == "runtime.NumGoroutine") = false := by kernel_rfl
theorem h4 : Tryz.prog.funcs[4]? = some Tryz.f4 := by kernel_rfl
theorem n4 : (Tryz.f4.name == "runtime.NumGoroutine") = false := by kernel_rfl
theorem h5 : Tryz.prog.funcs[5]? = some Tryz.f5 := by kernel_rfl
theorem n5 : (Tryz.f5.name == "runtime.NumGoroutine") = false := by kernel_rfl
theorem h6 : Tryz.prog.funcs[6]? = some Tryz.f6 := by kernel_rfl
theorem n6 : (Tryz.f6.name == "runtime.NumGoroutine") = false := by kernel_rfl
theorem h7 : Tryz.prog.funcs[7]? = some Tryz.f7 := by kernel_rfl
theorem n7 : (Tryz.f7.name == "runtime.NumGoroutine") = false := by kernel_rfl
theorem h8 : Tryz.prog.funcs[8]? = some Tryz.f8 := by kernel_rfl
theorem n8 : (Tryz.f8.name == "runtime.NumGoroutine") = false := by kernel_rfl
theorem h9 : Tryz.prog.funcs[9]? = some Tryz.f9 := by kernel_rfl
theorem n9 : (Tryz.f9.name == "runtime.NumGoroutine") = false := by kernel_rfl
theorem h10 : Tryz.prog.funcs[10]? = some Tryz.f10 := by kernel_rfl
theorem n10 : (Tryz.f10.name == "runtime.NumGoroutine") = false := by kernel_rfl
theorem h11 : Tryz.prog.funcs[11]? = some Tryz.f11 := by kernel_rfl
theorem n11 : (Tryz.f11.name == "runtime.NumGoroutine") = false := by kernel_rfl
theorem h12 : Tryz.prog.funcs[12]? = some Tryz.f12 := by kernel_rfl
theorem n12 : (Tryz.f12.name == "runtime.NumGoroutine") = false := by kernel_rfl
theorem h13 : Tryz.prog.funcs[13]? = some Tryz.f13 := by kernel_rfl
theorem n13 : (Tryz.f13.name == "runtime.NumGoroutine") = false := by kernel_rfl
theorem h14 : Tryz.prog.funcs[14]? = some Tryz.f14 := by kernel_rfl
theorem n14 : (Tryz.f14.name == "runtime.NumGoroutine") = false := by kernel_rfl
theorem h15 : Tryz.prog.funcs[15]? = some Tryz.f15 := by kernel_rfl
theorem n15 : (Tryz.f15.name == "runtime.NumGoroutine") = false := by kernel_rfl
theorem h16 : Tryz.prog.funcs[16]? = some Tryz.f16 := by kernel_rfl
theorem n16 : (Tryz.f16.name == "runtime.NumGoroutine") = false := by kernel_rfl
theorem h17 : Tryz.prog.funcs[17]? = some Tryz.f17 := by kernel_rfl
theorem n17 : (Tryz.f17.name == "runtime.NumGoroutine") = false := by kernel_rfl
theorem h18 : Tryz.prog.funcs[18]? = some Tryz.f18 := by kernel_rfl
theorem n18 : (Tryz.f18.name == "runtime.NumGoroutine") = false := by kernel_rfl
theorem h19 : Tryz.prog.funcs[19]? = some Tryz.f19 := by kernel_rfl
theorem n19 : (Tryz.f19.name == "runtime.NumGoroutine") = false := by kernel_rfl
theorem h20 : Tryz.prog.funcs[20]? = some Tryz.f20 := by kernel_rfl
theorem n20 : (Tryz.f20.name == "runtime.NumGoroutine") = false := by kernel_rfl
theorem h21 : Tryz.prog.funcs[21]? = some Tryz.f21 := by kernel_rfl
theorem n21 : (Tryz.f21.name == "runtime.NumGoroutine") = false := by kernel_rfl
theorem h22 : Tryz.prog.funcs[22]? = some Tryz.f22 := by kernel_rfl
theorem n22 : (Tryz.f22.name == "runtime.NumGoroutine") = false := by kernel_rfl
theorem h23 : Tryz.prog.funcs[23]? = some Tryz.f23 := by kernel_rfl
theorem n23 : (Tryz.f23.name == "runtime.NumGoroutine") = false := by kernel_rfl
theorem h24 : Tryz.prog.funcs[24]? = some Tryz.f24 := by kernel_rfl
theorem n24 : (Tryz.f24.name == "runtime.NumGoroutine") = false := by kernel_rfl
theorem h25 : Tryz.prog.funcs[25]? = some Tryz.f25 := by kernel_rfl
theorem n25 : (Tryz.f25.name == "runtime.NumGoroutine") = false := by kernel_rfl
theorem h26 : Tryz.prog.funcs[26]? = some Tryz.f26 := by kernel_rfl
theorem n26 : (Tryz.f26.name == "runtime.NumGoroutine") = false := by kernel_rfl
theorem h27 : Tryz.prog.funcs[27]? = some Tryz.f27 := by kernel_rfl
theorem n27 : (Tryz.f27.name == "runtime.NumGoroutine") = false := by kernel_rfl
theorem h28 : Tryz.prog.funcs[28]? = some Tryz.f28 := by kernel_rfl
theorem n28 : (Tryz.f28.name == "runtime.NumGoroutine") = false := by kernel_rfl
theorem h29 : Tryz.prog.funcs[29]? = some Tryz.f29 := by kernel_rfl
theorem n29 : (Tryz.f29.name == "runtime.NumGoroutine") = false := by kernel_rfl
theorem h30 : Tryz.prog.funcs[30]? = some Tryz.f30 := by kernel_rfl
theorem n30 : (Tryz.f30.name == "runtime.NumGoroutine") = false := by kernel_rfl
theorem h31 : Tryz.prog.funcs[31]? = some Tryz.f31 := by kernel_rfl
theorem n31 : (Tryz.f31.name == "runtime.NumGoroutine") = false := by kernel_rfl
theorem h32 : Tryz.prog.funcs[32]? = some Tryz.f32 := by kernel_rfl
theorem n32 : (Tryz.f32.name == "runtime.NumGoroutine") = false := by kernel_rfl
theorem h34 : Tryz.prog.funcs[34]? = some Tryz.f34 := by kernel_rfl
theorem n34 : (Tryz.f34.name == "runtime.NumGoroutine") = false := by kernel_rfl
theorem h36 : Tryz.prog.funcs[36]? = some Tryz.f36 := by kernel_rfl
theorem n36 : (Tryz.f36.name == "runtime.NumGoroutine") = false := by kernel_rfl
theorem h37 : Tryz.prog.funcs[37]? = some Tryz.f37 := by kernel_rfl
theorem n37 : (Tryz.f37.name == "runtime.NumGoroutine") = false := by kernel_rfl
theorem h38 : Tryz.prog.funcs[38]? = some Tryz.f38 := by kernel_rfl
theorem n38 : (Tryz.f38.name == "runtime.NumGoroutine") = false := by kernel_rfl
theorem h39 : Tryz.prog.funcs[39]? = some Tryz.f39 := by kernel_rfl
theorem n39 : (Tryz.f39.name == "runtime.NumGoroutine") = false := by kernel_rfl
theorem h40 : Tryz.prog.funcs[40]? = some Tryz.f40 := by kernel_rfl
theorem n40 : (Tryz.f40.name == "runtime.NumGoroutine") = false := by kernel_rfl
theorem h41 : Tryz.prog.funcs[41]? = some Tryz.f41 := by kernel_rfl
theorem n41 : (Tryz.f41.name == "runtime.NumGoroutine") = false := by kernel_rfl
theorem h42 : Tryz.prog.funcs[42]? = some Tryz.f42 := by kernel_rfl
theorem n42 : (Tryz.f42.name == "runtime.NumGoroutine") = false := by kernel_rfl
theorem h43 : Tryz.prog.funcs[43]? = some Tryz.f43 := by kernel_rfl
theorem n43 : (Tryz.f43.name == "runtime.NumGoroutine") = false := by kernel_rfl
theorem h44 : Tryz.prog.funcs[44]? = some Tryz.f44 := by kernel_rfl
theorem n44 : (Tryz.f44.name == "runtime.NumGoroutine") = false := by kernel_rfl
theorem h45 : Tryz.prog.funcs[45]? = some Tryz.f45 := by kernel_rfl
theorem n45 : (Tryz.f45.name == "runtime.NumGoroutine") = false := by kernel_rfl
theorem h46 : Tryz.prog.funcs[46]? = some Tryz.f46 := by kernel_rfl
theorem n46 : (Tryz.f46.name == "runtime.NumGoroutine") = false := by kernel_rfl
theorem h47 : Tryz.prog.funcs[47]? = some Tryz.f47 := by kernel_rfl
theorem n47 : (Tryz.f47.name == "runtime.NumGoroutine") = false := by kernel_rfl
theorem h48 : Tryz.prog.funcs[48]? = some Tryz.f48 := by kernel_rfl
theorem n48 : (Tryz.f48.name == "runtime.NumGoroutine") = false := by kernel_rfl
theorem h49 : Tryz.prog.funcs[49]? = some Tryz.f49 := by kernel_rfl
theorem n49 : (Tryz.f49.name == "runtime.NumGoroutine") = false := by kernel_rfl
theorem h50 : Tryz.prog.funcs[50]? = some Tryz.f50 := by kernel_rfl
theorem n50 : (Tryz.f50.name == "runtime.NumGoroutine") = false := by kernel_rfl
theorem h51 : Tryz.prog.funcs[51]? = some Tryz.f51 := by kernel_rfl
theorem n51 : (Tryz.f51.name == "runtime.NumGoroutine") = false := by kernel_rfl
theorem h52 : Tryz.prog.funcs[52]? = some Tryz.f52 := by kernel_rfl
theorem n52 : (Tryz.f52.name == "runtime.NumGoroutine") = false := by kernel_rfl
theorem h53 : Tryz.prog.funcs[53]? = some Tryz.f53 := by kernel_rfl
theorem n53 : (Tryz.f53.name == "runtime.NumGoroutine") = false := by kernel_rfl
theorem h54 : Tryz.prog.funcs[54]? = some Tryz.f54 := by kernel_rfl
theorem n54 : (Tryz.f54.name == "runtime.NumGoroutine") = false := by kernel_rfl
theorem h55 : Tryz.prog.funcs[55]? = some Tryz.f55 := by kernel_rfl
theorem n55 : (Tryz.f55.name == "runtime.NumGoroutine") = false := by kernel_rfl
theorem h56 : Tryz.prog.funcs[56]? = some Tryz.f56 := by kernel_rfl
theorem n56 : (Tryz.f56.name == "runtime.NumGoroutine") = false := by kernel_rfl
theorem h57 : Tryz.prog.funcs[57]? = some Tryz.f57 := by kernel_rfl
theorem n57 : (Tryz.f57.name == "runtime.NumGoroutine") = false := by kernel_rfl
theorem h58 : Tryz.prog.funcs[58]? = some Tryz.f58 := by kernel_rfl
theorem n58 : (Tryz.f58.name == "runtime.NumGoroutine") = false := by kernel_rfl
theorem h59 : Tryz.prog.funcs[59]? = some Tryz.f59 := by kernel_rfl
theorem n59 : (Tryz.f59.name == "runtime.NumGoroutine") = false := by kernel_rfl
theorem h60 : Tryz.prog.funcs[60]? = some Tryz.f60 := by kernel_rfl
theorem n60 : (Tryz.f60.name == "runtime.NumGoroutine") = false := by kernel_rfl
theorem h61 : Tryz.prog.funcs[61]? = some Tryz.f61 := by kernel_rfl
theorem n61 : (Tryz.f61.name == "runtime.NumGoroutine") = false := by kernel_rfl
theorem h62 : Tryz.prog.funcs[62]? = some Tryz.f62 := by kernel_rfl
theorem n62 : (Tryz.f62.name == "runtime.NumGoroutine") = false := by kernel_rfl
theorem h63 : Tryz.prog.funcs[63]? = some Tryz.f63 := by kernel_rfl
theorem n63 : (Tryz.f63.name == "runtime.NumGoroutine") = false := by kernel_rfl
theorem h64 : Tryz.prog.funcs[64]? = some Tryz.f64 := by kernel_rfl
theorem n64 : (Tryz.f64.name == "runtime.NumGoroutine") = false := by kernel_rfl
theorem h65 : Tryz.prog.funcs[65]? = some Tryz.f65 := by kernel_rfl
theorem n65 : (Tryz.f65.name == "runtime.NumGoroutine") = false := by kernel_rfl
theorem h68 : Tryz.prog.funcs[68]? = some Tryz.f68 := by kernel_rfl
theorem n68 : (Tryz.f68.name == "runtime.NumGoroutine") = false := by kernel_rfl
theorem h71 : Tryz.prog.funcs[71]? = some Tryz.f71 := by kernel_rfl
theorem n71 : (Tryz.f71.name == "runtime.NumGoroutine") = false := by kernel_rfl
theorem h72 : Tryz.prog.funcs[72]? = some Tryz.f72 := by kernel_rfl
theorem n72 : (Tryz.f72.name == "runtime.NumGoroutine") = false := by kernel_rfl
theorem h73 : Tryz.prog.funcs[73]? = some Tryz.f73 := by kernel_rfl
theorem n73 : (Tryz.f73.name == "runtime.NumGoroutine") = false := by kernel_rfl
theorem h82 : Tryz.prog.funcs[82]? = some Tryz.f82 := by kernel_rfl
theorem n82 : (Tryz.f82.name == "runtime.NumGoroutine") = false := by kernel_rfl
theorem h83 : Tryz.prog.funcs[83]? = some Tryz.f83 := by kernel_rfl
theorem n83 : (Tryz.f83.name == "runtime.NumGoroutine") = false := by kernel_rfl
theorem h85 : Tryz.prog.funcs[85]? = some Tryz.f85 := by kernel_rfl
theorem n85 : (Tryz.f85.name == "runtime.NumGoroutine") = false := by kernel_rfl
theorem h86 : Tryz.prog.funcs[86]? = some Tryz.f86 := by kernel_rfl
theorem n86 : (Tryz.f86.name == "runtime.NumGoroutine") = false := by kernel_rfl
theorem h87 : Tryz.prog.funcs[87]? = some Tryz.f87 := by kernel_rfl
theorem n87 : (Tryz.f87.name == "runtime.NumGoroutine") = false := by kernel_rfl
theorem h88 : Tryz.prog.funcs[88]? = some Tryz.f88 := by kernel_rfl
theorem n88 : (Tryz.f88.name == "runtime.NumGoroutine") = false := by kernel_rfl
theorem h89 : Tryz.prog.funcs[89]? = some Tryz.f89 := by kernel_rfl
theorem n89 : (Tryz.f89.name == "runtime.NumGoroutine") = false := by kernel_rfl
theorem h90 : Tryz.prog.funcs[90]? = some Tryz.f90 := by kernel_rfl
theorem n90 : (Tryz.f90.name == "runtime.NumGoroutine") = false := by kernel_rfl
theorem h91 : Tryz.prog.funcs[91]? = some Tryz.f91 := by kernel_rfl
theorem n91 : (Tryz.f91.name == "runtime.NumGoroutine") = false := by kernel_rfl
theorem h92 : Tryz.prog.funcs[92]? = some Tryz.f92 := by kernel_rfl
theorem n92 : (Tryz.f92.name == "runtime.NumGoroutine") = false := by kernel_rfl
theorem h93 : Tryz.prog.funcs[93]? = some Tryz.f93 := by kernel_rfl
theorem n93 : (Tryz.f93.name == "runtime.NumGoroutine") = false := by kernel_rfl
theorem h94 : Tryz.prog.funcs[94]? = some Tryz.f94 := by kernel_rfl
theorem n94 : (Tryz.f94.name == "runtime.NumGoroutine") = false := by kernel_rfl
theorem h95 : Tryz.prog.funcs[95]? = some Tryz.f95 := by kernel_rfl
theorem n95 : (Tryz.f95.name == "runtime.NumGoroutine") = false := by kernel_rfl
theorem h96 : Tryz.prog.funcs[96]? = some Tryz.f96 := by kernel_rfl
theorem n96 : (Tryz.f96.name == "runtime.NumGoroutine") = false := by kernel_rfl
theorem h97 : Tryz.prog.funcs[97]? = some Tryz.f97 := by kernel_rfl
theorem n97 : (Tryz.f97.name == "runtime.NumGoroutine") = false := by kernel_rfl
theorem h98 : Tryz.prog.funcs[98]? = some Tryz.f98 := by kernel_rfl
theorem n98 : (Tryz.f98.name == "runtime.NumGoroutine") = false := by kernel_rfl
theorem h99 : Tryz.prog.funcs[99]? = some Tryz.f99 := by kernel_rfl
theorem n99 : (Tryz.f99.name == "runtime.NumGoroutine") = false := by kernel_rfl
theorem h100 : Tryz.prog.funcs[100]? = some Tryz.f100 := by kernel_rfl
theorem n100 : (Tryz.f100.name == "runtime.NumGoroutine") = false := by kernel_rfl
theorem h101 : Tryz.prog.funcs[101]? = some Tryz.f101 := by kernel_rfl
theorem n101 : (Tryz.f101.name == "runtime.NumGoroutine") = false := by kernel_rfl
theorem h102 : Tryz.prog.funcs[102]? = some Tryz.f102 := by kernel_rfl
theorem n102 : (Tryz.f102.name == "runtime.NumGoroutine") = false := by kernel_rfl
theorem h103 : Tryz.prog.funcs[103]? = some Tryz.f103 := by kernel_rfl
theorem n103 : (Tryz.f103.name == "runtime.NumGoroutine") = false := by kernel_rfl
theorem h104 : Tryz.prog.funcs[104]? = some Tryz.f104 := by kernel_rfl
theorem n104 : (Tryz.f104.name == "runtime.NumGoroutine") = false := by kernel_rfl
theorem h105 : Tryz.prog.funcs[105]? = some Tryz.f105 := by kernel_rfl
theorem n105 : (Tryz.f105.name == "runtime.NumGoroutine") = false := by kernel_rfl
theorem h106 : Tryz.prog.funcs[106]? = some Tryz.f106 := by kernel_rfl
theorem n106 : (Tryz.f106.name == "runtime.NumGoroutine") = false := by kernel_rfl
theorem h107 : Tryz.prog.funcs[107]? = some Tryz.f107 := by kernel_rfl
theorem n107 : (Tryz.f107.name == "runtime.NumGoroutine") = false := by kernel_rfl
theorem h108 : Tryz.prog.funcs[108]? = some Tryz.f108 := by kernel_rfl
theorem n108 : (Tryz.f108.name == "runtime.NumGoroutine") = false := by kernel_rfl
theorem h109 : Tryz.prog.funcs[109]? = some Tryz.f109 := by kernel_rfl
theorem n109 : (Tryz.f109.name == "runtime.NumGoroutine") = false := by kernel_rfl
theorem h110 : Tryz.prog.funcs[110]? = some Tryz.f110 := by kernel_rfl
theorem n110 : (Tryz.f110.name == "runtime.NumGoroutine") = false := by kernel_rfl
theorem h111 : Tryz.prog.funcs[111]? = some Tryz.f111 := by kernel_rfl
theorem n111 : (Tryz.f111.name == "runtime.NumGoroutine") = false := by kernel_rfl
theorem h112 : Tryz.prog.funcs[112]? = some Tryz.f112 := by kernel_rfl
theorem n112 : (Tryz.f112.name == "runtime.NumGoroutine") = false := by kernel_rfl
theorem h113 : Tryz.prog.funcs[113]? = some Tryz.f113 := by kernel_rfl
theorem n113 : (Tryz.f113.name == "runtime.NumGoroutine") = false := by kernel_rfl
theorem h114 : Tryz.prog.funcs[114]? = some Tryz.f114 := by kernel_rfl
theorem n114 : (Tryz.f114.name == "runtime.NumGoroutine") = false := by kernel_rfl
theorem h115 : Tryz.prog.funcs[115]? = some Tryz.f115 := by kernel_rfl
theorem n115 : (Tryz.f115.name == "runtime.NumGoroutine") = false := by kernel_rfl
theorem h116 : Tryz.prog.funcs[116]? = some Tryz.f116 := by kernel_rfl
theorem n116 : (Tryz.f116.name == "runtime.NumGoroutine") = false := by kernel_rfl
theorem h117 : Tryz.prog.funcs[117]? = some Tryz.f117 := by kernel_rfl
theorem n117 : (Tryz.f117.name == "runtime.NumGoroutine") = false := by kernel_rfl
theorem h118 : Tryz.prog.funcs[118]? = some Tryz.f118 := by kernel_rfl
theorem n118 : (Tryz.f118.name == "runtime.NumGoroutine") = false := by kernel_rfl
theorem h119 : Tryz.prog.funcs[119]? = some Tryz.f119 := by kernel_rfl
theorem n119 : (Tryz.f119.name == "runtime.NumGoroutine") = false := by kernel_rfl
theorem h120 : Tryz.prog.funcs[120]? = some Tryz.f120 := by kernel_rfl
theorem n120 : (Tryz.f120.name == "runtime.NumGoroutine") = false := by kernel_rfl
theorem h121 : Tryz.prog.funcs[121]? = some Tryz.f121 := by kernel_rfl
theorem n121 : (Tryz.f121.name == "runtime.NumGoroutine") = false := by kernel_rfl
theorem h122 : Tryz.prog.funcs[122]? = some Tryz.f122 := by kernel_rfl
theorem n122 : (Tryz.f122.name == "runtime.NumGoroutine") = false := by kernel_rfl
theorem h123 : Tryz.prog.funcs[123]? = some Tryz.f123 := by kernel_rfl
theorem n123 : (Tryz.f123.name == "runtime.NumGoroutine") = false := by kernel_rfl
theorem h125 : Tryz.prog.funcs[125]? = some Tryz.f125 := by kernel_rfl
theorem n125 : (Tryz.f125.name == "runtime.NumGoroutine") = false := by kernel_rfl
theorem h126 : Tryz.prog.funcs[126]? = some Tryz.f126 := by kernel_rfl
theorem n126 : (Tryz.f126.name == "runtime.NumGoroutine") = false := by kernel_rfl
theorem h127 : Tryz.prog.funcs[127]? = some Tryz.f127 := by kernel_rfl
theorem n127 : (Tryz.f127.name == "runtime.NumGoroutine") = false := by kernel_rfl
theorem h129 : Tryz.prog.funcs[129]? = some Tryz.f129 := by kernel_rfl
theorem n129 : (Tryz.f129.name == "runtime.NumGoroutine") = false := by kernel_rfl
theorem h130 : Tryz.prog.funcs[130]? = some Tryz.f130 := by kernel_rfl
theorem n130 : (Tryz.f130.name == "runtime.NumGoroutine") = false := by kernel_rfl
theorem h131 : Tryz.prog.funcs[131]? = some Tryz.f131 := by kernel_rfl
theorem n131 : (Tryz.f131.name == "runtime.NumGoroutine") = false := by kernel_rfl
theorem h132 : Tryz.prog.funcs[132]? = some Tryz.f132 := by kernel_rfl
theorem n132 : (Tryz.f132.name == "runtime.NumGoroutine") = false := by kernel_rfl
theorem h133 : Tryz.prog.funcs[133]? = some Tryz.f133 := by kernel_rfl
theorem n133 : (Tryz.f133.name == "runtime.NumGoroutine") = false := by kernel_rfl
theorem h135 : Tryz.prog.funcs[135]? = some Tryz.f135 := by kernel_rfl
theorem n135 : (Tryz.f135.name == "runtime.NumGoroutine") = false := by kernel_rfl
theorem h136 : Tryz.prog.funcs[136]? = some Tryz.f136 := by kernel_rfl
theorem n136 : (Tryz.f136.name == "runtime.NumGoroutine") = false := by kernel_rfl
theorem h137 : Tryz.prog.funcs[137]? = some Tryz.f137 := by kernel_rfl
theorem n137 : (Tryz.f137.name == "runtime.NumGoroutine") = false := by kernel_rfl
theorem h138 : Tryz.prog.funcs[138]? = some Tryz.f138 := by kernel_rfl
theorem n138 : (Tryz.f138.name == "runtime.NumGoroutine") = false := by kernel_rfl
theorem h139 : Tryz.prog.funcs[139]? = some Tryz.f139 := by kernel_rfl
theorem n139 : (Tryz.f139.name == "runtime.NumGoroutine") = false := by kernel_rfl
theorem h144 : Tryz.prog.funcs[144]? = some Tryz.f144 := by kernel_rfl
theorem n144 : (Tryz.f144.name == "runtime.NumGoroutine") = false := by kernel_rfl
theorem h146 : Tryz.prog.funcs[146]? = some Tryz.f146 := by kernel_rfl
theorem n146 : (Tryz.f146.name == "runtime.NumGoroutine") = false := by kernel_rfl
theorem h148 : Tryz.prog.funcs[148]? = some Tryz.f148 := by kernel_rfl
theorem n148 : (Tryz.f148.name == "runtime.NumGoroutine") = false := by kernel_rfl
theorem h149 : Tryz.prog.funcs[149]? = some Tryz.f149 := by kernel_rfl
theorem n149 : (Tryz.f149.name == "runtime.NumGoroutine") = false := by kernel_rfl
theorem h150 : Tryz.prog.funcs[150]? = some Tryz.f150 := by kernel_rfl
theorem n150 : (Tryz.f150.name == "runtime.NumGoroutine") = false := by kernel_rfl
theorem h151 : Tryz.prog.funcs[151]? = some Tryz.f151 := by kernel_rfl
theorem n151 : (Tryz.f151.name == "runtime.NumGoroutine") = false := by kernel_rfl
theorem h158 : Tryz.prog.funcs[158]? = some Tryz.f158 := by kernel_rfl
theorem n158 : (Tryz.f158.name == "runtime.NumGoroutine") = false := by kernel_rfl
theorem h159 : Tryz.prog.funcs[159]? = some Tryz.f159 := by kernel_rfl
theorem n159 : (Tryz.f159.name == "runtime.NumGoroutine") = false := by kernel_rfl
theorem h160 : Tryz.prog.funcs[160]? = some Tryz.f160 := by kernel_rfl
theorem n160 : (Tryz.f160.name == "runtime.NumGoroutine") = false := by kernel_rfl
theorem h161 : Tryz.prog.funcs[161]? = some Tryz.f161 := by kernel_rfl
theorem n161 : (Tryz.f161.name == "runtime.NumGoroutine") = false := by kernel_rfl
theorem h162 : Tryz.prog.funcs[162]? = some Tryz.f162 := by kernel_rfl
theorem n162 : (Tryz.f162.name == "runtime.NumGoroutine") = false := by kernel_rfl
theorem h163 : Tryz.prog.funcs[163]? = some Tryz.f163 := by kernel_rfl
theorem n163 : (Tryz.f163.name == "runtime.NumGoroutine") = false := by kernel_rfl
theorem h164 : Tryz.prog.funcs[164]? = some Tryz.f164 := by kernel_rfl
theorem n164 : (Tryz.f164.name == "runtime.NumGoroutine") = false := by kernel_rfl
theorem h165 : Tryz.prog.funcs[165]? = some Tryz.f165 := by kernel_rfl
theorem n165 : (Tryz.f165.name == "runtime.NumGoroutine") = false := by kernel_rfl
theorem h166 : Tryz.prog.funcs[166]? = some Tryz.f166 := by kernel_rfl
theorem n166 : (Tryz.f166.name == "runtime.NumGoroutine") = false := by kernel_rfl
theorem h167 : Tryz.prog.funcs[167]? = some Tryz.f167 := by kernel_rfl
theorem n167 : (Tryz.f167.name == "runtime.NumGoroutine") = false := by kernel_rfl
theorem h168 : Tryz.prog.funcs[168]? = some Tryz.f168 := by kernel_rfl
theorem n168 : (Tryz.f168.name == "runtime.NumGoroutine") = false := by kernel_rfl
theorem h169 : Tryz.prog.funcs[169]? = some Tryz.f169 := by kernel_rfl
theorem n169 : (Tryz.f169.name == "runtime.NumGoroutine") = false := by kernel_rfl
theorem h170 : Tryz.prog.funcs[170]? = some Tryz.f170 := by kernel_rfl
theorem n170 : (Tryz.f170.name == "runtime.NumGoroutine") = false := by kernel_rfl
theorem h171 : Tryz.prog.funcs[171]? = some Tryz.f171 := by kernel_rfl
theorem n171 : (Tryz.f171.name == "runtime.NumGoroutine") = false := by kernel_rfl
theorem h172 : Tryz.prog.funcs[172]? = some Tryz.f172 := by kernel_rfl
theorem n172 : (Tryz.f172.name == "runtime.NumGoroutine") = false := by kernel_rfl
theorem h173 : Tryz.prog.funcs[173]? = some Tryz.f173 := by kernel_rfl
theorem n173 : (Tryz.f173.name == "runtime.NumGoroutine") = false := by kernel_rfl
theorem h174 : Tryz.prog.funcs[174]? = some Tryz.f174 := by kernel_rfl
theorem n174 : (Tryz.f174.name == "runtime.NumGoroutine") = false := by kernel_rfl
theorem h175 : Tryz.prog.funcs[175]? = some Tryz.f175 := by kernel_rfl
theorem n175 : (Tryz.f175.name == "runtime.NumGoroutine") = false := by kernel_rfl
theorem h176 : Tryz.prog.funcs[176]? = some Tryz.f176 := by kernel_rfl
theorem n176 : (Tryz.f176.name == "runtime.NumGoroutine") = false := by kernel_rfl
theorem h177 : Tryz.prog.funcs[177]? = some Tryz.f177 := by kernel_rfl
theorem n177 : (Tryz.f177.name == "runtime.NumGoroutine") = false := by kernel_rfl
theorem h178 : Tryz.prog.funcs[178]? = some Tryz.f178 := by kernel_rfl
theorem n178 : (Tryz.f178.name == "runtime.NumGoroutine") = false := by kernel_rfl
theorem h179 : Tryz.prog.funcs[179]? = some Tryz.f179 := by kernel_rfl
theorem n179 : (Tryz.f179.name == "runtime.NumGoroutine") = false := by kernel_rfl
theorem h180 : Tryz.prog.funcs[180]? = some Tryz.f180 := by kernel_rfl
theorem n180 : (Tryz.f180.name == "runtime.NumGoroutine") = false := by kernel_rfl
theorem h181 : Tryz.prog.funcs[181]? = some Tryz.f181 := by kernel_rfl
theorem n181 : (Tryz.f181.name == "runtime.NumGoroutine") = false := by kernel_rfl
theorem h182 : Tryz.prog.funcs[182]? = some Tryz.f182 := by kernel_rfl
theorem n182 : (Tryz.f182.name == "runtime.NumGoroutine") = false := by kernel_rfl
theorem h183 : Tryz.prog.funcs[183]? = some Tryz.f183 := by kernel_rfl
theorem n183 : (Tryz.f183.name == "runtime.NumGoroutine") = false := by kernel_rfl
theorem h184 : Tryz.prog.funcs[184]? = some Tryz.f184 := by kernel_rfl
theorem n184 : (Tryz.f184.name == "runtime.NumGoroutine") = false := by kernel_rfl
theorem h185 : Tryz.prog.funcs[185]? = some Tryz.f185 := by kernel_rfl
theorem n185 : (Tryz.f185.name == "runtime.NumGoroutine") = false := by kernel_rfl
theorem h186 : Tryz.prog.funcs[186]? = some Tryz.f186 := by kernel_rfl
theorem n186 : (Tryz.f186.name == "runtime.NumGoroutine") = false := by kernel_rfl
theorem h187 : Tryz.prog.funcs[187]? = some Tryz.f187 := by kernel_rfl
theorem n187 : (Tryz.f187.name == "runtime.NumGoroutine") = false := by kernel_rfl
theorem h188 : Tryz.prog.funcs[188]? = some Tryz.f188 := by kernel_rfl
theorem n188 : (Tryz.f188.name == "runtime.NumGoroutine") = false := by kernel_rfl
theorem h189 : Tryz.prog.funcs[189]? = some Tryz.f189 := by kernel_rfl
theorem n189 : (Tryz.f189.name == "runtime.NumGoroutine") = false := by kernel_rfl
theorem h190 : Tryz.prog.funcs[190]? = some Tryz.f190 := by kernel_rfl
theorem n190 : (Tryz.f190.name == "runtime.NumGoroutine") = false := by kernel_rfl
theorem h191 : Tryz.prog.funcs[191]? = some Tryz.f191 := by kernel_rfl
theorem n191 : (Tryz.f191.name == "runtime.NumGoroutine") = false := by kernel_rfl
theorem h192 : Tryz.prog.funcs[192]? = some Tryz.f192 := by kernel_rfl
theorem n192 : (Tryz.f192.name == "runtime.NumGoroutine") = false := by kernel_rfl
theorem h193 : Tryz.prog.funcs[193]? = some Tryz.f193 := by kernel_rfl
theorem n193 : (Tryz.f193.name == "runtime.NumGoroutine") = false := by kernel_rfl
theorem h194 : Tryz.prog.funcs[194]? = some Tryz.f194 := by kernel_rfl
theorem n194 : (Tryz.f194.name == "runtime.NumGoroutine") = false := by kernel_rfl
theorem h195 : Tryz.prog.funcs[195]? = some Tryz.f195 := by kernel_rfl
theorem n195 : (Tryz.f195.name == "runtime.NumGoroutine") = false := by kernel_rfl
theorem h196 : Tryz.prog.funcs[196]? = some Tryz.f196 := by kernel_rfl
theorem n196 : (Tryz.f196.name == "runtime.NumGoroutine") = false := by kernel_rfl
theorem h197 : Tryz.prog.funcs[197]? = some Tryz.f197 := by kernel_rfl
theorem n197 : (Tryz.f197.name == "runtime.NumGoroutine") = false := by kernel_rfl
theorem h198 : Tryz.prog.funcs[198]? = some Tryz.f198 := by kernel_rfl
theorem n198 : (Tryz.f198.name == "runtime.NumGoroutine") = false := by kernel_rfl
theorem h199 : Tryz.prog.funcs[199]? = some Tryz.f199 := by kernel_rfl
theorem n199 : (Tryz.f199.name == "runtime.NumGoroutine") = false := by kernel_rfl
theorem h202 : Tryz.prog.funcs[202]? = some Tryz.f202 := by kernel_rfl
theorem n202 : (Tryz.f202.name == "runtime.NumGoroutine") = false := by kernel_rfl
theorem h203 : Tryz.prog.funcs[203]? = some Tryz.f203 := by kernel_rfl
theorem n203 : (Tryz.f203.name == "runtime.NumGoroutine") = false := by kernel_rfl
theorem h204 : Tryz.prog.funcs[204]? = some Tryz.f204 := by kernel_rfl
theorem n204 : (Tryz.f204.name == "runtime.NumGoroutine") = false := by kernel_rfl
theorem h205 : Tryz.prog.funcs[205]? = some Tryz.f205 := by kernel_rfl
theorem n205 : (Tryz.f205.name == "runtime.NumGoroutine") = false := by kernel_rfl
theorem h206 : Tryz.prog.funcs[206]? = some Tryz.f206 := by kernel_rfl
theorem n206 : (Tryz.f206.name == "runtime.NumGoroutine") = false := by kernel_rfl
theorem h208 : Tryz.prog.funcs[208]? = some Tryz.f208 := by kernel_rfl
theorem n208 : (Tryz.f208.name == "runtime.NumGoroutine") = false := by kernel_rfl
theorem h209 : Tryz.prog.funcs[209]? = some Tryz.f209 := by kernel_rfl
theorem n209 : (Tryz.f209.name == "runtime.NumGoroutine") = false := by kernel_rfl
theorem h210 : Tryz.prog.funcs[210]? = some Tryz.f210 := by kernel_rfl
theorem n210 : (Tryz.f210.name == "runtime.NumGoroutine") = false := by kernel_rfl
theorem h214 : Tryz.prog.funcs[214]? = some Tryz.f214 := by kernel_rfl
theorem n214 : (Tryz.f214.name == "runtime.NumGoroutine") = false := by kernel_rfl
theorem h215 : Tryz.prog.funcs[215]? = some Tryz.f215 := by kernel_rfl
theorem n215 : (Tryz.f215.name == "runtime.NumGoroutine") = false := by kernel_rfl
theorem h216 : Tryz.prog.funcs[216]? = some Tryz.f216 := by kernel_rfl
theorem n216 : (Tryz.f216.name == "runtime.NumGoroutine") = false := by kernel_rfl
theorem h217 : Tryz.prog.funcs[217]? = some Tryz.f217 := by kernel_rfl
theorem n217 : (Tryz.f217.name == "runtime.NumGoroutine") = false := by kernel_rfl
theorem h218 : Tryz.prog.funcs[218]? = some Tryz.f218 := by kernel_rfl
theorem n218 : (Tryz.f218.name == "runtime.NumGoroutine") = false := by kernel_rfl
theorem h219 : Tryz.prog.funcs[219]? = some Tryz.f219 := by kernel_rfl
theorem n219 : (Tryz.f219.name == "runtime.NumGoroutine") = false := by kernel_rfl
theorem h220 : Tryz.prog.funcs[220]? = some Tryz.f220 := by kernel_rfl
theorem n220 : (Tryz.f220.name == "runtime.NumGoroutine") = false := by kernel_rfl
theorem h221 : Tryz.prog.funcs[221]? = some Tryz.f221 := by kernel_rfl
theorem n221 : (Tryz.f221.name == "runtime.NumGoroutine") = false := by kernel_rfl
theorem h222 : Tryz.prog.funcs[222]? = some Tryz.f222 := by kernel_rfl
theorem n222 : (Tryz.f222.name == "runtime.NumGoroutine") = false := by kernel_rfl
theorem h225 : Tryz.prog.funcs[225]? = some Tryz.f225 := by kernel_rfl
theorem n225 : (Tryz.f225.name == "runtime.NumGoroutine") = false := by kernel_rfl
theorem h226 : Tryz.prog.funcs[226]? = some Tryz.f226 := by kernel_rfl
theorem n226 : (Tryz.f226.name == "runtime.NumGoroutine") = false := by kernel_rfl
theorem h227 : Tryz.prog.funcs[227]? = some Tryz.f227 := by kernel_rfl
theorem n227 : (Tryz.f227.name == "runtime.NumGoroutine") = false := by kernel_rfl
theorem h228 : Tryz.prog.funcs[228]? = some Tryz.f228 := by kernel_rfl
theorem n228 : (Tryz.f228.name == "runtime.NumGoroutine") = false := by kernel_rfl
theorem h229 : Tryz.prog.funcs[229]? = some Tryz.f229 := by kernel_rfl
theorem n229 : (Tryz.f229.name == "runtime.NumGoroutine") = false := by kernel_rfl
theorem h230 : Tryz.prog.funcs[230]? = some Tryz.f230 := by kernel_rfl
theorem n230 : (Tryz.f230.name == "runtime.NumGoroutine") = false := by kernel_rfl
theorem h231 : Tryz.prog.funcs[231]? = some Tryz.f231 := by kernel_rfl
theorem n231 : (Tryz.f231.name == "runtime.NumGoroutine") = false := by kernel_rfl
theorem h232 : Tryz.prog.funcs[232]? = some Tryz.f232 := by kernel_rfl
theorem n232 : (Tryz.f232.name == "runtime.NumGoroutine") = false := by kernel_rfl
theorem h233 : Tryz.prog.funcs[233]? = some Tryz.f233 := by kernel_rfl
theorem n233 : (Tryz.f233.name == "runtime.NumGoroutine") = false := by kernel_rfl
theorem h234 : Tryz.prog.funcs[234]? = some Tryz.f234 := by kernel_rfl
theorem n234 : (Tryz.f234.name == "runtime.NumGoroutine") = false := by kernel_rfl
theorem h235 : Tryz.prog.funcs[235]? = some Tryz.f235 := by kernel_rfl
theorem n235 : (Tryz.f235.name == "runtime.NumGoroutine") = false := by kernel_rfl
theorem h236 : Tryz.prog.funcs[236]? = some Tryz.f236 := by kernel_rfl
theorem n236 : (Tryz.f236.name == "runtime.NumGoroutine") = false := by kernel_rfl
theorem h237 : Tryz.prog.funcs[237]? = some Tryz.f237 := by kernel_rfl
theorem n237 : (Tryz.f237.name == "runtime.NumGoroutine") = false := by kernel_rfl
theorem h238 : Tryz.prog.funcs[238]? = some Tryz.f238 := by kernel_rfl
theorem n238 : (Tryz.f238.name == "runtime.NumGoroutine") = false := by kernel_rfl
theorem h239 : Tryz.prog.funcs[239]? = some Tryz.f239 := by kernel_rfl
theorem n239 : (Tryz.f239.name == "runtime.NumGoroutine") = false := by kernel_rfl
theorem h240 : Tryz.prog.funcs[240]? = some Tryz.f240 := by kernel_rfl
theorem n240 : (Tryz.f240.name == "runtime.NumGoroutine") = false := by kernel_rfl
theorem h241 : Tryz.prog.funcs[241]? = some Tryz.f241 := by kernel_rfl
theorem n241 : (Tryz.f241.name == "runtime.NumGoroutine") = false := by kernel_rfl
theorem h242 : Tryz.prog.funcs[242]? = some Tryz.f242 := by kernel_rfl
theorem n242 : (Tryz.f242.name == "runtime.NumGoroutine") = false := by kernel_rfl
theorem h243 : Tryz.prog.funcs[243]? = some Tryz.f243 := by kernel_rfl
theorem n243 : (Tryz.f243.name == "runtime.NumGoroutine") = false := by kernel_rfl
theorem h244 : Tryz.prog.funcs[244]? = some Tryz.f244 := by kernel_rfl
theorem n244 : (Tryz.f244.name == "runtime.NumGoroutine") = false := by kernel_rfl
theorem h245 : Tryz.prog.funcs[245]? = some Tryz.f245 := by kernel_rfl
theorem n245 : (Tryz.f245.name == "runtime.NumGoroutine") = false := by kernel_rfl
theorem h246 : Tryz.prog.funcs[246]? = some Tryz.f246 := by kernel_rfl
theorem n246 : (Tryz.f246.name == "runtime.NumGoroutine") = false := by kernel_rfl
theorem h247 : Tryz.prog.funcs[247]? = some Tryz.f247 := by kernel_rfl
theorem n247 : (Tryz.f247.name == "runtime.NumGoroutine") = false := by kernel_rfl
theorem h248 : Tryz.prog.funcs[248]? = some Tryz.f248 := by kernel_rfl
theorem n248 : (Tryz.f248.name == "runtime.NumGoroutine") = false := by kernel_rfl
theorem h249 : Tryz.prog.funcs[249]? = some Tryz.f249 := by kernel_rfl
theorem n249 : (Tryz.f249.name == "runtime.NumGoroutine") = false := by kernel_rfl
theorem h250 : Tryz.prog.funcs[250]? = some Tryz.f250 := by kernel_rfl
theorem n250 : (Tryz.f250.name == "runtime.NumGoroutine") = false := by kernel_rfl
theorem h251 : Tryz.prog.funcs[251]? = some Tryz.f251 := by kernel_rfl
theorem n251 : (Tryz.f251.name == "runtime.NumGoroutine") = false := by kernel_rfl
theorem h252 : Tryz.prog.funcs[252]? = some Tryz.f252 := by kernel_rfl
theorem n252 : (Tryz.f252.name == "runtime.NumGoroutine") = false := by kernel_rfl
theorem h253 : Tryz.prog.funcs[253]? = some Tryz.f253 := by kernel_rfl
theorem n253 : (Tryz.f253.name == "runtime.NumGoroutine") = false := by kernel_rfl
theorem h254 : Tryz.prog.funcs[254]? = some Tryz.f254 := by kernel_rfl
theorem n254 : (Tryz.f254.name == "runtime.NumGoroutine") = false := by kernel_rfl
theorem h255 : Tryz.prog.funcs[255]? = some Tryz.f255 := by kernel_rfl
theorem n255 : (Tryz.f255.name == "runtime.NumGoroutine") = false := by kernel_rfl
theorem h256 : Tryz.prog.funcs[256]? = some Tryz.f256 := by kernel_rfl
theorem n256 : (Tryz.f256.name == "runtime.NumGoroutine") = false := by kernel_rfl
theorem h258 : Tryz.prog.funcs[258]? = some Tryz.f258 := by kernel_rfl
theorem n258 : (Tryz.f258.name == "runtime.NumGoroutine") = false := by kernel_rfl
theorem h259 : Tryz.prog.funcs[259]? = some Tryz.f259 := by kernel_rfl
theorem n259 : (Tryz.f259.name == "runtime.NumGoroutine") = false := by kernel_rfl
theorem h260 : Tryz.prog.funcs[260]? = some Tryz.f260 := by kernel_rfl
theorem n260 : (Tryz.f260.name == "runtime.NumGoroutine") = false := by kernel_rfl
theorem h261 : Tryz.prog.funcs[261]? = some Tryz.f261 := by kernel_rfl
theorem n261 : (Tryz.f261.name == "runtime.NumGoroutine") = false := by kernel_rfl
theorem h262 : Tryz.prog.funcs[262]? = some Tryz.f262 := by kernel_rfl
theorem n262 : (Tryz.f262.name == "runtime.NumGoroutine") = false := by kernel_rfl
theorem h263 : Tryz.prog.funcs[263]? = some Tryz.f263 := by kernel_rfl
theorem n263 : (Tryz.f263.name == "runtime.NumGoroutine") = false := by kernel_rfl
theorem h265 : Tryz.prog.funcs[265]? = some Tryz.f265 := by kernel_rfl
theorem n265 : (Tryz.f265.name == "runtime.NumGoroutine") = false := by kernel_rfl
theorem h266 : Tryz.prog.funcs[266]? = some Tryz.f266 := by kernel_rfl
theorem n266 : (Tryz.f266.name == "runtime.NumGoroutine") = false := by kernel_rfl
theorem h267 : Tryz.prog.funcs[267]? = some Tryz.f267 := by kernel_rfl
theorem n267 : (Tryz.f267.name == "runtime.NumGoroutine") = false := by kernel_rfl
theorem h269 : Tryz.prog.funcs[269]? = some Tryz.f269 := by kernel_rfl
theorem n269 : (Tryz.f269.name == "runtime.NumGoroutine") = false := by kernel_rfl
theorem h270 : Tryz.prog.funcs[270]? = some Tryz.f270 := by kernel_rfl
theorem n270 : (Tryz.f270.name == "runtime.NumGoroutine") = false := by kernel_rfl
theorem h276 : Tryz.prog.funcs[276]? = some Tryz.f276 := by kernel_rfl
theorem n276 : (Tryz.f276.name == "runtime.NumGoroutine") = false := by kernel_rfl
theorem h280 : Tryz.prog.funcs[280]? = some Tryz.f280 := by kernel_rfl
theorem n280 : (Tryz.f280.name == "runtime.NumGoroutine") = false := by kernel_rfl
theorem h281 : Tryz.prog.funcs[281]? = some Tryz.f281 := by kernel_rfl
theorem n281 : (Tryz.f281.name == "runtime.NumGoroutine") = false := by kernel_rfl
theorem h282 : Tryz.prog.funcs[282]? = some Tryz.f282 := by kernel_rfl
theorem n282 : (Tryz.f282.name == "runtime.NumGoroutine") = false := by kernel_rfl
theorem h283 : Tryz.prog.funcs[283]? = some Tryz.f283 := by kernel_rfl
theorem n283 : (Tryz.f283.name == "runtime.NumGoroutine") = false := by kernel_rfl
theorem h284 : Tryz.prog.funcs[284]? = some Tryz.f284 := by kernel_rfl
theorem n284 : (Tryz.f284.name == "runtime.NumGoroutine") = false := by kernel_rfl
theorem h285 : Tryz.prog.funcs[285]? = some Tryz.f285 := by kernel_rfl
theorem n285 : (Tryz.f285.name == "runtime.NumGoroutine") = false := by kernel_rfl
theorem h286 : Tryz.prog.funcs[286]? = some Tryz.f286 := by kernel_rfl
theorem n286 : (Tryz.f286.name == "runtime.NumGoroutine") = false := by kernel_rfl
theorem h287 : Tryz.prog.funcs[287]? = some Tryz.f287 := by kernel_rfl
theorem n287 : (Tryz.f287.name == "runtime.NumGoroutine") = false := by kernel_rfl
theorem h288 : Tryz.prog.funcs[288]? = some Tryz.f288 := by kernel_rfl
theorem n288 : (Tryz.f288.name == "runtime.NumGoroutine") = false := by kernel_rfl
theorem h289 : Tryz.prog.funcs[289]? = some Tryz.f289 := by kernel_rfl
theorem n289 : (Tryz.f289.name == "runtime.NumGoroutine") = false := by kernel_rfl
theorem h293 : Tryz.prog.funcs[293]? = some Tryz.f293 := by kernel_rfl
theorem n293 : (Tryz.f293.name == "runtime.NumGoroutine") = false := by kernel_rfl
theorem h294 : Tryz.prog.funcs[294]? = some Tryz.f294 := by kernel_rfl
theorem n294 : (Tryz.f294.name == "runtime.NumGoroutine") = false := by kernel_rfl
theorem h295 : Tryz.prog.funcs[295]? = some Tryz.f295 := by kernel_rfl
theorem n295 : (Tryz.f295.name == "runtime.NumGoroutine") = false := by kernel_rfl
theorem h296 : Tryz.prog.funcs[296]? = some Tryz.f296 := by kernel_rfl
theorem n296 : (Tryz.f296.name == "runtime.NumGoroutine") = false := by kernel_rfl
theorem h297 : Tryz.prog.funcs[297]? = some Tryz.f297 := by kernel_rfl
theorem n297 : (Tryz.f297.name == "runtime.NumGoroutine") = false := by kernel_rfl
theorem h298 : Tryz.prog.funcs[298]? = some Tryz.f298 := by kernel_rfl
theorem n298 : (Tryz.f298.name == "runtime.NumGoroutine") = false := by kernel_rfl
theorem h299 : Tryz.prog.funcs[299]? = some Tryz.f299 := by kernel_rfl
theorem n299 : (Tryz.f299.name == "runtime.NumGoroutine") = false := by kernel_rfl
theorem h300 : Tryz.prog.funcs[300]? = some Tryz.f300 := by kernel_rfl
theorem n300 : (Tryz.f300.name == "runtime.NumGoroutine") = false := by kernel_rfl
theorem h301 : Tryz.prog.funcs[301]? = some Tryz.f301 := by kernel_rfl
theorem n301 : (Tryz.f301.name == "runtime.NumGoroutine") = false := by kernel_rfl
theorem h302 : Tryz.prog.funcs[302]? = some Tryz.f302 := by kernel_rfl
theorem n302 : (Tryz.f302.name == "runtime.NumGoroutine") = false := by kernel_rfl
theorem h303 : Tryz.prog.funcs[303]? = some Tryz.f303 := by kernel_rfl
theorem n303 : (Tryz.f303.name == "runtime.NumGoroutine") = false := by kernel_rfl
theorem h304 : Tryz.prog.funcs[304]? = some Tryz.f304 := by kernel_rfl
theorem n304 : (Tryz.f304.name == "runtime.NumGoroutine") = false := by kernel_rfl
theorem h305 : Tryz.prog.funcs[305]? = some Tryz.f305 := by kernel_rfl
theorem n305 : (Tryz.f305.name == "runtime.NumGoroutine") = false := by kernel_rfl
theorem h306 : Tryz.prog.funcs[306]? = some Tryz.f306 := by kernel_rfl
theorem n306 : (Tryz.f306.name == "runtime.NumGoroutine") = false := by kernel_rfl
theorem h307 : Tryz.prog.funcs[307]? = some Tryz.f307 := by kernel_rfl
theorem n307 : (Tryz.f307.name == "runtime.NumGoroutine") = false := by kernel_rfl
theorem h313 : Tryz.prog.funcs[313]? = some Tryz.f313 := by kernel_rfl
theorem n313 : (Tryz.f313.name == "runtime.NumGoroutine") = false := by kernel_rfl
theorem h322 : Tryz.prog.funcs[322]? = some Tryz.f322 := by kernel_rfl
theorem n322 : (Tryz.f322.name == "runtime.NumGoroutine") = false := by kernel_rfl
theorem h323 : Tryz.prog.funcs[323]? = some Tryz.f323 := by kernel_rfl
theorem n323 : (Tryz.f323.name == "runtime.NumGoroutine") = false := by kernel_rfl
theorem h324 : Tryz.prog.funcs[324]? = some Tryz.f324 := by kernel_rfl
theorem n324 : (Tryz.f324.name == "runtime.NumGoroutine") = false := by kernel_rfl
theorem h325 : Tryz.prog.funcs[325]? = some Tryz.f325 := by kernel_rfl
theorem n325 : (Tryz.f325.name == "runtime.NumGoroutine") = false := by kernel_rfl
theorem h326 : Tryz.prog.funcs[326]? = some Tryz.f326 := by kernel_rfl
theorem n326 : (Tryz.f326.name == "runtime.NumGoroutine") = false := by kernel_rfl
theorem h327 : Tryz.prog.funcs[327]? = some Tryz.f327 := by kernel_rfl
theorem n327 : (Tryz.f327.name == "runtime.NumGoroutine") = false := by kernel_rfl
theorem h328 : Tryz.prog.funcs[328]? = some Tryz.f328 := by kernel_rfl
theorem n328 : (Tryz.f328.name == "runtime.NumGoroutine") = false := by kernel_rfl
theorem h329 : Tryz.prog.funcs[329]? = some Tryz.f329 := by kernel_rfl
theorem n329 : (Tryz.f329.name == "runtime.NumGoroutine") = false := by kernel_rfl
theorem h332 : Tryz.prog.funcs[332]? = some Tryz.f332 := by kernel_rfl
theorem n332 : (Tryz.f332.name == "runtime.NumGoroutine") = false := by kernel_rfl
theorem h334 : Tryz.prog.funcs[334]? = some Tryz.f334 := by kernel_rfl
theorem n334 : (Tryz.f334.name == "runtime.NumGoroutine") = false := by kernel_rfl
theorem h336 : Tryz.prog.funcs[336]? = some Tryz.f336 := by kernel_rfl
theorem n336 : (Tryz.f336.name == "runtime.NumGoroutine") = false := by kernel_rfl
theorem h344 : Tryz.prog.funcs[344]? = some Tryz.f344 := by kernel_rfl
theorem n344 : (Tryz.f344.name == "runtime.NumGoroutine") = false := by kernel_rfl
theorem h352 : Tryz.prog.funcs[352]? = some Tryz.f352 := by kernel_rfl
theorem n352 : (Tryz.f352.name == "runtime.NumGoroutine") = false := by kernel_rfl
theorem h353 : Tryz.prog.funcs[353]? = some Tryz.f353 := by kernel_rfl
theorem n353 : (Tryz.f353.name == "runtime.NumGoroutine") = false := by kernel_rfl
theorem h354 : Tryz.prog.funcs[354]? = some Tryz.f354 := by kernel_rfl
theorem n354 : (Tryz.f354.name == "runtime.NumGoroutine") = false := by kernel_rfl
theorem h356 : Tryz.prog.funcs[356]? = some Tryz.f356 := by kernel_rfl
theorem n356 : (Tryz.f356.name == "runtime.NumGoroutine") = false := by kernel_rfl
theorem h365 : Tryz.prog.funcs[365]? = some Tryz.f365 := by kernel_rfl
theorem n365 : (Tryz.f365.name == "runtime.NumGoroutine") = false := by kernel_rfl
theorem h367 : Tryz.prog.funcs[367]? = some Tryz.f367 := by kernel_rfl
theorem n367 : (Tryz.f367.name == "runtime.NumGoroutine") = false := by kernel_rfl
theorem h369 : Tryz.prog.funcs[369]? = some Tryz.f369 := by kernel_rfl
theorem n369 : (Tryz.f369.name == "runtime.NumGoroutine") = false := by kernel_rfl
theorem h370 : Tryz.prog.funcs[370]? = some Tryz.f370 := by kernel_rfl
theorem n370 : (Tryz.f370.name == "runtime.NumGoroutine") = false := by kernel_rfl
theorem h377 : Tryz.prog.funcs[377]? = some Tryz.f377 := by kernel_rfl
theorem n377 : (Tryz.f377.name == "runtime.NumGoroutine") = false := by kernel_rfl
theorem x264 : ∃ fn e, Tryz.prog.funcs[264]? = some fn ∧ (fn.name == "runtime.NumGoroutine") = false ∧ fn.body.isNone = true ∧ Extern.findNext fn = none ∧ Extern.find fn = some e ∧ ExtF Tryz.prog 0 e := ⟨Tryz.f264, _, by kernel_rfl, by kernel_rfl, by kernel_rfl, by kernel_rfl, by rfl, .noZero (e := 5) (by kernel_rfl)⟩
theorem x363 : ∃ fn e, Tryz.prog.funcs[363]? = some fn ∧ (fn.name == "runtime.NumGoroutine") = false ∧ fn.body.isNone = true ∧ Extern.findNext fn = none ∧ Extern.find fn = some e ∧ ExtF Tryz.prog 1 e := ⟨Tryz.f363, _, by kernel_rfl, by kernel_rfl, by kernel_rfl, by kernel_rfl, by rfl, .clone⟩
theorem x364 : ∃ fn e, Tryz.prog.funcs[364]? = some fn ∧ (fn.name == "runtime.NumGoroutine") = false ∧ fn.body.isNone = true ∧ Extern.findNext fn = none ∧ Extern.find fn = some e ∧ ExtF Tryz.prog 2 e := ⟨Tryz.f364, _, by kernel_rfl, by kernel_rfl, by kernel_rfl, by kernel_rfl, by rfl, .cmp⟩
theorem x383 : ∃ fn e, Tryz.prog.funcs[383]? = some fn ∧ (fn.name == "runtime.NumGoroutine") = false ∧ fn.body.isNone = true ∧ Extern.findNext fn = none ∧ Extern.find fn = some e ∧ ExtF Tryz.prog 3 e := ⟨Tryz.f383, _, by kernel_rfl, by kernel_rfl, by kernel_rfl, by kernel_rfl, by rfl, .count⟩
theorem x387 : ∃ fn e, Tryz.prog.funcs[387]? = some fn ∧ (fn.name == "runtime.NumGoroutine") = false ∧ fn.body.isNone = true ∧ Extern.findNext fn = none ∧ Extern.find fn = some e ∧ ExtF Tryz.prog 4 e := ⟨Tryz.f387, _, by kernel_rfl, by kernel_rfl, by kernel_rfl, by kernel_rfl, by rfl, .index⟩
theorem tab_rng : Rng Tryz.prog 0 512 tabT := (lf_d (lf_d (lf_d (lf_d (lf_d (lf_d (lf_d (lf_d lf_none (lf_d lf_none (lf_fn h3 tok_3 n3))) (lf_d (lf_d (lf_fn h4 tok_4 n4) (lf_fn h5 tok_5 n5)) (lf_d (lf_fn h6 tok_6 n6) (lf_fn h7 tok_7 n7)))) (lf_d (lf_d (lf_d (lf_fn h8 tok_8 n8) (lf_fn h9 tok_9 n9)) (lf_d (lf_fn h10 tok_10 n10) (lf_fn h11 tok_11 n11))) (lf_d (lf_d (lf_fn h12 tok_12 n12) (lf_fn h13 tok_13 n13)) (lf_d (lf_fn h14 tok_14 n14) (lf_fn h15 tok_15 n15))))) (lf_d (lf_d (lf_d (lf_d (lf_fn h16 tok_16 n16) (lf_fn h17 tok_17 n17)) (lf_d (lf_fn h18 tok_18 n18) (lf_fn h19 tok_19 n19))) (lf_d (lf_d (lf_fn h20 tok_20 n20) (lf_fn h21 tok_21 n21)) (lf_d (lf_fn h22 tok_22 n22) (lf_fn h23 tok_23 n23)))) (lf_d (lf_d (lf_d (lf_fn h24 tok_24 n24) (lf_fn h25 tok_25 n25)) (lf_d (lf_fn h26 tok_26 n26) (lf_fn h27 tok_27 n27))) (lf_d (lf_d (lf_fn h28 tok_28 n28) (lf_fn h29 tok_29 n29)) (lf_d (lf_fn h30 tok_30 n30) (lf_fn h31 tok_31 n31)))))) (lf_d (lf_d (lf_d (lf_d (lf_d (lf_fn h32 tok_32 n32) lf_none) (lf_d (lf_fn h34 tok_34 n34) lf_none)) (lf_d (lf_d (lf_fn h36 tok_36 n36) (lf_fn h37 tok_37 n37)) (lf_d (lf_fn h38 tok_38 n38) (lf_fn h39 tok_39 n39)))) (lf_d (lf_d (lf_d (lf_fn h40 tok_40 n40) (lf_fn h41 tok_41 n41)) (lf_d (lf_fn h42 tok_42 n42) (lf_fn h43 tok_43 n43))) (lf_d (lf_d (lf_fn h44 tok_44 n44) (lf_fn h45 tok_45 n45)) (lf_d (lf_fn h46 tok_46 n46) (lf_fn h47 tok_47 n47))))) (lf_d (lf_d (lf_d (lf_d (lf_fn h48 tok_48 n48) (lf_fn h49 tok_49 n49)) (lf_d (lf_fn h50 tok_50 n50) (lf_fn h51 tok_51 n51))) (lf_d (lf_d (lf_fn h52 tok_52 n52) (lf_fn h53 tok_53 n53)) (lf_d (lf_fn h54 tok_54 n54) (lf_fn h55 tok_55 n55)))) (lf_d (lf_d (lf_d (lf_fn h56 tok_56 n56) (lf_fn h57 tok_57 n57)) (lf_d (lf_fn h58 tok_58 n58) (lf_fn h59 tok_59 n59))) (lf_d (lf_d (lf_fn h60 tok_60 n60) (lf_fn h61 tok_61 n61)) (lf_d (lf_fn h62 tok_62 n62) (lf_fn h63 tok_63 n63))))))) (lf_d (lf_d (lf_d (lf_d (lf_d (lf_d (lf_fn h64 tok_64 n64) (lf_fn h65 tok_65 n65)) lf_none) (lf_d (lf_d (lf_fn h68 tok_68 n68) lf_none) (lf_d lf_none (lf_fn h71 tok_71 n71)))) (lf_d (lf_d (lf_d (lf_fn h72 tok_72 n72) (lf_fn h73 tok_73 n73)) lf_none) lf_none)) (lf_d (lf_d (lf_d lf_none (lf_d (lf_fn h82 tok_82 n82) (lf_fn h83 tok_83 n83))) (lf_d (lf_d lf_none (lf_fn h85 tok_85 n85)) (lf_d (lf_fn h86 tok_86 n86) (lf_fn h87 tok_87 n87)))) (lf_d (lf_d (lf_d (lf_fn h88 tok_88 n88) (lf_fn h89 tok_89 n89)) (lf_d (lf_fn h90 tok_90 n90) (lf_fn h91 tok_91 n91))) (lf_d (lf_d (lf_fn h92 tok_92 n92) (lf_fn h93 tok_93 n93)) (lf_d (lf_fn h94 tok_94 n94) (lf_fn h95 tok_95 n95)))))) (lf_d (lf_d (lf_d (lf_d (lf_d (lf_fn h96 tok_96 n96) (lf_fn h97 tok_97 n97)) (lf_d (lf_fn h98 tok_98 n98) (lf_fn h99 tok_99 n99))) (lf_d (lf_d (lf_fn h100 tok_100 n100) (lf_fn h101 tok_101 n101)) (lf_d (lf_fn h102 tok_102 n102) (lf_fn h103 tok_103 n103)))) (lf_d (lf_d (lf_d (lf_fn h104 tok_104 n104) (lf_fn h105 tok_105 n105)) (lf_d (lf_fn h106 tok_106 n106) (lf_fn h107 tok_107 n107))) (lf_d (lf_d (lf_fn h108 tok_108 n108) (lf_fn h109 tok_109 n109)) (lf_d (lf_fn h110 tok_110 n110) (lf_fn h111 tok_111 n111))))) (lf_d (lf_d (lf_d (lf_d (lf_fn h112 tok_112 n112) (lf_fn h113 tok_113 n113)) (lf_d (lf_fn h114 tok_114 n114) (lf_fn h115 tok_115 n115))) (lf_d (lf_d (lf_fn h116 tok_116 n116) (lf_fn h117 tok_117 n117)) (lf_d (lf_fn h118 tok_118 n118) (lf_fn h119 tok_119 n119)))) (lf_d (lf_d (lf_d (lf_fn h120 tok_120 n120) (lf_fn h121 tok_121 n121)) (lf_d (lf_fn h122 tok_122 n122) (lf_fn h123 tok_123 n123))) (lf_d (lf_d lf_none (lf_fn h125 tok_125 n125)) (lf_d (lf_fn h126 tok_126 n126) (lf_fn h127 tok_127 n127)))))))) (lf_d (lf_d (lf_d (lf_d (lf_d (lf_d (lf_d lf_none (lf_fn h129 tok_129 n129)) (lf_d (lf_fn h130 tok_130 n130) (lf_fn h131 tok_131 n131))) (lf_d (lf_d (lf_fn h132 tok_132 n132) (lf_fn h133 tok_133 n133)) (lf_d lf_none (lf_fn h135 tok_135 n135)))) (lf_d (lf_d (lf_d (lf_fn h136 tok_136 n136) (lf_fn h137 tok_137 n137)) (lf_d (lf_fn h138 tok_138 n138) (lf_fn h139 tok_139 n139))) lf_none)) (lf_d (lf_d (lf_d (lf_d (lf_fn h144 tok_144 n144) lf_none) (lf_d (lf_fn h146 tok_146 n146) lf_none)) (lf_d (lf_d (lf_fn h148 tok_148 n148) (lf_fn h149 tok_149 n149)) (lf_d (lf_fn h150 tok_150 n150) (lf_fn h151 tok_151 n151)))) (lf_d lf_none (lf_d lf_none (lf_d (lf_fn h158 tok_158 n158) (lf_fn h159 tok_159 n159)))))) (lf_d (lf_d (lf_d (lf_d (lf_d (lf_fn h160 tok_160 n160) (lf_fn h161 tok_161 n161)) (lf_d (lf_fn h162 tok_162 n162) (lf_fn h163 tok_163 n163))) (lf_d (lf_d (lf_fn h164 tok_164 n164) (lf_fn h165 tok_165 n165)) (lf_d (lf_fn h166 tok_166 n166) (lf_fn h167 tok_167 n167)))) (lf_d (lf_d (lf_d (lf_fn h168 tok_168 n168) (lf_fn h169 tok_169 n169)) (lf_d (lf_fn h170 tok_170 n170) (lf_fn h171 tok_171 n171))) (lf_d (lf_d (lf_fn h172 tok_172 n172) (lf_fn h173 tok_173 n173)) (lf_d (lf_fn h174 tok_174 n174) (lf_fn h175 tok_175 n175))))) (lf_d (lf_d (lf_d (lf_d (lf_fn h176 tok_176 n176) (lf_fn h177 tok_177 n177)) (lf_d (lf_fn h178 tok_178 n178) (lf_fn h179 tok_179 n179))) (lf_d (lf_d (lf_fn h180 tok_180 n180) (lf_fn h181 tok_181 n181)) (lf_d (lf_fn h182 tok_182 n182) (lf_fn h183 tok_183 n183)))) (lf_d (lf_d (lf_d (lf_fn h184 tok_184 n184) (lf_fn h185 tok_185 n185)) (lf_d (lf_fn h186 tok_186 n186) (lf_fn h187 tok_187 n187))) (lf_d (lf_d (lf_fn h188 tok_188 n188) (lf_fn h189 tok_189 n189)) (lf_d (lf_fn h190 tok_190 n190) (lf_fn h191 tok_191 n191))))))) (lf_d (lf_d (lf_d (lf_d (lf_d (lf_d (lf_fn h192 tok_192 n192) (lf_fn h193 tok_193 n193)) (lf_d (lf_fn h194 tok_194 n194) (lf_fn h195 tok_195 n195))) (lf_d (lf_d (lf_fn h196 tok_196 n196) (lf_fn h197 tok_197 n197)) (lf_d (lf_fn h198 tok_198 n198) (lf_fn h199 tok_199 n199)))) (lf_d (lf_d lf_none (lf_d (lf_fn h202 tok_202 n202) (lf_fn h203 tok_203 n203))) (lf_d (lf_d (lf_fn h204 tok_204 n204) (lf_fn h205 tok_205 n205)) (lf_d (lf_fn h206 tok_206 n206) lf_none)))) (lf_d (lf_d (lf_d (lf_d (lf_fn h208 tok_208 n208) (lf_fn h209 tok_209 n209)) (lf_d (lf_fn h210 tok_210 n210) lf_none)) (lf_d lf_none (lf_d (lf_fn h214 tok_214 n214) (lf_fn h215 tok_215 n215)))) (lf_d (lf_d (lf_d (lf_fn h216 tok_216 n216) (lf_fn h217 tok_217 n217)) (lf_d (lf_fn h218 tok_218 n218) (lf_fn h219 tok_219 n219))) (lf_d (lf_d (lf_fn h220 tok_220 n220) (lf_fn h221 tok_221 n221)) (lf_d (lf_fn h222 tok_222 n222) lf_none))))) (lf_d (lf_d (lf_d (lf_d (lf_d lf_none (lf_fn h225 tok_225 n225)) (lf_d (lf_fn h226 tok_226 n226) (lf_fn h227 tok_227 n227))) (lf_d (lf_d (lf_fn h228 tok_228 n228) (lf_fn h229 tok_229 n229)) (lf_d (lf_fn h230 tok_230 n230) (lf_fn h231 tok_231 n231)))) (lf_d (lf_d (lf_d (lf_fn h232 tok_232 n232) (lf_fn h233 tok_233 n233)) (lf_d (lf_fn h234 tok_234 n234) (lf_fn h235 tok_235 n235))) (lf_d (lf_d (lf_fn h236 tok_236 n236) (lf_fn h237 tok_237 n237)) (lf_d (lf_fn h238 tok_238 n238) (lf_fn h239 tok_239 n239))))) (lf_d (lf_d (lf_d (lf_d (lf_fn h240 tok_240 n240) (lf_fn h241 tok_241 n241)) (lf_d (lf_fn h242 tok_242 n242) (lf_fn h243 tok_243 n243))) (lf_d (lf_d (lf_fn h244 tok_244 n244) (lf_fn h245 tok_245 n245)) (lf_d (lf_fn h246 tok_246 n246) (lf_fn h247 tok_247 n247)))) (lf_d (lf_d (lf_d (lf_fn h248 tok_248 n248) (lf_fn h249 tok_249 n249)) (lf_d (lf_fn h250 tok_250 n250) (lf_fn h251 tok_251 n251))) (lf_d (lf_d (lf_fn h252 tok_252 n252) (lf_fn h253 tok_253 n253)) (lf_d (lf_fn h254 tok_254 n254) (lf_fn h255 tok_255 n255))))))))) (lf_d (lf_d (lf_d (lf_d (lf_d (lf_d (lf_d (lf_d (lf_fn h256 tok_256 n256) lf_none) (lf_d (lf_fn h258 tok_258 n258) (lf_fn h259 tok_259 n259))) (lf_d (lf_d (lf_fn h260 tok_260 n260) (lf_fn h261 tok_261 n261)) (lf_d (lf_fn h262 tok_262 n262) (lf_fn h263 tok_263 n263)))) (lf_d (lf_d (lf_d (lf_ext x264) (lf_fn h265 tok_265 n265)) (lf_d (lf_fn h266 tok_266 n266) (lf_fn h267 tok_267 n267))) (lf_d (lf_d lf_none (lf_fn h269 tok_269 n269)) (lf_d (lf_fn h270 tok_270 n270) lf_none)))) (lf_d (lf_d lf_none (lf_d (lf_d (lf_fn h276 tok_276 n276) lf_none) lf_none)) (lf_d (lf_d (lf_d (lf_fn h280 tok_280 n280) (lf_fn h281 tok_281 n281)) (lf_d (lf_fn h282 tok_282 n282) (lf_fn h283 tok_283 n283))) (lf_d (lf_d (lf_fn h284 tok_284 n284) (lf_fn h285 tok_285 n285)) (lf_d (lf_fn h286 tok_286 n286) (lf_fn h287 tok_287 n287)))))) (lf_d (lf_d (lf_d (lf_d (lf_d (lf_fn h288 tok_288 n288) (lf_fn h289 tok_289 n289)) lf_none) (lf_d (lf_d lf_none (lf_fn h293 tok_293 n293)) (lf_d (lf_fn h294 tok_294 n294) (lf_fn h295 tok_295 n295)))) (lf_d (lf_d (lf_d (lf_fn h296 tok_296 n296) (lf_fn h297 tok_297 n297)) (lf_d (lf_fn h298 tok_298 n298) (lf_fn h299 tok_299 n299))) (lf_d (lf_d (lf_fn h300 tok_300 n300) (lf_fn h301 tok_301 n301)) (lf_d (lf_fn h302 tok_302 n302) (lf_fn h303 tok_303 n303))))) (lf_d (lf_d (lf_d (lf_d (lf_fn h304 tok_304 n304) (lf_fn h305 tok_305 n305)) (lf_d (lf_fn h306 tok_306 n306) (lf_fn h307 tok_307 n307))) lf_none) (lf_d (lf_d (lf_d lf_none (lf_fn h313 tok_313 n313)) lf_none) lf_none)))) (lf_d (lf_d (lf_d (lf_d (lf_d lf_none (lf_d (lf_fn h322 tok_322 n322) (lf_fn h323 tok_323 n323))) (lf_d (lf_d (lf_fn h324 tok_324 n324) (lf_fn h325 tok_325 n325)) (lf_d (lf_fn h326 tok_326 n326) (lf_fn h327 tok_327 n327)))) (lf_d (lf_d (lf_d (lf_fn h328 tok_328 n328) (lf_fn h329 tok_329 n329)) lf_none) (lf_d (lf_d (lf_fn h332 tok_332 n332) lf_none) (lf_d (lf_fn h334 tok_334 n334) lf_none)))) (lf_d (lf_d (lf_d (lf_d (lf_fn h336 tok_336 n336) lf_none) lf_none) lf_none) (lf_d (lf_d (lf_d (lf_fn h344 tok_344 n344) lf_none) lf_none) lf_none))) (lf_d (lf_d (lf_d (lf_d (lf_d (lf_fn h352 tok_352 n352) (lf_fn h353 tok_353 n353)) (lf_d (lf_fn h354 tok_354 n354) lf_none)) (lf_d (lf_d (lf_fn h356 tok_356 n356) lf_none) lf_none)) (lf_d (lf_d lf_none (lf_d lf_none (lf_ext x363))) (lf_d (lf_d (lf_ext x364) (lf_fn h365 tok_365 n365)) (lf_d lf_none (lf_fn h367 tok_367 n367))))) (lf_d (lf_d (lf_d (lf_d lf_none (lf_fn h369 tok_369 n369)) (lf_d (lf_fn h370 tok_370 n370) lf_none)) lf_none) (lf_d (lf_d (lf_d lf_none (lf_fn h377 tok_377 n377)) lf_none) (lf_d lf_none (lf_d lf_none (lf_ext x383)))))))) (lf_d (lf_d (lf_d (lf_d (lf_d (lf_d lf_none (lf_d lf_none (lf_ext x387))) lf_none) lf_none) lf_none) lf_none) lf_none)))
theorem tb_lf (i : Nat) : LfOK Tryz.prog i (tbT i) := by
  unfold tbT
  cases h : Nat.ble 512 i with
  | true => exact ⟨fun xf h => (by cases h), fun k h => by cases h⟩
  | false => exact tab_rng i (Nat.zero_le _) (ble_f h)
theorem tab_ok : TabOK Tryz.prog tbT := fun f xf h => (tb_lf f).1 xf h
theorem ext_tab : ExtTab Tryz.prog tbT := fun f k h => (tb_lf f).2 k h
theorem cl_of {P : Program} {f : FuncId} {fn : Func} {id : Nat} {o0 o1 : Oper} {c : Code} {t0 t1 n : Nat} {tys : Array TypeId} (hf : P.funcs[f]? = some fn) (body : fn.body = some (.seq (.region id #[o0, o1] false) c)) (op0 : o0.op = .call ⟨.builtin .recover, #[], tys⟩) (dst0 : o0.dst = some t0) (g0 : o0.guard = none)
    (op1 : o1.op = .assign (.tmp t0)) (dst1 : o1.dst = some t1) (g1 : o1.guard = none) (l0 : Nat.blt t0 n = true) (l1 : Nat.blt t1 n = true) (ok : okC P 0 n c = true) (small : Nat.ble n 250 = true) (nt : fn.ntmps = n) (res : fn.results = #[]) (name : (fn.name == "runtime.NumGoroutine") = false)
    (d0 d1 : Ix) (b : XC) (m : Nat) (h : clOf P 0 fn = some (d0, d1, b, m)) : ∃ fn id o0 o1 c loc t0 t1 tys, Cl' P f d0 d1 b m fn id o0 o1 c loc t0 t1 tys := by
  unfold clOf at h
  rw [body] at h
  simp only [op0, dst0, op1, dst1, Nat.beq_refl] at h
  cases h
  refine ⟨fn, id, o0, o1, c, 0, t0, t1, tys, hf, body, op0, dst0, g0, op1, dst1, g1, rfl, rfl, ?_, ?_, rfl, by rw [nt]; exact ok, by rw [nt]; exact Nat.le_of_ble_eq_true small, rfl, res, name⟩
  · rw [nt]; simpa using l0
  · rw [nt]; simpa using l1
theorem cl_83 : ∀ d0 d1 b m, clOf Tryz.prog 0 Tryz.f83 = some (d0, d1, b, m) → ∃ fn id o0 o1 c loc t0 t1 tys, Cl' Tryz.prog 83 d0 d1 b m fn id o0 o1 c loc t0 t1 tys := cl_of h83 rfl rfl rfl rfl rfl rfl rfl (by kernel_rfl) (by kernel_rfl) (by kernel_rfl) (by kernel_rfl) rfl rfl n83
theorem cl_243 : ∀ d0 d1 b m, clOf Tryz.prog 0 Tryz.f243 = some (d0, d1, b, m) → ∃ fn id o0 o1 c loc t0 t1 tys, Cl' Tryz.prog 243 d0 d1 b m fn id o0 o1 c loc t0 t1 tys := cl_of h243 rfl rfl rfl rfl rfl rfl rfl (by kernel_rfl) (by kernel_rfl) (by kernel_rfl) (by kernel_rfl) rfl rfl n243
theorem cl_tab : ClTab Tryz.prog clT := fun f d0 d1 b n h => by
  unfold clT at h
  split at h
  · rename_i e
    have := Nat.eq_of_beq_eq_true e
    subst this
    exact cl_83 _ _ _ _ h
  · split at h
    · rename_i e
      have := Nat.eq_of_beq_eq_true e
      subst this
      exact cl_243 _ _ _ _ h
    · cases h
end Go.Ex
namespace Go.Ex
open Go.Proofs
open Go.Mo
set_option linter.unusedVariables false
noncomputable def bs (k n : Nat) : List V := iterC (β := Nat → List V) k (fun _ => []) (fun r n =>
  natC (n % 256) (natC (n / 256) (.u 0 :: r 0) fun m => .u 0 :: r (Nat.succ m)) fun a => natC (n / 256) (.u (Nat.succ a) :: r 0) fun m => .u (Nat.succ a) :: r (Nat.succ m)) n
def upd1 : List O → Nat → O → List O
  | [], _, _ => []
  | _ :: l, 0, o => o :: l
  | x :: l, n + 1, o => x :: upd1 l n o
def upd (l : List O) (ch : List (Nat × O)) (new : List O) : List O := (ch.foldl (fun l p => upd1 l p.1 p.2) l) ++ new
structure Kle (A : St) (k : Nat) : Prop where
  h : Nat.ble (idN A.nx) k = true
abbrev Sm := Nat → List V → St → Option ((V → St → Bool) → Bool)
noncomputable def smS : Sm := fun f vs σ => match Nat.beq f 87 with
  | true => match vs with
    | [v] => sortedR v σ
    | _ => none
  | false => none
noncomputable def withC (fid k n : Nat) (A B : St) (ags : List V) (v : V) (s : Sm) : Sm := fun f vs σ => match Nat.beq f fid with
  | true => some fun κ => apS k n A B ags v vs σ κ
  | false => s f vs σ
noncomputable def tryC (fid k n : Nat) (A B : St) (ags : List V) (v : V) (s : Sm) : Sm := fun f vs σ => match Nat.beq f fid with
  | true => match mLs (mV 9) ags vs ms0 fun s => mAll A σ n s fun _ => true with
    | true => some fun κ => apS k n A B ags v vs σ κ
    | false => s f vs σ
  | false => s f vs σ
noncomputable def lowC (T : Nat) (s1 s2 : Sm) : Sm := fun f vs σ => match Nat.ble (idN σ.nx) T with
  | true => s1 f vs σ
  | false => s2 f vs σ
section
variable {ξ : Nat → Int}
theorem withC_ok {fid k n : Nat} {A B : St} {ags : List V} {v : V} {s : Sm} (hc : Chunk Tryz.prog ξ fid A ags B v) (hA : Nm A) (hkA : Kle A k) (hkB : Kle B k) (hs : ∀ W, SmOK Tryz.prog W ξ s) : ∀ W, SmOK Tryz.prog W ξ (withC fid k n A B ags v s) := by
  intro W f vs σ r hr κ h ρ w us R hR hv hκ
  unfold withC at hr
  cases e : Nat.beq f fid with
  | true =>
    rw [e] at hr
    simp only [Option.some.injEq] at hr
    subst hr
    have := Nat.eq_of_beq_eq_true e
    subst this
    exact apS_ok hc hA hkA.h hkB.h h hR hv hκ
  | false =>
    rw [e] at hr
    exact hs W f vs σ r hr κ h ρ w us R hR hv hκ
theorem tryC_ok {fid k n : Nat} {A B : St} {ags : List V} {v : V} {s : Sm} (hc : Chunk Tryz.prog ξ fid A ags B v) (hA : Nm A) (hkA : Kle A k) (hkB : Kle B k) (hs : ∀ W, SmOK Tryz.prog W ξ s) : ∀ W, SmOK Tryz.prog W ξ (tryC fid k n A B ags v s) := by
  intro W f vs σ r hr κ h ρ w us R hR hv hκ
  unfold tryC at hr
  cases e : Nat.beq f fid with
  | true =>
    rw [e] at hr
    simp only at hr
    split at hr
    · simp only [Option.some.injEq] at hr
      subst hr
      have := Nat.eq_of_beq_eq_true e
      subst this
      exact apS_ok hc hA hkA.h hkB.h h hR hv hκ
    · exact hs W f vs σ r hr κ h ρ w us R hR hv hκ
  | false =>
    rw [e] at hr
    exact hs W f vs σ r hr κ h ρ w us R hR hv hκ
noncomputable def E0 (sm : Sm) : Env := env1 (fun _ => ⟨none, none⟩) sm
noncomputable def E1 (bd : Nat → Bd) (sm : Sm) : Env := env1 bd sm
theorem E_ok {bd : Nat → Bd} {sm : Sm} (hb : BdOK bd ξ) (h : ∀ W, SmOK Tryz.prog W ξ sm) : EnvOK Tryz.prog ξ (env1 bd sm) where
  prog := rfl
  bd := hb
  tab := tab_ok
  cl := cl_tab
  sm := h
  ext := fun W => ext_ok ext_tab W
theorem E0_ok {sm : Sm} (h : ∀ W, SmOK Tryz.prog W ξ sm) : EnvOK Tryz.prog ξ (E0 sm) := E_ok (fun j => ⟨fun l h => (by cases h), fun l h => (by cases h)⟩) h
end
end Go.Ex
namespace Go.Ex
open Go.Proofs
open Go.Mo
theorem smS_ok {ξ : Nat → Int} : ∀ W, SmOK Tryz.prog W ξ smS := by
  intro W f vs σ r hr κ h ρ w us R hR hv hκ
  unfold smS at hr
  split at hr
  case h_2 => cases hr
  rename_i e
  split at hr
  case h_2 => cases hr
  have := Nat.eq_of_beq_eq_true e
  cases hv with | cons hv hn => ?_
  cases hn
  rw [this]
  exact sorted_ok hr h hR hv hκ
end Go.Ex
namespace Go.Ex
open Go.Proofs
open Go.Mo
set_option linter.unusedVariables false
set_option linter.constructorNameAsVariable false
set_option linter.unusedSimpArgs false
noncomputable def putAll : List (V × V × Nat) → List V → (List V → Ans) → Ans
  | [], cs, κ => κ cs
  | (.n a, v, _) :: r, cs, κ => frcV v fun v => put1 v cs a fun cs => putAll r cs κ
  | _ :: _, _, _ => no
noncomputable def flushK (κ : V → St → Ans) (e : En) (σ : St) : Ans := match e with
  | .r (.w (.t [.w (.k (.pointer none)), .n a])) => natC a no fun m => κ (.n (Nat.succ m)) σ
  | .r (.w (.t [.p d 0, .n 0])) => match obj d σ with
    | .c [.q li n, .w (.m m), _, _] 0 => match obj li σ, obj m σ with
      | .c cs 1, .m es clk => match keysN es, allV valS es && (bornOK 0 es clk && Nat.beq cs.length n) with
        | some ks, true => match ascN (sortN ks) with
          | true => putAll es cs fun cs => setO li (.c cs 1) σ fun σ => setO m (.m [] clk) σ fun σ => κ (.n 0) σ
          | false => no
        | _, _ => no
      | _, _ => no
    | _ => no
  | _ => no
noncomputable def flushS (E : Env) (v n : V) (σ : St) (κ : V → St → Ans) : Ans := (go E 100).call 184 [v, n, .n 0, .n 64] σ (flushK κ)
noncomputable def smF (s : Sm) : Sm := fun f vs σ => match Nat.beq f 108 with
  | true => match vs with
    | [.p i o, .n a] => some fun κ => flushS (E0 s) (.p i o) (.n a) σ κ
    | _ => none
  | false => s f vs σ
section
variable {W : Kp} {ξ : Nat → Int} {ρ : Rho} {σ : St} {w : World}
def setU : List Nat → List MapEntry → List Value → List Value
  | a :: ks, m :: ms, us => setU ks ms (us.set a m.val)
  | _, _, us => us
theorem VRs.set {vs : List V} {us : List Value} {v : V} {u : Value} (h : VRs ξ ρ vs us) (hv : VR ξ ρ v u) : ∀ (n : Nat), VRs ξ ρ (vs.set n v) (us.set n u) := by
  induction vs generalizing us with
  | nil => intro n; cases h; exact .nil
  | cons x vs ih =>
    intro n
    cases h with | cons h r =>
    cases n with
    | zero => exact .cons hv r
    | succ n => exact .cons h (ih r n)
theorem setU_length : ∀ (ks : List Nat) (ms : List MapEntry) (us : List Value), (setU ks ms us).length = us.length
  | [], _, _ => by simp [setU]
  | _ :: _, [], _ => by simp [setU]
  | a :: ks, m :: ms, us => by simp only [setU]; rw [setU_length ks ms, List.length_set]
theorem putAll_t : ∀ {es : List (V × V × Nat)} {ms : List MapEntry} {ks : List Nat} {cs : List V} {us : List Value} {κ : List V → Ans}, ERs ξ ρ es ms → keysN es = some ks → VRs ξ ρ cs us → putAll es cs κ = true →
    ∃ cs', κ cs' = true ∧ VRs ξ ρ cs' (setU ks ms us) ∧ ∀ a ∈ ks, a < cs.length
  | [], _, _, cs, us, κ, h, hk, hv, hp => by
    cases h
    simp only [keysN, Option.some.injEq] at hk
    subst hk
    exact ⟨cs, hp, hv, fun a h => by cases h⟩
  | (kv, v, b) :: es, m :: ms, ks, cs, us, κ, .cons h r, hk, hv, hp => by
    obtain ⟨a, ks', rfl, hk', rfl⟩ := keysN_cons hk
    replace hp : (frcV v fun v => put1 v cs a fun cs => putAll es cs κ) = true := hp
    rw [frcV_eq] at hp
    obtain ⟨hlt, hp⟩ := put1_t hp
    obtain ⟨cs', h1, h2, h3⟩ := putAll_t r hk' (hv.set h.val a) hp
    refine ⟨cs', h1, h2, fun x hx => ?_⟩
    rcases List.mem_cons.1 hx with rfl | hx
    · exact hlt
    · have := h3 x hx
      rwa [List.length_set] at this
theorem setU_get : ∀ {ks : List Nat} {ms : List MapEntry} {us : List Value}, ms.map (·.key) = ks.map (fun a => Value.int .i64 (.ofNat a)) → ks.Nodup → (∀ a ∈ ks, a < us.length) → ∀ i, i < us.length → (setU ks ms us)[i]? = match fOf ms (i : Int) with | some v => some v | none => us[i]?
  | [], ms, us, hk, _, _, i, hi => by
    have : ms = [] := by simpa using hk
    subst this
    rfl
  | a :: ks, [], us, hk, _, _, i, hi => by simp at hk
  | a :: ks, m :: ms, us, hk, hn, hlt, i, hi => by
    simp only [List.map_cons, List.cons.injEq] at hk
    obtain ⟨hka, hk⟩ := hk
    obtain ⟨hna, hn⟩ := List.nodup_cons.1 hn
    have ih := setU_get (us := us.set a m.val) hk hn (fun x hx => by rw [List.length_set]; exact hlt x (List.mem_cons_of_mem _ hx)) i (by rwa [List.length_set])
    have hf : fOf (m :: ms) (i : Int) = if a = i then some m.val else fOf ms (i : Int) := by
      unfold fOf
      rw [List.find?_cons, keyIs_int hka]
      by_cases e : a = i
      · subst e; simp
      · have h0 : ((i : Int) == Int.ofNat a) = false := by simp; omega
        rw [h0, if_neg e]
    simp only [setU]
    rw [ih, hf]
    by_cases e : a = i
    · subst e
      have hno : fOf ms (a : Int) = none := by
        unfold fOf
        rw [Option.map_eq_none_iff, List.find?_eq_none]
        intro x hx hk1
        obtain ⟨j, hj⟩ := List.getElem?_of_mem hx
        have := congrArg (fun l => l[j]?) hk
        simp only [List.getElem?_map, hj, Option.map_some] at this
        cases h2 : ks[j]? with
        | none => rw [h2] at this; simp at this
        | some a' =>
          rw [h2] at this
          simp only [Option.map_some, Option.some.injEq] at this
          rw [keyIs_int this] at hk1
          have : a' = a := by simp at hk1; omega
          subst this
          exact hna (List.mem_of_getElem? h2)
      rw [hno, if_pos rfl]
      simp only
      rw [List.getElem?_set_self hi]
    · rw [if_neg e]
      cases fOf ms (i : Int) with
      | some v => rfl
      | none => simp only; rw [List.getElem?_set_ne e]
theorem star_add {H : HP} {a : Hp} {b : Nat} {ob : Obj} (h : H.p a) (hb : a b = none) : (H * po b ob).p (fun x => if x = b then some (ob, false) else a x) := by
  refine ⟨a, fun x => if x = b then some (ob, false) else none, fun x => ?_, fun x ob' r h => ⟨r, ?_, fun h => h⟩, h, by simp [po]⟩
  · by_cases e : x = b
    · subst e; exact .inl hb
    · right; left; simp [e]
  · by_cases e : x = b
    · subst e
      simp only [Hp.un, hb, Option.none_or, if_true] at h
      simpa using h
    · simp only [Hp.un, e, if_false, Option.or_none] at h
      simpa [e] using h
theorem po_pc {b : Nat} {cs : List Value} {e : TypeId} : Ent (po b (.cells cs.toArray e)) (pc b cs) := fun o h => ⟨e, h⟩
theorem flushK_ok {e : En} {e' : Ending} {κ : V → St → Ans} {R : Ending → World → Prop} (hk : flushK κ e σ = true) (hR : Rel Tryz.prog W ξ ρ σ w) (hx : NR ξ ρ e e')
    (hκ : ∀ v σ' ρ' u w', κ v σ' = true → ρ.le ρ' → Rel Tryz.prog W ξ ρ' σ' w' → VR ξ ρ' v u → R (.returned u) w') : RetPost encF (fun x w' => flushR x (fun t w' => R (.returned (.int .i64 t)) w') w') e' w := by
  unfold flushK at hk
  split at hk
  case h_3 => cases hk
  case h_1 a =>
    obtain ⟨m, rfl, hk⟩ := natC_no hk
    cases hx with | r hv => ?_
    cases hv with | t hv => ?_
    cases hv with | cons h1 hv => ?_
    cases hv with | cons h2 hv => ?_
    cases hv
    cases h1
    cases h2
    refine ⟨(none, Int.ofNat (m + 1)), rfl, ?_⟩
    have e : flushR (none, Int.ofNat (m + 1)) = pureM (Int.ofNat (m + 1)) := if_neg (by simp; omega)
    show flushR (none, Int.ofNat (m + 1)) _ w
    rw [e]
    exact hκ _ σ ρ _ w hk ρ.le_refl hR (.n _)
  case h_2 d =>
  split at hk
  case h_2 => cases hk
  case h_1 li n m v3 v4 hd =>
  split at hk
  case h_2 => cases hk
  case h_1 cs es clk hli hm =>
  split at hk
  case h_2 => cases hk
  case h_1 ks hkeys hchk =>
  split at hk
  case h_2 => cases hk
  case h_1 hasc =>
  simp only [Bool.and_eq_true] at hchk
  obtain ⟨hval, hborn, hlen⟩ := hchk
  have hlen := Nat.eq_of_beq_eq_true hlen
  cases hx with | r hv => ?_
  cases hv with | t hv => ?_
  cases hv with | cons h1 hv => ?_
  cases hv with | cons h2 hv => ?_
  cases hv
  cases h2
  cases h1 with | @p _ _ b c hρd => ?_
  -- what is there
  have hobd := hR.ob d _ hρd
  rw [hd] at hobd
  generalize eb : w.heap[(b, c).1]? = xb at hobd
  cases hobd with | @c _ usd elemd hvd honed => ?_
  cases hvd with | cons hq hvd => ?_
  cases hvd with | cons hmp hvd => ?_
  cases hvd with | @cons _ u3 _ _ hv3 hvd => ?_
  cases hvd with | @cons _ u4 _ _ hv4 hvd => ?_
  cases hvd
  cases hq with | @q _ _ lb cap hρl hnc => ?_
  cases hmp with | @m _ mb cm hρm => ?_
  simp only at eb
  have hobl := hR.ob li _ hρl
  rw [hli] at hobl
  generalize el : w.heap[(lb, cap).1]? = xl at hobl
  cases hobl with | @e _ us rest _ eleml hvl honel hll => ?_
  simp only at el hll
  have hobm := hR.ob m _ hρm
  rw [hm] at hobm
  generalize em : w.heap[(mb, cm).1]? = xm at hobm
  cases hobm with | @m _ ms _ hms => ?_
  simp only at em
  obtain ⟨i1, i2, i3, i4, i5⟩ := entries hms hkeys hval hborn
  have hnd : ks.Nodup := (sortN_perm ks).nodup_iff.1 ((ascN_t hasc).imp fun h => by omega)
  obtain ⟨hM, hmem⟩ := mapOk_of i1 hnd i3 fun e he => (i4 e he).2
  obtain ⟨cs', hk, hvs', hlt⟩ := putAll_t hms hkeys hvl hk
  have hcl : cs.length = us.length := hvl.length
  -- apart
  have hbl : b ≠ lb := fun e => by
    have := hR.inj d li _ _ hρd hρl e (by rw [hd]; simp) (by rw [hli]; simp)
    rw [this, hli] at hd
    cases hd
  have hbm : b ≠ mb := fun e => by subst e; rw [eb] at em; cases em
  have hlm : lb ≠ mb := fun e => by subst e; rw [el] at em; cases em
  let obl : Obj := .cells (us ++ rest).toArray eleml
  let obb : Obj := .cells [Value.slice (some ⟨lb, 0, none⟩) n cap, .map (some mb), u3, u4].toArray elemd
  let obm : Obj := .map ms.toArray clk
  let a0 : Hp := fun x => if x = lb then some (obl, false) else Hp.nil x
  let a1 : Hp := fun x => if x = b then some (obb, false) else a0 x
  let a : Hp := fun x => if x = mb then some (obm, false) else a1 x
  let g : Fr := ⟨fun x => if x = lb then none else if x = b then none else if x = mb then none else (w.heap[x]?).map fun ob => (ob, false), w.os, w.output⟩
  have hok1 : Hp.ok a w := fun x ob r h => by
    simp only [a, a1, a0, Hp.nil] at h
    split at h
    · rename_i e; subst e; cases h; exact em
    · split at h
      · rename_i e; subst e; cases h; exact eb
      · split at h
        · rename_i e; subst e; cases h; exact el
        · cases h
  have hok2 : Hp.ok g.hp w := fun x ob r h => by
    simp only [g] at h
    split at h
    · cases h
    · split at h
      · cases h
      · split at h
        · cases h
        · simp only [Option.map_eq_some_iff, Prod.mk.injEq] at h
          obtain ⟨ob', h, rfl, _⟩ := h
          exact h
  have hown : Own w a g := ⟨fun x => by
    by_cases h1 : x = lb
    · right; left; simp [g, h1]
    · by_cases h2 : x = b
      · right; left; simp [g, h2]
      · by_cases h3 : x = mb
        · right; left; simp [g, h3]
        · left; simp [a, a1, a0, Hp.nil, h1, h2, h3], hok1, hok2, rfl, rfl⟩
  let ls : Slc := ⟨some ⟨lb, 0, none⟩, n, cap⟩
  have hpre : (own 1 ls us * pc b [vS ls, .map (some mb), u3, u4] * po mb obm).p a := by
    have q0 : (emp * po lb obl).p a0 := star_add (a := Hp.nil) trivial rfl
    have q1 : (emp * po lb obl * po b obb).p a1 := star_add q0 (by simp [a0, Hp.nil, hbl])
    have q2 : (emp * po lb obl * po b obb * po mb obm).p a := star_add q1 (by simp [a1, a0, Hp.nil, Ne.symm hbm, Ne.symm hlm])
    refine Ent.starl (Ent.star ?_ po_pc) _ q2
    rw [emp_star]
    refine ent_ex rest (ent_prr ⟨rfl, ?_, ?_, hnc⟩ po_pc)
    · show us.length = n * 1; omega
    · show us.length + rest.length = cap * 1; omega
  refine ⟨(some ⟨b, 0, none⟩, Int.ofNat 0), rfl, ?_⟩
  have key := flush_rest (g := g) (p := b) (mb := mb) (clk := clk) (x3 := u3) (x4 := u4) (ls := ls) (us := us) (es := ms.toArray) (f := fOf ms) hM (fun j v h => by
    obtain ⟨e, he, hke, rfl⟩ := (hM.find j v).1 h
    obtain ⟨v0, h1, h2⟩ := i2 e he
    obtain ⟨a, ha, rfl⟩ := (hmem j).1 (by rw [h]; rfl)
    have := hlt a ha
    exact ⟨valS_t h1 h2, by show (0 : Int) ≤ (a : Int); omega, by show (a : Int) < _; omega⟩) (by show n = us.length; omega)
  refine key w a _ hown hpre fun t w' a' hown' hq => ?_
  obtain ⟨us', hq⟩ := hq
  obtain ⟨ht, hup⟩ := ent_left _ _ _ hq
  have hq := ent_right _ _ _ hq
  have hmo := ent_right _ _ _ hq
  have hq := ent_left _ _ _ hq
  have hpc := ent_right _ _ _ hq
  have hown3 := ent_left _ _ _ hq
  obtain ⟨hdis, hok, hokg, hsame⟩ := hown'
  subst ht
  have hus : us' = setU ks ms us := by
    refine List.ext_getElem? fun i => ?_
    by_cases hi : i < us.length
    · rw [hup.2 i hi, setU_get i1 hnd (fun a ha => by have := hlt a ha; omega) i hi]
      cases fOf ms (i : Int) <;> rfl
    · rw [List.getElem?_eq_none (by rw [hup.1]; omega), List.getElem?_eq_none (by rw [setU_length]; omega)]
  obtain ⟨rest', h3⟩ := hown3
  have hfact := ent_left _ _ a' h3
  obtain ⟨el3, hcell⟩ := ent_right _ _ a' h3
  obtain ⟨el4, hcd⟩ := hpc
  have hwl : w'.heap[lb]? = some (.cells (us' ++ rest').toArray el3) := hok _ _ _ hcell
  have hwb : w'.heap[b]? = some (.cells [Value.slice (some ⟨lb, 0, none⟩) n cap, .map (some mb), u3, u4].toArray el4) := hok _ _ _ hcd
  have hwm : w'.heap[mb]? = some (.map #[] clk) := hok _ _ _ hmo
  have hold : ∀ (x : Nat) ob, x ≠ lb → x ≠ b → x ≠ mb → w.heap[x]? = some ob → w'.heap[x]? = some ob := fun x ob h1 h2 h3 hx => hokg x ob false (by simp [g, h1, h2, h3, hx])
  have hsz : w.heap.size ≤ w'.heap.size := by
    rcases Nat.lt_or_ge w'.heap.size w.heap.size with hlt | hge
    · exfalso
      have hx := Array.getElem?_eq_getElem hlt
      have hn : w'.heap[w'.heap.size]? = none := by simp
      by_cases x1 : w'.heap.size = lb
      · rw [x1, hwl] at hn; cases hn
      · by_cases x2 : w'.heap.size = b
        · rw [x2, hwb] at hn; cases hn
        · by_cases x3 : w'.heap.size = mb
          · rw [x3, hwm] at hn; cases hn
          · rw [hold _ _ x1 x2 x3 hx] at hn; cases hn
    · exact hge
  -- the new state
  obtain ⟨σ1, s1, s2, s3, s4⟩ := setO_spec li (.c cs' 1) σ
  rw [s1] at hk
  obtain ⟨σ2, t1, t2, t3, t4⟩ := setO_spec m (.m [] clk) σ1
  rw [t1] at hk
  have hml : m ≠ li := fun e => by rw [e, hli] at hm; cases hm
  have oli : obj li σ2 = .c cs' 1 := by rw [t4 li (Ne.symm hml), s3]
  have oth : ∀ j, j ≠ li → j ≠ m → obj j σ2 = obj j σ := fun j h1 h2 => by rw [t4 j h2, s4 j h1]
  have live : ∀ j, obj j σ2 ≠ .no → obj j σ ≠ .no := fun j h => by
    by_cases e1 : j = li
    · rw [e1, hli]; simp
    · by_cases e2 : j = m
      · rw [e2, hm]; simp
      · rw [← oth j e1 e2]; exact h
  refine hκ _ σ2 ρ _ w' hk ρ.le_refl ⟨fun j p hj => ?_, fun j j' p q hp hq he h1 h2 => hR.inj j j' p q hp hq he (live j h1) (live j' h2), fun j p hj => ?_, fun x ob hx => ?_, ?_, ?_⟩ (.n 0)
  · have := hR.dom j p hj
    rw [t2, s2]
    exact ⟨this.1, this.2.1, by omega⟩
  · by_cases e1 : j = li
    · subst e1
      rw [hρl] at hj
      cases hj
      rw [oli, hwl]
      subst hus
      refine .e hvs' (fun u hu => ?_) (by have := hfact.2.2.1; simp only [setU_length] at this ⊢; exact this)
      have hcell1 : ∀ (ks : List Nat) (ms : List MapEntry) (us : List Value), (∀ e ∈ ms, e.val.oneCell' = true) → (∀ u ∈ us, u.oneCell' = true) → ∀ u ∈ setU ks ms us, u.oneCell' = true := by
        intro ks
        induction ks with
        | nil => intro ms us _ h; exact h
        | cons a ks ih =>
          intro ms us h1 h2
          cases ms with
          | nil => exact h2
          | cons m ms =>
            refine ih ms _ (fun e he => h1 e (List.mem_cons_of_mem _ he)) fun u hu => ?_
            rcases List.mem_or_eq_of_mem_set hu with hu | rfl
            · exact h2 u hu
            · exact h1 m (by simp)
      refine hcell1 ks ms us (fun e he => ?_) honel u hu
      obtain ⟨v0, h1, h2⟩ := i2 e he
      obtain ⟨s, hs⟩ := valS_t h1 h2
      rw [hs]
      rfl
    · by_cases e2 : j = m
      · subst e2
        rw [hρm] at hj
        cases hj
        rw [t3, hwm]
        exact .m .nil
      · rw [oth j e1 e2]
        by_cases hno : obj j σ = .no
        · rw [hno]; exact .no _
        · have hob := hR.ob j p hj
          have x1 : p.1 ≠ lb := fun e => e1 (hR.inj j li p _ hj hρl e hno (by rw [hli]; simp))
          have x3 : p.1 ≠ mb := fun e => e2 (hR.inj j m p _ hj hρm e hno (by rw [hm]; simp))
          by_cases x2 : p.1 = b
          · rw [x2, eb] at hob
            rw [x2, hwb]
            exact hob.elem
          · have hpl := (hR.dom j p hj).2.2
            rw [Array.getElem?_eq_getElem hpl] at hob
            rw [hold _ _ x1 x2 x3 (Array.getElem?_eq_getElem hpl)]
            exact hob
  · have hw := hR.frame x ob hx
    refine hold x ob (fun e => ?_) (fun e => ?_) (fun e => ?_) hw
    · subst e; have := (hR.dom li _ hρl).2.1; rw [hx] at this; cases this
    · subst e; have := (hR.dom d _ hρd).2.1; rw [hx] at this; cases this
    · subst e; have := (hR.dom m _ hρm).2.1; rw [hx] at this; cases this
  · exact hsame.os.trans hR.os
  · exact hsame.out.trans hR.out
theorem body108 : ∃ c, Tryz.f108.body = some c := Option.isSome_iff_exists.1 (by kernel_rfl)
theorem body184 : ∃ c, Tryz.f184.body = some c := Option.isSome_iff_exists.1 (by kernel_rfl)
theorem flushS_ok {E : Env} (HE : EnvOK Tryz.prog ξ E) {i : Id} {o a : Nat} {us : List Value} {κ : V → St → Ans} {R : Ending → World → Prop} (h : flushS E (.p i o) (.n a) σ κ = true) (hR : Rel Tryz.prog W ξ ρ σ w) (hv : VRs ξ ρ [.p i o, .n a] us)
    (hκ : ∀ v σ' ρ' u w', κ v σ' = true → ρ.le ρ' → Rel Tryz.prog W ξ ρ' σ' w' → VR ξ ρ' v u → R (.returned u) w') : CallsX Tryz.prog 108 us.toArray w R := by
  cases hv with | cons hp hv => ?_
  cases hv with | cons hn hv => ?_
  cases hv
  cases hn
  have hp0 := hp
  cases hp with | @p _ _ b c hρ => ?_
  have key := sound HE (us := [.pointer (some ⟨b, o, none⟩), .int .i64 (.ofNat a), .int .i64 (.ofNat 0), .int .i64 (.ofNat 64)]) (R := RetPost encF (fun x w' => flushR x (fun t w' => R (.returned (.int .i64 t)) w') w')) hR
    (.cons hp0 (.cons (.n a) (.cons (.n 0) (.cons (.n 64) .nil)))) h (fun e σ' ρ' e' w' hk hle hR' hx => flushK_ok hk hR' hx fun v σ'' ρ'' u w'' h1 h2 h3 h4 => hκ v σ'' ρ'' u w'' h1 (hle.trans h2) h3 h4)
  obtain ⟨c108, hb108⟩ := body108
  obtain ⟨c184, hb184⟩ := body184
  have hcalls : Calls Tryz.prog 184 #[.pointer (some ⟨b, o, none⟩), .int .i64 (.ofNat a), .int .i64 0, .int .i64 64] w (RetPost encF fun x w' => flushR x (fun t w' => R (.returned (.int .i64 t)) w') w') := by
    rcases key with ⟨_, h⟩ | ⟨v, w', h, _⟩
    · exact h
    · rw [enter_text (fn := Tryz.f184) (by kernel_rfl) hb184 (by kernel_rfl)] at h
      cases h
  refine .inl ⟨enter_text (fn := Tryz.f108) (by kernel_rfl) hb108 (by kernel_rfl), ?_⟩
  refine (flushF_sim (some ⟨b, o, none⟩) (.ofNat a) (fun t w' => R (.returned (.int .i64 t)) w') w hcalls).mono fun e w' h => ?_
  cases e with
  | returned v => obtain ⟨t, rfl, h⟩ := h; exact h
  | panicked c => exact h.elim
  | outgrown => exact h.elim
theorem smF_ok {s : Sm} (hs : ∀ W, SmOK Tryz.prog W ξ s) : ∀ W, SmOK Tryz.prog W ξ (smF s) := by
  intro W f vs σ r hr κ h ρ w us R hR hv hκ
  unfold smF at hr
  split at hr
  case h_2 => exact hs W f vs σ r hr κ h ρ w us R hR hv hκ
  rename_i e
  split at hr
  case h_2 => cases hr
  simp only [Option.some.injEq] at hr
  subst hr
  have := Nat.eq_of_beq_eq_true e
  rw [this]
  exact flushS_ok (E0_ok hs) h hR hv hκ
end
end Go.Ex
namespace Go.Ex
open Go.Proofs
noncomputable def smS0 : Sm := smF smS
theorem smS0_ok {ξ : Nat → Int} : ∀ W, SmOK Tryz.prog W ξ smS0 := smF_ok smS_ok
end Go.Ex
