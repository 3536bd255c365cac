/-
  A part of the proof: predicate transformers over the model, and a separation logic over them; what functions of the program do.
-/
import Derived.Test.YtldmeimebebllaaPart0
set_option linter.unusedSimpArgs false
namespace Go.Proofs.Ytldmeimebebllaa
abbrev fid_bank_Bank_disks : Nat := 69
abbrev fid_maps_Keys_m_c1 : Nat := 116
abbrev fid_stripe_lacks_c1 : Nat := 128
abbrev fid_stripe_lacks_c1_c1 : Nat := 130
abbrev fid_stripe_rows_c1 : Nat := 119
open Go.Mo
set_option linter.unusedVariables false
def device_New (p0_disks : Int) (p1_sectors : Int) : M ((Option Addr) × Int) :=
  bindM (if (decide (p0_disks < 1)) = true then
    pureM true
  else
    pureM (decide (p0_disks > 17))) fun r1 =>
  bindM (if (r1) = true then
    pureM true
  else
    pureM (decide (p1_sectors < 1))) fun r2 =>
  bindM (if (r2) = true then
    pureM true
  else
    pureM (decide (p1_sectors > 4096))) fun r3 =>
  (if (r3) = true then
  pureM (none, 10)
  else
  bindM (allocM [(.slice none 0 0), (.int .i64 p1_sectors), (.int .i64 (-1)), (.bool false)]) fun x24 =>
    loopM (fun (s4 : (Int)) =>
    (if (decide (s4 < p0_disks)) = true then
      bindM (newO (.map #[] 0)) fun x28 =>
        bindM (allocM [(.slice none 0 0), (.map (some x28)), (.bool false), (.int .i64 (-1))]) fun x30 =>
        loopM (fun (s5 : (Int)) =>
        (if (decide (s5 < p1_sectors)) = true then
          regionM fun S6 =>
            bindM (ldI S6 vS x30) fun x38 =>
            bindM (stepI S6 (allocM (List.replicate 64 (.int .u8 0)))) fun x39 =>
            bindM (stepI S6 (allocM [(.slice (some x39) 64 64)])) fun x40 =>
            bindM (appendM [(.slice none 0 0)] 24 x38 ⟨some x40, 1, 1⟩) fun x41 =>
            bindM (st x30 (.slice x41.base x41.len x41.cap)) fun _ =>
            pureM (.inl (w64 (s5 + 1)))
          else
          mapR (bindM (ld vS x24) fun x49 =>
            bindM (allocM [(.pointer (some x30))]) fun x51 =>
            bindM (appendM [(.pointer none)] 8 x49 ⟨some x51, 1, 1⟩) fun x52 =>
            bindM (st x24 (.slice x52.base x52.len x52.cap)) fun _ =>
            pureM (.inl (w64 (s4 + 1)))))) 0
      else
      mapR (pureM (some x24, 0)))) 0)

def geo_within (p0_n : Int) (p1_from : Int) (p2_to : Int) : M Bool :=
  bindM (if (decide (p1_from ≤ p0_n)) = true then
    pureM (decide (p0_n ≤ p2_to))
  else
    pureM false) fun r1 =>
  pureM r1

def geo_others (p0_g : (Int × Int × Int)) : M Int :=
  bindM (allocM [(.int .i64 p0_g.1), (.int .i64 p0_g.2.1), (.int .i64 p0_g.2.2)]) fun x1 =>
  bindM (ld (Value.int .i64) (Addr.add x1 2)) fun x4 =>
  pureM (w64 (1 + (w64 (Int.tdiv x4 8))))

def geo_places (p0_g : (Int × Int × Int)) : M Int :=
  bindM (allocM [(.int .i64 p0_g.1), (.int .i64 p0_g.2.1), (.int .i64 p0_g.2.2)]) fun x1 =>
  bindM (ld (Value.int .i64) (Addr.add x1 1)) fun x4 =>
  bindM (ld (Value.int .i64) x1) fun x6 =>
  pureM (w64 ((w64 (x4 * (w64 (x6 - 1)))) - 1))

def geo_Right (p0_g : (Int × Int × Int)) : M Bool :=
  bindM (allocM [(.int .i64 p0_g.1), (.int .i64 p0_g.2.1), (.int .i64 p0_g.2.2)]) fun x1 =>
  regionM fun S1 =>
  bindM (ldI S1 (Value.int .i64) x1) fun x4 =>
  bindM (stepI S1 (geo_within x4 3 16)) fun x5 =>
  (if (x5) = true then
    bindM (ldI S1 (Value.int .i64) (Addr.add x1 1)) fun x8 =>
      bindM (stepI S1 (geo_within x8 1 4)) fun x9 =>
      (if (x9) = true then
        bindM (ldI S1 (Value.int .i64) (Addr.add x1 2)) fun x13 =>
          bindM (stepI S1 (geo_within x13 12 64)) fun x14 =>
          (if (x14) = true then
            bindM (ldAI S1 (fun y : (Int × Int × Int) => [(.int .i64 y.1), (.int .i64 y.2.1), (.int .i64 y.2.2)]) x1) fun x17 =>
              bindM (ldAI S1 (fun y : (Int × Int × Int) => [(.int .i64 y.1), (.int .i64 y.2.1), (.int .i64 y.2.2)]) x1) fun x19 =>
              bindM (stepI S1 (geo_others (x17.1, x17.2.1, x17.2.2))) fun x18 =>
              bindM (stepI S1 (geo_places (x19.1, x19.2.1, x19.2.2))) fun x20 =>
              pureM (decide ((w64 (x18 * x20)) ≥ 8))
          else
            pureM false)
      else
        pureM false)
  else
    pureM false)

def geo_Sectors (p0_g : (Int × Int × Int)) : M Int :=
  bindM (allocM [(.int .i64 p0_g.1), (.int .i64 p0_g.2.1), (.int .i64 p0_g.2.2)]) fun x1 =>
  bindM (ldA (fun y : (Int × Int × Int) => [(.int .i64 y.1), (.int .i64 y.2.1), (.int .i64 y.2.2)]) x1) fun x3 =>
  bindM (geo_Right (x3.1, x3.2.1, x3.2.2)) fun x4 =>
  (if (!x4) = true then
  pureM 0
  else
  bindM (ld (Value.int .i64) (Addr.add x1 2)) fun x7 =>
    bindM (ld (Value.int .i64) (Addr.add x1 1)) fun x9 =>
    pureM (w64 (5 + (w64 (x7 * x9)))))

def device_Rack_Size (p0_r : (Option Addr)) : M (Int × Int) :=
  regionM fun S1 =>
  bindM (nilM p0_r) fun x5 =>
  bindM (ldI S1 vS x5) fun x7 =>
  bindM (nilM p0_r) fun x10 =>
  bindM (ldI S1 (Value.int .i64) (Addr.add x10 1)) fun x12 =>
  pureM (((x7.len : Nat) : Int), x12)

def bank_fits (p0_g : (Int × Int × Int)) (p1_m : (Int × Int × Int)) : M Bool :=
  bindM (allocM [(.int .i64 p0_g.1), (.int .i64 p0_g.2.1), (.int .i64 p0_g.2.2)]) fun x2 =>
  bindM (allocM [(.int .i64 p1_m.1), (.int .i64 p1_m.2.1), (.int .i64 p1_m.2.2)]) fun x3 =>
  bindM (ld (Value.int .i64) (Addr.add x3 2)) fun x6 =>
  (if (x6 == 0) = true then
  pureM true
  else
  bindS ((if (x6 == 1) = true then
      pureM (.inl (x6 == 1))
      else
      pureM (.inl (x6 == 2)))) fun (b1 : (Bool)) =>
    (if (b1) = true then
    bindM (ld (Value.int .i64) (Addr.add x3 1)) fun x13 =>
      bindM (if (decide (x13 ≥ 0)) = true then
        bindM (ld (Value.int .i64) (Addr.add x3 1)) fun x17 =>
          bindM (ld (Value.int .i64) x2) fun x19 =>
          pureM (decide (x17 < x19))
      else
        pureM false) fun r2 =>
      pureM r2
    else
    pureM false))

def bank_Open (p0_r : (Option Addr)) (p1_g : (Int × Int × Int)) (p2_m : (Int × Int × Int)) : M ((Option Addr) × Int) :=
  bindM (allocM [(.int .i64 p1_g.1), (.int .i64 p1_g.2.1), (.int .i64 p1_g.2.2)]) fun x4 =>
  bindM (allocM [(.int .i64 p2_m.1), (.int .i64 p2_m.2.1), (.int .i64 p2_m.2.2)]) fun x5 =>
  bindM (device_Rack_Size p0_r) fun x12 =>
  bindM (ldA (fun y : (Int × Int × Int) => [(.int .i64 y.1), (.int .i64 y.2.1), (.int .i64 y.2.2)]) x4) fun x15 =>
  bindM (geo_Right (x15.1, x15.2.1, x15.2.2)) fun x16 =>
  bindM (if (!x16) = true then
    pureM true
  else
    bindM (ld (Value.int .i64) x4) fun x21 =>
      pureM (x12.1 != (w64 (x21 + 1)))) fun r1 =>
  bindM (if (r1) = true then
    pureM true
  else
    bindM (ldA (fun y : (Int × Int × Int) => [(.int .i64 y.1), (.int .i64 y.2.1), (.int .i64 y.2.2)]) x4) fun x27 =>
      bindM (geo_Sectors (x27.1, x27.2.1, x27.2.2)) fun x28 =>
      pureM (x12.2 != x28)) fun r2 =>
  bindM (if (r2) = true then
    pureM true
  else
    bindM (ldA (fun y : (Int × Int × Int) => [(.int .i64 y.1), (.int .i64 y.2.1), (.int .i64 y.2.2)]) x4) fun x32 =>
      bindM (ldA (fun y : (Int × Int × Int) => [(.int .i64 y.1), (.int .i64 y.2.1), (.int .i64 y.2.2)]) x5) fun x33 =>
      bindM (bank_fits (x32.1, x32.2.1, x32.2.2) (x33.1, x33.2.1, x33.2.2)) fun x34 =>
      pureM (!x34)) fun r3 =>
  (if (r3) = true then
  pureM (none, 10)
  else
  bindM (ldA (fun y : (Int × Int × Int) => [(.int .i64 y.1), (.int .i64 y.2.1), (.int .i64 y.2.2)]) x4) fun x38 =>
    bindM (ldA (fun y : (Int × Int × Int) => [(.int .i64 y.1), (.int .i64 y.2.1), (.int .i64 y.2.2)]) x5) fun x39 =>
    bindM (allocM [(.pointer p0_r), (.int .i64 x38.1), (.int .i64 x38.2.1), (.int .i64 x38.2.2), (.int .i64 x39.1), (.int .i64 x39.2.1), (.int .i64 x39.2.2)]) fun x41 =>
    pureM (some x41, 0))

def law06_Small  : M (Int × Int × Int) :=
  bindM (allocM [(.int .i64 0), (.int .i64 0), (.int .i64 0)]) fun x0 =>
  bindM (stA x0 [(.int .i64 3), (.int .i64 3), (.int .i64 12)]) fun _ =>
  bindM (ldA (fun y : (Int × Int × Int) => [(.int .i64 y.1), (.int .i64 y.2.1), (.int .i64 y.2.2)]) x0) fun r0 =>
  pureM (r0.1, r0.2.1, r0.2.2)

def device_Rack_disk (p0_r : (Option Addr)) (p1_k : Int) (p2_sector : Int) : M ((Option Addr) × Int) :=
  bindM (nilM p0_r) fun x9 =>
  bindM (ld Value.bool (Addr.add x9 3)) fun x11 =>
  (if (x11) = true then
  pureM (none, 12)
  else
  bindM (if (decide (p1_k < 0)) = true then
      pureM true
    else
      bindM (nilM p0_r) fun x17 =>
        bindM (ld vS x17) fun x19 =>
        pureM (decide (p1_k ≥ ((x19.len : Nat) : Int)))) fun r1 =>
    bindM (if (r1) = true then
      pureM true
    else
      pureM (decide (p2_sector < 0))) fun r2 =>
    bindM (if (r2) = true then
      pureM true
    else
      bindM (nilM p0_r) fun x30 =>
        bindM (ld (Value.int .i64) (Addr.add x30 1)) fun x32 =>
        pureM (decide (p2_sector ≥ x32))) fun r3 =>
    (if (r3) = true then
    pureM (none, 11)
    else
    bindM (nilM p0_r) fun x36 =>
      bindM (ld vS x36) fun x38 =>
      bindM (idxM x38 p1_k 1) fun x40 =>
      bindM (ld Value.pointer x40) fun x41 =>
      pureM (x41, 0)))

def slices_Clone_b (p0_s : Slc) : M Slc :=
  (if (p0_s.base.isNone) = true then
  pureM (⟨none, 0, 0⟩)
  else
  bindM (allocM []) fun x5 =>
    bindM (appendM [(.int .u8 0)] 1 ⟨some x5, 0, 0⟩ p0_s) fun x7 =>
    pureM x7)

def device_Rack_Read (p0_r : (Option Addr)) (p1_disk : Int) (p2_sector : Int) : M (Slc × Int) :=
  bindM (device_Rack_disk p0_r p1_disk p2_sector) fun x16 =>
  (if (x16.2 != 0) = true then
  pureM (⟨none, 0, 0⟩, x16.2)
  else
  bindM (nilM x16.1) fun x23 =>
    bindM (ld Value.bool (Addr.add x23 2)) fun x25 =>
    (if (x25) = true then
    pureM (⟨none, 0, 0⟩, 13)
    else
    bindM (nilM x16.1) fun x28 =>
      bindM (ld Value.map (Addr.add x28 1)) fun x30 =>
      bindM (lookM vS (⟨none, 0, 0⟩) x30 p2_sector) fun x32 =>
      (if (x32.2) = true then
      bindM (slices_Clone_b x32.1) fun x37 =>
        pureM (x37, 0)
      else
      bindM (nilM x16.1) fun x39 =>
        bindM (ld vS x39) fun x41 =>
        bindM (idxM x41 p2_sector 1) fun x43 =>
        bindM (ld vS x43) fun x44 =>
        bindM (slices_Clone_b x44) fun x45 =>
        pureM (x45, 0))))

def device_Rack_call (p0_r : (Option Addr)) : M Bool :=
  bindM (nilM p0_r) fun x6 =>
  bindM (ld (Value.int .i64) (Addr.add x6 2)) fun x8 =>
  (if (x8 == 0) = true then
  bindM (nilM p0_r) fun x11 =>
    bindM (st (Addr.add x11 3) (.bool true)) fun _ =>
    pureM false
  else
  bindM (nilM p0_r) fun x15 =>
    bindM (ld (Value.int .i64) (Addr.add x15 2)) fun x17 =>
    bindM (nilM p0_r) fun x20 =>
    bindM (st (Addr.add x20 2) (.int .i64 (maxI (w64 (x17 - 1)) (-1)))) fun _ =>
    bindM (nilM p0_r) fun x23 =>
    bindM (ld vS x23) fun x25 =>
    loopM (fun (s1 : (Int)) =>
    (if (decide (s1 < ((x25.len : Nat) : Int))) = true then
      bindM (idxM x25 s1 1) fun x29 =>
        bindM (ld Value.pointer x29) fun x30 =>
        bindM (nilM x30) fun x33 =>
        bindM (ld Value.bool (Addr.add x33 2)) fun x35 =>
        bindM (if (x35) = true then
          pureM true
        else
          bindM (nilM x30) fun x38 =>
            bindM (ld (Value.int .i64) (Addr.add x38 3)) fun x40 =>
            pureM (x40 == 0)) fun r2 =>
        bindM (nilM x30) fun x43 =>
        bindM (st (Addr.add x43 2) (.bool r2)) fun _ =>
        bindM (nilM x30) fun x47 =>
        bindM (ld (Value.int .i64) (Addr.add x47 3)) fun x49 =>
        bindM (nilM x30) fun x52 =>
        bindM (st (Addr.add x52 3) (.int .i64 (maxI (w64 (x49 - 1)) (-1)))) fun _ =>
        pureM (.inl (w64 (s1 + 1)))
      else
      mapR (pureM true))) 0)

def device_Rack_counted (p0_r : (Option Addr)) (p1_k : Int) (p2_sector : Int) (p3_size : Int) : M ((Option Addr) × Int) :=
  bindM (device_Rack_disk p0_r p1_k p2_sector) fun x16 =>
  (if (x16.2 != 0) = true then
  pureM (none, x16.2)
  else
  (if (p3_size != 64) = true then
    pureM (none, 11)
    else
    bindM (device_Rack_call p0_r) fun x28 =>
      (if (!x28) = true then
      pureM (none, 12)
      else
      bindM (nilM x16.1) fun x32 =>
        bindM (ld Value.bool (Addr.add x32 2)) fun x34 =>
        (if (x34) = true then
        pureM (none, 13)
        else
        pureM (x16.1, 0)))))

def device_Rack_Write (p0_r : (Option Addr)) (p1_disk : Int) (p2_sector : Int) (p3_b : Slc) : M Int :=
  bindM (device_Rack_counted p0_r p1_disk p2_sector ((p3_b.len : Nat) : Int)) fun x17 =>
  (if (x17.2 == 0) = true then
  regionM fun S1 =>
    bindM (nilM x17.1) fun x23 =>
    bindM (ldI S1 Value.map (Addr.add x23 1)) fun x25 =>
    bindM (stepI S1 (slices_Clone_b p3_b)) fun x28 =>
    bindM (updM x25 p2_sector (.slice x28.base x28.len x28.cap)) fun _ =>
    pureM x17.2
  else
  pureM x17.2)

def bank_Bank_disk (p0_b : (Option Addr)) (p1_slot : Int) : M (Int × Bool) :=
  bindM (if (decide (p1_slot < 0)) = true then
    pureM true
  else
    bindM (nilM p0_b) fun x11 =>
      bindM (ld (Value.int .i64) (Addr.add x11 1)) fun x14 =>
      pureM (decide (p1_slot ≥ x14))) fun r1 =>
  (if (r1) = true then
  pureM (0, false)
  else
  bindM (nilM p0_b) fun x18 =>
    bindM (ld (Value.int .i64) (Addr.add (Addr.add x18 4) 2)) fun x21 =>
    bindM (if (x21 != 0) = true then
      bindM (nilM p0_b) fun x25 =>
        bindM (ld (Value.int .i64) (Addr.add (Addr.add x25 4) 1)) fun x28 =>
        pureM (x28 == p1_slot)
    else
      pureM false) fun r2 =>
    (if (r2) = true then
    bindM (nilM p0_b) fun x33 =>
      bindM (ld (Value.int .i64) (Addr.add x33 1)) fun x36 =>
      pureM (x36, true)
    else
    pureM (p1_slot, true)))

def bank_Bank_Write (p0_b : (Option Addr)) (p1_slot : Int) (p2_sector : Int) (p3_data : Slc) : M Int :=
  bindM (bank_Bank_disk p0_b p1_slot) fun x14 =>
  (if (!x14.2) = true then
  pureM 11
  else
  bindM (nilM p0_b) fun x20 =>
    bindM (ld Value.pointer x20) fun x22 =>
    bindM (device_Rack_Write x22 x14.1 p2_sector p3_data) fun x26 =>
    pureM x26)

def device_Rack_Failed (p0_r : (Option Addr)) (p1_disk : Int) : M Bool :=
  bindM (if (decide (p1_disk ≥ 0)) = true then
    bindM (nilM p0_r) fun x10 =>
      bindM (ld vS x10) fun x12 =>
      pureM (decide (p1_disk < ((x12.len : Nat) : Int)))
  else
    pureM false) fun r1 =>
  bindM (if (r1) = true then
    bindM (nilM p0_r) fun x18 =>
      bindM (ld vS x18) fun x20 =>
      bindM (idxM x20 p1_disk 1) fun x22 =>
      bindM (ld Value.pointer x22) fun x23 =>
      bindM (nilM x23) fun x24 =>
      bindM (ld Value.bool (Addr.add x24 2)) fun x26 =>
      pureM x26
  else
    pureM false) fun r2 =>
  pureM r2

def bank_Bank_Bad (p0_b : (Option Addr)) : M Slc :=
  bindM (nilM p0_b) fun x8 =>
  bindM (ld (Value.int .i64) (Addr.add x8 1)) fun x11 =>
  loopM (fun (s1 : (Slc × Int)) =>
  (if (decide (s1.2 < x11)) = true then
    bindM (bank_Bank_disk p0_b s1.2) fun x18 =>
      bindM (nilM p0_b) fun x22 =>
      bindM (ld Value.pointer x22) fun x24 =>
      bindM (device_Rack_Failed x24 x18.1) fun x26 =>
      bindM (if (x26) = true then
        pureM true
      else
        bindM (nilM p0_b) fun x29 =>
          bindM (ld (Value.int .i64) (Addr.add (Addr.add x29 4) 2)) fun x32 =>
          bindM (if (x32 == 1) = true then
            bindM (nilM p0_b) fun x36 =>
              bindM (ld (Value.int .i64) (Addr.add (Addr.add x36 4) 1)) fun x39 =>
              pureM (x39 == s1.2)
          else
            pureM false) fun r3 =>
          pureM r3) fun r2 =>
      (if (r2) = true then
      bindM (allocM [(.int .i64 s1.2)]) fun x46 =>
        bindM (appendM [(.int .i64 0)] 8 s1.1 ⟨some x46, 1, 1⟩) fun x47 =>
        pureM (.inl (x47, w64 (s1.2 + 1)))
      else
      pureM (.inl (s1.1, w64 (s1.2 + 1))))
    else
    mapR (pureM s1.1))) (⟨none, 0, 0⟩, 0)

def bank_Bank_Geo (p0_b : (Option Addr)) : M (Int × Int × Int) :=
  bindM (allocM [(.int .i64 0), (.int .i64 0), (.int .i64 0)]) fun x2 =>
  bindM (nilM p0_b) fun x4 =>
  bindM (ldA (fun y : (Int × Int × Int) => [(.int .i64 y.1), (.int .i64 y.2.1), (.int .i64 y.2.2)]) (Addr.add x4 1)) fun x6 =>
  bindM (stA x2 [(.int .i64 x6.1), (.int .i64 x6.2.1), (.int .i64 x6.2.2)]) fun _ =>
  bindM (ldA (fun y : (Int × Int × Int) => [(.int .i64 y.1), (.int .i64 y.2.1), (.int .i64 y.2.2)]) x2) fun r2 =>
  pureM (r2.1, r2.2.1, r2.2.2)

def law06_alive  : M Bool :=
  bindM (law06_Small ) fun x11 =>
  bindM (allocM [(.int .i64 0), (.int .i64 0), (.int .i64 0)]) fun x1 =>
  bindM (stA x1 [(.int .i64 x11.1), (.int .i64 x11.2.1), (.int .i64 x11.2.2)]) fun _ =>
  bindM (ldA (fun y : (Int × Int × Int) => [(.int .i64 y.1), (.int .i64 y.2.1), (.int .i64 y.2.2)]) x1) fun x13 =>
  bindM (geo_Sectors (x13.1, x13.2.1, x13.2.2)) fun x14 =>
  bindM (device_New 4 x14) fun x15 =>
  bindM (if (x15.2 != 0) = true then
    pureM true
  else
    pureM ((x15.1).isNone)) fun r1 =>
  (if (r1) = true then
  pureM false
  else
  bindM (ldA (fun y : (Int × Int × Int) => [(.int .i64 y.1), (.int .i64 y.2.1), (.int .i64 y.2.2)]) x1) fun x26 =>
    bindM (bank_Open x15.1 (x26.1, x26.2.1, x26.2.2) (0, 1, 2)) fun x28 =>
    bindS (regionM fun S8 =>
      (if (x28.2 != 0) = true then
        pureM (.inl true)
      else
        (if ((x28.1).isNone) = true then
            pureM (.inl true)
          else
            bindM (ldAI S8 (fun y : (Int × Int × Int) => [(.int .i64 y.1), (.int .i64 y.2.1), (.int .i64 y.2.2)]) x1) fun x40 =>
              bindM (stepI S8 (bank_Bank_Geo x28.1)) fun x39 =>
              pureM (.inl (!(eq3 (x39.1, x39.2.1, x39.2.2) (x40.1, x40.2.1, x40.2.2))))))) fun (b2 : (Bool)) =>
    (if (b2) = true then
    pureM false
    else
    bindM (allocM (List.replicate 64 (.int .u8 0))) fun x43 =>
      bindM (idxM ⟨some x43, 64, 64⟩ 0 1) fun x45 =>
      bindM (st x45 (.int .u8 5)) fun _ =>
      bindM (bank_Bank_Write x28.1 1 2 (⟨some x43, 64, 64⟩)) fun x48 =>
      bindM (device_Rack_Read x15.1 3 2) fun x51 =>
      bindM (device_Rack_Read x15.1 1 2) fun x56 =>
      bindM (if (x48 == 0) = true then
        pureM (((x51.1.len : Nat) : Int) == 64)
      else
        pureM false) fun r3 =>
      bindM (if (r3) = true then
        bindM (idxM x51.1 0 1) fun x68 =>
          bindM (ld (Value.int .u8) x68) fun x69 =>
          pureM (x69 == 5)
      else
        pureM false) fun r4 =>
      bindM (if (r4) = true then
        pureM (((x56.1.len : Nat) : Int) == 64)
      else
        pureM false) fun r5 =>
      bindM (if (r5) = true then
        bindM (idxM x56.1 0 1) fun x79 =>
          bindM (ld (Value.int .u8) x79) fun x80 =>
          pureM (x80 == 0)
      else
        pureM false) fun r6 =>
      bindM (if (r6) = true then
        bindM (bank_Bank_Bad x28.1) fun x85 =>
          pureM (((x85.len : Nat) : Int) == 0)
      else
        pureM false) fun r7 =>
      pureM r7))

def ref02_New (p0_disks : Int) (p1_sectors : Int) : M ((Int × Int × Slc × Slc × Slc × Slc × Int × Bool) × Int) :=
  bindM (allocM [(.int .i64 0), (.int .i64 0), (.slice none 0 0), (.slice none 0 0), (.slice none 0 0), (.slice none 0 0), (.int .i64 0), (.bool false)]) fun x4 =>
  bindM (if (decide (p0_disks < 1)) = true then
    pureM true
  else
    pureM (decide (p0_disks > 17))) fun r1 =>
  bindM (if (r1) = true then
    pureM true
  else
    pureM (decide (p1_sectors < 1))) fun r2 =>
  bindM (if (r2) = true then
    pureM true
  else
    pureM (decide (p1_sectors > 4096))) fun r3 =>
  (if (r3) = true then
  bindM (stA x4 [(.int .i64 0), (.int .i64 0), (.slice none 0 0), (.slice none 0 0), (.slice none 0 0), (.slice none 0 0), (.int .i64 0), (.bool false)]) fun _ =>
    bindM (ldA (fun y : (Int × Int × Slc × Slc × Slc × Slc × Int × Bool) => [(.int .i64 y.1), (.int .i64 y.2.1), (.slice y.2.2.1.base y.2.2.1.len y.2.2.1.cap), (.slice y.2.2.2.1.base y.2.2.2.1.len y.2.2.2.1.cap), (.slice y.2.2.2.2.1.base y.2.2.2.2.1.len y.2.2.2.2.1.cap), (.slice y.2.2.2.2.2.1.base y.2.2.2.2.2.1.len y.2.2.2.2.2.1.cap), (.int .i64 y.2.2.2.2.2.2.1), (.bool y.2.2.2.2.2.2.2)]) x4) fun r4 =>
    pureM ((r4.1, r4.2.1, r4.2.2.1, r4.2.2.2.1, r4.2.2.2.2.1, r4.2.2.2.2.2.1, r4.2.2.2.2.2.2.1, r4.2.2.2.2.2.2.2), 10)
  else
  bindM (allocM [(.int .i64 0), (.int .i64 0), (.slice none 0 0), (.slice none 0 0), (.slice none 0 0), (.slice none 0 0), (.int .i64 0), (.bool false)]) fun x6 =>
    bindM (stA x6 [(.int .i64 p0_disks), (.int .i64 p1_sectors), (.slice none 0 0), (.slice none 0 0), (.slice none 0 0), (.slice none 0 0), (.int .i64 (-1)), (.bool false)]) fun _ =>
    loopM (fun (s4 : (Int)) =>
    (if (decide (s4 < (w64 (p0_disks * p1_sectors)))) = true then
      regionM fun S5 =>
        bindM (ldI S5 vS (Addr.add x6 2)) fun x35 =>
        bindM (stepI S5 (allocM (List.replicate 64 (.int .u8 0)))) fun x36 =>
        bindM (stepI S5 (allocM [(.slice (some x36) 64 64)])) fun x37 =>
        bindM (appendM [(.slice none 0 0)] 24 x35 ⟨some x37, 1, 1⟩) fun x38 =>
        bindM (st (Addr.add x6 2) (.slice x38.base x38.len x38.cap)) fun _ =>
        bindM (ld vS (Addr.add x6 3)) fun x41 =>
        bindM (allocM [(.slice none 0 0)]) fun x42 =>
        bindM (appendM [(.slice none 0 0)] 24 x41 ⟨some x42, 1, 1⟩) fun x43 =>
        bindM (st (Addr.add x6 3) (.slice x43.base x43.len x43.cap)) fun _ =>
        pureM (.inl (w64 (s4 + 1)))
      else
      mapR (loopM (fun (s6 : (Int)) =>
        (if (decide (s6 < p0_disks)) = true then
          bindM (ld vS (Addr.add x6 4)) fun x51 =>
            bindM (allocM [(.bool false)]) fun x52 =>
            bindM (appendM [(.bool false)] 1 x51 ⟨some x52, 1, 1⟩) fun x53 =>
            bindM (st (Addr.add x6 4) (.slice x53.base x53.len x53.cap)) fun _ =>
            bindM (ld vS (Addr.add x6 5)) fun x56 =>
            bindM (allocM [(.int .i64 (-1))]) fun x57 =>
            bindM (appendM [(.int .i64 0)] 8 x56 ⟨some x57, 1, 1⟩) fun x58 =>
            bindM (st (Addr.add x6 5) (.slice x58.base x58.len x58.cap)) fun _ =>
            pureM (.inl (w64 (s6 + 1)))
          else
          mapR (bindM (ldA (fun y : (Int × Int × Slc × Slc × Slc × Slc × Int × Bool) => [(.int .i64 y.1), (.int .i64 y.2.1), (.slice y.2.2.1.base y.2.2.1.len y.2.2.1.cap), (.slice y.2.2.2.1.base y.2.2.2.1.len y.2.2.2.1.cap), (.slice y.2.2.2.2.1.base y.2.2.2.2.1.len y.2.2.2.2.1.cap), (.slice y.2.2.2.2.2.1.base y.2.2.2.2.2.1.len y.2.2.2.2.2.1.cap), (.int .i64 y.2.2.2.2.2.2.1), (.bool y.2.2.2.2.2.2.2)]) x6) fun x60 =>
            bindM (stA x4 [(.int .i64 x60.1), (.int .i64 x60.2.1), (.slice x60.2.2.1.base x60.2.2.1.len x60.2.2.1.cap), (.slice x60.2.2.2.1.base x60.2.2.2.1.len x60.2.2.2.1.cap), (.slice x60.2.2.2.2.1.base x60.2.2.2.2.1.len x60.2.2.2.2.1.cap), (.slice x60.2.2.2.2.2.1.base x60.2.2.2.2.2.1.len x60.2.2.2.2.2.1.cap), (.int .i64 x60.2.2.2.2.2.2.1), (.bool x60.2.2.2.2.2.2.2)]) fun _ =>
            bindM (ldA (fun y : (Int × Int × Slc × Slc × Slc × Slc × Int × Bool) => [(.int .i64 y.1), (.int .i64 y.2.1), (.slice y.2.2.1.base y.2.2.1.len y.2.2.1.cap), (.slice y.2.2.2.1.base y.2.2.2.1.len y.2.2.2.1.cap), (.slice y.2.2.2.2.1.base y.2.2.2.2.1.len y.2.2.2.2.1.cap), (.slice y.2.2.2.2.2.1.base y.2.2.2.2.2.1.len y.2.2.2.2.2.1.cap), (.int .i64 y.2.2.2.2.2.2.1), (.bool y.2.2.2.2.2.2.2)]) x4) fun r4 =>
            pureM ((r4.1, r4.2.1, r4.2.2.1, r4.2.2.2.1, r4.2.2.2.2.1, r4.2.2.2.2.2.1, r4.2.2.2.2.2.2.1, r4.2.2.2.2.2.2.2), 0)))) 0))) 0)

def ref03_Right (p0_g : (Int × Int × Int)) : M Bool :=
  bindM (allocM [(.int .i64 p0_g.1), (.int .i64 p0_g.2.1), (.int .i64 p0_g.2.2)]) fun x1 =>
  bindM (ld (Value.int .i64) x1) fun x4 =>
  bindM (if (decide (x4 < 3)) = true then
    pureM true
  else
    bindM (ld (Value.int .i64) x1) fun x8 =>
      pureM (decide (x8 > 16))) fun r1 =>
  bindM (if (r1) = true then
    pureM true
  else
    bindM (ld (Value.int .i64) (Addr.add x1 1)) fun x13 =>
      pureM (decide (x13 < 1))) fun r2 =>
  bindM (if (r2) = true then
    pureM true
  else
    bindM (ld (Value.int .i64) (Addr.add x1 1)) fun x18 =>
      pureM (decide (x18 > 4))) fun r3 =>
  bindM (if (r3) = true then
    pureM true
  else
    bindM (ld (Value.int .i64) (Addr.add x1 2)) fun x23 =>
      pureM (decide (x23 < 12))) fun r4 =>
  bindM (if (r4) = true then
    pureM true
  else
    bindM (ld (Value.int .i64) (Addr.add x1 2)) fun x28 =>
      pureM (decide (x28 > 64))) fun r5 =>
  (if (r5) = true then
  pureM false
  else
  bindM (ld (Value.int .i64) (Addr.add x1 2)) fun x32 =>
    bindM (ld (Value.int .i64) (Addr.add x1 1)) fun x36 =>
    bindM (ld (Value.int .i64) x1) fun x38 =>
    pureM (decide ((w64 ((w64 (1 + (w64 (Int.tdiv x32 8)))) * (w64 ((w64 (x36 * (w64 (x38 - 1)))) - 1)))) ≥ 8)))

def ref03_Sectors (p0_g : (Int × Int × Int)) : M Int :=
  bindM (allocM [(.int .i64 p0_g.1), (.int .i64 p0_g.2.1), (.int .i64 p0_g.2.2)]) fun x1 =>
  bindM (ldA (fun y : (Int × Int × Int) => [(.int .i64 y.1), (.int .i64 y.2.1), (.int .i64 y.2.2)]) x1) fun x3 =>
  bindM (ref03_Right (x3.1, x3.2.1, x3.2.2)) fun x4 =>
  (if (!x4) = true then
  pureM 0
  else
  bindM (ld (Value.int .i64) (Addr.add x1 2)) fun x7 =>
    bindM (ld (Value.int .i64) (Addr.add x1 1)) fun x9 =>
    pureM (w64 (5 + (w64 (x7 * x9)))))

def ref06_Fits (p0_g : (Int × Int × Int)) (p1_m : (Int × Int × Int)) : M Bool :=
  bindM (allocM [(.int .i64 p0_g.1), (.int .i64 p0_g.2.1), (.int .i64 p0_g.2.2)]) fun x2 =>
  bindM (allocM [(.int .i64 p1_m.1), (.int .i64 p1_m.2.1), (.int .i64 p1_m.2.2)]) fun x3 =>
  bindM (ld (Value.int .i64) (Addr.add x3 2)) fun x6 =>
  bindM (if (decide (x6 ≥ 0)) = true then
    bindM (ld (Value.int .i64) (Addr.add x3 2)) fun x10 =>
      pureM (decide (x10 ≤ 2))
  else
    pureM false) fun r1 =>
  bindM (if (r1) = true then
    bindM (ld (Value.int .i64) (Addr.add x3 2)) fun x15 =>
      bindM (if (x15 == 0) = true then
        pureM true
      else
        bindM (ld (Value.int .i64) (Addr.add x3 1)) fun x19 =>
          bindM (if (decide (x19 ≥ 0)) = true then
            bindM (ld (Value.int .i64) (Addr.add x3 1)) fun x23 =>
              bindM (ld (Value.int .i64) x2) fun x25 =>
              pureM (decide (x23 < x25))
          else
            pureM false) fun r4 =>
          pureM r4) fun r3 =>
      pureM r3
  else
    pureM false) fun r2 =>
  pureM r2

def ref06_Open (p0_r : (Option Addr)) (p1_g : (Int × Int × Int)) (p2_m : (Int × Int × Int)) : M ((Option Addr) × Int) :=
  bindM (allocM [(.int .i64 p1_g.1), (.int .i64 p1_g.2.1), (.int .i64 p1_g.2.2)]) fun x4 =>
  bindM (allocM [(.int .i64 p2_m.1), (.int .i64 p2_m.2.1), (.int .i64 p2_m.2.2)]) fun x5 =>
  bindS (regionM fun S2 =>
    bindM (ldAI S2 (fun y : (Int × Int × Int) => [(.int .i64 y.1), (.int .i64 y.2.1), (.int .i64 y.2.2)]) x4) fun x8 =>
    bindM (stepI S2 (ref03_Right (x8.1, x8.2.1, x8.2.2))) fun x9 =>
    (if (!x9) = true then
      pureM (.inl true)
    else
      bindM (nilM p0_r) fun x13 =>
        bindM (ldI S2 (Value.int .i64) x13) fun x15 =>
        bindM (ldI S2 (Value.int .i64) x4) fun x17 =>
        (if (x15 != (w64 (x17 + 1))) = true then
          pureM (.inl true)
        else
          bindM (nilM p0_r) fun x23 =>
            bindM (ldI S2 (Value.int .i64) (Addr.add x23 1)) fun x25 =>
            bindM (ldAI S2 (fun y : (Int × Int × Int) => [(.int .i64 y.1), (.int .i64 y.2.1), (.int .i64 y.2.2)]) x4) fun x26 =>
            bindM (stepI S2 (ref03_Sectors (x26.1, x26.2.1, x26.2.2))) fun x27 =>
            (if (x25 != x27) = true then
              pureM (.inl true)
            else
              bindM (ldAI S2 (fun y : (Int × Int × Int) => [(.int .i64 y.1), (.int .i64 y.2.1), (.int .i64 y.2.2)]) x4) fun x31 =>
                bindM (ldAI S2 (fun y : (Int × Int × Int) => [(.int .i64 y.1), (.int .i64 y.2.1), (.int .i64 y.2.2)]) x5) fun x32 =>
                bindM (stepI S2 (ref06_Fits (x31.1, x31.2.1, x31.2.2) (x32.1, x32.2.1, x32.2.2))) fun x33 =>
                pureM (.inl (!x33)))))) fun (b1 : (Bool)) =>
  (if (b1) = true then
  pureM (none, 10)
  else
  bindM (ldA (fun y : (Int × Int × Int) => [(.int .i64 y.1), (.int .i64 y.2.1), (.int .i64 y.2.2)]) x4) fun x37 =>
    bindM (ldA (fun y : (Int × Int × Int) => [(.int .i64 y.1), (.int .i64 y.2.1), (.int .i64 y.2.2)]) x5) fun x38 =>
    bindM (allocM [(.pointer p0_r), (.int .i64 x37.1), (.int .i64 x37.2.1), (.int .i64 x37.2.2), (.int .i64 x38.1), (.int .i64 x38.2.1), (.int .i64 x38.2.2)]) fun x40 =>
    pureM (some x40, 0))

def law06_BankOpens (p0_g : (Int × Int × Int)) (p1_m : (Int × Int × Int)) (p2_disks : Int) (p3_sectors : Int) : M Bool :=
  bindM (allocM [(.int .i64 p0_g.1), (.int .i64 p0_g.2.1), (.int .i64 p0_g.2.2)]) fun x4 =>
  bindM (allocM [(.int .i64 p1_m.1), (.int .i64 p1_m.2.1), (.int .i64 p1_m.2.2)]) fun x5 =>
  bindM (law06_alive ) fun x14 =>
  (if (!x14) = true then
  pureM false
  else
  bindM (if (decide (p2_disks > 17)) = true then
      pureM true
    else
      pureM (decide (p3_sectors > 300))) fun r1 =>
    (if (r1) = true then
    pureM true
    else
    bindM (device_New p2_disks p3_sectors) fun x25 =>
      bindM (ref02_New p2_disks p3_sectors) fun x31 =>
      bindM (allocM [(.int .i64 0), (.int .i64 0), (.slice none 0 0), (.slice none 0 0), (.slice none 0 0), (.slice none 0 0), (.int .i64 0), (.bool false)]) fun x11 =>
      bindM (stA x11 [(.int .i64 x31.1.1), (.int .i64 x31.1.2.1), (.slice x31.1.2.2.1.base x31.1.2.2.1.len x31.1.2.2.1.cap), (.slice x31.1.2.2.2.1.base x31.1.2.2.2.1.len x31.1.2.2.2.1.cap), (.slice x31.1.2.2.2.2.1.base x31.1.2.2.2.2.1.len x31.1.2.2.2.2.1.cap), (.slice x31.1.2.2.2.2.2.1.base x31.1.2.2.2.2.2.1.len x31.1.2.2.2.2.2.1.cap), (.int .i64 x31.1.2.2.2.2.2.2.1), (.bool x31.1.2.2.2.2.2.2.2)]) fun _ =>
      (if (x25.2 != x31.2) = true then
      pureM false
      else
      bindM (if (x25.2 != 0) = true then
          pureM true
        else
          pureM ((x25.1).isNone)) fun r2 =>
        (if (r2) = true then
        pureM true
        else
        bindM (ldA (fun y : (Int × Int × Int) => [(.int .i64 y.1), (.int .i64 y.2.1), (.int .i64 y.2.2)]) x4) fun x45 =>
          bindM (ldA (fun y : (Int × Int × Int) => [(.int .i64 y.1), (.int .i64 y.2.1), (.int .i64 y.2.2)]) x5) fun x46 =>
          bindM (bank_Open x25.1 (x45.1, x45.2.1, x45.2.2) (x46.1, x46.2.1, x46.2.2)) fun x47 =>
          bindM (ldA (fun y : (Int × Int × Int) => [(.int .i64 y.1), (.int .i64 y.2.1), (.int .i64 y.2.2)]) x4) fun x51 =>
          bindM (ldA (fun y : (Int × Int × Int) => [(.int .i64 y.1), (.int .i64 y.2.1), (.int .i64 y.2.2)]) x5) fun x52 =>
          bindM (ref06_Open (some x11) (x51.1, x51.2.1, x51.2.2) (x52.1, x52.2.1, x52.2.2)) fun x53 =>
          bindM (if (x47.2 == x53.2) = true then
            pureM (((x47.1).isNone) == (x47.2 != 0))
          else
            pureM false) fun r3 =>
          pureM r3))))

def bank_Bank_disks (cv : CV) (p0_b : (Option Addr)) (p1_yield : Value) : M Unit :=
  bindM (nilM p0_b) fun x8 =>
  bindM (ld (Value.int .i64) (Addr.add x8 1)) fun x11 =>
  loopM (fun (s1 : (Int)) =>
  (if (decide (s1 < x11)) = true then
    bindM (bank_Bank_disk p0_b s1) fun x18 =>
      bindM (cvT cv Value.bool p1_yield #[(.int .i64 x18.1)]) fun x23 =>
      (if (!x23) = true then
      mapR (pureM ())
      else
      pureM (.inl (w64 (s1 + 1))))
    else
    mapR (bindM (nilM p0_b) fun x27 =>
      bindM (ld (Value.int .i64) (Addr.add (Addr.add x27 4) 2)) fun x30 =>
      (if (x30 == 0) = true then
      bindM (nilM p0_b) fun x34 =>
        bindM (ld (Value.int .i64) (Addr.add x34 1)) fun x37 =>
        bindM (cvT cv Value.bool p1_yield #[(.int .i64 x37)]) fun x38 =>
        pureM ()
      else
      pureM ())))) 0

def bank_Bank_Everywhere (cv : CV) (p0_b : (Option Addr)) (p1_sector : Int) (p2_data : Slc) : M Int :=
  bindM (allocM [(.pointer p0_b)]) fun x3 =>
  bindM (allocM [(.int .i64 p1_sector)]) fun x4 =>
  bindM (allocM [(.slice p2_data.base p2_data.len p2_data.cap)]) fun x5 =>
  bindM (allocM [(.int .i64 0)]) fun x6 =>
  bindM (allocM [(.int .i64 0)]) fun x7 =>
  bindM (st x7 (.int .i64 0)) fun _ =>
  bindM (ld Value.pointer x3) fun x10 =>
  rangeFM cv (.func (.func fid_bank_Bank_disks) #[(.pointer x10)] #[]) (fun x_1 : (Int) => #[(.int .i64 x_1)])
    (fun x_1 => pureM x_1)
    (fun (t_1 : (Int)) => regionM fun S2 =>
      bindM (ldI S2 Value.pointer x3) fun x13 =>
      bindM (nilM x13) fun x14 =>
      bindM (ldI S2 Value.pointer x14) fun x16 =>
      bindM (ldI S2 (Value.int .i64) x4) fun x18 =>
      bindM (ldI S2 vS x5) fun x19 =>
      bindM (stepI S2 (device_Rack_Write x16 t_1 x18 x19)) fun x20 =>
      (if (x20 == 12) = true then
      bindM (st x6 (.int .i64 x20)) fun _ =>
        pureM (.inr .ret)
      else
      (if (x20 == 11) = true then
        bindM (st x7 (.int .i64 x20)) fun _ =>
          pureM (.inl ())
        else
        pureM (.inl ()))))
    (fun D1 => bindM (ld (Value.int .i64) x7) fun x28 =>
      bindM (st x6 (.int .i64 x28)) fun _ =>
      takesM (D1 :: []) <|
      bindM (ld (Value.int .i64) x6) fun r6 =>
      pureM r6)
    (fun D1 => takesM (D1 :: []) <|
      bindM (ld (Value.int .i64) x6) fun r6 =>
      pureM r6) (fun D1 i1 => failM)

def bank_Bank_All (cv : CV) (p0_b : (Option Addr)) (p1_sector : Int) : M Slc :=
  bindM (allocM [(.pointer p0_b)]) fun x2 =>
  bindM (allocM [(.int .i64 p1_sector)]) fun x3 =>
  bindM (allocM [(.slice none 0 0)]) fun x5 =>
  bindM (ld Value.pointer x2) fun x9 =>
  rangeFM cv (.func (.func fid_bank_Bank_disks) #[(.pointer x9)] #[]) (fun x_1 : (Int) => #[(.int .i64 x_1)])
    (fun x_1 => pureM x_1)
    (fun (t_1 : (Int)) => regionM fun S2 =>
      bindM (ldI S2 Value.pointer x2) fun x13 =>
      bindM (nilM x13) fun x14 =>
      bindM (ldI S2 Value.pointer x14) fun x16 =>
      bindM (ldI S2 (Value.int .i64) x3) fun x18 =>
      bindM (stepI S2 (device_Rack_Read x16 t_1 x18)) fun x19 =>
      (if (x19.2 == 0) = true then
      bindM (ld vS x5) fun x24 =>
        bindM (allocM [(.slice x19.1.base x19.1.len x19.1.cap)]) fun x26 =>
        bindM (appendM [(.slice none 0 0)] 24 x24 ⟨some x26, 1, 1⟩) fun x27 =>
        bindM (st x5 (.slice x27.base x27.len x27.cap)) fun _ =>
        pureM (.inl ())
      else
      pureM (.inl ())))
    (fun D1 => bindM (ld vS x5) fun x28 =>
      takesM (D1 :: []) <|
      pureM x28)
    (fun D1 => failM) (fun D1 i1 => failM)

def ref00_SameBytes (p0_a : Slc) (p1_b : Slc) : M Bool :=
  (if (((p0_a.len : Nat) : Int) != ((p1_b.len : Nat) : Int)) = true then
  pureM false
  else
  loopM (fun (s1 : (Int)) =>
    (if (decide (s1 < ((p0_a.len : Nat) : Int))) = true then
      regionM fun S2 =>
        bindM (idxM p0_a s1 1) fun x19 =>
        bindM (ldI S2 (Value.int .u8) x19) fun x20 =>
        bindM (idxM p1_b s1 1) fun x23 =>
        bindM (ldI S2 (Value.int .u8) x23) fun x24 =>
        (if (x20 != x24) = true then
        mapR (pureM false)
        else
        pureM (.inl (w64 (s1 + 1))))
      else
      mapR (pureM true))) 0)

def bank_Bank_Join (p0_b : (Option Addr)) (p1_m : (Int × Int × Int)) : M Unit :=
  bindM (allocM [(.int .i64 p1_m.1), (.int .i64 p1_m.2.1), (.int .i64 p1_m.2.2)]) fun x3 =>
  regionM fun S1 =>
  bindM (nilM p0_b) fun x5 =>
  bindM (ldAI S1 (fun y : (Int × Int × Int) => [(.int .i64 y.1), (.int .i64 y.2.1), (.int .i64 y.2.2)]) (Addr.add x5 1)) fun x7 =>
  bindM (ldAI S1 (fun y : (Int × Int × Int) => [(.int .i64 y.1), (.int .i64 y.2.1), (.int .i64 y.2.2)]) x3) fun x8 =>
  bindM (bank_fits (x7.1, x7.2.1, x7.2.2) (x8.1, x8.2.1, x8.2.2)) fun x9 =>
  (if (x9) = true then
  bindM (ldA (fun y : (Int × Int × Int) => [(.int .i64 y.1), (.int .i64 y.2.1), (.int .i64 y.2.2)]) x3) fun x11 =>
    bindM (nilM p0_b) fun x12 =>
    bindM (stA (Addr.add x12 4) [(.int .i64 x11.1), (.int .i64 x11.2.1), (.int .i64 x11.2.2)]) fun _ =>
    pureM ()
  else
  pureM ())

def law06_BankSpare (cv : CV) (p0_slot : Int) (p1_sector : Int) (p2_data : Slc) (p3_state : Int) : M Bool :=
  bindM (law06_alive ) fun x21 =>
  (if (!x21) = true then
  pureM false
  else
  bindM (if (((p2_data.len : Nat) : Int) != 64) = true then
      pureM true
    else
      pureM (decide (p0_slot < 0))) fun r1 =>
    bindM (if (r1) = true then
      pureM true
    else
      pureM (decide (p0_slot > 2))) fun r2 =>
    bindM (if (r2) = true then
      pureM true
    else
      pureM (decide (p1_sector < 0))) fun r3 =>
    bindM (if (r3) = true then
      pureM true
    else
      pureM (decide (p1_sector ≥ 41))) fun r4 =>
    bindM (if (r4) = true then
      pureM true
    else
      pureM (decide (p3_state < 1))) fun r5 =>
    bindM (if (r5) = true then
      pureM true
    else
      pureM (decide (p3_state > 2))) fun r6 =>
    (if (r6) = true then
    pureM true
    else
    bindM (law06_Small ) fun x50 =>
      bindM (allocM [(.int .i64 0), (.int .i64 0), (.int .i64 0)]) fun x9 =>
      bindM (stA x9 [(.int .i64 x50.1), (.int .i64 x50.2.1), (.int .i64 x50.2.2)]) fun _ =>
      bindM (ldA (fun y : (Int × Int × Int) => [(.int .i64 y.1), (.int .i64 y.2.1), (.int .i64 y.2.2)]) x9) fun x52 =>
      bindM (geo_Sectors (x52.1, x52.2.1, x52.2.2)) fun x53 =>
      bindM (device_New 4 x53) fun x54 =>
      bindM (if (x54.2 != 0) = true then
        pureM true
      else
        pureM ((x54.1).isNone)) fun r7 =>
      (if (r7) = true then
      pureM false
      else
      bindM (ldA (fun y : (Int × Int × Int) => [(.int .i64 y.1), (.int .i64 y.2.1), (.int .i64 y.2.2)]) x9) fun x65 =>
        bindM (bank_Open x54.1 (x65.1, x65.2.1, x65.2.2) (0, 0, 0)) fun x67 =>
        bindM (if (x67.2 != 0) = true then
          pureM true
        else
          pureM ((x67.1).isNone)) fun r8 =>
        bindM (if (r8) = true then
          pureM true
        else
          bindM (bank_Bank_Everywhere cv x67.1 p1_sector p2_data) fun x80 =>
            pureM (x80 != 0)) fun r9 =>
        bindM (if (r9) = true then
          pureM true
        else
          bindM (bank_Bank_All cv x67.1 p1_sector) fun x86 =>
            pureM (((x86.len : Nat) : Int) != 4)) fun r10 =>
        (if (r10) = true then
        pureM false
        else
        loopM (fun (s11 : (Int)) =>
          (if (decide (s11 < 4)) = true then
            bindM (device_Rack_Read x54.1 s11 p1_sector) fun x98 =>
              bindM (if (x98.2 != 0) = true then
                pureM true
              else
                bindM (ref00_SameBytes x98.1 p2_data) fun x106 =>
                  pureM (!x106)) fun r12 =>
              (if (r12) = true then
              mapR (pureM false)
              else
              pureM (.inl (w64 (s11 + 1))))
            else
            mapR (bindM (bank_Bank_Join x67.1 (1, p0_slot, p3_state)) fun x113 =>
              bindM (allocM (List.replicate 64 (.int .u8 0))) fun x114 =>
              bindM (bank_Bank_Write x67.1 p0_slot p1_sector (⟨some x114, 64, 64⟩)) fun x119 =>
              bindM (if (x119 != 0) = true then
                pureM true
              else
                bindM (bank_Bank_All cv x67.1 p1_sector) fun x124 =>
                  pureM (((x124.len : Nat) : Int) != 3)) fun r13 =>
              (if (r13) = true then
              pureM false
              else
              bindM (device_Rack_Read x54.1 p0_slot p1_sector) fun x132 =>
                bindM (device_Rack_Read x54.1 3 p1_sector) fun x138 =>
                bindM (ref00_SameBytes x132.1 p2_data) fun x143 =>
                bindM (if (x143) = true then
                  bindM (ref00_SameBytes x138.1 (⟨some x114, 64, 64⟩)) fun x147 =>
                    pureM x147
                else
                  pureM false) fun r14 =>
                bindM (if (r14) = true then
                  bindM (bank_Bank_Bad x67.1) fun x151 =>
                    pureM ((((x151.len : Nat) : Int) == 1) == (p3_state == 1))
                else
                  pureM false) fun r15 =>
                pureM r15)))) 0))))

def device_Rack_Doom (p0_r : (Option Addr)) (p1_disk : Int) (p2_calls : Int) : M Int :=
  bindM (if (decide (p1_disk < 0)) = true then
    pureM true
  else
    bindM (nilM p0_r) fun x12 =>
      bindM (ld vS x12) fun x14 =>
      pureM (decide (p1_disk ≥ ((x14.len : Nat) : Int)))) fun r1 =>
  (if (r1) = true then
  pureM 11
  else
  bindM (nilM p0_r) fun x19 =>
    bindM (ld vS x19) fun x21 =>
    bindM (idxM x21 p1_disk 1) fun x23 =>
    bindM (ld Value.pointer x23) fun x24 =>
    bindM (nilM x24) fun x27 =>
    bindM (st (Addr.add x27 3) (.int .i64 (maxI p2_calls (-1)))) fun _ =>
    pureM 0)

def device_Rack_Flush (p0_r : (Option Addr)) (p1_disk : Int) : M Int :=
  bindM (device_Rack_counted p0_r p1_disk 0 64) fun x12 =>
  (if (x12.2 == 0) = true then
  bindM (nilM x12.1) fun x18 =>
    bindM (ld Value.map (Addr.add x18 1)) fun x20 =>
    bindM (rangeMapM x20) fun x21 =>
    loopM (fun (s1 : Unit) =>
    bindM (nextM x21) fun y22 =>
      (match y22 with
      | none =>
        mapR (bindM (nilM x12.1) fun x35 =>
          bindM (ld Value.map (Addr.add x35 1)) fun x37 =>
          bindM (clearM x37) fun _ =>
          pureM x12.2)
      | some e22 =>
        bindM (entryM (Value.int .i64) vS x21) fun x24 =>
          bindM (nilM x12.1) fun x28 =>
          bindM (ld vS x28) fun x30 =>
          bindM (idxM x30 x24.1 1) fun x33 =>
          bindM (st x33 (.slice x24.2.base x24.2.len x24.2.cap)) fun _ =>
          pureM (.inl ()))) ()
  else
  pureM x12.2)

def bank_Bank_Flush (cv : CV) (p0_b : (Option Addr)) : M Int :=
  bindM (allocM [(.pointer p0_b)]) fun x1 =>
  bindM (allocM [(.int .i64 0)]) fun x2 =>
  bindM (ld Value.pointer x1) fun x5 =>
  rangeFM cv (.func (.func fid_bank_Bank_disks) #[(.pointer x5)] #[]) (fun x_1 : (Int) => #[(.int .i64 x_1)])
    (fun x_1 => pureM x_1)
    (fun (t_1 : (Int)) => bindM (ld Value.pointer x1) fun x8 =>
      bindM (nilM x8) fun x9 =>
      bindM (ld Value.pointer x9) fun x11 =>
      bindM (device_Rack_Flush x11 t_1) fun x13 =>
      (if (x13 == 12) = true then
      bindM (st x2 (.int .i64 x13)) fun _ =>
        pureM (.inr .ret)
      else
      pureM (.inl ())))
    (fun D1 => bindM (st x2 (.int .i64 0)) fun _ =>
      takesM (D1 :: []) <|
      bindM (ld (Value.int .i64) x2) fun r2 =>
      pureM r2)
    (fun D1 => takesM (D1 :: []) <|
      bindM (ld (Value.int .i64) x2) fun r2 =>
      pureM r2) (fun D1 i1 => failM)

def bank_Bank_Read (p0_b : (Option Addr)) (p1_slot : Int) (p2_sector : Int) : M (Slc × Int) :=
  bindM (bank_Bank_disk p0_b p1_slot) fun x13 =>
  (if (!x13.2) = true then
  pureM (⟨none, 0, 0⟩, 11)
  else
  bindM (nilM p0_b) fun x19 =>
    bindM (ld Value.pointer x19) fun x21 =>
    bindM (device_Rack_Read x21 x13.1 p2_sector) fun x24 =>
    pureM (x24.1, x24.2))

def bank_Bank_SpareFailed (p0_b : (Option Addr)) : M Bool :=
  regionM fun S1 =>
  bindM (nilM p0_b) fun x4 =>
  bindM (ldI S1 Value.pointer x4) fun x6 =>
  bindM (nilM p0_b) fun x8 =>
  bindM (ldI S1 (Value.int .i64) (Addr.add x8 1)) fun x11 =>
  bindM (device_Rack_Failed x6 x11) fun x12 =>
  pureM x12

def law06_BankBad (cv : CV) (p0_fails : Int) (p1_m : (Int × Int × Int)) : M Bool :=
  bindM (allocM [(.int .i64 p1_m.1), (.int .i64 p1_m.2.1), (.int .i64 p1_m.2.2)]) fun x3 =>
  bindM (law06_alive ) fun x17 =>
  (if (!x17) = true then
  pureM false
  else
  bindM (law06_Small ) fun x19 =>
    bindM (allocM [(.int .i64 0), (.int .i64 0), (.int .i64 0)]) fun x5 =>
    bindM (stA x5 [(.int .i64 x19.1), (.int .i64 x19.2.1), (.int .i64 x19.2.2)]) fun _ =>
    bindM (ldA (fun y : (Int × Int × Int) => [(.int .i64 y.1), (.int .i64 y.2.1), (.int .i64 y.2.2)]) x5) fun x21 =>
    bindM (geo_Sectors (x21.1, x21.2.1, x21.2.2)) fun x22 =>
    bindM (device_New 4 x22) fun x23 =>
    bindM (if (x23.2 != 0) = true then
      pureM true
    else
      pureM ((x23.1).isNone)) fun r1 =>
    (if (r1) = true then
    pureM false
    else
    bindM (ldA (fun y : (Int × Int × Int) => [(.int .i64 y.1), (.int .i64 y.2.1), (.int .i64 y.2.2)]) x5) fun x34 =>
      bindM (ldA (fun y : (Int × Int × Int) => [(.int .i64 y.1), (.int .i64 y.2.1), (.int .i64 y.2.2)]) x3) fun x35 =>
      bindM (bank_Open x23.1 (x34.1, x34.2.1, x34.2.2) (x35.1, x35.2.1, x35.2.2)) fun x36 =>
      bindM (if (x36.2 != 0) = true then
        pureM true
      else
        pureM ((x36.1).isNone)) fun r2 =>
      (if (r2) = true then
      pureM true
      else
      loopM (fun (s3 : (Int)) =>
        (if (decide (s3 < 4)) = true then
          assertM (0 ≤ (IntKind.wrap .u64 s3)) <|
            (if ((bAnd .i64 (bShr .i64 p0_fails (IntKind.wrap .u64 s3)) 1) == 1) = true then
            bindM (device_Rack_Doom x23.1 s3 0) fun x57 =>
              pureM (.inl (w64 (s3 + 1)))
            else
            pureM (.inl (w64 (s3 + 1))))
          else
          mapR (bindM (bank_Bank_Flush cv x36.1) fun x59 =>
            (if (x59 != 0) = true then
            pureM false
            else
            bindM (bank_Bank_Bad x36.1) fun x62 =>
              loopM (fun (s4 : (Int × Int)) =>
              (if (decide (s4.2 < 3)) = true then
                bindM (ld (Value.int .i64) (Addr.add x3 2)) fun x69 =>
                  bindM (if (x69 != 0) = true then
                    bindM (ld (Value.int .i64) (Addr.add x3 1)) fun x73 =>
                      pureM (x73 == s4.2)
                  else
                    pureM false) fun r5 =>
                  bindS ((if (r5) = true then
                    pureM (.inl 3)
                    else
                    pureM (.inl s4.2))) fun (b6 : (Int)) =>
                  assertM (0 ≤ (IntKind.wrap .u64 b6)) <|
                  bindM (if ((bAnd .i64 (bShr .i64 p0_fails (IntKind.wrap .u64 b6)) 1) == 1) = true then
                    pureM true
                  else
                    bindM (ld (Value.int .i64) (Addr.add x3 2)) fun x85 =>
                      bindM (if (x85 == 1) = true then
                        bindM (ld (Value.int .i64) (Addr.add x3 1)) fun x89 =>
                          pureM (x89 == s4.2)
                      else
                        pureM false) fun r10 =>
                      pureM r10) fun r7 =>
                  bindS ((if (r7) = true then
                    bindM (if (decide (s4.1 ≥ ((x62.len : Nat) : Int))) = true then
                        pureM true
                      else
                        bindM (idxM x62 s4.1 1) fun x102 =>
                          bindM (ld (Value.int .i64) x102) fun x103 =>
                          pureM (x103 != s4.2)) fun r9 =>
                      (if (r9) = true then
                      mapR (mapR (pureM false))
                      else
                      pureM (.inl (w64 (s4.1 + 1))))
                    else
                    pureM (.inl s4.1))) fun (b8 : (Int)) =>
                  bindM (bank_Bank_Read x36.1 s4.2 0) fun x112 =>
                  assertM (0 ≤ (IntKind.wrap .u64 b6)) <|
                  (if (!((x112.2 == 13) == ((bAnd .i64 (bShr .i64 p0_fails (IntKind.wrap .u64 b6)) 1) == 1))) = true then
                  mapR (pureM false)
                  else
                  pureM (.inl (b8, w64 (s4.2 + 1))))
                else
                mapR (bindM (if (s4.1 == ((x62.len : Nat) : Int)) = true then
                    bindM (bank_Bank_SpareFailed x36.1) fun x130 =>
                      pureM (x130 == ((bAnd .i64 (bShr .i64 p0_fails 3) 1) == 1))
                  else
                    pureM false) fun r11 =>
                  pureM r11))) (0, 0))))) 0)))

def slices_AppendSeq_i (cv : CV) (p0_s : Slc) (p1_seq : Value) : M Slc :=
  bindM (allocM [(.slice p0_s.base p0_s.len p0_s.cap)]) fun x2 =>
  rangeFM cv p1_seq (fun x_1 : (Int) => #[(.int .i64 x_1)])
    (fun x_1 => pureM x_1)
    (fun (t_1 : (Int)) => bindM (ld vS x2) fun x8 =>
      bindM (allocM [(.int .i64 t_1)]) fun x10 =>
      bindM (appendM [(.int .i64 0)] 8 x8 ⟨some x10, 1, 1⟩) fun x11 =>
      bindM (st x2 (.slice x11.base x11.len x11.cap)) fun _ =>
      pureM (.inl ()))
    (fun D1 => bindM (ld vS x2) fun x12 =>
      takesM (D1 :: []) <|
      pureM x12)
    (fun D1 => failM) (fun D1 i1 => failM)

def slices_Collect_i (cv : CV) (p0_seq : Value) : M Slc :=
  bindM (slices_AppendSeq_i cv (⟨none, 0, 0⟩) p0_seq) fun x4 =>
  pureM x4

def slices_Sorted_i (cv : CV) (p0_seq : Value) : M Slc :=
  bindM (slices_Collect_i cv p0_seq) fun x5 =>
  bindM (sortM x5) fun x7 =>
  pureM x5

def maps_Keys_m_c1 (cv : CV) (p0_yield : Value) (p1_a : Addr) : M Unit :=
  bindM (ld Value.map p1_a) fun x4 =>
  bindM (rangeMapM x4) fun x5 =>
  loopM (fun (s1 : Unit) =>
  bindM (nextM x5) fun y6 =>
    (match y6 with
    | none =>
      mapR (pureM ())
    | some e6 =>
      bindM (entryM (Value.int .i64) vS x5) fun x8 =>
        bindM (cvT cv Value.bool p0_yield #[(.int .i64 x8.1)]) fun x12 =>
        (if (!x12) = true then
        mapR (pureM ())
        else
        pureM (.inl ())))) ()

def maps_Keys_m (p0_m : (Option Nat)) : M Value :=
  bindM (allocM [(.map p0_m)]) fun x1 =>
  pureM (.func (.func fid_maps_Keys_m_c1) #[] #[(.pointer (some x1))])

def device_Rack_Restore (cv : CV) (p0_r : (Option Addr)) (p1_keeps : Slc) : M Unit :=
  bindM (nilM p0_r) fun x11 =>
  bindM (st (Addr.add x11 3) (.bool false)) fun _ =>
  bindM (nilM p0_r) fun x13 =>
  bindM (st (Addr.add x13 2) (.int .i64 (-1))) fun _ =>
  bindM (nilM p0_r) fun x16 =>
  bindM (ld vS x16) fun x18 =>
  loopM (fun (s1 : (Int × Int)) =>
  (if (decide (s1.2 < ((x18.len : Nat) : Int))) = true then
    bindM (idxM x18 s1.2 1) fun x22 =>
      bindM (ld Value.pointer x22) fun x23 =>
      bindM (nilM x23) fun x25 =>
      bindM (ld Value.map (Addr.add x25 1)) fun x27 =>
      bindM (maps_Keys_m x27) fun x28 =>
      bindM (slices_Sorted_i cv x28) fun x29 =>
      loopM (fun (s2 : (Int × Int)) =>
      (if (decide (s2.2 < ((x29.len : Nat) : Int))) = true then
        bindM (idxM x29 s2.2 1) fun x33 =>
          bindM (ld (Value.int .i64) x33) fun x34 =>
          bindM (if (decide (((p1_keeps.len : Nat) : Int) > 0)) = true then
            assertM (((p1_keeps.len : Nat) : Int) ≠ 0) <|
              bindM (idxM p1_keeps (Int.tmod s2.1 ((p1_keeps.len : Nat) : Int)) 1) fun x44 =>
              bindM (ld (Value.int .i64) x44) fun x45 =>
              pureM ((bAnd .i64 x45 1) == 1)
          else
            pureM false) fun r3 =>
          bindM (if (r3) = true then
            bindM (nilM x23) fun x51 =>
              bindM (ld Value.bool (Addr.add x51 2)) fun x53 =>
              pureM (!x53)
          else
            pureM false) fun r4 =>
          (if (r4) = true then
          regionM fun S5 =>
            bindM (nilM x23) fun x57 =>
            bindM (ldI S5 vS x57) fun x59 =>
            bindM (nilM x23) fun x62 =>
            bindM (ldI S5 Value.map (Addr.add x62 1)) fun x64 =>
            bindM (stepI S5 (lookM vS (⟨none, 0, 0⟩) x64 x34)) fun x66 =>
            bindM (idxM x59 x34 1) fun x67 =>
            bindM (st x67 (.slice x66.1.base x66.1.len x66.1.cap)) fun _ =>
            pureM (.inl (w64 (s2.1 + 1), w64 (s2.2 + 1)))
          else
          pureM (.inl (w64 (s2.1 + 1), w64 (s2.2 + 1))))
        else
        mapR (bindM (nilM x23) fun x72 =>
          bindM (ld Value.map (Addr.add x72 1)) fun x74 =>
          bindM (clearM x74) fun _ =>
          pureM (.inl (s2.1, w64 (s1.2 + 1)))))) (s1.1, 0)
    else
    mapR (pureM ()))) (0, 0)

def device_Rack_Lasting (p0_r : (Option Addr)) (p1_disk : Int) (p2_sector : Int) : M (Slc × Int) :=
  bindM (if (decide (p1_disk < 0)) = true then
    pureM true
  else
    bindM (nilM p0_r) fun x13 =>
      bindM (ld vS x13) fun x15 =>
      pureM (decide (p1_disk ≥ ((x15.len : Nat) : Int)))) fun r1 =>
  bindM (if (r1) = true then
    pureM true
  else
    pureM (decide (p2_sector < 0))) fun r2 =>
  bindM (if (r2) = true then
    pureM true
  else
    bindM (nilM p0_r) fun x26 =>
      bindM (ld (Value.int .i64) (Addr.add x26 1)) fun x28 =>
      pureM (decide (p2_sector ≥ x28))) fun r3 =>
  (if (r3) = true then
  pureM (⟨none, 0, 0⟩, 11)
  else
  bindM (nilM p0_r) fun x32 =>
    bindM (ld vS x32) fun x34 =>
    bindM (idxM x34 p1_disk 1) fun x36 =>
    bindM (ld Value.pointer x36) fun x37 =>
    bindM (nilM x37) fun x38 =>
    bindM (ld vS x38) fun x40 =>
    bindM (idxM x40 p2_sector 1) fun x42 =>
    bindM (ld vS x42) fun x43 =>
    bindM (slices_Clone_b x43) fun x44 =>
    pureM (x44, 0))

def device_Rack_Arm (p0_r : (Option Addr)) (p1_calls : Int) : M Unit :=
  bindM (nilM p0_r) fun x7 =>
  bindM (st (Addr.add x7 2) (.int .i64 (maxI p1_calls (-1)))) fun _ =>
  pureM ()

def device_Rack_Off (p0_r : (Option Addr)) : M Bool :=
  bindM (nilM p0_r) fun x4 =>
  bindM (ld Value.bool (Addr.add x4 3)) fun x6 =>
  pureM x6

def law02_alive (cv : CV)  : M Bool :=
  bindM (device_New 2 3) fun x10 =>
  bindM (if (x10.2 != 0) = true then
    pureM true
  else
    pureM ((x10.1).isNone)) fun r1 =>
  (if (r1) = true then
  pureM false
  else
  bindM (allocM (List.replicate 64 (.int .u8 0))) fun x19 =>
    bindM (idxM ⟨some x19, 64, 64⟩ 0 1) fun x21 =>
    bindM (st x21 (.int .u8 7)) fun _ =>
    bindM (device_Rack_Arm x10.1 1) fun x23 =>
    bindM (device_Rack_Write x10.1 1 2 (⟨some x19, 64, 64⟩)) fun x26 =>
    bindM (device_Rack_Write x10.1 1 1 (⟨some x19, 64, 64⟩)) fun x29 =>
    bindM (device_Rack_Off x10.1) fun x31 =>
    bindM (allocM [(.int .i64 1)]) fun x33 =>
    bindM (device_Rack_Restore cv x10.1 (⟨some x33, 1, 1⟩)) fun x34 =>
    bindM (device_Rack_Lasting x10.1 1 2) fun x37 =>
    bindM (if (x26 == 0) = true then
      pureM (x29 == 12)
    else
      pureM false) fun r2 =>
    bindM (if (r2) = true then
      pureM x31
    else
      pureM false) fun r3 =>
    bindM (if (r3) = true then
      bindM (device_Rack_Off x10.1) fun x51 =>
        pureM (!x51)
    else
      pureM false) fun r4 =>
    bindM (if (r4) = true then
      pureM (((x37.1.len : Nat) : Int) == 64)
    else
      pureM false) fun r5 =>
    bindM (if (r5) = true then
      bindM (idxM x37.1 0 1) fun x61 =>
        bindM (ld (Value.int .u8) x61) fun x62 =>
        pureM (x62 == 7)
    else
      pureM false) fun r6 =>
    pureM r6)

def law02_DeviceKeeps (cv : CV) (p0_rows : Slc) (p1_all : Bool) : M Bool :=
  bindM (law02_alive cv ) fun x15 =>
  (if (!x15) = true then
  pureM false
  else
  (if (decide (((p0_rows.len : Nat) : Int) > 100)) = true then
    pureM true
    else
    bindM (device_New 2 4) fun x21 =>
      bindM (if (x21.2 != 0) = true then
        pureM true
      else
        pureM ((x21.1).isNone)) fun r1 =>
      (if (r1) = true then
      pureM false
      else
      bindM (allocM [(.int .u8 0), (.int .u8 0), (.int .u8 0), (.int .u8 0), (.int .u8 0), (.int .u8 0), (.int .u8 0), (.int .u8 0)]) fun x7 =>
        bindM (stA x7 [(.int .u8 0), (.int .u8 0), (.int .u8 0), (.int .u8 0), (.int .u8 0), (.int .u8 0), (.int .u8 0), (.int .u8 0)]) fun _ =>
        loopM (fun (s2 : (Int)) =>
        (if (decide (s2 < ((p0_rows.len : Nat) : Int))) = true then
          bindM (idxM p0_rows s2 1) fun x39 =>
            bindM (ld (Value.int .i64) x39) fun x40 =>
            bindM (allocM (List.replicate 64 (.int .u8 0))) fun x42 =>
            bindM (idxM ⟨some x42, 64, 64⟩ 0 1) fun x47 =>
            bindM (st x47 (.int .u8 (IntKind.wrap .u8 (w64 (s2 + 1))))) fun _ =>
            bindM (device_Rack_Write x21.1 (w64 (Int.tdiv (bAnd .i64 x40 7) 4)) (Int.tmod (bAnd .i64 x40 7) 4) (⟨some x42, 64, 64⟩)) fun x54 =>
            (if (x54 != 0) = true then
            mapR (pureM false)
            else
            (if (p1_all) = true then
              bindM (idxA x7 8 (bAnd .i64 x40 7) 1) fun x61 =>
                bindM (st x61 (.int .u8 (IntKind.wrap .u8 (w64 (s2 + 1))))) fun _ =>
                pureM (.inl (w64 (s2 + 1)))
              else
              pureM (.inl (w64 (s2 + 1)))))
          else
          mapR (bindM (allocM []) fun x62 =>
            bindS ((if (p1_all) = true then
              bindM (allocM [(.int .i64 3)]) fun x65 =>
                bindM (appendM [(.int .i64 0)] 8 ⟨some x62, 0, 0⟩ ⟨some x65, 1, 1⟩) fun x66 =>
                pureM (.inl x66)
              else
              pureM (.inl (⟨some x62, 0, 0⟩)))) fun (b3 : (Slc)) =>
            bindM (device_Rack_Restore cv x21.1 b3) fun x69 =>
            loopM (fun (s4 : (Int)) =>
            (if (decide (s4 < 8)) = true then
              bindM (device_Rack_Lasting x21.1 (w64 (Int.tdiv s4 4)) (Int.tmod s4 4)) fun x80 =>
                regionM fun S5 =>
                (if (x80.2 != 0) = true then
                  mapR (pureM false)
                else
                  (if (((x80.1.len : Nat) : Int) != 64) = true then
                      mapR (pureM false)
                    else
                      bindM (idxM x80.1 0 1) fun x92 =>
                        bindM (ldI S5 (Value.int .u8) x92) fun x93 =>
                        bindM (idxA x7 8 s4 1) fun x95 =>
                        bindM (ldI S5 (Value.int .u8) x95) fun x96 =>
                        (if (x93 != x96) = true then
                        mapR (pureM false)
                        else
                        pureM (.inl (w64 (s4 + 1))))))
              else
              mapR (pureM true))) 0))) 0)))

def law02_DeviceLasts (cv : CV) (p0_rows : Slc) (p1_flush : Int) (p2_keeps : Slc) : M Bool :=
  bindM (law02_alive cv ) fun x17 =>
  (if (!x17) = true then
  pureM false
  else
  bindM (if (decide (((p0_rows.len : Nat) : Int) > 200)) = true then
      pureM true
    else
      pureM (decide (((p2_keeps.len : Nat) : Int) > 200))) fun r1 =>
    (if (r1) = true then
    pureM true
    else
    bindM (device_New 2 4) fun x28 =>
      bindM (if (x28.2 != 0) = true then
        pureM true
      else
        pureM ((x28.1).isNone)) fun r2 =>
      (if (r2) = true then
      pureM false
      else
      bindM (allocM [(.int .u8 0), (.int .u8 0), (.int .u8 0), (.int .u8 0), (.int .u8 0), (.int .u8 0), (.int .u8 0), (.int .u8 0)]) fun x9 =>
        bindM (stA x9 [(.int .u8 0), (.int .u8 0), (.int .u8 0), (.int .u8 0), (.int .u8 0), (.int .u8 0), (.int .u8 0), (.int .u8 0)]) fun _ =>
        bindM (allocM [(.int .u8 0), (.int .u8 0), (.int .u8 0), (.int .u8 0), (.int .u8 0), (.int .u8 0), (.int .u8 0), (.int .u8 0)]) fun x10 =>
        bindM (stA x10 [(.int .u8 0), (.int .u8 0), (.int .u8 0), (.int .u8 0), (.int .u8 0), (.int .u8 0), (.int .u8 0), (.int .u8 0)]) fun _ =>
        loopM (fun (s3 : (Int)) =>
        (if (decide (s3 < ((p0_rows.len : Nat) : Int))) = true then
          bindM (idxM p0_rows s3 1) fun x47 =>
            bindM (ld (Value.int .i64) x47) fun x48 =>
            bindM (allocM (List.replicate 64 (.int .u8 0))) fun x50 =>
            bindM (idxM ⟨some x50, 64, 64⟩ 0 1) fun x55 =>
            bindM (st x55 (.int .u8 (IntKind.wrap .u8 (w64 (s3 + 1))))) fun _ =>
            bindM (device_Rack_Write x28.1 (w64 (Int.tdiv (bAnd .i64 x48 7) 4)) (Int.tmod (bAnd .i64 x48 7) 4) (⟨some x50, 64, 64⟩)) fun x62 =>
            (if (x62 != 0) = true then
            mapR (pureM false)
            else
            bindM (idxA x10 8 (bAnd .i64 x48 7) 1) fun x68 =>
              bindM (st x68 (.int .u8 (IntKind.wrap .u8 (w64 (s3 + 1))))) fun _ =>
              (if (s3 == p1_flush) = true then
              bindM (device_Rack_Flush x28.1 0) fun x73 =>
                bindM (if (x73 != 0) = true then
                  pureM true
                else
                  bindM (device_Rack_Flush x28.1 1) fun x77 =>
                    pureM (x77 != 0)) fun r4 =>
                (if (r4) = true then
                mapR (pureM false)
                else
                bindM (ldA (fun y : (Int × Int × Int × Int × Int × Int × Int × Int) => [(.int .u8 y.1), (.int .u8 y.2.1), (.int .u8 y.2.2.1), (.int .u8 y.2.2.2.1), (.int .u8 y.2.2.2.2.1), (.int .u8 y.2.2.2.2.2.1), (.int .u8 y.2.2.2.2.2.2.1), (.int .u8 y.2.2.2.2.2.2.2)]) x10) fun x80 =>
                  bindM (stA x9 [(.int .u8 x80.1), (.int .u8 x80.2.1), (.int .u8 x80.2.2.1), (.int .u8 x80.2.2.2.1), (.int .u8 x80.2.2.2.2.1), (.int .u8 x80.2.2.2.2.2.1), (.int .u8 x80.2.2.2.2.2.2.1), (.int .u8 x80.2.2.2.2.2.2.2)]) fun _ =>
                  pureM (.inl (w64 (s3 + 1))))
              else
              pureM (.inl (w64 (s3 + 1)))))
          else
          mapR (bindM (device_Rack_Restore cv x28.1 p2_keeps) fun x83 =>
            loopM (fun (s5 : (Int)) =>
            (if (decide (s5 < 8)) = true then
              bindM (device_Rack_Read x28.1 (w64 (Int.tdiv s5 4)) (Int.tmod s5 4)) fun x94 =>
                regionM fun S6 =>
                (if (x94.2 != 0) = true then
                  mapR (pureM false)
                else
                  (if (((x94.1.len : Nat) : Int) != 64) = true then
                      mapR (pureM false)
                    else
                      bindM (idxM x94.1 0 1) fun x106 =>
                        bindM (ldI S6 (Value.int .u8) x106) fun x107 =>
                        bindM (idxA x9 8 s5 1) fun x109 =>
                        bindM (ldI S6 (Value.int .u8) x109) fun x110 =>
                        (if (x107 != x110) = true then
                          bindM (idxM x94.1 0 1) fun x114 =>
                            bindM (ldI S6 (Value.int .u8) x114) fun x115 =>
                            bindM (idxA x10 8 s5 1) fun x117 =>
                            bindM (ldI S6 (Value.int .u8) x117) fun x118 =>
                            (if (x115 != x118) = true then
                            mapR (pureM false)
                            else
                            pureM (.inl (w64 (s5 + 1))))
                        else
                          pureM (.inl (w64 (s5 + 1))))))
              else
              mapR (pureM true))) 0))) 0)))

def law02_DevicePower (cv : CV) (p0_n : Int) (p1_kinds : Slc) : M Bool :=
  bindM (law02_alive cv ) fun x10 =>
  (if (!x10) = true then
  pureM false
  else
  bindM (if (decide (((p1_kinds.len : Nat) : Int) > 300)) = true then
      pureM true
    else
      pureM (decide (p0_n < 0))) fun r1 =>
    (if (r1) = true then
    pureM true
    else
    bindM (device_New 1 2) fun x20 =>
      bindM (if (x20.2 != 0) = true then
        pureM true
      else
        pureM ((x20.1).isNone)) fun r2 =>
      (if (r2) = true then
      pureM false
      else
      bindM (device_Rack_Arm x20.1 p0_n) fun x31 =>
        bindM (allocM (List.replicate 64 (.int .u8 0))) fun x32 =>
        loopM (fun (s3 : (Int)) =>
        (if (decide (s3 < ((p1_kinds.len : Nat) : Int))) = true then
          bindM (idxM p1_kinds s3 1) fun x41 =>
            bindM (ld (Value.int .i64) x41) fun x42 =>
            bindS ((if ((bAnd .i64 x42 3) == 0) = true then
              bindM (device_Rack_Flush x20.1 0) fun x50 =>
                pureM (.inl x50)
              else
              (if ((bAnd .i64 x42 3) == 1) = true then
                bindM (device_Rack_Write x20.1 0 5 (⟨some x32, 64, 64⟩)) fun x55 =>
                  bindM (if (x55 != 11) = true then
                    pureM (decide (s3 < p0_n))
                  else
                    pureM false) fun r5 =>
                  (if (r5) = true then
                  mapR (mapR (pureM false))
                  else
                  bindM (device_Rack_Write x20.1 0 1 (⟨some x32, 64, 64⟩)) fun x64 =>
                    pureM (.inl x64))
                else
                bindM (device_Rack_Write x20.1 0 0 (⟨some x32, 64, 64⟩)) fun x46 =>
                  pureM (.inl x46)))) fun (b4 : (Int)) =>
            (if (!((b4 == 12) == (decide (s3 ≥ p0_n)))) = true then
            mapR (pureM false)
            else
            pureM (.inl (w64 (s3 + 1))))
          else
          mapR (bindM (device_Rack_Read x20.1 0 0) fun x73 =>
            pureM ((x73.2 == 12) == (decide (((p1_kinds.len : Nat) : Int) > p0_n)))))) 0)))

def device_Rack_Load (p0_r : (Option Addr)) (p1_disk : Int) (p2_image : Slc) : M Int :=
  bindM (if (decide (p1_disk < 0)) = true then
    pureM true
  else
    bindM (nilM p0_r) fun x15 =>
      bindM (ld vS x15) fun x17 =>
      pureM (decide (p1_disk ≥ ((x17.len : Nat) : Int)))) fun r1 =>
  (if (r1) = true then
  pureM 11
  else
  bindM (nilM p0_r) fun x22 =>
    bindM (ld vS x22) fun x24 =>
    bindM (idxM x24 p1_disk 1) fun x26 =>
    bindM (ld Value.pointer x26) fun x27 =>
    bindM (nilM x27) fun x29 =>
    bindM (ld Value.map (Addr.add x29 1)) fun x31 =>
    bindM (clearM x31) fun _ =>
    bindM (nilM x27) fun x33 =>
    bindM (ld vS x33) fun x35 =>
    loopM (fun (s2 : (Int)) =>
    (if (decide (s2 < ((x35.len : Nat) : Int))) = true then
      bindM (allocM (List.replicate 64 (.int .u8 0))) fun x40 =>
        bindM (sliceM p2_image (some (minI (w64 (s2 * 64)) ((p2_image.len : Nat) : Int))) (none) 1) fun x48 =>
        bindM (copyM 1 ⟨some x40, 64, 64⟩ x48) fun x49 =>
        bindM (nilM x27) fun x51 =>
        bindM (ld vS x51) fun x53 =>
        bindM (idxM x53 s2 1) fun x56 =>
        bindM (st x56 (.slice (some x40) 64 64)) fun _ =>
        pureM (.inl (w64 (s2 + 1)))
      else
      mapR (pureM 0))) 0)

def law02_DeviceLoads (cv : CV) (p0_image : Slc) (p1_at : Int) : M Bool :=
  bindM (law02_alive cv ) fun x13 =>
  (if (!x13) = true then
  pureM false
  else
  (if (decide (((p0_image.len : Nat) : Int) > 2000)) = true then
    pureM true
    else
    bindM (device_New 2 4) fun x19 =>
      bindM (if (x19.2 != 0) = true then
        pureM true
      else
        pureM ((x19.1).isNone)) fun r1 =>
      (if (r1) = true then
      pureM false
      else
      bindM (allocM (List.replicate 64 (.int .u8 0))) fun x28 =>
        bindM (idxM ⟨some x28, 64, 64⟩ 5 1) fun x30 =>
        bindM (st x30 (.int .u8 1)) fun _ =>
        bindM (device_Rack_Write x19.1 1 (bAnd .i64 p1_at 3) (⟨some x28, 64, 64⟩)) fun x35 =>
        bindM (if (x35 != 0) = true then
          pureM true
        else
          bindM (device_Rack_Load x19.1 1 p0_image) fun x40 =>
            pureM (x40 != 0)) fun r2 =>
        (if (r2) = true then
        pureM false
        else
        bindM (allocM [(.int .i64 1)]) fun x44 =>
          bindM (device_Rack_Restore cv x19.1 (⟨some x44, 1, 1⟩)) fun x45 =>
          loopM (fun (s3 : (Int)) =>
          (if (decide (s3 < 4)) = true then
            bindM (device_Rack_Read x19.1 1 s3) fun x53 =>
              bindM (if (x53.2 != 0) = true then
                pureM true
              else
                pureM (((x53.1.len : Nat) : Int) != 64)) fun r4 =>
              (if (r4) = true then
              mapR (pureM false)
              else
              loopM (fun (s5 : (Int)) =>
                (if (decide (s5 < 64)) = true then
                  bindS ((if (decide ((w64 ((w64 (s3 * 64)) + s5)) < ((p0_image.len : Nat) : Int))) = true then
                      bindM (idxM p0_image (w64 ((w64 (s3 * 64)) + s5)) 1) fun x79 =>
                        bindM (ld (Value.int .u8) x79) fun x80 =>
                        pureM (.inl x80)
                      else
                      pureM (.inl 0))) fun (b6 : (Int)) =>
                    bindM (idxM x53.1 s5 1) fun x83 =>
                    bindM (ld (Value.int .u8) x83) fun x84 =>
                    (if (x84 != b6) = true then
                    mapR (mapR (pureM false))
                    else
                    pureM (.inl (w64 (s5 + 1))))
                  else
                  mapR (pureM (.inl (w64 (s3 + 1)))))) 0)
            else
            mapR (pureM true))) 0))))

def law07_Small  : M (Int × Int × Int) :=
  bindM (allocM [(.int .i64 0), (.int .i64 0), (.int .i64 0)]) fun x0 =>
  bindM (stA x0 [(.int .i64 3), (.int .i64 3), (.int .i64 12)]) fun _ =>
  bindM (ldA (fun y : (Int × Int × Int) => [(.int .i64 y.1), (.int .i64 y.2.1), (.int .i64 y.2.2)]) x0) fun r0 =>
  pureM (r0.1, r0.2.1, r0.2.2)

def law07_Open (p0_m : (Int × Int × Int)) : M ((Option Addr) × (Option Addr)) :=
  bindM (allocM [(.int .i64 p0_m.1), (.int .i64 p0_m.2.1), (.int .i64 p0_m.2.2)]) fun x1 =>
  bindM (law07_Small ) fun x8 =>
  bindM (geo_Sectors (x8.1, x8.2.1, x8.2.2)) fun x9 =>
  bindM (device_New 4 x9) fun x10 =>
  bindM (if (x10.2 != 0) = true then
    pureM true
  else
    pureM ((x10.1).isNone)) fun r1 =>
  (if (r1) = true then
  pureM (none, none)
  else
  regionM fun S2 =>
    bindM (ldAI S2 (fun y : (Int × Int × Int) => [(.int .i64 y.1), (.int .i64 y.2.1), (.int .i64 y.2.2)]) x1) fun x22 =>
    bindM (stepI S2 (law07_Small )) fun x21 =>
    bindM (bank_Open x10.1 (x21.1, x21.2.1, x21.2.2) (x22.1, x22.2.1, x22.2.2)) fun x23 =>
    bindM (if (x23.2 != 0) = true then
      pureM true
    else
      pureM ((x23.1).isNone)) fun r3 =>
    (if (r3) = true then
    pureM (none, none)
    else
    pureM (x23.1, x10.1)))

def geo_Places (p0_g : (Int × Int × Int)) : M Int :=
  bindM (allocM [(.int .i64 p0_g.1), (.int .i64 p0_g.2.1), (.int .i64 p0_g.2.2)]) fun x1 =>
  bindM (ldA (fun y : (Int × Int × Int) => [(.int .i64 y.1), (.int .i64 y.2.1), (.int .i64 y.2.2)]) x1) fun x3 =>
  bindM (geo_Right (x3.1, x3.2.1, x3.2.2)) fun x4 =>
  (if (!x4) = true then
  pureM 0
  else
  bindM (ldA (fun y : (Int × Int × Int) => [(.int .i64 y.1), (.int .i64 y.2.1), (.int .i64 y.2.2)]) x1) fun x6 =>
    bindM (geo_places (x6.1, x6.2.1, x6.2.2)) fun x7 =>
    pureM x7)

def bits_Put (p0_width : Int) (p1_n : Int) : M Slc :=
  bindM (if (decide (p0_width < 1)) = true then
    pureM true
  else
    pureM (decide (p0_width > 4))) fun r1 =>
  bindM (if (r1) = true then
    pureM true
  else
    pureM (decide (p1_n < 0))) fun r2 =>
  bindM (if (r2) = true then
    pureM true
  else
    assertM (0 ≤ (w64 (8 * p0_width))) <|
      pureM (decide ((bShr .i64 p1_n (w64 (8 * p0_width))) > 0))) fun r3 =>
  (if (r3) = true then
  pureM (⟨none, 0, 0⟩)
  else
  bindM (makeM [(.int .u8 0)] 1 p0_width) fun x25 =>
    loopM (fun (s4 : (Int)) =>
    (if (decide (s4 < ((x25.len : Nat) : Int))) = true then
      assertM (0 ≤ (w64 (8 * s4))) <|
        bindM (idxM x25 s4 1) fun x38 =>
        bindM (st x38 (.int .u8 (IntKind.wrap .u8 (bShr .i64 p1_n (w64 (8 * s4)))))) fun _ =>
        pureM (.inl (w64 (s4 + 1)))
      else
      mapR (pureM x25))) 0)

def bits_Pad (p0_b : Slc) (p1_n : Int) : M (Slc × Bool) :=
  bindM (if (decide (p1_n > 65536)) = true then
    pureM true
  else
    pureM (decide (((p0_b.len : Nat) : Int) > p1_n))) fun r1 =>
  (if (r1) = true then
  pureM (⟨none, 0, 0⟩, false)
  else
  bindM (makeM [(.int .u8 0)] 1 p1_n) fun x16 =>
    bindM (copyM 1 x16 p0_b) fun x19 =>
    pureM (x16, true))

def geo_Parity (p0_g : (Int × Int × Int)) (p1_seg : Int) (p2_row : Int) : M ((Int × Int) × Bool) :=
  bindM (allocM [(.int .i64 p0_g.1), (.int .i64 p0_g.2.1), (.int .i64 p0_g.2.2)]) fun x3 =>
  bindM (allocM [(.int .i64 0), (.int .i64 0)]) fun x6 =>
  bindM (ldA (fun y : (Int × Int × Int) => [(.int .i64 y.1), (.int .i64 y.2.1), (.int .i64 y.2.2)]) x3) fun x9 =>
  bindM (geo_Right (x9.1, x9.2.1, x9.2.2)) fun x10 =>
  bindM (if (!x10) = true then
    pureM true
  else
    bindM (ld (Value.int .i64) (Addr.add x3 2)) fun x15 =>
      bindM (geo_within p1_seg 0 (w64 (x15 - 1))) fun x17 =>
      pureM (!x17)) fun r1 =>
  bindM (if (r1) = true then
    pureM true
  else
    bindM (ld (Value.int .i64) (Addr.add x3 1)) fun x23 =>
      bindM (geo_within p2_row 0 (w64 (x23 - 1))) fun x25 =>
      pureM (!x25)) fun r2 =>
  (if (r2) = true then
  bindM (stA x6 [(.int .i64 0), (.int .i64 0)]) fun _ =>
    bindM (ldA (fun y : (Int × Int) => [(.int .i64 y.1), (.int .i64 y.2)]) x6) fun r6 =>
    pureM ((r6.1, r6.2), false)
  else
  bindM (ld (Value.int .i64) (Addr.add x3 1)) fun x31 =>
    regionM fun S3 =>
    bindM (ldI S3 (Value.int .i64) x3) fun x36 =>
    bindM (ldI S3 (Value.int .i64) x3) fun x40 =>
    assertM (x40 ≠ 0) <|
    bindM (stA x6 [(.int .i64 (w64 ((w64 (x36 - 1)) - (Int.tmod (w64 ((w64 (p1_seg * x31)) + p2_row)) x40)))), (.int .i64 (w64 (5 + (w64 ((w64 (p1_seg * x31)) + p2_row)))))]) fun _ =>
    bindM (ldA (fun y : (Int × Int) => [(.int .i64 y.1), (.int .i64 y.2)]) x6) fun r6 =>
    pureM ((r6.1, r6.2), true))

def geo_Block (p0_g : (Int × Int × Int)) (p1_seg : Int) (p2_k : Int) : M ((Int × Int) × Bool) :=
  bindM (allocM [(.int .i64 p0_g.1), (.int .i64 p0_g.2.1), (.int .i64 p0_g.2.2)]) fun x3 =>
  bindM (allocM [(.int .i64 0), (.int .i64 0)]) fun x6 =>
  bindM (ldA (fun y : (Int × Int × Int) => [(.int .i64 y.1), (.int .i64 y.2.1), (.int .i64 y.2.2)]) x3) fun x10 =>
  bindM (geo_Right (x10.1, x10.2.1, x10.2.2)) fun x11 =>
  bindM (if (!x11) = true then
    pureM true
  else
    bindM (ldA (fun y : (Int × Int × Int) => [(.int .i64 y.1), (.int .i64 y.2.1), (.int .i64 y.2.2)]) x3) fun x15 =>
      bindM (geo_places (x15.1, x15.2.1, x15.2.2)) fun x16 =>
      bindM (geo_within p2_k 0 x16) fun x17 =>
      pureM (!x17)) fun r1 =>
  (if (r1) = true then
  bindM (stA x6 [(.int .i64 0), (.int .i64 0)]) fun _ =>
    bindM (ldA (fun y : (Int × Int) => [(.int .i64 y.1), (.int .i64 y.2)]) x6) fun r6 =>
    pureM ((r6.1, r6.2), false)
  else
  regionM fun S2 =>
    bindM (ldAI S2 (fun y : (Int × Int × Int) => [(.int .i64 y.1), (.int .i64 y.2.1), (.int .i64 y.2.2)]) x3) fun x22 =>
    bindM (ldI S2 (Value.int .i64) x3) fun x26 =>
    assertM ((w64 (x26 - 1)) ≠ 0) <|
    (bothM
      (bindM (stepI S2 (geo_Parity (x22.1, x22.2.1, x22.2.2) p1_seg (w64 (Int.tdiv p2_k (w64 (x26 - 1)))))) fun x29 =>
        bindM (stepI S2 (allocM [(.int .i64 0), (.int .i64 0)])) fun x8 =>
        bindM (stA x8 [(.int .i64 x29.1.1), (.int .i64 x29.1.2)]) fun _ =>
        (if (x29.2) = true then
        regionM fun S3 =>
          bindM (ldI S3 (Value.int .i64) x8) fun x34 =>
          bindM (ldI S3 (Value.int .i64) x3) fun x38 =>
          assertM ((w64 (x38 - 1)) ≠ 0) <|
          bindM (ldI S3 (Value.int .i64) x3) fun x43 =>
          assertM (x43 ≠ 0) <|
          bindM (st x8 (.int .i64 (Int.tmod (w64 ((w64 (x34 + 1)) + (Int.tmod p2_k (w64 (x38 - 1))))) x43))) fun _ =>
          bindM (ldA (fun y : (Int × Int) => [(.int .i64 y.1), (.int .i64 y.2)]) x8) fun x46 =>
          bindM (stA x6 [(.int .i64 x46.1), (.int .i64 x46.2)]) fun _ =>
          bindM (ldA (fun y : (Int × Int) => [(.int .i64 y.1), (.int .i64 y.2)]) x6) fun r6 =>
          pureM ((r6.1, r6.2), x29.2)
        else
        bindM (ldA (fun y : (Int × Int) => [(.int .i64 y.1), (.int .i64 y.2)]) x8) fun x46 =>
          bindM (stA x6 [(.int .i64 x46.1), (.int .i64 x46.2)]) fun _ =>
          bindM (ldA (fun y : (Int × Int) => [(.int .i64 y.1), (.int .i64 y.2)]) x6) fun r6 =>
          pureM ((r6.1, r6.2), x29.2)))
      (bindM (stepI S2 (allocM [(.int .i64 0), (.int .i64 0)])) fun x8 =>
        bindM (stepI S2 (geo_Parity (x22.1, x22.2.1, x22.2.2) p1_seg (w64 (Int.tdiv p2_k (w64 (x26 - 1)))))) fun x29 =>
        bindM (stA x8 [(.int .i64 x29.1.1), (.int .i64 x29.1.2)]) fun _ =>
        (if (x29.2) = true then
        regionM fun S4 =>
          bindM (ldI S4 (Value.int .i64) x8) fun x34 =>
          bindM (ldI S4 (Value.int .i64) x3) fun x38 =>
          assertM ((w64 (x38 - 1)) ≠ 0) <|
          bindM (ldI S4 (Value.int .i64) x3) fun x43 =>
          assertM (x43 ≠ 0) <|
          bindM (st x8 (.int .i64 (Int.tmod (w64 ((w64 (x34 + 1)) + (Int.tmod p2_k (w64 (x38 - 1))))) x43))) fun _ =>
          bindM (ldA (fun y : (Int × Int) => [(.int .i64 y.1), (.int .i64 y.2)]) x8) fun x46 =>
          bindM (stA x6 [(.int .i64 x46.1), (.int .i64 x46.2)]) fun _ =>
          bindM (ldA (fun y : (Int × Int) => [(.int .i64 y.1), (.int .i64 y.2)]) x6) fun r6 =>
          pureM ((r6.1, r6.2), x29.2)
        else
        bindM (ldA (fun y : (Int × Int) => [(.int .i64 y.1), (.int .i64 y.2)]) x8) fun x46 =>
          bindM (stA x6 [(.int .i64 x46.1), (.int .i64 x46.2)]) fun _ =>
          bindM (ldA (fun y : (Int × Int) => [(.int .i64 y.1), (.int .i64 y.2)]) x6) fun r6 =>
          pureM ((r6.1, r6.2), x29.2)))))

def stripe_rows_c1 (cv : CV) (p0_yield : Value) (p1_a : Addr) (p2_a : Addr) : M Unit :=
  bindM (ld (Value.int .i64) p1_a) fun x13 =>
  bindM (ld (Value.int .i64) (Addr.add p1_a 1)) fun x16 =>
  loopM (fun (s1 : (Int)) =>
  (if (decide (s1 < x16)) = true then
    loopM (fun (s2 : (Slc × Int)) =>
      (if (decide (s2.2 < (w64 (x13 - 1)))) = true then
        bindM (ldA (fun y : (Int × Int × Int) => [(.int .i64 y.1), (.int .i64 y.2.1), (.int .i64 y.2.2)]) p1_a) fun x25 =>
          bindM (ld (Value.int .i64) p2_a) fun x26 =>
          bindM (geo_Block (x25.1, x25.2.1, x25.2.2) x26 (w64 ((w64 (s1 * (w64 (x13 - 1)))) + s2.2))) fun x32 =>
          bindM (allocM [(.int .i64 0), (.int .i64 0)]) fun x8 =>
          bindM (stA x8 [(.int .i64 x32.1.1), (.int .i64 x32.1.2)]) fun _ =>
          bindM (ldA (fun y : (Int × Int) => [(.int .i64 y.1), (.int .i64 y.2)]) x8) fun x36 =>
          bindM (allocM [(.int .i64 x36.1), (.int .i64 x36.2)]) fun x37 =>
          bindM (appendM [(.int .i64 0), (.int .i64 0)] 16 s2.1 ⟨some x37, 1, 1⟩) fun x38 =>
          pureM (.inl (x38, w64 (s2.2 + 1)))
        else
        mapR (bindM (ldA (fun y : (Int × Int × Int) => [(.int .i64 y.1), (.int .i64 y.2.1), (.int .i64 y.2.2)]) p1_a) fun x41 =>
          bindM (ld (Value.int .i64) p2_a) fun x42 =>
          bindM (geo_Parity (x41.1, x41.2.1, x41.2.2) x42 s1) fun x44 =>
          bindM (allocM [(.int .i64 0), (.int .i64 0)]) fun x10 =>
          bindM (stA x10 [(.int .i64 x44.1.1), (.int .i64 x44.1.2)]) fun _ =>
          bindM (ldA (fun y : (Int × Int) => [(.int .i64 y.1), (.int .i64 y.2)]) x10) fun x50 =>
          bindM (allocM [(.int .i64 x50.1), (.int .i64 x50.2)]) fun x51 =>
          bindM (appendM [(.int .i64 0), (.int .i64 0)] 16 s2.1 ⟨some x51, 1, 1⟩) fun x52 =>
          bindM (cvT cv Value.bool p0_yield #[(.int .i64 s1), (.slice x52.base x52.len x52.cap)]) fun x53 =>
          (if (!x53) = true then
          mapR (pureM ())
          else
          pureM (.inl (w64 (s1 + 1))))))) (⟨none, 0, 0⟩, 0)
    else
    mapR (pureM ()))) 0

def stripe_rows (p0_g : (Int × Int × Int)) (p1_seg : Int) : M Value :=
  bindM (allocM [(.int .i64 p0_g.1), (.int .i64 p0_g.2.1), (.int .i64 p0_g.2.2)]) fun x2 =>
  bindM (allocM [(.int .i64 p1_seg)]) fun x3 =>
  pureM (.func (.func fid_stripe_rows_c1) #[] #[(.pointer (some x2)), (.pointer (some x3))])

def bytes_Equal (p0_a : Slc) (p1_b : Slc) : M Bool :=
  bindM (bstrM p0_a) fun x6 =>
  bindM (bstrM p1_b) fun x8 =>
  pureM (strEq x6 x8)

def bytes_HasPrefix (p0_s : Slc) (p1_prefix : Slc) : M Bool :=
  bindM (if (decide (((p0_s.len : Nat) : Int) ≥ ((p1_prefix.len : Nat) : Int))) = true then
    bindM (sliceM p0_s (none) (some ((p1_prefix.len : Nat) : Int)) 1) fun x14 =>
      bindM (bytes_Equal x14 p1_prefix) fun x16 =>
      pureM x16
  else
    pureM false) fun r1 =>
  pureM r1

def bytes_Clone (p0_b : Slc) : M Slc :=
  (if (p0_b.base.isNone) = true then
  pureM (⟨none, 0, 0⟩)
  else
  bindM (allocM []) fun x5 =>
    bindM (appendM [(.int .u8 0)] 1 ⟨some x5, 0, 0⟩ p0_b) fun x7 =>
    pureM x7)

def bits_Xor (p0_a : Slc) (p1_b : Slc) : M Slc :=
  bindS ((if (decide (((p0_a.len : Nat) : Int) < ((p1_b.len : Nat) : Int))) = true then
    pureM (.inl (p1_b, p0_a))
    else
    pureM (.inl (p0_a, p1_b)))) fun (b1 : (Slc × Slc)) =>
  bindM (bytes_Clone b1.1) fun x16 =>
  loopM (fun (s2 : (Int)) =>
  (if (decide (s2 < ((b1.2.len : Nat) : Int))) = true then
    bindM (idxM b1.2 s2 1) fun x22 =>
      bindM (ld (Value.int .u8) x22) fun x23 =>
      bindM (idxM x16 s2 1) fun x26 =>
      bindM (ld (Value.int .u8) x26) fun x27 =>
      bindM (idxM x16 s2 1) fun x30 =>
      bindM (st x30 (.int .u8 (bXor .u8 x27 x23))) fun _ =>
      pureM (.inl (w64 (s2 + 1)))
    else
    mapR (pureM x16))) 0

def sector_Parity (p0_list : Slc) : M (Slc × Bool) :=
  bindM (if (((p0_list.len : Nat) : Int) == 0) = true then
    pureM true
  else
    bindM (idxM p0_list 0 1) fun x13 =>
      bindM (ld vS x13) fun x14 =>
      pureM (((x14.len : Nat) : Int) != 64)) fun r1 =>
  (if (r1) = true then
  pureM (⟨none, 0, 0⟩, false)
  else
  bindM (idxM p0_list 0 1) fun x19 =>
    bindM (ld vS x19) fun x20 =>
    bindM (sliceM x20 (none) (some 4) 1) fun x21 =>
    loopM (fun (s2 : (Slc × Int)) =>
    (if (decide (s2.2 < ((p0_list.len : Nat) : Int))) = true then
      bindM (idxM p0_list s2.2 1) fun x26 =>
        bindM (ld vS x26) fun x27 =>
        bindM (if (((x27.len : Nat) : Int) != 64) = true then
          pureM true
        else
          bindM (bytes_HasPrefix x27 x21) fun x34 =>
            pureM (!x34)) fun r3 =>
        (if (r3) = true then
        mapR (pureM (⟨none, 0, 0⟩, false))
        else
        bindM (sliceM x27 (some 4) (none) 1) fun x39 =>
          bindM (bits_Xor s2.1 x39) fun x40 =>
          pureM (.inl (x40, w64 (s2.2 + 1))))
      else
      mapR (bindM (bytes_Clone x21) fun x43 =>
        bindM (appendM [(.int .u8 0)] 1 x43 s2.1) fun x45 =>
        pureM (x45, true)))) (⟨none, 0, 0⟩, 0))

def bank_Bank_Off (p0_b : (Option Addr)) : M Bool :=
  bindM (nilM p0_b) fun x4 =>
  bindM (ld Value.pointer x4) fun x6 =>
  bindM (device_Rack_Off x6) fun x7 =>
  pureM x7

def stripe_there (p0_b : (Option Addr)) (p1_seg : Int) : M Int :=
  bindM (if (decide (p1_seg < 0)) = true then
    pureM true
  else
    bindM (bank_Bank_Geo p0_b) fun x11 =>
      pureM (decide (p1_seg ≥ x11.2.2))) fun r1 =>
  (if (r1) = true then
  pureM 28
  else
  bindM (bank_Bank_Off p0_b) fun x17 =>
    (if (x17) = true then
    pureM 12
    else
    pureM 0))

def slices_Index_i (p0_s : Slc) (p1_v : Int) : M Int :=
  loopM (fun (s1 : (Int)) =>
  (if (decide (s1 < ((p0_s.len : Nat) : Int))) = true then
    bindM (idxM p0_s s1 1) fun x14 =>
      bindM (ld (Value.int .i64) x14) fun x15 =>
      (if (p1_v == x15) = true then
      mapR (pureM s1)
      else
      pureM (.inl (w64 (s1 + 1))))
    else
    mapR (pureM (-1)))) 0

def slices_Contains_i (p0_s : Slc) (p1_v : Int) : M Bool :=
  bindM (slices_Index_i p0_s p1_v) fun x7 =>
  pureM (decide (x7 ≥ 0))

def bits_Get (p0_b : Slc) (p1_at : Int) (p2_width : Int) : M (Int × Bool) :=
  bindM (if (decide (p2_width < 1)) = true then
    pureM true
  else
    pureM (decide (p2_width > 4))) fun r1 =>
  bindM (if (r1) = true then
    pureM true
  else
    pureM (decide (p1_at < 0))) fun r2 =>
  bindM (if (r2) = true then
    pureM true
  else
    pureM (decide (p1_at > ((p0_b.len : Nat) : Int)))) fun r3 =>
  bindM (if (r3) = true then
    pureM true
  else
    pureM (decide ((w64 (((p0_b.len : Nat) : Int) - p1_at)) < p2_width))) fun r4 =>
  (if (r4) = true then
  pureM (0, false)
  else
  bindM (sliceM p0_b (some p1_at) (some (w64 (p1_at + p2_width))) 1) fun x40 =>
    loopM (fun (s5 : (Int × Int)) =>
    (if (decide (s5.2 < ((x40.len : Nat) : Int))) = true then
      bindM (idxM x40 s5.2 1) fun x45 =>
        bindM (ld (Value.int .u8) x45) fun x46 =>
        assertM (0 ≤ (w64 (8 * s5.2))) <|
        pureM (.inl (bOr .i64 s5.1 (bShl .i64 (w64 x46) (w64 (8 * s5.2))), w64 (s5.2 + 1)))
      else
      mapR (pureM (s5.1, true)))) (0, 0))

def sector_Decode (p0_b : Slc) : M ((Int × Int × Int) × Slc × Bool) :=
  bindM (allocM [(.int .i64 0), (.int .i64 0), (.int .i64 0)]) fun x2 =>
  (if (((p0_b.len : Nat) : Int) != 64) = true then
  bindM (stA x2 [(.int .i64 0), (.int .i64 0), (.int .i64 0)]) fun _ =>
    bindM (ldA (fun y : (Int × Int × Int) => [(.int .i64 y.1), (.int .i64 y.2.1), (.int .i64 y.2.2)]) x2) fun r2 =>
    pureM ((r2.1, r2.2.1, r2.2.2), ⟨none, 0, 0⟩, false)
  else
  bindM (allocM [(.int .i64 0), (.int .i64 0), (.int .i64 0)]) fun x5 =>
    bindM (bits_Get p0_b 0 4) fun x12 =>
    bindM (st x5 (.int .i64 x12.1)) fun _ =>
    bindM (bits_Get p0_b 4 2) fun x18 =>
    bindM (st (Addr.add x5 1) (.int .i64 x18.1)) fun _ =>
    bindM (bits_Get p0_b 6 2) fun x24 =>
    bindM (st (Addr.add x5 2) (.int .i64 x24.1)) fun _ =>
    regionM fun S1 =>
    bindM (ldAI S1 (fun y : (Int × Int × Int) => [(.int .i64 y.1), (.int .i64 y.2.1), (.int .i64 y.2.2)]) x5) fun x28 =>
    bindM (sliceM p0_b (some 8) (none) 1) fun x30 =>
    bindM (stepI S1 (bytes_Clone x30)) fun x31 =>
    bindM (stA x2 [(.int .i64 x28.1), (.int .i64 x28.2.1), (.int .i64 x28.2.2)]) fun _ =>
    bindM (ldA (fun y : (Int × Int × Int) => [(.int .i64 y.1), (.int .i64 y.2.1), (.int .i64 y.2.2)]) x2) fun r2 =>
    pureM ((r2.1, r2.2.1, r2.2.2), x31, true))

def stripe_Whole (cv : CV) (p0_b : (Option Addr)) (p1_seg : Int) : M (Int × Bool × Int) :=
  bindM (allocM [(.pointer p0_b)]) fun x2 =>
  bindM (allocM [(.int .i64 0)]) fun x4 =>
  bindM (allocM [(.bool false)]) fun x5 =>
  bindM (allocM [(.int .i64 0)]) fun x6 =>
  bindM (ld Value.pointer x2) fun x19 =>
  bindM (stripe_there x19 p1_seg) fun x21 =>
  (if (x21 != 0) = true then
  bindM (st x4 (.int .i64 0)) fun _ =>
    bindM (st x5 (.bool false)) fun _ =>
    bindM (st x6 (.int .i64 x21)) fun _ =>
    bindM (ld (Value.int .i64) x4) fun r4 =>
    bindM (ld Value.bool x5) fun r5 =>
    bindM (ld (Value.int .i64) x6) fun r6 =>
    pureM (r4, r5, r6)
  else
  bindM (ld Value.pointer x2) fun x25 =>
    bindM (bank_Bank_Bad x25) fun x26 =>
    bindM (allocM [(.slice none 0 0)]) fun x8 =>
    bindM (st x8 (.slice x26.base x26.len x26.cap)) fun _ =>
    bindM (ld vS x8) fun x27 =>
    (if (decide (((x27.len : Nat) : Int) > 1)) = true then
    bindM (st x4 (.int .i64 0)) fun _ =>
      bindM (st x5 (.bool false)) fun _ =>
      bindM (st x6 (.int .i64 0)) fun _ =>
      bindM (ld (Value.int .i64) x4) fun r4 =>
      bindM (ld Value.bool x5) fun r5 =>
      bindM (ld (Value.int .i64) x6) fun r6 =>
      pureM (r4, r5, r6)
    else
    bindM (allocM [(.int .i64 0)]) fun x9 =>
      bindM (st x9 (.int .i64 0)) fun _ =>
      bindM (ld Value.pointer x2) fun x30 =>
      bindM (bank_Bank_Geo x30) fun x31 =>
      bindM (stripe_rows (x31.1, x31.2.1, x31.2.2) p1_seg) fun x33 =>
      rangeFM cv x33 (fun x_1 : (Int × Slc) => #[(.int .i64 x_1.1), (.slice x_1.2.base x_1.2.len x_1.2.cap)])
        (fun x_1 => pureM x_1.2)
        (fun (t_1 : (Slc)) => loopM (fun (s2 : (Int)) =>
          (if (decide (s2 < ((t_1.len : Nat) : Int))) = true then
            bindM (idxM t_1 s2 2) fun x40 =>
              bindM (ldA (fun y : (Int × Int) => [(.int .i64 y.1), (.int .i64 y.2)]) x40) fun x41 =>
              bindM (allocM [(.int .i64 0), (.int .i64 0)]) fun x13 =>
              bindM (stA x13 [(.int .i64 x41.1), (.int .i64 x41.2)]) fun _ =>
              bindM (ld vS x8) fun x42 =>
              bindM (ld (Value.int .i64) x13) fun x44 =>
              bindM (slices_Contains_i x42 x44) fun x45 =>
              (if (x45) = true then
              pureM (.inl (w64 (s2 + 1)))
              else
              bindM (ld Value.pointer x2) fun x47 =>
                bindM (ld (Value.int .i64) x13) fun x49 =>
                bindM (ld (Value.int .i64) (Addr.add x13 1)) fun x51 =>
                bindM (bank_Bank_Read x47 x49 x51) fun x52 =>
                bindM (sector_Decode x52.1) fun x57 =>
                bindM (allocM [(.int .i64 0), (.int .i64 0), (.int .i64 0)]) fun x16 =>
                bindM (stA x16 [(.int .i64 x57.1.1), (.int .i64 x57.1.2.1), (.int .i64 x57.1.2.2)]) fun _ =>
                bindM (if (x52.2 != 0) = true then
                  pureM true
                else
                  bindM (ld (Value.int .i64) x16) fun x65 =>
                    pureM (x65 == 0)) fun r3 =>
                bindM (if (r3) = true then
                  pureM true
                else
                  bindM (ld (Value.int .i64) x9) fun x69 =>
                    bindM (if (x69 != 0) = true then
                      bindM (ld (Value.int .i64) x16) fun x73 =>
                        bindM (ld (Value.int .i64) x9) fun x74 =>
                        pureM (x73 != x74)
                    else
                      pureM false) fun r5 =>
                    pureM r5) fun r4 =>
                (if (r4) = true then
                bindM (st x4 (.int .i64 0)) fun _ =>
                  bindM (st x5 (.bool false)) fun _ =>
                  bindM (st x6 (.int .i64 0)) fun _ =>
                  mapR (pureM (.inr .ret))
                else
                bindM (ld (Value.int .i64) x16) fun x79 =>
                  bindM (st x9 (.int .i64 x79)) fun _ =>
                  pureM (.inl (w64 (s2 + 1)))))
            else
            mapR (pureM (.inl ())))) 0)
        (fun D1 => bindM (ld (Value.int .i64) x9) fun x81 =>
          bindM (st x4 (.int .i64 x81)) fun _ =>
          bindM (st x5 (.bool true)) fun _ =>
          bindM (st x6 (.int .i64 0)) fun _ =>
          takesM (D1 :: []) <|
          bindM (ld (Value.int .i64) x4) fun r4 =>
          bindM (ld Value.bool x5) fun r5 =>
          bindM (ld (Value.int .i64) x6) fun r6 =>
          pureM (r4, r5, r6))
        (fun D1 => takesM (D1 :: []) <|
          bindM (ld (Value.int .i64) x4) fun r4 =>
          bindM (ld Value.bool x5) fun r5 =>
          bindM (ld (Value.int .i64) x6) fun r6 =>
          pureM (r4, r5, r6)) (fun D1 i1 => failM)))

def stripe_good (p0_b : (Option Addr)) (p1_s : (Int × Int)) (p2_seq : Int) : M (Slc × Bool) :=
  bindM (allocM [(.int .i64 p1_s.1), (.int .i64 p1_s.2)]) fun x4 =>
  bindM (ld (Value.int .i64) x4) fun x16 =>
  bindM (ld (Value.int .i64) (Addr.add x4 1)) fun x18 =>
  bindM (bank_Bank_Read p0_b x16 x18) fun x19 =>
  (if (x19.2 != 0) = true then
  pureM (⟨none, 0, 0⟩, false)
  else
  bindM (sector_Decode x19.1) fun x26 =>
    bindM (allocM [(.int .i64 0), (.int .i64 0), (.int .i64 0)]) fun x10 =>
    bindM (stA x10 [(.int .i64 x26.1.1), (.int .i64 x26.1.2.1), (.int .i64 x26.1.2.2)]) fun _ =>
    regionM fun S1 =>
    bindM (ldI S1 (Value.int .i64) x10) fun x32 =>
    pureM (x19.1, x32 == p2_seq))

def sector_Restore (p0_list : Slc) : M (Slc × Bool) :=
  bindM (sector_Parity p0_list) fun x5 =>
  pureM (x5.1, x5.2)

def stripe_others (p0_b : (Option Addr)) (p1_r : Slc) (p2_lost : (Int × Int)) (p3_seq : Int) : M (Slc × Bool) :=
  bindM (allocM [(.int .i64 p2_lost.1), (.int .i64 p2_lost.2)]) fun x6 =>
  loopM (fun (s1 : (Slc × Int)) =>
  (if (decide (s1.2 < ((p1_r.len : Nat) : Int))) = true then
    bindM (idxM p1_r s1.2 2) fun x19 =>
      bindM (ldA (fun y : (Int × Int) => [(.int .i64 y.1), (.int .i64 y.2)]) x19) fun x20 =>
      bindM (allocM [(.int .i64 0), (.int .i64 0)]) fun x12 =>
      bindM (stA x12 [(.int .i64 x20.1), (.int .i64 x20.2)]) fun _ =>
      bindM (ldA (fun y : (Int × Int) => [(.int .i64 y.1), (.int .i64 y.2)]) x12) fun x21 =>
      bindM (ldA (fun y : (Int × Int) => [(.int .i64 y.1), (.int .i64 y.2)]) x6) fun x22 =>
      (if (eq2 (x21.1, x21.2) (x22.1, x22.2)) = true then
      pureM (.inl (s1.1, w64 (s1.2 + 1)))
      else
      bindM (ldA (fun y : (Int × Int) => [(.int .i64 y.1), (.int .i64 y.2)]) x12) fun x26 =>
        bindM (stripe_good p0_b (x26.1, x26.2) p3_seq) fun x28 =>
        (if (!x28.2) = true then
        mapR (pureM (⟨none, 0, 0⟩, false))
        else
        bindM (allocM [(.slice x28.1.base x28.1.len x28.1.cap)]) fun x35 =>
          bindM (appendM [(.slice none 0 0)] 24 s1.1 ⟨some x35, 1, 1⟩) fun x36 =>
          pureM (.inl (x36, w64 (s1.2 + 1)))))
    else
    mapR (bindM (sector_Restore s1.1) fun x39 =>
      pureM (x39.1, x39.2)))) (⟨none, 0, 0⟩, 0)

def stripe_Read (cv : CV) (p0_b : (Option Addr)) (p1_seg : Int) (p2_k : Int) (p3_seq : Int) : M ((Int × Int × Slc) × Int) :=
  bindM (allocM [(.pointer p0_b)]) fun x4 =>
  bindM (allocM [(.int .i64 p2_k)]) fun x6 =>
  bindM (allocM [(.int .i64 p3_seq)]) fun x7 =>
  bindM (allocM [(.int .i64 0), (.int .i64 0), (.slice none 0 0)]) fun x8 =>
  bindM (ld Value.pointer x4) fun x19 =>
  bindM (bank_Bank_Geo x19) fun x20 =>
  bindM (allocM [(.int .i64 0), (.int .i64 0), (.int .i64 0)]) fun x10 =>
  bindM (stA x10 [(.int .i64 x20.1), (.int .i64 x20.2.1), (.int .i64 x20.2.2)]) fun _ =>
  bindM (ldA (fun y : (Int × Int × Int) => [(.int .i64 y.1), (.int .i64 y.2.1), (.int .i64 y.2.2)]) x10) fun x22 =>
  bindM (ld (Value.int .i64) x6) fun x24 =>
  bindM (geo_Block (x22.1, x22.2.1, x22.2.2) p1_seg x24) fun x25 =>
  bindM (allocM [(.int .i64 0), (.int .i64 0)]) fun x11 =>
  bindM (allocM [(.bool false)]) fun x12 =>
  bindM (stA x11 [(.int .i64 x25.1.1), (.int .i64 x25.1.2)]) fun _ =>
  bindM (st x12 (.bool x25.2)) fun _ =>
  bindM (ld Value.bool x12) fun x29 =>
  (if (!x29) = true then
  bindM (stA x8 [(.int .i64 0), (.int .i64 0), (.slice none 0 0)]) fun _ =>
    bindM (ldA (fun y : (Int × Int × Slc) => [(.int .i64 y.1), (.int .i64 y.2.1), (.slice y.2.2.base y.2.2.len y.2.2.cap)]) x8) fun r8 =>
    pureM ((r8.1, r8.2.1, r8.2.2), 28)
  else
  bindM (ld Value.pointer x4) fun x33 =>
    bindM (bank_Bank_Off x33) fun x34 =>
    (if (x34) = true then
    bindM (stA x8 [(.int .i64 0), (.int .i64 0), (.slice none 0 0)]) fun _ =>
      bindM (ldA (fun y : (Int × Int × Slc) => [(.int .i64 y.1), (.int .i64 y.2.1), (.slice y.2.2.base y.2.2.len y.2.2.cap)]) x8) fun r8 =>
      pureM ((r8.1, r8.2.1, r8.2.2), 12)
    else
    bindM (ld Value.pointer x4) fun x37 =>
      bindM (ldA (fun y : (Int × Int) => [(.int .i64 y.1), (.int .i64 y.2)]) x11) fun x38 =>
      bindM (ld (Value.int .i64) x7) fun x39 =>
      bindM (stripe_good x37 (x38.1, x38.2) x39) fun x40 =>
      bindM (allocM [(.slice none 0 0)]) fun x13 =>
      bindM (st x13 (.slice x40.1.base x40.1.len x40.1.cap)) fun _ =>
      bindM (st x12 (.bool x40.2)) fun _ =>
      bindM (ld Value.bool x12) fun x43 =>
      bindS ((if (!x43) = true then
        bindM (ldA (fun y : (Int × Int × Int) => [(.int .i64 y.1), (.int .i64 y.2.1), (.int .i64 y.2.2)]) x10) fun x45 =>
          bindM (stripe_rows (x45.1, x45.2.1, x45.2.2) p1_seg) fun x47 =>
          rangeFM cv x47 (fun x_2 : (Int × Slc) => #[(.int .i64 x_2.1), (.slice x_2.2.base x_2.2.len x_2.2.cap)])
            (fun x_2 => pureM (x_2.1, x_2.2))
            (fun (t_2 : (Int × Slc)) => bindM (ld (Value.int .i64) x6) fun x51 =>
              bindM (ld (Value.int .i64) x10) fun x53 =>
              assertM ((w64 (x53 - 1)) ≠ 0) <|
              (if (t_2.1 == (w64 (Int.tdiv x51 (w64 (x53 - 1))))) = true then
              bindM (ld Value.pointer x4) fun x58 =>
                bindM (ldA (fun y : (Int × Int) => [(.int .i64 y.1), (.int .i64 y.2)]) x11) fun x60 =>
                bindM (ld (Value.int .i64) x7) fun x61 =>
                bindM (stripe_others x58 t_2.2 (x60.1, x60.2) x61) fun x62 =>
                bindM (st x13 (.slice x62.1.base x62.1.len x62.1.cap)) fun _ =>
                bindM (st x12 (.bool x62.2)) fun _ =>
                pureM (.inl ())
              else
              pureM (.inl ())))
            (fun D2 => pureM (.inl ((D2 :: []))))
            (fun D2 => failM) (fun D2 i2 => failM)
        else
        pureM (.inl ([])))) fun (b1 : List Nat) =>
      bindM (ld Value.bool x12) fun x65 =>
      (if (!x65) = true then
      bindM (stA x8 [(.int .i64 0), (.int .i64 0), (.slice none 0 0)]) fun _ =>
        takesM b1 <|
        bindM (ldA (fun y : (Int × Int × Slc) => [(.int .i64 y.1), (.int .i64 y.2.1), (.slice y.2.2.base y.2.2.len y.2.2.cap)]) x8) fun r8 =>
        pureM ((r8.1, r8.2.1, r8.2.2), 14)
      else
      bindM (ld vS x13) fun x69 =>
        bindM (sector_Decode x69) fun x70 =>
        bindM (allocM [(.int .i64 0), (.int .i64 0), (.int .i64 0)]) fun x16 =>
        bindM (stA x16 [(.int .i64 x70.1.1), (.int .i64 x70.1.2.1), (.int .i64 x70.1.2.2)]) fun _ =>
        bindM (ld (Value.int .i64) (Addr.add x16 1)) fun x75 =>
        bindM (ld (Value.int .i64) (Addr.add x16 2)) fun x77 =>
        bindM (stA x8 [(.int .i64 x75), (.int .i64 x77), (.slice x70.2.1.base x70.2.1.len x70.2.1.cap)]) fun _ =>
        takesM b1 <|
        bindM (ldA (fun y : (Int × Int × Slc) => [(.int .i64 y.1), (.int .i64 y.2.1), (.slice y.2.2.base y.2.2.len y.2.2.cap)]) x8) fun r8 =>
        pureM ((r8.1, r8.2.1, r8.2.2), 0))))

def law07_fits (p0_blocks : Slc) (p1_most : Int) : M Bool :=
  (if (decide (((p0_blocks.len : Nat) : Int) > p1_most)) = true then
  pureM false
  else
  loopM (fun (s1 : (Int)) =>
    (if (decide (s1 < ((p0_blocks.len : Nat) : Int))) = true then
      bindM (idxM p0_blocks s1 3) fun x19 =>
        bindM (ldA (fun y : (Int × Int × Slc) => [(.int .i64 y.1), (.int .i64 y.2.1), (.slice y.2.2.base y.2.2.len y.2.2.cap)]) x19) fun x20 =>
        bindM (allocM [(.int .i64 0), (.int .i64 0), (.slice none 0 0)]) fun x6 =>
        bindM (stA x6 [(.int .i64 x20.1), (.int .i64 x20.2.1), (.slice x20.2.2.base x20.2.2.len x20.2.2.cap)]) fun _ =>
        bindM (ld vS (Addr.add x6 2)) fun x22 =>
        bindM (if (decide (((x22.len : Nat) : Int) > 56)) = true then
          pureM true
        else
          bindM (ld (Value.int .i64) x6) fun x27 =>
            pureM (decide (x27 < 0))) fun r2 =>
        bindM (if (r2) = true then
          pureM true
        else
          bindM (ld (Value.int .i64) x6) fun x32 =>
            pureM (decide (x32 > 65535))) fun r3 =>
        bindM (if (r3) = true then
          pureM true
        else
          bindM (ld (Value.int .i64) (Addr.add x6 1)) fun x37 =>
            pureM (decide (x37 < 0))) fun r4 =>
        bindM (if (r4) = true then
          pureM true
        else
          bindM (ld (Value.int .i64) (Addr.add x6 1)) fun x42 =>
            pureM (decide (x42 > 65535))) fun r5 =>
        (if (r5) = true then
        mapR (pureM false)
        else
        pureM (.inl (w64 (s1 + 1))))
      else
      mapR (pureM true))) 0)

def law07_same (p0_x : (Int × Int × Slc)) (p1_y : (Int × Int × Slc)) : M Bool :=
  bindM (allocM [(.int .i64 p0_x.1), (.int .i64 p0_x.2.1), (.slice p0_x.2.2.base p0_x.2.2.len p0_x.2.2.cap)]) fun x2 =>
  bindM (allocM [(.int .i64 p1_y.1), (.int .i64 p1_y.2.1), (.slice p1_y.2.2.base p1_y.2.2.len p1_y.2.2.cap)]) fun x3 =>
  bindS (regionM fun S3 =>
    bindM (ldI S3 (Value.int .i64) x2) fun x7 =>
    bindM (ldI S3 (Value.int .i64) x3) fun x9 =>
    (if (x7 != x9) = true then
      pureM (.inl true)
    else
      bindM (ldI S3 (Value.int .i64) (Addr.add x2 1)) fun x13 =>
        bindM (ldI S3 (Value.int .i64) (Addr.add x3 1)) fun x15 =>
        (if (x13 != x15) = true then
          pureM (.inl true)
        else
          bindM (ldI S3 vS (Addr.add x2 2)) fun x20 =>
            (if (((x20.len : Nat) : Int) != 56) = true then
              pureM (.inl true)
            else
              bindM (ldI S3 vS (Addr.add x2 2)) fun x26 =>
                bindM (ldI S3 vS (Addr.add x3 2)) fun x28 =>
                bindM (sliceM x26 (none) (some ((x28.len : Nat) : Int)) 1) fun x30 =>
                bindM (ldI S3 vS (Addr.add x3 2)) fun x32 =>
                bindM (stepI S3 (ref00_SameBytes x30 x32)) fun x33 =>
                pureM (.inl (!x33)))))) fun (b1 : (Bool)) =>
  (if (b1) = true then
  pureM false
  else
  bindM (ld vS (Addr.add x3 2)) fun x37 =>
    loopM (fun (s2 : (Int)) =>
    (if (decide (s2 < 56)) = true then
      bindM (ld vS (Addr.add x2 2)) fun x44 =>
        bindM (idxM x44 s2 1) fun x46 =>
        bindM (ld (Value.int .u8) x46) fun x47 =>
        (if (x47 != 0) = true then
        mapR (pureM false)
        else
        pureM (.inl (w64 (s2 + 1))))
      else
      mapR (pureM true))) ((x37.len : Nat) : Int))

def stripe_Sound (cv : CV) (p0_b : (Option Addr)) (p1_seg : Int) (p2_seq : Int) : M (Bool × Int) :=
  bindM (allocM [(.pointer p0_b)]) fun x3 =>
  bindM (allocM [(.int .i64 p2_seq)]) fun x5 =>
  bindM (allocM [(.bool false)]) fun x6 =>
  bindM (allocM [(.int .i64 0)]) fun x7 =>
  bindM (ld Value.pointer x3) fun x16 =>
  bindM (stripe_there x16 p1_seg) fun x18 =>
  (if (x18 != 0) = true then
  bindM (st x6 (.bool false)) fun _ =>
    bindM (st x7 (.int .i64 x18)) fun _ =>
    bindM (ld Value.bool x6) fun r6 =>
    bindM (ld (Value.int .i64) x7) fun r7 =>
    pureM (r6, r7)
  else
  bindM (ld Value.pointer x3) fun x22 =>
    bindM (bank_Bank_Geo x22) fun x23 =>
    bindM (stripe_rows (x23.1, x23.2.1, x23.2.2) p1_seg) fun x25 =>
    rangeFM cv x25 (fun x_1 : (Int × Slc) => #[(.int .i64 x_1.1), (.slice x_1.2.base x_1.2.len x_1.2.cap)])
      (fun x_1 => pureM x_1.2)
      (fun (t_1 : (Slc)) => bindM (idxM t_1 (w64 (((t_1.len : Nat) : Int) - 1)) 2) fun x32 =>
        bindM (ldA (fun y : (Int × Int) => [(.int .i64 y.1), (.int .i64 y.2)]) x32) fun x33 =>
        bindM (allocM [(.int .i64 0), (.int .i64 0)]) fun x11 =>
        bindM (stA x11 [(.int .i64 x33.1), (.int .i64 x33.2)]) fun _ =>
        bindM (ld Value.pointer x3) fun x35 =>
        bindM (ldA (fun y : (Int × Int) => [(.int .i64 y.1), (.int .i64 y.2)]) x11) fun x36 =>
        bindM (ld (Value.int .i64) x5) fun x37 =>
        bindM (stripe_good x35 (x36.1, x36.2) x37) fun x38 =>
        bindM (ld Value.pointer x3) fun x42 =>
        bindM (ldA (fun y : (Int × Int) => [(.int .i64 y.1), (.int .i64 y.2)]) x11) fun x44 =>
        bindM (ld (Value.int .i64) x5) fun x45 =>
        bindM (stripe_others x42 t_1 (x44.1, x44.2) x45) fun x46 =>
        bindM (if (!x38.2) = true then
          pureM true
        else
          pureM (!x46.2)) fun r2 =>
        bindM (if (r2) = true then
          pureM true
        else
          bindM (bytes_Equal x38.1 x46.1) fun x58 =>
            pureM (!x58)) fun r3 =>
        (if (r3) = true then
        bindM (st x6 (.bool false)) fun _ =>
          bindM (st x7 (.int .i64 0)) fun _ =>
          pureM (.inr .ret)
        else
        pureM (.inl ())))
      (fun D1 => bindM (st x6 (.bool true)) fun _ =>
        bindM (st x7 (.int .i64 0)) fun _ =>
        takesM (D1 :: []) <|
        bindM (ld Value.bool x6) fun r6 =>
        bindM (ld (Value.int .i64) x7) fun r7 =>
        pureM (r6, r7))
      (fun D1 => takesM (D1 :: []) <|
        bindM (ld Value.bool x6) fun r6 =>
        bindM (ld (Value.int .i64) x7) fun r7 =>
        pureM (r6, r7)) (fun D1 i1 => failM))

def law02_great (p0_disks : Int) (p1_sectors : Int) (p2_calls : Slc) : M Bool :=
  bindM (if (decide (((p2_calls.len : Nat) : Int) > 200)) = true then
    pureM true
  else
    pureM (decide (p0_disks > 20))) fun r1 =>
  bindM (if (r1) = true then
    pureM true
  else
    bindM (if (decide (p1_sectors > 100)) = true then
        pureM (decide (p1_sectors ≤ 4096))
      else
        pureM false) fun r5 =>
      pureM r5) fun r2 =>
  (if (r2) = true then
  pureM true
  else
  loopM (fun (s3 : (Int × Int)) =>
    (if (decide (s3.2 < ((p2_calls.len : Nat) : Int))) = true then
      regionM fun S4 =>
        bindM (idxM p2_calls s3.2 5) fun x33 =>
        bindM (ldI S4 vS (Addr.add x33 3)) fun x35 =>
        bindM (idxM p2_calls s3.2 5) fun x39 =>
        bindM (ldI S4 vS (Addr.add x39 4)) fun x41 =>
        (if (decide ((w64 (s3.1 + (w64 (((x35.len : Nat) : Int) + ((x41.len : Nat) : Int))))) > 20000)) = true then
        mapR (pureM true)
        else
        pureM (.inl (w64 (s3.1 + (w64 (((x35.len : Nat) : Int) + ((x41.len : Nat) : Int)))), w64 (s3.2 + 1))))
      else
      mapR (pureM false))) (0, 0))

def ref02_Rack_Failed (p0_r : (Option Addr)) (p1_disk : Int) : M Bool :=
  bindM (if (decide (p1_disk ≥ 0)) = true then
    bindM (nilM p0_r) fun x10 =>
      bindM (ld (Value.int .i64) x10) fun x12 =>
      pureM (decide (p1_disk < x12))
  else
    pureM false) fun r1 =>
  bindM (if (r1) = true then
    bindM (nilM p0_r) fun x17 =>
      bindM (ld vS (Addr.add x17 4)) fun x19 =>
      bindM (idxM x19 p1_disk 1) fun x21 =>
      bindM (ld Value.bool x21) fun x22 =>
      pureM x22
  else
    pureM false) fun r2 =>
  pureM r2

def ref00_CopyBytes (p0_b : Slc) : M Slc :=
  bindM (allocM []) fun x4 =>
  bindM (appendM [(.int .u8 0)] 1 ⟨some x4, 0, 0⟩ p0_b) fun x7 =>
  pureM x7

def ref02_Rack_there (p0_r : (Option Addr)) (p1_disk : Int) (p2_sector : Int) : M Bool :=
  bindM (if (decide (p1_disk ≥ 0)) = true then
    bindM (nilM p0_r) fun x12 =>
      bindM (ld (Value.int .i64) x12) fun x14 =>
      pureM (decide (p1_disk < x14))
  else
    pureM false) fun r1 =>
  bindM (if (r1) = true then
    pureM (decide (p2_sector ≥ 0))
  else
    pureM false) fun r2 =>
  bindM (if (r2) = true then
    bindM (nilM p0_r) fun x24 =>
      bindM (ld (Value.int .i64) (Addr.add x24 1)) fun x26 =>
      pureM (decide (p2_sector < x26))
  else
    pureM false) fun r3 =>
  pureM r3

def ref02_Rack_Lasting (p0_r : (Option Addr)) (p1_disk : Int) (p2_sector : Int) : M (Slc × Int) :=
  bindM (ref02_Rack_there p0_r p1_disk p2_sector) fun x11 =>
  (if (!x11) = true then
  pureM (⟨none, 0, 0⟩, 11)
  else
  regionM fun S1 =>
    bindM (nilM p0_r) fun x14 =>
    bindM (ldI S1 vS (Addr.add x14 2)) fun x16 =>
    bindM (nilM p0_r) fun x19 =>
    bindM (ldI S1 (Value.int .i64) (Addr.add x19 1)) fun x21 =>
    bindM (idxM x16 (w64 ((w64 (p1_disk * x21)) + p2_sector)) 1) fun x25 =>
    bindM (ldI S1 vS x25) fun x26 =>
    bindM (stepI S1 (ref00_CopyBytes x26)) fun x27 =>
    pureM (x27, 0))

def ref02_Rack_Read (p0_r : (Option Addr)) (p1_disk : Int) (p2_sector : Int) : M (Slc × Int) :=
  bindM (nilM p0_r) fun x10 =>
  bindM (ld Value.bool (Addr.add x10 7)) fun x12 =>
  (if (x12) = true then
  pureM (⟨none, 0, 0⟩, 12)
  else
  bindM (ref02_Rack_there p0_r p1_disk p2_sector) fun x16 =>
    (if (!x16) = true then
    pureM (⟨none, 0, 0⟩, 11)
    else
    bindM (nilM p0_r) fun x19 =>
      bindM (ld vS (Addr.add x19 4)) fun x21 =>
      bindM (idxM x21 p1_disk 1) fun x23 =>
      bindM (ld Value.bool x23) fun x24 =>
      (if (x24) = true then
      pureM (⟨none, 0, 0⟩, 13)
      else
      bindM (nilM p0_r) fun x27 =>
        bindM (ld (Value.int .i64) (Addr.add x27 1)) fun x29 =>
        bindM (nilM p0_r) fun x34 =>
        bindM (ld vS (Addr.add x34 3)) fun x36 =>
        bindM (idxM x36 (w64 ((w64 (p1_disk * x29)) + p2_sector)) 1) fun x38 =>
        bindM (ld vS x38) fun x39 =>
        (if (decide (((x39.len : Nat) : Int) > 0)) = true then
        bindM (nilM p0_r) fun x43 =>
          bindM (ld vS (Addr.add x43 3)) fun x45 =>
          bindM (idxM x45 (w64 ((w64 (p1_disk * x29)) + p2_sector)) 1) fun x47 =>
          bindM (ld vS x47) fun x48 =>
          bindM (ref00_CopyBytes x48) fun x49 =>
          pureM (x49, 0)
        else
        bindM (nilM p0_r) fun x51 =>
          bindM (ld vS (Addr.add x51 2)) fun x53 =>
          bindM (idxM x53 (w64 ((w64 (p1_disk * x29)) + p2_sector)) 1) fun x55 =>
          bindM (ld vS x55) fun x56 =>
          bindM (ref00_CopyBytes x56) fun x57 =>
          pureM (x57, 0)))))

def ref02_Rack_call (p0_r : (Option Addr)) : M Int :=
  bindM (nilM p0_r) fun x5 =>
  bindM (ld (Value.int .i64) (Addr.add x5 6)) fun x7 =>
  (if (x7 == 0) = true then
  bindM (nilM p0_r) fun x10 =>
    bindM (st (Addr.add x10 7) (.bool true)) fun _ =>
    pureM 12
  else
  bindM (nilM p0_r) fun x13 =>
    bindM (ld (Value.int .i64) (Addr.add x13 6)) fun x15 =>
    bindS ((if (decide (x15 > 0)) = true then
      bindM (nilM p0_r) fun x18 =>
        bindM (ld (Value.int .i64) (Addr.add x18 6)) fun x20 =>
        bindM (nilM p0_r) fun x22 =>
        bindM (st (Addr.add x22 6) (.int .i64 (w64 (x20 - 1)))) fun _ =>
        pureM (.inl ())
      else
      pureM (.inl ()))) fun (b1 : Unit) =>
    loopM (fun (s2 : (Int)) =>
    bindM (nilM p0_r) fun x26 =>
      bindM (ld (Value.int .i64) x26) fun x28 =>
      (if (decide (s2 < x28)) = true then
      bindM (nilM p0_r) fun x33 =>
        bindM (ld vS (Addr.add x33 4)) fun x35 =>
        bindM (idxM x35 s2 1) fun x37 =>
        bindM (ld Value.bool x37) fun x38 =>
        (if (x38) = true then
        pureM (.inl (w64 (s2 + 1)))
        else
        bindM (nilM p0_r) fun x40 =>
          bindM (ld vS (Addr.add x40 5)) fun x42 =>
          bindM (idxM x42 s2 1) fun x44 =>
          bindM (ld (Value.int .i64) x44) fun x45 =>
          bindS ((if (x45 == 0) = true then
            bindM (nilM p0_r) fun x48 =>
              bindM (ld vS (Addr.add x48 4)) fun x50 =>
              bindM (idxM x50 s2 1) fun x52 =>
              bindM (st x52 (.bool true)) fun _ =>
              pureM (.inl ())
            else
            pureM (.inl ()))) fun (b3 : Unit) =>
          bindM (nilM p0_r) fun x54 =>
          bindM (ld vS (Addr.add x54 5)) fun x56 =>
          bindM (idxM x56 s2 1) fun x58 =>
          bindM (ld (Value.int .i64) x58) fun x59 =>
          (if (decide (x59 > 0)) = true then
          bindM (nilM p0_r) fun x62 =>
            bindM (ld vS (Addr.add x62 5)) fun x64 =>
            bindM (idxM x64 s2 1) fun x66 =>
            bindM (ld (Value.int .i64) x66) fun x67 =>
            bindM (idxM x64 s2 1) fun x69 =>
            bindM (st x69 (.int .i64 (w64 (x67 - 1)))) fun _ =>
            pureM (.inl (w64 (s2 + 1)))
          else
          pureM (.inl (w64 (s2 + 1)))))
      else
      mapR (pureM 0))) 0)

def ref02_Rack_Write (p0_r : (Option Addr)) (p1_disk : Int) (p2_sector : Int) (p3_b : Slc) : M Int :=
  bindM (nilM p0_r) fun x11 =>
  bindM (ld Value.bool (Addr.add x11 7)) fun x13 =>
  (if (x13) = true then
  pureM 12
  else
  bindM (ref02_Rack_there p0_r p1_disk p2_sector) fun x17 =>
    bindM (if (!x17) = true then
      pureM true
    else
      pureM (((p3_b.len : Nat) : Int) != 64)) fun r1 =>
    (if (r1) = true then
    pureM 11
    else
    bindM (ref02_Rack_call p0_r) fun x25 =>
      (if (x25 != 0) = true then
      pureM x25
      else
      bindM (nilM p0_r) fun x30 =>
        bindM (ld vS (Addr.add x30 4)) fun x32 =>
        bindM (idxM x32 p1_disk 1) fun x34 =>
        bindM (ld Value.bool x34) fun x35 =>
        (if (x35) = true then
        pureM 13
        else
        regionM fun S2 =>
          bindM (nilM p0_r) fun x37 =>
          bindM (ldI S2 vS (Addr.add x37 3)) fun x39 =>
          bindM (nilM p0_r) fun x42 =>
          bindM (ldI S2 (Value.int .i64) (Addr.add x42 1)) fun x44 =>
          bindM (stepI S2 (ref00_CopyBytes p3_b)) fun x49 =>
          bindM (idxM x39 (w64 ((w64 (p1_disk * x44)) + p2_sector)) 1) fun x50 =>
          bindM (st x50 (.slice x49.base x49.len x49.cap)) fun _ =>
          pureM 0))))

def ref02_Rack_Flush (p0_r : (Option Addr)) (p1_disk : Int) : M Int :=
  bindM (nilM p0_r) fun x8 =>
  bindM (ld Value.bool (Addr.add x8 7)) fun x10 =>
  (if (x10) = true then
  pureM 12
  else
  bindM (ref02_Rack_there p0_r p1_disk 0) fun x13 =>
    (if (!x13) = true then
    pureM 11
    else
    bindM (ref02_Rack_call p0_r) fun x16 =>
      (if (x16 != 0) = true then
      pureM x16
      else
      bindM (nilM p0_r) fun x21 =>
        bindM (ld vS (Addr.add x21 4)) fun x23 =>
        bindM (idxM x23 p1_disk 1) fun x25 =>
        bindM (ld Value.bool x25) fun x26 =>
        (if (x26) = true then
        pureM 13
        else
        bindM (nilM p0_r) fun x29 =>
          bindM (ld (Value.int .i64) (Addr.add x29 1)) fun x31 =>
          loopM (fun (s1 : (Int)) =>
          bindM (nilM p0_r) fun x37 =>
            bindM (ld (Value.int .i64) (Addr.add x37 1)) fun x39 =>
            (if (decide (s1 < (w64 ((w64 (p1_disk + 1)) * x39)))) = true then
            bindM (nilM p0_r) fun x45 =>
              bindM (ld vS (Addr.add x45 3)) fun x47 =>
              bindM (idxM x47 s1 1) fun x49 =>
              bindM (ld vS x49) fun x50 =>
              (if (decide (((x50.len : Nat) : Int) > 0)) = true then
              regionM fun S2 =>
                bindM (nilM p0_r) fun x54 =>
                bindM (ldI S2 vS (Addr.add x54 2)) fun x56 =>
                bindM (nilM p0_r) fun x59 =>
                bindM (ldI S2 vS (Addr.add x59 3)) fun x61 =>
                bindM (idxM x61 s1 1) fun x63 =>
                bindM (ldI S2 vS x63) fun x64 =>
                bindM (idxM x56 s1 1) fun x65 =>
                bindM (st x65 (.slice x64.base x64.len x64.cap)) fun _ =>
                bindM (nilM p0_r) fun x67 =>
                bindM (ld vS (Addr.add x67 3)) fun x69 =>
                bindM (idxM x69 s1 1) fun x71 =>
                bindM (st x71 (.slice none 0 0)) fun _ =>
                pureM (.inl (w64 (s1 + 1)))
              else
              pureM (.inl (w64 (s1 + 1))))
            else
            mapR (pureM 0))) (w64 (p1_disk * x31))))))

def ref02_Rack_Arm (p0_r : (Option Addr)) (p1_calls : Int) : M Unit :=
  bindM (nilM p0_r) fun x7 =>
  bindM (st (Addr.add x7 6) (.int .i64 (maxI p1_calls (-1)))) fun _ =>
  pureM ()

def ref02_Rack_Doom (p0_r : (Option Addr)) (p1_disk : Int) (p2_calls : Int) : M Int :=
  bindM (if (decide (p1_disk < 0)) = true then
    pureM true
  else
    bindM (nilM p0_r) fun x12 =>
      bindM (ld (Value.int .i64) x12) fun x14 =>
      pureM (decide (p1_disk ≥ x14))) fun r1 =>
  (if (r1) = true then
  pureM 11
  else
  bindM (nilM p0_r) fun x18 =>
    bindM (ld vS (Addr.add x18 5)) fun x20 =>
    bindM (idxM x20 p1_disk 1) fun x24 =>
    bindM (st x24 (.int .i64 (maxI p2_calls (-1)))) fun _ =>
    pureM 0)

def ref00_CopyInts (p0_s : Slc) : M Slc :=
  bindM (allocM []) fun x4 =>
  bindM (appendM [(.int .i64 0)] 8 ⟨some x4, 0, 0⟩ p0_s) fun x7 =>
  pureM x7

def ref02_Rack_Restore (p0_r : (Option Addr)) (p1_keeps : Slc) : M Unit :=
  bindM (nilM p0_r) fun x7 =>
  bindM (st (Addr.add x7 7) (.bool false)) fun _ =>
  bindM (nilM p0_r) fun x10 =>
  bindM (st (Addr.add x10 6) (.int .i64 (-1))) fun _ =>
  loopM (fun (s1 : (Int × Int)) =>
  bindM (nilM p0_r) fun x14 =>
    bindM (ld vS (Addr.add x14 3)) fun x16 =>
    (if (decide (s1.2 < ((x16.len : Nat) : Int))) = true then
    bindM (nilM p0_r) fun x22 =>
      bindM (ld vS (Addr.add x22 3)) fun x24 =>
      bindM (idxM x24 s1.2 1) fun x26 =>
      bindM (ld vS x26) fun x27 =>
      (if (((x27.len : Nat) : Int) == 0) = true then
      pureM (.inl (s1.1, w64 (s1.2 + 1)))
      else
      bindS (regionM fun S5 =>
          (if (decide (((p1_keeps.len : Nat) : Int) > 0)) = true then
            assertM (((p1_keeps.len : Nat) : Int) ≠ 0) <|
              bindM (idxM p1_keeps (Int.tmod s1.1 ((p1_keeps.len : Nat) : Int)) 1) fun x39 =>
              bindM (ldI S5 (Value.int .i64) x39) fun x40 =>
              (if ((bAnd .i64 x40 1) == 1) = true then
                bindM (nilM p0_r) fun x46 =>
                  bindM (ldI S5 vS (Addr.add x46 4)) fun x48 =>
                  bindM (nilM p0_r) fun x51 =>
                  bindM (ldI S5 (Value.int .i64) (Addr.add x51 1)) fun x53 =>
                  assertM (x53 ≠ 0) <|
                  bindM (idxM x48 (w64 (Int.tdiv s1.2 x53)) 1) fun x55 =>
                  bindM (ldI S5 Value.bool x55) fun x56 =>
                  pureM (.inl (!x56))
              else
                pureM (.inl false))
          else
            pureM (.inl false))) fun (b2 : (Bool)) =>
        bindS ((if (b2) = true then
          regionM fun S4 =>
            bindM (nilM p0_r) fun x60 =>
            bindM (ldI S4 vS (Addr.add x60 2)) fun x62 =>
            bindM (nilM p0_r) fun x65 =>
            bindM (ldI S4 vS (Addr.add x65 3)) fun x67 =>
            bindM (idxM x67 s1.2 1) fun x69 =>
            bindM (ldI S4 vS x69) fun x70 =>
            bindM (idxM x62 s1.2 1) fun x71 =>
            bindM (st x71 (.slice x70.base x70.len x70.cap)) fun _ =>
            pureM (.inl ())
          else
          pureM (.inl ()))) fun (b3 : Unit) =>
        bindM (nilM p0_r) fun x73 =>
        bindM (ld vS (Addr.add x73 3)) fun x75 =>
        bindM (idxM x75 s1.2 1) fun x77 =>
        bindM (st x77 (.slice none 0 0)) fun _ =>
        pureM (.inl (w64 (s1.1 + 1), w64 (s1.2 + 1))))
    else
    mapR (pureM ()))) (0, 0)

def ref02_Rack_Load (p0_r : (Option Addr)) (p1_disk : Int) (p2_image : Slc) : M Int :=
  bindM (if (decide (p1_disk < 0)) = true then
    pureM true
  else
    bindM (nilM p0_r) fun x15 =>
      bindM (ld (Value.int .i64) x15) fun x17 =>
      pureM (decide (p1_disk ≥ x17))) fun r1 =>
  (if (r1) = true then
  pureM 11
  else
  loopM (fun (s2 : (Int)) =>
    bindM (nilM p0_r) fun x22 =>
      bindM (ld (Value.int .i64) (Addr.add x22 1)) fun x24 =>
      (if (decide (s2 < x24)) = true then
      bindM (allocM (List.replicate 64 (.int .u8 0))) fun x28 =>
        loopM (fun (s3 : (Int)) =>
        bindM (if (decide (s3 < 64)) = true then
            pureM (decide ((w64 ((w64 (s2 * 64)) + s3)) < ((p2_image.len : Nat) : Int)))
          else
            pureM false) fun r4 =>
          (if (r4) = true then
          bindM (idxM p2_image (w64 ((w64 (s2 * 64)) + s3)) 1) fun x49 =>
            bindM (ld (Value.int .u8) x49) fun x50 =>
            bindM (idxM ⟨some x28, 64, 64⟩ s3 1) fun x51 =>
            bindM (st x51 (.int .u8 x50)) fun _ =>
            pureM (.inl (w64 (s3 + 1)))
          else
          mapR (regionM fun S5 =>
            bindM (nilM p0_r) fun x53 =>
            bindM (ldI S5 vS (Addr.add x53 2)) fun x55 =>
            bindM (nilM p0_r) fun x58 =>
            bindM (ldI S5 (Value.int .i64) (Addr.add x58 1)) fun x60 =>
            bindM (idxM x55 (w64 ((w64 (p1_disk * x60)) + s2)) 1) fun x65 =>
            bindM (st x65 (.slice (some x28) 64 64)) fun _ =>
            regionM fun S6 =>
            bindM (nilM p0_r) fun x67 =>
            bindM (ldI S6 vS (Addr.add x67 3)) fun x69 =>
            bindM (nilM p0_r) fun x72 =>
            bindM (ldI S6 (Value.int .i64) (Addr.add x72 1)) fun x74 =>
            bindM (idxM x69 (w64 ((w64 (p1_disk * x74)) + s2)) 1) fun x78 =>
            bindM (st x78 (.slice none 0 0)) fun _ =>
            pureM (.inl (w64 (s2 + 1)))))) 0
      else
      mapR (pureM 0))) 0)

def law02_told (cv : CV) (p0_r : (Option Addr)) (p1_m : (Option Addr)) (p2_c : (Int × Int × Int × Slc × Slc)) : M Bool :=
  bindM (allocM [(.int .i64 p2_c.1), (.int .i64 p2_c.2.1), (.int .i64 p2_c.2.2.1), (.slice p2_c.2.2.2.1.base p2_c.2.2.2.1.len p2_c.2.2.2.1.cap), (.slice p2_c.2.2.2.2.base p2_c.2.2.2.2.len p2_c.2.2.2.2.cap)]) fun x5 =>
  bindM (ld (Value.int .i64) x5) fun x18 =>
  bindS ((if (x18 == 0) = true then
    bindM (ld (Value.int .i64) (Addr.add x5 1)) fun x24 =>
      bindM (ld (Value.int .i64) (Addr.add x5 2)) fun x26 =>
      bindM (device_Rack_Read p0_r x24 x26) fun x27 =>
      bindM (ld (Value.int .i64) (Addr.add x5 1)) fun x33 =>
      bindM (ld (Value.int .i64) (Addr.add x5 2)) fun x35 =>
      bindM (ref02_Rack_Read p1_m x33 x35) fun x36 =>
      bindM (ref00_SameBytes x27.1 x36.1) fun x41 =>
      bindM (if (x41) = true then
        pureM (x27.2 == x36.2)
      else
        pureM false) fun r3 =>
      mapR (pureM r3)
    else
    (if (x18 == 1) = true then
      bindM (ld vS (Addr.add x5 3)) fun x50 =>
        bindM (ref00_CopyBytes x50) fun x51 =>
        regionM fun S4 =>
        bindM (ldI S4 (Value.int .i64) (Addr.add x5 1)) fun x54 =>
        bindM (ldI S4 (Value.int .i64) (Addr.add x5 2)) fun x56 =>
        bindM (ldI S4 (Value.int .i64) (Addr.add x5 1)) fun x61 =>
        bindM (ldI S4 (Value.int .i64) (Addr.add x5 2)) fun x63 =>
        bindM (ldI S4 vS (Addr.add x5 3)) fun x65 =>
        bindM (stepI S4 (device_Rack_Write p0_r x54 x56 x51)) fun x58 =>
        bindM (stepI S4 (ref02_Rack_Write p1_m x61 x63 x65)) fun x66 =>
        (if (x58 == x66) = true then
          bindM (ldI S4 vS (Addr.add x5 3)) fun x71 =>
            bindM (stepI S4 (ref00_SameBytes x51 x71)) fun x72 =>
            mapR (pureM x72)
        else
          mapR (pureM false))
      else
      (if (x18 == 2) = true then
        regionM fun S5 =>
          bindM (ldI S5 (Value.int .i64) (Addr.add x5 1)) fun x78 =>
          bindM (ldI S5 (Value.int .i64) (Addr.add x5 1)) fun x82 =>
          bindM (stepI S5 (device_Rack_Flush p0_r x78)) fun x79 =>
          bindM (stepI S5 (ref02_Rack_Flush p1_m x82)) fun x83 =>
          mapR (pureM (x79 == x83))
        else
        (if (x18 == 3) = true then
          bindM (ld (Value.int .i64) (Addr.add x5 2)) fun x89 =>
            bindM (device_Rack_Arm p0_r x89) fun x90 =>
            bindM (ld (Value.int .i64) (Addr.add x5 2)) fun x93 =>
            bindM (ref02_Rack_Arm p1_m x93) fun x94 =>
            pureM (.inl ())
          else
          (if (x18 == 4) = true then
            regionM fun S6 =>
              bindM (ldI S6 (Value.int .i64) (Addr.add x5 1)) fun x99 =>
              bindM (ldI S6 (Value.int .i64) (Addr.add x5 2)) fun x101 =>
              bindM (ldI S6 (Value.int .i64) (Addr.add x5 1)) fun x105 =>
              bindM (ldI S6 (Value.int .i64) (Addr.add x5 2)) fun x107 =>
              bindM (stepI S6 (device_Rack_Doom p0_r x99 x101)) fun x102 =>
              bindM (stepI S6 (ref02_Rack_Doom p1_m x105 x107)) fun x108 =>
              mapR (pureM (x102 == x108))
            else
            (if (x18 == 5) = true then
              bindM (ld vS (Addr.add x5 4)) fun x114 =>
                bindM (ref00_CopyInts x114) fun x115 =>
                bindM (device_Rack_Restore cv p0_r x115) fun x116 =>
                bindM (ld vS (Addr.add x5 4)) fun x119 =>
                bindM (ref02_Rack_Restore p1_m x119) fun x120 =>
                pureM (.inl ())
              else
              (if (x18 == 6) = true then
                bindM (ld vS (Addr.add x5 3)) fun x124 =>
                  bindM (ref00_CopyBytes x124) fun x125 =>
                  regionM fun S7 =>
                  bindM (ldI S7 (Value.int .i64) (Addr.add x5 1)) fun x128 =>
                  bindM (ldI S7 (Value.int .i64) (Addr.add x5 1)) fun x133 =>
                  bindM (ldI S7 vS (Addr.add x5 3)) fun x135 =>
                  bindM (stepI S7 (device_Rack_Load p0_r x128 x125)) fun x130 =>
                  bindM (stepI S7 (ref02_Rack_Load p1_m x133 x135)) fun x136 =>
                  (if (x130 == x136) = true then
                    bindM (ldI S7 vS (Addr.add x5 3)) fun x141 =>
                      bindM (stepI S7 (ref00_SameBytes x125 x141)) fun x142 =>
                      mapR (pureM x142)
                  else
                    mapR (pureM false))
                else
                (if (x18 == 7) = true then
                  bindM (ld (Value.int .i64) (Addr.add x5 1)) fun x149 =>
                    bindM (ld (Value.int .i64) (Addr.add x5 2)) fun x151 =>
                    bindM (device_Rack_Lasting p0_r x149 x151) fun x152 =>
                    bindM (ld (Value.int .i64) (Addr.add x5 1)) fun x158 =>
                    bindM (ld (Value.int .i64) (Addr.add x5 2)) fun x160 =>
                    bindM (ref02_Rack_Lasting p1_m x158 x160) fun x161 =>
                    bindM (ref00_SameBytes x152.1 x161.1) fun x166 =>
                    bindM (if (x166) = true then
                      pureM (x152.2 == x161.2)
                    else
                      pureM false) fun r8 =>
                    mapR (pureM r8)
                  else
                  pureM (.inl ())))))))))) fun (b1 : Unit) =>
  regionM fun S2 =>
  bindM (nilM p1_m) fun x175 =>
  bindM (ldI S2 Value.bool (Addr.add x175 7)) fun x177 =>
  bindM (stepI S2 (device_Rack_Off p0_r)) fun x173 =>
  (if (x173 == x177) = true then
    bindM (ldI S2 (Value.int .i64) (Addr.add x5 1)) fun x182 =>
      bindM (ldI S2 (Value.int .i64) (Addr.add x5 1)) fun x186 =>
      bindM (stepI S2 (device_Rack_Failed p0_r x182)) fun x183 =>
      bindM (stepI S2 (ref02_Rack_Failed p1_m x186)) fun x187 =>
      pureM (x183 == x187)
  else
    pureM false)

def law02_DeviceFails (cv : CV) (p0_calls : Slc) (p1_at : Int) : M Bool :=
  bindM (law02_alive cv ) fun x13 =>
  (if (!x13) = true then
  pureM false
  else
  bindM (law02_great 3 4 p0_calls) fun x16 =>
    (if (x16) = true then
    pureM true
    else
    bindM (device_New 3 4) fun x18 =>
      bindM (if (x18.2 != 0) = true then
        pureM true
      else
        pureM ((x18.1).isNone)) fun r1 =>
      bindM (if (r1) = true then
        pureM true
      else
        bindM (device_Rack_Doom x18.1 1 0) fun x29 =>
          pureM (x29 != 0)) fun r2 =>
      (if (r2) = true then
      pureM false
      else
      bindM (allocM (List.replicate 64 (.int .u8 0))) fun x32 =>
        bindM (device_Rack_Write x18.1 0 0 (⟨some x32, 64, 64⟩)) fun x35 =>
        bindM (if (x35 != 0) = true then
          pureM true
        else
          bindM (device_Rack_Failed x18.1 1) fun x39 =>
            pureM (!x39)) fun r3 =>
        bindM (if (r3) = true then
          pureM true
        else
          bindM (device_Rack_Failed x18.1 0) fun x44 =>
            pureM x44) fun r4 =>
        (if (r4) = true then
        pureM false
        else
        loopM (fun (s5 : (Int)) =>
          (if (decide (s5 < ((p0_calls.len : Nat) : Int))) = true then
            bindM (idxM p0_calls s5 5) fun x54 =>
              bindM (ldA (fun y : (Int × Int × Int × Slc × Slc) => [(.int .i64 y.1), (.int .i64 y.2.1), (.int .i64 y.2.2.1), (.slice y.2.2.2.1.base y.2.2.2.1.len y.2.2.2.1.cap), (.slice y.2.2.2.2.base y.2.2.2.2.len y.2.2.2.2.cap)]) x54) fun x55 =>
              bindM (allocM [(.int .i64 0), (.int .i64 0), (.int .i64 0), (.slice none 0 0), (.slice none 0 0)]) fun x9 =>
              bindM (stA x9 [(.int .i64 x55.1), (.int .i64 x55.2.1), (.int .i64 x55.2.2.1), (.slice x55.2.2.2.1.base x55.2.2.2.1.len x55.2.2.2.1.cap), (.slice x55.2.2.2.2.base x55.2.2.2.2.len x55.2.2.2.2.cap)]) fun _ =>
              bindM (ld (Value.int .i64) x9) fun x57 =>
              bindM (if (x57 == 3) = true then
                pureM true
              else
                bindM (ld (Value.int .i64) x9) fun x61 =>
                  pureM (x61 == 4)) fun r6 =>
              (if (r6) = true then
              pureM (.inl (w64 (s5 + 1)))
              else
              bindM (allocM [(.int .i64 0), (.int .i64 0), (.slice none 0 0), (.slice none 0 0), (.slice none 0 0), (.slice none 0 0), (.int .i64 0), (.bool false)]) fun x10 =>
                bindM (stA x10 [(.int .i64 0), (.int .i64 0), (.slice none 0 0), (.slice none 0 0), (.slice none 0 0), (.slice none 0 0), (.int .i64 0), (.bool false)]) fun _ =>
                bindM (ref02_New 3 4) fun x66 =>
                bindM (stA x10 [(.int .i64 x66.1.1), (.int .i64 x66.1.2.1), (.slice x66.1.2.2.1.base x66.1.2.2.1.len x66.1.2.2.1.cap), (.slice x66.1.2.2.2.1.base x66.1.2.2.2.1.len x66.1.2.2.2.1.cap), (.slice x66.1.2.2.2.2.1.base x66.1.2.2.2.2.1.len x66.1.2.2.2.2.1.cap), (.slice x66.1.2.2.2.2.2.1.base x66.1.2.2.2.2.2.1.len x66.1.2.2.2.2.2.1.cap), (.int .i64 x66.1.2.2.2.2.2.2.1), (.bool x66.1.2.2.2.2.2.2.2)]) fun _ =>
                bindM (ldA (fun y : (Int × Int × Int × Slc × Slc) => [(.int .i64 y.1), (.int .i64 y.2.1), (.int .i64 y.2.2.1), (.slice y.2.2.2.1.base y.2.2.2.1.len y.2.2.2.1.cap), (.slice y.2.2.2.2.base y.2.2.2.2.len y.2.2.2.2.cap)]) x9) fun x70 =>
                bindM (law02_told cv x18.1 (some x10) (x70.1, x70.2.1, x70.2.2.1, x70.2.2.2.1, x70.2.2.2.2)) fun x71 =>
                bindM (device_Rack_Read x18.1 1 (bAnd .i64 p1_at 3)) fun x76 =>
                bindM (device_Rack_Off x18.1) fun x80 =>
                bindM (if (x80) = true then
                  pureM true
                else
                  pureM (x76.2 != 13)) fun r7 =>
                bindM (if (r7) = true then
                  pureM true
                else
                  bindM (device_Rack_Write x18.1 1 (bAnd .i64 p1_at 3) (⟨some x32, 64, 64⟩)) fun x90 =>
                    pureM (x90 != 13)) fun r8 =>
                bindM (if (r8) = true then
                  pureM true
                else
                  bindM (device_Rack_Flush x18.1 1) fun x95 =>
                    pureM (x95 != 13)) fun r9 =>
                bindM (if (r9) = true then
                  pureM true
                else
                  bindM (device_Rack_Failed x18.1 1) fun x100 =>
                    pureM (!x100)) fun r10 =>
                (if (r10) = true then
                mapR (pureM false)
                else
                pureM (.inl (w64 (s5 + 1)))))
            else
            mapR (pureM true))) 0))))

def law02_DeviceCalls (cv : CV) (p0_disks : Int) (p1_sectors : Int) (p2_calls : Slc) : M Bool :=
  bindM (law02_alive cv ) fun x20 =>
  (if (!x20) = true then
  pureM false
  else
  bindM (law02_great p0_disks p1_sectors p2_calls) fun x25 =>
    (if (x25) = true then
    pureM true
    else
    bindM (device_New p0_disks p1_sectors) fun x29 =>
      bindM (ref02_New p0_disks p1_sectors) fun x35 =>
      bindM (allocM [(.int .i64 0), (.int .i64 0), (.slice none 0 0), (.slice none 0 0), (.slice none 0 0), (.slice none 0 0), (.int .i64 0), (.bool false)]) fun x9 =>
      bindM (stA x9 [(.int .i64 x35.1.1), (.int .i64 x35.1.2.1), (.slice x35.1.2.2.1.base x35.1.2.2.1.len x35.1.2.2.1.cap), (.slice x35.1.2.2.2.1.base x35.1.2.2.2.1.len x35.1.2.2.2.1.cap), (.slice x35.1.2.2.2.2.1.base x35.1.2.2.2.2.1.len x35.1.2.2.2.2.1.cap), (.slice x35.1.2.2.2.2.2.1.base x35.1.2.2.2.2.2.1.len x35.1.2.2.2.2.2.1.cap), (.int .i64 x35.1.2.2.2.2.2.2.1), (.bool x35.1.2.2.2.2.2.2.2)]) fun _ =>
      bindM (if (x29.2 != x35.2) = true then
        pureM true
      else
        pureM (!(((x29.1).isNone) == (x29.2 != 0)))) fun r1 =>
      (if (r1) = true then
      pureM false
      else
      bindM (if (x29.2 != 0) = true then
          pureM true
        else
          pureM ((x29.1).isNone)) fun r2 =>
        (if (r2) = true then
        pureM true
        else
        loopM (fun (s3 : (Int)) =>
          (if (decide (s3 < ((p2_calls.len : Nat) : Int))) = true then
            regionM fun S4 =>
              bindM (idxM p2_calls s3 5) fun x63 =>
              bindM (ldAI S4 (fun y : (Int × Int × Int × Slc × Slc) => [(.int .i64 y.1), (.int .i64 y.2.1), (.int .i64 y.2.2.1), (.slice y.2.2.2.1.base y.2.2.2.1.len y.2.2.2.1.cap), (.slice y.2.2.2.2.base y.2.2.2.2.len y.2.2.2.2.cap)]) x63) fun x64 =>
              bindM (stepI S4 (law02_told cv x29.1 (some x9) (x64.1, x64.2.1, x64.2.2.1, x64.2.2.2.1, x64.2.2.2.2))) fun x65 =>
              againM S4 fun S5 =>
              (if (!x65) = true then
                mapR (pureM false)
              else
                bindM (ldI S5 Value.bool (Addr.add x9 7)) fun x71 =>
                  bindM (stepI S5 (device_Rack_Off x29.1)) fun x69 =>
                  (if (!(x69 == x71)) = true then
                  mapR (pureM false)
                  else
                  pureM (.inl (w64 (s3 + 1)))))
            else
            mapR (bindM (device_Rack_Size x29.1) fun x76 =>
              loopM (fun (s6 : (Int)) =>
              (if (decide (s6 < x76.1)) = true then
                bindM (device_Rack_Failed x29.1 s6) fun x86 =>
                  bindM (ref02_Rack_Failed (some x9) s6) fun x88 =>
                  (if (!(x86 == x88)) = true then
                  mapR (pureM false)
                  else
                  loopM (fun (s7 : (Int)) =>
                    (if (decide (s7 < x76.2)) = true then
                      bindM (device_Rack_Lasting x29.1 s6 s7) fun x99 =>
                        bindM (ref02_Rack_Lasting (some x9) s6 s7) fun x105 =>
                        bindM (ref00_SameBytes x99.1 x105.1) fun x110 =>
                        (if (!x110) = true then
                        mapR (mapR (pureM false))
                        else
                        pureM (.inl (w64 (s7 + 1))))
                      else
                      mapR (pureM (.inl (w64 (s6 + 1)))))) 0)
                else
                mapR (bindM (if (x76.1 == p0_disks) = true then
                    pureM (x76.2 == p1_sectors)
                  else
                    pureM false) fun r8 =>
                  pureM r8))) 0))) 0))))

def law06_BankLasts (cv : CV) (p0_m : (Int × Int × Int)) (p1_spots : Slc) (p2_data : Slc) : M Bool :=
  bindM (allocM [(.int .i64 p0_m.1), (.int .i64 p0_m.2.1), (.int .i64 p0_m.2.2)]) fun x3 =>
  bindM (law06_alive ) fun x17 =>
  (if (!x17) = true then
  pureM false
  else
  bindM (if (decide (((p1_spots.len : Nat) : Int) > 100)) = true then
      pureM true
    else
      pureM (((p2_data.len : Nat) : Int) != 64)) fun r1 =>
    (if (r1) = true then
    pureM true
    else
    bindM (law06_Small ) fun x28 =>
      bindM (geo_Sectors (x28.1, x28.2.1, x28.2.2)) fun x29 =>
      bindM (device_New 4 x29) fun x30 =>
      bindM (if (x30.2 != 0) = true then
        pureM true
      else
        pureM ((x30.1).isNone)) fun r2 =>
      (if (r2) = true then
      pureM false
      else
      regionM fun S3 =>
        bindM (ldAI S3 (fun y : (Int × Int × Int) => [(.int .i64 y.1), (.int .i64 y.2.1), (.int .i64 y.2.2)]) x3) fun x42 =>
        bindM (stepI S3 (law06_Small )) fun x41 =>
        bindM (bank_Open x30.1 (x41.1, x41.2.1, x41.2.2) (x42.1, x42.2.1, x42.2.2)) fun x43 =>
        bindM (if (x43.2 != 0) = true then
          pureM true
        else
          pureM ((x43.1).isNone)) fun r4 =>
        (if (r4) = true then
        pureM true
        else
        bindM (allocM (List.replicate 123 (.bool false))) fun x10 =>
          bindM (stA x10 [(.bool false), (.bool false), (.bool false), (.bool false), (.bool false), (.bool false), (.bool false), (.bool false), (.bool false), (.bool false), (.bool false), (.bool false), (.bool false), (.bool false), (.bool false), (.bool false), (.bool false), (.bool false), (.bool false), (.bool false), (.bool false), (.bool false), (.bool false), (.bool false), (.bool false), (.bool false), (.bool false), (.bool false), (.bool false), (.bool false), (.bool false), (.bool false), (.bool false), (.bool false), (.bool false), (.bool false), (.bool false), (.bool false), (.bool false), (.bool false), (.bool false), (.bool false), (.bool false), (.bool false), (.bool false), (.bool false), (.bool false), (.bool false), (.bool false), (.bool false), (.bool false), (.bool false), (.bool false), (.bool false), (.bool false), (.bool false), (.bool false), (.bool false), (.bool false), (.bool false), (.bool false), (.bool false), (.bool false), (.bool false), (.bool false), (.bool false), (.bool false), (.bool false), (.bool false), (.bool false), (.bool false), (.bool false), (.bool false), (.bool false), (.bool false), (.bool false), (.bool false), (.bool false), (.bool false), (.bool false), (.bool false), (.bool false), (.bool false), (.bool false), (.bool false), (.bool false), (.bool false), (.bool false), (.bool false), (.bool false), (.bool false), (.bool false), (.bool false), (.bool false), (.bool false), (.bool false), (.bool false), (.bool false), (.bool false), (.bool false), (.bool false), (.bool false), (.bool false), (.bool false), (.bool false), (.bool false), (.bool false), (.bool false), (.bool false), (.bool false), (.bool false), (.bool false), (.bool false), (.bool false), (.bool false), (.bool false), (.bool false), (.bool false), (.bool false), (.bool false), (.bool false), (.bool false), (.bool false)]) fun _ =>
          loopM (fun (s5 : (Int)) =>
          (if (decide (s5 < ((p1_spots.len : Nat) : Int))) = true then
            bindM (idxM p1_spots s5 1) fun x61 =>
              bindM (ld (Value.int .i64) x61) fun x62 =>
              bindM (bank_Bank_Write x43.1 (w64 (Int.tdiv (Int.tmod (bAnd .i64 x62 1023) 123) 41)) (Int.tmod (Int.tmod (bAnd .i64 x62 1023) 123) 41) p2_data) fun x71 =>
              (if (x71 != 0) = true then
              mapR (pureM false)
              else
              bindM (idxA x10 123 (Int.tmod (bAnd .i64 x62 1023) 123) 1) fun x74 =>
                bindM (st x74 (.bool true)) fun _ =>
                pureM (.inl (w64 (s5 + 1))))
            else
            mapR (bindM (bank_Bank_Flush cv x43.1) fun x76 =>
              (if (x76 != 0) = true then
              pureM false
              else
              bindM (device_Rack_Restore cv x30.1 (⟨none, 0, 0⟩)) fun x79 =>
                loopM (fun (s6 : (Int)) =>
                (if (decide (s6 < 123)) = true then
                  bindM (bank_Bank_Read x43.1 (w64 (Int.tdiv s6 41)) (Int.tmod s6 41)) fun x90 =>
                    bindM (allocM (List.replicate 64 (.int .u8 0))) fun x93 =>
                    bindM (idxA x10 123 s6 1) fun x95 =>
                    bindM (ld Value.bool x95) fun x96 =>
                    bindS ((if (x96) = true then
                      pureM (.inl p2_data)
                      else
                      pureM (.inl (⟨some x93, 64, 64⟩)))) fun (b7 : (Slc)) =>
                    bindM (if (x90.2 != 0) = true then
                      pureM true
                    else
                      bindM (ref00_SameBytes x90.1 b7) fun x103 =>
                        pureM (!x103)) fun r8 =>
                    (if (r8) = true then
                    mapR (pureM false)
                    else
                    pureM (.inl (w64 (s6 + 1))))
                  else
                  mapR (pureM true))) 0)))) 0))))

def stripe_slotted (p0_b : (Option Addr)) (p1_seg : Int) (p2_slot : Int) : M Int :=
  bindM (if (decide (p2_slot < 0)) = true then
    pureM true
  else
    bindM (bank_Bank_Geo p0_b) fun x12 =>
      pureM (decide (p2_slot ≥ x12.1))) fun r1 =>
  (if (r1) = true then
  pureM 28
  else
  bindM (stripe_there p0_b p1_seg) fun x18 =>
    pureM x18)

def slices_IndexFunc_g (cv : CV) (p0_s : Slc) (p1_f : Value) : M Int :=
  loopM (fun (s1 : (Int)) =>
  (if (decide (s1 < ((p0_s.len : Nat) : Int))) = true then
    bindM (idxM p0_s s1 2) fun x14 =>
      bindM (ldA (fun y : (Int × Int) => [(.int .i64 y.1), (.int .i64 y.2)]) x14) fun x15 =>
      bindM (cvT cv Value.bool p1_f #[(.agg #[(.int .i64 x15.1), (.int .i64 x15.2)])]) fun x16 =>
      (if (x16) = true then
      mapR (pureM s1)
      else
      pureM (.inl (w64 (s1 + 1))))
    else
    mapR (pureM (-1)))) 0

def stripe_lacks_c1_c1 (p0_s : (Int × Int)) (p1_a : Addr) : M Bool :=
  bindM (allocM [(.int .i64 p0_s.1), (.int .i64 p0_s.2)]) fun x2 =>
  bindM (ld (Value.int .i64) x2) fun x5 =>
  bindM (ld (Value.int .i64) p1_a) fun x6 =>
  pureM (x5 == x6)

def stripe_lacks_c1 (cv : CV) (p0_yield : Value) (p1_a : Addr) (p2_a : Addr) (p3_a : Addr) (p4_a : Addr) : M Unit :=
  bindM (boxV p0_yield) fun x5 =>
  regionM fun S1 =>
  bindM (ldI S1 Value.pointer p1_a) fun x11 =>
  bindM (ldI S1 (Value.int .i64) p2_a) fun x13 =>
  bindM (stepI S1 (bank_Bank_Geo x11)) fun x12 =>
  bindM (stepI S1 (stripe_rows (x12.1, x12.2.1, x12.2.2) x13)) fun x14 =>
  rangeFM cv x14 (fun x_2 : (Int × Slc) => #[(.int .i64 x_2.1), (.slice x_2.2.base x_2.2.len x_2.2.cap)])
    (fun x_2 => pureM x_2.2)
    (fun (t_2 : (Slc)) => bindM (slices_IndexFunc_g cv t_2 (.func (.func fid_stripe_lacks_c1_c1) #[] #[(.pointer (some p3_a))])) fun x19 =>
      regionM fun S3 =>
      bindM (ldI S3 Value.pointer p1_a) fun x21 =>
      bindM (idxM t_2 x19 2) fun x24 =>
      bindM (ldAI S3 (fun y : (Int × Int) => [(.int .i64 y.1), (.int .i64 y.2)]) x24) fun x25 =>
      bindM (ldI S3 (Value.int .i64) p4_a) fun x26 =>
      bindM (stripe_good x21 (x25.1, x25.2) x26) fun x27 =>
      regionM fun S4 =>
      (if (!x27.2) = true then
        bindM (ldI S4 (fun v : Value => v) x5) fun x33 =>
          bindM (idxM t_2 x19 2) fun x37 =>
          bindM (ldAI S4 (fun y : (Int × Int) => [(.int .i64 y.1), (.int .i64 y.2)]) x37) fun x38 =>
          bindM (cvT cv Value.bool x33 #[(.slice t_2.base t_2.len t_2.cap), (.agg #[(.int .i64 x38.1), (.int .i64 x38.2)])]) fun x39 =>
          (if (!x39) = true then
          pureM (.inr .ret)
          else
          pureM (.inl ()))
      else
        pureM (.inl ())))
    (fun D2 => takesM (D2 :: []) <|
      pureM ())
    (fun D2 => takesM (D2 :: []) <|
      pureM ()) (fun D2 i2 => failM)

def stripe_lacks (p0_b : (Option Addr)) (p1_seg : Int) (p2_slot : Int) (p3_seq : Int) : M Value :=
  bindM (allocM [(.pointer p0_b)]) fun x4 =>
  bindM (allocM [(.int .i64 p1_seg)]) fun x5 =>
  bindM (allocM [(.int .i64 p2_slot)]) fun x6 =>
  bindM (allocM [(.int .i64 p3_seq)]) fun x7 =>
  pureM (.func (.func fid_stripe_lacks_c1) #[] #[(.pointer (some x4)), (.pointer (some x5)), (.pointer (some x6)), (.pointer (some x7))])

def stripe_Missing (cv : CV) (p0_b : (Option Addr)) (p1_seg : Int) (p2_slot : Int) (p3_seq : Int) : M (Bool × Int) :=
  bindM (allocM [(.bool false)]) fun x8 =>
  bindM (allocM [(.int .i64 0)]) fun x9 =>
  bindM (stripe_slotted p0_b p1_seg p2_slot) fun x14 =>
  (if (x14 != 0) = true then
  bindM (st x8 (.bool false)) fun _ =>
    bindM (st x9 (.int .i64 x14)) fun _ =>
    bindM (ld Value.bool x8) fun r8 =>
    bindM (ld (Value.int .i64) x9) fun r9 =>
    pureM (r8, r9)
  else
  bindM (stripe_lacks p0_b p1_seg p2_slot p3_seq) fun x22 =>
    rangeFM cv x22 (fun x_1 : (Slc × (Int × Int)) => #[(.slice x_1.1.base x_1.1.len x_1.1.cap), (.agg #[(.int .i64 x_1.2.1), (.int .i64 x_1.2.2)])])
      (fun x_1 => pureM ())
      (fun (t_1 : Unit) => bindM (st x8 (.bool true)) fun _ =>
        bindM (st x9 (.int .i64 0)) fun _ =>
        pureM (.inr .ret))
      (fun D1 => bindM (st x8 (.bool false)) fun _ =>
        bindM (st x9 (.int .i64 0)) fun _ =>
        takesM (D1 :: []) <|
        bindM (ld Value.bool x8) fun r8 =>
        bindM (ld (Value.int .i64) x9) fun r9 =>
        pureM (r8, r9))
      (fun D1 => takesM (D1 :: []) <|
        bindM (ld Value.bool x8) fun r8 =>
        bindM (ld (Value.int .i64) x9) fun r9 =>
        pureM (r8, r9)) (fun D1 i1 => failM))

def stripe_Refill (cv : CV) (p0_b : (Option Addr)) (p1_seg : Int) (p2_slot : Int) (p3_seq : Int) : M Int :=
  bindM (allocM [(.pointer p0_b)]) fun x4 =>
  bindM (allocM [(.int .i64 p3_seq)]) fun x7 =>
  bindM (allocM [(.int .i64 0)]) fun x8 =>
  bindM (ld Value.pointer x4) fun x15 =>
  bindM (stripe_slotted x15 p1_seg p2_slot) fun x18 =>
  (if (x18 != 0) = true then
  bindM (st x8 (.int .i64 x18)) fun _ =>
    bindM (ld (Value.int .i64) x8) fun r8 =>
    pureM r8
  else
  bindM (ld Value.pointer x4) fun x22 =>
    bindM (ld (Value.int .i64) x7) fun x25 =>
    bindM (stripe_lacks x22 p1_seg p2_slot x25) fun x26 =>
    rangeFM cv x26 (fun x_1 : (Slc × (Int × Int)) => #[(.slice x_1.1.base x_1.1.len x_1.1.cap), (.agg #[(.int .i64 x_1.2.1), (.int .i64 x_1.2.2)])])
      (fun x_1 => bindM (allocM [(.int .i64 0), (.int .i64 0)]) fun x11 =>
        bindM (stA x11 [(.int .i64 x_1.2.1), (.int .i64 x_1.2.2)]) fun _ =>
        pureM (x_1.1, x11))
      (fun (t_1 : (Slc × Addr)) => bindM (ld Value.pointer x4) fun x30 =>
        bindM (ldA (fun y : (Int × Int) => [(.int .i64 y.1), (.int .i64 y.2)]) t_1.2) fun x32 =>
        bindM (ld (Value.int .i64) x7) fun x33 =>
        bindM (stripe_others x30 t_1.1 (x32.1, x32.2) x33) fun x34 =>
        (if (!x34.2) = true then
        bindM (st x8 (.int .i64 14)) fun _ =>
          pureM (.inr .ret)
        else
        bindM (ld Value.pointer x4) fun x39 =>
          bindM (ld (Value.int .i64) t_1.2) fun x41 =>
          bindM (ld (Value.int .i64) (Addr.add t_1.2 1)) fun x43 =>
          bindM (bank_Bank_Write x39 x41 x43 x34.1) fun x45 =>
          (if (x45 != 0) = true then
          bindM (st x8 (.int .i64 x45)) fun _ =>
            pureM (.inr .ret)
          else
          pureM (.inl ()))))
      (fun D1 => bindM (st x8 (.int .i64 0)) fun _ =>
        takesM (D1 :: []) <|
        bindM (ld (Value.int .i64) x8) fun r8 =>
        pureM r8)
      (fun D1 => takesM (D1 :: []) <|
        bindM (ld (Value.int .i64) x8) fun r8 =>
        pureM r8) (fun D1 i1 => failM))

def ref06_Bank_disk (p0_b : (Option Addr)) (p1_slot : Int) : M Int :=
  bindM (nilM p0_b) fun x6 =>
  bindM (ld (Value.int .i64) (Addr.add (Addr.add x6 4) 2)) fun x9 =>
  bindM (if (x9 != 0) = true then
    bindM (nilM p0_b) fun x13 =>
      bindM (ld (Value.int .i64) (Addr.add (Addr.add x13 4) 1)) fun x16 =>
      pureM (x16 == p1_slot)
  else
    pureM false) fun r1 =>
  (if (r1) = true then
  bindM (nilM p0_b) fun x21 =>
    bindM (ld (Value.int .i64) (Addr.add x21 1)) fun x24 =>
    pureM x24
  else
  pureM p1_slot)

def ref06_Bank_Read (p0_b : (Option Addr)) (p1_slot : Int) (p2_sector : Int) : M (Slc × Int) :=
  bindM (if (decide (p1_slot < 0)) = true then
    pureM true
  else
    bindM (nilM p0_b) fun x13 =>
      bindM (ld (Value.int .i64) (Addr.add x13 1)) fun x16 =>
      pureM (decide (p1_slot ≥ x16))) fun r1 =>
  (if (r1) = true then
  pureM (⟨none, 0, 0⟩, 11)
  else
  regionM fun S2 =>
    bindM (nilM p0_b) fun x20 =>
    bindM (ldI S2 Value.pointer x20) fun x22 =>
    bindM (stepI S2 (ref06_Bank_disk p0_b p1_slot)) fun x25 =>
    bindM (ref02_Rack_Read x22 x25 p2_sector) fun x27 =>
    pureM (x27.1, x27.2))

def ref06_Bank_Write (p0_b : (Option Addr)) (p1_slot : Int) (p2_sector : Int) (p3_data : Slc) : M Int :=
  bindM (if (decide (p1_slot < 0)) = true then
    pureM true
  else
    bindM (nilM p0_b) fun x14 =>
      bindM (ld (Value.int .i64) (Addr.add x14 1)) fun x17 =>
      pureM (decide (p1_slot ≥ x17))) fun r1 =>
  (if (r1) = true then
  pureM 11
  else
  regionM fun S2 =>
    bindM (nilM p0_b) fun x21 =>
    bindM (ldI S2 Value.pointer x21) fun x23 =>
    bindM (stepI S2 (ref06_Bank_disk p0_b p1_slot)) fun x26 =>
    bindM (ref02_Rack_Write x23 x26 p2_sector p3_data) fun x29 =>
    pureM x29)

def ref06_Bank_disks (p0_b : (Option Addr)) : M Slc :=
  bindM (allocM []) fun x5 =>
  loopM (fun (s1 : (Slc × Int)) =>
  bindM (nilM p0_b) fun x8 =>
    bindM (ld (Value.int .i64) (Addr.add x8 1)) fun x11 =>
    (if (decide (s1.2 < x11)) = true then
    bindM (ref06_Bank_disk p0_b s1.2) fun x18 =>
      bindM (allocM [(.int .i64 x18)]) fun x19 =>
      bindM (appendM [(.int .i64 0)] 8 s1.1 ⟨some x19, 1, 1⟩) fun x20 =>
      pureM (.inl (x20, w64 (s1.2 + 1)))
    else
    mapR (bindM (nilM p0_b) fun x22 =>
      bindM (ld (Value.int .i64) (Addr.add (Addr.add x22 4) 2)) fun x25 =>
      (if (x25 == 0) = true then
      bindM (nilM p0_b) fun x29 =>
        bindM (ld (Value.int .i64) (Addr.add x29 1)) fun x32 =>
        bindM (allocM [(.int .i64 x32)]) fun x33 =>
        bindM (appendM [(.int .i64 0)] 8 s1.1 ⟨some x33, 1, 1⟩) fun x34 =>
        pureM x34
      else
      pureM s1.1)))) (⟨some x5, 0, 0⟩, 0)

def ref06_Bank_Flush (p0_b : (Option Addr)) : M Int :=
  bindM (ref06_Bank_disks p0_b) fun x6 =>
  loopM (fun (s1 : (Int)) =>
  (if (decide (s1 < ((x6.len : Nat) : Int))) = true then
    regionM fun S2 =>
      bindM (nilM p0_b) fun x14 =>
      bindM (ldI S2 Value.pointer x14) fun x16 =>
      bindM (idxM x6 s1 1) fun x19 =>
      bindM (ldI S2 (Value.int .i64) x19) fun x20 =>
      bindM (ref02_Rack_Flush x16 x20) fun x21 =>
      (if (x21 == 12) = true then
      mapR (pureM 12)
      else
      pureM (.inl (w64 (s1 + 1))))
    else
    mapR (pureM 0))) 0

def ref06_Bank_Everywhere (p0_b : (Option Addr)) (p1_sector : Int) (p2_data : Slc) : M Int :=
  bindM (ref06_Bank_disks p0_b) fun x12 =>
  loopM (fun (s1 : (Int × Int)) =>
  (if (decide (s1.2 < ((x12.len : Nat) : Int))) = true then
    regionM fun S2 =>
      bindM (nilM p0_b) fun x20 =>
      bindM (ldI S2 Value.pointer x20) fun x22 =>
      bindM (idxM x12 s1.2 1) fun x25 =>
      bindM (ldI S2 (Value.int .i64) x25) fun x26 =>
      bindM (ref02_Rack_Write x22 x26 p1_sector p2_data) fun x29 =>
      (if (x29 == 12) = true then
      mapR (pureM x29)
      else
      (if (x29 == 11) = true then
        pureM (.inl (x29, w64 (s1.2 + 1)))
        else
        pureM (.inl (s1.1, w64 (s1.2 + 1)))))
    else
    mapR (pureM s1.1))) (0, 0)

def ref00_SameRows (p0_a : Slc) (p1_b : Slc) : M Bool :=
  (if (((p0_a.len : Nat) : Int) != ((p1_b.len : Nat) : Int)) = true then
  pureM false
  else
  loopM (fun (s1 : (Int)) =>
    (if (decide (s1 < ((p0_a.len : Nat) : Int))) = true then
      regionM fun S2 =>
        bindM (idxM p0_a s1 1) fun x19 =>
        bindM (ldI S2 vS x19) fun x20 =>
        bindM (idxM p1_b s1 1) fun x23 =>
        bindM (ldI S2 vS x23) fun x24 =>
        bindM (ref00_SameBytes x20 x24) fun x25 =>
        (if (!x25) = true then
        mapR (pureM false)
        else
        pureM (.inl (w64 (s1 + 1))))
      else
      mapR (pureM true))) 0)

def ref06_Bank_All (p0_b : (Option Addr)) (p1_sector : Int) : M Slc :=
  bindM (allocM []) fun x10 =>
  bindM (ref06_Bank_disks p0_b) fun x12 =>
  loopM (fun (s1 : (Slc × Int)) =>
  (if (decide (s1.2 < ((x12.len : Nat) : Int))) = true then
    regionM fun S2 =>
      bindM (nilM p0_b) fun x21 =>
      bindM (ldI S2 Value.pointer x21) fun x23 =>
      bindM (idxM x12 s1.2 1) fun x26 =>
      bindM (ldI S2 (Value.int .i64) x26) fun x27 =>
      bindM (ref02_Rack_Read x23 x27 p1_sector) fun x29 =>
      (if (x29.2 == 0) = true then
      bindM (allocM [(.slice x29.1.base x29.1.len x29.1.cap)]) fun x36 =>
        bindM (appendM [(.slice none 0 0)] 24 s1.1 ⟨some x36, 1, 1⟩) fun x37 =>
        pureM (.inl (x37, w64 (s1.2 + 1)))
      else
      pureM (.inl (s1.1, w64 (s1.2 + 1))))
    else
    mapR (pureM s1.1))) (⟨some x10, 0, 0⟩, 0)

def ref06_Bank_Join (p0_b : (Option Addr)) (p1_m : (Int × Int × Int)) : M Unit :=
  bindM (allocM [(.int .i64 p1_m.1), (.int .i64 p1_m.2.1), (.int .i64 p1_m.2.2)]) fun x3 =>
  regionM fun S1 =>
  bindM (nilM p0_b) fun x5 =>
  bindM (ldAI S1 (fun y : (Int × Int × Int) => [(.int .i64 y.1), (.int .i64 y.2.1), (.int .i64 y.2.2)]) (Addr.add x5 1)) fun x7 =>
  bindM (ldAI S1 (fun y : (Int × Int × Int) => [(.int .i64 y.1), (.int .i64 y.2.1), (.int .i64 y.2.2)]) x3) fun x8 =>
  bindM (ref06_Fits (x7.1, x7.2.1, x7.2.2) (x8.1, x8.2.1, x8.2.2)) fun x9 =>
  (if (x9) = true then
  bindM (ldA (fun y : (Int × Int × Int) => [(.int .i64 y.1), (.int .i64 y.2.1), (.int .i64 y.2.2)]) x3) fun x11 =>
    bindM (nilM p0_b) fun x12 =>
    bindM (stA (Addr.add x12 4) [(.int .i64 x11.1), (.int .i64 x11.2.1), (.int .i64 x11.2.2)]) fun _ =>
    pureM ()
  else
  pureM ())

def ref00_SameInts (p0_a : Slc) (p1_b : Slc) : M Bool :=
  (if (((p0_a.len : Nat) : Int) != ((p1_b.len : Nat) : Int)) = true then
  pureM false
  else
  loopM (fun (s1 : (Int)) =>
    (if (decide (s1 < ((p0_a.len : Nat) : Int))) = true then
      regionM fun S2 =>
        bindM (idxM p0_a s1 1) fun x19 =>
        bindM (ldI S2 (Value.int .i64) x19) fun x20 =>
        bindM (idxM p1_b s1 1) fun x23 =>
        bindM (ldI S2 (Value.int .i64) x23) fun x24 =>
        (if (x20 != x24) = true then
        mapR (pureM false)
        else
        pureM (.inl (w64 (s1 + 1))))
      else
      mapR (pureM true))) 0)

def ref06_Bank_Bad (p0_b : (Option Addr)) : M Slc :=
  bindM (allocM []) fun x5 =>
  loopM (fun (s1 : (Slc × Int)) =>
  bindM (nilM p0_b) fun x8 =>
    bindM (ld (Value.int .i64) (Addr.add x8 1)) fun x11 =>
    (if (decide (s1.2 < x11)) = true then
    bindS (regionM fun S3 =>
        bindM (nilM p0_b) fun x16 =>
        bindM (ldI S3 Value.pointer x16) fun x18 =>
        bindM (stepI S3 (ref06_Bank_disk p0_b s1.2)) fun x21 =>
        bindM (stepI S3 (ref02_Rack_Failed x18 x21)) fun x22 =>
        (if (x22) = true then
          pureM (.inl true)
        else
          bindM (nilM p0_b) fun x25 =>
            bindM (ldI S3 (Value.int .i64) (Addr.add (Addr.add x25 4) 2)) fun x28 =>
            (if (x28 == 1) = true then
              bindM (nilM p0_b) fun x32 =>
                bindM (ldI S3 (Value.int .i64) (Addr.add (Addr.add x32 4) 1)) fun x35 =>
                pureM (.inl (x35 == s1.2))
            else
              pureM (.inl false)))) fun (b2 : (Bool)) =>
      (if (b2) = true then
      bindM (allocM [(.int .i64 s1.2)]) fun x42 =>
        bindM (appendM [(.int .i64 0)] 8 s1.1 ⟨some x42, 1, 1⟩) fun x43 =>
        pureM (.inl (x43, w64 (s1.2 + 1)))
      else
      pureM (.inl (s1.1, w64 (s1.2 + 1))))
    else
    mapR (pureM s1.1))) (⟨some x5, 0, 0⟩, 0)

def bank_Bank_Member (p0_b : (Option Addr)) : M (Int × Int × Int) :=
  bindM (allocM [(.int .i64 0), (.int .i64 0), (.int .i64 0)]) fun x2 =>
  bindM (nilM p0_b) fun x4 =>
  bindM (ldA (fun y : (Int × Int × Int) => [(.int .i64 y.1), (.int .i64 y.2.1), (.int .i64 y.2.2)]) (Addr.add x4 4)) fun x6 =>
  bindM (stA x2 [(.int .i64 x6.1), (.int .i64 x6.2.1), (.int .i64 x6.2.2)]) fun _ =>
  bindM (ldA (fun y : (Int × Int × Int) => [(.int .i64 y.1), (.int .i64 y.2.1), (.int .i64 y.2.2)]) x2) fun r2 =>
  pureM (r2.1, r2.2.1, r2.2.2)

def law06_told (cv : CV) (p0_r : (Option Addr)) (p1_b : (Option Addr)) (p2_q : (Option Addr)) (p3_m : (Option Addr)) (p4_c : (Int × Int × Int × Slc × Int × Int × Int)) : M Bool :=
  bindM (allocM [(.int .i64 p4_c.1), (.int .i64 p4_c.2.1), (.int .i64 p4_c.2.2.1), (.slice p4_c.2.2.2.1.base p4_c.2.2.2.1.len p4_c.2.2.2.1.cap), (.int .i64 p4_c.2.2.2.2.1), (.int .i64 p4_c.2.2.2.2.2.1), (.int .i64 p4_c.2.2.2.2.2.2)]) fun x9 =>
  bindM (ld (Value.int .i64) x9) fun x16 =>
  bindS ((if (x16 == 0) = true then
    bindM (ld (Value.int .i64) (Addr.add x9 1)) fun x22 =>
      bindM (ld (Value.int .i64) (Addr.add x9 2)) fun x24 =>
      bindM (bank_Bank_Read p1_b x22 x24) fun x25 =>
      bindM (ld (Value.int .i64) (Addr.add x9 1)) fun x31 =>
      bindM (ld (Value.int .i64) (Addr.add x9 2)) fun x33 =>
      bindM (ref06_Bank_Read p3_m x31 x33) fun x34 =>
      bindM (ref00_SameBytes x25.1 x34.1) fun x39 =>
      bindM (if (x39) = true then
        pureM (x25.2 == x34.2)
      else
        pureM false) fun r3 =>
      mapR (pureM r3)
    else
    (if (x16 == 1) = true then
      regionM fun S4 =>
        bindM (ldI S4 (Value.int .i64) (Addr.add x9 1)) fun x49 =>
        bindM (ldI S4 (Value.int .i64) (Addr.add x9 2)) fun x51 =>
        bindM (ldI S4 vS (Addr.add x9 3)) fun x53 =>
        bindM (ldI S4 (Value.int .i64) (Addr.add x9 1)) fun x58 =>
        bindM (ldI S4 (Value.int .i64) (Addr.add x9 2)) fun x60 =>
        bindM (ldI S4 vS (Addr.add x9 3)) fun x62 =>
        bindM (stepI S4 (ref00_CopyBytes x53)) fun x54 =>
        bindM (stepI S4 (bank_Bank_Write p1_b x49 x51 x54)) fun x55 =>
        bindM (stepI S4 (ref06_Bank_Write p3_m x58 x60 x62)) fun x63 =>
        mapR (pureM (x55 == x63))
      else
      (if (x16 == 2) = true then
        bindM (bank_Bank_Flush cv p1_b) fun x68 =>
          bindM (ref06_Bank_Flush p3_m) fun x70 =>
          mapR (pureM (x68 == x70))
        else
        (if (x16 == 4) = true then
          regionM fun S5 =>
            bindM (ldI S5 (Value.int .i64) (Addr.add x9 2)) fun x76 =>
            bindM (ldI S5 vS (Addr.add x9 3)) fun x78 =>
            bindM (ldI S5 (Value.int .i64) (Addr.add x9 2)) fun x83 =>
            bindM (ldI S5 vS (Addr.add x9 3)) fun x85 =>
            bindM (stepI S5 (ref00_CopyBytes x78)) fun x79 =>
            bindM (stepI S5 (bank_Bank_Everywhere cv p1_b x76 x79)) fun x80 =>
            bindM (stepI S5 (ref06_Bank_Everywhere p3_m x83 x85)) fun x86 =>
            mapR (pureM (x80 == x86))
          else
          (if (x16 == 5) = true then
            regionM fun S6 =>
              bindM (ldI S6 (Value.int .i64) (Addr.add x9 2)) fun x92 =>
              bindM (ldI S6 (Value.int .i64) (Addr.add x9 2)) fun x96 =>
              bindM (stepI S6 (bank_Bank_All cv p1_b x92)) fun x93 =>
              bindM (stepI S6 (ref06_Bank_All p3_m x96)) fun x97 =>
              bindM (stepI S6 (ref00_SameRows x93 x97)) fun x98 =>
              mapR (pureM x98)
            else
            (if (x16 == 6) = true then
              bindM (ldA (fun y : (Int × Int × Int) => [(.int .i64 y.1), (.int .i64 y.2.1), (.int .i64 y.2.2)]) (Addr.add x9 4)) fun x103 =>
                bindM (bank_Bank_Join p1_b (x103.1, x103.2.1, x103.2.2)) fun x104 =>
                bindM (ldA (fun y : (Int × Int × Int) => [(.int .i64 y.1), (.int .i64 y.2.1), (.int .i64 y.2.2)]) (Addr.add x9 4)) fun x107 =>
                bindM (ref06_Bank_Join p3_m (x107.1, x107.2.1, x107.2.2)) fun x108 =>
                pureM (.inl ())
              else
              (if (x16 == 7) = true then
                bindM (ld (Value.int .i64) (Addr.add x9 2)) fun x113 =>
                  bindM (device_Rack_Arm p0_r x113) fun x114 =>
                  bindM (ld (Value.int .i64) (Addr.add x9 2)) fun x117 =>
                  bindM (ref02_Rack_Arm p2_q x117) fun x118 =>
                  pureM (.inl ())
                else
                (if (x16 == 8) = true then
                  regionM fun S7 =>
                    bindM (ldI S7 (Value.int .i64) (Addr.add x9 1)) fun x123 =>
                    bindM (ldI S7 (Value.int .i64) (Addr.add x9 2)) fun x125 =>
                    bindM (ldI S7 (Value.int .i64) (Addr.add x9 1)) fun x129 =>
                    bindM (ldI S7 (Value.int .i64) (Addr.add x9 2)) fun x131 =>
                    bindM (stepI S7 (device_Rack_Doom p0_r x123 x125)) fun x126 =>
                    bindM (stepI S7 (ref02_Rack_Doom p2_q x129 x131)) fun x132 =>
                    mapR (pureM (x126 == x132))
                  else
                  (if (x16 == 9) = true then
                    bindM (ld (Value.int .i64) (Addr.add x9 2)) fun x138 =>
                      bindM (allocM [(.int .i64 x138)]) fun x139 =>
                      bindM (device_Rack_Restore cv p0_r (⟨some x139, 1, 1⟩)) fun x140 =>
                      bindM (ld (Value.int .i64) (Addr.add x9 2)) fun x143 =>
                      bindM (allocM [(.int .i64 x143)]) fun x144 =>
                      bindM (ref02_Rack_Restore p2_q (⟨some x144, 1, 1⟩)) fun x145 =>
                      pureM (.inl ())
                    else
                    pureM (.inl ()))))))))))) fun (b1 : Unit) =>
  regionM fun S2 =>
  bindM (stepI S2 (bank_Bank_Bad p1_b)) fun x147 =>
  bindM (stepI S2 (ref06_Bank_Bad p3_m)) fun x149 =>
  bindM (stepI S2 (ref00_SameInts x147 x149)) fun x150 =>
  (if (x150) = true then
    bindM (nilM p3_m) fun x155 =>
      bindM (ldAI S2 (fun y : (Int × Int × Int) => [(.int .i64 y.1), (.int .i64 y.2.1), (.int .i64 y.2.2)]) (Addr.add x155 4)) fun x157 =>
      bindM (stepI S2 (bank_Bank_Member p1_b)) fun x153 =>
      (if (eq3 (x153.1, x153.2.1, x153.2.2) (x157.1, x157.2.1, x157.2.2)) = true then
        bindM (nilM p2_q) fun x164 =>
          bindM (ldI S2 Value.bool (Addr.add x164 7)) fun x166 =>
          bindM (stepI S2 (bank_Bank_Off p1_b)) fun x162 =>
          (if (x162 == x166) = true then
            bindM (nilM p3_m) fun x174 =>
              bindM (ldI S2 (Value.int .i64) (Addr.add x174 1)) fun x177 =>
              bindM (stepI S2 (bank_Bank_SpareFailed p1_b)) fun x171 =>
              bindM (stepI S2 (ref02_Rack_Failed p2_q x177)) fun x178 =>
              pureM (x171 == x178)
          else
            pureM false)
      else
        pureM false)
  else
    pureM false)

def law06_BankCalls (cv : CV) (p0_m : (Int × Int × Int)) (p1_calls : Slc) : M Bool :=
  bindM (allocM [(.int .i64 p0_m.1), (.int .i64 p0_m.2.1), (.int .i64 p0_m.2.2)]) fun x2 =>
  bindM (law06_alive ) fun x16 =>
  (if (!x16) = true then
  pureM false
  else
  (if (decide (((p1_calls.len : Nat) : Int) > 100)) = true then
    pureM true
    else
    loopM (fun (s1 : (Int × Int)) =>
      (if (decide (s1.2 < ((p1_calls.len : Nat) : Int))) = true then
        bindM (idxM p1_calls s1.2 7) fun x30 =>
          bindM (ld vS (Addr.add x30 3)) fun x32 =>
          (if (decide ((w64 (s1.1 + ((x32.len : Nat) : Int))) > 20000)) = true then
          mapR (pureM true)
          else
          pureM (.inl (w64 (s1.1 + ((x32.len : Nat) : Int)), w64 (s1.2 + 1))))
        else
        mapR (bindM (law06_Small ) fun x37 =>
          bindM (allocM [(.int .i64 0), (.int .i64 0), (.int .i64 0)]) fun x7 =>
          bindM (stA x7 [(.int .i64 x37.1), (.int .i64 x37.2.1), (.int .i64 x37.2.2)]) fun _ =>
          bindM (ldA (fun y : (Int × Int × Int) => [(.int .i64 y.1), (.int .i64 y.2.1), (.int .i64 y.2.2)]) x7) fun x39 =>
          bindM (geo_Sectors (x39.1, x39.2.1, x39.2.2)) fun x40 =>
          bindM (device_New 4 x40) fun x41 =>
          bindM (ldA (fun y : (Int × Int × Int) => [(.int .i64 y.1), (.int .i64 y.2.1), (.int .i64 y.2.2)]) x7) fun x45 =>
          bindM (geo_Sectors (x45.1, x45.2.1, x45.2.2)) fun x46 =>
          bindM (ref02_New 4 x46) fun x47 =>
          bindM (allocM [(.int .i64 0), (.int .i64 0), (.slice none 0 0), (.slice none 0 0), (.slice none 0 0), (.slice none 0 0), (.int .i64 0), (.bool false)]) fun x10 =>
          bindM (stA x10 [(.int .i64 x47.1.1), (.int .i64 x47.1.2.1), (.slice x47.1.2.2.1.base x47.1.2.2.1.len x47.1.2.2.1.cap), (.slice x47.1.2.2.2.1.base x47.1.2.2.2.1.len x47.1.2.2.2.1.cap), (.slice x47.1.2.2.2.2.1.base x47.1.2.2.2.2.1.len x47.1.2.2.2.2.1.cap), (.slice x47.1.2.2.2.2.2.1.base x47.1.2.2.2.2.2.1.len x47.1.2.2.2.2.2.1.cap), (.int .i64 x47.1.2.2.2.2.2.2.1), (.bool x47.1.2.2.2.2.2.2.2)]) fun _ =>
          bindM (if (x41.2 != 0) = true then
            pureM true
          else
            pureM ((x41.1).isNone)) fun r2 =>
          (if (r2) = true then
          pureM false
          else
          bindM (ldA (fun y : (Int × Int × Int) => [(.int .i64 y.1), (.int .i64 y.2.1), (.int .i64 y.2.2)]) x7) fun x58 =>
            bindM (ldA (fun y : (Int × Int × Int) => [(.int .i64 y.1), (.int .i64 y.2.1), (.int .i64 y.2.2)]) x2) fun x59 =>
            bindM (bank_Open x41.1 (x58.1, x58.2.1, x58.2.2) (x59.1, x59.2.1, x59.2.2)) fun x60 =>
            bindM (ldA (fun y : (Int × Int × Int) => [(.int .i64 y.1), (.int .i64 y.2.1), (.int .i64 y.2.2)]) x7) fun x64 =>
            bindM (ldA (fun y : (Int × Int × Int) => [(.int .i64 y.1), (.int .i64 y.2.1), (.int .i64 y.2.2)]) x2) fun x65 =>
            bindM (ref06_Open (some x10) (x64.1, x64.2.1, x64.2.2) (x65.1, x65.2.1, x65.2.2)) fun x66 =>
            bindM (if (x60.2 != x66.2) = true then
              pureM true
            else
              pureM (!(((x60.1).isNone) == (x60.2 != 0)))) fun r3 =>
            (if (r3) = true then
            pureM false
            else
            bindM (if (x60.2 != 0) = true then
                pureM true
              else
                pureM ((x60.1).isNone)) fun r4 =>
              bindM (if (r4) = true then
                pureM true
              else
                pureM ((x66.1).isNone)) fun r5 =>
              (if (r5) = true then
              pureM true
              else
              loopM (fun (s6 : (Int)) =>
                (if (decide (s6 < ((p1_calls.len : Nat) : Int))) = true then
                  bindM (idxM p1_calls s6 7) fun x100 =>
                    bindM (ldA (fun y : (Int × Int × Int × Slc × Int × Int × Int) => [(.int .i64 y.1), (.int .i64 y.2.1), (.int .i64 y.2.2.1), (.slice y.2.2.2.1.base y.2.2.2.1.len y.2.2.2.1.cap), (.int .i64 y.2.2.2.2.1), (.int .i64 y.2.2.2.2.2.1), (.int .i64 y.2.2.2.2.2.2)]) x100) fun x101 =>
                    bindM (law06_told cv x41.1 x60.1 (some x10) x66.1 (x101.1, x101.2.1, x101.2.2.1, x101.2.2.2.1, x101.2.2.2.2.1, x101.2.2.2.2.2.1, x101.2.2.2.2.2.2)) fun x102 =>
                    (if (!x102) = true then
                    mapR (pureM false)
                    else
                    pureM (.inl (w64 (s6 + 1))))
                  else
                  mapR (pureM true))) 0)))))) (0, 0)))
end Go.Proofs.Ytldmeimebebllaa
namespace Go.Proofs.Ytldmeimebebllaa
open Go.Mo
set_option linter.unusedVariables false
theorem w64_id {n : Int} (h : -9223372036854775808 ≤ n) (h' : n < 9223372036854775808) : w64 n = n := by
  unfold w64 IntKind.wrap
  simp only [IntKind.bits, IntKind.signed]
  by_cases hm : n % (2 : Int) ^ 64 ≥ (2 : Int) ^ (64 - 1)
  · simp only [hm, decide_true, Bool.true_and, if_true]; omega
  · simp only [hm, decide_false, Bool.and_false]; simp only [Bool.false_eq_true, if_false]; omega
abbrev G3 := Int × Int × Int
theorem geo_within_val {g : Fr} {H : HP} (n a b : Int) : Val g H (geo_within n a b) (decide (a ≤ n ∧ n ≤ b)) := by
  unfold geo_within
  refine val_eq (v := decide (a ≤ n ∧ n ≤ b)) (u := if decide (a ≤ n) = true then decide (n ≤ b) else false) ?_ (by by_cases h : a ≤ n <;> simp [h])
  repeat (first
    | (with_reducible refine wps_bindpure ?_)
    | (with_reducible refine wps_assoc ?_)
    | (with_reducible refine wps_nil ?_)
    | (with_reducible refine wps_stepAlloc fun _ => ?_)
    | (with_reducible refine wps_alloc fun _ => ?_)
    | (with_reducible refine wps_newO fun _ => ?_)
    | (refine wps_ld _ (by rfl) ?_)
    | (refine wps_ldG _ _ _ (by rfl) ?_)
    | (refine wps_ldA _ (by rfl) ?_)
    | (refine wps_ldI _ (by rfl) ?_)
    | (refine wps_ldGI _ _ _ (by rfl) ?_)
    | (refine wps_ldAI _ (by rfl) ?_)
    | (refine wps_st (by simp) ?_)
    | (refine wps_stA (by simp) (by simp [Value.oneCell']) ?_)
    | ((with_reducible apply wps_val); apply val_ite; rotate_left; refine fun (_ : ¬ _) => ?_; rotate_right; refine fun (_ : _ = true) => ?_)
    | ((with_reducible apply val_ite); rotate_left; refine fun (_ : ¬ _) => ?_; rotate_right; refine fun (_ : _ = true) => ?_)
    | (with_reducible refine wps_regionH ?_)
    | ((with_reducible apply wps_bindV); apply val_iteL; rotate_left; refine fun (_ : ¬ _) => ?_; rotate_right; refine fun (_ : _ = true) => ?_)
    | ((with_reducible apply val_iteL); rotate_left; refine fun (_ : ¬ _) => ?_; rotate_right; refine fun (_ : _ = true) => ?_)
    | (with_reducible exact wps_pure (ent_val rfl)))
theorem geo_others_val {g : Fr} {H : HP} (p : G3) : Val g H (geo_others p) (w64 (1 + w64 (Int.tdiv p.2.2 8))) := by
  unfold geo_others
  repeat (first
    | (with_reducible refine wps_bindpure ?_)
    | (with_reducible refine wps_assoc ?_)
    | (with_reducible refine wps_nil ?_)
    | (with_reducible refine wps_stepAlloc fun _ => ?_)
    | (with_reducible refine wps_alloc fun _ => ?_)
    | (with_reducible refine wps_newO fun _ => ?_)
    | (refine wps_ld _ (by rfl) ?_)
    | (refine wps_ldG _ _ _ (by rfl) ?_)
    | (refine wps_ldA _ (by rfl) ?_)
    | (refine wps_ldI _ (by rfl) ?_)
    | (refine wps_ldGI _ _ _ (by rfl) ?_)
    | (refine wps_ldAI _ (by rfl) ?_)
    | (refine wps_st (by simp) ?_)
    | (refine wps_stA (by simp) (by simp [Value.oneCell']) ?_)
    | ((with_reducible apply wps_val); apply val_ite; rotate_left; refine fun (_ : ¬ _) => ?_; rotate_right; refine fun (_ : _ = true) => ?_)
    | ((with_reducible apply val_ite); rotate_left; refine fun (_ : ¬ _) => ?_; rotate_right; refine fun (_ : _ = true) => ?_)
    | (with_reducible refine wps_regionH ?_)
    | ((with_reducible apply wps_bindV); apply val_iteL; rotate_left; refine fun (_ : ¬ _) => ?_; rotate_right; refine fun (_ : _ = true) => ?_)
    | ((with_reducible apply val_iteL); rotate_left; refine fun (_ : ¬ _) => ?_; rotate_right; refine fun (_ : _ = true) => ?_)
    | (with_reducible exact wps_pure (ent_val rfl)))
theorem geo_places_val {g : Fr} {H : HP} (p : G3) : Val g H (geo_places p) (w64 (w64 (p.2.1 * w64 (p.1 - 1)) - 1)) := by
  unfold geo_places
  repeat (first
    | (with_reducible refine wps_bindpure ?_)
    | (with_reducible refine wps_assoc ?_)
    | (with_reducible refine wps_nil ?_)
    | (with_reducible refine wps_stepAlloc fun _ => ?_)
    | (with_reducible refine wps_alloc fun _ => ?_)
    | (with_reducible refine wps_newO fun _ => ?_)
    | (refine wps_ld _ (by rfl) ?_)
    | (refine wps_ldG _ _ _ (by rfl) ?_)
    | (refine wps_ldA _ (by rfl) ?_)
    | (refine wps_ldI _ (by rfl) ?_)
    | (refine wps_ldGI _ _ _ (by rfl) ?_)
    | (refine wps_ldAI _ (by rfl) ?_)
    | (refine wps_st (by simp) ?_)
    | (refine wps_stA (by simp) (by simp [Value.oneCell']) ?_)
    | ((with_reducible apply wps_val); apply val_ite; rotate_left; refine fun (_ : ¬ _) => ?_; rotate_right; refine fun (_ : _ = true) => ?_)
    | ((with_reducible apply val_ite); rotate_left; refine fun (_ : ¬ _) => ?_; rotate_right; refine fun (_ : _ = true) => ?_)
    | (with_reducible refine wps_regionH ?_)
    | ((with_reducible apply wps_bindV); apply val_iteL; rotate_left; refine fun (_ : ¬ _) => ?_; rotate_right; refine fun (_ : _ = true) => ?_)
    | ((with_reducible apply val_iteL); rotate_left; refine fun (_ : ¬ _) => ?_; rotate_right; refine fun (_ : _ = true) => ?_)
    | (with_reducible exact wps_pure (ent_val rfl)))
/-- a geometry within bounds -/
structure Bnd (p : G3) : Prop where
  d3 : 3 ≤ p.1
  d16 : p.1 ≤ 16
  r1 : 1 ≤ p.2.1
  r4 : p.2.1 ≤ 4
  s12 : 12 ≤ p.2.2
  s64 : p.2.2 ≤ 64
def othersI (p : G3) : Int := 1 + p.2.2 / 8
def placesI (p : G3) : Int := p.2.1 * (p.1 - 1) - 1
theorem Bnd.others {p : G3} (h : Bnd p) : w64 (1 + w64 (Int.tdiv p.2.2 8)) = othersI p ∧ 2 ≤ othersI p ∧ othersI p ≤ 9 := by
  have := h.s12
  have := h.s64
  rw [Int.tdiv_eq_ediv_of_nonneg (by omega), w64_id (n := p.2.2 / 8) (by omega) (by omega), w64_id (by omega) (by omega)]
  unfold othersI
  omega
theorem Bnd.mul {p : G3} (h : Bnd p) : 2 ≤ p.2.1 * (p.1 - 1) ∧ p.2.1 * (p.1 - 1) ≤ 60 := by
  have h1 := h.d3
  have h2 := h.d16
  have h3 := h.r1
  have h4 := h.r4
  have : p.2.1 = 1 ∨ p.2.1 = 2 ∨ p.2.1 = 3 ∨ p.2.1 = 4 := by omega
  rcases this with e | e | e | e <;> rw [e] <;> omega
theorem Bnd.places {p : G3} (h : Bnd p) : w64 (w64 (p.2.1 * w64 (p.1 - 1)) - 1) = placesI p ∧ 1 ≤ placesI p ∧ placesI p ≤ 59 := by
  have h1 := h.d3
  have h2 := h.d16
  have := h.mul
  rw [w64_id (n := p.1 - 1) (by omega) (by omega), w64_id (n := p.2.1 * (p.1 - 1)) (by omega) (by omega), w64_id (by omega) (by omega)]
  unfold placesI
  omega
theorem Bnd.prod {p : G3} (h : Bnd p) : w64 (othersI p * placesI p) = othersI p * placesI p := by
  have h1 := h.others.2
  have h2 := h.places.2
  have h3 : othersI p * placesI p ≤ 9 * 59 := Int.mul_le_mul h1.2 h2.2 (by omega) (by omega)
  have h4 : 0 ≤ othersI p * placesI p := Int.mul_nonneg (by omega) (by omega)
  rw [w64_id] <;> omega
def RightB (p : G3) : Bool := decide (3 ≤ p.1 ∧ p.1 ≤ 16) && (decide (1 ≤ p.2.1 ∧ p.2.1 ≤ 4) && (decide (12 ≤ p.2.2 ∧ p.2.2 ≤ 64) && decide (8 ≤ othersI p * placesI p)))
theorem RightB.bnd {p : G3} (h : RightB p = true) : Bnd p := by
  simp only [RightB, Bool.and_eq_true, decide_eq_true_eq] at h
  exact ⟨h.1.1, h.1.2, h.2.1.1, h.2.1.2, h.2.2.1.1, h.2.2.1.2⟩
theorem geo_Right_val {g : Fr} {H : HP} (p : G3) : Val g H (geo_Right p) (RightB p) := by
  unfold geo_Right
  repeat (first
    | (with_reducible refine wps_val (geo_within_val _ _ _) ?_)
    | (with_reducible refine wps_stepV (geo_within_val _ _ _) ?_)
    | (with_reducible refine wps_bindpure ?_)
    | (with_reducible refine wps_assoc ?_)
    | (with_reducible refine wps_nil ?_)
    | (with_reducible refine wps_stepAlloc fun _ => ?_)
    | (with_reducible refine wps_alloc fun _ => ?_)
    | (with_reducible refine wps_newO fun _ => ?_)
    | (refine wps_ld _ (by rfl) ?_)
    | (refine wps_ldG _ _ _ (by rfl) ?_)
    | (refine wps_ldA _ (by rfl) ?_)
    | (refine wps_ldI _ (by rfl) ?_)
    | (refine wps_ldGI _ _ _ (by rfl) ?_)
    | (refine wps_ldAI _ (by rfl) ?_)
    | (refine wps_st (by simp) ?_)
    | (refine wps_stA (by simp) (by simp [Value.oneCell']) ?_)
    | ((with_reducible apply wps_val); apply val_ite; rotate_left; refine fun (_ : ¬ _) => ?_; rotate_right; refine fun (_ : _ = true) => ?_)
    | ((with_reducible apply val_ite); rotate_left; refine fun (_ : ¬ _) => ?_; rotate_right; refine fun (_ : _ = true) => ?_)
    | (with_reducible refine wps_regionH ?_)
    | ((with_reducible apply wps_bindV); apply val_iteL; rotate_left; refine fun (_ : ¬ _) => ?_; rotate_right; refine fun (_ : _ = true) => ?_)
    | ((with_reducible apply val_iteL); rotate_left; refine fun (_ : ¬ _) => ?_; rotate_right; refine fun (_ : _ = true) => ?_)
    | (with_reducible exact wps_pure (ent_val rfl)))
  refine wps_ite (fun h1 => ?_) (fun h1 => ?_)
  · repeat (first
      | (with_reducible refine wps_val (geo_within_val _ _ _) ?_)
      | (with_reducible refine wps_stepV (geo_within_val _ _ _) ?_)
      | (with_reducible refine wps_bindpure ?_)
      | (with_reducible refine wps_assoc ?_)
      | (with_reducible refine wps_nil ?_)
      | (with_reducible refine wps_stepAlloc fun _ => ?_)
      | (with_reducible refine wps_alloc fun _ => ?_)
      | (with_reducible refine wps_newO fun _ => ?_)
      | (refine wps_ld _ (by rfl) ?_)
      | (refine wps_ldG _ _ _ (by rfl) ?_)
      | (refine wps_ldA _ (by rfl) ?_)
      | (refine wps_ldI _ (by rfl) ?_)
      | (refine wps_ldGI _ _ _ (by rfl) ?_)
      | (refine wps_ldAI _ (by rfl) ?_)
      | (refine wps_st (by simp) ?_)
      | (refine wps_stA (by simp) (by simp [Value.oneCell']) ?_)
      | ((with_reducible apply wps_val); apply val_ite; rotate_left; refine fun (_ : ¬ _) => ?_; rotate_right; refine fun (_ : _ = true) => ?_)
      | ((with_reducible apply val_ite); rotate_left; refine fun (_ : ¬ _) => ?_; rotate_right; refine fun (_ : _ = true) => ?_)
      | (with_reducible refine wps_regionH ?_)
      | ((with_reducible apply wps_bindV); apply val_iteL; rotate_left; refine fun (_ : ¬ _) => ?_; rotate_right; refine fun (_ : _ = true) => ?_)
      | ((with_reducible apply val_iteL); rotate_left; refine fun (_ : ¬ _) => ?_; rotate_right; refine fun (_ : _ = true) => ?_)
      | (with_reducible exact wps_pure (ent_val rfl)))
    refine wps_ite (fun h2 => ?_) (fun h2 => ?_)
    · repeat (first
        | (with_reducible refine wps_val (geo_within_val _ _ _) ?_)
        | (with_reducible refine wps_stepV (geo_within_val _ _ _) ?_)
        | (with_reducible refine wps_bindpure ?_)
        | (with_reducible refine wps_assoc ?_)
        | (with_reducible refine wps_nil ?_)
        | (with_reducible refine wps_stepAlloc fun _ => ?_)
        | (with_reducible refine wps_alloc fun _ => ?_)
        | (with_reducible refine wps_newO fun _ => ?_)
        | (refine wps_ld _ (by rfl) ?_)
        | (refine wps_ldG _ _ _ (by rfl) ?_)
        | (refine wps_ldA _ (by rfl) ?_)
        | (refine wps_ldI _ (by rfl) ?_)
        | (refine wps_ldGI _ _ _ (by rfl) ?_)
        | (refine wps_ldAI _ (by rfl) ?_)
        | (refine wps_st (by simp) ?_)
        | (refine wps_stA (by simp) (by simp [Value.oneCell']) ?_)
        | ((with_reducible apply wps_val); apply val_ite; rotate_left; refine fun (_ : ¬ _) => ?_; rotate_right; refine fun (_ : _ = true) => ?_)
        | ((with_reducible apply val_ite); rotate_left; refine fun (_ : ¬ _) => ?_; rotate_right; refine fun (_ : _ = true) => ?_)
        | (with_reducible refine wps_regionH ?_)
        | ((with_reducible apply wps_bindV); apply val_iteL; rotate_left; refine fun (_ : ¬ _) => ?_; rotate_right; refine fun (_ : _ = true) => ?_)
        | ((with_reducible apply val_iteL); rotate_left; refine fun (_ : ¬ _) => ?_; rotate_right; refine fun (_ : _ = true) => ?_)
        | (with_reducible exact wps_pure (ent_val rfl)))
      refine wps_ite (fun h3 => ?_) (fun h3 => ?_)
      · repeat (first
          | (with_reducible refine wps_val (geo_others_val _) ?_)
          | (with_reducible refine wps_stepV (geo_others_val _) ?_)
          | (with_reducible refine wps_val (geo_places_val _) ?_)
          | (with_reducible refine wps_stepV (geo_places_val _) ?_)
          | (with_reducible refine wps_bindpure ?_)
          | (with_reducible refine wps_assoc ?_)
          | (with_reducible refine wps_nil ?_)
          | (with_reducible refine wps_stepAlloc fun _ => ?_)
          | (with_reducible refine wps_alloc fun _ => ?_)
          | (with_reducible refine wps_newO fun _ => ?_)
          | (refine wps_ld _ (by rfl) ?_)
          | (refine wps_ldG _ _ _ (by rfl) ?_)
          | (refine wps_ldA _ (by rfl) ?_)
          | (refine wps_ldI _ (by rfl) ?_)
          | (refine wps_ldGI _ _ _ (by rfl) ?_)
          | (refine wps_ldAI _ (by rfl) ?_)
          | (refine wps_st (by simp) ?_)
          | (refine wps_stA (by simp) (by simp [Value.oneCell']) ?_)
          | ((with_reducible apply wps_val); apply val_ite; rotate_left; refine fun (_ : ¬ _) => ?_; rotate_right; refine fun (_ : _ = true) => ?_)
          | ((with_reducible apply val_ite); rotate_left; refine fun (_ : ¬ _) => ?_; rotate_right; refine fun (_ : _ = true) => ?_)
          | (with_reducible refine wps_regionH ?_)
          | ((with_reducible apply wps_bindV); apply val_iteL; rotate_left; refine fun (_ : ¬ _) => ?_; rotate_right; refine fun (_ : _ = true) => ?_)
          | ((with_reducible apply val_iteL); rotate_left; refine fun (_ : ¬ _) => ?_; rotate_right; refine fun (_ : _ = true) => ?_)
          | (with_reducible exact wps_pure (ent_val rfl)))
        refine wps_pure (ent_val ?_)
        simp only [decide_eq_true_eq] at h1 h2 h3
        have hb : Bnd p := ⟨h1.1, h1.2, h2.1, h2.2, h3.1, h3.2⟩
        simp only [hb.others.1, hb.places.1, hb.prod, RightB, h1, h2, h3]
        simp
      · refine wps_pure (ent_val ?_)
        simp only [RightB, h1, h2, h3]; simp
    · refine wps_pure (ent_val ?_)
      simp only [RightB, h1, h2]; simp
  · refine wps_pure (ent_val ?_)
    simp only [RightB, h1]; simp
def SectorsI (p : G3) : Int := if RightB p then 5 + p.2.2 * p.2.1 else 0
theorem Bnd.sect {p : G3} (h : Bnd p) : w64 (5 + w64 (p.2.2 * p.2.1)) = 5 + p.2.2 * p.2.1 ∧ 12 ≤ p.2.2 * p.2.1 ∧ p.2.2 * p.2.1 ≤ 256 := by
  have h1 := h.r1
  have h2 := h.r4
  have h3 := h.s12
  have h4 := h.s64
  have h5 : p.2.2 * p.2.1 ≤ 64 * 4 := Int.mul_le_mul h4 h2 (by omega) (by omega)
  have h6 : 12 * 1 ≤ p.2.2 * p.2.1 := Int.mul_le_mul h3 h1 (by omega) (by omega)
  rw [w64_id (n := p.2.2 * p.2.1) (by omega) (by omega), w64_id (by omega) (by omega)]
  omega
theorem geo_Sectors_val {g : Fr} {H : HP} (p : G3) : Val g H (geo_Sectors p) (SectorsI p) := by
  unfold geo_Sectors
  repeat (first
    | (with_reducible refine wps_val (geo_Right_val _) ?_)
    | (with_reducible refine wps_stepV (geo_Right_val _) ?_)
    | (with_reducible refine wps_bindpure ?_)
    | (with_reducible refine wps_assoc ?_)
    | (with_reducible refine wps_nil ?_)
    | (with_reducible refine wps_stepAlloc fun _ => ?_)
    | (with_reducible refine wps_alloc fun _ => ?_)
    | (with_reducible refine wps_newO fun _ => ?_)
    | (refine wps_ld _ (by rfl) ?_)
    | (refine wps_ldG _ _ _ (by rfl) ?_)
    | (refine wps_ldA _ (by rfl) ?_)
    | (refine wps_ldI _ (by rfl) ?_)
    | (refine wps_ldGI _ _ _ (by rfl) ?_)
    | (refine wps_ldAI _ (by rfl) ?_)
    | (refine wps_st (by simp) ?_)
    | (refine wps_stA (by simp) (by simp [Value.oneCell']) ?_)
    | ((with_reducible apply wps_val); apply val_ite; rotate_left; refine fun (_ : ¬ _) => ?_; rotate_right; refine fun (_ : _ = true) => ?_)
    | ((with_reducible apply val_ite); rotate_left; refine fun (_ : ¬ _) => ?_; rotate_right; refine fun (_ : _ = true) => ?_)
    | (with_reducible refine wps_regionH ?_)
    | ((with_reducible apply wps_bindV); apply val_iteL; rotate_left; refine fun (_ : ¬ _) => ?_; rotate_right; refine fun (_ : _ = true) => ?_)
    | ((with_reducible apply val_iteL); rotate_left; refine fun (_ : ¬ _) => ?_; rotate_right; refine fun (_ : _ = true) => ?_)
    | (with_reducible exact wps_pure (ent_val rfl)))
  refine wps_ite (fun h1 => ?_) (fun h1 => ?_)
  · refine wps_pure (ent_val ?_)
    simp only [Bool.not_eq_true'] at h1
    simp [SectorsI, h1]
  · repeat (first
      | (with_reducible refine wps_bindpure ?_)
      | (with_reducible refine wps_assoc ?_)
      | (with_reducible refine wps_nil ?_)
      | (with_reducible refine wps_stepAlloc fun _ => ?_)
      | (with_reducible refine wps_alloc fun _ => ?_)
      | (with_reducible refine wps_newO fun _ => ?_)
      | (refine wps_ld _ (by rfl) ?_)
      | (refine wps_ldG _ _ _ (by rfl) ?_)
      | (refine wps_ldA _ (by rfl) ?_)
      | (refine wps_ldI _ (by rfl) ?_)
      | (refine wps_ldGI _ _ _ (by rfl) ?_)
      | (refine wps_ldAI _ (by rfl) ?_)
      | (refine wps_st (by simp) ?_)
      | (refine wps_stA (by simp) (by simp [Value.oneCell']) ?_)
      | ((with_reducible apply wps_val); apply val_ite; rotate_left; refine fun (_ : ¬ _) => ?_; rotate_right; refine fun (_ : _ = true) => ?_)
      | ((with_reducible apply val_ite); rotate_left; refine fun (_ : ¬ _) => ?_; rotate_right; refine fun (_ : _ = true) => ?_)
      | (with_reducible refine wps_regionH ?_)
      | ((with_reducible apply wps_bindV); apply val_iteL; rotate_left; refine fun (_ : ¬ _) => ?_; rotate_right; refine fun (_ : _ = true) => ?_)
      | ((with_reducible apply val_iteL); rotate_left; refine fun (_ : ¬ _) => ?_; rotate_right; refine fun (_ : _ = true) => ?_)
      | (with_reducible exact wps_pure (ent_val rfl)))
    refine wps_pure (ent_val ?_)
    have h1 : RightB p = true := by simpa using h1
    rw [(RightB.bnd h1).sect.1]
    simp [SectorsI, h1]
theorem ref03_Right_val {g : Fr} {H : HP} (p : G3) : Val g H (ref03_Right p) (RightB p) := by
  unfold ref03_Right
  apply val_eq
  · repeat (first
      | (with_reducible refine wps_bindpure ?_)
      | (with_reducible refine wps_assoc ?_)
      | (with_reducible refine wps_nil ?_)
      | (with_reducible refine wps_stepAlloc fun _ => ?_)
      | (with_reducible refine wps_alloc fun _ => ?_)
      | (with_reducible refine wps_newO fun _ => ?_)
      | (refine wps_ld _ (by rfl) ?_)
      | (refine wps_ldG _ _ _ (by rfl) ?_)
      | (refine wps_ldA _ (by rfl) ?_)
      | (refine wps_ldI _ (by rfl) ?_)
      | (refine wps_ldGI _ _ _ (by rfl) ?_)
      | (refine wps_ldAI _ (by rfl) ?_)
      | (refine wps_st (by simp) ?_)
      | (refine wps_stA (by simp) (by simp [Value.oneCell']) ?_)
      | ((with_reducible apply wps_val); apply val_ite; rotate_left; refine fun (_ : ¬ _) => ?_; rotate_right; refine fun (_ : _ = true) => ?_)
      | ((with_reducible apply val_ite); rotate_left; refine fun (_ : ¬ _) => ?_; rotate_right; refine fun (_ : _ = true) => ?_)
      | (with_reducible refine wps_regionH ?_)
      | ((with_reducible apply wps_bindV); apply val_iteL; rotate_left; refine fun (_ : ¬ _) => ?_; rotate_right; refine fun (_ : _ = true) => ?_)
      | ((with_reducible apply val_iteL); rotate_left; refine fun (_ : ¬ _) => ?_; rotate_right; refine fun (_ : _ = true) => ?_)
      | (with_reducible exact wps_pure (ent_val rfl)))
  · by_cases h1 : 3 ≤ p.1
    · by_cases h2 : p.1 ≤ 16
      · by_cases h3 : 1 ≤ p.2.1
        · by_cases h4 : p.2.1 ≤ 4
          · by_cases h5 : 12 ≤ p.2.2
            · by_cases h6 : p.2.2 ≤ 64
              · have hb : Bnd p := ⟨h1, h2, h3, h4, h5, h6⟩
                simp only [hb.others.1, hb.places.1, hb.prod]
                simp [RightB, h1, h2, h3, h4, h5, h6, Int.not_lt]
              · simp [RightB, h6, Int.not_le.1 h6]
            · simp [RightB, h5, Int.not_le.1 h5]
          · simp [RightB, h4, Int.not_le.1 h4]
        · simp [RightB, h3, Int.not_le.1 h3]
      · simp [RightB, h2, Int.not_le.1 h2]
    · simp [RightB, h1, Int.not_le.1 h1]
theorem ref03_Sectors_val {g : Fr} {H : HP} (p : G3) : Val g H (ref03_Sectors p) (SectorsI p) := by
  unfold ref03_Sectors
  apply val_eq
  · repeat (first
      | (with_reducible refine wps_val (ref03_Right_val _) ?_)
      | (with_reducible refine wps_stepV (ref03_Right_val _) ?_)
      | (with_reducible refine wps_bindpure ?_)
      | (with_reducible refine wps_assoc ?_)
      | (with_reducible refine wps_nil ?_)
      | (with_reducible refine wps_stepAlloc fun _ => ?_)
      | (with_reducible refine wps_alloc fun _ => ?_)
      | (with_reducible refine wps_newO fun _ => ?_)
      | (refine wps_ld _ (by rfl) ?_)
      | (refine wps_ldG _ _ _ (by rfl) ?_)
      | (refine wps_ldA _ (by rfl) ?_)
      | (refine wps_ldI _ (by rfl) ?_)
      | (refine wps_ldGI _ _ _ (by rfl) ?_)
      | (refine wps_ldAI _ (by rfl) ?_)
      | (refine wps_st (by simp) ?_)
      | (refine wps_stA (by simp) (by simp [Value.oneCell']) ?_)
      | ((with_reducible apply wps_val); apply val_ite; rotate_left; refine fun (_ : ¬ _) => ?_; rotate_right; refine fun (_ : _ = true) => ?_)
      | ((with_reducible apply val_ite); rotate_left; refine fun (_ : ¬ _) => ?_; rotate_right; refine fun (_ : _ = true) => ?_)
      | (with_reducible refine wps_regionH ?_)
      | ((with_reducible apply wps_bindV); apply val_iteL; rotate_left; refine fun (_ : ¬ _) => ?_; rotate_right; refine fun (_ : _ = true) => ?_)
      | ((with_reducible apply val_iteL); rotate_left; refine fun (_ : ¬ _) => ?_; rotate_right; refine fun (_ : _ = true) => ?_)
      | (with_reducible exact wps_pure (ent_val rfl)))
  · by_cases h1 : RightB p = true
    · simp [h1, SectorsI, (RightB.bnd h1).sect.1]
    · simp [h1, SectorsI]
/-- may a geometry have this member: (epoch, slot, state) -/
def FitsB (p m : G3) : Bool := m.2.2 == 0 || ((m.2.2 == 1 || m.2.2 == 2) && (decide (0 ≤ m.2.1) && decide (m.2.1 < p.1)))
theorem bank_fits_val {g : Fr} {H : HP} (p m : G3) : Val g H (bank_fits p m) (FitsB p m) := by
  unfold bank_fits
  apply val_eq
  · repeat (first
      | (with_reducible refine wps_bindpure ?_)
      | (with_reducible refine wps_assoc ?_)
      | (with_reducible refine wps_nil ?_)
      | (with_reducible refine wps_stepAlloc fun _ => ?_)
      | (with_reducible refine wps_alloc fun _ => ?_)
      | (with_reducible refine wps_newO fun _ => ?_)
      | (refine wps_ld _ (by rfl) ?_)
      | (refine wps_ldG _ _ _ (by rfl) ?_)
      | (refine wps_ldA _ (by rfl) ?_)
      | (refine wps_ldI _ (by rfl) ?_)
      | (refine wps_ldGI _ _ _ (by rfl) ?_)
      | (refine wps_ldAI _ (by rfl) ?_)
      | (refine wps_st (by simp) ?_)
      | (refine wps_stA (by simp) (by simp [Value.oneCell']) ?_)
      | ((with_reducible apply wps_val); apply val_ite; rotate_left; refine fun (_ : ¬ _) => ?_; rotate_right; refine fun (_ : _ = true) => ?_)
      | ((with_reducible apply val_ite); rotate_left; refine fun (_ : ¬ _) => ?_; rotate_right; refine fun (_ : _ = true) => ?_)
      | (with_reducible refine wps_regionH ?_)
      | ((with_reducible apply wps_bindV); apply val_iteL; rotate_left; refine fun (_ : ¬ _) => ?_; rotate_right; refine fun (_ : _ = true) => ?_)
      | ((with_reducible apply val_iteL); rotate_left; refine fun (_ : ¬ _) => ?_; rotate_right; refine fun (_ : _ = true) => ?_)
      | (with_reducible exact wps_pure (ent_val rfl)))
  · simp only [FitsB]
    by_cases h0 : m.2.2 = 0
    · simp [h0]
    · by_cases h1 : m.2.2 = 1
      · simp [h1]
      · by_cases h2 : m.2.2 = 2
        · simp [h2]
        · simp [h0, h1, h2]
theorem ref06_Fits_val {g : Fr} {H : HP} (p m : G3) : Val g H (ref06_Fits p m) (FitsB p m) := by
  unfold ref06_Fits
  apply val_eq
  · repeat (first
      | (with_reducible refine wps_bindpure ?_)
      | (with_reducible refine wps_assoc ?_)
      | (with_reducible refine wps_nil ?_)
      | (with_reducible refine wps_stepAlloc fun _ => ?_)
      | (with_reducible refine wps_alloc fun _ => ?_)
      | (with_reducible refine wps_newO fun _ => ?_)
      | (refine wps_ld _ (by rfl) ?_)
      | (refine wps_ldG _ _ _ (by rfl) ?_)
      | (refine wps_ldA _ (by rfl) ?_)
      | (refine wps_ldI _ (by rfl) ?_)
      | (refine wps_ldGI _ _ _ (by rfl) ?_)
      | (refine wps_ldAI _ (by rfl) ?_)
      | (refine wps_st (by simp) ?_)
      | (refine wps_stA (by simp) (by simp [Value.oneCell']) ?_)
      | ((with_reducible apply wps_val); apply val_ite; rotate_left; refine fun (_ : ¬ _) => ?_; rotate_right; refine fun (_ : _ = true) => ?_)
      | ((with_reducible apply val_ite); rotate_left; refine fun (_ : ¬ _) => ?_; rotate_right; refine fun (_ : _ = true) => ?_)
      | (with_reducible refine wps_regionH ?_)
      | ((with_reducible apply wps_bindV); apply val_iteL; rotate_left; refine fun (_ : ¬ _) => ?_; rotate_right; refine fun (_ : _ = true) => ?_)
      | ((with_reducible apply val_iteL); rotate_left; refine fun (_ : ¬ _) => ?_; rotate_right; refine fun (_ : _ = true) => ?_)
      | (with_reducible exact wps_pure (ent_val rfl)))
  · simp only [FitsB]
    by_cases h0 : m.2.2 = 0
    · simp [h0]
    · by_cases h1 : m.2.2 = 1
      · simp [h1]
      · by_cases h2 : m.2.2 = 2
        · simp [h2]
        · have : ¬ (0 ≤ m.2.2 ∧ m.2.2 ≤ 2) := by omega
          by_cases h3 : 0 ≤ m.2.2
          · have h4 : ¬ m.2.2 ≤ 2 := fun h => this ⟨h3, h⟩
            simp [h0, h1, h2, h3, h4]
          · simp [h0, h1, h2, h3]
end Go.Proofs.Ytldmeimebebllaa
namespace Go.Proofs.Ytldmeimebebllaa
open Go.Mo
set_option linter.unusedVariables false

/-! ## parts that may be read -/
def imp (p : Prop) (A : HP) : HP := ⟨fun o => p → A.p o, fun hl h hp => A.up hl (h hp)⟩
instance (p : Prop) (A : HP) [h : Pers A] : Pers (imp p A) := ⟨fun o ho hp => h.core o (ho hp)⟩
def bv (b : List Int) : List Value := b.map (Value.int .u8)
def byt (s : Slc) (b : List Int) : HP := rsl 1 s (bv b)
instance (s : Slc) (b : List Int) : Pers (byt s b) := by unfold byt; infer_instance
theorem bv_one (b : List Int) : ∀ v ∈ bv b, v.oneCell' = true := by
  intro v hv
  simp only [bv, List.mem_map] at hv
  obtain ⟨n, _, rfl⟩ := hv
  rfl
def seqp (l : List Slc) (f : Nat → List Int) : HP := al fun k : Nat => al fun s : Slc => imp (l[k]? = some s) (byt s (f k))
instance (l : List Slc) (f : Nat → List Int) : Pers (seqp l f) := by unfold seqp; infer_instance
theorem seqp_nil (A : HP) (f : Nat → List Int) : Ent A (seqp [] f) := fun o _ k s h => by simp at h
theorem seqp_get {l : List Slc} {f : Nat → List Int} {k : Nat} {s : Slc} (h : l[k]? = some s) : Ent (seqp l f) (byt s (f k)) := fun o ho => ho k s h
theorem seqp_snoc {A : HP} {l : List Slc} {f : Nat → List Int} {s : Slc} (h : Ent A (seqp l f)) (hs : Ent A (byt s (f l.length))) : Ent A (seqp (l ++ [s]) f) := fun o ho k t hk => by
  by_cases hlt : k < l.length
  · rw [List.getElem?_append_left hlt] at hk
    exact h o ho k t hk
  · have : k = l.length := by
      have := (List.getElem?_eq_some_iff.1 hk).1
      simp only [List.length_append, List.length_singleton] at this
      omega
    subst this
    simp at hk
    subst hk
    exact hs o ho
theorem seqp_set {A : HP} {l : List Slc} {f : Nat → List Int} {k : Nat} {s : Slc} {b : List Int} (h : Ent A (seqp l f)) (hs : Ent A (byt s b)) : Ent A (seqp (l.set k s) (fun j => if j = k then b else f j)) := fun o ho j t hj => by
  by_cases hjk : j = k
  · subst hjk
    rw [List.getElem?_set] at hj
    simp only [if_true] at hj
    split at hj
    · cases hj; simp only [if_true]; exact hs o ho
    · cases hj
  · rw [List.getElem?_set_ne (fun e => hjk e.symm)] at hj
    simp only [if_neg hjk]
    exact h o ho j t hj
def cachep (sc : Int → Slc) (c : Int → Option (List Int)) : HP := al fun k : Int => al fun b : List Int => imp (c k = some b) (byt (sc k) b)
instance (sc : Int → Slc) (c : Int → Option (List Int)) : Pers (cachep sc c) := by unfold cachep; infer_instance
theorem cachep_nil (A : HP) (sc : Int → Slc) : Ent A (cachep sc fun _ => none) := fun o _ k b h => by cases h
theorem cachep_get {sc : Int → Slc} {c : Int → Option (List Int)} {k : Int} {b : List Int} (h : c k = some b) : Ent (cachep sc c) (byt (sc k) b) := fun o ho => ho k b h
theorem cachep_put {A : HP} {sc : Int → Slc} {c : Int → Option (List Int)} {k : Int} {s : Slc} {b : List Int} (h : Ent A (cachep sc c)) (hs : Ent A (byt s b)) :
    Ent A (cachep (fun j => if j = k then s else sc j) (fun j => if j = k then some b else c j)) := fun o ho j b' hj => by
  by_cases hjk : j = k
  · subst hjk
    simp only [if_true] at hj ⊢
    cases hj
    exact hs o ho
  · simp only [if_neg hjk] at hj ⊢
    exact h o ho j b' hj

/-! ## many parts side by side -/
def bst : Nat → (Nat → HP) → HP
  | 0, _ => emp
  | n + 1, F => bst n F * F n
theorem bst_congr {n : Nat} {F F' : Nat → HP} (h : ∀ i, i < n → F i = F' i) : bst n F = bst n F' := by
  induction n with
  | zero => rfl
  | succ n ih => simp only [bst]; rw [ih fun i hi => h i (by omega), h n (by omega)]
def hole (j : Nat) (F : Nat → HP) : Nat → HP := fun i => if i = j then emp else F i
theorem bst_focus {n j : Nat} (F : Nat → HP) (hj : j < n) : bst n F = bst n (hole j F) * F j := by
  induction n with
  | zero => omega
  | succ n ih =>
    simp only [bst]
    by_cases h : j = n
    · subst h
      have : bst j (hole j F) = bst j F := bst_congr fun i hi => by simp only [hole]; rw [if_neg (by omega)]
      rw [this]
      simp only [hole, if_true, star_emp]
    · rw [ih (by omega), star_right_comm]
      congr 1
      simp only [hole]
      rw [if_neg (fun e => h e.symm)]
theorem hole_congr {n j : Nat} {F F' : Nat → HP} (h : ∀ i, i < n → i ≠ j → F i = F' i) : bst n (hole j F) = bst n (hole j F') := bst_congr fun i hi => by
  simp only [hole]
  split
  · rfl
  · rename_i hne; exact h i hi hne

theorem bst_put {n j : Nat} {F F' : Nat → HP} (hj : j < n) (h : ∀ i, i < n → i ≠ j → F i = F' i) : bst n F' = bst n (hole j F) * F' j := by
  rw [bst_focus F' hj, hole_congr h]
theorem ent_bst {n j : Nat} {F F' : Nat → HP} {B H : HP} (hj : j < n) (h : ∀ i, i < n → i ≠ j → F i = F' i) (h' : Ent H (B * bst n (hole j F) * F' j)) : Ent H (B * bst n F') := by
  rw [bst_put hj h, ← star_assoc]; exact h'
/-! ## the rack -/
structure Dk where
  lasts : Nat → List Int
  cached : Int → Option (List Int)
  failed : Bool
  count : Int
/-- sectors have 64 bytes; only sectors are cached -/
def Dk.ok (D : Dk) (ns : Nat) : Prop := (∀ k, k < ns → (D.lasts k).length = 64) ∧ ∀ j b, D.cached j = some b → b.length = 64 ∧ 0 ≤ j ∧ j < ns
structure Rk where
  n : Nat
  ns : Nat
  dk : Nat → Dk
  count : Int
  off : Bool
def pv (b : Nat) : Value := .pointer (some ⟨b, 0, none⟩)
def dskX (ns p : Nat) (D : Dk) (ls : Slc) (mb : Nat) (sl : List Slc) (sc : Int → Slc) : HP :=
  pr (sl.length = ns ∧ ls.len = ns ∧ D.ok ns) * (seqp sl D.lasts * cachep sc D.cached) * imap mb (fun j => (D.cached j).map fun _ => vS (sc j)) * own 1 ls (sl.map vS) * pc p [vS ls, .map (some mb), .bool D.failed, .int .i64 D.count]
def dskAt (ns p : Nat) (D : Dk) : HP := ex fun ls : Slc => ex fun mb : Nat => ex fun sl : List Slc => ex fun sc : Int → Slc => dskX ns p D ls mb sl sc
def rackF (ns : Nat) (dk : Nat → Dk) (ps : List Nat) : Nat → HP := fun j => dskAt ns (ps.getD j 0) (dk j)
def rackP (rb : Nat) (R : Rk) (ds : Slc) (ps : List Nat) : HP :=
  pr (ps.length = R.n ∧ ds.len = R.n ∧ R.n ≤ 17 ∧ R.ns ≤ 4096) * bst R.n (rackF R.ns R.dk ps) * own 1 ds (ps.map pv) * pc rb [vS ds, .int .i64 R.ns, .int .i64 R.count, .bool R.off]
def rack (rb : Nat) (R : Rk) : HP := ex fun ds : Slc => ex fun ps : List Nat => rackP rb R ds ps
def noughts : List Int := List.replicate 64 0
def Dk.new : Dk := ⟨fun _ => noughts, fun _ => none, false, -1⟩
def Rk.new (n s : Nat) : Rk := ⟨n, s, fun _ => Dk.new, -1, false⟩
abbrev ptr (b : Nat) : Option Addr := some ⟨b, 0, none⟩
end Go.Proofs.Ytldmeimebebllaa
namespace Go.Proofs.Ytldmeimebebllaa
open Go.Mo
set_option linter.unusedVariables false
theorem range_add1 {n : Nat} {i : Int} (h : i = (n : Int)) (h2 : n < 4611686018427387904) : w64 (i + 1) = ((n + 1 : Nat) : Int) := by
  subst h; rw [w64_id] <;> omega

theorem bv_noughts : bv noughts = List.replicate 64 (Value.int .u8 0) := by simp [bv, noughts]
def dwd (p0_disks p1_sectors : Int) (x24 : Nat) : Int → HP := fun i => ex fun ds : Slc => ex fun ps : List Nat =>
  pr (i = (ps.length : Int) ∧ ps.length ≤ p0_disks.toNat ∧ ds.len = ps.length) * bst ps.length (rackF p1_sectors.toNat (fun _ => Dk.new) ps) * own 1 ds (ps.map pv) * pc x24 [vS ds, .int .i64 p1_sectors, .int .i64 (-1), .bool false]
def dws (p1_sectors : Int) (F : HP) (d m : Nat) : Int → HP := fun k => ex fun ls : Slc => ex fun sl : List Slc =>
  pr (k = (sl.length : Int) ∧ sl.length ≤ p1_sectors.toNat ∧ ls.len = sl.length) * F * seqp sl (fun _ => noughts) * imap m (fun _ => none) * own 1 ls (sl.map vS) * pc d [vS ls, .map (some m), .bool false, .int .i64 (-1)]
theorem device_New_spec {g : Fr} (n s : Int) : wps g emp (device_New n s) (fun x =>
    if n < 1 ∨ n > 17 ∨ s < 1 ∨ s > 4096 then pr (x = (none, 10)) else ex fun rb => pr (x = (ptr rb, 0)) * rack rb (Rk.new n.toNat s.toNat)) := by
  unfold device_New
  repeat (first
    | (with_reducible refine wps_bindpure ?_)
    | (with_reducible refine wps_assoc ?_)
    | (with_reducible refine wps_nil ?_)
    | (with_reducible refine wps_stepAlloc fun _ => ?_)
    | (with_reducible refine wps_alloc fun _ => ?_)
    | (with_reducible refine wps_newO fun _ => ?_)
    | (refine wps_ld _ (by rfl) ?_)
    | (refine wps_ldG _ _ _ (by rfl) ?_)
    | (refine wps_ldA _ (by rfl) ?_)
    | (refine wps_ldI _ (by rfl) ?_)
    | (refine wps_ldGI _ _ _ (by rfl) ?_)
    | (refine wps_ldAI _ (by rfl) ?_)
    | (refine wps_st (by simp) ?_)
    | (refine wps_stA (by simp) (by simp [Value.oneCell']) ?_)
    | ((with_reducible apply wps_val); apply val_ite; rotate_left; refine fun (_ : ¬ _) => ?_; rotate_right; refine fun (_ : _ = true) => ?_)
    | ((with_reducible apply val_ite); rotate_left; refine fun (_ : ¬ _) => ?_; rotate_right; refine fun (_ : _ = true) => ?_)
    | (with_reducible refine wps_regionH ?_)
    | ((with_reducible apply wps_bindV); apply val_iteL; rotate_left; refine fun (_ : ¬ _) => ?_; rotate_right; refine fun (_ : _ = true) => ?_)
    | ((with_reducible apply val_iteL); rotate_left; refine fun (_ : ¬ _) => ?_; rotate_right; refine fun (_ : _ = true) => ?_)
    | (with_reducible exact wps_pure (ent_val rfl)))
  refine wps_ite (fun h1 => ?_) (fun h1 => ?_)
  · refine wps_pure ?_
    rw [if_pos]
    · exact fun _ _ => rfl
    · by_cases a1 : n < 1
      · exact .inl a1
      · by_cases a2 : n > 17
        · exact .inr (.inl a2)
        · by_cases a3 : s < 1
          · exact .inr (.inr (.inl a3))
          · by_cases a4 : s > 4096
            · exact .inr (.inr (.inr a4))
            · simp [a1, a2, a3, a4] at h1
  · have hb : ¬ (n < 1 ∨ n > 17 ∨ s < 1 ∨ s > 4096) := by
      intro hx
      apply h1
      rcases hx with a | a | a | a <;> simp [a]
    simp only [if_neg hb]
    obtain ⟨N, rfl⟩ : ∃ N : Nat, n = (N : Int) := ⟨n.toNat, by omega⟩
    obtain ⟨S, rfl⟩ : ∃ S : Nat, s = (S : Int) := ⟨s.toNat, by omega⟩
    have hN : N ≤ 17 := by omega
    have hS : S ≤ 4096 := by omega
    refine wps_alloc fun x24 => ?_
    refine wps_loop (dwd N S x24) (fun i => (N - i).toNat) ?_ fun i => ?_
    · refine ent_ex nilS (ent_ex [] (ent_pickC (by rfl) (ent_own0 ?_)))
      exact ent_prr (by simp [nilS]) (ent_emp _)
    · unfold dwd
      refine wps_ex fun ds => wps_ex fun ps => wps_prP fun ⟨hi, hle, hlen⟩ => ?_
      refine wps_ite (fun h2 => ?_) (fun h2 => ?_)
      · have hlt : ps.length < N := by simp only [decide_eq_true_eq] at h2; omega
        repeat (first
          | (with_reducible refine wps_bindpure ?_)
          | (with_reducible refine wps_assoc ?_)
          | (with_reducible refine wps_nil ?_)
          | (with_reducible refine wps_stepAlloc fun _ => ?_)
          | (with_reducible refine wps_alloc fun _ => ?_)
          | (with_reducible refine wps_newO fun _ => ?_)
          | (refine wps_ld _ (by rfl) ?_)
          | (refine wps_ldG _ _ _ (by rfl) ?_)
          | (refine wps_ldA _ (by rfl) ?_)
          | (refine wps_ldI _ (by rfl) ?_)
          | (refine wps_ldGI _ _ _ (by rfl) ?_)
          | (refine wps_ldAI _ (by rfl) ?_)
          | (refine wps_st (by simp) ?_)
          | (refine wps_stA (by simp) (by simp [Value.oneCell']) ?_)
          | ((with_reducible apply wps_val); apply val_ite; rotate_left; refine fun (_ : ¬ _) => ?_; rotate_right; refine fun (_ : _ = true) => ?_)
          | ((with_reducible apply val_ite); rotate_left; refine fun (_ : ¬ _) => ?_; rotate_right; refine fun (_ : _ = true) => ?_)
          | (with_reducible refine wps_regionH ?_)
          | ((with_reducible apply wps_bindV); apply val_iteL; rotate_left; refine fun (_ : ¬ _) => ?_; rotate_right; refine fun (_ : _ = true) => ?_)
          | ((with_reducible apply val_iteL); rotate_left; refine fun (_ : ¬ _) => ?_; rotate_right; refine fun (_ : _ = true) => ?_)
          | (with_reducible exact wps_pure (ent_val rfl)))
        rename_i m d
        refine wps_loop (dws S (bst ps.length (rackF (S : Int).toNat (fun _ => Dk.new) ps) * own 1 ds (ps.map pv) * pc x24 [vS ds, .int .i64 S, .int .i64 (-1), .bool false]) d m) (fun k => (S - k).toNat) ?_ fun k => ?_
        · refine ent_ex nilS (ent_ex [] (ent_pickC (by rfl) (ent_own0 ?_)))
          refine ent_swap (imap_new m) (ent_pick (ent_pers ?_ (seqp_nil _ _)))
          exact ent_prr (by simp [nilS]) (Ent.of_eq (by simp only [emp_star]))
        · unfold dws
          refine wps_ex fun ls => wps_ex fun sl => wps_prP fun ⟨hk, hsle, hslen⟩ => ?_
          refine wps_ite (fun h3 => ?_) (fun h3 => ?_)
          · have hslt : sl.length < S := by simp only [decide_eq_true_eq] at h3; omega
            repeat (first
              | (with_reducible refine wps_bindpure ?_)
              | (with_reducible refine wps_assoc ?_)
              | (with_reducible refine wps_nil ?_)
              | (with_reducible refine wps_stepAlloc fun _ => ?_)
              | (with_reducible refine wps_alloc fun _ => ?_)
              | (with_reducible refine wps_newO fun _ => ?_)
              | (refine wps_ld _ (by rfl) ?_)
              | (refine wps_ldG _ _ _ (by rfl) ?_)
              | (refine wps_ldA _ (by rfl) ?_)
              | (refine wps_ldI _ (by rfl) ?_)
              | (refine wps_ldGI _ _ _ (by rfl) ?_)
              | (refine wps_ldAI _ (by rfl) ?_)
              | (refine wps_st (by simp) ?_)
              | (refine wps_stA (by simp) (by simp [Value.oneCell']) ?_)
              | ((with_reducible apply wps_val); apply val_ite; rotate_left; refine fun (_ : ¬ _) => ?_; rotate_right; refine fun (_ : _ = true) => ?_)
              | ((with_reducible apply val_ite); rotate_left; refine fun (_ : ¬ _) => ?_; rotate_right; refine fun (_ : _ = true) => ?_)
              | (with_reducible refine wps_regionH ?_)
              | ((with_reducible apply wps_bindV); apply val_iteL; rotate_left; refine fun (_ : ¬ _) => ?_; rotate_right; refine fun (_ : _ = true) => ?_)
              | ((with_reducible apply val_iteL); rotate_left; refine fun (_ : ¬ _) => ?_; rotate_right; refine fun (_ : _ = true) => ?_)
              | (with_reducible exact wps_pure (ent_val rfl)))
            rename_i x c
            refine wps_app 1 [Value.slice (some ⟨x, 0, none⟩) 64 64] rfl (by decide) (rsl_pc rfl) (by simp [Value.oneCell']) (by (try dsimp only); omega) fun ls' hls => ?_
            repeat (first
              | (with_reducible refine wps_bindpure ?_)
              | (with_reducible refine wps_assoc ?_)
              | (with_reducible refine wps_nil ?_)
              | (with_reducible refine wps_stepAlloc fun _ => ?_)
              | (with_reducible refine wps_alloc fun _ => ?_)
              | (with_reducible refine wps_newO fun _ => ?_)
              | (refine wps_ld _ (by rfl) ?_)
              | (refine wps_ldG _ _ _ (by rfl) ?_)
              | (refine wps_ldA _ (by rfl) ?_)
              | (refine wps_ldI _ (by rfl) ?_)
              | (refine wps_ldGI _ _ _ (by rfl) ?_)
              | (refine wps_ldAI _ (by rfl) ?_)
              | (refine wps_st (by simp) ?_)
              | (refine wps_stA (by simp) (by simp [Value.oneCell']) ?_)
              | ((with_reducible apply wps_val); apply val_ite; rotate_left; refine fun (_ : ¬ _) => ?_; rotate_right; refine fun (_ : _ = true) => ?_)
              | ((with_reducible apply val_ite); rotate_left; refine fun (_ : ¬ _) => ?_; rotate_right; refine fun (_ : _ = true) => ?_)
              | (with_reducible refine wps_regionH ?_)
              | ((with_reducible apply wps_bindV); apply val_iteL; rotate_left; refine fun (_ : ¬ _) => ?_; rotate_right; refine fun (_ : _ = true) => ?_)
              | ((with_reducible apply val_iteL); rotate_left; refine fun (_ : ¬ _) => ?_; rotate_right; refine fun (_ : _ = true) => ?_)
              | (with_reducible exact wps_pure (ent_val rfl)))
            refine wps_pure (ent_prr (by rw [range_add1 hk (by omega)]; omega) (ent_ex ls' (ent_ex (sl ++ [⟨some ⟨x, 0, none⟩, 64, 64⟩]) (ent_pickC (by rfl) (ent_pickS (by simp [vS]) (ent_pickM rfl ?_))))))
            refine ent_swap (A := pc x (List.replicate 64 (Value.int .u8 0))) (B := byt ⟨some ⟨x, 0, none⟩, 64, 64⟩ noughts) (Ent.trans (Ent.trans (pc_own (n := 64) (z := 1) (by simp)) (own_rsl _ _ _)) (Ent.of_eq (by rw [byt, bv_noughts]))) ?_
            exact ent_join (A := seqp sl fun _ => noughts) (B := byt ⟨some ⟨x, 0, none⟩, 64, 64⟩ noughts) (seqp_snoc (ent_left _ _) (ent_right _ _)) (ent_prr ⟨by rw [range_add1 hk (by omega)]; simp, by simp; omega, by simp [hls, hslen]⟩ ent_drop)
          · have hse : sl.length = S := by simp only [decide_eq_true_eq] at h3; omega
            refine wps_mapR ?_
            repeat (first
              | (with_reducible refine wps_bindpure ?_)
              | (with_reducible refine wps_assoc ?_)
              | (with_reducible refine wps_nil ?_)
              | (with_reducible refine wps_stepAlloc fun _ => ?_)
              | (with_reducible refine wps_alloc fun _ => ?_)
              | (with_reducible refine wps_newO fun _ => ?_)
              | (refine wps_ld _ (by rfl) ?_)
              | (refine wps_ldG _ _ _ (by rfl) ?_)
              | (refine wps_ldA _ (by rfl) ?_)
              | (refine wps_ldI _ (by rfl) ?_)
              | (refine wps_ldGI _ _ _ (by rfl) ?_)
              | (refine wps_ldAI _ (by rfl) ?_)
              | (refine wps_st (by simp) ?_)
              | (refine wps_stA (by simp) (by simp [Value.oneCell']) ?_)
              | ((with_reducible apply wps_val); apply val_ite; rotate_left; refine fun (_ : ¬ _) => ?_; rotate_right; refine fun (_ : _ = true) => ?_)
              | ((with_reducible apply val_ite); rotate_left; refine fun (_ : ¬ _) => ?_; rotate_right; refine fun (_ : _ = true) => ?_)
              | (with_reducible refine wps_regionH ?_)
              | ((with_reducible apply wps_bindV); apply val_iteL; rotate_left; refine fun (_ : ¬ _) => ?_; rotate_right; refine fun (_ : _ = true) => ?_)
              | ((with_reducible apply val_iteL); rotate_left; refine fun (_ : ¬ _) => ?_; rotate_right; refine fun (_ : _ = true) => ?_)
              | (with_reducible exact wps_pure (ent_val rfl)))
            rename_i c
            refine wps_app 1 [pv d] rfl (by decide) (rsl_pc rfl) (by simp [Value.oneCell', pv]) (by (try dsimp only); omega) fun ds' hds => ?_
            repeat (first
              | (with_reducible refine wps_bindpure ?_)
              | (with_reducible refine wps_assoc ?_)
              | (with_reducible refine wps_nil ?_)
              | (with_reducible refine wps_stepAlloc fun _ => ?_)
              | (with_reducible refine wps_alloc fun _ => ?_)
              | (with_reducible refine wps_newO fun _ => ?_)
              | (refine wps_ld _ (by rfl) ?_)
              | (refine wps_ldG _ _ _ (by rfl) ?_)
              | (refine wps_ldA _ (by rfl) ?_)
              | (refine wps_ldI _ (by rfl) ?_)
              | (refine wps_ldGI _ _ _ (by rfl) ?_)
              | (refine wps_ldAI _ (by rfl) ?_)
              | (refine wps_st (by simp) ?_)
              | (refine wps_stA (by simp) (by simp [Value.oneCell']) ?_)
              | ((with_reducible apply wps_val); apply val_ite; rotate_left; refine fun (_ : ¬ _) => ?_; rotate_right; refine fun (_ : _ = true) => ?_)
              | ((with_reducible apply val_ite); rotate_left; refine fun (_ : ¬ _) => ?_; rotate_right; refine fun (_ : _ = true) => ?_)
              | (with_reducible refine wps_regionH ?_)
              | ((with_reducible apply wps_bindV); apply val_iteL; rotate_left; refine fun (_ : ¬ _) => ?_; rotate_right; refine fun (_ : _ = true) => ?_)
              | ((with_reducible apply val_iteL); rotate_left; refine fun (_ : ¬ _) => ?_; rotate_right; refine fun (_ : _ = true) => ?_)
              | (with_reducible exact wps_pure (ent_val rfl)))
            refine wps_pure (ent_prr (by rw [range_add1 hi (by omega)]; omega) (ent_ex ds' (ent_ex (ps ++ [d]) (ent_pickC (by rfl) (ent_pickS (by simp [pv]) ?_)))))
            have hdk : Ent (seqp sl (fun _ => noughts) * imap m (fun _ => none) * own 1 ls (sl.map vS) * pc d [vS ls, .map (some m), .bool false, .int .i64 (-1)]) (dskAt S d Dk.new) := by
              refine ent_ex ls (ent_ex m (ent_ex sl (ent_ex (fun _ => nilS) (ent_pickC (by rfl) (ent_pick (ent_pickM (by rfl) ?_))))))
              refine ent_prr ⟨hse, by omega, fun k _ => by simp [Dk.new, noughts], fun j b hj => by cases hj⟩ ?_
              exact ent_pers (Ent.refl _) (cachep_nil _ _)
            have hbb : bst (ps ++ [d]).length (rackF (S : Int).toNat (fun _ => Dk.new) (ps ++ [d])) = bst ps.length (rackF (S : Int).toNat (fun _ => Dk.new) ps) * dskAt S d Dk.new := by
              rw [List.length_append, List.length_singleton]
              simp only [bst]
              congr 1
              · exact bst_congr fun i hi => by simp [rackF, List.getD_eq_getElem?_getD, List.getElem?_append_left hi]
              · simp [rackF, List.getD_eq_getElem?_getD]
            rw [hbb]
            refine ent_prr ⟨by rw [range_add1 hi (by omega)]; simp, by simp; omega, by simp [hds, hlen]⟩ ?_
            refine Ent.trans (B := bst ps.length (rackF (S : Int).toNat (fun _ => Dk.new) ps) * (seqp sl (fun _ => noughts) * imap m (fun _ => none) * own 1 ls (sl.map vS) * pc d [vS ls, .map (some m), .bool false, .int .i64 (-1)])) ?_ (Ent.starr hdk)
            simp only [← star_assoc]
            refine ent_pick (ent_pick (ent_pick (ent_pick (ent_drop))))
      · have hpe : ps.length = N := by simp only [decide_eq_true_eq] at h2; omega
        refine wps_mapR (wps_pure (ent_ex x24 (ent_prr rfl (ent_ex ds (ent_ex ps (ent_pickC (by rfl) (ent_pick ?_)))))))
        exact ent_prr ⟨hpe, by rw [hlen, hpe]; rfl, hN, hS⟩ (by subst hpe; exact ent_pick1 (A := bst ps.length (rackF (S : Int).toNat (fun _ => Dk.new) ps)))
end Go.Proofs.Ytldmeimebebllaa
namespace Go.Proofs.Ytldmeimebebllaa
open Go.Mo
set_option linter.unusedVariables false
def diskV (R : Rk) (ps : List Nat) (k s : Int) : Option Addr × Int :=
  if R.off then (none, 12) else if k < 0 ∨ k ≥ R.n ∨ s < 0 ∨ s ≥ R.ns then (none, 11) else (ptr (ps.getD k.toNat 0), 0)
variable {g : Fr}
theorem or_tree {a b c d : Prop} [Decidable a] [Decidable b] [Decidable c] [Decidable d] :
    ((if (if (if decide a = true then true else decide b) = true then true else decide c) = true then true else decide d) = true) = (a ∨ b ∨ c ∨ d) := by
  by_cases ha : a <;> by_cases hb : b <;> by_cases hc : c <;> by_cases hd : d <;> simp [ha, hb, hc, hd]
theorem device_Rack_disk_val (rb : Nat) (R : Rk) (ds : Slc) (ps : List Nat) (k s : Int) : Val g (rackP rb R ds ps) (device_Rack_disk (ptr rb) k s) (diskV R ps k s) := by
  unfold device_Rack_disk rackP
  refine wps_factP fun ⟨h1, h2, h17, hns⟩ => ?_
  repeat (first
    | (with_reducible refine wps_bindpure ?_)
    | (with_reducible refine wps_assoc ?_)
    | (with_reducible refine wps_nil ?_)
    | (with_reducible refine wps_stepAlloc fun _ => ?_)
    | (with_reducible refine wps_alloc fun _ => ?_)
    | (with_reducible refine wps_newO fun _ => ?_)
    | (refine wps_ld _ (by rfl) ?_)
    | (refine wps_ldG _ _ _ (by rfl) ?_)
    | (refine wps_ldA _ (by rfl) ?_)
    | (refine wps_ldI _ (by rfl) ?_)
    | (refine wps_ldGI _ _ _ (by rfl) ?_)
    | (refine wps_ldAI _ (by rfl) ?_)
    | (refine wps_st (by simp) ?_)
    | (refine wps_stA (by simp) (by simp [Value.oneCell']) ?_)
    | ((with_reducible apply wps_val); apply val_ite; rotate_left; refine fun (_ : ¬ _) => ?_; rotate_right; refine fun (_ : _ = true) => ?_)
    | ((with_reducible apply val_ite); rotate_left; refine fun (_ : ¬ _) => ?_; rotate_right; refine fun (_ : _ = true) => ?_)
    | (with_reducible refine wps_regionH ?_)
    | ((with_reducible apply wps_bindV); apply val_iteL; rotate_left; refine fun (_ : ¬ _) => ?_; rotate_right; refine fun (_ : _ = true) => ?_)
    | ((with_reducible apply val_iteL); rotate_left; refine fun (_ : ¬ _) => ?_; rotate_right; refine fun (_ : _ = true) => ?_)
    | (with_reducible exact wps_pure (ent_val rfl)))
  refine wps_ite (fun ho => wps_pure (ent_val ?_)) (fun ho => ?_)
  · simp [diskV, ho]
  · repeat (first
      | (with_reducible refine wps_bindpure ?_)
      | (with_reducible refine wps_assoc ?_)
      | (with_reducible refine wps_nil ?_)
      | (with_reducible refine wps_stepAlloc fun _ => ?_)
      | (with_reducible refine wps_alloc fun _ => ?_)
      | (with_reducible refine wps_newO fun _ => ?_)
      | (refine wps_ld _ (by rfl) ?_)
      | (refine wps_ldG _ _ _ (by rfl) ?_)
      | (refine wps_ldA _ (by rfl) ?_)
      | (refine wps_ldI _ (by rfl) ?_)
      | (refine wps_ldGI _ _ _ (by rfl) ?_)
      | (refine wps_ldAI _ (by rfl) ?_)
      | (refine wps_st (by simp) ?_)
      | (refine wps_stA (by simp) (by simp [Value.oneCell']) ?_)
      | ((with_reducible apply wps_val); apply val_ite; rotate_left; refine fun (_ : ¬ _) => ?_; rotate_right; refine fun (_ : _ = true) => ?_)
      | ((with_reducible apply val_ite); rotate_left; refine fun (_ : ¬ _) => ?_; rotate_right; refine fun (_ : _ = true) => ?_)
      | (with_reducible refine wps_regionH ?_)
      | ((with_reducible apply wps_bindV); apply val_iteL; rotate_left; refine fun (_ : ¬ _) => ?_; rotate_right; refine fun (_ : _ = true) => ?_)
      | ((with_reducible apply val_iteL); rotate_left; refine fun (_ : ¬ _) => ?_; rotate_right; refine fun (_ : _ = true) => ?_)
      | (with_reducible exact wps_pure (ent_val rfl)))
    refine wps_ite (fun hx => wps_pure (ent_val ?_)) (fun hx => ?_)
    · rw [or_tree, h2] at hx
      simp only [diskV, if_neg ho, if_pos hx]
    · rw [or_tree, h2] at hx
      repeat (first
        | (with_reducible refine wps_bindpure ?_)
        | (with_reducible refine wps_assoc ?_)
        | (with_reducible refine wps_nil ?_)
        | (with_reducible refine wps_stepAlloc fun _ => ?_)
        | (with_reducible refine wps_alloc fun _ => ?_)
        | (with_reducible refine wps_newO fun _ => ?_)
        | (refine wps_ld _ (by rfl) ?_)
        | (refine wps_ldG _ _ _ (by rfl) ?_)
        | (refine wps_ldA _ (by rfl) ?_)
        | (refine wps_ldI _ (by rfl) ?_)
        | (refine wps_ldGI _ _ _ (by rfl) ?_)
        | (refine wps_ldAI _ (by rfl) ?_)
        | (refine wps_st (by simp) ?_)
        | (refine wps_stA (by simp) (by simp [Value.oneCell']) ?_)
        | ((with_reducible apply wps_val); apply val_ite; rotate_left; refine fun (_ : ¬ _) => ?_; rotate_right; refine fun (_ : _ = true) => ?_)
        | ((with_reducible apply val_ite); rotate_left; refine fun (_ : ¬ _) => ?_; rotate_right; refine fun (_ : _ = true) => ?_)
        | (with_reducible refine wps_regionH ?_)
        | ((with_reducible apply wps_bindV); apply val_iteL; rotate_left; refine fun (_ : ¬ _) => ?_; rotate_right; refine fun (_ : _ = true) => ?_)
        | ((with_reducible apply val_iteL); rotate_left; refine fun (_ : ¬ _) => ?_; rotate_right; refine fun (_ : _ = true) => ?_)
        | (with_reducible exact wps_pure (ent_val rfl)))
      have hk : k.toNat < R.n := by omega
      refine wps_rdS k.toNat (ptr (ps.getD k.toNat 0)) (by omega) ?_ ?_
      · rw [List.getElem?_map, List.getElem?_eq_getElem (by omega)]
        simp [pv, List.getD_eq_getElem?_getD, List.getElem?_eq_getElem (show k.toNat < ps.length by omega)]
      · refine wps_pure (ent_val ?_)
        simp only [diskV, if_neg ho, if_neg hx]
abbrev Dk.tick (D : Dk) : Dk := { D with failed := if D.failed = true then true else D.count == 0, count := maxI (w64 (D.count - 1)) (-1) }
def Rk.ticked (R : Rk) : Rk := if R.count = 0 then { R with off := true } else { R with count := maxI (w64 (R.count - 1)) (-1), dk := fun j => (R.dk j).tick }
def Rk.part (R : Rk) (i : Nat) : Nat → Dk := fun j => if j < i then (R.dk j).tick else R.dk j
theorem device_Rack_call_spec (rb : Nat) (R : Rk) (ds : Slc) (ps : List Nat) : wps g (rackP rb R ds ps) (device_Rack_call (ptr rb)) (fun b => pr (b = (R.count != 0)) * rackP rb R.ticked ds ps) := by
  unfold device_Rack_call rackP
  refine wps_prP fun ⟨h1, h2, h17, hns⟩ => ?_
  repeat (first
    | (with_reducible refine wps_bindpure ?_)
    | (with_reducible refine wps_assoc ?_)
    | (with_reducible refine wps_nil ?_)
    | (with_reducible refine wps_stepAlloc fun _ => ?_)
    | (with_reducible refine wps_alloc fun _ => ?_)
    | (with_reducible refine wps_newO fun _ => ?_)
    | (refine wps_ld _ (by rfl) ?_)
    | (refine wps_ldG _ _ _ (by rfl) ?_)
    | (refine wps_ldA _ (by rfl) ?_)
    | (refine wps_ldI _ (by rfl) ?_)
    | (refine wps_ldGI _ _ _ (by rfl) ?_)
    | (refine wps_ldAI _ (by rfl) ?_)
    | (refine wps_st (by simp) ?_)
    | (refine wps_stA (by simp) (by simp [Value.oneCell']) ?_)
    | ((with_reducible apply wps_val); apply val_ite; rotate_left; refine fun (_ : ¬ _) => ?_; rotate_right; refine fun (_ : _ = true) => ?_)
    | ((with_reducible apply val_ite); rotate_left; refine fun (_ : ¬ _) => ?_; rotate_right; refine fun (_ : _ = true) => ?_)
    | (with_reducible refine wps_regionH ?_)
    | ((with_reducible apply wps_bindV); apply val_iteL; rotate_left; refine fun (_ : ¬ _) => ?_; rotate_right; refine fun (_ : _ = true) => ?_)
    | ((with_reducible apply val_iteL); rotate_left; refine fun (_ : ¬ _) => ?_; rotate_right; refine fun (_ : _ = true) => ?_)
    | (with_reducible exact wps_pure (ent_val rfl)))
  refine wps_ite (fun ho => ?_) (fun ho => ?_)
  · repeat (first
      | (with_reducible refine wps_bindpure ?_)
      | (with_reducible refine wps_assoc ?_)
      | (with_reducible refine wps_nil ?_)
      | (with_reducible refine wps_stepAlloc fun _ => ?_)
      | (with_reducible refine wps_alloc fun _ => ?_)
      | (with_reducible refine wps_newO fun _ => ?_)
      | (refine wps_ld _ (by rfl) ?_)
      | (refine wps_ldG _ _ _ (by rfl) ?_)
      | (refine wps_ldA _ (by rfl) ?_)
      | (refine wps_ldI _ (by rfl) ?_)
      | (refine wps_ldGI _ _ _ (by rfl) ?_)
      | (refine wps_ldAI _ (by rfl) ?_)
      | (refine wps_st (by simp) ?_)
      | (refine wps_stA (by simp) (by simp [Value.oneCell']) ?_)
      | ((with_reducible apply wps_val); apply val_ite; rotate_left; refine fun (_ : ¬ _) => ?_; rotate_right; refine fun (_ : _ = true) => ?_)
      | ((with_reducible apply val_ite); rotate_left; refine fun (_ : ¬ _) => ?_; rotate_right; refine fun (_ : _ = true) => ?_)
      | (with_reducible refine wps_regionH ?_)
      | ((with_reducible apply wps_bindV); apply val_iteL; rotate_left; refine fun (_ : ¬ _) => ?_; rotate_right; refine fun (_ : _ = true) => ?_)
      | ((with_reducible apply val_iteL); rotate_left; refine fun (_ : ¬ _) => ?_; rotate_right; refine fun (_ : _ = true) => ?_)
      | (with_reducible exact wps_pure (ent_val rfl)))
    have ho' : R.count = 0 := by simpa using ho
    refine wps_pure (ent_prr (by simp [ho']) ?_)
    simp only [Rk.ticked, if_pos ho']
    refine ent_pickC (by simp [ho']) (ent_pick (ent_pick (ent_prq ⟨h1, h2, h17, hns⟩)))
  · repeat (first
      | (with_reducible refine wps_bindpure ?_)
      | (with_reducible refine wps_assoc ?_)
      | (with_reducible refine wps_nil ?_)
      | (with_reducible refine wps_stepAlloc fun _ => ?_)
      | (with_reducible refine wps_alloc fun _ => ?_)
      | (with_reducible refine wps_newO fun _ => ?_)
      | (refine wps_ld _ (by rfl) ?_)
      | (refine wps_ldG _ _ _ (by rfl) ?_)
      | (refine wps_ldA _ (by rfl) ?_)
      | (refine wps_ldI _ (by rfl) ?_)
      | (refine wps_ldGI _ _ _ (by rfl) ?_)
      | (refine wps_ldAI _ (by rfl) ?_)
      | (refine wps_st (by simp) ?_)
      | (refine wps_stA (by simp) (by simp [Value.oneCell']) ?_)
      | ((with_reducible apply wps_val); apply val_ite; rotate_left; refine fun (_ : ¬ _) => ?_; rotate_right; refine fun (_ : _ = true) => ?_)
      | ((with_reducible apply val_ite); rotate_left; refine fun (_ : ¬ _) => ?_; rotate_right; refine fun (_ : _ = true) => ?_)
      | (with_reducible refine wps_regionH ?_)
      | ((with_reducible apply wps_bindV); apply val_iteL; rotate_left; refine fun (_ : ¬ _) => ?_; rotate_right; refine fun (_ : _ = true) => ?_)
      | ((with_reducible apply val_iteL); rotate_left; refine fun (_ : ¬ _) => ?_; rotate_right; refine fun (_ : _ = true) => ?_)
      | (with_reducible exact wps_pure (ent_val rfl)))
    have ho' : R.count ≠ 0 := by simpa using ho
    refine wps_loop (fun i => ex fun n : Nat => pr (i = (n : Int) ∧ n ≤ R.n) * bst R.n (rackF R.ns (R.part n) ps) * own 1 ds (ps.map pv) * pc rb [vS ds, .int .i64 R.ns, .int .i64 (maxI (w64 (R.count - 1)) (-1)), .bool R.off]) (fun i => (R.n - i).toNat) ?_ fun i => ?_
    · refine ent_ex 0 (ent_pickC (by rfl) (ent_pick ?_))
      refine ent_prr ⟨rfl, by omega⟩ ?_
      exact Ent.trans (ent_drop (B := bst R.n (rackF R.ns R.dk ps))) (Ent.of_eq (bst_congr fun j _ => by simp [rackF, Rk.part]))
    · refine wps_ex fun n => wps_prP fun ⟨hi, hle⟩ => ?_
      refine wps_ite (fun hc => ?_) (fun hc => ?_)
      · have hlt : n < R.n := by simp only [decide_eq_true_eq, h2] at hc; omega
        refine wps_rdS n (ptr (ps.getD n 0)) (by omega) ?_ ?_
        · rw [List.getElem?_map, List.getElem?_eq_getElem (by omega)]
          simp [pv, List.getD_eq_getElem?_getD, List.getElem?_eq_getElem (show n < ps.length by omega)]
        · rw [bst_focus _ hlt]
          simp only [rackF, dskAt, dskX]
          refine wps_exP fun ls => wps_exP fun mb => wps_exP fun sl => wps_exP fun sc => wps_prP fun hd => ?_
          repeat (first
            | (with_reducible refine wps_bindpure ?_)
            | (with_reducible refine wps_assoc ?_)
            | (with_reducible refine wps_nil ?_)
            | (with_reducible refine wps_stepAlloc fun _ => ?_)
            | (with_reducible refine wps_alloc fun _ => ?_)
            | (with_reducible refine wps_newO fun _ => ?_)
            | (refine wps_ld _ (by rfl) ?_)
            | (refine wps_ldG _ _ _ (by rfl) ?_)
            | (refine wps_ldA _ (by rfl) ?_)
            | (refine wps_ldI _ (by rfl) ?_)
            | (refine wps_ldGI _ _ _ (by rfl) ?_)
            | (refine wps_ldAI _ (by rfl) ?_)
            | (refine wps_st (by simp) ?_)
            | (refine wps_stA (by simp) (by simp [Value.oneCell']) ?_)
            | ((with_reducible apply wps_val); apply val_ite; rotate_left; refine fun (_ : ¬ _) => ?_; rotate_right; refine fun (_ : _ = true) => ?_)
            | ((with_reducible apply val_ite); rotate_left; refine fun (_ : ¬ _) => ?_; rotate_right; refine fun (_ : _ = true) => ?_)
            | (with_reducible refine wps_regionH ?_)
            | ((with_reducible apply wps_bindV); apply val_iteL; rotate_left; refine fun (_ : ¬ _) => ?_; rotate_right; refine fun (_ : _ = true) => ?_)
            | ((with_reducible apply val_iteL); rotate_left; refine fun (_ : ¬ _) => ?_; rotate_right; refine fun (_ : _ = true) => ?_)
            | (with_reducible exact wps_pure (ent_val rfl)))
          refine wps_pure (ent_prr (by rw [range_add1 hi (by omega)]; omega) (ent_ex (n + 1) (ent_pickC (by rfl) (ent_pick ?_))))
          have hpart : ∀ i, i < R.n → i ≠ n → rackF R.ns (R.part n) ps i = rackF R.ns (R.part (n + 1)) ps i := by
            intro i _ hne
            have : i < n + 1 ↔ i < n := by omega
            simp only [rackF, Rk.part, this]
          refine ent_bst hlt hpart ?_
          have hpn : R.part (n + 1) n = (R.part n n).tick := by simp [Rk.part]
          simp only [rackF, hpn, dskAt]
          refine ent_exr ls ?_
          refine ent_exr mb ?_
          refine ent_exr sl ?_
          refine ent_exr sc ?_
          simp only [dskX, ← star_assoc]
          exact ent_pickC (by rfl) (ent_pick (ent_pick (ent_pick (ent_pick (ent_prx hd (ent_pick (ent_prq ⟨range_add1 hi (by omega), by omega⟩)))))))
      · have hne : n = R.n := by simp only [decide_eq_true_eq, h2] at hc; omega
        refine wps_mapR (wps_pure ?_)
        refine ent_prr (by simp [ho']) ?_
        simp only [Rk.ticked, if_neg ho']
        refine ent_pickC (by rfl) (ent_pick ?_)
        rw [bst_congr (F := rackF R.ns (fun j => (R.dk j).tick) ps) (F' := rackF R.ns (R.part n) ps) fun j hj => by simp [rackF, Rk.part, hne, hj]]
        exact ent_pick (ent_prq ⟨h1, h2, h17, hns⟩)

theorem rackP_focus (rb : Nat) (R : Rk) (ds : Slc) (ps : List Nat) {j : Nat} (hj : j < R.n) : rackP rb R ds ps =
    pr (ps.length = R.n ∧ ds.len = R.n ∧ R.n ≤ 17 ∧ R.ns ≤ 4096) * bst R.n (hole j (rackF R.ns R.dk ps)) * own 1 ds (ps.map pv) * pc rb [vS ds, .int .i64 R.ns, .int .i64 R.count, .bool R.off] * dskAt R.ns (ps.getD j 0) (R.dk j) := by
  unfold rackP
  rw [bst_focus _ hj]
  simp only [← star_assoc]
  rw [star_right_comm _ (rackF R.ns R.dk ps j), star_right_comm _ (rackF R.ns R.dk ps j)]
  rfl
theorem rackP_val {α : Type} {rb : Nat} {R : Rk} {ds : Slc} {ps : List Nat} {j : Nat} {m : M α} {v : α} (hj : j < R.n) (h : ∀ g', Val g' (dskAt R.ns (ps.getD j 0) (R.dk j)) m v) : Val g (rackP rb R ds ps) m v :=
  val_frame h (rackP_focus rb R ds ps hj)
theorem pv_get {ps : List Nat} {j : Nat} (h : j < ps.length) : (ps.map pv)[j]? = some (Value.pointer (ptr (ps.getD j 0))) := by
  rw [List.getElem?_map, List.getElem?_eq_getElem h]
  simp [pv, List.getD_eq_getElem?_getD, List.getElem?_eq_getElem h]
theorem dsk_failed {ns p : Nat} {D : Dk} : Val g (dskAt ns p D) (ld Value.bool ⟨p, 2, none⟩) D.failed := by
  show wps g _ (bindM (ld Value.bool ⟨p, 2, none⟩) pureM) _
  unfold dskAt dskX
  refine wps_ex fun ls => wps_ex fun mb => wps_ex fun sl => wps_ex fun sc => ?_
  repeat (first
    | (with_reducible refine wps_bindpure ?_)
    | (with_reducible refine wps_assoc ?_)
    | (with_reducible refine wps_nil ?_)
    | (with_reducible refine wps_stepAlloc fun _ => ?_)
    | (with_reducible refine wps_alloc fun _ => ?_)
    | (with_reducible refine wps_newO fun _ => ?_)
    | (refine wps_ld _ (by rfl) ?_)
    | (refine wps_ldG _ _ _ (by rfl) ?_)
    | (refine wps_ldA _ (by rfl) ?_)
    | (refine wps_ldI _ (by rfl) ?_)
    | (refine wps_ldGI _ _ _ (by rfl) ?_)
    | (refine wps_ldAI _ (by rfl) ?_)
    | (refine wps_st (by simp) ?_)
    | (refine wps_stA (by simp) (by simp [Value.oneCell']) ?_)
    | ((with_reducible apply wps_val); apply val_ite; rotate_left; refine fun (_ : ¬ _) => ?_; rotate_right; refine fun (_ : _ = true) => ?_)
    | ((with_reducible apply val_ite); rotate_left; refine fun (_ : ¬ _) => ?_; rotate_right; refine fun (_ : _ = true) => ?_)
    | (with_reducible refine wps_regionH ?_)
    | ((with_reducible apply wps_bindV); apply val_iteL; rotate_left; refine fun (_ : ¬ _) => ?_; rotate_right; refine fun (_ : _ = true) => ?_)
    | ((with_reducible apply val_iteL); rotate_left; refine fun (_ : ¬ _) => ?_; rotate_right; refine fun (_ : _ = true) => ?_)
    | (with_reducible exact wps_pure (ent_val rfl)))
  exact wps_pure (ent_prr rfl (ent_ex ls (ent_ex mb (ent_ex sl (ent_ex sc (Ent.refl _))))))
theorem len_of {H : HP} {s : Slc} {b : List Int} (h : Ent H (byt s b)) : Ent H (pr (b.length = s.len)) := Ent.trans h (Ent.trans (rsl_len 1 s (bv b)) fun o ho => by
  have : (bv b).length = s.len * 1 := ho
  show b.length = s.len
  simpa [bv] using this)
theorem slices_Clone_b_spec {H : HP} {s : Slc} {b : List Int} (hx : Ent H (byt s b)) (hb : b.length ≤ 1099511627776) : wps g H (slices_Clone_b s) (fun s' => H * own 1 s' (bv b)) := by
  unfold slices_Clone_b
  refine wps_fact (len_of hx) fun hl => ?_
  refine wps_ite (fun hn => ?_) (fun hn => ?_)
  · refine wps_pure ?_
    obtain ⟨base, len, cap⟩ := s
    have : base = none := by simpa using hn
    subst this
    refine Ent.trans (Ent.of_eq (star_emp H).symm) ?_
    have hb0 : Ent H (pr (b = [])) := Ent.trans hx fun o ho => by
      rcases ho with ho | ⟨ad, all, ho⟩
      · have : bv b = [] := ho.2
        simpa [bv, pr] using this
      · have := (ent_left _ _ o ho).1
        cases this
    refine ent_pure (p := b = []) (Ent.trans (ent_left _ _) hb0) fun e => ?_
    subst e
    exact Ent.starr (own_nil 1)
  · repeat (first
      | (with_reducible refine wps_bindpure ?_)
      | (with_reducible refine wps_assoc ?_)
      | (with_reducible refine wps_nil ?_)
      | (with_reducible refine wps_stepAlloc fun _ => ?_)
      | (with_reducible refine wps_alloc fun _ => ?_)
      | (with_reducible refine wps_newO fun _ => ?_)
      | (refine wps_ld _ (by rfl) ?_)
      | (refine wps_ldG _ _ _ (by rfl) ?_)
      | (refine wps_ldA _ (by rfl) ?_)
      | (refine wps_ldI _ (by rfl) ?_)
      | (refine wps_ldGI _ _ _ (by rfl) ?_)
      | (refine wps_ldAI _ (by rfl) ?_)
      | (refine wps_st (by simp) ?_)
      | (refine wps_stA (by simp) (by simp [Value.oneCell']) ?_)
      | ((with_reducible apply wps_val); apply val_ite; rotate_left; refine fun (_ : ¬ _) => ?_; rotate_right; refine fun (_ : _ = true) => ?_)
      | ((with_reducible apply val_ite); rotate_left; refine fun (_ : ¬ _) => ?_; rotate_right; refine fun (_ : _ = true) => ?_)
      | (with_reducible refine wps_regionH ?_)
      | ((with_reducible apply wps_bindV); apply val_iteL; rotate_left; refine fun (_ : ¬ _) => ?_; rotate_right; refine fun (_ : _ = true) => ?_)
      | ((with_reducible apply val_iteL); rotate_left; refine fun (_ : ¬ _) => ?_; rotate_right; refine fun (_ : _ = true) => ?_)
      | (with_reducible exact wps_pure (ent_val rfl)))
    rename_i c
    refine wps_swap (A := pc c []) (B := own 1 ⟨some ⟨c, 0, none⟩, 0, 0⟩ []) (pc_own (n := 0) (z := 1) rfl) ?_
    refine wps_app 1 (bv b) rfl (by decide) (Ent.trans (ent_left _ _) hx) (bv_one b) (by (try dsimp only); omega) fun s' hs' => ?_
    exact wps_pure (Ent.of_eq (by simp))
def Rk.gate (R : Rk) (k s size : Int) : Int :=
  if R.off then 12 else if k < 0 ∨ k ≥ R.n ∨ s < 0 ∨ s ≥ R.ns then 11 else if size ≠ 64 then 11 else if R.count = 0 then 12 else if (R.ticked.dk k.toNat).failed then 13 else 0
def Rk.gated (R : Rk) (k s size : Int) : Rk := if R.off = true ∨ (k < 0 ∨ k ≥ R.n ∨ s < 0 ∨ s ≥ R.ns) ∨ size ≠ 64 then R else R.ticked
def gateV (R : Rk) (ps : List Nat) (k s size : Int) : Option Addr × Int := (if R.gate k s size = 0 then ptr (ps.getD k.toNat 0) else none, R.gate k s size)
theorem device_Rack_counted_spec (rb : Nat) (R : Rk) (ds : Slc) (ps : List Nat) (k s size : Int) : wps g (rackP rb R ds ps) (device_Rack_counted (ptr rb) k s size)
    (fun x => pr (x = gateV R ps k s size) * rackP rb (R.gated k s size) ds ps) := by
  unfold device_Rack_counted
  refine wps_val (device_Rack_disk_val _ _ _ _ _ _) ?_
  by_cases ho : R.off = true
  · have hd : diskV R ps k s = (none, 12) := by simp [diskV, ho]
    rw [hd]
    refine wps_ite (fun _ => wps_pure (ent_prr ?_ (Ent.of_eq ?_))) (fun h => absurd rfl h)
    · simp [gateV, Rk.gate, ho]
    · simp [Rk.gated, ho]
  by_cases hr : k < 0 ∨ k ≥ R.n ∨ s < 0 ∨ s ≥ R.ns
  · have hd : diskV R ps k s = (none, 11) := by simp only [diskV, if_neg ho, if_pos hr]
    rw [hd]
    refine wps_ite (fun _ => wps_pure (ent_prr ?_ (Ent.of_eq ?_))) (fun h => absurd rfl h)
    · simp only [gateV, Rk.gate, if_neg ho, if_pos hr]; rfl
    · simp only [Rk.gated, hr, true_or, or_true, if_true]
  have hd : diskV R ps k s = (ptr (ps.getD k.toNat 0), 0) := by simp only [diskV, if_neg ho, if_neg hr]
  rw [hd]
  refine wps_ite (fun h => absurd h (by simp)) (fun _ => ?_)
  refine wps_ite (fun hs => wps_pure (ent_prr ?_ (Ent.of_eq ?_))) (fun hs => ?_)
  · have hs' : size ≠ 64 := by simpa using hs
    simp only [gateV, Rk.gate, if_neg ho, if_neg hr, if_pos hs']; rfl
  · have hs' : size ≠ 64 := by simpa using hs
    simp only [Rk.gated, hs', ne_eq, not_false_eq_true, or_true, if_true]
  have hs' : ¬ size ≠ 64 := by simpa using hs
  have hgd : R.gated k s size = R.ticked := by
    rw [Rk.gated, if_neg]
    rintro (h | h | h)
    · exact ho h
    · exact hr h
    · exact hs' h
  rw [hgd]
  refine wps_bind (device_Rack_call_spec _ _ _ _) fun b => wps_pr fun hb => ?_
  subst hb
  refine wps_ite (fun hc => wps_pure (ent_prr ?_ (Ent.refl _))) (fun hc => ?_)
  · have hc' : R.count = 0 := by simpa using hc
    simp only [gateV, Rk.gate, if_neg ho, if_neg hr, if_neg hs', if_pos hc']; rfl
  have hc' : ¬ R.count = 0 := by simpa using hc
  have htn : R.ticked.n = R.n := by simp [Rk.ticked, hc']
  have hlt : k.toNat < R.ticked.n := by omega
  repeat (first
    | (with_reducible refine wps_bindpure ?_)
    | (with_reducible refine wps_assoc ?_)
    | (with_reducible refine wps_nil ?_)
    | (with_reducible refine wps_stepAlloc fun _ => ?_)
    | (with_reducible refine wps_alloc fun _ => ?_)
    | (with_reducible refine wps_newO fun _ => ?_)
    | (refine wps_ld _ (by rfl) ?_)
    | (refine wps_ldG _ _ _ (by rfl) ?_)
    | (refine wps_ldA _ (by rfl) ?_)
    | (refine wps_ldI _ (by rfl) ?_)
    | (refine wps_ldGI _ _ _ (by rfl) ?_)
    | (refine wps_ldAI _ (by rfl) ?_)
    | (refine wps_st (by simp) ?_)
    | (refine wps_stA (by simp) (by simp [Value.oneCell']) ?_)
    | ((with_reducible apply wps_val); apply val_ite; rotate_left; refine fun (_ : ¬ _) => ?_; rotate_right; refine fun (_ : _ = true) => ?_)
    | ((with_reducible apply val_ite); rotate_left; refine fun (_ : ¬ _) => ?_; rotate_right; refine fun (_ : _ = true) => ?_)
    | (with_reducible refine wps_regionH ?_)
    | ((with_reducible apply wps_bindV); apply val_iteL; rotate_left; refine fun (_ : ¬ _) => ?_; rotate_right; refine fun (_ : _ = true) => ?_)
    | ((with_reducible apply val_iteL); rotate_left; refine fun (_ : ¬ _) => ?_; rotate_right; refine fun (_ : _ = true) => ?_)
    | (with_reducible exact wps_pure (ent_val rfl)))
  refine wps_val (rackP_val (j := k.toNat) hlt fun g' => dsk_failed) ?_
  refine wps_ite (fun hf => wps_pure (ent_prr ?_ (Ent.refl _))) (fun hf => wps_pure (ent_prr ?_ (Ent.refl _)))
  · simp only [gateV, Rk.gate, if_neg ho, if_neg hr, if_neg hs', if_neg hc', if_pos hf]; rfl
  · simp only [gateV, Rk.gate, if_neg ho, if_neg hr, if_neg hs', if_neg hc', if_neg hf]; rfl
def Rk.put (R : Rk) (k s : Int) (b : List Int) : Rk := { R with dk := fun j => if j = k.toNat then { R.dk j with cached := fun i => if i = s then some b else (R.dk j).cached i } else R.dk j }
def Rk.write (R : Rk) (k s : Int) (b : List Int) : Rk := if R.gate k s b.length = 0 then (R.gated k s b.length).put k s b else R.gated k s b.length
theorem gate_ok {R : Rk} {k s size : Int} (h : R.gate k s size = 0) : ¬ R.off = true ∧ ¬ (k < 0 ∨ k ≥ R.n ∨ s < 0 ∨ s ≥ R.ns) ∧ size = 64 ∧ R.count ≠ 0 ∧ R.gated k s size = R.ticked := by
  unfold Rk.gate at h
  by_cases ho : R.off = true
  · rw [if_pos ho] at h; cases h
  rw [if_neg ho] at h
  by_cases hr : k < 0 ∨ k ≥ R.n ∨ s < 0 ∨ s ≥ R.ns
  · rw [if_pos hr] at h; cases h
  rw [if_neg hr] at h
  by_cases hs : size ≠ 64
  · rw [if_pos hs] at h; cases h
  rw [if_neg hs] at h
  by_cases hc : R.count = 0
  · rw [if_pos hc] at h; cases h
  refine ⟨ho, hr, by simpa using hs, hc, ?_⟩
  rw [Rk.gated, if_neg]
  rintro (h | h | h)
  · exact ho h
  · exact hr h
  · exact hs h
theorem device_Rack_Write_spec {H : HP} (rb : Nat) (R : Rk) (ds : Slc) (ps : List Nat) (k s : Int) (x : Slc) (b : List Int) (hx : Ent H (byt x b)) (hb : b.length ≤ 1099511627776) :
    wps g (H * rackP rb R ds ps) (device_Rack_Write (ptr rb) k s x) (fun e => pr (e = R.gate k s b.length) * H * rackP rb (R.write k s b) ds ps) := by
  unfold device_Rack_Write
  refine wps_fact (Ent.trans (ent_left _ _) (len_of hx)) fun hl => ?_
  rw [← hl]
  refine wps_call (fun _ => device_Rack_counted_spec rb R ds ps k s b.length) (Ent.refl _) fun x => ?_
  rw [← star_assoc]
  refine wps_prP fun he => ?_
  subst he
  by_cases h0 : R.gate k s b.length = 0
  · obtain ⟨ho, hr, hs, hc, hgd⟩ := gate_ok h0
    refine wps_ite (fun _ => ?_) (fun h => absurd (by simp [gateV, h0]) h)
    have htn : R.ticked.n = R.n := by simp [Rk.ticked, hc]
    have hlt : k.toNat < R.ticked.n := by omega
    rw [hgd, rackP_focus rb R.ticked ds ps hlt]
    unfold dskAt dskX
    refine wps_exP fun ls => wps_exP fun mb => wps_exP fun sl => wps_exP fun sc => wps_prP fun hd => ?_
    have hgv : (gateV R ps k s b.length).1 = ptr (ps.getD k.toNat 0) := by simp [gateV, h0]
    rw [hgv]
    repeat (first
      | (with_reducible refine wps_bindpure ?_)
      | (with_reducible refine wps_assoc ?_)
      | (with_reducible refine wps_nil ?_)
      | (with_reducible refine wps_stepAlloc fun _ => ?_)
      | (with_reducible refine wps_alloc fun _ => ?_)
      | (with_reducible refine wps_newO fun _ => ?_)
      | (refine wps_ld _ (by rfl) ?_)
      | (refine wps_ldG _ _ _ (by rfl) ?_)
      | (refine wps_ldA _ (by rfl) ?_)
      | (refine wps_ldI _ (by rfl) ?_)
      | (refine wps_ldGI _ _ _ (by rfl) ?_)
      | (refine wps_ldAI _ (by rfl) ?_)
      | (refine wps_st (by simp) ?_)
      | (refine wps_stA (by simp) (by simp [Value.oneCell']) ?_)
      | ((with_reducible apply wps_val); apply val_ite; rotate_left; refine fun (_ : ¬ _) => ?_; rotate_right; refine fun (_ : _ = true) => ?_)
      | ((with_reducible apply val_ite); rotate_left; refine fun (_ : ¬ _) => ?_; rotate_right; refine fun (_ : _ = true) => ?_)
      | (with_reducible refine wps_regionH ?_)
      | ((with_reducible apply wps_bindV); apply val_iteL; rotate_left; refine fun (_ : ¬ _) => ?_; rotate_right; refine fun (_ : _ = true) => ?_)
      | ((with_reducible apply val_iteL); rotate_left; refine fun (_ : ¬ _) => ?_; rotate_right; refine fun (_ : _ = true) => ?_)
      | (with_reducible exact wps_pure (ent_val rfl)))
    refine wps_step1 (slices_Clone_b_spec (Ent.trans (ent_drop (B := H)) hx) hb) fun s' => ?_
    refine wps_updS (wps_pure ?_)
    have hw : R.write k s b = R.ticked.put k s b := by simp only [Rk.write, if_pos h0, hgd]
    have hgv2 : (gateV R ps k s b.length).2 = R.gate k s b.length := rfl
    rw [hw, hgv2, rackP_focus rb (R.ticked.put k s b) ds ps hlt]
    have hho : bst R.ticked.n (hole k.toNat (rackF R.ticked.ns R.ticked.dk ps)) = bst R.ticked.n (hole k.toNat (rackF R.ticked.ns (R.ticked.put k s b).dk ps)) := hole_congr fun i _ hne => by
      simp only [rackF, Rk.put, if_neg hne]
    rw [hho]
    have hdk : (R.ticked.put k s b).dk k.toNat = { R.ticked.dk k.toNat with cached := fun i => if i = s then some b else (R.ticked.dk k.toNat).cached i } := by simp [Rk.put]
    rw [hdk]
    generalize R.ticked.dk k.toNat = D at *
    simp only [dskAt, ← star_assoc]
    refine ent_exr ls ?_
    refine ent_exr mb ?_
    refine ent_exr sl ?_
    refine ent_exr (fun j => if j = s then s' else sc j) ?_
    simp only [dskX, ← star_assoc, Rk.put]
    have him : (fun i => if i = s then some (Value.slice s'.base s'.len s'.cap) else Option.map (fun _ => vS (sc i)) (D.cached i)) = fun j => Option.map (fun _ => vS (if j = s then s' else sc j)) (if j = s then some b else D.cached j) := by
      funext i
      by_cases hi : i = s <;> simp [hi, vS]
    refine ent_pickC (by rfl) (ent_pick (ent_pickM him ?_))
    refine ent_swap (A := own 1 s' (bv b)) (own_rsl _ _ _) ?_
    refine ent_join (A := cachep sc D.cached) (B := rsl 1 s' (bv b)) (cachep_put (ent_left _ _) (ent_right _ _)) ?_
    refine ent_pick (ent_prx ⟨hd.1, hd.2.1, hd.2.2.1, fun j b' hj => ?_⟩ ?_)
    · by_cases hjs : j = s
      · subst hjs; have : R.ticked.ns = R.ns := by simp [Rk.ticked, hc]
        simp only [if_true, Option.some.injEq] at hj
        subst hj
        rw [this]; omega
      · simp only [if_neg hjs] at hj; exact hd.2.2.2 j b' hj
    · refine ent_pickC (by rfl) (ent_pick (ent_pick (ent_pick ?_)))
      exact ent_pick (ent_prq trivial)
  · refine wps_ite (fun h => absurd (by simpa [gateV] using h) h0) (fun _ => wps_pure ?_)
    simp only [Rk.write, if_neg h0]
    exact ent_pick (ent_prr rfl ent_drop)
def Rk.failedB (R : Rk) (k : Int) : Bool := if 0 ≤ k ∧ k < R.n then (R.dk k.toNat).failed else false
theorem device_Rack_Failed_val (rb : Nat) (R : Rk) (ds : Slc) (ps : List Nat) (k : Int) : Val g (rackP rb R ds ps) (device_Rack_Failed (ptr rb) k) (R.failedB k) := by
  unfold device_Rack_Failed rackP
  refine wps_factP fun ⟨h1, h2, h17, hns⟩ => ?_
  refine wps_val (v := decide (0 ≤ k ∧ k < R.n)) ?_ ?_
  · apply val_eq
    · repeat (first
        | (with_reducible refine wps_bindpure ?_)
        | (with_reducible refine wps_assoc ?_)
        | (with_reducible refine wps_nil ?_)
        | (with_reducible refine wps_stepAlloc fun _ => ?_)
        | (with_reducible refine wps_alloc fun _ => ?_)
        | (with_reducible refine wps_newO fun _ => ?_)
        | (refine wps_ld _ (by rfl) ?_)
        | (refine wps_ldG _ _ _ (by rfl) ?_)
        | (refine wps_ldA _ (by rfl) ?_)
        | (refine wps_ldI _ (by rfl) ?_)
        | (refine wps_ldGI _ _ _ (by rfl) ?_)
        | (refine wps_ldAI _ (by rfl) ?_)
        | (refine wps_st (by simp) ?_)
        | (refine wps_stA (by simp) (by simp [Value.oneCell']) ?_)
        | ((with_reducible apply wps_val); apply val_ite; rotate_left; refine fun (_ : ¬ _) => ?_; rotate_right; refine fun (_ : _ = true) => ?_)
        | ((with_reducible apply val_ite); rotate_left; refine fun (_ : ¬ _) => ?_; rotate_right; refine fun (_ : _ = true) => ?_)
        | (with_reducible refine wps_regionH ?_)
        | ((with_reducible apply wps_bindV); apply val_iteL; rotate_left; refine fun (_ : ¬ _) => ?_; rotate_right; refine fun (_ : _ = true) => ?_)
        | ((with_reducible apply val_iteL); rotate_left; refine fun (_ : ¬ _) => ?_; rotate_right; refine fun (_ : _ = true) => ?_)
        | (with_reducible exact wps_pure (ent_val rfl)))
    · rw [h2]; by_cases h : 0 ≤ k <;> simp [h]
  · by_cases hk : 0 ≤ k ∧ k < R.n
    · simp only [hk, and_self, decide_true, if_true, Rk.failedB, bindM_assoc]
      repeat (first
        | (with_reducible refine wps_bindpure ?_)
        | (with_reducible refine wps_assoc ?_)
        | (with_reducible refine wps_nil ?_)
        | (with_reducible refine wps_stepAlloc fun _ => ?_)
        | (with_reducible refine wps_alloc fun _ => ?_)
        | (with_reducible refine wps_newO fun _ => ?_)
        | (refine wps_ld _ (by rfl) ?_)
        | (refine wps_ldG _ _ _ (by rfl) ?_)
        | (refine wps_ldA _ (by rfl) ?_)
        | (refine wps_ldI _ (by rfl) ?_)
        | (refine wps_ldGI _ _ _ (by rfl) ?_)
        | (refine wps_ldAI _ (by rfl) ?_)
        | (refine wps_st (by simp) ?_)
        | (refine wps_stA (by simp) (by simp [Value.oneCell']) ?_)
        | ((with_reducible apply wps_val); apply val_ite; rotate_left; refine fun (_ : ¬ _) => ?_; rotate_right; refine fun (_ : _ = true) => ?_)
        | ((with_reducible apply val_ite); rotate_left; refine fun (_ : ¬ _) => ?_; rotate_right; refine fun (_ : _ = true) => ?_)
        | (with_reducible refine wps_regionH ?_)
        | ((with_reducible apply wps_bindV); apply val_iteL; rotate_left; refine fun (_ : ¬ _) => ?_; rotate_right; refine fun (_ : _ = true) => ?_)
        | ((with_reducible apply val_iteL); rotate_left; refine fun (_ : ¬ _) => ?_; rotate_right; refine fun (_ : _ = true) => ?_)
        | (with_reducible exact wps_pure (ent_val rfl)))
      refine wps_rdS k.toNat (ptr (ps.getD k.toNat 0)) (by omega) (pv_get (by omega)) ?_
      repeat (first
        | (with_reducible refine wps_bindpure ?_)
        | (with_reducible refine wps_assoc ?_)
        | (with_reducible refine wps_nil ?_)
        | (with_reducible refine wps_stepAlloc fun _ => ?_)
        | (with_reducible refine wps_alloc fun _ => ?_)
        | (with_reducible refine wps_newO fun _ => ?_)
        | (refine wps_ld _ (by rfl) ?_)
        | (refine wps_ldG _ _ _ (by rfl) ?_)
        | (refine wps_ldA _ (by rfl) ?_)
        | (refine wps_ldI _ (by rfl) ?_)
        | (refine wps_ldGI _ _ _ (by rfl) ?_)
        | (refine wps_ldAI _ (by rfl) ?_)
        | (refine wps_st (by simp) ?_)
        | (refine wps_stA (by simp) (by simp [Value.oneCell']) ?_)
        | ((with_reducible apply wps_val); apply val_ite; rotate_left; refine fun (_ : ¬ _) => ?_; rotate_right; refine fun (_ : _ = true) => ?_)
        | ((with_reducible apply val_ite); rotate_left; refine fun (_ : ¬ _) => ?_; rotate_right; refine fun (_ : _ = true) => ?_)
        | (with_reducible refine wps_regionH ?_)
        | ((with_reducible apply wps_bindV); apply val_iteL; rotate_left; refine fun (_ : ¬ _) => ?_; rotate_right; refine fun (_ : _ = true) => ?_)
        | ((with_reducible apply val_iteL); rotate_left; refine fun (_ : ¬ _) => ?_; rotate_right; refine fun (_ : _ = true) => ?_)
        | (with_reducible exact wps_pure (ent_val rfl)))
      refine wps_val (rackP_val (rb := rb) (ds := ds) (j := k.toNat) (by omega) fun g' => dsk_failed) ?_
      repeat (first
        | (with_reducible refine wps_bindpure ?_)
        | (with_reducible refine wps_assoc ?_)
        | (with_reducible refine wps_nil ?_)
        | (with_reducible refine wps_stepAlloc fun _ => ?_)
        | (with_reducible refine wps_alloc fun _ => ?_)
        | (with_reducible refine wps_newO fun _ => ?_)
        | (refine wps_ld _ (by rfl) ?_)
        | (refine wps_ldG _ _ _ (by rfl) ?_)
        | (refine wps_ldA _ (by rfl) ?_)
        | (refine wps_ldI _ (by rfl) ?_)
        | (refine wps_ldGI _ _ _ (by rfl) ?_)
        | (refine wps_ldAI _ (by rfl) ?_)
        | (refine wps_st (by simp) ?_)
        | (refine wps_stA (by simp) (by simp [Value.oneCell']) ?_)
        | ((with_reducible apply wps_val); apply val_ite; rotate_left; refine fun (_ : ¬ _) => ?_; rotate_right; refine fun (_ : _ = true) => ?_)
        | ((with_reducible apply val_ite); rotate_left; refine fun (_ : ¬ _) => ?_; rotate_right; refine fun (_ : _ = true) => ?_)
        | (with_reducible refine wps_regionH ?_)
        | ((with_reducible apply wps_bindV); apply val_iteL; rotate_left; refine fun (_ : ¬ _) => ?_; rotate_right; refine fun (_ : _ = true) => ?_)
        | ((with_reducible apply val_iteL); rotate_left; refine fun (_ : ¬ _) => ?_; rotate_right; refine fun (_ : _ = true) => ?_)
        | (with_reducible exact wps_pure (ent_val rfl)))
    · simp only [hk, decide_false, Rk.failedB, if_false, Bool.false_eq_true]
      repeat (first
        | (with_reducible refine wps_bindpure ?_)
        | (with_reducible refine wps_assoc ?_)
        | (with_reducible refine wps_nil ?_)
        | (with_reducible refine wps_stepAlloc fun _ => ?_)
        | (with_reducible refine wps_alloc fun _ => ?_)
        | (with_reducible refine wps_newO fun _ => ?_)
        | (refine wps_ld _ (by rfl) ?_)
        | (refine wps_ldG _ _ _ (by rfl) ?_)
        | (refine wps_ldA _ (by rfl) ?_)
        | (refine wps_ldI _ (by rfl) ?_)
        | (refine wps_ldGI _ _ _ (by rfl) ?_)
        | (refine wps_ldAI _ (by rfl) ?_)
        | (refine wps_st (by simp) ?_)
        | (refine wps_stA (by simp) (by simp [Value.oneCell']) ?_)
        | ((with_reducible apply wps_val); apply val_ite; rotate_left; refine fun (_ : ¬ _) => ?_; rotate_right; refine fun (_ : _ = true) => ?_)
        | ((with_reducible apply val_ite); rotate_left; refine fun (_ : ¬ _) => ?_; rotate_right; refine fun (_ : _ = true) => ?_)
        | (with_reducible refine wps_regionH ?_)
        | ((with_reducible apply wps_bindV); apply val_iteL; rotate_left; refine fun (_ : ¬ _) => ?_; rotate_right; refine fun (_ : _ = true) => ?_)
        | ((with_reducible apply val_iteL); rotate_left; refine fun (_ : ¬ _) => ?_; rotate_right; refine fun (_ : _ = true) => ?_)
        | (with_reducible exact wps_pure (ent_val rfl)))
theorem device_Rack_Size_val (rb : Nat) (R : Rk) (ds : Slc) (ps : List Nat) : Val g (rackP rb R ds ps) (device_Rack_Size (ptr rb)) ((R.n : Int), (R.ns : Int)) := by
  unfold device_Rack_Size rackP
  refine wps_factP fun ⟨h1, h2, h17, hns⟩ => ?_
  repeat (first
    | (with_reducible refine wps_bindpure ?_)
    | (with_reducible refine wps_assoc ?_)
    | (with_reducible refine wps_nil ?_)
    | (with_reducible refine wps_stepAlloc fun _ => ?_)
    | (with_reducible refine wps_alloc fun _ => ?_)
    | (with_reducible refine wps_newO fun _ => ?_)
    | (refine wps_ld _ (by rfl) ?_)
    | (refine wps_ldG _ _ _ (by rfl) ?_)
    | (refine wps_ldA _ (by rfl) ?_)
    | (refine wps_ldI _ (by rfl) ?_)
    | (refine wps_ldGI _ _ _ (by rfl) ?_)
    | (refine wps_ldAI _ (by rfl) ?_)
    | (refine wps_st (by simp) ?_)
    | (refine wps_stA (by simp) (by simp [Value.oneCell']) ?_)
    | ((with_reducible apply wps_val); apply val_ite; rotate_left; refine fun (_ : ¬ _) => ?_; rotate_right; refine fun (_ : _ = true) => ?_)
    | ((with_reducible apply val_ite); rotate_left; refine fun (_ : ¬ _) => ?_; rotate_right; refine fun (_ : _ = true) => ?_)
    | (with_reducible refine wps_regionH ?_)
    | ((with_reducible apply wps_bindV); apply val_iteL; rotate_left; refine fun (_ : ¬ _) => ?_; rotate_right; refine fun (_ : _ = true) => ?_)
    | ((with_reducible apply val_iteL); rotate_left; refine fun (_ : ¬ _) => ?_; rotate_right; refine fun (_ : _ = true) => ?_)
    | (with_reducible exact wps_pure (ent_val rfl)))
  exact wps_pure (ent_val (by rw [h2]))
def Rk.rdErr (R : Rk) (k s : Int) : Int := if R.off then 12 else if k < 0 ∨ k ≥ R.n ∨ s < 0 ∨ s ≥ R.ns then 11 else if (R.dk k.toNat).failed then 13 else 0
def Dk.sec (D : Dk) (s : Int) : List Int := match D.cached s with | some b => b | none => D.lasts s.toNat
def Rk.rd (R : Rk) (k s : Int) : List Int := if R.rdErr k s = 0 then (R.dk k.toNat).sec s else []
theorem device_Rack_Read_spec (rb : Nat) (R : Rk) (ds : Slc) (ps : List Nat) (k s : Int) :
    wps g (rackP rb R ds ps) (device_Rack_Read (ptr rb) k s) (fun x => pr (x.2 = R.rdErr k s) * rackP rb R ds ps * own 1 x.1 (bv (R.rd k s))) := by
  unfold device_Rack_Read
  refine wps_val (device_Rack_disk_val _ _ _ _ _ _) ?_
  by_cases ho : R.off = true
  · have hd : diskV R ps k s = (none, 12) := by simp [diskV, ho]
    have he : R.rdErr k s = 12 := by simp [Rk.rdErr, ho]
    rw [hd]
    refine wps_ite (fun _ => wps_pure ?_) (fun h => absurd rfl h)
    simp only [Rk.rd, he]
    exact ent_own0 (ent_prr (by simp) (Ent.refl _))
  by_cases hr : k < 0 ∨ k ≥ R.n ∨ s < 0 ∨ s ≥ R.ns
  · have hd : diskV R ps k s = (none, 11) := by simp only [diskV, if_neg ho, if_pos hr]
    have he : R.rdErr k s = 11 := by simp only [Rk.rdErr, if_neg ho, if_pos hr]
    rw [hd]
    refine wps_ite (fun _ => wps_pure ?_) (fun h => absurd rfl h)
    simp only [Rk.rd, he]
    exact ent_own0 (ent_prr (by simp) (Ent.refl _))
  have hd : diskV R ps k s = (ptr (ps.getD k.toNat 0), 0) := by simp only [diskV, if_neg ho, if_neg hr]
  rw [hd]
  have hlt : k.toNat < R.n := by omega
  refine wps_ite (fun h => absurd h (by simp)) (fun _ => ?_)
  repeat (first
    | (with_reducible refine wps_bindpure ?_)
    | (with_reducible refine wps_assoc ?_)
    | (with_reducible refine wps_nil ?_)
    | (with_reducible refine wps_stepAlloc fun _ => ?_)
    | (with_reducible refine wps_alloc fun _ => ?_)
    | (with_reducible refine wps_newO fun _ => ?_)
    | (refine wps_ld _ (by rfl) ?_)
    | (refine wps_ldG _ _ _ (by rfl) ?_)
    | (refine wps_ldA _ (by rfl) ?_)
    | (refine wps_ldI _ (by rfl) ?_)
    | (refine wps_ldGI _ _ _ (by rfl) ?_)
    | (refine wps_ldAI _ (by rfl) ?_)
    | (refine wps_st (by simp) ?_)
    | (refine wps_stA (by simp) (by simp [Value.oneCell']) ?_)
    | ((with_reducible apply wps_val); apply val_ite; rotate_left; refine fun (_ : ¬ _) => ?_; rotate_right; refine fun (_ : _ = true) => ?_)
    | ((with_reducible apply val_ite); rotate_left; refine fun (_ : ¬ _) => ?_; rotate_right; refine fun (_ : _ = true) => ?_)
    | (with_reducible refine wps_regionH ?_)
    | ((with_reducible apply wps_bindV); apply val_iteL; rotate_left; refine fun (_ : ¬ _) => ?_; rotate_right; refine fun (_ : _ = true) => ?_)
    | ((with_reducible apply val_iteL); rotate_left; refine fun (_ : ¬ _) => ?_; rotate_right; refine fun (_ : _ = true) => ?_)
    | (with_reducible exact wps_pure (ent_val rfl)))
  refine wps_val (rackP_val (rb := rb) (ds := ds) hlt fun g' => dsk_failed) ?_
  refine wps_ite (fun hf => wps_pure ?_) (fun hf => ?_)
  · have he : R.rdErr k s = 13 := by simp only [Rk.rdErr, if_neg ho, if_neg hr, if_pos hf]
    simp only [Rk.rd, he]
    exact ent_own0 (ent_prr (by simp) (Ent.refl _))
  have he : R.rdErr k s = 0 := by simp only [Rk.rdErr, if_neg ho, if_neg hr, if_neg hf]
  simp only [Rk.rd, he, if_true]
  rw [rackP_focus rb R ds ps hlt]
  generalize R.dk k.toNat = D at *
  unfold dskAt dskX
  refine wps_exP fun ls => wps_exP fun mb => wps_exP fun sl => wps_exP fun sc => ?_
  simp only [← star_assoc]
  refine wps_prP fun hd => ?_
  refine wps_prP fun hd2 => ?_
  repeat (first
    | (with_reducible refine wps_bindpure ?_)
    | (with_reducible refine wps_assoc ?_)
    | (with_reducible refine wps_nil ?_)
    | (with_reducible refine wps_stepAlloc fun _ => ?_)
    | (with_reducible refine wps_alloc fun _ => ?_)
    | (with_reducible refine wps_newO fun _ => ?_)
    | (refine wps_ld _ (by rfl) ?_)
    | (refine wps_ldG _ _ _ (by rfl) ?_)
    | (refine wps_ldA _ (by rfl) ?_)
    | (refine wps_ldI _ (by rfl) ?_)
    | (refine wps_ldGI _ _ _ (by rfl) ?_)
    | (refine wps_ldAI _ (by rfl) ?_)
    | (refine wps_st (by simp) ?_)
    | (refine wps_stA (by simp) (by simp [Value.oneCell']) ?_)
    | ((with_reducible apply wps_val); apply val_ite; rotate_left; refine fun (_ : ¬ _) => ?_; rotate_right; refine fun (_ : _ = true) => ?_)
    | ((with_reducible apply val_ite); rotate_left; refine fun (_ : ¬ _) => ?_; rotate_right; refine fun (_ : _ = true) => ?_)
    | (with_reducible refine wps_regionH ?_)
    | ((with_reducible apply wps_bindV); apply val_iteL; rotate_left; refine fun (_ : ¬ _) => ?_; rotate_right; refine fun (_ : _ = true) => ?_)
    | ((with_reducible apply val_iteL); rotate_left; refine fun (_ : ¬ _) => ?_; rotate_right; refine fun (_ : _ = true) => ?_)
    | (with_reducible exact wps_pure (ent_val rfl)))
  have close : ∀ (s' : Slc), Ent
      (emp * bst R.n (hole k.toNat (rackF R.ns R.dk ps)) * own 1 ds (ps.map pv) * pc rb [vS ds, Value.int IntKind.i64 R.ns, Value.int IntKind.i64 R.count, Value.bool R.off] *
        seqp sl D.lasts * cachep sc D.cached * imap mb (fun j => Option.map (fun _ => vS (sc j)) (D.cached j)) * own 1 ls (sl.map vS) *
        pc (ps.getD k.toNat 0) [vS ls, Value.map (some mb), Value.bool D.failed, Value.int IntKind.i64 D.count] * own 1 s' (bv (D.sec s)))
      (pr (((s', 0) : Slc × Int).2 = 0) * pr (ps.length = R.n ∧ ds.len = R.n ∧ R.n ≤ 17 ∧ R.ns ≤ 4096) * bst R.n (hole k.toNat (rackF R.ns R.dk ps)) * own 1 ds (ps.map pv) *
            pc rb [vS ds, Value.int IntKind.i64 R.ns, Value.int IntKind.i64 R.count, Value.bool R.off] *
          (ex fun ls => ex fun mb => ex fun sl => ex fun sc =>
                  pr (sl.length = R.ns ∧ ls.len = R.ns ∧ D.ok R.ns) * seqp sl D.lasts * cachep sc D.cached *
                        imap mb (fun j => Option.map (fun _ => vS (sc j)) (D.cached j)) *
                      own 1 ls (sl.map vS) *
                    pc (ps.getD k.toNat 0)
                      [vS ls, Value.map (some mb), Value.bool D.failed, Value.int IntKind.i64 D.count]) *
        own 1 s' (bv (D.sec s))) := by
    intro s'
    refine ent_pick ?_
    refine ent_exr ls ?_
    refine ent_exr mb ?_
    refine ent_exr sl ?_
    refine ent_exr sc ?_
    simp only [← star_assoc]
    exact ent_pick (ent_pick (ent_pick (ent_pick (ent_pick (ent_prx hd (ent_pick (ent_pick (ent_pick (ent_prx hd2 (ent_prq (by simp)))))))))))
  cases hcs : D.cached s with
  | some b =>
    refine wps_lookS (some (sc s)) (by rw [hcs]; rfl) ?_
    have hsec : D.sec s = b := by simp [Dk.sec, hcs]
    have hlen := (hd.2.2.2 s b hcs).1
    refine wps_ite (fun _ => ?_) (fun h => absurd rfl h)
    refine wps_bind1 (slices_Clone_b_spec (b := D.sec s) (Ent.trans (ent_drop (B := cachep sc D.cached)) (by rw [hsec]; exact cachep_get hcs)) (by rw [hsec]; omega)) fun s' => wps_pure ?_
    exact close s'
  | none =>
    refine wps_lookS none (by rw [hcs]; rfl) ?_
    have hsec : D.sec s = D.lasts s.toNat := by simp [Dk.sec, hcs]
    have hlen := hd.2.2.1 s.toNat (by omega)
    refine wps_ite (fun h => absurd h (by simp)) (fun _ => ?_)
    repeat (first
      | (with_reducible refine wps_bindpure ?_)
      | (with_reducible refine wps_assoc ?_)
      | (with_reducible refine wps_nil ?_)
      | (with_reducible refine wps_stepAlloc fun _ => ?_)
      | (with_reducible refine wps_alloc fun _ => ?_)
      | (with_reducible refine wps_newO fun _ => ?_)
      | (refine wps_ld _ (by rfl) ?_)
      | (refine wps_ldG _ _ _ (by rfl) ?_)
      | (refine wps_ldA _ (by rfl) ?_)
      | (refine wps_ldI _ (by rfl) ?_)
      | (refine wps_ldGI _ _ _ (by rfl) ?_)
      | (refine wps_ldAI _ (by rfl) ?_)
      | (refine wps_st (by simp) ?_)
      | (refine wps_stA (by simp) (by simp [Value.oneCell']) ?_)
      | ((with_reducible apply wps_val); apply val_ite; rotate_left; refine fun (_ : ¬ _) => ?_; rotate_right; refine fun (_ : _ = true) => ?_)
      | ((with_reducible apply val_ite); rotate_left; refine fun (_ : ¬ _) => ?_; rotate_right; refine fun (_ : _ = true) => ?_)
      | (with_reducible refine wps_regionH ?_)
      | ((with_reducible apply wps_bindV); apply val_iteL; rotate_left; refine fun (_ : ¬ _) => ?_; rotate_right; refine fun (_ : _ = true) => ?_)
      | ((with_reducible apply val_iteL); rotate_left; refine fun (_ : ¬ _) => ?_; rotate_right; refine fun (_ : _ = true) => ?_)
      | (with_reducible exact wps_pure (ent_val rfl)))
    have hsl : s.toNat < sl.length := by omega
    refine wps_rdS s.toNat sl[s.toNat] (by omega) (by rw [List.getElem?_map, List.getElem?_eq_getElem hsl]; rfl) ?_
    refine wps_bind1 (slices_Clone_b_spec (b := D.sec s) (Ent.trans (ent_drop (B := seqp sl D.lasts)) (by rw [hsec]; exact seqp_get (List.getElem?_eq_getElem hsl))) (by rw [hsec]; omega)) fun s' => wps_pure ?_
    exact close s'
end Go.Proofs.Ytldmeimebebllaa
namespace Go.Proofs.Ytldmeimebebllaa
open Go.Mo
set_option linter.unusedVariables false
variable {g : Fr}
abbrev bnk (bb rb : Nat) (q m : G3) : HP := pc bb [.pointer (ptr rb), .int .i64 q.1, .int .i64 q.2.1, .int .i64 q.2.2, .int .i64 m.1, .int .i64 m.2.1, .int .i64 m.2.2]
def slotV (q m : G3) (slot : Int) : Int × Bool := if slot < 0 ∨ slot ≥ q.1 then (0, false) else if m.2.2 ≠ 0 ∧ m.2.1 = slot then (q.1, true) else (slot, true)
theorem bank_disk_val (bb rb : Nat) (q m : G3) (slot : Int) : Val g (bnk bb rb q m) (bank_Bank_disk (ptr bb) slot) (slotV q m slot) := by
  unfold bank_Bank_disk
  simp only [Addr.add_add, Nat.reduceAdd]
  apply val_eq
  · repeat (first
      | (with_reducible refine wps_bindpure ?_)
      | (with_reducible refine wps_assoc ?_)
      | (with_reducible refine wps_nil ?_)
      | (with_reducible refine wps_stepAlloc fun _ => ?_)
      | (with_reducible refine wps_alloc fun _ => ?_)
      | (with_reducible refine wps_newO fun _ => ?_)
      | (refine wps_ld _ (by rfl) ?_)
      | (refine wps_ldG _ _ _ (by rfl) ?_)
      | (refine wps_ldA _ (by rfl) ?_)
      | (refine wps_ldI _ (by rfl) ?_)
      | (refine wps_ldGI _ _ _ (by rfl) ?_)
      | (refine wps_ldAI _ (by rfl) ?_)
      | (refine wps_st (by simp) ?_)
      | (refine wps_stA (by simp) (by simp [Value.oneCell']) ?_)
      | ((with_reducible apply wps_val); apply val_ite; rotate_left; refine fun (_ : ¬ _) => ?_; rotate_right; refine fun (_ : _ = true) => ?_)
      | ((with_reducible apply val_ite); rotate_left; refine fun (_ : ¬ _) => ?_; rotate_right; refine fun (_ : _ = true) => ?_)
      | (with_reducible refine wps_regionH ?_)
      | ((with_reducible apply wps_bindV); apply val_iteL; rotate_left; refine fun (_ : ¬ _) => ?_; rotate_right; refine fun (_ : _ = true) => ?_)
      | ((with_reducible apply val_iteL); rotate_left; refine fun (_ : ¬ _) => ?_; rotate_right; refine fun (_ : _ = true) => ?_)
      | (with_reducible exact wps_pure (ent_val rfl)))
  · simp only [slotV]
    by_cases h1 : slot < 0
    · simp [h1]
    · by_cases h2 : slot ≥ q.1
      · simp [h2]
      · by_cases h3 : m.2.2 = 0
        · simp [h1, h2, h3]
        · by_cases h4 : m.2.1 = slot
          · simp [h1, h2, h3, h4]
          · simp [h1, h2, h3, h4]
theorem bank_Geo_val (bb rb : Nat) (q m : G3) : Val g (bnk bb rb q m) (bank_Bank_Geo (ptr bb)) q := by
  unfold bank_Bank_Geo
  repeat (first
    | (with_reducible refine wps_bindpure ?_)
    | (with_reducible refine wps_assoc ?_)
    | (with_reducible refine wps_nil ?_)
    | (with_reducible refine wps_stepAlloc fun _ => ?_)
    | (with_reducible refine wps_alloc fun _ => ?_)
    | (with_reducible refine wps_newO fun _ => ?_)
    | (refine wps_ld _ (by rfl) ?_)
    | (refine wps_ldG _ _ _ (by rfl) ?_)
    | (refine wps_ldA _ (by rfl) ?_)
    | (refine wps_ldI _ (by rfl) ?_)
    | (refine wps_ldGI _ _ _ (by rfl) ?_)
    | (refine wps_ldAI _ (by rfl) ?_)
    | (refine wps_st (by simp) ?_)
    | (refine wps_stA (by simp) (by simp [Value.oneCell']) ?_)
    | ((with_reducible apply wps_val); apply val_ite; rotate_left; refine fun (_ : ¬ _) => ?_; rotate_right; refine fun (_ : _ = true) => ?_)
    | ((with_reducible apply val_ite); rotate_left; refine fun (_ : ¬ _) => ?_; rotate_right; refine fun (_ : _ = true) => ?_)
    | (with_reducible refine wps_regionH ?_)
    | ((with_reducible apply wps_bindV); apply val_iteL; rotate_left; refine fun (_ : ¬ _) => ?_; rotate_right; refine fun (_ : _ = true) => ?_)
    | ((with_reducible apply val_iteL); rotate_left; refine fun (_ : ¬ _) => ?_; rotate_right; refine fun (_ : _ = true) => ?_)
    | (with_reducible exact wps_pure (ent_val rfl)))
theorem bank_Write_spec {H : HP} (bb rb : Nat) (q m : G3) (R : Rk) (ds : Slc) (ps : List Nat) (slot s : Int) (x : Slc) (b : List Int) (hx : Ent H (byt x b)) (hb : b.length ≤ 1099511627776) :
    wps g (H * bnk bb rb q m * rackP rb R ds ps) (bank_Bank_Write (ptr bb) slot s x) (fun e =>
      pr (e = if (slotV q m slot).2 then R.gate (slotV q m slot).1 s b.length else 11) * H * bnk bb rb q m * rackP rb (if (slotV q m slot).2 then R.write (slotV q m slot).1 s b else R) ds ps) := by
  unfold bank_Bank_Write
  refine wps_valH (fun _ => bank_disk_val bb rb q m slot) ?_
  by_cases hv : (slotV q m slot).2 = true
  · simp only [hv, if_true]
    refine wps_ite (fun h => absurd h (by simp)) (fun _ => ?_)
    repeat (first
      | (with_reducible refine wps_bindpure ?_)
      | (with_reducible refine wps_assoc ?_)
      | (with_reducible refine wps_nil ?_)
      | (with_reducible refine wps_stepAlloc fun _ => ?_)
      | (with_reducible refine wps_alloc fun _ => ?_)
      | (with_reducible refine wps_newO fun _ => ?_)
      | (refine wps_ld _ (by rfl) ?_)
      | (refine wps_ldG _ _ _ (by rfl) ?_)
      | (refine wps_ldA _ (by rfl) ?_)
      | (refine wps_ldI _ (by rfl) ?_)
      | (refine wps_ldGI _ _ _ (by rfl) ?_)
      | (refine wps_ldAI _ (by rfl) ?_)
      | (refine wps_st (by simp) ?_)
      | (refine wps_stA (by simp) (by simp [Value.oneCell']) ?_)
      | ((with_reducible apply wps_val); apply val_ite; rotate_left; refine fun (_ : ¬ _) => ?_; rotate_right; refine fun (_ : _ = true) => ?_)
      | ((with_reducible apply val_ite); rotate_left; refine fun (_ : ¬ _) => ?_; rotate_right; refine fun (_ : _ = true) => ?_)
      | (with_reducible refine wps_regionH ?_)
      | ((with_reducible apply wps_bindV); apply val_iteL; rotate_left; refine fun (_ : ¬ _) => ?_; rotate_right; refine fun (_ : _ = true) => ?_)
      | ((with_reducible apply val_iteL); rotate_left; refine fun (_ : ¬ _) => ?_; rotate_right; refine fun (_ : _ = true) => ?_)
      | (with_reducible exact wps_pure (ent_val rfl)))
    refine wps_tail (F := bnk bb rb q m) (fun _ => device_Rack_Write_spec rb R ds ps (slotV q m slot).1 s x b hx hb) ?_ fun e => ?_
    · refine Ent.of_eq ?_
      ac_rfl
    · refine Ent.of_eq ?_
      ac_rfl
  · simp only [hv, if_false, Bool.false_eq_true]
    refine wps_ite (fun _ => wps_pure ?_) (fun h => absurd rfl h)
    exact ent_pick (ent_pick (ent_prr rfl (Ent.refl _)))
def isBad (q m : G3) (R : Rk) (i : Nat) : Bool := R.failedB (slotV q m i).1 || (m.2.2 == 1 && m.2.1 == i)
def badL (q m : G3) (R : Rk) : List Nat := (List.range q.1.toNat).filter (isBad q m R)
def iv (l : List Nat) : List Value := l.map fun i => Value.int .i64 (i : Nat)
theorem bank_Bad_spec (bb rb : Nat) (q m : G3) (R : Rk) (ds : Slc) (ps : List Nat) (hq : q.1 ≤ 16) :
    wps g (bnk bb rb q m * rackP rb R ds ps) (bank_Bank_Bad (ptr bb)) (fun s => bnk bb rb q m * rackP rb R ds ps * own 1 s (iv (badL q m R))) := by
  unfold bank_Bank_Bad
  simp only [Addr.add_add, Nat.reduceAdd]
  repeat (first
    | (with_reducible refine wps_bindpure ?_)
    | (with_reducible refine wps_assoc ?_)
    | (with_reducible refine wps_nil ?_)
    | (with_reducible refine wps_stepAlloc fun _ => ?_)
    | (with_reducible refine wps_alloc fun _ => ?_)
    | (with_reducible refine wps_newO fun _ => ?_)
    | (refine wps_ld _ (by rfl) ?_)
    | (refine wps_ldG _ _ _ (by rfl) ?_)
    | (refine wps_ldA _ (by rfl) ?_)
    | (refine wps_ldI _ (by rfl) ?_)
    | (refine wps_ldGI _ _ _ (by rfl) ?_)
    | (refine wps_ldAI _ (by rfl) ?_)
    | (refine wps_st (by simp) ?_)
    | (refine wps_stA (by simp) (by simp [Value.oneCell']) ?_)
    | ((with_reducible apply wps_val); apply val_ite; rotate_left; refine fun (_ : ¬ _) => ?_; rotate_right; refine fun (_ : _ = true) => ?_)
    | ((with_reducible apply val_ite); rotate_left; refine fun (_ : ¬ _) => ?_; rotate_right; refine fun (_ : _ = true) => ?_)
    | (with_reducible refine wps_regionH ?_)
    | ((with_reducible apply wps_bindV); apply val_iteL; rotate_left; refine fun (_ : ¬ _) => ?_; rotate_right; refine fun (_ : _ = true) => ?_)
    | ((with_reducible apply val_iteL); rotate_left; refine fun (_ : ¬ _) => ?_; rotate_right; refine fun (_ : _ = true) => ?_)
    | (with_reducible exact wps_pure (ent_val rfl)))
  refine wps_loop (fun t => ex fun n : Nat => pr (t.2 = (n : Int) ∧ (n : Int) ≤ max 0 q.1) * bnk bb rb q m * rackP rb R ds ps * own 1 t.1 (iv ((List.range n).filter (isBad q m R)))) (fun t => (q.1 - t.2).toNat) ?_ fun t => ?_
  · refine ent_ex 0 (ent_own0 (ent_pick ?_))
    refine ent_prr ⟨rfl, by omega⟩ ?_
    exact Ent.refl _
  · refine wps_ex fun n => wps_prP fun ⟨ht, hn⟩ => ?_
    refine wps_ite (fun hc => ?_) (fun hc => ?_)
    · have hc' : t.2 < q.1 := by simpa using hc
      refine wps_valH (fun _ => bank_disk_val bb rb q m t.2) ?_
      repeat (first
        | (with_reducible refine wps_bindpure ?_)
        | (with_reducible refine wps_assoc ?_)
        | (with_reducible refine wps_nil ?_)
        | (with_reducible refine wps_stepAlloc fun _ => ?_)
        | (with_reducible refine wps_alloc fun _ => ?_)
        | (with_reducible refine wps_newO fun _ => ?_)
        | (refine wps_ld _ (by rfl) ?_)
        | (refine wps_ldG _ _ _ (by rfl) ?_)
        | (refine wps_ldA _ (by rfl) ?_)
        | (refine wps_ldI _ (by rfl) ?_)
        | (refine wps_ldGI _ _ _ (by rfl) ?_)
        | (refine wps_ldAI _ (by rfl) ?_)
        | (refine wps_st (by simp) ?_)
        | (refine wps_stA (by simp) (by simp [Value.oneCell']) ?_)
        | ((with_reducible apply wps_val); apply val_ite; rotate_left; refine fun (_ : ¬ _) => ?_; rotate_right; refine fun (_ : _ = true) => ?_)
        | ((with_reducible apply val_ite); rotate_left; refine fun (_ : ¬ _) => ?_; rotate_right; refine fun (_ : _ = true) => ?_)
        | (with_reducible refine wps_regionH ?_)
        | ((with_reducible apply wps_bindV); apply val_iteL; rotate_left; refine fun (_ : ¬ _) => ?_; rotate_right; refine fun (_ : _ = true) => ?_)
        | ((with_reducible apply val_iteL); rotate_left; refine fun (_ : ¬ _) => ?_; rotate_right; refine fun (_ : _ = true) => ?_)
        | (with_reducible exact wps_pure (ent_val rfl)))
      refine wps_valH (fun _ => device_Rack_Failed_val rb R ds ps (slotV q m t.2).1) ?_
      refine wps_val (v := isBad q m R n) ?_ ?_
      · apply val_eq
        · repeat (first
            | (with_reducible refine wps_bindpure ?_)
            | (with_reducible refine wps_assoc ?_)
            | (with_reducible refine wps_nil ?_)
            | (with_reducible refine wps_stepAlloc fun _ => ?_)
            | (with_reducible refine wps_alloc fun _ => ?_)
            | (with_reducible refine wps_newO fun _ => ?_)
            | (refine wps_ld _ (by rfl) ?_)
            | (refine wps_ldG _ _ _ (by rfl) ?_)
            | (refine wps_ldA _ (by rfl) ?_)
            | (refine wps_ldI _ (by rfl) ?_)
            | (refine wps_ldGI _ _ _ (by rfl) ?_)
            | (refine wps_ldAI _ (by rfl) ?_)
            | (refine wps_st (by simp) ?_)
            | (refine wps_stA (by simp) (by simp [Value.oneCell']) ?_)
            | ((with_reducible apply wps_val); apply val_ite; rotate_left; refine fun (_ : ¬ _) => ?_; rotate_right; refine fun (_ : _ = true) => ?_)
            | ((with_reducible apply val_ite); rotate_left; refine fun (_ : ¬ _) => ?_; rotate_right; refine fun (_ : _ = true) => ?_)
            | (with_reducible refine wps_regionH ?_)
            | ((with_reducible apply wps_bindV); apply val_iteL; rotate_left; refine fun (_ : ¬ _) => ?_; rotate_right; refine fun (_ : _ = true) => ?_)
            | ((with_reducible apply val_iteL); rotate_left; refine fun (_ : ¬ _) => ?_; rotate_right; refine fun (_ : _ = true) => ?_)
            | (with_reducible exact wps_pure (ent_val rfl)))
        · simp only [isBad, ht]
          by_cases h1 : R.failedB (slotV q m n).1 = true
          · simp [h1]
          · by_cases h2 : m.2.2 = 1 <;> simp [h1, h2]
      · have hf : (List.range (n + 1)).filter (isBad q m R) = (List.range n).filter (isBad q m R) ++ if isBad q m R n then [n] else [] := by
          rw [List.range_succ, List.filter_append]
          by_cases h : isBad q m R n = true <;> simp [h]
        refine wps_ite (fun hb => ?_) (fun hb => ?_)
        · refine wps_fact (Ent.trans (ent_pick1 (A := own 1 t.1 (iv ((List.range n).filter (isBad q m R))))) (own_len _ _ _)) fun ⟨hl, _⟩ => ?_
          have hl2 : t.1.len ≤ n := by
            have := List.length_filter_le (isBad q m R) (List.range n)
            simp only [iv, List.length_map, List.length_range] at hl this
            omega
          repeat (first
            | (with_reducible refine wps_bindpure ?_)
            | (with_reducible refine wps_assoc ?_)
            | (with_reducible refine wps_nil ?_)
            | (with_reducible refine wps_stepAlloc fun _ => ?_)
            | (with_reducible refine wps_alloc fun _ => ?_)
            | (with_reducible refine wps_newO fun _ => ?_)
            | (refine wps_ld _ (by rfl) ?_)
            | (refine wps_ldG _ _ _ (by rfl) ?_)
            | (refine wps_ldA _ (by rfl) ?_)
            | (refine wps_ldI _ (by rfl) ?_)
            | (refine wps_ldGI _ _ _ (by rfl) ?_)
            | (refine wps_ldAI _ (by rfl) ?_)
            | (refine wps_st (by simp) ?_)
            | (refine wps_stA (by simp) (by simp [Value.oneCell']) ?_)
            | ((with_reducible apply wps_val); apply val_ite; rotate_left; refine fun (_ : ¬ _) => ?_; rotate_right; refine fun (_ : _ = true) => ?_)
            | ((with_reducible apply val_ite); rotate_left; refine fun (_ : ¬ _) => ?_; rotate_right; refine fun (_ : _ = true) => ?_)
            | (with_reducible refine wps_regionH ?_)
            | ((with_reducible apply wps_bindV); apply val_iteL; rotate_left; refine fun (_ : ¬ _) => ?_; rotate_right; refine fun (_ : _ = true) => ?_)
            | ((with_reducible apply val_iteL); rotate_left; refine fun (_ : ¬ _) => ?_; rotate_right; refine fun (_ : _ = true) => ?_)
            | (with_reducible exact wps_pure (ent_val rfl)))
          rename_i c
          refine wps_app 1 [Value.int .i64 t.2] rfl (by decide) (rsl_pc rfl) (by simp [Value.oneCell']) (by (try dsimp only); omega) fun s' hs' => wps_pure ?_
          refine ent_prr (by rw [range_add1 ht (by omega)]; (try dsimp only); omega) (ent_ex (n + 1) ?_)
          refine ent_pickS (by rw [hf, if_pos hb, ht]; simp [iv]) (ent_pick (ent_pick ?_))
          exact ent_prq ⟨range_add1 ht (by omega), by omega⟩
        · refine wps_pure ?_
          refine ent_prr (by rw [range_add1 ht (by omega)]; (try dsimp only); omega) (ent_ex (n + 1) ?_)
          refine ent_pickS (by rw [hf, if_neg hb]; simp [iv]) (ent_pick (ent_pick ?_))
          exact ent_prq ⟨range_add1 ht (by omega), by omega⟩
    · have hc' : ¬ t.2 < q.1 := by simpa using hc
      have hnq : (List.range n).filter (isBad q m R) = badL q m R := by
        unfold badL; congr 2; omega
      rw [hnq]
      refine wps_mapR (wps_pure ?_)
      exact ent_pick (ent_pick ent_drop)
end Go.Proofs.Ytldmeimebebllaa
