/-
  A part of the proof: predicate transformers over the model, and a separation logic over them; what functions of the program do.
-/
import Derived.Test.YtldmeimebebllaaGreatDoorPart0
set_option linter.unusedSimpArgs false
namespace Go.Proofs.Ytldmeimebebllaa
abbrev fid_bank_Bank_disks : Nat := 33
abbrev fid_scan_Groups_c1 : Nat := 55
abbrev fid_scan_Groups_c2 : Nat := 59
abbrev fid_stripe_rows_c1 : Nat := 91
open Go.Mo
set_option linter.unusedVariables false
def law08_Small  : M (Int × Int × Int) :=
  bindM (allocM [(.int .i64 0), (.int .i64 0), (.int .i64 0)]) fun x0 =>
  bindM (stA x0 [(.int .i64 3), (.int .i64 3), (.int .i64 12)]) fun _ =>
  bindM (ldA (fun y : (Int × Int × Int) => [(.int .i64 y.1), (.int .i64 y.2.1), (.int .i64 y.2.2)]) x0) fun r0 =>
  pureM (r0.1, r0.2.1, r0.2.2)
def geo_within (p0_n : Int) (p1_from : Int) (p2_to : Int) : M Bool :=
  bindM (if (decide (p1_from ≤ p0_n)) = true then
    pureM (decide (p0_n ≤ p2_to))
  else
    pureM false) fun q1 =>
  pureM q1
def geo_others (p0_g : (Int × Int × Int)) : M Int :=
  bindM (allocM [(.int .i64 p0_g.1), (.int .i64 p0_g.2.1), (.int .i64 p0_g.2.2)]) fun x1 =>
  bindM (ld (Value.int .i64) (Addr.add x1 2)) fun x4 =>
  pureM (w64 (1 + (w64 (Int.tdiv x4 8))))
def geo_places (p0_g : (Int × Int × Int)) : M Int :=
  bindM (allocM [(.int .i64 p0_g.1), (.int .i64 p0_g.2.1), (.int .i64 p0_g.2.2)]) fun x1 =>
  bindM (ld (Value.int .i64) (Addr.add x1 1)) fun x4 =>
  bindM (ld (Value.int .i64) x1) fun x6 =>
  pureM (w64 ((w64 (x4 * (w64 (x6 - 1)))) - 1))
def geo_Right (p0_g : (Int × Int × Int)) : M Bool :=
  bindM (allocM [(.int .i64 p0_g.1), (.int .i64 p0_g.2.1), (.int .i64 p0_g.2.2)]) fun x1 =>
  regionM fun S1 =>
  bindM (ldI S1 (Value.int .i64) x1) fun x4 =>
  bindM (stepI S1 (geo_within x4 3 16)) fun x5 =>
  (if (x5) = true then
    bindM (ldI S1 (Value.int .i64) (Addr.add x1 1)) fun x8 =>
      bindM (stepI S1 (geo_within x8 1 4)) fun x9 =>
      (if (x9) = true then
        bindM (ldI S1 (Value.int .i64) (Addr.add x1 2)) fun x13 =>
          bindM (stepI S1 (geo_within x13 12 64)) fun x14 =>
          (if (x14) = true then
            bindM (ldAI S1 (fun y : (Int × Int × Int) => [(.int .i64 y.1), (.int .i64 y.2.1), (.int .i64 y.2.2)]) x1) fun x17 =>
              bindM (ldAI S1 (fun y : (Int × Int × Int) => [(.int .i64 y.1), (.int .i64 y.2.1), (.int .i64 y.2.2)]) x1) fun x19 =>
              bindM (stepI S1 (geo_others (x17.1, x17.2.1, x17.2.2))) fun x18 =>
              bindM (stepI S1 (geo_places (x19.1, x19.2.1, x19.2.2))) fun x20 =>
              pureM (decide ((w64 (x18 * x20)) ≥ 8))
          else
            pureM false)
      else
        pureM false)
  else
    pureM false)
def geo_Places (p0_g : (Int × Int × Int)) : M Int :=
  bindM (allocM [(.int .i64 p0_g.1), (.int .i64 p0_g.2.1), (.int .i64 p0_g.2.2)]) fun x1 =>
  bindM (ldA (fun y : (Int × Int × Int) => [(.int .i64 y.1), (.int .i64 y.2.1), (.int .i64 y.2.2)]) x1) fun x3 =>
  bindM (geo_Right (x3.1, x3.2.1, x3.2.2)) fun x4 =>
  (if (!x4) = true then
  pureM 0
  else
  bindM (ldA (fun y : (Int × Int × Int) => [(.int .i64 y.1), (.int .i64 y.2.1), (.int .i64 y.2.2)]) x1) fun x6 =>
    bindM (geo_places (x6.1, x6.2.1, x6.2.2)) fun x7 =>
    pureM x7)
def geo_Where (p0_g : (Int × Int × Int)) (p1_address : Int) : M (Int × Int × Bool) :=
  bindM (allocM [(.int .i64 p0_g.1), (.int .i64 p0_g.2.1), (.int .i64 p0_g.2.2)]) fun x2 =>
  bindS (regionM fun S3 =>
    bindM (ldAI S3 (fun y : (Int × Int × Int) => [(.int .i64 y.1), (.int .i64 y.2.1), (.int .i64 y.2.2)]) x2) fun x7 =>
    bindM (stepI S3 (geo_Right (x7.1, x7.2.1, x7.2.2))) fun x8 =>
    (if (!x8) = true then
      pureM (.inl true)
    else
      bindM (ldI S3 (Value.int .i64) (Addr.add x2 2)) fun x13 =>
        bindM (ldAI S3 (fun y : (Int × Int × Int) => [(.int .i64 y.1), (.int .i64 y.2.1), (.int .i64 y.2.2)]) x2) fun x14 =>
        bindM (stepI S3 (geo_places (x14.1, x14.2.1, x14.2.2))) fun x15 =>
        bindM (stepI S3 (geo_within p1_address 1 (w64 (x13 * x15)))) fun x17 =>
        pureM (.inl (!x17)))) fun (b1 : (Bool)) =>
  (if (b1) = true then
  pureM (0, 0, false)
  else
  regionM fun S2 =>
    bindM (ldAI S2 (fun y : (Int × Int × Int) => [(.int .i64 y.1), (.int .i64 y.2.1), (.int .i64 y.2.2)]) x2) fun x22 =>
    bindM (ldAI S2 (fun y : (Int × Int × Int) => [(.int .i64 y.1), (.int .i64 y.2.1), (.int .i64 y.2.2)]) x2) fun x27 =>
    bindM (stepI S2 (geo_places (x22.1, x22.2.1, x22.2.2))) fun x23 =>
    assertM (x23 ≠ 0) <|
    bindM (stepI S2 (geo_places (x27.1, x27.2.1, x27.2.2))) fun x28 =>
    assertM (x28 ≠ 0) <|
    pureM (w64 (Int.tdiv (w64 (p1_address - 1)) x23), w64 ((Int.tmod (w64 (p1_address - 1)) x28) + 1), true))
def scan_right (p0_g : (Int × Int × Int)) (p1_s : (Int × Int × Int × Int)) : M Bool :=
  bindM (allocM [(.int .i64 p0_g.1), (.int .i64 p0_g.2.1), (.int .i64 p0_g.2.2)]) fun x2 =>
  bindM (allocM [(.int .i64 p1_s.1), (.int .i64 p1_s.2.1), (.int .i64 p1_s.2.2.1), (.int .i64 p1_s.2.2.2)]) fun x3 =>
  bindM (ldA (fun y : (Int × Int × Int) => [(.int .i64 y.1), (.int .i64 y.2.1), (.int .i64 y.2.2)]) x2) fun x9 =>
  bindM (geo_Places (x9.1, x9.2.1, x9.2.2)) fun x10 =>
  bindM (if (x10 == 0) = true then
    pureM true
  else
    bindM (ld (Value.int .i64) x3) fun x15 =>
      pureM (decide (x15 < 1))) fun q1 =>
  bindM (if (q1) = true then
    pureM true
  else
    bindM (ld (Value.int .i64) x3) fun x20 =>
      bindM (ld (Value.int .i64) (Addr.add x2 2)) fun x22 =>
      pureM (decide (x20 > x22))) fun q2 =>
  bindM (if (q2) = true then
    pureM true
  else
    bindM (ld (Value.int .i64) (Addr.add x3 1)) fun x27 =>
      pureM (decide (x27 < 0))) fun q3 =>
  bindM (if (q3) = true then
    pureM true
  else
    bindM (ld (Value.int .i64) (Addr.add x3 1)) fun x32 =>
      bindM (ld (Value.int .i64) x3) fun x34 =>
      pureM (decide (x32 ≥ x34))) fun q4 =>
  bindM (if (q4) = true then
    pureM true
  else
    bindM (ld (Value.int .i64) (Addr.add x3 2)) fun x39 =>
      pureM (decide (x39 < 0))) fun q5 =>
  bindM (if (q5) = true then
    pureM true
  else
    bindM (ld (Value.int .i64) (Addr.add x3 2)) fun x44 =>
      pureM (decide (x44 > x10))) fun q6 =>
  (if (q6) = true then
  pureM false
  else
  bindM (ld (Value.int .i64) (Addr.add x3 1)) fun x49 =>
    bindM (ld (Value.int .i64) x3) fun x51 =>
    (if (x49 == (w64 (x51 - 1))) = true then
    bindM (ldA (fun y : (Int × Int × Int) => [(.int .i64 y.1), (.int .i64 y.2.1), (.int .i64 y.2.2)]) x2) fun x55 =>
      bindM (ld (Value.int .i64) (Addr.add x3 3)) fun x57 =>
      bindM (geo_Where (x55.1, x55.2.1, x55.2.2) x57) fun x58 =>
      pureM x58.2.2
    else
    bindM (ld (Value.int .i64) (Addr.add x3 3)) fun x64 =>
      pureM (x64 == 0)))
def bits_Put (p0_width : Int) (p1_n : Int) : M Slc :=
  bindM (if (decide (p0_width < 1)) = true then
    pureM true
  else
    pureM (decide (p0_width > 4))) fun q1 =>
  bindM (if (q1) = true then
    pureM true
  else
    pureM (decide (p1_n < 0))) fun q2 =>
  bindM (if (q2) = true then
    pureM true
  else
    assertM (0 ≤ (w64 (8 * p0_width))) <|
      pureM (decide ((bShr .i64 p1_n (w64 (8 * p0_width))) > 0))) fun q3 =>
  (if (q3) = true then
  pureM (⟨none, 0, 0⟩)
  else
  bindM (makeM [(.int .u8 0)] 1 p0_width) fun x25 =>
    loopM (fun (s4 : (Int)) =>
    (if (decide (s4 < ((x25.len : Nat) : Int))) = true then
      assertM (0 ≤ (w64 (8 * s4))) <|
        bindM (idxM x25 s4 1) fun x38 =>
        bindM (st x38 (.int .u8 (IntKind.wrap .u8 (bShr .i64 p1_n (w64 (8 * s4)))))) fun _ =>
        pureM (.inl (w64 (s4 + 1)))
      else
      mapR (pureM x25))) 0)
def bits_Pad (p0_b : Slc) (p1_n : Int) : M (Slc × Bool) :=
  bindM (if (decide (p1_n > 65536)) = true then
    pureM true
  else
    pureM (decide (((p0_b.len : Nat) : Int) > p1_n))) fun q1 =>
  (if (q1) = true then
  pureM (⟨none, 0, 0⟩, false)
  else
  bindM (makeM [(.int .u8 0)] 1 p1_n) fun x16 =>
    bindM (copyM 1 x16 p0_b) fun x19 =>
    pureM (x16, true))
def scan_PutSummary (p0_g : (Int × Int × Int)) (p1_s : (Int × Int × Int × Int)) : M ((Int × Int × Slc) × Bool) :=
  bindM (allocM [(.int .i64 p0_g.1), (.int .i64 p0_g.2.1), (.int .i64 p0_g.2.2)]) fun x2 =>
  bindM (allocM [(.int .i64 p1_s.1), (.int .i64 p1_s.2.1), (.int .i64 p1_s.2.2.1), (.int .i64 p1_s.2.2.2)]) fun x3 =>
  bindM (allocM [(.int .i64 0), (.int .i64 0), (.slice none 0 0)]) fun x4 =>
  bindM (ldA (fun y : (Int × Int × Int) => [(.int .i64 y.1), (.int .i64 y.2.1), (.int .i64 y.2.2)]) x2) fun x9 =>
  bindM (ldA (fun y : (Int × Int × Int × Int) => [(.int .i64 y.1), (.int .i64 y.2.1), (.int .i64 y.2.2.1), (.int .i64 y.2.2.2)]) x3) fun x10 =>
  bindM (scan_right (x9.1, x9.2.1, x9.2.2) (x10.1, x10.2.1, x10.2.2.1, x10.2.2.2)) fun x11 =>
  (if (!x11) = true then
  bindM (stA x4 [(.int .i64 0), (.int .i64 0), (.slice none 0 0)]) fun _ =>
    bindM (ldA (fun y : (Int × Int × Slc) => [(.int .i64 y.1), (.int .i64 y.2.1), (.slice y.2.2.base y.2.2.len y.2.2.cap)]) x4) fun r4 =>
    pureM ((r4.1, r4.2.1, r4.2.2), false)
  else
  bindM (ld (Value.int .i64) x3) fun x15 =>
    bindM (ld (Value.int .i64) (Addr.add x3 1)) fun x17 =>
    bindM (ld (Value.int .i64) (Addr.add x3 2)) fun x19 =>
    bindM (ld (Value.int .i64) (Addr.add x3 3)) fun x21 =>
    loopM (fun (s1 : (Slc × Int)) =>
    (if (decide (s1.2 < 5)) = true then
      bindM (arrM [21331, x15, x17, x19, x21] s1.2) fun x25 =>
        bindM (bits_Put 2 x25) fun x28 =>
        bindM (appendM [(.int .u8 0)] 1 s1.1 x28) fun x29 =>
        pureM (.inl (x29, w64 (s1.2 + 1)))
      else
      mapR (bindM (bits_Pad s1.1 56) fun x33 =>
        bindM (stA x4 [(.int .i64 65535), (.int .i64 0), (.slice x33.1.base x33.1.len x33.1.cap)]) fun _ =>
        bindM (ldA (fun y : (Int × Int × Slc) => [(.int .i64 y.1), (.int .i64 y.2.1), (.slice y.2.2.base y.2.2.len y.2.2.cap)]) x4) fun r4 =>
        pureM ((r4.1, r4.2.1, r4.2.2), true)))) (⟨none, 0, 0⟩, 0))
def cmp_isNaN_i (p0_x : Int) : M Bool :=
  pureM (p0_x != p0_x)
def cmp_Compare_i (p0_x : Int) (p1_y : Int) : M Int :=
  bindM (cmp_isNaN_i p0_x) fun x8 =>
  bindM (cmp_isNaN_i p1_y) fun x10 =>
  (if (x8) = true then
  (if (x10) = true then
    pureM 0
    else
    pureM (-1))
  else
  (if (x10) = true then
    pureM 1
    else
    (if (decide (p0_x < p1_y)) = true then
      pureM (-1)
      else
      (if (decide (p0_x > p1_y)) = true then
        pureM 1
        else
        pureM 0))))
def scan_Groups_c1 (p0_a : (Int × Int × Int × Int × Int × Int)) (p1_b : (Int × Int × Int × Int × Int × Int)) : M Int :=
  bindM (allocM [(.int .i64 p0_a.1), (.int .i64 p0_a.2.1), (.int .i64 p0_a.2.2.1), (.int .i64 p0_a.2.2.2.1), (.int .i64 p0_a.2.2.2.2.1), (.int .i64 p0_a.2.2.2.2.2)]) fun x2 =>
  bindM (allocM [(.int .i64 p1_b.1), (.int .i64 p1_b.2.1), (.int .i64 p1_b.2.2.1), (.int .i64 p1_b.2.2.2.1), (.int .i64 p1_b.2.2.2.2.1), (.int .i64 p1_b.2.2.2.2.2)]) fun x3 =>
  bindM (ld (Value.int .i64) (Addr.add (Addr.add x2 2) 1)) fun x7 =>
  bindM (ld (Value.int .i64) (Addr.add (Addr.add x3 2) 1)) fun x10 =>
  bindM (cmp_Compare_i x7 x10) fun x11 =>
  pureM x11
def scan_whole (p0_m : Slc) (p1_count : Int) : M Bool :=
  bindM (if (decide (p1_count < 1)) = true then
    pureM true
  else
    pureM (decide (((p0_m.len : Nat) : Int) < p1_count))) fun q1 =>
  bindM (if (q1) = true then
    pureM true
  else
    bindM (if (decide (((p0_m.len : Nat) : Int) > p1_count)) = true then
        bindM (idxM p0_m p1_count 6) fun x23 =>
          bindM (ld (Value.int .i64) (Addr.add (Addr.add x23 2) 1)) fun x26 =>
          pureM (decide (x26 < p1_count))
      else
        pureM false) fun q4 =>
      pureM q4) fun q2 =>
  (if (q2) = true then
  pureM false
  else
  bindM (sliceM p0_m (none) (some p1_count) 6) fun x33 =>
    loopM (fun (s3 : (Int)) =>
    (if (decide (s3 < ((x33.len : Nat) : Int))) = true then
      bindM (idxM x33 s3 6) fun x38 =>
        bindM (ldA (fun y : (Int × Int × Int × Int × Int × Int) => [(.int .i64 y.1), (.int .i64 y.2.1), (.int .i64 y.2.2.1), (.int .i64 y.2.2.2.1), (.int .i64 y.2.2.2.2.1), (.int .i64 y.2.2.2.2.2)]) x38) fun x39 =>
        bindM (allocM [(.int .i64 0), (.int .i64 0), (.int .i64 0), (.int .i64 0), (.int .i64 0), (.int .i64 0)]) fun x6 =>
        bindM (stA x6 [(.int .i64 x39.1), (.int .i64 x39.2.1), (.int .i64 x39.2.2.1), (.int .i64 x39.2.2.2.1), (.int .i64 x39.2.2.2.2.1), (.int .i64 x39.2.2.2.2.2)]) fun _ =>
        bindM (ld (Value.int .i64) (Addr.add (Addr.add x6 2) 1)) fun x42 =>
        (if (x42 != s3) = true then
        mapR (pureM false)
        else
        pureM (.inl (w64 (s3 + 1))))
      else
      mapR (pureM true))) 0)
def cmp_Or_i (p0_vals : Slc) : M Int :=
  loopM (fun (s1 : (Int)) =>
  (if (decide (s1 < ((p0_vals.len : Nat) : Int))) = true then
    bindM (idxM p0_vals s1 1) fun x10 =>
      bindM (ld (Value.int .i64) x10) fun x11 =>
      (if (x11 != 0) = true then
      mapR (pureM x11)
      else
      pureM (.inl (w64 (s1 + 1))))
    else
    mapR (pureM 0))) 0
def scan_Groups_c2 (p0_a : (Int × Int × Slc)) (p1_b : (Int × Int × Slc)) : M Int :=
  bindM (allocM [(.int .i64 p0_a.1), (.int .i64 p0_a.2.1), (.slice p0_a.2.2.base p0_a.2.2.len p0_a.2.2.cap)]) fun x2 =>
  bindM (allocM [(.int .i64 p1_b.1), (.int .i64 p1_b.2.1), (.slice p1_b.2.2.base p1_b.2.2.len p1_b.2.2.cap)]) fun x3 =>
  regionM fun S1 =>
  bindM (ldI S1 (Value.int .i64) x2) fun x6 =>
  bindM (ldI S1 (Value.int .i64) x3) fun x8 =>
  bindM (ldI S1 vS (Addr.add x2 2)) fun x11 =>
  bindM (ldI S1 vS (Addr.add x3 2)) fun x14 =>
  bindM (stepI S1 (cmp_Compare_i x6 x8)) fun x9 =>
  bindM (stepI S1 (cmp_Compare_i ((x11.len : Nat) : Int) ((x14.len : Nat) : Int))) fun x16 =>
  bindM (stepI S1 (allocM [(.int .i64 x9), (.int .i64 x16)])) fun x17 =>
  bindM (stepI S1 (cmp_Or_i (⟨some x17, 2, 2⟩))) fun x18 =>
  pureM x18
def scan_Groups (p0_list : Slc) : M Slc :=
  bindM (newO (.map #[] 0)) fun x13 =>
  loopM (fun (s1 : (Int)) =>
  (if (decide (s1 < ((p0_list.len : Nat) : Int))) = true then
    bindM (idxM p0_list s1 6) fun x18 =>
      bindM (ldA (fun y : (Int × Int × Int × Int × Int × Int) => [(.int .i64 y.1), (.int .i64 y.2.1), (.int .i64 y.2.2.1), (.int .i64 y.2.2.2.1), (.int .i64 y.2.2.2.2.1), (.int .i64 y.2.2.2.2.2)]) x18) fun x19 =>
      bindM (allocM [(.int .i64 0), (.int .i64 0), (.int .i64 0), (.int .i64 0), (.int .i64 0), (.int .i64 0)]) fun x5 =>
      bindM (stA x5 [(.int .i64 x19.1), (.int .i64 x19.2.1), (.int .i64 x19.2.2.1), (.int .i64 x19.2.2.2.1), (.int .i64 x19.2.2.2.2.1), (.int .i64 x19.2.2.2.2.2)]) fun _ =>
      bindM (ld (Value.int .i64) (Addr.add (Addr.add x5 2) 1)) fun x22 =>
      bindM (if (decide (x22 ≥ 0)) = true then
        bindM (ld (Value.int .i64) (Addr.add x5 1)) fun x26 =>
          bindM (ld (Value.int .i64) (Addr.add (Addr.add x5 2) 1)) fun x29 =>
          pureM (decide (x26 ≥ x29))
      else
        pureM false) fun q2 =>
      (if (q2) = true then
      bindM (ld (Value.int .i64) (Addr.add x5 1)) fun x33 =>
        bindM (ld (Value.int .i64) (Addr.add (Addr.add x5 2) 1)) fun x36 =>
        bindM (ld (Value.int .i64) (Addr.add x5 2)) fun x40 =>
        bindM (allocM [(.int .i64 0), (.int .i64 0)]) fun x6 =>
        bindM (stA x6 [(.int .i64 (w64 (x33 - x36))), (.int .i64 x40)]) fun _ =>
        bindM (ldA (fun y : (Int × Int) => [(.int .i64 y.1), (.int .i64 y.2)]) x6) fun x43 =>
        bindM (ldA (fun y : (Int × Int × Int × Int × Int × Int) => [(.int .i64 y.1), (.int .i64 y.2.1), (.int .i64 y.2.2.1), (.int .i64 y.2.2.2.1), (.int .i64 y.2.2.2.2.1), (.int .i64 y.2.2.2.2.2)]) x5) fun x45 =>
        bindM (allocM [(.int .i64 x45.1), (.int .i64 x45.2.1), (.int .i64 x45.2.2.1), (.int .i64 x45.2.2.2.1), (.int .i64 x45.2.2.2.2.1), (.int .i64 x45.2.2.2.2.2)]) fun x46 =>
        bindM (entM vS (⟨none, 0, 0⟩) (some x13) (x43.1, x43.2)) fun x47 =>
        bindM (appendM [(.int .i64 0), (.int .i64 0), (.int .i64 0), (.int .i64 0), (.int .i64 0), (.int .i64 0)] 48 x47.1 ⟨some x46, 1, 1⟩) fun x48 =>
        bindM (entStM (some x13) x47.2 (.slice x48.base x48.len x48.cap)) fun _ =>
        pureM (.inl (w64 (s1 + 1)))
      else
      pureM (.inl (w64 (s1 + 1))))
    else
    mapR (bindM (rangeMapM (some x13)) fun x52 =>
      loopM (fun (s3 : (Slc)) =>
      bindM (nextM x52) fun y53 =>
        (match y53 with
        | none =>
          mapR (bindM (sortFM 3 (fun y : (Int × Int × Slc) => [(.int .i64 y.1), (.int .i64 y.2.1), (.slice y.2.2.base y.2.2.len y.2.2.cap)]) cf_scan_Groups_c2 s3) fun x99 =>
            pureM s3)
        | some e53 =>
          bindM (entryM (fun y : (Int × Int) => (.agg #[(.int .i64 y.1), (.int .i64 y.2)])) vS x52) fun x55 =>
            bindM (allocM [(.int .i64 0), (.int .i64 0)]) fun x8 =>
            bindM (stA x8 [(.int .i64 x55.1.1), (.int .i64 x55.1.2)]) fun _ =>
            bindM (sortFM 6 (fun y : (Int × Int × Int × Int × Int × Int) => [(.int .i64 y.1), (.int .i64 y.2.1), (.int .i64 y.2.2.1), (.int .i64 y.2.2.2.1), (.int .i64 y.2.2.2.2.1), (.int .i64 y.2.2.2.2.2)]) cf_scan_Groups_c1 x55.2) fun x59 =>
            bindM (ld (Value.int .i64) (Addr.add x8 1)) fun x62 =>
            bindM (scan_whole x55.2 x62) fun x63 =>
            (if (!x63) = true then
            pureM (.inl s3)
            else
            bindM (ld (Value.int .i64) (Addr.add x8 1)) fun x67 =>
              bindM (sliceM x55.2 (none) (some x67) 6) fun x68 =>
              regionM fun S4 =>
              bindM (ldI S4 (Value.int .i64) x8) fun x70 =>
              bindM (idxM x68 (w64 (((x68.len : Nat) : Int) - 1)) 6) fun x75 =>
              bindM (ldI S4 (Value.int .i64) (Addr.add (Addr.add x75 2) 3)) fun x78 =>
              bindM (stepI S4 (allocM [(.int .i64 0), (.int .i64 0), (.slice none 0 0)])) fun x10 =>
              bindM (stA x10 [(.int .i64 x70), (.int .i64 x78), (.slice none 0 0)]) fun _ =>
              loopM (fun (s5 : (Int)) =>
              (if (decide (s5 < ((x68.len : Nat) : Int))) = true then
                bindM (idxM x68 s5 6) fun x84 =>
                  bindM (ldA (fun y : (Int × Int × Int × Int × Int × Int) => [(.int .i64 y.1), (.int .i64 y.2.1), (.int .i64 y.2.2.1), (.int .i64 y.2.2.2.1), (.int .i64 y.2.2.2.2.1), (.int .i64 y.2.2.2.2.2)]) x84) fun x85 =>
                  bindM (allocM [(.int .i64 0), (.int .i64 0), (.int .i64 0), (.int .i64 0), (.int .i64 0), (.int .i64 0)]) fun x12 =>
                  bindM (stA x12 [(.int .i64 x85.1), (.int .i64 x85.2.1), (.int .i64 x85.2.2.1), (.int .i64 x85.2.2.2.1), (.int .i64 x85.2.2.2.2.1), (.int .i64 x85.2.2.2.2.2)]) fun _ =>
                  bindM (ld vS (Addr.add x10 2)) fun x87 =>
                  bindM (ld (Value.int .i64) x12) fun x89 =>
                  bindM (allocM [(.int .i64 x89)]) fun x90 =>
                  bindM (appendM [(.int .i64 0)] 8 x87 ⟨some x90, 1, 1⟩) fun x91 =>
                  bindM (st (Addr.add x10 2) (.slice x91.base x91.len x91.cap)) fun _ =>
                  pureM (.inl (w64 (s5 + 1)))
                else
                mapR (bindM (ldA (fun y : (Int × Int × Slc) => [(.int .i64 y.1), (.int .i64 y.2.1), (.slice y.2.2.base y.2.2.len y.2.2.cap)]) x10) fun x95 =>
                  bindM (allocM [(.int .i64 x95.1), (.int .i64 x95.2.1), (.slice x95.2.2.base x95.2.2.len x95.2.2.cap)]) fun x96 =>
                  bindM (appendM [(.int .i64 0), (.int .i64 0), (.slice none 0 0)] 40 s3 ⟨some x96, 1, 1⟩) fun x97 =>
                  pureM (.inl x97)))) 0))) (⟨none, 0, 0⟩)))) 0
def bytes_trimLeftByte (p0_s : Slc) (p1_c : Int) : M Slc :=
  loopM (fun (s1 : (Slc)) =>
  bindM (if (decide (((s1.len : Nat) : Int) > 0)) = true then
      bindM (idxM s1 0 1) fun x10 =>
        bindM (ld (Value.int .u8) x10) fun x11 =>
        pureM (x11 == p1_c)
    else
      pureM false) fun q2 =>
    (if (q2) = true then
    bindM (sliceM s1 (some 1) (none) 1) fun x16 =>
      pureM (.inl x16)
    else
    mapR ((if (((s1.len : Nat) : Int) == 0) = true then
      pureM (⟨none, 0, 0⟩)
      else
      pureM s1)))) p0_s
def bytes_trimRightByte (p0_s : Slc) (p1_c : Int) : M Slc :=
  loopM (fun (s1 : (Slc)) =>
  bindM (if (decide (((s1.len : Nat) : Int) > 0)) = true then
      bindM (idxM s1 (w64 (((s1.len : Nat) : Int) - 1)) 1) fun x13 =>
        bindM (ld (Value.int .u8) x13) fun x14 =>
        pureM (x14 == p1_c)
    else
      pureM false) fun q2 =>
    (if (q2) = true then
    bindM (sliceM s1 (none) (some (w64 (((s1.len : Nat) : Int) - 1))) 1) fun x22 =>
      pureM (.inl x22)
    else
    mapR (pureM s1))) p0_s
def bytes_Trim_0 (p0_s : Slc) : M Slc :=
  (if (((p0_s.len : Nat) : Int) == 0) = true then
  pureM (⟨none, 0, 0⟩)
  else
  regionM fun S1 =>
    bindM (bytes_trimRightByte p0_s 0) fun x24 =>
    bindM (bytes_trimLeftByte x24 0) fun x27 =>
    pureM x27)
def bits_Nought (p0_b : Slc) : M Bool :=
  bindM (bytes_Trim_0 p0_b) fun x4 =>
  pureM (((x4.len : Nat) : Int) == 0)
def bits_Get (p0_b : Slc) (p1_at : Int) (p2_width : Int) : M (Int × Bool) :=
  bindM (if (decide (p2_width < 1)) = true then
    pureM true
  else
    pureM (decide (p2_width > 4))) fun q1 =>
  bindM (if (q1) = true then
    pureM true
  else
    pureM (decide (p1_at < 0))) fun q2 =>
  bindM (if (q2) = true then
    pureM true
  else
    pureM (decide (p1_at > ((p0_b.len : Nat) : Int)))) fun q3 =>
  bindM (if (q3) = true then
    pureM true
  else
    pureM (decide ((w64 (((p0_b.len : Nat) : Int) - p1_at)) < p2_width))) fun q4 =>
  (if (q4) = true then
  pureM (0, false)
  else
  bindM (sliceM p0_b (some p1_at) (some (w64 (p1_at + p2_width))) 1) fun x40 =>
    loopM (fun (s5 : (Int × Int)) =>
    (if (decide (s5.2 < ((x40.len : Nat) : Int))) = true then
      bindM (idxM x40 s5.2 1) fun x45 =>
        bindM (ld (Value.int .u8) x45) fun x46 =>
        assertM (0 ≤ (w64 (8 * s5.2))) <|
        pureM (.inl (bOr .i64 s5.1 (bShl .i64 (w64 x46) (w64 (8 * s5.2))), w64 (s5.2 + 1)))
      else
      mapR (pureM (s5.1, true)))) (0, 0))
def scan_GetSummary (p0_g : (Int × Int × Int)) (p1_b : (Int × Int × Slc)) : M ((Int × Int × Int × Int) × Bool) :=
  bindM (allocM [(.int .i64 p0_g.1), (.int .i64 p0_g.2.1), (.int .i64 p0_g.2.2)]) fun x2 =>
  bindM (allocM [(.int .i64 p1_b.1), (.int .i64 p1_b.2.1), (.slice p1_b.2.2.base p1_b.2.2.len p1_b.2.2.cap)]) fun x3 =>
  bindM (allocM [(.int .i64 0), (.int .i64 0), (.int .i64 0), (.int .i64 0)]) fun x4 =>
  bindM (ld (Value.int .i64) x3) fun x10 =>
  bindM (if (x10 != 65535) = true then
    pureM true
  else
    bindM (ld (Value.int .i64) (Addr.add x3 1)) fun x14 =>
      pureM (x14 != 0)) fun q1 =>
  bindM (if (q1) = true then
    pureM true
  else
    bindM (ld vS (Addr.add x3 2)) fun x19 =>
      pureM (((x19.len : Nat) : Int) != 56)) fun q2 =>
  bindM (if (q2) = true then
    pureM true
  else
    bindM (ld vS (Addr.add x3 2)) fun x25 =>
      bindM (sliceM x25 (some 10) (none) 1) fun x26 =>
      bindM (bits_Nought x26) fun x27 =>
      pureM (!x27)) fun q3 =>
  (if (q3) = true then
  bindM (stA x4 [(.int .i64 0), (.int .i64 0), (.int .i64 0), (.int .i64 0)]) fun _ =>
    bindM (ldA (fun y : (Int × Int × Int × Int) => [(.int .i64 y.1), (.int .i64 y.2.1), (.int .i64 y.2.2.1), (.int .i64 y.2.2.2)]) x4) fun r4 =>
    pureM ((r4.1, r4.2.1, r4.2.2.1, r4.2.2.2), false)
  else
  bindM (allocM [(.int .i64 0), (.int .i64 0), (.int .i64 0), (.int .i64 0), (.int .i64 0)]) fun x6 =>
    loopM (fun (s4 : (Int)) =>
    (if (decide (s4 < 5)) = true then
      bindM (ld vS (Addr.add x3 2)) fun x37 =>
        bindM (bits_Get x37 (w64 (2 * s4)) 2) fun x40 =>
        bindM (idxA x6 5 s4 1) fun x43 =>
        bindM (st x43 (.int .i64 x40.1)) fun _ =>
        pureM (.inl (w64 (s4 + 1)))
      else
      mapR (bindM (ld (Value.int .i64) (Addr.add x6 1)) fun x46 =>
        bindM (ld (Value.int .i64) (Addr.add x6 2)) fun x48 =>
        bindM (ld (Value.int .i64) (Addr.add x6 3)) fun x50 =>
        bindM (ld (Value.int .i64) (Addr.add x6 4)) fun x52 =>
        bindM (allocM [(.int .i64 0), (.int .i64 0), (.int .i64 0), (.int .i64 0)]) fun x8 =>
        bindM (stA x8 [(.int .i64 x46), (.int .i64 x48), (.int .i64 x50), (.int .i64 x52)]) fun _ =>
        bindM (ld (Value.int .i64) x6) fun x55 =>
        bindM (if (x55 != 21331) = true then
          pureM true
        else
          bindM (ldA (fun y : (Int × Int × Int) => [(.int .i64 y.1), (.int .i64 y.2.1), (.int .i64 y.2.2)]) x2) fun x58 =>
            bindM (ldA (fun y : (Int × Int × Int × Int) => [(.int .i64 y.1), (.int .i64 y.2.1), (.int .i64 y.2.2.1), (.int .i64 y.2.2.2)]) x8) fun x59 =>
            bindM (scan_right (x58.1, x58.2.1, x58.2.2) (x59.1, x59.2.1, x59.2.2.1, x59.2.2.2)) fun x60 =>
            pureM (!x60)) fun q5 =>
        (if (q5) = true then
        bindM (stA x4 [(.int .i64 0), (.int .i64 0), (.int .i64 0), (.int .i64 0)]) fun _ =>
          bindM (ldA (fun y : (Int × Int × Int × Int) => [(.int .i64 y.1), (.int .i64 y.2.1), (.int .i64 y.2.2.1), (.int .i64 y.2.2.2)]) x4) fun r4 =>
          pureM ((r4.1, r4.2.1, r4.2.2.1, r4.2.2.2), false)
        else
        bindM (ldA (fun y : (Int × Int × Int × Int) => [(.int .i64 y.1), (.int .i64 y.2.1), (.int .i64 y.2.2.1), (.int .i64 y.2.2.2)]) x8) fun x64 =>
          bindM (stA x4 [(.int .i64 x64.1), (.int .i64 x64.2.1), (.int .i64 x64.2.2.1), (.int .i64 x64.2.2.2)]) fun _ =>
          bindM (ldA (fun y : (Int × Int × Int × Int) => [(.int .i64 y.1), (.int .i64 y.2.1), (.int .i64 y.2.2.1), (.int .i64 y.2.2.2)]) x4) fun r4 =>
          pureM ((r4.1, r4.2.1, r4.2.2.1, r4.2.2.2), true))))) 0)
def ref00_SameInts (p0_a : Slc) (p1_b : Slc) : M Bool :=
  (if (((p0_a.len : Nat) : Int) != ((p1_b.len : Nat) : Int)) = true then
  pureM false
  else
  loopM (fun (s1 : (Int)) =>
    (if (decide (s1 < ((p0_a.len : Nat) : Int))) = true then
      regionM fun S2 =>
        bindM (idxM p0_a s1 1) fun x19 =>
        bindM (ldI S2 (Value.int .i64) x19) fun x20 =>
        bindM (idxM p1_b s1 1) fun x23 =>
        bindM (ldI S2 (Value.int .i64) x23) fun x24 =>
        (if (x20 != x24) = true then
        mapR (pureM false)
        else
        pureM (.inl (w64 (s1 + 1))))
      else
      mapR (pureM true))) 0)
def law08_alive  : M Bool :=
  bindM (allocM [(.int .i64 5), (.int .i64 8), (.int .i64 2), (.int .i64 1), (.int .i64 0), (.int .i64 3), (.int .i64 2), (.int .i64 7), (.int .i64 2), (.int .i64 0), (.int .i64 0), (.int .i64 0)]) fun x10 =>
  bindM (scan_Groups (⟨some x10, 2, 2⟩)) fun x11 =>
  bindM (law08_Small ) fun x13 =>
  bindM (scan_PutSummary (x13.1, x13.2.1, x13.2.2) (1, 0, 2, 9)) fun x15 =>
  bindM (allocM [(.int .i64 0), (.int .i64 0), (.slice none 0 0)]) fun x2 =>
  bindM (stA x2 [(.int .i64 x15.1.1), (.int .i64 x15.1.2.1), (.slice x15.1.2.2.base x15.1.2.2.len x15.1.2.2.cap)]) fun _ =>
  regionM fun S1 =>
  bindM (ldAI S1 (fun y : (Int × Int × Slc) => [(.int .i64 y.1), (.int .i64 y.2.1), (.slice y.2.2.base y.2.2.len y.2.2.cap)]) x2) fun x20 =>
  (bothM
    (bindM (stepI S1 (law08_Small )) fun x19 =>
      (bothM
        (bindM (stepI S1 (scan_GetSummary (x19.1, x19.2.1, x19.2.2) (x20.1, x20.2.1, x20.2.2))) fun x21 =>
          bindM (stepI S1 (allocM [(.int .i64 0), (.int .i64 0), (.int .i64 0), (.int .i64 0)])) fun x4 =>
          bindM (stA x4 [(.int .i64 x21.1.1), (.int .i64 x21.1.2.1), (.int .i64 x21.1.2.2.1), (.int .i64 x21.1.2.2.2)]) fun _ =>
          bindM (if (((x11.len : Nat) : Int) == 1) = true then
            bindM (idxM x11 0 3) fun x29 =>
              bindM (ld (Value.int .i64) x29) fun x31 =>
              pureM (x31 == 7)
          else
            pureM false) fun q2 =>
          bindM (if (q2) = true then
            bindM (idxM x11 0 3) fun x36 =>
              bindM (ld (Value.int .i64) (Addr.add x36 1)) fun x38 =>
              pureM (x38 == 3)
          else
            pureM false) fun q3 =>
          bindM (if (q3) = true then
            bindM (idxM x11 0 3) fun x43 =>
              bindM (ld vS (Addr.add x43 2)) fun x45 =>
              bindM (allocM [(.int .i64 2), (.int .i64 5)]) fun x46 =>
              bindM (ref00_SameInts x45 (⟨some x46, 2, 2⟩)) fun x47 =>
              pureM x47
          else
            pureM false) fun q4 =>
          bindM (if (q4) = true then
            pureM x15.2
          else
            pureM false) fun q5 =>
          bindM (if (q5) = true then
            pureM x21.2
          else
            pureM false) fun q6 =>
          bindM (if (q6) = true then
            bindM (ldA (fun y : (Int × Int × Int × Int) => [(.int .i64 y.1), (.int .i64 y.2.1), (.int .i64 y.2.2.1), (.int .i64 y.2.2.2)]) x4) fun x56 =>
              pureM (eqL [x56.1, x56.2.1, x56.2.2.1, x56.2.2.2] [1, 0, 2, 9])
          else
            pureM false) fun q7 =>
          pureM q7)
        (bindM (stepI S1 (allocM [(.int .i64 0), (.int .i64 0), (.int .i64 0), (.int .i64 0)])) fun x4 =>
          bindM (stepI S1 (scan_GetSummary (x19.1, x19.2.1, x19.2.2) (x20.1, x20.2.1, x20.2.2))) fun x21 =>
          bindM (stA x4 [(.int .i64 x21.1.1), (.int .i64 x21.1.2.1), (.int .i64 x21.1.2.2.1), (.int .i64 x21.1.2.2.2)]) fun _ =>
          bindM (if (((x11.len : Nat) : Int) == 1) = true then
            bindM (idxM x11 0 3) fun x29 =>
              bindM (ld (Value.int .i64) x29) fun x31 =>
              pureM (x31 == 7)
          else
            pureM false) fun q8 =>
          bindM (if (q8) = true then
            bindM (idxM x11 0 3) fun x36 =>
              bindM (ld (Value.int .i64) (Addr.add x36 1)) fun x38 =>
              pureM (x38 == 3)
          else
            pureM false) fun q9 =>
          bindM (if (q9) = true then
            bindM (idxM x11 0 3) fun x43 =>
              bindM (ld vS (Addr.add x43 2)) fun x45 =>
              bindM (allocM [(.int .i64 2), (.int .i64 5)]) fun x46 =>
              bindM (ref00_SameInts x45 (⟨some x46, 2, 2⟩)) fun x47 =>
              pureM x47
          else
            pureM false) fun q10 =>
          bindM (if (q10) = true then
            pureM x15.2
          else
            pureM false) fun q11 =>
          bindM (if (q11) = true then
            pureM x21.2
          else
            pureM false) fun q12 =>
          bindM (if (q12) = true then
            bindM (ldA (fun y : (Int × Int × Int × Int) => [(.int .i64 y.1), (.int .i64 y.2.1), (.int .i64 y.2.2.1), (.int .i64 y.2.2.2)]) x4) fun x56 =>
              pureM (eqL [x56.1, x56.2.1, x56.2.2.1, x56.2.2.2] [1, 0, 2, 9])
          else
            pureM false) fun q13 =>
          pureM q13)))
    (bindM (stepI S1 (allocM [(.int .i64 0), (.int .i64 0), (.int .i64 0), (.int .i64 0)])) fun x4 =>
      bindM (stepI S1 (law08_Small )) fun x19 =>
      bindM (stepI S1 (scan_GetSummary (x19.1, x19.2.1, x19.2.2) (x20.1, x20.2.1, x20.2.2))) fun x21 =>
      bindM (stA x4 [(.int .i64 x21.1.1), (.int .i64 x21.1.2.1), (.int .i64 x21.1.2.2.1), (.int .i64 x21.1.2.2.2)]) fun _ =>
      bindM (if (((x11.len : Nat) : Int) == 1) = true then
        bindM (idxM x11 0 3) fun x29 =>
          bindM (ld (Value.int .i64) x29) fun x31 =>
          pureM (x31 == 7)
      else
        pureM false) fun q14 =>
      bindM (if (q14) = true then
        bindM (idxM x11 0 3) fun x36 =>
          bindM (ld (Value.int .i64) (Addr.add x36 1)) fun x38 =>
          pureM (x38 == 3)
      else
        pureM false) fun q15 =>
      bindM (if (q15) = true then
        bindM (idxM x11 0 3) fun x43 =>
          bindM (ld vS (Addr.add x43 2)) fun x45 =>
          bindM (allocM [(.int .i64 2), (.int .i64 5)]) fun x46 =>
          bindM (ref00_SameInts x45 (⟨some x46, 2, 2⟩)) fun x47 =>
          pureM x47
      else
        pureM false) fun q16 =>
      bindM (if (q16) = true then
        pureM x15.2
      else
        pureM false) fun q17 =>
      bindM (if (q17) = true then
        pureM x21.2
      else
        pureM false) fun q18 =>
      bindM (if (q18) = true then
        bindM (ldA (fun y : (Int × Int × Int × Int) => [(.int .i64 y.1), (.int .i64 y.2.1), (.int .i64 y.2.2.1), (.int .i64 y.2.2.2)]) x4) fun x56 =>
          pureM (eqL [x56.1, x56.2.1, x56.2.2.1, x56.2.2.2] [1, 0, 2, 9])
      else
        pureM false) fun q19 =>
      pureM q19))
def device_New (p0_disks : Int) (p1_sectors : Int) : M ((Option Addr) × Int) :=
  bindM (if (decide (p0_disks < 1)) = true then
    pureM true
  else
    pureM (decide (p0_disks > 17))) fun q1 =>
  bindM (if (q1) = true then
    pureM true
  else
    pureM (decide (p1_sectors < 1))) fun q2 =>
  bindM (if (q2) = true then
    pureM true
  else
    pureM (decide (p1_sectors > 4096))) fun q3 =>
  (if (q3) = true then
  pureM (none, 10)
  else
  bindM (allocM [(.slice none 0 0), (.int .i64 p1_sectors), (.int .i64 (-1)), (.bool false)]) fun x24 =>
    loopM (fun (s4 : (Int)) =>
    (if (decide (s4 < p0_disks)) = true then
      bindM (newO (.map #[] 0)) fun x28 =>
        bindM (allocM [(.slice none 0 0), (.map (some x28)), (.bool false), (.int .i64 (-1))]) fun x30 =>
        loopM (fun (s5 : (Int)) =>
        (if (decide (s5 < p1_sectors)) = true then
          regionM fun S6 =>
            bindM (ldI S6 vS x30) fun x38 =>
            bindM (stepI S6 (allocM (List.replicate 64 (.int .u8 0)))) fun x39 =>
            bindM (stepI S6 (allocM [(.slice (some x39) 64 64)])) fun x40 =>
            bindM (appendM [(.slice none 0 0)] 24 x38 ⟨some x40, 1, 1⟩) fun x41 =>
            bindM (st x30 (.slice x41.base x41.len x41.cap)) fun _ =>
            pureM (.inl (w64 (s5 + 1)))
          else
          mapR (bindM (ld vS x24) fun x49 =>
            bindM (allocM [(.pointer (some x30))]) fun x51 =>
            bindM (appendM [(.pointer none)] 8 x49 ⟨some x51, 1, 1⟩) fun x52 =>
            bindM (st x24 (.slice x52.base x52.len x52.cap)) fun _ =>
            pureM (.inl (w64 (s4 + 1)))))) 0
      else
      mapR (pureM (some x24, 0)))) 0)
def geo_Sectors (p0_g : (Int × Int × Int)) : M Int :=
  bindM (allocM [(.int .i64 p0_g.1), (.int .i64 p0_g.2.1), (.int .i64 p0_g.2.2)]) fun x1 =>
  bindM (ldA (fun y : (Int × Int × Int) => [(.int .i64 y.1), (.int .i64 y.2.1), (.int .i64 y.2.2)]) x1) fun x3 =>
  bindM (geo_Right (x3.1, x3.2.1, x3.2.2)) fun x4 =>
  (if (!x4) = true then
  pureM 0
  else
  bindM (ld (Value.int .i64) (Addr.add x1 2)) fun x7 =>
    bindM (ld (Value.int .i64) (Addr.add x1 1)) fun x9 =>
    pureM (w64 (5 + (w64 (x7 * x9)))))
def device_Rack_Doom (p0_r : (Option Addr)) (p1_disk : Int) (p2_calls : Int) : M Int :=
  bindM (if (decide (p1_disk < 0)) = true then
    pureM true
  else
    bindM (nilM p0_r) fun x12 =>
      bindM (ld vS x12) fun x14 =>
      pureM (decide (p1_disk ≥ ((x14.len : Nat) : Int)))) fun q1 =>
  (if (q1) = true then
  pureM 11
  else
  bindM (nilM p0_r) fun x19 =>
    bindM (ld vS x19) fun x21 =>
    bindM (idxM x21 p1_disk 1) fun x23 =>
    bindM (ld Value.pointer x23) fun x24 =>
    bindM (nilM x24) fun x27 =>
    bindM (st (Addr.add x27 3) (.int .i64 (maxI p2_calls (-1)))) fun _ =>
    pureM 0)
def device_Rack_Size (p0_r : (Option Addr)) : M (Int × Int) :=
  regionM fun S1 =>
  bindM (nilM p0_r) fun x5 =>
  bindM (ldI S1 vS x5) fun x7 =>
  bindM (nilM p0_r) fun x10 =>
  bindM (ldI S1 (Value.int .i64) (Addr.add x10 1)) fun x12 =>
  pureM (((x7.len : Nat) : Int), x12)
def bank_fits (p0_g : (Int × Int × Int)) (p1_m : (Int × Int × Int)) : M Bool :=
  bindM (allocM [(.int .i64 p0_g.1), (.int .i64 p0_g.2.1), (.int .i64 p0_g.2.2)]) fun x2 =>
  bindM (allocM [(.int .i64 p1_m.1), (.int .i64 p1_m.2.1), (.int .i64 p1_m.2.2)]) fun x3 =>
  bindM (ld (Value.int .i64) (Addr.add x3 2)) fun x6 =>
  (if (x6 == 0) = true then
  pureM true
  else
  bindS ((if (x6 == 1) = true then
      pureM (.inl (x6 == 1))
      else
      pureM (.inl (x6 == 2)))) fun (b1 : (Bool)) =>
    (if (b1) = true then
    bindM (ld (Value.int .i64) (Addr.add x3 1)) fun x13 =>
      bindM (if (decide (x13 ≥ 0)) = true then
        bindM (ld (Value.int .i64) (Addr.add x3 1)) fun x17 =>
          bindM (ld (Value.int .i64) x2) fun x19 =>
          pureM (decide (x17 < x19))
      else
        pureM false) fun q2 =>
      pureM q2
    else
    pureM false))
def bank_Open (p0_r : (Option Addr)) (p1_g : (Int × Int × Int)) (p2_m : (Int × Int × Int)) : M ((Option Addr) × Int) :=
  bindM (allocM [(.int .i64 p1_g.1), (.int .i64 p1_g.2.1), (.int .i64 p1_g.2.2)]) fun x4 =>
  bindM (allocM [(.int .i64 p2_m.1), (.int .i64 p2_m.2.1), (.int .i64 p2_m.2.2)]) fun x5 =>
  bindM (device_Rack_Size p0_r) fun x12 =>
  bindM (ldA (fun y : (Int × Int × Int) => [(.int .i64 y.1), (.int .i64 y.2.1), (.int .i64 y.2.2)]) x4) fun x15 =>
  bindM (geo_Right (x15.1, x15.2.1, x15.2.2)) fun x16 =>
  bindM (if (!x16) = true then
    pureM true
  else
    bindM (ld (Value.int .i64) x4) fun x21 =>
      pureM (x12.1 != (w64 (x21 + 1)))) fun q1 =>
  bindM (if (q1) = true then
    pureM true
  else
    bindM (ldA (fun y : (Int × Int × Int) => [(.int .i64 y.1), (.int .i64 y.2.1), (.int .i64 y.2.2)]) x4) fun x27 =>
      bindM (geo_Sectors (x27.1, x27.2.1, x27.2.2)) fun x28 =>
      pureM (x12.2 != x28)) fun q2 =>
  bindM (if (q2) = true then
    pureM true
  else
    bindM (ldA (fun y : (Int × Int × Int) => [(.int .i64 y.1), (.int .i64 y.2.1), (.int .i64 y.2.2)]) x4) fun x32 =>
      bindM (ldA (fun y : (Int × Int × Int) => [(.int .i64 y.1), (.int .i64 y.2.1), (.int .i64 y.2.2)]) x5) fun x33 =>
      bindM (bank_fits (x32.1, x32.2.1, x32.2.2) (x33.1, x33.2.1, x33.2.2)) fun x34 =>
      pureM (!x34)) fun q3 =>
  (if (q3) = true then
  pureM (none, 10)
  else
  bindM (ldA (fun y : (Int × Int × Int) => [(.int .i64 y.1), (.int .i64 y.2.1), (.int .i64 y.2.2)]) x4) fun x38 =>
    bindM (ldA (fun y : (Int × Int × Int) => [(.int .i64 y.1), (.int .i64 y.2.1), (.int .i64 y.2.2)]) x5) fun x39 =>
    bindM (allocM [(.pointer p0_r), (.int .i64 x38.1), (.int .i64 x38.2.1), (.int .i64 x38.2.2), (.int .i64 x39.1), (.int .i64 x39.2.1), (.int .i64 x39.2.2)]) fun x41 =>
    pureM (some x41, 0))
def bank_Bank_disk (p0_b : (Option Addr)) (p1_slot : Int) : M (Int × Bool) :=
  bindM (if (decide (p1_slot < 0)) = true then
    pureM true
  else
    bindM (nilM p0_b) fun x11 =>
      bindM (ld (Value.int .i64) (Addr.add x11 1)) fun x14 =>
      pureM (decide (p1_slot ≥ x14))) fun q1 =>
  (if (q1) = true then
  pureM (0, false)
  else
  bindM (nilM p0_b) fun x18 =>
    bindM (ld (Value.int .i64) (Addr.add (Addr.add x18 4) 2)) fun x21 =>
    bindM (if (x21 != 0) = true then
      bindM (nilM p0_b) fun x25 =>
        bindM (ld (Value.int .i64) (Addr.add (Addr.add x25 4) 1)) fun x28 =>
        pureM (x28 == p1_slot)
    else
      pureM false) fun q2 =>
    (if (q2) = true then
    bindM (nilM p0_b) fun x33 =>
      bindM (ld (Value.int .i64) (Addr.add x33 1)) fun x36 =>
      pureM (x36, true)
    else
    pureM (p1_slot, true)))
def bank_Bank_disks (cv : CV) (p0_b : (Option Addr)) (p1_yield : Value) : M Unit :=
  bindM (nilM p0_b) fun x8 =>
  bindM (ld (Value.int .i64) (Addr.add x8 1)) fun x11 =>
  loopM (fun (s1 : (Int)) =>
  (if (decide (s1 < x11)) = true then
    bindM (bank_Bank_disk p0_b s1) fun x18 =>
      bindM (cvT cv Value.bool p1_yield #[(.int .i64 x18.1)]) fun x23 =>
      (if (!x23) = true then
      mapR (pureM ())
      else
      pureM (.inl (w64 (s1 + 1))))
    else
    mapR (bindM (nilM p0_b) fun x27 =>
      bindM (ld (Value.int .i64) (Addr.add (Addr.add x27 4) 2)) fun x30 =>
      (if (x30 == 0) = true then
      bindM (nilM p0_b) fun x34 =>
        bindM (ld (Value.int .i64) (Addr.add x34 1)) fun x37 =>
        bindM (cvT cv Value.bool p1_yield #[(.int .i64 x37)]) fun x38 =>
        pureM ()
      else
      pureM ())))) 0
def device_Rack_disk (p0_r : (Option Addr)) (p1_k : Int) (p2_sector : Int) : M ((Option Addr) × Int) :=
  bindM (nilM p0_r) fun x9 =>
  bindM (ld Value.bool (Addr.add x9 3)) fun x11 =>
  (if (x11) = true then
  pureM (none, 12)
  else
  bindM (if (decide (p1_k < 0)) = true then
      pureM true
    else
      bindM (nilM p0_r) fun x17 =>
        bindM (ld vS x17) fun x19 =>
        pureM (decide (p1_k ≥ ((x19.len : Nat) : Int)))) fun q1 =>
    bindM (if (q1) = true then
      pureM true
    else
      pureM (decide (p2_sector < 0))) fun q2 =>
    bindM (if (q2) = true then
      pureM true
    else
      bindM (nilM p0_r) fun x30 =>
        bindM (ld (Value.int .i64) (Addr.add x30 1)) fun x32 =>
        pureM (decide (p2_sector ≥ x32))) fun q3 =>
    (if (q3) = true then
    pureM (none, 11)
    else
    bindM (nilM p0_r) fun x36 =>
      bindM (ld vS x36) fun x38 =>
      bindM (idxM x38 p1_k 1) fun x40 =>
      bindM (ld Value.pointer x40) fun x41 =>
      pureM (x41, 0)))
def device_Rack_call (p0_r : (Option Addr)) : M Bool :=
  bindM (nilM p0_r) fun x6 =>
  bindM (ld (Value.int .i64) (Addr.add x6 2)) fun x8 =>
  (if (x8 == 0) = true then
  bindM (nilM p0_r) fun x11 =>
    bindM (st (Addr.add x11 3) (.bool true)) fun _ =>
    pureM false
  else
  bindM (nilM p0_r) fun x15 =>
    bindM (ld (Value.int .i64) (Addr.add x15 2)) fun x17 =>
    bindM (nilM p0_r) fun x20 =>
    bindM (st (Addr.add x20 2) (.int .i64 (maxI (w64 (x17 - 1)) (-1)))) fun _ =>
    bindM (nilM p0_r) fun x23 =>
    bindM (ld vS x23) fun x25 =>
    loopM (fun (s1 : (Int)) =>
    (if (decide (s1 < ((x25.len : Nat) : Int))) = true then
      bindM (idxM x25 s1 1) fun x29 =>
        bindM (ld Value.pointer x29) fun x30 =>
        bindM (nilM x30) fun x33 =>
        bindM (ld Value.bool (Addr.add x33 2)) fun x35 =>
        bindM (if (x35) = true then
          pureM true
        else
          bindM (nilM x30) fun x38 =>
            bindM (ld (Value.int .i64) (Addr.add x38 3)) fun x40 =>
            pureM (x40 == 0)) fun q2 =>
        bindM (nilM x30) fun x43 =>
        bindM (st (Addr.add x43 2) (.bool q2)) fun _ =>
        bindM (nilM x30) fun x47 =>
        bindM (ld (Value.int .i64) (Addr.add x47 3)) fun x49 =>
        bindM (nilM x30) fun x52 =>
        bindM (st (Addr.add x52 3) (.int .i64 (maxI (w64 (x49 - 1)) (-1)))) fun _ =>
        pureM (.inl (w64 (s1 + 1)))
      else
      mapR (pureM true))) 0)
def device_Rack_counted (p0_r : (Option Addr)) (p1_k : Int) (p2_sector : Int) (p3_size : Int) : M ((Option Addr) × Int) :=
  bindM (device_Rack_disk p0_r p1_k p2_sector) fun x16 =>
  (if (x16.2 != 0) = true then
  pureM (none, x16.2)
  else
  (if (p3_size != 64) = true then
    pureM (none, 11)
    else
    bindM (device_Rack_call p0_r) fun x28 =>
      (if (!x28) = true then
      pureM (none, 12)
      else
      bindM (nilM x16.1) fun x32 =>
        bindM (ld Value.bool (Addr.add x32 2)) fun x34 =>
        (if (x34) = true then
        pureM (none, 13)
        else
        pureM (x16.1, 0)))))
def device_Rack_Flush (p0_r : (Option Addr)) (p1_disk : Int) : M Int :=
  bindM (device_Rack_counted p0_r p1_disk 0 64) fun x12 =>
  (if (x12.2 == 0) = true then
  bindM (nilM x12.1) fun x18 =>
    bindM (ld Value.map (Addr.add x18 1)) fun x20 =>
    bindM (rangeMapM x20) fun x21 =>
    loopM (fun (s1 : Unit) =>
    bindM (nextM x21) fun y22 =>
      (match y22 with
      | none =>
        mapR (bindM (nilM x12.1) fun x35 =>
          bindM (ld Value.map (Addr.add x35 1)) fun x37 =>
          bindM (clearM x37) fun _ =>
          pureM x12.2)
      | some e22 =>
        bindM (entryM (Value.int .i64) vS x21) fun x24 =>
          bindM (nilM x12.1) fun x28 =>
          bindM (ld vS x28) fun x30 =>
          bindM (idxM x30 x24.1 1) fun x33 =>
          bindM (st x33 (.slice x24.2.base x24.2.len x24.2.cap)) fun _ =>
          pureM (.inl ()))) ()
  else
  pureM x12.2)
def bank_Bank_Flush (cv : CV) (p0_b : (Option Addr)) : M Int :=
  bindM (allocM [(.pointer p0_b)]) fun x1 =>
  bindM (allocM [(.int .i64 0)]) fun x2 =>
  bindM (ld Value.pointer x1) fun x5 =>
  rangeFM cv (.func (.func fid_bank_Bank_disks) #[(.pointer x5)] #[]) (fun x_1 : (Int) => #[(.int .i64 x_1)])
    (fun x_1 => pureM x_1)
    (fun (t_1 : (Int)) => bindM (ld Value.pointer x1) fun x8 =>
      bindM (nilM x8) fun x9 =>
      bindM (ld Value.pointer x9) fun x11 =>
      bindM (device_Rack_Flush x11 t_1) fun x13 =>
      (if (x13 == 12) = true then
      bindM (st x2 (.int .i64 x13)) fun _ =>
        pureM (.inr .ret)
      else
      pureM (.inl ())))
    (fun D1 => bindM (st x2 (.int .i64 0)) fun _ =>
      takesM (D1 :: []) <|
      bindM (ld (Value.int .i64) x2) fun r2 =>
      pureM r2)
    (fun D1 => takesM (D1 :: []) <|
      bindM (ld (Value.int .i64) x2) fun r2 =>
      pureM r2) (fun D1 i1 => failM)
def device_Rack_Off (p0_r : (Option Addr)) : M Bool :=
  bindM (nilM p0_r) fun x4 =>
  bindM (ld Value.bool (Addr.add x4 3)) fun x6 =>
  pureM x6
def bank_Bank_Off (p0_b : (Option Addr)) : M Bool :=
  bindM (nilM p0_b) fun x4 =>
  bindM (ld Value.pointer x4) fun x6 =>
  bindM (device_Rack_Off x6) fun x7 =>
  pureM x7
def bank_Bank_Geo (p0_b : (Option Addr)) : M (Int × Int × Int) :=
  bindM (allocM [(.int .i64 0), (.int .i64 0), (.int .i64 0)]) fun x2 =>
  bindM (nilM p0_b) fun x4 =>
  bindM (ldA (fun y : (Int × Int × Int) => [(.int .i64 y.1), (.int .i64 y.2.1), (.int .i64 y.2.2)]) (Addr.add x4 1)) fun x6 =>
  bindM (stA x2 [(.int .i64 x6.1), (.int .i64 x6.2.1), (.int .i64 x6.2.2)]) fun _ =>
  bindM (ldA (fun y : (Int × Int × Int) => [(.int .i64 y.1), (.int .i64 y.2.1), (.int .i64 y.2.2)]) x2) fun r2 =>
  pureM (r2.1, r2.2.1, r2.2.2)
def slices_Clone_b (p0_s : Slc) : M Slc :=
  (if (p0_s.base.isNone) = true then
  pureM (⟨none, 0, 0⟩)
  else
  bindM (allocM []) fun x5 =>
    bindM (appendM [(.int .u8 0)] 1 ⟨some x5, 0, 0⟩ p0_s) fun x7 =>
    pureM x7)
def device_Rack_Read (p0_r : (Option Addr)) (p1_disk : Int) (p2_sector : Int) : M (Slc × Int) :=
  bindM (device_Rack_disk p0_r p1_disk p2_sector) fun x16 =>
  (if (x16.2 != 0) = true then
  pureM (⟨none, 0, 0⟩, x16.2)
  else
  bindM (nilM x16.1) fun x23 =>
    bindM (ld Value.bool (Addr.add x23 2)) fun x25 =>
    (if (x25) = true then
    pureM (⟨none, 0, 0⟩, 13)
    else
    bindM (nilM x16.1) fun x28 =>
      bindM (ld Value.map (Addr.add x28 1)) fun x30 =>
      bindM (lookM vS (⟨none, 0, 0⟩) x30 p2_sector) fun x32 =>
      (if (x32.2) = true then
      bindM (slices_Clone_b x32.1) fun x37 =>
        pureM (x37, 0)
      else
      bindM (nilM x16.1) fun x39 =>
        bindM (ld vS x39) fun x41 =>
        bindM (idxM x41 p2_sector 1) fun x43 =>
        bindM (ld vS x43) fun x44 =>
        bindM (slices_Clone_b x44) fun x45 =>
        pureM (x45, 0))))
def bank_Bank_All (cv : CV) (p0_b : (Option Addr)) (p1_sector : Int) : M Slc :=
  bindM (allocM [(.pointer p0_b)]) fun x2 =>
  bindM (allocM [(.int .i64 p1_sector)]) fun x3 =>
  bindM (allocM [(.slice none 0 0)]) fun x5 =>
  bindM (ld Value.pointer x2) fun x9 =>
  rangeFM cv (.func (.func fid_bank_Bank_disks) #[(.pointer x9)] #[]) (fun x_1 : (Int) => #[(.int .i64 x_1)])
    (fun x_1 => pureM x_1)
    (fun (t_1 : (Int)) => regionM fun S2 =>
      bindM (ldI S2 Value.pointer x2) fun x13 =>
      bindM (nilM x13) fun x14 =>
      bindM (ldI S2 Value.pointer x14) fun x16 =>
      bindM (ldI S2 (Value.int .i64) x3) fun x18 =>
      bindM (stepI S2 (device_Rack_Read x16 t_1 x18)) fun x19 =>
      (if (x19.2 == 0) = true then
      bindM (ld vS x5) fun x24 =>
        bindM (allocM [(.slice x19.1.base x19.1.len x19.1.cap)]) fun x26 =>
        bindM (appendM [(.slice none 0 0)] 24 x24 ⟨some x26, 1, 1⟩) fun x27 =>
        bindM (st x5 (.slice x27.base x27.len x27.cap)) fun _ =>
        pureM (.inl ())
      else
      pureM (.inl ())))
    (fun D1 => bindM (ld vS x5) fun x28 =>
      takesM (D1 :: []) <|
      pureM x28)
    (fun D1 => failM) (fun D1 i1 => failM)
def bytes_Clone (p0_b : Slc) : M Slc :=
  (if (p0_b.base.isNone) = true then
  pureM (⟨none, 0, 0⟩)
  else
  bindM (allocM []) fun x5 =>
    bindM (appendM [(.int .u8 0)] 1 ⟨some x5, 0, 0⟩ p0_b) fun x7 =>
    pureM x7)
def sector_Decode (p0_b : Slc) : M ((Int × Int × Int) × Slc × Bool) :=
  bindM (allocM [(.int .i64 0), (.int .i64 0), (.int .i64 0)]) fun x2 =>
  (if (((p0_b.len : Nat) : Int) != 64) = true then
  bindM (stA x2 [(.int .i64 0), (.int .i64 0), (.int .i64 0)]) fun _ =>
    bindM (ldA (fun y : (Int × Int × Int) => [(.int .i64 y.1), (.int .i64 y.2.1), (.int .i64 y.2.2)]) x2) fun r2 =>
    pureM ((r2.1, r2.2.1, r2.2.2), ⟨none, 0, 0⟩, false)
  else
  bindM (allocM [(.int .i64 0), (.int .i64 0), (.int .i64 0)]) fun x5 =>
    bindM (bits_Get p0_b 0 4) fun x12 =>
    bindM (st x5 (.int .i64 x12.1)) fun _ =>
    bindM (bits_Get p0_b 4 2) fun x18 =>
    bindM (st (Addr.add x5 1) (.int .i64 x18.1)) fun _ =>
    bindM (bits_Get p0_b 6 2) fun x24 =>
    bindM (st (Addr.add x5 2) (.int .i64 x24.1)) fun _ =>
    regionM fun S1 =>
    bindM (ldAI S1 (fun y : (Int × Int × Int) => [(.int .i64 y.1), (.int .i64 y.2.1), (.int .i64 y.2.2)]) x5) fun x28 =>
    bindM (sliceM p0_b (some 8) (none) 1) fun x30 =>
    bindM (stepI S1 (bytes_Clone x30)) fun x31 =>
    bindM (stA x2 [(.int .i64 x28.1), (.int .i64 x28.2.1), (.int .i64 x28.2.2)]) fun _ =>
    bindM (ldA (fun y : (Int × Int × Int) => [(.int .i64 y.1), (.int .i64 y.2.1), (.int .i64 y.2.2)]) x2) fun r2 =>
    pureM ((r2.1, r2.2.1, r2.2.2), x31, true))
def scan_greatest (cv : CV) (p0_b : (Option Addr)) (p1_seg : Int) : M Int :=
  bindM (bank_Bank_Geo p0_b) fun x13 =>
  loopM (fun (s1 : (Int × Int)) =>
  (if (decide (s1.2 < x13.2.1)) = true then
    bindM (bank_Bank_Geo p0_b) fun x21 =>
      bindM (bank_Bank_All cv p0_b (w64 ((w64 (5 + (w64 (p1_seg * x21.2.1)))) + s1.2))) fun x27 =>
      loopM (fun (s2 : (Int × Int)) =>
      (if (decide (s2.2 < ((x27.len : Nat) : Int))) = true then
        bindM (idxM x27 s2.2 1) fun x31 =>
          bindM (ld vS x31) fun x32 =>
          bindM (sector_Decode x32) fun x35 =>
          bindM (allocM [(.int .i64 0), (.int .i64 0), (.int .i64 0)]) fun x9 =>
          bindM (stA x9 [(.int .i64 x35.1.1), (.int .i64 x35.1.2.1), (.int .i64 x35.1.2.2)]) fun _ =>
          bindM (ld (Value.int .i64) x9) fun x41 =>
          pureM (.inl (maxI s2.1 x41, w64 (s2.2 + 1)))
        else
        mapR (pureM (.inl (s2.1, w64 (s1.2 + 1)))))) (s1.1, 0)
    else
    mapR (pureM s1.1))) (0, 0)
def device_Rack_Failed (p0_r : (Option Addr)) (p1_disk : Int) : M Bool :=
  bindM (if (decide (p1_disk ≥ 0)) = true then
    bindM (nilM p0_r) fun x10 =>
      bindM (ld vS x10) fun x12 =>
      pureM (decide (p1_disk < ((x12.len : Nat) : Int)))
  else
    pureM false) fun q1 =>
  bindM (if (q1) = true then
    bindM (nilM p0_r) fun x18 =>
      bindM (ld vS x18) fun x20 =>
      bindM (idxM x20 p1_disk 1) fun x22 =>
      bindM (ld Value.pointer x22) fun x23 =>
      bindM (nilM x23) fun x24 =>
      bindM (ld Value.bool (Addr.add x24 2)) fun x26 =>
      pureM x26
  else
    pureM false) fun q2 =>
  pureM q2
def bank_Bank_Bad (p0_b : (Option Addr)) : M Slc :=
  bindM (nilM p0_b) fun x8 =>
  bindM (ld (Value.int .i64) (Addr.add x8 1)) fun x11 =>
  loopM (fun (s1 : (Slc × Int)) =>
  (if (decide (s1.2 < x11)) = true then
    bindM (bank_Bank_disk p0_b s1.2) fun x18 =>
      bindM (nilM p0_b) fun x22 =>
      bindM (ld Value.pointer x22) fun x24 =>
      bindM (device_Rack_Failed x24 x18.1) fun x26 =>
      bindM (if (x26) = true then
        pureM true
      else
        bindM (nilM p0_b) fun x29 =>
          bindM (ld (Value.int .i64) (Addr.add (Addr.add x29 4) 2)) fun x32 =>
          bindM (if (x32 == 1) = true then
            bindM (nilM p0_b) fun x36 =>
              bindM (ld (Value.int .i64) (Addr.add (Addr.add x36 4) 1)) fun x39 =>
              pureM (x39 == s1.2)
          else
            pureM false) fun q3 =>
          pureM q3) fun q2 =>
      (if (q2) = true then
      bindM (allocM [(.int .i64 s1.2)]) fun x46 =>
        bindM (appendM [(.int .i64 0)] 8 s1.1 ⟨some x46, 1, 1⟩) fun x47 =>
        pureM (.inl (x47, w64 (s1.2 + 1)))
      else
      pureM (.inl (s1.1, w64 (s1.2 + 1))))
    else
    mapR (pureM s1.1))) (⟨none, 0, 0⟩, 0)
def geo_Parity (p0_g : (Int × Int × Int)) (p1_seg : Int) (p2_row : Int) : M ((Int × Int) × Bool) :=
  bindM (allocM [(.int .i64 p0_g.1), (.int .i64 p0_g.2.1), (.int .i64 p0_g.2.2)]) fun x3 =>
  bindM (allocM [(.int .i64 0), (.int .i64 0)]) fun x6 =>
  bindM (ldA (fun y : (Int × Int × Int) => [(.int .i64 y.1), (.int .i64 y.2.1), (.int .i64 y.2.2)]) x3) fun x9 =>
  bindM (geo_Right (x9.1, x9.2.1, x9.2.2)) fun x10 =>
  bindM (if (!x10) = true then
    pureM true
  else
    bindM (ld (Value.int .i64) (Addr.add x3 2)) fun x15 =>
      bindM (geo_within p1_seg 0 (w64 (x15 - 1))) fun x17 =>
      pureM (!x17)) fun q1 =>
  bindM (if (q1) = true then
    pureM true
  else
    bindM (ld (Value.int .i64) (Addr.add x3 1)) fun x23 =>
      bindM (geo_within p2_row 0 (w64 (x23 - 1))) fun x25 =>
      pureM (!x25)) fun q2 =>
  (if (q2) = true then
  bindM (stA x6 [(.int .i64 0), (.int .i64 0)]) fun _ =>
    bindM (ldA (fun y : (Int × Int) => [(.int .i64 y.1), (.int .i64 y.2)]) x6) fun r6 =>
    pureM ((r6.1, r6.2), false)
  else
  bindM (ld (Value.int .i64) (Addr.add x3 1)) fun x31 =>
    regionM fun S3 =>
    bindM (ldI S3 (Value.int .i64) x3) fun x36 =>
    bindM (ldI S3 (Value.int .i64) x3) fun x40 =>
    assertM (x40 ≠ 0) <|
    bindM (stA x6 [(.int .i64 (w64 ((w64 (x36 - 1)) - (Int.tmod (w64 ((w64 (p1_seg * x31)) + p2_row)) x40)))), (.int .i64 (w64 (5 + (w64 ((w64 (p1_seg * x31)) + p2_row)))))]) fun _ =>
    bindM (ldA (fun y : (Int × Int) => [(.int .i64 y.1), (.int .i64 y.2)]) x6) fun r6 =>
    pureM ((r6.1, r6.2), true))
def geo_Block (p0_g : (Int × Int × Int)) (p1_seg : Int) (p2_k : Int) : M ((Int × Int) × Bool) :=
  bindM (allocM [(.int .i64 p0_g.1), (.int .i64 p0_g.2.1), (.int .i64 p0_g.2.2)]) fun x3 =>
  bindM (allocM [(.int .i64 0), (.int .i64 0)]) fun x6 =>
  bindM (ldA (fun y : (Int × Int × Int) => [(.int .i64 y.1), (.int .i64 y.2.1), (.int .i64 y.2.2)]) x3) fun x10 =>
  bindM (geo_Right (x10.1, x10.2.1, x10.2.2)) fun x11 =>
  bindM (if (!x11) = true then
    pureM true
  else
    bindM (ldA (fun y : (Int × Int × Int) => [(.int .i64 y.1), (.int .i64 y.2.1), (.int .i64 y.2.2)]) x3) fun x15 =>
      bindM (geo_places (x15.1, x15.2.1, x15.2.2)) fun x16 =>
      bindM (geo_within p2_k 0 x16) fun x17 =>
      pureM (!x17)) fun q1 =>
  (if (q1) = true then
  bindM (stA x6 [(.int .i64 0), (.int .i64 0)]) fun _ =>
    bindM (ldA (fun y : (Int × Int) => [(.int .i64 y.1), (.int .i64 y.2)]) x6) fun r6 =>
    pureM ((r6.1, r6.2), false)
  else
  regionM fun S2 =>
    bindM (ldAI S2 (fun y : (Int × Int × Int) => [(.int .i64 y.1), (.int .i64 y.2.1), (.int .i64 y.2.2)]) x3) fun x22 =>
    bindM (ldI S2 (Value.int .i64) x3) fun x26 =>
    assertM ((w64 (x26 - 1)) ≠ 0) <|
    (bothM
      (bindM (stepI S2 (geo_Parity (x22.1, x22.2.1, x22.2.2) p1_seg (w64 (Int.tdiv p2_k (w64 (x26 - 1)))))) fun x29 =>
        bindM (stepI S2 (allocM [(.int .i64 0), (.int .i64 0)])) fun x8 =>
        bindM (stA x8 [(.int .i64 x29.1.1), (.int .i64 x29.1.2)]) fun _ =>
        (if (x29.2) = true then
        regionM fun S3 =>
          bindM (ldI S3 (Value.int .i64) x8) fun x34 =>
          bindM (ldI S3 (Value.int .i64) x3) fun x38 =>
          assertM ((w64 (x38 - 1)) ≠ 0) <|
          bindM (ldI S3 (Value.int .i64) x3) fun x43 =>
          assertM (x43 ≠ 0) <|
          bindM (st x8 (.int .i64 (Int.tmod (w64 ((w64 (x34 + 1)) + (Int.tmod p2_k (w64 (x38 - 1))))) x43))) fun _ =>
          bindM (ldA (fun y : (Int × Int) => [(.int .i64 y.1), (.int .i64 y.2)]) x8) fun x46 =>
          bindM (stA x6 [(.int .i64 x46.1), (.int .i64 x46.2)]) fun _ =>
          bindM (ldA (fun y : (Int × Int) => [(.int .i64 y.1), (.int .i64 y.2)]) x6) fun r6 =>
          pureM ((r6.1, r6.2), x29.2)
        else
        bindM (ldA (fun y : (Int × Int) => [(.int .i64 y.1), (.int .i64 y.2)]) x8) fun x46 =>
          bindM (stA x6 [(.int .i64 x46.1), (.int .i64 x46.2)]) fun _ =>
          bindM (ldA (fun y : (Int × Int) => [(.int .i64 y.1), (.int .i64 y.2)]) x6) fun r6 =>
          pureM ((r6.1, r6.2), x29.2)))
      (bindM (stepI S2 (allocM [(.int .i64 0), (.int .i64 0)])) fun x8 =>
        bindM (stepI S2 (geo_Parity (x22.1, x22.2.1, x22.2.2) p1_seg (w64 (Int.tdiv p2_k (w64 (x26 - 1)))))) fun x29 =>
        bindM (stA x8 [(.int .i64 x29.1.1), (.int .i64 x29.1.2)]) fun _ =>
        (if (x29.2) = true then
        regionM fun S4 =>
          bindM (ldI S4 (Value.int .i64) x8) fun x34 =>
          bindM (ldI S4 (Value.int .i64) x3) fun x38 =>
          assertM ((w64 (x38 - 1)) ≠ 0) <|
          bindM (ldI S4 (Value.int .i64) x3) fun x43 =>
          assertM (x43 ≠ 0) <|
          bindM (st x8 (.int .i64 (Int.tmod (w64 ((w64 (x34 + 1)) + (Int.tmod p2_k (w64 (x38 - 1))))) x43))) fun _ =>
          bindM (ldA (fun y : (Int × Int) => [(.int .i64 y.1), (.int .i64 y.2)]) x8) fun x46 =>
          bindM (stA x6 [(.int .i64 x46.1), (.int .i64 x46.2)]) fun _ =>
          bindM (ldA (fun y : (Int × Int) => [(.int .i64 y.1), (.int .i64 y.2)]) x6) fun r6 =>
          pureM ((r6.1, r6.2), x29.2)
        else
        bindM (ldA (fun y : (Int × Int) => [(.int .i64 y.1), (.int .i64 y.2)]) x8) fun x46 =>
          bindM (stA x6 [(.int .i64 x46.1), (.int .i64 x46.2)]) fun _ =>
          bindM (ldA (fun y : (Int × Int) => [(.int .i64 y.1), (.int .i64 y.2)]) x6) fun r6 =>
          pureM ((r6.1, r6.2), x29.2)))))
def stripe_rows_c1 (cv : CV) (p0_yield : Value) (p1_a : Addr) (p2_a : Addr) : M Unit :=
  bindM (ld (Value.int .i64) p1_a) fun x13 =>
  bindM (ld (Value.int .i64) (Addr.add p1_a 1)) fun x16 =>
  loopM (fun (s1 : (Int)) =>
  (if (decide (s1 < x16)) = true then
    loopM (fun (s2 : (Slc × Int)) =>
      (if (decide (s2.2 < (w64 (x13 - 1)))) = true then
        bindM (ldA (fun y : (Int × Int × Int) => [(.int .i64 y.1), (.int .i64 y.2.1), (.int .i64 y.2.2)]) p1_a) fun x25 =>
          bindM (ld (Value.int .i64) p2_a) fun x26 =>
          bindM (geo_Block (x25.1, x25.2.1, x25.2.2) x26 (w64 ((w64 (s1 * (w64 (x13 - 1)))) + s2.2))) fun x32 =>
          bindM (allocM [(.int .i64 0), (.int .i64 0)]) fun x8 =>
          bindM (stA x8 [(.int .i64 x32.1.1), (.int .i64 x32.1.2)]) fun _ =>
          bindM (ldA (fun y : (Int × Int) => [(.int .i64 y.1), (.int .i64 y.2)]) x8) fun x36 =>
          bindM (allocM [(.int .i64 x36.1), (.int .i64 x36.2)]) fun x37 =>
          bindM (appendM [(.int .i64 0), (.int .i64 0)] 16 s2.1 ⟨some x37, 1, 1⟩) fun x38 =>
          pureM (.inl (x38, w64 (s2.2 + 1)))
        else
        mapR (bindM (ldA (fun y : (Int × Int × Int) => [(.int .i64 y.1), (.int .i64 y.2.1), (.int .i64 y.2.2)]) p1_a) fun x41 =>
          bindM (ld (Value.int .i64) p2_a) fun x42 =>
          bindM (geo_Parity (x41.1, x41.2.1, x41.2.2) x42 s1) fun x44 =>
          bindM (allocM [(.int .i64 0), (.int .i64 0)]) fun x10 =>
          bindM (stA x10 [(.int .i64 x44.1.1), (.int .i64 x44.1.2)]) fun _ =>
          bindM (ldA (fun y : (Int × Int) => [(.int .i64 y.1), (.int .i64 y.2)]) x10) fun x50 =>
          bindM (allocM [(.int .i64 x50.1), (.int .i64 x50.2)]) fun x51 =>
          bindM (appendM [(.int .i64 0), (.int .i64 0)] 16 s2.1 ⟨some x51, 1, 1⟩) fun x52 =>
          bindM (cvT cv Value.bool p0_yield #[(.int .i64 s1), (.slice x52.base x52.len x52.cap)]) fun x53 =>
          (if (!x53) = true then
          mapR (pureM ())
          else
          pureM (.inl (w64 (s1 + 1))))))) (⟨none, 0, 0⟩, 0)
    else
    mapR (pureM ()))) 0
def stripe_rows (p0_g : (Int × Int × Int)) (p1_seg : Int) : M Value :=
  bindM (allocM [(.int .i64 p0_g.1), (.int .i64 p0_g.2.1), (.int .i64 p0_g.2.2)]) fun x2 =>
  bindM (allocM [(.int .i64 p1_seg)]) fun x3 =>
  pureM (.func (.func fid_stripe_rows_c1) #[] #[(.pointer (some x2)), (.pointer (some x3))])
def stripe_there (p0_b : (Option Addr)) (p1_seg : Int) : M Int :=
  bindM (if (decide (p1_seg < 0)) = true then
    pureM true
  else
    bindM (bank_Bank_Geo p0_b) fun x11 =>
      pureM (decide (p1_seg ≥ x11.2.2))) fun q1 =>
  (if (q1) = true then
  pureM 28
  else
  bindM (bank_Bank_Off p0_b) fun x17 =>
    (if (x17) = true then
    pureM 12
    else
    pureM 0))
def slices_Index_i (p0_s : Slc) (p1_v : Int) : M Int :=
  loopM (fun (s1 : (Int)) =>
  (if (decide (s1 < ((p0_s.len : Nat) : Int))) = true then
    bindM (idxM p0_s s1 1) fun x14 =>
      bindM (ld (Value.int .i64) x14) fun x15 =>
      (if (p1_v == x15) = true then
      mapR (pureM s1)
      else
      pureM (.inl (w64 (s1 + 1))))
    else
    mapR (pureM (-1)))) 0
def slices_Contains_i (p0_s : Slc) (p1_v : Int) : M Bool :=
  bindM (slices_Index_i p0_s p1_v) fun x7 =>
  pureM (decide (x7 ≥ 0))
def bank_Bank_Read (p0_b : (Option Addr)) (p1_slot : Int) (p2_sector : Int) : M (Slc × Int) :=
  bindM (bank_Bank_disk p0_b p1_slot) fun x13 =>
  (if (!x13.2) = true then
  pureM (⟨none, 0, 0⟩, 11)
  else
  bindM (nilM p0_b) fun x19 =>
    bindM (ld Value.pointer x19) fun x21 =>
    bindM (device_Rack_Read x21 x13.1 p2_sector) fun x24 =>
    pureM (x24.1, x24.2))
def stripe_Whole (cv : CV) (p0_b : (Option Addr)) (p1_seg : Int) : M (Int × Bool × Int) :=
  bindM (allocM [(.pointer p0_b)]) fun x2 =>
  bindM (allocM [(.int .i64 0)]) fun x4 =>
  bindM (allocM [(.bool false)]) fun x5 =>
  bindM (allocM [(.int .i64 0)]) fun x6 =>
  bindM (ld Value.pointer x2) fun x19 =>
  bindM (stripe_there x19 p1_seg) fun x21 =>
  (if (x21 != 0) = true then
  bindM (st x4 (.int .i64 0)) fun _ =>
    bindM (st x5 (.bool false)) fun _ =>
    bindM (st x6 (.int .i64 x21)) fun _ =>
    bindM (ld (Value.int .i64) x4) fun r4 =>
    bindM (ld Value.bool x5) fun r5 =>
    bindM (ld (Value.int .i64) x6) fun r6 =>
    pureM (r4, r5, r6)
  else
  bindM (ld Value.pointer x2) fun x25 =>
    bindM (bank_Bank_Bad x25) fun x26 =>
    bindM (allocM [(.slice none 0 0)]) fun x8 =>
    bindM (st x8 (.slice x26.base x26.len x26.cap)) fun _ =>
    bindM (ld vS x8) fun x27 =>
    (if (decide (((x27.len : Nat) : Int) > 1)) = true then
    bindM (st x4 (.int .i64 0)) fun _ =>
      bindM (st x5 (.bool false)) fun _ =>
      bindM (st x6 (.int .i64 0)) fun _ =>
      bindM (ld (Value.int .i64) x4) fun r4 =>
      bindM (ld Value.bool x5) fun r5 =>
      bindM (ld (Value.int .i64) x6) fun r6 =>
      pureM (r4, r5, r6)
    else
    bindM (allocM [(.int .i64 0)]) fun x9 =>
      bindM (st x9 (.int .i64 0)) fun _ =>
      bindM (ld Value.pointer x2) fun x30 =>
      bindM (bank_Bank_Geo x30) fun x31 =>
      bindM (stripe_rows (x31.1, x31.2.1, x31.2.2) p1_seg) fun x33 =>
      rangeFM cv x33 (fun x_1 : (Int × Slc) => #[(.int .i64 x_1.1), (.slice x_1.2.base x_1.2.len x_1.2.cap)])
        (fun x_1 => pureM x_1.2)
        (fun (t_1 : (Slc)) => loopM (fun (s2 : (Int)) =>
          (if (decide (s2 < ((t_1.len : Nat) : Int))) = true then
            bindM (idxM t_1 s2 2) fun x40 =>
              bindM (ldA (fun y : (Int × Int) => [(.int .i64 y.1), (.int .i64 y.2)]) x40) fun x41 =>
              bindM (allocM [(.int .i64 0), (.int .i64 0)]) fun x13 =>
              bindM (stA x13 [(.int .i64 x41.1), (.int .i64 x41.2)]) fun _ =>
              bindM (ld vS x8) fun x42 =>
              bindM (ld (Value.int .i64) x13) fun x44 =>
              bindM (slices_Contains_i x42 x44) fun x45 =>
              (if (x45) = true then
              pureM (.inl (w64 (s2 + 1)))
              else
              bindM (ld Value.pointer x2) fun x47 =>
                bindM (ld (Value.int .i64) x13) fun x49 =>
                bindM (ld (Value.int .i64) (Addr.add x13 1)) fun x51 =>
                bindM (bank_Bank_Read x47 x49 x51) fun x52 =>
                bindM (sector_Decode x52.1) fun x57 =>
                bindM (allocM [(.int .i64 0), (.int .i64 0), (.int .i64 0)]) fun x16 =>
                bindM (stA x16 [(.int .i64 x57.1.1), (.int .i64 x57.1.2.1), (.int .i64 x57.1.2.2)]) fun _ =>
                bindM (if (x52.2 != 0) = true then
                  pureM true
                else
                  bindM (ld (Value.int .i64) x16) fun x65 =>
                    pureM (x65 == 0)) fun q3 =>
                bindM (if (q3) = true then
                  pureM true
                else
                  bindM (ld (Value.int .i64) x9) fun x69 =>
                    bindM (if (x69 != 0) = true then
                      bindM (ld (Value.int .i64) x16) fun x73 =>
                        bindM (ld (Value.int .i64) x9) fun x74 =>
                        pureM (x73 != x74)
                    else
                      pureM false) fun q5 =>
                    pureM q5) fun q4 =>
                (if (q4) = true then
                bindM (st x4 (.int .i64 0)) fun _ =>
                  bindM (st x5 (.bool false)) fun _ =>
                  bindM (st x6 (.int .i64 0)) fun _ =>
                  mapR (pureM (.inr .ret))
                else
                bindM (ld (Value.int .i64) x16) fun x79 =>
                  bindM (st x9 (.int .i64 x79)) fun _ =>
                  pureM (.inl (w64 (s2 + 1)))))
            else
            mapR (pureM (.inl ())))) 0)
        (fun D1 => bindM (ld (Value.int .i64) x9) fun x81 =>
          bindM (st x4 (.int .i64 x81)) fun _ =>
          bindM (st x5 (.bool true)) fun _ =>
          bindM (st x6 (.int .i64 0)) fun _ =>
          takesM (D1 :: []) <|
          bindM (ld (Value.int .i64) x4) fun r4 =>
          bindM (ld Value.bool x5) fun r5 =>
          bindM (ld (Value.int .i64) x6) fun r6 =>
          pureM (r4, r5, r6))
        (fun D1 => takesM (D1 :: []) <|
          bindM (ld (Value.int .i64) x4) fun r4 =>
          bindM (ld Value.bool x5) fun r5 =>
          bindM (ld (Value.int .i64) x6) fun r6 =>
          pureM (r4, r5, r6)) (fun D1 i1 => failM)))
def stripe_good (p0_b : (Option Addr)) (p1_s : (Int × Int)) (p2_seq : Int) : M (Slc × Bool) :=
  bindM (allocM [(.int .i64 p1_s.1), (.int .i64 p1_s.2)]) fun x4 =>
  bindM (ld (Value.int .i64) x4) fun x16 =>
  bindM (ld (Value.int .i64) (Addr.add x4 1)) fun x18 =>
  bindM (bank_Bank_Read p0_b x16 x18) fun x19 =>
  (if (x19.2 != 0) = true then
  pureM (⟨none, 0, 0⟩, false)
  else
  bindM (sector_Decode x19.1) fun x26 =>
    bindM (allocM [(.int .i64 0), (.int .i64 0), (.int .i64 0)]) fun x10 =>
    bindM (stA x10 [(.int .i64 x26.1.1), (.int .i64 x26.1.2.1), (.int .i64 x26.1.2.2)]) fun _ =>
    regionM fun S1 =>
    bindM (ldI S1 (Value.int .i64) x10) fun x32 =>
    pureM (x19.1, x32 == p2_seq))
def bytes_Equal (p0_a : Slc) (p1_b : Slc) : M Bool :=
  bindM (bstrM p0_a) fun x6 =>
  bindM (bstrM p1_b) fun x8 =>
  pureM (strEq x6 x8)
def bytes_HasPrefix (p0_s : Slc) (p1_prefix : Slc) : M Bool :=
  bindM (if (decide (((p0_s.len : Nat) : Int) ≥ ((p1_prefix.len : Nat) : Int))) = true then
    bindM (sliceM p0_s (none) (some ((p1_prefix.len : Nat) : Int)) 1) fun x14 =>
      bindM (bytes_Equal x14 p1_prefix) fun x16 =>
      pureM x16
  else
    pureM false) fun q1 =>
  pureM q1
def bits_Xor (p0_a : Slc) (p1_b : Slc) : M Slc :=
  bindS ((if (decide (((p0_a.len : Nat) : Int) < ((p1_b.len : Nat) : Int))) = true then
    pureM (.inl (p1_b, p0_a))
    else
    pureM (.inl (p0_a, p1_b)))) fun (b1 : (Slc × Slc)) =>
  bindM (bytes_Clone b1.1) fun x16 =>
  loopM (fun (s2 : (Int)) =>
  (if (decide (s2 < ((b1.2.len : Nat) : Int))) = true then
    bindM (idxM b1.2 s2 1) fun x22 =>
      bindM (ld (Value.int .u8) x22) fun x23 =>
      bindM (idxM x16 s2 1) fun x26 =>
      bindM (ld (Value.int .u8) x26) fun x27 =>
      bindM (idxM x16 s2 1) fun x30 =>
      bindM (st x30 (.int .u8 (bXor .u8 x27 x23))) fun _ =>
      pureM (.inl (w64 (s2 + 1)))
    else
    mapR (pureM x16))) 0
def sector_Parity (p0_list : Slc) : M (Slc × Bool) :=
  bindM (if (((p0_list.len : Nat) : Int) == 0) = true then
    pureM true
  else
    bindM (idxM p0_list 0 1) fun x13 =>
      bindM (ld vS x13) fun x14 =>
      pureM (((x14.len : Nat) : Int) != 64)) fun q1 =>
  (if (q1) = true then
  pureM (⟨none, 0, 0⟩, false)
  else
  bindM (idxM p0_list 0 1) fun x19 =>
    bindM (ld vS x19) fun x20 =>
    bindM (sliceM x20 (none) (some 4) 1) fun x21 =>
    loopM (fun (s2 : (Slc × Int)) =>
    (if (decide (s2.2 < ((p0_list.len : Nat) : Int))) = true then
      bindM (idxM p0_list s2.2 1) fun x26 =>
        bindM (ld vS x26) fun x27 =>
        bindM (if (((x27.len : Nat) : Int) != 64) = true then
          pureM true
        else
          bindM (bytes_HasPrefix x27 x21) fun x34 =>
            pureM (!x34)) fun q3 =>
        (if (q3) = true then
        mapR (pureM (⟨none, 0, 0⟩, false))
        else
        bindM (sliceM x27 (some 4) (none) 1) fun x39 =>
          bindM (bits_Xor s2.1 x39) fun x40 =>
          pureM (.inl (x40, w64 (s2.2 + 1))))
      else
      mapR (bindM (bytes_Clone x21) fun x43 =>
        bindM (appendM [(.int .u8 0)] 1 x43 s2.1) fun x45 =>
        pureM (x45, true)))) (⟨none, 0, 0⟩, 0))
def sector_Restore (p0_list : Slc) : M (Slc × Bool) :=
  bindM (sector_Parity p0_list) fun x5 =>
  pureM (x5.1, x5.2)
def stripe_others (p0_b : (Option Addr)) (p1_r : Slc) (p2_lost : (Int × Int)) (p3_seq : Int) : M (Slc × Bool) :=
  bindM (allocM [(.int .i64 p2_lost.1), (.int .i64 p2_lost.2)]) fun x6 =>
  loopM (fun (s1 : (Slc × Int)) =>
  (if (decide (s1.2 < ((p1_r.len : Nat) : Int))) = true then
    bindM (idxM p1_r s1.2 2) fun x19 =>
      bindM (ldA (fun y : (Int × Int) => [(.int .i64 y.1), (.int .i64 y.2)]) x19) fun x20 =>
      bindM (allocM [(.int .i64 0), (.int .i64 0)]) fun x12 =>
      bindM (stA x12 [(.int .i64 x20.1), (.int .i64 x20.2)]) fun _ =>
      bindM (ldA (fun y : (Int × Int) => [(.int .i64 y.1), (.int .i64 y.2)]) x12) fun x21 =>
      bindM (ldA (fun y : (Int × Int) => [(.int .i64 y.1), (.int .i64 y.2)]) x6) fun x22 =>
      (if (eq2 (x21.1, x21.2) (x22.1, x22.2)) = true then
      pureM (.inl (s1.1, w64 (s1.2 + 1)))
      else
      bindM (ldA (fun y : (Int × Int) => [(.int .i64 y.1), (.int .i64 y.2)]) x12) fun x26 =>
        bindM (stripe_good p0_b (x26.1, x26.2) p3_seq) fun x28 =>
        (if (!x28.2) = true then
        mapR (pureM (⟨none, 0, 0⟩, false))
        else
        bindM (allocM [(.slice x28.1.base x28.1.len x28.1.cap)]) fun x35 =>
          bindM (appendM [(.slice none 0 0)] 24 s1.1 ⟨some x35, 1, 1⟩) fun x36 =>
          pureM (.inl (x36, w64 (s1.2 + 1)))))
    else
    mapR (bindM (sector_Restore s1.1) fun x39 =>
      pureM (x39.1, x39.2)))) (⟨none, 0, 0⟩, 0)
def stripe_Read (cv : CV) (p0_b : (Option Addr)) (p1_seg : Int) (p2_k : Int) (p3_seq : Int) : M ((Int × Int × Slc) × Int) :=
  bindM (allocM [(.pointer p0_b)]) fun x4 =>
  bindM (allocM [(.int .i64 p2_k)]) fun x6 =>
  bindM (allocM [(.int .i64 p3_seq)]) fun x7 =>
  bindM (allocM [(.int .i64 0), (.int .i64 0), (.slice none 0 0)]) fun x8 =>
  bindM (ld Value.pointer x4) fun x19 =>
  bindM (bank_Bank_Geo x19) fun x20 =>
  bindM (allocM [(.int .i64 0), (.int .i64 0), (.int .i64 0)]) fun x10 =>
  bindM (stA x10 [(.int .i64 x20.1), (.int .i64 x20.2.1), (.int .i64 x20.2.2)]) fun _ =>
  bindM (ldA (fun y : (Int × Int × Int) => [(.int .i64 y.1), (.int .i64 y.2.1), (.int .i64 y.2.2)]) x10) fun x22 =>
  bindM (ld (Value.int .i64) x6) fun x24 =>
  bindM (geo_Block (x22.1, x22.2.1, x22.2.2) p1_seg x24) fun x25 =>
  bindM (allocM [(.int .i64 0), (.int .i64 0)]) fun x11 =>
  bindM (allocM [(.bool false)]) fun x12 =>
  bindM (stA x11 [(.int .i64 x25.1.1), (.int .i64 x25.1.2)]) fun _ =>
  bindM (st x12 (.bool x25.2)) fun _ =>
  bindM (ld Value.bool x12) fun x29 =>
  (if (!x29) = true then
  bindM (stA x8 [(.int .i64 0), (.int .i64 0), (.slice none 0 0)]) fun _ =>
    bindM (ldA (fun y : (Int × Int × Slc) => [(.int .i64 y.1), (.int .i64 y.2.1), (.slice y.2.2.base y.2.2.len y.2.2.cap)]) x8) fun r8 =>
    pureM ((r8.1, r8.2.1, r8.2.2), 28)
  else
  bindM (ld Value.pointer x4) fun x33 =>
    bindM (bank_Bank_Off x33) fun x34 =>
    (if (x34) = true then
    bindM (stA x8 [(.int .i64 0), (.int .i64 0), (.slice none 0 0)]) fun _ =>
      bindM (ldA (fun y : (Int × Int × Slc) => [(.int .i64 y.1), (.int .i64 y.2.1), (.slice y.2.2.base y.2.2.len y.2.2.cap)]) x8) fun r8 =>
      pureM ((r8.1, r8.2.1, r8.2.2), 12)
    else
    bindM (ld Value.pointer x4) fun x37 =>
      bindM (ldA (fun y : (Int × Int) => [(.int .i64 y.1), (.int .i64 y.2)]) x11) fun x38 =>
      bindM (ld (Value.int .i64) x7) fun x39 =>
      bindM (stripe_good x37 (x38.1, x38.2) x39) fun x40 =>
      bindM (allocM [(.slice none 0 0)]) fun x13 =>
      bindM (st x13 (.slice x40.1.base x40.1.len x40.1.cap)) fun _ =>
      bindM (st x12 (.bool x40.2)) fun _ =>
      bindM (ld Value.bool x12) fun x43 =>
      bindS ((if (!x43) = true then
        bindM (ldA (fun y : (Int × Int × Int) => [(.int .i64 y.1), (.int .i64 y.2.1), (.int .i64 y.2.2)]) x10) fun x45 =>
          bindM (stripe_rows (x45.1, x45.2.1, x45.2.2) p1_seg) fun x47 =>
          rangeFM cv x47 (fun x_2 : (Int × Slc) => #[(.int .i64 x_2.1), (.slice x_2.2.base x_2.2.len x_2.2.cap)])
            (fun x_2 => pureM (x_2.1, x_2.2))
            (fun (t_2 : (Int × Slc)) => bindM (ld (Value.int .i64) x6) fun x51 =>
              bindM (ld (Value.int .i64) x10) fun x53 =>
              assertM ((w64 (x53 - 1)) ≠ 0) <|
              (if (t_2.1 == (w64 (Int.tdiv x51 (w64 (x53 - 1))))) = true then
              bindM (ld Value.pointer x4) fun x58 =>
                bindM (ldA (fun y : (Int × Int) => [(.int .i64 y.1), (.int .i64 y.2)]) x11) fun x60 =>
                bindM (ld (Value.int .i64) x7) fun x61 =>
                bindM (stripe_others x58 t_2.2 (x60.1, x60.2) x61) fun x62 =>
                bindM (st x13 (.slice x62.1.base x62.1.len x62.1.cap)) fun _ =>
                bindM (st x12 (.bool x62.2)) fun _ =>
                pureM (.inl ())
              else
              pureM (.inl ())))
            (fun D2 => pureM (.inl ((D2 :: []))))
            (fun D2 => failM) (fun D2 i2 => failM)
        else
        pureM (.inl ([])))) fun (b1 : List Nat) =>
      bindM (ld Value.bool x12) fun x65 =>
      (if (!x65) = true then
      bindM (stA x8 [(.int .i64 0), (.int .i64 0), (.slice none 0 0)]) fun _ =>
        takesM b1 <|
        bindM (ldA (fun y : (Int × Int × Slc) => [(.int .i64 y.1), (.int .i64 y.2.1), (.slice y.2.2.base y.2.2.len y.2.2.cap)]) x8) fun r8 =>
        pureM ((r8.1, r8.2.1, r8.2.2), 14)
      else
      bindM (ld vS x13) fun x69 =>
        bindM (sector_Decode x69) fun x70 =>
        bindM (allocM [(.int .i64 0), (.int .i64 0), (.int .i64 0)]) fun x16 =>
        bindM (stA x16 [(.int .i64 x70.1.1), (.int .i64 x70.1.2.1), (.int .i64 x70.1.2.2)]) fun _ =>
        bindM (ld (Value.int .i64) (Addr.add x16 1)) fun x75 =>
        bindM (ld (Value.int .i64) (Addr.add x16 2)) fun x77 =>
        bindM (stA x8 [(.int .i64 x75), (.int .i64 x77), (.slice x70.2.1.base x70.2.1.len x70.2.1.cap)]) fun _ =>
        takesM b1 <|
        bindM (ldA (fun y : (Int × Int × Slc) => [(.int .i64 y.1), (.int .i64 y.2.1), (.slice y.2.2.base y.2.2.len y.2.2.cap)]) x8) fun r8 =>
        pureM ((r8.1, r8.2.1, r8.2.2), 0))))
def scan_look (cv : CV) (p0_b : (Option Addr)) (p1_seg : Int) : M ((Int × Int × Int × Int × Int × Int) × Bool) :=
  bindM (allocM [(.int .i64 0), (.int .i64 0), (.int .i64 0), (.int .i64 0), (.int .i64 0), (.int .i64 0)]) fun x4 =>
  bindM (stripe_Whole cv p0_b p1_seg) fun x15 =>
  (if (!x15.2.1) = true then
  bindM (stA x4 [(.int .i64 0), (.int .i64 0), (.int .i64 0), (.int .i64 0), (.int .i64 0), (.int .i64 0)]) fun _ =>
    bindM (ldA (fun y : (Int × Int × Int × Int × Int × Int) => [(.int .i64 y.1), (.int .i64 y.2.1), (.int .i64 y.2.2.1), (.int .i64 y.2.2.2.1), (.int .i64 y.2.2.2.2.1), (.int .i64 y.2.2.2.2.2)]) x4) fun r4 =>
    pureM ((r4.1, r4.2.1, r4.2.2.1, r4.2.2.2.1, r4.2.2.2.2.1, r4.2.2.2.2.2), false)
  else
  bindM (stripe_Read cv p0_b p1_seg 0 x15.1) fun x26 =>
    bindM (allocM [(.int .i64 0), (.int .i64 0), (.slice none 0 0)]) fun x9 =>
    bindM (stA x9 [(.int .i64 x26.1.1), (.int .i64 x26.1.2.1), (.slice x26.1.2.2.base x26.1.2.2.len x26.1.2.2.cap)]) fun _ =>
    regionM fun S1 =>
    bindM (ldAI S1 (fun y : (Int × Int × Slc) => [(.int .i64 y.1), (.int .i64 y.2.1), (.slice y.2.2.base y.2.2.len y.2.2.cap)]) x9) fun x32 =>
    (bothM
      (bindM (stepI S1 (bank_Bank_Geo p0_b)) fun x31 =>
        (bothM
          (bindM (stepI S1 (scan_GetSummary (x31.1, x31.2.1, x31.2.2) (x32.1, x32.2.1, x32.2.2))) fun x33 =>
            bindM (stepI S1 (allocM [(.int .i64 0), (.int .i64 0), (.int .i64 0), (.int .i64 0)])) fun x11 =>
            bindM (stA x11 [(.int .i64 x33.1.1), (.int .i64 x33.1.2.1), (.int .i64 x33.1.2.2.1), (.int .i64 x33.1.2.2.2)]) fun _ =>
            bindM (ldA (fun y : (Int × Int × Int × Int) => [(.int .i64 y.1), (.int .i64 y.2.1), (.int .i64 y.2.2.1), (.int .i64 y.2.2.2)]) x11) fun x38 =>
            bindM (if (x33.2) = true then
              pureM (x26.2 == 0)
            else
              pureM false) fun q2 =>
            bindM (stA x4 [(.int .i64 p1_seg), (.int .i64 x15.1), (.int .i64 x38.1), (.int .i64 x38.2.1), (.int .i64 x38.2.2.1), (.int .i64 x38.2.2.2)]) fun _ =>
            bindM (ldA (fun y : (Int × Int × Int × Int × Int × Int) => [(.int .i64 y.1), (.int .i64 y.2.1), (.int .i64 y.2.2.1), (.int .i64 y.2.2.2.1), (.int .i64 y.2.2.2.2.1), (.int .i64 y.2.2.2.2.2)]) x4) fun r4 =>
            pureM ((r4.1, r4.2.1, r4.2.2.1, r4.2.2.2.1, r4.2.2.2.2.1, r4.2.2.2.2.2), q2))
          (bindM (stepI S1 (allocM [(.int .i64 0), (.int .i64 0), (.int .i64 0), (.int .i64 0)])) fun x11 =>
            bindM (stepI S1 (scan_GetSummary (x31.1, x31.2.1, x31.2.2) (x32.1, x32.2.1, x32.2.2))) fun x33 =>
            bindM (stA x11 [(.int .i64 x33.1.1), (.int .i64 x33.1.2.1), (.int .i64 x33.1.2.2.1), (.int .i64 x33.1.2.2.2)]) fun _ =>
            bindM (ldA (fun y : (Int × Int × Int × Int) => [(.int .i64 y.1), (.int .i64 y.2.1), (.int .i64 y.2.2.1), (.int .i64 y.2.2.2)]) x11) fun x38 =>
            bindM (if (x33.2) = true then
              pureM (x26.2 == 0)
            else
              pureM false) fun q3 =>
            bindM (stA x4 [(.int .i64 p1_seg), (.int .i64 x15.1), (.int .i64 x38.1), (.int .i64 x38.2.1), (.int .i64 x38.2.2.1), (.int .i64 x38.2.2.2)]) fun _ =>
            bindM (ldA (fun y : (Int × Int × Int × Int × Int × Int) => [(.int .i64 y.1), (.int .i64 y.2.1), (.int .i64 y.2.2.1), (.int .i64 y.2.2.2.1), (.int .i64 y.2.2.2.2.1), (.int .i64 y.2.2.2.2.2)]) x4) fun r4 =>
            pureM ((r4.1, r4.2.1, r4.2.2.1, r4.2.2.2.1, r4.2.2.2.2.1, r4.2.2.2.2.2), q3))))
      (bindM (stepI S1 (allocM [(.int .i64 0), (.int .i64 0), (.int .i64 0), (.int .i64 0)])) fun x11 =>
        bindM (stepI S1 (bank_Bank_Geo p0_b)) fun x31 =>
        bindM (stepI S1 (scan_GetSummary (x31.1, x31.2.1, x31.2.2) (x32.1, x32.2.1, x32.2.2))) fun x33 =>
        bindM (stA x11 [(.int .i64 x33.1.1), (.int .i64 x33.1.2.1), (.int .i64 x33.1.2.2.1), (.int .i64 x33.1.2.2.2)]) fun _ =>
        bindM (ldA (fun y : (Int × Int × Int × Int) => [(.int .i64 y.1), (.int .i64 y.2.1), (.int .i64 y.2.2.1), (.int .i64 y.2.2.2)]) x11) fun x38 =>
        bindM (if (x33.2) = true then
          pureM (x26.2 == 0)
        else
          pureM false) fun q4 =>
        bindM (stA x4 [(.int .i64 p1_seg), (.int .i64 x15.1), (.int .i64 x38.1), (.int .i64 x38.2.1), (.int .i64 x38.2.2.1), (.int .i64 x38.2.2.2)]) fun _ =>
        bindM (ldA (fun y : (Int × Int × Int × Int × Int × Int) => [(.int .i64 y.1), (.int .i64 y.2.1), (.int .i64 y.2.2.1), (.int .i64 y.2.2.2.1), (.int .i64 y.2.2.2.2.1), (.int .i64 y.2.2.2.2.2)]) x4) fun r4 =>
        pureM ((r4.1, r4.2.1, r4.2.2.1, r4.2.2.2.1, r4.2.2.2.2.1, r4.2.2.2.2.2), q4))))
def scan_Look (cv : CV) (p0_b : (Option Addr)) : M (Slc × Int × Int) :=
  bindM (bank_Bank_Off p0_b) fun x11 =>
  (if (x11) = true then
  pureM (⟨none, 0, 0⟩, 0, 12)
  else
  bindM (bank_Bank_Geo p0_b) fun x13 =>
    loopM (fun (s1 : (Slc × Int × Int)) =>
    (if (decide (s1.2.2 < x13.2.2)) = true then
      bindM (scan_greatest cv p0_b s1.2.2) fun x21 =>
        bindM (scan_look cv p0_b s1.2.2) fun x26 =>
        bindM (allocM [(.int .i64 0), (.int .i64 0), (.int .i64 0), (.int .i64 0), (.int .i64 0), (.int .i64 0)]) fun x8 =>
        bindM (stA x8 [(.int .i64 x26.1.1), (.int .i64 x26.1.2.1), (.int .i64 x26.1.2.2.1), (.int .i64 x26.1.2.2.2.1), (.int .i64 x26.1.2.2.2.2.1), (.int .i64 x26.1.2.2.2.2.2)]) fun _ =>
        (if (x26.2) = true then
        bindM (ldA (fun y : (Int × Int × Int × Int × Int × Int) => [(.int .i64 y.1), (.int .i64 y.2.1), (.int .i64 y.2.2.1), (.int .i64 y.2.2.2.1), (.int .i64 y.2.2.2.2.1), (.int .i64 y.2.2.2.2.2)]) x8) fun x31 =>
          bindM (allocM [(.int .i64 x31.1), (.int .i64 x31.2.1), (.int .i64 x31.2.2.1), (.int .i64 x31.2.2.2.1), (.int .i64 x31.2.2.2.2.1), (.int .i64 x31.2.2.2.2.2)]) fun x32 =>
          bindM (appendM [(.int .i64 0), (.int .i64 0), (.int .i64 0), (.int .i64 0), (.int .i64 0), (.int .i64 0)] 48 s1.1 ⟨some x32, 1, 1⟩) fun x33 =>
          pureM (.inl (x33, maxI s1.2.1 x21, w64 (s1.2.2 + 1)))
        else
        pureM (.inl (s1.1, maxI s1.2.1 x21, w64 (s1.2.2 + 1))))
      else
      mapR (pureM (s1.1, s1.2.1, 0)))) (⟨none, 0, 0⟩, 0, 0))
def bytes_Join (p0_s : Slc) (p1_sep : Slc) : M Slc :=
  (if (((p0_s.len : Nat) : Int) == 0) = true then
  bindM (allocM []) fun x15 =>
    pureM (⟨some x15, 0, 0⟩)
  else
  (if (((p0_s.len : Nat) : Int) == 1) = true then
    bindM (idxM p0_s 0 1) fun x20 =>
      bindM (ld vS x20) fun x21 =>
      bindM (appendM [(.int .u8 0)] 1 ⟨none, 0, 0⟩ x21) fun x22 =>
      pureM x22
    else
    bindS ((if (decide (((p1_sep.len : Nat) : Int) > 0)) = true then
        assertM ((w64 (((p0_s.len : Nat) : Int) - 1)) ≠ 0) <|
          bindS ((if (decide (((p1_sep.len : Nat) : Int) ≥ (w64 (Int.tdiv 9223372036854775807 (w64 (((p0_s.len : Nat) : Int) - 1)))))) = true then
            failM
            else
            pureM (.inl ()))) fun (b5 : Unit) =>
          pureM (.inl (w64 (0 + (w64 (((p1_sep.len : Nat) : Int) * (w64 (((p0_s.len : Nat) : Int) - 1)))))))
        else
        pureM (.inl 0))) fun (b1 : (Int)) =>
      loopM (fun (s2 : (Int × Int)) =>
      (if (decide (s2.2 < ((p0_s.len : Nat) : Int))) = true then
        bindM (idxM p0_s s2.2 1) fun x46 =>
          bindM (ld vS x46) fun x47 =>
          bindS ((if (decide (((x47.len : Nat) : Int) > (w64 (9223372036854775807 - s2.1)))) = true then
            failM
            else
            pureM (.inl ()))) fun (b3 : Unit) =>
          pureM (.inl (w64 (s2.1 + ((x47.len : Nat) : Int)), w64 (s2.2 + 1)))
        else
        mapR (bindM (noZeroM s2.1) fun x60 =>
          bindM (slice3M x60 s2.1 s2.1) fun x63 =>
          bindM (idxM p0_s 0 1) fun x66 =>
          bindM (ld vS x66) fun x67 =>
          bindM (copyM 1 x63 x67) fun x68 =>
          bindM (sliceM p0_s (some 1) (none) 1) fun x70 =>
          loopM (fun (s4 : (Int × Int)) =>
          (if (decide (s4.2 < ((x70.len : Nat) : Int))) = true then
            bindM (idxM x70 s4.2 1) fun x74 =>
              bindM (ld vS x74) fun x75 =>
              bindM (sliceM x63 (some s4.1) (none) 1) fun x79 =>
              bindM (copyM 1 x79 p1_sep) fun x81 =>
              bindM (sliceM x63 (some (w64 (s4.1 + x81))) (none) 1) fun x86 =>
              bindM (copyM 1 x86 x75) fun x88 =>
              pureM (.inl (w64 ((w64 (s4.1 + x81)) + x88), w64 (s4.2 + 1)))
            else
            mapR (pureM x63))) (x68, 0)))) (b1, 0)))
def sector_Encode (p0_h : (Int × Int × Int)) (p1_payload : Slc) : M (Slc × Bool) :=
  bindM (allocM [(.int .i64 p0_h.1), (.int .i64 p0_h.2.1), (.int .i64 p0_h.2.2)]) fun x2 =>
  regionM fun S1 =>
  bindM (ldI S1 (Value.int .i64) x2) fun x10 =>
  bindM (ldI S1 (Value.int .i64) (Addr.add x2 1)) fun x13 =>
  bindM (ldI S1 (Value.int .i64) (Addr.add x2 2)) fun x16 =>
  bindM (stepI S1 (bits_Put 4 x10)) fun x11 =>
  bindM (stepI S1 (bits_Put 2 x13)) fun x14 =>
  bindM (stepI S1 (bits_Put 2 x16)) fun x17 =>
  bindM (stepI S1 (allocM [(.slice x11.base x11.len x11.cap), (.slice x14.base x14.len x14.cap), (.slice x17.base x17.len x17.cap)])) fun x18 =>
  bindM (stepI S1 (bytes_Join (⟨some x18, 3, 3⟩) (⟨none, 0, 0⟩))) fun x19 =>
  bindM (bits_Pad p1_payload 56) fun x22 =>
  bindM (if (!x22.2) = true then
    pureM true
  else
    pureM (((x19.len : Nat) : Int) != 8)) fun q2 =>
  (if (q2) = true then
  pureM (⟨none, 0, 0⟩, false)
  else
  bindM (appendM [(.int .u8 0)] 1 x19 x22.1) fun x34 =>
    pureM (x34, true))
def stripe_encoded (p0_g : (Int × Int × Int)) (p1_seq : Int) (p2_blocks : Slc) : M Slc :=
  bindM (allocM [(.int .i64 p0_g.1), (.int .i64 p0_g.2.1), (.int .i64 p0_g.2.2)]) fun x3 =>
  bindM (ldA (fun y : (Int × Int × Int) => [(.int .i64 y.1), (.int .i64 y.2.1), (.int .i64 y.2.2)]) x3) fun x12 =>
  bindM (geo_Places (x12.1, x12.2.1, x12.2.2)) fun x13 =>
  loopM (fun (s1 : (Slc × Int)) =>
  (if (decide (s1.2 < (w64 (x13 + 1)))) = true then
    bindM (allocM [(.int .i64 0), (.int .i64 0), (.slice none 0 0)]) fun x9 =>
      bindS ((if (decide (s1.2 < ((p2_blocks.len : Nat) : Int))) = true then
        bindM (idxM p2_blocks s1.2 3) fun x24 =>
          bindM (ldA (fun y : (Int × Int × Slc) => [(.int .i64 y.1), (.int .i64 y.2.1), (.slice y.2.2.base y.2.2.len y.2.2.cap)]) x24) fun x25 =>
          bindM (stA x9 [(.int .i64 x25.1), (.int .i64 x25.2.1), (.slice x25.2.2.base x25.2.2.len x25.2.2.cap)]) fun _ =>
          pureM (.inl ())
        else
        pureM (.inl ()))) fun (b2 : Unit) =>
      bindM (ld (Value.int .i64) x9) fun x29 =>
      bindM (ld (Value.int .i64) (Addr.add x9 1)) fun x31 =>
      bindM (ld vS (Addr.add x9 2)) fun x34 =>
      bindM (sector_Encode (p1_seq, x29, x31) x34) fun x35 =>
      (if (!x35.2) = true then
      mapR (pureM (⟨none, 0, 0⟩))
      else
      bindM (allocM [(.slice x35.1.base x35.1.len x35.1.cap)]) fun x42 =>
        bindM (appendM [(.slice none 0 0)] 24 s1.1 ⟨some x42, 1, 1⟩) fun x43 =>
        pureM (.inl (x43, w64 (s1.2 + 1))))
    else
    mapR (pureM s1.1))) (⟨none, 0, 0⟩, 0)
def device_Rack_Write (p0_r : (Option Addr)) (p1_disk : Int) (p2_sector : Int) (p3_b : Slc) : M Int :=
  bindM (device_Rack_counted p0_r p1_disk p2_sector ((p3_b.len : Nat) : Int)) fun x17 =>
  (if (x17.2 == 0) = true then
  regionM fun S1 =>
    bindM (nilM x17.1) fun x23 =>
    bindM (ldI S1 Value.map (Addr.add x23 1)) fun x25 =>
    bindM (stepI S1 (slices_Clone_b p3_b)) fun x28 =>
    bindM (updM x25 p2_sector (.slice x28.base x28.len x28.cap)) fun _ =>
    pureM x17.2
  else
  pureM x17.2)
def bank_Bank_Write (p0_b : (Option Addr)) (p1_slot : Int) (p2_sector : Int) (p3_data : Slc) : M Int :=
  bindM (bank_Bank_disk p0_b p1_slot) fun x14 =>
  (if (!x14.2) = true then
  pureM 11
  else
  bindM (nilM p0_b) fun x20 =>
    bindM (ld Value.pointer x20) fun x22 =>
    bindM (device_Rack_Write x22 x14.1 p2_sector p3_data) fun x26 =>
    pureM x26)
def stripe_Write (cv : CV) (p0_b : (Option Addr)) (p1_seg : Int) (p2_seq : Int) (p3_blocks : Slc) : M Int :=
  bindM (allocM [(.pointer p0_b)]) fun x4 =>
  bindM (allocM [(.int .i64 0)]) fun x8 =>
  bindM (ld Value.pointer x4) fun x20 =>
  bindM (bank_Bank_Geo x20) fun x21 =>
  bindM (allocM [(.int .i64 0), (.int .i64 0), (.int .i64 0)]) fun x9 =>
  bindM (stA x9 [(.int .i64 x21.1), (.int .i64 x21.2.1), (.int .i64 x21.2.2)]) fun _ =>
  bindM (if (decide (p1_seg < 0)) = true then
    pureM true
  else
    bindM (ld (Value.int .i64) (Addr.add x9 2)) fun x27 =>
      pureM (decide (p1_seg ≥ x27))) fun q1 =>
  bindM (if (q1) = true then
    pureM true
  else
    pureM (decide (p2_seq < 1))) fun q2 =>
  bindM (if (q2) = true then
    pureM true
  else
    pureM (decide (p2_seq > 4294967295))) fun q3 =>
  (if (q3) = true then
  bindM (st x8 (.int .i64 28)) fun _ =>
    bindM (ld (Value.int .i64) x8) fun r8 =>
    pureM r8
  else
  bindM (ldA (fun y : (Int × Int × Int) => [(.int .i64 y.1), (.int .i64 y.2.1), (.int .i64 y.2.2)]) x9) fun x38 =>
    bindM (stripe_encoded (x38.1, x38.2.1, x38.2.2) p2_seq p3_blocks) fun x41 =>
    bindM (allocM [(.slice none 0 0)]) fun x10 =>
    bindM (st x10 (.slice x41.base x41.len x41.cap)) fun _ =>
    bindM (ld vS x10) fun x42 =>
    bindM (if (((x42.len : Nat) : Int) == 0) = true then
      pureM true
    else
      bindM (ld vS x10) fun x48 =>
        pureM (decide (((p3_blocks.len : Nat) : Int) > ((x48.len : Nat) : Int)))) fun q4 =>
    (if (q4) = true then
    bindM (st x8 (.int .i64 41)) fun _ =>
      bindM (ld (Value.int .i64) x8) fun r8 =>
      pureM r8
    else
    bindM (ld Value.pointer x4) fun x52 =>
      bindM (bank_Bank_Bad x52) fun x53 =>
      (if (decide (((x53.len : Nat) : Int) > 1)) = true then
      bindM (st x8 (.int .i64 14)) fun _ =>
        bindM (ld (Value.int .i64) x8) fun r8 =>
        pureM r8
      else
      bindM (ldA (fun y : (Int × Int × Int) => [(.int .i64 y.1), (.int .i64 y.2.1), (.int .i64 y.2.2)]) x9) fun x56 =>
        bindM (stripe_rows (x56.1, x56.2.1, x56.2.2) p1_seg) fun x58 =>
        rangeFM cv x58 (fun x_5 : (Int × Slc) => #[(.int .i64 x_5.1), (.slice x_5.2.base x_5.2.len x_5.2.cap)])
          (fun x_5 => pureM (x_5.1, x_5.2))
          (fun (t_5 : (Int × Slc)) => bindM (ld (Value.int .i64) x9) fun x62 =>
            bindM (ld vS x10) fun x64 =>
            bindM (sliceM x64 (some (w64 (t_5.1 * (w64 (x62 - 1))))) (some (w64 ((w64 (t_5.1 + 1)) * (w64 (x62 - 1))))) 1) fun x72 =>
            bindM (sector_Parity x72) fun x75 =>
            loopM (fun (s6 : (Int)) =>
            (if (decide (s6 < ((t_5.2.len : Nat) : Int))) = true then
              bindM (idxM t_5.2 s6 2) fun x83 =>
                bindM (ldA (fun y : (Int × Int) => [(.int .i64 y.1), (.int .i64 y.2)]) x83) fun x84 =>
                bindM (allocM [(.int .i64 0), (.int .i64 0)]) fun x18 =>
                bindM (stA x18 [(.int .i64 x84.1), (.int .i64 x84.2)]) fun _ =>
                bindS ((if (decide (s6 < (w64 (x62 - 1)))) = true then
                  bindM (idxM x72 s6 1) fun x91 =>
                    bindM (ld vS x91) fun x92 =>
                    pureM (.inl x92)
                  else
                  pureM (.inl x75.1))) fun (b7 : (Slc)) =>
                bindM (ld Value.pointer x4) fun x93 =>
                bindM (ld (Value.int .i64) x18) fun x95 =>
                bindM (ld (Value.int .i64) (Addr.add x18 1)) fun x97 =>
                bindM (bank_Bank_Write x93 x95 x97 b7) fun x99 =>
                (if (x99 == 12) = true then
                bindM (st x8 (.int .i64 12)) fun _ =>
                  mapR (pureM (.inr .ret))
                else
                pureM (.inl (w64 (s6 + 1))))
              else
              mapR (pureM (.inl ())))) 0)
          (fun D5 => bindM (ld Value.pointer x4) fun x102 =>
            bindM (bank_Bank_Bad x102) fun x103 =>
            (if (decide (((x103.len : Nat) : Int) > 1)) = true then
            bindM (st x8 (.int .i64 14)) fun _ =>
              takesM (D5 :: []) <|
              bindM (ld (Value.int .i64) x8) fun r8 =>
              pureM r8
            else
            bindM (st x8 (.int .i64 0)) fun _ =>
              takesM (D5 :: []) <|
              bindM (ld (Value.int .i64) x8) fun r8 =>
              pureM r8))
          (fun D5 => takesM (D5 :: []) <|
            bindM (ld (Value.int .i64) x8) fun r8 =>
            pureM r8) (fun D5 i5 => failM))))
def law08_same (p0_a : Slc) (p1_b : Slc) : M Bool :=
  (if (((p0_a.len : Nat) : Int) != ((p1_b.len : Nat) : Int)) = true then
  pureM false
  else
  loopM (fun (s1 : (Int)) =>
    (if (decide (s1 < ((p0_a.len : Nat) : Int))) = true then
      regionM fun S2 =>
        bindM (idxM p0_a s1 3) fun x19 =>
        bindM (ldI S2 (Value.int .i64) x19) fun x21 =>
        bindM (idxM p1_b s1 3) fun x24 =>
        bindM (ldI S2 (Value.int .i64) x24) fun x26 =>
        (if (x21 != x26) = true then
          mapR (pureM false)
        else
          bindM (idxM p0_a s1 3) fun x31 =>
            bindM (ldI S2 (Value.int .i64) (Addr.add x31 1)) fun x33 =>
            bindM (idxM p1_b s1 3) fun x36 =>
            bindM (ldI S2 (Value.int .i64) (Addr.add x36 1)) fun x38 =>
            (if (x33 != x38) = true then
              mapR (pureM false)
            else
              bindM (idxM p0_a s1 3) fun x44 =>
                bindM (ldI S2 vS (Addr.add x44 2)) fun x46 =>
                bindM (idxM p1_b s1 3) fun x49 =>
                bindM (ldI S2 vS (Addr.add x49 2)) fun x51 =>
                bindM (stepI S2 (ref00_SameInts x46 x51)) fun x52 =>
                (if (!x52) = true then
                mapR (pureM false)
                else
                pureM (.inl (w64 (s1 + 1))))))
      else
      mapR (pureM true))) 0)
def law08_ScanFinds (cv : CV) (p0_sizes : Slc) (p1_from : Int) (p2_fail : Int) : M Bool :=
  bindM (law08_alive ) fun x22 =>
  (if (!x22) = true then
  pureM false
  else
  bindM (if (decide (((p0_sizes.len : Nat) : Int) > 5)) = true then
      pureM true
    else
      pureM (decide (p1_from < 1))) fun q1 =>
    bindM (if (q1) = true then
      pureM true
    else
      pureM (decide (p1_from > 1048576))) fun q2 =>
    (if (q2) = true then
    pureM true
    else
    bindM (law08_Small ) fun x36 =>
      bindM (geo_Sectors (x36.1, x36.2.1, x36.2.2)) fun x37 =>
      bindM (device_New 4 x37) fun x38 =>
      bindM (if (x38.2 != 0) = true then
        pureM true
      else
        pureM ((x38.1).isNone)) fun q3 =>
      (if (q3) = true then
      pureM false
      else
      bindM (law08_Small ) fun x49 =>
        bindM (bank_Open x38.1 (x49.1, x49.2.1, x49.2.2) (0, 0, 0)) fun x51 =>
        bindM (if (x51.2 != 0) = true then
          pureM true
        else
          pureM ((x51.1).isNone)) fun q4 =>
        (if (q4) = true then
        pureM false
        else
        bindM (allocM []) fun x61 =>
          loopM (fun (s5 : (Int × Int × Slc × Int)) =>
          (if (decide (s5.2.2.2 < ((p0_sizes.len : Nat) : Int))) = true then
            bindM (idxM p0_sizes s5.2.2.2 1) fun x70 =>
              bindM (ld (Value.int .i64) x70) fun x71 =>
              bindM (allocM [(.int .i64 0), (.int .i64 0), (.slice none 0 0)]) fun x15 =>
              bindM (stA x15 [(.int .i64 s5.2.1), (.int .i64 (w64 (1 + s5.2.2.2))), (.slice none 0 0)]) fun _ =>
              loopM (fun (s6 : (Int × Int × Int)) =>
              (if (decide (s6.2.2 < (w64 (1 + (bAnd .i64 x71 1))))) = true then
                bindM (allocM [(.int .i64 0), (.int .i64 0), (.int .i64 0), (.int .i64 0)]) fun x17 =>
                  bindM (stA x17 [(.int .i64 (w64 (1 + (bAnd .i64 x71 1)))), (.int .i64 s6.2.2), (.int .i64 0), (.int .i64 0)]) fun _ =>
                  bindS ((if (s6.2.2 == (w64 ((w64 (1 + (bAnd .i64 x71 1))) - 1))) = true then
                    bindM (ld (Value.int .i64) (Addr.add x15 1)) fun x91 =>
                      bindM (st (Addr.add x17 3) (.int .i64 x91)) fun _ =>
                      pureM (.inl ())
                    else
                    pureM (.inl ()))) fun (b7 : Unit) =>
                  regionM fun S8 =>
                  bindM (ldAI S8 (fun y : (Int × Int × Int × Int) => [(.int .i64 y.1), (.int .i64 y.2.1), (.int .i64 y.2.2.1), (.int .i64 y.2.2.2)]) x17) fun x95 =>
                  (bothM
                    (bindM (stepI S8 (law08_Small )) fun x94 =>
                      (bothM
                        (bindM (stepI S8 (scan_PutSummary (x94.1, x94.2.1, x94.2.2) (x95.1, x95.2.1, x95.2.2.1, x95.2.2.2))) fun x96 =>
                          bindM (stepI S8 (allocM [(.int .i64 0), (.int .i64 0), (.slice none 0 0)])) fun x18 =>
                          bindM (stA x18 [(.int .i64 x96.1.1), (.int .i64 x96.1.2.1), (.slice x96.1.2.2.base x96.1.2.2.len x96.1.2.2.cap)]) fun _ =>
                          bindM (if (!x96.2) = true then
                            pureM true
                          else
                            bindM (ldA (fun y : (Int × Int × Slc) => [(.int .i64 y.1), (.int .i64 y.2.1), (.slice y.2.2.base y.2.2.len y.2.2.cap)]) x18) fun x105 =>
                              bindM (allocM [(.int .u8 (IntKind.wrap .u8 s5.2.2.2))]) fun x108 =>
                              bindM (allocM [(.int .i64 x105.1), (.int .i64 x105.2.1), (.slice x105.2.2.base x105.2.2.len x105.2.2.cap), (.int .i64 1), (.int .i64 0), (.slice (some x108) 1 1)]) fun x110 =>
                              bindM (stripe_Write cv x51.1 s6.1 s6.2.1 (⟨some x110, 2, 2⟩)) fun x111 =>
                              pureM (x111 != 0)) fun q9 =>
                          (if (q9) = true then
                          mapR (mapR (pureM false))
                          else
                          bindM (ld vS (Addr.add x15 2)) fun x115 =>
                            bindM (allocM [(.int .i64 s6.1)]) fun x117 =>
                            bindM (appendM [(.int .i64 0)] 8 x115 ⟨some x117, 1, 1⟩) fun x118 =>
                            bindM (st (Addr.add x15 2) (.slice x118.base x118.len x118.cap)) fun _ =>
                            pureM (.inl (w64 (s6.1 + 1), w64 (s6.2.1 + 1), w64 (s6.2.2 + 1)))))
                        (bindM (stepI S8 (allocM [(.int .i64 0), (.int .i64 0), (.slice none 0 0)])) fun x18 =>
                          bindM (stepI S8 (scan_PutSummary (x94.1, x94.2.1, x94.2.2) (x95.1, x95.2.1, x95.2.2.1, x95.2.2.2))) fun x96 =>
                          bindM (stA x18 [(.int .i64 x96.1.1), (.int .i64 x96.1.2.1), (.slice x96.1.2.2.base x96.1.2.2.len x96.1.2.2.cap)]) fun _ =>
                          bindM (if (!x96.2) = true then
                            pureM true
                          else
                            bindM (ldA (fun y : (Int × Int × Slc) => [(.int .i64 y.1), (.int .i64 y.2.1), (.slice y.2.2.base y.2.2.len y.2.2.cap)]) x18) fun x105 =>
                              bindM (allocM [(.int .u8 (IntKind.wrap .u8 s5.2.2.2))]) fun x108 =>
                              bindM (allocM [(.int .i64 x105.1), (.int .i64 x105.2.1), (.slice x105.2.2.base x105.2.2.len x105.2.2.cap), (.int .i64 1), (.int .i64 0), (.slice (some x108) 1 1)]) fun x110 =>
                              bindM (stripe_Write cv x51.1 s6.1 s6.2.1 (⟨some x110, 2, 2⟩)) fun x111 =>
                              pureM (x111 != 0)) fun q10 =>
                          (if (q10) = true then
                          mapR (mapR (pureM false))
                          else
                          bindM (ld vS (Addr.add x15 2)) fun x115 =>
                            bindM (allocM [(.int .i64 s6.1)]) fun x117 =>
                            bindM (appendM [(.int .i64 0)] 8 x115 ⟨some x117, 1, 1⟩) fun x118 =>
                            bindM (st (Addr.add x15 2) (.slice x118.base x118.len x118.cap)) fun _ =>
                            pureM (.inl (w64 (s6.1 + 1), w64 (s6.2.1 + 1), w64 (s6.2.2 + 1)))))))
                    (bindM (stepI S8 (allocM [(.int .i64 0), (.int .i64 0), (.slice none 0 0)])) fun x18 =>
                      bindM (stepI S8 (law08_Small )) fun x94 =>
                      bindM (stepI S8 (scan_PutSummary (x94.1, x94.2.1, x94.2.2) (x95.1, x95.2.1, x95.2.2.1, x95.2.2.2))) fun x96 =>
                      bindM (stA x18 [(.int .i64 x96.1.1), (.int .i64 x96.1.2.1), (.slice x96.1.2.2.base x96.1.2.2.len x96.1.2.2.cap)]) fun _ =>
                      bindM (if (!x96.2) = true then
                        pureM true
                      else
                        bindM (ldA (fun y : (Int × Int × Slc) => [(.int .i64 y.1), (.int .i64 y.2.1), (.slice y.2.2.base y.2.2.len y.2.2.cap)]) x18) fun x105 =>
                          bindM (allocM [(.int .u8 (IntKind.wrap .u8 s5.2.2.2))]) fun x108 =>
                          bindM (allocM [(.int .i64 x105.1), (.int .i64 x105.2.1), (.slice x105.2.2.base x105.2.2.len x105.2.2.cap), (.int .i64 1), (.int .i64 0), (.slice (some x108) 1 1)]) fun x110 =>
                          bindM (stripe_Write cv x51.1 s6.1 s6.2.1 (⟨some x110, 2, 2⟩)) fun x111 =>
                          pureM (x111 != 0)) fun q11 =>
                      (if (q11) = true then
                      mapR (mapR (pureM false))
                      else
                      bindM (ld vS (Addr.add x15 2)) fun x115 =>
                        bindM (allocM [(.int .i64 s6.1)]) fun x117 =>
                        bindM (appendM [(.int .i64 0)] 8 x115 ⟨some x117, 1, 1⟩) fun x118 =>
                        bindM (st (Addr.add x15 2) (.slice x118.base x118.len x118.cap)) fun _ =>
                        pureM (.inl (w64 (s6.1 + 1), w64 (s6.2.1 + 1), w64 (s6.2.2 + 1))))))
                else
                mapR (bindM (ldA (fun y : (Int × Int × Slc) => [(.int .i64 y.1), (.int .i64 y.2.1), (.slice y.2.2.base y.2.2.len y.2.2.cap)]) x15) fun x125 =>
                  bindM (allocM [(.int .i64 x125.1), (.int .i64 x125.2.1), (.slice x125.2.2.base x125.2.2.len x125.2.2.cap)]) fun x126 =>
                  bindM (appendM [(.int .i64 0), (.int .i64 0), (.slice none 0 0)] 40 s5.2.2.1 ⟨some x126, 1, 1⟩) fun x127 =>
                  pureM (.inl (s6.1, s6.2.1, x127, w64 (s5.2.2.2 + 1)))))) (s5.1, s5.2.1, 0)
            else
            mapR (bindM (device_Rack_Doom x38.1 (bAnd .i64 p2_fail 3) 0) fun x131 =>
              bindM (bank_Bank_Flush cv x51.1) fun x133 =>
              (if (x133 != 0) = true then
              pureM false
              else
              bindM (scan_Look cv x51.1) fun x137 =>
                bindM (if (x137.2.2 != 0) = true then
                  pureM true
                else
                  bindM (if (decide (((p0_sizes.len : Nat) : Int) > 0)) = true then
                      pureM (x137.2.1 != (w64 (s5.2.1 - 1)))
                    else
                      pureM false) fun q15 =>
                    pureM q15) fun q12 =>
                bindM (if (q12) = true then
                  pureM true
                else
                  bindM (if (((p0_sizes.len : Nat) : Int) == 0) = true then
                      pureM (x137.2.1 != 0)
                    else
                      pureM false) fun q14 =>
                    pureM q14) fun q13 =>
                (if (q13) = true then
                pureM false
                else
                bindM (scan_Groups x137.1) fun x164 =>
                  bindM (law08_same x164 s5.2.2.1) fun x166 =>
                  pureM x166))))) (0, p1_from, ⟨some x61, 0, 0⟩, 0)))))
end Go.Proofs.Ytldmeimebebllaa
namespace Go.Proofs.Ytldmeimebebllaa
open Go.Mo Go.Sort
set_option linter.unusedVariables false
theorem cmp_eq (a b : Int) : cmp_Compare_i a b = pureM (Go.Lib.compareInt a b) := by
  funext Q w
  unfold cmp_Compare_i cmp_isNaN_i Go.Lib.compareInt
  by_cases h1 : a < b
  · simp [bindM, pureM, h1]
  · by_cases h2 : b < a <;> simp [bindM, pureM, h1, h2]
def encI6 (y : Int × Int × Int × Int × Int × Int) : List Value := [.int .i64 y.1, .int .i64 y.2.1, .int .i64 y.2.2.1, .int .i64 y.2.2.2.1, .int .i64 y.2.2.2.2.1, .int .i64 y.2.2.2.2.2]
def encG3 (y : Int × Int × Slc) : List Value := [.int .i64 y.1, .int .i64 y.2.1, vS y.2.2]
theorem allocC_grow (w : World) (cs : Array Value) (e : TypeId) : World.allocC w cs e = grow w #[.cells cs e] := by
  unfold World.allocC grow
  rw [Array.append_singleton]
def Gw (W w : World) : Prop := ∃ q os', w = grow (W.drewN q) os'
theorem Gw.alloc {W w : World} (h : Gw W w) (cs : Array Value) (e : TypeId) : Gw W (World.allocC w cs e) := by
  obtain ⟨q, os, rfl⟩ := h
  exact ⟨q, _, by rw [allocC_grow, grow_grow]⟩
theorem Gw.refl (W : World) : Gw W W := ⟨0, #[], by simp [grow, World.drewN]⟩
theorem Gw.draw {W w : World} (h : Gw W w) : Gw W (drawW w) := by
  obtain ⟨q, os, rfl⟩ := h
  exact ⟨q + 1, os, by simp [grow, World.drewN, drawW]; try omega⟩
theorem Gw.get {W w : World} (h : Gw W w) {b : Nat} {ob : Obj} (hb : W.heap[b]? = some ob) : w.heap[b]? = some ob := by
  obtain ⟨q, os, rfl⟩ := h
  have hlt := (Array.getElem?_eq_some_iff.1 hb).1
  simp only [grow, World.drewN]
  rw [Array.getElem?_append_left (by simpa using hlt)]
  exact hb
theorem allocC_last (w : World) (cs : Array Value) (e : TypeId) : (World.allocC w cs e).heap[w.heap.size]? = some (.cells cs e) := Array.getElem?_push_size
theorem allocC_old {w : World} {b : Nat} {ob : Obj} (cs : Array Value) (e : TypeId) (h : w.heap[b]? = some ob) : (World.allocC w cs e).heap[b]? = some ob := by
  have hlt := (Array.getElem?_eq_some_iff.1 h).1
  show (w.heap.push _)[b]? = _
  rw [Array.getElem?_push, if_neg (by omega)]
  exact h
theorem lay_c1 (x y : Int × Int × Int × Int × Int × Int) (W : World) : scan_Groups_c1 x y (fun r w' => r = cf_scan_Groups_c1 x y ∧ ∃ q os', w' = grow (W.drewN q) os') W := by
  unfold scan_Groups_c1
  intro e1 e2
  have g1 := (Gw.refl W).alloc (encI6 x).toArray e1
  have g2 := g1.alloc (encI6 y).toArray e2
  have b2 : (World.allocC (World.allocC W (encI6 x).toArray e1) (encI6 y).toArray e2).heap[(World.allocC W (encI6 x).toArray e1).heap.size]? = some (.cells (encI6 y).toArray e2) := allocC_last _ _ _
  have b1 : (World.allocC (World.allocC W (encI6 x).toArray e1) (encI6 y).toArray e2).heap[W.heap.size]? = some (.cells (encI6 x).toArray e1) := allocC_old _ _ (allocC_last _ _ _)
  refine ⟨x.2.2.2.1, cell_of (off := 3) b1 rfl, y.2.2.2.1, cell_of (off := 3) b2 rfl, ?_⟩
  simp only [cmp_eq]
  exact ⟨rfl, g2⟩
theorem Gw.trans {W W2 w : World} (h : Gw W W2) (h2 : Gw W2 w) : Gw W w := by
  obtain ⟨q, os, rfl⟩ := h
  obtain ⟨q2, os2, rfl⟩ := h2
  exact ⟨q + q2, os ++ os2, by simp [grow, World.drewN, Array.append_assoc, Nat.add_assoc]⟩
theorem cmp_Or2 {w : World} {b : Nat} {p q : Int} {e : TypeId} {Q : Int → World → Prop} (hb : w.heap[b]? = some (.cells [Value.int .i64 p, Value.int .i64 q].toArray e)) (h : Q (if p ≠ 0 then p else q) w) : cmp_Or_i ⟨some ⟨b, 0, none⟩, 2, 2⟩ Q w := by
  unfold cmp_Or_i
  refine ⟨fun s w' => w' = w ∧ (s = 0 ∨ (s = 1 ∧ p = 0) ∨ (s = 2 ∧ p = 0 ∧ q = 0)), fun s _ => (2 - s).toNat, ⟨rfl, .inl rfl⟩, ?_⟩
  rintro s w' ⟨rfl, hs⟩
  rcases hs with rfl | ⟨rfl, hp⟩ | ⟨rfl, hp, hq⟩
  · rw [if_pos (by simp)]
    refine ⟨_, rfl, by omega, by simp, p, cell_of (off := 0) hb rfl, ?_⟩
    dsimp only
    by_cases hp : p = 0
    · subst hp
      exact ⟨⟨rfl, .inr (.inl ⟨rfl, rfl⟩)⟩, show (2 - w64 (0 + 1)).toNat < 2 by decide⟩
    · rw [if_pos (by simpa using hp)]
      rw [if_pos hp] at h
      exact h
  · rw [if_pos (by simp)]
    refine ⟨_, rfl, by omega, by simp, q, cell_of (off := 1) hb rfl, ?_⟩
    dsimp only
    by_cases hq : q = 0
    · subst hq
      exact ⟨⟨rfl, .inr (.inr ⟨rfl, hp, rfl⟩)⟩, show (2 - w64 (1 + 1)).toNat < 1 by decide⟩
    · rw [if_pos (by simpa using hq)]
      rw [if_neg (by simpa using hp)] at h
      exact h
  · rw [if_neg (by simp)]
    rw [if_neg (by simpa using hp), hq] at h
    exact h
theorem lay_c2' (x y : Int × Int × Slc) (W W2 : World) (n1 n2 : Nat) (e1 e2 : TypeId) (g2 : Gw W W2) (b1 : W2.heap[n1]? = some (.cells (encG3 x).toArray e1)) (b2 : W2.heap[n2]? = some (.cells (encG3 y).toArray e2)) :
    (regionM fun S1 =>
      bindM (ldI S1 (Value.int .i64) ⟨n1, 0, none⟩) fun x6 =>
      bindM (ldI S1 (Value.int .i64) ⟨n2, 0, none⟩) fun x8 =>
      bindM (ldI S1 vS (Addr.add ⟨n1, 0, none⟩ 2)) fun x11 =>
      bindM (ldI S1 vS (Addr.add ⟨n2, 0, none⟩ 2)) fun x14 =>
      bindM (stepI S1 (cmp_Compare_i x6 x8)) fun x9 =>
      bindM (stepI S1 (cmp_Compare_i ((x11.len : Nat) : Int) ((x14.len : Nat) : Int))) fun x16 =>
      bindM (stepI S1 (allocM [(.int .i64 x9), (.int .i64 x16)])) fun x17 =>
      bindM (stepI S1 (cmp_Or_i (⟨some x17, 2, 2⟩))) fun x18 =>
      pureM x18 : M Int) (fun r w' => r = cf_scan_Groups_c2 x y ∧ ∃ q os', w' = grow (W.drewN q) os') W2 := by
  refine ⟨Gw W2, (Gw.refl W2).draw, ?_⟩
  refine ⟨x.1, fun w' h => cell_of (off := 0) (h.get b1) rfl, y.1, fun w' h => cell_of (off := 0) (h.get b2) rfl, x.2.2, fun w' h => cell_of (off := 2) (h.get b1) rfl, y.2.2, fun w' h => cell_of (off := 2) (h.get b2) rfl, ?_⟩
  simp only [cmp_eq]
  refine ⟨(Gw.refl W2).draw, (Gw.refl W2).draw, fun e3 => ⟨(Gw.refl W2).draw.alloc _ e3, ?_⟩⟩
  have g4 := (Gw.refl W2).draw.alloc [Value.int .i64 (Go.Lib.compareInt x.1 y.1), Value.int .i64 (Go.Lib.compareInt x.2.2.len y.2.2.len)].toArray e3
  have b4 : (World.allocC (drawW W2) [Value.int .i64 (Go.Lib.compareInt x.1 y.1), Value.int .i64 (Go.Lib.compareInt x.2.2.len y.2.2.len)].toArray e3).heap[(drawW W2).heap.size]? = some (.cells [Value.int .i64 (Go.Lib.compareInt x.1 y.1), Value.int .i64 (Go.Lib.compareInt x.2.2.len y.2.2.len)].toArray e3) := allocC_last _ _ _
  exact cmp_Or2 b4 ⟨g4, rfl, g2.trans g4⟩
theorem lay_c2 (x y : Int × Int × Slc) (W : World) : scan_Groups_c2 x y (fun r w' => r = cf_scan_Groups_c2 x y ∧ ∃ q os', w' = grow (W.drewN q) os') W := by
  unfold scan_Groups_c2
  intro e1 e2
  have g1 := (Gw.refl W).alloc (encG3 x).toArray e1
  exact lay_c2' x y W _ _ _ e1 e2 (g1.alloc (encG3 y).toArray e2) (allocC_old _ _ (allocC_last _ _ _)) (allocC_last _ _ _)
end Go.Proofs.Ytldmeimebebllaa
namespace Go.Mo
set_option linter.unusedVariables false
section
variable {α β σ τ ξ : Type} {g : Fr} {H H' : HP} {Q : α → HP}
theorem wps_take {m : M α} {D : Nat} [hp : PickO D H (.deferred (some [])) H'] (h : wps g H' m Q) : wps g H (takesM [D] m) Q := fun w a Qf ho ha hq => by
  rw [hp.eq] at ha
  obtain ⟨a', ho', ha'⟩ := own_put (.deferred none) (fun _ _ _ h => by cases h) ho ha
  exact ⟨own_po ho ha, h _ a' Qf ho' (ent_left _ _ a' ha') hq⟩
theorem wps_cvT {cv : CV} {enc : β → Value} {fv : Value} {args : Array Value} {R : β → HP} (h : wps g H (cv.call fv args) (fun v => ex fun y => pr (v = enc y) * R y)) : wps g H (cvT cv enc fv args) R := fun w a Qf ho ha hq =>
  h w a _ ho ha fun v w' a' ho' hb => by
    obtain ⟨y, hb⟩ := hb
    exact ⟨y, ent_left _ _ a' hb, hq y w' a' ho' (ent_right _ _ a' hb)⟩
def Iter (cv : CV) (fv : Value) (encX : ξ → Array Value) (xs : List ξ) (A : HP) : Prop :=
  ∀ (yv : Value) (I : Nat → HP) (E : HP),
    (∀ (i : Nat) (x : ξ), xs[i]? = some x → ∀ g, wps g (A * I i) (cv.call yv (encX x)) fun v => orp (pr (v = .bool true) * (A * I (i + 1))) (pr (v = .bool false) * (A * E))) →
    ∀ g, wps g (A * I 0) (cv.enter fv #[yv]) fun _ => A * orp (I xs.length) E
theorem wps_yield {cv : CV} {yv : Value} {args : Array Value} {A B C : HP} (h : wps g A (cv.call yv args) fun v => orp (pr (v = .bool true) * B) (pr (v = .bool false) * C)) :
    wps g A (cvT cv Value.bool yv args) fun y => if y = true then B else C :=
  wps_cvT (wps_post h fun v => or_ent (ent_ex true (Ent.refl _)) (ent_ex false (Ent.refl _)))
theorem wps_round {mk : LoopState → Option Code → Obj} (hmk : ∀ st p, Obj.soft (mk st p)) {L : Nat} {asg : ξ → M τ} {body : τ → M (Unit ⊕ Jump)} {x : ξ} {B C : HP} {R : τ → HP} {E : Jump → HP}
    (hasg : ∀ g, wps g B (asg x) R) (hbody : ∀ t g, wps g (R t) (body t) fun r => match r with | .inl _ => C | .inr j => E j) :
    wps g (B * po L (mk .ready none)) (roundM mk L asg body x) fun v => orp (pr (v = .bool true) * (C * po L (mk .ready none))) (pr (v = .bool false) * ex fun j => E j * po L (mk .done (some j.code))) := fun w a Qf ho ha hq => by
  refine ⟨⟨none, own_po ho ha⟩, ?_⟩
  refine wps_frame (F := po L (mk .ready none)) (fun g' => hasg g') w a _ ho ha fun t w1 a1 ho1 ha1 => ?_
  refine ⟨none, own_po ho1 ha1, ?_⟩
  obtain ⟨a2, ho2, ha2⟩ := own_put (mk .busy none) (hmk _ _) ho1 ha1
  refine wps_frame (F := po L (mk .busy none)) (fun g' => hbody t g') _ a2 _ ho2 ha2 fun r w3 a3 ho3 ha3 => ?_
  cases r with
  | inl u =>
    refine ⟨none, own_po ho3 ha3, ?_⟩
    obtain ⟨a4, ho4, ha4⟩ := own_put (mk .ready none) (hmk _ _) ho3 ha3
    exact hq _ _ a4 ho4 (.inl (ent_pr rfl a4 ha4))
  | inr j =>
    refine ⟨none, own_po ho3 ha3, ?_⟩
    obtain ⟨a4, ho4, ha4⟩ := own_put (mk .done (some j.code)) (hmk _ _) ho3 ha3
    exact hq _ _ a4 ho4 (.inr (ent_pr rfl a4 ⟨j, ha4⟩))
theorem wps_rangeF {cv : CV} {fv : Value} {encX : ξ → Array Value} {asg : ξ → M τ} {body : τ → M (Unit ⊕ Jump)} {kn kr : Nat → M α} {ke : Nat → Nat → M α} {xs : List ξ} {A F : HP} (I : Nat → HP) (E : Jump → HP) (R : Nat → ξ → τ → HP)
    (hit : Iter cv fv encX xs A) (h0 : Ent H (F * (A * I 0)))
    (hasg : ∀ (i : Nat) (x : ξ), xs[i]? = some x → ∀ g, wps g (A * I i) (asg x) (R i x))
    (hbody : ∀ (i : Nat) (x : ξ), xs[i]? = some x → ∀ t g, wps g (R i x t) (body t) fun r => match r with | .inl _ => A * I (i + 1) | .inr j => A * E j)
    (hn : ∀ D, wps g (F * (A * I xs.length) * po D (.deferred (some []))) (kn D) Q)
    (hr : ∀ D, wps g (F * (A * E .ret) * po D (.deferred (some []))) (kr D) Q)
    (he : ∀ D id, wps g (F * (A * E (.exit id)) * po D (.deferred (some []))) (ke D id) Q) : wps g H (rangeFM cv fv encX asg body kn kr ke) Q := fun w a Qf ho ha hq => by
  intro mk hmk0 hyield
  have hmk : ∀ st p, Obj.soft (mk st p) := fun st p cs e f h => absurd h (hmk0 st p cs e f)
  have ha := h0 a ha
  have p1 := own_push ho (.deferred (some [])) (World.pushO w (.deferred (some []))) rfl ⟨rfl, rfl⟩ (fun _ _ _ h => by cases h)
  have q1 : (F * (A * I 0) * po w.heap.size (.deferred (some []))).p _ := ⟨a, _, p1.2, Hp.le_refl _, ha, by simp [po]⟩
  have p2 := own_push p1.1 (mk .ready none) (World.pushO (World.pushO w (.deferred (some []))) (mk .ready none)) rfl ⟨rfl, rfl⟩ (hmk _ _)
  have hsz : (World.pushO w (.deferred (some []))).heap.size = w.heap.size + 1 := by simp [World.pushO]
  have q2 : (F * (A * I 0) * po w.heap.size (.deferred (some [])) * po (w.heap.size + 1) (mk .ready none)).p _ := ⟨_, _, p2.2, Hp.le_refl _, q1, by rw [← hsz]; simp [po]⟩
  have hgo := hit (yieldV (w.heap.size + 1)) (fun i => I i * po (w.heap.size + 1) (mk .ready none)) (ex fun j => E j * po (w.heap.size + 1) (mk .done (some j.code))) (fun i x hx g' => by
    intro w1 a1 Qf1 ho1 ha1 hq1
    refine hyield x Qf1 w1 ?_
    refine wps_round hmk (hasg i x hx) (hbody i x hx) w1 a1 Qf1 ho1 (by rw [star_assoc]; exact ha1) fun v w2 a2 ho2 ha2 => hq1 v w2 a2 ho2 ?_
    rcases ha2 with ha2 | ha2
    · left; rw [star_assoc] at ha2; exact ha2
    · right
      refine Ent.starr ?_ a2 ha2
      refine ex_ent fun j => ?_
      rw [star_assoc]
      exact Ent.starr (ent_ex j (Ent.refl _)))
  have hfr := wps_frame (g := g) (F := F * po w.heap.size (.deferred (some []))) hgo
  refine hfr _ _ _ p2.1 ?_ fun v w3 a3 ho3 ha3 => ?_
  · refine Ent.of_eq ?_ _ q2
    simp only [star_assoc]
    ac_rfl
  · have hsplit : ∀ B : HP, ∀ ob, (A * (B * po (w.heap.size + 1) ob) * (F * po w.heap.size (.deferred (some [])))) = (F * (A * B) * po w.heap.size (.deferred (some [])) * po (w.heap.size + 1) ob) := by
      intro B ob; ac_rfl
    have ha3' : (orp (F * (A * I xs.length) * po w.heap.size (.deferred (some [])) * po (w.heap.size + 1) (mk .ready none))
        (ex fun j => F * (A * E j) * po w.heap.size (.deferred (some [])) * po (w.heap.size + 1) (mk .done (some j.code)))).p a3 := by
      obtain ⟨x1, x2, hd, hl, ⟨y1, y2, hd', hl', hA, hor⟩, hF⟩ := ha3
      rcases hor with hor | hor
      · left
        rw [← hsplit]
        exact ⟨x1, x2, hd, hl, ⟨y1, y2, hd', hl', hA, hor⟩, hF⟩
      · right
        obtain ⟨j, hor⟩ := hor
        refine ⟨j, ?_⟩
        show (F * (A * E j) * po w.heap.size (.deferred (some [])) * po (w.heap.size + 1) (mk .done (some j.code))).p a3
        rw [← hsplit]
        exact ⟨x1, x2, hd, hl, ⟨y1, y2, hd', hl', hA, hor⟩, hF⟩
    rcases ha3' with ha3 | ⟨j, ha3⟩
    · refine ⟨.ready, none, own_po ho3 ha3, by simp, ?_⟩
      obtain ⟨a4, ho4, ha4⟩ := own_put (mk .exhausted none) (hmk _ _) ho3 ha3
      exact hn _ _ a4 Qf ho4 (ent_left _ _ a4 ha4) hq
    · refine ⟨.done, some j.code, own_po ho3 ha3, by simp, j, rfl, ?_⟩
      obtain ⟨a4, ho4, ha4⟩ := own_put (mk .exhausted (some j.code)) (hmk _ _) ho3 ha3
      have ha5 := ent_left _ _ a4 ha4
      cases j with
      | ret => exact hr _ _ a4 Qf ho4 ha5 hq
      | exit id => exact he _ id _ a4 Qf ho4 ha5 hq
end
end Go.Mo
namespace Go.Mo
set_option linter.unusedVariables false
structure ItrOk (es : Array MapEntry) (clock : Nat) (seen : Array Nat) (f : Int → Option Value) (V : Int → Bool) : Prop where
  map : MapOk es.toList clock f
  seen : ∀ e ∈ es.toList, ∀ k, keyIs k e = true → seen.contains e.born = V k
def itrC (it m : Nat) (es : Array MapEntry) (clock : Nat) (seen : Array Nat) : HP := po it (.mapIter (some m) clock seen clock) * po m (.map es clock)
def itr (it m : Nat) (f : Int → Option Value) (V : Int → Bool) : HP := ex fun es : Array MapEntry => ex fun clock : Nat => ex fun seen : Array Nat => pr (ItrOk es clock seen f V) * itrC it m es clock seen
def itrAt (it m : Nat) (f : Int → Option Value) (V : Int → Bool) (j : Int) (v : Value) : HP := ex fun es : Array MapEntry => ex fun clock : Nat => ex fun seen : Array Nat =>
  pr (ItrOk es clock seen f (fun i => V i || i == j) ∧ ∃ e ∈ es.toList, e.key = .int .i64 j ∧ e.val = v ∧ seen.back? = some e.born) * itrC it m es clock seen
theorem itr_imap (it m : Nat) (f : Int → Option Value) (V : Int → Bool) : Ent (itr it m f V) (imap m f) :=
  ex_ent fun es => ex_ent fun clock => ex_ent fun seen => pr_ent fun h => ent_ex es (ent_ex clock (ent_prr h.map (ent_right _ _)))
theorem MapOk.one {es : List MapEntry} {clock : Nat} {f : Int → Option Value} (h : MapOk es clock f) {e e' : MapEntry} (he : e ∈ es) (he' : e' ∈ es) (hb : e.born = e'.born) : e = e' := by
  obtain ⟨i, hi, rfl⟩ := List.mem_iff_getElem.1 he
  obtain ⟨j, hj, rfl⟩ := List.mem_iff_getElem.1 he'
  have hp := List.pairwise_iff_getElem.1 h.born
  rcases Nat.lt_trichotomy i j with hlt | heq | hgt
  · have := hp i j (by simpa using hi) (by simpa using hj) hlt
    simp only [List.getElem_map] at this
    omega
  · subst heq; rfl
  · have := hp j i (by simpa using hj) (by simpa using hi) hgt
    simp only [List.getElem_map] at this
    omega
section
variable {α β σ γ κ : Type} {g : Fr} {H H' : HP} {Q : α → HP}
theorem wps_rangeMap {k : Addr → M α} {m : Nat} {f : Int → Option Value} [hp : PickM m H f H'] (h : ∀ it, wps g (H' * itr it m f (fun _ => false)) (k ⟨it, 0, none⟩) Q) : wps g H (bindM (rangeMapM (some m)) k) Q := fun w a Qf ho ha hq => by
  rw [hp.eq] at ha
  obtain ⟨es, clock, hm, ha⟩ := imap_open ha
  refine ⟨es, clock, own_po ho ha, ?_⟩
  have hpu := own_push ho (.mapIter (some m) clock #[] clock) (World.pushO w (.mapIter (some m) clock #[] clock)) rfl ⟨rfl, rfl⟩ (fun _ _ _ h => by cases h)
  have q1 : (H' * po m (.map es clock) * po w.heap.size (.mapIter (some m) clock #[] clock)).p _ := ⟨a, _, hpu.2, Hp.le_refl _, ha, by simp [po]⟩
  refine h w.heap.size _ _ Qf hpu.1 (?_ : HP.p _ _) hq
  refine Ent.trans (Ent.of_eq (star_assoc _ _ _)) (Ent.starr ?_) _ q1
  refine ent_ex es (ent_ex clock (ent_ex #[] (ent_prr ⟨hm, fun e he k hk => by simp⟩ ?_)))
  rw [star_comm]; exact Ent.refl _
theorem ex3_open {γ1 γ2 γ3 : Type} {A : HP} {B : γ1 → γ2 → γ3 → HP} {a : Hp} (h : (A * ex fun x => ex fun y => ex fun z => B x y z).p a) : ∃ x y z, (A * B x y z).p a := by
  obtain ⟨a1, a2, hd, hl, h1, x, y, z, h2⟩ := h
  exact ⟨x, y, z, a1, a2, hd, hl, h1, h2⟩
theorem wps_next {k : Option (Value × Value) → M α} {it m : Nat} {f : Int → Option Value} {V : Int → Bool} (hH : H = H' * itr it m f V)
    (h0 : (∀ j v, f j = some v → V j = true) → wps g (H' * itr it m f V) (k none) Q)
    (h1 : ∀ j v, f j = some v → V j = false → wps g (H' * itrAt it m f V j v) (k (some (.int .i64 j, v))) Q) : wps g H (bindM (nextM ⟨it, 0, none⟩) k) Q := fun w a Qf ho ha hq => by
  rw [hH] at ha
  obtain ⟨es, clock, seen, ha⟩ := ex3_open ha
  rw [star_left_comm] at ha
  have hok : ItrOk es clock seen f V := ent_left _ _ a ha
  have ha := ent_right _ _ a ha
  have ham : (H' * po it (.mapIter (some m) clock seen clock) * po m (.map es clock)).p a := by rw [star_assoc]; exact ha
  have hai : (H' * po m (.map es clock) * po it (.mapIter (some m) clock seen clock)).p a := by rw [star_right_comm]; exact ham
  have hmem := own_po ho ham
  have hit := own_po ho hai
  refine ⟨rfl, .inr ⟨m, clock, seen, clock, es, clock, hit, hmem, ?_, ?_, ?_⟩⟩
  · cases hes : es.isEmpty with
    | true => simp
    | false =>
      have : ¬ (es.all fun e => decide (e.born ≥ clock)) = true := by
        intro hall
        rw [Array.all_eq_true_iff_forall_mem] at hall
        have hne : es.size ≠ 0 := by
          intro h0; simp at h0; simp [h0] at hes
        have h1 := hall es[0] (Array.getElem_mem (by omega))
        have h2 := hok.map.below es[0] (by rw [Array.mem_toList_iff]; exact Array.getElem_mem (by omega))
        simp at h1; omega
      simp only [Bool.and_eq_false_iff]
      right
      simpa using this
  · unfold iterCands
    simp only
    split
    · simp
    · rename_i hne
      have h2 : 0 < ((iterLeft es seen).filter fun x => decide (x.born < clock)).size := by
        rw [Array.isEmpty_iff_size_eq_zero] at hne
        omega
      simp only [Array.size_append, Array.size_map]
      omega
  · intro c hc
    have hmemc : (c = none ∧ ∀ e ∈ es.toList, seen.contains e.born = true) ∨ ∃ e ∈ es.toList, seen.contains e.born = false ∧ c = some e := by
      unfold iterCands at hc
      simp only at hc
      rw [Array.mem_append] at hc
      rcases hc with hc | hc
      · split at hc
        · rename_i hem
          left
          refine ⟨by simpa using hc, fun e he => ?_⟩
          rw [Array.isEmpty_iff_size_eq_zero, Array.size_eq_zero_iff, Array.filter_eq_empty_iff] at hem
          cases hs : seen.contains e.born with
          | true => rfl
          | false =>
            have hl : e ∈ iterLeft es seen := by
              unfold iterLeft
              rw [Array.mem_filter]
              exact ⟨Array.mem_toList_iff.1 he, by simp only [hs]; rfl⟩
            exact absurd (decide_eq_true (hok.map.below e he)) (hem e hl)
        · simp at hc
      · right
        rw [Array.mem_map] at hc
        obtain ⟨e, he, rfl⟩ := hc
        have hl : e ∈ iterLeft es seen := by
          rw [Array.mem_append] at he
          rcases he with he | he
          · exact (Array.mem_filter.1 he).1
          · exact (Array.mem_filter.1 he).1
        unfold iterLeft at hl
        rw [Array.mem_filter] at hl
        exact ⟨e, Array.mem_toList_iff.2 hl.1, by simpa using hl.2, rfl⟩
    rcases hmemc with ⟨rfl, hall⟩ | ⟨e, he, hs, rfl⟩
    · have hall' : ∀ j v, f j = some v → V j = true := fun j v hj => by
        obtain ⟨e, he, hk, _⟩ := (hok.map.find j v).1 hj
        rw [← hok.seen e he j hk]
        exact hall e he
      have hpost : (H' * itr it m f V).p a := by
        refine Ent.starr ?_ a ha
        exact ent_ex es (ent_ex clock (ent_ex seen (ent_prr hok (Ent.refl _))))
      exact ⟨h0 hall' w a Qf ho hpost hq, h0 hall' (drawW w) a Qf (own_draw ho) hpost hq⟩
    · obtain ⟨j, hj⟩ := hok.map.keys e he
      have hkj : keyIs j e = true := by rw [keyIs_int hj]; simp
      have hfj : f j = some e.val := (hok.map.find j e.val).2 ⟨e, he, hkj, rfl⟩
      have hVj : V j = false := by rw [← hok.seen e he j hkj]; exact hs
      have hok' : ItrOk es clock (seen.push e.born) f (fun i => V i || i == j) := ⟨hok.map, fun e' he' i hi => by
        have h2 := hok.seen e' he' i hi
        obtain ⟨n', hn'⟩ := hok.map.keys e' he'
        have hni : i = n' := by rw [keyIs_int hn'] at hi; simpa using hi
        have hcp : (seen.push e.born).contains e'.born = (seen.contains e'.born || e'.born == e.born) := by
          rw [Bool.eq_iff_iff]; simp [Array.mem_push]
        rw [hcp, h2]
        congr 1
        by_cases hb : e'.born = e.born
        · have := hok.map.one he' he hb
          subst this
          rw [hj] at hn'; cases hn'
          simp [hni]
        · have : ¬ i = j := by
            intro hij
            subst hij
            obtain ⟨x, hx⟩ := List.mem_iff_getElem?.1 he'
            obtain ⟨y, hy⟩ := List.mem_iff_getElem?.1 he
            have hxy := hok.map.once x y e' e i hx hy hi hkj
            subst hxy
            rw [hx] at hy
            exact hb (by rw [Option.some.inj hy])
          rw [show (e'.born == e.born) = false from by simpa using hb, show (i == j) = false from by simpa using this]⟩
      have step : ∀ w1, Own w1 a g → nextPost (fun y w' => k y Qf w') it m clock seen clock w1 (some e) := by
        intro w1 ho1
        obtain ⟨a', ho', ha'⟩ := own_put (.mapIter (some m) clock (seen.push e.born) clock) (fun _ _ _ h => by cases h) ho1 hai
        show k (some (e.key, e.val)) Qf _
        rw [hj]
        refine h1 j e.val hfj hVj _ a' Qf ho' ?_ hq
        refine Ent.trans (Ent.of_eq (star_assoc _ _ _)) (Ent.starr ?_) a' ha'
        refine ent_ex es (ent_ex clock (ent_ex (seen.push e.born) (ent_prr ⟨hok', e, he, hj, rfl, by simp⟩ ?_)))
        unfold itrC
        rw [star_comm]; exact Ent.refl _
      exact ⟨step w ho, step (drawW w) (own_draw ho)⟩
theorem wps_entry {ev : β → Value} {k : Int × β → M α} {it m : Nat} {f : Int → Option Value} {V : Int → Bool} {j : Int} {v : Value} (y : β) (hH : H = H' * itrAt it m f V j v) (hy : v = ev y)
    (h : wps g (H' * itr it m f (fun i => V i || i == j)) (k (j, y)) Q) : wps g H (bindM (entryM (Value.int .i64) ev ⟨it, 0, none⟩) k) Q := fun w a Qf ho ha hq => by
  rw [hH] at ha
  obtain ⟨es, clock, seen, ha⟩ := ex3_open ha
  rw [star_left_comm] at ha
  obtain ⟨hok, e, he, hk, hv, hb⟩ := ent_left _ _ a ha
  have ha := ent_right _ _ a ha
  have ham : (H' * po it (.mapIter (some m) clock seen clock) * po m (.map es clock)).p a := by rw [star_assoc]; exact ha
  have hai : (H' * po m (.map es clock) * po it (.mapIter (some m) clock seen clock)).p a := by rw [star_right_comm]; exact ham
  refine ⟨rfl, m, clock, seen, clock, es, clock, e.born, e, j, y, own_po ho hai, hb, own_po ho ham, rfl, ?_, hk, by rw [hv, hy], h w a Qf ho ?_ hq⟩
  · have : es.find? (fun x => x.born == e.born) = some e := by
      rw [← Array.find?_toList]
      cases hf : es.toList.find? (fun x => x.born == e.born) with
      | none =>
        rw [List.find?_eq_none] at hf
        exact absurd (by simp) (hf e he)
      | some e' =>
        have h1 := List.find?_some hf
        have h2 := List.mem_of_find?_eq_some hf
        rw [hok.map.one h2 he (by simpa using h1)]
    exact this
  · refine Ent.starr ?_ a ha
    exact ent_ex es (ent_ex clock (ent_ex seen (ent_prr hok (Ent.refl _))))
end
def toCome (n : Nat) (V : Int → Bool) : Nat := ((List.range n).filter fun i : Nat => !V (i : Int)).length
theorem toCome_lt {n : Nat} {V : Int → Bool} {j : Int} (hj : 0 ≤ j ∧ j < n) (hV : V j = false) : toCome n (fun i => V i || i == j) < toCome n V := by
  unfold toCome
  have hsub : ∀ l : List Nat, (l.filter fun i : Nat => !(V (i : Int) || (i : Int) == j)).length ≤ (l.filter fun i : Nat => !V (i : Int)).length := by
    intro l
    rw [← List.countP_eq_length_filter, ← List.countP_eq_length_filter]
    exact List.countP_mono_left fun x _ h => by
      cases hx : V (x : Int) with
      | true => rw [hx] at h; cases h
      | false => rfl
  obtain ⟨k, rfl⟩ : ∃ k : Nat, j = (k : Int) := ⟨j.toNat, by omega⟩
  have hk : k < n := by omega
  have hsplit : List.range n = List.range k ++ (k :: (List.range n).drop (k + 1)) := by
    have h1 := List.take_append_drop k (List.range n)
    rw [List.take_range, Nat.min_eq_left (by omega), List.drop_eq_getElem_cons (by simpa using hk)] at h1
    simpa using h1.symm
  rw [hsplit]
  simp only [List.filter_append, List.length_append, List.filter_cons]
  have a1 := hsub (List.range k)
  have a2 := hsub ((List.range n).drop (k + 1))
  simp [hV]
  simp at a1 a2
  omega
end Go.Mo

namespace Go.Mo
set_option linter.unusedVariables false
def subS (z : Nat) (s : Slc) (l h : Nat) : Slc := ⟨if s.cap = l then s.base else s.base.map (·.add (l * z)), h - l, s.cap - l⟩
theorem rsl_sub {z : Nat} {s : Slc} {cs : List Value} {l h : Nat} (h1 : l ≤ h) (h2 : h ≤ s.len) : Ent (rsl z s cs) (rsl z (subS z s l h) ((cs.drop (l * z)).take ((h - l) * z))) := fun o ho => by
  rcases ho with ho | ho
  · left
    obtain ⟨h0, hc⟩ := ho
    exact ⟨by show h - l = 0; omega, by simp [hc]⟩
  · obtain ⟨ad, all, ho⟩ := ho
    obtain ⟨hb, hl, hle, hcs⟩ := ent_left _ _ o ho
    have ho := ent_right _ _ o ho
    by_cases hc : s.cap = l
    · left
      have : h - l = 0 := by omega
      exact ⟨this, by simp [this]⟩
    · right
      refine ⟨⟨ad.block, ad.off + l * z, none⟩, all, ?_⟩
      refine ent_pr ⟨?_, ?_, ?_, ?_⟩ o ho
      · simp [subS, hc, hb, Addr.add_mk]
      · show _ = (h - l) * z
        rw [List.length_take, List.length_drop, hl, ← Nat.sub_mul]
        exact Nat.min_eq_left (Nat.mul_le_mul_right _ (by omega))
      · show h - l ≤ s.cap - l
        omega
      · show (all.drop (ad.off + l * z)).take ((h - l) * z) = _
        rw [← hcs, List.drop_take, List.drop_drop, List.take_take, ← Nat.sub_mul]
        rw [Nat.min_eq_left (Nat.mul_le_mul_right _ (by omega))]
theorem sliceM_val {s : Slc} {lo hi : Option Int} {size l h : Nat} {g : Fr} {H : HP} (hl : lo.getD 0 = (l : Int)) (hh : hi.getD s.len = (h : Int)) (h1 : l ≤ h) (h2 : h ≤ s.cap) : Val g H (sliceM s lo hi size) (subS size s l h) := fun w a Qf ho ha hq =>
  ⟨l, h, hl, hh, h1, h2, hq _ w a ho (ent_pr rfl a ha)⟩
theorem wps_slice {α : Type} {s : Slc} {lo hi : Option Int} {size : Nat} {g : Fr} {H : HP} {k : Slc → M α} {Q : α → HP} (l h : Nat) (hl : lo.getD 0 = (l : Int)) (hh : hi.getD s.len = (h : Int)) (h1 : l ≤ h) (h2 : h ≤ s.cap) (hk : wps g H (k (subS size s l h)) Q) :
    wps g H (bindM (sliceM s lo hi size) k) Q := wps_val (sliceM_val hl hh h1 h2) hk
theorem ovw_len {a new : List Value} {off : Nat} (h : off + new.length ≤ a.length) : (ovw a off new).length = a.length := by
  simp only [ovw, List.length_append, List.length_take, List.length_drop]; omega
section
variable {α : Type} {g : Fr} {H H' : HP} {Q : α → HP}
theorem wps_call2 {β : Type} {m : M β} {k : β → M α} {A1 A2 H1 H2 : HP} {Q' : β → HP} [h1 : Has H A2 H1] [h2 : Has H1 A1 H2] (hs : ∀ g', wps g' (A1 * A2) m Q') (h' : ∀ x, wps g (H2 * Q' x) (k x) Q) : wps g H (bindM m k) Q :=
  wps_call hs (Ent.of_eq (by rw [h1.eq, h2.eq, star_assoc])) h'
theorem wps_call3 {β : Type} {m : M β} {k : β → M α} {A1 A2 A3 H1 H2 H3 : HP} {Q' : β → HP} [h1 : Has H A3 H1] [h2 : Has H1 A2 H2] [h3 : Has H2 A1 H3] (hs : ∀ g', wps g' (A1 * A2 * A3) m Q') (h' : ∀ x, wps g (H3 * Q' x) (k x) Q) : wps g H (bindM m k) Q :=
  wps_call hs (Ent.of_eq (by rw [h1.eq, h2.eq, h3.eq]; simp only [star_assoc])) h'
theorem wps_val2 {β : Type} {m : M β} {k : β → M α} {A1 A2 H1 H2 : HP} {v : β} [h1 : Has H A2 H1] [h2 : Has H1 A1 H2] (hs : ∀ g', Val g' (A1 * A2) m v) (h' : wps g H (k v) Q) : wps g H (bindM m k) Q :=
  wps_val (val_frame hs (by rw [h1.eq, h2.eq, star_assoc])) h'
theorem rd_rslZ {w : World} {a : Hp} {z : Nat} {s : Slc} {cs : List Value} {n j : Nat} {v : Value} (hp : Ent H (rsl z s cs)) (ho : Own w a g) (ha : H.p a) (hj : j < z) (hv : cs[n * z + j]? = some v) :
    n < s.len ∧ ∃ b off, s.base = some ⟨b, off, none⟩ ∧ w.cell? ⟨b, off + n * z + j, none⟩ = some v := by
  rcases hp a ha with hx | ⟨ad, all, hx⟩
  · rw [hx.2] at hv; simp at hv
  · have hpr := ent_left _ _ a hx
    have hro := ent_right _ _ a hx
    obtain ⟨h1, h2, h3, h4⟩ := hpr
    have hlt : n < s.len := by
      have h5 := (List.getElem?_eq_some_iff.1 hv).1
      refine Nat.lt_of_not_le fun h => ?_
      have := Nat.mul_le_mul_right z h
      omega
    refine ⟨hlt, ad.block, ad.off, h1, ?_⟩
    refine rd_cell (H := ro ad.block all) (Ent.refl _) ho hro ?_
    rw [← h4, List.getElem?_take] at hv
    split at hv
    · rw [List.getElem?_drop] at hv; rw [Nat.add_assoc]; exact hv
    · cases hv
theorem wps_rdA {β : Type} {enc : β → List Value} {k : β → M α} {z : Nat} {s : Slc} {i : Int} {cs : List Value} (n : Nat) (x : β) (hp : Ent H (rsl z s cs)) (hi : i = (n : Int)) (hz : 0 < (enc x).length ∧ (enc x).length ≤ z) (hv : ∀ j v, (enc x)[j]? = some v → cs[n * z + j]? = some v) (h : wps g H (k x) Q) :
    wps g H (bindM (idxM s i z) fun a => bindM (ldA enc a) k) Q := fun w a Qf ho ha hq => by
  subst hi
  obtain ⟨hlt, b, off, hb, _⟩ := rd_rslZ (n := n) (j := 0) hp ho ha (by omega) (hv 0 _ (List.getElem?_eq_getElem hz.1))
  refine ⟨⟨b, off, none⟩, hb, by omega, by omega, ?_⟩
  rw [Addr.add_mk]
  refine ⟨x, fun j v hj => ?_, h w a Qf ho ha hq⟩
  rw [Addr.add_mk, Int.toNat_natCast]
  obtain ⟨_, b', off', hb', hc⟩ := rd_rslZ (n := n) (j := j) hp ho ha (by have := (List.getElem?_eq_some_iff.1 hj).1; omega) (hv j v hj)
  rw [hb] at hb'; cases hb'
  exact hc
theorem wps_rdFI {β : Type} {R : HP} {enc : β → Value} {k : β → M α} {z f : Nat} {s : Slc} {i : Int} {cs : List Value} (n : Nat) (x : β) (hp : Ent R (rsl z s cs)) (hR : Ent H R) (hi : i = (n : Int)) (hz : f < z) (hv : cs[n * z + f]? = some (enc x)) (h : wps g H (k x) Q) :
    wps g H (bindM (idxM s i z) fun a => bindM (ldI (Iv g R) enc (Addr.add a f)) k) Q := fun w a Qf ho ha hq => by
  subst hi
  obtain ⟨hlt, b, off, hb, _⟩ := rd_rslZ (n := n) (j := f) hp ho (hR a ha) hz hv
  refine ⟨⟨b, off, none⟩, hb, by omega, by omega, ?_⟩
  rw [Addr.add_mk]
  show bindM (ldI (Iv g R) enc (Addr.add _ f)) k Qf w
  rw [Addr.add_mk, Int.toNat_natCast]
  refine ⟨x, fun w' ⟨a', ho', ha'⟩ => ?_, h w a Qf ho ha hq⟩
  obtain ⟨_, b', off', hb', hc⟩ := rd_rslZ (n := n) (j := f) hp ho' ha' hz hv
  rw [hb] at hb'; cases hb'
  exact hc
theorem wps_rdF {β : Type} {enc : β → Value} {k : β → M α} {z f : Nat} {s : Slc} {i : Int} {cs : List Value} (n : Nat) (x : β) (hp : Ent H (rsl z s cs)) (hi : i = (n : Int)) (hz : f < z) (hv : cs[n * z + f]? = some (enc x)) (h : wps g H (k x) Q) :
    wps g H (bindM (idxM s i z) fun a => bindM (ld enc (Addr.add a f)) k) Q := fun w a Qf ho ha hq => by
  subst hi
  obtain ⟨hlt, b, off, hb, hc⟩ := rd_rslZ (n := n) (j := f) hp ho ha hz hv
  refine ⟨⟨b, off, none⟩, hb, by omega, by omega, ?_⟩
  rw [Addr.add_mk]
  show bindM (ld enc (Addr.add _ f)) k Qf w
  rw [Addr.add_mk, Int.toNat_natCast]
  exact ⟨x, hc, h w a Qf ho ha hq⟩
theorem flat_get {γ : Type} {f : γ → List Value} {z : Nat} (hf : ∀ c, (f c).length = z) {l : List γ} {n j : Nat} {c : γ} (hc : l[n]? = some c) (hj : j < z) : (l.flatMap f)[n * z + j]? = (f c)[j]? := by
  induction l generalizing n with
  | nil => simp at hc
  | cons x l ih =>
    rw [List.flatMap_cons]
    cases n with
    | zero =>
      simp only [List.getElem?_cons_zero, Option.some.injEq] at hc
      subst hc
      rw [Nat.zero_mul, Nat.zero_add, List.getElem?_append_left (by rw [hf]; exact hj)]
    | succ n =>
      rw [List.getElem?_cons_succ] at hc
      rw [List.getElem?_append_right (by rw [hf, Nat.add_mul]; omega), hf, ← ih hc]
      congr 1
      rw [Nat.add_mul]; omega
theorem flat_len {γ : Type} {f : γ → List Value} {z : Nat} (hf : ∀ c, (f c).length = z) (l : List γ) : (l.flatMap f).length = l.length * z := by
  induction l with
  | nil => simp
  | cons x l ih => rw [List.flatMap_cons, List.length_append, ih, hf, List.length_cons, Nat.add_mul]; omega
end
end Go.Mo
namespace Go.Mo
set_option linter.unusedVariables false
section
variable {α β σ τ ξ : Type} {g : Fr} {H H' : HP} {Q : α → HP}
theorem wps_slice3 {k : Slc → M α} {s : Slc} {h m : Int} (h' m' : Nat) (hh : h = (h' : Int)) (hm : m = (m' : Int)) (h1 : h' ≤ m') (h2 : m' ≤ s.cap) (hk : wps g H (k ⟨s.base, h', m'⟩) Q) : wps g H (bindM (slice3M s h m) k) Q :=
  fun w a Qf ho ha hq => ⟨h', m', hh, hm, h1, h2, hk w a Qf ho ha hq⟩
theorem wps_noZero {k : Slc → M α} {n : Int} (m : Nat) (hn : n = (m : Int)) (hb : m ≤ 281474976710656) (h : ∀ b cs, m ≤ cs.length → wps g (H * pc b cs) (k ⟨some ⟨b, 0, none⟩, m, cs.length⟩) Q) : wps g H (bindM (noZeroM n) k) Q := fun w a Qf ho ha hq => by
  subst hn
  refine ⟨by omega, by omega, fun cs elem hl => ?_⟩
  have := own_push (own_draw (own_draw ho)) (.cells cs.toArray elem) (World.allocC (drawW (drawW w)) cs.toArray elem) rfl ⟨rfl, rfl⟩ (fun _ _ _ h => by cases h; rfl)
  exact h w.heap.size cs (by simpa using hl) _ _ Qf this.1 ⟨a, _, this.2, Hp.le_refl _, ha, ⟨elem, by simp [drawW]⟩⟩ hq
theorem wps_copyP {k : Int → M α} {z b off len cap : Nat} {x : Slc} {old new : List Value} [hp : PickC b H old H'] (hx : Ent H (rsl z x new)) (hv : ∀ v ∈ new, v.oneCell' = true) (hl : off + len * z ≤ old.length)
    (h : wps g (H' * pc b (ovw old off (new.take (min x.len len * z)))) (k ((min x.len len : Nat) : Int)) Q) : wps g H (bindM (copyM z ⟨some ⟨b, off, none⟩, len, cap⟩ x) k) Q := fun w a Qf ho ha hq => by
  obtain ⟨hc, hlx⟩ := cellsAt_rsl hx ho ha
  have hmin : min x.len len * z ≤ len * z := Nat.mul_le_mul_right _ (Nat.min_le_right _ _)
  have hmin' : min x.len len * z ≤ x.len * z := Nat.mul_le_mul_right _ (Nat.min_le_left _ _)
  refine ⟨new.take (min x.len len * z), ?_, fun _ => ?_, ?_⟩
  · cases hb : x.base with
    | none =>
      rw [hb] at hc
      have : new = [] := hc
      subst this
      show List.take _ [] = []
      simp
    | some ad =>
      rw [hb] at hc
      intro j v hj
      rw [List.getElem?_take] at hj
      split at hj
      · exact hc j v hj
      · cases hj
  · rw [List.length_take, hlx]
    show _ = min x.len len * z
    omega
  · rw [hp.eq] at ha
    obtain ⟨hst, a', ho', ha'⟩ := own_row (off := off) ho ha (new := new.take (min x.len len * z)) (by rw [List.length_take]; omega) (fun v hv' => hv v (List.mem_of_mem_take hv'))
    exact ⟨hst, h _ a' Qf ho' ha' hq⟩
theorem wps_copyT {k : Int → M α} {b n l h : Nat} {x : Slc} {old new : List Value} [hp : PickC b H old H'] (hx : Ent H (rsl 1 x new)) (hv : ∀ v ∈ new, v.oneCell' = true) (hn : n ≤ old.length) (h1 : l ≤ h) (h2 : h ≤ n)
    (hk : wps g (H' * pc b (ovw old l (new.take (min x.len (h - l))))) (k ((min x.len (h - l) : Nat) : Int)) Q) : wps g H (bindM (copyM 1 (subS 1 ⟨some ⟨b, 0, none⟩, n, n⟩ l h) x) k) Q := by
  by_cases hc : n = l
  · have e : h - l = 0 := by omega
    have e2 : subS 1 ⟨some ⟨b, 0, none⟩, n, n⟩ l h = ⟨some ⟨b, 0, none⟩, 0, n - l⟩ := by simp [subS, hc, e]
    rw [e2]
    refine wps_copyP hx hv (by omega) ?_
    rw [e] at hk
    simp only [Nat.min_zero, Nat.zero_mul, List.take_zero, ovw_nil] at hk ⊢
    exact hk
  · have e2 : subS 1 ⟨some ⟨b, 0, none⟩, n, n⟩ l h = ⟨some ⟨b, l, none⟩, h - l, n - l⟩ := by simp [subS, hc, Addr.add_mk]
    rw [e2]
    refine wps_copyP hx hv (by omega) ?_
    rw [Nat.mul_one]
    exact hk
theorem wps_bstr {k : ByteArray → M α} {s : Slc} {ns : List Int} (hx : Ent H (rsl 1 s (ns.map (Value.int .u8)))) (h : wps g H (k (strB ns)) Q) : wps g H (bindM (bstrM s) k) Q := fun w a Qf ho ha hq => by
  obtain ⟨hc, hl⟩ := cellsAt_rsl hx ho ha
  exact ⟨ns, hc, fun _ => by simpa using hl, h w a Qf ho ha hq⟩
theorem wps_appendG {k : Slc → M α} {z : List Value} {bytes : Nat} {s x : Slc} {old new : List Value} (zl : Nat) (hzl : z.length = zl) (hx : Ent H (rsl zl x new)) (hs : Ent H (rsl zl s old)) (hcap : s.cap < s.len + x.len) (hcl : s.cap ≤ s.len + x.len)
    (hb : (16 * (s.len + x.len) + 4096) * bytes ≤ 2 ^ 48) (h : ∀ s', s'.len = s.len + x.len → wps g (H * own zl s' (old ++ new)) (k s') Q) :
    wps g H (bindM (appendM z bytes s x) k) Q := fun w a Qf ho ha hq => by
  subst hzl
  obtain ⟨hc, hlx⟩ := cellsAt_rsl hx ho ha
  obtain ⟨hcs, hls⟩ := cellsAt_rsl hs ho ha
  refine ⟨new, hc, fun _ => hlx, ?_⟩
  rw [if_neg (by omega)]
  refine ⟨?_, old, hcs, fun _ => hls, fun newCap elem hcap => ?_⟩
  · have := nextcap_le (n := s.len + x.len) (c := s.cap) hcl
    exact Nat.le_trans (Nat.mul_le_mul_right _ this) hb
  · have hp := own_push (own_draw ho) (.cells (old ++ new ++ zs z (newCap - (s.len + x.len))).toArray elem) (World.allocC (drawW w) (old ++ new ++ zs z (newCap - (s.len + x.len))).toArray elem) rfl ⟨rfl, rfl⟩ (fun _ _ _ h => by cases h; rfl)
    refine h ⟨some ⟨w.heap.size, 0, none⟩, s.len + x.len, newCap⟩ rfl _ _ Qf hp.1 ?_ hq
    refine ⟨a, _, hp.2, Hp.le_refl _, ha, ?_⟩
    refine ⟨zs z (newCap - (s.len + x.len)), ?_⟩
    refine (ent_pr (A := pc w.heap.size (old ++ new ++ zs z (newCap - (s.len + x.len)))) ?_) _ ⟨elem, by simp [drawW]⟩
    refine ⟨rfl, ?_, ?_, hcap⟩
    · simp only [List.length_append, Nat.add_mul]; omega
    · simp only [List.length_append, zs_len]
      rw [hls, hlx, ← Nat.add_mul, ← Nat.add_mul]
      congr 1; omega
def IterX (cv : CV) (fv : Value) (encX : ξ → Array Value) (n : Nat) (X : Nat → ξ → HP) (A : HP) : Prop :=
  ∀ (yv : Value) (I : Nat → HP) (E : HP),
    (∀ (i : Nat) (x : ξ), i < n → ∀ g, wps g (A * (X i x * I i)) (cv.call yv (encX x)) fun v => orp (pr (v = .bool true) * (A * I (i + 1))) (pr (v = .bool false) * (A * E))) →
    ∀ g, wps g (A * I 0) (cv.enter fv #[yv]) fun _ => A * orp (I n) E
theorem wps_rangeX {cv : CV} {fv : Value} {encX : ξ → Array Value} {asg : ξ → M τ} {body : τ → M (Unit ⊕ Jump)} {kn kr : Nat → M α} {ke : Nat → Nat → M α} {n : Nat} {X : Nat → ξ → HP} {A F : HP} (I : Nat → HP) (E : Jump → HP) (R : Nat → ξ → τ → HP)
    (hit : IterX cv fv encX n X A) (h0 : Ent H (F * (A * I 0)))
    (hasg : ∀ (i : Nat) (x : ξ), i < n → ∀ g, wps g (A * (X i x * I i)) (asg x) (R i x))
    (hbody : ∀ (i : Nat) (x : ξ), i < n → ∀ t g, wps g (R i x t) (body t) fun r => match r with | .inl _ => A * I (i + 1) | .inr j => A * E j)
    (hn : ∀ D, wps g (F * (A * I n) * po D (.deferred (some []))) (kn D) Q)
    (hr : ∀ D, wps g (F * (A * E .ret) * po D (.deferred (some []))) (kr D) Q)
    (he : ∀ D id, wps g (F * (A * E (.exit id)) * po D (.deferred (some []))) (ke D id) Q) : wps g H (rangeFM cv fv encX asg body kn kr ke) Q := fun w a Qf ho ha hq => by
  intro mk hmk0 hyield
  have hmk : ∀ st p, Obj.soft (mk st p) := fun st p cs e f h => absurd h (hmk0 st p cs e f)
  have ha := h0 a ha
  have p1 := own_push ho (.deferred (some [])) (World.pushO w (.deferred (some []))) rfl ⟨rfl, rfl⟩ (fun _ _ _ h => by cases h)
  have q1 : (F * (A * I 0) * po w.heap.size (.deferred (some []))).p _ := ⟨a, _, p1.2, Hp.le_refl _, ha, by simp [po]⟩
  have p2 := own_push p1.1 (mk .ready none) (World.pushO (World.pushO w (.deferred (some []))) (mk .ready none)) rfl ⟨rfl, rfl⟩ (hmk _ _)
  have hsz : (World.pushO w (.deferred (some []))).heap.size = w.heap.size + 1 := by simp [World.pushO]
  have q2 : (F * (A * I 0) * po w.heap.size (.deferred (some [])) * po (w.heap.size + 1) (mk .ready none)).p _ := ⟨_, _, p2.2, Hp.le_refl _, q1, by rw [← hsz]; simp [po]⟩
  have hgo := hit (yieldV (w.heap.size + 1)) (fun i => I i * po (w.heap.size + 1) (mk .ready none)) (ex fun j => E j * po (w.heap.size + 1) (mk .done (some j.code))) (fun i x hx g' => by
    intro w1 a1 Qf1 ho1 ha1 hq1
    refine hyield x Qf1 w1 ?_
    refine wps_round hmk (hasg i x hx) (hbody i x hx) w1 a1 Qf1 ho1 (by rw [star_assoc, star_assoc]; exact ha1) fun v w2 a2 ho2 ha2 => hq1 v w2 a2 ho2 ?_
    rcases ha2 with ha2 | ha2
    · left; rw [star_assoc] at ha2; exact ha2
    · right
      refine Ent.starr ?_ a2 ha2
      refine ex_ent fun j => ?_
      rw [star_assoc]
      exact Ent.starr (ent_ex j (Ent.refl _)))
  have hfr := wps_frame (g := g) (F := F * po w.heap.size (.deferred (some []))) hgo
  refine hfr _ _ _ p2.1 ?_ fun v w3 a3 ho3 ha3 => ?_
  · refine Ent.of_eq ?_ _ q2
    simp only [star_assoc]
    ac_rfl
  · have hsplit : ∀ B : HP, ∀ ob, (A * (B * po (w.heap.size + 1) ob) * (F * po w.heap.size (.deferred (some [])))) = (F * (A * B) * po w.heap.size (.deferred (some [])) * po (w.heap.size + 1) ob) := by
      intro B ob; ac_rfl
    have ha3' : (orp (F * (A * I n) * po w.heap.size (.deferred (some [])) * po (w.heap.size + 1) (mk .ready none))
        (ex fun j => F * (A * E j) * po w.heap.size (.deferred (some [])) * po (w.heap.size + 1) (mk .done (some j.code)))).p a3 := by
      obtain ⟨x1, x2, hd, hl, ⟨y1, y2, hd', hl', hA, hor⟩, hF⟩ := ha3
      rcases hor with hor | hor
      · left
        rw [← hsplit]
        exact ⟨x1, x2, hd, hl, ⟨y1, y2, hd', hl', hA, hor⟩, hF⟩
      · right
        obtain ⟨j, hor⟩ := hor
        refine ⟨j, ?_⟩
        show (F * (A * E j) * po w.heap.size (.deferred (some [])) * po (w.heap.size + 1) (mk .done (some j.code))).p a3
        rw [← hsplit]
        exact ⟨x1, x2, hd, hl, ⟨y1, y2, hd', hl', hA, hor⟩, hF⟩
    rcases ha3' with ha3 | ⟨j, ha3⟩
    · refine ⟨.ready, none, own_po ho3 ha3, by simp, ?_⟩
      obtain ⟨a4, ho4, ha4⟩ := own_put (mk .exhausted none) (hmk _ _) ho3 ha3
      exact hn _ _ a4 Qf ho4 (ent_left _ _ a4 ha4) hq
    · refine ⟨.done, some j.code, own_po ho3 ha3, by simp, j, rfl, ?_⟩
      obtain ⟨a4, ho4, ha4⟩ := own_put (mk .exhausted (some j.code)) (hmk _ _) ho3 ha3
      have ha5 := ent_left _ _ a4 ha4
      cases j with
      | ret => exact hr _ _ a4 Qf ho4 ha5 hq
      | exit id => exact he _ id _ a4 Qf ho4 ha5 hq
end
end Go.Mo

namespace Go.Mo
set_option linter.unusedVariables false
set_option linter.unusedSimpArgs false
structure MapOk2 (es : List MapEntry) (clock : Nat) (f : Int × Int → Option Value) : Prop where
  keys : pairKeys es
  find : ∀ k v, f k = some v ↔ ∃ e ∈ es, keyIs2 k e = true ∧ e.val = v
  born : (es.map (·.born)).Pairwise (· < ·)
  below : ∀ e ∈ es, e.born < clock
  once : ∀ (i j : Nat) e e' k, es[i]? = some e → es[j]? = some e' → keyIs2 k e = true → keyIs2 k e' = true → i = j
def pmap (m : Nat) (f : Int × Int → Option Value) : HP := ex fun es : Array MapEntry => ex fun clock : Nat => pr (MapOk2 es.toList clock f) * po m (.map es clock)
theorem pmap_new (m : Nat) : Ent (po m (.map #[] 0)) (pmap m fun _ => none) :=
  ent_ex #[] (ent_ex 0 (ent_prr ⟨fun e h => by simp at h, fun k v => by simp, by simp, fun e h => by simp at h, fun i j e e' k h => by simp at h⟩ (Ent.refl _)))
def mapPut2 (es : Array MapEntry) (clock : Nat) (k : Int × Int) (v : Value) : Obj := match es.toList.findIdx? (keyIs2 k) with
  | some i => .map (es.modify i fun e => { e with key := key2 k, val := v }) clock
  | none => .map (es.push { key := key2 k, val := v, born := clock }) (clock + 1)
section
variable {α β σ γ κ : Type} {g : Fr} {H H' : HP} {Q : α → HP}
theorem pmap_open {A : HP} {m : Nat} {f : Int × Int → Option Value} {a : Hp} (ha : (A * pmap m f).p a) : ∃ es clock, MapOk2 es.toList clock f ∧ (A * po m (.map es clock)).p a := by
  unfold pmap at ha
  rw [star_ex] at ha
  obtain ⟨es, ha⟩ := ha
  simp only at ha
  rw [star_ex] at ha
  obtain ⟨clock, ha⟩ := ha
  simp only at ha
  rw [star_left_comm] at ha
  exact ⟨es, clock, ent_left _ _ a ha, ent_right _ _ a ha⟩
theorem pmap_close {A : HP} {m clock : Nat} {es : Array MapEntry} {f : Int × Int → Option Value} {a : Hp} (h : MapOk2 es.toList clock f) (ha : (A * po m (.map es clock)).p a) : (A * pmap m f).p a := by
  refine Ent.starr ?_ a ha
  exact ent_ex es (ent_ex clock (ent_prr h (Ent.refl _)))
theorem mapPut2_ok {es : Array MapEntry} {clock : Nat} {f : Int × Int → Option Value} (h : MapOk2 es.toList clock f) (k : Int × Int) (v : Value) :
    ∃ es' clock', mapPut2 es clock k v = .map es' clock' ∧ MapOk2 es'.toList clock' (fun j => if j = k then some v else f j) := by
  unfold mapPut2
  cases hf : es.toList.findIdx? (keyIs2 k) with
  | none =>
    have hno : ∀ e ∈ es.toList, keyIs2 k e = false := by simpa [List.findIdx?_eq_none_iff] using hf
    refine ⟨_, _, rfl, ?_, ?_, ?_, ?_, ?_⟩
    · intro e he
      simp only [Array.toList_push, List.mem_append, List.mem_singleton] at he
      rcases he with he | rfl
      · exact h.keys e he
      · exact ⟨k, rfl⟩
    · intro j u
      simp only [Array.toList_push, List.mem_append, List.mem_singleton]
      by_cases hj : j = k
      · subst hj
        rw [if_pos rfl]
        constructor
        · intro hu; cases hu
          exact ⟨_, .inr rfl, by simp [keyIs2, pairOf_key2], rfl⟩
        · rintro ⟨e, he | rfl, h1, h2⟩
          · rw [hno e he] at h1; cases h1
          · rw [← h2]
      · rw [if_neg hj, h.find]
        constructor
        · rintro ⟨e, he, h1⟩; exact ⟨e, .inl he, h1⟩
        · rintro ⟨e, he | rfl, h1, h2⟩
          · exact ⟨e, he, h1, h2⟩
          · simp [keyIs2, pairOf_key2, hj] at h1
    · simp only [Array.toList_push, List.map_append, List.map_cons, List.map_nil]
      rw [List.pairwise_append]
      refine ⟨h.born, by simp, ?_⟩
      intro x hx y hy
      simp only [List.mem_map] at hx
      obtain ⟨e, he, rfl⟩ := hx
      simp only [List.mem_singleton] at hy
      subst hy
      exact h.below e he
    · intro e he
      simp only [Array.toList_push, List.mem_append, List.mem_singleton] at he
      rcases he with he | rfl
      · have := h.below e he; omega
      · simp
    · intro i j e e' q hi hj hq hq'
      simp only [Array.toList_push] at hi hj
      have hkk : ∀ (i : Nat) (e : MapEntry), (es.toList ++ [{ key := key2 k, val := v, born := clock }])[i]? = some e → keyIs2 q e = true → (es.toList[i]? = some e ∧ q ≠ k) ∨ (i = es.toList.length ∧ q = k) := by
        intro i' e0 hi0 hq0
        by_cases hlt : i' < es.toList.length
        · rw [List.getElem?_append_left hlt] at hi0
          left
          refine ⟨hi0, fun hqk => ?_⟩
          subst hqk
          have := hno _ (List.mem_of_getElem? hi0)
          rw [this] at hq0; cases hq0
        · have : i' = es.toList.length := by
            have := (List.getElem?_eq_some_iff.1 hi0).1
            simp only [List.length_append, List.length_singleton] at this
            omega
          right
          refine ⟨this, ?_⟩
          subst this
          simp at hi0
          subst hi0
          simpa [keyIs2, pairOf_key2] using hq0
      rcases hkk i e hi hq with ⟨h1, h2⟩ | ⟨h1, h2⟩ <;> rcases hkk j e' hj hq' with ⟨h3, h4⟩ | ⟨h3, h4⟩
      · exact h.once i j e e' q h1 h3 hq hq'
      · exact absurd h4 h2
      · exact absurd h2 h4
      · omega
  | some i =>
    rw [List.findIdx?_eq_some_iff_getElem] at hf
    obtain ⟨hi, hki, hmin⟩ := hf
    let F : MapEntry → MapEntry := fun e => { e with key := key2 k, val := v }
    have hlist : (es.modify i F).toList = es.toList.modify i F := by simp
    have hget : ∀ j, (es.toList.modify i F)[j]? = if j = i then some (F es.toList[i]) else es.toList[j]? := by
      intro j
      rw [List.getElem?_modify]
      by_cases hj : j = i
      · subst hj
        rw [if_pos rfl, List.getElem?_eq_getElem hi]
        simp
      · rw [if_neg hj]
        have hj' : ¬ i = j := fun e => hj (e.symm)
        simp [hj']
    have hkF : ∀ q, keyIs2 q (F es.toList[i]) = (q == k) := fun q => rfl
    have hkey : ∀ q, keyIs2 q es.toList[i] = (q == k) := by
      intro q
      obtain ⟨n, hn⟩ := h.keys es.toList[i] (List.getElem_mem hi)
      rw [keyIs2_pair hn] at hki ⊢
      have : k = n := by simpa using hki
      rw [this]
    refine ⟨_, _, rfl, ?_, ?_, ?_, ?_, ?_⟩
    · intro e he
      rw [hlist] at he
      obtain ⟨j, hj⟩ := List.mem_iff_getElem?.1 he
      rw [hget] at hj
      split at hj
      · cases hj; exact ⟨k, rfl⟩
      · exact h.keys e (List.mem_of_getElem? hj)
    · intro q u
      rw [hlist]
      have hmem : ∀ e, e ∈ es.toList.modify i F ↔ ∃ j, (if j = i then some (F es.toList[i]) else es.toList[j]?) = some e := by
        intro e
        rw [List.mem_iff_getElem?]
        constructor <;> (rintro ⟨j, hj⟩; refine ⟨j, ?_⟩)
        · rw [← hget]; exact hj
        · rw [hget]; exact hj
      by_cases hq : q = k
      · subst hq
        rw [if_pos rfl]
        constructor
        · intro hu; cases hu
          exact ⟨F es.toList[i], (hmem _).2 ⟨i, by rw [if_pos rfl]⟩, by rw [hkF]; simp, rfl⟩
        · rintro ⟨e, he, h1, h2⟩
          obtain ⟨j, hj⟩ := (hmem e).1 he
          split at hj
          · cases hj; rw [← h2]
          · rename_i hji
            exact absurd (h.once j i e es.toList[i] q hj (List.getElem?_eq_getElem hi) h1 hki) hji
      · rw [if_neg hq, h.find]
        constructor
        · rintro ⟨e, he, h1, h2⟩
          obtain ⟨j, hj⟩ := List.mem_iff_getElem?.1 he
          refine ⟨e, (hmem e).2 ⟨j, ?_⟩, h1, h2⟩
          rw [if_neg]
          · exact hj
          · intro hji
            subst hji
            rw [List.getElem?_eq_getElem hi] at hj
            cases hj
            rw [hkey] at h1
            exact hq (by simpa using h1)
        · rintro ⟨e, he, h1, h2⟩
          obtain ⟨j, hj⟩ := (hmem e).1 he
          split at hj
          · cases hj
            rw [hkF] at h1
            exact absurd (by simpa using h1) hq
          · exact ⟨e, List.mem_of_getElem? hj, h1, h2⟩
    · rw [hlist]
      have : (es.toList.modify i F).map (·.born) = es.toList.map (·.born) := by
        apply List.ext_getElem?
        intro j
        rw [List.getElem?_map, List.getElem?_map, hget]
        split
        · rename_i hj; subst hj; rw [List.getElem?_eq_getElem hi]; rfl
        · rfl
      rw [this]; exact h.born
    · intro e he
      rw [hlist] at he
      obtain ⟨j, hj⟩ := List.mem_iff_getElem?.1 he
      rw [hget] at hj
      split at hj
      · cases hj; exact h.below es.toList[i] (List.getElem_mem hi)
      · exact h.below e (List.mem_of_getElem? hj)
    · intro a b e e' q ha hb hqa hqb
      rw [hlist] at ha hb
      rw [hget] at ha hb
      have hfix : ∀ (a : Nat) (e : MapEntry), (if a = i then some (F es.toList[i]) else es.toList[a]?) = some e → keyIs2 q e = true → ∃ e0, es.toList[a]? = some e0 ∧ keyIs2 q e0 = true := by
        intro a e ha hqa
        split at ha
        · rename_i hai; subst hai
          cases ha
          exact ⟨es.toList[a], List.getElem?_eq_getElem hi, by rw [hkey]; rw [hkF] at hqa; exact hqa⟩
        · exact ⟨e, ha, hqa⟩
      obtain ⟨e1, h1, h2⟩ := hfix a e ha hqa
      obtain ⟨e2, h3, h4⟩ := hfix b e' hb hqb
      exact h.once a b e1 e2 q h1 h3 h2 h4
def pmapAt (m : Nat) (f : Int × Int → Option Value) (k : Int × Int) (st : Int) : HP := ex fun es : Array MapEntry => ex fun clock : Nat => pr (MapOk2 es.toList clock f ∧ ∃ e ∈ es.toList, e.key = key2 k ∧ ((e.born : Nat) : Int) = st) * po m (.map es clock)
theorem wps_ent {enc : β → Value} {z : β} {k : β × Int → M α} {m : Nat} {j : Int × Int} {f : Int × Int → Option Value} (c : Option β) (hH : H = H' * pmap m f) (hc : f j = c.map enc)
    (h : ∀ st, wps g (H' * pmapAt m (fun i => if i = j then some (enc (c.getD z)) else f i) j st) (k (c.getD z, st)) Q) : wps g H (bindM (entM enc z (some m) j) k) Q := fun w a Qf ho ha hq => by
  rw [hH] at ha
  obtain ⟨es, clock, hm, ha⟩ := pmap_open ha
  refine ⟨m, es, clock, rfl, own_po ho ha, hm.keys, ?_⟩
  cases hf : es.toList.findIdx? (keyIs2 j) with
  | some i =>
    obtain ⟨hlt, hkey, _⟩ := List.findIdx?_eq_some_iff_getElem.1 hf
    have hmem : es.toList[i] ∈ es.toList := List.getElem_mem hlt
    have hfj : f j = some es.toList[i].val := (hm.find j _).2 ⟨_, hmem, hkey, rfl⟩
    cases c with
    | none => rw [hfj] at hc; cases hc
    | some y =>
      have hv : es.toList[i].val = enc y := by rw [hfj] at hc; exact Option.some.inj hc
      have hk2 : es.toList[i].key = key2 j := by
        obtain ⟨q, hq2⟩ := hm.keys _ hmem
        rw [keyIs2_pair hq2] at hkey
        rw [hq2, show j = q by simpa using hkey]
      refine .inl ⟨y, i, es.toList[i], rfl, List.getElem?_eq_getElem hlt, hv, ?_⟩
      obtain ⟨a', ho', ha'⟩ := own_put (.map es clock) (fun _ _ _ h => by cases h) ho ha
      refine h _ _ a' Qf ho' ?_ hq
      refine Ent.starr ?_ a' ha'
      refine ent_ex es (ent_ex clock (ent_prr ⟨?_, es.toList[i], hmem, hk2, rfl⟩ (Ent.refl _)))
      have : (fun i => if i = j then some (enc ((some y).getD z)) else f i) = f := by
        funext i
        by_cases hi : i = j
        · subst hi; rw [if_pos rfl, hfj, hv]; rfl
        · rw [if_neg hi]
      rw [this]; exact hm
  | none =>
    have hno : ∀ e ∈ es.toList, keyIs2 j e = false := by simpa [List.findIdx?_eq_none_iff] using hf
    cases c with
    | some y =>
      obtain ⟨e, he, h1, _⟩ := (hm.find j (enc y)).1 hc
      rw [hno e he] at h1; cases h1
    | none =>
      refine .inr ⟨rfl, ?_⟩
      obtain ⟨es', clock', he, hok⟩ := mapPut2_ok hm j (enc z)
      unfold mapPut2 at he
      rw [hf] at he
      simp only [Obj.map.injEq] at he
      obtain ⟨rfl, rfl⟩ := he
      obtain ⟨a', ho', ha'⟩ := own_put (.map (es.push { key := key2 j, val := enc z, born := clock }) (clock + 1)) (fun _ _ _ h => by cases h) ho ha
      refine h _ _ a' Qf ho' ?_ hq
      refine Ent.starr ?_ a' ha'
      exact ent_ex _ (ent_ex _ (ent_prr ⟨hok, { key := key2 j, val := enc z, born := clock }, by simp, rfl, rfl⟩ (Ent.refl _)))
theorem wps_entSt {k : Unit → M α} {m : Nat} {j : Int × Int} {st : Int} {v : Value} {f : Int × Int → Option Value} (hH : H = H' * pmapAt m f j st)
    (h : wps g (H' * pmap m (fun i => if i = j then some v else f i)) (k ()) Q) : wps g H (bindM (entStM (some m) st v) k) Q := fun w a Qf ho ha hq => by
  rw [hH] at ha
  obtain ⟨a1, a2, hd, hl, h1, es, clock, h2⟩ := ha
  obtain ⟨hm, e, he, hek, hst⟩ := ent_left _ _ a2 h2
  have ha : (H' * po m (.map es clock)).p a := ⟨a1, a2, hd, hl, h1, ent_right _ _ a2 h2⟩
  obtain ⟨i, hi, rfl⟩ := List.mem_iff_getElem.1 he
  have hp := List.pairwise_iff_getElem.1 hm.born
  have hidx : es.findIdx? (fun e => ((e.born : Nat) : Int) == st) = some i := by
    rw [show ∀ (xs : Array MapEntry) (p : MapEntry → Bool), xs.findIdx? p = xs.toList.findIdx? p from fun xs p => by cases xs; simp, List.findIdx?_eq_some_iff_getElem]
    refine ⟨hi, by simpa using hst, fun q hq => ?_⟩
    have := hp q i (by simpa using (by omega : q < es.toList.length)) (by simpa using hi) hq
    simp only [List.getElem_map] at this
    simp only [beq_iff_eq]
    omega
  refine ⟨m, es, clock, i, rfl, own_po ho ha, hidx, ?_⟩
  have hkj : keyIs2 j es.toList[i] = true := by rw [keyIs2_pair hek]; simp
  have hf : es.toList.findIdx? (keyIs2 j) = some i := by
    rw [List.findIdx?_eq_some_iff_getElem]
    refine ⟨hi, hkj, fun q hq hq2 => ?_⟩
    have := hm.once q i _ _ j (List.getElem?_eq_getElem (by omega)) (List.getElem?_eq_getElem hi) hq2 hkj
    omega
  obtain ⟨es', clock', he', hok⟩ := mapPut2_ok hm j v
  unfold mapPut2 at he'
  rw [hf] at he'
  simp only [Obj.map.injEq] at he'
  obtain ⟨rfl, rfl⟩ := he'
  have hsame : (es.modify i fun e => { e with key := key2 j, val := v }) = es.modify i fun e => { e with val := v } := by
    apply Array.ext_getElem?
    intro q
    rw [Array.getElem?_modify, Array.getElem?_modify]
    by_cases hqi : i = q
    · subst hqi
      rw [if_pos rfl, if_pos rfl]
      have : es[i]? = some es.toList[i] := by rw [← Array.getElem?_toList]; exact List.getElem?_eq_getElem hi
      rw [this]
      simp only [Option.map_some, hek]
    · rw [if_neg hqi, if_neg hqi]
  rw [hsame] at hok
  obtain ⟨a', ho', ha'⟩ := own_put (.map (es.modify i fun e => { e with val := v }) clock) (fun _ _ _ h => by cases h) ho ha
  exact h _ a' Qf ho' (pmap_close hok ha') hq
end
structure ItrOk2 (es : Array MapEntry) (clock : Nat) (seen : Array Nat) (f : Int × Int → Option Value) (V : Int × Int → Bool) : Prop where
  map : MapOk2 es.toList clock f
  seen : ∀ e ∈ es.toList, ∀ k, keyIs2 k e = true → seen.contains e.born = V k
def itrP (it m : Nat) (es : Array MapEntry) (clock : Nat) (seen : Array Nat) : HP := po it (.mapIter (some m) clock seen clock) * po m (.map es clock)
def itr2 (it m : Nat) (f : Int × Int → Option Value) (V : Int × Int → Bool) : HP := ex fun es : Array MapEntry => ex fun clock : Nat => ex fun seen : Array Nat => pr (ItrOk2 es clock seen f V) * itrP it m es clock seen
def itr2At (it m : Nat) (f : Int × Int → Option Value) (V : Int × Int → Bool) (j : Int × Int) (v : Value) : HP := ex fun es : Array MapEntry => ex fun clock : Nat => ex fun seen : Array Nat =>
  pr (ItrOk2 es clock seen f (fun i => V i || i == j) ∧ ∃ e ∈ es.toList, e.key = key2 j ∧ e.val = v ∧ seen.back? = some e.born) * itrP it m es clock seen
theorem MapOk2.one {es : List MapEntry} {clock : Nat} {f : Int × Int → Option Value} (h : MapOk2 es clock f) {e e' : MapEntry} (he : e ∈ es) (he' : e' ∈ es) (hb : e.born = e'.born) : e = e' := by
  obtain ⟨i, hi, rfl⟩ := List.mem_iff_getElem.1 he
  obtain ⟨j, hj, rfl⟩ := List.mem_iff_getElem.1 he'
  have hp := List.pairwise_iff_getElem.1 h.born
  rcases Nat.lt_trichotomy i j with hlt | heq | hgt
  · have := hp i j (by simpa using hi) (by simpa using hj) hlt
    simp only [List.getElem_map] at this
    omega
  · subst heq; rfl
  · have := hp j i (by simpa using hj) (by simpa using hi) hgt
    simp only [List.getElem_map] at this
    omega
section
variable {α β σ γ κ : Type} {g : Fr} {H H' : HP} {Q : α → HP}
theorem wps_rangeMap2 {k : Addr → M α} {m : Nat} {f : Int × Int → Option Value} (hH : H = H' * pmap m f) (h : ∀ it, wps g (H' * itr2 it m f (fun _ => false)) (k ⟨it, 0, none⟩) Q) : wps g H (bindM (rangeMapM (some m)) k) Q := fun w a Qf ho ha hq => by
  rw [hH] at ha
  obtain ⟨es, clock, hm, ha⟩ := pmap_open ha
  refine ⟨es, clock, own_po ho ha, ?_⟩
  have hpu := own_push ho (.mapIter (some m) clock #[] clock) (World.pushO w (.mapIter (some m) clock #[] clock)) rfl ⟨rfl, rfl⟩ (fun _ _ _ h => by cases h)
  have q1 : (H' * po m (.map es clock) * po w.heap.size (.mapIter (some m) clock #[] clock)).p _ := ⟨a, _, hpu.2, Hp.le_refl _, ha, by simp [po]⟩
  refine h w.heap.size _ _ Qf hpu.1 (?_ : HP.p _ _) hq
  refine Ent.trans (Ent.of_eq (star_assoc _ _ _)) (Ent.starr ?_) _ q1
  refine ent_ex es (ent_ex clock (ent_ex #[] (ent_prr ⟨hm, fun e he k hk => by simp⟩ ?_)))
  rw [star_comm]; exact Ent.refl _
theorem wps_next2 {k : Option (Value × Value) → M α} {it m : Nat} {f : Int × Int → Option Value} {V : Int × Int → Bool} (hH : H = H' * itr2 it m f V)
    (h0 : (∀ j v, f j = some v → V j = true) → wps g (H' * itr2 it m f V) (k none) Q)
    (h1 : ∀ j v, f j = some v → V j = false → wps g (H' * itr2At it m f V j v) (k (some (key2 j, v))) Q) : wps g H (bindM (nextM ⟨it, 0, none⟩) k) Q := fun w a Qf ho ha hq => by
  rw [hH] at ha
  obtain ⟨es, clock, seen, ha⟩ := ex3_open ha
  rw [star_left_comm] at ha
  have hok : ItrOk2 es clock seen f V := ent_left _ _ a ha
  have ha := ent_right _ _ a ha
  have ham : (H' * po it (.mapIter (some m) clock seen clock) * po m (.map es clock)).p a := by rw [star_assoc]; exact ha
  have hai : (H' * po m (.map es clock) * po it (.mapIter (some m) clock seen clock)).p a := by rw [star_right_comm]; exact ham
  have hmem := own_po ho ham
  have hit := own_po ho hai
  refine ⟨rfl, .inr ⟨m, clock, seen, clock, es, clock, hit, hmem, ?_, ?_, ?_⟩⟩
  · cases hes : es.isEmpty with
    | true => simp
    | false =>
      have : ¬ (es.all fun e => decide (e.born ≥ clock)) = true := by
        intro hall
        rw [Array.all_eq_true_iff_forall_mem] at hall
        have hne : es.size ≠ 0 := by
          intro h0; simp at h0; simp [h0] at hes
        have h1 := hall es[0] (Array.getElem_mem (by omega))
        have h2 := hok.map.below es[0] (by rw [Array.mem_toList_iff]; exact Array.getElem_mem (by omega))
        simp at h1; omega
      simp only [Bool.and_eq_false_iff]
      right
      simpa using this
  · unfold iterCands
    simp only
    split
    · simp
    · rename_i hne
      have h2 : 0 < ((iterLeft es seen).filter fun x => decide (x.born < clock)).size := by
        rw [Array.isEmpty_iff_size_eq_zero] at hne
        omega
      simp only [Array.size_append, Array.size_map]
      omega
  · intro c hc
    have hmemc : (c = none ∧ ∀ e ∈ es.toList, seen.contains e.born = true) ∨ ∃ e ∈ es.toList, seen.contains e.born = false ∧ c = some e := by
      unfold iterCands at hc
      simp only at hc
      rw [Array.mem_append] at hc
      rcases hc with hc | hc
      · split at hc
        · rename_i hem
          left
          refine ⟨by simpa using hc, fun e he => ?_⟩
          rw [Array.isEmpty_iff_size_eq_zero, Array.size_eq_zero_iff, Array.filter_eq_empty_iff] at hem
          cases hs : seen.contains e.born with
          | true => rfl
          | false =>
            have hl : e ∈ iterLeft es seen := by
              unfold iterLeft
              rw [Array.mem_filter]
              exact ⟨Array.mem_toList_iff.1 he, by simp only [hs]; rfl⟩
            exact absurd (decide_eq_true (hok.map.below e he)) (hem e hl)
        · simp at hc
      · right
        rw [Array.mem_map] at hc
        obtain ⟨e, he, rfl⟩ := hc
        have hl : e ∈ iterLeft es seen := by
          rw [Array.mem_append] at he
          rcases he with he | he
          · exact (Array.mem_filter.1 he).1
          · exact (Array.mem_filter.1 he).1
        unfold iterLeft at hl
        rw [Array.mem_filter] at hl
        exact ⟨e, Array.mem_toList_iff.2 hl.1, by simpa using hl.2, rfl⟩
    rcases hmemc with ⟨rfl, hall⟩ | ⟨e, he, hs, rfl⟩
    · have hall' : ∀ j v, f j = some v → V j = true := fun j v hj => by
        obtain ⟨e, he, hk, _⟩ := (hok.map.find j v).1 hj
        rw [← hok.seen e he j hk]
        exact hall e he
      have hpost : (H' * itr2 it m f V).p a := by
        refine Ent.starr ?_ a ha
        exact ent_ex es (ent_ex clock (ent_ex seen (ent_prr hok (Ent.refl _))))
      exact ⟨h0 hall' w a Qf ho hpost hq, h0 hall' (drawW w) a Qf (own_draw ho) hpost hq⟩
    · obtain ⟨j, hj⟩ := hok.map.keys e he
      have hkj : keyIs2 j e = true := by rw [keyIs2_pair hj]; simp
      have hfj : f j = some e.val := (hok.map.find j e.val).2 ⟨e, he, hkj, rfl⟩
      have hVj : V j = false := by rw [← hok.seen e he j hkj]; exact hs
      have hok' : ItrOk2 es clock (seen.push e.born) f (fun i => V i || i == j) := ⟨hok.map, fun e' he' i hi => by
        have h2 := hok.seen e' he' i hi
        obtain ⟨n', hn'⟩ := hok.map.keys e' he'
        have hni : i = n' := by rw [keyIs2_pair hn'] at hi; simpa using hi
        have hcp : (seen.push e.born).contains e'.born = (seen.contains e'.born || e'.born == e.born) := by
          rw [Bool.eq_iff_iff]; simp [Array.mem_push]
        rw [hcp, h2]
        congr 1
        by_cases hb : e'.born = e.born
        · have := hok.map.one he' he hb
          subst this
          have hjn : j = n' := by have h9 := congrArg pairOf (hj.symm.trans hn'); simpa only [pairOf_key2] using h9
          simp [hni, hjn]
        · have : ¬ i = j := by
            intro hij
            subst hij
            obtain ⟨x, hx⟩ := List.mem_iff_getElem?.1 he'
            obtain ⟨y, hy⟩ := List.mem_iff_getElem?.1 he
            have hxy := hok.map.once x y e' e i hx hy hi hkj
            subst hxy
            rw [hx] at hy
            exact hb (by rw [Option.some.inj hy])
          rw [show (e'.born == e.born) = false from by simpa using hb, show (i == j) = false from by simpa using this]⟩
      have step : ∀ w1, Own w1 a g → nextPost (fun y w' => k y Qf w') it m clock seen clock w1 (some e) := by
        intro w1 ho1
        obtain ⟨a', ho', ha'⟩ := own_put (.mapIter (some m) clock (seen.push e.born) clock) (fun _ _ _ h => by cases h) ho1 hai
        show k (some (e.key, e.val)) Qf _
        rw [hj]
        refine h1 j e.val hfj hVj _ a' Qf ho' ?_ hq
        refine Ent.trans (Ent.of_eq (star_assoc _ _ _)) (Ent.starr ?_) a' ha'
        refine ent_ex es (ent_ex clock (ent_ex (seen.push e.born) (ent_prr ⟨hok', e, he, hj, rfl, by simp⟩ ?_)))
        unfold itrP
        rw [star_comm]; exact Ent.refl _
      exact ⟨step w ho, step (drawW w) (own_draw ho)⟩
theorem wps_entry2 {ev : β → Value} {k : (Int × Int) × β → M α} {it m : Nat} {f : Int × Int → Option Value} {V : Int × Int → Bool} {j : Int × Int} {v : Value} (y : β) (hH : H = H' * itr2At it m f V j v) (hy : v = ev y)
    (h : wps g (H' * itr2 it m f (fun i => V i || i == j)) (k (j, y)) Q) : wps g H (bindM (entryM key2 ev ⟨it, 0, none⟩) k) Q := fun w a Qf ho ha hq => by
  rw [hH] at ha
  obtain ⟨es, clock, seen, ha⟩ := ex3_open ha
  rw [star_left_comm] at ha
  obtain ⟨hok, e, he, hk, hv, hb⟩ := ent_left _ _ a ha
  have ha := ent_right _ _ a ha
  have ham : (H' * po it (.mapIter (some m) clock seen clock) * po m (.map es clock)).p a := by rw [star_assoc]; exact ha
  have hai : (H' * po m (.map es clock) * po it (.mapIter (some m) clock seen clock)).p a := by rw [star_right_comm]; exact ham
  refine ⟨rfl, m, clock, seen, clock, es, clock, e.born, e, j, y, own_po ho hai, hb, own_po ho ham, rfl, ?_, hk, by rw [hv, hy], h w a Qf ho ?_ hq⟩
  · have : es.find? (fun x => x.born == e.born) = some e := by
      rw [← Array.find?_toList]
      cases hf : es.toList.find? (fun x => x.born == e.born) with
      | none =>
        rw [List.find?_eq_none] at hf
        exact absurd (by simp) (hf e he)
      | some e' =>
        have h1 := List.find?_some hf
        have h2 := List.mem_of_find?_eq_some hf
        rw [hok.map.one h2 he (by simpa using h1)]
    exact this
  · refine Ent.starr ?_ a ha
    exact ent_ex es (ent_ex clock (ent_ex seen (ent_prr hok (Ent.refl _))))
end
end Go.Mo
namespace Go.Proofs.Ytldmeimebebllaa
open Go.Mo
set_option linter.unusedVariables false
theorem w64_id {n : Int} (h : -9223372036854775808 ≤ n) (h' : n < 9223372036854775808) : w64 n = n := by
  unfold w64 IntKind.wrap
  simp only [IntKind.bits, IntKind.signed]
  by_cases hm : n % (2 : Int) ^ 64 ≥ (2 : Int) ^ (64 - 1)
  · simp only [hm, decide_true, Bool.true_and, if_true]; omega
  · simp only [hm, decide_false, Bool.and_false]; simp only [Bool.false_eq_true, if_false]; omega
abbrev G3 := Int × Int × Int
theorem geo_within_val {g : Fr} {H : HP} (n a b : Int) : Val g H (geo_within n a b) (decide (a ≤ n ∧ n ≤ b)) := by
  unfold geo_within
  refine val_eq (v := decide (a ≤ n ∧ n ≤ b)) (u := if decide (a ≤ n) = true then decide (n ≤ b) else false) ?_ (by by_cases h : a ≤ n <;> simp [h])
  repeat first | ((with_reducible apply wps_val); apply val_ite; rotate_left; refine fun (_ : ¬ _) => ?_; rotate_right; refine fun (_ : _ = true) => ?_) | (with_reducible exact wps_pure (ent_val rfl))
theorem geo_others_val {g : Fr} {H : HP} (p : G3) : Val g H (geo_others p) (w64 (1 + w64 (Int.tdiv p.2.2 8))) := by
  unfold geo_others
  repeat first | (with_reducible refine wps_alloc fun _ => ?_) | (refine wps_ld _ (by rfl) ?_) | (with_reducible exact wps_pure (ent_val rfl))
theorem geo_places_val {g : Fr} {H : HP} (p : G3) : Val g H (geo_places p) (w64 (w64 (p.2.1 * w64 (p.1 - 1)) - 1)) := by
  unfold geo_places
  repeat first | (with_reducible refine wps_alloc fun _ => ?_) | (refine wps_ld _ (by rfl) ?_) | (with_reducible exact wps_pure (ent_val rfl))
structure Bnd (p : G3) : Prop where
  d3 : 3 ≤ p.1
  d16 : p.1 ≤ 16
  r1 : 1 ≤ p.2.1
  r4 : p.2.1 ≤ 4
  s12 : 12 ≤ p.2.2
  s64 : p.2.2 ≤ 64
def othersI (p : G3) : Int := 1 + p.2.2 / 8
def placesI (p : G3) : Int := p.2.1 * (p.1 - 1) - 1
theorem Bnd.others {p : G3} (h : Bnd p) : w64 (1 + w64 (Int.tdiv p.2.2 8)) = othersI p ∧ 2 ≤ othersI p ∧ othersI p ≤ 9 := by
  have := h.s12
  have := h.s64
  rw [Int.tdiv_eq_ediv_of_nonneg (by omega), w64_id (n := p.2.2 / 8) (by omega) (by omega), w64_id (by omega) (by omega)]
  unfold othersI
  omega
theorem Bnd.mul {p : G3} (h : Bnd p) : 2 ≤ p.2.1 * (p.1 - 1) ∧ p.2.1 * (p.1 - 1) ≤ 60 := by
  have h1 := h.d3
  have h2 := h.d16
  have h3 := h.r1
  have h4 := h.r4
  have : p.2.1 = 1 ∨ p.2.1 = 2 ∨ p.2.1 = 3 ∨ p.2.1 = 4 := by omega
  rcases this with e | e | e | e <;> rw [e] <;> omega
theorem Bnd.places {p : G3} (h : Bnd p) : w64 (w64 (p.2.1 * w64 (p.1 - 1)) - 1) = placesI p ∧ 1 ≤ placesI p ∧ placesI p ≤ 59 := by
  have h1 := h.d3
  have h2 := h.d16
  have := h.mul
  rw [w64_id (n := p.1 - 1) (by omega) (by omega), w64_id (n := p.2.1 * (p.1 - 1)) (by omega) (by omega), w64_id (by omega) (by omega)]
  unfold placesI
  omega
theorem Bnd.prod {p : G3} (h : Bnd p) : w64 (othersI p * placesI p) = othersI p * placesI p := by
  have h1 := h.others.2
  have h2 := h.places.2
  have h3 : othersI p * placesI p ≤ 9 * 59 := Int.mul_le_mul h1.2 h2.2 (by omega) (by omega)
  have h4 : 0 ≤ othersI p * placesI p := Int.mul_nonneg (by omega) (by omega)
  rw [w64_id] <;> omega
def RightB (p : G3) : Bool := decide (3 ≤ p.1 ∧ p.1 ≤ 16) && (decide (1 ≤ p.2.1 ∧ p.2.1 ≤ 4) && (decide (12 ≤ p.2.2 ∧ p.2.2 ≤ 64) && decide (8 ≤ othersI p * placesI p)))
theorem RightB.bnd {p : G3} (h : RightB p = true) : Bnd p := by
  simp only [RightB, Bool.and_eq_true, decide_eq_true_eq] at h
  exact ⟨h.1.1, h.1.2, h.2.1.1, h.2.1.2, h.2.2.1.1, h.2.2.1.2⟩
theorem geo_Right_val {g : Fr} {H : HP} (p : G3) : Val g H (geo_Right p) (RightB p) := by
  unfold geo_Right
  repeat first | (with_reducible refine wps_stepV (geo_within_val _ _ _) ?_) | (with_reducible refine wps_alloc fun _ => ?_) | (refine wps_ldI _ (by rfl) ?_) | (with_reducible refine wps_regionH ?_)
  refine wps_ite (fun h1 => ?_) (fun h1 => ?_)
  · repeat first | (with_reducible refine wps_stepV (geo_within_val _ _ _) ?_) | (refine wps_ldI _ (by rfl) ?_)
    refine wps_ite (fun h2 => ?_) (fun h2 => ?_)
    · repeat first | (with_reducible refine wps_stepV (geo_within_val _ _ _) ?_) | (refine wps_ldI _ (by rfl) ?_)
      refine wps_ite (fun h3 => ?_) (fun h3 => ?_)
      · repeat first | (with_reducible refine wps_stepV (geo_others_val _) ?_) | (with_reducible refine wps_stepV (geo_places_val _) ?_) | (refine wps_ldGI _ _ _ (by rfl) ?_)
        refine wps_pure (ent_val ?_)
        simp only [decide_eq_true_eq] at h1 h2 h3
        have hb : Bnd p := ⟨h1.1, h1.2, h2.1, h2.2, h3.1, h3.2⟩
        simp only [hb.others.1, hb.places.1, hb.prod, RightB, h1, h2, h3]
        simp
      · refine wps_pure (ent_val ?_)
        simp only [RightB, h1, h2, h3]; simp
    · refine wps_pure (ent_val ?_)
      simp only [RightB, h1, h2]; simp
  · refine wps_pure (ent_val ?_)
    simp only [RightB, h1]; simp
def SectorsI (p : G3) : Int := if RightB p then 5 + p.2.2 * p.2.1 else 0
theorem Bnd.sect {p : G3} (h : Bnd p) : w64 (5 + w64 (p.2.2 * p.2.1)) = 5 + p.2.2 * p.2.1 ∧ 12 ≤ p.2.2 * p.2.1 ∧ p.2.2 * p.2.1 ≤ 256 := by
  have h1 := h.r1
  have h2 := h.r4
  have h3 := h.s12
  have h4 := h.s64
  have h5 : p.2.2 * p.2.1 ≤ 64 * 4 := Int.mul_le_mul h4 h2 (by omega) (by omega)
  have h6 : 12 * 1 ≤ p.2.2 * p.2.1 := Int.mul_le_mul h3 h1 (by omega) (by omega)
  rw [w64_id (n := p.2.2 * p.2.1) (by omega) (by omega), w64_id (by omega) (by omega)]
  omega
theorem geo_Sectors_val {g : Fr} {H : HP} (p : G3) : Val g H (geo_Sectors p) (SectorsI p) := by
  unfold geo_Sectors
  repeat first | (with_reducible refine wps_val (geo_Right_val _) ?_) | (with_reducible refine wps_alloc fun _ => ?_) | (refine wps_ldG _ _ _ (by rfl) ?_)
  refine wps_ite (fun h1 => ?_) (fun h1 => ?_)
  · refine wps_pure (ent_val ?_)
    simp only [Bool.not_eq_true'] at h1
    simp [SectorsI, h1]
  · repeat refine wps_ld _ (by rfl) ?_
    refine wps_pure (ent_val ?_)
    have h1 : RightB p = true := by simpa using h1
    rw [(RightB.bnd h1).sect.1]
    simp [SectorsI, h1]
def FitsB (p m : G3) : Bool := m.2.2 == 0 || ((m.2.2 == 1 || m.2.2 == 2) && (decide (0 ≤ m.2.1) && decide (m.2.1 < p.1)))
theorem bank_fits_val {g : Fr} {H : HP} (p m : G3) : Val g H (bank_fits p m) (FitsB p m) := by
  unfold bank_fits
  apply val_eq
  · repeat (first
      | (with_reducible refine wps_alloc fun _ => ?_)
      | (refine wps_ld _ (by rfl) ?_)
      | ((with_reducible apply wps_val); apply val_ite; rotate_left; refine fun (_ : ¬ _) => ?_; rotate_right; refine fun (_ : _ = true) => ?_)
      | ((with_reducible apply val_ite); rotate_left; refine fun (_ : ¬ _) => ?_; rotate_right; refine fun (_ : _ = true) => ?_)
      | ((with_reducible apply wps_bindV); apply val_iteL; rotate_left; refine fun (_ : ¬ _) => ?_; rotate_right; refine fun (_ : _ = true) => ?_)
      | (with_reducible exact wps_pure (ent_val rfl)))
  · simp only [FitsB]
    by_cases h0 : m.2.2 = 0
    · simp [h0]
    · by_cases h1 : m.2.2 = 1
      · simp [h1]
      · by_cases h2 : m.2.2 = 2
        · simp [h2]
        · simp [h0, h1, h2]
end Go.Proofs.Ytldmeimebebllaa
namespace Go.Proofs.Ytldmeimebebllaa
open Go.Mo
set_option linter.unusedVariables false
def imp (p : Prop) (A : HP) : HP := ⟨fun o => p → A.p o, fun hl h hp => A.up hl (h hp)⟩
instance (p : Prop) (A : HP) [h : Pers A] : Pers (imp p A) := ⟨fun o ho hp => h.core o (ho hp)⟩
def bv (b : List Int) : List Value := b.map (Value.int .u8)
def byt (s : Slc) (b : List Int) : HP := rsl 1 s (bv b)
instance (s : Slc) (b : List Int) : Pers (byt s b) := by unfold byt; infer_instance
theorem bv_one (b : List Int) : ∀ v ∈ bv b, v.oneCell' = true := by
  intro v hv
  simp only [bv, List.mem_map] at hv
  obtain ⟨n, _, rfl⟩ := hv
  rfl
def seqp (l : List Slc) (f : Nat → List Int) : HP := al fun k : Nat => al fun s : Slc => imp (l[k]? = some s) (byt s (f k))
instance (l : List Slc) (f : Nat → List Int) : Pers (seqp l f) := by unfold seqp; infer_instance
theorem seqp_nil (A : HP) (f : Nat → List Int) : Ent A (seqp [] f) := fun o _ k s h => by simp at h
theorem seqp_get {l : List Slc} {f : Nat → List Int} {k : Nat} {s : Slc} (h : l[k]? = some s) : Ent (seqp l f) (byt s (f k)) := fun o ho => ho k s h
theorem seqp_snoc {A : HP} {l : List Slc} {f : Nat → List Int} {s : Slc} (h : Ent A (seqp l f)) (hs : Ent A (byt s (f l.length))) : Ent A (seqp (l ++ [s]) f) := fun o ho k t hk => by
  by_cases hlt : k < l.length
  · rw [List.getElem?_append_left hlt] at hk
    exact h o ho k t hk
  · have : k = l.length := by
      have := (List.getElem?_eq_some_iff.1 hk).1
      simp only [List.length_append, List.length_singleton] at this
      omega
    subst this
    simp at hk
    subst hk
    exact hs o ho
theorem seqp_set {A : HP} {l : List Slc} {f : Nat → List Int} {k : Nat} {s : Slc} {b : List Int} (h : Ent A (seqp l f)) (hs : Ent A (byt s b)) : Ent A (seqp (l.set k s) (fun j => if j = k then b else f j)) := fun o ho j t hj => by
  by_cases hjk : j = k
  · subst hjk
    rw [List.getElem?_set] at hj
    simp only [if_true] at hj
    split at hj
    · cases hj; simp only [if_true]; exact hs o ho
    · cases hj
  · rw [List.getElem?_set_ne (fun e => hjk e.symm)] at hj
    simp only [if_neg hjk]
    exact h o ho j t hj
def cachep (sc : Int → Slc) (c : Int → Option (List Int)) : HP := al fun k : Int => al fun b : List Int => imp (c k = some b) (byt (sc k) b)
instance (sc : Int → Slc) (c : Int → Option (List Int)) : Pers (cachep sc c) := by unfold cachep; infer_instance
theorem cachep_nil (A : HP) (sc : Int → Slc) : Ent A (cachep sc fun _ => none) := fun o _ k b h => by cases h
theorem cachep_get {sc : Int → Slc} {c : Int → Option (List Int)} {k : Int} {b : List Int} (h : c k = some b) : Ent (cachep sc c) (byt (sc k) b) := fun o ho => ho k b h
theorem cachep_put {A : HP} {sc : Int → Slc} {c : Int → Option (List Int)} {k : Int} {s : Slc} {b : List Int} (h : Ent A (cachep sc c)) (hs : Ent A (byt s b)) :
    Ent A (cachep (fun j => if j = k then s else sc j) (fun j => if j = k then some b else c j)) := fun o ho j b' hj => by
  by_cases hjk : j = k
  · subst hjk
    simp only [if_true] at hj ⊢
    cases hj
    exact hs o ho
  · simp only [if_neg hjk] at hj ⊢
    exact h o ho j b' hj
def bst : Nat → (Nat → HP) → HP
  | 0, _ => emp
  | n + 1, F => bst n F * F n
theorem bst_congr {n : Nat} {F F' : Nat → HP} (h : ∀ i, i < n → F i = F' i) : bst n F = bst n F' := by
  induction n with
  | zero => rfl
  | succ n ih => simp only [bst]; rw [ih fun i hi => h i (by omega), h n (by omega)]
def hole (j : Nat) (F : Nat → HP) : Nat → HP := fun i => if i = j then emp else F i
theorem bst_focus {n j : Nat} (F : Nat → HP) (hj : j < n) : bst n F = bst n (hole j F) * F j := by
  induction n with
  | zero => omega
  | succ n ih =>
    simp only [bst]
    by_cases h : j = n
    · subst h
      have : bst j (hole j F) = bst j F := bst_congr fun i hi => by simp only [hole]; rw [if_neg (by omega)]
      rw [this]
      simp only [hole, if_true, star_emp]
    · rw [ih (by omega), star_right_comm]
      congr 1
      simp only [hole]
      rw [if_neg (fun e => h e.symm)]
theorem hole_congr {n j : Nat} {F F' : Nat → HP} (h : ∀ i, i < n → i ≠ j → F i = F' i) : bst n (hole j F) = bst n (hole j F') := bst_congr fun i hi => by
  simp only [hole]
  split
  · rfl
  · rename_i hne; exact h i hi hne
theorem bst_put {n j : Nat} {F F' : Nat → HP} (hj : j < n) (h : ∀ i, i < n → i ≠ j → F i = F' i) : bst n F' = bst n (hole j F) * F' j := by
  rw [bst_focus F' hj, hole_congr h]
theorem ent_bst {n j : Nat} {F F' : Nat → HP} {B H : HP} (hj : j < n) (h : ∀ i, i < n → i ≠ j → F i = F' i) (h' : Ent H (B * bst n (hole j F) * F' j)) : Ent H (B * bst n F') := by
  rw [bst_put hj h, ← star_assoc]; exact h'
structure Dk where
  lasts : Nat → List Int
  cached : Int → Option (List Int)
  failed : Bool
  count : Int
def Dk.ok (D : Dk) (ns : Nat) : Prop := (∀ k, k < ns → (D.lasts k).length = 64) ∧ ∀ j b, D.cached j = some b → b.length = 64 ∧ 0 ≤ j ∧ j < ns
structure Rk where
  n : Nat
  ns : Nat
  dk : Nat → Dk
  count : Int
  off : Bool
def pv (b : Nat) : Value := .pointer (some ⟨b, 0, none⟩)
def dskX (ns p : Nat) (D : Dk) (ls : Slc) (mb : Nat) (sl : List Slc) (sc : Int → Slc) : HP :=
  pr (sl.length = ns ∧ ls.len = ns ∧ D.ok ns) * (seqp sl D.lasts * cachep sc D.cached) * imap mb (fun j => (D.cached j).map fun _ => vS (sc j)) * own 1 ls (sl.map vS) * pc p [vS ls, .map (some mb), .bool D.failed, .int .i64 D.count]
def dskAt (ns p : Nat) (D : Dk) : HP := ex fun ls : Slc => ex fun mb : Nat => ex fun sl : List Slc => ex fun sc : Int → Slc => dskX ns p D ls mb sl sc
def rackF (ns : Nat) (dk : Nat → Dk) (ps : List Nat) : Nat → HP := fun j => dskAt ns (ps.getD j 0) (dk j)
def rackP (rb : Nat) (R : Rk) (ds : Slc) (ps : List Nat) : HP :=
  pr (ps.length = R.n ∧ ds.len = R.n ∧ R.n ≤ 17 ∧ R.ns ≤ 4096) * bst R.n (rackF R.ns R.dk ps) * own 1 ds (ps.map pv) * pc rb [vS ds, .int .i64 R.ns, .int .i64 R.count, .bool R.off]
def rack (rb : Nat) (R : Rk) : HP := ex fun ds : Slc => ex fun ps : List Nat => rackP rb R ds ps
def noughts : List Int := List.replicate 64 0
def Dk.new : Dk := ⟨fun _ => noughts, fun _ => none, false, -1⟩
def Rk.new (n s : Nat) : Rk := ⟨n, s, fun _ => Dk.new, -1, false⟩
abbrev ptr (b : Nat) : Option Addr := some ⟨b, 0, none⟩
end Go.Proofs.Ytldmeimebebllaa
namespace Go.Proofs.Ytldmeimebebllaa
open Go.Mo
set_option linter.unusedVariables false
theorem range_add1 {n : Nat} {i : Int} (h : i = (n : Int)) (h2 : n < 4611686018427387904) : w64 (i + 1) = ((n + 1 : Nat) : Int) := by
  subst h; rw [w64_id] <;> omega
theorem bv_noughts : bv noughts = List.replicate 64 (Value.int .u8 0) := by simp [bv, noughts]
def dwd (p0_disks p1_sectors : Int) (x24 : Nat) : Int → HP := fun i => ex fun ds : Slc => ex fun ps : List Nat =>
  pr (i = (ps.length : Int) ∧ ps.length ≤ p0_disks.toNat ∧ ds.len = ps.length) * bst ps.length (rackF p1_sectors.toNat (fun _ => Dk.new) ps) * own 1 ds (ps.map pv) * pc x24 [vS ds, .int .i64 p1_sectors, .int .i64 (-1), .bool false]
def dws (p1_sectors : Int) (F : HP) (d m : Nat) : Int → HP := fun k => ex fun ls : Slc => ex fun sl : List Slc =>
  pr (k = (sl.length : Int) ∧ sl.length ≤ p1_sectors.toNat ∧ ls.len = sl.length) * F * seqp sl (fun _ => noughts) * imap m (fun _ => none) * own 1 ls (sl.map vS) * pc d [vS ls, .map (some m), .bool false, .int .i64 (-1)]
theorem device_New_spec {g : Fr} (n s : Int) : wps g emp (device_New n s) (fun x =>
    if n < 1 ∨ n > 17 ∨ s < 1 ∨ s > 4096 then pr (x = (none, 10)) else ex fun rb => pr (x = (ptr rb, 0)) * rack rb (Rk.new n.toNat s.toNat)) := by
  unfold device_New
  repeat first | ((with_reducible apply wps_val); apply val_ite; rotate_left; refine fun (_ : ¬ _) => ?_; rotate_right; refine fun (_ : _ = true) => ?_) | (with_reducible exact wps_pure (ent_val rfl))
  refine wps_ite (fun h1 => ?_) (fun h1 => ?_)
  · refine wps_pure ?_
    rw [if_pos]
    · exact fun _ _ => rfl
    · by_cases a1 : n < 1
      · exact .inl a1
      · by_cases a2 : n > 17
        · exact .inr (.inl a2)
        · by_cases a3 : s < 1
          · exact .inr (.inr (.inl a3))
          · by_cases a4 : s > 4096
            · exact .inr (.inr (.inr a4))
            · simp [a1, a2, a3, a4] at h1
  · have hb : ¬ (n < 1 ∨ n > 17 ∨ s < 1 ∨ s > 4096) := by
      intro hx
      apply h1
      rcases hx with a | a | a | a <;> simp [a]
    simp only [if_neg hb]
    obtain ⟨N, rfl⟩ : ∃ N : Nat, n = (N : Int) := ⟨n.toNat, by omega⟩
    obtain ⟨S, rfl⟩ : ∃ S : Nat, s = (S : Int) := ⟨s.toNat, by omega⟩
    have hN : N ≤ 17 := by omega
    have hS : S ≤ 4096 := by omega
    refine wps_alloc fun x24 => ?_
    refine wps_loop (dwd N S x24) (fun i => (N - i).toNat) ?_ fun i => ?_
    · refine ent_ex nilS (ent_ex [] (ent_pickC (by rfl) (ent_own0 ?_)))
      exact ent_prr (by simp [nilS]) (ent_emp _)
    · unfold dwd
      refine wps_ex fun ds => wps_ex fun ps => wps_prP fun ⟨hi, hle, hlen⟩ => ?_
      refine wps_ite (fun h2 => ?_) (fun h2 => ?_)
      · have hlt : ps.length < N := by simp only [decide_eq_true_eq] at h2; omega
        repeat first | (with_reducible refine wps_alloc fun _ => ?_) | (with_reducible refine wps_newO fun _ => ?_)
        rename_i m d
        refine wps_loop (dws S (bst ps.length (rackF (S : Int).toNat (fun _ => Dk.new) ps) * own 1 ds (ps.map pv) * pc x24 [vS ds, .int .i64 S, .int .i64 (-1), .bool false]) d m) (fun k => (S - k).toNat) ?_ fun k => ?_
        · refine ent_ex nilS (ent_ex [] (ent_pickC (by rfl) (ent_own0 ?_)))
          refine ent_swap (imap_new m) (ent_pick (ent_pers ?_ (seqp_nil _ _)))
          exact ent_prr (by simp [nilS]) (Ent.of_eq (by simp only [emp_star]))
        · unfold dws
          refine wps_ex fun ls => wps_ex fun sl => wps_prP fun ⟨hk, hsle, hslen⟩ => ?_
          refine wps_ite (fun h3 => ?_) (fun h3 => ?_)
          · have hslt : sl.length < S := by simp only [decide_eq_true_eq] at h3; omega
            repeat first | (with_reducible refine wps_stepAlloc fun _ => ?_) | (refine wps_ldI _ (by rfl) ?_) | (with_reducible refine wps_regionH ?_)
            rename_i x c
            refine wps_app 1 [Value.slice (some ⟨x, 0, none⟩) 64 64] rfl (by decide) (rsl_pc rfl) (by simp [Value.oneCell']) (by (try dsimp only); omega) fun ls' hls => ?_
            repeat refine wps_st (by simp) ?_
            refine wps_pure (ent_prr (by rw [range_add1 hk (by omega)]; omega) (ent_ex ls' (ent_ex (sl ++ [⟨some ⟨x, 0, none⟩, 64, 64⟩]) (ent_pickC (by rfl) (ent_pickS (by simp [vS]) (ent_pickM rfl ?_))))))
            refine ent_swap (A := pc x (List.replicate 64 (Value.int .u8 0))) (B := byt ⟨some ⟨x, 0, none⟩, 64, 64⟩ noughts) (Ent.trans (Ent.trans (pc_own (n := 64) (z := 1) (by simp)) (own_rsl _ _ _)) (Ent.of_eq (by rw [byt, bv_noughts]))) ?_
            exact ent_join (A := seqp sl fun _ => noughts) (B := byt ⟨some ⟨x, 0, none⟩, 64, 64⟩ noughts) (seqp_snoc (ent_left _ _) (ent_right _ _)) (ent_prr ⟨by rw [range_add1 hk (by omega)]; simp, by simp; omega, by simp [hls, hslen]⟩ ent_drop)
          · have hse : sl.length = S := by simp only [decide_eq_true_eq] at h3; omega
            refine wps_mapR ?_
            repeat first | (with_reducible refine wps_alloc fun _ => ?_) | (refine wps_ld _ (by rfl) ?_)
            rename_i c
            refine wps_app 1 [pv d] rfl (by decide) (rsl_pc rfl) (by simp [Value.oneCell', pv]) (by (try dsimp only); omega) fun ds' hds => ?_
            repeat refine wps_st (by simp) ?_
            refine wps_pure (ent_prr (by rw [range_add1 hi (by omega)]; omega) (ent_ex ds' (ent_ex (ps ++ [d]) (ent_pickC (by rfl) (ent_pickS (by simp [pv]) ?_)))))
            have hdk : Ent (seqp sl (fun _ => noughts) * imap m (fun _ => none) * own 1 ls (sl.map vS) * pc d [vS ls, .map (some m), .bool false, .int .i64 (-1)]) (dskAt S d Dk.new) := by
              refine ent_ex ls (ent_ex m (ent_ex sl (ent_ex (fun _ => nilS) (ent_pickC (by rfl) (ent_pick (ent_pickM (by rfl) ?_))))))
              refine ent_prr ⟨hse, by omega, fun k _ => by simp [Dk.new, noughts], fun j b hj => by cases hj⟩ ?_
              exact ent_pers (Ent.refl _) (cachep_nil _ _)
            have hbb : bst (ps ++ [d]).length (rackF (S : Int).toNat (fun _ => Dk.new) (ps ++ [d])) = bst ps.length (rackF (S : Int).toNat (fun _ => Dk.new) ps) * dskAt S d Dk.new := by
              rw [List.length_append, List.length_singleton]
              simp only [bst]
              congr 1
              · exact bst_congr fun i hi => by simp [rackF, List.getD_eq_getElem?_getD, List.getElem?_append_left hi]
              · simp [rackF, List.getD_eq_getElem?_getD]
            rw [hbb]
            refine ent_prr ⟨by rw [range_add1 hi (by omega)]; simp, by simp; omega, by simp [hds, hlen]⟩ ?_
            refine Ent.trans (B := bst ps.length (rackF (S : Int).toNat (fun _ => Dk.new) ps) * (seqp sl (fun _ => noughts) * imap m (fun _ => none) * own 1 ls (sl.map vS) * pc d [vS ls, .map (some m), .bool false, .int .i64 (-1)])) ?_ (Ent.starr hdk)
            simp only [← star_assoc]
            refine ent_pick (ent_pick (ent_pick (ent_pick (ent_drop))))
      · have hpe : ps.length = N := by simp only [decide_eq_true_eq] at h2; omega
        refine wps_mapR (wps_pure (ent_ex x24 (ent_prr rfl (ent_ex ds (ent_ex ps (ent_pickC (by rfl) (ent_pick ?_)))))))
        exact ent_prr ⟨hpe, by rw [hlen, hpe]; rfl, hN, hS⟩ (by subst hpe; exact ent_pick1 (A := bst ps.length (rackF (S : Int).toNat (fun _ => Dk.new) ps)))
end Go.Proofs.Ytldmeimebebllaa
namespace Go.Proofs.Ytldmeimebebllaa
open Go.Mo
set_option linter.unusedVariables false
def diskV (R : Rk) (ps : List Nat) (k s : Int) : Option Addr × Int :=
  if R.off then (none, 12) else if k < 0 ∨ k ≥ R.n ∨ s < 0 ∨ s ≥ R.ns then (none, 11) else (ptr (ps.getD k.toNat 0), 0)
variable {g : Fr}
theorem or_tree {a b c d : Prop} [Decidable a] [Decidable b] [Decidable c] [Decidable d] :
    ((if (if (if decide a = true then true else decide b) = true then true else decide c) = true then true else decide d) = true) = (a ∨ b ∨ c ∨ d) := by
  by_cases ha : a <;> by_cases hb : b <;> by_cases hc : c <;> by_cases hd : d <;> simp [ha, hb, hc, hd]
theorem device_Rack_disk_val (rb : Nat) (R : Rk) (ds : Slc) (ps : List Nat) (k s : Int) : Val g (rackP rb R ds ps) (device_Rack_disk (ptr rb) k s) (diskV R ps k s) := by
  unfold device_Rack_disk rackP
  refine wps_factP fun ⟨h1, h2, h17, hns⟩ => ?_
  repeat first | (with_reducible refine wps_nil ?_) | (refine wps_ld _ (by rfl) ?_)
  refine wps_ite (fun ho => wps_pure (ent_val ?_)) (fun ho => ?_)
  · simp [diskV, ho]
  · repeat first | (with_reducible refine wps_nil ?_) | (refine wps_ld _ (by rfl) ?_) | ((with_reducible apply wps_val); apply val_ite; rotate_left; refine fun (_ : ¬ _) => ?_; rotate_right; refine fun (_ : _ = true) => ?_) | (with_reducible exact wps_pure (ent_val rfl))
    refine wps_ite (fun hx => wps_pure (ent_val ?_)) (fun hx => ?_)
    · rw [or_tree, h2] at hx
      simp only [diskV, if_neg ho, if_pos hx]
    · rw [or_tree, h2] at hx
      repeat first | (with_reducible refine wps_nil ?_) | (refine wps_ld _ (by rfl) ?_)
      have hk : k.toNat < R.n := by omega
      refine wps_rdS k.toNat (ptr (ps.getD k.toNat 0)) (by omega) ?_ ?_
      · rw [List.getElem?_map, List.getElem?_eq_getElem (by omega)]
        simp [pv, List.getD_eq_getElem?_getD, List.getElem?_eq_getElem (show k.toNat < ps.length by omega)]
      · refine wps_pure (ent_val ?_)
        simp only [diskV, if_neg ho, if_neg hx]
abbrev Dk.tick (D : Dk) : Dk := { D with failed := if D.failed = true then true else D.count == 0, count := maxI (w64 (D.count - 1)) (-1) }
def Rk.ticked (R : Rk) : Rk := if R.count = 0 then { R with off := true } else { R with count := maxI (w64 (R.count - 1)) (-1), dk := fun j => (R.dk j).tick }
def Rk.part (R : Rk) (i : Nat) : Nat → Dk := fun j => if j < i then (R.dk j).tick else R.dk j
theorem device_Rack_call_spec (rb : Nat) (R : Rk) (ds : Slc) (ps : List Nat) : wps g (rackP rb R ds ps) (device_Rack_call (ptr rb)) (fun b => pr (b = (R.count != 0)) * rackP rb R.ticked ds ps) := by
  unfold device_Rack_call rackP
  refine wps_prP fun ⟨h1, h2, h17, hns⟩ => ?_
  repeat first | (with_reducible refine wps_nil ?_) | (refine wps_ld _ (by rfl) ?_)
  refine wps_ite (fun ho => ?_) (fun ho => ?_)
  · repeat first | (with_reducible refine wps_nil ?_) | (refine wps_st (by simp) ?_)
    have ho' : R.count = 0 := by simpa using ho
    refine wps_pure (ent_prr (by simp [ho']) ?_)
    simp only [Rk.ticked, if_pos ho']
    refine ent_pickC (by simp [ho']) (ent_pick (ent_pick (ent_prq ⟨h1, h2, h17, hns⟩)))
  · repeat first | (with_reducible refine wps_nil ?_) | (refine wps_ld _ (by rfl) ?_) | (refine wps_st (by simp) ?_)
    have ho' : R.count ≠ 0 := by simpa using ho
    refine wps_loop (fun i => ex fun n : Nat => pr (i = (n : Int) ∧ n ≤ R.n) * bst R.n (rackF R.ns (R.part n) ps) * own 1 ds (ps.map pv) * pc rb [vS ds, .int .i64 R.ns, .int .i64 (maxI (w64 (R.count - 1)) (-1)), .bool R.off]) (fun i => (R.n - i).toNat) ?_ fun i => ?_
    · refine ent_ex 0 (ent_pickC (by rfl) (ent_pick ?_))
      refine ent_prr ⟨rfl, by omega⟩ ?_
      exact Ent.trans (ent_drop (B := bst R.n (rackF R.ns R.dk ps))) (Ent.of_eq (bst_congr fun j _ => by simp [rackF, Rk.part]))
    · refine wps_ex fun n => wps_prP fun ⟨hi, hle⟩ => ?_
      refine wps_ite (fun hc => ?_) (fun hc => ?_)
      · have hlt : n < R.n := by simp only [decide_eq_true_eq, h2] at hc; omega
        refine wps_rdS n (ptr (ps.getD n 0)) (by omega) ?_ ?_
        · rw [List.getElem?_map, List.getElem?_eq_getElem (by omega)]
          simp [pv, List.getD_eq_getElem?_getD, List.getElem?_eq_getElem (show n < ps.length by omega)]
        · rw [bst_focus _ hlt]
          simp only [rackF, dskAt, dskX]
          refine wps_exP fun ls => wps_exP fun mb => wps_exP fun sl => wps_exP fun sc => wps_prP fun hd => ?_
          repeat (first
            | (with_reducible refine wps_nil ?_)
            | (refine wps_ld _ (by rfl) ?_)
            | (refine wps_st (by simp) ?_)
            | ((with_reducible apply wps_val); apply val_ite; rotate_left; refine fun (_ : ¬ _) => ?_; rotate_right; refine fun (_ : _ = true) => ?_)
            | (with_reducible exact wps_pure (ent_val rfl)))
          refine wps_pure (ent_prr (by rw [range_add1 hi (by omega)]; omega) (ent_ex (n + 1) (ent_pickC (by rfl) (ent_pick ?_))))
          have hpart : ∀ i, i < R.n → i ≠ n → rackF R.ns (R.part n) ps i = rackF R.ns (R.part (n + 1)) ps i := by
            intro i _ hne
            have : i < n + 1 ↔ i < n := by omega
            simp only [rackF, Rk.part, this]
          refine ent_bst hlt hpart ?_
          have hpn : R.part (n + 1) n = (R.part n n).tick := by simp [Rk.part]
          simp only [rackF, hpn, dskAt]
          refine ent_exr ls ?_
          refine ent_exr mb ?_
          refine ent_exr sl ?_
          refine ent_exr sc ?_
          simp only [dskX, ← star_assoc]
          exact ent_pickC (by rfl) (ent_pick (ent_pick (ent_pick (ent_pick (ent_prx hd (ent_pick (ent_prq ⟨range_add1 hi (by omega), by omega⟩)))))))
      · have hne : n = R.n := by simp only [decide_eq_true_eq, h2] at hc; omega
        refine wps_mapR (wps_pure ?_)
        refine ent_prr (by simp [ho']) ?_
        simp only [Rk.ticked, if_neg ho']
        refine ent_pickC (by rfl) (ent_pick ?_)
        rw [bst_congr (F := rackF R.ns (fun j => (R.dk j).tick) ps) (F' := rackF R.ns (R.part n) ps) fun j hj => by simp [rackF, Rk.part, hne, hj]]
        exact ent_pick (ent_prq ⟨h1, h2, h17, hns⟩)
theorem rackP_focus (rb : Nat) (R : Rk) (ds : Slc) (ps : List Nat) {j : Nat} (hj : j < R.n) : rackP rb R ds ps =
    pr (ps.length = R.n ∧ ds.len = R.n ∧ R.n ≤ 17 ∧ R.ns ≤ 4096) * bst R.n (hole j (rackF R.ns R.dk ps)) * own 1 ds (ps.map pv) * pc rb [vS ds, .int .i64 R.ns, .int .i64 R.count, .bool R.off] * dskAt R.ns (ps.getD j 0) (R.dk j) := by
  unfold rackP
  rw [bst_focus _ hj]
  simp only [← star_assoc]
  rw [star_right_comm _ (rackF R.ns R.dk ps j), star_right_comm _ (rackF R.ns R.dk ps j)]
  rfl
theorem rackP_val {α : Type} {rb : Nat} {R : Rk} {ds : Slc} {ps : List Nat} {j : Nat} {m : M α} {v : α} (hj : j < R.n) (h : ∀ g', Val g' (dskAt R.ns (ps.getD j 0) (R.dk j)) m v) : Val g (rackP rb R ds ps) m v :=
  val_frame h (rackP_focus rb R ds ps hj)
theorem pv_get {ps : List Nat} {j : Nat} (h : j < ps.length) : (ps.map pv)[j]? = some (Value.pointer (ptr (ps.getD j 0))) := by
  rw [List.getElem?_map, List.getElem?_eq_getElem h]
  simp [pv, List.getD_eq_getElem?_getD, List.getElem?_eq_getElem h]
theorem dsk_failed {ns p : Nat} {D : Dk} : Val g (dskAt ns p D) (ld Value.bool ⟨p, 2, none⟩) D.failed := by
  show wps g _ (bindM (ld Value.bool ⟨p, 2, none⟩) pureM) _
  unfold dskAt dskX
  refine wps_ex fun ls => wps_ex fun mb => wps_ex fun sl => wps_ex fun sc => ?_
  repeat refine wps_ld _ (by rfl) ?_
  exact wps_pure (ent_prr rfl (ent_ex ls (ent_ex mb (ent_ex sl (ent_ex sc (Ent.refl _))))))
theorem len_of {H : HP} {s : Slc} {b : List Int} (h : Ent H (byt s b)) : Ent H (pr (b.length = s.len)) := Ent.trans h (Ent.trans (rsl_len 1 s (bv b)) fun o ho => by
  have : (bv b).length = s.len * 1 := ho
  show b.length = s.len
  simpa [bv] using this)
theorem slices_Clone_b_spec {H : HP} {s : Slc} {b : List Int} (hx : Ent H (byt s b)) (hb : b.length ≤ 1099511627776) : wps g H (slices_Clone_b s) (fun s' => H * own 1 s' (bv b)) := by
  unfold slices_Clone_b
  refine wps_fact (len_of hx) fun hl => ?_
  refine wps_ite (fun hn => ?_) (fun hn => ?_)
  · refine wps_pure ?_
    obtain ⟨base, len, cap⟩ := s
    have : base = none := by simpa using hn
    subst this
    refine Ent.trans (Ent.of_eq (star_emp H).symm) ?_
    have hb0 : Ent H (pr (b = [])) := Ent.trans hx fun o ho => by
      rcases ho with ho | ⟨ad, all, ho⟩
      · have : bv b = [] := ho.2
        simpa [bv, pr] using this
      · have := (ent_left _ _ o ho).1
        cases this
    refine ent_pure (p := b = []) (Ent.trans (ent_left _ _) hb0) fun e => ?_
    subst e
    exact Ent.starr (own_nil 1)
  · repeat with_reducible refine wps_alloc fun _ => ?_
    rename_i c
    refine wps_swap (A := pc c []) (B := own 1 ⟨some ⟨c, 0, none⟩, 0, 0⟩ []) (pc_own (n := 0) (z := 1) rfl) ?_
    refine wps_app 1 (bv b) rfl (by decide) (Ent.trans (ent_left _ _) hx) (bv_one b) (by (try dsimp only); omega) fun s' hs' => ?_
    exact wps_pure (Ent.of_eq (by simp))
def Rk.gate (R : Rk) (k s size : Int) : Int :=
  if R.off then 12 else if k < 0 ∨ k ≥ R.n ∨ s < 0 ∨ s ≥ R.ns then 11 else if size ≠ 64 then 11 else if R.count = 0 then 12 else if (R.ticked.dk k.toNat).failed then 13 else 0
def Rk.gated (R : Rk) (k s size : Int) : Rk := if R.off = true ∨ (k < 0 ∨ k ≥ R.n ∨ s < 0 ∨ s ≥ R.ns) ∨ size ≠ 64 then R else R.ticked
def gateV (R : Rk) (ps : List Nat) (k s size : Int) : Option Addr × Int := (if R.gate k s size = 0 then ptr (ps.getD k.toNat 0) else none, R.gate k s size)
theorem device_Rack_counted_spec (rb : Nat) (R : Rk) (ds : Slc) (ps : List Nat) (k s size : Int) : wps g (rackP rb R ds ps) (device_Rack_counted (ptr rb) k s size)
    (fun x => pr (x = gateV R ps k s size) * rackP rb (R.gated k s size) ds ps) := by
  unfold device_Rack_counted
  refine wps_val (device_Rack_disk_val _ _ _ _ _ _) ?_
  by_cases ho : R.off = true
  · have hd : diskV R ps k s = (none, 12) := by simp [diskV, ho]
    rw [hd]
    refine wps_ite (fun _ => wps_pure (ent_prr ?_ (Ent.of_eq ?_))) (fun h => absurd rfl h)
    · simp [gateV, Rk.gate, ho]
    · simp [Rk.gated, ho]
  by_cases hr : k < 0 ∨ k ≥ R.n ∨ s < 0 ∨ s ≥ R.ns
  · have hd : diskV R ps k s = (none, 11) := by simp only [diskV, if_neg ho, if_pos hr]
    rw [hd]
    refine wps_ite (fun _ => wps_pure (ent_prr ?_ (Ent.of_eq ?_))) (fun h => absurd rfl h)
    · simp only [gateV, Rk.gate, if_neg ho, if_pos hr]; rfl
    · simp only [Rk.gated, hr, true_or, or_true, if_true]
  have hd : diskV R ps k s = (ptr (ps.getD k.toNat 0), 0) := by simp only [diskV, if_neg ho, if_neg hr]
  rw [hd]
  refine wps_ite (fun h => absurd h (by simp)) (fun _ => ?_)
  refine wps_ite (fun hs => wps_pure (ent_prr ?_ (Ent.of_eq ?_))) (fun hs => ?_)
  · have hs' : size ≠ 64 := by simpa using hs
    simp only [gateV, Rk.gate, if_neg ho, if_neg hr, if_pos hs']; rfl
  · have hs' : size ≠ 64 := by simpa using hs
    simp only [Rk.gated, hs', ne_eq, not_false_eq_true, or_true, if_true]
  have hs' : ¬ size ≠ 64 := by simpa using hs
  have hgd : R.gated k s size = R.ticked := by
    rw [Rk.gated, if_neg]
    rintro (h | h | h)
    · exact ho h
    · exact hr h
    · exact hs' h
  rw [hgd]
  refine wps_bind (device_Rack_call_spec _ _ _ _) fun b => wps_pr fun hb => ?_
  subst hb
  refine wps_ite (fun hc => wps_pure (ent_prr ?_ (Ent.refl _))) (fun hc => ?_)
  · have hc' : R.count = 0 := by simpa using hc
    simp only [gateV, Rk.gate, if_neg ho, if_neg hr, if_neg hs', if_pos hc']; rfl
  have hc' : ¬ R.count = 0 := by simpa using hc
  have htn : R.ticked.n = R.n := by simp [Rk.ticked, hc']
  have hlt : k.toNat < R.ticked.n := by omega
  repeat with_reducible refine wps_nil ?_
  refine wps_val (rackP_val (j := k.toNat) hlt fun g' => dsk_failed) ?_
  refine wps_ite (fun hf => wps_pure (ent_prr ?_ (Ent.refl _))) (fun hf => wps_pure (ent_prr ?_ (Ent.refl _)))
  · simp only [gateV, Rk.gate, if_neg ho, if_neg hr, if_neg hs', if_neg hc', if_pos hf]; rfl
  · simp only [gateV, Rk.gate, if_neg ho, if_neg hr, if_neg hs', if_neg hc', if_neg hf]; rfl
def Rk.put (R : Rk) (k s : Int) (b : List Int) : Rk := { R with dk := fun j => if j = k.toNat then { R.dk j with cached := fun i => if i = s then some b else (R.dk j).cached i } else R.dk j }
def Rk.write (R : Rk) (k s : Int) (b : List Int) : Rk := if R.gate k s b.length = 0 then (R.gated k s b.length).put k s b else R.gated k s b.length
theorem gate_ok {R : Rk} {k s size : Int} (h : R.gate k s size = 0) : ¬ R.off = true ∧ ¬ (k < 0 ∨ k ≥ R.n ∨ s < 0 ∨ s ≥ R.ns) ∧ size = 64 ∧ R.count ≠ 0 ∧ R.gated k s size = R.ticked := by
  unfold Rk.gate at h
  by_cases ho : R.off = true
  · rw [if_pos ho] at h; cases h
  rw [if_neg ho] at h
  by_cases hr : k < 0 ∨ k ≥ R.n ∨ s < 0 ∨ s ≥ R.ns
  · rw [if_pos hr] at h; cases h
  rw [if_neg hr] at h
  by_cases hs : size ≠ 64
  · rw [if_pos hs] at h; cases h
  rw [if_neg hs] at h
  by_cases hc : R.count = 0
  · rw [if_pos hc] at h; cases h
  refine ⟨ho, hr, by simpa using hs, hc, ?_⟩
  rw [Rk.gated, if_neg]
  rintro (h | h | h)
  · exact ho h
  · exact hr h
  · exact hs h
theorem device_Rack_Write_spec {H : HP} (rb : Nat) (R : Rk) (ds : Slc) (ps : List Nat) (k s : Int) (x : Slc) (b : List Int) (hx : Ent H (byt x b)) (hb : b.length ≤ 1099511627776) :
    wps g (H * rackP rb R ds ps) (device_Rack_Write (ptr rb) k s x) (fun e => pr (e = R.gate k s b.length) * H * rackP rb (R.write k s b) ds ps) := by
  unfold device_Rack_Write
  refine wps_fact (Ent.trans (ent_left _ _) (len_of hx)) fun hl => ?_
  rw [← hl]
  refine wps_call (fun _ => device_Rack_counted_spec rb R ds ps k s b.length) (Ent.refl _) fun x => ?_
  rw [← star_assoc]
  refine wps_prP fun he => ?_
  subst he
  by_cases h0 : R.gate k s b.length = 0
  · obtain ⟨ho, hr, hs, hc, hgd⟩ := gate_ok h0
    refine wps_ite (fun _ => ?_) (fun h => absurd (by simp [gateV, h0]) h)
    have htn : R.ticked.n = R.n := by simp [Rk.ticked, hc]
    have hlt : k.toNat < R.ticked.n := by omega
    rw [hgd, rackP_focus rb R.ticked ds ps hlt]
    unfold dskAt dskX
    refine wps_exP fun ls => wps_exP fun mb => wps_exP fun sl => wps_exP fun sc => wps_prP fun hd => ?_
    have hgv : (gateV R ps k s b.length).1 = ptr (ps.getD k.toNat 0) := by simp [gateV, h0]
    rw [hgv]
    repeat first | (with_reducible refine wps_nil ?_) | (refine wps_ldI _ (by rfl) ?_) | (with_reducible refine wps_regionH ?_)
    refine wps_step1 (slices_Clone_b_spec (Ent.trans (ent_drop (B := H)) hx) hb) fun s' => ?_
    refine wps_updS (wps_pure ?_)
    have hw : R.write k s b = R.ticked.put k s b := by simp only [Rk.write, if_pos h0, hgd]
    have hgv2 : (gateV R ps k s b.length).2 = R.gate k s b.length := rfl
    rw [hw, hgv2, rackP_focus rb (R.ticked.put k s b) ds ps hlt]
    have hho : bst R.ticked.n (hole k.toNat (rackF R.ticked.ns R.ticked.dk ps)) = bst R.ticked.n (hole k.toNat (rackF R.ticked.ns (R.ticked.put k s b).dk ps)) := hole_congr fun i _ hne => by
      simp only [rackF, Rk.put, if_neg hne]
    rw [hho]
    have hdk : (R.ticked.put k s b).dk k.toNat = { R.ticked.dk k.toNat with cached := fun i => if i = s then some b else (R.ticked.dk k.toNat).cached i } := by simp [Rk.put]
    rw [hdk]
    generalize R.ticked.dk k.toNat = D at *
    simp only [dskAt, ← star_assoc]
    refine ent_exr ls ?_
    refine ent_exr mb ?_
    refine ent_exr sl ?_
    refine ent_exr (fun j => if j = s then s' else sc j) ?_
    simp only [dskX, ← star_assoc, Rk.put]
    have him : (fun i => if i = s then some (Value.slice s'.base s'.len s'.cap) else Option.map (fun _ => vS (sc i)) (D.cached i)) = fun j => Option.map (fun _ => vS (if j = s then s' else sc j)) (if j = s then some b else D.cached j) := by
      funext i
      by_cases hi : i = s <;> simp [hi, vS]
    refine ent_pickC (by rfl) (ent_pick (ent_pickM him ?_))
    refine ent_swap (A := own 1 s' (bv b)) (own_rsl _ _ _) ?_
    refine ent_join (A := cachep sc D.cached) (B := rsl 1 s' (bv b)) (cachep_put (ent_left _ _) (ent_right _ _)) ?_
    refine ent_pick (ent_prx ⟨hd.1, hd.2.1, hd.2.2.1, fun j b' hj => ?_⟩ ?_)
    · by_cases hjs : j = s
      · subst hjs; have : R.ticked.ns = R.ns := by simp [Rk.ticked, hc]
        simp only [if_true, Option.some.injEq] at hj
        subst hj
        rw [this]; omega
      · simp only [if_neg hjs] at hj; exact hd.2.2.2 j b' hj
    · refine ent_pickC (by rfl) (ent_pick (ent_pick (ent_pick ?_)))
      exact ent_pick (ent_prq trivial)
  · refine wps_ite (fun h => absurd (by simpa [gateV] using h) h0) (fun _ => wps_pure ?_)
    simp only [Rk.write, if_neg h0]
    exact ent_pick (ent_prr rfl ent_drop)
def Rk.failedB (R : Rk) (k : Int) : Bool := if 0 ≤ k ∧ k < R.n then (R.dk k.toNat).failed else false
theorem device_Rack_Failed_val (rb : Nat) (R : Rk) (ds : Slc) (ps : List Nat) (k : Int) : Val g (rackP rb R ds ps) (device_Rack_Failed (ptr rb) k) (R.failedB k) := by
  unfold device_Rack_Failed rackP
  refine wps_factP fun ⟨h1, h2, h17, hns⟩ => ?_
  refine wps_val (v := decide (0 ≤ k ∧ k < R.n)) ?_ ?_
  · apply val_eq
    · repeat first | (with_reducible refine wps_nil ?_) | (refine wps_ld _ (by rfl) ?_) | ((with_reducible apply val_ite); rotate_left; refine fun (_ : ¬ _) => ?_; rotate_right; refine fun (_ : _ = true) => ?_) | (with_reducible exact wps_pure (ent_val rfl))
    · rw [h2]; by_cases h : 0 ≤ k <;> simp [h]
  · by_cases hk : 0 ≤ k ∧ k < R.n
    · simp only [hk, and_self, decide_true, if_true, Rk.failedB, bindM_assoc]
      repeat first | (with_reducible refine wps_nil ?_) | (refine wps_ld _ (by rfl) ?_)
      refine wps_rdS k.toNat (ptr (ps.getD k.toNat 0)) (by omega) (pv_get (by omega)) ?_
      repeat with_reducible refine wps_nil ?_
      refine wps_val (rackP_val (rb := rb) (ds := ds) (j := k.toNat) (by omega) fun g' => dsk_failed) ?_
      repeat first | (with_reducible refine wps_bindpure ?_) | (with_reducible exact wps_pure (ent_val rfl))
    · simp only [hk, decide_false, Rk.failedB, if_false, Bool.false_eq_true]
      repeat first | (with_reducible refine wps_bindpure ?_) | (with_reducible exact wps_pure (ent_val rfl))
theorem device_Rack_Size_val (rb : Nat) (R : Rk) (ds : Slc) (ps : List Nat) : Val g (rackP rb R ds ps) (device_Rack_Size (ptr rb)) ((R.n : Int), (R.ns : Int)) := by
  unfold device_Rack_Size rackP
  refine wps_factP fun ⟨h1, h2, h17, hns⟩ => ?_
  repeat first | (with_reducible refine wps_nil ?_) | (refine wps_ldI _ (by rfl) ?_) | (with_reducible refine wps_regionH ?_)
  exact wps_pure (ent_val (by rw [h2]))
def Rk.rdErr (R : Rk) (k s : Int) : Int := if R.off then 12 else if k < 0 ∨ k ≥ R.n ∨ s < 0 ∨ s ≥ R.ns then 11 else if (R.dk k.toNat).failed then 13 else 0
def Dk.sec (D : Dk) (s : Int) : List Int := match D.cached s with | some b => b | none => D.lasts s.toNat
def Rk.rd (R : Rk) (k s : Int) : List Int := if R.rdErr k s = 0 then (R.dk k.toNat).sec s else []
theorem device_Rack_Read_spec (rb : Nat) (R : Rk) (ds : Slc) (ps : List Nat) (k s : Int) :
    wps g (rackP rb R ds ps) (device_Rack_Read (ptr rb) k s) (fun x => pr (x.2 = R.rdErr k s) * rackP rb R ds ps * own 1 x.1 (bv (R.rd k s))) := by
  unfold device_Rack_Read
  refine wps_val (device_Rack_disk_val _ _ _ _ _ _) ?_
  by_cases ho : R.off = true
  · have hd : diskV R ps k s = (none, 12) := by simp [diskV, ho]
    have he : R.rdErr k s = 12 := by simp [Rk.rdErr, ho]
    rw [hd]
    refine wps_ite (fun _ => wps_pure ?_) (fun h => absurd rfl h)
    simp only [Rk.rd, he]
    exact ent_own0 (ent_prr (by simp) (Ent.refl _))
  by_cases hr : k < 0 ∨ k ≥ R.n ∨ s < 0 ∨ s ≥ R.ns
  · have hd : diskV R ps k s = (none, 11) := by simp only [diskV, if_neg ho, if_pos hr]
    have he : R.rdErr k s = 11 := by simp only [Rk.rdErr, if_neg ho, if_pos hr]
    rw [hd]
    refine wps_ite (fun _ => wps_pure ?_) (fun h => absurd rfl h)
    simp only [Rk.rd, he]
    exact ent_own0 (ent_prr (by simp) (Ent.refl _))
  have hd : diskV R ps k s = (ptr (ps.getD k.toNat 0), 0) := by simp only [diskV, if_neg ho, if_neg hr]
  rw [hd]
  have hlt : k.toNat < R.n := by omega
  refine wps_ite (fun h => absurd h (by simp)) (fun _ => ?_)
  repeat with_reducible refine wps_nil ?_
  refine wps_val (rackP_val (rb := rb) (ds := ds) hlt fun g' => dsk_failed) ?_
  refine wps_ite (fun hf => wps_pure ?_) (fun hf => ?_)
  · have he : R.rdErr k s = 13 := by simp only [Rk.rdErr, if_neg ho, if_neg hr, if_pos hf]
    simp only [Rk.rd, he]
    exact ent_own0 (ent_prr (by simp) (Ent.refl _))
  have he : R.rdErr k s = 0 := by simp only [Rk.rdErr, if_neg ho, if_neg hr, if_neg hf]
  simp only [Rk.rd, he, if_true]
  rw [rackP_focus rb R ds ps hlt]
  generalize R.dk k.toNat = D at *
  unfold dskAt dskX
  refine wps_exP fun ls => wps_exP fun mb => wps_exP fun sl => wps_exP fun sc => ?_
  simp only [← star_assoc]
  refine wps_prP fun hd => ?_
  refine wps_prP fun hd2 => ?_
  repeat first | (with_reducible refine wps_nil ?_) | (refine wps_ld _ (by rfl) ?_)
  have close : ∀ (s' : Slc), Ent
      (emp * bst R.n (hole k.toNat (rackF R.ns R.dk ps)) * own 1 ds (ps.map pv) * pc rb [vS ds, Value.int IntKind.i64 R.ns, Value.int IntKind.i64 R.count, Value.bool R.off] *
        seqp sl D.lasts * cachep sc D.cached * imap mb (fun j => Option.map (fun _ => vS (sc j)) (D.cached j)) * own 1 ls (sl.map vS) *
        pc (ps.getD k.toNat 0) [vS ls, Value.map (some mb), Value.bool D.failed, Value.int IntKind.i64 D.count] * own 1 s' (bv (D.sec s)))
      (pr (((s', 0) : Slc × Int).2 = 0) * pr (ps.length = R.n ∧ ds.len = R.n ∧ R.n ≤ 17 ∧ R.ns ≤ 4096) * bst R.n (hole k.toNat (rackF R.ns R.dk ps)) * own 1 ds (ps.map pv) *
            pc rb [vS ds, Value.int IntKind.i64 R.ns, Value.int IntKind.i64 R.count, Value.bool R.off] *
          (ex fun ls => ex fun mb => ex fun sl => ex fun sc =>
                  pr (sl.length = R.ns ∧ ls.len = R.ns ∧ D.ok R.ns) * seqp sl D.lasts * cachep sc D.cached *
                        imap mb (fun j => Option.map (fun _ => vS (sc j)) (D.cached j)) *
                      own 1 ls (sl.map vS) *
                    pc (ps.getD k.toNat 0)
                      [vS ls, Value.map (some mb), Value.bool D.failed, Value.int IntKind.i64 D.count]) *
        own 1 s' (bv (D.sec s))) := by
    intro s'
    refine ent_pick ?_
    refine ent_exr ls ?_
    refine ent_exr mb ?_
    refine ent_exr sl ?_
    refine ent_exr sc ?_
    simp only [← star_assoc]
    exact ent_pick (ent_pick (ent_pick (ent_pick (ent_pick (ent_prx hd (ent_pick (ent_pick (ent_pick (ent_prx hd2 (ent_prq (by simp)))))))))))
  cases hcs : D.cached s with
  | some b =>
    refine wps_lookS (some (sc s)) (by rw [hcs]; rfl) ?_
    have hsec : D.sec s = b := by simp [Dk.sec, hcs]
    have hlen := (hd.2.2.2 s b hcs).1
    refine wps_ite (fun _ => ?_) (fun h => absurd rfl h)
    refine wps_bind1 (slices_Clone_b_spec (b := D.sec s) (Ent.trans (ent_drop (B := cachep sc D.cached)) (by rw [hsec]; exact cachep_get hcs)) (by rw [hsec]; omega)) fun s' => wps_pure ?_
    exact close s'
  | none =>
    refine wps_lookS none (by rw [hcs]; rfl) ?_
    have hsec : D.sec s = D.lasts s.toNat := by simp [Dk.sec, hcs]
    have hlen := hd.2.2.1 s.toNat (by omega)
    refine wps_ite (fun h => absurd h (by simp)) (fun _ => ?_)
    repeat first | (with_reducible refine wps_nil ?_) | (refine wps_ld _ (by rfl) ?_)
    have hsl : s.toNat < sl.length := by omega
    refine wps_rdS s.toNat sl[s.toNat] (by omega) (by rw [List.getElem?_map, List.getElem?_eq_getElem hsl]; rfl) ?_
    refine wps_bind1 (slices_Clone_b_spec (b := D.sec s) (Ent.trans (ent_drop (B := seqp sl D.lasts)) (by rw [hsec]; exact seqp_get (List.getElem?_eq_getElem hsl))) (by rw [hsec]; omega)) fun s' => wps_pure ?_
    exact close s'
end Go.Proofs.Ytldmeimebebllaa
namespace Go.Proofs.Ytldmeimebebllaa
open Go.Mo
set_option linter.unusedVariables false
variable {g : Fr}
abbrev bnk (bb rb : Nat) (q m : G3) : HP := pc bb [.pointer (ptr rb), .int .i64 q.1, .int .i64 q.2.1, .int .i64 q.2.2, .int .i64 m.1, .int .i64 m.2.1, .int .i64 m.2.2]
def slotV (q m : G3) (slot : Int) : Int × Bool := if slot < 0 ∨ slot ≥ q.1 then (0, false) else if m.2.2 ≠ 0 ∧ m.2.1 = slot then (q.1, true) else (slot, true)
theorem bank_disk_val (bb rb : Nat) (q m : G3) (slot : Int) : Val g (bnk bb rb q m) (bank_Bank_disk (ptr bb) slot) (slotV q m slot) := by
  unfold bank_Bank_disk
  simp only [Addr.add_add, Nat.reduceAdd]
  apply val_eq
  · repeat (first
      | (with_reducible refine wps_nil ?_)
      | (refine wps_ld _ (by rfl) ?_)
      | ((with_reducible apply wps_val); apply val_ite; rotate_left; refine fun (_ : ¬ _) => ?_; rotate_right; refine fun (_ : _ = true) => ?_)
      | ((with_reducible apply val_ite); rotate_left; refine fun (_ : ¬ _) => ?_; rotate_right; refine fun (_ : _ = true) => ?_)
      | (with_reducible exact wps_pure (ent_val rfl)))
  · simp only [slotV]
    by_cases h1 : slot < 0
    · simp [h1]
    · by_cases h2 : slot ≥ q.1
      · simp [h2]
      · by_cases h3 : m.2.2 = 0
        · simp [h1, h2, h3]
        · by_cases h4 : m.2.1 = slot
          · simp [h1, h2, h3, h4]
          · simp [h1, h2, h3, h4]
theorem bank_Geo_val (bb rb : Nat) (q m : G3) : Val g (bnk bb rb q m) (bank_Bank_Geo (ptr bb)) q := by
  unfold bank_Bank_Geo
  repeat (first
    | (with_reducible refine wps_nil ?_)
    | (with_reducible refine wps_alloc fun _ => ?_)
    | (refine wps_ldG _ _ _ (by rfl) ?_)
    | (refine wps_stA (by simp) (by simp [Value.oneCell']) ?_)
    | (with_reducible exact wps_pure (ent_val rfl)))
theorem bank_Write_spec {H : HP} (bb rb : Nat) (q m : G3) (R : Rk) (ds : Slc) (ps : List Nat) (slot s : Int) (x : Slc) (b : List Int) (hx : Ent H (byt x b)) (hb : b.length ≤ 1099511627776) :
    wps g (H * bnk bb rb q m * rackP rb R ds ps) (bank_Bank_Write (ptr bb) slot s x) (fun e =>
      pr (e = if (slotV q m slot).2 then R.gate (slotV q m slot).1 s b.length else 11) * H * bnk bb rb q m * rackP rb (if (slotV q m slot).2 then R.write (slotV q m slot).1 s b else R) ds ps) := by
  unfold bank_Bank_Write
  refine wps_valH (fun _ => bank_disk_val bb rb q m slot) ?_
  by_cases hv : (slotV q m slot).2 = true
  · simp only [hv, if_true]
    refine wps_ite (fun h => absurd h (by simp)) (fun _ => ?_)
    repeat first | (with_reducible refine wps_nil ?_) | (refine wps_ld _ (by rfl) ?_)
    refine wps_tail (F := bnk bb rb q m) (fun _ => device_Rack_Write_spec rb R ds ps (slotV q m slot).1 s x b hx hb) ?_ fun e => ?_
    · refine Ent.of_eq ?_
      ac_rfl
    · refine Ent.of_eq ?_
      ac_rfl
  · simp only [hv, if_false, Bool.false_eq_true]
    refine wps_ite (fun _ => wps_pure ?_) (fun h => absurd rfl h)
    exact ent_pick (ent_pick (ent_prr rfl (Ent.refl _)))
def isBad (q m : G3) (R : Rk) (i : Nat) : Bool := R.failedB (slotV q m i).1 || (m.2.2 == 1 && m.2.1 == i)
def badL (q m : G3) (R : Rk) : List Nat := (List.range q.1.toNat).filter (isBad q m R)
def iv (l : List Nat) : List Value := l.map fun i => Value.int .i64 (i : Nat)
theorem bank_Bad_spec (bb rb : Nat) (q m : G3) (R : Rk) (ds : Slc) (ps : List Nat) (hq : q.1 ≤ 16) :
    wps g (bnk bb rb q m * rackP rb R ds ps) (bank_Bank_Bad (ptr bb)) (fun s => bnk bb rb q m * rackP rb R ds ps * own 1 s (iv (badL q m R))) := by
  unfold bank_Bank_Bad
  simp only [Addr.add_add, Nat.reduceAdd]
  repeat first | (with_reducible refine wps_nil ?_) | (refine wps_ld _ (by rfl) ?_)
  refine wps_loop (fun t => ex fun n : Nat => pr (t.2 = (n : Int) ∧ (n : Int) ≤ max 0 q.1) * bnk bb rb q m * rackP rb R ds ps * own 1 t.1 (iv ((List.range n).filter (isBad q m R)))) (fun t => (q.1 - t.2).toNat) ?_ fun t => ?_
  · refine ent_ex 0 (ent_own0 (ent_pick ?_))
    refine ent_prr ⟨rfl, by omega⟩ ?_
    exact Ent.refl _
  · refine wps_ex fun n => wps_prP fun ⟨ht, hn⟩ => ?_
    refine wps_ite (fun hc => ?_) (fun hc => ?_)
    · have hc' : t.2 < q.1 := by simpa using hc
      refine wps_valH (fun _ => bank_disk_val bb rb q m t.2) ?_
      repeat first | (with_reducible refine wps_nil ?_) | (refine wps_ld _ (by rfl) ?_)
      refine wps_valH (fun _ => device_Rack_Failed_val rb R ds ps (slotV q m t.2).1) ?_
      refine wps_val (v := isBad q m R n) ?_ ?_
      · apply val_eq
        · repeat (first
            | (with_reducible refine wps_nil ?_)
            | (refine wps_ld _ (by rfl) ?_)
            | ((with_reducible apply wps_val); apply val_ite; rotate_left; refine fun (_ : ¬ _) => ?_; rotate_right; refine fun (_ : _ = true) => ?_)
            | ((with_reducible apply val_ite); rotate_left; refine fun (_ : ¬ _) => ?_; rotate_right; refine fun (_ : _ = true) => ?_)
            | (with_reducible exact wps_pure (ent_val rfl)))
        · simp only [isBad, ht]
          by_cases h1 : R.failedB (slotV q m n).1 = true
          · simp [h1]
          · by_cases h2 : m.2.2 = 1 <;> simp [h1, h2]
      · have hf : (List.range (n + 1)).filter (isBad q m R) = (List.range n).filter (isBad q m R) ++ if isBad q m R n then [n] else [] := by
          rw [List.range_succ, List.filter_append]
          by_cases h : isBad q m R n = true <;> simp [h]
        refine wps_ite (fun hb => ?_) (fun hb => ?_)
        · refine wps_fact (Ent.trans (ent_pick1 (A := own 1 t.1 (iv ((List.range n).filter (isBad q m R))))) (own_len _ _ _)) fun ⟨hl, _⟩ => ?_
          have hl2 : t.1.len ≤ n := by
            have := List.length_filter_le (isBad q m R) (List.range n)
            simp only [iv, List.length_map, List.length_range] at hl this
            omega
          repeat with_reducible refine wps_alloc fun _ => ?_
          rename_i c
          refine wps_app 1 [Value.int .i64 t.2] rfl (by decide) (rsl_pc rfl) (by simp [Value.oneCell']) (by (try dsimp only); omega) fun s' hs' => wps_pure ?_
          refine ent_prr (by rw [range_add1 ht (by omega)]; (try dsimp only); omega) (ent_ex (n + 1) ?_)
          refine ent_pickS (by rw [hf, if_pos hb, ht]; simp [iv]) (ent_pick (ent_pick ?_))
          exact ent_prq ⟨range_add1 ht (by omega), by omega⟩
        · refine wps_pure ?_
          refine ent_prr (by rw [range_add1 ht (by omega)]; (try dsimp only); omega) (ent_ex (n + 1) ?_)
          refine ent_pickS (by rw [hf, if_neg hb]; simp [iv]) (ent_pick (ent_pick ?_))
          exact ent_prq ⟨range_add1 ht (by omega), by omega⟩
    · have hc' : ¬ t.2 < q.1 := by simpa using hc
      have hnq : (List.range n).filter (isBad q m R) = badL q m R := by
        unfold badL; congr 2; omega
      rw [hnq]
      refine wps_mapR (wps_pure ?_)
      exact ent_pick (ent_pick ent_drop)
end Go.Proofs.Ytldmeimebebllaa
namespace Go.Proofs.Ytldmeimebebllaa
open Go.Mo
set_option linter.unusedVariables false
variable {g : Fr}
def rlast (R : Rk) (i : Nat) : List Int := (R.dk (i / R.ns)).lasts (i % R.ns)
def rcach (R : Rk) (i : Nat) : List Int := ((R.dk (i / R.ns)).cached ((i % R.ns : Nat) : Int)).getD []
end Go.Proofs.Ytldmeimebebllaa
namespace Go.Proofs.Ytldmeimebebllaa
open Go.Mo
set_option linter.unusedVariables false
variable {g : Fr}
def OpenB (n ns : Nat) (q m : G3) : Bool := RightB q && ((n : Int) == q.1 + 1 && ((ns : Int) == SectorsI q && FitsB q m))
theorem open_tree (n ns : Nat) (q m : G3) :
    (if (if (if (!RightB q) = true then true else ((n : Int) != w64 (q.1 + 1))) = true then true else ((ns : Int) != SectorsI q)) = true then true else !FitsB q m) = !OpenB n ns q m := by
  unfold OpenB
  by_cases h1 : RightB q = true
  · have h2 := (RightB.bnd h1).d16
    have h3 := (RightB.bnd h1).d3
    rw [w64_id (by omega) (by omega)]
    by_cases h4 : (n : Int) = q.1 + 1
    · by_cases h5 : (ns : Int) = SectorsI q
      · simp [h1, h4, h5]
      · simp [h1, h4, h5]
    · simp [h1, h4]
  · simp [h1]
theorem bank_Open_spec (rb : Nat) (R : Rk) (ds : Slc) (ps : List Nat) (q m : G3) : wps g (rackP rb R ds ps) (bank_Open (ptr rb) q m) (fun x =>
    if OpenB R.n R.ns q m then ex fun bb => pr (x = (ptr bb, 0)) * rackP rb R ds ps * bnk bb rb q m else pr (x = (none, 10)) * rackP rb R ds ps) := by
  unfold bank_Open
  repeat with_reducible refine wps_alloc fun _ => ?_
  refine wps_valH (fun _ => device_Rack_Size_val rb R ds ps) ?_
  repeat (first
    | (with_reducible refine wps_val (geo_Right_val _) ?_)
    | (with_reducible refine wps_val (geo_Sectors_val _) ?_)
    | (with_reducible refine wps_val (bank_fits_val _ _) ?_)
    | (refine wps_ld _ (by rfl) ?_)
    | (refine wps_ldG _ _ _ (by rfl) ?_)
    | ((with_reducible apply wps_val); apply val_ite; rotate_left; refine fun (_ : ¬ _) => ?_; rotate_right; refine fun (_ : _ = true) => ?_)
    | (with_reducible exact wps_pure (ent_val rfl)))
  rw [open_tree]
  by_cases h : OpenB R.n R.ns q m = true
  · simp only [h]
    refine wps_ite (fun h => absurd h (by simp)) (fun _ => ?_)
    repeat first | (with_reducible refine wps_alloc fun _ => ?_) | (refine wps_ldG _ _ _ (by rfl) ?_)
    rename_i bb
    exact wps_pure (ent_ex bb (ent_pick (ent_prr rfl ent_drop)))
  · simp only [h]
    refine wps_ite (fun _ => wps_pure (ent_prr rfl ent_drop)) (fun h => absurd h (by simp))
end Go.Proofs.Ytldmeimebebllaa
namespace Go.Proofs.Ytldmeimebebllaa
open Go.Mo
set_option linter.unusedVariables false
variable {g : Fr}
theorem Small_sect : SectorsI (3, 3, 12) = 41 := by decide
end Go.Proofs.Ytldmeimebebllaa
namespace Go.Proofs.Ytldmeimebebllaa
open Go.Mo
set_option linter.unusedVariables false
variable {g : Fr} {cv : CV}
def DisksOk (cv : CV) : Prop := ∀ (b : Option Addr) (yv : Value) (Q : Value → World → Prop) (w : World), bank_Bank_disks cv b yv (fun _ w' => Q (.tuple #[]) w') w → cv.enter (.func (.func fid_bank_Bank_disks) #[.pointer b] #[]) #[yv] Q w
theorem wps_enter {H : HP} {m : M Unit} {fv yv : Value} {Q : Value → HP} (hcv : ∀ (Q : Value → World → Prop) (w : World), m (fun _ w' => Q (.tuple #[]) w') w → cv.enter fv #[yv] Q w) (h : wps g H m fun _ => Q (.tuple #[])) : wps g H (cv.enter fv #[yv]) Q :=
  fun w a Qf ho ha hq => hcv Qf w (h w a (fun _ w' => Qf (.tuple #[]) w') ho ha fun x w' a' ho' hb => hq _ w' a' ho' hb)
def disksL (q m : G3) : List Int := (List.range q.1.toNat).map (fun i : Nat => (slotV q m i).1) ++ if m.2.2 = 0 then [q.1] else []
theorem disks_iter (hcv : DisksOk cv) (bb rb : Nat) (q m : G3) (hq : q.1 ≤ 16) : Iter cv (.func (.func fid_bank_Bank_disks) #[.pointer (ptr bb)] #[]) (fun x : Int => #[.int .i64 x]) (disksL q m) (bnk bb rb q m) := by
  intro yv I E hstep g
  refine wps_enter (m := bank_Bank_disks cv (ptr bb) yv) (fun Q w h => hcv _ _ _ _ h) ?_
  unfold bank_Bank_disks
  simp only [Addr.add_add, Nat.reduceAdd]
  repeat first | (with_reducible refine wps_nil ?_) | (refine wps_ld _ (by rfl) ?_)
  refine wps_loop (fun i => ex fun n : Nat => pr (i = (n : Int) ∧ (n : Int) ≤ max 0 q.1) * (bnk bb rb q m * I n)) (fun i => (q.1 - i).toNat) ?_ fun i => ?_
  · exact ent_ex 0 (ent_prr ⟨rfl, by omega⟩ (Ent.refl _))
  · refine wps_ex fun n => wps_pr fun ⟨hi, hn⟩ => ?_
    refine wps_ite (fun hc => ?_) (fun hc => ?_)
    · have hc' : i < q.1 := by simpa using hc
      refine wps_valH (fun _ => bank_disk_val bb rb q m i) ?_
      have hx : (disksL q m)[n]? = some (slotV q m i).1 := by
        unfold disksL
        rw [List.getElem?_append_left (by simp; omega), List.getElem?_map, List.getElem?_range (by omega)]
        simp [hi]
      refine wps_bind (wps_yield (hstep n _ hx g)) fun y => ?_
      cases y with
      | true =>
        refine wps_ite (fun h => absurd h (by simp)) (fun _ => wps_pure ?_)
        exact ent_prr (by rw [range_add1 hi (by omega)]; omega) (ent_ex (n + 1) (ent_prr ⟨range_add1 hi (by omega), by omega⟩ (Ent.refl _)))
      | false =>
        refine wps_ite (fun _ => wps_mapR (wps_pure ?_)) (fun h => absurd rfl h)
        exact Ent.starr (ent_orr (Ent.refl _))
    · have hc' : ¬ i < q.1 := by simpa using hc
      have hne : n = q.1.toNat := by omega
      refine wps_mapR ?_
      repeat first | (with_reducible refine wps_nil ?_) | (refine wps_ld _ (by rfl) ?_)
      refine wps_ite (fun h0 => ?_) (fun h0 => ?_)
      · have h0' : m.2.2 = 0 := by simpa using h0
        repeat first | (with_reducible refine wps_nil ?_) | (refine wps_ld _ (by rfl) ?_)
        have hx : (disksL q m)[n]? = some q.1 := by
          unfold disksL
          rw [List.getElem?_append_right (by simp; omega), if_pos h0']
          simp [hne]
        have hlen : (disksL q m).length = n + 1 := by simp [disksL, h0', hne]
        refine wps_bind (wps_yield (hstep n _ hx g)) fun y => wps_pure ?_
        rw [hlen]
        cases y with
        | true => exact Ent.starr (ent_orl (Ent.refl _))
        | false => exact Ent.starr (ent_orr (Ent.refl _))
      · have h0' : ¬ m.2.2 = 0 := by simpa using h0
        have hlen : (disksL q m).length = n := by simp [disksL, h0', hne]
        refine wps_pure ?_
        rw [hlen]
        exact Ent.starr (ent_orl (Ent.refl _))
end Go.Proofs.Ytldmeimebebllaa
namespace Go.Proofs.Ytldmeimebebllaa
open Go.Mo
set_option linter.unusedVariables false
variable {g : Fr}
theorem bv_get {b : List Int} {n : Nat} {v : Int} (h : b[n]? = some v) : (bv b)[n]? = some (Value.int .u8 v) := by simp [bv, h]
end Go.Proofs.Ytldmeimebebllaa
namespace Go.Proofs.Ytldmeimebebllaa
open Go.Mo
set_option linter.unusedVariables false
variable {g : Fr} {cv : CV}
theorem rsl_room {z : Nat} {s : Slc} {cs : List Value} : Ent (rsl z s cs) (pr (s.len ≠ 0 → s.len ≤ s.cap)) := fun o ho h0 => by
  rcases ho with ho | ho
  · exact absurd ho.1 h0
  · obtain ⟨ad, all, ho⟩ := ho
    exact (ent_left _ _ o ho).2.2.1
theorem flat_take {γ : Type} {f : γ → List Value} {z : Nat} (hf : ∀ c, (f c).length = z) : ∀ (l : List γ) (n : Nat), (l.flatMap f).take (n * z) = (l.take n).flatMap f
  | [], n => by simp
  | x :: l, 0 => by simp
  | x :: l, n + 1 => by
    rw [List.flatMap_cons, List.take_succ_cons, List.flatMap_cons, List.take_append, hf, Nat.add_mul, Nat.one_mul, Nat.add_sub_cancel, flat_take hf l n, List.take_of_length_le (by rw [hf]; omega)]
abbrev I6 := Int × Int × Int × Int × Int × Int
def I6.seg (x : I6) : Int := x.1
def I6.seq (x : I6) : Int := x.2.1
def I6.count (x : I6) : Int := x.2.2.1
def I6.idx (x : I6) : Int := x.2.2.2.1
def I6.root (x : I6) : Int := x.2.2.2.2.2
theorem encI6_len (x : I6) : (encI6 x).length = 6 := rfl
def wholeB (l : List I6) (c : Int) : Bool := decide (1 ≤ c ∧ c ≤ l.length) && (match l[c.toNat]? with | some x => decide (c ≤ I6.idx x) | none => true) && (List.range c.toNat).all fun i => match l[i]? with | some x => decide (I6.idx x = i) | none => true
theorem scan_whole_val {H : HP} {s : Slc} {l : List I6} {c : Int} (hs : Ent H (rsl 6 s (l.flatMap encI6))) (hl : l.length ≤ 1000000) : Val g H (scan_whole s c) (wholeB l c) := by
  unfold scan_whole
  simp only [Addr.add_add, Nat.reduceAdd]
  refine wps_fact (Ent.trans hs (rsl_len _ _ _)) fun hlen => ?_
  rw [flat_len encI6_len] at hlen
  have hlen : l.length = s.len := by omega
  refine wps_val (v := decide (c < 1 ∨ (s.len : Int) < c)) (wps_ite (fun h => wps_pure (ent_val (by simp at h; simp [h]))) (fun h => wps_pure (ent_val (by simp at h; simp; omega)))) ?_
  refine wps_val (v := decide ((c < 1 ∨ (s.len : Int) < c) ∨ ∃ x, l[c.toNat]? = some x ∧ I6.idx x < c)) ?_ ?_
  · refine wps_ite (fun h => wps_pure (ent_val ?_)) (fun h => ?_)
    · have := of_decide_eq_true h
      rw [decide_eq_true (.inl this)]
    · have h : ¬ (c < 1 ∨ (s.len : Int) < c) := fun e => h (decide_eq_true e)
      refine wps_val (v := decide (∃ x, l[c.toNat]? = some x ∧ I6.idx x < c)) ?_ (wps_pure (ent_val (by simp [h])))
      refine wps_ite (fun h2 => ?_) (fun h2 => wps_pure (ent_val ?_))
      · have h2 := of_decide_eq_true h2
        have hlt : c.toNat < l.length := by omega
        have hget : l[c.toNat]? = some l[c.toNat] := List.getElem?_eq_getElem hlt
        refine wps_rdF (f := 3) c.toNat (I6.idx l[c.toNat]) hs (by omega) (by omega) (by rw [flat_get encI6_len hget (by omega)]; rfl) ?_
        exact wps_pure (ent_val (by simp [hget]))
      · have h2 : ¬ ((s.len : Nat) : Int) > c := fun e => h2 (decide_eq_true e)
        have hnone : l[c.toNat]? = none := List.getElem?_eq_none (by omega)
        simp [hnone]
  refine wps_ite (fun h => wps_pure (ent_val ?_)) (fun h => ?_)
  · have h := of_decide_eq_true h
    unfold wholeB
    rcases h with h | ⟨x, hx, hx2⟩
    · rw [decide_eq_false (by omega)]; rfl
    · rw [hx]
      simp only
      rw [decide_eq_false (show ¬ c ≤ I6.idx x by omega)]
      simp
  have h : ¬ ((c < 1 ∨ (s.len : Int) < c) ∨ ∃ x, l[c.toNat]? = some x ∧ I6.idx x < c) := fun e => h (decide_eq_true e)
  have h1 : 1 ≤ c ∧ c ≤ s.len := by omega
  have h2 : ∀ x, l[c.toNat]? = some x → c ≤ I6.idx x := fun x hx => by
    exact Int.not_lt.1 fun e => h (.inr ⟨x, hx, e⟩)
  refine wps_fact (Ent.trans hs rsl_room) fun hcap => ?_
  have hcap := hcap (by omega)
  have hv : Val g H (sliceM s none (some c) 6) (subS 6 s 0 c.toNat) := sliceM_val rfl (by simp; omega) (Nat.zero_le _) (by omega)
  refine wps_val hv ?_
  have hs2 : Ent H (rsl 6 (subS 6 s 0 c.toNat) ((l.take c.toNat).flatMap encI6)) := Ent.trans hs (Ent.trans (rsl_sub (l := 0) (h := c.toNat) (Nat.zero_le _) (by omega)) (Ent.of_eq (by
    congr 1
    simp only [Nat.zero_mul, List.drop_zero, Nat.sub_zero]
    rw [flat_take encI6_len])))
  have e6 : (subS 6 s 0 c.toNat).len = c.toNat := by simp [subS]
  generalize subS 6 s 0 c.toNat = t at *
  refine wps_loop (fun st => ex fun i : Nat => pr (st = (i : Int) ∧ i ≤ c.toNat ∧ ∀ j x, j < i → l[j]? = some x → I6.idx x = j) * H) (fun st => (c.toNat - st).toNat) (ent_ex 0 (ent_prr ⟨rfl, by omega, fun j x h => by omega⟩ (Ent.refl _))) fun st => ?_
  refine wps_ex fun i => wps_prP fun ⟨hi, hin, hall⟩ => ?_
  rw [emp_star]
  refine wps_ite (fun hc => ?_) (fun hc => ?_)
  · have hlt : i < c.toNat := by simp only [decide_eq_true_eq] at hc; omega
    have hll : i < l.length := by omega
    have hget : l[i]? = some l[i] := List.getElem?_eq_getElem hll
    have hget2 : (l.take c.toNat)[i]? = some l[i] := by rw [List.getElem?_take, if_pos hlt, hget]
    refine wps_rdA i l[i] hs2 hi (by simp) (fun j v hj => ?_) ?_
    · have h5 : j < 6 := by have := (List.getElem?_eq_some_iff.1 hj).1; simpa using this
      rw [flat_get encI6_len hget2 h5]; exact hj
    refine wps_alloc fun x6 => ?_
    refine wps_stA (by simp) (by simp [Value.oneCell']) ?_
    refine wps_ld (I6.idx l[i]) (by rfl) ?_
    refine wps_ite (fun h3 => ?_) (fun h3 => ?_)
    · refine wps_mapR (wps_pure (ent_val ?_))
      have h3 : I6.idx l[i] ≠ i := by rw [hi] at h3; simpa using h3
      unfold wholeB
      have : ((List.range c.toNat).all fun i => match l[i]? with | some x => decide (I6.idx x = i) | none => true) = false := by
        rw [List.all_eq_false]
        refine ⟨i, List.mem_range.2 hlt, ?_⟩
        rw [hget]
        simpa using h3
      rw [this]; simp
    · have h3 : I6.idx l[i] = i := by rw [hi] at h3; simpa using h3
      refine wps_pure (ent_prr (by rw [range_add1 hi (by omega)]; omega) (ent_ex (i + 1) (ent_prr ⟨range_add1 hi (by omega), by omega, fun j x hj hx => ?_⟩ ent_drop)))
      by_cases hji : j = i
      · subst hji; rw [hget] at hx; cases hx; exact h3
      · exact hall j x (by omega) hx
  · have hie : i = c.toNat := by simp only [decide_eq_true_eq] at hc; omega
    refine wps_mapR (wps_pure (ent_val ?_))
    unfold wholeB
    rw [decide_eq_true (show 1 ≤ c ∧ c ≤ l.length by omega)]
    have a1 : (match l[c.toNat]? with | some x => decide (c ≤ I6.idx x) | none => true) = true := by
      split
      · rename_i x hx; exact decide_eq_true (h2 x hx)
      · rfl
    have a2 : ((List.range c.toNat).all fun i => match l[i]? with | some x => decide (I6.idx x = i) | none => true) = true := by
      rw [List.all_eq_true]
      intro j hj
      split
      · rename_i x hx; exact decide_eq_true (hall j x (by rw [hie]; exact List.mem_range.1 hj) hx)
      · rfl
    rw [a1, a2]; rfl
end Go.Proofs.Ytldmeimebebllaa
namespace Go.Proofs.Ytldmeimebebllaa
open Go.Mo
set_option linter.unusedVariables false
variable {g : Fr} {cv : CV}
def lst {κ : Type} : List κ → (κ → HP) → HP
  | [], _ => emp
  | k :: ks, F => F k * lst ks F
theorem lst_congr {κ : Type} {F F' : κ → HP} : ∀ {ks : List κ}, (∀ k ∈ ks, F k = F' k) → lst ks F = lst ks F'
  | [], _ => rfl
  | k :: ks, h => by
    simp only [lst]
    rw [h k (by simp), lst_congr fun k hk => h k (by simp [hk])]
theorem lst_erase {κ : Type} [BEq κ] [LawfulBEq κ] {F : κ → HP} : ∀ {ks : List κ} {k : κ}, k ∈ ks → lst ks F = lst (ks.erase k) F * F k
  | k' :: ks, k, h => by
    rcases Classical.em (k' = k) with hk | hk
    · subst hk
      rw [List.erase_cons_head, lst, star_comm]
    · rw [List.erase_cons_tail (by simpa using hk), lst, lst]
      have : k ∈ ks := by
        rcases List.mem_cons.1 h with h | h
        · exact absurd h.symm hk
        · exact h
      rw [lst_erase this, star_assoc]
def I6.ok (x : I6) : Bool := decide (0 ≤ I6.idx x ∧ I6.idx x ≤ I6.seq x)
def I6.key (x : I6) : Int × Int := (I6.seq x - I6.idx x, I6.count x)
def grp (l : List I6) (k : Int × Int) : List I6 := l.filter fun x => I6.ok x && decide (I6.key x = k)
structure KsOk (l : List I6) (ks : List (Int × Int)) : Prop where
  nodup : ks.Nodup
  mem : ∀ k, k ∈ ks ↔ ∃ x ∈ l, I6.ok x = true ∧ I6.key x = k
  few : ks.length ≤ l.length
theorem grp_out {l : List I6} {x : I6} {k : Int × Int} (h : ¬ (I6.ok x = true ∧ I6.key x = k)) : grp (l ++ [x]) k = grp l k := by
  unfold grp
  rw [List.filter_append]
  have : (I6.ok x && decide (I6.key x = k)) = false := by
    cases ho : I6.ok x with
    | false => rfl
    | true => simpa [ho] using h
  simp [this]
theorem grp_in {l : List I6} {x : I6} (h : I6.ok x = true) : grp (l ++ [x]) (I6.key x) = grp l (I6.key x) ++ [x] := by
  unfold grp
  rw [List.filter_append]
  simp [h]
theorem KsOk.out {l : List I6} {x : I6} {ks : List (Int × Int)} (h : KsOk l ks) (hx : I6.ok x = true → I6.key x ∈ ks) : KsOk (l ++ [x]) ks := ⟨h.nodup, fun k => by
  rw [h.mem]
  constructor
  · rintro ⟨y, hy, h1⟩; exact ⟨y, by simp [hy], h1⟩
  · rintro ⟨y, hy, h1, h2⟩
    rcases List.mem_append.1 hy with hy | hy
    · exact ⟨y, hy, h1, h2⟩
    · have : y = x := by simpa using hy
      subst this
      rw [← h2]
      exact (h.mem _).1 (hx h1), by have := h.few; simp; omega⟩
theorem KsOk.new {l : List I6} {x : I6} {ks : List (Int × Int)} (h : KsOk l ks) (hx : I6.ok x = true) (hn : I6.key x ∉ ks) : KsOk (l ++ [x]) (I6.key x :: ks) := ⟨List.nodup_cons.2 ⟨hn, h.nodup⟩, fun k => by
  rw [List.mem_cons, h.mem]
  constructor
  · rintro (rfl | ⟨y, hy, h1⟩)
    · exact ⟨x, by simp, hx, rfl⟩
    · exact ⟨y, by simp [hy], h1⟩
  · rintro ⟨y, hy, h1, h2⟩
    rcases List.mem_append.1 hy with hy | hy
    · exact .inr ⟨y, hy, h1, h2⟩
    · have : y = x := by simpa using hy
      subst this
      exact .inl h2.symm, by have := h.few; simp; omega⟩
theorem grp_nil {l : List I6} {ks : List (Int × Int)} {k : Int × Int} (h : KsOk l ks) (hk : k ∉ ks) : grp l k = [] := by
  unfold grp
  rw [List.filter_eq_nil_iff]
  intro x hx hc
  simp only [Bool.and_eq_true, decide_eq_true_eq] at hc
  exact hk ((h.mem k).2 ⟨x, hx, hc.1, hc.2⟩)
theorem grp_len (l : List I6) (k : Int × Int) : (grp l k).length ≤ l.length := List.length_filter_le _ _
def mapF (ks : List (Int × Int)) (slf : Int × Int → Slc) : Int × Int → Option Value := fun k => if k ∈ ks then some (vS (slf k)) else none
def upS (slf : Int × Int → Slc) (k : Int × Int) (s : Slc) : Int × Int → Slc := fun j => if j = k then s else slf j
theorem mapF_old {ks : List (Int × Int)} {slf : Int × Int → Slc} {k : Int × Int} {s : Slc} (h : k ∈ ks) : (fun i => if i = k then some (vS s) else if i = k then some (vS (slf k)) else mapF ks slf i) = mapF ks (upS slf k s) := by
  funext i
  unfold mapF upS
  by_cases hi : i = k
  · subst hi; simp [h]
  · simp [hi]
theorem mapF_new {ks : List (Int × Int)} {slf : Int × Int → Slc} {k : Int × Int} {s s0 : Slc} : (fun i => if i = k then some (vS s) else if i = k then some (vS s0) else mapF ks slf i) = mapF (k :: ks) (upS slf k s) := by
  funext i
  unfold mapF upS
  by_cases hi : i = k
  · subst hi; simp
  · simp [hi]
def heldP (l : List I6) (ks : List (Int × Int)) (slf : Int × Int → Slc) : HP := lst ks fun k => own 6 (slf k) ((grp l k).flatMap encI6)
theorem held_out {l : List I6} {x : I6} {ks : List (Int × Int)} {slf : Int × Int → Slc} (h : I6.ok x = false) : heldP (l ++ [x]) ks slf = heldP l ks slf := lst_congr fun k _ => by rw [grp_out (fun e => by rw [h] at e; cases e.1)]
def restP (l : List I6) (ks : List (Int × Int)) (k : Int × Int) (slf : Int × Int → Slc) : HP := lst (ks.erase k) fun k => own 6 (slf k) ((grp l k).flatMap encI6)
theorem held_open {l : List I6} {ks : List (Int × Int)} {k : Int × Int} {slf : Int × Int → Slc} (h : k ∈ ks) : heldP l ks slf = restP l ks k slf * own 6 (slf k) ((grp l k).flatMap encI6) := lst_erase (F := fun k => own 6 (slf k) ((grp l k).flatMap encI6)) h
theorem rest_put {l : List I6} {x : I6} {ks : List (Int × Int)} {slf : Int × Int → Slc} {s : Slc} (hn : ks.Nodup) : restP (l ++ [x]) ks (I6.key x) (upS slf (I6.key x) s) = restP l ks (I6.key x) slf := lst_congr fun k hk => by
  have hne : k ≠ I6.key x := fun e => by subst e; exact (hn.not_mem_erase hk)
  rw [grp_out (fun e => hne e.2.symm)]
  simp [upS, hne]
theorem held_close {l : List I6} {x : I6} {ks : List (Int × Int)} {slf : Int × Int → Slc} {s : Slc} (hx : I6.ok x = true) (hn : ks.Nodup) (h : I6.key x ∈ ks) : heldP (l ++ [x]) ks (upS slf (I6.key x) s) = restP l ks (I6.key x) slf * own 6 s ((grp l (I6.key x)).flatMap encI6 ++ encI6 x) := by
  rw [held_open h, rest_put hn, grp_in hx]
  simp [upS]
theorem held_new {l : List I6} {x : I6} {ks : List (Int × Int)} {slf : Int × Int → Slc} {s : Slc} (hx : I6.ok x = true) (hk : KsOk l ks) (h : I6.key x ∉ ks) : heldP (l ++ [x]) (I6.key x :: ks) (upS slf (I6.key x) s) = heldP l ks slf * own 6 s (encI6 x) := by
  unfold heldP
  rw [lst, star_comm]
  congr 1
  · refine lst_congr fun k hk' => ?_
    have hne : k ≠ I6.key x := fun e => by subst e; exact h hk'
    rw [grp_out (fun e => hne e.2.symm)]
    simp [upS, hne]
  · rw [grp_in hx, grp_nil hk h]
    simp [upS]
end Go.Proofs.Ytldmeimebebllaa
namespace Go.Proofs.Ytldmeimebebllaa
open Go.Mo
set_option linter.unusedVariables false
variable {g : Fr} {cv : CV}
def infosP (s : Slc) (l : List I6) : HP := pr (∀ x ∈ l, I6.seq x < 9223372036854775808) * rsl 6 s (l.flatMap encI6)
instance (s : Slc) (l : List I6) : Pers (infosP s l) := by unfold infosP; infer_instance
theorem infosP_rsl (s : Slc) (l : List I6) : Ent (infosP s l) (rsl 6 s (l.flatMap encI6)) := ent_right _ _
theorem infosP_seq (s : Slc) (l : List I6) : Ent (infosP s l) (pr (∀ x ∈ l, I6.seq x < 9223372036854775808)) := ent_left _ _
theorem infosP_len (s : Slc) (l : List I6) : Ent (infosP s l) (pr (l.length = s.len)) := Ent.trans (infosP_rsl s l) (Ent.trans (rsl_len _ _ _) fun o ho => by
  have : (l.flatMap encI6).length = s.len * 6 := ho
  rw [flat_len encI6_len] at this
  show l.length = s.len
  omega)
theorem ent_pr3 {p : Prop} {A B C F : HP} (hp : p) (h : Ent F (A * B * C)) : Ent F (pr p * A * B * C) := Ent.trans h (Ent.trans (ent_pr hp) (Ent.of_eq (by simp only [star_assoc])))
theorem ent_pr4 {p : Prop} {A B C D F : HP} (hp : p) (h : Ent F (A * B * C * D)) : Ent F (pr p * A * B * C * D) := Ent.trans h (Ent.trans (ent_pr hp) (Ent.of_eq (by simp only [star_assoc])))
theorem groups_first {s : Slc} {l : List I6} (hl : l.length ≤ 100000) {Q : Slc → HP} {K : Nat → M Slc}
    (hK : ∀ m ks slf, KsOk l ks → wps g (infosP s l * pmap m (mapF ks slf) * heldP l ks slf) (K m) Q) :
    wps g (infosP s l) (bindM (newO (.map #[] 0)) fun x13 =>
  loopM (fun (s1 : (Int)) =>
  (if (decide (s1 < ((s.len : Nat) : Int))) = true then
    bindM (idxM s s1 6) fun x18 =>
      bindM (ldA (fun y : (Int × Int × Int × Int × Int × Int) => [(.int .i64 y.1), (.int .i64 y.2.1), (.int .i64 y.2.2.1), (.int .i64 y.2.2.2.1), (.int .i64 y.2.2.2.2.1), (.int .i64 y.2.2.2.2.2)]) x18) fun x19 =>
      bindM (allocM [(.int .i64 0), (.int .i64 0), (.int .i64 0), (.int .i64 0), (.int .i64 0), (.int .i64 0)]) fun x5 =>
      bindM (stA x5 [(.int .i64 x19.1), (.int .i64 x19.2.1), (.int .i64 x19.2.2.1), (.int .i64 x19.2.2.2.1), (.int .i64 x19.2.2.2.2.1), (.int .i64 x19.2.2.2.2.2)]) fun _ =>
      bindM (ld (Value.int .i64) (Addr.add x5 3)) fun x22 =>
      bindM (if (decide (x22 ≥ 0)) = true then
        bindM (ld (Value.int .i64) (Addr.add x5 1)) fun x26 =>
          bindM (ld (Value.int .i64) (Addr.add x5 3)) fun x29 =>
          pureM (decide (x26 ≥ x29))
      else
        pureM false) fun r2 =>
      (if (r2) = true then
      bindM (ld (Value.int .i64) (Addr.add x5 1)) fun x33 =>
        bindM (ld (Value.int .i64) (Addr.add x5 3)) fun x36 =>
        bindM (ld (Value.int .i64) (Addr.add x5 2)) fun x40 =>
        bindM (allocM [(.int .i64 0), (.int .i64 0)]) fun x6 =>
        bindM (stA x6 [(.int .i64 (w64 (x33 - x36))), (.int .i64 x40)]) fun _ =>
        bindM (ldA (fun y : (Int × Int) => [(.int .i64 y.1), (.int .i64 y.2)]) x6) fun x43 =>
        bindM (ldA (fun y : (Int × Int × Int × Int × Int × Int) => [(.int .i64 y.1), (.int .i64 y.2.1), (.int .i64 y.2.2.1), (.int .i64 y.2.2.2.1), (.int .i64 y.2.2.2.2.1), (.int .i64 y.2.2.2.2.2)]) x5) fun x45 =>
        bindM (allocM [(.int .i64 x45.1), (.int .i64 x45.2.1), (.int .i64 x45.2.2.1), (.int .i64 x45.2.2.2.1), (.int .i64 x45.2.2.2.2.1), (.int .i64 x45.2.2.2.2.2)]) fun x46 =>
        bindM (entM vS (⟨none, 0, 0⟩) (some x13) (x43.1, x43.2)) fun x47 =>
        bindM (appendM [(.int .i64 0), (.int .i64 0), (.int .i64 0), (.int .i64 0), (.int .i64 0), (.int .i64 0)] 48 x47.1 ⟨some x46, 1, 1⟩) fun x48 =>
        bindM (entStM (some x13) x47.2 (.slice x48.base x48.len x48.cap)) fun _ =>
        pureM (.inl (w64 (s1 + 1)))
      else
      pureM (.inl (w64 (s1 + 1))))
    else
    mapR (K x13))) 0) Q := by
  refine wps_fact (infosP_len s l) fun hlen => ?_
  refine wps_fact (infosP_seq s l) fun hseq => ?_
  refine wps_newO fun m => ?_
  refine wps_pre (H' := infosP s l * pmap m (mapF [] fun _ => ⟨none, 0, 0⟩)) (Ent.starr (Ent.trans (pmap_new m) (Ent.of_eq (by congr 1)))) ?_
  refine wps_loop (fun st => ex fun i : Nat => ex fun ks : List (Int × Int) => ex fun slf : Int × Int → Slc => pr (st = (i : Int) ∧ i ≤ l.length ∧ KsOk (l.take i) ks ∧ ∀ k, (slf k).len ≤ i) * infosP s l * pmap m (mapF ks slf) * heldP (l.take i) ks slf) (fun st => (l.length - st).toNat) ?_ fun st => ?_
  · refine ent_ex 0 (ent_ex [] (ent_ex (fun _ => ⟨none, 0, 0⟩) ?_))
    have h0 : heldP (l.take 0) [] (fun _ => ⟨none, 0, 0⟩) = emp := rfl
    rw [h0, star_emp]
    refine Ent.trans (ent_pr (p := (0 : Int) = ((0 : Nat) : Int) ∧ 0 ≤ l.length ∧ KsOk (l.take 0) [] ∧ ∀ k : Int × Int, ((fun _ => ⟨none, 0, 0⟩ : Int × Int → Slc) k).len ≤ 0) ⟨rfl, by omega, ⟨List.nodup_nil, fun k => by simp, by simp⟩, fun k => Nat.le_refl _⟩) (Ent.of_eq ?_)
    simp only [star_assoc]
  refine wps_ex fun i => wps_ex fun ks => wps_ex fun slf => wps_prP fun ⟨hi, hin, hks, hsl⟩ => ?_
  refine wps_ite (fun hc => ?_) (fun hc => ?_)
  · have hlt : i < l.length := by simp only [decide_eq_true_eq] at hc; omega
    have hget : l[i]? = some l[i] := List.getElem?_eq_getElem hlt
    have htk : l.take (i + 1) = l.take i ++ [l[i]] := by rw [List.take_add_one, hget]; rfl
    refine wps_rdA i l[i] (Ent.trans (ent_pick1 (A := infosP s l)) (infosP_rsl s l)) hi (by simp) (fun j v hj => ?_) ?_
    · have h5 : j < 6 := by have := (List.getElem?_eq_some_iff.1 hj).1; simpa using this
      rw [flat_get encI6_len hget h5]; exact hj
    have hsq := hseq _ (List.getElem_mem hlt)
    refine wps_alloc fun x5 => ?_
    refine wps_stA (by simp) (by simp [Value.oneCell']) ?_
    refine wps_ld (I6.idx l[i]) (by rfl) ?_
    refine wps_val (v := I6.ok l[i]) ?_ ?_
    · refine wps_ite (fun h => wps_ld (I6.seq l[i]) (by rfl) (wps_ld (I6.idx l[i]) (by rfl) (wps_pure (ent_val ?_)))) (fun h => wps_pure (ent_val ?_))
      · have h : I6.idx l[i] ≥ 0 := of_decide_eq_true h
        simp [I6.ok, h]
      · have h : ¬ I6.idx l[i] ≥ 0 := fun e => h (decide_eq_true e)
        simp [I6.ok]; omega
    refine wps_ite (fun hok => ?_) (fun hok => ?_)
    · have hok2 : 0 ≤ I6.idx l[i] ∧ I6.idx l[i] ≤ I6.seq l[i] := of_decide_eq_true hok
      refine wps_ld (I6.seq l[i]) (by rfl) ?_
      refine wps_ld (I6.idx l[i]) (by rfl) ?_
      refine wps_ld (I6.count l[i]) (by rfl) ?_
      rw [w64_id (by omega) (by omega)]
      refine wps_alloc fun x6 => ?_
      refine wps_stA (by simp) (by simp [Value.oneCell']) ?_
      refine wps_ldA (I6.key l[i]) (by rfl) ?_
      refine wps_ldA l[i] (by rfl) ?_
      refine wps_alloc fun x46 => ?_
      have hrg : w64 (st + 1) = ((i + 1 : Nat) : Int) := range_add1 hi (by omega)
      by_cases hk : I6.key l[i] ∈ ks
      · refine wps_pre (H' := infosP s l * restP (l.take i) ks (I6.key l[i]) slf * own 6 (slf (I6.key l[i])) ((grp (l.take i) (I6.key l[i])).flatMap encI6) * pc x46 (encI6 l[i]) * pmap m (mapF ks slf)) ?_ ?_
        · rw [held_open hk]
          simp only [← star_assoc]
          repeat (first
            | (with_reducible exact ent_drop)
            | (with_reducible refine ent_pick ?_)
            | (refine ent_pickC (by rfl) ?_)
            | (refine ent_pickS (by rfl) ?_)
            | (refine ent_pickM (by rfl) ?_)
            | (refine ent_prx ?_ ?_; rotate_left)
            | (refine ent_prq ?_))
        refine wps_ent (H' := infosP s l * restP (l.take i) ks (I6.key l[i]) slf * own 6 (slf (I6.key l[i])) ((grp (l.take i) (I6.key l[i])).flatMap encI6) * pc x46 (encI6 l[i])) (some (slf (I6.key l[i]))) rfl (by simp [mapF, hk]) fun stp => ?_
        simp only [Option.getD_some]
        refine wps_app 6 (encI6 l[i]) rfl (by decide) (Ent.trans (ent_pick1 (A := pc x46 (encI6 l[i]))) (rsl_pc rfl)) (by simp [encI6, Value.oneCell']) (by have := hsl (I6.key l[i]); show (16 * ((slf (I6.key l[i])).len + 1) + 4096) * 48 ≤ 2 ^ 48; omega) fun s2 hs2 => ?_
        refine wps_pre (H' := infosP s l * restP (l.take i) ks (I6.key l[i]) slf * own 6 s2 ((grp (l.take i) (I6.key l[i])).flatMap encI6 ++ encI6 l[i]) * pmapAt m (fun j => if j = I6.key l[i] then some (vS (slf (I6.key l[i]))) else mapF ks slf j) (I6.key l[i]) stp) ?_ ?_
        · repeat (first
            | (with_reducible exact ent_drop)
            | (with_reducible refine ent_pick ?_)
            | (refine ent_pickC (by rfl) ?_)
            | (refine ent_pickS (by rfl) ?_)
            | (refine ent_pickM (by rfl) ?_)
            | (refine ent_prx ?_ ?_; rotate_left)
            | (refine ent_prq ?_))
        refine wps_entSt rfl ?_
        rw [show Value.slice s2.base s2.len s2.cap = vS s2 from rfl, mapF_old hk]
        refine wps_pure (ent_prr (by rw [hrg]; omega) (ent_ex (i + 1) (ent_ex ks (ent_ex (upS slf (I6.key l[i]) s2) ?_))))
        rw [htk, held_close hok hks.nodup hk]
        simp only [← star_assoc]
        have hs3 : ∀ k, (upS slf (I6.key l[i]) s2 k).len ≤ i + 1 := fun k => by
          unfold upS
          split
          · have := hsl (I6.key l[i]); rw [hs2]; show _ + 1 ≤ _; omega
          · have := hsl k; omega
        refine ent_pr4 ⟨hrg, by omega, hks.out fun _ => hk, hs3⟩ ?_
        repeat (first
          | (with_reducible exact ent_drop)
          | (with_reducible refine ent_pick ?_)
          | (refine ent_pickC (by rfl) ?_)
          | (refine ent_pickS (by rfl) ?_)
          | (refine ent_pickM (by rfl) ?_)
          | (refine ent_prx ?_ ?_; rotate_left)
          | (refine ent_prq ?_))
      · refine wps_pre (H' := infosP s l * heldP (l.take i) ks slf * own 6 ⟨none, 0, 0⟩ [] * pc x46 (encI6 l[i]) * pmap m (mapF ks slf)) ?_ ?_
        · refine Ent.trans (ent_own0 (z := 6) (Ent.refl _)) ?_
          repeat (first
            | (with_reducible exact ent_drop)
            | (with_reducible refine ent_pick ?_)
            | (refine ent_pickC (by rfl) ?_)
            | (refine ent_pickS (by rfl) ?_)
            | (refine ent_pickM (by rfl) ?_)
            | (refine ent_prx ?_ ?_; rotate_left)
            | (refine ent_prq ?_))
        refine wps_ent (H' := infosP s l * heldP (l.take i) ks slf * own 6 ⟨none, 0, 0⟩ [] * pc x46 (encI6 l[i])) none rfl (by simp [mapF, hk]) fun stp => ?_
        simp only [Option.getD_none]
        refine wps_app 6 (encI6 l[i]) rfl (by decide) (Ent.trans (ent_pick1 (A := pc x46 (encI6 l[i]))) (rsl_pc rfl)) (by simp [encI6, Value.oneCell']) (show (16 * (0 + 1) + 4096) * 48 ≤ 2 ^ 48 by decide) fun s2 hs2 => ?_
        refine wps_pre (H' := infosP s l * heldP (l.take i) ks slf * own 6 s2 ([] ++ encI6 l[i]) * pmapAt m (fun j => if j = I6.key l[i] then some (vS ⟨none, 0, 0⟩) else mapF ks slf j) (I6.key l[i]) stp) ?_ ?_
        · repeat (first
            | (with_reducible exact ent_drop)
            | (with_reducible refine ent_pick ?_)
            | (refine ent_pickC (by rfl) ?_)
            | (refine ent_pickS (by rfl) ?_)
            | (refine ent_pickM (by rfl) ?_)
            | (refine ent_prx ?_ ?_; rotate_left)
            | (refine ent_prq ?_))
        refine wps_entSt rfl ?_
        rw [show Value.slice s2.base s2.len s2.cap = vS s2 from rfl, mapF_new, List.nil_append]
        refine wps_pure (ent_prr (by rw [hrg]; omega) (ent_ex (i + 1) (ent_ex (I6.key l[i] :: ks) (ent_ex (upS slf (I6.key l[i]) s2) ?_))))
        rw [htk, held_new hok hks hk]
        simp only [← star_assoc]
        have hs3 : ∀ k, (upS slf (I6.key l[i]) s2 k).len ≤ i + 1 := fun k => by
          unfold upS
          split
          · rw [hs2]; show 0 + 1 ≤ _; omega
          · have := hsl k; omega
        refine ent_pr4 ⟨hrg, by omega, hks.new hok hk, hs3⟩ ?_
        repeat (first
          | (with_reducible exact ent_drop)
          | (with_reducible refine ent_pick ?_)
          | (refine ent_pickC (by rfl) ?_)
          | (refine ent_pickS (by rfl) ?_)
          | (refine ent_pickM (by rfl) ?_)
          | (refine ent_prx ?_ ?_; rotate_left)
          | (refine ent_prq ?_))
    · have hrg : w64 (st + 1) = ((i + 1 : Nat) : Int) := range_add1 hi (by omega)
      have hok : I6.ok l[i] = false := by simpa using hok
      refine wps_pure (ent_prr (by rw [hrg]; omega) (ent_ex (i + 1) (ent_ex ks (ent_ex slf ?_))))
      rw [htk, held_out hok]
      refine ent_pr3 ⟨hrg, by omega, hks.out (fun h => by rw [hok] at h; cases h), fun k => by have := hsl k; omega⟩ ?_
      repeat (first
        | (with_reducible exact ent_drop)
        | (with_reducible refine ent_pick ?_)
        | (refine ent_pickC (by rfl) ?_)
        | (refine ent_pickS (by rfl) ?_)
        | (refine ent_pickM (by rfl) ?_)
        | (refine ent_prx ?_ ?_; rotate_left)
        | (refine ent_prq ?_))
  · have hie : i = l.length := by simp only [decide_eq_true_eq] at hc; omega
    have htl : l.take i = l := by rw [hie, List.take_length]
    rw [htl] at hks ⊢
    refine wps_mapR (wps_pre ?_ (hK m ks slf hks))
    repeat (first
      | (with_reducible exact ent_drop)
      | (with_reducible refine ent_pick ?_)
      | (refine ent_pickC (by rfl) ?_)
      | (refine ent_pickS (by rfl) ?_)
      | (refine ent_pickM (by rfl) ?_)
      | (refine ent_prx ?_ ?_; rotate_left)
      | (refine ent_prq ?_))
end Go.Proofs.Ytldmeimebebllaa
namespace Go.Proofs.Ytldmeimebebllaa
open Go.Mo
set_option linter.unusedVariables false
variable {g : Fr} {cv : CV}
def cnt (l : List I6) (i : Nat) : Nat := l.countP fun x => decide (I6.idx x = (i : Int))
theorem cnt_perm {l l' : List I6} (h : l.Perm l') (i : Nat) : cnt l i = cnt l' i := h.countP_eq _
theorem cnt_two {l : List I6} {p q i : Nat} {x y : I6} (hp : l[p]? = some x) (hq : l[q]? = some y) (hlt : p < q) (hx : I6.idx x = i) (hy : I6.idx y = i) : 2 ≤ cnt l i := by
  have h1 : 0 < cnt (l.take q) i := List.countP_pos_iff.2 ⟨x, List.mem_of_getElem? (i := p) (by rw [List.getElem?_take, if_pos hlt]; exact hp), by simpa using hx⟩
  have h2 : 0 < cnt (l.drop q) i := List.countP_pos_iff.2 ⟨y, List.mem_of_getElem? (i := 0) (by rw [List.getElem?_drop]; simpa using hq), by simpa using hy⟩
  have h3 : cnt l i = cnt (l.take q) i + cnt (l.drop q) i := by
    unfold cnt
    rw [← List.countP_append, List.take_append_drop]
  omega
def wholeC (l : List I6) (c : Int) : Bool := decide (1 ≤ c) && (List.range c.toNat).all fun i => cnt l i == 1
theorem sorted_le {l : List I6} (h : SortedF cf_scan_Groups_c1 l) {p q : Nat} {x y : I6} (hp : l[p]? = some x) (hq : l[q]? = some y) (hlt : p < q) : I6.idx x ≤ I6.idx y := by
  unfold SortedF at h
  rw [List.pairwise_iff_getElem] at h
  obtain ⟨h1, rfl⟩ := List.getElem?_eq_some_iff.1 hp
  obtain ⟨h2, rfl⟩ := List.getElem?_eq_some_iff.1 hq
  have := h p q h1 h2 hlt
  rw [lt_c1] at this
  exact Int.not_lt.1 (of_decide_eq_false this)
theorem sorted_first {l : List I6} (h : SortedF cf_scan_Groups_c1 l) (h0 : ∀ x ∈ l, 0 ≤ I6.idx x) : ∀ c : Nat, (∀ i, i < c → cnt l i = 1) → c ≤ l.length ∧ (∀ j x, j < c → l[j]? = some x → I6.idx x = j) ∧ ∀ x, l[c]? = some x → (c : Int) ≤ I6.idx x
  | 0, _ => ⟨Nat.zero_le _, fun j x hj => by omega, fun x hx => h0 x (List.mem_of_getElem? hx)⟩
  | c + 1, hc => by
    obtain ⟨h1, h2, h3⟩ := sorted_first h h0 c fun i hi => hc i (by omega)
    have hcc := hc c (by omega)
    obtain ⟨y, hy, hyc⟩ := List.countP_pos_iff.1 (show 0 < cnt l c by omega)
    have hyc : I6.idx y = c := of_decide_eq_true hyc
    obtain ⟨p, hp⟩ := List.mem_iff_getElem?.1 hy
    have hpc : c ≤ p := by
      apply Classical.byContradiction
      intro hn
      have := h2 p y (by omega) hp
      omega
    have hpl := (List.getElem?_eq_some_iff.1 hp).1
    have hcl : c < l.length := by omega
    have hgc : l[c]? = some l[c] := List.getElem?_eq_getElem hcl
    have hidx : I6.idx l[c] = c := by
      have a := h3 _ hgc
      rcases Nat.lt_or_ge c p with hlt | hge
      · have := sorted_le h hgc hp hlt; omega
      · have : p = c := by omega
        subst this
        rw [hp] at hgc
        rw [← Option.some.inj hgc]; exact hyc
    refine ⟨by omega, fun j x hj hx => ?_, fun x hx => ?_⟩
    · by_cases hjc : j = c
      · subst hjc; rw [hgc] at hx; rw [← Option.some.inj hx]; exact hidx
      · exact h2 j x (by omega) hx
    · have a := sorted_le h hgc hx (by omega)
      have b : I6.idx x ≠ (c : Int) := fun e => by
        have := cnt_two hgc hx (Nat.lt_succ_self c) hidx e
        omega
      omega
theorem whole_iff {l l' : List I6} (hp : l'.Perm l) (h : SortedF cf_scan_Groups_c1 l') (h0 : ∀ x ∈ l, 0 ≤ I6.idx x) (c : Int) : wholeB l' c = wholeC l c := by
  rw [Bool.eq_iff_iff]
  unfold wholeB wholeC
  simp only [Bool.and_eq_true, decide_eq_true_eq, List.all_eq_true, List.mem_range, beq_iff_eq]
  constructor
  · rintro ⟨⟨⟨h1, h2⟩, h3⟩, h4⟩
    refine ⟨h1, fun i hi => ?_⟩
    rw [← cnt_perm hp]
    have hil : i < l'.length := by omega
    have hgi : l'[i]? = some l'[i] := List.getElem?_eq_getElem hil
    have hx : I6.idx l'[i] = i := by have := h4 i hi; rw [hgi] at this; exact of_decide_eq_true this
    have hpos : 0 < cnt l' i := List.countP_pos_iff.2 ⟨l'[i], List.getElem_mem hil, by simpa using hx⟩
    apply Classical.byContradiction
    intro hne
    have h2c : 2 ≤ cnt l' i := by omega
    -- another place
    have hsplit : cnt l' i = cnt (l'.take i) i + (cnt [l'[i]] i + cnt (l'.drop (i + 1)) i) := by
      unfold cnt
      rw [← List.countP_append, ← List.countP_append]
      congr 1
      rw [List.singleton_append, ← List.drop_eq_getElem_cons hil, List.take_append_drop]
    have hone : cnt [l'[i]] i = 1 := by simp [cnt, hx]
    rcases Nat.eq_zero_or_pos (cnt (l'.take i) i) with h5 | h5
    · obtain ⟨y, hy, hyi⟩ := List.countP_pos_iff.1 (show 0 < cnt (l'.drop (i + 1)) i by omega)
      have hyi : I6.idx y = i := of_decide_eq_true hyi
      obtain ⟨q, hq⟩ := List.mem_iff_getElem?.1 hy
      rw [List.getElem?_drop] at hq
      by_cases hqc : i + 1 + q < c.toNat
      · have := h4 _ hqc; rw [hq] at this; have := of_decide_eq_true this; omega
      · have hlc : c.toNat < l'.length ∨ c.toNat = l'.length := by omega
        have hql := (List.getElem?_eq_some_iff.1 hq).1
        have hcl : c.toNat < l'.length := by omega
        have hgc : l'[c.toNat]? = some l'[c.toNat] := List.getElem?_eq_getElem hcl
        rw [hgc] at h3
        have h3 : c ≤ I6.idx l'[c.toNat] := of_decide_eq_true h3
        rcases Nat.lt_or_ge c.toNat (i + 1 + q) with hlt | hge
        · have := sorted_le h hgc hq hlt; omega
        · have he : i + 1 + q = c.toNat := by omega
          rw [he, hgc] at hq
          have := Option.some.inj hq
          subst this
          omega
    · obtain ⟨y, hy, hyi⟩ := List.countP_pos_iff.1 h5
      have hyi : I6.idx y = i := of_decide_eq_true hyi
      obtain ⟨q, hq⟩ := List.mem_iff_getElem?.1 hy
      rw [List.getElem?_take] at hq
      split at hq
      · rename_i hqi
        have := h4 q (by omega); rw [hq] at this; have := of_decide_eq_true this; omega
      · cases hq
  · rintro ⟨h1, h2⟩
    obtain ⟨a1, a2, a3⟩ := sorted_first h (fun x hx => h0 x (hp.mem_iff.1 hx)) c.toNat fun i hi => by rw [cnt_perm hp]; exact h2 i hi
    refine ⟨⟨⟨h1, by omega⟩, ?_⟩, fun i hi => ?_⟩
    · split
      · rename_i x hx; have := a3 x hx; exact decide_eq_true (by omega)
      · rfl
    · split
      · rename_i x hx; exact decide_eq_true (a2 i x hi hx)
      · rfl
end Go.Proofs.Ytldmeimebebllaa
namespace Go.Proofs.Ytldmeimebebllaa
open Go.Mo
set_option linter.unusedVariables false
variable {g : Fr} {cv : CV}
def everyL (s : Int) (b : List Int) : List Int → Rk → Int → Rk × Int
  | [], R, wr => (R, wr)
  | d :: ds, R, wr => if R.gate d s b.length = 12 then (R.write d s b, 12) else everyL s b ds (R.write d s b) (if R.gate d s b.length = 11 then 11 else wr)
theorem drop_cons {xs : List Int} {i : Nat} {x : Int} (h : xs[i]? = some x) : xs.drop i = x :: xs.drop (i + 1) := by
  obtain ⟨hlt, he⟩ := List.getElem?_eq_some_iff.1 h
  rw [List.drop_eq_getElem_cons hlt, he]
end Go.Proofs.Ytldmeimebebllaa
namespace Go.Proofs.Ytldmeimebebllaa
open Go.Mo
set_option linter.unusedVariables false
variable {g : Fr} {cv : CV}
def allL (s : Int) (xs : List Int) (R : Rk) : List (List Int) := (xs.filter fun d => R.rdErr d s == 0).map fun d => R.rd d s
def rows (t : Slc) (l : List (List Int)) : HP := ex fun sl : List Slc => pr (sl.length = l.length ∧ t.len = l.length) * seqp sl (fun i => l.getD i []) * own 1 t (sl.map vS)
theorem seqp_ext {sl : List Slc} {f f' : Nat → List Int} (h : ∀ i, i < sl.length → f i = f' i) : Ent (seqp sl f) (seqp sl f') := fun o ho k s hk => by
  have hlt := (List.getElem?_eq_some_iff.1 hk).1
  rw [← h k hlt]
  exact ho k s hk
theorem seqp_snocL {sl : List Slc} {l : List (List Int)} {s : Slc} {b : List Int} (hl : sl.length = l.length) : Ent (seqp sl (fun i => l.getD i []) * byt s b) (seqp (sl ++ [s]) (fun i => (l ++ [b]).getD i [])) := by
  refine seqp_snoc (Ent.trans (ent_left _ _) (seqp_ext fun i hi => ?_)) (Ent.trans (ent_right _ _) (Ent.of_eq ?_))
  · simp [List.getD_eq_getElem?_getD, List.getElem?_append_left (show i < l.length by omega)]
  · simp [List.getD_eq_getElem?_getD, hl]
theorem disksL_len (q m : G3) (hq : q.1 ≤ 16) : (disksL q m).length ≤ 17 := by
  unfold disksL
  rw [List.length_append, List.length_map, List.length_range]
  split <;> simp <;> omega
theorem bank_All_spec (hcv : DisksOk cv) (bb rb : Nat) (q m : G3) (hq : q.1 ≤ 16) (R : Rk) (ds : Slc) (ps : List Nat) (s : Int) :
    wps g (bnk bb rb q m * rackP rb R ds ps) (bank_Bank_All cv (ptr bb) s) (fun t => bnk bb rb q m * rackP rb R ds ps * rows t (allL s (disksL q m) R)) := by
  unfold bank_Bank_All
  repeat first | (with_reducible refine wps_alloc fun _ => ?_) | (refine wps_ld _ (by rfl) ?_)
  rename_i x2 x3 x5
  refine wps_rangeF (F := emp)
    (fun i => ex fun t : Slc => ex fun sl : List Slc => pr (sl.length = (allL s ((disksL q m).take i) R).length ∧ t.len = sl.length) * seqp sl (fun j => (allL s ((disksL q m).take i) R).getD j []) * own 1 t (sl.map vS) * rackP rb R ds ps * pc x2 [.pointer (ptr bb)] * pc x3 [.int .i64 s] * pc x5 [vS t])
    (fun _ => pr False)
    (fun i d t' => pr (t' = d) * (bnk bb rb q m * ex fun t : Slc => ex fun sl : List Slc => pr (sl.length = (allL s ((disksL q m).take i) R).length ∧ t.len = sl.length) * seqp sl (fun j => (allL s ((disksL q m).take i) R).getD j []) * own 1 t (sl.map vS) * rackP rb R ds ps * pc x2 [.pointer (ptr bb)] * pc x3 [.int .i64 s] * pc x5 [vS t]))
    (disks_iter hcv bb rb q m hq) ?_ ?_ ?_ ?_ ?_ ?_
  · rw [emp_star]
    refine Ent.trans ?_ (Ent.starr (ent_ex nilS (ent_ex [] (Ent.refl _))))
    simp only [← star_assoc]
    refine ent_pickC (by rfl) (ent_pickC (by rfl) (ent_pickC (by rfl) (ent_pick (ent_own0 (ent_pers ?_ (seqp_nil _ _))))))
    exact ent_prx (by simp [allL, nilS]) ent_drop
  · intro i d hd g
    exact wps_pure (ent_prr rfl (Ent.refl _))
  · intro i d hd t' g
    refine wps_pr fun ht => ?_
    subst ht
    refine wps_exP fun t => ?_
    refine wps_exP fun sl => ?_
    simp only [← star_assoc]
    refine wps_prP fun ⟨hsl, htl⟩ => ?_
    have htake : (disksL q m).take (i + 1) = (disksL q m).take i ++ [t'] := by rw [List.take_add_one, hd]; rfl
    have hle : sl.length ≤ 17 := by
      rw [hsl]
      simp only [allL, List.length_map]
      have h1 := List.length_filter_le (fun d => R.rdErr d s == 0) ((disksL q m).take i)
      have h2 := disksL_len q m hq
      rw [List.length_take] at h1
      omega
    refine wps_region (bnk bb rb q m * pc x2 [.pointer (ptr bb)] * pc x3 [.int .i64 s]) (ent_pick (ent_pick ent_drop)) ?_
    repeat first | (with_reducible refine wps_nil ?_) | (refine wps_ldI _ (by rfl) ?_)
    refine wps_stepC (F := bnk bb rb q m * pc x2 [.pointer (ptr bb)] * pc x3 [.int .i64 s] * seqp sl (fun j => (allL s ((disksL q m).take i) R).getD j []) * own 1 t (sl.map vS) * pc x5 [vS t]) (A := rackP rb R ds ps) (fun _ => device_Rack_Read_spec rb R ds ps t' s) ?_ ent_drop fun e => ?_
    · exact ent_pick (ent_pick (ent_pick (ent_pick (ent_pick (ent_pick ent_drop)))))
    · simp only [← star_assoc]
      refine wps_prP fun he => ?_
      refine wps_ite (fun h0 => ?_) (fun h0 => ?_)
      · have h0' : R.rdErr t' s = 0 := by rw [← he]; simpa using h0
        have hall : allL s ((disksL q m).take (i + 1)) R = allL s ((disksL q m).take i) R ++ [R.rd t' s] := by
          rw [htake]; simp [allL, h0']
        repeat first | (with_reducible refine wps_alloc fun _ => ?_) | (refine wps_ld _ (by rfl) ?_)
        refine wps_app 1 [vS e.1] rfl (by decide) (rsl_pc rfl) (by simp [Value.oneCell', vS]) (by (try dsimp only); omega) fun t2 ht2 => ?_
        repeat refine wps_st (by simp) ?_
        refine wps_pure ?_
        rw [hall]
        refine Ent.trans ?_ (Ent.starr (ent_ex t2 (ent_ex (sl ++ [e.1]) (Ent.refl _))))
        simp only [← star_assoc]
        refine ent_pickC (by rfl) (ent_pick (ent_pick (ent_pick (ent_pickS (by simp) ?_))))
        refine ent_swap (A := own 1 e.1 (bv (R.rd t' s))) (B := byt e.1 (R.rd t' s)) (own_rsl _ _ _) ?_
        refine ent_join (A := seqp sl fun j => (allL s ((disksL q m).take i) R).getD j []) (B := byt e.1 (R.rd t' s)) (seqp_snocL hsl) ?_
        exact ent_prx ⟨by simp [hsl], by simp [ht2, htl]⟩ ent_drop
      · have h0' : ¬ R.rdErr t' s = 0 := by rw [← he]; simpa using h0
        have hall : allL s ((disksL q m).take (i + 1)) R = allL s ((disksL q m).take i) R := by
          rw [htake]; simp [allL, h0']
        refine wps_pure ?_
        rw [hall]
        refine Ent.trans ?_ (Ent.starr (ent_ex t (ent_ex sl (Ent.refl _))))
        simp only [← star_assoc]
        exact ent_pick (ent_pick (ent_pick (ent_pick (ent_pick (ent_pick (ent_prx ⟨hsl, htl⟩ ent_drop))))))
  · intro D
    refine wps_exP fun t => wps_exP fun sl => ?_
    simp only [← star_assoc]
    refine wps_prP fun ⟨hsl, htl⟩ => ?_
    rw [List.take_length]
    rw [List.take_length] at hsl
    repeat refine wps_ld _ (by rfl) ?_
    refine wps_take (wps_pure ?_)
    refine ent_exr sl ?_
    simp only [← star_assoc]
    exact ent_pick (ent_pick (ent_prx ⟨hsl, by rw [htl, hsl]⟩ (ent_pick ent_drop)))
  · intro D
    exact wps_false (fun o ho => by
      have := ent_right _ _ o (ent_left _ _ o ho)
      exact ent_right _ _ o this)
  · intro D id
    exact wps_false (fun o ho => by
      have := ent_right _ _ o (ent_left _ _ o ho)
      exact ent_right _ _ o this)
end Go.Proofs.Ytldmeimebebllaa
namespace Go.Proofs.Ytldmeimebebllaa
open Go.Mo
set_option linter.unusedVariables false
structure Calm (R : Rk) : Prop where
  off : R.off = false
  count : R.count = -1
  failed : ∀ j, (R.dk j).failed = false
  counts : ∀ j, (R.dk j).count = -1
theorem w64m2 : w64 (-1 - 1) = -2 := w64_id (by omega) (by omega)
theorem Calm.tick {R : Rk} (h : Calm R) : R.ticked = R := by
  obtain ⟨n, ns, dk, count, off⟩ := R
  obtain ⟨h1, h2, h3, h4⟩ := h
  simp only at h1 h2 h3 h4
  subst h1 h2
  have hm : maxI (w64 (-1 - 1)) (-1) = -1 := by rw [w64m2]; rfl
  have hdk : (fun j => (dk j).tick) = dk := by
    funext j
    have a := h3 j
    have b := h4 j
    cases hd : dk j with
    | mk l c f k =>
      rw [hd] at a b
      simp only at a b
      subst a b
      simp only [Dk.tick, hm]
      rfl
  simp only [Rk.ticked, hm, hdk]
  rfl
theorem Calm.new (n s : Nat) : Calm (Rk.new n s) := ⟨rfl, rfl, fun _ => rfl, fun _ => rfl⟩
theorem Calm.gate {R : Rk} (h : Calm R) {k s : Int} (hk : 0 ≤ k ∧ k < R.n) (hs : 0 ≤ s ∧ s < R.ns) : R.gate k s 64 = 0 := by
  unfold Rk.gate
  have hr : ¬ (k < 0 ∨ k ≥ R.n ∨ s < 0 ∨ s ≥ R.ns) := by omega
  rw [if_neg (by simp [h.off]), if_neg hr, if_neg (by omega), if_neg (by rw [h.count]; omega), h.tick, if_neg (by simp [h.failed])]
theorem Calm.put {R : Rk} (h : Calm R) (k s : Int) (b : List Int) : Calm (R.put k s b) := by
  refine ⟨h.off, h.count, fun j => ?_, fun j => ?_⟩
  · simp only [Rk.put]; split
    · exact h.failed j
    · exact h.failed j
  · simp only [Rk.put]; split
    · exact h.counts j
    · exact h.counts j
theorem Calm.write {R : Rk} (h : Calm R) {k s : Int} {b : List Int} (hk : 0 ≤ k ∧ k < R.n) (hs : 0 ≤ s ∧ s < R.ns) (hb : b.length = 64) : R.gate k s b.length = 0 ∧ R.write k s b = R.put k s b := by
  have hg : R.gate k s b.length = 0 := by rw [hb]; exact h.gate hk hs
  obtain ⟨_, _, _, _, hgd⟩ := gate_ok hg
  exact ⟨hg, by rw [Rk.write, if_pos hg, hgd, h.tick]⟩
theorem Calm.rdErr {R : Rk} (h : Calm R) {k s : Int} (hk : 0 ≤ k ∧ k < R.n) (hs : 0 ≤ s ∧ s < R.ns) : R.rdErr k s = 0 := by
  unfold Rk.rdErr
  have hr : ¬ (k < 0 ∨ k ≥ R.n ∨ s < 0 ∨ s ≥ R.ns) := by omega
  rw [if_neg (by simp [h.off]), if_neg hr, if_neg (by simp [h.failed])]
theorem Calm.rd {R : Rk} (h : Calm R) {k s : Int} (hk : 0 ≤ k ∧ k < R.n) (hs : 0 ≤ s ∧ s < R.ns) : R.rd k s = (R.dk k.toNat).sec s := by
  rw [Rk.rd, if_pos (h.rdErr hk hs)]
theorem put_sec (R : Rk) (k s : Int) (b : List Int) (j : Nat) (i : Int) : ((R.put k s b).dk j).sec i = if j = k.toNat ∧ i = s then b else (R.dk j).sec i := by
  simp only [Rk.put]
  by_cases hj : j = k.toNat
  · by_cases hi : i = s
    · simp [hj, hi, Dk.sec]
    · simp [hj, hi, Dk.sec]
  · simp [hj]
theorem Calm.failedB {R : Rk} (h : Calm R) (k : Int) : R.failedB k = false := by
  unfold Rk.failedB; split
  · exact h.failed _
  · rfl
theorem Calm.every {s : Int} {b : List Int} : ∀ {xs : List Int} {R : Rk}, Calm R → (∀ d ∈ xs, 0 ≤ d ∧ d < R.n) → 0 ≤ s ∧ s < R.ns → b.length = 64 → everyL s b xs R 0 = (xs.foldl (fun R d => R.put d s b) R, 0)
  | [], R, _, _, _, _ => rfl
  | d :: xs, R, h, hx, hs, hb => by
    have hw := h.write (hx d (by simp)) hs hb
    simp only [everyL, hw.1, hw.2]
    rw [if_neg (by omega), if_neg (by omega)]
    exact Calm.every (h.put d s b) (fun d' hd' => hx d' (by simp [hd'])) hs hb
theorem Calm.all_len {R : Rk} (h : Calm R) {s : Int} {xs : List Int} (hx : ∀ d ∈ xs, 0 ≤ d ∧ d < R.n) (hs : 0 ≤ s ∧ s < R.ns) : (allL s xs R).length = xs.length := by
  simp only [allL, List.length_map]
  rw [List.filter_eq_self.2 fun d hd => by simp [h.rdErr (hx d hd) hs]]
end Go.Proofs.Ytldmeimebebllaa

