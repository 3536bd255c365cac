/-
  A part of the proof: predicate transformers over the model, and a separation logic over them; what functions of the program do.
-/
import Derived.Test.YtldmeimebebllaaGreatDoorPart0
set_option linter.unusedSimpArgs false
namespace Go.Proofs.Ytldmeimebebllaa
abbrev fid_bank_Bank_disks : Nat := 33
abbrev fid_scan_Groups_c1 : Nat := 55
abbrev fid_scan_Groups_c2 : Nat := 59
abbrev fid_stripe_rows_c1 : Nat := 91
open Go.Mo
set_option linter.unusedVariables false
def law08_Small  : M (Int × Int × Int) :=
  bindM (allocM [(.int .i64 0), (.int .i64 0), (.int .i64 0)]) fun x0 =>
  bindM (stA x0 [(.int .i64 3), (.int .i64 3), (.int .i64 12)]) fun _ =>
  bindM (ldA (fun y : (Int × Int × Int) => [(.int .i64 y.1), (.int .i64 y.2.1), (.int .i64 y.2.2)]) x0) fun r0 =>
  pureM (r0.1, r0.2.1, r0.2.2)
def geo_within (p0_n : Int) (p1_from : Int) (p2_to : Int) : M Bool :=
  bindM (if (decide (p1_from ≤ p0_n)) = true then
    pureM (decide (p0_n ≤ p2_to))
  else
    pureM false) fun q1 =>
  pureM q1
def geo_others (p0_g : (Int × Int × Int)) : M Int :=
  bindM (allocM [(.int .i64 p0_g.1), (.int .i64 p0_g.2.1), (.int .i64 p0_g.2.2)]) fun x1 =>
  bindM (ld (Value.int .i64) (Addr.add x1 2)) fun x4 =>
  pureM (w64 (1 + (w64 (Int.tdiv x4 8))))
def geo_places (p0_g : (Int × Int × Int)) : M Int :=
  bindM (allocM [(.int .i64 p0_g.1), (.int .i64 p0_g.2.1), (.int .i64 p0_g.2.2)]) fun x1 =>
  bindM (ld (Value.int .i64) (Addr.add x1 1)) fun x4 =>
  bindM (ld (Value.int .i64) x1) fun x6 =>
  pureM (w64 ((w64 (x4 * (w64 (x6 - 1)))) - 1))
def geo_Right (p0_g : (Int × Int × Int)) : M Bool :=
  bindM (allocM [(.int .i64 p0_g.1), (.int .i64 p0_g.2.1), (.int .i64 p0_g.2.2)]) fun x1 =>
  regionM fun S1 =>
  bindM (ldI S1 (Value.int .i64) x1) fun x4 =>
  bindM (stepI S1 (geo_within x4 3 16)) fun x5 =>
  (if (x5) = true then
    bindM (ldI S1 (Value.int .i64) (Addr.add x1 1)) fun x8 =>
      bindM (stepI S1 (geo_within x8 1 4)) fun x9 =>
      (if (x9) = true then
        bindM (ldI S1 (Value.int .i64) (Addr.add x1 2)) fun x13 =>
          bindM (stepI S1 (geo_within x13 12 64)) fun x14 =>
          (if (x14) = true then
            bindM (ldAI S1 (fun y : (Int × Int × Int) => [(.int .i64 y.1), (.int .i64 y.2.1), (.int .i64 y.2.2)]) x1) fun x17 =>
              bindM (ldAI S1 (fun y : (Int × Int × Int) => [(.int .i64 y.1), (.int .i64 y.2.1), (.int .i64 y.2.2)]) x1) fun x19 =>
              bindM (stepI S1 (geo_others (x17.1, x17.2.1, x17.2.2))) fun x18 =>
              bindM (stepI S1 (geo_places (x19.1, x19.2.1, x19.2.2))) fun x20 =>
              pureM (decide ((w64 (x18 * x20)) ≥ 8))
          else
            pureM false)
      else
        pureM false)
  else
    pureM false)
def geo_Places (p0_g : (Int × Int × Int)) : M Int :=
  bindM (allocM [(.int .i64 p0_g.1), (.int .i64 p0_g.2.1), (.int .i64 p0_g.2.2)]) fun x1 =>
  bindM (ldA (fun y : (Int × Int × Int) => [(.int .i64 y.1), (.int .i64 y.2.1), (.int .i64 y.2.2)]) x1) fun x3 =>
  bindM (geo_Right (x3.1, x3.2.1, x3.2.2)) fun x4 =>
  (if (!x4) = true then
  pureM 0
  else
  bindM (ldA (fun y : (Int × Int × Int) => [(.int .i64 y.1), (.int .i64 y.2.1), (.int .i64 y.2.2)]) x1) fun x6 =>
    bindM (geo_places (x6.1, x6.2.1, x6.2.2)) fun x7 =>
    pureM x7)
def geo_Where (p0_g : (Int × Int × Int)) (p1_address : Int) : M (Int × Int × Bool) :=
  bindM (allocM [(.int .i64 p0_g.1), (.int .i64 p0_g.2.1), (.int .i64 p0_g.2.2)]) fun x2 =>
  bindS (regionM fun S3 =>
    bindM (ldAI S3 (fun y : (Int × Int × Int) => [(.int .i64 y.1), (.int .i64 y.2.1), (.int .i64 y.2.2)]) x2) fun x7 =>
    bindM (stepI S3 (geo_Right (x7.1, x7.2.1, x7.2.2))) fun x8 =>
    (if (!x8) = true then
      pureM (.inl true)
    else
      bindM (ldI S3 (Value.int .i64) (Addr.add x2 2)) fun x13 =>
        bindM (ldAI S3 (fun y : (Int × Int × Int) => [(.int .i64 y.1), (.int .i64 y.2.1), (.int .i64 y.2.2)]) x2) fun x14 =>
        bindM (stepI S3 (geo_places (x14.1, x14.2.1, x14.2.2))) fun x15 =>
        bindM (stepI S3 (geo_within p1_address 1 (w64 (x13 * x15)))) fun x17 =>
        pureM (.inl (!x17)))) fun (b1 : (Bool)) =>
  (if (b1) = true then
  pureM (0, 0, false)
  else
  regionM fun S2 =>
    bindM (ldAI S2 (fun y : (Int × Int × Int) => [(.int .i64 y.1), (.int .i64 y.2.1), (.int .i64 y.2.2)]) x2) fun x22 =>
    bindM (ldAI S2 (fun y : (Int × Int × Int) => [(.int .i64 y.1), (.int .i64 y.2.1), (.int .i64 y.2.2)]) x2) fun x27 =>
    bindM (stepI S2 (geo_places (x22.1, x22.2.1, x22.2.2))) fun x23 =>
    assertM (x23 ≠ 0) <|
    bindM (stepI S2 (geo_places (x27.1, x27.2.1, x27.2.2))) fun x28 =>
    assertM (x28 ≠ 0) <|
    pureM (w64 (Int.tdiv (w64 (p1_address - 1)) x23), w64 ((Int.tmod (w64 (p1_address - 1)) x28) + 1), true))
def scan_right (p0_g : (Int × Int × Int)) (p1_s : (Int × Int × Int × Int)) : M Bool :=
  bindM (allocM [(.int .i64 p0_g.1), (.int .i64 p0_g.2.1), (.int .i64 p0_g.2.2)]) fun x2 =>
  bindM (allocM [(.int .i64 p1_s.1), (.int .i64 p1_s.2.1), (.int .i64 p1_s.2.2.1), (.int .i64 p1_s.2.2.2)]) fun x3 =>
  bindM (ldA (fun y : (Int × Int × Int) => [(.int .i64 y.1), (.int .i64 y.2.1), (.int .i64 y.2.2)]) x2) fun x9 =>
  bindM (geo_Places (x9.1, x9.2.1, x9.2.2)) fun x10 =>
  bindM (if (x10 == 0) = true then
    pureM true
  else
    bindM (ld (Value.int .i64) x3) fun x15 =>
      pureM (decide (x15 < 1))) fun q1 =>
  bindM (if (q1) = true then
    pureM true
  else
    bindM (ld (Value.int .i64) x3) fun x20 =>
      bindM (ld (Value.int .i64) (Addr.add x2 2)) fun x22 =>
      pureM (decide (x20 > x22))) fun q2 =>
  bindM (if (q2) = true then
    pureM true
  else
    bindM (ld (Value.int .i64) (Addr.add x3 1)) fun x27 =>
      pureM (decide (x27 < 0))) fun q3 =>
  bindM (if (q3) = true then
    pureM true
  else
    bindM (ld (Value.int .i64) (Addr.add x3 1)) fun x32 =>
      bindM (ld (Value.int .i64) x3) fun x34 =>
      pureM (decide (x32 ≥ x34))) fun q4 =>
  bindM (if (q4) = true then
    pureM true
  else
    bindM (ld (Value.int .i64) (Addr.add x3 2)) fun x39 =>
      pureM (decide (x39 < 0))) fun q5 =>
  bindM (if (q5) = true then
    pureM true
  else
    bindM (ld (Value.int .i64) (Addr.add x3 2)) fun x44 =>
      pureM (decide (x44 > x10))) fun q6 =>
  (if (q6) = true then
  pureM false
  else
  bindM (ld (Value.int .i64) (Addr.add x3 1)) fun x49 =>
    bindM (ld (Value.int .i64) x3) fun x51 =>
    (if (x49 == (w64 (x51 - 1))) = true then
    bindM (ldA (fun y : (Int × Int × Int) => [(.int .i64 y.1), (.int .i64 y.2.1), (.int .i64 y.2.2)]) x2) fun x55 =>
      bindM (ld (Value.int .i64) (Addr.add x3 3)) fun x57 =>
      bindM (geo_Where (x55.1, x55.2.1, x55.2.2) x57) fun x58 =>
      pureM x58.2.2
    else
    bindM (ld (Value.int .i64) (Addr.add x3 3)) fun x64 =>
      pureM (x64 == 0)))
def bits_Put (p0_width : Int) (p1_n : Int) : M Slc :=
  bindM (if (decide (p0_width < 1)) = true then
    pureM true
  else
    pureM (decide (p0_width > 4))) fun q1 =>
  bindM (if (q1) = true then
    pureM true
  else
    pureM (decide (p1_n < 0))) fun q2 =>
  bindM (if (q2) = true then
    pureM true
  else
    assertM (0 ≤ (w64 (8 * p0_width))) <|
      pureM (decide ((bShr .i64 p1_n (w64 (8 * p0_width))) > 0))) fun q3 =>
  (if (q3) = true then
  pureM (⟨none, 0, 0⟩)
  else
  bindM (makeM [(.int .u8 0)] 1 p0_width) fun x25 =>
    loopM (fun (s4 : (Int)) =>
    (if (decide (s4 < ((x25.len : Nat) : Int))) = true then
      assertM (0 ≤ (w64 (8 * s4))) <|
        bindM (idxM x25 s4 1) fun x38 =>
        bindM (st x38 (.int .u8 (IntKind.wrap .u8 (bShr .i64 p1_n (w64 (8 * s4)))))) fun _ =>
        pureM (.inl (w64 (s4 + 1)))
      else
      mapR (pureM x25))) 0)
def bits_Pad (p0_b : Slc) (p1_n : Int) : M (Slc × Bool) :=
  bindM (if (decide (p1_n > 65536)) = true then
    pureM true
  else
    pureM (decide (((p0_b.len : Nat) : Int) > p1_n))) fun q1 =>
  (if (q1) = true then
  pureM (⟨none, 0, 0⟩, false)
  else
  bindM (makeM [(.int .u8 0)] 1 p1_n) fun x16 =>
    bindM (copyM 1 x16 p0_b) fun x19 =>
    pureM (x16, true))
def scan_PutSummary (p0_g : (Int × Int × Int)) (p1_s : (Int × Int × Int × Int)) : M ((Int × Int × Slc) × Bool) :=
  bindM (allocM [(.int .i64 p0_g.1), (.int .i64 p0_g.2.1), (.int .i64 p0_g.2.2)]) fun x2 =>
  bindM (allocM [(.int .i64 p1_s.1), (.int .i64 p1_s.2.1), (.int .i64 p1_s.2.2.1), (.int .i64 p1_s.2.2.2)]) fun x3 =>
  bindM (allocM [(.int .i64 0), (.int .i64 0), (.slice none 0 0)]) fun x4 =>
  bindM (ldA (fun y : (Int × Int × Int) => [(.int .i64 y.1), (.int .i64 y.2.1), (.int .i64 y.2.2)]) x2) fun x9 =>
  bindM (ldA (fun y : (Int × Int × Int × Int) => [(.int .i64 y.1), (.int .i64 y.2.1), (.int .i64 y.2.2.1), (.int .i64 y.2.2.2)]) x3) fun x10 =>
  bindM (scan_right (x9.1, x9.2.1, x9.2.2) (x10.1, x10.2.1, x10.2.2.1, x10.2.2.2)) fun x11 =>
  (if (!x11) = true then
  bindM (stA x4 [(.int .i64 0), (.int .i64 0), (.slice none 0 0)]) fun _ =>
    bindM (ldA (fun y : (Int × Int × Slc) => [(.int .i64 y.1), (.int .i64 y.2.1), (.slice y.2.2.base y.2.2.len y.2.2.cap)]) x4) fun r4 =>
    pureM ((r4.1, r4.2.1, r4.2.2), false)
  else
  bindM (ld (Value.int .i64) x3) fun x15 =>
    bindM (ld (Value.int .i64) (Addr.add x3 1)) fun x17 =>
    bindM (ld (Value.int .i64) (Addr.add x3 2)) fun x19 =>
    bindM (ld (Value.int .i64) (Addr.add x3 3)) fun x21 =>
    loopM (fun (s1 : (Slc × Int)) =>
    (if (decide (s1.2 < 5)) = true then
      bindM (arrM [21331, x15, x17, x19, x21] s1.2) fun x25 =>
        bindM (bits_Put 2 x25) fun x28 =>
        bindM (appendM [(.int .u8 0)] 1 s1.1 x28) fun x29 =>
        pureM (.inl (x29, w64 (s1.2 + 1)))
      else
      mapR (bindM (bits_Pad s1.1 56) fun x33 =>
        bindM (stA x4 [(.int .i64 65535), (.int .i64 0), (.slice x33.1.base x33.1.len x33.1.cap)]) fun _ =>
        bindM (ldA (fun y : (Int × Int × Slc) => [(.int .i64 y.1), (.int .i64 y.2.1), (.slice y.2.2.base y.2.2.len y.2.2.cap)]) x4) fun r4 =>
        pureM ((r4.1, r4.2.1, r4.2.2), true)))) (⟨none, 0, 0⟩, 0))
def cmp_isNaN_i (p0_x : Int) : M Bool :=
  pureM (p0_x != p0_x)
def cmp_Compare_i (p0_x : Int) (p1_y : Int) : M Int :=
  bindM (cmp_isNaN_i p0_x) fun x8 =>
  bindM (cmp_isNaN_i p1_y) fun x10 =>
  (if (x8) = true then
  (if (x10) = true then
    pureM 0
    else
    pureM (-1))
  else
  (if (x10) = true then
    pureM 1
    else
    (if (decide (p0_x < p1_y)) = true then
      pureM (-1)
      else
      (if (decide (p0_x > p1_y)) = true then
        pureM 1
        else
        pureM 0))))
def scan_Groups_c1 (p0_a : (Int × Int × Int × Int × Int × Int)) (p1_b : (Int × Int × Int × Int × Int × Int)) : M Int :=
  bindM (allocM [(.int .i64 p0_a.1), (.int .i64 p0_a.2.1), (.int .i64 p0_a.2.2.1), (.int .i64 p0_a.2.2.2.1), (.int .i64 p0_a.2.2.2.2.1), (.int .i64 p0_a.2.2.2.2.2)]) fun x2 =>
  bindM (allocM [(.int .i64 p1_b.1), (.int .i64 p1_b.2.1), (.int .i64 p1_b.2.2.1), (.int .i64 p1_b.2.2.2.1), (.int .i64 p1_b.2.2.2.2.1), (.int .i64 p1_b.2.2.2.2.2)]) fun x3 =>
  bindM (ld (Value.int .i64) (Addr.add (Addr.add x2 2) 1)) fun x7 =>
  bindM (ld (Value.int .i64) (Addr.add (Addr.add x3 2) 1)) fun x10 =>
  bindM (cmp_Compare_i x7 x10) fun x11 =>
  pureM x11
def scan_whole (p0_m : Slc) (p1_count : Int) : M Bool :=
  bindM (if (decide (p1_count < 1)) = true then
    pureM true
  else
    pureM (decide (((p0_m.len : Nat) : Int) < p1_count))) fun q1 =>
  bindM (if (q1) = true then
    pureM true
  else
    bindM (if (decide (((p0_m.len : Nat) : Int) > p1_count)) = true then
        bindM (idxM p0_m p1_count 6) fun x23 =>
          bindM (ld (Value.int .i64) (Addr.add (Addr.add x23 2) 1)) fun x26 =>
          pureM (decide (x26 < p1_count))
      else
        pureM false) fun q4 =>
      pureM q4) fun q2 =>
  (if (q2) = true then
  pureM false
  else
  bindM (sliceM p0_m (none) (some p1_count) 6) fun x33 =>
    loopM (fun (s3 : (Int)) =>
    (if (decide (s3 < ((x33.len : Nat) : Int))) = true then
      bindM (idxM x33 s3 6) fun x38 =>
        bindM (ldA (fun y : (Int × Int × Int × Int × Int × Int) => [(.int .i64 y.1), (.int .i64 y.2.1), (.int .i64 y.2.2.1), (.int .i64 y.2.2.2.1), (.int .i64 y.2.2.2.2.1), (.int .i64 y.2.2.2.2.2)]) x38) fun x39 =>
        bindM (allocM [(.int .i64 0), (.int .i64 0), (.int .i64 0), (.int .i64 0), (.int .i64 0), (.int .i64 0)]) fun x6 =>
        bindM (stA x6 [(.int .i64 x39.1), (.int .i64 x39.2.1), (.int .i64 x39.2.2.1), (.int .i64 x39.2.2.2.1), (.int .i64 x39.2.2.2.2.1), (.int .i64 x39.2.2.2.2.2)]) fun _ =>
        bindM (ld (Value.int .i64) (Addr.add (Addr.add x6 2) 1)) fun x42 =>
        (if (x42 != s3) = true then
        mapR (pureM false)
        else
        pureM (.inl (w64 (s3 + 1))))
      else
      mapR (pureM true))) 0)
def cmp_Or_i (p0_vals : Slc) : M Int :=
  loopM (fun (s1 : (Int)) =>
  (if (decide (s1 < ((p0_vals.len : Nat) : Int))) = true then
    bindM (idxM p0_vals s1 1) fun x10 =>
      bindM (ld (Value.int .i64) x10) fun x11 =>
      (if (x11 != 0) = true then
      mapR (pureM x11)
      else
      pureM (.inl (w64 (s1 + 1))))
    else
    mapR (pureM 0))) 0
def scan_Groups_c2 (p0_a : (Int × Int × Slc)) (p1_b : (Int × Int × Slc)) : M Int :=
  bindM (allocM [(.int .i64 p0_a.1), (.int .i64 p0_a.2.1), (.slice p0_a.2.2.base p0_a.2.2.len p0_a.2.2.cap)]) fun x2 =>
  bindM (allocM [(.int .i64 p1_b.1), (.int .i64 p1_b.2.1), (.slice p1_b.2.2.base p1_b.2.2.len p1_b.2.2.cap)]) fun x3 =>
  regionM fun S1 =>
  bindM (ldI S1 (Value.int .i64) x2) fun x6 =>
  bindM (ldI S1 (Value.int .i64) x3) fun x8 =>
  bindM (ldI S1 vS (Addr.add x2 2)) fun x11 =>
  bindM (ldI S1 vS (Addr.add x3 2)) fun x14 =>
  bindM (stepI S1 (cmp_Compare_i x6 x8)) fun x9 =>
  bindM (stepI S1 (cmp_Compare_i ((x11.len : Nat) : Int) ((x14.len : Nat) : Int))) fun x16 =>
  bindM (stepI S1 (allocM [(.int .i64 x9), (.int .i64 x16)])) fun x17 =>
  bindM (stepI S1 (cmp_Or_i (⟨some x17, 2, 2⟩))) fun x18 =>
  pureM x18
def scan_Groups (p0_list : Slc) : M Slc :=
  bindM (newO (.map #[] 0)) fun x13 =>
  loopM (fun (s1 : (Int)) =>
  (if (decide (s1 < ((p0_list.len : Nat) : Int))) = true then
    bindM (idxM p0_list s1 6) fun x18 =>
      bindM (ldA (fun y : (Int × Int × Int × Int × Int × Int) => [(.int .i64 y.1), (.int .i64 y.2.1), (.int .i64 y.2.2.1), (.int .i64 y.2.2.2.1), (.int .i64 y.2.2.2.2.1), (.int .i64 y.2.2.2.2.2)]) x18) fun x19 =>
      bindM (allocM [(.int .i64 0), (.int .i64 0), (.int .i64 0), (.int .i64 0), (.int .i64 0), (.int .i64 0)]) fun x5 =>
      bindM (stA x5 [(.int .i64 x19.1), (.int .i64 x19.2.1), (.int .i64 x19.2.2.1), (.int .i64 x19.2.2.2.1), (.int .i64 x19.2.2.2.2.1), (.int .i64 x19.2.2.2.2.2)]) fun _ =>
      bindM (ld (Value.int .i64) (Addr.add (Addr.add x5 2) 1)) fun x22 =>
      bindM (if (decide (x22 ≥ 0)) = true then
        bindM (ld (Value.int .i64) (Addr.add x5 1)) fun x26 =>
          bindM (ld (Value.int .i64) (Addr.add (Addr.add x5 2) 1)) fun x29 =>
          pureM (decide (x26 ≥ x29))
      else
        pureM false) fun q2 =>
      (if (q2) = true then
      bindM (ld (Value.int .i64) (Addr.add x5 1)) fun x33 =>
        bindM (ld (Value.int .i64) (Addr.add (Addr.add x5 2) 1)) fun x36 =>
        bindM (ld (Value.int .i64) (Addr.add x5 2)) fun x40 =>
        bindM (allocM [(.int .i64 0), (.int .i64 0)]) fun x6 =>
        bindM (stA x6 [(.int .i64 (w64 (x33 - x36))), (.int .i64 x40)]) fun _ =>
        bindM (ldA (fun y : (Int × Int) => [(.int .i64 y.1), (.int .i64 y.2)]) x6) fun x43 =>
        bindM (ldA (fun y : (Int × Int × Int × Int × Int × Int) => [(.int .i64 y.1), (.int .i64 y.2.1), (.int .i64 y.2.2.1), (.int .i64 y.2.2.2.1), (.int .i64 y.2.2.2.2.1), (.int .i64 y.2.2.2.2.2)]) x5) fun x45 =>
        bindM (allocM [(.int .i64 x45.1), (.int .i64 x45.2.1), (.int .i64 x45.2.2.1), (.int .i64 x45.2.2.2.1), (.int .i64 x45.2.2.2.2.1), (.int .i64 x45.2.2.2.2.2)]) fun x46 =>
        bindM (entM vS (⟨none, 0, 0⟩) (some x13) (x43.1, x43.2)) fun x47 =>
        bindM (appendM [(.int .i64 0), (.int .i64 0), (.int .i64 0), (.int .i64 0), (.int .i64 0), (.int .i64 0)] 48 x47.1 ⟨some x46, 1, 1⟩) fun x48 =>
        bindM (entStM (some x13) x47.2 (.slice x48.base x48.len x48.cap)) fun _ =>
        pureM (.inl (w64 (s1 + 1)))
      else
      pureM (.inl (w64 (s1 + 1))))
    else
    mapR (bindM (rangeMapM (some x13)) fun x52 =>
      loopM (fun (s3 : (Slc)) =>
      bindM (nextM x52) fun y53 =>
        (match y53 with
        | none =>
          mapR (bindM (sortFM 3 (fun y : (Int × Int × Slc) => [(.int .i64 y.1), (.int .i64 y.2.1), (.slice y.2.2.base y.2.2.len y.2.2.cap)]) cf_scan_Groups_c2 s3) fun x99 =>
            pureM s3)
        | some e53 =>
          bindM (entryM (fun y : (Int × Int) => (.agg #[(.int .i64 y.1), (.int .i64 y.2)])) vS x52) fun x55 =>
            bindM (allocM [(.int .i64 0), (.int .i64 0)]) fun x8 =>
            bindM (stA x8 [(.int .i64 x55.1.1), (.int .i64 x55.1.2)]) fun _ =>
            bindM (sortFM 6 (fun y : (Int × Int × Int × Int × Int × Int) => [(.int .i64 y.1), (.int .i64 y.2.1), (.int .i64 y.2.2.1), (.int .i64 y.2.2.2.1), (.int .i64 y.2.2.2.2.1), (.int .i64 y.2.2.2.2.2)]) cf_scan_Groups_c1 x55.2) fun x59 =>
            bindM (ld (Value.int .i64) (Addr.add x8 1)) fun x62 =>
            bindM (scan_whole x55.2 x62) fun x63 =>
            (if (!x63) = true then
            pureM (.inl s3)
            else
            bindM (ld (Value.int .i64) (Addr.add x8 1)) fun x67 =>
              bindM (sliceM x55.2 (none) (some x67) 6) fun x68 =>
              regionM fun S4 =>
              bindM (ldI S4 (Value.int .i64) x8) fun x70 =>
              bindM (idxM x68 (w64 (((x68.len : Nat) : Int) - 1)) 6) fun x75 =>
              bindM (ldI S4 (Value.int .i64) (Addr.add (Addr.add x75 2) 3)) fun x78 =>
              bindM (stepI S4 (allocM [(.int .i64 0), (.int .i64 0), (.slice none 0 0)])) fun x10 =>
              bindM (stA x10 [(.int .i64 x70), (.int .i64 x78), (.slice none 0 0)]) fun _ =>
              loopM (fun (s5 : (Int)) =>
              (if (decide (s5 < ((x68.len : Nat) : Int))) = true then
                bindM (idxM x68 s5 6) fun x84 =>
                  bindM (ldA (fun y : (Int × Int × Int × Int × Int × Int) => [(.int .i64 y.1), (.int .i64 y.2.1), (.int .i64 y.2.2.1), (.int .i64 y.2.2.2.1), (.int .i64 y.2.2.2.2.1), (.int .i64 y.2.2.2.2.2)]) x84) fun x85 =>
                  bindM (allocM [(.int .i64 0), (.int .i64 0), (.int .i64 0), (.int .i64 0), (.int .i64 0), (.int .i64 0)]) fun x12 =>
                  bindM (stA x12 [(.int .i64 x85.1), (.int .i64 x85.2.1), (.int .i64 x85.2.2.1), (.int .i64 x85.2.2.2.1), (.int .i64 x85.2.2.2.2.1), (.int .i64 x85.2.2.2.2.2)]) fun _ =>
                  bindM (ld vS (Addr.add x10 2)) fun x87 =>
                  bindM (ld (Value.int .i64) x12) fun x89 =>
                  bindM (allocM [(.int .i64 x89)]) fun x90 =>
                  bindM (appendM [(.int .i64 0)] 8 x87 ⟨some x90, 1, 1⟩) fun x91 =>
                  bindM (st (Addr.add x10 2) (.slice x91.base x91.len x91.cap)) fun _ =>
                  pureM (.inl (w64 (s5 + 1)))
                else
                mapR (bindM (ldA (fun y : (Int × Int × Slc) => [(.int .i64 y.1), (.int .i64 y.2.1), (.slice y.2.2.base y.2.2.len y.2.2.cap)]) x10) fun x95 =>
                  bindM (allocM [(.int .i64 x95.1), (.int .i64 x95.2.1), (.slice x95.2.2.base x95.2.2.len x95.2.2.cap)]) fun x96 =>
                  bindM (appendM [(.int .i64 0), (.int .i64 0), (.slice none 0 0)] 40 s3 ⟨some x96, 1, 1⟩) fun x97 =>
                  pureM (.inl x97)))) 0))) (⟨none, 0, 0⟩)))) 0
def bytes_trimLeftByte (p0_s : Slc) (p1_c : Int) : M Slc :=
  loopM (fun (s1 : (Slc)) =>
  bindM (if (decide (((s1.len : Nat) : Int) > 0)) = true then
      bindM (idxM s1 0 1) fun x10 =>
        bindM (ld (Value.int .u8) x10) fun x11 =>
        pureM (x11 == p1_c)
    else
      pureM false) fun q2 =>
    (if (q2) = true then
    bindM (sliceM s1 (some 1) (none) 1) fun x16 =>
      pureM (.inl x16)
    else
    mapR ((if (((s1.len : Nat) : Int) == 0) = true then
      pureM (⟨none, 0, 0⟩)
      else
      pureM s1)))) p0_s
def bytes_trimRightByte (p0_s : Slc) (p1_c : Int) : M Slc :=
  loopM (fun (s1 : (Slc)) =>
  bindM (if (decide (((s1.len : Nat) : Int) > 0)) = true then
      bindM (idxM s1 (w64 (((s1.len : Nat) : Int) - 1)) 1) fun x13 =>
        bindM (ld (Value.int .u8) x13) fun x14 =>
        pureM (x14 == p1_c)
    else
      pureM false) fun q2 =>
    (if (q2) = true then
    bindM (sliceM s1 (none) (some (w64 (((s1.len : Nat) : Int) - 1))) 1) fun x22 =>
      pureM (.inl x22)
    else
    mapR (pureM s1))) p0_s
def bytes_Trim_0 (p0_s : Slc) : M Slc :=
  (if (((p0_s.len : Nat) : Int) == 0) = true then
  pureM (⟨none, 0, 0⟩)
  else
  regionM fun S1 =>
    bindM (bytes_trimRightByte p0_s 0) fun x24 =>
    bindM (bytes_trimLeftByte x24 0) fun x27 =>
    pureM x27)
def bits_Nought (p0_b : Slc) : M Bool :=
  bindM (bytes_Trim_0 p0_b) fun x4 =>
  pureM (((x4.len : Nat) : Int) == 0)
def bits_Get (p0_b : Slc) (p1_at : Int) (p2_width : Int) : M (Int × Bool) :=
  bindM (if (decide (p2_width < 1)) = true then
    pureM true
  else
    pureM (decide (p2_width > 4))) fun q1 =>
  bindM (if (q1) = true then
    pureM true
  else
    pureM (decide (p1_at < 0))) fun q2 =>
  bindM (if (q2) = true then
    pureM true
  else
    pureM (decide (p1_at > ((p0_b.len : Nat) : Int)))) fun q3 =>
  bindM (if (q3) = true then
    pureM true
  else
    pureM (decide ((w64 (((p0_b.len : Nat) : Int) - p1_at)) < p2_width))) fun q4 =>
  (if (q4) = true then
  pureM (0, false)
  else
  bindM (sliceM p0_b (some p1_at) (some (w64 (p1_at + p2_width))) 1) fun x40 =>
    loopM (fun (s5 : (Int × Int)) =>
    (if (decide (s5.2 < ((x40.len : Nat) : Int))) = true then
      bindM (idxM x40 s5.2 1) fun x45 =>
        bindM (ld (Value.int .u8) x45) fun x46 =>
        assertM (0 ≤ (w64 (8 * s5.2))) <|
        pureM (.inl (bOr .i64 s5.1 (bShl .i64 (w64 x46) (w64 (8 * s5.2))), w64 (s5.2 + 1)))
      else
      mapR (pureM (s5.1, true)))) (0, 0))
def scan_GetSummary (p0_g : (Int × Int × Int)) (p1_b : (Int × Int × Slc)) : M ((Int × Int × Int × Int) × Bool) :=
  bindM (allocM [(.int .i64 p0_g.1), (.int .i64 p0_g.2.1), (.int .i64 p0_g.2.2)]) fun x2 =>
  bindM (allocM [(.int .i64 p1_b.1), (.int .i64 p1_b.2.1), (.slice p1_b.2.2.base p1_b.2.2.len p1_b.2.2.cap)]) fun x3 =>
  bindM (allocM [(.int .i64 0), (.int .i64 0), (.int .i64 0), (.int .i64 0)]) fun x4 =>
  bindM (ld (Value.int .i64) x3) fun x10 =>
  bindM (if (x10 != 65535) = true then
    pureM true
  else
    bindM (ld (Value.int .i64) (Addr.add x3 1)) fun x14 =>
      pureM (x14 != 0)) fun q1 =>
  bindM (if (q1) = true then
    pureM true
  else
    bindM (ld vS (Addr.add x3 2)) fun x19 =>
      pureM (((x19.len : Nat) : Int) != 56)) fun q2 =>
  bindM (if (q2) = true then
    pureM true
  else
    bindM (ld vS (Addr.add x3 2)) fun x25 =>
      bindM (sliceM x25 (some 10) (none) 1) fun x26 =>
      bindM (bits_Nought x26) fun x27 =>
      pureM (!x27)) fun q3 =>
  (if (q3) = true then
  bindM (stA x4 [(.int .i64 0), (.int .i64 0), (.int .i64 0), (.int .i64 0)]) fun _ =>
    bindM (ldA (fun y : (Int × Int × Int × Int) => [(.int .i64 y.1), (.int .i64 y.2.1), (.int .i64 y.2.2.1), (.int .i64 y.2.2.2)]) x4) fun r4 =>
    pureM ((r4.1, r4.2.1, r4.2.2.1, r4.2.2.2), false)
  else
  bindM (allocM [(.int .i64 0), (.int .i64 0), (.int .i64 0), (.int .i64 0), (.int .i64 0)]) fun x6 =>
    loopM (fun (s4 : (Int)) =>
    (if (decide (s4 < 5)) = true then
      bindM (ld vS (Addr.add x3 2)) fun x37 =>
        bindM (bits_Get x37 (w64 (2 * s4)) 2) fun x40 =>
        bindM (idxA x6 5 s4 1) fun x43 =>
        bindM (st x43 (.int .i64 x40.1)) fun _ =>
        pureM (.inl (w64 (s4 + 1)))
      else
      mapR (bindM (ld (Value.int .i64) (Addr.add x6 1)) fun x46 =>
        bindM (ld (Value.int .i64) (Addr.add x6 2)) fun x48 =>
        bindM (ld (Value.int .i64) (Addr.add x6 3)) fun x50 =>
        bindM (ld (Value.int .i64) (Addr.add x6 4)) fun x52 =>
        bindM (allocM [(.int .i64 0), (.int .i64 0), (.int .i64 0), (.int .i64 0)]) fun x8 =>
        bindM (stA x8 [(.int .i64 x46), (.int .i64 x48), (.int .i64 x50), (.int .i64 x52)]) fun _ =>
        bindM (ld (Value.int .i64) x6) fun x55 =>
        bindM (if (x55 != 21331) = true then
          pureM true
        else
          bindM (ldA (fun y : (Int × Int × Int) => [(.int .i64 y.1), (.int .i64 y.2.1), (.int .i64 y.2.2)]) x2) fun x58 =>
            bindM (ldA (fun y : (Int × Int × Int × Int) => [(.int .i64 y.1), (.int .i64 y.2.1), (.int .i64 y.2.2.1), (.int .i64 y.2.2.2)]) x8) fun x59 =>
            bindM (scan_right (x58.1, x58.2.1, x58.2.2) (x59.1, x59.2.1, x59.2.2.1, x59.2.2.2)) fun x60 =>
            pureM (!x60)) fun q5 =>
        (if (q5) = true then
        bindM (stA x4 [(.int .i64 0), (.int .i64 0), (.int .i64 0), (.int .i64 0)]) fun _ =>
          bindM (ldA (fun y : (Int × Int × Int × Int) => [(.int .i64 y.1), (.int .i64 y.2.1), (.int .i64 y.2.2.1), (.int .i64 y.2.2.2)]) x4) fun r4 =>
          pureM ((r4.1, r4.2.1, r4.2.2.1, r4.2.2.2), false)
        else
        bindM (ldA (fun y : (Int × Int × Int × Int) => [(.int .i64 y.1), (.int .i64 y.2.1), (.int .i64 y.2.2.1), (.int .i64 y.2.2.2)]) x8) fun x64 =>
          bindM (stA x4 [(.int .i64 x64.1), (.int .i64 x64.2.1), (.int .i64 x64.2.2.1), (.int .i64 x64.2.2.2)]) fun _ =>
          bindM (ldA (fun y : (Int × Int × Int × Int) => [(.int .i64 y.1), (.int .i64 y.2.1), (.int .i64 y.2.2.1), (.int .i64 y.2.2.2)]) x4) fun r4 =>
          pureM ((r4.1, r4.2.1, r4.2.2.1, r4.2.2.2), true))))) 0)
def ref00_SameInts (p0_a : Slc) (p1_b : Slc) : M Bool :=
  (if (((p0_a.len : Nat) : Int) != ((p1_b.len : Nat) : Int)) = true then
  pureM false
  else
  loopM (fun (s1 : (Int)) =>
    (if (decide (s1 < ((p0_a.len : Nat) : Int))) = true then
      regionM fun S2 =>
        bindM (idxM p0_a s1 1) fun x19 =>
        bindM (ldI S2 (Value.int .i64) x19) fun x20 =>
        bindM (idxM p1_b s1 1) fun x23 =>
        bindM (ldI S2 (Value.int .i64) x23) fun x24 =>
        (if (x20 != x24) = true then
        mapR (pureM false)
        else
        pureM (.inl (w64 (s1 + 1))))
      else
      mapR (pureM true))) 0)
def law08_alive  : M Bool :=
  bindM (allocM [(.int .i64 5), (.int .i64 8), (.int .i64 2), (.int .i64 1), (.int .i64 0), (.int .i64 3), (.int .i64 2), (.int .i64 7), (.int .i64 2), (.int .i64 0), (.int .i64 0), (.int .i64 0)]) fun x10 =>
  bindM (scan_Groups (⟨some x10, 2, 2⟩)) fun x11 =>
  bindM (law08_Small ) fun x13 =>
  bindM (scan_PutSummary (x13.1, x13.2.1, x13.2.2) (1, 0, 2, 9)) fun x15 =>
  bindM (allocM [(.int .i64 0), (.int .i64 0), (.slice none 0 0)]) fun x2 =>
  bindM (stA x2 [(.int .i64 x15.1.1), (.int .i64 x15.1.2.1), (.slice x15.1.2.2.base x15.1.2.2.len x15.1.2.2.cap)]) fun _ =>
  regionM fun S1 =>
  bindM (ldAI S1 (fun y : (Int × Int × Slc) => [(.int .i64 y.1), (.int .i64 y.2.1), (.slice y.2.2.base y.2.2.len y.2.2.cap)]) x2) fun x20 =>
  (bothM
    (bindM (stepI S1 (law08_Small )) fun x19 =>
      (bothM
        (bindM (stepI S1 (scan_GetSummary (x19.1, x19.2.1, x19.2.2) (x20.1, x20.2.1, x20.2.2))) fun x21 =>
          bindM (stepI S1 (allocM [(.int .i64 0), (.int .i64 0), (.int .i64 0), (.int .i64 0)])) fun x4 =>
          bindM (stA x4 [(.int .i64 x21.1.1), (.int .i64 x21.1.2.1), (.int .i64 x21.1.2.2.1), (.int .i64 x21.1.2.2.2)]) fun _ =>
          bindM (if (((x11.len : Nat) : Int) == 1) = true then
            bindM (idxM x11 0 3) fun x29 =>
              bindM (ld (Value.int .i64) x29) fun x31 =>
              pureM (x31 == 7)
          else
            pureM false) fun q2 =>
          bindM (if (q2) = true then
            bindM (idxM x11 0 3) fun x36 =>
              bindM (ld (Value.int .i64) (Addr.add x36 1)) fun x38 =>
              pureM (x38 == 3)
          else
            pureM false) fun q3 =>
          bindM (if (q3) = true then
            bindM (idxM x11 0 3) fun x43 =>
              bindM (ld vS (Addr.add x43 2)) fun x45 =>
              bindM (allocM [(.int .i64 2), (.int .i64 5)]) fun x46 =>
              bindM (ref00_SameInts x45 (⟨some x46, 2, 2⟩)) fun x47 =>
              pureM x47
          else
            pureM false) fun q4 =>
          bindM (if (q4) = true then
            pureM x15.2
          else
            pureM false) fun q5 =>
          bindM (if (q5) = true then
            pureM x21.2
          else
            pureM false) fun q6 =>
          bindM (if (q6) = true then
            bindM (ldA (fun y : (Int × Int × Int × Int) => [(.int .i64 y.1), (.int .i64 y.2.1), (.int .i64 y.2.2.1), (.int .i64 y.2.2.2)]) x4) fun x56 =>
              pureM (eqL [x56.1, x56.2.1, x56.2.2.1, x56.2.2.2] [1, 0, 2, 9])
          else
            pureM false) fun q7 =>
          pureM q7)
        (bindM (stepI S1 (allocM [(.int .i64 0), (.int .i64 0), (.int .i64 0), (.int .i64 0)])) fun x4 =>
          bindM (stepI S1 (scan_GetSummary (x19.1, x19.2.1, x19.2.2) (x20.1, x20.2.1, x20.2.2))) fun x21 =>
          bindM (stA x4 [(.int .i64 x21.1.1), (.int .i64 x21.1.2.1), (.int .i64 x21.1.2.2.1), (.int .i64 x21.1.2.2.2)]) fun _ =>
          bindM (if (((x11.len : Nat) : Int) == 1) = true then
            bindM (idxM x11 0 3) fun x29 =>
              bindM (ld (Value.int .i64) x29) fun x31 =>
              pureM (x31 == 7)
          else
            pureM false) fun q8 =>
          bindM (if (q8) = true then
            bindM (idxM x11 0 3) fun x36 =>
              bindM (ld (Value.int .i64) (Addr.add x36 1)) fun x38 =>
              pureM (x38 == 3)
          else
            pureM false) fun q9 =>
          bindM (if (q9) = true then
            bindM (idxM x11 0 3) fun x43 =>
              bindM (ld vS (Addr.add x43 2)) fun x45 =>
              bindM (allocM [(.int .i64 2), (.int .i64 5)]) fun x46 =>
              bindM (ref00_SameInts x45 (⟨some x46, 2, 2⟩)) fun x47 =>
              pureM x47
          else
            pureM false) fun q10 =>
          bindM (if (q10) = true then
            pureM x15.2
          else
            pureM false) fun q11 =>
          bindM (if (q11) = true then
            pureM x21.2
          else
            pureM false) fun q12 =>
          bindM (if (q12) = true then
            bindM (ldA (fun y : (Int × Int × Int × Int) => [(.int .i64 y.1), (.int .i64 y.2.1), (.int .i64 y.2.2.1), (.int .i64 y.2.2.2)]) x4) fun x56 =>
              pureM (eqL [x56.1, x56.2.1, x56.2.2.1, x56.2.2.2] [1, 0, 2, 9])
          else
            pureM false) fun q13 =>
          pureM q13)))
    (bindM (stepI S1 (allocM [(.int .i64 0), (.int .i64 0), (.int .i64 0), (.int .i64 0)])) fun x4 =>
      bindM (stepI S1 (law08_Small )) fun x19 =>
      bindM (stepI S1 (scan_GetSummary (x19.1, x19.2.1, x19.2.2) (x20.1, x20.2.1, x20.2.2))) fun x21 =>
      bindM (stA x4 [(.int .i64 x21.1.1), (.int .i64 x21.1.2.1), (.int .i64 x21.1.2.2.1), (.int .i64 x21.1.2.2.2)]) fun _ =>
      bindM (if (((x11.len : Nat) : Int) == 1) = true then
        bindM (idxM x11 0 3) fun x29 =>
          bindM (ld (Value.int .i64) x29) fun x31 =>
          pureM (x31 == 7)
      else
        pureM false) fun q14 =>
      bindM (if (q14) = true then
        bindM (idxM x11 0 3) fun x36 =>
          bindM (ld (Value.int .i64) (Addr.add x36 1)) fun x38 =>
          pureM (x38 == 3)
      else
        pureM false) fun q15 =>
      bindM (if (q15) = true then
        bindM (idxM x11 0 3) fun x43 =>
          bindM (ld vS (Addr.add x43 2)) fun x45 =>
          bindM (allocM [(.int .i64 2), (.int .i64 5)]) fun x46 =>
          bindM (ref00_SameInts x45 (⟨some x46, 2, 2⟩)) fun x47 =>
          pureM x47
      else
        pureM false) fun q16 =>
      bindM (if (q16) = true then
        pureM x15.2
      else
        pureM false) fun q17 =>
      bindM (if (q17) = true then
        pureM x21.2
      else
        pureM false) fun q18 =>
      bindM (if (q18) = true then
        bindM (ldA (fun y : (Int × Int × Int × Int) => [(.int .i64 y.1), (.int .i64 y.2.1), (.int .i64 y.2.2.1), (.int .i64 y.2.2.2)]) x4) fun x56 =>
          pureM (eqL [x56.1, x56.2.1, x56.2.2.1, x56.2.2.2] [1, 0, 2, 9])
      else
        pureM false) fun q19 =>
      pureM q19))
def ref00_Weigh (p0_s : Slc) (p1_most : Int) : M Int :=
  (if (decide (((p0_s.len : Nat) : Int) > p1_most)) = true then
  pureM (w64 (p1_most + 1))
  else
  loopM (fun (s1 : (Int × Int)) =>
    bindM (if (decide (s1.2 < ((p0_s.len : Nat) : Int))) = true then
        pureM (decide (s1.1 ≤ p1_most))
      else
        pureM false) fun q2 =>
      (if (q2) = true then
      bindM (idxM p0_s s1.2 1) fun x29 =>
        bindM (ld vS x29) fun x30 =>
        pureM (.inl (w64 (s1.1 + ((x30.len : Nat) : Int)), w64 (s1.2 + 1)))
      else
      mapR (pureM s1.1))) (((p0_s.len : Nat) : Int), 0))
def device_New (p0_disks : Int) (p1_sectors : Int) : M ((Option Addr) × Int) :=
  bindM (if (decide (p0_disks < 1)) = true then
    pureM true
  else
    pureM (decide (p0_disks > 17))) fun q1 =>
  bindM (if (q1) = true then
    pureM true
  else
    pureM (decide (p1_sectors < 1))) fun q2 =>
  bindM (if (q2) = true then
    pureM true
  else
    pureM (decide (p1_sectors > 4096))) fun q3 =>
  (if (q3) = true then
  pureM (none, 10)
  else
  bindM (allocM [(.slice none 0 0), (.int .i64 p1_sectors), (.int .i64 (-1)), (.bool false)]) fun x24 =>
    loopM (fun (s4 : (Int)) =>
    (if (decide (s4 < p0_disks)) = true then
      bindM (newO (.map #[] 0)) fun x28 =>
        bindM (allocM [(.slice none 0 0), (.map (some x28)), (.bool false), (.int .i64 (-1))]) fun x30 =>
        loopM (fun (s5 : (Int)) =>
        (if (decide (s5 < p1_sectors)) = true then
          regionM fun S6 =>
            bindM (ldI S6 vS x30) fun x38 =>
            bindM (stepI S6 (allocM (List.replicate 64 (.int .u8 0)))) fun x39 =>
            bindM (stepI S6 (allocM [(.slice (some x39) 64 64)])) fun x40 =>
            bindM (appendM [(.slice none 0 0)] 24 x38 ⟨some x40, 1, 1⟩) fun x41 =>
            bindM (st x30 (.slice x41.base x41.len x41.cap)) fun _ =>
            pureM (.inl (w64 (s5 + 1)))
          else
          mapR (bindM (ld vS x24) fun x49 =>
            bindM (allocM [(.pointer (some x30))]) fun x51 =>
            bindM (appendM [(.pointer none)] 8 x49 ⟨some x51, 1, 1⟩) fun x52 =>
            bindM (st x24 (.slice x52.base x52.len x52.cap)) fun _ =>
            pureM (.inl (w64 (s4 + 1)))))) 0
      else
      mapR (pureM (some x24, 0)))) 0)
def geo_Sectors (p0_g : (Int × Int × Int)) : M Int :=
  bindM (allocM [(.int .i64 p0_g.1), (.int .i64 p0_g.2.1), (.int .i64 p0_g.2.2)]) fun x1 =>
  bindM (ldA (fun y : (Int × Int × Int) => [(.int .i64 y.1), (.int .i64 y.2.1), (.int .i64 y.2.2)]) x1) fun x3 =>
  bindM (geo_Right (x3.1, x3.2.1, x3.2.2)) fun x4 =>
  (if (!x4) = true then
  pureM 0
  else
  bindM (ld (Value.int .i64) (Addr.add x1 2)) fun x7 =>
    bindM (ld (Value.int .i64) (Addr.add x1 1)) fun x9 =>
    pureM (w64 (5 + (w64 (x7 * x9)))))
def ref02_New (p0_disks : Int) (p1_sectors : Int) : M ((Int × Int × Slc × Slc × Slc × Slc × Int × Bool) × Int) :=
  bindM (allocM [(.int .i64 0), (.int .i64 0), (.slice none 0 0), (.slice none 0 0), (.slice none 0 0), (.slice none 0 0), (.int .i64 0), (.bool false)]) fun x4 =>
  bindM (if (decide (p0_disks < 1)) = true then
    pureM true
  else
    pureM (decide (p0_disks > 17))) fun q1 =>
  bindM (if (q1) = true then
    pureM true
  else
    pureM (decide (p1_sectors < 1))) fun q2 =>
  bindM (if (q2) = true then
    pureM true
  else
    pureM (decide (p1_sectors > 4096))) fun q3 =>
  (if (q3) = true then
  bindM (stA x4 [(.int .i64 0), (.int .i64 0), (.slice none 0 0), (.slice none 0 0), (.slice none 0 0), (.slice none 0 0), (.int .i64 0), (.bool false)]) fun _ =>
    bindM (ldA (fun y : (Int × Int × Slc × Slc × Slc × Slc × Int × Bool) => [(.int .i64 y.1), (.int .i64 y.2.1), (.slice y.2.2.1.base y.2.2.1.len y.2.2.1.cap), (.slice y.2.2.2.1.base y.2.2.2.1.len y.2.2.2.1.cap), (.slice y.2.2.2.2.1.base y.2.2.2.2.1.len y.2.2.2.2.1.cap), (.slice y.2.2.2.2.2.1.base y.2.2.2.2.2.1.len y.2.2.2.2.2.1.cap), (.int .i64 y.2.2.2.2.2.2.1), (.bool y.2.2.2.2.2.2.2)]) x4) fun r4 =>
    pureM ((r4.1, r4.2.1, r4.2.2.1, r4.2.2.2.1, r4.2.2.2.2.1, r4.2.2.2.2.2.1, r4.2.2.2.2.2.2.1, r4.2.2.2.2.2.2.2), 10)
  else
  bindM (allocM [(.int .i64 0), (.int .i64 0), (.slice none 0 0), (.slice none 0 0), (.slice none 0 0), (.slice none 0 0), (.int .i64 0), (.bool false)]) fun x6 =>
    bindM (stA x6 [(.int .i64 p0_disks), (.int .i64 p1_sectors), (.slice none 0 0), (.slice none 0 0), (.slice none 0 0), (.slice none 0 0), (.int .i64 (-1)), (.bool false)]) fun _ =>
    loopM (fun (s4 : (Int)) =>
    (if (decide (s4 < (w64 (p0_disks * p1_sectors)))) = true then
      regionM fun S5 =>
        bindM (ldI S5 vS (Addr.add x6 2)) fun x35 =>
        bindM (stepI S5 (allocM (List.replicate 64 (.int .u8 0)))) fun x36 =>
        bindM (stepI S5 (allocM [(.slice (some x36) 64 64)])) fun x37 =>
        bindM (appendM [(.slice none 0 0)] 24 x35 ⟨some x37, 1, 1⟩) fun x38 =>
        bindM (st (Addr.add x6 2) (.slice x38.base x38.len x38.cap)) fun _ =>
        bindM (ld vS (Addr.add x6 3)) fun x41 =>
        bindM (allocM [(.slice none 0 0)]) fun x42 =>
        bindM (appendM [(.slice none 0 0)] 24 x41 ⟨some x42, 1, 1⟩) fun x43 =>
        bindM (st (Addr.add x6 3) (.slice x43.base x43.len x43.cap)) fun _ =>
        pureM (.inl (w64 (s4 + 1)))
      else
      mapR (loopM (fun (s6 : (Int)) =>
        (if (decide (s6 < p0_disks)) = true then
          bindM (ld vS (Addr.add x6 4)) fun x51 =>
            bindM (allocM [(.bool false)]) fun x52 =>
            bindM (appendM [(.bool false)] 1 x51 ⟨some x52, 1, 1⟩) fun x53 =>
            bindM (st (Addr.add x6 4) (.slice x53.base x53.len x53.cap)) fun _ =>
            bindM (ld vS (Addr.add x6 5)) fun x56 =>
            bindM (allocM [(.int .i64 (-1))]) fun x57 =>
            bindM (appendM [(.int .i64 0)] 8 x56 ⟨some x57, 1, 1⟩) fun x58 =>
            bindM (st (Addr.add x6 5) (.slice x58.base x58.len x58.cap)) fun _ =>
            pureM (.inl (w64 (s6 + 1)))
          else
          mapR (bindM (ldA (fun y : (Int × Int × Slc × Slc × Slc × Slc × Int × Bool) => [(.int .i64 y.1), (.int .i64 y.2.1), (.slice y.2.2.1.base y.2.2.1.len y.2.2.1.cap), (.slice y.2.2.2.1.base y.2.2.2.1.len y.2.2.2.1.cap), (.slice y.2.2.2.2.1.base y.2.2.2.2.1.len y.2.2.2.2.1.cap), (.slice y.2.2.2.2.2.1.base y.2.2.2.2.2.1.len y.2.2.2.2.2.1.cap), (.int .i64 y.2.2.2.2.2.2.1), (.bool y.2.2.2.2.2.2.2)]) x6) fun x60 =>
            bindM (stA x4 [(.int .i64 x60.1), (.int .i64 x60.2.1), (.slice x60.2.2.1.base x60.2.2.1.len x60.2.2.1.cap), (.slice x60.2.2.2.1.base x60.2.2.2.1.len x60.2.2.2.1.cap), (.slice x60.2.2.2.2.1.base x60.2.2.2.2.1.len x60.2.2.2.2.1.cap), (.slice x60.2.2.2.2.2.1.base x60.2.2.2.2.2.1.len x60.2.2.2.2.2.1.cap), (.int .i64 x60.2.2.2.2.2.2.1), (.bool x60.2.2.2.2.2.2.2)]) fun _ =>
            bindM (ldA (fun y : (Int × Int × Slc × Slc × Slc × Slc × Int × Bool) => [(.int .i64 y.1), (.int .i64 y.2.1), (.slice y.2.2.1.base y.2.2.1.len y.2.2.1.cap), (.slice y.2.2.2.1.base y.2.2.2.1.len y.2.2.2.1.cap), (.slice y.2.2.2.2.1.base y.2.2.2.2.1.len y.2.2.2.2.1.cap), (.slice y.2.2.2.2.2.1.base y.2.2.2.2.2.1.len y.2.2.2.2.2.1.cap), (.int .i64 y.2.2.2.2.2.2.1), (.bool y.2.2.2.2.2.2.2)]) x4) fun r4 =>
            pureM ((r4.1, r4.2.1, r4.2.2.1, r4.2.2.2.1, r4.2.2.2.2.1, r4.2.2.2.2.2.1, r4.2.2.2.2.2.2.1, r4.2.2.2.2.2.2.2), 0)))) 0))) 0)
def device_Rack_Load (p0_r : (Option Addr)) (p1_disk : Int) (p2_image : Slc) : M Int :=
  bindM (if (decide (p1_disk < 0)) = true then
    pureM true
  else
    bindM (nilM p0_r) fun x15 =>
      bindM (ld vS x15) fun x17 =>
      pureM (decide (p1_disk ≥ ((x17.len : Nat) : Int)))) fun q1 =>
  (if (q1) = true then
  pureM 11
  else
  bindM (nilM p0_r) fun x22 =>
    bindM (ld vS x22) fun x24 =>
    bindM (idxM x24 p1_disk 1) fun x26 =>
    bindM (ld Value.pointer x26) fun x27 =>
    bindM (nilM x27) fun x29 =>
    bindM (ld Value.map (Addr.add x29 1)) fun x31 =>
    bindM (clearM x31) fun _ =>
    bindM (nilM x27) fun x33 =>
    bindM (ld vS x33) fun x35 =>
    loopM (fun (s2 : (Int)) =>
    (if (decide (s2 < ((x35.len : Nat) : Int))) = true then
      bindM (allocM (List.replicate 64 (.int .u8 0))) fun x40 =>
        bindM (sliceM p2_image (some (minI (w64 (s2 * 64)) ((p2_image.len : Nat) : Int))) (none) 1) fun x48 =>
        bindM (copyM 1 ⟨some x40, 64, 64⟩ x48) fun x49 =>
        bindM (nilM x27) fun x51 =>
        bindM (ld vS x51) fun x53 =>
        bindM (idxM x53 s2 1) fun x56 =>
        bindM (st x56 (.slice (some x40) 64 64)) fun _ =>
        pureM (.inl (w64 (s2 + 1)))
      else
      mapR (pureM 0))) 0)
def ref02_Rack_Load (p0_r : (Option Addr)) (p1_disk : Int) (p2_image : Slc) : M Int :=
  bindM (if (decide (p1_disk < 0)) = true then
    pureM true
  else
    bindM (nilM p0_r) fun x15 =>
      bindM (ld (Value.int .i64) x15) fun x17 =>
      pureM (decide (p1_disk ≥ x17))) fun q1 =>
  (if (q1) = true then
  pureM 11
  else
  loopM (fun (s2 : (Int)) =>
    bindM (nilM p0_r) fun x22 =>
      bindM (ld (Value.int .i64) (Addr.add x22 1)) fun x24 =>
      (if (decide (s2 < x24)) = true then
      bindM (allocM (List.replicate 64 (.int .u8 0))) fun x28 =>
        loopM (fun (s3 : (Int)) =>
        bindM (if (decide (s3 < 64)) = true then
            pureM (decide ((w64 ((w64 (s2 * 64)) + s3)) < ((p2_image.len : Nat) : Int)))
          else
            pureM false) fun q4 =>
          (if (q4) = true then
          bindM (idxM p2_image (w64 ((w64 (s2 * 64)) + s3)) 1) fun x49 =>
            bindM (ld (Value.int .u8) x49) fun x50 =>
            bindM (idxM ⟨some x28, 64, 64⟩ s3 1) fun x51 =>
            bindM (st x51 (.int .u8 x50)) fun _ =>
            pureM (.inl (w64 (s3 + 1)))
          else
          mapR (regionM fun S5 =>
            bindM (nilM p0_r) fun x53 =>
            bindM (ldI S5 vS (Addr.add x53 2)) fun x55 =>
            bindM (nilM p0_r) fun x58 =>
            bindM (ldI S5 (Value.int .i64) (Addr.add x58 1)) fun x60 =>
            bindM (idxM x55 (w64 ((w64 (p1_disk * x60)) + s2)) 1) fun x65 =>
            bindM (st x65 (.slice (some x28) 64 64)) fun _ =>
            regionM fun S6 =>
            bindM (nilM p0_r) fun x67 =>
            bindM (ldI S6 vS (Addr.add x67 3)) fun x69 =>
            bindM (nilM p0_r) fun x72 =>
            bindM (ldI S6 (Value.int .i64) (Addr.add x72 1)) fun x74 =>
            bindM (idxM x69 (w64 ((w64 (p1_disk * x74)) + s2)) 1) fun x78 =>
            bindM (st x78 (.slice none 0 0)) fun _ =>
            pureM (.inl (w64 (s2 + 1)))))) 0
      else
      mapR (pureM 0))) 0)
def device_Rack_Doom (p0_r : (Option Addr)) (p1_disk : Int) (p2_calls : Int) : M Int :=
  bindM (if (decide (p1_disk < 0)) = true then
    pureM true
  else
    bindM (nilM p0_r) fun x12 =>
      bindM (ld vS x12) fun x14 =>
      pureM (decide (p1_disk ≥ ((x14.len : Nat) : Int)))) fun q1 =>
  (if (q1) = true then
  pureM 11
  else
  bindM (nilM p0_r) fun x19 =>
    bindM (ld vS x19) fun x21 =>
    bindM (idxM x21 p1_disk 1) fun x23 =>
    bindM (ld Value.pointer x23) fun x24 =>
    bindM (nilM x24) fun x27 =>
    bindM (st (Addr.add x27 3) (.int .i64 (maxI p2_calls (-1)))) fun _ =>
    pureM 0)
def ref02_Rack_Doom (p0_r : (Option Addr)) (p1_disk : Int) (p2_calls : Int) : M Int :=
  bindM (if (decide (p1_disk < 0)) = true then
    pureM true
  else
    bindM (nilM p0_r) fun x12 =>
      bindM (ld (Value.int .i64) x12) fun x14 =>
      pureM (decide (p1_disk ≥ x14))) fun q1 =>
  (if (q1) = true then
  pureM 11
  else
  bindM (nilM p0_r) fun x18 =>
    bindM (ld vS (Addr.add x18 5)) fun x20 =>
    bindM (idxM x20 p1_disk 1) fun x24 =>
    bindM (st x24 (.int .i64 (maxI p2_calls (-1)))) fun _ =>
    pureM 0)
def device_Rack_Size (p0_r : (Option Addr)) : M (Int × Int) :=
  regionM fun S1 =>
  bindM (nilM p0_r) fun x5 =>
  bindM (ldI S1 vS x5) fun x7 =>
  bindM (nilM p0_r) fun x10 =>
  bindM (ldI S1 (Value.int .i64) (Addr.add x10 1)) fun x12 =>
  pureM (((x7.len : Nat) : Int), x12)
def bank_fits (p0_g : (Int × Int × Int)) (p1_m : (Int × Int × Int)) : M Bool :=
  bindM (allocM [(.int .i64 p0_g.1), (.int .i64 p0_g.2.1), (.int .i64 p0_g.2.2)]) fun x2 =>
  bindM (allocM [(.int .i64 p1_m.1), (.int .i64 p1_m.2.1), (.int .i64 p1_m.2.2)]) fun x3 =>
  bindM (ld (Value.int .i64) (Addr.add x3 2)) fun x6 =>
  (if (x6 == 0) = true then
  pureM true
  else
  bindS ((if (x6 == 1) = true then
      pureM (.inl (x6 == 1))
      else
      pureM (.inl (x6 == 2)))) fun (b1 : (Bool)) =>
    (if (b1) = true then
    bindM (ld (Value.int .i64) (Addr.add x3 1)) fun x13 =>
      bindM (if (decide (x13 ≥ 0)) = true then
        bindM (ld (Value.int .i64) (Addr.add x3 1)) fun x17 =>
          bindM (ld (Value.int .i64) x2) fun x19 =>
          pureM (decide (x17 < x19))
      else
        pureM false) fun q2 =>
      pureM q2
    else
    pureM false))
def bank_Open (p0_r : (Option Addr)) (p1_g : (Int × Int × Int)) (p2_m : (Int × Int × Int)) : M ((Option Addr) × Int) :=
  bindM (allocM [(.int .i64 p1_g.1), (.int .i64 p1_g.2.1), (.int .i64 p1_g.2.2)]) fun x4 =>
  bindM (allocM [(.int .i64 p2_m.1), (.int .i64 p2_m.2.1), (.int .i64 p2_m.2.2)]) fun x5 =>
  bindM (device_Rack_Size p0_r) fun x12 =>
  bindM (ldA (fun y : (Int × Int × Int) => [(.int .i64 y.1), (.int .i64 y.2.1), (.int .i64 y.2.2)]) x4) fun x15 =>
  bindM (geo_Right (x15.1, x15.2.1, x15.2.2)) fun x16 =>
  bindM (if (!x16) = true then
    pureM true
  else
    bindM (ld (Value.int .i64) x4) fun x21 =>
      pureM (x12.1 != (w64 (x21 + 1)))) fun q1 =>
  bindM (if (q1) = true then
    pureM true
  else
    bindM (ldA (fun y : (Int × Int × Int) => [(.int .i64 y.1), (.int .i64 y.2.1), (.int .i64 y.2.2)]) x4) fun x27 =>
      bindM (geo_Sectors (x27.1, x27.2.1, x27.2.2)) fun x28 =>
      pureM (x12.2 != x28)) fun q2 =>
  bindM (if (q2) = true then
    pureM true
  else
    bindM (ldA (fun y : (Int × Int × Int) => [(.int .i64 y.1), (.int .i64 y.2.1), (.int .i64 y.2.2)]) x4) fun x32 =>
      bindM (ldA (fun y : (Int × Int × Int) => [(.int .i64 y.1), (.int .i64 y.2.1), (.int .i64 y.2.2)]) x5) fun x33 =>
      bindM (bank_fits (x32.1, x32.2.1, x32.2.2) (x33.1, x33.2.1, x33.2.2)) fun x34 =>
      pureM (!x34)) fun q3 =>
  (if (q3) = true then
  pureM (none, 10)
  else
  bindM (ldA (fun y : (Int × Int × Int) => [(.int .i64 y.1), (.int .i64 y.2.1), (.int .i64 y.2.2)]) x4) fun x38 =>
    bindM (ldA (fun y : (Int × Int × Int) => [(.int .i64 y.1), (.int .i64 y.2.1), (.int .i64 y.2.2)]) x5) fun x39 =>
    bindM (allocM [(.pointer p0_r), (.int .i64 x38.1), (.int .i64 x38.2.1), (.int .i64 x38.2.2), (.int .i64 x39.1), (.int .i64 x39.2.1), (.int .i64 x39.2.2)]) fun x41 =>
    pureM (some x41, 0))
def ref03_Right (p0_g : (Int × Int × Int)) : M Bool :=
  bindM (allocM [(.int .i64 p0_g.1), (.int .i64 p0_g.2.1), (.int .i64 p0_g.2.2)]) fun x1 =>
  bindM (ld (Value.int .i64) x1) fun x4 =>
  bindM (if (decide (x4 < 3)) = true then
    pureM true
  else
    bindM (ld (Value.int .i64) x1) fun x8 =>
      pureM (decide (x8 > 16))) fun q1 =>
  bindM (if (q1) = true then
    pureM true
  else
    bindM (ld (Value.int .i64) (Addr.add x1 1)) fun x13 =>
      pureM (decide (x13 < 1))) fun q2 =>
  bindM (if (q2) = true then
    pureM true
  else
    bindM (ld (Value.int .i64) (Addr.add x1 1)) fun x18 =>
      pureM (decide (x18 > 4))) fun q3 =>
  bindM (if (q3) = true then
    pureM true
  else
    bindM (ld (Value.int .i64) (Addr.add x1 2)) fun x23 =>
      pureM (decide (x23 < 12))) fun q4 =>
  bindM (if (q4) = true then
    pureM true
  else
    bindM (ld (Value.int .i64) (Addr.add x1 2)) fun x28 =>
      pureM (decide (x28 > 64))) fun q5 =>
  (if (q5) = true then
  pureM false
  else
  bindM (ld (Value.int .i64) (Addr.add x1 2)) fun x32 =>
    bindM (ld (Value.int .i64) (Addr.add x1 1)) fun x36 =>
    bindM (ld (Value.int .i64) x1) fun x38 =>
    pureM (decide ((w64 ((w64 (1 + (w64 (Int.tdiv x32 8)))) * (w64 ((w64 (x36 * (w64 (x38 - 1)))) - 1)))) ≥ 8)))
def ref03_Sectors (p0_g : (Int × Int × Int)) : M Int :=
  bindM (allocM [(.int .i64 p0_g.1), (.int .i64 p0_g.2.1), (.int .i64 p0_g.2.2)]) fun x1 =>
  bindM (ldA (fun y : (Int × Int × Int) => [(.int .i64 y.1), (.int .i64 y.2.1), (.int .i64 y.2.2)]) x1) fun x3 =>
  bindM (ref03_Right (x3.1, x3.2.1, x3.2.2)) fun x4 =>
  (if (!x4) = true then
  pureM 0
  else
  bindM (ld (Value.int .i64) (Addr.add x1 2)) fun x7 =>
    bindM (ld (Value.int .i64) (Addr.add x1 1)) fun x9 =>
    pureM (w64 (5 + (w64 (x7 * x9)))))
def ref06_Fits (p0_g : (Int × Int × Int)) (p1_m : (Int × Int × Int)) : M Bool :=
  bindM (allocM [(.int .i64 p0_g.1), (.int .i64 p0_g.2.1), (.int .i64 p0_g.2.2)]) fun x2 =>
  bindM (allocM [(.int .i64 p1_m.1), (.int .i64 p1_m.2.1), (.int .i64 p1_m.2.2)]) fun x3 =>
  bindM (ld (Value.int .i64) (Addr.add x3 2)) fun x6 =>
  bindM (if (decide (x6 ≥ 0)) = true then
    bindM (ld (Value.int .i64) (Addr.add x3 2)) fun x10 =>
      pureM (decide (x10 ≤ 2))
  else
    pureM false) fun q1 =>
  bindM (if (q1) = true then
    bindM (ld (Value.int .i64) (Addr.add x3 2)) fun x15 =>
      bindM (if (x15 == 0) = true then
        pureM true
      else
        bindM (ld (Value.int .i64) (Addr.add x3 1)) fun x19 =>
          bindM (if (decide (x19 ≥ 0)) = true then
            bindM (ld (Value.int .i64) (Addr.add x3 1)) fun x23 =>
              bindM (ld (Value.int .i64) x2) fun x25 =>
              pureM (decide (x23 < x25))
          else
            pureM false) fun q4 =>
          pureM q4) fun q3 =>
      pureM q3
  else
    pureM false) fun q2 =>
  pureM q2
def ref06_Open (p0_r : (Option Addr)) (p1_g : (Int × Int × Int)) (p2_m : (Int × Int × Int)) : M ((Option Addr) × Int) :=
  bindM (allocM [(.int .i64 p1_g.1), (.int .i64 p1_g.2.1), (.int .i64 p1_g.2.2)]) fun x4 =>
  bindM (allocM [(.int .i64 p2_m.1), (.int .i64 p2_m.2.1), (.int .i64 p2_m.2.2)]) fun x5 =>
  bindS (regionM fun S2 =>
    bindM (ldAI S2 (fun y : (Int × Int × Int) => [(.int .i64 y.1), (.int .i64 y.2.1), (.int .i64 y.2.2)]) x4) fun x8 =>
    bindM (stepI S2 (ref03_Right (x8.1, x8.2.1, x8.2.2))) fun x9 =>
    (if (!x9) = true then
      pureM (.inl true)
    else
      bindM (nilM p0_r) fun x13 =>
        bindM (ldI S2 (Value.int .i64) x13) fun x15 =>
        bindM (ldI S2 (Value.int .i64) x4) fun x17 =>
        (if (x15 != (w64 (x17 + 1))) = true then
          pureM (.inl true)
        else
          bindM (nilM p0_r) fun x23 =>
            bindM (ldI S2 (Value.int .i64) (Addr.add x23 1)) fun x25 =>
            bindM (ldAI S2 (fun y : (Int × Int × Int) => [(.int .i64 y.1), (.int .i64 y.2.1), (.int .i64 y.2.2)]) x4) fun x26 =>
            bindM (stepI S2 (ref03_Sectors (x26.1, x26.2.1, x26.2.2))) fun x27 =>
            (if (x25 != x27) = true then
              pureM (.inl true)
            else
              bindM (ldAI S2 (fun y : (Int × Int × Int) => [(.int .i64 y.1), (.int .i64 y.2.1), (.int .i64 y.2.2)]) x4) fun x31 =>
                bindM (ldAI S2 (fun y : (Int × Int × Int) => [(.int .i64 y.1), (.int .i64 y.2.1), (.int .i64 y.2.2)]) x5) fun x32 =>
                bindM (stepI S2 (ref06_Fits (x31.1, x31.2.1, x31.2.2) (x32.1, x32.2.1, x32.2.2))) fun x33 =>
                pureM (.inl (!x33)))))) fun (b1 : (Bool)) =>
  (if (b1) = true then
  pureM (none, 10)
  else
  bindM (ldA (fun y : (Int × Int × Int) => [(.int .i64 y.1), (.int .i64 y.2.1), (.int .i64 y.2.2)]) x4) fun x37 =>
    bindM (ldA (fun y : (Int × Int × Int) => [(.int .i64 y.1), (.int .i64 y.2.1), (.int .i64 y.2.2)]) x5) fun x38 =>
    bindM (allocM [(.pointer p0_r), (.int .i64 x37.1), (.int .i64 x37.2.1), (.int .i64 x37.2.2), (.int .i64 x38.1), (.int .i64 x38.2.1), (.int .i64 x38.2.2)]) fun x40 =>
    pureM (some x40, 0))
def bank_Bank_disk (p0_b : (Option Addr)) (p1_slot : Int) : M (Int × Bool) :=
  bindM (if (decide (p1_slot < 0)) = true then
    pureM true
  else
    bindM (nilM p0_b) fun x11 =>
      bindM (ld (Value.int .i64) (Addr.add x11 1)) fun x14 =>
      pureM (decide (p1_slot ≥ x14))) fun q1 =>
  (if (q1) = true then
  pureM (0, false)
  else
  bindM (nilM p0_b) fun x18 =>
    bindM (ld (Value.int .i64) (Addr.add (Addr.add x18 4) 2)) fun x21 =>
    bindM (if (x21 != 0) = true then
      bindM (nilM p0_b) fun x25 =>
        bindM (ld (Value.int .i64) (Addr.add (Addr.add x25 4) 1)) fun x28 =>
        pureM (x28 == p1_slot)
    else
      pureM false) fun q2 =>
    (if (q2) = true then
    bindM (nilM p0_b) fun x33 =>
      bindM (ld (Value.int .i64) (Addr.add x33 1)) fun x36 =>
      pureM (x36, true)
    else
    pureM (p1_slot, true)))
def bank_Bank_disks (cv : CV) (p0_b : (Option Addr)) (p1_yield : Value) : M Unit :=
  bindM (nilM p0_b) fun x8 =>
  bindM (ld (Value.int .i64) (Addr.add x8 1)) fun x11 =>
  loopM (fun (s1 : (Int)) =>
  (if (decide (s1 < x11)) = true then
    bindM (bank_Bank_disk p0_b s1) fun x18 =>
      bindM (cvT cv Value.bool p1_yield #[(.int .i64 x18.1)]) fun x23 =>
      (if (!x23) = true then
      mapR (pureM ())
      else
      pureM (.inl (w64 (s1 + 1))))
    else
    mapR (bindM (nilM p0_b) fun x27 =>
      bindM (ld (Value.int .i64) (Addr.add (Addr.add x27 4) 2)) fun x30 =>
      (if (x30 == 0) = true then
      bindM (nilM p0_b) fun x34 =>
        bindM (ld (Value.int .i64) (Addr.add x34 1)) fun x37 =>
        bindM (cvT cv Value.bool p1_yield #[(.int .i64 x37)]) fun x38 =>
        pureM ()
      else
      pureM ())))) 0
def device_Rack_disk (p0_r : (Option Addr)) (p1_k : Int) (p2_sector : Int) : M ((Option Addr) × Int) :=
  bindM (nilM p0_r) fun x9 =>
  bindM (ld Value.bool (Addr.add x9 3)) fun x11 =>
  (if (x11) = true then
  pureM (none, 12)
  else
  bindM (if (decide (p1_k < 0)) = true then
      pureM true
    else
      bindM (nilM p0_r) fun x17 =>
        bindM (ld vS x17) fun x19 =>
        pureM (decide (p1_k ≥ ((x19.len : Nat) : Int)))) fun q1 =>
    bindM (if (q1) = true then
      pureM true
    else
      pureM (decide (p2_sector < 0))) fun q2 =>
    bindM (if (q2) = true then
      pureM true
    else
      bindM (nilM p0_r) fun x30 =>
        bindM (ld (Value.int .i64) (Addr.add x30 1)) fun x32 =>
        pureM (decide (p2_sector ≥ x32))) fun q3 =>
    (if (q3) = true then
    pureM (none, 11)
    else
    bindM (nilM p0_r) fun x36 =>
      bindM (ld vS x36) fun x38 =>
      bindM (idxM x38 p1_k 1) fun x40 =>
      bindM (ld Value.pointer x40) fun x41 =>
      pureM (x41, 0)))
def device_Rack_call (p0_r : (Option Addr)) : M Bool :=
  bindM (nilM p0_r) fun x6 =>
  bindM (ld (Value.int .i64) (Addr.add x6 2)) fun x8 =>
  (if (x8 == 0) = true then
  bindM (nilM p0_r) fun x11 =>
    bindM (st (Addr.add x11 3) (.bool true)) fun _ =>
    pureM false
  else
  bindM (nilM p0_r) fun x15 =>
    bindM (ld (Value.int .i64) (Addr.add x15 2)) fun x17 =>
    bindM (nilM p0_r) fun x20 =>
    bindM (st (Addr.add x20 2) (.int .i64 (maxI (w64 (x17 - 1)) (-1)))) fun _ =>
    bindM (nilM p0_r) fun x23 =>
    bindM (ld vS x23) fun x25 =>
    loopM (fun (s1 : (Int)) =>
    (if (decide (s1 < ((x25.len : Nat) : Int))) = true then
      bindM (idxM x25 s1 1) fun x29 =>
        bindM (ld Value.pointer x29) fun x30 =>
        bindM (nilM x30) fun x33 =>
        bindM (ld Value.bool (Addr.add x33 2)) fun x35 =>
        bindM (if (x35) = true then
          pureM true
        else
          bindM (nilM x30) fun x38 =>
            bindM (ld (Value.int .i64) (Addr.add x38 3)) fun x40 =>
            pureM (x40 == 0)) fun q2 =>
        bindM (nilM x30) fun x43 =>
        bindM (st (Addr.add x43 2) (.bool q2)) fun _ =>
        bindM (nilM x30) fun x47 =>
        bindM (ld (Value.int .i64) (Addr.add x47 3)) fun x49 =>
        bindM (nilM x30) fun x52 =>
        bindM (st (Addr.add x52 3) (.int .i64 (maxI (w64 (x49 - 1)) (-1)))) fun _ =>
        pureM (.inl (w64 (s1 + 1)))
      else
      mapR (pureM true))) 0)
def device_Rack_counted (p0_r : (Option Addr)) (p1_k : Int) (p2_sector : Int) (p3_size : Int) : M ((Option Addr) × Int) :=
  bindM (device_Rack_disk p0_r p1_k p2_sector) fun x16 =>
  (if (x16.2 != 0) = true then
  pureM (none, x16.2)
  else
  (if (p3_size != 64) = true then
    pureM (none, 11)
    else
    bindM (device_Rack_call p0_r) fun x28 =>
      (if (!x28) = true then
      pureM (none, 12)
      else
      bindM (nilM x16.1) fun x32 =>
        bindM (ld Value.bool (Addr.add x32 2)) fun x34 =>
        (if (x34) = true then
        pureM (none, 13)
        else
        pureM (x16.1, 0)))))
def device_Rack_Flush (p0_r : (Option Addr)) (p1_disk : Int) : M Int :=
  bindM (device_Rack_counted p0_r p1_disk 0 64) fun x12 =>
  (if (x12.2 == 0) = true then
  bindM (nilM x12.1) fun x18 =>
    bindM (ld Value.map (Addr.add x18 1)) fun x20 =>
    bindM (rangeMapM x20) fun x21 =>
    loopM (fun (s1 : Unit) =>
    bindM (nextM x21) fun y22 =>
      (match y22 with
      | none =>
        mapR (bindM (nilM x12.1) fun x35 =>
          bindM (ld Value.map (Addr.add x35 1)) fun x37 =>
          bindM (clearM x37) fun _ =>
          pureM x12.2)
      | some e22 =>
        bindM (entryM (Value.int .i64) vS x21) fun x24 =>
          bindM (nilM x12.1) fun x28 =>
          bindM (ld vS x28) fun x30 =>
          bindM (idxM x30 x24.1 1) fun x33 =>
          bindM (st x33 (.slice x24.2.base x24.2.len x24.2.cap)) fun _ =>
          pureM (.inl ()))) ()
  else
  pureM x12.2)
def bank_Bank_Flush (cv : CV) (p0_b : (Option Addr)) : M Int :=
  bindM (allocM [(.pointer p0_b)]) fun x1 =>
  bindM (allocM [(.int .i64 0)]) fun x2 =>
  bindM (ld Value.pointer x1) fun x5 =>
  rangeFM cv (.func (.func fid_bank_Bank_disks) #[(.pointer x5)] #[]) (fun x_1 : (Int) => #[(.int .i64 x_1)])
    (fun x_1 => pureM x_1)
    (fun (t_1 : (Int)) => bindM (ld Value.pointer x1) fun x8 =>
      bindM (nilM x8) fun x9 =>
      bindM (ld Value.pointer x9) fun x11 =>
      bindM (device_Rack_Flush x11 t_1) fun x13 =>
      (if (x13 == 12) = true then
      bindM (st x2 (.int .i64 x13)) fun _ =>
        pureM (.inr .ret)
      else
      pureM (.inl ())))
    (fun D1 => bindM (st x2 (.int .i64 0)) fun _ =>
      takesM (D1 :: []) <|
      bindM (ld (Value.int .i64) x2) fun r2 =>
      pureM r2)
    (fun D1 => takesM (D1 :: []) <|
      bindM (ld (Value.int .i64) x2) fun r2 =>
      pureM r2) (fun D1 i1 => failM)
def ref06_Bank_disk (p0_b : (Option Addr)) (p1_slot : Int) : M Int :=
  bindM (nilM p0_b) fun x6 =>
  bindM (ld (Value.int .i64) (Addr.add (Addr.add x6 4) 2)) fun x9 =>
  bindM (if (x9 != 0) = true then
    bindM (nilM p0_b) fun x13 =>
      bindM (ld (Value.int .i64) (Addr.add (Addr.add x13 4) 1)) fun x16 =>
      pureM (x16 == p1_slot)
  else
    pureM false) fun q1 =>
  (if (q1) = true then
  bindM (nilM p0_b) fun x21 =>
    bindM (ld (Value.int .i64) (Addr.add x21 1)) fun x24 =>
    pureM x24
  else
  pureM p1_slot)
def ref06_Bank_disks (p0_b : (Option Addr)) : M Slc :=
  bindM (allocM []) fun x5 =>
  loopM (fun (s1 : (Slc × Int)) =>
  bindM (nilM p0_b) fun x8 =>
    bindM (ld (Value.int .i64) (Addr.add x8 1)) fun x11 =>
    (if (decide (s1.2 < x11)) = true then
    bindM (ref06_Bank_disk p0_b s1.2) fun x18 =>
      bindM (allocM [(.int .i64 x18)]) fun x19 =>
      bindM (appendM [(.int .i64 0)] 8 s1.1 ⟨some x19, 1, 1⟩) fun x20 =>
      pureM (.inl (x20, w64 (s1.2 + 1)))
    else
    mapR (bindM (nilM p0_b) fun x22 =>
      bindM (ld (Value.int .i64) (Addr.add (Addr.add x22 4) 2)) fun x25 =>
      (if (x25 == 0) = true then
      bindM (nilM p0_b) fun x29 =>
        bindM (ld (Value.int .i64) (Addr.add x29 1)) fun x32 =>
        bindM (allocM [(.int .i64 x32)]) fun x33 =>
        bindM (appendM [(.int .i64 0)] 8 s1.1 ⟨some x33, 1, 1⟩) fun x34 =>
        pureM x34
      else
      pureM s1.1)))) (⟨some x5, 0, 0⟩, 0)
def ref02_Rack_there (p0_r : (Option Addr)) (p1_disk : Int) (p2_sector : Int) : M Bool :=
  bindM (if (decide (p1_disk ≥ 0)) = true then
    bindM (nilM p0_r) fun x12 =>
      bindM (ld (Value.int .i64) x12) fun x14 =>
      pureM (decide (p1_disk < x14))
  else
    pureM false) fun q1 =>
  bindM (if (q1) = true then
    pureM (decide (p2_sector ≥ 0))
  else
    pureM false) fun q2 =>
  bindM (if (q2) = true then
    bindM (nilM p0_r) fun x24 =>
      bindM (ld (Value.int .i64) (Addr.add x24 1)) fun x26 =>
      pureM (decide (p2_sector < x26))
  else
    pureM false) fun q3 =>
  pureM q3
def ref02_Rack_call (p0_r : (Option Addr)) : M Int :=
  bindM (nilM p0_r) fun x5 =>
  bindM (ld (Value.int .i64) (Addr.add x5 6)) fun x7 =>
  (if (x7 == 0) = true then
  bindM (nilM p0_r) fun x10 =>
    bindM (st (Addr.add x10 7) (.bool true)) fun _ =>
    pureM 12
  else
  bindM (nilM p0_r) fun x13 =>
    bindM (ld (Value.int .i64) (Addr.add x13 6)) fun x15 =>
    bindS ((if (decide (x15 > 0)) = true then
      bindM (nilM p0_r) fun x18 =>
        bindM (ld (Value.int .i64) (Addr.add x18 6)) fun x20 =>
        bindM (nilM p0_r) fun x22 =>
        bindM (st (Addr.add x22 6) (.int .i64 (w64 (x20 - 1)))) fun _ =>
        pureM (.inl ())
      else
      pureM (.inl ()))) fun (b1 : Unit) =>
    loopM (fun (s2 : (Int)) =>
    bindM (nilM p0_r) fun x26 =>
      bindM (ld (Value.int .i64) x26) fun x28 =>
      (if (decide (s2 < x28)) = true then
      bindM (nilM p0_r) fun x33 =>
        bindM (ld vS (Addr.add x33 4)) fun x35 =>
        bindM (idxM x35 s2 1) fun x37 =>
        bindM (ld Value.bool x37) fun x38 =>
        (if (x38) = true then
        pureM (.inl (w64 (s2 + 1)))
        else
        bindM (nilM p0_r) fun x40 =>
          bindM (ld vS (Addr.add x40 5)) fun x42 =>
          bindM (idxM x42 s2 1) fun x44 =>
          bindM (ld (Value.int .i64) x44) fun x45 =>
          bindS ((if (x45 == 0) = true then
            bindM (nilM p0_r) fun x48 =>
              bindM (ld vS (Addr.add x48 4)) fun x50 =>
              bindM (idxM x50 s2 1) fun x52 =>
              bindM (st x52 (.bool true)) fun _ =>
              pureM (.inl ())
            else
            pureM (.inl ()))) fun (b3 : Unit) =>
          bindM (nilM p0_r) fun x54 =>
          bindM (ld vS (Addr.add x54 5)) fun x56 =>
          bindM (idxM x56 s2 1) fun x58 =>
          bindM (ld (Value.int .i64) x58) fun x59 =>
          (if (decide (x59 > 0)) = true then
          bindM (nilM p0_r) fun x62 =>
            bindM (ld vS (Addr.add x62 5)) fun x64 =>
            bindM (idxM x64 s2 1) fun x66 =>
            bindM (ld (Value.int .i64) x66) fun x67 =>
            bindM (idxM x64 s2 1) fun x69 =>
            bindM (st x69 (.int .i64 (w64 (x67 - 1)))) fun _ =>
            pureM (.inl (w64 (s2 + 1)))
          else
          pureM (.inl (w64 (s2 + 1)))))
      else
      mapR (pureM 0))) 0)
def ref02_Rack_Flush (p0_r : (Option Addr)) (p1_disk : Int) : M Int :=
  bindM (nilM p0_r) fun x8 =>
  bindM (ld Value.bool (Addr.add x8 7)) fun x10 =>
  (if (x10) = true then
  pureM 12
  else
  bindM (ref02_Rack_there p0_r p1_disk 0) fun x13 =>
    (if (!x13) = true then
    pureM 11
    else
    bindM (ref02_Rack_call p0_r) fun x16 =>
      (if (x16 != 0) = true then
      pureM x16
      else
      bindM (nilM p0_r) fun x21 =>
        bindM (ld vS (Addr.add x21 4)) fun x23 =>
        bindM (idxM x23 p1_disk 1) fun x25 =>
        bindM (ld Value.bool x25) fun x26 =>
        (if (x26) = true then
        pureM 13
        else
        bindM (nilM p0_r) fun x29 =>
          bindM (ld (Value.int .i64) (Addr.add x29 1)) fun x31 =>
          loopM (fun (s1 : (Int)) =>
          bindM (nilM p0_r) fun x37 =>
            bindM (ld (Value.int .i64) (Addr.add x37 1)) fun x39 =>
            (if (decide (s1 < (w64 ((w64 (p1_disk + 1)) * x39)))) = true then
            bindM (nilM p0_r) fun x45 =>
              bindM (ld vS (Addr.add x45 3)) fun x47 =>
              bindM (idxM x47 s1 1) fun x49 =>
              bindM (ld vS x49) fun x50 =>
              (if (decide (((x50.len : Nat) : Int) > 0)) = true then
              regionM fun S2 =>
                bindM (nilM p0_r) fun x54 =>
                bindM (ldI S2 vS (Addr.add x54 2)) fun x56 =>
                bindM (nilM p0_r) fun x59 =>
                bindM (ldI S2 vS (Addr.add x59 3)) fun x61 =>
                bindM (idxM x61 s1 1) fun x63 =>
                bindM (ldI S2 vS x63) fun x64 =>
                bindM (idxM x56 s1 1) fun x65 =>
                bindM (st x65 (.slice x64.base x64.len x64.cap)) fun _ =>
                bindM (nilM p0_r) fun x67 =>
                bindM (ld vS (Addr.add x67 3)) fun x69 =>
                bindM (idxM x69 s1 1) fun x71 =>
                bindM (st x71 (.slice none 0 0)) fun _ =>
                pureM (.inl (w64 (s1 + 1)))
              else
              pureM (.inl (w64 (s1 + 1))))
            else
            mapR (pureM 0))) (w64 (p1_disk * x31))))))
def ref06_Bank_Flush (p0_b : (Option Addr)) : M Int :=
  bindM (ref06_Bank_disks p0_b) fun x6 =>
  loopM (fun (s1 : (Int)) =>
  (if (decide (s1 < ((x6.len : Nat) : Int))) = true then
    regionM fun S2 =>
      bindM (nilM p0_b) fun x14 =>
      bindM (ldI S2 Value.pointer x14) fun x16 =>
      bindM (idxM x6 s1 1) fun x19 =>
      bindM (ldI S2 (Value.int .i64) x19) fun x20 =>
      bindM (ref02_Rack_Flush x16 x20) fun x21 =>
      (if (x21 == 12) = true then
      mapR (pureM 12)
      else
      pureM (.inl (w64 (s1 + 1))))
    else
    mapR (pureM 0))) 0
def device_Rack_Off (p0_r : (Option Addr)) : M Bool :=
  bindM (nilM p0_r) fun x4 =>
  bindM (ld Value.bool (Addr.add x4 3)) fun x6 =>
  pureM x6
def bank_Bank_Off (p0_b : (Option Addr)) : M Bool :=
  bindM (nilM p0_b) fun x4 =>
  bindM (ld Value.pointer x4) fun x6 =>
  bindM (device_Rack_Off x6) fun x7 =>
  pureM x7
def bank_Bank_Geo (p0_b : (Option Addr)) : M (Int × Int × Int) :=
  bindM (allocM [(.int .i64 0), (.int .i64 0), (.int .i64 0)]) fun x2 =>
  bindM (nilM p0_b) fun x4 =>
  bindM (ldA (fun y : (Int × Int × Int) => [(.int .i64 y.1), (.int .i64 y.2.1), (.int .i64 y.2.2)]) (Addr.add x4 1)) fun x6 =>
  bindM (stA x2 [(.int .i64 x6.1), (.int .i64 x6.2.1), (.int .i64 x6.2.2)]) fun _ =>
  bindM (ldA (fun y : (Int × Int × Int) => [(.int .i64 y.1), (.int .i64 y.2.1), (.int .i64 y.2.2)]) x2) fun r2 =>
  pureM (r2.1, r2.2.1, r2.2.2)
def slices_Clone_b (p0_s : Slc) : M Slc :=
  (if (p0_s.base.isNone) = true then
  pureM (⟨none, 0, 0⟩)
  else
  bindM (allocM []) fun x5 =>
    bindM (appendM [(.int .u8 0)] 1 ⟨some x5, 0, 0⟩ p0_s) fun x7 =>
    pureM x7)
def device_Rack_Read (p0_r : (Option Addr)) (p1_disk : Int) (p2_sector : Int) : M (Slc × Int) :=
  bindM (device_Rack_disk p0_r p1_disk p2_sector) fun x16 =>
  (if (x16.2 != 0) = true then
  pureM (⟨none, 0, 0⟩, x16.2)
  else
  bindM (nilM x16.1) fun x23 =>
    bindM (ld Value.bool (Addr.add x23 2)) fun x25 =>
    (if (x25) = true then
    pureM (⟨none, 0, 0⟩, 13)
    else
    bindM (nilM x16.1) fun x28 =>
      bindM (ld Value.map (Addr.add x28 1)) fun x30 =>
      bindM (lookM vS (⟨none, 0, 0⟩) x30 p2_sector) fun x32 =>
      (if (x32.2) = true then
      bindM (slices_Clone_b x32.1) fun x37 =>
        pureM (x37, 0)
      else
      bindM (nilM x16.1) fun x39 =>
        bindM (ld vS x39) fun x41 =>
        bindM (idxM x41 p2_sector 1) fun x43 =>
        bindM (ld vS x43) fun x44 =>
        bindM (slices_Clone_b x44) fun x45 =>
        pureM (x45, 0))))
def bank_Bank_All (cv : CV) (p0_b : (Option Addr)) (p1_sector : Int) : M Slc :=
  bindM (allocM [(.pointer p0_b)]) fun x2 =>
  bindM (allocM [(.int .i64 p1_sector)]) fun x3 =>
  bindM (allocM [(.slice none 0 0)]) fun x5 =>
  bindM (ld Value.pointer x2) fun x9 =>
  rangeFM cv (.func (.func fid_bank_Bank_disks) #[(.pointer x9)] #[]) (fun x_1 : (Int) => #[(.int .i64 x_1)])
    (fun x_1 => pureM x_1)
    (fun (t_1 : (Int)) => regionM fun S2 =>
      bindM (ldI S2 Value.pointer x2) fun x13 =>
      bindM (nilM x13) fun x14 =>
      bindM (ldI S2 Value.pointer x14) fun x16 =>
      bindM (ldI S2 (Value.int .i64) x3) fun x18 =>
      bindM (stepI S2 (device_Rack_Read x16 t_1 x18)) fun x19 =>
      (if (x19.2 == 0) = true then
      bindM (ld vS x5) fun x24 =>
        bindM (allocM [(.slice x19.1.base x19.1.len x19.1.cap)]) fun x26 =>
        bindM (appendM [(.slice none 0 0)] 24 x24 ⟨some x26, 1, 1⟩) fun x27 =>
        bindM (st x5 (.slice x27.base x27.len x27.cap)) fun _ =>
        pureM (.inl ())
      else
      pureM (.inl ())))
    (fun D1 => bindM (ld vS x5) fun x28 =>
      takesM (D1 :: []) <|
      pureM x28)
    (fun D1 => failM) (fun D1 i1 => failM)
def bytes_Clone (p0_b : Slc) : M Slc :=
  (if (p0_b.base.isNone) = true then
  pureM (⟨none, 0, 0⟩)
  else
  bindM (allocM []) fun x5 =>
    bindM (appendM [(.int .u8 0)] 1 ⟨some x5, 0, 0⟩ p0_b) fun x7 =>
    pureM x7)
def sector_Decode (p0_b : Slc) : M ((Int × Int × Int) × Slc × Bool) :=
  bindM (allocM [(.int .i64 0), (.int .i64 0), (.int .i64 0)]) fun x2 =>
  (if (((p0_b.len : Nat) : Int) != 64) = true then
  bindM (stA x2 [(.int .i64 0), (.int .i64 0), (.int .i64 0)]) fun _ =>
    bindM (ldA (fun y : (Int × Int × Int) => [(.int .i64 y.1), (.int .i64 y.2.1), (.int .i64 y.2.2)]) x2) fun r2 =>
    pureM ((r2.1, r2.2.1, r2.2.2), ⟨none, 0, 0⟩, false)
  else
  bindM (allocM [(.int .i64 0), (.int .i64 0), (.int .i64 0)]) fun x5 =>
    bindM (bits_Get p0_b 0 4) fun x12 =>
    bindM (st x5 (.int .i64 x12.1)) fun _ =>
    bindM (bits_Get p0_b 4 2) fun x18 =>
    bindM (st (Addr.add x5 1) (.int .i64 x18.1)) fun _ =>
    bindM (bits_Get p0_b 6 2) fun x24 =>
    bindM (st (Addr.add x5 2) (.int .i64 x24.1)) fun _ =>
    regionM fun S1 =>
    bindM (ldAI S1 (fun y : (Int × Int × Int) => [(.int .i64 y.1), (.int .i64 y.2.1), (.int .i64 y.2.2)]) x5) fun x28 =>
    bindM (sliceM p0_b (some 8) (none) 1) fun x30 =>
    bindM (stepI S1 (bytes_Clone x30)) fun x31 =>
    bindM (stA x2 [(.int .i64 x28.1), (.int .i64 x28.2.1), (.int .i64 x28.2.2)]) fun _ =>
    bindM (ldA (fun y : (Int × Int × Int) => [(.int .i64 y.1), (.int .i64 y.2.1), (.int .i64 y.2.2)]) x2) fun r2 =>
    pureM ((r2.1, r2.2.1, r2.2.2), x31, true))
def scan_greatest (cv : CV) (p0_b : (Option Addr)) (p1_seg : Int) : M Int :=
  bindM (bank_Bank_Geo p0_b) fun x13 =>
  loopM (fun (s1 : (Int × Int)) =>
  (if (decide (s1.2 < x13.2.1)) = true then
    bindM (bank_Bank_Geo p0_b) fun x21 =>
      bindM (bank_Bank_All cv p0_b (w64 ((w64 (5 + (w64 (p1_seg * x21.2.1)))) + s1.2))) fun x27 =>
      loopM (fun (s2 : (Int × Int)) =>
      (if (decide (s2.2 < ((x27.len : Nat) : Int))) = true then
        bindM (idxM x27 s2.2 1) fun x31 =>
          bindM (ld vS x31) fun x32 =>
          bindM (sector_Decode x32) fun x35 =>
          bindM (allocM [(.int .i64 0), (.int .i64 0), (.int .i64 0)]) fun x9 =>
          bindM (stA x9 [(.int .i64 x35.1.1), (.int .i64 x35.1.2.1), (.int .i64 x35.1.2.2)]) fun _ =>
          bindM (ld (Value.int .i64) x9) fun x41 =>
          pureM (.inl (maxI s2.1 x41, w64 (s2.2 + 1)))
        else
        mapR (pureM (.inl (s2.1, w64 (s1.2 + 1)))))) (s1.1, 0)
    else
    mapR (pureM s1.1))) (0, 0)
def device_Rack_Failed (p0_r : (Option Addr)) (p1_disk : Int) : M Bool :=
  bindM (if (decide (p1_disk ≥ 0)) = true then
    bindM (nilM p0_r) fun x10 =>
      bindM (ld vS x10) fun x12 =>
      pureM (decide (p1_disk < ((x12.len : Nat) : Int)))
  else
    pureM false) fun q1 =>
  bindM (if (q1) = true then
    bindM (nilM p0_r) fun x18 =>
      bindM (ld vS x18) fun x20 =>
      bindM (idxM x20 p1_disk 1) fun x22 =>
      bindM (ld Value.pointer x22) fun x23 =>
      bindM (nilM x23) fun x24 =>
      bindM (ld Value.bool (Addr.add x24 2)) fun x26 =>
      pureM x26
  else
    pureM false) fun q2 =>
  pureM q2
def bank_Bank_Bad (p0_b : (Option Addr)) : M Slc :=
  bindM (nilM p0_b) fun x8 =>
  bindM (ld (Value.int .i64) (Addr.add x8 1)) fun x11 =>
  loopM (fun (s1 : (Slc × Int)) =>
  (if (decide (s1.2 < x11)) = true then
    bindM (bank_Bank_disk p0_b s1.2) fun x18 =>
      bindM (nilM p0_b) fun x22 =>
      bindM (ld Value.pointer x22) fun x24 =>
      bindM (device_Rack_Failed x24 x18.1) fun x26 =>
      bindM (if (x26) = true then
        pureM true
      else
        bindM (nilM p0_b) fun x29 =>
          bindM (ld (Value.int .i64) (Addr.add (Addr.add x29 4) 2)) fun x32 =>
          bindM (if (x32 == 1) = true then
            bindM (nilM p0_b) fun x36 =>
              bindM (ld (Value.int .i64) (Addr.add (Addr.add x36 4) 1)) fun x39 =>
              pureM (x39 == s1.2)
          else
            pureM false) fun q3 =>
          pureM q3) fun q2 =>
      (if (q2) = true then
      bindM (allocM [(.int .i64 s1.2)]) fun x46 =>
        bindM (appendM [(.int .i64 0)] 8 s1.1 ⟨some x46, 1, 1⟩) fun x47 =>
        pureM (.inl (x47, w64 (s1.2 + 1)))
      else
      pureM (.inl (s1.1, w64 (s1.2 + 1))))
    else
    mapR (pureM s1.1))) (⟨none, 0, 0⟩, 0)
def geo_Parity (p0_g : (Int × Int × Int)) (p1_seg : Int) (p2_row : Int) : M ((Int × Int) × Bool) :=
  bindM (allocM [(.int .i64 p0_g.1), (.int .i64 p0_g.2.1), (.int .i64 p0_g.2.2)]) fun x3 =>
  bindM (allocM [(.int .i64 0), (.int .i64 0)]) fun x6 =>
  bindM (ldA (fun y : (Int × Int × Int) => [(.int .i64 y.1), (.int .i64 y.2.1), (.int .i64 y.2.2)]) x3) fun x9 =>
  bindM (geo_Right (x9.1, x9.2.1, x9.2.2)) fun x10 =>
  bindM (if (!x10) = true then
    pureM true
  else
    bindM (ld (Value.int .i64) (Addr.add x3 2)) fun x15 =>
      bindM (geo_within p1_seg 0 (w64 (x15 - 1))) fun x17 =>
      pureM (!x17)) fun q1 =>
  bindM (if (q1) = true then
    pureM true
  else
    bindM (ld (Value.int .i64) (Addr.add x3 1)) fun x23 =>
      bindM (geo_within p2_row 0 (w64 (x23 - 1))) fun x25 =>
      pureM (!x25)) fun q2 =>
  (if (q2) = true then
  bindM (stA x6 [(.int .i64 0), (.int .i64 0)]) fun _ =>
    bindM (ldA (fun y : (Int × Int) => [(.int .i64 y.1), (.int .i64 y.2)]) x6) fun r6 =>
    pureM ((r6.1, r6.2), false)
  else
  bindM (ld (Value.int .i64) (Addr.add x3 1)) fun x31 =>
    regionM fun S3 =>
    bindM (ldI S3 (Value.int .i64) x3) fun x36 =>
    bindM (ldI S3 (Value.int .i64) x3) fun x40 =>
    assertM (x40 ≠ 0) <|
    bindM (stA x6 [(.int .i64 (w64 ((w64 (x36 - 1)) - (Int.tmod (w64 ((w64 (p1_seg * x31)) + p2_row)) x40)))), (.int .i64 (w64 (5 + (w64 ((w64 (p1_seg * x31)) + p2_row)))))]) fun _ =>
    bindM (ldA (fun y : (Int × Int) => [(.int .i64 y.1), (.int .i64 y.2)]) x6) fun r6 =>
    pureM ((r6.1, r6.2), true))
def geo_Block (p0_g : (Int × Int × Int)) (p1_seg : Int) (p2_k : Int) : M ((Int × Int) × Bool) :=
  bindM (allocM [(.int .i64 p0_g.1), (.int .i64 p0_g.2.1), (.int .i64 p0_g.2.2)]) fun x3 =>
  bindM (allocM [(.int .i64 0), (.int .i64 0)]) fun x6 =>
  bindM (ldA (fun y : (Int × Int × Int) => [(.int .i64 y.1), (.int .i64 y.2.1), (.int .i64 y.2.2)]) x3) fun x10 =>
  bindM (geo_Right (x10.1, x10.2.1, x10.2.2)) fun x11 =>
  bindM (if (!x11) = true then
    pureM true
  else
    bindM (ldA (fun y : (Int × Int × Int) => [(.int .i64 y.1), (.int .i64 y.2.1), (.int .i64 y.2.2)]) x3) fun x15 =>
      bindM (geo_places (x15.1, x15.2.1, x15.2.2)) fun x16 =>
      bindM (geo_within p2_k 0 x16) fun x17 =>
      pureM (!x17)) fun q1 =>
  (if (q1) = true then
  bindM (stA x6 [(.int .i64 0), (.int .i64 0)]) fun _ =>
    bindM (ldA (fun y : (Int × Int) => [(.int .i64 y.1), (.int .i64 y.2)]) x6) fun r6 =>
    pureM ((r6.1, r6.2), false)
  else
  regionM fun S2 =>
    bindM (ldAI S2 (fun y : (Int × Int × Int) => [(.int .i64 y.1), (.int .i64 y.2.1), (.int .i64 y.2.2)]) x3) fun x22 =>
    bindM (ldI S2 (Value.int .i64) x3) fun x26 =>
    assertM ((w64 (x26 - 1)) ≠ 0) <|
    (bothM
      (bindM (stepI S2 (geo_Parity (x22.1, x22.2.1, x22.2.2) p1_seg (w64 (Int.tdiv p2_k (w64 (x26 - 1)))))) fun x29 =>
        bindM (stepI S2 (allocM [(.int .i64 0), (.int .i64 0)])) fun x8 =>
        bindM (stA x8 [(.int .i64 x29.1.1), (.int .i64 x29.1.2)]) fun _ =>
        (if (x29.2) = true then
        regionM fun S3 =>
          bindM (ldI S3 (Value.int .i64) x8) fun x34 =>
          bindM (ldI S3 (Value.int .i64) x3) fun x38 =>
          assertM ((w64 (x38 - 1)) ≠ 0) <|
          bindM (ldI S3 (Value.int .i64) x3) fun x43 =>
          assertM (x43 ≠ 0) <|
          bindM (st x8 (.int .i64 (Int.tmod (w64 ((w64 (x34 + 1)) + (Int.tmod p2_k (w64 (x38 - 1))))) x43))) fun _ =>
          bindM (ldA (fun y : (Int × Int) => [(.int .i64 y.1), (.int .i64 y.2)]) x8) fun x46 =>
          bindM (stA x6 [(.int .i64 x46.1), (.int .i64 x46.2)]) fun _ =>
          bindM (ldA (fun y : (Int × Int) => [(.int .i64 y.1), (.int .i64 y.2)]) x6) fun r6 =>
          pureM ((r6.1, r6.2), x29.2)
        else
        bindM (ldA (fun y : (Int × Int) => [(.int .i64 y.1), (.int .i64 y.2)]) x8) fun x46 =>
          bindM (stA x6 [(.int .i64 x46.1), (.int .i64 x46.2)]) fun _ =>
          bindM (ldA (fun y : (Int × Int) => [(.int .i64 y.1), (.int .i64 y.2)]) x6) fun r6 =>
          pureM ((r6.1, r6.2), x29.2)))
      (bindM (stepI S2 (allocM [(.int .i64 0), (.int .i64 0)])) fun x8 =>
        bindM (stepI S2 (geo_Parity (x22.1, x22.2.1, x22.2.2) p1_seg (w64 (Int.tdiv p2_k (w64 (x26 - 1)))))) fun x29 =>
        bindM (stA x8 [(.int .i64 x29.1.1), (.int .i64 x29.1.2)]) fun _ =>
        (if (x29.2) = true then
        regionM fun S4 =>
          bindM (ldI S4 (Value.int .i64) x8) fun x34 =>
          bindM (ldI S4 (Value.int .i64) x3) fun x38 =>
          assertM ((w64 (x38 - 1)) ≠ 0) <|
          bindM (ldI S4 (Value.int .i64) x3) fun x43 =>
          assertM (x43 ≠ 0) <|
          bindM (st x8 (.int .i64 (Int.tmod (w64 ((w64 (x34 + 1)) + (Int.tmod p2_k (w64 (x38 - 1))))) x43))) fun _ =>
          bindM (ldA (fun y : (Int × Int) => [(.int .i64 y.1), (.int .i64 y.2)]) x8) fun x46 =>
          bindM (stA x6 [(.int .i64 x46.1), (.int .i64 x46.2)]) fun _ =>
          bindM (ldA (fun y : (Int × Int) => [(.int .i64 y.1), (.int .i64 y.2)]) x6) fun r6 =>
          pureM ((r6.1, r6.2), x29.2)
        else
        bindM (ldA (fun y : (Int × Int) => [(.int .i64 y.1), (.int .i64 y.2)]) x8) fun x46 =>
          bindM (stA x6 [(.int .i64 x46.1), (.int .i64 x46.2)]) fun _ =>
          bindM (ldA (fun y : (Int × Int) => [(.int .i64 y.1), (.int .i64 y.2)]) x6) fun r6 =>
          pureM ((r6.1, r6.2), x29.2)))))
def stripe_rows_c1 (cv : CV) (p0_yield : Value) (p1_a : Addr) (p2_a : Addr) : M Unit :=
  bindM (ld (Value.int .i64) p1_a) fun x13 =>
  bindM (ld (Value.int .i64) (Addr.add p1_a 1)) fun x16 =>
  loopM (fun (s1 : (Int)) =>
  (if (decide (s1 < x16)) = true then
    loopM (fun (s2 : (Slc × Int)) =>
      (if (decide (s2.2 < (w64 (x13 - 1)))) = true then
        bindM (ldA (fun y : (Int × Int × Int) => [(.int .i64 y.1), (.int .i64 y.2.1), (.int .i64 y.2.2)]) p1_a) fun x25 =>
          bindM (ld (Value.int .i64) p2_a) fun x26 =>
          bindM (geo_Block (x25.1, x25.2.1, x25.2.2) x26 (w64 ((w64 (s1 * (w64 (x13 - 1)))) + s2.2))) fun x32 =>
          bindM (allocM [(.int .i64 0), (.int .i64 0)]) fun x8 =>
          bindM (stA x8 [(.int .i64 x32.1.1), (.int .i64 x32.1.2)]) fun _ =>
          bindM (ldA (fun y : (Int × Int) => [(.int .i64 y.1), (.int .i64 y.2)]) x8) fun x36 =>
          bindM (allocM [(.int .i64 x36.1), (.int .i64 x36.2)]) fun x37 =>
          bindM (appendM [(.int .i64 0), (.int .i64 0)] 16 s2.1 ⟨some x37, 1, 1⟩) fun x38 =>
          pureM (.inl (x38, w64 (s2.2 + 1)))
        else
        mapR (bindM (ldA (fun y : (Int × Int × Int) => [(.int .i64 y.1), (.int .i64 y.2.1), (.int .i64 y.2.2)]) p1_a) fun x41 =>
          bindM (ld (Value.int .i64) p2_a) fun x42 =>
          bindM (geo_Parity (x41.1, x41.2.1, x41.2.2) x42 s1) fun x44 =>
          bindM (allocM [(.int .i64 0), (.int .i64 0)]) fun x10 =>
          bindM (stA x10 [(.int .i64 x44.1.1), (.int .i64 x44.1.2)]) fun _ =>
          bindM (ldA (fun y : (Int × Int) => [(.int .i64 y.1), (.int .i64 y.2)]) x10) fun x50 =>
          bindM (allocM [(.int .i64 x50.1), (.int .i64 x50.2)]) fun x51 =>
          bindM (appendM [(.int .i64 0), (.int .i64 0)] 16 s2.1 ⟨some x51, 1, 1⟩) fun x52 =>
          bindM (cvT cv Value.bool p0_yield #[(.int .i64 s1), (.slice x52.base x52.len x52.cap)]) fun x53 =>
          (if (!x53) = true then
          mapR (pureM ())
          else
          pureM (.inl (w64 (s1 + 1))))))) (⟨none, 0, 0⟩, 0)
    else
    mapR (pureM ()))) 0
def stripe_rows (p0_g : (Int × Int × Int)) (p1_seg : Int) : M Value :=
  bindM (allocM [(.int .i64 p0_g.1), (.int .i64 p0_g.2.1), (.int .i64 p0_g.2.2)]) fun x2 =>
  bindM (allocM [(.int .i64 p1_seg)]) fun x3 =>
  pureM (.func (.func fid_stripe_rows_c1) #[] #[(.pointer (some x2)), (.pointer (some x3))])
def stripe_there (p0_b : (Option Addr)) (p1_seg : Int) : M Int :=
  bindM (if (decide (p1_seg < 0)) = true then
    pureM true
  else
    bindM (bank_Bank_Geo p0_b) fun x11 =>
      pureM (decide (p1_seg ≥ x11.2.2))) fun q1 =>
  (if (q1) = true then
  pureM 28
  else
  bindM (bank_Bank_Off p0_b) fun x17 =>
    (if (x17) = true then
    pureM 12
    else
    pureM 0))
def slices_Index_i (p0_s : Slc) (p1_v : Int) : M Int :=
  loopM (fun (s1 : (Int)) =>
  (if (decide (s1 < ((p0_s.len : Nat) : Int))) = true then
    bindM (idxM p0_s s1 1) fun x14 =>
      bindM (ld (Value.int .i64) x14) fun x15 =>
      (if (p1_v == x15) = true then
      mapR (pureM s1)
      else
      pureM (.inl (w64 (s1 + 1))))
    else
    mapR (pureM (-1)))) 0
def slices_Contains_i (p0_s : Slc) (p1_v : Int) : M Bool :=
  bindM (slices_Index_i p0_s p1_v) fun x7 =>
  pureM (decide (x7 ≥ 0))
def bank_Bank_Read (p0_b : (Option Addr)) (p1_slot : Int) (p2_sector : Int) : M (Slc × Int) :=
  bindM (bank_Bank_disk p0_b p1_slot) fun x13 =>
  (if (!x13.2) = true then
  pureM (⟨none, 0, 0⟩, 11)
  else
  bindM (nilM p0_b) fun x19 =>
    bindM (ld Value.pointer x19) fun x21 =>
    bindM (device_Rack_Read x21 x13.1 p2_sector) fun x24 =>
    pureM (x24.1, x24.2))
def stripe_Whole (cv : CV) (p0_b : (Option Addr)) (p1_seg : Int) : M (Int × Bool × Int) :=
  bindM (allocM [(.pointer p0_b)]) fun x2 =>
  bindM (allocM [(.int .i64 0)]) fun x4 =>
  bindM (allocM [(.bool false)]) fun x5 =>
  bindM (allocM [(.int .i64 0)]) fun x6 =>
  bindM (ld Value.pointer x2) fun x19 =>
  bindM (stripe_there x19 p1_seg) fun x21 =>
  (if (x21 != 0) = true then
  bindM (st x4 (.int .i64 0)) fun _ =>
    bindM (st x5 (.bool false)) fun _ =>
    bindM (st x6 (.int .i64 x21)) fun _ =>
    bindM (ld (Value.int .i64) x4) fun r4 =>
    bindM (ld Value.bool x5) fun r5 =>
    bindM (ld (Value.int .i64) x6) fun r6 =>
    pureM (r4, r5, r6)
  else
  bindM (ld Value.pointer x2) fun x25 =>
    bindM (bank_Bank_Bad x25) fun x26 =>
    bindM (allocM [(.slice none 0 0)]) fun x8 =>
    bindM (st x8 (.slice x26.base x26.len x26.cap)) fun _ =>
    bindM (ld vS x8) fun x27 =>
    (if (decide (((x27.len : Nat) : Int) > 1)) = true then
    bindM (st x4 (.int .i64 0)) fun _ =>
      bindM (st x5 (.bool false)) fun _ =>
      bindM (st x6 (.int .i64 0)) fun _ =>
      bindM (ld (Value.int .i64) x4) fun r4 =>
      bindM (ld Value.bool x5) fun r5 =>
      bindM (ld (Value.int .i64) x6) fun r6 =>
      pureM (r4, r5, r6)
    else
    bindM (allocM [(.int .i64 0)]) fun x9 =>
      bindM (st x9 (.int .i64 0)) fun _ =>
      bindM (ld Value.pointer x2) fun x30 =>
      bindM (bank_Bank_Geo x30) fun x31 =>
      bindM (stripe_rows (x31.1, x31.2.1, x31.2.2) p1_seg) fun x33 =>
      rangeFM cv x33 (fun x_1 : (Int × Slc) => #[(.int .i64 x_1.1), (.slice x_1.2.base x_1.2.len x_1.2.cap)])
        (fun x_1 => pureM x_1.2)
        (fun (t_1 : (Slc)) => loopM (fun (s2 : (Int)) =>
          (if (decide (s2 < ((t_1.len : Nat) : Int))) = true then
            bindM (idxM t_1 s2 2) fun x40 =>
              bindM (ldA (fun y : (Int × Int) => [(.int .i64 y.1), (.int .i64 y.2)]) x40) fun x41 =>
              bindM (allocM [(.int .i64 0), (.int .i64 0)]) fun x13 =>
              bindM (stA x13 [(.int .i64 x41.1), (.int .i64 x41.2)]) fun _ =>
              bindM (ld vS x8) fun x42 =>
              bindM (ld (Value.int .i64) x13) fun x44 =>
              bindM (slices_Contains_i x42 x44) fun x45 =>
              (if (x45) = true then
              pureM (.inl (w64 (s2 + 1)))
              else
              bindM (ld Value.pointer x2) fun x47 =>
                bindM (ld (Value.int .i64) x13) fun x49 =>
                bindM (ld (Value.int .i64) (Addr.add x13 1)) fun x51 =>
                bindM (bank_Bank_Read x47 x49 x51) fun x52 =>
                bindM (sector_Decode x52.1) fun x57 =>
                bindM (allocM [(.int .i64 0), (.int .i64 0), (.int .i64 0)]) fun x16 =>
                bindM (stA x16 [(.int .i64 x57.1.1), (.int .i64 x57.1.2.1), (.int .i64 x57.1.2.2)]) fun _ =>
                bindM (if (x52.2 != 0) = true then
                  pureM true
                else
                  bindM (ld (Value.int .i64) x16) fun x65 =>
                    pureM (x65 == 0)) fun q3 =>
                bindM (if (q3) = true then
                  pureM true
                else
                  bindM (ld (Value.int .i64) x9) fun x69 =>
                    bindM (if (x69 != 0) = true then
                      bindM (ld (Value.int .i64) x16) fun x73 =>
                        bindM (ld (Value.int .i64) x9) fun x74 =>
                        pureM (x73 != x74)
                    else
                      pureM false) fun q5 =>
                    pureM q5) fun q4 =>
                (if (q4) = true then
                bindM (st x4 (.int .i64 0)) fun _ =>
                  bindM (st x5 (.bool false)) fun _ =>
                  bindM (st x6 (.int .i64 0)) fun _ =>
                  mapR (pureM (.inr .ret))
                else
                bindM (ld (Value.int .i64) x16) fun x79 =>
                  bindM (st x9 (.int .i64 x79)) fun _ =>
                  pureM (.inl (w64 (s2 + 1)))))
            else
            mapR (pureM (.inl ())))) 0)
        (fun D1 => bindM (ld (Value.int .i64) x9) fun x81 =>
          bindM (st x4 (.int .i64 x81)) fun _ =>
          bindM (st x5 (.bool true)) fun _ =>
          bindM (st x6 (.int .i64 0)) fun _ =>
          takesM (D1 :: []) <|
          bindM (ld (Value.int .i64) x4) fun r4 =>
          bindM (ld Value.bool x5) fun r5 =>
          bindM (ld (Value.int .i64) x6) fun r6 =>
          pureM (r4, r5, r6))
        (fun D1 => takesM (D1 :: []) <|
          bindM (ld (Value.int .i64) x4) fun r4 =>
          bindM (ld Value.bool x5) fun r5 =>
          bindM (ld (Value.int .i64) x6) fun r6 =>
          pureM (r4, r5, r6)) (fun D1 i1 => failM)))
def stripe_good (p0_b : (Option Addr)) (p1_s : (Int × Int)) (p2_seq : Int) : M (Slc × Bool) :=
  bindM (allocM [(.int .i64 p1_s.1), (.int .i64 p1_s.2)]) fun x4 =>
  bindM (ld (Value.int .i64) x4) fun x16 =>
  bindM (ld (Value.int .i64) (Addr.add x4 1)) fun x18 =>
  bindM (bank_Bank_Read p0_b x16 x18) fun x19 =>
  (if (x19.2 != 0) = true then
  pureM (⟨none, 0, 0⟩, false)
  else
  bindM (sector_Decode x19.1) fun x26 =>
    bindM (allocM [(.int .i64 0), (.int .i64 0), (.int .i64 0)]) fun x10 =>
    bindM (stA x10 [(.int .i64 x26.1.1), (.int .i64 x26.1.2.1), (.int .i64 x26.1.2.2)]) fun _ =>
    regionM fun S1 =>
    bindM (ldI S1 (Value.int .i64) x10) fun x32 =>
    pureM (x19.1, x32 == p2_seq))
def bytes_Equal (p0_a : Slc) (p1_b : Slc) : M Bool :=
  bindM (bstrM p0_a) fun x6 =>
  bindM (bstrM p1_b) fun x8 =>
  pureM (strEq x6 x8)
def bytes_HasPrefix (p0_s : Slc) (p1_prefix : Slc) : M Bool :=
  bindM (if (decide (((p0_s.len : Nat) : Int) ≥ ((p1_prefix.len : Nat) : Int))) = true then
    bindM (sliceM p0_s (none) (some ((p1_prefix.len : Nat) : Int)) 1) fun x14 =>
      bindM (bytes_Equal x14 p1_prefix) fun x16 =>
      pureM x16
  else
    pureM false) fun q1 =>
  pureM q1
def bits_Xor (p0_a : Slc) (p1_b : Slc) : M Slc :=
  bindS ((if (decide (((p0_a.len : Nat) : Int) < ((p1_b.len : Nat) : Int))) = true then
    pureM (.inl (p1_b, p0_a))
    else
    pureM (.inl (p0_a, p1_b)))) fun (b1 : (Slc × Slc)) =>
  bindM (bytes_Clone b1.1) fun x16 =>
  loopM (fun (s2 : (Int)) =>
  (if (decide (s2 < ((b1.2.len : Nat) : Int))) = true then
    bindM (idxM b1.2 s2 1) fun x22 =>
      bindM (ld (Value.int .u8) x22) fun x23 =>
      bindM (idxM x16 s2 1) fun x26 =>
      bindM (ld (Value.int .u8) x26) fun x27 =>
      bindM (idxM x16 s2 1) fun x30 =>
      bindM (st x30 (.int .u8 (bXor .u8 x27 x23))) fun _ =>
      pureM (.inl (w64 (s2 + 1)))
    else
    mapR (pureM x16))) 0
def sector_Parity (p0_list : Slc) : M (Slc × Bool) :=
  bindM (if (((p0_list.len : Nat) : Int) == 0) = true then
    pureM true
  else
    bindM (idxM p0_list 0 1) fun x13 =>
      bindM (ld vS x13) fun x14 =>
      pureM (((x14.len : Nat) : Int) != 64)) fun q1 =>
  (if (q1) = true then
  pureM (⟨none, 0, 0⟩, false)
  else
  bindM (idxM p0_list 0 1) fun x19 =>
    bindM (ld vS x19) fun x20 =>
    bindM (sliceM x20 (none) (some 4) 1) fun x21 =>
    loopM (fun (s2 : (Slc × Int)) =>
    (if (decide (s2.2 < ((p0_list.len : Nat) : Int))) = true then
      bindM (idxM p0_list s2.2 1) fun x26 =>
        bindM (ld vS x26) fun x27 =>
        bindM (if (((x27.len : Nat) : Int) != 64) = true then
          pureM true
        else
          bindM (bytes_HasPrefix x27 x21) fun x34 =>
            pureM (!x34)) fun q3 =>
        (if (q3) = true then
        mapR (pureM (⟨none, 0, 0⟩, false))
        else
        bindM (sliceM x27 (some 4) (none) 1) fun x39 =>
          bindM (bits_Xor s2.1 x39) fun x40 =>
          pureM (.inl (x40, w64 (s2.2 + 1))))
      else
      mapR (bindM (bytes_Clone x21) fun x43 =>
        bindM (appendM [(.int .u8 0)] 1 x43 s2.1) fun x45 =>
        pureM (x45, true)))) (⟨none, 0, 0⟩, 0))
def sector_Restore (p0_list : Slc) : M (Slc × Bool) :=
  bindM (sector_Parity p0_list) fun x5 =>
  pureM (x5.1, x5.2)
def stripe_others (p0_b : (Option Addr)) (p1_r : Slc) (p2_lost : (Int × Int)) (p3_seq : Int) : M (Slc × Bool) :=
  bindM (allocM [(.int .i64 p2_lost.1), (.int .i64 p2_lost.2)]) fun x6 =>
  loopM (fun (s1 : (Slc × Int)) =>
  (if (decide (s1.2 < ((p1_r.len : Nat) : Int))) = true then
    bindM (idxM p1_r s1.2 2) fun x19 =>
      bindM (ldA (fun y : (Int × Int) => [(.int .i64 y.1), (.int .i64 y.2)]) x19) fun x20 =>
      bindM (allocM [(.int .i64 0), (.int .i64 0)]) fun x12 =>
      bindM (stA x12 [(.int .i64 x20.1), (.int .i64 x20.2)]) fun _ =>
      bindM (ldA (fun y : (Int × Int) => [(.int .i64 y.1), (.int .i64 y.2)]) x12) fun x21 =>
      bindM (ldA (fun y : (Int × Int) => [(.int .i64 y.1), (.int .i64 y.2)]) x6) fun x22 =>
      (if (eq2 (x21.1, x21.2) (x22.1, x22.2)) = true then
      pureM (.inl (s1.1, w64 (s1.2 + 1)))
      else
      bindM (ldA (fun y : (Int × Int) => [(.int .i64 y.1), (.int .i64 y.2)]) x12) fun x26 =>
        bindM (stripe_good p0_b (x26.1, x26.2) p3_seq) fun x28 =>
        (if (!x28.2) = true then
        mapR (pureM (⟨none, 0, 0⟩, false))
        else
        bindM (allocM [(.slice x28.1.base x28.1.len x28.1.cap)]) fun x35 =>
          bindM (appendM [(.slice none 0 0)] 24 s1.1 ⟨some x35, 1, 1⟩) fun x36 =>
          pureM (.inl (x36, w64 (s1.2 + 1)))))
    else
    mapR (bindM (sector_Restore s1.1) fun x39 =>
      pureM (x39.1, x39.2)))) (⟨none, 0, 0⟩, 0)
def stripe_Read (cv : CV) (p0_b : (Option Addr)) (p1_seg : Int) (p2_k : Int) (p3_seq : Int) : M ((Int × Int × Slc) × Int) :=
  bindM (allocM [(.pointer p0_b)]) fun x4 =>
  bindM (allocM [(.int .i64 p2_k)]) fun x6 =>
  bindM (allocM [(.int .i64 p3_seq)]) fun x7 =>
  bindM (allocM [(.int .i64 0), (.int .i64 0), (.slice none 0 0)]) fun x8 =>
  bindM (ld Value.pointer x4) fun x19 =>
  bindM (bank_Bank_Geo x19) fun x20 =>
  bindM (allocM [(.int .i64 0), (.int .i64 0), (.int .i64 0)]) fun x10 =>
  bindM (stA x10 [(.int .i64 x20.1), (.int .i64 x20.2.1), (.int .i64 x20.2.2)]) fun _ =>
  bindM (ldA (fun y : (Int × Int × Int) => [(.int .i64 y.1), (.int .i64 y.2.1), (.int .i64 y.2.2)]) x10) fun x22 =>
  bindM (ld (Value.int .i64) x6) fun x24 =>
  bindM (geo_Block (x22.1, x22.2.1, x22.2.2) p1_seg x24) fun x25 =>
  bindM (allocM [(.int .i64 0), (.int .i64 0)]) fun x11 =>
  bindM (allocM [(.bool false)]) fun x12 =>
  bindM (stA x11 [(.int .i64 x25.1.1), (.int .i64 x25.1.2)]) fun _ =>
  bindM (st x12 (.bool x25.2)) fun _ =>
  bindM (ld Value.bool x12) fun x29 =>
  (if (!x29) = true then
  bindM (stA x8 [(.int .i64 0), (.int .i64 0), (.slice none 0 0)]) fun _ =>
    bindM (ldA (fun y : (Int × Int × Slc) => [(.int .i64 y.1), (.int .i64 y.2.1), (.slice y.2.2.base y.2.2.len y.2.2.cap)]) x8) fun r8 =>
    pureM ((r8.1, r8.2.1, r8.2.2), 28)
  else
  bindM (ld Value.pointer x4) fun x33 =>
    bindM (bank_Bank_Off x33) fun x34 =>
    (if (x34) = true then
    bindM (stA x8 [(.int .i64 0), (.int .i64 0), (.slice none 0 0)]) fun _ =>
      bindM (ldA (fun y : (Int × Int × Slc) => [(.int .i64 y.1), (.int .i64 y.2.1), (.slice y.2.2.base y.2.2.len y.2.2.cap)]) x8) fun r8 =>
      pureM ((r8.1, r8.2.1, r8.2.2), 12)
    else
    bindM (ld Value.pointer x4) fun x37 =>
      bindM (ldA (fun y : (Int × Int) => [(.int .i64 y.1), (.int .i64 y.2)]) x11) fun x38 =>
      bindM (ld (Value.int .i64) x7) fun x39 =>
      bindM (stripe_good x37 (x38.1, x38.2) x39) fun x40 =>
      bindM (allocM [(.slice none 0 0)]) fun x13 =>
      bindM (st x13 (.slice x40.1.base x40.1.len x40.1.cap)) fun _ =>
      bindM (st x12 (.bool x40.2)) fun _ =>
      bindM (ld Value.bool x12) fun x43 =>
      bindS ((if (!x43) = true then
        bindM (ldA (fun y : (Int × Int × Int) => [(.int .i64 y.1), (.int .i64 y.2.1), (.int .i64 y.2.2)]) x10) fun x45 =>
          bindM (stripe_rows (x45.1, x45.2.1, x45.2.2) p1_seg) fun x47 =>
          rangeFM cv x47 (fun x_2 : (Int × Slc) => #[(.int .i64 x_2.1), (.slice x_2.2.base x_2.2.len x_2.2.cap)])
            (fun x_2 => pureM (x_2.1, x_2.2))
            (fun (t_2 : (Int × Slc)) => bindM (ld (Value.int .i64) x6) fun x51 =>
              bindM (ld (Value.int .i64) x10) fun x53 =>
              assertM ((w64 (x53 - 1)) ≠ 0) <|
              (if (t_2.1 == (w64 (Int.tdiv x51 (w64 (x53 - 1))))) = true then
              bindM (ld Value.pointer x4) fun x58 =>
                bindM (ldA (fun y : (Int × Int) => [(.int .i64 y.1), (.int .i64 y.2)]) x11) fun x60 =>
                bindM (ld (Value.int .i64) x7) fun x61 =>
                bindM (stripe_others x58 t_2.2 (x60.1, x60.2) x61) fun x62 =>
                bindM (st x13 (.slice x62.1.base x62.1.len x62.1.cap)) fun _ =>
                bindM (st x12 (.bool x62.2)) fun _ =>
                pureM (.inl ())
              else
              pureM (.inl ())))
            (fun D2 => pureM (.inl ((D2 :: []))))
            (fun D2 => failM) (fun D2 i2 => failM)
        else
        pureM (.inl ([])))) fun (b1 : List Nat) =>
      bindM (ld Value.bool x12) fun x65 =>
      (if (!x65) = true then
      bindM (stA x8 [(.int .i64 0), (.int .i64 0), (.slice none 0 0)]) fun _ =>
        takesM b1 <|
        bindM (ldA (fun y : (Int × Int × Slc) => [(.int .i64 y.1), (.int .i64 y.2.1), (.slice y.2.2.base y.2.2.len y.2.2.cap)]) x8) fun r8 =>
        pureM ((r8.1, r8.2.1, r8.2.2), 14)
      else
      bindM (ld vS x13) fun x69 =>
        bindM (sector_Decode x69) fun x70 =>
        bindM (allocM [(.int .i64 0), (.int .i64 0), (.int .i64 0)]) fun x16 =>
        bindM (stA x16 [(.int .i64 x70.1.1), (.int .i64 x70.1.2.1), (.int .i64 x70.1.2.2)]) fun _ =>
        bindM (ld (Value.int .i64) (Addr.add x16 1)) fun x75 =>
        bindM (ld (Value.int .i64) (Addr.add x16 2)) fun x77 =>
        bindM (stA x8 [(.int .i64 x75), (.int .i64 x77), (.slice x70.2.1.base x70.2.1.len x70.2.1.cap)]) fun _ =>
        takesM b1 <|
        bindM (ldA (fun y : (Int × Int × Slc) => [(.int .i64 y.1), (.int .i64 y.2.1), (.slice y.2.2.base y.2.2.len y.2.2.cap)]) x8) fun r8 =>
        pureM ((r8.1, r8.2.1, r8.2.2), 0))))
def scan_look (cv : CV) (p0_b : (Option Addr)) (p1_seg : Int) : M ((Int × Int × Int × Int × Int × Int) × Bool) :=
  bindM (allocM [(.int .i64 0), (.int .i64 0), (.int .i64 0), (.int .i64 0), (.int .i64 0), (.int .i64 0)]) fun x4 =>
  bindM (stripe_Whole cv p0_b p1_seg) fun x15 =>
  (if (!x15.2.1) = true then
  bindM (stA x4 [(.int .i64 0), (.int .i64 0), (.int .i64 0), (.int .i64 0), (.int .i64 0), (.int .i64 0)]) fun _ =>
    bindM (ldA (fun y : (Int × Int × Int × Int × Int × Int) => [(.int .i64 y.1), (.int .i64 y.2.1), (.int .i64 y.2.2.1), (.int .i64 y.2.2.2.1), (.int .i64 y.2.2.2.2.1), (.int .i64 y.2.2.2.2.2)]) x4) fun r4 =>
    pureM ((r4.1, r4.2.1, r4.2.2.1, r4.2.2.2.1, r4.2.2.2.2.1, r4.2.2.2.2.2), false)
  else
  bindM (stripe_Read cv p0_b p1_seg 0 x15.1) fun x26 =>
    bindM (allocM [(.int .i64 0), (.int .i64 0), (.slice none 0 0)]) fun x9 =>
    bindM (stA x9 [(.int .i64 x26.1.1), (.int .i64 x26.1.2.1), (.slice x26.1.2.2.base x26.1.2.2.len x26.1.2.2.cap)]) fun _ =>
    regionM fun S1 =>
    bindM (ldAI S1 (fun y : (Int × Int × Slc) => [(.int .i64 y.1), (.int .i64 y.2.1), (.slice y.2.2.base y.2.2.len y.2.2.cap)]) x9) fun x32 =>
    (bothM
      (bindM (stepI S1 (bank_Bank_Geo p0_b)) fun x31 =>
        (bothM
          (bindM (stepI S1 (scan_GetSummary (x31.1, x31.2.1, x31.2.2) (x32.1, x32.2.1, x32.2.2))) fun x33 =>
            bindM (stepI S1 (allocM [(.int .i64 0), (.int .i64 0), (.int .i64 0), (.int .i64 0)])) fun x11 =>
            bindM (stA x11 [(.int .i64 x33.1.1), (.int .i64 x33.1.2.1), (.int .i64 x33.1.2.2.1), (.int .i64 x33.1.2.2.2)]) fun _ =>
            bindM (ldA (fun y : (Int × Int × Int × Int) => [(.int .i64 y.1), (.int .i64 y.2.1), (.int .i64 y.2.2.1), (.int .i64 y.2.2.2)]) x11) fun x38 =>
            bindM (if (x33.2) = true then
              pureM (x26.2 == 0)
            else
              pureM false) fun q2 =>
            bindM (stA x4 [(.int .i64 p1_seg), (.int .i64 x15.1), (.int .i64 x38.1), (.int .i64 x38.2.1), (.int .i64 x38.2.2.1), (.int .i64 x38.2.2.2)]) fun _ =>
            bindM (ldA (fun y : (Int × Int × Int × Int × Int × Int) => [(.int .i64 y.1), (.int .i64 y.2.1), (.int .i64 y.2.2.1), (.int .i64 y.2.2.2.1), (.int .i64 y.2.2.2.2.1), (.int .i64 y.2.2.2.2.2)]) x4) fun r4 =>
            pureM ((r4.1, r4.2.1, r4.2.2.1, r4.2.2.2.1, r4.2.2.2.2.1, r4.2.2.2.2.2), q2))
          (bindM (stepI S1 (allocM [(.int .i64 0), (.int .i64 0), (.int .i64 0), (.int .i64 0)])) fun x11 =>
            bindM (stepI S1 (scan_GetSummary (x31.1, x31.2.1, x31.2.2) (x32.1, x32.2.1, x32.2.2))) fun x33 =>
            bindM (stA x11 [(.int .i64 x33.1.1), (.int .i64 x33.1.2.1), (.int .i64 x33.1.2.2.1), (.int .i64 x33.1.2.2.2)]) fun _ =>
            bindM (ldA (fun y : (Int × Int × Int × Int) => [(.int .i64 y.1), (.int .i64 y.2.1), (.int .i64 y.2.2.1), (.int .i64 y.2.2.2)]) x11) fun x38 =>
            bindM (if (x33.2) = true then
              pureM (x26.2 == 0)
            else
              pureM false) fun q3 =>
            bindM (stA x4 [(.int .i64 p1_seg), (.int .i64 x15.1), (.int .i64 x38.1), (.int .i64 x38.2.1), (.int .i64 x38.2.2.1), (.int .i64 x38.2.2.2)]) fun _ =>
            bindM (ldA (fun y : (Int × Int × Int × Int × Int × Int) => [(.int .i64 y.1), (.int .i64 y.2.1), (.int .i64 y.2.2.1), (.int .i64 y.2.2.2.1), (.int .i64 y.2.2.2.2.1), (.int .i64 y.2.2.2.2.2)]) x4) fun r4 =>
            pureM ((r4.1, r4.2.1, r4.2.2.1, r4.2.2.2.1, r4.2.2.2.2.1, r4.2.2.2.2.2), q3))))
      (bindM (stepI S1 (allocM [(.int .i64 0), (.int .i64 0), (.int .i64 0), (.int .i64 0)])) fun x11 =>
        bindM (stepI S1 (bank_Bank_Geo p0_b)) fun x31 =>
        bindM (stepI S1 (scan_GetSummary (x31.1, x31.2.1, x31.2.2) (x32.1, x32.2.1, x32.2.2))) fun x33 =>
        bindM (stA x11 [(.int .i64 x33.1.1), (.int .i64 x33.1.2.1), (.int .i64 x33.1.2.2.1), (.int .i64 x33.1.2.2.2)]) fun _ =>
        bindM (ldA (fun y : (Int × Int × Int × Int) => [(.int .i64 y.1), (.int .i64 y.2.1), (.int .i64 y.2.2.1), (.int .i64 y.2.2.2)]) x11) fun x38 =>
        bindM (if (x33.2) = true then
          pureM (x26.2 == 0)
        else
          pureM false) fun q4 =>
        bindM (stA x4 [(.int .i64 p1_seg), (.int .i64 x15.1), (.int .i64 x38.1), (.int .i64 x38.2.1), (.int .i64 x38.2.2.1), (.int .i64 x38.2.2.2)]) fun _ =>
        bindM (ldA (fun y : (Int × Int × Int × Int × Int × Int) => [(.int .i64 y.1), (.int .i64 y.2.1), (.int .i64 y.2.2.1), (.int .i64 y.2.2.2.1), (.int .i64 y.2.2.2.2.1), (.int .i64 y.2.2.2.2.2)]) x4) fun r4 =>
        pureM ((r4.1, r4.2.1, r4.2.2.1, r4.2.2.2.1, r4.2.2.2.2.1, r4.2.2.2.2.2), q4))))
def scan_Look (cv : CV) (p0_b : (Option Addr)) : M (Slc × Int × Int) :=
  bindM (bank_Bank_Off p0_b) fun x11 =>
  (if (x11) = true then
  pureM (⟨none, 0, 0⟩, 0, 12)
  else
  bindM (bank_Bank_Geo p0_b) fun x13 =>
    loopM (fun (s1 : (Slc × Int × Int)) =>
    (if (decide (s1.2.2 < x13.2.2)) = true then
      bindM (scan_greatest cv p0_b s1.2.2) fun x21 =>
        bindM (scan_look cv p0_b s1.2.2) fun x26 =>
        bindM (allocM [(.int .i64 0), (.int .i64 0), (.int .i64 0), (.int .i64 0), (.int .i64 0), (.int .i64 0)]) fun x8 =>
        bindM (stA x8 [(.int .i64 x26.1.1), (.int .i64 x26.1.2.1), (.int .i64 x26.1.2.2.1), (.int .i64 x26.1.2.2.2.1), (.int .i64 x26.1.2.2.2.2.1), (.int .i64 x26.1.2.2.2.2.2)]) fun _ =>
        (if (x26.2) = true then
        bindM (ldA (fun y : (Int × Int × Int × Int × Int × Int) => [(.int .i64 y.1), (.int .i64 y.2.1), (.int .i64 y.2.2.1), (.int .i64 y.2.2.2.1), (.int .i64 y.2.2.2.2.1), (.int .i64 y.2.2.2.2.2)]) x8) fun x31 =>
          bindM (allocM [(.int .i64 x31.1), (.int .i64 x31.2.1), (.int .i64 x31.2.2.1), (.int .i64 x31.2.2.2.1), (.int .i64 x31.2.2.2.2.1), (.int .i64 x31.2.2.2.2.2)]) fun x32 =>
          bindM (appendM [(.int .i64 0), (.int .i64 0), (.int .i64 0), (.int .i64 0), (.int .i64 0), (.int .i64 0)] 48 s1.1 ⟨some x32, 1, 1⟩) fun x33 =>
          pureM (.inl (x33, maxI s1.2.1 x21, w64 (s1.2.2 + 1)))
        else
        pureM (.inl (s1.1, maxI s1.2.1 x21, w64 (s1.2.2 + 1))))
      else
      mapR (pureM (s1.1, s1.2.1, 0)))) (⟨none, 0, 0⟩, 0, 0))
def ref00_CopyBytes (p0_b : Slc) : M Slc :=
  bindM (allocM []) fun x4 =>
  bindM (appendM [(.int .u8 0)] 1 ⟨some x4, 0, 0⟩ p0_b) fun x7 =>
  pureM x7
def ref02_Rack_Read (p0_r : (Option Addr)) (p1_disk : Int) (p2_sector : Int) : M (Slc × Int) :=
  bindM (nilM p0_r) fun x10 =>
  bindM (ld Value.bool (Addr.add x10 7)) fun x12 =>
  (if (x12) = true then
  pureM (⟨none, 0, 0⟩, 12)
  else
  bindM (ref02_Rack_there p0_r p1_disk p2_sector) fun x16 =>
    (if (!x16) = true then
    pureM (⟨none, 0, 0⟩, 11)
    else
    bindM (nilM p0_r) fun x19 =>
      bindM (ld vS (Addr.add x19 4)) fun x21 =>
      bindM (idxM x21 p1_disk 1) fun x23 =>
      bindM (ld Value.bool x23) fun x24 =>
      (if (x24) = true then
      pureM (⟨none, 0, 0⟩, 13)
      else
      bindM (nilM p0_r) fun x27 =>
        bindM (ld (Value.int .i64) (Addr.add x27 1)) fun x29 =>
        bindM (nilM p0_r) fun x34 =>
        bindM (ld vS (Addr.add x34 3)) fun x36 =>
        bindM (idxM x36 (w64 ((w64 (p1_disk * x29)) + p2_sector)) 1) fun x38 =>
        bindM (ld vS x38) fun x39 =>
        (if (decide (((x39.len : Nat) : Int) > 0)) = true then
        bindM (nilM p0_r) fun x43 =>
          bindM (ld vS (Addr.add x43 3)) fun x45 =>
          bindM (idxM x45 (w64 ((w64 (p1_disk * x29)) + p2_sector)) 1) fun x47 =>
          bindM (ld vS x47) fun x48 =>
          bindM (ref00_CopyBytes x48) fun x49 =>
          pureM (x49, 0)
        else
        bindM (nilM p0_r) fun x51 =>
          bindM (ld vS (Addr.add x51 2)) fun x53 =>
          bindM (idxM x53 (w64 ((w64 (p1_disk * x29)) + p2_sector)) 1) fun x55 =>
          bindM (ld vS x55) fun x56 =>
          bindM (ref00_CopyBytes x56) fun x57 =>
          pureM (x57, 0)))))
def ref06_Bank_All (p0_b : (Option Addr)) (p1_sector : Int) : M Slc :=
  bindM (allocM []) fun x10 =>
  bindM (ref06_Bank_disks p0_b) fun x12 =>
  loopM (fun (s1 : (Slc × Int)) =>
  (if (decide (s1.2 < ((x12.len : Nat) : Int))) = true then
    regionM fun S2 =>
      bindM (nilM p0_b) fun x21 =>
      bindM (ldI S2 Value.pointer x21) fun x23 =>
      bindM (idxM x12 s1.2 1) fun x26 =>
      bindM (ldI S2 (Value.int .i64) x26) fun x27 =>
      bindM (ref02_Rack_Read x23 x27 p1_sector) fun x29 =>
      (if (x29.2 == 0) = true then
      bindM (allocM [(.slice x29.1.base x29.1.len x29.1.cap)]) fun x36 =>
        bindM (appendM [(.slice none 0 0)] 24 s1.1 ⟨some x36, 1, 1⟩) fun x37 =>
        pureM (.inl (x37, w64 (s1.2 + 1)))
      else
      pureM (.inl (s1.1, w64 (s1.2 + 1))))
    else
    mapR (pureM s1.1))) (⟨some x10, 0, 0⟩, 0)
def ref01_Get (p0_b : Slc) (p1_at : Int) (p2_width : Int) : M (Int × Bool) :=
  bindM (if (decide (p2_width < 1)) = true then
    pureM true
  else
    pureM (decide (p2_width > 4))) fun q1 =>
  bindM (if (q1) = true then
    pureM true
  else
    pureM (decide (p1_at < 0))) fun q2 =>
  bindM (if (q2) = true then
    pureM true
  else
    pureM (decide (p1_at > ((p0_b.len : Nat) : Int)))) fun q3 =>
  bindM (if (q3) = true then
    pureM true
  else
    pureM (decide ((w64 (((p0_b.len : Nat) : Int) - p1_at)) < p2_width))) fun q4 =>
  (if (q4) = true then
  pureM (0, false)
  else
  loopM (fun (s5 : (Int × Int)) =>
    (if (decide (s5.2 ≥ 0)) = true then
      bindM (idxM p0_b (w64 (p1_at + s5.2)) 1) fun x46 =>
        bindM (ld (Value.int .u8) x46) fun x47 =>
        pureM (.inl (w64 ((w64 (s5.1 * 256)) + (w64 x47)), w64 (s5.2 - 1)))
      else
      mapR (pureM (s5.1, true)))) (0, w64 (p2_width - 1)))
def ref04_Decode (p0_b : Slc) : M ((Int × Int × Int) × Slc × Bool) :=
  bindM (allocM [(.int .i64 0), (.int .i64 0), (.int .i64 0)]) fun x2 =>
  (if (((p0_b.len : Nat) : Int) != 64) = true then
  bindM (stA x2 [(.int .i64 0), (.int .i64 0), (.int .i64 0)]) fun _ =>
    bindM (ldA (fun y : (Int × Int × Int) => [(.int .i64 y.1), (.int .i64 y.2.1), (.int .i64 y.2.2)]) x2) fun r2 =>
    pureM ((r2.1, r2.2.1, r2.2.2), ⟨none, 0, 0⟩, false)
  else
  bindM (allocM [(.int .i64 0), (.int .i64 0), (.int .i64 0)]) fun x5 =>
    bindM (stA x5 [(.int .i64 0), (.int .i64 0), (.int .i64 0)]) fun _ =>
    bindM (ref01_Get p0_b 0 4) fun x13 =>
    bindM (st x5 (.int .i64 x13.1)) fun _ =>
    bindM (ref01_Get p0_b 4 2) fun x19 =>
    bindM (st (Addr.add x5 1) (.int .i64 x19.1)) fun _ =>
    bindM (ref01_Get p0_b 6 2) fun x25 =>
    bindM (st (Addr.add x5 2) (.int .i64 x25.1)) fun _ =>
    regionM fun S1 =>
    bindM (ldAI S1 (fun y : (Int × Int × Int) => [(.int .i64 y.1), (.int .i64 y.2.1), (.int .i64 y.2.2)]) x5) fun x29 =>
    bindM (sliceM p0_b (some 8) (none) 1) fun x31 =>
    bindM (stepI S1 (ref00_CopyBytes x31)) fun x32 =>
    bindM (stA x2 [(.int .i64 x29.1), (.int .i64 x29.2.1), (.int .i64 x29.2.2)]) fun _ =>
    bindM (ldA (fun y : (Int × Int × Int) => [(.int .i64 y.1), (.int .i64 y.2.1), (.int .i64 y.2.2)]) x2) fun r2 =>
    pureM ((r2.1, r2.2.1, r2.2.2), x32, true))
def ref02_Rack_Failed (p0_r : (Option Addr)) (p1_disk : Int) : M Bool :=
  bindM (if (decide (p1_disk ≥ 0)) = true then
    bindM (nilM p0_r) fun x10 =>
      bindM (ld (Value.int .i64) x10) fun x12 =>
      pureM (decide (p1_disk < x12))
  else
    pureM false) fun q1 =>
  bindM (if (q1) = true then
    bindM (nilM p0_r) fun x17 =>
      bindM (ld vS (Addr.add x17 4)) fun x19 =>
      bindM (idxM x19 p1_disk 1) fun x21 =>
      bindM (ld Value.bool x21) fun x22 =>
      pureM x22
  else
    pureM false) fun q2 =>
  pureM q2
def ref06_Bank_Bad (p0_b : (Option Addr)) : M Slc :=
  bindM (allocM []) fun x5 =>
  loopM (fun (s1 : (Slc × Int)) =>
  bindM (nilM p0_b) fun x8 =>
    bindM (ld (Value.int .i64) (Addr.add x8 1)) fun x11 =>
    (if (decide (s1.2 < x11)) = true then
    bindS (regionM fun S3 =>
        bindM (nilM p0_b) fun x16 =>
        bindM (ldI S3 Value.pointer x16) fun x18 =>
        bindM (stepI S3 (ref06_Bank_disk p0_b s1.2)) fun x21 =>
        bindM (stepI S3 (ref02_Rack_Failed x18 x21)) fun x22 =>
        (if (x22) = true then
          pureM (.inl true)
        else
          bindM (nilM p0_b) fun x25 =>
            bindM (ldI S3 (Value.int .i64) (Addr.add (Addr.add x25 4) 2)) fun x28 =>
            (if (x28 == 1) = true then
              bindM (nilM p0_b) fun x32 =>
                bindM (ldI S3 (Value.int .i64) (Addr.add (Addr.add x32 4) 1)) fun x35 =>
                pureM (.inl (x35 == s1.2))
            else
              pureM (.inl false)))) fun (b2 : (Bool)) =>
      (if (b2) = true then
      bindM (allocM [(.int .i64 s1.2)]) fun x42 =>
        bindM (appendM [(.int .i64 0)] 8 s1.1 ⟨some x42, 1, 1⟩) fun x43 =>
        pureM (.inl (x43, w64 (s1.2 + 1)))
      else
      pureM (.inl (s1.1, w64 (s1.2 + 1))))
    else
    mapR (pureM s1.1))) (⟨some x5, 0, 0⟩, 0)
def ref03_Parity (p0_g : (Int × Int × Int)) (p1_seg : Int) (p2_row : Int) : M ((Int × Int) × Bool) :=
  bindM (allocM [(.int .i64 p0_g.1), (.int .i64 p0_g.2.1), (.int .i64 p0_g.2.2)]) fun x3 =>
  bindM (allocM [(.int .i64 0), (.int .i64 0)]) fun x6 =>
  bindM (ldA (fun y : (Int × Int × Int) => [(.int .i64 y.1), (.int .i64 y.2.1), (.int .i64 y.2.2)]) x3) fun x10 =>
  bindM (ref03_Right (x10.1, x10.2.1, x10.2.2)) fun x11 =>
  bindM (if (!x11) = true then
    pureM true
  else
    pureM (decide (p1_seg < 0))) fun q1 =>
  bindM (if (q1) = true then
    pureM true
  else
    bindM (ld (Value.int .i64) (Addr.add x3 2)) fun x20 =>
      pureM (decide (p1_seg ≥ x20))) fun q2 =>
  bindM (if (q2) = true then
    pureM true
  else
    pureM (decide (p2_row < 0))) fun q3 =>
  bindM (if (q3) = true then
    pureM true
  else
    bindM (ld (Value.int .i64) (Addr.add x3 1)) fun x30 =>
      pureM (decide (p2_row ≥ x30))) fun q4 =>
  (if (q4) = true then
  bindM (stA x6 [(.int .i64 0), (.int .i64 0)]) fun _ =>
    bindM (ldA (fun y : (Int × Int) => [(.int .i64 y.1), (.int .i64 y.2)]) x6) fun r6 =>
    pureM ((r6.1, r6.2), false)
  else
  bindM (ld (Value.int .i64) x3) fun x35 =>
    loopM (fun (s5 : (Int × Int)) =>
    bindM (ld (Value.int .i64) (Addr.add x3 1)) fun x40 =>
      (if (decide (s5.2 < (w64 ((w64 (p1_seg * x40)) + p2_row)))) = true then
      (if (decide ((w64 (s5.1 - 1)) < 0)) = true then
        bindM (ld (Value.int .i64) x3) fun x52 =>
          pureM (.inl (w64 (x52 - 1), w64 (s5.2 + 1)))
        else
        pureM (.inl (w64 (s5.1 - 1), w64 (s5.2 + 1))))
      else
      mapR (bindM (ld (Value.int .i64) (Addr.add x3 1)) fun x57 =>
        bindM (stA x6 [(.int .i64 s5.1), (.int .i64 (w64 ((w64 (5 + (w64 (p1_seg * x57)))) + p2_row)))]) fun _ =>
        bindM (ldA (fun y : (Int × Int) => [(.int .i64 y.1), (.int .i64 y.2)]) x6) fun r6 =>
        pureM ((r6.1, r6.2), true)))) (w64 (x35 - 1), 0))
def ref03_Places (p0_g : (Int × Int × Int)) : M Int :=
  bindM (allocM [(.int .i64 p0_g.1), (.int .i64 p0_g.2.1), (.int .i64 p0_g.2.2)]) fun x1 =>
  bindM (ldA (fun y : (Int × Int × Int) => [(.int .i64 y.1), (.int .i64 y.2.1), (.int .i64 y.2.2)]) x1) fun x3 =>
  bindM (ref03_Right (x3.1, x3.2.1, x3.2.2)) fun x4 =>
  (if (!x4) = true then
  pureM 0
  else
  bindM (ld (Value.int .i64) (Addr.add x1 1)) fun x7 =>
    bindM (ld (Value.int .i64) x1) fun x9 =>
    pureM (w64 ((w64 (x7 * (w64 (x9 - 1)))) - 1)))
def ref03_Block (p0_g : (Int × Int × Int)) (p1_seg : Int) (p2_k : Int) : M ((Int × Int) × Bool) :=
  bindM (allocM [(.int .i64 p0_g.1), (.int .i64 p0_g.2.1), (.int .i64 p0_g.2.2)]) fun x3 =>
  bindM (allocM [(.int .i64 0), (.int .i64 0)]) fun x6 =>
  bindM (ldA (fun y : (Int × Int × Int) => [(.int .i64 y.1), (.int .i64 y.2.1), (.int .i64 y.2.2)]) x3) fun x12 =>
  bindM (ref03_Right (x12.1, x12.2.1, x12.2.2)) fun x13 =>
  bindM (if (!x13) = true then
    pureM true
  else
    pureM (decide (p2_k < 0))) fun q1 =>
  bindM (if (q1) = true then
    pureM true
  else
    bindM (ldA (fun y : (Int × Int × Int) => [(.int .i64 y.1), (.int .i64 y.2.1), (.int .i64 y.2.2)]) x3) fun x21 =>
      bindM (ref03_Places (x21.1, x21.2.1, x21.2.2)) fun x22 =>
      pureM (decide (p2_k > x22))) fun q2 =>
  (if (q2) = true then
  bindM (stA x6 [(.int .i64 0), (.int .i64 0)]) fun _ =>
    bindM (ldA (fun y : (Int × Int) => [(.int .i64 y.1), (.int .i64 y.2)]) x6) fun r6 =>
    pureM ((r6.1, r6.2), false)
  else
  loopM (fun (s3 : (Int × Int)) =>
    bindM (ld (Value.int .i64) x3) fun x28 =>
      (if (decide (s3.1 ≥ (w64 (x28 - 1)))) = true then
      bindM (ld (Value.int .i64) x3) fun x33 =>
        pureM (.inl (w64 (s3.1 - (w64 (x33 - 1))), w64 (s3.2 + 1)))
      else
      mapR (bindM (ldA (fun y : (Int × Int × Int) => [(.int .i64 y.1), (.int .i64 y.2.1), (.int .i64 y.2.2)]) x3) fun x39 =>
        bindM (ref03_Parity (x39.1, x39.2.1, x39.2.2) p1_seg s3.2) fun x42 =>
        bindM (allocM [(.int .i64 0), (.int .i64 0)]) fun x9 =>
        bindM (stA x9 [(.int .i64 x42.1.1), (.int .i64 x42.1.2)]) fun _ =>
        (if (!x42.2) = true then
        bindM (stA x6 [(.int .i64 0), (.int .i64 0)]) fun _ =>
          bindM (ldA (fun y : (Int × Int) => [(.int .i64 y.1), (.int .i64 y.2)]) x6) fun r6 =>
          pureM ((r6.1, r6.2), false)
        else
        loopM (fun (s4 : (Int)) =>
          (if (decide (s4 ≤ s3.1)) = true then
            bindM (ld (Value.int .i64) x9) fun x54 =>
              bindM (st x9 (.int .i64 (w64 (x54 + 1)))) fun _ =>
              bindM (ld (Value.int .i64) x9) fun x58 =>
              bindM (ld (Value.int .i64) x3) fun x60 =>
              (if (x58 == x60) = true then
              bindM (st x9 (.int .i64 0)) fun _ =>
                pureM (.inl (w64 (s4 + 1)))
              else
              pureM (.inl (w64 (s4 + 1))))
            else
            mapR (bindM (ldA (fun y : (Int × Int) => [(.int .i64 y.1), (.int .i64 y.2)]) x9) fun x63 =>
              bindM (stA x6 [(.int .i64 x63.1), (.int .i64 x63.2)]) fun _ =>
              bindM (ldA (fun y : (Int × Int) => [(.int .i64 y.1), (.int .i64 y.2)]) x6) fun r6 =>
              pureM ((r6.1, r6.2), true)))) 0)))) (p2_k, 0))
def ref07_spot (p0_g : (Int × Int × Int)) (p1_seg : Int) (p2_i : Int) : M (Int × Int) :=
  bindM (allocM [(.int .i64 p0_g.1), (.int .i64 p0_g.2.1), (.int .i64 p0_g.2.2)]) fun x3 =>
  bindM (allocM [(.int .i64 0), (.int .i64 0)]) fun x6 =>
  bindM (ld (Value.int .i64) x3) fun x14 =>
  assertM (x14 ≠ 0) <|
  regionM fun S1 =>
  bindM (ldI S1 (Value.int .i64) x3) fun x18 =>
  assertM (x18 ≠ 0) <|
  bindM (ldI S1 (Value.int .i64) x3) fun x21 =>
  (if ((Int.tmod p2_i x18) == (w64 (x21 - 1))) = true then
  bindM (ldA (fun y : (Int × Int × Int) => [(.int .i64 y.1), (.int .i64 y.2.1), (.int .i64 y.2.2)]) x3) fun x25 =>
    bindM (ref03_Parity (x25.1, x25.2.1, x25.2.2) p1_seg (w64 (Int.tdiv p2_i x14))) fun x28 =>
    bindM (allocM [(.int .i64 0), (.int .i64 0)]) fun x8 =>
    bindM (stA x8 [(.int .i64 x28.1.1), (.int .i64 x28.1.2)]) fun _ =>
    bindM (ldA (fun y : (Int × Int) => [(.int .i64 y.1), (.int .i64 y.2)]) x8) fun x31 =>
    bindM (stA x6 [(.int .i64 x31.1), (.int .i64 x31.2)]) fun _ =>
    bindM (ldA (fun y : (Int × Int) => [(.int .i64 y.1), (.int .i64 y.2)]) x6) fun r6 =>
    pureM (r6.1, r6.2)
  else
  regionM fun S2 =>
    bindM (ldAI S2 (fun y : (Int × Int × Int) => [(.int .i64 y.1), (.int .i64 y.2.1), (.int .i64 y.2.2)]) x3) fun x33 =>
    bindM (ldI S2 (Value.int .i64) x3) fun x37 =>
    bindM (ldI S2 (Value.int .i64) x3) fun x42 =>
    assertM (x42 ≠ 0) <|
    (bothM
      (bindM (stepI S2 (ref03_Block (x33.1, x33.2.1, x33.2.2) p1_seg (w64 ((w64 ((w64 (Int.tdiv p2_i x14)) * (w64 (x37 - 1)))) + (Int.tmod p2_i x42))))) fun x45 =>
        bindM (stepI S2 (allocM [(.int .i64 0), (.int .i64 0)])) fun x10 =>
        bindM (stA x10 [(.int .i64 x45.1.1), (.int .i64 x45.1.2)]) fun _ =>
        bindM (ldA (fun y : (Int × Int) => [(.int .i64 y.1), (.int .i64 y.2)]) x10) fun x48 =>
        bindM (stA x6 [(.int .i64 x48.1), (.int .i64 x48.2)]) fun _ =>
        bindM (ldA (fun y : (Int × Int) => [(.int .i64 y.1), (.int .i64 y.2)]) x6) fun r6 =>
        pureM (r6.1, r6.2))
      (bindM (stepI S2 (allocM [(.int .i64 0), (.int .i64 0)])) fun x10 =>
        bindM (stepI S2 (ref03_Block (x33.1, x33.2.1, x33.2.2) p1_seg (w64 ((w64 ((w64 (Int.tdiv p2_i x14)) * (w64 (x37 - 1)))) + (Int.tmod p2_i x42))))) fun x45 =>
        bindM (stA x10 [(.int .i64 x45.1.1), (.int .i64 x45.1.2)]) fun _ =>
        bindM (ldA (fun y : (Int × Int) => [(.int .i64 y.1), (.int .i64 y.2)]) x10) fun x48 =>
        bindM (stA x6 [(.int .i64 x48.1), (.int .i64 x48.2)]) fun _ =>
        bindM (ldA (fun y : (Int × Int) => [(.int .i64 y.1), (.int .i64 y.2)]) x6) fun r6 =>
        pureM (r6.1, r6.2))))
def ref06_Bank_Read (p0_b : (Option Addr)) (p1_slot : Int) (p2_sector : Int) : M (Slc × Int) :=
  bindM (if (decide (p1_slot < 0)) = true then
    pureM true
  else
    bindM (nilM p0_b) fun x13 =>
      bindM (ld (Value.int .i64) (Addr.add x13 1)) fun x16 =>
      pureM (decide (p1_slot ≥ x16))) fun q1 =>
  (if (q1) = true then
  pureM (⟨none, 0, 0⟩, 11)
  else
  regionM fun S2 =>
    bindM (nilM p0_b) fun x20 =>
    bindM (ldI S2 Value.pointer x20) fun x22 =>
    bindM (stepI S2 (ref06_Bank_disk p0_b p1_slot)) fun x25 =>
    bindM (ref02_Rack_Read x22 x25 p2_sector) fun x27 =>
    pureM (x27.1, x27.2))
def ref07_Whole (p0_b : (Option Addr)) (p1_seg : Int) : M (Int × Bool × Int) :=
  bindM (if (decide (p1_seg < 0)) = true then
    pureM true
  else
    bindM (nilM p0_b) fun x21 =>
      bindM (ld (Value.int .i64) (Addr.add (Addr.add x21 1) 2)) fun x24 =>
      pureM (decide (p1_seg ≥ x24))) fun q1 =>
  (if (q1) = true then
  pureM (0, false, 28)
  else
  bindM (nilM p0_b) fun x28 =>
    bindM (ld Value.pointer x28) fun x30 =>
    bindM (nilM x30) fun x31 =>
    bindM (ld Value.bool (Addr.add x31 7)) fun x33 =>
    (if (x33) = true then
    pureM (0, false, 12)
    else
    bindM (ref06_Bank_Bad p0_b) fun x35 =>
      loopM (fun (s2 : (Int × Int)) =>
      regionM fun S3 =>
        bindM (nilM p0_b) fun x38 =>
        bindM (ldI S3 (Value.int .i64) (Addr.add (Addr.add x38 1) 1)) fun x41 =>
        bindM (nilM p0_b) fun x43 =>
        bindM (ldI S3 (Value.int .i64) (Addr.add x43 1)) fun x46 =>
        (if (decide (s2.2 < (w64 (x41 * x46)))) = true then
        bindM (nilM p0_b) fun x52 =>
          bindM (ldA (fun y : (Int × Int × Int) => [(.int .i64 y.1), (.int .i64 y.2.1), (.int .i64 y.2.2)]) (Addr.add x52 1)) fun x54 =>
          bindM (ref07_spot (x54.1, x54.2.1, x54.2.2) p1_seg s2.2) fun x57 =>
          bindM (allocM [(.int .i64 0), (.int .i64 0)]) fun x10 =>
          bindM (stA x10 [(.int .i64 x57.1), (.int .i64 x57.2)]) fun _ =>
          bindS (regionM fun S7 =>
            (if (decide (((x35.len : Nat) : Int) > 0)) = true then
              bindM (idxM x35 0 1) fun x63 =>
                bindM (ldI S7 (Value.int .i64) x63) fun x64 =>
                bindM (ldI S7 (Value.int .i64) x10) fun x66 =>
                pureM (.inl (x64 == x66))
            else
              pureM (.inl false))) fun (b4 : (Bool)) =>
          (if (b4) = true then
          pureM (.inl (s2.1, w64 (s2.2 + 1)))
          else
          bindM (ld (Value.int .i64) x10) fun x72 =>
            bindM (ld (Value.int .i64) (Addr.add x10 1)) fun x74 =>
            bindM (ref06_Bank_Read p0_b x72 x74) fun x75 =>
            bindM (ref04_Decode x75.1) fun x80 =>
            bindM (allocM [(.int .i64 0), (.int .i64 0), (.int .i64 0)]) fun x13 =>
            bindM (stA x13 [(.int .i64 x80.1.1), (.int .i64 x80.1.2.1), (.int .i64 x80.1.2.2)]) fun _ =>
            bindM (if (x75.2 != 0) = true then
              pureM true
            else
              bindM (if (decide (s2.1 ≥ 0)) = true then
                  bindM (ld (Value.int .i64) x13) fun x91 =>
                    pureM (x91 != s2.1)
                else
                  pureM false) fun q6 =>
                pureM q6) fun q5 =>
            (if (q5) = true then
            mapR (pureM (0, false, 0))
            else
            bindM (ld (Value.int .i64) x13) fun x97 =>
              pureM (.inl (x97, w64 (s2.2 + 1)))))
        else
        mapR (bindM (if (decide (((x35.len : Nat) : Int) > 1)) = true then
            pureM true
          else
            pureM (decide (s2.1 < 1))) fun q8 =>
          (if (q8) = true then
          pureM (0, false, 0)
          else
          pureM (s2.1, true, 0))))) ((-1), 0)))
def ref07_good (p0_b : (Option Addr)) (p1_s : (Int × Int)) (p2_seq : Int) : M (Slc × Bool) :=
  bindM (allocM [(.int .i64 p1_s.1), (.int .i64 p1_s.2)]) fun x4 =>
  bindM (ld (Value.int .i64) x4) fun x16 =>
  bindM (ld (Value.int .i64) (Addr.add x4 1)) fun x18 =>
  bindM (ref06_Bank_Read p0_b x16 x18) fun x19 =>
  (if (x19.2 != 0) = true then
  pureM (⟨none, 0, 0⟩, false)
  else
  bindM (ref04_Decode x19.1) fun x26 =>
    bindM (allocM [(.int .i64 0), (.int .i64 0), (.int .i64 0)]) fun x10 =>
    bindM (stA x10 [(.int .i64 x26.1.1), (.int .i64 x26.1.2.1), (.int .i64 x26.1.2.2)]) fun _ =>
    regionM fun S1 =>
    bindM (ldI S1 (Value.int .i64) x10) fun x32 =>
    pureM (x19.1, x32 == p2_seq))
def ref00_SameBytes (p0_a : Slc) (p1_b : Slc) : M Bool :=
  (if (((p0_a.len : Nat) : Int) != ((p1_b.len : Nat) : Int)) = true then
  pureM false
  else
  loopM (fun (s1 : (Int)) =>
    (if (decide (s1 < ((p0_a.len : Nat) : Int))) = true then
      regionM fun S2 =>
        bindM (idxM p0_a s1 1) fun x19 =>
        bindM (ldI S2 (Value.int .u8) x19) fun x20 =>
        bindM (idxM p1_b s1 1) fun x23 =>
        bindM (ldI S2 (Value.int .u8) x23) fun x24 =>
        (if (x20 != x24) = true then
        mapR (pureM false)
        else
        pureM (.inl (w64 (s1 + 1))))
      else
      mapR (pureM true))) 0)
def ref04_Parity (p0_list : Slc) : M (Slc × Bool) :=
  bindM (if (((p0_list.len : Nat) : Int) == 0) = true then
    pureM true
  else
    bindM (idxM p0_list 0 1) fun x12 =>
      bindM (ld vS x12) fun x13 =>
      pureM (((x13.len : Nat) : Int) != 64)) fun q1 =>
  (if (q1) = true then
  pureM (⟨none, 0, 0⟩, false)
  else
  bindM (allocM (List.replicate 64 (.int .u8 0))) fun x17 =>
    bindM (idxM p0_list 0 1) fun x20 =>
    bindM (ld vS x20) fun x21 =>
    bindM (sliceM x21 (none) (some 4) 1) fun x22 =>
    bindM (copyM 1 ⟨some x17, 64, 64⟩ x22) fun x23 =>
    loopM (fun (s2 : (Int)) =>
    (if (decide (s2 < ((p0_list.len : Nat) : Int))) = true then
      bindS (regionM fun S6 =>
          bindM (idxM p0_list s2 1) fun x32 =>
          bindM (ldI S6 vS x32) fun x33 =>
          (if (((x33.len : Nat) : Int) != 64) = true then
            pureM (.inl true)
          else
            bindM (idxM p0_list s2 1) fun x39 =>
              bindM (ldI S6 vS x39) fun x40 =>
              bindM (sliceM x40 (none) (some 4) 1) fun x41 =>
              bindM (sliceM ⟨some x17, 64, 64⟩ (none) (some 4) 1) fun x43 =>
              bindM (stepI S6 (ref00_SameBytes x41 x43)) fun x44 =>
              pureM (.inl (!x44)))) fun (b3 : (Bool)) =>
        (if (b3) = true then
        mapR (pureM (⟨none, 0, 0⟩, false))
        else
        loopM (fun (s4 : (Int)) =>
          (if (decide (s4 < 64)) = true then
            regionM fun S5 =>
              bindM (idxM ⟨some x17, 64, 64⟩ s4 1) fun x53 =>
              bindM (ldI S5 (Value.int .u8) x53) fun x54 =>
              bindM (idxM p0_list s2 1) fun x57 =>
              bindM (ldI S5 vS x57) fun x58 =>
              bindM (idxM x58 s4 1) fun x60 =>
              bindM (ldI S5 (Value.int .u8) x60) fun x61 =>
              bindM (idxM ⟨some x17, 64, 64⟩ s4 1) fun x63 =>
              bindM (st x63 (.int .u8 (bXor .u8 x54 x61))) fun _ =>
              pureM (.inl (w64 (s4 + 1)))
            else
            mapR (pureM (.inl (w64 (s2 + 1)))))) 4)
      else
      mapR (pureM (⟨some x17, 64, 64⟩, true)))) 0)
def ref07_others (p0_b : (Option Addr)) (p1_seg : Int) (p2_row : Int) (p3_lost : (Int × Int)) (p4_seq : Int) : M (Slc × Bool) :=
  bindM (allocM [(.int .i64 p3_lost.1), (.int .i64 p3_lost.2)]) fun x8 =>
  bindM (allocM []) fun x17 =>
  bindM (nilM p0_b) fun x20 =>
  bindM (ld (Value.int .i64) (Addr.add x20 1)) fun x23 =>
  loopM (fun (s1 : (Slc × Int)) =>
  bindM (nilM p0_b) fun x29 =>
    bindM (ld (Value.int .i64) (Addr.add x29 1)) fun x32 =>
    (if (decide (s1.2 < (w64 ((w64 (p2_row + 1)) * x32)))) = true then
    bindM (nilM p0_b) fun x38 =>
      bindM (ldA (fun y : (Int × Int × Int) => [(.int .i64 y.1), (.int .i64 y.2.1), (.int .i64 y.2.2)]) (Addr.add x38 1)) fun x40 =>
      bindM (ref07_spot (x40.1, x40.2.1, x40.2.2) p1_seg s1.2) fun x43 =>
      bindM (allocM [(.int .i64 0), (.int .i64 0)]) fun x14 =>
      bindM (stA x14 [(.int .i64 x43.1), (.int .i64 x43.2)]) fun _ =>
      bindM (ldA (fun y : (Int × Int) => [(.int .i64 y.1), (.int .i64 y.2)]) x14) fun x44 =>
      bindM (ldA (fun y : (Int × Int) => [(.int .i64 y.1), (.int .i64 y.2)]) x8) fun x45 =>
      (if (eq2 (x44.1, x44.2) (x45.1, x45.2)) = true then
      pureM (.inl (s1.1, w64 (s1.2 + 1)))
      else
      bindM (ldA (fun y : (Int × Int) => [(.int .i64 y.1), (.int .i64 y.2)]) x14) fun x49 =>
        bindM (ref07_good p0_b (x49.1, x49.2) p4_seq) fun x51 =>
        (if (!x51.2) = true then
        mapR (pureM (⟨none, 0, 0⟩, false))
        else
        bindM (allocM [(.slice x51.1.base x51.1.len x51.1.cap)]) fun x58 =>
          bindM (appendM [(.slice none 0 0)] 24 s1.1 ⟨some x58, 1, 1⟩) fun x59 =>
          pureM (.inl (x59, w64 (s1.2 + 1)))))
    else
    mapR (bindM (ref04_Parity s1.1) fun x61 =>
      pureM (x61.1, x61.2)))) (⟨some x17, 0, 0⟩, w64 (p2_row * x23))
def ref07_Read (p0_b : (Option Addr)) (p1_seg : Int) (p2_k : Int) (p3_seq : Int) : M ((Int × Int × Slc) × Int) :=
  bindM (allocM [(.int .i64 0), (.int .i64 0), (.slice none 0 0)]) fun x8 =>
  bindM (nilM p0_b) fun x18 =>
  bindM (ldA (fun y : (Int × Int × Int) => [(.int .i64 y.1), (.int .i64 y.2.1), (.int .i64 y.2.2)]) (Addr.add x18 1)) fun x20 =>
  bindM (ref03_Block (x20.1, x20.2.1, x20.2.2) p1_seg p2_k) fun x23 =>
  bindM (allocM [(.int .i64 0), (.int .i64 0)]) fun x10 =>
  bindM (stA x10 [(.int .i64 x23.1.1), (.int .i64 x23.1.2)]) fun _ =>
  (if (!x23.2) = true then
  bindM (stA x8 [(.int .i64 0), (.int .i64 0), (.slice none 0 0)]) fun _ =>
    bindM (ldA (fun y : (Int × Int × Slc) => [(.int .i64 y.1), (.int .i64 y.2.1), (.slice y.2.2.base y.2.2.len y.2.2.cap)]) x8) fun r8 =>
    pureM ((r8.1, r8.2.1, r8.2.2), 28)
  else
  bindM (nilM p0_b) fun x30 =>
    bindM (ld Value.pointer x30) fun x32 =>
    bindM (nilM x32) fun x33 =>
    bindM (ld Value.bool (Addr.add x33 7)) fun x35 =>
    (if (x35) = true then
    bindM (stA x8 [(.int .i64 0), (.int .i64 0), (.slice none 0 0)]) fun _ =>
      bindM (ldA (fun y : (Int × Int × Slc) => [(.int .i64 y.1), (.int .i64 y.2.1), (.slice y.2.2.base y.2.2.len y.2.2.cap)]) x8) fun r8 =>
      pureM ((r8.1, r8.2.1, r8.2.2), 12)
    else
    bindM (ldA (fun y : (Int × Int) => [(.int .i64 y.1), (.int .i64 y.2)]) x10) fun x39 =>
      bindM (ref07_good p0_b (x39.1, x39.2) p3_seq) fun x41 =>
      bindS ((if (!x41.2) = true then
        regionM fun S2 =>
          bindM (nilM p0_b) fun x51 =>
          bindM (ldI S2 (Value.int .i64) (Addr.add x51 1)) fun x54 =>
          assertM ((w64 (x54 - 1)) ≠ 0) <|
          bindM (ldAI S2 (fun y : (Int × Int) => [(.int .i64 y.1), (.int .i64 y.2)]) x10) fun x57 =>
          bindM (stepI S2 (ref07_others p0_b p1_seg (w64 (Int.tdiv p2_k (w64 (x54 - 1)))) (x57.1, x57.2) p3_seq)) fun x59 =>
          pureM (.inl (x59.2, x59.1))
        else
        pureM (.inl (x41.2, x41.1)))) fun (b1 : (Bool × Slc)) =>
      (if (!b1.1) = true then
      bindM (stA x8 [(.int .i64 0), (.int .i64 0), (.slice none 0 0)]) fun _ =>
        bindM (ldA (fun y : (Int × Int × Slc) => [(.int .i64 y.1), (.int .i64 y.2.1), (.slice y.2.2.base y.2.2.len y.2.2.cap)]) x8) fun r8 =>
        pureM ((r8.1, r8.2.1, r8.2.2), 14)
      else
      bindM (ref04_Decode b1.2) fun x67 =>
        bindM (allocM [(.int .i64 0), (.int .i64 0), (.int .i64 0)]) fun x13 =>
        bindM (stA x13 [(.int .i64 x67.1.1), (.int .i64 x67.1.2.1), (.int .i64 x67.1.2.2)]) fun _ =>
        bindM (ld (Value.int .i64) (Addr.add x13 1)) fun x72 =>
        bindM (ld (Value.int .i64) (Addr.add x13 2)) fun x74 =>
        bindM (stA x8 [(.int .i64 x72), (.int .i64 x74), (.slice x67.2.1.base x67.2.1.len x67.2.1.cap)]) fun _ =>
        bindM (ldA (fun y : (Int × Int × Slc) => [(.int .i64 y.1), (.int .i64 y.2.1), (.slice y.2.2.base y.2.2.len y.2.2.cap)]) x8) fun r8 =>
        pureM ((r8.1, r8.2.1, r8.2.2), 0))))
def ref01_Nought (p0_b : Slc) : M Bool :=
  loopM (fun (s1 : (Int)) =>
  (if (decide (s1 < ((p0_b.len : Nat) : Int))) = true then
    bindM (idxM p0_b s1 1) fun x12 =>
      bindM (ld (Value.int .u8) x12) fun x13 =>
      (if (x13 != 0) = true then
      mapR (pureM false)
      else
      pureM (.inl (w64 (s1 + 1))))
    else
    mapR (pureM true))) 0
def ref08_Right (p0_g : (Int × Int × Int)) (p1_s : (Int × Int × Int × Int)) : M Bool :=
  bindM (allocM [(.int .i64 p0_g.1), (.int .i64 p0_g.2.1), (.int .i64 p0_g.2.2)]) fun x2 =>
  bindM (allocM [(.int .i64 p1_s.1), (.int .i64 p1_s.2.1), (.int .i64 p1_s.2.2.1), (.int .i64 p1_s.2.2.2)]) fun x3 =>
  bindS (regionM fun S3 =>
    bindM (ldAI S3 (fun y : (Int × Int × Int) => [(.int .i64 y.1), (.int .i64 y.2.1), (.int .i64 y.2.2)]) x2) fun x5 =>
    bindM (stepI S3 (ref03_Right (x5.1, x5.2.1, x5.2.2))) fun x6 =>
    (if (!x6) = true then
      pureM (.inl true)
    else
      bindM (ldI S3 (Value.int .i64) x3) fun x10 =>
        (if (decide (x10 < 1)) = true then
          pureM (.inl true)
        else
          bindM (ldI S3 (Value.int .i64) x3) fun x15 =>
            bindM (ldI S3 (Value.int .i64) (Addr.add x2 2)) fun x17 =>
            (if (decide (x15 > x17)) = true then
              pureM (.inl true)
            else
              bindM (ldI S3 (Value.int .i64) (Addr.add x3 1)) fun x22 =>
                (if (decide (x22 < 0)) = true then
                  pureM (.inl true)
                else
                  bindM (ldI S3 (Value.int .i64) (Addr.add x3 1)) fun x27 =>
                    bindM (ldI S3 (Value.int .i64) x3) fun x29 =>
                    (if (decide (x27 ≥ x29)) = true then
                      pureM (.inl true)
                    else
                      bindM (ldI S3 (Value.int .i64) (Addr.add x3 2)) fun x34 =>
                        (if (decide (x34 < 0)) = true then
                          pureM (.inl true)
                        else
                          bindM (ldI S3 (Value.int .i64) (Addr.add x3 2)) fun x39 =>
                            bindM (ldAI S3 (fun y : (Int × Int × Int) => [(.int .i64 y.1), (.int .i64 y.2.1), (.int .i64 y.2.2)]) x2) fun x40 =>
                            bindM (stepI S3 (ref03_Places (x40.1, x40.2.1, x40.2.2))) fun x41 =>
                            pureM (.inl (decide (x39 > x41)))))))))) fun (b1 : (Bool)) =>
  (if (b1) = true then
  pureM false
  else
  bindM (ld (Value.int .i64) (Addr.add x3 1)) fun x45 =>
    bindM (ld (Value.int .i64) x3) fun x47 =>
    (if (decide (x45 < (w64 (x47 - 1)))) = true then
    bindM (ld (Value.int .i64) (Addr.add x3 3)) fun x51 =>
      pureM (x51 == 0)
    else
    regionM fun S2 =>
      bindM (ldI S2 (Value.int .i64) (Addr.add x3 3)) fun x54 =>
      (if (decide (x54 ≥ 1)) = true then
        bindM (ldI S2 (Value.int .i64) (Addr.add x3 3)) fun x58 =>
          bindM (ldI S2 (Value.int .i64) (Addr.add x2 2)) fun x60 =>
          bindM (ldAI S2 (fun y : (Int × Int × Int) => [(.int .i64 y.1), (.int .i64 y.2.1), (.int .i64 y.2.2)]) x2) fun x61 =>
          bindM (stepI S2 (ref03_Places (x61.1, x61.2.1, x61.2.2))) fun x62 =>
          pureM (decide (x58 ≤ (w64 (x60 * x62))))
      else
        pureM false)))
def ref08_GetSummary (p0_g : (Int × Int × Int)) (p1_b : (Int × Int × Slc)) : M ((Int × Int × Int × Int) × Bool) :=
  bindM (allocM [(.int .i64 p0_g.1), (.int .i64 p0_g.2.1), (.int .i64 p0_g.2.2)]) fun x2 =>
  bindM (allocM [(.int .i64 p1_b.1), (.int .i64 p1_b.2.1), (.slice p1_b.2.2.base p1_b.2.2.len p1_b.2.2.cap)]) fun x3 =>
  bindM (allocM [(.int .i64 0), (.int .i64 0), (.int .i64 0), (.int .i64 0)]) fun x4 =>
  bindM (ld (Value.int .i64) x3) fun x10 =>
  bindM (if (x10 != 65535) = true then
    pureM true
  else
    bindM (ld (Value.int .i64) (Addr.add x3 1)) fun x14 =>
      pureM (x14 != 0)) fun q1 =>
  bindM (if (q1) = true then
    pureM true
  else
    bindM (ld vS (Addr.add x3 2)) fun x19 =>
      pureM (((x19.len : Nat) : Int) != 56)) fun q2 =>
  bindM (if (q2) = true then
    pureM true
  else
    bindM (ld vS (Addr.add x3 2)) fun x25 =>
      bindM (sliceM x25 (some 10) (none) 1) fun x26 =>
      bindM (ref01_Nought x26) fun x27 =>
      pureM (!x27)) fun q3 =>
  (if (q3) = true then
  bindM (stA x4 [(.int .i64 0), (.int .i64 0), (.int .i64 0), (.int .i64 0)]) fun _ =>
    bindM (ldA (fun y : (Int × Int × Int × Int) => [(.int .i64 y.1), (.int .i64 y.2.1), (.int .i64 y.2.2.1), (.int .i64 y.2.2.2)]) x4) fun r4 =>
    pureM ((r4.1, r4.2.1, r4.2.2.1, r4.2.2.2), false)
  else
  bindM (allocM [(.int .i64 0), (.int .i64 0), (.int .i64 0), (.int .i64 0), (.int .i64 0)]) fun x6 =>
    bindM (stA x6 [(.int .i64 0), (.int .i64 0), (.int .i64 0), (.int .i64 0), (.int .i64 0)]) fun _ =>
    loopM (fun (s4 : (Int)) =>
    (if (decide (s4 < 5)) = true then
      bindM (ld vS (Addr.add x3 2)) fun x39 =>
        bindM (ref01_Get x39 (w64 (2 * s4)) 2) fun x42 =>
        bindM (idxA x6 5 s4 1) fun x45 =>
        bindM (st x45 (.int .i64 x42.1)) fun _ =>
        pureM (.inl (w64 (s4 + 1)))
      else
      mapR (bindM (ld (Value.int .i64) (Addr.add x6 1)) fun x47 =>
        bindM (ld (Value.int .i64) (Addr.add x6 2)) fun x49 =>
        bindM (ld (Value.int .i64) (Addr.add x6 3)) fun x51 =>
        bindM (ld (Value.int .i64) (Addr.add x6 4)) fun x53 =>
        bindM (allocM [(.int .i64 0), (.int .i64 0), (.int .i64 0), (.int .i64 0)]) fun x8 =>
        bindM (stA x8 [(.int .i64 x47), (.int .i64 x49), (.int .i64 x51), (.int .i64 x53)]) fun _ =>
        bindM (ld (Value.int .i64) x6) fun x56 =>
        bindM (if (x56 != 21331) = true then
          pureM true
        else
          bindM (ldA (fun y : (Int × Int × Int) => [(.int .i64 y.1), (.int .i64 y.2.1), (.int .i64 y.2.2)]) x2) fun x59 =>
            bindM (ldA (fun y : (Int × Int × Int × Int) => [(.int .i64 y.1), (.int .i64 y.2.1), (.int .i64 y.2.2.1), (.int .i64 y.2.2.2)]) x8) fun x60 =>
            bindM (ref08_Right (x59.1, x59.2.1, x59.2.2) (x60.1, x60.2.1, x60.2.2.1, x60.2.2.2)) fun x61 =>
            pureM (!x61)) fun q5 =>
        (if (q5) = true then
        bindM (stA x4 [(.int .i64 0), (.int .i64 0), (.int .i64 0), (.int .i64 0)]) fun _ =>
          bindM (ldA (fun y : (Int × Int × Int × Int) => [(.int .i64 y.1), (.int .i64 y.2.1), (.int .i64 y.2.2.1), (.int .i64 y.2.2.2)]) x4) fun r4 =>
          pureM ((r4.1, r4.2.1, r4.2.2.1, r4.2.2.2), false)
        else
        bindM (ldA (fun y : (Int × Int × Int × Int) => [(.int .i64 y.1), (.int .i64 y.2.1), (.int .i64 y.2.2.1), (.int .i64 y.2.2.2)]) x8) fun x65 =>
          bindM (stA x4 [(.int .i64 x65.1), (.int .i64 x65.2.1), (.int .i64 x65.2.2.1), (.int .i64 x65.2.2.2)]) fun _ =>
          bindM (ldA (fun y : (Int × Int × Int × Int) => [(.int .i64 y.1), (.int .i64 y.2.1), (.int .i64 y.2.2.1), (.int .i64 y.2.2.2)]) x4) fun r4 =>
          pureM ((r4.1, r4.2.1, r4.2.2.1, r4.2.2.2), true))))) 0)
def ref08_Look (p0_b : (Option Addr)) : M (Slc × Int × Int) :=
  bindM (nilM p0_b) fun x21 =>
  bindM (ld Value.pointer x21) fun x23 =>
  bindM (nilM x23) fun x24 =>
  bindM (ld Value.bool (Addr.add x24 7)) fun x26 =>
  (if (x26) = true then
  pureM (⟨none, 0, 0⟩, 0, 12)
  else
  bindM (allocM []) fun x27 =>
    loopM (fun (s1 : (Slc × Int × Int)) =>
    bindM (nilM p0_b) fun x30 =>
      bindM (ld (Value.int .i64) (Addr.add (Addr.add x30 1) 2)) fun x33 =>
      (if (decide (s1.2.2 < x33)) = true then
      loopM (fun (s2 : (Int × Int)) =>
        bindM (nilM p0_b) fun x39 =>
          bindM (ld (Value.int .i64) (Addr.add (Addr.add x39 1) 1)) fun x42 =>
          (if (decide (s2.2 < x42)) = true then
          bindM (nilM p0_b) fun x49 =>
            bindM (ld (Value.int .i64) (Addr.add (Addr.add x49 1) 1)) fun x52 =>
            bindM (ref06_Bank_All p0_b (w64 ((w64 (5 + (w64 (s1.2.2 * x52)))) + s2.2))) fun x57 =>
            loopM (fun (s3 : (Int × Int)) =>
            (if (decide (s3.2 < ((x57.len : Nat) : Int))) = true then
              bindM (idxM x57 s3.2 1) fun x67 =>
                bindM (ld vS x67) fun x68 =>
                bindM (ref04_Decode x68) fun x69 =>
                bindM (allocM [(.int .i64 0), (.int .i64 0), (.int .i64 0)]) fun x11 =>
                bindM (stA x11 [(.int .i64 x69.1.1), (.int .i64 x69.1.2.1), (.int .i64 x69.1.2.2)]) fun _ =>
                bindM (ld (Value.int .i64) x11) fun x75 =>
                pureM (.inl (maxI s3.1 x75, w64 (s3.2 + 1)))
              else
              mapR (pureM (.inl (s3.1, w64 (s2.2 + 1)))))) (s2.1, 0)
          else
          mapR (bindM (ref07_Whole p0_b s1.2.2) fun x80 =>
            (if (!x80.2.1) = true then
            pureM (.inl (s1.1, s2.1, w64 (s1.2.2 + 1)))
            else
            bindM (ref07_Read p0_b s1.2.2 0 x80.1) fun x90 =>
              bindM (allocM [(.int .i64 0), (.int .i64 0), (.slice none 0 0)]) fun x17 =>
              bindM (stA x17 [(.int .i64 x90.1.1), (.int .i64 x90.1.2.1), (.slice x90.1.2.2.base x90.1.2.2.len x90.1.2.2.cap)]) fun _ =>
              regionM fun S4 =>
              bindM (nilM p0_b) fun x95 =>
              bindM (ldAI S4 (fun y : (Int × Int × Int) => [(.int .i64 y.1), (.int .i64 y.2.1), (.int .i64 y.2.2)]) (Addr.add x95 1)) fun x97 =>
              bindM (ldAI S4 (fun y : (Int × Int × Slc) => [(.int .i64 y.1), (.int .i64 y.2.1), (.slice y.2.2.base y.2.2.len y.2.2.cap)]) x17) fun x98 =>
              (bothM
                (bindM (stepI S4 (ref08_GetSummary (x97.1, x97.2.1, x97.2.2) (x98.1, x98.2.1, x98.2.2))) fun x99 =>
                  bindM (stepI S4 (allocM [(.int .i64 0), (.int .i64 0), (.int .i64 0), (.int .i64 0)])) fun x19 =>
                  bindM (stA x19 [(.int .i64 x99.1.1), (.int .i64 x99.1.2.1), (.int .i64 x99.1.2.2.1), (.int .i64 x99.1.2.2.2)]) fun _ =>
                  bindM (if (x90.2 == 0) = true then
                    pureM x99.2
                  else
                    pureM false) fun q5 =>
                  (if (q5) = true then
                  bindM (ldA (fun y : (Int × Int × Int × Int) => [(.int .i64 y.1), (.int .i64 y.2.1), (.int .i64 y.2.2.1), (.int .i64 y.2.2.2)]) x19) fun x110 =>
                    bindM (allocM [(.int .i64 s1.2.2), (.int .i64 x80.1), (.int .i64 x110.1), (.int .i64 x110.2.1), (.int .i64 x110.2.2.1), (.int .i64 x110.2.2.2)]) fun x112 =>
                    bindM (appendM [(.int .i64 0), (.int .i64 0), (.int .i64 0), (.int .i64 0), (.int .i64 0), (.int .i64 0)] 48 s1.1 ⟨some x112, 1, 1⟩) fun x113 =>
                    pureM (.inl (x113, s2.1, w64 (s1.2.2 + 1)))
                  else
                  pureM (.inl (s1.1, s2.1, w64 (s1.2.2 + 1)))))
                (bindM (stepI S4 (allocM [(.int .i64 0), (.int .i64 0), (.int .i64 0), (.int .i64 0)])) fun x19 =>
                  bindM (stepI S4 (ref08_GetSummary (x97.1, x97.2.1, x97.2.2) (x98.1, x98.2.1, x98.2.2))) fun x99 =>
                  bindM (stA x19 [(.int .i64 x99.1.1), (.int .i64 x99.1.2.1), (.int .i64 x99.1.2.2.1), (.int .i64 x99.1.2.2.2)]) fun _ =>
                  bindM (if (x90.2 == 0) = true then
                    pureM x99.2
                  else
                    pureM false) fun q6 =>
                  (if (q6) = true then
                  bindM (ldA (fun y : (Int × Int × Int × Int) => [(.int .i64 y.1), (.int .i64 y.2.1), (.int .i64 y.2.2.1), (.int .i64 y.2.2.2)]) x19) fun x110 =>
                    bindM (allocM [(.int .i64 s1.2.2), (.int .i64 x80.1), (.int .i64 x110.1), (.int .i64 x110.2.1), (.int .i64 x110.2.2.1), (.int .i64 x110.2.2.2)]) fun x112 =>
                    bindM (appendM [(.int .i64 0), (.int .i64 0), (.int .i64 0), (.int .i64 0), (.int .i64 0), (.int .i64 0)] 48 s1.1 ⟨some x112, 1, 1⟩) fun x113 =>
                    pureM (.inl (x113, s2.1, w64 (s1.2.2 + 1)))
                  else
                  pureM (.inl (s1.1, s2.1, w64 (s1.2.2 + 1)))))))))) (s1.2.1, 0)
      else
      mapR (pureM (s1.1, s1.2.1, 0)))) (⟨some x27, 0, 0⟩, 0, 0))
def law08_ScanLooks (cv : CV) (p0_m : (Int × Int × Int)) (p1_images : Slc) (p2_fail : Int) : M Bool :=
  bindM (allocM [(.int .i64 p0_m.1), (.int .i64 p0_m.2.1), (.int .i64 p0_m.2.2)]) fun x3 =>
  bindM (law08_alive ) fun x20 =>
  (if (!x20) = true then
  pureM false
  else
  bindM (ref00_Weigh p1_images 20000) fun x23 =>
    (if (decide (x23 > 20000)) = true then
    pureM true
    else
    bindM (law08_Small ) fun x26 =>
      bindM (geo_Sectors (x26.1, x26.2.1, x26.2.2)) fun x27 =>
      bindM (device_New 4 x27) fun x28 =>
      bindM (law08_Small ) fun x32 =>
      bindM (geo_Sectors (x32.1, x32.2.1, x32.2.2)) fun x33 =>
      bindM (ref02_New 4 x33) fun x34 =>
      bindM (allocM [(.int .i64 0), (.int .i64 0), (.slice none 0 0), (.slice none 0 0), (.slice none 0 0), (.slice none 0 0), (.int .i64 0), (.bool false)]) fun x9 =>
      bindM (stA x9 [(.int .i64 x34.1.1), (.int .i64 x34.1.2.1), (.slice x34.1.2.2.1.base x34.1.2.2.1.len x34.1.2.2.1.cap), (.slice x34.1.2.2.2.1.base x34.1.2.2.2.1.len x34.1.2.2.2.1.cap), (.slice x34.1.2.2.2.2.1.base x34.1.2.2.2.2.1.len x34.1.2.2.2.2.1.cap), (.slice x34.1.2.2.2.2.2.1.base x34.1.2.2.2.2.2.1.len x34.1.2.2.2.2.2.1.cap), (.int .i64 x34.1.2.2.2.2.2.2.1), (.bool x34.1.2.2.2.2.2.2.2)]) fun _ =>
      bindM (if (x28.2 != 0) = true then
        pureM true
      else
        pureM ((x28.1).isNone)) fun q1 =>
      (if (q1) = true then
      pureM false
      else
      loopM (fun (s2 : (Int)) =>
        (if (decide (s2 < ((p1_images.len : Nat) : Int))) = true then
          regionM fun S3 =>
            bindM (idxM p1_images s2 1) fun x53 =>
            bindM (ldI S3 vS x53) fun x54 =>
            bindM (idxM p1_images s2 1) fun x59 =>
            bindM (ldI S3 vS x59) fun x60 =>
            bindM (stepI S3 (device_Rack_Load x28.1 s2 x54)) fun x55 =>
            bindM (stepI S3 (ref02_Rack_Load (some x9) s2 x60)) fun x61 =>
            (if (x55 != x61) = true then
            mapR (pureM false)
            else
            pureM (.inl (w64 (s2 + 1))))
          else
          mapR (bindM (device_Rack_Doom x28.1 p2_fail 0) fun x65 =>
            bindM (ref02_Rack_Doom (some x9) p2_fail 0) fun x67 =>
            (if (x65 != x67) = true then
            pureM false
            else
            regionM fun S4 =>
              bindM (ldAI S4 (fun y : (Int × Int × Int) => [(.int .i64 y.1), (.int .i64 y.2.1), (.int .i64 y.2.2)]) x3) fun x72 =>
              bindM (stepI S4 (law08_Small )) fun x71 =>
              bindM (bank_Open x28.1 (x71.1, x71.2.1, x71.2.2) (x72.1, x72.2.1, x72.2.2)) fun x73 =>
              regionM fun S5 =>
              bindM (ldAI S5 (fun y : (Int × Int × Int) => [(.int .i64 y.1), (.int .i64 y.2.1), (.int .i64 y.2.2)]) x3) fun x78 =>
              bindM (stepI S5 (law08_Small )) fun x77 =>
              bindM (ref06_Open (some x9) (x77.1, x77.2.1, x77.2.2) (x78.1, x78.2.1, x78.2.2)) fun x79 =>
              (if (x73.2 != x79.2) = true then
              pureM false
              else
              bindM (if (x73.2 != 0) = true then
                  pureM true
                else
                  pureM ((x73.1).isNone)) fun q6 =>
                bindM (if (q6) = true then
                  pureM true
                else
                  pureM ((x79.1).isNone)) fun q7 =>
                (if (q7) = true then
                pureM true
                else
                bindM (bank_Bank_Flush cv x73.1) fun x96 =>
                  bindM (ref06_Bank_Flush x79.1) fun x98 =>
                  (if (x96 != x98) = true then
                  pureM false
                  else
                  bindM (scan_Look cv x73.1) fun x102 =>
                    bindM (ref08_Look x79.1) fun x108 =>
                    bindM (if (((x102.1.len : Nat) : Int) != ((x108.1.len : Nat) : Int)) = true then
                      pureM true
                    else
                      pureM (x102.2.1 != x108.2.1)) fun q8 =>
                    bindM (if (q8) = true then
                      pureM true
                    else
                      pureM (x102.2.2 != x108.2.2)) fun q9 =>
                    (if (q9) = true then
                    pureM false
                    else
                    loopM (fun (s10 : (Int)) =>
                      (if (decide (s10 < ((x102.1.len : Nat) : Int))) = true then
                        regionM fun S11 =>
                          bindM (idxM x102.1 s10 6) fun x135 =>
                          bindM (ldAI S11 (fun y : (Int × Int × Int × Int × Int × Int) => [(.int .i64 y.1), (.int .i64 y.2.1), (.int .i64 y.2.2.1), (.int .i64 y.2.2.2.1), (.int .i64 y.2.2.2.2.1), (.int .i64 y.2.2.2.2.2)]) x135) fun x136 =>
                          bindM (idxM x108.1 s10 6) fun x139 =>
                          bindM (ldAI S11 (fun y : (Int × Int × Int × Int × Int × Int) => [(.int .i64 y.1), (.int .i64 y.2.1), (.int .i64 y.2.2.1), (.int .i64 y.2.2.2.1), (.int .i64 y.2.2.2.2.1), (.int .i64 y.2.2.2.2.2)]) x139) fun x140 =>
                          (if (!(eqL [x136.1, x136.2.1, x136.2.2.1, x136.2.2.2.1, x136.2.2.2.2.1, x136.2.2.2.2.2] [x140.1, x140.2.1, x140.2.2.1, x140.2.2.2.1, x140.2.2.2.2.1, x140.2.2.2.2.2])) = true then
                          mapR (pureM false)
                          else
                          pureM (.inl (w64 (s10 + 1))))
                        else
                        mapR (pureM true))) 0)))))))) 0)))
end Go.Proofs.Ytldmeimebebllaa
namespace Go.Proofs.Ytldmeimebebllaa
open Go.Mo Go.Sort
set_option linter.unusedVariables false
theorem cmp_eq (a b : Int) : cmp_Compare_i a b = pureM (Go.Lib.compareInt a b) := by
  funext Q w
  unfold cmp_Compare_i cmp_isNaN_i Go.Lib.compareInt
  by_cases h1 : a < b
  · simp [bindM, pureM, h1]
  · by_cases h2 : b < a <;> simp [bindM, pureM, h1, h2]
def encI6 (y : Int × Int × Int × Int × Int × Int) : List Value := [.int .i64 y.1, .int .i64 y.2.1, .int .i64 y.2.2.1, .int .i64 y.2.2.2.1, .int .i64 y.2.2.2.2.1, .int .i64 y.2.2.2.2.2]
def encG3 (y : Int × Int × Slc) : List Value := [.int .i64 y.1, .int .i64 y.2.1, vS y.2.2]
theorem allocC_grow (w : World) (cs : Array Value) (e : TypeId) : World.allocC w cs e = grow w #[.cells cs e] := by
  unfold World.allocC grow
  rw [Array.append_singleton]
def Gw (W w : World) : Prop := ∃ q os', w = grow (W.drewN q) os'
theorem Gw.alloc {W w : World} (h : Gw W w) (cs : Array Value) (e : TypeId) : Gw W (World.allocC w cs e) := by
  obtain ⟨q, os, rfl⟩ := h
  exact ⟨q, _, by rw [allocC_grow, grow_grow]⟩
theorem Gw.refl (W : World) : Gw W W := ⟨0, #[], by simp [grow, World.drewN]⟩
theorem Gw.draw {W w : World} (h : Gw W w) : Gw W (drawW w) := by
  obtain ⟨q, os, rfl⟩ := h
  exact ⟨q + 1, os, by simp [grow, World.drewN, drawW]; try omega⟩
theorem Gw.get {W w : World} (h : Gw W w) {b : Nat} {ob : Obj} (hb : W.heap[b]? = some ob) : w.heap[b]? = some ob := by
  obtain ⟨q, os, rfl⟩ := h
  have hlt := (Array.getElem?_eq_some_iff.1 hb).1
  simp only [grow, World.drewN]
  rw [Array.getElem?_append_left (by simpa using hlt)]
  exact hb
theorem allocC_last (w : World) (cs : Array Value) (e : TypeId) : (World.allocC w cs e).heap[w.heap.size]? = some (.cells cs e) := Array.getElem?_push_size
theorem allocC_old {w : World} {b : Nat} {ob : Obj} (cs : Array Value) (e : TypeId) (h : w.heap[b]? = some ob) : (World.allocC w cs e).heap[b]? = some ob := by
  have hlt := (Array.getElem?_eq_some_iff.1 h).1
  show (w.heap.push _)[b]? = _
  rw [Array.getElem?_push, if_neg (by omega)]
  exact h
theorem lay_c1 (x y : Int × Int × Int × Int × Int × Int) (W : World) : scan_Groups_c1 x y (fun r w' => r = cf_scan_Groups_c1 x y ∧ ∃ q os', w' = grow (W.drewN q) os') W := by
  unfold scan_Groups_c1
  intro e1 e2
  have g1 := (Gw.refl W).alloc (encI6 x).toArray e1
  have g2 := g1.alloc (encI6 y).toArray e2
  have b2 : (World.allocC (World.allocC W (encI6 x).toArray e1) (encI6 y).toArray e2).heap[(World.allocC W (encI6 x).toArray e1).heap.size]? = some (.cells (encI6 y).toArray e2) := allocC_last _ _ _
  have b1 : (World.allocC (World.allocC W (encI6 x).toArray e1) (encI6 y).toArray e2).heap[W.heap.size]? = some (.cells (encI6 x).toArray e1) := allocC_old _ _ (allocC_last _ _ _)
  refine ⟨x.2.2.2.1, cell_of (off := 3) b1 rfl, y.2.2.2.1, cell_of (off := 3) b2 rfl, ?_⟩
  simp only [cmp_eq]
  exact ⟨rfl, g2⟩
theorem Gw.trans {W W2 w : World} (h : Gw W W2) (h2 : Gw W2 w) : Gw W w := by
  obtain ⟨q, os, rfl⟩ := h
  obtain ⟨q2, os2, rfl⟩ := h2
  exact ⟨q + q2, os ++ os2, by simp [grow, World.drewN, Array.append_assoc, Nat.add_assoc]⟩
theorem cmp_Or2 {w : World} {b : Nat} {p q : Int} {e : TypeId} {Q : Int → World → Prop} (hb : w.heap[b]? = some (.cells [Value.int .i64 p, Value.int .i64 q].toArray e)) (h : Q (if p ≠ 0 then p else q) w) : cmp_Or_i ⟨some ⟨b, 0, none⟩, 2, 2⟩ Q w := by
  unfold cmp_Or_i
  refine ⟨fun s w' => w' = w ∧ (s = 0 ∨ (s = 1 ∧ p = 0) ∨ (s = 2 ∧ p = 0 ∧ q = 0)), fun s _ => (2 - s).toNat, ⟨rfl, .inl rfl⟩, ?_⟩
  rintro s w' ⟨rfl, hs⟩
  rcases hs with rfl | ⟨rfl, hp⟩ | ⟨rfl, hp, hq⟩
  · rw [if_pos (by simp)]
    refine ⟨_, rfl, by omega, by simp, p, cell_of (off := 0) hb rfl, ?_⟩
    dsimp only
    by_cases hp : p = 0
    · subst hp
      exact ⟨⟨rfl, .inr (.inl ⟨rfl, rfl⟩)⟩, show (2 - w64 (0 + 1)).toNat < 2 by decide⟩
    · rw [if_pos (by simpa using hp)]
      rw [if_pos hp] at h
      exact h
  · rw [if_pos (by simp)]
    refine ⟨_, rfl, by omega, by simp, q, cell_of (off := 1) hb rfl, ?_⟩
    dsimp only
    by_cases hq : q = 0
    · subst hq
      exact ⟨⟨rfl, .inr (.inr ⟨rfl, hp, rfl⟩)⟩, show (2 - w64 (1 + 1)).toNat < 1 by decide⟩
    · rw [if_pos (by simpa using hq)]
      rw [if_neg (by simpa using hp)] at h
      exact h
  · rw [if_neg (by simp)]
    rw [if_neg (by simpa using hp), hq] at h
    exact h
theorem lay_c2' (x y : Int × Int × Slc) (W W2 : World) (n1 n2 : Nat) (e1 e2 : TypeId) (g2 : Gw W W2) (b1 : W2.heap[n1]? = some (.cells (encG3 x).toArray e1)) (b2 : W2.heap[n2]? = some (.cells (encG3 y).toArray e2)) :
    (regionM fun S1 =>
      bindM (ldI S1 (Value.int .i64) ⟨n1, 0, none⟩) fun x6 =>
      bindM (ldI S1 (Value.int .i64) ⟨n2, 0, none⟩) fun x8 =>
      bindM (ldI S1 vS (Addr.add ⟨n1, 0, none⟩ 2)) fun x11 =>
      bindM (ldI S1 vS (Addr.add ⟨n2, 0, none⟩ 2)) fun x14 =>
      bindM (stepI S1 (cmp_Compare_i x6 x8)) fun x9 =>
      bindM (stepI S1 (cmp_Compare_i ((x11.len : Nat) : Int) ((x14.len : Nat) : Int))) fun x16 =>
      bindM (stepI S1 (allocM [(.int .i64 x9), (.int .i64 x16)])) fun x17 =>
      bindM (stepI S1 (cmp_Or_i (⟨some x17, 2, 2⟩))) fun x18 =>
      pureM x18 : M Int) (fun r w' => r = cf_scan_Groups_c2 x y ∧ ∃ q os', w' = grow (W.drewN q) os') W2 := by
  refine ⟨Gw W2, (Gw.refl W2).draw, ?_⟩
  refine ⟨x.1, fun w' h => cell_of (off := 0) (h.get b1) rfl, y.1, fun w' h => cell_of (off := 0) (h.get b2) rfl, x.2.2, fun w' h => cell_of (off := 2) (h.get b1) rfl, y.2.2, fun w' h => cell_of (off := 2) (h.get b2) rfl, ?_⟩
  simp only [cmp_eq]
  refine ⟨(Gw.refl W2).draw, (Gw.refl W2).draw, fun e3 => ⟨(Gw.refl W2).draw.alloc _ e3, ?_⟩⟩
  have g4 := (Gw.refl W2).draw.alloc [Value.int .i64 (Go.Lib.compareInt x.1 y.1), Value.int .i64 (Go.Lib.compareInt x.2.2.len y.2.2.len)].toArray e3
  have b4 : (World.allocC (drawW W2) [Value.int .i64 (Go.Lib.compareInt x.1 y.1), Value.int .i64 (Go.Lib.compareInt x.2.2.len y.2.2.len)].toArray e3).heap[(drawW W2).heap.size]? = some (.cells [Value.int .i64 (Go.Lib.compareInt x.1 y.1), Value.int .i64 (Go.Lib.compareInt x.2.2.len y.2.2.len)].toArray e3) := allocC_last _ _ _
  exact cmp_Or2 b4 ⟨g4, rfl, g2.trans g4⟩
theorem lay_c2 (x y : Int × Int × Slc) (W : World) : scan_Groups_c2 x y (fun r w' => r = cf_scan_Groups_c2 x y ∧ ∃ q os', w' = grow (W.drewN q) os') W := by
  unfold scan_Groups_c2
  intro e1 e2
  have g1 := (Gw.refl W).alloc (encG3 x).toArray e1
  exact lay_c2' x y W _ _ _ e1 e2 (g1.alloc (encG3 y).toArray e2) (allocC_old _ _ (allocC_last _ _ _)) (allocC_last _ _ _)
end Go.Proofs.Ytldmeimebebllaa
namespace Go.Mo
set_option linter.unusedVariables false
section
variable {α β σ τ ξ : Type} {g : Fr} {H H' : HP} {Q : α → HP}
theorem wps_take {m : M α} {D : Nat} [hp : PickO D H (.deferred (some [])) H'] (h : wps g H' m Q) : wps g H (takesM [D] m) Q := fun w a Qf ho ha hq => by
  rw [hp.eq] at ha
  obtain ⟨a', ho', ha'⟩ := own_put (.deferred none) (fun _ _ _ h => by cases h) ho ha
  exact ⟨own_po ho ha, h _ a' Qf ho' (ent_left _ _ a' ha') hq⟩
theorem wps_cvT {cv : CV} {enc : β → Value} {fv : Value} {args : Array Value} {R : β → HP} (h : wps g H (cv.call fv args) (fun v => ex fun y => pr (v = enc y) * R y)) : wps g H (cvT cv enc fv args) R := fun w a Qf ho ha hq =>
  h w a _ ho ha fun v w' a' ho' hb => by
    obtain ⟨y, hb⟩ := hb
    exact ⟨y, ent_left _ _ a' hb, hq y w' a' ho' (ent_right _ _ a' hb)⟩
def Iter (cv : CV) (fv : Value) (encX : ξ → Array Value) (xs : List ξ) (A : HP) : Prop :=
  ∀ (yv : Value) (I : Nat → HP) (E : HP),
    (∀ (i : Nat) (x : ξ), xs[i]? = some x → ∀ g, wps g (A * I i) (cv.call yv (encX x)) fun v => orp (pr (v = .bool true) * (A * I (i + 1))) (pr (v = .bool false) * (A * E))) →
    ∀ g, wps g (A * I 0) (cv.enter fv #[yv]) fun _ => A * orp (I xs.length) E
theorem wps_yield {cv : CV} {yv : Value} {args : Array Value} {A B C : HP} (h : wps g A (cv.call yv args) fun v => orp (pr (v = .bool true) * B) (pr (v = .bool false) * C)) :
    wps g A (cvT cv Value.bool yv args) fun y => if y = true then B else C :=
  wps_cvT (wps_post h fun v => or_ent (ent_ex true (Ent.refl _)) (ent_ex false (Ent.refl _)))
theorem wps_round {mk : LoopState → Option Code → Obj} (hmk : ∀ st p, Obj.soft (mk st p)) {L : Nat} {asg : ξ → M τ} {body : τ → M (Unit ⊕ Jump)} {x : ξ} {B C : HP} {R : τ → HP} {E : Jump → HP}
    (hasg : ∀ g, wps g B (asg x) R) (hbody : ∀ t g, wps g (R t) (body t) fun r => match r with | .inl _ => C | .inr j => E j) :
    wps g (B * po L (mk .ready none)) (roundM mk L asg body x) fun v => orp (pr (v = .bool true) * (C * po L (mk .ready none))) (pr (v = .bool false) * ex fun j => E j * po L (mk .done (some j.code))) := fun w a Qf ho ha hq => by
  refine ⟨⟨none, own_po ho ha⟩, ?_⟩
  refine wps_frame (F := po L (mk .ready none)) (fun g' => hasg g') w a _ ho ha fun t w1 a1 ho1 ha1 => ?_
  refine ⟨none, own_po ho1 ha1, ?_⟩
  obtain ⟨a2, ho2, ha2⟩ := own_put (mk .busy none) (hmk _ _) ho1 ha1
  refine wps_frame (F := po L (mk .busy none)) (fun g' => hbody t g') _ a2 _ ho2 ha2 fun r w3 a3 ho3 ha3 => ?_
  cases r with
  | inl u =>
    refine ⟨none, own_po ho3 ha3, ?_⟩
    obtain ⟨a4, ho4, ha4⟩ := own_put (mk .ready none) (hmk _ _) ho3 ha3
    exact hq _ _ a4 ho4 (.inl (ent_pr rfl a4 ha4))
  | inr j =>
    refine ⟨none, own_po ho3 ha3, ?_⟩
    obtain ⟨a4, ho4, ha4⟩ := own_put (mk .done (some j.code)) (hmk _ _) ho3 ha3
    exact hq _ _ a4 ho4 (.inr (ent_pr rfl a4 ⟨j, ha4⟩))
theorem wps_rangeF {cv : CV} {fv : Value} {encX : ξ → Array Value} {asg : ξ → M τ} {body : τ → M (Unit ⊕ Jump)} {kn kr : Nat → M α} {ke : Nat → Nat → M α} {xs : List ξ} {A F : HP} (I : Nat → HP) (E : Jump → HP) (R : Nat → ξ → τ → HP)
    (hit : Iter cv fv encX xs A) (h0 : Ent H (F * (A * I 0)))
    (hasg : ∀ (i : Nat) (x : ξ), xs[i]? = some x → ∀ g, wps g (A * I i) (asg x) (R i x))
    (hbody : ∀ (i : Nat) (x : ξ), xs[i]? = some x → ∀ t g, wps g (R i x t) (body t) fun r => match r with | .inl _ => A * I (i + 1) | .inr j => A * E j)
    (hn : ∀ D, wps g (F * (A * I xs.length) * po D (.deferred (some []))) (kn D) Q)
    (hr : ∀ D, wps g (F * (A * E .ret) * po D (.deferred (some []))) (kr D) Q)
    (he : ∀ D id, wps g (F * (A * E (.exit id)) * po D (.deferred (some []))) (ke D id) Q) : wps g H (rangeFM cv fv encX asg body kn kr ke) Q := fun w a Qf ho ha hq => by
  intro mk hmk0 hyield
  have hmk : ∀ st p, Obj.soft (mk st p) := fun st p cs e f h => absurd h (hmk0 st p cs e f)
  have ha := h0 a ha
  have p1 := own_push ho (.deferred (some [])) (World.pushO w (.deferred (some []))) rfl ⟨rfl, rfl⟩ (fun _ _ _ h => by cases h)
  have q1 : (F * (A * I 0) * po w.heap.size (.deferred (some []))).p _ := ⟨a, _, p1.2, Hp.le_refl _, ha, by simp [po]⟩
  have p2 := own_push p1.1 (mk .ready none) (World.pushO (World.pushO w (.deferred (some []))) (mk .ready none)) rfl ⟨rfl, rfl⟩ (hmk _ _)
  have hsz : (World.pushO w (.deferred (some []))).heap.size = w.heap.size + 1 := by simp [World.pushO]
  have q2 : (F * (A * I 0) * po w.heap.size (.deferred (some [])) * po (w.heap.size + 1) (mk .ready none)).p _ := ⟨_, _, p2.2, Hp.le_refl _, q1, by rw [← hsz]; simp [po]⟩
  have hgo := hit (yieldV (w.heap.size + 1)) (fun i => I i * po (w.heap.size + 1) (mk .ready none)) (ex fun j => E j * po (w.heap.size + 1) (mk .done (some j.code))) (fun i x hx g' => by
    intro w1 a1 Qf1 ho1 ha1 hq1
    refine hyield x Qf1 w1 ?_
    refine wps_round hmk (hasg i x hx) (hbody i x hx) w1 a1 Qf1 ho1 (by rw [star_assoc]; exact ha1) fun v w2 a2 ho2 ha2 => hq1 v w2 a2 ho2 ?_
    rcases ha2 with ha2 | ha2
    · left; rw [star_assoc] at ha2; exact ha2
    · right
      refine Ent.starr ?_ a2 ha2
      refine ex_ent fun j => ?_
      rw [star_assoc]
      exact Ent.starr (ent_ex j (Ent.refl _)))
  have hfr := wps_frame (g := g) (F := F * po w.heap.size (.deferred (some []))) hgo
  refine hfr _ _ _ p2.1 ?_ fun v w3 a3 ho3 ha3 => ?_
  · refine Ent.of_eq ?_ _ q2
    simp only [star_assoc]
    ac_rfl
  · have hsplit : ∀ B : HP, ∀ ob, (A * (B * po (w.heap.size + 1) ob) * (F * po w.heap.size (.deferred (some [])))) = (F * (A * B) * po w.heap.size (.deferred (some [])) * po (w.heap.size + 1) ob) := by
      intro B ob; ac_rfl
    have ha3' : (orp (F * (A * I xs.length) * po w.heap.size (.deferred (some [])) * po (w.heap.size + 1) (mk .ready none))
        (ex fun j => F * (A * E j) * po w.heap.size (.deferred (some [])) * po (w.heap.size + 1) (mk .done (some j.code)))).p a3 := by
      obtain ⟨x1, x2, hd, hl, ⟨y1, y2, hd', hl', hA, hor⟩, hF⟩ := ha3
      rcases hor with hor | hor
      · left
        rw [← hsplit]
        exact ⟨x1, x2, hd, hl, ⟨y1, y2, hd', hl', hA, hor⟩, hF⟩
      · right
        obtain ⟨j, hor⟩ := hor
        refine ⟨j, ?_⟩
        show (F * (A * E j) * po w.heap.size (.deferred (some [])) * po (w.heap.size + 1) (mk .done (some j.code))).p a3
        rw [← hsplit]
        exact ⟨x1, x2, hd, hl, ⟨y1, y2, hd', hl', hA, hor⟩, hF⟩
    rcases ha3' with ha3 | ⟨j, ha3⟩
    · refine ⟨.ready, none, own_po ho3 ha3, by simp, ?_⟩
      obtain ⟨a4, ho4, ha4⟩ := own_put (mk .exhausted none) (hmk _ _) ho3 ha3
      exact hn _ _ a4 Qf ho4 (ent_left _ _ a4 ha4) hq
    · refine ⟨.done, some j.code, own_po ho3 ha3, by simp, j, rfl, ?_⟩
      obtain ⟨a4, ho4, ha4⟩ := own_put (mk .exhausted (some j.code)) (hmk _ _) ho3 ha3
      have ha5 := ent_left _ _ a4 ha4
      cases j with
      | ret => exact hr _ _ a4 Qf ho4 ha5 hq
      | exit id => exact he _ id _ a4 Qf ho4 ha5 hq
end
end Go.Mo
namespace Go.Mo
set_option linter.unusedVariables false
structure ItrOk (es : Array MapEntry) (clock : Nat) (seen : Array Nat) (f : Int → Option Value) (V : Int → Bool) : Prop where
  map : MapOk es.toList clock f
  seen : ∀ e ∈ es.toList, ∀ k, keyIs k e = true → seen.contains e.born = V k
def itrC (it m : Nat) (es : Array MapEntry) (clock : Nat) (seen : Array Nat) : HP := po it (.mapIter (some m) clock seen clock) * po m (.map es clock)
def itr (it m : Nat) (f : Int → Option Value) (V : Int → Bool) : HP := ex fun es : Array MapEntry => ex fun clock : Nat => ex fun seen : Array Nat => pr (ItrOk es clock seen f V) * itrC it m es clock seen
def itrAt (it m : Nat) (f : Int → Option Value) (V : Int → Bool) (j : Int) (v : Value) : HP := ex fun es : Array MapEntry => ex fun clock : Nat => ex fun seen : Array Nat =>
  pr (ItrOk es clock seen f (fun i => V i || i == j) ∧ ∃ e ∈ es.toList, e.key = .int .i64 j ∧ e.val = v ∧ seen.back? = some e.born) * itrC it m es clock seen
theorem itr_imap (it m : Nat) (f : Int → Option Value) (V : Int → Bool) : Ent (itr it m f V) (imap m f) :=
  ex_ent fun es => ex_ent fun clock => ex_ent fun seen => pr_ent fun h => ent_ex es (ent_ex clock (ent_prr h.map (ent_right _ _)))
theorem MapOk.one {es : List MapEntry} {clock : Nat} {f : Int → Option Value} (h : MapOk es clock f) {e e' : MapEntry} (he : e ∈ es) (he' : e' ∈ es) (hb : e.born = e'.born) : e = e' := by
  obtain ⟨i, hi, rfl⟩ := List.mem_iff_getElem.1 he
  obtain ⟨j, hj, rfl⟩ := List.mem_iff_getElem.1 he'
  have hp := List.pairwise_iff_getElem.1 h.born
  rcases Nat.lt_trichotomy i j with hlt | heq | hgt
  · have := hp i j (by simpa using hi) (by simpa using hj) hlt
    simp only [List.getElem_map] at this
    omega
  · subst heq; rfl
  · have := hp j i (by simpa using hj) (by simpa using hi) hgt
    simp only [List.getElem_map] at this
    omega
section
variable {α β σ γ κ : Type} {g : Fr} {H H' : HP} {Q : α → HP}
theorem wps_rangeMap {k : Addr → M α} {m : Nat} {f : Int → Option Value} [hp : PickM m H f H'] (h : ∀ it, wps g (H' * itr it m f (fun _ => false)) (k ⟨it, 0, none⟩) Q) : wps g H (bindM (rangeMapM (some m)) k) Q := fun w a Qf ho ha hq => by
  rw [hp.eq] at ha
  obtain ⟨es, clock, hm, ha⟩ := imap_open ha
  refine ⟨es, clock, own_po ho ha, ?_⟩
  have hpu := own_push ho (.mapIter (some m) clock #[] clock) (World.pushO w (.mapIter (some m) clock #[] clock)) rfl ⟨rfl, rfl⟩ (fun _ _ _ h => by cases h)
  have q1 : (H' * po m (.map es clock) * po w.heap.size (.mapIter (some m) clock #[] clock)).p _ := ⟨a, _, hpu.2, Hp.le_refl _, ha, by simp [po]⟩
  refine h w.heap.size _ _ Qf hpu.1 (?_ : HP.p _ _) hq
  refine Ent.trans (Ent.of_eq (star_assoc _ _ _)) (Ent.starr ?_) _ q1
  refine ent_ex es (ent_ex clock (ent_ex #[] (ent_prr ⟨hm, fun e he k hk => by simp⟩ ?_)))
  rw [star_comm]; exact Ent.refl _
theorem ex3_open {γ1 γ2 γ3 : Type} {A : HP} {B : γ1 → γ2 → γ3 → HP} {a : Hp} (h : (A * ex fun x => ex fun y => ex fun z => B x y z).p a) : ∃ x y z, (A * B x y z).p a := by
  obtain ⟨a1, a2, hd, hl, h1, x, y, z, h2⟩ := h
  exact ⟨x, y, z, a1, a2, hd, hl, h1, h2⟩
theorem wps_next {k : Option (Value × Value) → M α} {it m : Nat} {f : Int → Option Value} {V : Int → Bool} (hH : H = H' * itr it m f V)
    (h0 : (∀ j v, f j = some v → V j = true) → wps g (H' * itr it m f V) (k none) Q)
    (h1 : ∀ j v, f j = some v → V j = false → wps g (H' * itrAt it m f V j v) (k (some (.int .i64 j, v))) Q) : wps g H (bindM (nextM ⟨it, 0, none⟩) k) Q := fun w a Qf ho ha hq => by
  rw [hH] at ha
  obtain ⟨es, clock, seen, ha⟩ := ex3_open ha
  rw [star_left_comm] at ha
  have hok : ItrOk es clock seen f V := ent_left _ _ a ha
  have ha := ent_right _ _ a ha
  have ham : (H' * po it (.mapIter (some m) clock seen clock) * po m (.map es clock)).p a := by rw [star_assoc]; exact ha
  have hai : (H' * po m (.map es clock) * po it (.mapIter (some m) clock seen clock)).p a := by rw [star_right_comm]; exact ham
  have hmem := own_po ho ham
  have hit := own_po ho hai
  refine ⟨rfl, .inr ⟨m, clock, seen, clock, es, clock, hit, hmem, ?_, ?_, ?_⟩⟩
  · cases hes : es.isEmpty with
    | true => simp
    | false =>
      have : ¬ (es.all fun e => decide (e.born ≥ clock)) = true := by
        intro hall
        rw [Array.all_eq_true_iff_forall_mem] at hall
        have hne : es.size ≠ 0 := by
          intro h0; simp at h0; simp [h0] at hes
        have h1 := hall es[0] (Array.getElem_mem (by omega))
        have h2 := hok.map.below es[0] (by rw [Array.mem_toList_iff]; exact Array.getElem_mem (by omega))
        simp at h1; omega
      simp only [Bool.and_eq_false_iff]
      right
      simpa using this
  · unfold iterCands
    simp only
    split
    · simp
    · rename_i hne
      have h2 : 0 < ((iterLeft es seen).filter fun x => decide (x.born < clock)).size := by
        rw [Array.isEmpty_iff_size_eq_zero] at hne
        omega
      simp only [Array.size_append, Array.size_map]
      omega
  · intro c hc
    have hmemc : (c = none ∧ ∀ e ∈ es.toList, seen.contains e.born = true) ∨ ∃ e ∈ es.toList, seen.contains e.born = false ∧ c = some e := by
      unfold iterCands at hc
      simp only at hc
      rw [Array.mem_append] at hc
      rcases hc with hc | hc
      · split at hc
        · rename_i hem
          left
          refine ⟨by simpa using hc, fun e he => ?_⟩
          rw [Array.isEmpty_iff_size_eq_zero, Array.size_eq_zero_iff, Array.filter_eq_empty_iff] at hem
          cases hs : seen.contains e.born with
          | true => rfl
          | false =>
            have hl : e ∈ iterLeft es seen := by
              unfold iterLeft
              rw [Array.mem_filter]
              exact ⟨Array.mem_toList_iff.1 he, by simp only [hs]; rfl⟩
            exact absurd (decide_eq_true (hok.map.below e he)) (hem e hl)
        · simp at hc
      · right
        rw [Array.mem_map] at hc
        obtain ⟨e, he, rfl⟩ := hc
        have hl : e ∈ iterLeft es seen := by
          rw [Array.mem_append] at he
          rcases he with he | he
          · exact (Array.mem_filter.1 he).1
          · exact (Array.mem_filter.1 he).1
        unfold iterLeft at hl
        rw [Array.mem_filter] at hl
        exact ⟨e, Array.mem_toList_iff.2 hl.1, by simpa using hl.2, rfl⟩
    rcases hmemc with ⟨rfl, hall⟩ | ⟨e, he, hs, rfl⟩
    · have hall' : ∀ j v, f j = some v → V j = true := fun j v hj => by
        obtain ⟨e, he, hk, _⟩ := (hok.map.find j v).1 hj
        rw [← hok.seen e he j hk]
        exact hall e he
      have hpost : (H' * itr it m f V).p a := by
        refine Ent.starr ?_ a ha
        exact ent_ex es (ent_ex clock (ent_ex seen (ent_prr hok (Ent.refl _))))
      exact ⟨h0 hall' w a Qf ho hpost hq, h0 hall' (drawW w) a Qf (own_draw ho) hpost hq⟩
    · obtain ⟨j, hj⟩ := hok.map.keys e he
      have hkj : keyIs j e = true := by rw [keyIs_int hj]; simp
      have hfj : f j = some e.val := (hok.map.find j e.val).2 ⟨e, he, hkj, rfl⟩
      have hVj : V j = false := by rw [← hok.seen e he j hkj]; exact hs
      have hok' : ItrOk es clock (seen.push e.born) f (fun i => V i || i == j) := ⟨hok.map, fun e' he' i hi => by
        have h2 := hok.seen e' he' i hi
        obtain ⟨n', hn'⟩ := hok.map.keys e' he'
        have hni : i = n' := by rw [keyIs_int hn'] at hi; simpa using hi
        have hcp : (seen.push e.born).contains e'.born = (seen.contains e'.born || e'.born == e.born) := by
          rw [Bool.eq_iff_iff]; simp [Array.mem_push]
        rw [hcp, h2]
        congr 1
        by_cases hb : e'.born = e.born
        · have := hok.map.one he' he hb
          subst this
          rw [hj] at hn'; cases hn'
          simp [hni]
        · have : ¬ i = j := by
            intro hij
            subst hij
            obtain ⟨x, hx⟩ := List.mem_iff_getElem?.1 he'
            obtain ⟨y, hy⟩ := List.mem_iff_getElem?.1 he
            have hxy := hok.map.once x y e' e i hx hy hi hkj
            subst hxy
            rw [hx] at hy
            exact hb (by rw [Option.some.inj hy])
          rw [show (e'.born == e.born) = false from by simpa using hb, show (i == j) = false from by simpa using this]⟩
      have step : ∀ w1, Own w1 a g → nextPost (fun y w' => k y Qf w') it m clock seen clock w1 (some e) := by
        intro w1 ho1
        obtain ⟨a', ho', ha'⟩ := own_put (.mapIter (some m) clock (seen.push e.born) clock) (fun _ _ _ h => by cases h) ho1 hai
        show k (some (e.key, e.val)) Qf _
        rw [hj]
        refine h1 j e.val hfj hVj _ a' Qf ho' ?_ hq
        refine Ent.trans (Ent.of_eq (star_assoc _ _ _)) (Ent.starr ?_) a' ha'
        refine ent_ex es (ent_ex clock (ent_ex (seen.push e.born) (ent_prr ⟨hok', e, he, hj, rfl, by simp⟩ ?_)))
        unfold itrC
        rw [star_comm]; exact Ent.refl _
      exact ⟨step w ho, step (drawW w) (own_draw ho)⟩
theorem wps_entry {ev : β → Value} {k : Int × β → M α} {it m : Nat} {f : Int → Option Value} {V : Int → Bool} {j : Int} {v : Value} (y : β) (hH : H = H' * itrAt it m f V j v) (hy : v = ev y)
    (h : wps g (H' * itr it m f (fun i => V i || i == j)) (k (j, y)) Q) : wps g H (bindM (entryM (Value.int .i64) ev ⟨it, 0, none⟩) k) Q := fun w a Qf ho ha hq => by
  rw [hH] at ha
  obtain ⟨es, clock, seen, ha⟩ := ex3_open ha
  rw [star_left_comm] at ha
  obtain ⟨hok, e, he, hk, hv, hb⟩ := ent_left _ _ a ha
  have ha := ent_right _ _ a ha
  have ham : (H' * po it (.mapIter (some m) clock seen clock) * po m (.map es clock)).p a := by rw [star_assoc]; exact ha
  have hai : (H' * po m (.map es clock) * po it (.mapIter (some m) clock seen clock)).p a := by rw [star_right_comm]; exact ham
  refine ⟨rfl, m, clock, seen, clock, es, clock, e.born, e, j, y, own_po ho hai, hb, own_po ho ham, rfl, ?_, hk, by rw [hv, hy], h w a Qf ho ?_ hq⟩
  · have : es.find? (fun x => x.born == e.born) = some e := by
      rw [← Array.find?_toList]
      cases hf : es.toList.find? (fun x => x.born == e.born) with
      | none =>
        rw [List.find?_eq_none] at hf
        exact absurd (by simp) (hf e he)
      | some e' =>
        have h1 := List.find?_some hf
        have h2 := List.mem_of_find?_eq_some hf
        rw [hok.map.one h2 he (by simpa using h1)]
    exact this
  · refine Ent.starr ?_ a ha
    exact ent_ex es (ent_ex clock (ent_ex seen (ent_prr hok (Ent.refl _))))
end
def toCome (n : Nat) (V : Int → Bool) : Nat := ((List.range n).filter fun i : Nat => !V (i : Int)).length
theorem toCome_lt {n : Nat} {V : Int → Bool} {j : Int} (hj : 0 ≤ j ∧ j < n) (hV : V j = false) : toCome n (fun i => V i || i == j) < toCome n V := by
  unfold toCome
  have hsub : ∀ l : List Nat, (l.filter fun i : Nat => !(V (i : Int) || (i : Int) == j)).length ≤ (l.filter fun i : Nat => !V (i : Int)).length := by
    intro l
    rw [← List.countP_eq_length_filter, ← List.countP_eq_length_filter]
    exact List.countP_mono_left fun x _ h => by
      cases hx : V (x : Int) with
      | true => rw [hx] at h; cases h
      | false => rfl
  obtain ⟨k, rfl⟩ : ∃ k : Nat, j = (k : Int) := ⟨j.toNat, by omega⟩
  have hk : k < n := by omega
  have hsplit : List.range n = List.range k ++ (k :: (List.range n).drop (k + 1)) := by
    have h1 := List.take_append_drop k (List.range n)
    rw [List.take_range, Nat.min_eq_left (by omega), List.drop_eq_getElem_cons (by simpa using hk)] at h1
    simpa using h1.symm
  rw [hsplit]
  simp only [List.filter_append, List.length_append, List.filter_cons]
  have a1 := hsub (List.range k)
  have a2 := hsub ((List.range n).drop (k + 1))
  simp [hV]
  simp at a1 a2
  omega
end Go.Mo

namespace Go.Mo
set_option linter.unusedVariables false
def subS (z : Nat) (s : Slc) (l h : Nat) : Slc := ⟨if s.cap = l then s.base else s.base.map (·.add (l * z)), h - l, s.cap - l⟩
theorem rsl_sub {z : Nat} {s : Slc} {cs : List Value} {l h : Nat} (h1 : l ≤ h) (h2 : h ≤ s.len) : Ent (rsl z s cs) (rsl z (subS z s l h) ((cs.drop (l * z)).take ((h - l) * z))) := fun o ho => by
  rcases ho with ho | ho
  · left
    obtain ⟨h0, hc⟩ := ho
    exact ⟨by show h - l = 0; omega, by simp [hc]⟩
  · obtain ⟨ad, all, ho⟩ := ho
    obtain ⟨hb, hl, hle, hcs⟩ := ent_left _ _ o ho
    have ho := ent_right _ _ o ho
    by_cases hc : s.cap = l
    · left
      have : h - l = 0 := by omega
      exact ⟨this, by simp [this]⟩
    · right
      refine ⟨⟨ad.block, ad.off + l * z, none⟩, all, ?_⟩
      refine ent_pr ⟨?_, ?_, ?_, ?_⟩ o ho
      · simp [subS, hc, hb, Addr.add_mk]
      · show _ = (h - l) * z
        rw [List.length_take, List.length_drop, hl, ← Nat.sub_mul]
        exact Nat.min_eq_left (Nat.mul_le_mul_right _ (by omega))
      · show h - l ≤ s.cap - l
        omega
      · show (all.drop (ad.off + l * z)).take ((h - l) * z) = _
        rw [← hcs, List.drop_take, List.drop_drop, List.take_take, ← Nat.sub_mul]
        rw [Nat.min_eq_left (Nat.mul_le_mul_right _ (by omega))]
theorem sliceM_val {s : Slc} {lo hi : Option Int} {size l h : Nat} {g : Fr} {H : HP} (hl : lo.getD 0 = (l : Int)) (hh : hi.getD s.len = (h : Int)) (h1 : l ≤ h) (h2 : h ≤ s.cap) : Val g H (sliceM s lo hi size) (subS size s l h) := fun w a Qf ho ha hq =>
  ⟨l, h, hl, hh, h1, h2, hq _ w a ho (ent_pr rfl a ha)⟩
theorem wps_slice {α : Type} {s : Slc} {lo hi : Option Int} {size : Nat} {g : Fr} {H : HP} {k : Slc → M α} {Q : α → HP} (l h : Nat) (hl : lo.getD 0 = (l : Int)) (hh : hi.getD s.len = (h : Int)) (h1 : l ≤ h) (h2 : h ≤ s.cap) (hk : wps g H (k (subS size s l h)) Q) :
    wps g H (bindM (sliceM s lo hi size) k) Q := wps_val (sliceM_val hl hh h1 h2) hk
theorem ovw_app {a b new : List Value} (h : new.length ≤ a.length) : ovw (a ++ b) 0 new = ovw a 0 new ++ b := by
  simp [ovw, List.drop_append, Nat.sub_eq_zero_of_le h]
theorem ovw_len {a new : List Value} {off : Nat} (h : off + new.length ≤ a.length) : (ovw a off new).length = a.length := by
  simp only [ovw, List.length_append, List.length_take, List.length_drop]; omega
section
variable {α : Type} {g : Fr} {H H' : HP} {Q : α → HP}
theorem wps_copy {k : Int → M α} {z : Nat} {d x : Slc} {old new : List Value} (hx : Ent H (rsl z x new)) (hd : H = H' * own z d old) (hv : ∀ v ∈ new, v.oneCell' = true)
    (h : wps g (H' * own z d (ovw old 0 (new.take (min x.len d.len * z)))) (k ((min x.len d.len : Nat) : Int)) Q) : wps g H (bindM (copyM z d x) k) Q := fun w a Qf ho ha hq => by
  obtain ⟨hc, hlx⟩ := cellsAt_rsl hx ho ha
  have hlen : old.length = d.len * z ∧ d.len ≤ d.cap := by
    rw [hd] at ha
    exact own_len _ _ _ a (ent_right _ _ a ha)
  have hmin : min x.len d.len * z ≤ d.len * z := Nat.mul_le_mul_right _ (Nat.min_le_right _ _)
  have hmin' : min x.len d.len * z ≤ x.len * z := Nat.mul_le_mul_right _ (Nat.min_le_left _ _)
  refine ⟨new.take (min x.len d.len * z), ?_, fun _ => ?_, ?_⟩
  · cases hb : x.base with
    | none =>
      rw [hb] at hc
      have : new = [] := hc
      subst this
      show List.take _ [] = []
      simp
    | some ad =>
      rw [hb] at hc
      intro j v hj
      rw [List.getElem?_take] at hj
      split at hj
      · exact hc j v hj
      · cases hj
  · rw [List.length_take, hlx]
    show _ = min x.len d.len * z
    omega
  · rw [hd] at ha
    obtain ⟨base, len, cap⟩ := d
    cases base with
    | none =>
      have h0 := ent_right _ _ a ha
      obtain ⟨e1, e2, e3⟩ := h0
      simp only at e1 e2 e3
      subst e1 e2 e3
      have hz : ∀ n : Nat, min n 0 = 0 := fun n => by omega
      simp only [hz, Nat.zero_mul, List.take_zero, ovw_nil] at h
      have : ∀ n : Nat, Nat.min n 0 = 0 := fun n => Nat.min_zero n
      simp only [this]
      exact h w a Qf ho ha hq
    | some ad =>
      have hown : ∀ cs, own z ⟨some ad, len, cap⟩ cs = ex fun rest => pr (ad = ⟨ad.block, 0, none⟩ ∧ cs.length = len * z ∧ cs.length + rest.length = cap * z ∧ len ≤ cap) * pc ad.block (cs ++ rest) := fun _ => rfl
      rw [hown, star_ex] at ha
      obtain ⟨rest, ha⟩ := ha
      simp only at ha
      rw [star_left_comm] at ha
      obtain ⟨h1, h2, h3, h4⟩ := ent_left _ _ a ha
      have ha := ent_right _ _ a ha
      simp only at hlen hmin
      have hnl : (new.take (min x.len len * z)).length ≤ old.length := by rw [List.length_take]; omega
      obtain ⟨hst, a', ho', ha'⟩ := own_row (off := 0) ho ha (new := new.take (min x.len len * z)) (by simp only [List.length_append]; omega) (fun v hv' => hv v (List.mem_of_mem_take hv'))
      show storable w ad 0 _ ∧ _
      rw [h1]
      refine ⟨hst, ?_⟩
      refine h _ a' Qf ho' ?_ hq
      rw [hown, star_ex]
      refine ⟨rest, ?_⟩
      show HP.p (H' * (pr _ * pc _ _)) _
      rw [star_left_comm]
      rw [ovw_app hnl] at ha'
      have hol : (ovw old 0 (new.take (min x.len len * z))).length = old.length := ovw_len (by omega)
      exact ent_pr ⟨h1, hol.trans h2, by rw [hol]; exact h3, h4⟩ _ ha'
theorem wps_copyS {k : Int → M α} {z : Nat} {d x : Slc} {old new : List Value} [hp : PickS z d H old H'] (hx : Ent H (rsl z x new)) (hv : ∀ v ∈ new, v.oneCell' = true)
    (h : wps g (H' * own z d (ovw old 0 (new.take (min x.len d.len * z)))) (k ((min x.len d.len : Nat) : Int)) Q) : wps g H (bindM (copyM z d x) k) Q := wps_copy hx hp.eq hv h
theorem wps_call2 {β : Type} {m : M β} {k : β → M α} {A1 A2 H1 H2 : HP} {Q' : β → HP} [h1 : Has H A2 H1] [h2 : Has H1 A1 H2] (hs : ∀ g', wps g' (A1 * A2) m Q') (h' : ∀ x, wps g (H2 * Q' x) (k x) Q) : wps g H (bindM m k) Q :=
  wps_call hs (Ent.of_eq (by rw [h1.eq, h2.eq, star_assoc])) h'
theorem wps_call3 {β : Type} {m : M β} {k : β → M α} {A1 A2 A3 H1 H2 H3 : HP} {Q' : β → HP} [h1 : Has H A3 H1] [h2 : Has H1 A2 H2] [h3 : Has H2 A1 H3] (hs : ∀ g', wps g' (A1 * A2 * A3) m Q') (h' : ∀ x, wps g (H3 * Q' x) (k x) Q) : wps g H (bindM m k) Q :=
  wps_call hs (Ent.of_eq (by rw [h1.eq, h2.eq, h3.eq]; simp only [star_assoc])) h'
theorem wps_tail2 {m : M α} {A1 A2 H1 H2 : HP} {Q' : α → HP} [h1 : Has H A2 H1] [h2 : Has H1 A1 H2] (hs : ∀ g', wps g' (A1 * A2) m Q') (h' : ∀ x, Ent (H2 * Q' x) (Q x)) : wps g H m Q :=
  wps_tail hs (Ent.of_eq (by rw [h1.eq, h2.eq, star_assoc])) h'
theorem wps_val2 {β : Type} {m : M β} {k : β → M α} {A1 A2 H1 H2 : HP} {v : β} [h1 : Has H A2 H1] [h2 : Has H1 A1 H2] (hs : ∀ g', Val g' (A1 * A2) m v) (h' : wps g H (k v) Q) : wps g H (bindM m k) Q :=
  wps_val (val_frame hs (by rw [h1.eq, h2.eq, star_assoc])) h'
theorem rd_rslZ {w : World} {a : Hp} {z : Nat} {s : Slc} {cs : List Value} {n j : Nat} {v : Value} (hp : Ent H (rsl z s cs)) (ho : Own w a g) (ha : H.p a) (hj : j < z) (hv : cs[n * z + j]? = some v) :
    n < s.len ∧ ∃ b off, s.base = some ⟨b, off, none⟩ ∧ w.cell? ⟨b, off + n * z + j, none⟩ = some v := by
  rcases hp a ha with hx | ⟨ad, all, hx⟩
  · rw [hx.2] at hv; simp at hv
  · have hpr := ent_left _ _ a hx
    have hro := ent_right _ _ a hx
    obtain ⟨h1, h2, h3, h4⟩ := hpr
    have hlt : n < s.len := by
      have h5 := (List.getElem?_eq_some_iff.1 hv).1
      refine Nat.lt_of_not_le fun h => ?_
      have := Nat.mul_le_mul_right z h
      omega
    refine ⟨hlt, ad.block, ad.off, h1, ?_⟩
    refine rd_cell (H := ro ad.block all) (Ent.refl _) ho hro ?_
    rw [← h4, List.getElem?_take] at hv
    split at hv
    · rw [List.getElem?_drop] at hv; rw [Nat.add_assoc]; exact hv
    · cases hv
theorem wps_rdA {β : Type} {enc : β → List Value} {k : β → M α} {z : Nat} {s : Slc} {i : Int} {cs : List Value} (n : Nat) (x : β) (hp : Ent H (rsl z s cs)) (hi : i = (n : Int)) (hz : 0 < (enc x).length ∧ (enc x).length ≤ z) (hv : ∀ j v, (enc x)[j]? = some v → cs[n * z + j]? = some v) (h : wps g H (k x) Q) :
    wps g H (bindM (idxM s i z) fun a => bindM (ldA enc a) k) Q := fun w a Qf ho ha hq => by
  subst hi
  obtain ⟨hlt, b, off, hb, _⟩ := rd_rslZ (n := n) (j := 0) hp ho ha (by omega) (hv 0 _ (List.getElem?_eq_getElem hz.1))
  refine ⟨⟨b, off, none⟩, hb, by omega, by omega, ?_⟩
  rw [Addr.add_mk]
  refine ⟨x, fun j v hj => ?_, h w a Qf ho ha hq⟩
  rw [Addr.add_mk, Int.toNat_natCast]
  obtain ⟨_, b', off', hb', hc⟩ := rd_rslZ (n := n) (j := j) hp ho ha (by have := (List.getElem?_eq_some_iff.1 hj).1; omega) (hv j v hj)
  rw [hb] at hb'; cases hb'
  exact hc
theorem wps_rdAI {β : Type} {R : HP} {enc : β → List Value} {k : β → M α} {z : Nat} {s : Slc} {i : Int} {cs : List Value} (n : Nat) (x : β) (hp : Ent R (rsl z s cs)) (hR : Ent H R) (hi : i = (n : Int)) (hz : 0 < (enc x).length ∧ (enc x).length ≤ z) (hv : ∀ j v, (enc x)[j]? = some v → cs[n * z + j]? = some v) (h : wps g H (k x) Q) :
    wps g H (bindM (idxM s i z) fun a => bindM (ldAI (Iv g R) enc a) k) Q := fun w a Qf ho ha hq => by
  subst hi
  obtain ⟨hlt, b, off, hb, _⟩ := rd_rslZ (n := n) (j := 0) hp ho (hR a ha) (by omega) (hv 0 _ (List.getElem?_eq_getElem hz.1))
  refine ⟨⟨b, off, none⟩, hb, by omega, by omega, ?_⟩
  rw [Addr.add_mk]
  refine ⟨x, fun w' ⟨a', ho', ha'⟩ j v hj => ?_, h w a Qf ho ha hq⟩
  rw [Addr.add_mk, Int.toNat_natCast]
  obtain ⟨_, b', off', hb', hc⟩ := rd_rslZ (n := n) (j := j) hp ho' ha' (by have := (List.getElem?_eq_some_iff.1 hj).1; omega) (hv j v hj)
  rw [hb] at hb'; cases hb'
  exact hc
theorem wps_rdFI {β : Type} {R : HP} {enc : β → Value} {k : β → M α} {z f : Nat} {s : Slc} {i : Int} {cs : List Value} (n : Nat) (x : β) (hp : Ent R (rsl z s cs)) (hR : Ent H R) (hi : i = (n : Int)) (hz : f < z) (hv : cs[n * z + f]? = some (enc x)) (h : wps g H (k x) Q) :
    wps g H (bindM (idxM s i z) fun a => bindM (ldI (Iv g R) enc (Addr.add a f)) k) Q := fun w a Qf ho ha hq => by
  subst hi
  obtain ⟨hlt, b, off, hb, _⟩ := rd_rslZ (n := n) (j := f) hp ho (hR a ha) hz hv
  refine ⟨⟨b, off, none⟩, hb, by omega, by omega, ?_⟩
  rw [Addr.add_mk]
  show bindM (ldI (Iv g R) enc (Addr.add _ f)) k Qf w
  rw [Addr.add_mk, Int.toNat_natCast]
  refine ⟨x, fun w' ⟨a', ho', ha'⟩ => ?_, h w a Qf ho ha hq⟩
  obtain ⟨_, b', off', hb', hc⟩ := rd_rslZ (n := n) (j := f) hp ho' ha' hz hv
  rw [hb] at hb'; cases hb'
  exact hc
theorem wps_rdF {β : Type} {enc : β → Value} {k : β → M α} {z f : Nat} {s : Slc} {i : Int} {cs : List Value} (n : Nat) (x : β) (hp : Ent H (rsl z s cs)) (hi : i = (n : Int)) (hz : f < z) (hv : cs[n * z + f]? = some (enc x)) (h : wps g H (k x) Q) :
    wps g H (bindM (idxM s i z) fun a => bindM (ld enc (Addr.add a f)) k) Q := fun w a Qf ho ha hq => by
  subst hi
  obtain ⟨hlt, b, off, hb, hc⟩ := rd_rslZ (n := n) (j := f) hp ho ha hz hv
  refine ⟨⟨b, off, none⟩, hb, by omega, by omega, ?_⟩
  rw [Addr.add_mk]
  show bindM (ld enc (Addr.add _ f)) k Qf w
  rw [Addr.add_mk, Int.toNat_natCast]
  exact ⟨x, hc, h w a Qf ho ha hq⟩
theorem flat_get {γ : Type} {f : γ → List Value} {z : Nat} (hf : ∀ c, (f c).length = z) {l : List γ} {n j : Nat} {c : γ} (hc : l[n]? = some c) (hj : j < z) : (l.flatMap f)[n * z + j]? = (f c)[j]? := by
  induction l generalizing n with
  | nil => simp at hc
  | cons x l ih =>
    rw [List.flatMap_cons]
    cases n with
    | zero =>
      simp only [List.getElem?_cons_zero, Option.some.injEq] at hc
      subst hc
      rw [Nat.zero_mul, Nat.zero_add, List.getElem?_append_left (by rw [hf]; exact hj)]
    | succ n =>
      rw [List.getElem?_cons_succ] at hc
      rw [List.getElem?_append_right (by rw [hf, Nat.add_mul]; omega), hf, ← ih hc]
      congr 1
      rw [Nat.add_mul]; omega
theorem flat_len {γ : Type} {f : γ → List Value} {z : Nat} (hf : ∀ c, (f c).length = z) (l : List γ) : (l.flatMap f).length = l.length * z := by
  induction l with
  | nil => simp
  | cons x l ih => rw [List.flatMap_cons, List.length_append, ih, hf, List.length_cons, Nat.add_mul]; omega
end
end Go.Mo
namespace Go.Mo
set_option linter.unusedVariables false
section
variable {α β σ τ ξ : Type} {g : Fr} {H H' : HP} {Q : α → HP}
theorem wps_copyP {k : Int → M α} {z b off len cap : Nat} {x : Slc} {old new : List Value} [hp : PickC b H old H'] (hx : Ent H (rsl z x new)) (hv : ∀ v ∈ new, v.oneCell' = true) (hl : off + len * z ≤ old.length)
    (h : wps g (H' * pc b (ovw old off (new.take (min x.len len * z)))) (k ((min x.len len : Nat) : Int)) Q) : wps g H (bindM (copyM z ⟨some ⟨b, off, none⟩, len, cap⟩ x) k) Q := fun w a Qf ho ha hq => by
  obtain ⟨hc, hlx⟩ := cellsAt_rsl hx ho ha
  have hmin : min x.len len * z ≤ len * z := Nat.mul_le_mul_right _ (Nat.min_le_right _ _)
  have hmin' : min x.len len * z ≤ x.len * z := Nat.mul_le_mul_right _ (Nat.min_le_left _ _)
  refine ⟨new.take (min x.len len * z), ?_, fun _ => ?_, ?_⟩
  · cases hb : x.base with
    | none =>
      rw [hb] at hc
      have : new = [] := hc
      subst this
      show List.take _ [] = []
      simp
    | some ad =>
      rw [hb] at hc
      intro j v hj
      rw [List.getElem?_take] at hj
      split at hj
      · exact hc j v hj
      · cases hj
  · rw [List.length_take, hlx]
    show _ = min x.len len * z
    omega
  · rw [hp.eq] at ha
    obtain ⟨hst, a', ho', ha'⟩ := own_row (off := off) ho ha (new := new.take (min x.len len * z)) (by rw [List.length_take]; omega) (fun v hv' => hv v (List.mem_of_mem_take hv'))
    exact ⟨hst, h _ a' Qf ho' ha' hq⟩
theorem wps_bstr {k : ByteArray → M α} {s : Slc} {ns : List Int} (hx : Ent H (rsl 1 s (ns.map (Value.int .u8)))) (h : wps g H (k (strB ns)) Q) : wps g H (bindM (bstrM s) k) Q := fun w a Qf ho ha hq => by
  obtain ⟨hc, hl⟩ := cellsAt_rsl hx ho ha
  exact ⟨ns, hc, fun _ => by simpa using hl, h w a Qf ho ha hq⟩
def IterX (cv : CV) (fv : Value) (encX : ξ → Array Value) (n : Nat) (X : Nat → ξ → HP) (A : HP) : Prop :=
  ∀ (yv : Value) (I : Nat → HP) (E : HP),
    (∀ (i : Nat) (x : ξ), i < n → ∀ g, wps g (A * (X i x * I i)) (cv.call yv (encX x)) fun v => orp (pr (v = .bool true) * (A * I (i + 1))) (pr (v = .bool false) * (A * E))) →
    ∀ g, wps g (A * I 0) (cv.enter fv #[yv]) fun _ => A * orp (I n) E
theorem wps_rangeX {cv : CV} {fv : Value} {encX : ξ → Array Value} {asg : ξ → M τ} {body : τ → M (Unit ⊕ Jump)} {kn kr : Nat → M α} {ke : Nat → Nat → M α} {n : Nat} {X : Nat → ξ → HP} {A F : HP} (I : Nat → HP) (E : Jump → HP) (R : Nat → ξ → τ → HP)
    (hit : IterX cv fv encX n X A) (h0 : Ent H (F * (A * I 0)))
    (hasg : ∀ (i : Nat) (x : ξ), i < n → ∀ g, wps g (A * (X i x * I i)) (asg x) (R i x))
    (hbody : ∀ (i : Nat) (x : ξ), i < n → ∀ t g, wps g (R i x t) (body t) fun r => match r with | .inl _ => A * I (i + 1) | .inr j => A * E j)
    (hn : ∀ D, wps g (F * (A * I n) * po D (.deferred (some []))) (kn D) Q)
    (hr : ∀ D, wps g (F * (A * E .ret) * po D (.deferred (some []))) (kr D) Q)
    (he : ∀ D id, wps g (F * (A * E (.exit id)) * po D (.deferred (some []))) (ke D id) Q) : wps g H (rangeFM cv fv encX asg body kn kr ke) Q := fun w a Qf ho ha hq => by
  intro mk hmk0 hyield
  have hmk : ∀ st p, Obj.soft (mk st p) := fun st p cs e f h => absurd h (hmk0 st p cs e f)
  have ha := h0 a ha
  have p1 := own_push ho (.deferred (some [])) (World.pushO w (.deferred (some []))) rfl ⟨rfl, rfl⟩ (fun _ _ _ h => by cases h)
  have q1 : (F * (A * I 0) * po w.heap.size (.deferred (some []))).p _ := ⟨a, _, p1.2, Hp.le_refl _, ha, by simp [po]⟩
  have p2 := own_push p1.1 (mk .ready none) (World.pushO (World.pushO w (.deferred (some []))) (mk .ready none)) rfl ⟨rfl, rfl⟩ (hmk _ _)
  have hsz : (World.pushO w (.deferred (some []))).heap.size = w.heap.size + 1 := by simp [World.pushO]
  have q2 : (F * (A * I 0) * po w.heap.size (.deferred (some [])) * po (w.heap.size + 1) (mk .ready none)).p _ := ⟨_, _, p2.2, Hp.le_refl _, q1, by rw [← hsz]; simp [po]⟩
  have hgo := hit (yieldV (w.heap.size + 1)) (fun i => I i * po (w.heap.size + 1) (mk .ready none)) (ex fun j => E j * po (w.heap.size + 1) (mk .done (some j.code))) (fun i x hx g' => by
    intro w1 a1 Qf1 ho1 ha1 hq1
    refine hyield x Qf1 w1 ?_
    refine wps_round hmk (hasg i x hx) (hbody i x hx) w1 a1 Qf1 ho1 (by rw [star_assoc, star_assoc]; exact ha1) fun v w2 a2 ho2 ha2 => hq1 v w2 a2 ho2 ?_
    rcases ha2 with ha2 | ha2
    · left; rw [star_assoc] at ha2; exact ha2
    · right
      refine Ent.starr ?_ a2 ha2
      refine ex_ent fun j => ?_
      rw [star_assoc]
      exact Ent.starr (ent_ex j (Ent.refl _)))
  have hfr := wps_frame (g := g) (F := F * po w.heap.size (.deferred (some []))) hgo
  refine hfr _ _ _ p2.1 ?_ fun v w3 a3 ho3 ha3 => ?_
  · refine Ent.of_eq ?_ _ q2
    simp only [star_assoc]
    ac_rfl
  · have hsplit : ∀ B : HP, ∀ ob, (A * (B * po (w.heap.size + 1) ob) * (F * po w.heap.size (.deferred (some [])))) = (F * (A * B) * po w.heap.size (.deferred (some [])) * po (w.heap.size + 1) ob) := by
      intro B ob; ac_rfl
    have ha3' : (orp (F * (A * I n) * po w.heap.size (.deferred (some [])) * po (w.heap.size + 1) (mk .ready none))
        (ex fun j => F * (A * E j) * po w.heap.size (.deferred (some [])) * po (w.heap.size + 1) (mk .done (some j.code)))).p a3 := by
      obtain ⟨x1, x2, hd, hl, ⟨y1, y2, hd', hl', hA, hor⟩, hF⟩ := ha3
      rcases hor with hor | hor
      · left
        rw [← hsplit]
        exact ⟨x1, x2, hd, hl, ⟨y1, y2, hd', hl', hA, hor⟩, hF⟩
      · right
        obtain ⟨j, hor⟩ := hor
        refine ⟨j, ?_⟩
        show (F * (A * E j) * po w.heap.size (.deferred (some [])) * po (w.heap.size + 1) (mk .done (some j.code))).p a3
        rw [← hsplit]
        exact ⟨x1, x2, hd, hl, ⟨y1, y2, hd', hl', hA, hor⟩, hF⟩
    rcases ha3' with ha3 | ⟨j, ha3⟩
    · refine ⟨.ready, none, own_po ho3 ha3, by simp, ?_⟩
      obtain ⟨a4, ho4, ha4⟩ := own_put (mk .exhausted none) (hmk _ _) ho3 ha3
      exact hn _ _ a4 Qf ho4 (ent_left _ _ a4 ha4) hq
    · refine ⟨.done, some j.code, own_po ho3 ha3, by simp, j, rfl, ?_⟩
      obtain ⟨a4, ho4, ha4⟩ := own_put (mk .exhausted (some j.code)) (hmk _ _) ho3 ha3
      have ha5 := ent_left _ _ a4 ha4
      cases j with
      | ret => exact hr _ _ a4 Qf ho4 ha5 hq
      | exit id => exact he _ id _ a4 Qf ho4 ha5 hq
end
end Go.Mo

namespace Go.Mo
set_option linter.unusedVariables false
set_option linter.unusedSimpArgs false
structure MapOk2 (es : List MapEntry) (clock : Nat) (f : Int × Int → Option Value) : Prop where
  keys : pairKeys es
  find : ∀ k v, f k = some v ↔ ∃ e ∈ es, keyIs2 k e = true ∧ e.val = v
  born : (es.map (·.born)).Pairwise (· < ·)
  below : ∀ e ∈ es, e.born < clock
  once : ∀ (i j : Nat) e e' k, es[i]? = some e → es[j]? = some e' → keyIs2 k e = true → keyIs2 k e' = true → i = j
def pmap (m : Nat) (f : Int × Int → Option Value) : HP := ex fun es : Array MapEntry => ex fun clock : Nat => pr (MapOk2 es.toList clock f) * po m (.map es clock)
theorem pmap_new (m : Nat) : Ent (po m (.map #[] 0)) (pmap m fun _ => none) :=
  ent_ex #[] (ent_ex 0 (ent_prr ⟨fun e h => by simp at h, fun k v => by simp, by simp, fun e h => by simp at h, fun i j e e' k h => by simp at h⟩ (Ent.refl _)))
def mapPut2 (es : Array MapEntry) (clock : Nat) (k : Int × Int) (v : Value) : Obj := match es.toList.findIdx? (keyIs2 k) with
  | some i => .map (es.modify i fun e => { e with key := key2 k, val := v }) clock
  | none => .map (es.push { key := key2 k, val := v, born := clock }) (clock + 1)
section
variable {α β σ γ κ : Type} {g : Fr} {H H' : HP} {Q : α → HP}
theorem pmap_open {A : HP} {m : Nat} {f : Int × Int → Option Value} {a : Hp} (ha : (A * pmap m f).p a) : ∃ es clock, MapOk2 es.toList clock f ∧ (A * po m (.map es clock)).p a := by
  unfold pmap at ha
  rw [star_ex] at ha
  obtain ⟨es, ha⟩ := ha
  simp only at ha
  rw [star_ex] at ha
  obtain ⟨clock, ha⟩ := ha
  simp only at ha
  rw [star_left_comm] at ha
  exact ⟨es, clock, ent_left _ _ a ha, ent_right _ _ a ha⟩
theorem pmap_close {A : HP} {m clock : Nat} {es : Array MapEntry} {f : Int × Int → Option Value} {a : Hp} (h : MapOk2 es.toList clock f) (ha : (A * po m (.map es clock)).p a) : (A * pmap m f).p a := by
  refine Ent.starr ?_ a ha
  exact ent_ex es (ent_ex clock (ent_prr h (Ent.refl _)))
theorem mapPut2_ok {es : Array MapEntry} {clock : Nat} {f : Int × Int → Option Value} (h : MapOk2 es.toList clock f) (k : Int × Int) (v : Value) :
    ∃ es' clock', mapPut2 es clock k v = .map es' clock' ∧ MapOk2 es'.toList clock' (fun j => if j = k then some v else f j) := by
  unfold mapPut2
  cases hf : es.toList.findIdx? (keyIs2 k) with
  | none =>
    have hno : ∀ e ∈ es.toList, keyIs2 k e = false := by simpa [List.findIdx?_eq_none_iff] using hf
    refine ⟨_, _, rfl, ?_, ?_, ?_, ?_, ?_⟩
    · intro e he
      simp only [Array.toList_push, List.mem_append, List.mem_singleton] at he
      rcases he with he | rfl
      · exact h.keys e he
      · exact ⟨k, rfl⟩
    · intro j u
      simp only [Array.toList_push, List.mem_append, List.mem_singleton]
      by_cases hj : j = k
      · subst hj
        rw [if_pos rfl]
        constructor
        · intro hu; cases hu
          exact ⟨_, .inr rfl, by simp [keyIs2, pairOf_key2], rfl⟩
        · rintro ⟨e, he | rfl, h1, h2⟩
          · rw [hno e he] at h1; cases h1
          · rw [← h2]
      · rw [if_neg hj, h.find]
        constructor
        · rintro ⟨e, he, h1⟩; exact ⟨e, .inl he, h1⟩
        · rintro ⟨e, he | rfl, h1, h2⟩
          · exact ⟨e, he, h1, h2⟩
          · simp [keyIs2, pairOf_key2, hj] at h1
    · simp only [Array.toList_push, List.map_append, List.map_cons, List.map_nil]
      rw [List.pairwise_append]
      refine ⟨h.born, by simp, ?_⟩
      intro x hx y hy
      simp only [List.mem_map] at hx
      obtain ⟨e, he, rfl⟩ := hx
      simp only [List.mem_singleton] at hy
      subst hy
      exact h.below e he
    · intro e he
      simp only [Array.toList_push, List.mem_append, List.mem_singleton] at he
      rcases he with he | rfl
      · have := h.below e he; omega
      · simp
    · intro i j e e' q hi hj hq hq'
      simp only [Array.toList_push] at hi hj
      have hkk : ∀ (i : Nat) (e : MapEntry), (es.toList ++ [{ key := key2 k, val := v, born := clock }])[i]? = some e → keyIs2 q e = true → (es.toList[i]? = some e ∧ q ≠ k) ∨ (i = es.toList.length ∧ q = k) := by
        intro i' e0 hi0 hq0
        by_cases hlt : i' < es.toList.length
        · rw [List.getElem?_append_left hlt] at hi0
          left
          refine ⟨hi0, fun hqk => ?_⟩
          subst hqk
          have := hno _ (List.mem_of_getElem? hi0)
          rw [this] at hq0; cases hq0
        · have : i' = es.toList.length := by
            have := (List.getElem?_eq_some_iff.1 hi0).1
            simp only [List.length_append, List.length_singleton] at this
            omega
          right
          refine ⟨this, ?_⟩
          subst this
          simp at hi0
          subst hi0
          simpa [keyIs2, pairOf_key2] using hq0
      rcases hkk i e hi hq with ⟨h1, h2⟩ | ⟨h1, h2⟩ <;> rcases hkk j e' hj hq' with ⟨h3, h4⟩ | ⟨h3, h4⟩
      · exact h.once i j e e' q h1 h3 hq hq'
      · exact absurd h4 h2
      · exact absurd h2 h4
      · omega
  | some i =>
    rw [List.findIdx?_eq_some_iff_getElem] at hf
    obtain ⟨hi, hki, hmin⟩ := hf
    let F : MapEntry → MapEntry := fun e => { e with key := key2 k, val := v }
    have hlist : (es.modify i F).toList = es.toList.modify i F := by simp
    have hget : ∀ j, (es.toList.modify i F)[j]? = if j = i then some (F es.toList[i]) else es.toList[j]? := by
      intro j
      rw [List.getElem?_modify]
      by_cases hj : j = i
      · subst hj
        rw [if_pos rfl, List.getElem?_eq_getElem hi]
        simp
      · rw [if_neg hj]
        have hj' : ¬ i = j := fun e => hj (e.symm)
        simp [hj']
    have hkF : ∀ q, keyIs2 q (F es.toList[i]) = (q == k) := fun q => rfl
    have hkey : ∀ q, keyIs2 q es.toList[i] = (q == k) := by
      intro q
      obtain ⟨n, hn⟩ := h.keys es.toList[i] (List.getElem_mem hi)
      rw [keyIs2_pair hn] at hki ⊢
      have : k = n := by simpa using hki
      rw [this]
    refine ⟨_, _, rfl, ?_, ?_, ?_, ?_, ?_⟩
    · intro e he
      rw [hlist] at he
      obtain ⟨j, hj⟩ := List.mem_iff_getElem?.1 he
      rw [hget] at hj
      split at hj
      · cases hj; exact ⟨k, rfl⟩
      · exact h.keys e (List.mem_of_getElem? hj)
    · intro q u
      rw [hlist]
      have hmem : ∀ e, e ∈ es.toList.modify i F ↔ ∃ j, (if j = i then some (F es.toList[i]) else es.toList[j]?) = some e := by
        intro e
        rw [List.mem_iff_getElem?]
        constructor <;> (rintro ⟨j, hj⟩; refine ⟨j, ?_⟩)
        · rw [← hget]; exact hj
        · rw [hget]; exact hj
      by_cases hq : q = k
      · subst hq
        rw [if_pos rfl]
        constructor
        · intro hu; cases hu
          exact ⟨F es.toList[i], (hmem _).2 ⟨i, by rw [if_pos rfl]⟩, by rw [hkF]; simp, rfl⟩
        · rintro ⟨e, he, h1, h2⟩
          obtain ⟨j, hj⟩ := (hmem e).1 he
          split at hj
          · cases hj; rw [← h2]
          · rename_i hji
            exact absurd (h.once j i e es.toList[i] q hj (List.getElem?_eq_getElem hi) h1 hki) hji
      · rw [if_neg hq, h.find]
        constructor
        · rintro ⟨e, he, h1, h2⟩
          obtain ⟨j, hj⟩ := List.mem_iff_getElem?.1 he
          refine ⟨e, (hmem e).2 ⟨j, ?_⟩, h1, h2⟩
          rw [if_neg]
          · exact hj
          · intro hji
            subst hji
            rw [List.getElem?_eq_getElem hi] at hj
            cases hj
            rw [hkey] at h1
            exact hq (by simpa using h1)
        · rintro ⟨e, he, h1, h2⟩
          obtain ⟨j, hj⟩ := (hmem e).1 he
          split at hj
          · cases hj
            rw [hkF] at h1
            exact absurd (by simpa using h1) hq
          · exact ⟨e, List.mem_of_getElem? hj, h1, h2⟩
    · rw [hlist]
      have : (es.toList.modify i F).map (·.born) = es.toList.map (·.born) := by
        apply List.ext_getElem?
        intro j
        rw [List.getElem?_map, List.getElem?_map, hget]
        split
        · rename_i hj; subst hj; rw [List.getElem?_eq_getElem hi]; rfl
        · rfl
      rw [this]; exact h.born
    · intro e he
      rw [hlist] at he
      obtain ⟨j, hj⟩ := List.mem_iff_getElem?.1 he
      rw [hget] at hj
      split at hj
      · cases hj; exact h.below es.toList[i] (List.getElem_mem hi)
      · exact h.below e (List.mem_of_getElem? hj)
    · intro a b e e' q ha hb hqa hqb
      rw [hlist] at ha hb
      rw [hget] at ha hb
      have hfix : ∀ (a : Nat) (e : MapEntry), (if a = i then some (F es.toList[i]) else es.toList[a]?) = some e → keyIs2 q e = true → ∃ e0, es.toList[a]? = some e0 ∧ keyIs2 q e0 = true := by
        intro a e ha hqa
        split at ha
        · rename_i hai; subst hai
          cases ha
          exact ⟨es.toList[a], List.getElem?_eq_getElem hi, by rw [hkey]; rw [hkF] at hqa; exact hqa⟩
        · exact ⟨e, ha, hqa⟩
      obtain ⟨e1, h1, h2⟩ := hfix a e ha hqa
      obtain ⟨e2, h3, h4⟩ := hfix b e' hb hqb
      exact h.once a b e1 e2 q h1 h3 h2 h4
def pmapAt (m : Nat) (f : Int × Int → Option Value) (k : Int × Int) (st : Int) : HP := ex fun es : Array MapEntry => ex fun clock : Nat => pr (MapOk2 es.toList clock f ∧ ∃ e ∈ es.toList, e.key = key2 k ∧ ((e.born : Nat) : Int) = st) * po m (.map es clock)
theorem wps_ent {enc : β → Value} {z : β} {k : β × Int → M α} {m : Nat} {j : Int × Int} {f : Int × Int → Option Value} (c : Option β) (hH : H = H' * pmap m f) (hc : f j = c.map enc)
    (h : ∀ st, wps g (H' * pmapAt m (fun i => if i = j then some (enc (c.getD z)) else f i) j st) (k (c.getD z, st)) Q) : wps g H (bindM (entM enc z (some m) j) k) Q := fun w a Qf ho ha hq => by
  rw [hH] at ha
  obtain ⟨es, clock, hm, ha⟩ := pmap_open ha
  refine ⟨m, es, clock, rfl, own_po ho ha, hm.keys, ?_⟩
  cases hf : es.toList.findIdx? (keyIs2 j) with
  | some i =>
    obtain ⟨hlt, hkey, _⟩ := List.findIdx?_eq_some_iff_getElem.1 hf
    have hmem : es.toList[i] ∈ es.toList := List.getElem_mem hlt
    have hfj : f j = some es.toList[i].val := (hm.find j _).2 ⟨_, hmem, hkey, rfl⟩
    cases c with
    | none => rw [hfj] at hc; cases hc
    | some y =>
      have hv : es.toList[i].val = enc y := by rw [hfj] at hc; exact Option.some.inj hc
      have hk2 : es.toList[i].key = key2 j := by
        obtain ⟨q, hq2⟩ := hm.keys _ hmem
        rw [keyIs2_pair hq2] at hkey
        rw [hq2, show j = q by simpa using hkey]
      refine .inl ⟨y, i, es.toList[i], rfl, List.getElem?_eq_getElem hlt, hv, ?_⟩
      obtain ⟨a', ho', ha'⟩ := own_put (.map es clock) (fun _ _ _ h => by cases h) ho ha
      refine h _ _ a' Qf ho' ?_ hq
      refine Ent.starr ?_ a' ha'
      refine ent_ex es (ent_ex clock (ent_prr ⟨?_, es.toList[i], hmem, hk2, rfl⟩ (Ent.refl _)))
      have : (fun i => if i = j then some (enc ((some y).getD z)) else f i) = f := by
        funext i
        by_cases hi : i = j
        · subst hi; rw [if_pos rfl, hfj, hv]; rfl
        · rw [if_neg hi]
      rw [this]; exact hm
  | none =>
    have hno : ∀ e ∈ es.toList, keyIs2 j e = false := by simpa [List.findIdx?_eq_none_iff] using hf
    cases c with
    | some y =>
      obtain ⟨e, he, h1, _⟩ := (hm.find j (enc y)).1 hc
      rw [hno e he] at h1; cases h1
    | none =>
      refine .inr ⟨rfl, ?_⟩
      obtain ⟨es', clock', he, hok⟩ := mapPut2_ok hm j (enc z)
      unfold mapPut2 at he
      rw [hf] at he
      simp only [Obj.map.injEq] at he
      obtain ⟨rfl, rfl⟩ := he
      obtain ⟨a', ho', ha'⟩ := own_put (.map (es.push { key := key2 j, val := enc z, born := clock }) (clock + 1)) (fun _ _ _ h => by cases h) ho ha
      refine h _ _ a' Qf ho' ?_ hq
      refine Ent.starr ?_ a' ha'
      exact ent_ex _ (ent_ex _ (ent_prr ⟨hok, { key := key2 j, val := enc z, born := clock }, by simp, rfl, rfl⟩ (Ent.refl _)))
theorem wps_entSt {k : Unit → M α} {m : Nat} {j : Int × Int} {st : Int} {v : Value} {f : Int × Int → Option Value} (hH : H = H' * pmapAt m f j st)
    (h : wps g (H' * pmap m (fun i => if i = j then some v else f i)) (k ()) Q) : wps g H (bindM (entStM (some m) st v) k) Q := fun w a Qf ho ha hq => by
  rw [hH] at ha
  obtain ⟨a1, a2, hd, hl, h1, es, clock, h2⟩ := ha
  obtain ⟨hm, e, he, hek, hst⟩ := ent_left _ _ a2 h2
  have ha : (H' * po m (.map es clock)).p a := ⟨a1, a2, hd, hl, h1, ent_right _ _ a2 h2⟩
  obtain ⟨i, hi, rfl⟩ := List.mem_iff_getElem.1 he
  have hp := List.pairwise_iff_getElem.1 hm.born
  have hidx : es.findIdx? (fun e => ((e.born : Nat) : Int) == st) = some i := by
    rw [show ∀ (xs : Array MapEntry) (p : MapEntry → Bool), xs.findIdx? p = xs.toList.findIdx? p from fun xs p => by cases xs; simp, List.findIdx?_eq_some_iff_getElem]
    refine ⟨hi, by simpa using hst, fun q hq => ?_⟩
    have := hp q i (by simpa using (by omega : q < es.toList.length)) (by simpa using hi) hq
    simp only [List.getElem_map] at this
    simp only [beq_iff_eq]
    omega
  refine ⟨m, es, clock, i, rfl, own_po ho ha, hidx, ?_⟩
  have hkj : keyIs2 j es.toList[i] = true := by rw [keyIs2_pair hek]; simp
  have hf : es.toList.findIdx? (keyIs2 j) = some i := by
    rw [List.findIdx?_eq_some_iff_getElem]
    refine ⟨hi, hkj, fun q hq hq2 => ?_⟩
    have := hm.once q i _ _ j (List.getElem?_eq_getElem (by omega)) (List.getElem?_eq_getElem hi) hq2 hkj
    omega
  obtain ⟨es', clock', he', hok⟩ := mapPut2_ok hm j v
  unfold mapPut2 at he'
  rw [hf] at he'
  simp only [Obj.map.injEq] at he'
  obtain ⟨rfl, rfl⟩ := he'
  have hsame : (es.modify i fun e => { e with key := key2 j, val := v }) = es.modify i fun e => { e with val := v } := by
    apply Array.ext_getElem?
    intro q
    rw [Array.getElem?_modify, Array.getElem?_modify]
    by_cases hqi : i = q
    · subst hqi
      rw [if_pos rfl, if_pos rfl]
      have : es[i]? = some es.toList[i] := by rw [← Array.getElem?_toList]; exact List.getElem?_eq_getElem hi
      rw [this]
      simp only [Option.map_some, hek]
    · rw [if_neg hqi, if_neg hqi]
  rw [hsame] at hok
  obtain ⟨a', ho', ha'⟩ := own_put (.map (es.modify i fun e => { e with val := v }) clock) (fun _ _ _ h => by cases h) ho ha
  exact h _ a' Qf ho' (pmap_close hok ha') hq
end
structure ItrOk2 (es : Array MapEntry) (clock : Nat) (seen : Array Nat) (f : Int × Int → Option Value) (V : Int × Int → Bool) : Prop where
  map : MapOk2 es.toList clock f
  seen : ∀ e ∈ es.toList, ∀ k, keyIs2 k e = true → seen.contains e.born = V k
def itrP (it m : Nat) (es : Array MapEntry) (clock : Nat) (seen : Array Nat) : HP := po it (.mapIter (some m) clock seen clock) * po m (.map es clock)
def itr2 (it m : Nat) (f : Int × Int → Option Value) (V : Int × Int → Bool) : HP := ex fun es : Array MapEntry => ex fun clock : Nat => ex fun seen : Array Nat => pr (ItrOk2 es clock seen f V) * itrP it m es clock seen
def itr2At (it m : Nat) (f : Int × Int → Option Value) (V : Int × Int → Bool) (j : Int × Int) (v : Value) : HP := ex fun es : Array MapEntry => ex fun clock : Nat => ex fun seen : Array Nat =>
  pr (ItrOk2 es clock seen f (fun i => V i || i == j) ∧ ∃ e ∈ es.toList, e.key = key2 j ∧ e.val = v ∧ seen.back? = some e.born) * itrP it m es clock seen
theorem MapOk2.one {es : List MapEntry} {clock : Nat} {f : Int × Int → Option Value} (h : MapOk2 es clock f) {e e' : MapEntry} (he : e ∈ es) (he' : e' ∈ es) (hb : e.born = e'.born) : e = e' := by
  obtain ⟨i, hi, rfl⟩ := List.mem_iff_getElem.1 he
  obtain ⟨j, hj, rfl⟩ := List.mem_iff_getElem.1 he'
  have hp := List.pairwise_iff_getElem.1 h.born
  rcases Nat.lt_trichotomy i j with hlt | heq | hgt
  · have := hp i j (by simpa using hi) (by simpa using hj) hlt
    simp only [List.getElem_map] at this
    omega
  · subst heq; rfl
  · have := hp j i (by simpa using hj) (by simpa using hi) hgt
    simp only [List.getElem_map] at this
    omega
section
variable {α β σ γ κ : Type} {g : Fr} {H H' : HP} {Q : α → HP}
theorem wps_rangeMap2 {k : Addr → M α} {m : Nat} {f : Int × Int → Option Value} (hH : H = H' * pmap m f) (h : ∀ it, wps g (H' * itr2 it m f (fun _ => false)) (k ⟨it, 0, none⟩) Q) : wps g H (bindM (rangeMapM (some m)) k) Q := fun w a Qf ho ha hq => by
  rw [hH] at ha
  obtain ⟨es, clock, hm, ha⟩ := pmap_open ha
  refine ⟨es, clock, own_po ho ha, ?_⟩
  have hpu := own_push ho (.mapIter (some m) clock #[] clock) (World.pushO w (.mapIter (some m) clock #[] clock)) rfl ⟨rfl, rfl⟩ (fun _ _ _ h => by cases h)
  have q1 : (H' * po m (.map es clock) * po w.heap.size (.mapIter (some m) clock #[] clock)).p _ := ⟨a, _, hpu.2, Hp.le_refl _, ha, by simp [po]⟩
  refine h w.heap.size _ _ Qf hpu.1 (?_ : HP.p _ _) hq
  refine Ent.trans (Ent.of_eq (star_assoc _ _ _)) (Ent.starr ?_) _ q1
  refine ent_ex es (ent_ex clock (ent_ex #[] (ent_prr ⟨hm, fun e he k hk => by simp⟩ ?_)))
  rw [star_comm]; exact Ent.refl _
theorem wps_next2 {k : Option (Value × Value) → M α} {it m : Nat} {f : Int × Int → Option Value} {V : Int × Int → Bool} (hH : H = H' * itr2 it m f V)
    (h0 : (∀ j v, f j = some v → V j = true) → wps g (H' * itr2 it m f V) (k none) Q)
    (h1 : ∀ j v, f j = some v → V j = false → wps g (H' * itr2At it m f V j v) (k (some (key2 j, v))) Q) : wps g H (bindM (nextM ⟨it, 0, none⟩) k) Q := fun w a Qf ho ha hq => by
  rw [hH] at ha
  obtain ⟨es, clock, seen, ha⟩ := ex3_open ha
  rw [star_left_comm] at ha
  have hok : ItrOk2 es clock seen f V := ent_left _ _ a ha
  have ha := ent_right _ _ a ha
  have ham : (H' * po it (.mapIter (some m) clock seen clock) * po m (.map es clock)).p a := by rw [star_assoc]; exact ha
  have hai : (H' * po m (.map es clock) * po it (.mapIter (some m) clock seen clock)).p a := by rw [star_right_comm]; exact ham
  have hmem := own_po ho ham
  have hit := own_po ho hai
  refine ⟨rfl, .inr ⟨m, clock, seen, clock, es, clock, hit, hmem, ?_, ?_, ?_⟩⟩
  · cases hes : es.isEmpty with
    | true => simp
    | false =>
      have : ¬ (es.all fun e => decide (e.born ≥ clock)) = true := by
        intro hall
        rw [Array.all_eq_true_iff_forall_mem] at hall
        have hne : es.size ≠ 0 := by
          intro h0; simp at h0; simp [h0] at hes
        have h1 := hall es[0] (Array.getElem_mem (by omega))
        have h2 := hok.map.below es[0] (by rw [Array.mem_toList_iff]; exact Array.getElem_mem (by omega))
        simp at h1; omega
      simp only [Bool.and_eq_false_iff]
      right
      simpa using this
  · unfold iterCands
    simp only
    split
    · simp
    · rename_i hne
      have h2 : 0 < ((iterLeft es seen).filter fun x => decide (x.born < clock)).size := by
        rw [Array.isEmpty_iff_size_eq_zero] at hne
        omega
      simp only [Array.size_append, Array.size_map]
      omega
  · intro c hc
    have hmemc : (c = none ∧ ∀ e ∈ es.toList, seen.contains e.born = true) ∨ ∃ e ∈ es.toList, seen.contains e.born = false ∧ c = some e := by
      unfold iterCands at hc
      simp only at hc
      rw [Array.mem_append] at hc
      rcases hc with hc | hc
      · split at hc
        · rename_i hem
          left
          refine ⟨by simpa using hc, fun e he => ?_⟩
          rw [Array.isEmpty_iff_size_eq_zero, Array.size_eq_zero_iff, Array.filter_eq_empty_iff] at hem
          cases hs : seen.contains e.born with
          | true => rfl
          | false =>
            have hl : e ∈ iterLeft es seen := by
              unfold iterLeft
              rw [Array.mem_filter]
              exact ⟨Array.mem_toList_iff.1 he, by simp only [hs]; rfl⟩
            exact absurd (decide_eq_true (hok.map.below e he)) (hem e hl)
        · simp at hc
      · right
        rw [Array.mem_map] at hc
        obtain ⟨e, he, rfl⟩ := hc
        have hl : e ∈ iterLeft es seen := by
          rw [Array.mem_append] at he
          rcases he with he | he
          · exact (Array.mem_filter.1 he).1
          · exact (Array.mem_filter.1 he).1
        unfold iterLeft at hl
        rw [Array.mem_filter] at hl
        exact ⟨e, Array.mem_toList_iff.2 hl.1, by simpa using hl.2, rfl⟩
    rcases hmemc with ⟨rfl, hall⟩ | ⟨e, he, hs, rfl⟩
    · have hall' : ∀ j v, f j = some v → V j = true := fun j v hj => by
        obtain ⟨e, he, hk, _⟩ := (hok.map.find j v).1 hj
        rw [← hok.seen e he j hk]
        exact hall e he
      have hpost : (H' * itr2 it m f V).p a := by
        refine Ent.starr ?_ a ha
        exact ent_ex es (ent_ex clock (ent_ex seen (ent_prr hok (Ent.refl _))))
      exact ⟨h0 hall' w a Qf ho hpost hq, h0 hall' (drawW w) a Qf (own_draw ho) hpost hq⟩
    · obtain ⟨j, hj⟩ := hok.map.keys e he
      have hkj : keyIs2 j e = true := by rw [keyIs2_pair hj]; simp
      have hfj : f j = some e.val := (hok.map.find j e.val).2 ⟨e, he, hkj, rfl⟩
      have hVj : V j = false := by rw [← hok.seen e he j hkj]; exact hs
      have hok' : ItrOk2 es clock (seen.push e.born) f (fun i => V i || i == j) := ⟨hok.map, fun e' he' i hi => by
        have h2 := hok.seen e' he' i hi
        obtain ⟨n', hn'⟩ := hok.map.keys e' he'
        have hni : i = n' := by rw [keyIs2_pair hn'] at hi; simpa using hi
        have hcp : (seen.push e.born).contains e'.born = (seen.contains e'.born || e'.born == e.born) := by
          rw [Bool.eq_iff_iff]; simp [Array.mem_push]
        rw [hcp, h2]
        congr 1
        by_cases hb : e'.born = e.born
        · have := hok.map.one he' he hb
          subst this
          have hjn : j = n' := by have h9 := congrArg pairOf (hj.symm.trans hn'); simpa only [pairOf_key2] using h9
          simp [hni, hjn]
        · have : ¬ i = j := by
            intro hij
            subst hij
            obtain ⟨x, hx⟩ := List.mem_iff_getElem?.1 he'
            obtain ⟨y, hy⟩ := List.mem_iff_getElem?.1 he
            have hxy := hok.map.once x y e' e i hx hy hi hkj
            subst hxy
            rw [hx] at hy
            exact hb (by rw [Option.some.inj hy])
          rw [show (e'.born == e.born) = false from by simpa using hb, show (i == j) = false from by simpa using this]⟩
      have step : ∀ w1, Own w1 a g → nextPost (fun y w' => k y Qf w') it m clock seen clock w1 (some e) := by
        intro w1 ho1
        obtain ⟨a', ho', ha'⟩ := own_put (.mapIter (some m) clock (seen.push e.born) clock) (fun _ _ _ h => by cases h) ho1 hai
        show k (some (e.key, e.val)) Qf _
        rw [hj]
        refine h1 j e.val hfj hVj _ a' Qf ho' ?_ hq
        refine Ent.trans (Ent.of_eq (star_assoc _ _ _)) (Ent.starr ?_) a' ha'
        refine ent_ex es (ent_ex clock (ent_ex (seen.push e.born) (ent_prr ⟨hok', e, he, hj, rfl, by simp⟩ ?_)))
        unfold itrP
        rw [star_comm]; exact Ent.refl _
      exact ⟨step w ho, step (drawW w) (own_draw ho)⟩
theorem wps_entry2 {ev : β → Value} {k : (Int × Int) × β → M α} {it m : Nat} {f : Int × Int → Option Value} {V : Int × Int → Bool} {j : Int × Int} {v : Value} (y : β) (hH : H = H' * itr2At it m f V j v) (hy : v = ev y)
    (h : wps g (H' * itr2 it m f (fun i => V i || i == j)) (k (j, y)) Q) : wps g H (bindM (entryM key2 ev ⟨it, 0, none⟩) k) Q := fun w a Qf ho ha hq => by
  rw [hH] at ha
  obtain ⟨es, clock, seen, ha⟩ := ex3_open ha
  rw [star_left_comm] at ha
  obtain ⟨hok, e, he, hk, hv, hb⟩ := ent_left _ _ a ha
  have ha := ent_right _ _ a ha
  have ham : (H' * po it (.mapIter (some m) clock seen clock) * po m (.map es clock)).p a := by rw [star_assoc]; exact ha
  have hai : (H' * po m (.map es clock) * po it (.mapIter (some m) clock seen clock)).p a := by rw [star_right_comm]; exact ham
  refine ⟨rfl, m, clock, seen, clock, es, clock, e.born, e, j, y, own_po ho hai, hb, own_po ho ham, rfl, ?_, hk, by rw [hv, hy], h w a Qf ho ?_ hq⟩
  · have : es.find? (fun x => x.born == e.born) = some e := by
      rw [← Array.find?_toList]
      cases hf : es.toList.find? (fun x => x.born == e.born) with
      | none =>
        rw [List.find?_eq_none] at hf
        exact absurd (by simp) (hf e he)
      | some e' =>
        have h1 := List.find?_some hf
        have h2 := List.mem_of_find?_eq_some hf
        rw [hok.map.one h2 he (by simpa using h1)]
    exact this
  · refine Ent.starr ?_ a ha
    exact ent_ex es (ent_ex clock (ent_ex seen (ent_prr hok (Ent.refl _))))
end
end Go.Mo
namespace Go.Proofs.Ytldmeimebebllaa
open Go.Mo
set_option linter.unusedVariables false
theorem w64_id {n : Int} (h : -9223372036854775808 ≤ n) (h' : n < 9223372036854775808) : w64 n = n := by
  unfold w64 IntKind.wrap
  simp only [IntKind.bits, IntKind.signed]
  by_cases hm : n % (2 : Int) ^ 64 ≥ (2 : Int) ^ (64 - 1)
  · simp only [hm, decide_true, Bool.true_and, if_true]; omega
  · simp only [hm, decide_false, Bool.and_false]; simp only [Bool.false_eq_true, if_false]; omega
abbrev G3 := Int × Int × Int
theorem geo_within_val {g : Fr} {H : HP} (n a b : Int) : Val g H (geo_within n a b) (decide (a ≤ n ∧ n ≤ b)) := by
  unfold geo_within
  refine val_eq (v := decide (a ≤ n ∧ n ≤ b)) (u := if decide (a ≤ n) = true then decide (n ≤ b) else false) ?_ (by by_cases h : a ≤ n <;> simp [h])
  repeat first | ((with_reducible apply wps_val); apply val_ite; rotate_left; refine fun (_ : ¬ _) => ?_; rotate_right; refine fun (_ : _ = true) => ?_) | (with_reducible exact wps_pure (ent_val rfl))
theorem geo_others_val {g : Fr} {H : HP} (p : G3) : Val g H (geo_others p) (w64 (1 + w64 (Int.tdiv p.2.2 8))) := by
  unfold geo_others
  repeat first | (with_reducible refine wps_alloc fun _ => ?_) | (refine wps_ld _ (by rfl) ?_) | (with_reducible exact wps_pure (ent_val rfl))
theorem geo_places_val {g : Fr} {H : HP} (p : G3) : Val g H (geo_places p) (w64 (w64 (p.2.1 * w64 (p.1 - 1)) - 1)) := by
  unfold geo_places
  repeat first | (with_reducible refine wps_alloc fun _ => ?_) | (refine wps_ld _ (by rfl) ?_) | (with_reducible exact wps_pure (ent_val rfl))
structure Bnd (p : G3) : Prop where
  d3 : 3 ≤ p.1
  d16 : p.1 ≤ 16
  r1 : 1 ≤ p.2.1
  r4 : p.2.1 ≤ 4
  s12 : 12 ≤ p.2.2
  s64 : p.2.2 ≤ 64
def othersI (p : G3) : Int := 1 + p.2.2 / 8
def placesI (p : G3) : Int := p.2.1 * (p.1 - 1) - 1
theorem Bnd.others {p : G3} (h : Bnd p) : w64 (1 + w64 (Int.tdiv p.2.2 8)) = othersI p ∧ 2 ≤ othersI p ∧ othersI p ≤ 9 := by
  have := h.s12
  have := h.s64
  rw [Int.tdiv_eq_ediv_of_nonneg (by omega), w64_id (n := p.2.2 / 8) (by omega) (by omega), w64_id (by omega) (by omega)]
  unfold othersI
  omega
theorem Bnd.mul {p : G3} (h : Bnd p) : 2 ≤ p.2.1 * (p.1 - 1) ∧ p.2.1 * (p.1 - 1) ≤ 60 := by
  have h1 := h.d3
  have h2 := h.d16
  have h3 := h.r1
  have h4 := h.r4
  have : p.2.1 = 1 ∨ p.2.1 = 2 ∨ p.2.1 = 3 ∨ p.2.1 = 4 := by omega
  rcases this with e | e | e | e <;> rw [e] <;> omega
theorem Bnd.places {p : G3} (h : Bnd p) : w64 (w64 (p.2.1 * w64 (p.1 - 1)) - 1) = placesI p ∧ 1 ≤ placesI p ∧ placesI p ≤ 59 := by
  have h1 := h.d3
  have h2 := h.d16
  have := h.mul
  rw [w64_id (n := p.1 - 1) (by omega) (by omega), w64_id (n := p.2.1 * (p.1 - 1)) (by omega) (by omega), w64_id (by omega) (by omega)]
  unfold placesI
  omega
theorem Bnd.prod {p : G3} (h : Bnd p) : w64 (othersI p * placesI p) = othersI p * placesI p := by
  have h1 := h.others.2
  have h2 := h.places.2
  have h3 : othersI p * placesI p ≤ 9 * 59 := Int.mul_le_mul h1.2 h2.2 (by omega) (by omega)
  have h4 : 0 ≤ othersI p * placesI p := Int.mul_nonneg (by omega) (by omega)
  rw [w64_id] <;> omega
def RightB (p : G3) : Bool := decide (3 ≤ p.1 ∧ p.1 ≤ 16) && (decide (1 ≤ p.2.1 ∧ p.2.1 ≤ 4) && (decide (12 ≤ p.2.2 ∧ p.2.2 ≤ 64) && decide (8 ≤ othersI p * placesI p)))
theorem RightB.bnd {p : G3} (h : RightB p = true) : Bnd p := by
  simp only [RightB, Bool.and_eq_true, decide_eq_true_eq] at h
  exact ⟨h.1.1, h.1.2, h.2.1.1, h.2.1.2, h.2.2.1.1, h.2.2.1.2⟩
theorem geo_Right_val {g : Fr} {H : HP} (p : G3) : Val g H (geo_Right p) (RightB p) := by
  unfold geo_Right
  repeat first | (with_reducible refine wps_stepV (geo_within_val _ _ _) ?_) | (with_reducible refine wps_alloc fun _ => ?_) | (refine wps_ldI _ (by rfl) ?_) | (with_reducible refine wps_regionH ?_)
  refine wps_ite (fun h1 => ?_) (fun h1 => ?_)
  · repeat first | (with_reducible refine wps_stepV (geo_within_val _ _ _) ?_) | (refine wps_ldI _ (by rfl) ?_)
    refine wps_ite (fun h2 => ?_) (fun h2 => ?_)
    · repeat first | (with_reducible refine wps_stepV (geo_within_val _ _ _) ?_) | (refine wps_ldI _ (by rfl) ?_)
      refine wps_ite (fun h3 => ?_) (fun h3 => ?_)
      · repeat first | (with_reducible refine wps_stepV (geo_others_val _) ?_) | (with_reducible refine wps_stepV (geo_places_val _) ?_) | (refine wps_ldGI _ _ _ (by rfl) ?_)
        refine wps_pure (ent_val ?_)
        simp only [decide_eq_true_eq] at h1 h2 h3
        have hb : Bnd p := ⟨h1.1, h1.2, h2.1, h2.2, h3.1, h3.2⟩
        simp only [hb.others.1, hb.places.1, hb.prod, RightB, h1, h2, h3]
        simp
      · refine wps_pure (ent_val ?_)
        simp only [RightB, h1, h2, h3]; simp
    · refine wps_pure (ent_val ?_)
      simp only [RightB, h1, h2]; simp
  · refine wps_pure (ent_val ?_)
    simp only [RightB, h1]; simp
def SectorsI (p : G3) : Int := if RightB p then 5 + p.2.2 * p.2.1 else 0
theorem Bnd.sect {p : G3} (h : Bnd p) : w64 (5 + w64 (p.2.2 * p.2.1)) = 5 + p.2.2 * p.2.1 ∧ 12 ≤ p.2.2 * p.2.1 ∧ p.2.2 * p.2.1 ≤ 256 := by
  have h1 := h.r1
  have h2 := h.r4
  have h3 := h.s12
  have h4 := h.s64
  have h5 : p.2.2 * p.2.1 ≤ 64 * 4 := Int.mul_le_mul h4 h2 (by omega) (by omega)
  have h6 : 12 * 1 ≤ p.2.2 * p.2.1 := Int.mul_le_mul h3 h1 (by omega) (by omega)
  rw [w64_id (n := p.2.2 * p.2.1) (by omega) (by omega), w64_id (by omega) (by omega)]
  omega
theorem geo_Sectors_val {g : Fr} {H : HP} (p : G3) : Val g H (geo_Sectors p) (SectorsI p) := by
  unfold geo_Sectors
  repeat first | (with_reducible refine wps_val (geo_Right_val _) ?_) | (with_reducible refine wps_alloc fun _ => ?_) | (refine wps_ldG _ _ _ (by rfl) ?_)
  refine wps_ite (fun h1 => ?_) (fun h1 => ?_)
  · refine wps_pure (ent_val ?_)
    simp only [Bool.not_eq_true'] at h1
    simp [SectorsI, h1]
  · repeat refine wps_ld _ (by rfl) ?_
    refine wps_pure (ent_val ?_)
    have h1 : RightB p = true := by simpa using h1
    rw [(RightB.bnd h1).sect.1]
    simp [SectorsI, h1]
theorem ref03_Right_val {g : Fr} {H : HP} (p : G3) : Val g H (ref03_Right p) (RightB p) := by
  unfold ref03_Right
  apply val_eq
  · repeat (first
      | (with_reducible refine wps_alloc fun _ => ?_)
      | (refine wps_ld _ (by rfl) ?_)
      | ((with_reducible apply wps_val); apply val_ite; rotate_left; refine fun (_ : ¬ _) => ?_; rotate_right; refine fun (_ : _ = true) => ?_)
      | ((with_reducible apply val_ite); rotate_left; refine fun (_ : ¬ _) => ?_; rotate_right; refine fun (_ : _ = true) => ?_)
      | (with_reducible exact wps_pure (ent_val rfl)))
  · by_cases h1 : 3 ≤ p.1
    · by_cases h2 : p.1 ≤ 16
      · by_cases h3 : 1 ≤ p.2.1
        · by_cases h4 : p.2.1 ≤ 4
          · by_cases h5 : 12 ≤ p.2.2
            · by_cases h6 : p.2.2 ≤ 64
              · have hb : Bnd p := ⟨h1, h2, h3, h4, h5, h6⟩
                simp only [hb.others.1, hb.places.1, hb.prod]
                simp [RightB, h1, h2, h3, h4, h5, h6, Int.not_lt]
              · simp [RightB, h6, Int.not_le.1 h6]
            · simp [RightB, h5, Int.not_le.1 h5]
          · simp [RightB, h4, Int.not_le.1 h4]
        · simp [RightB, h3, Int.not_le.1 h3]
      · simp [RightB, h2, Int.not_le.1 h2]
    · simp [RightB, h1, Int.not_le.1 h1]
theorem ref03_Sectors_val {g : Fr} {H : HP} (p : G3) : Val g H (ref03_Sectors p) (SectorsI p) := by
  unfold ref03_Sectors
  apply val_eq
  · repeat (first
      | (with_reducible refine wps_val (ref03_Right_val _) ?_)
      | (with_reducible refine wps_alloc fun _ => ?_)
      | (refine wps_ld _ (by rfl) ?_)
      | (refine wps_ldG _ _ _ (by rfl) ?_)
      | ((with_reducible apply val_ite); rotate_left; refine fun (_ : ¬ _) => ?_; rotate_right; refine fun (_ : _ = true) => ?_)
      | (with_reducible exact wps_pure (ent_val rfl)))
  · by_cases h1 : RightB p = true
    · simp [h1, SectorsI, (RightB.bnd h1).sect.1]
    · simp [h1, SectorsI]
def FitsB (p m : G3) : Bool := m.2.2 == 0 || ((m.2.2 == 1 || m.2.2 == 2) && (decide (0 ≤ m.2.1) && decide (m.2.1 < p.1)))
theorem bank_fits_val {g : Fr} {H : HP} (p m : G3) : Val g H (bank_fits p m) (FitsB p m) := by
  unfold bank_fits
  apply val_eq
  · repeat (first
      | (with_reducible refine wps_alloc fun _ => ?_)
      | (refine wps_ld _ (by rfl) ?_)
      | ((with_reducible apply wps_val); apply val_ite; rotate_left; refine fun (_ : ¬ _) => ?_; rotate_right; refine fun (_ : _ = true) => ?_)
      | ((with_reducible apply val_ite); rotate_left; refine fun (_ : ¬ _) => ?_; rotate_right; refine fun (_ : _ = true) => ?_)
      | ((with_reducible apply wps_bindV); apply val_iteL; rotate_left; refine fun (_ : ¬ _) => ?_; rotate_right; refine fun (_ : _ = true) => ?_)
      | (with_reducible exact wps_pure (ent_val rfl)))
  · simp only [FitsB]
    by_cases h0 : m.2.2 = 0
    · simp [h0]
    · by_cases h1 : m.2.2 = 1
      · simp [h1]
      · by_cases h2 : m.2.2 = 2
        · simp [h2]
        · simp [h0, h1, h2]
theorem ref06_Fits_val {g : Fr} {H : HP} (p m : G3) : Val g H (ref06_Fits p m) (FitsB p m) := by
  unfold ref06_Fits
  apply val_eq
  · repeat first | (with_reducible refine wps_alloc fun _ => ?_) | (refine wps_ld _ (by rfl) ?_) | ((with_reducible apply wps_val); apply val_ite; rotate_left; refine fun (_ : ¬ _) => ?_; rotate_right; refine fun (_ : _ = true) => ?_) | (with_reducible exact wps_pure (ent_val rfl))
  · simp only [FitsB]
    by_cases h0 : m.2.2 = 0
    · simp [h0]
    · by_cases h1 : m.2.2 = 1
      · simp [h1]
      · by_cases h2 : m.2.2 = 2
        · simp [h2]
        · have : ¬ (0 ≤ m.2.2 ∧ m.2.2 ≤ 2) := by omega
          by_cases h3 : 0 ≤ m.2.2
          · have h4 : ¬ m.2.2 ≤ 2 := fun h => this ⟨h3, h⟩
            simp [h0, h1, h2, h3, h4]
          · simp [h0, h1, h2, h3]
end Go.Proofs.Ytldmeimebebllaa
namespace Go.Proofs.Ytldmeimebebllaa
open Go.Mo
set_option linter.unusedVariables false
def imp (p : Prop) (A : HP) : HP := ⟨fun o => p → A.p o, fun hl h hp => A.up hl (h hp)⟩
instance (p : Prop) (A : HP) [h : Pers A] : Pers (imp p A) := ⟨fun o ho hp => h.core o (ho hp)⟩
def bv (b : List Int) : List Value := b.map (Value.int .u8)
def byt (s : Slc) (b : List Int) : HP := rsl 1 s (bv b)
instance (s : Slc) (b : List Int) : Pers (byt s b) := by unfold byt; infer_instance
theorem bv_one (b : List Int) : ∀ v ∈ bv b, v.oneCell' = true := by
  intro v hv
  simp only [bv, List.mem_map] at hv
  obtain ⟨n, _, rfl⟩ := hv
  rfl
def seqp (l : List Slc) (f : Nat → List Int) : HP := al fun k : Nat => al fun s : Slc => imp (l[k]? = some s) (byt s (f k))
instance (l : List Slc) (f : Nat → List Int) : Pers (seqp l f) := by unfold seqp; infer_instance
theorem seqp_nil (A : HP) (f : Nat → List Int) : Ent A (seqp [] f) := fun o _ k s h => by simp at h
theorem seqp_get {l : List Slc} {f : Nat → List Int} {k : Nat} {s : Slc} (h : l[k]? = some s) : Ent (seqp l f) (byt s (f k)) := fun o ho => ho k s h
theorem seqp_snoc {A : HP} {l : List Slc} {f : Nat → List Int} {s : Slc} (h : Ent A (seqp l f)) (hs : Ent A (byt s (f l.length))) : Ent A (seqp (l ++ [s]) f) := fun o ho k t hk => by
  by_cases hlt : k < l.length
  · rw [List.getElem?_append_left hlt] at hk
    exact h o ho k t hk
  · have : k = l.length := by
      have := (List.getElem?_eq_some_iff.1 hk).1
      simp only [List.length_append, List.length_singleton] at this
      omega
    subst this
    simp at hk
    subst hk
    exact hs o ho
theorem seqp_set {A : HP} {l : List Slc} {f : Nat → List Int} {k : Nat} {s : Slc} {b : List Int} (h : Ent A (seqp l f)) (hs : Ent A (byt s b)) : Ent A (seqp (l.set k s) (fun j => if j = k then b else f j)) := fun o ho j t hj => by
  by_cases hjk : j = k
  · subst hjk
    rw [List.getElem?_set] at hj
    simp only [if_true] at hj
    split at hj
    · cases hj; simp only [if_true]; exact hs o ho
    · cases hj
  · rw [List.getElem?_set_ne (fun e => hjk e.symm)] at hj
    simp only [if_neg hjk]
    exact h o ho j t hj
def cachep (sc : Int → Slc) (c : Int → Option (List Int)) : HP := al fun k : Int => al fun b : List Int => imp (c k = some b) (byt (sc k) b)
instance (sc : Int → Slc) (c : Int → Option (List Int)) : Pers (cachep sc c) := by unfold cachep; infer_instance
theorem cachep_nil (A : HP) (sc : Int → Slc) : Ent A (cachep sc fun _ => none) := fun o _ k b h => by cases h
theorem cachep_get {sc : Int → Slc} {c : Int → Option (List Int)} {k : Int} {b : List Int} (h : c k = some b) : Ent (cachep sc c) (byt (sc k) b) := fun o ho => ho k b h
def bst : Nat → (Nat → HP) → HP
  | 0, _ => emp
  | n + 1, F => bst n F * F n
theorem bst_congr {n : Nat} {F F' : Nat → HP} (h : ∀ i, i < n → F i = F' i) : bst n F = bst n F' := by
  induction n with
  | zero => rfl
  | succ n ih => simp only [bst]; rw [ih fun i hi => h i (by omega), h n (by omega)]
def hole (j : Nat) (F : Nat → HP) : Nat → HP := fun i => if i = j then emp else F i
theorem bst_focus {n j : Nat} (F : Nat → HP) (hj : j < n) : bst n F = bst n (hole j F) * F j := by
  induction n with
  | zero => omega
  | succ n ih =>
    simp only [bst]
    by_cases h : j = n
    · subst h
      have : bst j (hole j F) = bst j F := bst_congr fun i hi => by simp only [hole]; rw [if_neg (by omega)]
      rw [this]
      simp only [hole, if_true, star_emp]
    · rw [ih (by omega), star_right_comm]
      congr 1
      simp only [hole]
      rw [if_neg (fun e => h e.symm)]
theorem hole_congr {n j : Nat} {F F' : Nat → HP} (h : ∀ i, i < n → i ≠ j → F i = F' i) : bst n (hole j F) = bst n (hole j F') := bst_congr fun i hi => by
  simp only [hole]
  split
  · rfl
  · rename_i hne; exact h i hi hne
theorem bst_put {n j : Nat} {F F' : Nat → HP} (hj : j < n) (h : ∀ i, i < n → i ≠ j → F i = F' i) : bst n F' = bst n (hole j F) * F' j := by
  rw [bst_focus F' hj, hole_congr h]
theorem ent_bst {n j : Nat} {F F' : Nat → HP} {B H : HP} (hj : j < n) (h : ∀ i, i < n → i ≠ j → F i = F' i) (h' : Ent H (B * bst n (hole j F) * F' j)) : Ent H (B * bst n F') := by
  rw [bst_put hj h, ← star_assoc]; exact h'
structure Dk where
  lasts : Nat → List Int
  cached : Int → Option (List Int)
  failed : Bool
  count : Int
def Dk.ok (D : Dk) (ns : Nat) : Prop := (∀ k, k < ns → (D.lasts k).length = 64) ∧ ∀ j b, D.cached j = some b → b.length = 64 ∧ 0 ≤ j ∧ j < ns
structure Rk where
  n : Nat
  ns : Nat
  dk : Nat → Dk
  count : Int
  off : Bool
def pv (b : Nat) : Value := .pointer (some ⟨b, 0, none⟩)
def dskX (ns p : Nat) (D : Dk) (ls : Slc) (mb : Nat) (sl : List Slc) (sc : Int → Slc) : HP :=
  pr (sl.length = ns ∧ ls.len = ns ∧ D.ok ns) * (seqp sl D.lasts * cachep sc D.cached) * imap mb (fun j => (D.cached j).map fun _ => vS (sc j)) * own 1 ls (sl.map vS) * pc p [vS ls, .map (some mb), .bool D.failed, .int .i64 D.count]
def dskAt (ns p : Nat) (D : Dk) : HP := ex fun ls : Slc => ex fun mb : Nat => ex fun sl : List Slc => ex fun sc : Int → Slc => dskX ns p D ls mb sl sc
def rackF (ns : Nat) (dk : Nat → Dk) (ps : List Nat) : Nat → HP := fun j => dskAt ns (ps.getD j 0) (dk j)
def rackP (rb : Nat) (R : Rk) (ds : Slc) (ps : List Nat) : HP :=
  pr (ps.length = R.n ∧ ds.len = R.n ∧ R.n ≤ 17 ∧ R.ns ≤ 4096) * bst R.n (rackF R.ns R.dk ps) * own 1 ds (ps.map pv) * pc rb [vS ds, .int .i64 R.ns, .int .i64 R.count, .bool R.off]
def rack (rb : Nat) (R : Rk) : HP := ex fun ds : Slc => ex fun ps : List Nat => rackP rb R ds ps
def noughts : List Int := List.replicate 64 0
def Dk.new : Dk := ⟨fun _ => noughts, fun _ => none, false, -1⟩
def Rk.new (n s : Nat) : Rk := ⟨n, s, fun _ => Dk.new, -1, false⟩
abbrev ptr (b : Nat) : Option Addr := some ⟨b, 0, none⟩
end Go.Proofs.Ytldmeimebebllaa
namespace Go.Proofs.Ytldmeimebebllaa
open Go.Mo
set_option linter.unusedVariables false
theorem range_add1 {n : Nat} {i : Int} (h : i = (n : Int)) (h2 : n < 4611686018427387904) : w64 (i + 1) = ((n + 1 : Nat) : Int) := by
  subst h; rw [w64_id] <;> omega
theorem bv_noughts : bv noughts = List.replicate 64 (Value.int .u8 0) := by simp [bv, noughts]
def dwd (p0_disks p1_sectors : Int) (x24 : Nat) : Int → HP := fun i => ex fun ds : Slc => ex fun ps : List Nat =>
  pr (i = (ps.length : Int) ∧ ps.length ≤ p0_disks.toNat ∧ ds.len = ps.length) * bst ps.length (rackF p1_sectors.toNat (fun _ => Dk.new) ps) * own 1 ds (ps.map pv) * pc x24 [vS ds, .int .i64 p1_sectors, .int .i64 (-1), .bool false]
def dws (p1_sectors : Int) (F : HP) (d m : Nat) : Int → HP := fun k => ex fun ls : Slc => ex fun sl : List Slc =>
  pr (k = (sl.length : Int) ∧ sl.length ≤ p1_sectors.toNat ∧ ls.len = sl.length) * F * seqp sl (fun _ => noughts) * imap m (fun _ => none) * own 1 ls (sl.map vS) * pc d [vS ls, .map (some m), .bool false, .int .i64 (-1)]
theorem device_New_spec {g : Fr} (n s : Int) : wps g emp (device_New n s) (fun x =>
    if n < 1 ∨ n > 17 ∨ s < 1 ∨ s > 4096 then pr (x = (none, 10)) else ex fun rb => pr (x = (ptr rb, 0)) * rack rb (Rk.new n.toNat s.toNat)) := by
  unfold device_New
  repeat first | ((with_reducible apply wps_val); apply val_ite; rotate_left; refine fun (_ : ¬ _) => ?_; rotate_right; refine fun (_ : _ = true) => ?_) | (with_reducible exact wps_pure (ent_val rfl))
  refine wps_ite (fun h1 => ?_) (fun h1 => ?_)
  · refine wps_pure ?_
    rw [if_pos]
    · exact fun _ _ => rfl
    · by_cases a1 : n < 1
      · exact .inl a1
      · by_cases a2 : n > 17
        · exact .inr (.inl a2)
        · by_cases a3 : s < 1
          · exact .inr (.inr (.inl a3))
          · by_cases a4 : s > 4096
            · exact .inr (.inr (.inr a4))
            · simp [a1, a2, a3, a4] at h1
  · have hb : ¬ (n < 1 ∨ n > 17 ∨ s < 1 ∨ s > 4096) := by
      intro hx
      apply h1
      rcases hx with a | a | a | a <;> simp [a]
    simp only [if_neg hb]
    obtain ⟨N, rfl⟩ : ∃ N : Nat, n = (N : Int) := ⟨n.toNat, by omega⟩
    obtain ⟨S, rfl⟩ : ∃ S : Nat, s = (S : Int) := ⟨s.toNat, by omega⟩
    have hN : N ≤ 17 := by omega
    have hS : S ≤ 4096 := by omega
    refine wps_alloc fun x24 => ?_
    refine wps_loop (dwd N S x24) (fun i => (N - i).toNat) ?_ fun i => ?_
    · refine ent_ex nilS (ent_ex [] (ent_pickC (by rfl) (ent_own0 ?_)))
      exact ent_prr (by simp [nilS]) (ent_emp _)
    · unfold dwd
      refine wps_ex fun ds => wps_ex fun ps => wps_prP fun ⟨hi, hle, hlen⟩ => ?_
      refine wps_ite (fun h2 => ?_) (fun h2 => ?_)
      · have hlt : ps.length < N := by simp only [decide_eq_true_eq] at h2; omega
        repeat first | (with_reducible refine wps_alloc fun _ => ?_) | (with_reducible refine wps_newO fun _ => ?_)
        rename_i m d
        refine wps_loop (dws S (bst ps.length (rackF (S : Int).toNat (fun _ => Dk.new) ps) * own 1 ds (ps.map pv) * pc x24 [vS ds, .int .i64 S, .int .i64 (-1), .bool false]) d m) (fun k => (S - k).toNat) ?_ fun k => ?_
        · refine ent_ex nilS (ent_ex [] (ent_pickC (by rfl) (ent_own0 ?_)))
          refine ent_swap (imap_new m) (ent_pick (ent_pers ?_ (seqp_nil _ _)))
          exact ent_prr (by simp [nilS]) (Ent.of_eq (by simp only [emp_star]))
        · unfold dws
          refine wps_ex fun ls => wps_ex fun sl => wps_prP fun ⟨hk, hsle, hslen⟩ => ?_
          refine wps_ite (fun h3 => ?_) (fun h3 => ?_)
          · have hslt : sl.length < S := by simp only [decide_eq_true_eq] at h3; omega
            repeat first | (with_reducible refine wps_stepAlloc fun _ => ?_) | (refine wps_ldI _ (by rfl) ?_) | (with_reducible refine wps_regionH ?_)
            rename_i x c
            refine wps_app 1 [Value.slice (some ⟨x, 0, none⟩) 64 64] rfl (by decide) (rsl_pc rfl) (by simp [Value.oneCell']) (by (try dsimp only); omega) fun ls' hls => ?_
            repeat refine wps_st (by simp) ?_
            refine wps_pure (ent_prr (by rw [range_add1 hk (by omega)]; omega) (ent_ex ls' (ent_ex (sl ++ [⟨some ⟨x, 0, none⟩, 64, 64⟩]) (ent_pickC (by rfl) (ent_pickS (by simp [vS]) (ent_pickM rfl ?_))))))
            refine ent_swap (A := pc x (List.replicate 64 (Value.int .u8 0))) (B := byt ⟨some ⟨x, 0, none⟩, 64, 64⟩ noughts) (Ent.trans (Ent.trans (pc_own (n := 64) (z := 1) (by simp)) (own_rsl _ _ _)) (Ent.of_eq (by rw [byt, bv_noughts]))) ?_
            exact ent_join (A := seqp sl fun _ => noughts) (B := byt ⟨some ⟨x, 0, none⟩, 64, 64⟩ noughts) (seqp_snoc (ent_left _ _) (ent_right _ _)) (ent_prr ⟨by rw [range_add1 hk (by omega)]; simp, by simp; omega, by simp [hls, hslen]⟩ ent_drop)
          · have hse : sl.length = S := by simp only [decide_eq_true_eq] at h3; omega
            refine wps_mapR ?_
            repeat first | (with_reducible refine wps_alloc fun _ => ?_) | (refine wps_ld _ (by rfl) ?_)
            rename_i c
            refine wps_app 1 [pv d] rfl (by decide) (rsl_pc rfl) (by simp [Value.oneCell', pv]) (by (try dsimp only); omega) fun ds' hds => ?_
            repeat refine wps_st (by simp) ?_
            refine wps_pure (ent_prr (by rw [range_add1 hi (by omega)]; omega) (ent_ex ds' (ent_ex (ps ++ [d]) (ent_pickC (by rfl) (ent_pickS (by simp [pv]) ?_)))))
            have hdk : Ent (seqp sl (fun _ => noughts) * imap m (fun _ => none) * own 1 ls (sl.map vS) * pc d [vS ls, .map (some m), .bool false, .int .i64 (-1)]) (dskAt S d Dk.new) := by
              refine ent_ex ls (ent_ex m (ent_ex sl (ent_ex (fun _ => nilS) (ent_pickC (by rfl) (ent_pick (ent_pickM (by rfl) ?_))))))
              refine ent_prr ⟨hse, by omega, fun k _ => by simp [Dk.new, noughts], fun j b hj => by cases hj⟩ ?_
              exact ent_pers (Ent.refl _) (cachep_nil _ _)
            have hbb : bst (ps ++ [d]).length (rackF (S : Int).toNat (fun _ => Dk.new) (ps ++ [d])) = bst ps.length (rackF (S : Int).toNat (fun _ => Dk.new) ps) * dskAt S d Dk.new := by
              rw [List.length_append, List.length_singleton]
              simp only [bst]
              congr 1
              · exact bst_congr fun i hi => by simp [rackF, List.getD_eq_getElem?_getD, List.getElem?_append_left hi]
              · simp [rackF, List.getD_eq_getElem?_getD]
            rw [hbb]
            refine ent_prr ⟨by rw [range_add1 hi (by omega)]; simp, by simp; omega, by simp [hds, hlen]⟩ ?_
            refine Ent.trans (B := bst ps.length (rackF (S : Int).toNat (fun _ => Dk.new) ps) * (seqp sl (fun _ => noughts) * imap m (fun _ => none) * own 1 ls (sl.map vS) * pc d [vS ls, .map (some m), .bool false, .int .i64 (-1)])) ?_ (Ent.starr hdk)
            simp only [← star_assoc]
            refine ent_pick (ent_pick (ent_pick (ent_pick (ent_drop))))
      · have hpe : ps.length = N := by simp only [decide_eq_true_eq] at h2; omega
        refine wps_mapR (wps_pure (ent_ex x24 (ent_prr rfl (ent_ex ds (ent_ex ps (ent_pickC (by rfl) (ent_pick ?_)))))))
        exact ent_prr ⟨hpe, by rw [hlen, hpe]; rfl, hN, hS⟩ (by subst hpe; exact ent_pick1 (A := bst ps.length (rackF (S : Int).toNat (fun _ => Dk.new) ps)))
end Go.Proofs.Ytldmeimebebllaa
namespace Go.Proofs.Ytldmeimebebllaa
open Go.Mo
set_option linter.unusedVariables false
def diskV (R : Rk) (ps : List Nat) (k s : Int) : Option Addr × Int :=
  if R.off then (none, 12) else if k < 0 ∨ k ≥ R.n ∨ s < 0 ∨ s ≥ R.ns then (none, 11) else (ptr (ps.getD k.toNat 0), 0)
variable {g : Fr}
theorem or_tree {a b c d : Prop} [Decidable a] [Decidable b] [Decidable c] [Decidable d] :
    ((if (if (if decide a = true then true else decide b) = true then true else decide c) = true then true else decide d) = true) = (a ∨ b ∨ c ∨ d) := by
  by_cases ha : a <;> by_cases hb : b <;> by_cases hc : c <;> by_cases hd : d <;> simp [ha, hb, hc, hd]
theorem device_Rack_disk_val (rb : Nat) (R : Rk) (ds : Slc) (ps : List Nat) (k s : Int) : Val g (rackP rb R ds ps) (device_Rack_disk (ptr rb) k s) (diskV R ps k s) := by
  unfold device_Rack_disk rackP
  refine wps_factP fun ⟨h1, h2, h17, hns⟩ => ?_
  repeat first | (with_reducible refine wps_nil ?_) | (refine wps_ld _ (by rfl) ?_)
  refine wps_ite (fun ho => wps_pure (ent_val ?_)) (fun ho => ?_)
  · simp [diskV, ho]
  · repeat first | (with_reducible refine wps_nil ?_) | (refine wps_ld _ (by rfl) ?_) | ((with_reducible apply wps_val); apply val_ite; rotate_left; refine fun (_ : ¬ _) => ?_; rotate_right; refine fun (_ : _ = true) => ?_) | (with_reducible exact wps_pure (ent_val rfl))
    refine wps_ite (fun hx => wps_pure (ent_val ?_)) (fun hx => ?_)
    · rw [or_tree, h2] at hx
      simp only [diskV, if_neg ho, if_pos hx]
    · rw [or_tree, h2] at hx
      repeat first | (with_reducible refine wps_nil ?_) | (refine wps_ld _ (by rfl) ?_)
      have hk : k.toNat < R.n := by omega
      refine wps_rdS k.toNat (ptr (ps.getD k.toNat 0)) (by omega) ?_ ?_
      · rw [List.getElem?_map, List.getElem?_eq_getElem (by omega)]
        simp [pv, List.getD_eq_getElem?_getD, List.getElem?_eq_getElem (show k.toNat < ps.length by omega)]
      · refine wps_pure (ent_val ?_)
        simp only [diskV, if_neg ho, if_neg hx]
abbrev Dk.tick (D : Dk) : Dk := { D with failed := if D.failed = true then true else D.count == 0, count := maxI (w64 (D.count - 1)) (-1) }
def Rk.ticked (R : Rk) : Rk := if R.count = 0 then { R with off := true } else { R with count := maxI (w64 (R.count - 1)) (-1), dk := fun j => (R.dk j).tick }
def Rk.part (R : Rk) (i : Nat) : Nat → Dk := fun j => if j < i then (R.dk j).tick else R.dk j
theorem device_Rack_call_spec (rb : Nat) (R : Rk) (ds : Slc) (ps : List Nat) : wps g (rackP rb R ds ps) (device_Rack_call (ptr rb)) (fun b => pr (b = (R.count != 0)) * rackP rb R.ticked ds ps) := by
  unfold device_Rack_call rackP
  refine wps_prP fun ⟨h1, h2, h17, hns⟩ => ?_
  repeat first | (with_reducible refine wps_nil ?_) | (refine wps_ld _ (by rfl) ?_)
  refine wps_ite (fun ho => ?_) (fun ho => ?_)
  · repeat first | (with_reducible refine wps_nil ?_) | (refine wps_st (by simp) ?_)
    have ho' : R.count = 0 := by simpa using ho
    refine wps_pure (ent_prr (by simp [ho']) ?_)
    simp only [Rk.ticked, if_pos ho']
    refine ent_pickC (by simp [ho']) (ent_pick (ent_pick (ent_prq ⟨h1, h2, h17, hns⟩)))
  · repeat first | (with_reducible refine wps_nil ?_) | (refine wps_ld _ (by rfl) ?_) | (refine wps_st (by simp) ?_)
    have ho' : R.count ≠ 0 := by simpa using ho
    refine wps_loop (fun i => ex fun n : Nat => pr (i = (n : Int) ∧ n ≤ R.n) * bst R.n (rackF R.ns (R.part n) ps) * own 1 ds (ps.map pv) * pc rb [vS ds, .int .i64 R.ns, .int .i64 (maxI (w64 (R.count - 1)) (-1)), .bool R.off]) (fun i => (R.n - i).toNat) ?_ fun i => ?_
    · refine ent_ex 0 (ent_pickC (by rfl) (ent_pick ?_))
      refine ent_prr ⟨rfl, by omega⟩ ?_
      exact Ent.trans (ent_drop (B := bst R.n (rackF R.ns R.dk ps))) (Ent.of_eq (bst_congr fun j _ => by simp [rackF, Rk.part]))
    · refine wps_ex fun n => wps_prP fun ⟨hi, hle⟩ => ?_
      refine wps_ite (fun hc => ?_) (fun hc => ?_)
      · have hlt : n < R.n := by simp only [decide_eq_true_eq, h2] at hc; omega
        refine wps_rdS n (ptr (ps.getD n 0)) (by omega) ?_ ?_
        · rw [List.getElem?_map, List.getElem?_eq_getElem (by omega)]
          simp [pv, List.getD_eq_getElem?_getD, List.getElem?_eq_getElem (show n < ps.length by omega)]
        · rw [bst_focus _ hlt]
          simp only [rackF, dskAt, dskX]
          refine wps_exP fun ls => wps_exP fun mb => wps_exP fun sl => wps_exP fun sc => wps_prP fun hd => ?_
          repeat (first
            | (with_reducible refine wps_nil ?_)
            | (refine wps_ld _ (by rfl) ?_)
            | (refine wps_st (by simp) ?_)
            | ((with_reducible apply wps_val); apply val_ite; rotate_left; refine fun (_ : ¬ _) => ?_; rotate_right; refine fun (_ : _ = true) => ?_)
            | (with_reducible exact wps_pure (ent_val rfl)))
          refine wps_pure (ent_prr (by rw [range_add1 hi (by omega)]; omega) (ent_ex (n + 1) (ent_pickC (by rfl) (ent_pick ?_))))
          have hpart : ∀ i, i < R.n → i ≠ n → rackF R.ns (R.part n) ps i = rackF R.ns (R.part (n + 1)) ps i := by
            intro i _ hne
            have : i < n + 1 ↔ i < n := by omega
            simp only [rackF, Rk.part, this]
          refine ent_bst hlt hpart ?_
          have hpn : R.part (n + 1) n = (R.part n n).tick := by simp [Rk.part]
          simp only [rackF, hpn, dskAt]
          refine ent_exr ls ?_
          refine ent_exr mb ?_
          refine ent_exr sl ?_
          refine ent_exr sc ?_
          simp only [dskX, ← star_assoc]
          exact ent_pickC (by rfl) (ent_pick (ent_pick (ent_pick (ent_pick (ent_prx hd (ent_pick (ent_prq ⟨range_add1 hi (by omega), by omega⟩)))))))
      · have hne : n = R.n := by simp only [decide_eq_true_eq, h2] at hc; omega
        refine wps_mapR (wps_pure ?_)
        refine ent_prr (by simp [ho']) ?_
        simp only [Rk.ticked, if_neg ho']
        refine ent_pickC (by rfl) (ent_pick ?_)
        rw [bst_congr (F := rackF R.ns (fun j => (R.dk j).tick) ps) (F' := rackF R.ns (R.part n) ps) fun j hj => by simp [rackF, Rk.part, hne, hj]]
        exact ent_pick (ent_prq ⟨h1, h2, h17, hns⟩)
theorem rackP_focus (rb : Nat) (R : Rk) (ds : Slc) (ps : List Nat) {j : Nat} (hj : j < R.n) : rackP rb R ds ps =
    pr (ps.length = R.n ∧ ds.len = R.n ∧ R.n ≤ 17 ∧ R.ns ≤ 4096) * bst R.n (hole j (rackF R.ns R.dk ps)) * own 1 ds (ps.map pv) * pc rb [vS ds, .int .i64 R.ns, .int .i64 R.count, .bool R.off] * dskAt R.ns (ps.getD j 0) (R.dk j) := by
  unfold rackP
  rw [bst_focus _ hj]
  simp only [← star_assoc]
  rw [star_right_comm _ (rackF R.ns R.dk ps j), star_right_comm _ (rackF R.ns R.dk ps j)]
  rfl
theorem rackP_val {α : Type} {rb : Nat} {R : Rk} {ds : Slc} {ps : List Nat} {j : Nat} {m : M α} {v : α} (hj : j < R.n) (h : ∀ g', Val g' (dskAt R.ns (ps.getD j 0) (R.dk j)) m v) : Val g (rackP rb R ds ps) m v :=
  val_frame h (rackP_focus rb R ds ps hj)
theorem pv_get {ps : List Nat} {j : Nat} (h : j < ps.length) : (ps.map pv)[j]? = some (Value.pointer (ptr (ps.getD j 0))) := by
  rw [List.getElem?_map, List.getElem?_eq_getElem h]
  simp [pv, List.getD_eq_getElem?_getD, List.getElem?_eq_getElem h]
theorem dsk_failed {ns p : Nat} {D : Dk} : Val g (dskAt ns p D) (ld Value.bool ⟨p, 2, none⟩) D.failed := by
  show wps g _ (bindM (ld Value.bool ⟨p, 2, none⟩) pureM) _
  unfold dskAt dskX
  refine wps_ex fun ls => wps_ex fun mb => wps_ex fun sl => wps_ex fun sc => ?_
  repeat refine wps_ld _ (by rfl) ?_
  exact wps_pure (ent_prr rfl (ent_ex ls (ent_ex mb (ent_ex sl (ent_ex sc (Ent.refl _))))))
theorem len_of {H : HP} {s : Slc} {b : List Int} (h : Ent H (byt s b)) : Ent H (pr (b.length = s.len)) := Ent.trans h (Ent.trans (rsl_len 1 s (bv b)) fun o ho => by
  have : (bv b).length = s.len * 1 := ho
  show b.length = s.len
  simpa [bv] using this)
theorem slices_Clone_b_spec {H : HP} {s : Slc} {b : List Int} (hx : Ent H (byt s b)) (hb : b.length ≤ 1099511627776) : wps g H (slices_Clone_b s) (fun s' => H * own 1 s' (bv b)) := by
  unfold slices_Clone_b
  refine wps_fact (len_of hx) fun hl => ?_
  refine wps_ite (fun hn => ?_) (fun hn => ?_)
  · refine wps_pure ?_
    obtain ⟨base, len, cap⟩ := s
    have : base = none := by simpa using hn
    subst this
    refine Ent.trans (Ent.of_eq (star_emp H).symm) ?_
    have hb0 : Ent H (pr (b = [])) := Ent.trans hx fun o ho => by
      rcases ho with ho | ⟨ad, all, ho⟩
      · have : bv b = [] := ho.2
        simpa [bv, pr] using this
      · have := (ent_left _ _ o ho).1
        cases this
    refine ent_pure (p := b = []) (Ent.trans (ent_left _ _) hb0) fun e => ?_
    subst e
    exact Ent.starr (own_nil 1)
  · repeat with_reducible refine wps_alloc fun _ => ?_
    rename_i c
    refine wps_swap (A := pc c []) (B := own 1 ⟨some ⟨c, 0, none⟩, 0, 0⟩ []) (pc_own (n := 0) (z := 1) rfl) ?_
    refine wps_app 1 (bv b) rfl (by decide) (Ent.trans (ent_left _ _) hx) (bv_one b) (by (try dsimp only); omega) fun s' hs' => ?_
    exact wps_pure (Ent.of_eq (by simp))
def Rk.gate (R : Rk) (k s size : Int) : Int :=
  if R.off then 12 else if k < 0 ∨ k ≥ R.n ∨ s < 0 ∨ s ≥ R.ns then 11 else if size ≠ 64 then 11 else if R.count = 0 then 12 else if (R.ticked.dk k.toNat).failed then 13 else 0
def Rk.gated (R : Rk) (k s size : Int) : Rk := if R.off = true ∨ (k < 0 ∨ k ≥ R.n ∨ s < 0 ∨ s ≥ R.ns) ∨ size ≠ 64 then R else R.ticked
def gateV (R : Rk) (ps : List Nat) (k s size : Int) : Option Addr × Int := (if R.gate k s size = 0 then ptr (ps.getD k.toNat 0) else none, R.gate k s size)
theorem device_Rack_counted_spec (rb : Nat) (R : Rk) (ds : Slc) (ps : List Nat) (k s size : Int) : wps g (rackP rb R ds ps) (device_Rack_counted (ptr rb) k s size)
    (fun x => pr (x = gateV R ps k s size) * rackP rb (R.gated k s size) ds ps) := by
  unfold device_Rack_counted
  refine wps_val (device_Rack_disk_val _ _ _ _ _ _) ?_
  by_cases ho : R.off = true
  · have hd : diskV R ps k s = (none, 12) := by simp [diskV, ho]
    rw [hd]
    refine wps_ite (fun _ => wps_pure (ent_prr ?_ (Ent.of_eq ?_))) (fun h => absurd rfl h)
    · simp [gateV, Rk.gate, ho]
    · simp [Rk.gated, ho]
  by_cases hr : k < 0 ∨ k ≥ R.n ∨ s < 0 ∨ s ≥ R.ns
  · have hd : diskV R ps k s = (none, 11) := by simp only [diskV, if_neg ho, if_pos hr]
    rw [hd]
    refine wps_ite (fun _ => wps_pure (ent_prr ?_ (Ent.of_eq ?_))) (fun h => absurd rfl h)
    · simp only [gateV, Rk.gate, if_neg ho, if_pos hr]; rfl
    · simp only [Rk.gated, hr, true_or, or_true, if_true]
  have hd : diskV R ps k s = (ptr (ps.getD k.toNat 0), 0) := by simp only [diskV, if_neg ho, if_neg hr]
  rw [hd]
  refine wps_ite (fun h => absurd h (by simp)) (fun _ => ?_)
  refine wps_ite (fun hs => wps_pure (ent_prr ?_ (Ent.of_eq ?_))) (fun hs => ?_)
  · have hs' : size ≠ 64 := by simpa using hs
    simp only [gateV, Rk.gate, if_neg ho, if_neg hr, if_pos hs']; rfl
  · have hs' : size ≠ 64 := by simpa using hs
    simp only [Rk.gated, hs', ne_eq, not_false_eq_true, or_true, if_true]
  have hs' : ¬ size ≠ 64 := by simpa using hs
  have hgd : R.gated k s size = R.ticked := by
    rw [Rk.gated, if_neg]
    rintro (h | h | h)
    · exact ho h
    · exact hr h
    · exact hs' h
  rw [hgd]
  refine wps_bind (device_Rack_call_spec _ _ _ _) fun b => wps_pr fun hb => ?_
  subst hb
  refine wps_ite (fun hc => wps_pure (ent_prr ?_ (Ent.refl _))) (fun hc => ?_)
  · have hc' : R.count = 0 := by simpa using hc
    simp only [gateV, Rk.gate, if_neg ho, if_neg hr, if_neg hs', if_pos hc']; rfl
  have hc' : ¬ R.count = 0 := by simpa using hc
  have htn : R.ticked.n = R.n := by simp [Rk.ticked, hc']
  have hlt : k.toNat < R.ticked.n := by omega
  repeat with_reducible refine wps_nil ?_
  refine wps_val (rackP_val (j := k.toNat) hlt fun g' => dsk_failed) ?_
  refine wps_ite (fun hf => wps_pure (ent_prr ?_ (Ent.refl _))) (fun hf => wps_pure (ent_prr ?_ (Ent.refl _)))
  · simp only [gateV, Rk.gate, if_neg ho, if_neg hr, if_neg hs', if_neg hc', if_pos hf]; rfl
  · simp only [gateV, Rk.gate, if_neg ho, if_neg hr, if_neg hs', if_neg hc', if_neg hf]; rfl
def Rk.put (R : Rk) (k s : Int) (b : List Int) : Rk := { R with dk := fun j => if j = k.toNat then { R.dk j with cached := fun i => if i = s then some b else (R.dk j).cached i } else R.dk j }
def Rk.write (R : Rk) (k s : Int) (b : List Int) : Rk := if R.gate k s b.length = 0 then (R.gated k s b.length).put k s b else R.gated k s b.length
theorem gate_ok {R : Rk} {k s size : Int} (h : R.gate k s size = 0) : ¬ R.off = true ∧ ¬ (k < 0 ∨ k ≥ R.n ∨ s < 0 ∨ s ≥ R.ns) ∧ size = 64 ∧ R.count ≠ 0 ∧ R.gated k s size = R.ticked := by
  unfold Rk.gate at h
  by_cases ho : R.off = true
  · rw [if_pos ho] at h; cases h
  rw [if_neg ho] at h
  by_cases hr : k < 0 ∨ k ≥ R.n ∨ s < 0 ∨ s ≥ R.ns
  · rw [if_pos hr] at h; cases h
  rw [if_neg hr] at h
  by_cases hs : size ≠ 64
  · rw [if_pos hs] at h; cases h
  rw [if_neg hs] at h
  by_cases hc : R.count = 0
  · rw [if_pos hc] at h; cases h
  refine ⟨ho, hr, by simpa using hs, hc, ?_⟩
  rw [Rk.gated, if_neg]
  rintro (h | h | h)
  · exact ho h
  · exact hr h
  · exact hs h
def Rk.failedB (R : Rk) (k : Int) : Bool := if 0 ≤ k ∧ k < R.n then (R.dk k.toNat).failed else false
theorem device_Rack_Failed_val (rb : Nat) (R : Rk) (ds : Slc) (ps : List Nat) (k : Int) : Val g (rackP rb R ds ps) (device_Rack_Failed (ptr rb) k) (R.failedB k) := by
  unfold device_Rack_Failed rackP
  refine wps_factP fun ⟨h1, h2, h17, hns⟩ => ?_
  refine wps_val (v := decide (0 ≤ k ∧ k < R.n)) ?_ ?_
  · apply val_eq
    · repeat first | (with_reducible refine wps_nil ?_) | (refine wps_ld _ (by rfl) ?_) | ((with_reducible apply val_ite); rotate_left; refine fun (_ : ¬ _) => ?_; rotate_right; refine fun (_ : _ = true) => ?_) | (with_reducible exact wps_pure (ent_val rfl))
    · rw [h2]; by_cases h : 0 ≤ k <;> simp [h]
  · by_cases hk : 0 ≤ k ∧ k < R.n
    · simp only [hk, and_self, decide_true, if_true, Rk.failedB, bindM_assoc]
      repeat first | (with_reducible refine wps_nil ?_) | (refine wps_ld _ (by rfl) ?_)
      refine wps_rdS k.toNat (ptr (ps.getD k.toNat 0)) (by omega) (pv_get (by omega)) ?_
      repeat with_reducible refine wps_nil ?_
      refine wps_val (rackP_val (rb := rb) (ds := ds) (j := k.toNat) (by omega) fun g' => dsk_failed) ?_
      repeat first | (with_reducible refine wps_bindpure ?_) | (with_reducible exact wps_pure (ent_val rfl))
    · simp only [hk, decide_false, Rk.failedB, if_false, Bool.false_eq_true]
      repeat first | (with_reducible refine wps_bindpure ?_) | (with_reducible exact wps_pure (ent_val rfl))
theorem device_Rack_Size_val (rb : Nat) (R : Rk) (ds : Slc) (ps : List Nat) : Val g (rackP rb R ds ps) (device_Rack_Size (ptr rb)) ((R.n : Int), (R.ns : Int)) := by
  unfold device_Rack_Size rackP
  refine wps_factP fun ⟨h1, h2, h17, hns⟩ => ?_
  repeat first | (with_reducible refine wps_nil ?_) | (refine wps_ldI _ (by rfl) ?_) | (with_reducible refine wps_regionH ?_)
  exact wps_pure (ent_val (by rw [h2]))
def Rk.rdErr (R : Rk) (k s : Int) : Int := if R.off then 12 else if k < 0 ∨ k ≥ R.n ∨ s < 0 ∨ s ≥ R.ns then 11 else if (R.dk k.toNat).failed then 13 else 0
def Dk.sec (D : Dk) (s : Int) : List Int := match D.cached s with | some b => b | none => D.lasts s.toNat
def Rk.rd (R : Rk) (k s : Int) : List Int := if R.rdErr k s = 0 then (R.dk k.toNat).sec s else []
theorem device_Rack_Read_spec (rb : Nat) (R : Rk) (ds : Slc) (ps : List Nat) (k s : Int) :
    wps g (rackP rb R ds ps) (device_Rack_Read (ptr rb) k s) (fun x => pr (x.2 = R.rdErr k s) * rackP rb R ds ps * own 1 x.1 (bv (R.rd k s))) := by
  unfold device_Rack_Read
  refine wps_val (device_Rack_disk_val _ _ _ _ _ _) ?_
  by_cases ho : R.off = true
  · have hd : diskV R ps k s = (none, 12) := by simp [diskV, ho]
    have he : R.rdErr k s = 12 := by simp [Rk.rdErr, ho]
    rw [hd]
    refine wps_ite (fun _ => wps_pure ?_) (fun h => absurd rfl h)
    simp only [Rk.rd, he]
    exact ent_own0 (ent_prr (by simp) (Ent.refl _))
  by_cases hr : k < 0 ∨ k ≥ R.n ∨ s < 0 ∨ s ≥ R.ns
  · have hd : diskV R ps k s = (none, 11) := by simp only [diskV, if_neg ho, if_pos hr]
    have he : R.rdErr k s = 11 := by simp only [Rk.rdErr, if_neg ho, if_pos hr]
    rw [hd]
    refine wps_ite (fun _ => wps_pure ?_) (fun h => absurd rfl h)
    simp only [Rk.rd, he]
    exact ent_own0 (ent_prr (by simp) (Ent.refl _))
  have hd : diskV R ps k s = (ptr (ps.getD k.toNat 0), 0) := by simp only [diskV, if_neg ho, if_neg hr]
  rw [hd]
  have hlt : k.toNat < R.n := by omega
  refine wps_ite (fun h => absurd h (by simp)) (fun _ => ?_)
  repeat with_reducible refine wps_nil ?_
  refine wps_val (rackP_val (rb := rb) (ds := ds) hlt fun g' => dsk_failed) ?_
  refine wps_ite (fun hf => wps_pure ?_) (fun hf => ?_)
  · have he : R.rdErr k s = 13 := by simp only [Rk.rdErr, if_neg ho, if_neg hr, if_pos hf]
    simp only [Rk.rd, he]
    exact ent_own0 (ent_prr (by simp) (Ent.refl _))
  have he : R.rdErr k s = 0 := by simp only [Rk.rdErr, if_neg ho, if_neg hr, if_neg hf]
  simp only [Rk.rd, he, if_true]
  rw [rackP_focus rb R ds ps hlt]
  generalize R.dk k.toNat = D at *
  unfold dskAt dskX
  refine wps_exP fun ls => wps_exP fun mb => wps_exP fun sl => wps_exP fun sc => ?_
  simp only [← star_assoc]
  refine wps_prP fun hd => ?_
  refine wps_prP fun hd2 => ?_
  repeat first | (with_reducible refine wps_nil ?_) | (refine wps_ld _ (by rfl) ?_)
  have close : ∀ (s' : Slc), Ent
      (emp * bst R.n (hole k.toNat (rackF R.ns R.dk ps)) * own 1 ds (ps.map pv) * pc rb [vS ds, Value.int IntKind.i64 R.ns, Value.int IntKind.i64 R.count, Value.bool R.off] *
        seqp sl D.lasts * cachep sc D.cached * imap mb (fun j => Option.map (fun _ => vS (sc j)) (D.cached j)) * own 1 ls (sl.map vS) *
        pc (ps.getD k.toNat 0) [vS ls, Value.map (some mb), Value.bool D.failed, Value.int IntKind.i64 D.count] * own 1 s' (bv (D.sec s)))
      (pr (((s', 0) : Slc × Int).2 = 0) * pr (ps.length = R.n ∧ ds.len = R.n ∧ R.n ≤ 17 ∧ R.ns ≤ 4096) * bst R.n (hole k.toNat (rackF R.ns R.dk ps)) * own 1 ds (ps.map pv) *
            pc rb [vS ds, Value.int IntKind.i64 R.ns, Value.int IntKind.i64 R.count, Value.bool R.off] *
          (ex fun ls => ex fun mb => ex fun sl => ex fun sc =>
                  pr (sl.length = R.ns ∧ ls.len = R.ns ∧ D.ok R.ns) * seqp sl D.lasts * cachep sc D.cached *
                        imap mb (fun j => Option.map (fun _ => vS (sc j)) (D.cached j)) *
                      own 1 ls (sl.map vS) *
                    pc (ps.getD k.toNat 0)
                      [vS ls, Value.map (some mb), Value.bool D.failed, Value.int IntKind.i64 D.count]) *
        own 1 s' (bv (D.sec s))) := by
    intro s'
    refine ent_pick ?_
    refine ent_exr ls ?_
    refine ent_exr mb ?_
    refine ent_exr sl ?_
    refine ent_exr sc ?_
    simp only [← star_assoc]
    exact ent_pick (ent_pick (ent_pick (ent_pick (ent_pick (ent_prx hd (ent_pick (ent_pick (ent_pick (ent_prx hd2 (ent_prq (by simp)))))))))))
  cases hcs : D.cached s with
  | some b =>
    refine wps_lookS (some (sc s)) (by rw [hcs]; rfl) ?_
    have hsec : D.sec s = b := by simp [Dk.sec, hcs]
    have hlen := (hd.2.2.2 s b hcs).1
    refine wps_ite (fun _ => ?_) (fun h => absurd rfl h)
    refine wps_bind1 (slices_Clone_b_spec (b := D.sec s) (Ent.trans (ent_drop (B := cachep sc D.cached)) (by rw [hsec]; exact cachep_get hcs)) (by rw [hsec]; omega)) fun s' => wps_pure ?_
    exact close s'
  | none =>
    refine wps_lookS none (by rw [hcs]; rfl) ?_
    have hsec : D.sec s = D.lasts s.toNat := by simp [Dk.sec, hcs]
    have hlen := hd.2.2.1 s.toNat (by omega)
    refine wps_ite (fun h => absurd h (by simp)) (fun _ => ?_)
    repeat first | (with_reducible refine wps_nil ?_) | (refine wps_ld _ (by rfl) ?_)
    have hsl : s.toNat < sl.length := by omega
    refine wps_rdS s.toNat sl[s.toNat] (by omega) (by rw [List.getElem?_map, List.getElem?_eq_getElem hsl]; rfl) ?_
    refine wps_bind1 (slices_Clone_b_spec (b := D.sec s) (Ent.trans (ent_drop (B := seqp sl D.lasts)) (by rw [hsec]; exact seqp_get (List.getElem?_eq_getElem hsl))) (by rw [hsec]; omega)) fun s' => wps_pure ?_
    exact close s'
end Go.Proofs.Ytldmeimebebllaa
namespace Go.Proofs.Ytldmeimebebllaa
open Go.Mo
set_option linter.unusedVariables false
variable {g : Fr}
abbrev bnk (bb rb : Nat) (q m : G3) : HP := pc bb [.pointer (ptr rb), .int .i64 q.1, .int .i64 q.2.1, .int .i64 q.2.2, .int .i64 m.1, .int .i64 m.2.1, .int .i64 m.2.2]
def slotV (q m : G3) (slot : Int) : Int × Bool := if slot < 0 ∨ slot ≥ q.1 then (0, false) else if m.2.2 ≠ 0 ∧ m.2.1 = slot then (q.1, true) else (slot, true)
theorem bank_disk_val (bb rb : Nat) (q m : G3) (slot : Int) : Val g (bnk bb rb q m) (bank_Bank_disk (ptr bb) slot) (slotV q m slot) := by
  unfold bank_Bank_disk
  simp only [Addr.add_add, Nat.reduceAdd]
  apply val_eq
  · repeat (first
      | (with_reducible refine wps_nil ?_)
      | (refine wps_ld _ (by rfl) ?_)
      | ((with_reducible apply wps_val); apply val_ite; rotate_left; refine fun (_ : ¬ _) => ?_; rotate_right; refine fun (_ : _ = true) => ?_)
      | ((with_reducible apply val_ite); rotate_left; refine fun (_ : ¬ _) => ?_; rotate_right; refine fun (_ : _ = true) => ?_)
      | (with_reducible exact wps_pure (ent_val rfl)))
  · simp only [slotV]
    by_cases h1 : slot < 0
    · simp [h1]
    · by_cases h2 : slot ≥ q.1
      · simp [h2]
      · by_cases h3 : m.2.2 = 0
        · simp [h1, h2, h3]
        · by_cases h4 : m.2.1 = slot
          · simp [h1, h2, h3, h4]
          · simp [h1, h2, h3, h4]
theorem bank_Geo_val (bb rb : Nat) (q m : G3) : Val g (bnk bb rb q m) (bank_Bank_Geo (ptr bb)) q := by
  unfold bank_Bank_Geo
  repeat (first
    | (with_reducible refine wps_nil ?_)
    | (with_reducible refine wps_alloc fun _ => ?_)
    | (refine wps_ldG _ _ _ (by rfl) ?_)
    | (refine wps_stA (by simp) (by simp [Value.oneCell']) ?_)
    | (with_reducible exact wps_pure (ent_val rfl)))
def isBad (q m : G3) (R : Rk) (i : Nat) : Bool := R.failedB (slotV q m i).1 || (m.2.2 == 1 && m.2.1 == i)
def badL (q m : G3) (R : Rk) : List Nat := (List.range q.1.toNat).filter (isBad q m R)
def iv (l : List Nat) : List Value := l.map fun i => Value.int .i64 (i : Nat)
theorem bank_Bad_spec (bb rb : Nat) (q m : G3) (R : Rk) (ds : Slc) (ps : List Nat) (hq : q.1 ≤ 16) :
    wps g (bnk bb rb q m * rackP rb R ds ps) (bank_Bank_Bad (ptr bb)) (fun s => bnk bb rb q m * rackP rb R ds ps * own 1 s (iv (badL q m R))) := by
  unfold bank_Bank_Bad
  simp only [Addr.add_add, Nat.reduceAdd]
  repeat first | (with_reducible refine wps_nil ?_) | (refine wps_ld _ (by rfl) ?_)
  refine wps_loop (fun t => ex fun n : Nat => pr (t.2 = (n : Int) ∧ (n : Int) ≤ max 0 q.1) * bnk bb rb q m * rackP rb R ds ps * own 1 t.1 (iv ((List.range n).filter (isBad q m R)))) (fun t => (q.1 - t.2).toNat) ?_ fun t => ?_
  · refine ent_ex 0 (ent_own0 (ent_pick ?_))
    refine ent_prr ⟨rfl, by omega⟩ ?_
    exact Ent.refl _
  · refine wps_ex fun n => wps_prP fun ⟨ht, hn⟩ => ?_
    refine wps_ite (fun hc => ?_) (fun hc => ?_)
    · have hc' : t.2 < q.1 := by simpa using hc
      refine wps_valH (fun _ => bank_disk_val bb rb q m t.2) ?_
      repeat first | (with_reducible refine wps_nil ?_) | (refine wps_ld _ (by rfl) ?_)
      refine wps_valH (fun _ => device_Rack_Failed_val rb R ds ps (slotV q m t.2).1) ?_
      refine wps_val (v := isBad q m R n) ?_ ?_
      · apply val_eq
        · repeat (first
            | (with_reducible refine wps_nil ?_)
            | (refine wps_ld _ (by rfl) ?_)
            | ((with_reducible apply wps_val); apply val_ite; rotate_left; refine fun (_ : ¬ _) => ?_; rotate_right; refine fun (_ : _ = true) => ?_)
            | ((with_reducible apply val_ite); rotate_left; refine fun (_ : ¬ _) => ?_; rotate_right; refine fun (_ : _ = true) => ?_)
            | (with_reducible exact wps_pure (ent_val rfl)))
        · simp only [isBad, ht]
          by_cases h1 : R.failedB (slotV q m n).1 = true
          · simp [h1]
          · by_cases h2 : m.2.2 = 1 <;> simp [h1, h2]
      · have hf : (List.range (n + 1)).filter (isBad q m R) = (List.range n).filter (isBad q m R) ++ if isBad q m R n then [n] else [] := by
          rw [List.range_succ, List.filter_append]
          by_cases h : isBad q m R n = true <;> simp [h]
        refine wps_ite (fun hb => ?_) (fun hb => ?_)
        · refine wps_fact (Ent.trans (ent_pick1 (A := own 1 t.1 (iv ((List.range n).filter (isBad q m R))))) (own_len _ _ _)) fun ⟨hl, _⟩ => ?_
          have hl2 : t.1.len ≤ n := by
            have := List.length_filter_le (isBad q m R) (List.range n)
            simp only [iv, List.length_map, List.length_range] at hl this
            omega
          repeat with_reducible refine wps_alloc fun _ => ?_
          rename_i c
          refine wps_app 1 [Value.int .i64 t.2] rfl (by decide) (rsl_pc rfl) (by simp [Value.oneCell']) (by (try dsimp only); omega) fun s' hs' => wps_pure ?_
          refine ent_prr (by rw [range_add1 ht (by omega)]; (try dsimp only); omega) (ent_ex (n + 1) ?_)
          refine ent_pickS (by rw [hf, if_pos hb, ht]; simp [iv]) (ent_pick (ent_pick ?_))
          exact ent_prq ⟨range_add1 ht (by omega), by omega⟩
        · refine wps_pure ?_
          refine ent_prr (by rw [range_add1 ht (by omega)]; (try dsimp only); omega) (ent_ex (n + 1) ?_)
          refine ent_pickS (by rw [hf, if_neg hb]; simp [iv]) (ent_pick (ent_pick ?_))
          exact ent_prq ⟨range_add1 ht (by omega), by omega⟩
    · have hc' : ¬ t.2 < q.1 := by simpa using hc
      have hnq : (List.range n).filter (isBad q m R) = badL q m R := by
        unfold badL; congr 2; omega
      rw [hnq]
      refine wps_mapR (wps_pure ?_)
      exact ent_pick (ent_pick ent_drop)
end Go.Proofs.Ytldmeimebebllaa
namespace Go.Proofs.Ytldmeimebebllaa
open Go.Mo
set_option linter.unusedVariables false
variable {g : Fr}
abbrev RefT := Int × Int × Slc × Slc × Slc × Slc × Int × Bool
def rlast (R : Rk) (i : Nat) : List Int := (R.dk (i / R.ns)).lasts (i % R.ns)
def rcach (R : Rk) (i : Nat) : List Int := ((R.dk (i / R.ns)).cached ((i % R.ns : Nat) : Int)).getD []
def bads (R : Rk) : List Value := (List.range R.n).map fun j => .bool (R.dk j).failed
def cnts (R : Rk) : List Value := (List.range R.n).map fun j => .int .i64 (R.dk j).count
structure RefOk (v : RefT) (R : Rk) (sl cl : List Slc) : Prop where
  n : v.1 = R.n
  ns : v.2.1 = R.ns
  count : v.2.2.2.2.2.2.1 = R.count
  off : v.2.2.2.2.2.2.2 = R.off
  sl : sl.length = R.n * R.ns
  cl : cl.length = R.n * R.ns
  n17 : R.n ≤ 17
  ns4 : R.ns ≤ 4096
  l1 : v.2.2.1.len = R.n * R.ns
  l2 : v.2.2.2.1.len = R.n * R.ns
  l3 : v.2.2.2.2.1.len = R.n
  l4 : v.2.2.2.2.2.1.len = R.n
def refX (v : RefT) (R : Rk) (sl cl : List Slc) : HP :=
  pr (RefOk v R sl cl) * seqp sl (rlast R) * seqp cl (rcach R) * own 1 v.2.2.1 (sl.map vS) * own 1 v.2.2.2.1 (cl.map vS) * own 1 v.2.2.2.2.1 (bads R) * own 1 v.2.2.2.2.2.1 (cnts R)
def refV (v : RefT) (R : Rk) : HP := ex fun sl : List Slc => ex fun cl : List Slc => refX v R sl cl
abbrev refC (v : RefT) : List Value := [.int .i64 v.1, .int .i64 v.2.1, vS v.2.2.1, vS v.2.2.2.1, vS v.2.2.2.2.1, vS v.2.2.2.2.2.1, .int .i64 v.2.2.2.2.2.2.1, .bool v.2.2.2.2.2.2.2]
def refZ : RefT := (0, 0, nilS, nilS, nilS, nilS, 0, false)
def rn1 (N S a x : Nat) : Int → HP := fun i => ex fun sl : List Slc => ex fun cl : List Slc => ex fun l1 : Slc => ex fun l2 : Slc =>
  pr (i = (sl.length : Int) ∧ sl.length ≤ N * S ∧ cl.length = sl.length ∧ l1.len = sl.length ∧ l2.len = sl.length) * seqp sl (fun _ => noughts) * seqp cl (fun _ => []) * own 1 l1 (sl.map vS) * own 1 l2 (cl.map vS) *
    pc a (refC refZ) * pc x (refC (N, S, l1, l2, nilS, nilS, -1, false))
def rn2 (N S a x : Nat) (F : HP) (l1 l2 : Slc) : Int → HP := fun i => ex fun k : Nat => ex fun l3 : Slc => ex fun l4 : Slc =>
  pr (i = (k : Int) ∧ k ≤ N ∧ l3.len = k ∧ l4.len = k) * F * own 1 l3 ((List.range k).map fun _ => .bool false) * own 1 l4 ((List.range k).map fun _ => .int .i64 (-1)) *
    pc a (refC refZ) * pc x (refC (N, S, l1, l2, l3, l4, -1, false))
theorem ref02_New_spec (n s : Int) : wps g emp (ref02_New n s) (fun x =>
    if n < 1 ∨ n > 17 ∨ s < 1 ∨ s > 4096 then pr (x.2 = 10) else pr (x.2 = 0) * refV x.1 (Rk.new n.toNat s.toNat)) := by
  unfold ref02_New
  repeat first | (with_reducible refine wps_alloc fun _ => ?_) | ((with_reducible apply wps_val); apply val_ite; rotate_left; refine fun (_ : ¬ _) => ?_; rotate_right; refine fun (_ : _ = true) => ?_) | (with_reducible exact wps_pure (ent_val rfl))
  refine wps_ite (fun h1 => ?_) (fun h1 => ?_)
  · rw [or_tree] at h1
    simp only [if_pos h1]
    repeat refine wps_stA (by simp) (by simp [Value.oneCell']) ?_
    refine wps_ldA refZ (by rfl) ?_
    exact wps_pure (ent_prq rfl)
  · rw [or_tree] at h1
    simp only [if_neg h1]
    repeat first | (with_reducible refine wps_alloc fun _ => ?_) | (refine wps_stA (by simp) (by simp [Value.oneCell']) ?_)
    rename_i a x
    obtain ⟨N, rfl⟩ : ∃ N : Nat, n = (N : Int) := ⟨n.toNat, by omega⟩
    obtain ⟨S, rfl⟩ : ∃ S : Nat, s = (S : Int) := ⟨s.toNat, by omega⟩
    have hN : N ≤ 17 := by omega
    have hS : S ≤ 4096 := by omega
    have hNS : N * S ≤ 69632 := Nat.mul_le_mul hN hS
    have hm : w64 ((N : Int) * (S : Int)) = ((N * S : Nat) : Int) := by rw [← Int.natCast_mul, w64_id] <;> omega
    rw [hm]
    refine wps_loop (rn1 N S a x) (fun i => ((N * S : Nat) - i).toNat) ?_ fun i => ?_
    · refine ent_ex [] (ent_ex [] (ent_ex nilS (ent_ex nilS (ent_pickC (by rfl) (ent_pickC (by rfl) (ent_own0 (ent_own0 (ent_pers (ent_pers ?_ (seqp_nil _ _)) (seqp_nil _ _)))))))))
      exact ent_prq (by simp [nilS])
    · unfold rn1
      refine wps_ex fun sl => wps_ex fun cl => wps_ex fun l1 => wps_ex fun l2 => wps_prP fun ⟨hi, hle, hcl, h1l, h2l⟩ => ?_
      refine wps_ite (fun h2 => ?_) (fun h2 => ?_)
      · have hlt : sl.length < N * S := by simp only [decide_eq_true_eq] at h2; omega
        repeat first | (with_reducible refine wps_stepAlloc fun _ => ?_) | (refine wps_ldI _ (by rfl) ?_) | (with_reducible refine wps_regionH ?_)
        rename_i y c
        refine wps_app 1 [Value.slice (some ⟨y, 0, none⟩) 64 64] rfl (by decide) (rsl_pc rfl) (by simp [Value.oneCell']) (by (try dsimp only); omega) fun l1' hl1 => ?_
        repeat first | (with_reducible refine wps_alloc fun _ => ?_) | (refine wps_ld _ (by rfl) ?_) | (refine wps_st (by simp) ?_)
        rename_i c2
        refine wps_app 1 [Value.slice none 0 0] rfl (by decide) (rsl_pc rfl) (by simp [Value.oneCell']) (by (try dsimp only); omega) fun l2' hl2 => ?_
        repeat refine wps_st (by simp) ?_
        refine wps_pure (ent_prr (by rw [range_add1 hi (by omega)]; omega) (ent_ex (sl ++ [⟨some ⟨y, 0, none⟩, 64, 64⟩]) (ent_ex (cl ++ [nilS]) (ent_ex l1' (ent_ex l2' (ent_pickC (by rfl) (ent_pick (ent_pickS (by simp [vS, nilS]) (ent_pickS (by simp [vS]) ?_)))))))))
        refine ent_swap (A := pc y (List.replicate 64 (Value.int .u8 0))) (B := byt ⟨some ⟨y, 0, none⟩, 64, 64⟩ noughts) (Ent.trans (Ent.trans (pc_own (n := 64) (z := 1) (by simp)) (own_rsl _ _ _)) (Ent.of_eq (by rw [byt, bv_noughts]))) ?_
        refine ent_add (A := byt nilS []) (rsl_nil 1) ?_
        refine ent_join (A := seqp cl fun _ => []) (B := byt nilS []) (seqp_snoc (ent_left _ _) (ent_right _ _)) ?_
        refine ent_join (A := seqp sl fun _ => noughts) (B := byt ⟨some ⟨y, 0, none⟩, 64, 64⟩ noughts) (seqp_snoc (ent_left _ _) (ent_right _ _)) ?_
        exact ent_prq ⟨by rw [range_add1 hi (by omega)]; simp, by simp; omega, by simp [hcl], by simp [hl1, h1l], by simp [hl2, h2l]⟩
      · have hse : sl.length = N * S := by simp only [decide_eq_true_eq] at h2; omega
        refine wps_mapR ?_
        refine wps_loop (rn2 N S a x (seqp sl (fun _ => noughts) * seqp cl (fun _ => []) * own 1 l1 (sl.map vS) * own 1 l2 (cl.map vS)) l1 l2) (fun i => (N - i).toNat) ?_ fun j => ?_
        · refine ent_ex 0 (ent_ex nilS (ent_ex nilS (ent_pick (ent_pick (ent_own0 (ent_own0 ?_))))))
          exact ent_prr (by simp [nilS]) (Ent.of_eq (by simp only [emp_star]))
        · unfold rn2
          refine wps_ex fun k => wps_ex fun l3 => wps_ex fun l4 => wps_prP fun ⟨hj, hk, h3l, h4l⟩ => ?_
          refine wps_ite (fun h3 => ?_) (fun h3 => ?_)
          · have hlt : k < N := by simp only [decide_eq_true_eq] at h3; omega
            repeat first | (with_reducible refine wps_alloc fun _ => ?_) | (refine wps_ld _ (by rfl) ?_)
            refine wps_app 1 [Value.bool false] rfl (by decide) (rsl_pc rfl) (by simp [Value.oneCell']) (by (try dsimp only); omega) fun l3' hl3 => ?_
            repeat first | (with_reducible refine wps_alloc fun _ => ?_) | (refine wps_ld _ (by rfl) ?_) | (refine wps_st (by simp) ?_)
            refine wps_app 1 [Value.int .i64 (-1)] rfl (by decide) (rsl_pc rfl) (by simp [Value.oneCell']) (by (try dsimp only); omega) fun l4' hl4 => ?_
            repeat refine wps_st (by simp) ?_
            refine wps_pure (ent_prr (by rw [range_add1 hj (by omega)]; omega) (ent_ex (k + 1) (ent_ex l3' (ent_ex l4' (ent_pickC (by rfl) (ent_pick (ent_pickS (by simp [List.range_succ]) (ent_pickS (by simp [List.range_succ]) ?_))))))))
            exact ent_prr ⟨range_add1 hj (by omega), by omega, by simp [hl3, h3l], by simp [hl4, h4l]⟩ ent_drop
          · have hke : k = N := by simp only [decide_eq_true_eq] at h3; omega
            refine wps_mapR ?_
            refine wps_ldA (N, S, l1, l2, l3, l4, -1, false) (by rfl) ?_
            repeat first | (refine wps_ldA _ (by rfl) ?_) | (refine wps_stA (by simp) (by simp [Value.oneCell']) ?_)
            refine wps_pure (ent_prr rfl (ent_ex sl (ent_ex cl ?_)))
            subst hke
            refine ent_pickS rfl (ent_pickS rfl (ent_pickS rfl (ent_pickS rfl ?_)))
            have e1 : rcach (Rk.new (k : Int).toNat (S : Int).toNat) = fun _ => [] := rfl
            have e2 : rlast (Rk.new (k : Int).toNat (S : Int).toNat) = fun _ => noughts := rfl
            rw [e1, e2]
            refine ent_pick (ent_pick (ent_prq ?_))
            exact ⟨rfl, rfl, rfl, rfl, hse, by rw [hcl, hse]; rfl, hN, hS, h1l.trans hse, h2l.trans hse, h3l, h4l⟩
end Go.Proofs.Ytldmeimebebllaa
