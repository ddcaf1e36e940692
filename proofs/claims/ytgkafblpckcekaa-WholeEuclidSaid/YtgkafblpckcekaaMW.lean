/- Plain functions: what the program's functions compute. Made by program. -/
import Derived.Test.YtgkafblpckcekaaFwDen4
namespace Go.Proofs.Ytgkafblpckcekaa
open Go.Fw
noncomputable def slices_Clone_m (x0 : List Nat) : Option (List Nat) := apM 4 [] x0
noncomputable def whole_carrier_1_m (x0 : Nat) (c0 : Nat) : Option (Nat × Nat) :=
  (some ((x0 + c0) % 18446744073709551616)).bind fun x6 =>
  (some (x6 / 2 ^ 32)).bind fun x8 =>
  (some (x6 % 4294967296)).bind fun x10 =>
  some (x10, x8)
noncomputable def whole_trim_m (x0 : List Nat) : Option (List Nat) :=
  (loopM (fun (y0l5 : (List Nat)) =>
      (show Option (((List Nat)) ⊕ ((List Nat))) from
        letJ (fun (y14j12 : Bool) =>
            (bif y14j12 then
                (some (y0l5.length : Int)).bind fun x17 =>
                (some (IntKind.i64.wrap (x17 - 1))).bind fun x18 =>
                (subM y0l5 0 x18).bind fun x19 =>
                some (.inl x19)
              else
                some (.inr y0l5))) fun K13 =>
        (some (y0l5.length : Int)).bind fun x4 =>
        (some (decide ((0 : Int) < x4))).bind fun x5 =>
        (bif x5 then
            (some (y0l5.length : Int)).bind fun x9 =>
            (some (IntKind.i64.wrap (x9 - 1))).bind fun x10 =>
            (geti y0l5 x10).bind fun x11 =>
            (some (decide ((x11 : Nat) = 0))).bind fun x13 =>
            some x13
          else
            some false).bind fun c14_14 =>
        K13 c14_14)) x0).bind fun y0e9 =>
      some y0e9
noncomputable def whole_trimT_m (x0 : List Nat) : Option (List Nat) :=
  (loopM (fun (r306l5 : (List Nat)) =>
      (show Option (((List Nat)) ⊕ ((List Nat))) from
        letJ (fun (y14j12 : Bool) =>
            (bif y14j12 then
                (some (r306l5.length : Int)).bind fun x17 =>
                (some (IntKind.i64.wrap (x17 - 1))).bind fun x18 =>
                (subM r306l5 0 x18).bind fun x19 =>
                some (.inl x19)
              else
                some (.inr r306l5))) fun K13 =>
        (some (r306l5.length : Int)).bind fun x4 =>
        (some (decide ((0 : Int) < x4))).bind fun x5 =>
        (bif x5 then
            (some (r306l5.length : Int)).bind fun x9 =>
            (some (IntKind.i64.wrap (x9 - 1))).bind fun x10 =>
            (cki r306l5 x10).bind fun x11 =>
            (r306l5[x11]?).bind fun x12 =>
            (some (decide ((x12 : Nat) = 0))).bind fun x13 =>
            some x13
          else
            some false).bind fun c14_14 =>
        K13 c14_14)) x0).bind fun r306e9 =>
      some r306e9
noncomputable def whole_build_m (x0 : Bool) (x1 : List Nat) : Option (Zr) :=
  (whole_trim_m x1).bind fun x6 =>
  (some (x6.length : Int)).bind fun x8 =>
  (some (decide ((x8 : Int) = 0))).bind fun x9 =>
  (bif x9 then
      some ⟨false, []⟩
    else
      some ⟨x0, x6⟩)
noncomputable def whole_small_m (x0 : Bool) (x1 : Nat) : Option (Zr) :=
  (some (decide ((x1 : Nat) = 0))).bind fun x7 =>
  (bif x7 then
      some ⟨false, []⟩
    else
      (some (x1 / 2 ^ 32)).bind fun x11 =>
      (some (decide ((x11 : Nat) = 0))).bind fun x12 =>
      (bif x12 then
          (some (x1 % 4294967296)).bind fun x15 =>
          some ⟨x0, [x15]⟩
        else
          (some (x1 % 4294967296)).bind fun x20 =>
          (some (x1 / 2 ^ 32)).bind fun x22 =>
          (some (x22 % 4294967296)).bind fun x23 =>
          some ⟨x0, [x20, x23]⟩))
noncomputable def whole_low_m (x0 : List Nat) : Option (Nat) :=
  (some (x0.length : Int)).bind fun x4 =>
  (some (decide ((x4 : Int) = 0))).bind fun x6 =>
  (bif x6 then
      some 0
    else
      (some (decide ((x4 : Int) = 1))).bind fun x8 =>
      (bif x8 then
          (geti x0 0).bind fun x10 =>
          (some (x10 % 18446744073709551616)).bind fun x12 =>
          some x12
        else
          (geti x0 0).bind fun x14 =>
          (some (x14 % 18446744073709551616)).bind fun x16 =>
          (geti x0 1).bind fun x18 =>
          (some (x18 % 18446744073709551616)).bind fun x20 =>
          (some (x20 * 2 ^ 32 % 18446744073709551616)).bind fun x21 =>
          (some ((x16 ||| x21) % 18446744073709551616)).bind fun x22 =>
          some x22))
noncomputable def whole_compareWords_m (x0 : List Nat) (x1 : List Nat) : Option (Int) :=
  (some (x0.length : Int)).bind fun x7 =>
  (some (x1.length : Int)).bind fun x9 =>
  (some (decide ((x7 : Int) ≠ x9))).bind fun x10 =>
  (bif x10 then
      (some (x0.length : Int)).bind fun x12 =>
      (some (x1.length : Int)).bind fun x14 =>
      (some (decide ((x12 : Int) < x14))).bind fun x15 =>
      (bif x15 then
          some (-1)
        else
          some 1)
    else
      (some (x0.length : Int)).bind fun x17 =>
      (some (IntKind.i64.wrap (x17 - 1))).bind fun x18 =>
      (loopM (fun (y5l3 : Int) =>
          (show Option ((Int) ⊕ ((Unit) ⊕ (Int))) from
            (some (decide ((0 : Int) ≤ y5l3))).bind fun x20 =>
            (bif x20 then
                (geti x0 y5l3).bind fun x25 =>
                (geti x1 y5l3).bind fun x29 =>
                (some (decide ((x25 : Nat) ≠ x29))).bind fun x31 =>
                (bif x31 then
                    (geti x0 y5l3).bind fun x34 =>
                    (geti x1 y5l3).bind fun x38 =>
                    (some (decide ((x34 : Nat) < x38))).bind fun x40 =>
                    (bif x40 then
                        some (.inr (.inr (-1)))
                      else
                        some (.inr (.inr 1)))
                  else
                    (some (IntKind.i64.wrap (y5l3 - 1))).bind fun x22 =>
                    some (.inl x22))
              else
                some (.inr (.inl ()))))) x18).bind fun e6 =>
        match e6 with
        | .inr v6 => some v6
        | .inl _ =>
          some 0)
noncomputable def whole_addWords_m (x0 : List Nat) (x1 : List Nat) : Option (List Nat) :=
  (some (x0.length : Int)).bind fun x10 =>
  (some (x1.length : Int)).bind fun x12 =>
  (some (max (x10 : Int) x12)).bind fun x13 =>
  (some (IntKind.i64.wrap (x13 + 1))).bind fun x14 =>
  (mkE (α := Nat) 4 x14).bind fun x15 =>
  (rangeM (fun (k : Nat) (s7 : Nat × (List Nat)) =>
    match s7 with
    | ⟨b16_0l4, r302l4⟩ =>
      (show Option (Nat × (List Nat)) from
        (some (x0.getD k 0 % 18446744073709551616)).bind fun p20 =>
        (some (x1.getD k 0 % 18446744073709551616)).bind fun p21 =>
        (some ((p20 + p21) % 18446744073709551616)).bind fun x26 =>
        (whole_carrier_1_m x26 b16_0l4).bind fun ⟨x27, k9⟩ =>
        (apM 4 r302l4 [x27]).bind fun x29 =>
        some (k9, x29))) (max x0.length x1.length) (0, x15)).bind fun e7 =>
    match e7 with
    | ⟨b16_0l4, r302l4⟩ =>
      (whole_carrier_1_m 0 b16_0l4).bind fun ⟨x32, k11⟩ =>
      (apM 4 r302l4 [x32]).bind fun x34 =>
      some x34
noncomputable def whole_subWords_m (x0 : List Nat) (x1 : List Nat) : Option (List Nat) :=
  (some (x0.length : Int)).bind fun x10 =>
  (mkE (α := Nat) 4 x10).bind fun x11 =>
  (rangeM (fun (k : Nat) (s7 : Nat × (List Nat)) =>
    match s7 with
    | ⟨b12_0l4, r302l4⟩ =>
      (show Option (Nat × (List Nat)) from
        (some (x0.getD k 0 % 18446744073709551616)).bind fun p16 =>
        (some (x1.getD k 0 % 18446744073709551616)).bind fun p17 =>
        (some (usub 18446744073709551616 4294967295 p17)).bind fun x22 =>
        (some ((p16 + x22) % 18446744073709551616)).bind fun x23 =>
        (whole_carrier_1_m x23 b12_0l4).bind fun ⟨x24, k9⟩ =>
        (apM 4 r302l4 [x24]).bind fun x26 =>
        some (k9, x26))) (max x0.length x1.length) (1, x11)).bind fun e7 =>
    match e7 with
    | ⟨b12_0l4, r302l4⟩ =>
      some r302l4
noncomputable def whole_mulWords_m (x0 : List Nat) (x1 : List Nat) : Option (List Nat) :=
  (some (x0.length : Int)).bind fun x12 =>
  (some (x1.length : Int)).bind fun x14 =>
  (some (IntKind.i64.wrap (x12 + x14))).bind fun x15 =>
  (mkM 4 x15 (0 : Nat)).bind fun x16 =>
  (some (x0.length : Int)).bind fun x18 =>
  (loopM (fun (s28 : Int × (List Nat)) =>
    match s28 with
    | ⟨y19l14, r16l14⟩ =>
      (show Option ((Int × (List Nat)) ⊕ ((List Nat))) from
        (some (decide ((y19l14 : Int) < x18))).bind fun x20 =>
        (bif x20 then
            (geti x0 y19l14).bind fun x22 =>
            (some (x1.length : Int)).bind fun x26 =>
            (loopM (fun (s38 : Int × Nat × (List Nat)) =>
              match s38 with
              | ⟨y27l33, b24_0l33, r16l33⟩ =>
                (show Option ((Int × Nat × (List Nat)) ⊕ (Nat × (List Nat))) from
                  (some (decide ((y27l33 : Int) < x26))).bind fun x28 =>
                  (bif x28 then
                      (geti x1 y27l33).bind fun x30 =>
                      (some (IntKind.i64.wrap (y19l14 + y27l33))).bind fun x35 =>
                      (some (IntKind.i64.wrap (y19l14 + y27l33))).bind fun x40 =>
                      (cki r16l33 x40).bind fun x41 =>
                      (r16l33[x41]?).bind fun x42 =>
                      (some (x42 % 18446744073709551616)).bind fun x43 =>
                      (some (x22 % 18446744073709551616)).bind fun x45 =>
                      (some (x30 % 18446744073709551616)).bind fun x47 =>
                      (some ((x45 * x47) % 18446744073709551616)).bind fun x48 =>
                      (some ((x43 + x48) % 18446744073709551616)).bind fun x49 =>
                      (whole_carrier_1_m x49 b24_0l33).bind fun ⟨x50, k41⟩ =>
                      (cki r16l33 x35).bind fun x51 =>
                      (stM r16l33 x51 x50).bind fun l42 =>
                      (some (IntKind.i64.wrap (y27l33 + 1))).bind fun x52 =>
                      some (.inl (x52, k41, l42))
                    else
                      some (.inr (b24_0l33, r16l33))))) (0, 0, r16l14)).bind fun e38 =>
              match e38 with
              | ⟨b24_0e37, r16e37⟩ =>
                (some (x1.length : Int)).bind fun x56 =>
                (some (IntKind.i64.wrap (y19l14 + x56))).bind fun x57 =>
                (whole_carrier_1_m 0 b24_0e37).bind fun ⟨x59, k45⟩ =>
                (cki r16e37 x57).bind fun x60 =>
                (stM r16e37 x60 x59).bind fun l46 =>
                (some (IntKind.i64.wrap (y19l14 + 1))).bind fun x61 =>
                some (.inl (x61, l46))
          else
            some (.inr r16l14)))) (0, x16)).bind fun r16e27 =>
      some r16e27
noncomputable def whole_scaleWordsT_m (x0 : List Nat) (x1 : Nat) (x2 : Nat) : Option (List Nat) :=
  (some (x0.length : Int)).bind fun x13 =>
  (loopM (fun (s10 : Int × Nat × (List Nat)) =>
    match s10 with
    | ⟨y14l5, b11_0l5, r1000l5⟩ =>
      (show Option ((Int × Nat × (List Nat)) ⊕ (Nat × (List Nat))) from
        (some (decide ((y14l5 : Int) < x13))).bind fun x15 =>
        (bif x15 then
            (cki r1000l5 y14l5).bind fun x17 =>
            (r1000l5[x17]?).bind fun x18 =>
            (some (x18 % 18446744073709551616)).bind fun x23 =>
            (some ((x23 * x1) % 18446744073709551616)).bind fun x25 =>
            (whole_carrier_1_m x25 b11_0l5).bind fun ⟨x26, k13⟩ =>
            (cki r1000l5 y14l5).bind fun x27 =>
            (stM r1000l5 x27 x26).bind fun l14 =>
            (some (IntKind.i64.wrap (y14l5 + 1))).bind fun x28 =>
            some (.inl (x28, k13, l14))
          else
            some (.inr (b11_0l5, r1000l5))))) (0, x2, x0)).bind fun e10 =>
    match e10 with
    | ⟨b11_0e9, r1000e9⟩ =>
      (whole_carrier_1_m 0 b11_0e9).bind fun ⟨x31, k16⟩ =>
      (apM 4 r1000e9 [x31]).bind fun x33 =>
      some x33
noncomputable def whole_shortDiv_m (x0 : List Nat) (x1 : Nat) : Option (Nat × List Nat) :=
  (some (x0.length : Int)).bind fun x9 =>
  (some (IntKind.i64.wrap (x9 - 1))).bind fun x10 =>
  (loopM (fun (s8 : Nat × Int × (List Nat)) =>
    match s8 with
    | ⟨y5l4, y6l4, r1000l4⟩ =>
      (show Option ((Nat × Int × (List Nat)) ⊕ (Nat × (List Nat))) from
        (some (decide ((0 : Int) ≤ y6l4))).bind fun x12 =>
        (bif x12 then
            (some (y5l4 * 2 ^ 32 % 18446744073709551616)).bind fun x16 =>
            (cki r1000l4 y6l4).bind fun x19 =>
            (r1000l4[x19]?).bind fun x20 =>
            (some (x20 % 18446744073709551616)).bind fun x21 =>
            (some ((x16 ||| x21) % 18446744073709551616)).bind fun x22 =>
            (uquo 18446744073709551616 x22 x1).bind fun x27 =>
            (some (x27 % 4294967296)).bind fun x28 =>
            (cki r1000l4 y6l4).bind fun x29 =>
            (stM r1000l4 x29 x28).bind fun l10 =>
            (urem x22 x1).bind fun x32 =>
            (some (IntKind.i64.wrap (y6l4 - 1))).bind fun x14 =>
            some (.inl (x32, x14, l10))
          else
            some (.inr (y5l4, r1000l4))))) (0, x10, x0)).bind fun e8 =>
    match e8 with
    | ⟨y5e7, r1000e7⟩ =>
      (eqLen x0 r1000e7).bind fun _ =>
      some (y5e7, r1000e7)
noncomputable def whole_shiftLeft_m (x0 : List Nat) (x1 : Nat) : Option (List Nat) :=
  (some (x0.length : Int)).bind fun x11 =>
  (some (IntKind.i64.wrap (x11 + 1))).bind fun x12 =>
  (mkE (α := Nat) 4 x12).bind fun x13 =>
  (some (x0.length : Int)).bind fun x15 =>
  (loopM (fun (s8 : Int × Nat × (List Nat)) =>
    match s8 with
    | ⟨y16l4, b9_0l4, r302l4⟩ =>
      (show Option ((Int × Nat × (List Nat)) ⊕ (Nat × (List Nat))) from
        (some (decide ((y16l4 : Int) < x15))).bind fun x17 =>
        (bif x17 then
            (geti x0 y16l4).bind fun x18 =>
            (some (x18 % 18446744073709551616)).bind fun x23 =>
            (some (x23 * 2 ^ (min x1 64) % 18446744073709551616)).bind fun x25 =>
            (whole_carrier_1_m x25 b9_0l4).bind fun ⟨x26, k10⟩ =>
            (apM 4 r302l4 [x26]).bind fun x28 =>
            (some (IntKind.i64.wrap (y16l4 + 1))).bind fun x29 =>
            some (.inl (x29, k10, x28))
          else
            some (.inr (b9_0l4, r302l4))))) (0, 0, x13)).bind fun e8 =>
    match e8 with
    | ⟨b9_0e7, r302e7⟩ =>
      (whole_carrier_1_m 0 b9_0e7).bind fun ⟨x32, k12⟩ =>
      (apM 4 r302e7 [x32]).bind fun x34 =>
      some x34
noncomputable def whole_shiftLeftN_m (x0 : List Nat) (x1 : Nat) : Option (List Nat) :=
  (some (x0.length : Int)).bind fun x11 =>
  (some (IntKind.i64.wrap (x11 + 1))).bind fun x12 =>
  (mkE (α := Nat) 4 x12).bind fun x13 =>
  (some (x0.length : Int)).bind fun x15 =>
  (loopM (fun (s8 : Int × Nat × (List Nat)) =>
    match s8 with
    | ⟨y16l4, b9_0l4, r306l4⟩ =>
      (show Option ((Int × Nat × (List Nat)) ⊕ (Nat × (List Nat))) from
        (some (decide ((y16l4 : Int) < x15))).bind fun x17 =>
        (bif x17 then
            (geti x0 y16l4).bind fun x18 =>
            (some (x18 % 18446744073709551616)).bind fun x23 =>
            (some (x23 * 2 ^ (min x1 64) % 18446744073709551616)).bind fun x25 =>
            (whole_carrier_1_m x25 b9_0l4).bind fun ⟨x26, k10⟩ =>
            (apM 4 r306l4 [x26]).bind fun x28 =>
            (some (IntKind.i64.wrap (y16l4 + 1))).bind fun x29 =>
            some (.inl (x29, k10, x28))
          else
            some (.inr (b9_0l4, r306l4))))) (0, 0, x13)).bind fun e8 =>
    match e8 with
    | ⟨b9_0e7, r306e7⟩ =>
      (whole_carrier_1_m 0 b9_0e7).bind fun ⟨x32, k12⟩ =>
      (apM 4 r306e7 [x32]).bind fun x34 =>
      some x34
noncomputable def math_bits_Len32_m (x0 : Nat) : Option (Int) :=
  (some (decide ((65536 : Nat) ≤ x0))).bind fun x4 =>
  letJ (fun (j2 : Nat × Int) =>
    match j2 with
    | ⟨y0j1, y2j1⟩ =>
      (some (decide ((256 : Nat) ≤ y0j1))).bind fun x8 =>
      letJ (fun (j4 : Nat × Int) =>
        match j4 with
        | ⟨y0j3, y2j3⟩ =>
          (some (y0j3 % 256)).bind fun x15 =>
          (sgeti [0, 1, 2, 2, 3, 3, 3, 3, 4, 4, 4, 4, 4, 4, 4, 4, 5, 5, 5, 5, 5, 5, 5, 5, 5, 5, 5, 5, 5, 5, 5, 5, 6, 6, 6, 6, 6, 6, 6, 6, 6, 6, 6, 6, 6, 6, 6, 6, 6, 6, 6, 6, 6, 6, 6, 6, 6, 6, 6, 6, 6, 6, 6, 6, 7, 7, 7, 7, 7, 7, 7, 7, 7, 7, 7, 7, 7, 7, 7, 7, 7, 7, 7, 7, 7, 7, 7, 7, 7, 7, 7, 7, 7, 7, 7, 7, 7, 7, 7, 7, 7, 7, 7, 7, 7, 7, 7, 7, 7, 7, 7, 7, 7, 7, 7, 7, 7, 7, 7, 7, 7, 7, 7, 7, 7, 7, 7, 7, 8, 8, 8, 8, 8, 8, 8, 8, 8, 8, 8, 8, 8, 8, 8, 8, 8, 8, 8, 8, 8, 8, 8, 8, 8, 8, 8, 8, 8, 8, 8, 8, 8, 8, 8, 8, 8, 8, 8, 8, 8, 8, 8, 8, 8, 8, 8, 8, 8, 8, 8, 8, 8, 8, 8, 8, 8, 8, 8, 8, 8, 8, 8, 8, 8, 8, 8, 8, 8, 8, 8, 8, 8, 8, 8, 8, 8, 8, 8, 8, 8, 8, 8, 8, 8, 8, 8, 8, 8, 8, 8, 8, 8, 8, 8, 8, 8, 8, 8, 8, 8, 8, 8, 8, 8, 8, 8, 8, 8, 8, 8, 8, 8, 8, 8, 8, 8, 8, 8, 8, 8, 8, 8, 8, 8, 8, 8, 8] ((x15 : Nat) : Int)).bind fun x16 =>
          (some (IntKind.i64.wrap (x16 : Int))).bind fun x17 =>
          (some (IntKind.i64.wrap (y2j3 + x17))).bind fun x18 =>
          some x18) fun K4 =>
      (bif x8 then
          (some (y0j1 / 2 ^ 8)).bind fun x10 =>
          (some (IntKind.i64.wrap (y2j1 + 8))).bind fun x12 =>
          K4 (x10, x12)
        else
          K4 (y0j1, y2j1))) fun K2 =>
  (bif x4 then
      (some (x0 / 2 ^ 16)).bind fun x6 =>
      K2 (x6, 16)
    else
      K2 (x0, 0))
noncomputable def math_bits_LeadingZeros32_m (x0 : Nat) : Option (Int) :=
  (math_bits_Len32_m x0).bind fun x4 =>
  (some (IntKind.i64.wrap (32 - x4))).bind fun x5 =>
  some x5
noncomputable def whole_estimate_m (x0 : List Nat) (o0 : Nat) (n0 : Nat) (x1 : List Nat) : Option (Nat × List Nat) :=
  (some (x1.length : Int)).bind fun x12 =>
  (ckR o0 n0 x12).bind fun x15 =>
  (x0[x15]?).bind fun x16 =>
  (some (x16 % 18446744073709551616)).bind fun x17 =>
  (some (x17 * 2 ^ 32 % 18446744073709551616)).bind fun x18 =>
  (some (IntKind.i64.wrap (x12 - 1))).bind fun x21 =>
  (ckR o0 n0 x21).bind fun x22 =>
  (x0[x22]?).bind fun x23 =>
  (some (x23 % 18446744073709551616)).bind fun x24 =>
  (some ((x18 ||| x24) % 18446744073709551616)).bind fun x25 =>
  (some (IntKind.i64.wrap (x12 - 1))).bind fun x28 =>
  (geti x1 x28).bind fun x29 =>
  (some (x29 % 18446744073709551616)).bind fun x31 =>
  (some (IntKind.i64.wrap (x12 - 2))).bind fun x34 =>
  (geti x1 x34).bind fun x35 =>
  (some (x35 % 18446744073709551616)).bind fun x37 =>
  (uquo 18446744073709551616 x25 x31).bind fun x40 =>
  (urem x25 x31).bind fun x43 =>
  (loopM (fun (s10 : Nat × Nat) =>
    match s10 with
    | ⟨y9l5, y10l5⟩ =>
      (show Option ((Nat × Nat) ⊕ (Nat)) from
        letJ (fun (y61j12 : Bool) =>
            (bif y61j12 then
                (some (usub 18446744073709551616 y9l5 1)).bind fun x63 =>
                (some ((y10l5 + x31) % 18446744073709551616)).bind fun x66 =>
                (some (x66 / 2 ^ 32)).bind fun x68 =>
                (some (decide ((x68 : Nat) ≠ 0))).bind fun x69 =>
                (bif x69 then
                    some (.inr x63)
                  else
                    some (.inl (x63, x66)))
              else
                some (.inr y9l5))) fun K13 =>
        (some (y9l5 / 2 ^ 32)).bind fun x45 =>
        (some (decide ((x45 : Nat) ≠ 0))).bind fun x46 =>
        (bif x46 then
            some true
          else
            (some ((y9l5 * x37) % 18446744073709551616)).bind fun x50 =>
            (some (y10l5 * 2 ^ 32 % 18446744073709551616)).bind fun x52 =>
            (some (IntKind.i64.wrap (x12 - 2))).bind fun x55 =>
            (ckR o0 n0 x55).bind fun x56 =>
            (x0[x56]?).bind fun x57 =>
            (some (x57 % 18446744073709551616)).bind fun x58 =>
            (some ((x52 ||| x58) % 18446744073709551616)).bind fun x59 =>
            (some (decide ((x59 : Nat) < x50))).bind fun x60 =>
            some x60).bind fun c61_14 =>
        K13 c61_14)) (x40, x43)).bind fun y9e9 =>
      (eqLen x0 x0).bind fun _ =>
      some (y9e9, x0)
noncomputable def whole_subtractMultiple_m (x0 : List Nat) (o0 : Nat) (n0 : Nat) (x1 : List Nat) (x2 : Nat) : Option (Bool × List Nat) :=
  (some (n0 : Int)).bind fun x14 =>
  (loopM (fun (s12 : Nat × Int × Nat × (List Nat)) =>
    match s12 with
    | ⟨y7l6, y15l6, b12_0l6, r1000l6⟩ =>
      (show Option ((Nat × Int × Nat × (List Nat)) ⊕ (Nat × (List Nat))) from
        (some (decide ((y15l6 : Int) < x14))).bind fun x16 =>
        (bif x16 then
            (some (x1.length : Int)).bind fun x20 =>
            (some (decide ((y15l6 : Int) < x20))).bind fun x21 =>
            letJ (fun (y10j13 : Nat) =>
                (ckR o0 n0 y15l6).bind fun x31 =>
                (r1000l6[x31]?).bind fun x32 =>
                (some (x32 % 18446744073709551616)).bind fun x33 =>
                (whole_carrier_1_m y10j13 b12_0l6).bind fun ⟨x36, k16⟩ =>
                (some (x36 % 18446744073709551616)).bind fun x37 =>
                (some (usub 18446744073709551616 x33 x37)).bind fun x38 =>
                (some (usub 18446744073709551616 x38 y7l6)).bind fun x40 =>
                (some (x40 % 4294967296)).bind fun x44 =>
                (ckR o0 n0 y15l6).bind fun x45 =>
                (stM r1000l6 x45 x44).bind fun l18 =>
                (some (x40 / 2 ^ 63)).bind fun x47 =>
                (some (IntKind.i64.wrap (y15l6 + 1))).bind fun x48 =>
                some (.inl (x47, x48, k16, l18))) fun K14 =>
            (bif x21 then
                (geti x1 y15l6).bind fun x24 =>
                (some (x24 % 18446744073709551616)).bind fun x26 =>
                (some ((x26 * x2) % 18446744073709551616)).bind fun x28 =>
                K14 x28
              else
                K14 0)
          else
            some (.inr (y7l6, r1000l6))))) (0, 0, 0, x0)).bind fun e12 =>
    match e12 with
    | ⟨y7e11, r1000e11⟩ =>
      (some (decide ((y7e11 : Nat) ≠ 0))).bind fun x50 =>
      (eqLen x0 r1000e11).bind fun _ =>
      some (x50, r1000e11)
noncomputable def whole_longDiv_m (x0 : List Nat) (x1 : List Nat) : Option ((List Nat) × (List Nat)) :=
  (some (x1.length : Int)).bind fun x17 =>
  (some (IntKind.i64.wrap (x17 - 1))).bind fun x20 =>
  (geti x1 x20).bind fun x21 =>
  (math_bits_LeadingZeros32_m x21).bind fun x23 =>
  (some ((x23 % 18446744073709551616).toNat)).bind fun x24 =>
  (whole_shiftLeftN_m x0 x24).bind fun x27 =>
  (whole_shiftLeft_m x1 x24).bind fun x30 =>
  (subM x30 0 x17).bind fun x32 =>
  (some (x0.length : Int)).bind fun x34 =>
  (some (IntKind.i64.wrap (x34 - x17))).bind fun x36 =>
  (some (IntKind.i64.wrap (x36 + 1))).bind fun x37 =>
  (mkM 4 x37 (0 : Nat)).bind fun x38 =>
  (some (x0.length : Int)).bind fun x40 =>
  (some (IntKind.i64.wrap (x40 - x17))).bind fun x42 =>
  (loopM (fun (s36 : Int × (List Nat) × (List Nat)) =>
    match s36 with
    | ⟨y10l18, r38l18, r27l18⟩ =>
      (show Option ((Int × (List Nat) × (List Nat)) ⊕ ((List Nat) × (List Nat))) from
        (some (decide ((0 : Int) ≤ y10l18))).bind fun x44 =>
        (bif x44 then
            (some (IntKind.i64.wrap (y10l18 + x17))).bind fun x51 =>
            (some (IntKind.i64.wrap (x51 + 1))).bind fun x52 =>
            (ckS r27l18 y10l18 x52).bind fun ⟨o53, n53⟩ =>
            (whole_estimate_m r27l18 o53 n53 x32).bind fun ⟨x55, l38⟩ =>
            (eqLen r27l18 l38).bind fun _ =>
            (some (IntKind.i64.wrap (y10l18 + x17))).bind fun x60 =>
            (some (IntKind.i64.wrap (x60 + 1))).bind fun x61 =>
            (ckS l38 y10l18 x61).bind fun ⟨o62, n62⟩ =>
            (whole_subtractMultiple_m l38 o62 n62 x32 x55).bind fun ⟨x65, l40⟩ =>
            (eqLen l38 l40).bind fun _ =>
            letJ (fun (j53 : Nat × (List Nat)) =>
              match j53 with
              | ⟨y11j52, r27j52⟩ =>
                (some (y11j52 % 4294967296)).bind fun x111 =>
                (cki r38l18 y10l18).bind fun x112 =>
                (stM r38l18 x112 x111).bind fun l55 =>
                (some (IntKind.i64.wrap (y10l18 - 1))).bind fun x46 =>
                some (.inl (x46, l55, r27j52))) fun K53 =>
            (bif x65 then
                (some (usub 18446744073709551616 x55 1)).bind fun x67 =>
                (some (x32.length : Int)).bind fun x70 =>
                (loopM (fun (s65 : Int × Nat × (List Nat)) =>
                  match s65 with
                  | ⟨y71l60, b68_0l60, r27l60⟩ =>
                    (show Option ((Int × Nat × (List Nat)) ⊕ (Nat × (List Nat))) from
                      (some (decide ((y71l60 : Int) < x70))).bind fun x72 =>
                      (bif x72 then
                          (geti x32 y71l60).bind fun x74 =>
                          (some (IntKind.i64.wrap (y10l18 + y71l60))).bind fun x79 =>
                          (some (IntKind.i64.wrap (y10l18 + y71l60))).bind fun x84 =>
                          (cki r27l60 x84).bind fun x85 =>
                          (r27l60[x85]?).bind fun x86 =>
                          (some (x86 % 18446744073709551616)).bind fun x87 =>
                          (some (x74 % 18446744073709551616)).bind fun x89 =>
                          (some ((x87 + x89) % 18446744073709551616)).bind fun x90 =>
                          (whole_carrier_1_m x90 b68_0l60).bind fun ⟨x91, k68⟩ =>
                          (cki r27l60 x79).bind fun x92 =>
                          (stM r27l60 x92 x91).bind fun l69 =>
                          (some (IntKind.i64.wrap (y71l60 + 1))).bind fun x93 =>
                          some (.inl (x93, k68, l69))
                        else
                          some (.inr (b68_0l60, r27l60))))) (0, 0, l40)).bind fun e65 =>
                  match e65 with
                  | ⟨b68_0e64, r27e64⟩ =>
                    (some (IntKind.i64.wrap (y10l18 + x17))).bind fun x97 =>
                    (some (IntKind.i64.wrap (y10l18 + x17))).bind fun x102 =>
                    (cki r27e64 x102).bind fun x103 =>
                    (r27e64[x103]?).bind fun x104 =>
                    (some (x104 % 18446744073709551616)).bind fun x105 =>
                    (whole_carrier_1_m x105 b68_0e64).bind fun ⟨x106, k72⟩ =>
                    (cki r27e64 x97).bind fun x107 =>
                    (stM r27e64 x107 x106).bind fun l73 =>
                    K53 (x67, l73)
              else
                K53 (x55, l40))
          else
            some (.inr (r38l18, r27l18))))) (x42, x38, x27)).bind fun e36 =>
    match e36 with
    | ⟨r38e35, r27e35⟩ =>
      (mkM 4 x17 (0 : Nat)).bind fun x114 =>
      (loopM (fun (s81 : Int × (List Nat)) =>
        match s81 with
        | ⟨y116l77, r114l77⟩ =>
          (show Option ((Int × (List Nat)) ⊕ ((List Nat))) from
            (some (decide ((y116l77 : Int) < x17))).bind fun x117 =>
            (bif x117 then
                (cki r27e35 y116l77).bind fun x123 =>
                (r27e35[x123]?).bind fun x124 =>
                (some (x124 % 18446744073709551616)).bind fun x125 =>
                (some (IntKind.i64.wrap (y116l77 + 1))).bind fun x128 =>
                (cki r27e35 x128).bind fun x129 =>
                (r27e35[x129]?).bind fun x130 =>
                (some (x130 % 18446744073709551616)).bind fun x131 =>
                (some (x131 * 2 ^ 32 % 18446744073709551616)).bind fun x132 =>
                (some ((x125 ||| x132) % 18446744073709551616)).bind fun x133 =>
                (some (x133 / 2 ^ (min x24 64))).bind fun x135 =>
                (some (x135 % 4294967296)).bind fun x136 =>
                (cki r114l77 y116l77).bind fun x137 =>
                (stM r114l77 x137 x136).bind fun l83 =>
                (some (IntKind.i64.wrap (y116l77 + 1))).bind fun x138 =>
                some (.inl (x138, l83))
              else
                some (.inr r114l77)))) (0, x114)).bind fun r114e80 =>
          some (r38e35, r114e80)
noncomputable def whole_divWords_m (x0 : List Nat) (x1 : List Nat) : Option ((List Nat) × (List Nat)) :=
  (whole_compareWords_m x0 x1).bind fun x12 =>
  (some (decide ((x12 : Int) < 0))).bind fun x13 =>
  (bif x13 then
      (slices_Clone_m x0).bind fun x15 =>
      some ([], x15)
    else
      (some (x0.length : Int)).bind fun x18 =>
      (some (decide ((x18 : Int) ≤ 2))).bind fun x19 =>
      (bif x19 then
          (whole_low_m x0).bind fun x21 =>
          (whole_low_m x1).bind fun x23 =>
          (uquo 18446744073709551616 x21 x23).bind fun x26 =>
          (whole_small_m false x26).bind fun ⟨x27_0, x27_1⟩ =>
          (urem x21 x23).bind fun x31 =>
          (whole_small_m false x31).bind fun ⟨x32_0, x32_1⟩ =>
          some (x27_1, x32_1)
        else
          (some (x1.length : Int)).bind fun x36 =>
          (some (decide ((x36 : Int) = 1))).bind fun x37 =>
          (bif x37 then
              (slices_Clone_m x0).bind fun x39 =>
              (geti x1 0).bind fun x42 =>
              (some (x42 % 18446744073709551616)).bind fun x44 =>
              (whole_shortDiv_m x39 x44).bind fun ⟨x45, l5⟩ =>
              (eqLen x39 l5).bind fun _ =>
              (some (x45 % 4294967296)).bind fun x48 =>
              some (l5, [x48])
            else
              (whole_longDiv_m x0 x1).bind fun ⟨x52a, x52b⟩ =>
              some (x52a, x52b))))
noncomputable def whole_FromInt64_m (x0 : Int) : Option (Zr) :=
  (some ((x0 % 18446744073709551616).toNat)).bind fun x5 =>
  (some (decide ((x0 : Int) < 0))).bind fun x7 =>
  letJ (fun (y3j1 : Nat) =>
      (some (decide ((x0 : Int) < 0))).bind fun x11 =>
      (whole_small_m x11 y3j1).bind fun ⟨x13_0, x13_1⟩ =>
      some ⟨x13_0, x13_1⟩) fun K2 =>
  (bif x7 then
      (some (usub 18446744073709551616 0 x5)).bind fun x9 =>
      K2 x9
    else
      K2 x5)
noncomputable def whole_Int64_m (x0 : Zr) : Option (Int × Bool) :=
  match x0 with
  | ⟨x0_0, x0_1⟩ =>
    (whole_trim_m x0_1).bind fun x8 =>
    (some (x8.length : Int)).bind fun x10 =>
    (some (decide ((2 : Int) < x10))).bind fun x11 =>
    (bif x11 then
        some (0, false)
      else
        (whole_low_m x8).bind fun x13 =>
        (bif x0_0 then
            (some (decide ((9223372036854775808 : Nat) < x13))).bind fun x17 =>
            (bif x17 then
                some (0, false)
              else
                (some (usub 18446744073709551616 0 x13)).bind fun x19 =>
                (some (IntKind.i64.wrap (x19 : Int))).bind fun x20 =>
                some (x20, true))
          else
            (some (decide ((9223372036854775808 : Nat) ≤ x13))).bind fun x22 =>
            (bif x22 then
                some (0, false)
              else
                (some (IntKind.i64.wrap (x13 : Int))).bind fun x24 =>
                some (x24, true))))
noncomputable def whole_IsCanonical_m (x0 : Zr) : Option (Bool) :=
  match x0 with
  | ⟨x0_0, x0_1⟩ =>
    (some (x0_1.length : Int)).bind fun x5 =>
    (some (decide ((x5 : Int) = 0))).bind fun x6 =>
    (bif x6 then
        (some (!x0_0)).bind fun x9 =>
        some x9
      else
        (some (x0_1.length : Int)).bind fun x14 =>
        (some (IntKind.i64.wrap (x14 - 1))).bind fun x15 =>
        (geti x0_1 x15).bind fun x16 =>
        (some (decide ((x16 : Nat) ≠ 0))).bind fun x18 =>
        some x18)
noncomputable def whole_signedSum_m (x0 : Bool) (x1 : List Nat) (x2 : Bool) (x3 : List Nat) : Option (Zr) :=
  (some (x0 == x2)).bind fun x11 =>
  (bif x11 then
      (whole_addWords_m x1 x3).bind fun x15 =>
      (whole_build_m x0 x15).bind fun ⟨x16_0, x16_1⟩ =>
      some ⟨x16_0, x16_1⟩
    else
      (whole_compareWords_m x1 x3).bind fun x19 =>
      (some (decide ((x19 : Int) < 0))).bind fun x20 =>
      (bif x20 then
          (whole_subWords_m x3 x1).bind fun x24 =>
          (whole_build_m x2 x24).bind fun ⟨x25_0, x25_1⟩ =>
          some ⟨x25_0, x25_1⟩
        else
          (whole_subWords_m x1 x3).bind fun x29 =>
          (whole_build_m x0 x29).bind fun ⟨x30_0, x30_1⟩ =>
          some ⟨x30_0, x30_1⟩))
noncomputable def whole_Add_m (x0 : Zr) (x1 : Zr) : Option (Zr) :=
  match x0 with
  | ⟨x0_0, x0_1⟩ =>
    match x1 with
    | ⟨x1_0, x1_1⟩ =>
      (whole_Int64_m ⟨x0_0, x0_1⟩).bind fun ⟨x12a, x12b⟩ =>
      (whole_Int64_m ⟨x1_0, x1_1⟩).bind fun ⟨x17a, x17b⟩ =>
      letJ (fun (y23j2 : Bool) =>
          letJ (fun (j5 : Unit) =>
              (whole_trim_m x0_1).bind fun x41 =>
              (whole_trim_m x1_1).bind fun x46 =>
              (whole_signedSum_m x0_0 x41 x1_0 x46).bind fun ⟨x47_0, x47_1⟩ =>
              some ⟨x47_0, x47_1⟩) fun K5 =>
          (bif y23j2 then
              (some (IntKind.i64.wrap (x12a + x17a))).bind fun x26 =>
              (some (IntKind.i64.wrap ((BitVec.ofInt 64 x12a ^^^ BitVec.ofInt 64 x26).toNat))).bind fun x29 =>
              (some (IntKind.i64.wrap ((BitVec.ofInt 64 x17a ^^^ BitVec.ofInt 64 x26).toNat))).bind fun x32 =>
              (some (IntKind.i64.wrap ((BitVec.ofInt 64 x29 &&& BitVec.ofInt 64 x32).toNat))).bind fun x33 =>
              (some (decide ((0 : Int) ≤ x33))).bind fun x34 =>
              (bif x34 then
                  (whole_FromInt64_m x26).bind fun ⟨x36_0, x36_1⟩ =>
                  some ⟨x36_0, x36_1⟩
                else
                  K5 ())
            else
              K5 ())) fun K3 =>
      (bif x12b then
          some x17b
        else
          some false).bind fun c23_6 =>
      K3 c23_6
noncomputable def whole_Sub_m (x0 : Zr) (x1 : Zr) : Option (Zr) :=
  match x0 with
  | ⟨x0_0, x0_1⟩ =>
    match x1 with
    | ⟨x1_0, x1_1⟩ =>
      (whole_Int64_m ⟨x0_0, x0_1⟩).bind fun ⟨x12a, x12b⟩ =>
      (whole_Int64_m ⟨x1_0, x1_1⟩).bind fun ⟨x17a, x17b⟩ =>
      letJ (fun (y23j2 : Bool) =>
          letJ (fun (j5 : Unit) =>
              (whole_trim_m x0_1).bind fun x41 =>
              (some (!x1_0)).bind fun x44 =>
              (whole_trim_m x1_1).bind fun x47 =>
              (whole_signedSum_m x0_0 x41 x44 x47).bind fun ⟨x48_0, x48_1⟩ =>
              some ⟨x48_0, x48_1⟩) fun K5 =>
          (bif y23j2 then
              (some (IntKind.i64.wrap (x12a - x17a))).bind fun x26 =>
              (some (IntKind.i64.wrap ((BitVec.ofInt 64 x12a ^^^ BitVec.ofInt 64 x17a).toNat))).bind fun x29 =>
              (some (IntKind.i64.wrap ((BitVec.ofInt 64 x12a ^^^ BitVec.ofInt 64 x26).toNat))).bind fun x32 =>
              (some (IntKind.i64.wrap ((BitVec.ofInt 64 x29 &&& BitVec.ofInt 64 x32).toNat))).bind fun x33 =>
              (some (decide ((0 : Int) ≤ x33))).bind fun x34 =>
              (bif x34 then
                  (whole_FromInt64_m x26).bind fun ⟨x36_0, x36_1⟩ =>
                  some ⟨x36_0, x36_1⟩
                else
                  K5 ())
            else
              K5 ())) fun K3 =>
      (bif x12b then
          some x17b
        else
          some false).bind fun c23_6 =>
      K3 c23_6
noncomputable def whole_Mul_m (x0 : Zr) (x1 : Zr) : Option (Zr) :=
  match x0 with
  | ⟨x0_0, x0_1⟩ =>
    match x1 with
    | ⟨x1_0, x1_1⟩ =>
      (whole_trim_m x0_1).bind fun x9 =>
      (whole_trim_m x1_1).bind fun x12 =>
      letJ (fun (y20j2 : Bool) =>
          (bif y20j2 then
              (some (!(x0_0 == x1_0))).bind fun x25 =>
              (whole_low_m x9).bind fun x27 =>
              (whole_low_m x12).bind fun x29 =>
              (some ((x27 * x29) % 18446744073709551616)).bind fun x30 =>
              (whole_small_m x25 x30).bind fun ⟨x31_0, x31_1⟩ =>
              some ⟨x31_0, x31_1⟩
            else
              (some (!(x0_0 == x1_0))).bind fun x36 =>
              (whole_mulWords_m x9 x12).bind fun x39 =>
              (whole_build_m x36 x39).bind fun ⟨x40_0, x40_1⟩ =>
              some ⟨x40_0, x40_1⟩)) fun K3 =>
      (some (x9.length : Int)).bind fun x14 =>
      (some (decide ((x14 : Int) ≤ 1))).bind fun x15 =>
      (bif x15 then
          (some (x12.length : Int)).bind fun x18 =>
          (some (decide ((x18 : Int) ≤ 1))).bind fun x19 =>
          some x19
        else
          some false).bind fun c20_4 =>
      K3 c20_4
noncomputable def whole_Neg_m (x0 : Zr) : Option (Zr) :=
  match x0 with
  | ⟨x0_0, x0_1⟩ =>
    (some (!x0_0)).bind fun x5 =>
    (whole_trim_m x0_1).bind fun x8 =>
    (slices_Clone_m x8).bind fun x9 =>
    (whole_build_m x5 x9).bind fun ⟨x10_0, x10_1⟩ =>
    some ⟨x10_0, x10_1⟩
noncomputable def whole_Abs_m (x0 : Zr) : Option (Zr) :=
  match x0 with
  | ⟨x0_0, x0_1⟩ =>
    (whole_trim_m x0_1).bind fun x5 =>
    (slices_Clone_m x5).bind fun x6 =>
    (whole_build_m false x6).bind fun ⟨x7_0, x7_1⟩ =>
    some ⟨x7_0, x7_1⟩
noncomputable def whole_Sign_m (x0 : Zr) : Option (Int) :=
  match x0 with
  | ⟨x0_0, x0_1⟩ =>
    (whole_trim_m x0_1).bind fun x6 =>
    (some (x6.length : Int)).bind fun x7 =>
    (some (decide ((x7 : Int) = 0))).bind fun x8 =>
    (bif x8 then
        some 0
      else
        (bif x0_0 then
            some (-1)
          else
            some 1))
noncomputable def whole_Cmp_m (x0 : Zr) (x1 : Zr) : Option (Int) :=
  match x0 with
  | ⟨x0_0, x0_1⟩ =>
    match x1 with
    | ⟨x1_0, x1_1⟩ =>
      (whole_Sign_m ⟨x0_0, x0_1⟩).bind fun x8 =>
      (whole_Sign_m ⟨x1_0, x1_1⟩).bind fun x10 =>
      (some (decide ((x8 : Int) < x10))).bind fun x14 =>
      (bif x14 then
          some (-1)
        else
          (some (decide ((x10 : Int) < x8))).bind fun x18 =>
          (bif x18 then
              some 1
            else
              (some (decide ((x8 : Int) < 0))).bind fun x21 =>
              (bif x21 then
                  (whole_trim_m x1_1).bind fun x24 =>
                  (whole_trim_m x0_1).bind fun x27 =>
                  (whole_compareWords_m x24 x27).bind fun x28 =>
                  some x28
                else
                  (whole_trim_m x0_1).bind fun x31 =>
                  (whole_trim_m x1_1).bind fun x34 =>
                  (whole_compareWords_m x31 x34).bind fun x35 =>
                  some x35)))
noncomputable def whole_DivMod_m (x0 : Zr) (x1 : Zr) : Option (Zr × Zr × Int) :=
  match x0 with
  | ⟨x0_0, x0_1⟩ =>
    match x1 with
    | ⟨x1_0, x1_1⟩ =>
      (whole_trim_m x0_1).bind fun x13 =>
      (whole_trim_m x1_1).bind fun x16 =>
      (some (x16.length : Int)).bind fun x18 =>
      (some (decide ((x18 : Int) = 0))).bind fun x19 =>
      (bif x19 then
          some (⟨false, []⟩, ⟨false, []⟩, 7)
        else
          (whole_divWords_m x13 x16).bind fun ⟨x25a, x25b⟩ =>
          (whole_trim_m x25b).bind fun x29 =>
          letJ (fun (j3 : Bool × Bool) =>
            match j3 with
            | ⟨y36j2, b2_0j2⟩ =>
              letJ (fun (j5 : (List Nat) × (List Nat)) =>
                match j5 with
                | ⟨y9j4, y10j4⟩ =>
                  (some (!(b2_0j2 == x1_0))).bind fun x47 =>
                  (whole_build_m x47 y9j4).bind fun ⟨x49_0, x49_1⟩ =>
                  (whole_build_m false y10j4).bind fun ⟨x51_0, x51_1⟩ =>
                  some (⟨x49_0, x49_1⟩, ⟨x51_0, x51_1⟩, 0)) fun K5 =>
              (bif y36j2 then
                  (whole_addWords_m x25a [1]).bind fun x39 =>
                  (whole_subWords_m x16 x29).bind fun x42 =>
                  K5 (x39, x42)
                else
                  K5 (x25a, x29))) fun K3 =>
          (bif x0_0 then
              (some (x29.length : Int)).bind fun x34 =>
              (some (decide ((0 : Int) < x34))).bind fun x35 =>
              some x35
            else
              some false).bind fun c36_6 =>
          K3 (c36_6, x0_0))
noncomputable def whole_GCD_m (x0 : Zr) (x1 : Zr) : Option (Zr) :=
  match x0 with
  | ⟨x0_0, x0_1⟩ =>
    match x1 with
    | ⟨x1_0, x1_1⟩ =>
      (whole_trim_m x0_1).bind fun x13 =>
      (whole_trim_m x1_1).bind fun x16 =>
      (loopM (fun (s12 : (List Nat) × (List Nat)) =>
        match s12 with
        | ⟨y5l6, y6l6⟩ =>
          (show Option (((List Nat) × (List Nat)) ⊕ ((List Nat) × (List Nat))) from
            letJ (fun (y29j15 : Bool) =>
                (bif y29j15 then
                    (whole_divWords_m y5l6 y6l6).bind fun ⟨x33a, x33b⟩ =>
                    (whole_trim_m x33b).bind fun x38 =>
                    some (.inl (y6l6, x38))
                  else
                    some (.inr (y5l6, y6l6)))) fun K16 =>
            (some (y6l6.length : Int)).bind fun x18 =>
            (some (decide ((0 : Int) < x18))).bind fun x19 =>
            (bif x19 then
                (some (y5l6.length : Int)).bind fun x22 =>
                (some (decide ((2 : Int) < x22))).bind fun x23 =>
                (bif x23 then
                    some true
                  else
                    (some (y6l6.length : Int)).bind fun x26 =>
                    (some (decide ((2 : Int) < x26))).bind fun x27 =>
                    some x27).bind fun c28_18 =>
                some c28_18
              else
                some false).bind fun c29_17 =>
            K16 c29_17)) (x13, x16)).bind fun e12 =>
        match e12 with
        | ⟨y5e11, y6e11⟩ =>
          (some (y6e11.length : Int)).bind fun x40 =>
          (some (decide ((x40 : Int) = 0))).bind fun x41 =>
          (bif x41 then
              (slices_Clone_m y5e11).bind fun x43 =>
              (whole_build_m false x43).bind fun ⟨x44_0, x44_1⟩ =>
              some ⟨x44_0, x44_1⟩
            else
              (whole_low_m y5e11).bind fun x46 =>
              (whole_low_m y6e11).bind fun x48 =>
              (loopM (fun (s24 : Nat × Nat) =>
                match s24 with
                | ⟨y9l21, y10l21⟩ =>
                  (show Option ((Nat × Nat) ⊕ (Nat)) from
                    (some (decide ((0 : Nat) < y10l21))).bind fun x50 =>
                    (bif x50 then
                        (urem y9l21 y10l21).bind fun x54 =>
                        some (.inl (y10l21, x54))
                      else
                        some (.inr y9l21)))) (x46, x48)).bind fun y9e23 =>
                  (whole_small_m false y9e23).bind fun ⟨x56_0, x56_1⟩ =>
                  some ⟨x56_0, x56_1⟩)
noncomputable def slices_Reverse_m (x0 : List Nat) : Option (List Nat) :=
  (some (x0.length : Int)).bind fun x5 =>
  (some (IntKind.i64.wrap (x5 - 1))).bind fun x6 =>
  (loopM (fun (s10 : Int × Int × (List Nat)) =>
    match s10 with
    | ⟨y2l5, y3l5, r1000l5⟩ =>
      (show Option ((Int × Int × (List Nat)) ⊕ ((List Nat))) from
        (some (decide ((y2l5 : Int) < y3l5))).bind fun x9 =>
        (bif x9 then
            (cki r1000l5 y3l5).bind fun x20 =>
            (r1000l5[x20]?).bind fun x21 =>
            (cki r1000l5 y2l5).bind fun x24 =>
            (r1000l5[x24]?).bind fun x25 =>
            (cki r1000l5 y2l5).bind fun x26 =>
            (stM r1000l5 x26 x21).bind fun l13 =>
            (cki l13 y3l5).bind fun x27 =>
            (stM l13 x27 x25).bind fun l14 =>
            (some (IntKind.i64.wrap (y2l5 + 1))).bind fun x11 =>
            (some (IntKind.i64.wrap (y3l5 - 1))).bind fun x13 =>
            some (.inl (x11, x13, l14))
          else
            some (.inr r1000l5)))) (0, x6, x0)).bind fun r1000e9 =>
      (eqLen x0 r1000e9).bind fun _ =>
      some r1000e9
noncomputable def internal_stringslite_HasPrefix_m (x0 : Str) (x1 : Str) : Option (Bool) :=
  letJ (fun (y4j2 : Bool) =>
      some y4j2) fun K3 =>
  (some ((x0 : Str).length : Int)).bind fun x6 =>
  (some ((x1 : Str).length : Int)).bind fun x8 =>
  (some (decide ((x8 : Int) ≤ x6))).bind fun x9 =>
  (bif x9 then
      (some ((x1 : Str).length : Int)).bind fun x13 =>
      (subM x0 0 x13).bind fun x14 =>
      (some (decide ((x14 : Str) = x1))).bind fun x16 =>
      some x16
    else
      some false).bind fun c17_4 =>
  K3 c17_4
noncomputable def internal_stringslite_CutPrefix_m (x0 : Str) (x1 : Str) : Option (Str × Bool) :=
  (internal_stringslite_HasPrefix_m x0 x1).bind fun x8 =>
  (some (!x8)).bind fun x9 =>
  (bif x9 then
      some (x0, false)
    else
      (some ((x1 : Str).length : Int)).bind fun x13 =>
      (subM x0 x13 (x0.length : Int)).bind fun x14 =>
      some (x14, true))
noncomputable def strings_CutPrefix_m (x0 : Str) (x1 : Str) : Option (Str × Bool) :=
  (internal_stringslite_CutPrefix_m x0 x1).bind fun ⟨x8a, x8b⟩ =>
  some (x8a, x8b)
noncomputable def whole_isDecimal_m (x0 : Str) : Option (Bool) :=
  letJ (fun (y15j3 : Bool) =>
      (bif y15j3 then
          some false
        else
          (some ((x0 : Str).length : Int)).bind fun x17 =>
          (loopM (fun (y18l9 : Int) =>
              (show Option ((Int) ⊕ ((Unit) ⊕ (Bool))) from
                (some (decide ((y18l9 : Int) < x17))).bind fun x19 =>
                (bif x19 then
                    letJ (fun (y30j16 : Bool) =>
                        (bif y30j16 then
                            some (.inr (.inr false))
                          else
                            (some (IntKind.i64.wrap (y18l9 + 1))).bind fun x31 =>
                            some (.inl x31))) fun K17 =>
                    (sgeti x0 y18l9).bind fun x23 =>
                    (some (decide ((x23 : Nat) < 48))).bind fun x24 =>
                    (bif x24 then
                        some true
                      else
                        (sgeti x0 y18l9).bind fun x28 =>
                        (some (decide ((57 : Nat) < x28))).bind fun x29 =>
                        some x29).bind fun c30_18 =>
                    K17 c30_18
                  else
                    some (.inr (.inl ()))))) 0).bind fun e14 =>
            match e14 with
            | .inr v14 => some v14
            | .inl _ =>
              some true)) fun K4 =>
  (some (decide ((x0 : Str) = []))).bind fun x5 =>
  (bif x5 then
      some true
    else
      (sgeti x0 0).bind fun x8 =>
      (some (decide ((x8 : Nat) = 48))).bind fun x9 =>
      (bif x9 then
          (some ((x0 : Str).length : Int)).bind fun x12 =>
          (some (decide ((1 : Int) < x12))).bind fun x13 =>
          some x13
        else
          some false).bind fun c14_20 =>
      some c14_20).bind fun c15_19 =>
  K4 c15_19
noncomputable def whole_Format_m (x0 : Zr) : Option (Str) :=
  match x0 with
  | ⟨x0_0, x0_1⟩ =>
    (whole_trim_m x0_1).bind fun x8 =>
    (slices_Clone_m x8).bind fun x9 =>
    (some (x9.length : Int)).bind fun x11 =>
    (some (decide ((x11 : Int) = 0))).bind fun x12 =>
    (bif x12 then
        some [48]
      else
        (loopM (fun (s18 : (List Nat) × (List Nat)) =>
          match s18 with
          | ⟨r310l9, r311l9⟩ =>
            (show Option (((List Nat) × (List Nat)) ⊕ ((List Nat))) from
              (some (r310l9.length : Int)).bind fun x14 =>
              (some (decide ((0 : Int) < x14))).bind fun x15 =>
              (bif x15 then
                  (whole_shortDiv_m r310l9 1000000000).bind fun ⟨x17, l20⟩ =>
                  (eqLen r310l9 l20).bind fun _ =>
                  (whole_trimT_m l20).bind fun x19 =>
                  (loopM (fun (s26 : Nat × Int × (List Nat)) =>
                    match s26 with
                    | ⟨y5l23, y20l23, r318l23⟩ =>
                      (show Option ((Nat × Int × (List Nat)) ⊕ ((List Nat))) from
                        (some (decide ((y20l23 : Int) < 9))).bind fun x21 =>
                        (bif x21 then
                            (some (y5l23 % 10)).bind fun x24 =>
                            (some ((48 + x24) % 18446744073709551616)).bind fun x25 =>
                            (some (x25 % 256)).bind fun x26 =>
                            (apM 1 r318l23 [x26]).bind fun x28 =>
                            (some (y5l23 / 10 % 18446744073709551616)).bind fun x30 =>
                            (some (IntKind.i64.wrap (y20l23 + 1))).bind fun x31 =>
                            some (.inl (x30, x31, x28))
                          else
                            some (.inr r318l23)))) (x17, 0, r311l9)).bind fun r318e25 =>
                      some (.inl (x19, r318e25))
                else
                  some (.inr r311l9)))) (x9, [])).bind fun r311e17 =>
            (loopM (fun (r321l29 : (List Nat)) =>
                (show Option (((List Nat)) ⊕ ((List Nat))) from
                  (some (r321l29.length : Int)).bind fun x34 =>
                  (some (IntKind.i64.wrap (x34 - 1))).bind fun x35 =>
                  (cki r321l29 x35).bind fun x36 =>
                  (r321l29[x36]?).bind fun x37 =>
                  (some (decide ((x37 : Nat) = 48))).bind fun x38 =>
                  (bif x38 then
                      (some (r321l29.length : Int)).bind fun x41 =>
                      (some (IntKind.i64.wrap (x41 - 1))).bind fun x42 =>
                      (subM r321l29 0 x42).bind fun x43 =>
                      some (.inl x43)
                    else
                      some (.inr r321l29)))) r311e17).bind fun r321e31 =>
                letJ (fun (r323j33 : (List Nat)) =>
                    (slices_Reverse_m r323j33).bind fun l36 =>
                    (eqLen r323j33 l36).bind fun _ =>
                    (some (List.map UInt8.ofNat l36)).bind fun x52 =>
                    some x52) fun K34 =>
                (bif x0_0 then
                    (apM 1 r321e31 [45]).bind fun x48 =>
                    K34 x48
                  else
                    K34 r321e31))
noncomputable def whole_Parse_m (x0 : Str) : Option (Zr × Int) :=
  (strings_CutPrefix_m x0 [45]).bind fun ⟨x13a, x13b⟩ =>
  (some ((x13a : Str).length : Int)).bind fun x17 =>
  (some (decide ((1000 : Int) < x17))).bind fun x18 =>
  (bif x18 then
      some (⟨false, []⟩, 5)
    else
      letJ (fun (j4 : Bool × Bool) =>
        match j4 with
        | ⟨y5j3, y29j3⟩ =>
          (bif y29j3 then
              some (⟨false, []⟩, 3)
            else
              (loopM (fun (s20 : Str × (List Nat)) =>
                match s20 with
                | ⟨y4l12, r306l12⟩ =>
                  (show Option ((Str × (List Nat)) ⊕ ((List Nat))) from
                    (some ((y4l12 : Str).length : Int)).bind fun x32 =>
                    (some (decide ((0 : Int) < x32))).bind fun x33 =>
                    (bif x33 then
                        (some ((y4l12 : Str).length : Int)).bind fun x35 =>
                        (some (min (9 : Int) x35)).bind fun x36 =>
                        (loopM (fun (s26 : Nat × Nat × Int) =>
                          match s26 with
                          | ⟨y8l23, y9l23, y38l23⟩ =>
                            (show Option ((Nat × Nat × Int) ⊕ (Nat × Nat)) from
                              (some (decide ((y38l23 : Int) < x36))).bind fun x39 =>
                              (bif x39 then
                                  (some ((y8l23 * 10) % 18446744073709551616)).bind fun x42 =>
                                  (sgeti y4l12 y38l23).bind fun x45 =>
                                  (some (usub 256 x45 48)).bind fun x46 =>
                                  (some (x46 % 18446744073709551616)).bind fun x47 =>
                                  (some ((x42 + x47) % 18446744073709551616)).bind fun x48 =>
                                  (some ((y9l23 * 10) % 18446744073709551616)).bind fun x50 =>
                                  (some (IntKind.i64.wrap (y38l23 + 1))).bind fun x51 =>
                                  some (.inl (x48, x50, x51))
                                else
                                  some (.inr (y8l23, y9l23))))) (0, 1, 0)).bind fun e26 =>
                          match e26 with
                          | ⟨y8e25, y9e25⟩ =>
                            (whole_scaleWordsT_m r306l12 y9e25 y8e25).bind fun x55 =>
                            (subM y4l12 x36 (y4l12.length : Int)).bind fun x58 =>
                            some (.inl (x58, x55))
                      else
                        some (.inr r306l12)))) (x13a, [])).bind fun r306e19 =>
                  (whole_build_m y5j3 r306e19).bind fun ⟨x61_0, x61_1⟩ =>
                  some (⟨x61_0, x61_1⟩, 0))) fun K4 =>
      (whole_isDecimal_m x13a).bind fun x21 =>
      (some (!x21)).bind fun x22 =>
      (bif x22 then
          some true
        else
          (bif x13b then
              (some (decide ((x13a : Str) = [48]))).bind fun x27 =>
              some x27
            else
              some false).bind fun c28_28 =>
          some c28_28).bind fun c29_27 =>
      K4 (x13b, c29_27))
end Go.Proofs.Ytgkafblpckcekaa
