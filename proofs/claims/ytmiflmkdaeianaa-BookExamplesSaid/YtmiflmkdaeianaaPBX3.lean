/- A part of the proof: the framework, the plain functions, the followed functions, the plain laws. -/
import Derived.Test.YtmiflmkdaeianaaPBX2
set_option linter.unusedVariables false
set_option linter.unusedSimpArgs false
namespace Go.Proofs.Ytmiflmkdaeianaa
open Go.Fw
noncomputable def slices_Clone_m (x0 : List Nat) : Option (List Nat) := apM 4 [] x0
noncomputable def whole_carrier_1_m (x0 : Nat) (c0 : Nat) : Option (Nat × Nat) := (some ((x0 + c0) % 18446744073709551616)).bind fun x6 => (some (x6 / 2 ^ 32)).bind fun x8 => (some (x6 % 4294967296)).bind fun x10 => some (x10, x8)
noncomputable def whole_trim_m (x0 : List Nat) : Option (List Nat) := (loopM (fun (y0l5 : (List Nat)) => (show Option (((List Nat)) ⊕ ((List Nat))) from letJ (fun (y14j12 : Bool) => (bif y14j12 then (some (y0l5.length : Int)).bind fun x17 => (some (IntKind.i64.wrap (x17 - 1))).bind fun x18 => (subM y0l5 0 x18).bind fun x19 => some (.inl x19) else some (.inr y0l5))) fun K13 => (some (y0l5.length : Int)).bind fun x4 => (some (decide ((0 : Int) < x4))).bind fun x5 => (bif x5 then (some (y0l5.length : Int)).bind fun x9 => (some (IntKind.i64.wrap (x9 - 1))).bind fun x10 => (geti y0l5 x10).bind fun x11 => (some (decide ((x11 : Nat) = 0))).bind fun x13 => some x13 else some false).bind fun c14_14 => K13 c14_14)) x0).bind fun y0e9 => some y0e9
noncomputable def whole_build_m (x0 : Bool) (x1 : List Nat) : Option (Zr) := (whole_trim_m x1).bind fun x6 => (some (x6.length : Int)).bind fun x8 => (some (decide ((x8 : Int) = 0))).bind fun x9 => (bif x9 then some ⟨false, []⟩ else some ⟨x0, x6⟩)
noncomputable def whole_small_m (x0 : Bool) (x1 : Nat) : Option (Zr) := (some (decide ((x1 : Nat) = 0))).bind fun x7 => (bif x7 then some ⟨false, []⟩ else (some (x1 / 2 ^ 32)).bind fun x11 => (some (decide ((x11 : Nat) = 0))).bind fun x12 => (bif x12 then (some (x1 % 4294967296)).bind fun x15 => some ⟨x0, [x15]⟩ else (some (x1 % 4294967296)).bind fun x20 => (some (x1 / 2 ^ 32)).bind fun x22 => (some (x22 % 4294967296)).bind fun x23 => some ⟨x0, [x20, x23]⟩))
noncomputable def whole_low_m (x0 : List Nat) : Option (Nat) := (some (x0.length : Int)).bind fun x4 => (some (decide ((x4 : Int) = 0))).bind fun x6 => (bif x6 then some 0 else (some (decide ((x4 : Int) = 1))).bind fun x8 => (bif x8 then (geti x0 0).bind fun x10 => (some (x10 % 18446744073709551616)).bind fun x12 => some x12 else (geti x0 0).bind fun x14 => (some (x14 % 18446744073709551616)).bind fun x16 => (geti x0 1).bind fun x18 => (some (x18 % 18446744073709551616)).bind fun x20 => (some (x20 * 2 ^ 32 % 18446744073709551616)).bind fun x21 => (some ((x16 ||| x21) % 18446744073709551616)).bind fun x22 => some x22))
noncomputable def whole_compareWords_m (x0 : List Nat) (x1 : List Nat) : Option (Int) := (some (x0.length : Int)).bind fun x7 => (some (x1.length : Int)).bind fun x9 => (some (decide ((x7 : Int) ≠ x9))).bind fun x10 => (bif x10 then (some (x0.length : Int)).bind fun x12 => (some (x1.length : Int)).bind fun x14 => (some (decide ((x12 : Int) < x14))).bind fun x15 => (bif x15 then some (-1) else some 1) else (some (x0.length : Int)).bind fun x17 => (some (IntKind.i64.wrap (x17 - 1))).bind fun x18 => (loopM (fun (y5l3 : Int) => (show Option ((Int) ⊕ ((Unit) ⊕ (Int))) from (some (decide ((0 : Int) ≤ y5l3))).bind fun x20 => (bif x20 then (geti x0 y5l3).bind fun x25 => (geti x1 y5l3).bind fun x29 => (some (decide ((x25 : Nat) ≠ x29))).bind fun x31 => (bif x31 then (geti x0 y5l3).bind fun x34 => (geti x1 y5l3).bind fun x38 => (some (decide ((x34 : Nat) < x38))).bind fun x40 => (bif x40 then some (.inr (.inr (-1))) else some (.inr (.inr 1))) else (some (IntKind.i64.wrap (y5l3 - 1))).bind fun x22 => some (.inl x22)) else some (.inr (.inl ()))))) x18).bind fun e6 => match e6 with | .inr v6 => some v6 | .inl _ => some 0)
noncomputable def whole_addWords_m (x0 : List Nat) (x1 : List Nat) : Option (List Nat) := (some (x0.length : Int)).bind fun x10 => (some (x1.length : Int)).bind fun x12 => (some (max (x10 : Int) x12)).bind fun x13 => (some (IntKind.i64.wrap (x13 + 1))).bind fun x14 => (mkE (α := Nat) 4 x14).bind fun x15 => (rangeM (fun (k : Nat) (s7 : Nat × (List Nat)) => match s7 with | ⟨b16_0l4, r302l4⟩ => (show Option (Nat × (List Nat)) from (some (x0.getD k 0 % 18446744073709551616)).bind fun p20 => (some (x1.getD k 0 % 18446744073709551616)).bind fun p21 => (some ((p20 + p21) % 18446744073709551616)).bind fun x26 => (whole_carrier_1_m x26 b16_0l4).bind fun ⟨x27, k9⟩ => (apM 4 r302l4 [x27]).bind fun x29 => some (k9, x29))) (max x0.length x1.length) (0, x15)).bind fun e7 => match e7 with | ⟨b16_0l4, r302l4⟩ => (whole_carrier_1_m 0 b16_0l4).bind fun ⟨x32, k11⟩ => (apM 4 r302l4 [x32]).bind fun x34 => some x34
noncomputable def whole_subWords_m (x0 : List Nat) (x1 : List Nat) : Option (List Nat) := (some (x0.length : Int)).bind fun x10 => (mkE (α := Nat) 4 x10).bind fun x11 => (rangeM (fun (k : Nat) (s7 : Nat × (List Nat)) => match s7 with | ⟨b12_0l4, r302l4⟩ => (show Option (Nat × (List Nat)) from (some (x0.getD k 0 % 18446744073709551616)).bind fun p16 => (some (x1.getD k 0 % 18446744073709551616)).bind fun p17 => (some (usub 18446744073709551616 4294967295 p17)).bind fun x22 => (some ((p16 + x22) % 18446744073709551616)).bind fun x23 => (whole_carrier_1_m x23 b12_0l4).bind fun ⟨x24, k9⟩ => (apM 4 r302l4 [x24]).bind fun x26 => some (k9, x26))) (max x0.length x1.length) (1, x11)).bind fun e7 => match e7 with | ⟨b12_0l4, r302l4⟩ => some r302l4
noncomputable def whole_mulWords_m (x0 : List Nat) (x1 : List Nat) : Option (List Nat) := (some (x0.length : Int)).bind fun x12 => (some (x1.length : Int)).bind fun x14 => (some (IntKind.i64.wrap (x12 + x14))).bind fun x15 => (mkM 4 x15 (0 : Nat)).bind fun x16 => (some (x0.length : Int)).bind fun x18 => (loopM (fun (s28 : Int × (List Nat)) => match s28 with | ⟨y19l14, r16l14⟩ => (show Option ((Int × (List Nat)) ⊕ ((List Nat))) from (some (decide ((y19l14 : Int) < x18))).bind fun x20 => (bif x20 then (geti x0 y19l14).bind fun x22 => (some (x1.length : Int)).bind fun x26 => (loopM (fun (s38 : Int × Nat × (List Nat)) => match s38 with | ⟨y27l33, b24_0l33, r16l33⟩ => (show Option ((Int × Nat × (List Nat)) ⊕ (Nat × (List Nat))) from (some (decide ((y27l33 : Int) < x26))).bind fun x28 => (bif x28 then (geti x1 y27l33).bind fun x30 => (some (IntKind.i64.wrap (y19l14 + y27l33))).bind fun x35 => (some (IntKind.i64.wrap (y19l14 + y27l33))).bind fun x40 => (cki r16l33 x40).bind fun x41 => (r16l33[x41]?).bind fun x42 => (some (x42 % 18446744073709551616)).bind fun x43 => (some (x22 % 18446744073709551616)).bind fun x45 => (some (x30 % 18446744073709551616)).bind fun x47 => (some ((x45 * x47) % 18446744073709551616)).bind fun x48 => (some ((x43 + x48) % 18446744073709551616)).bind fun x49 => (whole_carrier_1_m x49 b24_0l33).bind fun ⟨x50, k41⟩ => (cki r16l33 x35).bind fun x51 => (stM r16l33 x51 x50).bind fun l42 => (some (IntKind.i64.wrap (y27l33 + 1))).bind fun x52 => some (.inl (x52, k41, l42)) else some (.inr (b24_0l33, r16l33))))) (0, 0, r16l14)).bind fun e38 => match e38 with | ⟨b24_0e37, r16e37⟩ => (some (x1.length : Int)).bind fun x56 => (some (IntKind.i64.wrap (y19l14 + x56))).bind fun x57 => (whole_carrier_1_m 0 b24_0e37).bind fun ⟨x59, k45⟩ => (cki r16e37 x57).bind fun x60 => (stM r16e37 x60 x59).bind fun l46 => (some (IntKind.i64.wrap (y19l14 + 1))).bind fun x61 => some (.inl (x61, l46)) else some (.inr r16l14)))) (0, x16)).bind fun r16e27 => some r16e27
noncomputable def whole_shortDiv_m (x0 : List Nat) (x1 : Nat) : Option (Nat × List Nat) := (some (x0.length : Int)).bind fun x9 => (some (IntKind.i64.wrap (x9 - 1))).bind fun x10 => (loopM (fun (s8 : Nat × Int × (List Nat)) => match s8 with | ⟨y5l4, y6l4, r1000l4⟩ => (show Option ((Nat × Int × (List Nat)) ⊕ (Nat × (List Nat))) from (some (decide ((0 : Int) ≤ y6l4))).bind fun x12 => (bif x12 then (some (y5l4 * 2 ^ 32 % 18446744073709551616)).bind fun x16 => (cki r1000l4 y6l4).bind fun x19 => (r1000l4[x19]?).bind fun x20 => (some (x20 % 18446744073709551616)).bind fun x21 => (some ((x16 ||| x21) % 18446744073709551616)).bind fun x22 => (uquo 18446744073709551616 x22 x1).bind fun x27 => (some (x27 % 4294967296)).bind fun x28 => (cki r1000l4 y6l4).bind fun x29 => (stM r1000l4 x29 x28).bind fun l10 => (urem x22 x1).bind fun x32 => (some (IntKind.i64.wrap (y6l4 - 1))).bind fun x14 => some (.inl (x32, x14, l10)) else some (.inr (y5l4, r1000l4))))) (0, x10, x0)).bind fun e8 => match e8 with | ⟨y5e7, r1000e7⟩ => (eqLen x0 r1000e7).bind fun _ => some (y5e7, r1000e7)
noncomputable def whole_shiftLeft_m (x0 : List Nat) (x1 : Nat) : Option (List Nat) := (some (x0.length : Int)).bind fun x11 => (some (IntKind.i64.wrap (x11 + 1))).bind fun x12 => (mkE (α := Nat) 4 x12).bind fun x13 => (some (x0.length : Int)).bind fun x15 => (loopM (fun (s8 : Int × Nat × (List Nat)) => match s8 with | ⟨y16l4, b9_0l4, r302l4⟩ => (show Option ((Int × Nat × (List Nat)) ⊕ (Nat × (List Nat))) from (some (decide ((y16l4 : Int) < x15))).bind fun x17 => (bif x17 then (geti x0 y16l4).bind fun x18 => (some (x18 % 18446744073709551616)).bind fun x23 => (some (x23 * 2 ^ (min x1 64) % 18446744073709551616)).bind fun x25 => (whole_carrier_1_m x25 b9_0l4).bind fun ⟨x26, k10⟩ => (apM 4 r302l4 [x26]).bind fun x28 => (some (IntKind.i64.wrap (y16l4 + 1))).bind fun x29 => some (.inl (x29, k10, x28)) else some (.inr (b9_0l4, r302l4))))) (0, 0, x13)).bind fun e8 => match e8 with | ⟨b9_0e7, r302e7⟩ => (whole_carrier_1_m 0 b9_0e7).bind fun ⟨x32, k12⟩ => (apM 4 r302e7 [x32]).bind fun x34 => some x34
noncomputable def whole_shiftLeftN_m (x0 : List Nat) (x1 : Nat) : Option (List Nat) := (some (x0.length : Int)).bind fun x11 => (some (IntKind.i64.wrap (x11 + 1))).bind fun x12 => (mkE (α := Nat) 4 x12).bind fun x13 => (some (x0.length : Int)).bind fun x15 => (loopM (fun (s8 : Int × Nat × (List Nat)) => match s8 with | ⟨y16l4, b9_0l4, r306l4⟩ => (show Option ((Int × Nat × (List Nat)) ⊕ (Nat × (List Nat))) from (some (decide ((y16l4 : Int) < x15))).bind fun x17 => (bif x17 then (geti x0 y16l4).bind fun x18 => (some (x18 % 18446744073709551616)).bind fun x23 => (some (x23 * 2 ^ (min x1 64) % 18446744073709551616)).bind fun x25 => (whole_carrier_1_m x25 b9_0l4).bind fun ⟨x26, k10⟩ => (apM 4 r306l4 [x26]).bind fun x28 => (some (IntKind.i64.wrap (y16l4 + 1))).bind fun x29 => some (.inl (x29, k10, x28)) else some (.inr (b9_0l4, r306l4))))) (0, 0, x13)).bind fun e8 => match e8 with | ⟨b9_0e7, r306e7⟩ => (whole_carrier_1_m 0 b9_0e7).bind fun ⟨x32, k12⟩ => (apM 4 r306e7 [x32]).bind fun x34 => some x34
noncomputable def math_bits_Len32_m (x0 : Nat) : Option (Int) := (some (decide ((65536 : Nat) ≤ x0))).bind fun x4 => letJ (fun (j2 : Nat × Int) => match j2 with | ⟨y0j1, y2j1⟩ => (some (decide ((256 : Nat) ≤ y0j1))).bind fun x8 => letJ (fun (j4 : Nat × Int) => match j4 with | ⟨y0j3, y2j3⟩ => (some (y0j3 % 256)).bind fun x15 => (sgeti [0, 1, 2, 2, 3, 3, 3, 3, 4, 4, 4, 4, 4, 4, 4, 4, 5, 5, 5, 5, 5, 5, 5, 5, 5, 5, 5, 5, 5, 5, 5, 5, 6, 6, 6, 6, 6, 6, 6, 6, 6, 6, 6, 6, 6, 6, 6, 6, 6, 6, 6, 6, 6, 6, 6, 6, 6, 6, 6, 6, 6, 6, 6, 6, 7, 7, 7, 7, 7, 7, 7, 7, 7, 7, 7, 7, 7, 7, 7, 7, 7, 7, 7, 7, 7, 7, 7, 7, 7, 7, 7, 7, 7, 7, 7, 7, 7, 7, 7, 7, 7, 7, 7, 7, 7, 7, 7, 7, 7, 7, 7, 7, 7, 7, 7, 7, 7, 7, 7, 7, 7, 7, 7, 7, 7, 7, 7, 7, 8, 8, 8, 8, 8, 8, 8, 8, 8, 8, 8, 8, 8, 8, 8, 8, 8, 8, 8, 8, 8, 8, 8, 8, 8, 8, 8, 8, 8, 8, 8, 8, 8, 8, 8, 8, 8, 8, 8, 8, 8, 8, 8, 8, 8, 8, 8, 8, 8, 8, 8, 8, 8, 8, 8, 8, 8, 8, 8, 8, 8, 8, 8, 8, 8, 8, 8, 8, 8, 8, 8, 8, 8, 8, 8, 8, 8, 8, 8, 8, 8, 8, 8, 8, 8, 8, 8, 8, 8, 8, 8, 8, 8, 8, 8, 8, 8, 8, 8, 8, 8, 8, 8, 8, 8, 8, 8, 8, 8, 8, 8, 8, 8, 8, 8, 8, 8, 8, 8, 8, 8, 8, 8, 8, 8, 8, 8, 8] ((x15 : Nat) : Int)).bind fun x16 => (some (IntKind.i64.wrap (x16 : Int))).bind fun x17 => (some (IntKind.i64.wrap (y2j3 + x17))).bind fun x18 => some x18) fun K4 => (bif x8 then (some (y0j1 / 2 ^ 8)).bind fun x10 => (some (IntKind.i64.wrap (y2j1 + 8))).bind fun x12 => K4 (x10, x12) else K4 (y0j1, y2j1))) fun K2 => (bif x4 then (some (x0 / 2 ^ 16)).bind fun x6 => K2 (x6, 16) else K2 (x0, 0))
noncomputable def math_bits_LeadingZeros32_m (x0 : Nat) : Option (Int) := (math_bits_Len32_m x0).bind fun x4 => (some (IntKind.i64.wrap (32 - x4))).bind fun x5 => some x5
noncomputable def whole_estimate_m (x0 : List Nat) (o0 : Nat) (n0 : Nat) (x1 : List Nat) : Option (Nat × List Nat) := (some (x1.length : Int)).bind fun x12 => (ckR o0 n0 x12).bind fun x15 => (x0[x15]?).bind fun x16 => (some (x16 % 18446744073709551616)).bind fun x17 => (some (x17 * 2 ^ 32 % 18446744073709551616)).bind fun x18 => (some (IntKind.i64.wrap (x12 - 1))).bind fun x21 => (ckR o0 n0 x21).bind fun x22 => (x0[x22]?).bind fun x23 => (some (x23 % 18446744073709551616)).bind fun x24 => (some ((x18 ||| x24) % 18446744073709551616)).bind fun x25 => (some (IntKind.i64.wrap (x12 - 1))).bind fun x28 => (geti x1 x28).bind fun x29 => (some (x29 % 18446744073709551616)).bind fun x31 => (some (IntKind.i64.wrap (x12 - 2))).bind fun x34 => (geti x1 x34).bind fun x35 => (some (x35 % 18446744073709551616)).bind fun x37 => (uquo 18446744073709551616 x25 x31).bind fun x40 => (urem x25 x31).bind fun x43 => (loopM (fun (s10 : Nat × Nat) => match s10 with | ⟨y9l5, y10l5⟩ => (show Option ((Nat × Nat) ⊕ (Nat)) from letJ (fun (y61j12 : Bool) => (bif y61j12 then (some (usub 18446744073709551616 y9l5 1)).bind fun x63 => (some ((y10l5 + x31) % 18446744073709551616)).bind fun x66 => (some (x66 / 2 ^ 32)).bind fun x68 => (some (decide ((x68 : Nat) ≠ 0))).bind fun x69 => (bif x69 then some (.inr x63) else some (.inl (x63, x66))) else some (.inr y9l5))) fun K13 => (some (y9l5 / 2 ^ 32)).bind fun x45 => (some (decide ((x45 : Nat) ≠ 0))).bind fun x46 => (bif x46 then some true else (some ((y9l5 * x37) % 18446744073709551616)).bind fun x50 => (some (y10l5 * 2 ^ 32 % 18446744073709551616)).bind fun x52 => (some (IntKind.i64.wrap (x12 - 2))).bind fun x55 => (ckR o0 n0 x55).bind fun x56 => (x0[x56]?).bind fun x57 => (some (x57 % 18446744073709551616)).bind fun x58 => (some ((x52 ||| x58) % 18446744073709551616)).bind fun x59 => (some (decide ((x59 : Nat) < x50))).bind fun x60 => some x60).bind fun c61_14 => K13 c61_14)) (x40, x43)).bind fun y9e9 => (eqLen x0 x0).bind fun _ => some (y9e9, x0)
noncomputable def whole_subtractMultiple_m (x0 : List Nat) (o0 : Nat) (n0 : Nat) (x1 : List Nat) (x2 : Nat) : Option (Bool × List Nat) := (some (n0 : Int)).bind fun x14 => (loopM (fun (s12 : Nat × Int × Nat × (List Nat)) => match s12 with | ⟨y7l6, y15l6, b12_0l6, r1000l6⟩ => (show Option ((Nat × Int × Nat × (List Nat)) ⊕ (Nat × (List Nat))) from (some (decide ((y15l6 : Int) < x14))).bind fun x16 => (bif x16 then (some (x1.length : Int)).bind fun x20 => (some (decide ((y15l6 : Int) < x20))).bind fun x21 => letJ (fun (y10j13 : Nat) => (ckR o0 n0 y15l6).bind fun x31 => (r1000l6[x31]?).bind fun x32 => (some (x32 % 18446744073709551616)).bind fun x33 => (whole_carrier_1_m y10j13 b12_0l6).bind fun ⟨x36, k16⟩ => (some (x36 % 18446744073709551616)).bind fun x37 => (some (usub 18446744073709551616 x33 x37)).bind fun x38 => (some (usub 18446744073709551616 x38 y7l6)).bind fun x40 => (some (x40 % 4294967296)).bind fun x44 => (ckR o0 n0 y15l6).bind fun x45 => (stM r1000l6 x45 x44).bind fun l18 => (some (x40 / 2 ^ 63)).bind fun x47 => (some (IntKind.i64.wrap (y15l6 + 1))).bind fun x48 => some (.inl (x47, x48, k16, l18))) fun K14 => (bif x21 then (geti x1 y15l6).bind fun x24 => (some (x24 % 18446744073709551616)).bind fun x26 => (some ((x26 * x2) % 18446744073709551616)).bind fun x28 => K14 x28 else K14 0) else some (.inr (y7l6, r1000l6))))) (0, 0, 0, x0)).bind fun e12 => match e12 with | ⟨y7e11, r1000e11⟩ => (some (decide ((y7e11 : Nat) ≠ 0))).bind fun x50 => (eqLen x0 r1000e11).bind fun _ => some (x50, r1000e11)
noncomputable def whole_longDiv_m (x0 : List Nat) (x1 : List Nat) : Option ((List Nat) × (List Nat)) := (some (x1.length : Int)).bind fun x17 => (some (IntKind.i64.wrap (x17 - 1))).bind fun x20 => (geti x1 x20).bind fun x21 => (math_bits_LeadingZeros32_m x21).bind fun x23 => (some ((x23 % 18446744073709551616).toNat)).bind fun x24 => (whole_shiftLeftN_m x0 x24).bind fun x27 => (whole_shiftLeft_m x1 x24).bind fun x30 => (subM x30 0 x17).bind fun x32 => (some (x0.length : Int)).bind fun x34 => (some (IntKind.i64.wrap (x34 - x17))).bind fun x36 => (some (IntKind.i64.wrap (x36 + 1))).bind fun x37 => (mkM 4 x37 (0 : Nat)).bind fun x38 => (some (x0.length : Int)).bind fun x40 => (some (IntKind.i64.wrap (x40 - x17))).bind fun x42 => (loopM (fun (s36 : Int × (List Nat) × (List Nat)) => match s36 with | ⟨y10l18, r38l18, r27l18⟩ => (show Option ((Int × (List Nat) × (List Nat)) ⊕ ((List Nat) × (List Nat))) from (some (decide ((0 : Int) ≤ y10l18))).bind fun x44 => (bif x44 then (some (IntKind.i64.wrap (y10l18 + x17))).bind fun x51 => (some (IntKind.i64.wrap (x51 + 1))).bind fun x52 => (ckS r27l18 y10l18 x52).bind fun ⟨o53, n53⟩ => (whole_estimate_m r27l18 o53 n53 x32).bind fun ⟨x55, l38⟩ => (eqLen r27l18 l38).bind fun _ => (some (IntKind.i64.wrap (y10l18 + x17))).bind fun x60 => (some (IntKind.i64.wrap (x60 + 1))).bind fun x61 => (ckS l38 y10l18 x61).bind fun ⟨o62, n62⟩ => (whole_subtractMultiple_m l38 o62 n62 x32 x55).bind fun ⟨x65, l40⟩ => (eqLen l38 l40).bind fun _ => letJ (fun (j53 : Nat × (List Nat)) => match j53 with | ⟨y11j52, r27j52⟩ => (some (y11j52 % 4294967296)).bind fun x111 => (cki r38l18 y10l18).bind fun x112 => (stM r38l18 x112 x111).bind fun l55 => (some (IntKind.i64.wrap (y10l18 - 1))).bind fun x46 => some (.inl (x46, l55, r27j52))) fun K53 => (bif x65 then (some (usub 18446744073709551616 x55 1)).bind fun x67 => (some (x32.length : Int)).bind fun x70 => (loopM (fun (s65 : Int × Nat × (List Nat)) => match s65 with | ⟨y71l60, b68_0l60, r27l60⟩ => (show Option ((Int × Nat × (List Nat)) ⊕ (Nat × (List Nat))) from (some (decide ((y71l60 : Int) < x70))).bind fun x72 => (bif x72 then (geti x32 y71l60).bind fun x74 => (some (IntKind.i64.wrap (y10l18 + y71l60))).bind fun x79 => (some (IntKind.i64.wrap (y10l18 + y71l60))).bind fun x84 => (cki r27l60 x84).bind fun x85 => (r27l60[x85]?).bind fun x86 => (some (x86 % 18446744073709551616)).bind fun x87 => (some (x74 % 18446744073709551616)).bind fun x89 => (some ((x87 + x89) % 18446744073709551616)).bind fun x90 => (whole_carrier_1_m x90 b68_0l60).bind fun ⟨x91, k68⟩ => (cki r27l60 x79).bind fun x92 => (stM r27l60 x92 x91).bind fun l69 => (some (IntKind.i64.wrap (y71l60 + 1))).bind fun x93 => some (.inl (x93, k68, l69)) else some (.inr (b68_0l60, r27l60))))) (0, 0, l40)).bind fun e65 => match e65 with | ⟨b68_0e64, r27e64⟩ => (some (IntKind.i64.wrap (y10l18 + x17))).bind fun x97 => (some (IntKind.i64.wrap (y10l18 + x17))).bind fun x102 => (cki r27e64 x102).bind fun x103 => (r27e64[x103]?).bind fun x104 => (some (x104 % 18446744073709551616)).bind fun x105 => (whole_carrier_1_m x105 b68_0e64).bind fun ⟨x106, k72⟩ => (cki r27e64 x97).bind fun x107 => (stM r27e64 x107 x106).bind fun l73 => K53 (x67, l73) else K53 (x55, l40)) else some (.inr (r38l18, r27l18))))) (x42, x38, x27)).bind fun e36 => match e36 with | ⟨r38e35, r27e35⟩ => (mkM 4 x17 (0 : Nat)).bind fun x114 => (loopM (fun (s81 : Int × (List Nat)) => match s81 with | ⟨y116l77, r114l77⟩ => (show Option ((Int × (List Nat)) ⊕ ((List Nat))) from (some (decide ((y116l77 : Int) < x17))).bind fun x117 => (bif x117 then (cki r27e35 y116l77).bind fun x123 => (r27e35[x123]?).bind fun x124 => (some (x124 % 18446744073709551616)).bind fun x125 => (some (IntKind.i64.wrap (y116l77 + 1))).bind fun x128 => (cki r27e35 x128).bind fun x129 => (r27e35[x129]?).bind fun x130 => (some (x130 % 18446744073709551616)).bind fun x131 => (some (x131 * 2 ^ 32 % 18446744073709551616)).bind fun x132 => (some ((x125 ||| x132) % 18446744073709551616)).bind fun x133 => (some (x133 / 2 ^ (min x24 64))).bind fun x135 => (some (x135 % 4294967296)).bind fun x136 => (cki r114l77 y116l77).bind fun x137 => (stM r114l77 x137 x136).bind fun l83 => (some (IntKind.i64.wrap (y116l77 + 1))).bind fun x138 => some (.inl (x138, l83)) else some (.inr r114l77)))) (0, x114)).bind fun r114e80 => some (r38e35, r114e80)
noncomputable def whole_divWords_m (x0 : List Nat) (x1 : List Nat) : Option ((List Nat) × (List Nat)) := (whole_compareWords_m x0 x1).bind fun x12 => (some (decide ((x12 : Int) < 0))).bind fun x13 => (bif x13 then (slices_Clone_m x0).bind fun x15 => some ([], x15) else (some (x0.length : Int)).bind fun x18 => (some (decide ((x18 : Int) ≤ 2))).bind fun x19 => (bif x19 then (whole_low_m x0).bind fun x21 => (whole_low_m x1).bind fun x23 => (uquo 18446744073709551616 x21 x23).bind fun x26 => (whole_small_m false x26).bind fun ⟨x27_0, x27_1⟩ => (urem x21 x23).bind fun x31 => (whole_small_m false x31).bind fun ⟨x32_0, x32_1⟩ => some (x27_1, x32_1) else (some (x1.length : Int)).bind fun x36 => (some (decide ((x36 : Int) = 1))).bind fun x37 => (bif x37 then (slices_Clone_m x0).bind fun x39 => (geti x1 0).bind fun x42 => (some (x42 % 18446744073709551616)).bind fun x44 => (whole_shortDiv_m x39 x44).bind fun ⟨x45, l5⟩ => (eqLen x39 l5).bind fun _ => (some (x45 % 4294967296)).bind fun x48 => some (l5, [x48]) else (whole_longDiv_m x0 x1).bind fun ⟨x52a, x52b⟩ => some (x52a, x52b))))
noncomputable def whole_FromInt64_m (x0 : Int) : Option (Zr) := (some ((x0 % 18446744073709551616).toNat)).bind fun x5 => (some (decide ((x0 : Int) < 0))).bind fun x7 => letJ (fun (y3j1 : Nat) => (some (decide ((x0 : Int) < 0))).bind fun x11 => (whole_small_m x11 y3j1).bind fun ⟨x13_0, x13_1⟩ => some ⟨x13_0, x13_1⟩) fun K2 => (bif x7 then (some (usub 18446744073709551616 0 x5)).bind fun x9 => K2 x9 else K2 x5)
noncomputable def whole_Int64_m (x0 : Zr) : Option (Int × Bool) := match x0 with | ⟨x0_0, x0_1⟩ => (whole_trim_m x0_1).bind fun x8 => (some (x8.length : Int)).bind fun x10 => (some (decide ((2 : Int) < x10))).bind fun x11 => (bif x11 then some (0, false) else (whole_low_m x8).bind fun x13 => (bif x0_0 then (some (decide ((9223372036854775808 : Nat) < x13))).bind fun x17 => (bif x17 then some (0, false) else (some (usub 18446744073709551616 0 x13)).bind fun x19 => (some (IntKind.i64.wrap (x19 : Int))).bind fun x20 => some (x20, true)) else (some (decide ((9223372036854775808 : Nat) ≤ x13))).bind fun x22 => (bif x22 then some (0, false) else (some (IntKind.i64.wrap (x13 : Int))).bind fun x24 => some (x24, true))))
noncomputable def whole_signedSum_m (x0 : Bool) (x1 : List Nat) (x2 : Bool) (x3 : List Nat) : Option (Zr) := (some (x0 == x2)).bind fun x11 => (bif x11 then (whole_addWords_m x1 x3).bind fun x15 => (whole_build_m x0 x15).bind fun ⟨x16_0, x16_1⟩ => some ⟨x16_0, x16_1⟩ else (whole_compareWords_m x1 x3).bind fun x19 => (some (decide ((x19 : Int) < 0))).bind fun x20 => (bif x20 then (whole_subWords_m x3 x1).bind fun x24 => (whole_build_m x2 x24).bind fun ⟨x25_0, x25_1⟩ => some ⟨x25_0, x25_1⟩ else (whole_subWords_m x1 x3).bind fun x29 => (whole_build_m x0 x29).bind fun ⟨x30_0, x30_1⟩ => some ⟨x30_0, x30_1⟩))
noncomputable def whole_Add_m (x0 : Zr) (x1 : Zr) : Option (Zr) := match x0 with | ⟨x0_0, x0_1⟩ => match x1 with | ⟨x1_0, x1_1⟩ => (whole_Int64_m ⟨x0_0, x0_1⟩).bind fun ⟨x12a, x12b⟩ => (whole_Int64_m ⟨x1_0, x1_1⟩).bind fun ⟨x17a, x17b⟩ => letJ (fun (y23j2 : Bool) => letJ (fun (j5 : Unit) => (whole_trim_m x0_1).bind fun x41 => (whole_trim_m x1_1).bind fun x46 => (whole_signedSum_m x0_0 x41 x1_0 x46).bind fun ⟨x47_0, x47_1⟩ => some ⟨x47_0, x47_1⟩) fun K5 => (bif y23j2 then (some (IntKind.i64.wrap (x12a + x17a))).bind fun x26 => (some (IntKind.i64.wrap ((BitVec.ofInt 64 x12a ^^^ BitVec.ofInt 64 x26).toNat))).bind fun x29 => (some (IntKind.i64.wrap ((BitVec.ofInt 64 x17a ^^^ BitVec.ofInt 64 x26).toNat))).bind fun x32 => (some (IntKind.i64.wrap ((BitVec.ofInt 64 x29 &&& BitVec.ofInt 64 x32).toNat))).bind fun x33 => (some (decide ((0 : Int) ≤ x33))).bind fun x34 => (bif x34 then (whole_FromInt64_m x26).bind fun ⟨x36_0, x36_1⟩ => some ⟨x36_0, x36_1⟩ else K5 ()) else K5 ())) fun K3 => (bif x12b then some x17b else some false).bind fun c23_6 => K3 c23_6
noncomputable def whole_Sub_m (x0 : Zr) (x1 : Zr) : Option (Zr) := match x0 with | ⟨x0_0, x0_1⟩ => match x1 with | ⟨x1_0, x1_1⟩ => (whole_Int64_m ⟨x0_0, x0_1⟩).bind fun ⟨x12a, x12b⟩ => (whole_Int64_m ⟨x1_0, x1_1⟩).bind fun ⟨x17a, x17b⟩ => letJ (fun (y23j2 : Bool) => letJ (fun (j5 : Unit) => (whole_trim_m x0_1).bind fun x41 => (some (!x1_0)).bind fun x44 => (whole_trim_m x1_1).bind fun x47 => (whole_signedSum_m x0_0 x41 x44 x47).bind fun ⟨x48_0, x48_1⟩ => some ⟨x48_0, x48_1⟩) fun K5 => (bif y23j2 then (some (IntKind.i64.wrap (x12a - x17a))).bind fun x26 => (some (IntKind.i64.wrap ((BitVec.ofInt 64 x12a ^^^ BitVec.ofInt 64 x17a).toNat))).bind fun x29 => (some (IntKind.i64.wrap ((BitVec.ofInt 64 x12a ^^^ BitVec.ofInt 64 x26).toNat))).bind fun x32 => (some (IntKind.i64.wrap ((BitVec.ofInt 64 x29 &&& BitVec.ofInt 64 x32).toNat))).bind fun x33 => (some (decide ((0 : Int) ≤ x33))).bind fun x34 => (bif x34 then (whole_FromInt64_m x26).bind fun ⟨x36_0, x36_1⟩ => some ⟨x36_0, x36_1⟩ else K5 ()) else K5 ())) fun K3 => (bif x12b then some x17b else some false).bind fun c23_6 => K3 c23_6
noncomputable def whole_Mul_m (x0 : Zr) (x1 : Zr) : Option (Zr) := match x0 with | ⟨x0_0, x0_1⟩ => match x1 with | ⟨x1_0, x1_1⟩ => (whole_trim_m x0_1).bind fun x9 => (whole_trim_m x1_1).bind fun x12 => letJ (fun (y20j2 : Bool) => (bif y20j2 then (some (!(x0_0 == x1_0))).bind fun x25 => (whole_low_m x9).bind fun x27 => (whole_low_m x12).bind fun x29 => (some ((x27 * x29) % 18446744073709551616)).bind fun x30 => (whole_small_m x25 x30).bind fun ⟨x31_0, x31_1⟩ => some ⟨x31_0, x31_1⟩ else (some (!(x0_0 == x1_0))).bind fun x36 => (whole_mulWords_m x9 x12).bind fun x39 => (whole_build_m x36 x39).bind fun ⟨x40_0, x40_1⟩ => some ⟨x40_0, x40_1⟩)) fun K3 => (some (x9.length : Int)).bind fun x14 => (some (decide ((x14 : Int) ≤ 1))).bind fun x15 => (bif x15 then (some (x12.length : Int)).bind fun x18 => (some (decide ((x18 : Int) ≤ 1))).bind fun x19 => some x19 else some false).bind fun c20_4 => K3 c20_4
noncomputable def whole_Neg_m (x0 : Zr) : Option (Zr) := match x0 with | ⟨x0_0, x0_1⟩ => (some (!x0_0)).bind fun x5 => (whole_trim_m x0_1).bind fun x8 => (slices_Clone_m x8).bind fun x9 => (whole_build_m x5 x9).bind fun ⟨x10_0, x10_1⟩ => some ⟨x10_0, x10_1⟩
noncomputable def whole_Sign_m (x0 : Zr) : Option (Int) := match x0 with | ⟨x0_0, x0_1⟩ => (whole_trim_m x0_1).bind fun x6 => (some (x6.length : Int)).bind fun x7 => (some (decide ((x7 : Int) = 0))).bind fun x8 => (bif x8 then some 0 else (bif x0_0 then some (-1) else some 1))
noncomputable def whole_Cmp_m (x0 : Zr) (x1 : Zr) : Option (Int) := match x0 with | ⟨x0_0, x0_1⟩ => match x1 with | ⟨x1_0, x1_1⟩ => (whole_Sign_m ⟨x0_0, x0_1⟩).bind fun x8 => (whole_Sign_m ⟨x1_0, x1_1⟩).bind fun x10 => (some (decide ((x8 : Int) < x10))).bind fun x14 => (bif x14 then some (-1) else (some (decide ((x10 : Int) < x8))).bind fun x18 => (bif x18 then some 1 else (some (decide ((x8 : Int) < 0))).bind fun x21 => (bif x21 then (whole_trim_m x1_1).bind fun x24 => (whole_trim_m x0_1).bind fun x27 => (whole_compareWords_m x24 x27).bind fun x28 => some x28 else (whole_trim_m x0_1).bind fun x31 => (whole_trim_m x1_1).bind fun x34 => (whole_compareWords_m x31 x34).bind fun x35 => some x35)))
noncomputable def whole_DivMod_m (x0 : Zr) (x1 : Zr) : Option (Zr × Zr × Int) := match x0 with | ⟨x0_0, x0_1⟩ => match x1 with | ⟨x1_0, x1_1⟩ => (whole_trim_m x0_1).bind fun x13 => (whole_trim_m x1_1).bind fun x16 => (some (x16.length : Int)).bind fun x18 => (some (decide ((x18 : Int) = 0))).bind fun x19 => (bif x19 then some (⟨false, []⟩, ⟨false, []⟩, 7) else (whole_divWords_m x13 x16).bind fun ⟨x25a, x25b⟩ => (whole_trim_m x25b).bind fun x29 => letJ (fun (j3 : Bool × Bool) => match j3 with | ⟨y36j2, b2_0j2⟩ => letJ (fun (j5 : (List Nat) × (List Nat)) => match j5 with | ⟨y9j4, y10j4⟩ => (some (!(b2_0j2 == x1_0))).bind fun x47 => (whole_build_m x47 y9j4).bind fun ⟨x49_0, x49_1⟩ => (whole_build_m false y10j4).bind fun ⟨x51_0, x51_1⟩ => some (⟨x49_0, x49_1⟩, ⟨x51_0, x51_1⟩, 0)) fun K5 => (bif y36j2 then (whole_addWords_m x25a [1]).bind fun x39 => (whole_subWords_m x16 x29).bind fun x42 => K5 (x39, x42) else K5 (x25a, x29))) fun K3 => (bif x0_0 then (some (x29.length : Int)).bind fun x34 => (some (decide ((0 : Int) < x34))).bind fun x35 => some x35 else some false).bind fun c36_6 => K3 (c36_6, x0_0))
noncomputable def whole_GCD_m (x0 : Zr) (x1 : Zr) : Option (Zr) := match x0 with | ⟨x0_0, x0_1⟩ => match x1 with | ⟨x1_0, x1_1⟩ => (whole_trim_m x0_1).bind fun x13 => (whole_trim_m x1_1).bind fun x16 => (loopM (fun (s12 : (List Nat) × (List Nat)) => match s12 with | ⟨y5l6, y6l6⟩ => (show Option (((List Nat) × (List Nat)) ⊕ ((List Nat) × (List Nat))) from letJ (fun (y29j15 : Bool) => (bif y29j15 then (whole_divWords_m y5l6 y6l6).bind fun ⟨x33a, x33b⟩ => (whole_trim_m x33b).bind fun x38 => some (.inl (y6l6, x38)) else some (.inr (y5l6, y6l6)))) fun K16 => (some (y6l6.length : Int)).bind fun x18 => (some (decide ((0 : Int) < x18))).bind fun x19 => (bif x19 then (some (y5l6.length : Int)).bind fun x22 => (some (decide ((2 : Int) < x22))).bind fun x23 => (bif x23 then some true else (some (y6l6.length : Int)).bind fun x26 => (some (decide ((2 : Int) < x26))).bind fun x27 => some x27).bind fun c28_18 => some c28_18 else some false).bind fun c29_17 => K16 c29_17)) (x13, x16)).bind fun e12 => match e12 with | ⟨y5e11, y6e11⟩ => (some (y6e11.length : Int)).bind fun x40 => (some (decide ((x40 : Int) = 0))).bind fun x41 => (bif x41 then (slices_Clone_m y5e11).bind fun x43 => (whole_build_m false x43).bind fun ⟨x44_0, x44_1⟩ => some ⟨x44_0, x44_1⟩ else (whole_low_m y5e11).bind fun x46 => (whole_low_m y6e11).bind fun x48 => (loopM (fun (s24 : Nat × Nat) => match s24 with | ⟨y9l21, y10l21⟩ => (show Option ((Nat × Nat) ⊕ (Nat)) from (some (decide ((0 : Nat) < y10l21))).bind fun x50 => (bif x50 then (urem y9l21 y10l21).bind fun x54 => some (.inl (y10l21, x54)) else some (.inr y9l21)))) (x46, x48)).bind fun y9e23 => (whole_small_m false y9e23).bind fun ⟨x56_0, x56_1⟩ => some ⟨x56_0, x56_1⟩)
end Go.Proofs.Ytmiflmkdaeianaa
namespace Go.Proofs.Ytmiflmkdaeianaa
open Go.Fw Go.Fw.Z Go.RowKit
theorem whole_carrier_ok (c : Nat) : CloC Try.prog 92 [.v (.int .u64 (c : Nat))] 113 100 [.v (.int .u64 (c : Nat))] := by
 refine cloC_of_ok Try.func92 rfl (Nat.le_of_ble_eq_true rfl) (fun wld M vs hvs => ?_)
 exact sr <| RT.boxV .none (s := .sv _) rfl T rfl rfl <| ag rfl <| dn <| sr <| RT.makeFunc .none (.box rfl (.nil)) T <| an (s := .clo _ _) rfl <| dn <| ok_ret <| ⟨.inr rfl, _, .tmp rfl, rfl⟩
theorem whole_pairs_ok (a b : List Nat) : Pure Try.prog 93 [(slc 1 (List.map eU32 a)), (slc 1 (List.map eU32 b))] (cloS 114 [ref [(slc 1 (List.map eU32 a))], ref [(slc 1 (List.map eU32 b))]]) := by
 refine pure_of_ok Try.func93 rfl (Nat.le_of_ble_eq_true rfl) (fun wld M vs hvs => ?_)
 refine sr <| RT.boxV .none (s := .sv _) rfl T rfl rfl <| RT.boxV .none (s := .sv _) rfl T rfl rfl <| ag rfl <| dn <| sr <| RT.makeFunc .none (.box rfl (.box rfl (.nil))) T <| an (s := .clo _ _) rfl <| dn <| ok_weak (weak_frzB (i := 2) rfl [(slc 1 (List.map eU32 a))] (.cons rfl .nil) .any 0 [(4, .clo 114 [.val (ref [(slc 1 (List.map eU32 a))]), .box 3])] (fun _ _ _ => trivial) (Ones.h (l := [(slc 1 (List.map eU32 a))])) ⟨@FT.clo _ _ _ _ _ 4 114 [.box 2, .box 3] rfl, trivial⟩) ?_
 exact ok_weak (weak_frzB (i := 3) rfl [(slc 1 (List.map eU32 b))] (.cons rfl .nil) .any 0 [(4, .clo 114 [.val (ref [(slc 1 (List.map eU32 a))]), .val (ref [(slc 1 (List.map eU32 b))])])] (fun _ _ _ => trivial) (Ones.h (l := [(slc 1 (List.map eU32 b))])) ⟨@FT.clo _ _ _ _ _ 4 114 [.val (ref [(slc 1 (List.map eU32 a))]), .box 3] rfl, trivial⟩) <| ok_weak (weak_t 4 (cloS 114 [ref [(slc 1 (List.map eU32 a))], ref [(slc 1 (List.map eU32 b))]]) (fun _ _ h => clo_sv h)) <| ok_ret <| ⟨.inr rfl, res_of (.tmp rfl (.nil)) rfl⟩
theorem whole_pairs_it (a b : List Nat) : Iter Try.prog 114 [ref [(slc 1 (List.map eU32 a))], ref [(slc 1 (List.map eU32 b))]] (max a.length b.length) (fun k => [.v (.int .u64 ((a.getD k 0 % 18446744073709551616 : Nat) : Int)), .v (.int .u64 ((b.getD k 0 % 18446744073709551616 : Nat) : Int))]) := by
  refine iter_of_ok Try.func114 rfl rfl (Nat.le_of_ble_eq_true rfl) (fun wld M O l J hJ hcv hr => ?_)
  obtain ⟨cvs, hcv⟩ := hcv
  have hla : a.length ≤ 9223372036854775807 := by cases cvs with | nil => exact hcv.elim | cons _ cvs => exact ref_len hcv.1
  have hlb : b.length ≤ 9223372036854775807 := by cases cvs with | nil => exact hcv.elim | cons _ cvs => cases cvs with | nil => exact hcv.2.elim | cons _ _ => exact ref_len hcv.2.1
  refine ok_seq ?_
  refine ok_region ?_
  refine RT.loadRV .none rfl rfl (tl rfl) ?_
  refine RT.len .none rfl (tl rfl) ?_
  refine RT.loadRV .none rfl rfl (tl rfl) ?_
  refine RT.len .none rfl (tl rfl) ?_
  refine RT.max .none (((max a.length b.length : Nat) : Int)) rfl rfl (tl rfl) (by simp only [List.length_map]; split <;> omega) ?_
  refine RT.mv .none rfl (tl rfl) ?_
  refine RT.done ?_
  refine AThen.n ?_
  refine ok_block ?_
  refine ok_loop (I := fun x : { i : Nat // i ≤ max a.length b.length } => AS.mkL 39 [(0, .sv (.v (.func (.yield l) #[] #[]))), (1, .sv (ref [(slc 1 (List.map eU32 a))])), (2, .sv (ref [(slc 1 (List.map eU32 b))])), (11, .sv (.v (.int .i64 ((max a.length b.length : Nat) : Int)))), (12, .sv (.v (.int .i64 ((x.1 : Nat) : Int))))] [] [] (x.1)) (μ := fun x => max a.length b.length - x.1) ⟨0, by omega⟩ (by (try dsimp only); exact weakL id rfl rfl rfl rfl rfl ⟨.sv (by first | exact SV.imp_refl _ | exact SV.imp_int (by omega) | exact SV.imp_int (by push_cast; omega) | exact SV.imp_int (by dsimp only; omega) | exact SV.imp_eq (by simp)), .sv (by first | exact SV.imp_refl _ | exact SV.imp_int (by omega) | exact SV.imp_int (by push_cast; omega) | exact SV.imp_int (by dsimp only; omega) | exact SV.imp_eq (by simp)), .sv (by first | exact SV.imp_refl _ | exact SV.imp_int (by omega) | exact SV.imp_int (by push_cast; omega) | exact SV.imp_int (by dsimp only; omega) | exact SV.imp_eq (by simp)), .sv (by first | exact SV.imp_refl _ | exact SV.imp_int (by omega) | exact SV.imp_int (by push_cast; omega) | exact SV.imp_int (by dsimp only; omega) | exact SV.imp_eq (by simp)), .sv (by first | exact SV.imp_refl _ | exact SV.imp_int (by omega) | exact SV.imp_int (by push_cast; omega) | exact SV.imp_int (by dsimp only; omega) | exact SV.imp_eq (by simp)), trivial⟩ trivial trivial (fun _ _ => rfl)) ?_
  rintro ⟨i, hi0⟩
  try dsimp only
  rcases pair_cases a b i hi0 with ⟨hi, hb1, hb2⟩ | ⟨hi, hb1, hb2⟩ | ⟨hi, hb1, hb2⟩ | hi
  ·
    refine ok_seq ?_
    refine ok_region ?_
    refine RT.lss .none (true) rfl rfl (tl rfl) (by simp; omega) ?_
    refine RT.done ?_
    refine AThen.n ?_
    refine ok_seq ?_
    refine ok_condT rfl ?_
    refine ok_skip ?_
    refine AThen.n ?_
    refine ok_seq ?_
    refine ok_block ?_
    refine ok_seq ?_
    refine ok_region ?_
    refine RT.mv .none rfl (tl rfl) ?_
    refine RT.asg .none rfl (tl rfl) ?_
    refine RT.done ?_
    refine AThen.n ?_
    refine ok_seq ?_
    refine ok_region ?_
    refine RT.asg .none rfl (tl rfl) ?_
    refine RT.asg .none rfl (tl rfl) ?_
    refine RT.done ?_
    refine AThen.n ?_
    refine ok_seq ?_
    refine ok_seq ?_
    refine ok_region ?_
    refine RT.mv .none rfl (tl rfl) ?_
    refine RT.loadRV .none rfl rfl (tl rfl) ?_
    refine RT.len .none rfl (tl rfl) ?_
    refine RT.lss .none (true) rfl rfl (tl rfl) (by simp only [List.length_map]; simp; omega) ?_
    refine RT.done ?_
    refine AThen.n ?_
    refine ok_condT rfl ?_
    refine ok_region ?_
    refine RT.loadRV .none rfl rfl (tl rfl) ?_
    refine RT.mv .none rfl (tl rfl) ?_
    refine RT.ixA .none [.v (.int .u32 ((a.getD i 0 : Nat) : Int))] (Int.natCast_nonneg i) (by rw [Int.toNat_natCast, List.getElem?_map, get_getD hb1]; rfl) rfl rfl (tl rfl) ?_
    refine RT.loadRV .none rfl rfl (tl rfl) ?_
    refine RT.conv .none (((a.getD i 0 % 18446744073709551616 : Nat) : Int)) rfl (tl rfl) cu64 ?_
    refine RT.asg .none rfl (tl rfl) ?_
    refine RT.done ?_
    refine AThen.n ?_
    refine ok_seq ?_
    refine ok_seq ?_
    refine ok_region ?_
    refine RT.mv .none rfl (tl rfl) ?_
    refine RT.loadRV .none rfl rfl (tl rfl) ?_
    refine RT.len .none rfl (tl rfl) ?_
    refine RT.lss .none (true) rfl rfl (tl rfl) (by simp only [List.length_map]; simp; omega) ?_
    refine RT.done ?_
    refine AThen.n ?_
    refine ok_condT rfl ?_
    refine ok_region ?_
    refine RT.loadRV .none rfl rfl (tl rfl) ?_
    refine RT.mv .none rfl (tl rfl) ?_
    refine RT.ixA .none [.v (.int .u32 ((b.getD i 0 : Nat) : Int))] (Int.natCast_nonneg i) (by rw [Int.toNat_natCast, List.getElem?_map, get_getD hb2]; rfl) rfl rfl (tl rfl) ?_
    refine RT.loadRV .none rfl rfl (tl rfl) ?_
    refine RT.conv .none (((b.getD i 0 % 18446744073709551616 : Nat) : Int)) rfl (tl rfl) cu64 ?_
    refine RT.asg .none rfl (tl rfl) ?_
    refine RT.done ?_
    refine AThen.n ?_
    refine ok_seq ?_
    refine ok_region ?_
    refine RT.mv .none rfl (tl rfl) ?_
    refine RT.mv .none rfl (tl rfl) ?_
    refine RT.mv .none rfl (tl rfl) ?_
    refine RT.yield .none hr rfl (fun _ h => h) rfl (i) rfl rfl hi (by exact ⟨rfl, rfl, trivial⟩) (tl rfl) (fun yb => ?_)
    cases yb
    ·
      refine RT.not .none rfl (tl rfl) true rfl ?_
      refine RT.done ?_
      refine AThen.n ?_
      refine ok_condT rfl ?_
      refine ok_ret ?_
      refine AInB.r ?_
      refine AThen.r ?_
      refine AThen.r ?_
      refine AInB.r ?_
      exact ⟨.inr rfl, (fun h => by cases h)⟩
    ·
      refine RT.not .none rfl (tl rfl) false rfl ?_
      refine RT.done ?_
      refine AThen.n ?_
      refine ok_condF rfl ?_
      refine ok_skip ?_
      refine AInB.n ?_
      refine AThen.n ?_
      refine ok_region ?_
      refine RT.add .none (((i : Nat) : Int) + 1) rfl rfl (tl rfl) (nw_i64 (by omega)) ?_
      refine RT.mv .none rfl (tl rfl) ?_
      refine RT.done ?_
      refine AThen.n ?_
      refine ⟨⟨i + 1, by omega⟩, (by dsimp only; omega), ?_⟩
      try dsimp only
      exact weakL id rfl rfl rfl rfl rfl ⟨.sv (by first | exact SV.imp_refl _ | exact SV.imp_int (by omega) | exact SV.imp_int (by push_cast; omega) | exact SV.imp_int (by dsimp only; omega) | exact SV.imp_eq (by simp)), .sv (by first | exact SV.imp_refl _ | exact SV.imp_int (by omega) | exact SV.imp_int (by push_cast; omega) | exact SV.imp_int (by dsimp only; omega) | exact SV.imp_eq (by simp)), .sv (by first | exact SV.imp_refl _ | exact SV.imp_int (by omega) | exact SV.imp_int (by push_cast; omega) | exact SV.imp_int (by dsimp only; omega) | exact SV.imp_eq (by simp)), .sv (by first | exact SV.imp_refl _ | exact SV.imp_int (by omega) | exact SV.imp_int (by push_cast; omega) | exact SV.imp_int (by dsimp only; omega) | exact SV.imp_eq (by simp)), .sv (by first | exact SV.imp_refl _ | exact SV.imp_int (by omega) | exact SV.imp_int (by push_cast; omega) | exact SV.imp_int (by dsimp only; omega) | exact SV.imp_eq (by simp)), trivial⟩ trivial trivial (fun _ _ => rfl)
  ·
    refine ok_seq ?_
    refine ok_region ?_
    refine RT.lss .none (true) rfl rfl (tl rfl) (by simp; omega) ?_
    refine RT.done ?_
    refine AThen.n ?_
    refine ok_seq ?_
    refine ok_condT rfl ?_
    refine ok_skip ?_
    refine AThen.n ?_
    refine ok_seq ?_
    refine ok_block ?_
    refine ok_seq ?_
    refine ok_region ?_
    refine RT.mv .none rfl (tl rfl) ?_
    refine RT.asg .none rfl (tl rfl) ?_
    refine RT.done ?_
    refine AThen.n ?_
    refine ok_seq ?_
    refine ok_region ?_
    refine RT.asg .none rfl (tl rfl) ?_
    refine RT.asg .none rfl (tl rfl) ?_
    refine RT.done ?_
    refine AThen.n ?_
    refine ok_seq ?_
    refine ok_seq ?_
    refine ok_region ?_
    refine RT.mv .none rfl (tl rfl) ?_
    refine RT.loadRV .none rfl rfl (tl rfl) ?_
    refine RT.len .none rfl (tl rfl) ?_
    refine RT.lss .none (true) rfl rfl (tl rfl) (by simp only [List.length_map]; simp; omega) ?_
    refine RT.done ?_
    refine AThen.n ?_
    refine ok_condT rfl ?_
    refine ok_region ?_
    refine RT.loadRV .none rfl rfl (tl rfl) ?_
    refine RT.mv .none rfl (tl rfl) ?_
    refine RT.ixA .none [.v (.int .u32 ((a.getD i 0 : Nat) : Int))] (Int.natCast_nonneg i) (by rw [Int.toNat_natCast, List.getElem?_map, get_getD hb1]; rfl) rfl rfl (tl rfl) ?_
    refine RT.loadRV .none rfl rfl (tl rfl) ?_
    refine RT.conv .none (((a.getD i 0 % 18446744073709551616 : Nat) : Int)) rfl (tl rfl) cu64 ?_
    refine RT.asg .none rfl (tl rfl) ?_
    refine RT.done ?_
    refine AThen.n ?_
    refine ok_seq ?_
    refine ok_seq ?_
    refine ok_region ?_
    refine RT.mv .none rfl (tl rfl) ?_
    refine RT.loadRV .none rfl rfl (tl rfl) ?_
    refine RT.len .none rfl (tl rfl) ?_
    refine RT.lss .none (false) rfl rfl (tl rfl) (by simp only [List.length_map]; simp; omega) ?_
    refine RT.done ?_
    refine AThen.n ?_
    refine ok_condF rfl ?_
    refine ok_skip ?_
    refine AThen.n ?_
    refine ok_seq ?_
    refine ok_region ?_
    refine RT.mv .none rfl (tl rfl) ?_
    refine RT.mv .none rfl (tl rfl) ?_
    refine RT.mv .none rfl (tl rfl) ?_
    refine RT.yield .none hr rfl (fun _ h => h) rfl (i) rfl rfl hi (by exact ⟨rfl, (by show AV.sv _ = AV.sv _; rw [getD_of_le hb2]; rfl), trivial⟩) (tl rfl) (fun yb => ?_)
    cases yb
    ·
      refine RT.not .none rfl (tl rfl) true rfl ?_
      refine RT.done ?_
      refine AThen.n ?_
      refine ok_condT rfl ?_
      refine ok_ret ?_
      refine AInB.r ?_
      refine AThen.r ?_
      refine AThen.r ?_
      refine AInB.r ?_
      exact ⟨.inr rfl, (fun h => by cases h)⟩
    ·
      refine RT.not .none rfl (tl rfl) false rfl ?_
      refine RT.done ?_
      refine AThen.n ?_
      refine ok_condF rfl ?_
      refine ok_skip ?_
      refine AInB.n ?_
      refine AThen.n ?_
      refine ok_region ?_
      refine RT.add .none (((i : Nat) : Int) + 1) rfl rfl (tl rfl) (nw_i64 (by omega)) ?_
      refine RT.mv .none rfl (tl rfl) ?_
      refine RT.done ?_
      refine AThen.n ?_
      refine ⟨⟨i + 1, by omega⟩, (by dsimp only; omega), ?_⟩
      try dsimp only
      exact weakL id rfl rfl rfl rfl rfl ⟨.sv (by first | exact SV.imp_refl _ | exact SV.imp_int (by omega) | exact SV.imp_int (by push_cast; omega) | exact SV.imp_int (by dsimp only; omega) | exact SV.imp_eq (by simp)), .sv (by first | exact SV.imp_refl _ | exact SV.imp_int (by omega) | exact SV.imp_int (by push_cast; omega) | exact SV.imp_int (by dsimp only; omega) | exact SV.imp_eq (by simp)), .sv (by first | exact SV.imp_refl _ | exact SV.imp_int (by omega) | exact SV.imp_int (by push_cast; omega) | exact SV.imp_int (by dsimp only; omega) | exact SV.imp_eq (by simp)), .sv (by first | exact SV.imp_refl _ | exact SV.imp_int (by omega) | exact SV.imp_int (by push_cast; omega) | exact SV.imp_int (by dsimp only; omega) | exact SV.imp_eq (by simp)), .sv (by first | exact SV.imp_refl _ | exact SV.imp_int (by omega) | exact SV.imp_int (by push_cast; omega) | exact SV.imp_int (by dsimp only; omega) | exact SV.imp_eq (by simp)), trivial⟩ trivial trivial (fun _ _ => rfl)
  ·
    refine ok_seq ?_
    refine ok_region ?_
    refine RT.lss .none (true) rfl rfl (tl rfl) (by simp; omega) ?_
    refine RT.done ?_
    refine AThen.n ?_
    refine ok_seq ?_
    refine ok_condT rfl ?_
    refine ok_skip ?_
    refine AThen.n ?_
    refine ok_seq ?_
    refine ok_block ?_
    refine ok_seq ?_
    refine ok_region ?_
    refine RT.mv .none rfl (tl rfl) ?_
    refine RT.asg .none rfl (tl rfl) ?_
    refine RT.done ?_
    refine AThen.n ?_
    refine ok_seq ?_
    refine ok_region ?_
    refine RT.asg .none rfl (tl rfl) ?_
    refine RT.asg .none rfl (tl rfl) ?_
    refine RT.done ?_
    refine AThen.n ?_
    refine ok_seq ?_
    refine ok_seq ?_
    refine ok_region ?_
    refine RT.mv .none rfl (tl rfl) ?_
    refine RT.loadRV .none rfl rfl (tl rfl) ?_
    refine RT.len .none rfl (tl rfl) ?_
    refine RT.lss .none (false) rfl rfl (tl rfl) (by simp only [List.length_map]; simp; omega) ?_
    refine RT.done ?_
    refine AThen.n ?_
    refine ok_condF rfl ?_
    refine ok_skip ?_
    refine AThen.n ?_
    refine ok_seq ?_
    refine ok_seq ?_
    refine ok_region ?_
    refine RT.mv .none rfl (tl rfl) ?_
    refine RT.loadRV .none rfl rfl (tl rfl) ?_
    refine RT.len .none rfl (tl rfl) ?_
    refine RT.lss .none (true) rfl rfl (tl rfl) (by simp only [List.length_map]; simp; omega) ?_
    refine RT.done ?_
    refine AThen.n ?_
    refine ok_condT rfl ?_
    refine ok_region ?_
    refine RT.loadRV .none rfl rfl (tl rfl) ?_
    refine RT.mv .none rfl (tl rfl) ?_
    refine RT.ixA .none [.v (.int .u32 ((b.getD i 0 : Nat) : Int))] (Int.natCast_nonneg i) (by rw [Int.toNat_natCast, List.getElem?_map, get_getD hb2]; rfl) rfl rfl (tl rfl) ?_
    refine RT.loadRV .none rfl rfl (tl rfl) ?_
    refine RT.conv .none (((b.getD i 0 % 18446744073709551616 : Nat) : Int)) rfl (tl rfl) cu64 ?_
    refine RT.asg .none rfl (tl rfl) ?_
    refine RT.done ?_
    refine AThen.n ?_
    refine ok_seq ?_
    refine ok_region ?_
    refine RT.mv .none rfl (tl rfl) ?_
    refine RT.mv .none rfl (tl rfl) ?_
    refine RT.mv .none rfl (tl rfl) ?_
    refine RT.yield .none hr rfl (fun _ h => h) rfl (i) rfl rfl hi (by exact ⟨(by show AV.sv _ = AV.sv _; rw [getD_of_le hb1]; rfl), rfl, trivial⟩) (tl rfl) (fun yb => ?_)
    cases yb
    ·
      refine RT.not .none rfl (tl rfl) true rfl ?_
      refine RT.done ?_
      refine AThen.n ?_
      refine ok_condT rfl ?_
      refine ok_ret ?_
      refine AInB.r ?_
      refine AThen.r ?_
      refine AThen.r ?_
      refine AInB.r ?_
      exact ⟨.inr rfl, (fun h => by cases h)⟩
    ·
      refine RT.not .none rfl (tl rfl) false rfl ?_
      refine RT.done ?_
      refine AThen.n ?_
      refine ok_condF rfl ?_
      refine ok_skip ?_
      refine AInB.n ?_
      refine AThen.n ?_
      refine ok_region ?_
      refine RT.add .none (((i : Nat) : Int) + 1) rfl rfl (tl rfl) (nw_i64 (by omega)) ?_
      refine RT.mv .none rfl (tl rfl) ?_
      refine RT.done ?_
      refine AThen.n ?_
      refine ⟨⟨i + 1, by omega⟩, (by dsimp only; omega), ?_⟩
      try dsimp only
      exact weakL id rfl rfl rfl rfl rfl ⟨.sv (by first | exact SV.imp_refl _ | exact SV.imp_int (by omega) | exact SV.imp_int (by push_cast; omega) | exact SV.imp_int (by dsimp only; omega) | exact SV.imp_eq (by simp)), .sv (by first | exact SV.imp_refl _ | exact SV.imp_int (by omega) | exact SV.imp_int (by push_cast; omega) | exact SV.imp_int (by dsimp only; omega) | exact SV.imp_eq (by simp)), .sv (by first | exact SV.imp_refl _ | exact SV.imp_int (by omega) | exact SV.imp_int (by push_cast; omega) | exact SV.imp_int (by dsimp only; omega) | exact SV.imp_eq (by simp)), .sv (by first | exact SV.imp_refl _ | exact SV.imp_int (by omega) | exact SV.imp_int (by push_cast; omega) | exact SV.imp_int (by dsimp only; omega) | exact SV.imp_eq (by simp)), .sv (by first | exact SV.imp_refl _ | exact SV.imp_int (by omega) | exact SV.imp_int (by push_cast; omega) | exact SV.imp_int (by dsimp only; omega) | exact SV.imp_eq (by simp)), trivial⟩ trivial trivial (fun _ _ => rfl)
  ·
    subst hi
    refine ok_seq ?_
    refine ok_region ?_
    refine RT.lss .none (false) rfl rfl (tl rfl) (by simp) ?_
    refine RT.done ?_
    refine AThen.n ?_
    refine ok_seq ?_
    refine ok_condF rfl ?_
    refine ok_exit ?_
    refine AThen.x ?_
    refine AThen.x ?_
    refine AInB.x ?_
    exact ⟨.inl rfl, (fun _ => rfl)⟩
theorem slices_Clone_ok {x0 r : List Nat} (h : slices_Clone_m x0 = some r) : Pure Try.prog 56 [slc 1 (List.map eU32 x0)] (slc 1 (List.map eU32 r)) := by
 refine pure_of_ok Try.func56 rfl (Nat.le_of_ble_eq_true rfl) (fun wld M vs hvs => ?_)
 unfold slices_Clone_m at h
 refine sr <| aI rfl (imp_nil (n := 1) (e := eU32)) <| dn <| qq <| sr <| mv rfl ?_
 refine RT.nilSl .none rfl T (fun nb hnb => ?_)
 cases nb
 exact dn <| fs <| sr <| RT.buildRw (l := ([] : List Nat)) (e := eU32) .none .nil T rfl T rfl rfl rfl rfl rfl rfl <| mv rfl <| RT.apIR (k := x0) (e := eU32) .none rfl rfl rfl T rfl T h <| ag rfl <| dn <| ok_ret <| RZ (.tmp rfl .nil)
 have hx : x0 = [] := by simpa using hnb rfl
 subst hx
 obtain ⟨_, _, rfl⟩ := apM_some h
 exact dn <| cT <| sr <| aI rfl (imp_nil (n := 1) (e := eU32)) <| dn <| ok_ret <| AThen.r <| RZ (.tmp rfl .nil)
theorem slices_CloneN_ok {x0 r : List Nat} (h : slices_Clone_m x0 = some r) : NewC Try.prog 56 [slc 1 (List.map eU32 x0)] (TR 80 1 eU32 r) := by
 refine newC_of_ok Try.func56 rfl (Nat.le_of_ble_eq_true rfl) (fun wld M vs hvs => ?_)
 unfold slices_Clone_m at h
 refine sr <| ag rfl <| dn <| qq <| sr <| mv rfl ?_
 refine RT.nilSl .none rfl T (fun nb hnb => ?_)
 cases nb
 exact dn <| fs <| sr <| RT.buildRw (l := ([] : List Nat)) (e := eU32) .none .nil T rfl T rfl rfl rfl rfl rfl rfl <| mv rfl <| aR (k := x0) (e := eU32) rfl rfl rfl h <| an (s := .row _) rfl <| dn <| ok_ret <| ⟨.inr rfl, _, .tmp rfl, rfl⟩
 have hx : x0 = [] := by simpa using hnb rfl
 subst hx
 obtain ⟨_, _, rfl⟩ := apM_some h
 exact dn <| cT <| sr <| ag rfl <| dn <| ok_weak (weak_nil 2 300 80 1 rfl rfl T) <| ok_ret <| AThen.r <| ⟨.inr rfl, _, .tmp rfl, rfl⟩
theorem whole_carrier_1_ok {x0 : Nat} {c0 : Nat} {r : Nat × Nat} (h : whole_carrier_1_m x0 c0 = some r) : BoxC Try.prog 113 [.v (.int .u64 ((x0 : Nat) : Int))] 100 [.v (.int .u64 ((c0 : Nat) : Int))] (.v (.int .u32 ((r.1 : Nat) : Int))) [.v (.int .u64 ((r.2 : Nat) : Int))] := by
 refine boxC_of_ok Try.func113 rfl (Nat.le_of_ble_eq_true rfl) (fun wld M β => ?_)
 unfold whole_carrier_1_m at h
 refine sr <| ag rfl <| dn <| sr <| mv rfl <| lV rfl rfl rfl <| lE h fun x6 h6 h => ad _ rfl rfl (UK.add (a := x0) (b := c0) h6) <| ag rfl <| dn <| sr <| mv rfl <| lE h fun x8 h8 h => RT.shr .none _ rfl rfl T (by decide) (shrU (k := .u64) (a := x6) (q := 32) (s := 32) rfl h8) <| RT.storeV (cells := [_]) .none (s := .sv _) rfl rfl rfl T rfl <| dn <| sr <| mv rfl <| lE h fun x10 h10 h => cv _ rfl (UK.nat h10) <| ag rfl ?_
 refine dn <| ok_ret ?_
 obtain rfl := O h
 exact ⟨.inr rfl, res_imp (.tmp rfl (.nil)) (SV.imp_refl _), rfl⟩
theorem whole_trim_ok {x0 : List Nat} {r : List Nat} (h : whole_trim_m x0 = some r) : Pure Try.prog 54 [slc 1 (List.map eU32 x0)] (slc 1 (List.map eU32 r)) := by
 refine pure_of_ok Try.func54 rfl (Nat.le_of_ble_eq_true rfl) (fun wld M vs hvs => ?_)
 unfold whole_trim_m at h
 refine sr <| aI rfl (imp_nil (n := 1) (e := eU32)) <| dn <| qq <| bE h fun e10 hl10 ho10 => ?_
 refine ok_tailP (fun (y0e9 : (List Nat)) => AS.mkL 21 [(0, .sv (slc 1 (List.map eU32 y0e9)))] [] []) (fun y0e9 => y0e9 = e10) ?_ (fun y0e9 hx10 => ?_)
 refine ok_block ?_
 refine ok_loopM hl10 (fun s10 => AS.mkL 21 [(0, .sv (slc 1 (List.map eU32 s10)))] [] []) (wR []) (fun y0l5 y10 G10 h hG10 hE10 => ?_)
 try dsimp only
 refine qq <| qq ?_
 refine ok_tailJ h (fun j13 => AS.mkL 21 [(0, .sv (slc 1 (List.map eU32 y0l5))), (14, .sv (.v (.bool j13)))] [] []) (fun h => ?_) (fun y14j12 h => ?_)
 refine ok_region <| mv rfl <| lE h fun x4 h4 h => ln rfl h4 <| lE h fun x5 h5 h => gt _ rfl rfl h5 <| mv rfl <| bE h fun c14_14 hg14 h => ?_
 cases x5
 obtain rfl := O (F hg14)
 exact ww <| ww <| ww <| ww <| ww <| ww <| ww <| pF rfl <| dn <| ⟨false, h, wR []⟩
 refine gm rfl <| gm rfl <| lE (V hg14) fun x9 h9 hg14 => gn rfl h9 <| lE hg14 fun x10 h10 hg14 => RT.sub (.some rfl rfl) _ rfl rfl T h10 <| bE hg14 fun x11 h11 hg14 => RT.ixM (.some rfl rfl) rfl rfl T h11 <| gr rfl rfl <| lE hg14 fun x13 h13 hg14 => ge_ _ rfl rfl (eqN (p := x11) (q := 0) h13) ?_
 obtain rfl := O hg14
 exact pT rfl <| dn <| ⟨x13, h, wR []⟩
 try dsimp only
 refine AThen.n ?_
 cases y14j12
 refine cF <| ok_exit <| AThen.x <| AThen.x <| AInB.x <| AThen.n ?_
 obtain rfl := O (F h)
 exact ⟨y0l5, hE10 _ rfl, wR []⟩
 refine cT <| ok_skip <| AThen.n <| ok_block <| ok_region <| mv rfl <| mv rfl <| lE (V h) fun x17 h17 h => ln rfl h17 <| lE h fun x18 h18 h => sb _ rfl rfl h18 <| bE h fun x19 h19 h => RT.sliceM .none 0 x18 rfl rfl ⟨_, rfl⟩ T h19 <| ag rfl <| RT.done <| AInB.n ?_
 obtain rfl := O h
 exact AThen.n ⟨x19, hG10 _ rfl, wR []⟩
 subst hx10
 try dsimp only
 refine AThen.n <| sr <| mv rfl <| ag rfl <| dn <| ok_ret ?_
 obtain rfl := O ho10
 exact R1 rfl
theorem whole_build_ok {x0 : Bool} {x1 : List Nat} {r : Zr} (h : whole_build_m x0 x1 = some r) : Pure Try.prog 55 [.v (.bool x0), slc 1 (List.map eU32 x1)] (.agg (eZ r)) := by
 refine pure_of_ok Try.func55 rfl (Nat.le_of_ble_eq_true rfl) (fun wld M vs hvs => ?_)
 unfold whole_build_m at h
 refine sr <| al (cs := [.v (.bool false), slc 1 (List.map eU32 [])]) (by exact ⟨SV.imp_refl _, imp_nil, trivial⟩) rfl <| dn <| sr <| mv rfl <| bE h fun x6 h6 h => cl (whole_trim_ok h6) ⟨rfl, trivial⟩ <| ag rfl <| dn <| qq <| sr <| mv rfl <| lE h fun x8 h8 h => ln rfl h8 <| lE h fun x9 h9 h => eq _ rfl rfl (eqI (p := x8) (q := 0) h9) <| dn ?_
 cases x9
 refine fs <| sr <| mv rfl <| mv rfl <| bI (cs := [_, _]) (cs' := [.v (.bool x0), slc 1 (List.map eU32 x6)]) (.one rfl (.one rfl (.nil))) ⟨SV.imp_refl _, SV.imp_refl _, trivial⟩ <| so rfl rfl rfl <| dn <| ok_ret ?_
 obtain rfl := O (F h)
 exact RZ (.agg rfl rfl (.cons rfl (.cons rfl (.nil))) rfl (.nil))
 refine cT <| sr <| bI (cs := [_, _]) (cs' := [.v (.bool false), slc 1 (List.map eU32 [])]) (.nil) ⟨SV.imp_refl _, imp_nil, trivial⟩ <| so rfl rfl rfl <| dn <| ok_ret <| AThen.r ?_
 obtain rfl := O (V h)
 exact RZ (.agg rfl rfl (.cons rfl (.cons rfl (.nil))) rfl (.nil))
theorem whole_small_ok {x0 : Bool} {x1 : Nat} {r : Zr} (h : whole_small_m x0 x1 = some r) : Pure Try.prog 71 [.v (.bool x0), .v (.int .u64 ((x1 : Nat) : Int))] (.agg (eZ r)) := by
 refine pure_of_ok Try.func71 rfl (Nat.le_of_ble_eq_true rfl) (fun wld M vs hvs => ?_)
 unfold whole_small_m at h
 refine sr <| al (cs := [.v (.bool false), slc 1 (List.map eU32 [])]) (by exact ⟨SV.imp_refl _, imp_nil, trivial⟩) rfl <| dn <| qq <| ok_block <| sr <| mv rfl <| lE h fun x7 h7 h => eq _ rfl rfl (eqN (p := x1) (q := 0) h7) <| ag rfl <| dn ?_
 cases x7
 refine cF <| sr <| mv rfl <| lE (F h) fun x11 h11 h => RT.shr .none _ rfl rfl T (by decide) (shrU (k := .u64) (a := x1) (q := 32) (s := 32) rfl h11) <| lE h fun x12 h12 h => eq _ rfl rfl (eqN (p := x11) (q := 0) h12) <| ag rfl <| dn ?_
 cases x12
 refine cF <| ok_skip <| AInB.n <| AThen.n <| sr <| mv rfl <| mv rfl <| lE (F h) fun x20 h20 h => cv _ rfl (UK.nat h20) <| mv rfl <| lE h fun x22 h22 h => RT.shr .none _ rfl rfl T (by decide) (shrU (k := .u64) (a := x1) (q := 32) (s := 32) rfl h22) <| lE h fun x23 h23 h => cv _ rfl (UK.nat h23) <| bl (l := [x20, x23]) (e := eU32) (.one rfl (.one rfl (.nil))) rfl rfl rfl rfl rfl rfl <| bI (cs := [_, _]) (cs' := [.v (.bool x0), slc 1 (List.map eU32 [x20, x23])]) (.one rfl (.one rfl (.nil))) ⟨SV.imp_refl _, SV.imp_refl _, trivial⟩ ?_
 refine so rfl rfl rfl <| dn <| ok_ret ?_
 obtain rfl := O h
 exact RZ (.agg rfl rfl (.cons rfl (.cons rfl (.nil))) rfl (.nil))
 refine cT <| sr <| mv rfl <| mv rfl <| lE (V h) fun x15 h15 h => cv _ rfl (UK.nat h15) <| bl (l := [x15]) (e := eU32) (.one rfl (.nil)) rfl rfl rfl rfl rfl rfl <| bI (cs := [_, _]) (cs' := [.v (.bool x0), slc 1 (List.map eU32 [x15])]) (.one rfl (.one rfl (.nil))) ⟨SV.imp_refl _, SV.imp_refl _, trivial⟩ <| so rfl rfl rfl <| dn <| ok_ret <| AInB.r <| AThen.r ?_
 obtain rfl := O h
 exact RZ (.agg rfl rfl (.cons rfl (.cons rfl (.nil))) rfl (.nil))
 refine cT <| sr <| bI (cs := [_, _]) (cs' := [.v (.bool false), slc 1 (List.map eU32 [])]) (.nil) ⟨SV.imp_refl _, imp_nil, trivial⟩ <| so rfl rfl rfl <| dn <| ok_ret <| AInB.r <| AThen.r ?_
 obtain rfl := O (V h)
 exact RZ (.agg rfl rfl (.cons rfl (.cons rfl (.nil))) rfl (.nil))
theorem whole_low_ok {x0 : List Nat} {r : Nat} (h : whole_low_m x0 = some r) : Pure Try.prog 87 [slc 1 (List.map eU32 x0)] (.v (.int .u64 ((r : Nat) : Int))) := by
 refine pure_of_ok Try.func87 rfl (Nat.le_of_ble_eq_true rfl) (fun wld M vs hvs => ?_)
 unfold whole_low_m at h
 refine sr <| ag rfl <| dn <| qq <| sr <| mv rfl <| lE h fun x4 h4 h => ln rfl h4 <| dn <| ok_block <| sr <| lE h fun x6 h6 h => eq _ rfl rfl (eqI (p := x4) (q := 0) h6) <| ag rfl <| dn ?_
 cases x6
 refine cF <| sr <| lE (F h) fun x8 h8 h => eq _ rfl rfl (eqI (p := x4) (q := 1) h8) <| ag rfl <| dn ?_
 cases x8
 refine cF <| ok_skip <| AInB.n <| AThen.n <| qq <| ok_region_draw mixed <| mv rfl <| bE (F h) fun x14 h14 h => ix rfl rfl h14 <| lr rfl rfl <| lE h fun x16 h16 h => cv _ rfl (UK.nat h16) <| mv rfl <| bE h fun x18 h18 h => ix rfl rfl h18 <| lr rfl rfl <| lE h fun x20 h20 h => cv _ rfl (UK.nat h20) <| lE h fun x21 h21 h => RT.shl .none _ rfl rfl T (by decide) (UK.shl (a := x20) (q := 32) (s := 32) rfl h21) <| lE h fun x22 h22 h => RT.or .none _ rfl rfl T (UK.or (a := x16) (b := x21) h22) ?_
 refine ag rfl ?_
 refine RT.done ⟨by kernel_rfl, ?_⟩
 refine AThen.n <| ok_ret ?_
 obtain rfl := O h
 exact R1 rfl
 refine cT <| sr <| mv rfl <| bE (V h) fun x10 h10 h => ix rfl rfl h10 <| lr rfl rfl <| lE h fun x12 h12 h => cv _ rfl (UK.nat h12) <| ag rfl <| dn <| ok_ret <| AInB.r <| AThen.r ?_
 obtain rfl := O h
 exact R1 rfl
 refine cT <| sr <| ag rfl <| dn <| ok_ret <| AInB.r <| AThen.r ?_
 obtain rfl := O (V h)
 exact R1 rfl
theorem whole_compareWords_ok {x0 : List Nat} {x1 : List Nat} {r : Int} (h : whole_compareWords_m x0 x1 = some r) : Pure Try.prog 72 [slc 1 (List.map eU32 x0), slc 1 (List.map eU32 x1)] (.v (.int .i64 r)) := by
 refine pure_of_ok Try.func72 rfl (Nat.le_of_ble_eq_true rfl) (fun wld M vs hvs => ?_)
 unfold whole_compareWords_m at h
 refine sr <| ag rfl <| dn <| qq <| sr <| mv rfl <| lE h fun x7 h7 h => ln rfl h7 <| mv rfl <| lE h fun x9 h9 h => ln rfl h9 <| lE h fun x10 h10 h => ne _ rfl rfl (neI (p := x7) (q := x9) h10) <| dn ?_
 cases x10
 refine fs <| qq <| sr <| mv rfl <| lE (F h) fun x17 h17 h => ln rfl h17 <| lE h fun x18 h18 h => sb _ rfl rfl h18 <| ag rfl <| dn <| bE h fun e6 hl6 ho6 => ?_
 refine ok_tailP (fun (xe6 : Unit) => AS.mkL 41 [] [] []) (fun xe6 => .inl xe6 = e6) ?_ (fun xe6 hx6 => ?_)
 refine ok_block ?_
 refine ok_loopM hl6 (fun s6 => AS.mkL 41 [(0, .sv (slc 1 (List.map eU32 x0))), (1, .sv (slc 1 (List.map eU32 x1))), (5, .sv (.v (.int .i64 s6)))] [] []) (wR []) (fun y5l3 y6 G6 h hG6 hE6 => ?_)
 try dsimp only
 refine qq <| sr <| mv rfl <| lE h fun x20 h20 h => ge _ rfl rfl h20 <| dn ?_
 cases x20
 refine cF <| ok_exit <| AThen.x <| AThen.x <| AInB.x <| AThen.n ?_
 obtain rfl := O (F h)
 exact ⟨(), hE6 _ rfl, wR []⟩
 refine cT <| ok_skip <| AThen.n <| qq <| ok_block <| qq <| ok_region_draw mixed <| mv rfl <| mv rfl <| bE (V h) fun x25 h25 h => ix rfl rfl h25 <| lr rfl rfl <| mv rfl <| mv rfl <| bE h fun x29 h29 h => ix rfl rfl h29 <| lr rfl rfl <| lE h fun x31 h31 h => ne _ rfl rfl (neN (p := x25) (q := x29) h31) ?_
 refine RT.done ⟨by kernel_rfl, ?_⟩
 refine AThen.n ?_
 cases x31
 refine cF <| ok_skip <| AInB.n <| AThen.n <| ok_region <| mv rfl <| lE (F h) fun x22 h22 h => sb _ rfl rfl h22 <| ag rfl <| RT.done ?_
 obtain rfl := O h
 exact AThen.n ⟨x22, hG6 _ rfl, wR []⟩
 refine cT <| qq <| qq <| ok_region_draw mixed <| mv rfl <| mv rfl <| bE (V h) fun x34 h34 h => ix rfl rfl h34 <| lr rfl rfl <| mv rfl <| mv rfl <| bE h fun x38 h38 h => ix rfl rfl h38 <| lr rfl rfl <| lE h fun x40 h40 h => ls _ rfl rfl (ltN (p := x34) (q := x38) h40) ?_
 refine RT.done ⟨by kernel_rfl, ?_⟩
 refine AThen.n ?_
 cases x40
 refine fs <| sr <| ag rfl <| dn <| ok_ret <| AInB.r <| AThen.r ?_
 obtain rfl := O (F h)
 have he6 := hE6 _ rfl
 subst he6
 refine AThen.r <| AInB.r <| AThen.r <| AThen.r ?_
 obtain rfl := O ho6
 exact R1 rfl
 refine cT <| sr <| ag rfl <| dn <| ok_ret <| AThen.r <| AInB.r <| AThen.r ?_
 obtain rfl := O (V h)
 have he6 := hE6 _ rfl
 subst he6
 refine AThen.r <| AInB.r <| AThen.r <| AThen.r ?_
 obtain rfl := O ho6
 exact R1 rfl
 subst hx6
 try dsimp only
 refine AThen.n <| sr <| ag rfl <| dn <| ok_ret ?_
 obtain rfl := O ho6
 exact R1 rfl
 refine cT <| qq <| sr <| mv rfl <| lE (V h) fun x12 h12 h => ln rfl h12 <| mv rfl <| lE h fun x14 h14 h => ln rfl h14 <| lE h fun x15 h15 h => ls _ rfl rfl h15 <| dn ?_
 cases x15
 refine fs <| sr <| ag rfl <| dn <| ok_ret <| AThen.r ?_
 obtain rfl := O (F h)
 exact R1 rfl
 refine cT <| sr <| ag rfl <| dn <| ok_ret <| AThen.r <| AThen.r ?_
 obtain rfl := O (V h)
 exact R1 rfl
theorem whole_addWords_ok {x0 : List Nat} {x1 : List Nat} {r : List Nat} (h : whole_addWords_m x0 x1 = some r) : Pure Try.prog 69 [slc 1 (List.map eU32 x0), slc 1 (List.map eU32 x1)] (slc 1 (List.map eU32 r)) := by
 refine pure_of_ok Try.func69 rfl (Nat.le_of_ble_eq_true rfl) (fun wld M vs hvs => ?_)
 unfold whole_addWords_m at h
 refine sr <| aI rfl (imp_nil (n := 1) (e := eU32)) <| dn <| sr <| mv rfl <| lE h fun x10 h10 h => ln rfl h10 <| mv rfl <| lE h fun x12 h12 h => ln rfl h12 <| lE h fun x13 h13 h => RT.max .none _ rfl rfl T (maxI (p := x10) (q := x12) h13) <| lE h fun x14 h14 h => ad _ rfl rfl h14 <| bE h fun x15 h15 h => RT.mkEmp (e := eU32) .none rfl rfl T rfl T h15 <| RT.alloc .none T rfl rfl <| RT.storeR (cells := [_]) .none rfl rfl rfl rfl T rfl <| dn <| sr <| RT.callF .none (whole_carrier_ok 0) rfl ⟨rfl, trivial⟩ T rfl rfl ?_
 refine RT.alloc .none T rfl rfl <| RT.storeV (cells := [_]) .none (s := .clo _ _) rfl rfl rfl T rfl <| dn <| qq <| sr <| mv rfl <| mv rfl <| cl (whole_pairs_ok x0 x1) ⟨rfl, rfl, trivial⟩ <| dn <| ok_block <| bE h fun e7 hl7 ho7 => ?_
 obtain ⟨st7, hs7, ht7, hn7⟩ := rangeM_st hl7
 refine ok_rangeFunc (whole_pairs_it x0 x1) (fun _ _ _ _ _ => trivial) rfl (fun k => AS.mkL 35 [(5, .ptr 5 0), (6, .ptr 6 0), (19, .sv (cloS 114 [ref [slc 1 (List.map eU32 x0)], ref [slc 1 (List.map eU32 x1)]]))] [(6, ⟨119, [.clo 113 [.box 16]]⟩), (16, ⟨100, [.sv (.v (.int .u64 (((st7 k).1 : Nat) : Int)))]⟩), (5, ⟨22, [.row 302]⟩)] [(302, TR 80 1 eU32 (st7 k).2)]) [6, 16, 5] rfl (fun _ => ⟨rfl, rfl⟩) (rangeT rfl) (fun _ => rfl) (rangeP rfl) (by (try dsimp only); rw [hs7]; (try dsimp only); exact weakL (fun i => bif Nat.beq i 302 then 15 else i) rfl rfl rfl rfl rfl ⟨.ptr, .ptr, .sv (SV.imp_refl _), trivial⟩ ⟨⟨_, rfl, ⟨.clo, trivial⟩⟩, ⟨_, rfl, ⟨.sv (SV.imp_refl _), trivial⟩⟩, ⟨_, rfl, ⟨.row rfl, trivial⟩⟩, trivial⟩ ⟨⟨_, rfl, SVIs.refl _⟩, trivial⟩ (fun i hi => by rw [beq_ne (show i ≠ 302 by omega)]; rfl)) (fun k hk D => ?_) ?_
 have h := ht7 k hk
 obtain ⟨sk, hsk⟩ : ∃ q, st7 k = q := ⟨_, rfl⟩
 rw [hsk] at h ⊢
 obtain ⟨b16_0l4, r302l4⟩ := sk
 dsimp only [AS.inR, setPs]
 try dsimp only at h
 refine lE h fun p20 hp20 h => ?_
 rw [hp20]
 refine lE h fun p21 hp21 h => ?_
 rw [hp21]
 refine sr <| ag rfl <| dn <| ok_region <| ag rfl <| RT.done ?_
 refine AThen.n ⟨rfl, ?_⟩
 dsimp only [AS.goOn]
 refine ok_block <| ok_region_draw mixed <| RT.loadV .none (s := .row _) rfl rfl rfl T <| RT.loadV .none (s := .clo _ _) rfl rfl rfl T <| mv rfl <| mv rfl <| lE h fun x26 h26 h => ad _ rfl rfl (UK.add (a := p20) (b := p21) h26) ?_
 obtain ⟨⟨x27, k9⟩, h27, h⟩ := bS h
 refine cB (whole_carrier_1_ok h27) 16 rfl ⟨rfl, trivial⟩ <| bl (l := [x27]) (e := eU32) (.one rfl (.nil)) rfl rfl rfl rfl rfl rfl <| bE h fun x29 h29 h => aR (k := [x27]) (e := eU32) rfl rfl rfl h29 <| RT.storeR (cells := [_]) .none rfl rfl rfl rfl T rfl ?_
 refine RT.done ⟨by kernel_rfl, ?_⟩
 refine AInB.n ?_
 replace h := Option.some.inj h
 refine ⟨trivial, rfl, rfl, ?_⟩
 try dsimp only
 rw [← h]
 try dsimp only
 exact wR [(302, 29)]
 rw [hn7]
 obtain ⟨b16_0l4, r302l4⟩ := e7
 try dsimp only
 refine AInB.n <| AThen.n <| qq <| ok_region_draw mixed <| RT.loadV .none (s := .row _) rfl rfl rfl T <| RT.loadV .none (s := .clo _ _) rfl rfl rfl T ?_
 obtain ⟨⟨x32, k11⟩, h32, ho7⟩ := bS ho7
 refine cB (whole_carrier_1_ok h32) 16 rfl ⟨rfl, trivial⟩ <| bl (l := [x32]) (e := eU32) (.one rfl (.nil)) rfl rfl rfl rfl rfl rfl <| bE ho7 fun x34 h34 ho7 => RT.apIR (k := [x32]) (e := eU32) .none rfl rfl rfl T rfl T h34 <| ag rfl ?_
 refine RT.done ⟨by kernel_rfl, ?_⟩
 refine AThen.n <| ok_ret ?_
 obtain rfl := O ho7
 exact R1 rfl
theorem whole_subWords_ok {x0 : List Nat} {x1 : List Nat} {r : List Nat} (h : whole_subWords_m x0 x1 = some r) : Pure Try.prog 70 [slc 1 (List.map eU32 x0), slc 1 (List.map eU32 x1)] (slc 1 (List.map eU32 r)) := by
 refine pure_of_ok Try.func70 rfl (Nat.le_of_ble_eq_true rfl) (fun wld M vs hvs => ?_)
 unfold whole_subWords_m at h
 refine sr <| aI rfl (imp_nil (n := 1) (e := eU32)) <| dn <| sr <| mv rfl <| lE h fun x10 h10 h => ln rfl h10 <| bE h fun x11 h11 h => RT.mkEmp (e := eU32) .none rfl rfl T rfl T h11 <| RT.alloc .none T rfl rfl <| RT.storeR (cells := [_]) .none rfl rfl rfl rfl T rfl <| dn <| sr <| RT.callF .none (whole_carrier_ok 1) rfl ⟨rfl, trivial⟩ T rfl rfl <| RT.alloc .none T rfl rfl <| RT.storeV (cells := [_]) .none (s := .clo _ _) rfl rfl rfl T rfl <| dn <| qq <| sr <| mv rfl ?_
 refine mv rfl <| cl (whole_pairs_ok x0 x1) ⟨rfl, rfl, trivial⟩ <| dn <| ok_block <| bE h fun e7 hl7 ho7 => ?_
 obtain ⟨st7, hs7, ht7, hn7⟩ := rangeM_st hl7
 refine ok_rangeFunc (whole_pairs_it x0 x1) (fun _ _ _ _ _ => trivial) rfl (fun k => AS.mkL 28 [(5, .ptr 5 0), (6, .ptr 6 0), (15, .sv (cloS 114 [ref [slc 1 (List.map eU32 x0)], ref [slc 1 (List.map eU32 x1)]]))] [(6, ⟨119, [.clo 113 [.box 12]]⟩), (12, ⟨100, [.sv (.v (.int .u64 (((st7 k).1 : Nat) : Int)))]⟩), (5, ⟨22, [.row 302]⟩)] [(302, TR 80 1 eU32 (st7 k).2)]) [6, 12, 5] rfl (fun _ => ⟨rfl, rfl⟩) (rangeT rfl) (fun _ => rfl) (rangeP rfl) (by (try dsimp only); rw [hs7]; (try dsimp only); exact weakL (fun i => bif Nat.beq i 302 then 11 else i) rfl rfl rfl rfl rfl ⟨.ptr, .ptr, .sv (SV.imp_refl _), trivial⟩ ⟨⟨_, rfl, ⟨.clo, trivial⟩⟩, ⟨_, rfl, ⟨.sv (SV.imp_refl _), trivial⟩⟩, ⟨_, rfl, ⟨.row rfl, trivial⟩⟩, trivial⟩ ⟨⟨_, rfl, SVIs.refl _⟩, trivial⟩ (fun i hi => by rw [beq_ne (show i ≠ 302 by omega)]; rfl)) (fun k hk D => ?_) ?_
 have h := ht7 k hk
 obtain ⟨sk, hsk⟩ : ∃ q, st7 k = q := ⟨_, rfl⟩
 rw [hsk] at h ⊢
 obtain ⟨b12_0l4, r302l4⟩ := sk
 dsimp only [AS.inR, setPs]
 try dsimp only at h
 refine lE h fun p16 hp16 h => ?_
 rw [hp16]
 refine lE h fun p17 hp17 h => ?_
 rw [hp17]
 refine sr <| ag rfl <| dn <| ok_region <| ag rfl <| RT.done ?_
 refine AThen.n ⟨rfl, ?_⟩
 dsimp only [AS.goOn]
 refine ok_block <| ok_region_draw mixed <| RT.loadV .none (s := .row _) rfl rfl rfl T <| RT.loadV .none (s := .clo _ _) rfl rfl rfl T <| mv rfl <| mv rfl <| lE h fun x22 h22 h => sb _ rfl rfl (UK.sub (a := 4294967295) (b := p17) h22) <| lE h fun x23 h23 h => ad _ rfl rfl (UK.add (a := p16) (b := x22) h23) ?_
 obtain ⟨⟨x24, k9⟩, h24, h⟩ := bS h
 refine cB (whole_carrier_1_ok h24) 12 rfl ⟨rfl, trivial⟩ <| bl (l := [x24]) (e := eU32) (.one rfl (.nil)) rfl rfl rfl rfl rfl rfl <| bE h fun x26 h26 h => aR (k := [x24]) (e := eU32) rfl rfl rfl h26 <| RT.storeR (cells := [_]) .none rfl rfl rfl rfl T rfl ?_
 refine RT.done ⟨by kernel_rfl, ?_⟩
 refine AInB.n ?_
 replace h := Option.some.inj h
 refine ⟨trivial, rfl, rfl, ?_⟩
 try dsimp only
 rw [← h]
 try dsimp only
 exact wR [(302, 26)]
 rw [hn7]
 obtain ⟨b12_0l4, r302l4⟩ := e7
 try dsimp only
 refine AInB.n <| AThen.n <| sr <| RT.loadV .none (s := .row _) rfl rfl rfl T <| an (s := .row _) rfl <| dn <| ok_weak (weak_frzM (i := 302) (E1 := 80) (n := 1) (e := eU32) (l := r302l4) rfl) <| ok_ret ?_
 obtain rfl := O ho7
 exact R1 rfl
theorem whole_mulWords_ok {x0 : List Nat} {x1 : List Nat} {r : List Nat} (h : whole_mulWords_m x0 x1 = some r) : Pure Try.prog 89 [slc 1 (List.map eU32 x0), slc 1 (List.map eU32 x1)] (slc 1 (List.map eU32 r)) := by
 refine pure_of_ok Try.func89 rfl (Nat.le_of_ble_eq_true rfl) (fun wld M vs hvs => ?_)
 unfold whole_mulWords_m at h
 refine sr <| aI rfl (imp_nil (n := 1) (e := eU32)) <| dn <| sr <| mv rfl <| lE h fun x12 h12 h => ln rfl h12 <| mv rfl <| lE h fun x14 h14 h => ln rfl h14 <| lE h fun x15 h15 h => ad _ rfl rfl h15 <| bE h fun x16 h16 h => RT.mkRow (n := 1) (e := eU32) .none rfl rfl T rfl T (by rfl) (by decide) (by exact ⟨SV.imp_refl _, trivial⟩) h16 <| an (s := .row _) rfl <| dn <| qq <| sr <| mv rfl <| lE h fun x18 h18 h => ln rfl h18 ?_
 refine mv rfl <| dn <| bE h fun e28 hl28 ho28 => ?_
 refine ok_tailP (fun (r16e27 : (List Nat)) => AS.mkL 63 [(5, .row 16)] [] [(16, TR 80 1 eU32 r16e27)]) (fun r16e27 => r16e27 = e28) ?_ (fun r16e27 hx28 => ?_)
 refine ok_block ?_
 refine ok_loopM hl28 (fun s28 => AS.mkL 63 [(1, .sv (slc 1 (List.map eU32 x1))), (5, .row 16), (17, .sv (slc 1 (List.map eU32 x0))), (18, .sv (.v (.int .i64 x18))), (19, .sv (.v (.int .i64 s28.1)))] [] [(16, TR 80 1 eU32 s28.2)]) (wR []) (fun s28 y28 G28 h hG28 hE28 => ?_)
 obtain ⟨y19l14, r16l14⟩ := s28
 try dsimp only
 refine sr <| lE h fun x20 h20 h => ls _ rfl rfl h20 <| dn <| qq ?_
 cases x20
 refine cF <| ok_exit <| AThen.x <| AThen.x <| AInB.x <| AThen.n ?_
 obtain rfl := O (F h)
 exact ⟨r16l14, hE28 _ rfl, wR []⟩
 refine cT <| ok_skip <| AThen.n <| qq <| ok_block <| sr <| mv rfl <| bE (V h) fun x22 h22 h => ix rfl rfl h22 <| lr rfl rfl <| ag rfl <| ag rfl <| dn <| sr <| RT.callF .none (whole_carrier_ok 0) rfl ⟨rfl, trivial⟩ T rfl rfl <| an (s := .clo _ _) rfl <| dn <| qq <| sr <| mv rfl <| lE h fun x26 h26 h => ln rfl h26 <| mv rfl <| dn <| bE h fun e38 hl38 ho38 => ?_
 refine ok_tailP (fun (xe38 : Nat × (List Nat)) => AS.mkL 63 [(1, .sv (slc 1 (List.map eU32 x1))), (5, .row 16), (6, .sv (.v (.int .i64 y19l14))), (8, .clo 113 [.box 24]), (17, .sv (slc 1 (List.map eU32 x0))), (18, .sv (.v (.int .i64 x18))), (19, .sv (.v (.int .i64 y19l14)))] [(24, ⟨100, [.sv (.v (.int .u64 ((xe38.1 : Nat) : Int)))]⟩)] [(16, TR 80 1 eU32 xe38.2)]) (fun xe38 => xe38 = e38) ?_ (fun xe38 hx38 => ?_)
 refine ok_block ?_
 refine ok_loopM hl38 (fun s38 => AS.mkL 63 [(1, .sv (slc 1 (List.map eU32 x1))), (5, .row 16), (6, .sv (.v (.int .i64 y19l14))), (7, .sv (.v (.int .u32 ((x22 : Nat) : Int)))), (8, .clo 113 [.box 24]), (17, .sv (slc 1 (List.map eU32 x0))), (18, .sv (.v (.int .i64 x18))), (19, .sv (.v (.int .i64 y19l14))), (25, .sv (slc 1 (List.map eU32 x1))), (26, .sv (.v (.int .i64 x26))), (27, .sv (.v (.int .i64 s38.1)))] [(24, ⟨100, [.sv (.v (.int .u64 ((s38.2.1 : Nat) : Int)))]⟩)] [(16, TR 80 1 eU32 s38.2.2)]) (wR []) (fun s38 y38 G38 h hG38 hE38 => ?_)
 obtain ⟨y27l33, b24_0l33, r16l33⟩ := s38
 try dsimp only
 refine sr <| lE h fun x28 h28 h => ls _ rfl rfl h28 <| dn <| qq ?_
 cases x28
 refine cF <| ok_exit <| AThen.x <| AThen.x <| AInB.x <| AThen.n ?_
 obtain rfl := O (F h)
 exact ⟨(b24_0l33, r16l33), hE38 _ rfl, wR []⟩
 refine cT <| ok_skip <| AThen.n <| qq <| ok_block <| sr <| mv rfl <| bE (V h) fun x30 h30 h => ix rfl rfl h30 <| lr rfl rfl <| ag rfl <| ag rfl <| dn <| ok_region <| mo (s := .row _) rfl <| mv rfl <| mv rfl <| lE h fun x35 h35 h => ad _ rfl rfl h35 <| mo (s := .clo _ _) rfl <| mo (s := .row _) rfl <| mv rfl <| mv rfl <| lE h fun x40 h40 h => ad _ rfl rfl h40 <| bE h fun x41 h41 h => iR rfl rfl rfl h41 ?_
 refine bE h fun x42 h42 h => lR rfl rfl h42 rfl <| lE h fun x43 h43 h => cv _ rfl (UK.nat h43) <| mv rfl <| lE h fun x45 h45 h => cv _ rfl (UK.nat h45) <| mv rfl <| lE h fun x47 h47 h => cv _ rfl (UK.nat h47) <| lE h fun x48 h48 h => RT.mul .none _ rfl rfl T (UK.mul (a := x45) (b := x47) h48) <| lE h fun x49 h49 h => ad _ rfl rfl (UK.add (a := x43) (b := x48) h49) ?_
 obtain ⟨⟨x50, k41⟩, h50, h⟩ := bS h
 refine cB (whole_carrier_1_ok h50) 24 rfl ⟨rfl, trivial⟩ <| bE h fun x51 h51 h => iR rfl rfl rfl h51 <| bE h fun l42 hl42_ h => sR x50 rfl rfl rfl rfl hl42_ <| RT.done <| AInB.n <| AThen.n <| ok_region <| lE h fun x52 h52 h => ad _ rfl rfl h52 <| mv rfl <| RT.done ?_
 obtain rfl := O h
 exact AThen.n ⟨(x52, k41, l42), hG38 _ rfl, wR []⟩
 subst hx38
 obtain ⟨b24_0e37, r16e37⟩ := xe38
 try dsimp only
 refine AThen.n <| ok_region <| mo (s := .row _) rfl <| mv rfl <| mv rfl <| lE ho38 fun x56 h56 ho38 => ln rfl h56 <| lE ho38 fun x57 h57 ho38 => ad _ rfl rfl h57 <| mo (s := .clo _ _) rfl ?_
 obtain ⟨⟨x59, k45⟩, h59, ho38⟩ := bS ho38
 refine cB (whole_carrier_1_ok h59) 24 rfl ⟨rfl, trivial⟩ <| bE ho38 fun x60 h60 ho38 => iR rfl rfl rfl h60 <| bE ho38 fun l46 hl46_ ho38 => sR x59 rfl rfl rfl rfl hl46_ <| RT.done <| AInB.n <| AThen.n <| ok_region <| lE ho38 fun x61 h61 ho38 => ad _ rfl rfl h61 <| mv rfl <| RT.done ?_
 obtain rfl := O ho38
 exact AThen.n ⟨(x61, l46), hG28 _ rfl, wR []⟩
 subst hx28
 try dsimp only
 refine AThen.n <| sr <| mo (s := .row _) rfl <| an (s := .row _) rfl <| dn <| ok_weak (weak_frzM (i := 16) (E1 := 80) (n := 1) (e := eU32) (l := r16e27) rfl) <| ok_ret ?_
 obtain rfl := O ho28
 exact R1 rfl
end Go.Proofs.Ytmiflmkdaeianaa
namespace Go.Proofs.Ytmiflmkdaeianaa
open Go.Fw Go.Fw.Z Go.RowKit
theorem whole_shortDiv_ok {x0 : List Nat} {x1 : Nat} {r : Nat × List Nat} (h : whole_shortDiv_m x0 x1 = some r) : RowC Try.prog 90 [.row 1000, .sv (.v (.int .u64 ((x1 : Nat) : Int)))] (TR 80 1 eU32 x0) (.sv (.v (.int .u64 ((r.1 : Nat) : Int)))) (List.flatMap eU32 r.2) := by
 refine rowC_of_ok Try.func90 rfl (Nat.le_of_ble_eq_true rfl) rfl rfl (fun wld M v0 => ?_)
 unfold whole_shortDiv_m at h
 refine sr <| ag rfl <| dn <| sr <| ag rfl <| dn <| qq <| sr <| mo (s := .row _) rfl <| lE h fun x9 h9 h => lL rfl rfl h9 <| lE h fun x10 h10 h => sb _ rfl rfl h10 <| ag rfl <| dn <| bE h fun e8 hl8 ho8 => ?_
 refine ok_tailP (fun (xe8 : Nat × (List Nat)) => AS.mkL 34 [(5, .sv (.v (.int .u64 ((xe8.1 : Nat) : Int))))] [] [(1000, TR 80 1 eU32 xe8.2)]) (fun xe8 => xe8 = e8) ?_ (fun xe8 hx8 => ?_)
 refine ok_block ?_
 refine ok_loopM hl8 (fun s8 => AS.mkL 34 [(0, .row 1000), (1, .sv (.v (.int .u64 ((x1 : Nat) : Int)))), (5, .sv (.v (.int .u64 ((s8.1 : Nat) : Int)))), (6, .sv (.v (.int .i64 s8.2.1)))] [] [(1000, TR 80 1 eU32 s8.2.2)]) (wR []) (fun s8 y8 G8 h hG8 hE8 => ?_)
 obtain ⟨y5l4, y6l4, r1000l4⟩ := s8
 try dsimp only
 refine qq <| sr <| mv rfl <| lE h fun x12 h12 h => ge _ rfl rfl h12 <| dn ?_
 cases x12
 refine cF <| ok_exit <| AThen.x <| AThen.x <| AInB.x <| AThen.n ?_
 obtain rfl := O (F h)
 exact ⟨(y5l4, r1000l4), hE8 _ rfl, wR []⟩
 refine cT <| ok_skip <| AThen.n <| qq <| ok_block <| sr <| mv rfl <| lE (V h) fun x16 h16 h => RT.shl .none _ rfl rfl T (by decide) (UK.shl (a := y5l4) (q := 32) (s := 32) rfl h16) <| mo (s := .row _) rfl <| mv rfl <| bE h fun x19 h19 h => iR rfl rfl rfl h19 <| bE h fun x20 h20 h => lR rfl rfl h20 rfl <| lE h fun x21 h21 h => cv _ rfl (UK.nat h21) <| lE h fun x22 h22 h => RT.or .none _ rfl rfl T (UK.or (a := x16) (b := x21) h22) <| ag rfl <| dn <| sr <| mo (s := .row _) rfl ?_
 refine mv rfl <| mv rfl <| mv rfl <| bE h fun x27 h27 h => RT.quo .none _ rfl rfl T (nzU h27) (UK.quo h27) <| lE h fun x28 h28 h => cv _ rfl (UK.nat h28) <| bE h fun x29 h29 h => iR rfl rfl rfl h29 <| bE h fun l10 hl10_ h => sR x28 rfl rfl rfl rfl hl10_ <| dn <| ok_region <| mv rfl <| mv rfl <| bE h fun x32 h32 h => RT.rem .none _ rfl rfl T (nzR h32) (remU h32) <| ag rfl <| RT.done <| AInB.n <| AThen.n <| ok_region <| mv rfl <| lE h fun x14 h14 h => sb _ rfl rfl h14 ?_
 refine ag rfl <| RT.done ?_
 obtain rfl := O h
 exact AThen.n ⟨(x32, x14, l10), hG8 _ rfl, wR []⟩
 subst hx8
 obtain ⟨y5e7, r1000e7⟩ := xe8
 try dsimp only
 refine AThen.n <| sr <| mv rfl <| ag rfl <| dn <| ok_ret <| bE ho8 fun _ hle ho8 => ?_
 obtain rfl := O ho8
 exact ⟨.inr rfl, .sv (res_imp (.tmp rfl (.nil)) (SV.imp_refl _)), (by show _ = RSt.live ⟨80, 1, x0.length, List.flatMap eU32 r1000e7⟩; rw [← eqLen_some hle]; rfl)⟩
theorem whole_shiftLeft_ok {x0 : List Nat} {x1 : Nat} {r : List Nat} (h : whole_shiftLeft_m x0 x1 = some r) : Pure Try.prog 110 [slc 1 (List.map eU32 x0), .v (.int .u64 ((x1 : Nat) : Int))] (slc 1 (List.map eU32 r)) := by
 refine pure_of_ok Try.func110 rfl (Nat.le_of_ble_eq_true rfl) (fun wld M vs hvs => ?_)
 unfold whole_shiftLeft_m at h
 refine sr <| aI rfl (imp_nil (n := 1) (e := eU32)) <| dn <| sr <| RT.callF .none (whole_carrier_ok 0) rfl ⟨rfl, trivial⟩ T rfl rfl <| an (s := .clo _ _) rfl <| dn <| sr <| mv rfl <| lE h fun x11 h11 h => ln rfl h11 <| lE h fun x12 h12 h => ad _ rfl rfl h12 <| bE h fun x13 h13 h => RT.mkEmp (e := eU32) .none rfl rfl T rfl T h13 <| an (s := .row _) rfl <| dn <| qq <| sr <| mv rfl <| lE h fun x15 h15 h => ln rfl h15 ?_
 refine mv rfl <| dn <| bE h fun e8 hl8 ho8 => ?_
 refine ok_tailP (fun (xe8 : Nat × (List Nat)) => AS.mkL 35 [(5, .clo 113 [.box 9]), (6, .row 302)] [(9, ⟨100, [.sv (.v (.int .u64 ((xe8.1 : Nat) : Int)))]⟩)] [(302, TR 80 1 eU32 xe8.2)]) (fun xe8 => xe8 = e8) ?_ (fun xe8 hx8 => ?_)
 refine ok_block ?_
 refine ok_loopM hl8 (fun s8 => AS.mkL 35 [(1, .sv (.v (.int .u64 ((x1 : Nat) : Int)))), (5, .clo 113 [.box 9]), (6, .row 302), (14, .sv (slc 1 (List.map eU32 x0))), (15, .sv (.v (.int .i64 x15))), (16, .sv (.v (.int .i64 s8.1)))] [(9, ⟨100, [.sv (.v (.int .u64 ((s8.2.1 : Nat) : Int)))]⟩)] [(302, TR 80 1 eU32 s8.2.2)]) (wR [(302, 13)]) (fun s8 y8 G8 h hG8 hE8 => ?_)
 obtain ⟨y16l4, b9_0l4, r302l4⟩ := s8
 try dsimp only
 refine sr <| lE h fun x17 h17 h => ls _ rfl rfl h17 <| dn <| qq ?_
 cases x17
 refine cF <| ok_exit <| AThen.x <| AThen.x <| AInB.x <| AThen.n ?_
 obtain rfl := O (F h)
 exact ⟨(b9_0l4, r302l4), hE8 _ rfl, wR []⟩
 refine cT <| ok_skip <| AThen.n <| qq <| ok_block <| sr <| bE (V h) fun x18 h18 h => ix rfl rfl h18 <| lr rfl rfl <| ag rfl <| dn <| ok_region <| mo (s := .row _) rfl <| mo (s := .clo _ _) rfl <| mv rfl <| lE h fun x23 h23 h => cv _ rfl (UK.nat h23) <| mv rfl <| lE h fun x25 h25 h => RT.shl .none _ rfl rfl T (Int.natCast_nonneg _) (UK.shl (a := x23) (q := ((x1 : Nat) : Int)) (s := min x1 64) rfl h25) ?_
 obtain ⟨⟨x26, k10⟩, h26, h⟩ := bS h
 refine cB (whole_carrier_1_ok h26) 9 rfl ⟨rfl, trivial⟩ <| bl (l := [x26]) (e := eU32) (.one rfl (.nil)) rfl rfl rfl rfl rfl rfl <| bE h fun x28 h28 h => aR (k := [x26]) (e := eU32) rfl rfl rfl h28 <| an (s := .row _) rfl <| RT.done <| AInB.n <| AThen.n <| ok_region <| lE h fun x29 h29 h => ad _ rfl rfl h29 <| mv rfl <| RT.done ?_
 obtain rfl := O h
 exact AThen.n ⟨(x29, k10, x28), hG8 _ rfl, wR [(302, 28)]⟩
 subst hx8
 obtain ⟨b9_0e7, r302e7⟩ := xe8
 try dsimp only
 refine AThen.n <| sr <| mo (s := .row _) rfl <| mo (s := .clo _ _) rfl ?_
 obtain ⟨⟨x32, k12⟩, h32, ho8⟩ := bS ho8
 refine cB (whole_carrier_1_ok h32) 9 rfl ⟨rfl, trivial⟩ <| bl (l := [x32]) (e := eU32) (.one rfl (.nil)) rfl rfl rfl rfl rfl rfl <| bE ho8 fun x34 h34 ho8 => RT.apIR (k := [x32]) (e := eU32) .none rfl rfl rfl T rfl T h34 <| ag rfl <| dn <| ok_ret ?_
 obtain rfl := O ho8
 exact R1 rfl
theorem whole_shiftLeftN_ok {x0 : List Nat} {x1 : Nat} {r : List Nat} (h : whole_shiftLeftN_m x0 x1 = some r) : NewC Try.prog 110 [slc 1 (List.map eU32 x0), .v (.int .u64 ((x1 : Nat) : Int))] (TR 80 1 eU32 r) := by
 refine newC_of_ok Try.func110 rfl (Nat.le_of_ble_eq_true rfl) (fun wld M vs hvs => ?_)
 unfold whole_shiftLeftN_m at h
 refine sr <| ag rfl <| dn <| ok_weak (weak_nil 4 304 80 1 rfl rfl T) <| sr <| RT.callF .none (whole_carrier_ok 0) rfl ⟨rfl, trivial⟩ T rfl rfl <| an (s := .clo _ _) rfl <| dn <| sr <| mv rfl <| lE h fun x11 h11 h => ln rfl h11 <| lE h fun x12 h12 h => ad _ rfl rfl h12 <| bE h fun x13 h13 h => RT.mkEmp (e := eU32) .none rfl rfl T rfl T h13 <| an (s := .row _) rfl <| dn <| qq <| sr <| mv rfl <| lE h fun x15 h15 h => ln rfl h15 ?_
 refine mv rfl <| dn <| bE h fun e8 hl8 ho8 => ?_
 refine ok_tailP (fun (xe8 : Nat × (List Nat)) => AS.mkL 35 [(5, .clo 113 [.box 9]), (6, .row 306)] [(9, ⟨100, [.sv (.v (.int .u64 ((xe8.1 : Nat) : Int)))]⟩)] [(306, TR 80 1 eU32 xe8.2)]) (fun xe8 => xe8 = e8) ?_ (fun xe8 hx8 => ?_)
 refine ok_block ?_
 refine ok_loopM hl8 (fun s8 => AS.mkL 35 [(1, .sv (.v (.int .u64 ((x1 : Nat) : Int)))), (5, .clo 113 [.box 9]), (6, .row 306), (14, .sv (slc 1 (List.map eU32 x0))), (15, .sv (.v (.int .i64 x15))), (16, .sv (.v (.int .i64 s8.1)))] [(9, ⟨100, [.sv (.v (.int .u64 ((s8.2.1 : Nat) : Int)))]⟩)] [(306, TR 80 1 eU32 s8.2.2)]) (wR [(306, 13)]) (fun s8 y8 G8 h hG8 hE8 => ?_)
 obtain ⟨y16l4, b9_0l4, r306l4⟩ := s8
 try dsimp only
 refine sr <| lE h fun x17 h17 h => ls _ rfl rfl h17 <| dn <| qq ?_
 cases x17
 refine cF <| ok_exit <| AThen.x <| AThen.x <| AInB.x <| AThen.n ?_
 obtain rfl := O (F h)
 exact ⟨(b9_0l4, r306l4), hE8 _ rfl, wR []⟩
 refine cT <| ok_skip <| AThen.n <| qq <| ok_block <| sr <| bE (V h) fun x18 h18 h => ix rfl rfl h18 <| lr rfl rfl <| ag rfl <| dn <| ok_region <| mo (s := .row _) rfl <| mo (s := .clo _ _) rfl <| mv rfl <| lE h fun x23 h23 h => cv _ rfl (UK.nat h23) <| mv rfl <| lE h fun x25 h25 h => RT.shl .none _ rfl rfl T (Int.natCast_nonneg _) (UK.shl (a := x23) (q := ((x1 : Nat) : Int)) (s := min x1 64) rfl h25) ?_
 obtain ⟨⟨x26, k10⟩, h26, h⟩ := bS h
 refine cB (whole_carrier_1_ok h26) 9 rfl ⟨rfl, trivial⟩ <| bl (l := [x26]) (e := eU32) (.one rfl (.nil)) rfl rfl rfl rfl rfl rfl <| bE h fun x28 h28 h => aR (k := [x26]) (e := eU32) rfl rfl rfl h28 <| an (s := .row _) rfl <| RT.done <| AInB.n <| AThen.n <| ok_region <| lE h fun x29 h29 h => ad _ rfl rfl h29 <| mv rfl <| RT.done ?_
 obtain rfl := O h
 exact AThen.n ⟨(x29, k10, x28), hG8 _ rfl, wR [(306, 28)]⟩
 subst hx8
 obtain ⟨b9_0e7, r306e7⟩ := xe8
 try dsimp only
 refine AThen.n <| sr <| mo (s := .row _) rfl <| mo (s := .clo _ _) rfl ?_
 obtain ⟨⟨x32, k12⟩, h32, ho8⟩ := bS ho8
 refine cB (whole_carrier_1_ok h32) 9 rfl ⟨rfl, trivial⟩ <| bl (l := [x32]) (e := eU32) (.one rfl (.nil)) rfl rfl rfl rfl rfl rfl <| bE ho8 fun x34 h34 ho8 => aR (k := [x32]) (e := eU32) rfl rfl rfl h34 <| an (s := .row _) rfl <| dn <| ok_ret ?_
 obtain rfl := O ho8
 exact ⟨.inr rfl, _, .tmp rfl, rfl⟩
theorem math_bits_Len32_ok {x0 : Nat} {r : Int} (h : math_bits_Len32_m x0 = some r) : Pure Try.prog 118 [.v (.int .u32 ((x0 : Nat) : Int))] (.v (.int .i64 r)) := by
 refine pure_of_ok Try.func118 rfl (Nat.le_of_ble_eq_true rfl) (fun wld M vs hvs => ?_)
 unfold math_bits_Len32_m at h
 refine sr <| ag rfl <| dn <| qq <| sr <| mv rfl <| lE h fun x4 h4 h => ge _ rfl rfl (leN (p := 65536) (q := x0) h4) <| dn ?_
 refine ok_tailJ h (fun j2 => AS.mkL 19 [(0, .sv (.v (.int .u32 ((j2.1 : Nat) : Int)))), (2, .sv (.v (.int .i64 j2.2)))] [] []) (fun h => ?_) (fun j2 h => ?_)
 cases x4
 exact fs <| ⟨(x0, 0), (F h), wR []⟩
 exact cT <| sr <| mv rfl <| lE (V h) fun x6 h6 h => RT.shr .none _ rfl rfl T (by decide) (shrU (k := .u32) (a := x0) (q := 16) (s := 16) rfl h6) <| ag rfl <| dn <| ok_region <| ag rfl <| dn <| ⟨(x6, 16), h, wR []⟩
 obtain ⟨y0j1, y2j1⟩ := j2
 try dsimp only
 refine AThen.n <| qq <| sr <| mv rfl <| lE h fun x8 h8 h => ge _ rfl rfl (leN (p := 256) (q := y0j1) h8) <| dn ?_
 refine ok_tailJ h (fun j4 => AS.mkL 19 [(0, .sv (.v (.int .u32 ((j4.1 : Nat) : Int)))), (2, .sv (.v (.int .i64 j4.2)))] [] []) (fun h => ?_) (fun j4 h => ?_)
 cases x8
 exact fs <| ⟨(y0j1, y2j1), (F h), wR []⟩
 exact cT <| sr <| mv rfl <| lE (V h) fun x10 h10 h => RT.shr .none _ rfl rfl T (by decide) (shrU (k := .u32) (a := y0j1) (q := 8) (s := 8) rfl h10) <| ag rfl <| dn <| ok_region <| mv rfl <| lE h fun x12 h12 h => ad _ rfl rfl h12 <| ag rfl <| dn <| ⟨(x10, x12), h, wR []⟩
 obtain ⟨y0j3, y2j3⟩ := j4
 try dsimp only
 refine AThen.n <| sr <| mv rfl <| mv rfl <| lE h fun x15 h15 h => cv _ rfl (UK.nat h15) <| bE h fun x16 h16 h => ?_
 refine RT.six (l := [0, 1, 2, 2, 3, 3, 3, 3, 4, 4, 4, 4, 4, 4, 4, 4, 5, 5, 5, 5, 5, 5, 5, 5, 5, 5, 5, 5, 5, 5, 5, 5, 6, 6, 6, 6, 6, 6, 6, 6, 6, 6, 6, 6, 6, 6, 6, 6, 6, 6, 6, 6, 6, 6, 6, 6, 6, 6, 6, 6, 6, 6, 6, 6, 7, 7, 7, 7, 7, 7, 7, 7, 7, 7, 7, 7, 7, 7, 7, 7, 7, 7, 7, 7, 7, 7, 7, 7, 7, 7, 7, 7, 7, 7, 7, 7, 7, 7, 7, 7, 7, 7, 7, 7, 7, 7, 7, 7, 7, 7, 7, 7, 7, 7, 7, 7, 7, 7, 7, 7, 7, 7, 7, 7, 7, 7, 7, 7, 8, 8, 8, 8, 8, 8, 8, 8, 8, 8, 8, 8, 8, 8, 8, 8, 8, 8, 8, 8, 8, 8, 8, 8, 8, 8, 8, 8, 8, 8, 8, 8, 8, 8, 8, 8, 8, 8, 8, 8, 8, 8, 8, 8, 8, 8, 8, 8, 8, 8, 8, 8, 8, 8, 8, 8, 8, 8, 8, 8, 8, 8, 8, 8, 8, 8, 8, 8, 8, 8, 8, 8, 8, 8, 8, 8, 8, 8, 8, 8, 8, 8, 8, 8, 8, 8, 8, 8, 8, 8, 8, 8, 8, 8, 8, 8, 8, 8, 8, 8, 8, 8, 8, 8, 8, 8, 8, 8, 8, 8, 8, 8, 8, 8, 8, 8, 8, 8, 8, 8, 8, 8, 8, 8, 8, 8, 8, 8]) .none rfl rfl T h16 ?_
 refine lE h fun x17 h17 h => cv _ rfl h17 <| lE h fun x18 h18 h => ad _ rfl rfl h18 <| ag rfl <| dn <| ok_ret ?_
 obtain rfl := O h
 exact R1 rfl
theorem math_bits_LeadingZeros32_ok {x0 : Nat} {r : Int} (h : math_bits_LeadingZeros32_m x0 = some r) : Pure Try.prog 109 [.v (.int .u32 ((x0 : Nat) : Int))] (.v (.int .i64 r)) := by
 refine pure_of_ok Try.func109 rfl (Nat.le_of_ble_eq_true rfl) (fun wld M vs hvs => ?_)
 unfold math_bits_LeadingZeros32_m at h
 refine sr <| ag rfl <| dn <| sr <| mv rfl <| bE h fun x4 h4 h => cl (math_bits_Len32_ok h4) ⟨rfl, trivial⟩ <| lE h fun x5 h5 h => sb _ rfl rfl h5 <| ag rfl <| dn <| ok_ret ?_
 obtain rfl := O h
 exact R1 rfl
theorem whole_estimate_ok {x0 : List Nat} {o0 : Nat} {n0 : Nat} {x1 : List Nat} {r : Nat × List Nat} (h : whole_estimate_m x0 o0 n0 x1 = some r) : RowC Try.prog 111 [.rsl 1000 (o0 * 1) n0, .sv (slc 1 (List.map eU32 x1))] (TR 80 1 eU32 x0) (.sv (.v (.int .u64 ((r.1 : Nat) : Int)))) (List.flatMap eU32 r.2) := by
 refine rowC_of_ok Try.func111 rfl (Nat.le_of_ble_eq_true rfl) rfl rfl (fun wld M v0 => ?_)
 unfold whole_estimate_m at h
 refine sr <| ag rfl <| dn <| sr <| mv rfl <| lE h fun x12 h12 h => ln rfl h12 <| ag rfl <| dn <| qq <| ok_region_draw mixed <| mo (s := .rsl _ _ _) rfl <| mv rfl <| bE h fun x15 h15 h => RT.ixRsM .none rfl rfl T h15 <| bE h fun x16 h16 h => lR rfl rfl h16 rfl <| lE h fun x17 h17 h => cv _ rfl (UK.nat h17) <| lE h fun x18 h18 h => RT.shl .none _ rfl rfl T (by decide) (UK.shl (a := x17) (q := 32) (s := 32) rfl h18) <| mo (s := .rsl _ _ _) rfl ?_
 refine mv rfl <| lE h fun x21 h21 h => sb _ rfl rfl h21 <| bE h fun x22 h22 h => RT.ixRsM .none rfl rfl T h22 <| bE h fun x23 h23 h => lR rfl rfl h23 rfl <| lE h fun x24 h24 h => cv _ rfl (UK.nat h24) <| lE h fun x25 h25 h => RT.or .none _ rfl rfl T (UK.or (a := x18) (b := x24) h25) <| ag rfl ?_
 refine RT.done ⟨by kernel_rfl, ?_⟩
 refine AThen.n <| qq <| ok_region_draw mixed <| mv rfl <| mv rfl <| lE h fun x28 h28 h => sb _ rfl rfl h28 <| bE h fun x29 h29 h => ix rfl rfl h29 <| lr rfl rfl <| lE h fun x31 h31 h => cv _ rfl (UK.nat h31) <| mv rfl <| mv rfl <| lE h fun x34 h34 h => sb _ rfl rfl h34 <| bE h fun x35 h35 h => ix rfl rfl h35 <| lr rfl rfl <| lE h fun x37 h37 h => cv _ rfl (UK.nat h37) <| ag rfl <| ag rfl ?_
 refine RT.done ⟨by kernel_rfl, ?_⟩
 refine AThen.n <| qq <| ok_region_draw mixed <| mv rfl <| mv rfl <| bE h fun x40 h40 h => RT.quo .none _ rfl rfl T (nzU h40) (UK.quo h40) <| mv rfl <| mv rfl <| bE h fun x43 h43 h => RT.rem .none _ rfl rfl T (nzR h43) (remU h43) <| ag rfl <| ag rfl ?_
 refine RT.done ⟨by kernel_rfl, ?_⟩
 refine AThen.n <| qq <| bE h fun e10 hl10 ho10 => ?_
 refine ok_tailP (fun (y9e9 : Nat) => AS.mkL 71 [(9, .sv (.v (.int .u64 ((y9e9 : Nat) : Int))))] [] [(1000, TR 80 1 eU32 x0)]) (fun y9e9 => y9e9 = e10) ?_ (fun y9e9 hx10 => ?_)
 refine ok_block ?_
 refine ok_loopM hl10 (fun s10 => AS.mkL 71 [(0, .rsl 1000 (o0 * 1) n0), (5, .sv (.v (.int .i64 x12))), (7, .sv (.v (.int .u64 ((x31 : Nat) : Int)))), (8, .sv (.v (.int .u64 ((x37 : Nat) : Int)))), (9, .sv (.v (.int .u64 ((s10.1 : Nat) : Int)))), (10, .sv (.v (.int .u64 ((s10.2 : Nat) : Int))))] [] [(1000, TR 80 1 eU32 x0)]) (wR []) (fun s10 y10 G10 h hG10 hE10 => ?_)
 obtain ⟨y9l5, y10l5⟩ := s10
 try dsimp only
 refine qq <| qq ?_
 refine ok_tailJ h (fun j13 => AS.mkL 71 [(0, .rsl 1000 (o0 * 1) n0), (5, .sv (.v (.int .i64 x12))), (7, .sv (.v (.int .u64 ((x31 : Nat) : Int)))), (8, .sv (.v (.int .u64 ((x37 : Nat) : Int)))), (9, .sv (.v (.int .u64 ((y9l5 : Nat) : Int)))), (10, .sv (.v (.int .u64 ((y10l5 : Nat) : Int)))), (61, .sv (.v (.bool j13)))] [] [(1000, TR 80 1 eU32 x0)]) (fun h => ?_) (fun y61j12 h => ?_)
 refine ok_region <| mv rfl <| lE h fun x45 h45 h => RT.shr .none _ rfl rfl T (by decide) (shrU (k := .u64) (a := y9l5) (q := 32) (s := 32) rfl h45) <| lE h fun x46 h46 h => ne _ rfl rfl (neN (p := x45) (q := 0) h46) <| mv rfl <| bE h fun c61_14 hg14 h => ?_
 cases x46
 refine gm rfl <| gm rfl <| lE (F hg14) fun x50 h50 hg14 => RT.mul (.some rfl rfl) _ rfl rfl T (UK.mul (a := y9l5) (b := x37) h50) <| gm rfl <| lE hg14 fun x52 h52 hg14 => RT.shl (.some rfl rfl) _ rfl rfl T (by decide) (UK.shl (a := y10l5) (q := 32) (s := 32) rfl h52) <| RT.move (.some rfl rfl) (s := .rsl _ _ _) rfl T <| gm rfl <| lE hg14 fun x55 h55 hg14 => RT.sub (.some rfl rfl) _ rfl rfl T h55 <| bE hg14 fun x56 h56 hg14 => RT.ixRsM (.some rfl rfl) rfl rfl T h56 <| bE hg14 fun x57 h57 hg14 => RT.ldRM (.some rfl rfl) rfl rfl h57 rfl T ?_
 refine lE hg14 fun x58 h58 hg14 => RT.conv (.some rfl rfl) _ rfl T (UK.nat h58) <| lE hg14 fun x59 h59 hg14 => RT.or (.some rfl rfl) _ rfl rfl T (UK.or (a := x52) (b := x58) h59) <| lE hg14 fun x60 h60 hg14 => gg _ rfl rfl (ltN (p := x59) (q := x50) h60) ?_
 obtain rfl := O hg14
 exact pF rfl <| dn <| ⟨x60, h, wR []⟩
 obtain rfl := O (V hg14)
 exact ww <| ww <| ww <| ww <| ww <| ww <| ww <| ww <| ww <| ww <| ww <| ww <| ww <| pT rfl <| dn <| ⟨true, h, wR []⟩
 try dsimp only
 refine AThen.n ?_
 cases y61j12
 refine cF <| ok_exit <| AThen.x <| AThen.x <| AInB.x <| AThen.n ?_
 obtain rfl := O (F h)
 exact ⟨y9l5, hE10 _ rfl, wR []⟩
 refine cT <| ok_skip <| AThen.n <| ok_block <| sr <| mv rfl <| lE (V h) fun x63 h63 h => sb _ rfl rfl (UK.sub (a := y9l5) (b := 1) h63) <| ag rfl <| dn <| sr <| mv rfl <| mv rfl <| lE h fun x66 h66 h => ad _ rfl rfl (UK.add (a := y10l5) (b := x31) h66) <| ag rfl <| dn <| sr <| mv rfl <| lE h fun x68 h68 h => RT.shr .none _ rfl rfl T (by decide) (shrU (k := .u64) (a := x66) (q := 32) (s := 32) rfl h68) <| lE h fun x69 h69 h => ne _ rfl rfl (neN (p := x68) (q := 0) h69) ?_
 refine dn ?_
 cases x69
 refine cF <| ok_skip <| AInB.n ?_
 obtain rfl := O (F h)
 exact AThen.n ⟨(x63, x66), hG10 _ rfl, wR []⟩
 refine cT <| ok_exit <| AInB.y (by decide) <| AThen.x <| AInB.x <| AThen.n ?_
 obtain rfl := O (V h)
 exact ⟨x63, hE10 _ rfl, wR []⟩
 subst hx10
 try dsimp only
 refine AThen.n <| sr <| mv rfl <| ag rfl <| dn <| ok_ret <| bE ho10 fun _ hle ho10 => ?_
 obtain rfl := O ho10
 exact ⟨.inr rfl, .sv (res_imp (.tmp rfl (.nil)) (SV.imp_refl _)), (by show _ = RSt.live ⟨80, 1, x0.length, List.flatMap eU32 x0⟩; rw [← eqLen_some hle]; rfl)⟩
theorem whole_subtractMultiple_ok {x0 : List Nat} {o0 : Nat} {n0 : Nat} {x1 : List Nat} {x2 : Nat} {r : Bool × List Nat} (h : whole_subtractMultiple_m x0 o0 n0 x1 x2 = some r) : RowC Try.prog 112 [.rsl 1000 (o0 * 1) n0, .sv (slc 1 (List.map eU32 x1)), .sv (.v (.int .u64 ((x2 : Nat) : Int)))] (TR 80 1 eU32 x0) (.sv (.v (.bool r.1))) (List.flatMap eU32 r.2) := by
 refine rowC_of_ok Try.func112 rfl (Nat.le_of_ble_eq_true rfl) rfl rfl (fun wld M v0 => ?_)
 unfold whole_subtractMultiple_m at h
 refine sr <| ag rfl <| dn <| sr <| ag rfl <| dn <| sr <| RT.callF .none (whole_carrier_ok 0) rfl ⟨rfl, trivial⟩ T rfl rfl <| an (s := .clo _ _) rfl <| dn <| qq <| sr <| mo (s := .rsl _ _ _) rfl <| lE h fun x14 h14 h => RT.lenRsM .none rfl T h14 <| mv rfl <| dn <| bE h fun e12 hl12 ho12 => ?_
 refine ok_tailP (fun (xe12 : Nat × (List Nat)) => AS.mkL 51 [(7, .sv (.v (.int .u64 ((xe12.1 : Nat) : Int))))] [] [(1000, TR 80 1 eU32 xe12.2)]) (fun xe12 => xe12 = e12) ?_ (fun xe12 hx12 => ?_)
 refine ok_block ?_
 refine ok_loopM hl12 (fun s12 => AS.mkL 51 [(0, .rsl 1000 (o0 * 1) n0), (1, .sv (slc 1 (List.map eU32 x1))), (2, .sv (.v (.int .u64 ((x2 : Nat) : Int)))), (7, .sv (.v (.int .u64 ((s12.1 : Nat) : Int)))), (8, .clo 113 [.box 12]), (14, .sv (.v (.int .i64 x14))), (15, .sv (.v (.int .i64 s12.2.1)))] [(12, ⟨100, [.sv (.v (.int .u64 ((s12.2.2.1 : Nat) : Int)))]⟩)] [(1000, TR 80 1 eU32 s12.2.2.2)]) (wR []) (fun s12 y12 G12 h hG12 hE12 => ?_)
 obtain ⟨y7l6, y15l6, b12_0l6, r1000l6⟩ := s12
 try dsimp only
 refine sr <| lE h fun x16 h16 h => ls _ rfl rfl h16 <| dn <| qq ?_
 cases x16
 refine cF <| ok_exit <| AThen.x <| AThen.x <| AInB.x <| AThen.n ?_
 obtain rfl := O (F h)
 exact ⟨(y7l6, r1000l6), hE12 _ rfl, wR []⟩
 refine cT <| ok_skip <| AThen.n <| qq <| ok_block <| sr <| mv rfl <| ag rfl <| dn <| sr <| ag rfl <| dn <| qq <| sr <| mv rfl <| mv rfl <| lE (V h) fun x20 h20 h => ln rfl h20 <| lE h fun x21 h21 h => ls _ rfl rfl h21 <| dn ?_
 refine ok_tailJ h (fun j14 => AS.mkL 51 [(0, .rsl 1000 (o0 * 1) n0), (1, .sv (slc 1 (List.map eU32 x1))), (2, .sv (.v (.int .u64 ((x2 : Nat) : Int)))), (7, .sv (.v (.int .u64 ((y7l6 : Nat) : Int)))), (8, .clo 113 [.box 12]), (9, .sv (.v (.int .i64 y15l6))), (10, .sv (.v (.int .u64 ((j14 : Nat) : Int)))), (14, .sv (.v (.int .i64 x14))), (15, .sv (.v (.int .i64 y15l6)))] [(12, ⟨100, [.sv (.v (.int .u64 ((b12_0l6 : Nat) : Int)))]⟩)] [(1000, TR 80 1 eU32 r1000l6)]) (fun h => ?_) (fun y10j13 h => ?_)
 cases x21
 exact fs <| ⟨0, (F h), wR []⟩
 exact cT <| ok_region <| mv rfl <| mv rfl <| bE (V h) fun x24 h24 h => ix rfl rfl h24 <| lr rfl rfl <| lE h fun x26 h26 h => cv _ rfl (UK.nat h26) <| mv rfl <| lE h fun x28 h28 h => RT.mul .none _ rfl rfl T (UK.mul (a := x26) (b := x2) h28) <| ag rfl <| dn <| ⟨x28, h, wR []⟩
 try dsimp only
 refine AThen.n <| qq <| ok_region_draw mixed <| mo (s := .rsl _ _ _) rfl <| mv rfl <| bE h fun x31 h31 h => RT.ixRsM .none rfl rfl T h31 <| bE h fun x32 h32 h => lR rfl rfl h32 rfl <| lE h fun x33 h33 h => cv _ rfl (UK.nat h33) <| mo (s := .clo _ _) rfl <| mv rfl ?_
 obtain ⟨⟨x36, k16⟩, h36, h⟩ := bS h
 refine cB (whole_carrier_1_ok h36) 12 rfl ⟨rfl, trivial⟩ <| lE h fun x37 h37 h => cv _ rfl (UK.nat h37) <| lE h fun x38 h38 h => sb _ rfl rfl (UK.sub (a := x33) (b := x37) h38) <| mv rfl <| lE h fun x40 h40 h => sb _ rfl rfl (UK.sub (a := x38) (b := y7l6) h40) <| ag rfl ?_
 refine RT.done ⟨by kernel_rfl, ?_⟩
 refine AThen.n <| sr <| mo (s := .rsl _ _ _) rfl <| mv rfl <| mv rfl <| lE h fun x44 h44 h => cv _ rfl (UK.nat h44) <| bE h fun x45 h45 h => RT.ixRsM .none rfl rfl T h45 <| bE h fun l18 hl18_ h => sR x44 rfl rfl rfl rfl hl18_ <| dn <| ok_region <| mv rfl <| lE h fun x47 h47 h => RT.shr .none _ rfl rfl T (by decide) (shrU (k := .u64) (a := x40) (q := 63) (s := 63) rfl h47) <| ag rfl <| RT.done <| AInB.n <| AThen.n <| ok_region <| lE h fun x48 h48 h => ad _ rfl rfl h48 <| mv rfl <| RT.done ?_
 obtain rfl := O h
 exact AThen.n ⟨(x47, x48, k16, l18), hG12 _ rfl, wR []⟩
 subst hx12
 obtain ⟨y7e11, r1000e11⟩ := xe12
 try dsimp only
 refine AThen.n <| sr <| mv rfl <| lE ho12 fun x50 h50 ho12 => ne _ rfl rfl (neN (p := y7e11) (q := 0) h50) <| ag rfl <| dn <| ok_ret <| bE ho12 fun _ hle ho12 => ?_
 obtain rfl := O ho12
 exact ⟨.inr rfl, .sv (res_imp (.tmp rfl (.nil)) (SV.imp_refl _)), (by show _ = RSt.live ⟨80, 1, x0.length, List.flatMap eU32 r1000e11⟩; rw [← eqLen_some hle]; rfl)⟩
set_option maxHeartbeats 4000000 in
theorem whole_longDiv_ok {x0 : List Nat} {x1 : List Nat} {r : (List Nat) × (List Nat)} (h : whole_longDiv_m x0 x1 = some r) : Pure Try.prog 91 [slc 1 (List.map eU32 x0), slc 1 (List.map eU32 x1)] (.tup [slc 1 (List.map eU32 r.1), slc 1 (List.map eU32 r.2)]) := by
 refine pure_of_ok Try.func91 rfl (Nat.le_of_ble_eq_true rfl) (fun wld M vs hvs => ?_)
 unfold whole_longDiv_m at h
 refine sr <| ag rfl <| ag rfl <| dn <| ok_weak (weak_nil 4 306 80 1 rfl rfl T) <| ok_weak (weak_nil 5 308 80 1 rfl rfl T) <| sr <| mv rfl <| lE h fun x17 h17 h => ln rfl h17 <| ag rfl <| dn <| sr <| mv rfl <| mv rfl <| lE h fun x20 h20 h => sb _ rfl rfl h20 <| bE h fun x21 h21 h => ix rfl rfl h21 <| lr rfl rfl <| bE h fun x23 h23 h => cl (math_bits_LeadingZeros32_ok h23) ⟨rfl, trivial⟩ ?_
 refine lE h fun x24 h24 h => cv _ rfl (UK.conv h24) <| ag rfl <| dn <| qq <| ok_region_draw mixed <| mv rfl <| mv rfl <| bE h fun x27 h27 h => cN (whole_shiftLeftN_ok h27) ⟨rfl, rfl, trivial⟩ <| mv rfl <| mv rfl <| bE h fun x30 h30 h => cl (whole_shiftLeft_ok h30) ⟨rfl, rfl, trivial⟩ <| mv rfl <| bE h fun x32 h32 h => RT.sliceM .none 0 x17 rfl rfl ⟨_, rfl⟩ T h32 <| an (s := .row _) rfl <| ag rfl ?_
 refine RT.done ⟨by kernel_rfl, ?_⟩
 refine AThen.n <| sr <| mv rfl <| lE h fun x34 h34 h => ln rfl h34 <| mv rfl <| lE h fun x36 h36 h => sb _ rfl rfl h36 <| lE h fun x37 h37 h => ad _ rfl rfl h37 <| bE h fun x38 h38 h => RT.mkRow (n := 1) (e := eU32) .none rfl rfl T rfl T (by rfl) (by decide) (by exact ⟨SV.imp_refl _, trivial⟩) h38 <| an (s := .row _) rfl <| dn <| qq <| sr <| mv rfl <| lE h fun x40 h40 h => ln rfl h40 <| mv rfl <| lE h fun x42 h42 h => sb _ rfl rfl h42 ?_
 refine ag rfl <| dn <| bE h fun e36 hl36 ho36 => ?_
 refine ok_tailP (fun (xe36 : (List Nat) × (List Nat)) => AS.mkL 141 [(4, .row 38), (6, .sv (.v (.int .i64 x17))), (7, .sv (.v (.int .u64 ((x24 : Nat) : Int)))), (8, .row 27)] [] [(38, TR 80 1 eU32 xe36.1), (27, TR 80 1 eU32 xe36.2)]) (fun xe36 => xe36 = e36) ?_ (fun xe36 hx36 => ?_)
 refine ok_block ?_
 refine ok_loopM hl36 (fun s36 => AS.mkL 141 [(4, .row 38), (6, .sv (.v (.int .i64 x17))), (7, .sv (.v (.int .u64 ((x24 : Nat) : Int)))), (8, .row 27), (9, .sv (slc 1 (List.map eU32 x32))), (10, .sv (.v (.int .i64 s36.1)))] [] [(38, TR 80 1 eU32 s36.2.1), (27, TR 80 1 eU32 s36.2.2)]) (wR []) (fun s36 y36 G36 h hG36 hE36 => ?_)
 obtain ⟨y10l18, r38l18, r27l18⟩ := s36
 try dsimp only
 refine qq <| sr <| mv rfl <| lE h fun x44 h44 h => ge _ rfl rfl h44 <| dn ?_
 cases x44
 refine cF <| ok_exit <| AThen.x <| AThen.x <| AInB.x <| AThen.n ?_
 obtain rfl := O (F h)
 exact ⟨(r38l18, r27l18), hE36 _ rfl, wR []⟩
 refine cT <| ok_skip <| AThen.n <| qq <| ok_block <| sr <| mo (s := .row _) rfl <| mv rfl <| mv rfl <| mv rfl <| lE (V h) fun x51 h51 h => ad _ rfl rfl h51 <| lE h fun x52 h52 h => ad _ rfl rfl h52 ?_
 obtain ⟨⟨o53, n53⟩, h53, h⟩ := bS h
 refine RT.slRM .none y10l18 x52 rfl rfl ⟨_, rfl⟩ ⟨_, rfl⟩ T h53 <| mv rfl ?_
 obtain ⟨⟨x55, l38⟩, h55, h⟩ := bS h
 refine bE h fun _ he38 h => cR (l := r27l18) (l' := l38) (e := eU32) (whole_estimate_ok h55) (eqLen_some he38) 27 rfl (.cons rfl (.cons rfl (.nil))) <| ag rfl <| dn <| qq <| sr <| mo (s := .row _) rfl <| mv rfl <| mv rfl <| mv rfl <| lE h fun x60 h60 h => ad _ rfl rfl h60 <| lE h fun x61 h61 h => ad _ rfl rfl h61 ?_
 obtain ⟨⟨o62, n62⟩, h62, h⟩ := bS h
 refine RT.slRM .none y10l18 x61 rfl rfl ⟨_, rfl⟩ ⟨_, rfl⟩ T h62 <| mv rfl <| mv rfl ?_
 obtain ⟨⟨x65, l40⟩, h65, h⟩ := bS h
 refine bE h fun _ he40 h => cR (l := l38) (l' := l40) (e := eU32) (whole_subtractMultiple_ok h65) (eqLen_some he40) 27 rfl (.cons rfl (.cons rfl (.cons rfl (.nil)))) <| dn ?_
 refine ok_tailJ h (fun j53 => AS.mkL 141 [(4, .row 38), (6, .sv (.v (.int .i64 x17))), (7, .sv (.v (.int .u64 ((x24 : Nat) : Int)))), (8, .row 27), (9, .sv (slc 1 (List.map eU32 x32))), (10, .sv (.v (.int .i64 y10l18))), (11, .sv (.v (.int .u64 ((j53.1 : Nat) : Int))))] [] [(38, TR 80 1 eU32 r38l18), (27, TR 80 1 eU32 j53.2)]) (fun h => ?_) (fun j53 h => ?_)
 cases x65
 exact fs <| ⟨(x55, l40), (F h), wR []⟩
 refine cT <| sr <| mv rfl <| lE (V h) fun x67 h67 h => sb _ rfl rfl (UK.sub (a := x55) (b := 1) h67) <| ag rfl <| dn <| sr <| RT.callF .none (whole_carrier_ok 0) rfl ⟨rfl, trivial⟩ T rfl rfl <| an (s := .clo _ _) rfl <| dn <| qq <| sr <| mv rfl <| lE h fun x70 h70 h => ln rfl h70 <| mv rfl <| dn <| bE h fun e65 hl65 ho65 => ?_
 refine ok_tailP (fun (xe65 : Nat × (List Nat)) => AS.mkL 141 [(4, .row 38), (6, .sv (.v (.int .i64 x17))), (7, .sv (.v (.int .u64 ((x24 : Nat) : Int)))), (8, .row 27), (9, .sv (slc 1 (List.map eU32 x32))), (10, .sv (.v (.int .i64 y10l18))), (11, .sv (.v (.int .u64 ((x67 : Nat) : Int)))), (12, .clo 113 [.box 68])] [(68, ⟨100, [.sv (.v (.int .u64 ((xe65.1 : Nat) : Int)))]⟩)] [(38, TR 80 1 eU32 r38l18), (27, TR 80 1 eU32 xe65.2)]) (fun xe65 => xe65 = e65) ?_ (fun xe65 hx65 => ?_)
 refine ok_block ?_
 refine ok_loopM hl65 (fun s65 => AS.mkL 141 [(4, .row 38), (6, .sv (.v (.int .i64 x17))), (7, .sv (.v (.int .u64 ((x24 : Nat) : Int)))), (8, .row 27), (9, .sv (slc 1 (List.map eU32 x32))), (10, .sv (.v (.int .i64 y10l18))), (11, .sv (.v (.int .u64 ((x67 : Nat) : Int)))), (12, .clo 113 [.box 68]), (69, .sv (slc 1 (List.map eU32 x32))), (70, .sv (.v (.int .i64 x70))), (71, .sv (.v (.int .i64 s65.1)))] [(68, ⟨100, [.sv (.v (.int .u64 ((s65.2.1 : Nat) : Int)))]⟩)] [(38, TR 80 1 eU32 r38l18), (27, TR 80 1 eU32 s65.2.2)]) (wR []) (fun s65 y65 G65 h hG65 hE65 => ?_)
 obtain ⟨y71l60, b68_0l60, r27l60⟩ := s65
 try dsimp only
 refine sr <| lE h fun x72 h72 h => ls _ rfl rfl h72 <| dn <| qq ?_
 cases x72
 refine cF <| ok_exit <| AThen.x <| AThen.x <| AInB.x <| AThen.n ?_
 obtain rfl := O (F h)
 exact ⟨(b68_0l60, r27l60), hE65 _ rfl, wR []⟩
 refine cT <| ok_skip <| AThen.n <| qq <| ok_block <| sr <| mv rfl <| bE (V h) fun x74 h74 h => ix rfl rfl h74 <| lr rfl rfl <| ag rfl <| ag rfl <| dn <| ok_region <| mo (s := .row _) rfl <| mv rfl <| mv rfl <| lE h fun x79 h79 h => ad _ rfl rfl h79 <| mo (s := .clo _ _) rfl <| mo (s := .row _) rfl <| mv rfl <| mv rfl <| lE h fun x84 h84 h => ad _ rfl rfl h84 <| bE h fun x85 h85 h => iR rfl rfl rfl h85 ?_
 refine bE h fun x86 h86 h => lR rfl rfl h86 rfl <| lE h fun x87 h87 h => cv _ rfl (UK.nat h87) <| mv rfl <| lE h fun x89 h89 h => cv _ rfl (UK.nat h89) <| lE h fun x90 h90 h => ad _ rfl rfl (UK.add (a := x87) (b := x89) h90) ?_
 obtain ⟨⟨x91, k68⟩, h91, h⟩ := bS h
 refine cB (whole_carrier_1_ok h91) 68 rfl ⟨rfl, trivial⟩ <| bE h fun x92 h92 h => iR rfl rfl rfl h92 <| bE h fun l69 hl69_ h => sR x91 rfl rfl rfl rfl hl69_ <| RT.done <| AInB.n <| AThen.n <| ok_region <| lE h fun x93 h93 h => ad _ rfl rfl h93 <| mv rfl <| RT.done ?_
 obtain rfl := O h
 exact AThen.n ⟨(x93, k68, l69), hG65 _ rfl, wR []⟩
 subst hx65
 obtain ⟨b68_0e64, r27e64⟩ := xe65
 try dsimp only
 refine AThen.n <| ok_region <| mo (s := .row _) rfl <| mv rfl <| mv rfl <| lE ho65 fun x97 h97 ho65 => ad _ rfl rfl h97 <| mo (s := .clo _ _) rfl <| mo (s := .row _) rfl <| mv rfl <| mv rfl <| lE ho65 fun x102 h102 ho65 => ad _ rfl rfl h102 <| bE ho65 fun x103 h103 ho65 => iR rfl rfl rfl h103 <| bE ho65 fun x104 h104 ho65 => lR rfl rfl h104 rfl <| lE ho65 fun x105 h105 ho65 => cv _ rfl (UK.nat h105) ?_
 obtain ⟨⟨x106, k72⟩, h106, ho65⟩ := bS ho65
 exact cB (whole_carrier_1_ok h106) 68 rfl ⟨rfl, trivial⟩ <| bE ho65 fun x107 h107 ho65 => iR rfl rfl rfl h107 <| bE ho65 fun l73 hl73_ ho65 => sR x106 rfl rfl rfl rfl hl73_ <| dn <| ⟨(x67, l73), ho65, wR []⟩
 obtain ⟨y11j52, r27j52⟩ := j53
 try dsimp only
 refine AThen.n <| ok_region <| mo (s := .row _) rfl <| mv rfl <| mv rfl <| lE h fun x111 h111 h => cv _ rfl (UK.nat h111) <| bE h fun x112 h112 h => iR rfl rfl rfl h112 <| bE h fun l55 hl55_ h => sR x111 rfl rfl rfl rfl hl55_ <| RT.done <| AInB.n <| AThen.n <| ok_region <| mv rfl <| lE h fun x46 h46 h => sb _ rfl rfl h46 <| ag rfl <| RT.done ?_
 obtain rfl := O h
 exact AThen.n ⟨(x46, l55, r27j52), hG36 _ rfl, wR []⟩
 subst hx36
 obtain ⟨r38e35, r27e35⟩ := xe36
 try dsimp only
 refine AThen.n <| sr <| mv rfl <| bE ho36 fun x114 h114 ho36 => RT.mkRow (n := 1) (e := eU32) .none rfl rfl T rfl T (by rfl) (by decide) (by exact ⟨SV.imp_refl _, trivial⟩) h114 <| an (s := .row _) rfl <| dn <| qq <| sr <| mv rfl <| mv rfl <| dn <| bE ho36 fun e81 hl81 ho81 => ?_
 refine ok_tailP (fun (r114e80 : (List Nat)) => AS.mkL 141 [(4, .row 38), (5, .row 114)] [] [(38, TR 80 1 eU32 r38e35), (114, TR 80 1 eU32 r114e80)]) (fun r114e80 => r114e80 = e81) ?_ (fun r114e80 hx81 => ?_)
 refine ok_block ?_
 refine ok_loopM hl81 (fun s81 => AS.mkL 141 [(4, .row 38), (5, .row 114), (7, .sv (.v (.int .u64 ((x24 : Nat) : Int)))), (8, .row 27), (115, .sv (.v (.int .i64 x17))), (116, .sv (.v (.int .i64 s81.1)))] [] [(38, TR 80 1 eU32 r38e35), (114, TR 80 1 eU32 s81.2), (27, TR 80 1 eU32 r27e35)]) (wR []) (fun s81 y81 G81 h hG81 hE81 => ?_)
 obtain ⟨y116l77, r114l77⟩ := s81
 try dsimp only
 refine sr <| lE h fun x117 h117 h => ls _ rfl rfl h117 <| dn <| qq ?_
 cases x117
 refine cF <| ok_exit <| AThen.x <| AThen.x <| AInB.x <| AThen.n ?_
 obtain rfl := O (F h)
 exact ⟨r114l77, hE81 _ rfl, wR []⟩
 refine cT <| ok_skip <| AThen.n <| qq <| ok_block <| sr <| mv rfl <| ag rfl <| dn <| ok_region_draw mixed <| mo (s := .row _) rfl <| mv rfl <| mo (s := .row _) rfl <| mv rfl <| bE (V h) fun x123 h123 h => iR rfl rfl rfl h123 <| bE h fun x124 h124 h => lR rfl rfl h124 rfl <| lE h fun x125 h125 h => cv _ rfl (UK.nat h125) <| mo (s := .row _) rfl <| mv rfl <| lE h fun x128 h128 h => ad _ rfl rfl h128 <| bE h fun x129 h129 h => ?_
 refine iR rfl rfl rfl h129 <| bE h fun x130 h130 h => lR rfl rfl h130 rfl <| lE h fun x131 h131 h => cv _ rfl (UK.nat h131) <| lE h fun x132 h132 h => RT.shl .none _ rfl rfl T (by decide) (UK.shl (a := x131) (q := 32) (s := 32) rfl h132) <| lE h fun x133 h133 h => RT.or .none _ rfl rfl T (UK.or (a := x125) (b := x132) h133) <| mv rfl <| lE h fun x135 h135 h => RT.shr .none _ rfl rfl T (Int.natCast_nonneg _) (shrU (k := .u64) (a := x133) (q := ((x24 : Nat) : Int)) (s := min x24 64) rfl h135) <| lE h fun x136 h136 h => cv _ rfl (UK.nat h136) ?_
 refine bE h fun x137 h137 h => iR rfl rfl rfl h137 <| bE h fun l83 hl83_ h => sR x136 rfl rfl rfl rfl hl83_ ?_
 refine RT.done ⟨by kernel_rfl, ?_⟩
 refine AInB.n <| AThen.n <| ok_region <| lE h fun x138 h138 h => ad _ rfl rfl h138 <| mv rfl <| RT.done ?_
 obtain rfl := O h
 exact AThen.n ⟨(x138, l83), hG81 _ rfl, wR []⟩
 subst hx81
 try dsimp only
 refine AThen.n <| sr <| mo (s := .row _) rfl <| mo (s := .row _) rfl <| an (s := .row _) rfl <| an (s := .row _) rfl <| dn <| ok_weak (weak_frzM (i := 38) (E1 := 80) (n := 1) (e := eU32) (l := r38e35) rfl) <| ok_weak (weak_frzM (i := 114) (E1 := 80) (n := 1) (e := eU32) (l := r114e80) rfl) <| ok_ret ?_
 obtain rfl := O ho81
 exact R2 rfl rfl
theorem whole_divWords_ok {x0 : List Nat} {x1 : List Nat} {r : (List Nat) × (List Nat)} (h : whole_divWords_m x0 x1 = some r) : Pure Try.prog 68 [slc 1 (List.map eU32 x0), slc 1 (List.map eU32 x1)] (.tup [slc 1 (List.map eU32 r.1), slc 1 (List.map eU32 r.2)]) := by
 refine pure_of_ok Try.func68 rfl (Nat.le_of_ble_eq_true rfl) (fun wld M vs hvs => ?_)
 unfold whole_divWords_m at h
 refine sr <| ag rfl <| aI rfl (imp_nil (n := 1) (e := eU32)) <| dn <| ok_weak (weak_nil 4 304 80 1 rfl rfl T) <| qq <| ok_block <| sr <| mv rfl <| mv rfl <| bE h fun x12 h12 h => cl (whole_compareWords_ok h12) ⟨rfl, rfl, trivial⟩ <| lE h fun x13 h13 h => ls _ rfl rfl h13 <| ag rfl <| dn ?_
 cases x13
 refine cF <| sr <| mv rfl <| lE (F h) fun x18 h18 h => ln rfl h18 <| lE h fun x19 h19 h => RT.leq .none _ rfl rfl T h19 <| ag rfl <| dn ?_
 cases x19
 refine cF <| sr <| mv rfl <| lE (F h) fun x36 h36 h => ln rfl h36 <| lE h fun x37 h37 h => eq _ rfl rfl (eqI (p := x36) (q := 1) h37) <| ag rfl <| dn ?_
 cases x37
 refine cF <| ok_skip <| AInB.n <| AThen.n <| sr <| mv rfl <| mv rfl ?_
 obtain ⟨⟨x52a, x52b⟩, h52, h⟩ := bS (F h)
 refine cl (whole_longDiv_ok h52) ⟨rfl, rfl, trivial⟩ <| ex rfl rfl <| ex rfl rfl <| ag rfl <| ag rfl <| dn <| ok_ret ?_
 obtain rfl := O h
 exact R2 rfl rfl
 refine cT <| sr <| mv rfl <| bE (V h) fun x39 h39 h => cN (slices_CloneN_ok h39) ⟨rfl, trivial⟩ <| an (s := .row _) rfl <| dn <| sr <| mo (s := .row _) rfl <| mv rfl <| bE h fun x42 h42 h => ix rfl rfl h42 <| lr rfl rfl <| lE h fun x44 h44 h => cv _ rfl (UK.nat h44) ?_
 obtain ⟨⟨x45, l5⟩, h45, h⟩ := bS h
 refine bE h fun _ he5 h => cR (l := x39) (l' := l5) (e := eU32) (whole_shortDiv_ok h45) (eqLen_some he5) 39 rfl (.cons rfl (.cons rfl (.nil))) <| ag rfl <| dn <| sr <| mo (s := .row _) rfl <| mv rfl <| lE h fun x48 h48 h => cv _ rfl (UK.nat h48) <| bl (l := [x48]) (e := eU32) (.one rfl (.nil)) rfl rfl rfl rfl rfl rfl <| an (s := .row _) rfl <| ag rfl <| dn <| ok_weak (weak_frzM (i := 39) (E1 := 80) (n := 1) (e := eU32) (l := l5) rfl) <| ok_ret ?_
 refine AInB.r <| AThen.r ?_
 obtain rfl := O h
 exact R2 rfl rfl
 refine cT <| sr <| mv rfl <| bE (V h) fun x21 h21 h => cl (whole_low_ok h21) ⟨rfl, trivial⟩ <| mv rfl <| bE h fun x23 h23 h => cl (whole_low_ok h23) ⟨rfl, trivial⟩ <| ag rfl <| ag rfl <| dn <| qq <| ok_region_draw mixed <| mv rfl <| mv rfl <| bE h fun x26 h26 h => RT.quo .none _ rfl rfl T (nzU h26) (UK.quo h26) ?_
 obtain ⟨⟨x27_0, x27_1⟩, h27, h⟩ := bS h
 refine cl (whole_small_ok h27) ⟨rfl, rfl, trivial⟩ <| fl rfl rfl <| mv rfl <| mv rfl <| bE h fun x31 h31 h => RT.rem .none _ rfl rfl T (nzR h31) (remU h31) ?_
 obtain ⟨⟨x32_0, x32_1⟩, h32, h⟩ := bS h
 refine cl (whole_small_ok h32) ⟨rfl, rfl, trivial⟩ <| fl rfl rfl <| ag rfl <| ag rfl ?_
 refine RT.done ⟨by kernel_rfl, ?_⟩
 refine AThen.n <| ok_ret <| AInB.r <| AThen.r ?_
 obtain rfl := O h
 exact R2 rfl rfl
 refine cT <| sr <| mv rfl <| bE (V h) fun x15 h15 h => cl (slices_Clone_ok h15) ⟨rfl, trivial⟩ <| ag rfl <| ag rfl <| dn <| ok_weak (weak_nil 4 310 80 1 rfl rfl T) <| ok_weak (weak_frzM (i := 310) (E1 := 80) (n := 1) (e := eU32) (l := []) rfl) <| ok_ret <| AInB.r <| AThen.r ?_
 obtain rfl := O h
 exact R2 rfl rfl
end Go.Proofs.Ytmiflmkdaeianaa
namespace Go.Proofs.Ytmiflmkdaeianaa
open Go.Fw Go.Fw.Z Go.RowKit
theorem whole_FromInt64_ok {x0 : Int} {r : Zr} (h : whole_FromInt64_m x0 = some r) : Pure Try.prog 35 [.v (.int .i64 x0)] (.agg (eZ r)) := by
 refine pure_of_ok Try.func35 rfl (Nat.le_of_ble_eq_true rfl) (fun wld M vs hvs => ?_)
 unfold whole_FromInt64_m at h
 refine sr <| al (cs := [.v (.bool false), slc 1 (List.map eU32 [])]) (by exact ⟨SV.imp_refl _, imp_nil, trivial⟩) rfl <| dn <| sr <| mv rfl <| lE h fun x5 h5 h => cv _ rfl (UK.conv h5) <| ag rfl <| dn <| qq <| sr <| mv rfl <| lE h fun x7 h7 h => ls _ rfl rfl h7 <| dn ?_
 refine ok_tailJ h (fun j2 => AS.mkL 14 [(0, .sv (.v (.int .i64 x0))), (2, .ptr 2 0), (3, .sv (.v (.int .u64 ((j2 : Nat) : Int))))] [(2, ⟨24, [.sv (.v (.bool false)), .sv (slc 1 (List.map eU32 []))]⟩)] []) (fun h => ?_) (fun y3j1 h => ?_)
 cases x7
 exact fs <| ⟨x5, (F h), wR []⟩
 exact cT <| ok_region <| mv rfl <| lE (V h) fun x9 h9 h => RT.neg .none _ rfl T (UK.neg h9) <| ag rfl <| dn <| ⟨x9, h, wR []⟩
 try dsimp only
 refine AThen.n <| sr <| mv rfl <| lE h fun x11 h11 h => ls _ rfl rfl h11 <| mv rfl ?_
 obtain ⟨⟨x13_0, x13_1⟩, h13, h⟩ := bS h
 refine cl (whole_small_ok h13) ⟨rfl, rfl, trivial⟩ <| so rfl rfl rfl <| dn <| ok_ret ?_
 obtain rfl := O h
 exact RZ (.agg rfl rfl (.cons rfl (.cons rfl (.nil))) rfl (.nil))
theorem whole_Int64_ok {x0 : Zr} {r : Int × Bool} (h : whole_Int64_m x0 = some r) : Pure Try.prog 52 [.agg (eZ x0)] (.tup [.v (.int .i64 r.1), .v (.bool r.2)]) := by
 obtain ⟨x0_0, x0_1⟩ := x0
 refine pure_of_ok Try.func52 rfl (Nat.le_of_ble_eq_true rfl) (fun wld M vs hvs => ?_)
 unfold whole_Int64_m at h
 refine sr <| bx rfl <| ag rfl <| ag rfl <| dn <| sr <| fa rfl rfl <| lV rfl rfl rfl <| bE h fun x8 h8 h => cl (whole_trim_ok h8) ⟨rfl, trivial⟩ <| ag rfl <| dn <| qq <| sr <| mv rfl <| lE h fun x10 h10 h => ln rfl h10 <| lE h fun x11 h11 h => gt _ rfl rfl h11 <| dn ?_
 cases x11
 refine fs <| sr <| mv rfl <| bE (F h) fun x13 h13 h => cl (whole_low_ok h13) ⟨rfl, trivial⟩ <| ag rfl <| dn <| qq <| sr <| fa rfl rfl <| lV rfl rfl rfl <| dn ?_
 cases x0_0
 refine fs <| qq <| sr <| mv rfl <| lE (F h) fun x22 h22 h => ge _ rfl rfl (leN (p := 9223372036854775808) (q := x13) h22) <| dn ?_
 cases x22
 refine fs <| sr <| mv rfl <| lE (F h) fun x24 h24 h => cv _ rfl h24 <| ag rfl <| ag rfl <| dn <| ok_ret ?_
 obtain rfl := O h
 exact R2 rfl rfl
 refine cT <| sr <| ag rfl <| ag rfl <| dn <| ok_ret <| AThen.r ?_
 obtain rfl := O (V h)
 exact R2 rfl rfl
 refine cT <| qq <| sr <| mv rfl <| lE (V h) fun x17 h17 h => gt _ rfl rfl (ltN (p := 9223372036854775808) (q := x13) h17) <| dn ?_
 cases x17
 refine fs <| sr <| mv rfl <| lE (F h) fun x19 h19 h => RT.neg .none _ rfl T (UK.neg h19) <| lE h fun x20 h20 h => cv _ rfl h20 <| ag rfl <| ag rfl <| dn <| ok_ret <| AThen.r ?_
 obtain rfl := O h
 exact R2 rfl rfl
 refine cT <| sr <| ag rfl <| ag rfl <| dn <| ok_ret <| AThen.r <| AThen.r ?_
 obtain rfl := O (V h)
 exact R2 rfl rfl
 refine cT <| sr <| ag rfl <| ag rfl <| dn <| ok_ret <| AThen.r ?_
 obtain rfl := O (V h)
 exact R2 rfl rfl
theorem whole_signedSum_ok {x0 : Bool} {x1 : List Nat} {x2 : Bool} {x3 : List Nat} {r : Zr} (h : whole_signedSum_m x0 x1 x2 x3 = some r) : Pure Try.prog 53 [.v (.bool x0), slc 1 (List.map eU32 x1), .v (.bool x2), slc 1 (List.map eU32 x3)] (.agg (eZ r)) := by
 refine pure_of_ok Try.func53 rfl (Nat.le_of_ble_eq_true rfl) (fun wld M vs hvs => ?_)
 unfold whole_signedSum_m at h
 refine sr <| al (cs := [.v (.bool false), slc 1 (List.map eU32 [])]) (by exact ⟨SV.imp_refl _, imp_nil, trivial⟩) rfl <| dn <| qq <| sr <| mv rfl <| mv rfl <| lE h fun x11 h11 h => RT.beql .none _ rfl rfl T h11 <| dn ?_
 cases x11
 refine fs <| qq <| sr <| mv rfl <| mv rfl <| bE (F h) fun x19 h19 h => cl (whole_compareWords_ok h19) ⟨rfl, rfl, trivial⟩ <| lE h fun x20 h20 h => ls _ rfl rfl h20 <| dn ?_
 cases x20
 refine fs <| sr <| mv rfl <| mv rfl <| mv rfl <| bE (F h) fun x29 h29 h => cl (whole_subWords_ok h29) ⟨rfl, rfl, trivial⟩ ?_
 obtain ⟨⟨x30_0, x30_1⟩, h30, h⟩ := bS h
 refine cl (whole_build_ok h30) ⟨rfl, rfl, trivial⟩ <| so rfl rfl rfl <| dn <| ok_ret ?_
 obtain rfl := O h
 exact RZ (.agg rfl rfl (.cons rfl (.cons rfl (.nil))) rfl (.nil))
 refine cT <| sr <| mv rfl <| mv rfl <| mv rfl <| bE (V h) fun x24 h24 h => cl (whole_subWords_ok h24) ⟨rfl, rfl, trivial⟩ ?_
 obtain ⟨⟨x25_0, x25_1⟩, h25, h⟩ := bS h
 refine cl (whole_build_ok h25) ⟨rfl, rfl, trivial⟩ <| so rfl rfl rfl <| dn <| ok_ret <| AThen.r ?_
 obtain rfl := O h
 exact RZ (.agg rfl rfl (.cons rfl (.cons rfl (.nil))) rfl (.nil))
 refine cT <| sr <| mv rfl <| mv rfl <| mv rfl <| bE (V h) fun x15 h15 h => cl (whole_addWords_ok h15) ⟨rfl, rfl, trivial⟩ ?_
 obtain ⟨⟨x16_0, x16_1⟩, h16, h⟩ := bS h
 refine cl (whole_build_ok h16) ⟨rfl, rfl, trivial⟩ <| so rfl rfl rfl <| dn <| ok_ret <| AThen.r ?_
 obtain rfl := O h
 exact RZ (.agg rfl rfl (.cons rfl (.cons rfl (.nil))) rfl (.nil))
theorem whole_Add_ok {x0 : Zr} {x1 : Zr} {r : Zr} (h : whole_Add_m x0 x1 = some r) : Pure Try.prog 18 [.agg (eZ x0), .agg (eZ x1)] (.agg (eZ r)) := by
 obtain ⟨x0_0, x0_1⟩ := x0
 obtain ⟨x1_0, x1_1⟩ := x1
 refine pure_of_ok Try.func18 rfl (Nat.le_of_ble_eq_true rfl) (fun wld M vs hvs => ?_)
 unfold whole_Add_m at h
 refine sr <| bx rfl <| bx rfl <| al (cs := [.v (.bool false), slc 1 (List.map eU32 [])]) (by exact ⟨SV.imp_refl _, imp_nil, trivial⟩) rfl <| dn <| sr <| ld rfl rfl (.cons rfl (.cons rfl (.nil))) ?_
 obtain ⟨⟨x12a, x12b⟩, h12, h⟩ := bS h
 refine cl (whole_Int64_ok h12) ⟨rfl, trivial⟩ <| mv rfl <| ex rfl rfl <| ex rfl rfl <| ag rfl <| ag rfl <| dn <| sr <| ld rfl rfl (.cons rfl (.cons rfl (.nil))) ?_
 obtain ⟨⟨x17a, x17b⟩, h17, h⟩ := bS h
 refine cl (whole_Int64_ok h17) ⟨rfl, trivial⟩ <| mv rfl <| ex rfl rfl <| ex rfl rfl <| ag rfl <| ag rfl <| dn <| qq <| qq ?_
 refine ok_tailJ h (fun j3 => AS.mkL 48 [(2, .ptr 2 0), (3, .ptr 3 0), (4, .ptr 4 0), (5, .sv (.v (.int .i64 x12a))), (7, .sv (.v (.int .i64 x17a))), (23, .sv (.v (.bool j3)))] [(4, ⟨24, [.sv (.v (.bool false)), .sv (slc 1 (List.map eU32 []))]⟩), (3, ⟨24, [.sv (.v (.bool x1_0)), .sv (slc 1 (List.map eU32 x1_1))]⟩), (2, ⟨24, [.sv (.v (.bool x0_0)), .sv (slc 1 (List.map eU32 x0_1))]⟩)] []) (fun h => ?_) (fun y23j2 h => ?_)
 refine ok_region <| mv rfl <| mv rfl <| bE h fun c23_6 hg6 h => ?_
 cases x12b
 obtain rfl := O (F hg6)
 exact ww <| pF rfl <| dn <| ⟨false, h, wR []⟩
 refine gm rfl ?_
 obtain rfl := O (V hg6)
 exact pT rfl <| dn <| ⟨x17b, h, wR []⟩
 try dsimp only
 refine AThen.n ?_
 refine ok_tailJ h (fun j5 => AS.mkL 48 [(2, .ptr 2 0), (3, .ptr 3 0), (4, .ptr 4 0)] [(4, ⟨24, [.sv (.v (.bool false)), .sv (slc 1 (List.map eU32 []))]⟩), (3, ⟨24, [.sv (.v (.bool x1_0)), .sv (slc 1 (List.map eU32 x1_1))]⟩), (2, ⟨24, [.sv (.v (.bool x0_0)), .sv (slc 1 (List.map eU32 x0_1))]⟩)] []) (fun h => ?_) (fun j5 h => ?_)
 cases y23j2
 exact fs <| ⟨(), (F h), wR []⟩
 refine cT <| sr <| mv rfl <| mv rfl <| lE (V h) fun x26 h26 h => ad _ rfl rfl h26 <| ag rfl <| dn <| sr <| mv rfl <| mv rfl <| lE h fun x29 h29 h => RT.xor .none _ rfl rfl T h29 <| mv rfl <| mv rfl <| lE h fun x32 h32 h => RT.xor .none _ rfl rfl T h32 <| lE h fun x33 h33 h => RT.and .none _ rfl rfl T h33 <| lE h fun x34 h34 h => ge _ rfl rfl h34 <| dn ?_
 cases x34
 exact fs <| ⟨(), (F h), wR []⟩
 refine cT <| sr <| mv rfl ?_
 obtain ⟨⟨x36_0, x36_1⟩, h36, h⟩ := bS (V h)
 refine cl (whole_FromInt64_ok h36) ⟨rfl, trivial⟩ <| so rfl rfl rfl <| dn <| ok_ret <| AThen.r <| AThen.r ?_
 obtain rfl := O h
 exact RZ (.agg rfl rfl (.cons rfl (.cons rfl (.nil))) rfl (.nil))
 try dsimp only
 refine AThen.n <| qq <| ok_region_draw mixed <| fa rfl rfl <| lV rfl rfl rfl <| fa rfl rfl <| lV rfl rfl rfl <| bE h fun x41 h41 h => cl (whole_trim_ok h41) ⟨rfl, trivial⟩ <| fa rfl rfl <| lV rfl rfl rfl <| fa rfl rfl <| lV rfl rfl rfl <| bE h fun x46 h46 h => cl (whole_trim_ok h46) ⟨rfl, trivial⟩ ?_
 obtain ⟨⟨x47_0, x47_1⟩, h47, h⟩ := bS h
 refine cl (whole_signedSum_ok h47) ⟨rfl, rfl, rfl, rfl, trivial⟩ <| so rfl rfl rfl ?_
 refine RT.done ⟨by kernel_rfl, ?_⟩
 refine AThen.n <| ok_ret ?_
 obtain rfl := O h
 exact RZ (.agg rfl rfl (.cons rfl (.cons rfl (.nil))) rfl (.nil))
theorem whole_Sub_ok {x0 : Zr} {x1 : Zr} {r : Zr} (h : whole_Sub_m x0 x1 = some r) : Pure Try.prog 51 [.agg (eZ x0), .agg (eZ x1)] (.agg (eZ r)) := by
 obtain ⟨x0_0, x0_1⟩ := x0
 obtain ⟨x1_0, x1_1⟩ := x1
 refine pure_of_ok Try.func51 rfl (Nat.le_of_ble_eq_true rfl) (fun wld M vs hvs => ?_)
 unfold whole_Sub_m at h
 refine sr <| bx rfl <| bx rfl <| al (cs := [.v (.bool false), slc 1 (List.map eU32 [])]) (by exact ⟨SV.imp_refl _, imp_nil, trivial⟩) rfl <| dn <| sr <| ld rfl rfl (.cons rfl (.cons rfl (.nil))) ?_
 obtain ⟨⟨x12a, x12b⟩, h12, h⟩ := bS h
 refine cl (whole_Int64_ok h12) ⟨rfl, trivial⟩ <| mv rfl <| ex rfl rfl <| ex rfl rfl <| ag rfl <| ag rfl <| dn <| sr <| ld rfl rfl (.cons rfl (.cons rfl (.nil))) ?_
 obtain ⟨⟨x17a, x17b⟩, h17, h⟩ := bS h
 refine cl (whole_Int64_ok h17) ⟨rfl, trivial⟩ <| mv rfl <| ex rfl rfl <| ex rfl rfl <| ag rfl <| ag rfl <| dn <| qq <| qq ?_
 refine ok_tailJ h (fun j3 => AS.mkL 49 [(2, .ptr 2 0), (3, .ptr 3 0), (4, .ptr 4 0), (5, .sv (.v (.int .i64 x12a))), (7, .sv (.v (.int .i64 x17a))), (23, .sv (.v (.bool j3)))] [(4, ⟨24, [.sv (.v (.bool false)), .sv (slc 1 (List.map eU32 []))]⟩), (3, ⟨24, [.sv (.v (.bool x1_0)), .sv (slc 1 (List.map eU32 x1_1))]⟩), (2, ⟨24, [.sv (.v (.bool x0_0)), .sv (slc 1 (List.map eU32 x0_1))]⟩)] []) (fun h => ?_) (fun y23j2 h => ?_)
 refine ok_region <| mv rfl <| mv rfl <| bE h fun c23_6 hg6 h => ?_
 cases x12b
 obtain rfl := O (F hg6)
 exact ww <| pF rfl <| dn <| ⟨false, h, wR []⟩
 refine gm rfl ?_
 obtain rfl := O (V hg6)
 exact pT rfl <| dn <| ⟨x17b, h, wR []⟩
 try dsimp only
 refine AThen.n ?_
 refine ok_tailJ h (fun j5 => AS.mkL 49 [(2, .ptr 2 0), (3, .ptr 3 0), (4, .ptr 4 0)] [(4, ⟨24, [.sv (.v (.bool false)), .sv (slc 1 (List.map eU32 []))]⟩), (3, ⟨24, [.sv (.v (.bool x1_0)), .sv (slc 1 (List.map eU32 x1_1))]⟩), (2, ⟨24, [.sv (.v (.bool x0_0)), .sv (slc 1 (List.map eU32 x0_1))]⟩)] []) (fun h => ?_) (fun j5 h => ?_)
 cases y23j2
 exact fs <| ⟨(), (F h), wR []⟩
 refine cT <| sr <| mv rfl <| mv rfl <| lE (V h) fun x26 h26 h => sb _ rfl rfl h26 <| ag rfl <| dn <| sr <| mv rfl <| mv rfl <| lE h fun x29 h29 h => RT.xor .none _ rfl rfl T h29 <| mv rfl <| mv rfl <| lE h fun x32 h32 h => RT.xor .none _ rfl rfl T h32 <| lE h fun x33 h33 h => RT.and .none _ rfl rfl T h33 <| lE h fun x34 h34 h => ge _ rfl rfl h34 <| dn ?_
 cases x34
 exact fs <| ⟨(), (F h), wR []⟩
 refine cT <| sr <| mv rfl ?_
 obtain ⟨⟨x36_0, x36_1⟩, h36, h⟩ := bS (V h)
 refine cl (whole_FromInt64_ok h36) ⟨rfl, trivial⟩ <| so rfl rfl rfl <| dn <| ok_ret <| AThen.r <| AThen.r ?_
 obtain rfl := O h
 exact RZ (.agg rfl rfl (.cons rfl (.cons rfl (.nil))) rfl (.nil))
 try dsimp only
 refine AThen.n <| qq <| ok_region_draw mixed <| fa rfl rfl <| lV rfl rfl rfl <| fa rfl rfl <| lV rfl rfl rfl <| bE h fun x41 h41 h => cl (whole_trim_ok h41) ⟨rfl, trivial⟩ <| fa rfl rfl <| lV rfl rfl rfl <| lE h fun x44 h44 h => nt rfl _ h44 <| fa rfl rfl <| lV rfl rfl rfl <| bE h fun x47 h47 h => cl (whole_trim_ok h47) ⟨rfl, trivial⟩ ?_
 obtain ⟨⟨x48_0, x48_1⟩, h48, h⟩ := bS h
 refine cl (whole_signedSum_ok h48) ⟨rfl, rfl, rfl, rfl, trivial⟩ <| so rfl rfl rfl ?_
 refine RT.done ⟨by kernel_rfl, ?_⟩
 refine AThen.n <| ok_ret ?_
 obtain rfl := O h
 exact RZ (.agg rfl rfl (.cons rfl (.cons rfl (.nil))) rfl (.nil))
theorem whole_Mul_ok {x0 : Zr} {x1 : Zr} {r : Zr} (h : whole_Mul_m x0 x1 = some r) : Pure Try.prog 67 [.agg (eZ x0), .agg (eZ x1)] (.agg (eZ r)) := by
 obtain ⟨x0_0, x0_1⟩ := x0
 obtain ⟨x1_0, x1_1⟩ := x1
 refine pure_of_ok Try.func67 rfl (Nat.le_of_ble_eq_true rfl) (fun wld M vs hvs => ?_)
 unfold whole_Mul_m at h
 refine sr <| bx rfl <| bx rfl <| al (cs := [.v (.bool false), slc 1 (List.map eU32 [])]) (by exact ⟨SV.imp_refl _, imp_nil, trivial⟩) rfl <| dn <| qq <| ok_region_draw mixed <| fa rfl rfl <| lV rfl rfl rfl <| bE h fun x9 h9 h => cl (whole_trim_ok h9) ⟨rfl, trivial⟩ <| fa rfl rfl <| lV rfl rfl rfl <| bE h fun x12 h12 h => cl (whole_trim_ok h12) ⟨rfl, trivial⟩ <| ag rfl <| ag rfl ?_
 refine RT.done ⟨by kernel_rfl, ?_⟩
 refine AThen.n <| qq <| qq ?_
 refine ok_tailJ h (fun j3 => AS.mkL 41 [(2, .ptr 2 0), (3, .ptr 3 0), (4, .ptr 4 0), (5, .sv (slc 1 (List.map eU32 x9))), (6, .sv (slc 1 (List.map eU32 x12))), (20, .sv (.v (.bool j3)))] [(4, ⟨24, [.sv (.v (.bool false)), .sv (slc 1 (List.map eU32 []))]⟩), (3, ⟨24, [.sv (.v (.bool x1_0)), .sv (slc 1 (List.map eU32 x1_1))]⟩), (2, ⟨24, [.sv (.v (.bool x0_0)), .sv (slc 1 (List.map eU32 x0_1))]⟩)] []) (fun h => ?_) (fun y20j2 h => ?_)
 refine ok_region <| mv rfl <| lE h fun x14 h14 h => ln rfl h14 <| lE h fun x15 h15 h => RT.leq .none _ rfl rfl T h15 <| mv rfl <| bE h fun c20_4 hg4 h => ?_
 cases x15
 obtain rfl := O (F hg4)
 exact ww <| ww <| ww <| pF rfl <| dn <| ⟨false, h, wR []⟩
 refine gm rfl <| lE (V hg4) fun x18 h18 hg4 => gn rfl h18 <| lE hg4 fun x19 h19 hg4 => RT.leq (.some rfl rfl) _ rfl rfl T h19 ?_
 obtain rfl := O hg4
 exact pT rfl <| dn <| ⟨x19, h, wR []⟩
 try dsimp only
 refine AThen.n ?_
 cases y20j2
 refine fs <| qq <| ok_region_draw mixed <| fa rfl rfl <| lV rfl rfl rfl <| fa rfl rfl <| lV rfl rfl rfl <| lE (F h) fun x36 h36 h => RT.bneq .none _ rfl rfl T h36 <| mv rfl <| mv rfl <| bE h fun x39 h39 h => cl (whole_mulWords_ok h39) ⟨rfl, rfl, trivial⟩ ?_
 obtain ⟨⟨x40_0, x40_1⟩, h40, h⟩ := bS h
 refine cl (whole_build_ok h40) ⟨rfl, rfl, trivial⟩ <| so rfl rfl rfl ?_
 refine RT.done ⟨by kernel_rfl, ?_⟩
 refine AThen.n <| ok_ret ?_
 obtain rfl := O h
 exact RZ (.agg rfl rfl (.cons rfl (.cons rfl (.nil))) rfl (.nil))
 refine cT <| qq <| ok_region_draw mixed <| fa rfl rfl <| lV rfl rfl rfl <| fa rfl rfl <| lV rfl rfl rfl <| lE (V h) fun x25 h25 h => RT.bneq .none _ rfl rfl T h25 <| mv rfl <| bE h fun x27 h27 h => cl (whole_low_ok h27) ⟨rfl, trivial⟩ <| mv rfl <| bE h fun x29 h29 h => cl (whole_low_ok h29) ⟨rfl, trivial⟩ <| lE h fun x30 h30 h => RT.mul .none _ rfl rfl T (UK.mul (a := x27) (b := x29) h30) ?_
 obtain ⟨⟨x31_0, x31_1⟩, h31, h⟩ := bS h
 refine cl (whole_small_ok h31) ⟨rfl, rfl, trivial⟩ <| so rfl rfl rfl ?_
 refine RT.done ⟨by kernel_rfl, ?_⟩
 refine AThen.n <| ok_ret <| AThen.r ?_
 obtain rfl := O h
 exact RZ (.agg rfl rfl (.cons rfl (.cons rfl (.nil))) rfl (.nil))
theorem whole_Neg_ok {x0 : Zr} {r : Zr} (h : whole_Neg_m x0 = some r) : Pure Try.prog 21 [.agg (eZ x0)] (.agg (eZ r)) := by
 obtain ⟨x0_0, x0_1⟩ := x0
 refine pure_of_ok Try.func21 rfl (Nat.le_of_ble_eq_true rfl) (fun wld M vs hvs => ?_)
 unfold whole_Neg_m at h
 refine sr <| bx rfl <| al (cs := [.v (.bool false), slc 1 (List.map eU32 [])]) (by exact ⟨SV.imp_refl _, imp_nil, trivial⟩) rfl <| dn <| qq <| ok_region_draw mixed <| fa rfl rfl <| lV rfl rfl rfl <| lE h fun x5 h5 h => nt rfl _ h5 <| fa rfl rfl <| lV rfl rfl rfl <| bE h fun x8 h8 h => cl (whole_trim_ok h8) ⟨rfl, trivial⟩ <| bE h fun x9 h9 h => cl (slices_Clone_ok h9) ⟨rfl, trivial⟩ ?_
 obtain ⟨⟨x10_0, x10_1⟩, h10, h⟩ := bS h
 refine cl (whole_build_ok h10) ⟨rfl, rfl, trivial⟩ <| so rfl rfl rfl ?_
 refine RT.done ⟨by kernel_rfl, ?_⟩
 refine AThen.n <| ok_ret ?_
 obtain rfl := O h
 exact RZ (.agg rfl rfl (.cons rfl (.cons rfl (.nil))) rfl (.nil))
theorem whole_Sign_ok {x0 : Zr} {r : Int} (h : whole_Sign_m x0 = some r) : Pure Try.prog 36 [.agg (eZ x0)] (.v (.int .i64 r)) := by
 obtain ⟨x0_0, x0_1⟩ := x0
 refine pure_of_ok Try.func36 rfl (Nat.le_of_ble_eq_true rfl) (fun wld M vs hvs => ?_)
 unfold whole_Sign_m at h
 refine sr <| bx rfl <| ag rfl <| dn <| qq <| ok_block <| sr <| fa rfl rfl <| lV rfl rfl rfl <| bE h fun x6 h6 h => cl (whole_trim_ok h6) ⟨rfl, trivial⟩ <| lE h fun x7 h7 h => ln rfl h7 <| lE h fun x8 h8 h => eq _ rfl rfl (eqI (p := x7) (q := 0) h8) <| ag rfl <| dn ?_
 cases x8
 refine cF <| sr <| fa rfl rfl <| lV rfl rfl rfl <| ag rfl <| dn ?_
 replace h := F h
 cases x0_0
 refine cF <| ok_skip <| AInB.n <| AThen.n <| sr <| ag rfl <| dn <| ok_ret ?_
 obtain rfl := O (F h)
 exact R1 rfl
 refine cT <| sr <| ag rfl <| dn <| ok_ret <| AInB.r <| AThen.r ?_
 obtain rfl := O (V h)
 exact R1 rfl
 refine cT <| sr <| ag rfl <| dn <| ok_ret <| AInB.r <| AThen.r ?_
 obtain rfl := O (V h)
 exact R1 rfl
theorem whole_Cmp_ok {x0 : Zr} {x1 : Zr} {r : Int} (h : whole_Cmp_m x0 x1 = some r) : Pure Try.prog 39 [.agg (eZ x0), .agg (eZ x1)] (.v (.int .i64 r)) := by
 obtain ⟨x0_0, x0_1⟩ := x0
 obtain ⟨x1_0, x1_1⟩ := x1
 refine pure_of_ok Try.func39 rfl (Nat.le_of_ble_eq_true rfl) (fun wld M vs hvs => ?_)
 unfold whole_Cmp_m at h
 refine sr <| bx rfl <| bx rfl <| ag rfl <| dn <| qq <| ok_region_draw mixed <| ld rfl rfl (.cons rfl (.cons rfl (.nil))) <| bE h fun x8 h8 h => cl (whole_Sign_ok h8) ⟨rfl, trivial⟩ <| ld rfl rfl (.cons rfl (.cons rfl (.nil))) <| bE h fun x10 h10 h => cl (whole_Sign_ok h10) ⟨rfl, trivial⟩ <| ag rfl <| ag rfl ?_
 refine RT.done ⟨by kernel_rfl, ?_⟩
 refine AThen.n <| qq <| ok_block <| sr <| mv rfl <| mv rfl <| lE h fun x14 h14 h => ls _ rfl rfl h14 <| ag rfl <| dn ?_
 cases x14
 refine cF <| sr <| mv rfl <| mv rfl <| lE (F h) fun x18 h18 h => gt _ rfl rfl h18 <| ag rfl <| dn ?_
 cases x18
 refine cF <| sr <| mv rfl <| lE (F h) fun x21 h21 h => ls _ rfl rfl h21 <| ag rfl <| dn ?_
 cases x21
 refine cF <| ok_skip <| AInB.n <| AThen.n <| qq <| ok_region_draw mixed <| fa rfl rfl <| lV rfl rfl rfl <| bE (F h) fun x31 h31 h => cl (whole_trim_ok h31) ⟨rfl, trivial⟩ <| fa rfl rfl <| lV rfl rfl rfl <| bE h fun x34 h34 h => cl (whole_trim_ok h34) ⟨rfl, trivial⟩ <| bE h fun x35 h35 h => cl (whole_compareWords_ok h35) ⟨rfl, rfl, trivial⟩ <| ag rfl ?_
 refine RT.done ⟨by kernel_rfl, ?_⟩
 refine AThen.n <| ok_ret ?_
 obtain rfl := O h
 exact R1 rfl
 refine cT <| qq <| ok_region_draw mixed <| fa rfl rfl <| lV rfl rfl rfl <| bE (V h) fun x24 h24 h => cl (whole_trim_ok h24) ⟨rfl, trivial⟩ <| fa rfl rfl <| lV rfl rfl rfl <| bE h fun x27 h27 h => cl (whole_trim_ok h27) ⟨rfl, trivial⟩ <| bE h fun x28 h28 h => cl (whole_compareWords_ok h28) ⟨rfl, rfl, trivial⟩ <| ag rfl ?_
 refine RT.done ⟨by kernel_rfl, ?_⟩
 refine AThen.n <| ok_ret <| AInB.r <| AThen.r ?_
 obtain rfl := O h
 exact R1 rfl
 refine cT <| sr <| ag rfl <| dn <| ok_ret <| AInB.r <| AThen.r ?_
 obtain rfl := O (V h)
 exact R1 rfl
 refine cT <| sr <| ag rfl <| dn <| ok_ret <| AInB.r <| AThen.r ?_
 obtain rfl := O (V h)
 exact R1 rfl
theorem whole_DivMod_ok {x0 : Zr} {x1 : Zr} {r : Zr × Zr × Int} (h : whole_DivMod_m x0 x1 = some r) : Pure Try.prog 34 [.agg (eZ x0), .agg (eZ x1)] (.tup [.agg (eZ r.1), .agg (eZ r.2.1), .v (.int .i64 r.2.2)]) := by
 obtain ⟨x0_0, x0_1⟩ := x0
 obtain ⟨x1_0, x1_1⟩ := x1
 refine pure_of_ok Try.func34 rfl (Nat.le_of_ble_eq_true rfl) (fun wld M vs hvs => ?_)
 unfold whole_DivMod_m at h
 refine sr <| bx rfl <| bx rfl <| al (cs := [.v (.bool false), slc 1 (List.map eU32 [])]) (by exact ⟨SV.imp_refl _, imp_nil, trivial⟩) rfl <| al (cs := [.v (.bool false), slc 1 (List.map eU32 [])]) (by exact ⟨SV.imp_refl _, imp_nil, trivial⟩) rfl <| ag rfl <| dn <| qq <| ok_region_draw mixed <| fa rfl rfl <| lV rfl rfl rfl <| bE h fun x13 h13 h => cl (whole_trim_ok h13) ⟨rfl, trivial⟩ <| fa rfl rfl <| lV rfl rfl rfl ?_
 refine bE h fun x16 h16 h => cl (whole_trim_ok h16) ⟨rfl, trivial⟩ <| ag rfl <| ag rfl ?_
 refine RT.done ⟨by kernel_rfl, ?_⟩
 refine AThen.n <| qq <| sr <| mv rfl <| lE h fun x18 h18 h => ln rfl h18 <| lE h fun x19 h19 h => eq _ rfl rfl (eqI (p := x18) (q := 0) h19) <| dn ?_
 cases x19
 refine fs <| sr <| mv rfl <| mv rfl ?_
 obtain ⟨⟨x25a, x25b⟩, h25, h⟩ := bS (F h)
 refine cl (whole_divWords_ok h25) ⟨rfl, rfl, trivial⟩ <| mv rfl <| ex rfl rfl <| ex rfl rfl <| ag rfl <| ag rfl <| dn <| sr <| mv rfl <| bE h fun x29 h29 h => cl (whole_trim_ok h29) ⟨rfl, trivial⟩ <| ag rfl <| dn <| qq <| qq ?_
 refine ok_tailJ h (fun j3 => AS.mkL 52 [(2, .ptr 2 0), (3, .ptr 3 0), (4, .ptr 4 0), (5, .ptr 5 0), (8, .sv (slc 1 (List.map eU32 x16))), (9, .sv (slc 1 (List.map eU32 x25a))), (10, .sv (slc 1 (List.map eU32 x29))), (36, .sv (.v (.bool j3.1)))] [(5, ⟨24, [.sv (.v (.bool false)), .sv (slc 1 (List.map eU32 []))]⟩), (4, ⟨24, [.sv (.v (.bool false)), .sv (slc 1 (List.map eU32 []))]⟩), (3, ⟨24, [.sv (.v (.bool x1_0)), .sv (slc 1 (List.map eU32 x1_1))]⟩), (2, ⟨24, [.sv (.v (.bool j3.2)), .sv (slc 1 (List.map eU32 x0_1))]⟩)] []) (fun h => ?_) (fun j3 h => ?_)
 refine ok_region <| fa rfl rfl <| lV rfl rfl rfl <| mv rfl <| bE h fun c36_6 hg6 h => ?_
 cases x0_0
 obtain rfl := O (F hg6)
 exact ww <| ww <| ww <| pF rfl <| dn <| ⟨(false, false), h, wR []⟩
 refine gm rfl <| lE (V hg6) fun x34 h34 hg6 => gn rfl h34 <| lE hg6 fun x35 h35 hg6 => gg _ rfl rfl h35 ?_
 obtain rfl := O hg6
 exact pT rfl <| dn <| ⟨(x35, true), h, wR []⟩
 obtain ⟨y36j2, b2_0j2⟩ := j3
 try dsimp only
 refine AThen.n ?_
 refine ok_tailJ h (fun j5 => AS.mkL 52 [(2, .ptr 2 0), (3, .ptr 3 0), (4, .ptr 4 0), (5, .ptr 5 0), (9, .sv (slc 1 (List.map eU32 j5.1))), (10, .sv (slc 1 (List.map eU32 j5.2)))] [(5, ⟨24, [.sv (.v (.bool false)), .sv (slc 1 (List.map eU32 []))]⟩), (4, ⟨24, [.sv (.v (.bool false)), .sv (slc 1 (List.map eU32 []))]⟩), (3, ⟨24, [.sv (.v (.bool x1_0)), .sv (slc 1 (List.map eU32 x1_1))]⟩), (2, ⟨24, [.sv (.v (.bool b2_0j2)), .sv (slc 1 (List.map eU32 x0_1))]⟩)] []) (fun h => ?_) (fun j5 h => ?_)
 cases y36j2
 exact fs <| ⟨(x25a, x29), (F h), wR []⟩
 exact cT <| sr <| mv rfl <| bl (l := [1]) (e := eU32) (.one rfl (.nil)) rfl rfl rfl rfl rfl rfl <| bE (V h) fun x39 h39 h => cl (whole_addWords_ok h39) ⟨rfl, rfl, trivial⟩ <| ag rfl <| dn <| ok_region <| mv rfl <| mv rfl <| bE h fun x42 h42 h => cl (whole_subWords_ok h42) ⟨rfl, rfl, trivial⟩ <| ag rfl <| dn <| ⟨(x39, x42), h, wR []⟩
 obtain ⟨y9j4, y10j4⟩ := j5
 try dsimp only
 refine AThen.n <| sr <| fa rfl rfl <| lV rfl rfl rfl <| fa rfl rfl <| lV rfl rfl rfl <| lE h fun x47 h47 h => RT.bneq .none _ rfl rfl T h47 <| mv rfl ?_
 obtain ⟨⟨x49_0, x49_1⟩, h49, h⟩ := bS h
 refine cl (whole_build_ok h49) ⟨rfl, rfl, trivial⟩ <| mv rfl ?_
 obtain ⟨⟨x51_0, x51_1⟩, h51, h⟩ := bS h
 refine cl (whole_build_ok h51) ⟨rfl, rfl, trivial⟩ <| so rfl rfl rfl <| so rfl rfl rfl <| ag rfl <| dn <| ok_ret ?_
 obtain rfl := O h
 exact RZ (.agg rfl rfl (.cons rfl (.cons rfl (.nil))) rfl (.agg rfl rfl (.cons rfl (.cons rfl (.nil))) rfl (.tmp rfl (.nil))))
 refine cT <| sr <| bI (cs := [_, _]) (cs' := [.v (.bool false), slc 1 (List.map eU32 [])]) (.nil) ⟨SV.imp_refl _, imp_nil, trivial⟩ <| bI (cs := [_, _]) (cs' := [.v (.bool false), slc 1 (List.map eU32 [])]) (.nil) ⟨SV.imp_refl _, imp_nil, trivial⟩ <| so rfl rfl rfl <| so rfl rfl rfl <| ag rfl <| dn <| ok_ret <| AThen.r ?_
 obtain rfl := O (V h)
 exact RZ (.agg rfl rfl (.cons rfl (.cons rfl (.nil))) rfl (.agg rfl rfl (.cons rfl (.cons rfl (.nil))) rfl (.tmp rfl (.nil))))
theorem whole_GCD_ok {x0 : Zr} {x1 : Zr} {r : Zr} (h : whole_GCD_m x0 x1 = some r) : Pure Try.prog 94 [.agg (eZ x0), .agg (eZ x1)] (.agg (eZ r)) := by
 obtain ⟨x0_0, x0_1⟩ := x0
 obtain ⟨x1_0, x1_1⟩ := x1
 refine pure_of_ok Try.func94 rfl (Nat.le_of_ble_eq_true rfl) (fun wld M vs hvs => ?_)
 unfold whole_GCD_m at h
 refine sr <| bx rfl <| bx rfl <| al (cs := [.v (.bool false), slc 1 (List.map eU32 [])]) (by exact ⟨SV.imp_refl _, imp_nil, trivial⟩) rfl <| dn <| qq <| ok_region_draw mixed <| fa rfl rfl <| lV rfl rfl rfl <| bE h fun x13 h13 h => cl (whole_trim_ok h13) ⟨rfl, trivial⟩ <| fa rfl rfl <| lV rfl rfl rfl <| bE h fun x16 h16 h => cl (whole_trim_ok h16) ⟨rfl, trivial⟩ <| ag rfl <| ag rfl ?_
 refine RT.done ⟨by kernel_rfl, ?_⟩
 refine AThen.n <| qq <| bE h fun e12 hl12 ho12 => ?_
 refine ok_tailP (fun (xe12 : (List Nat) × (List Nat)) => AS.mkL 57 [(4, .ptr 4 0), (5, .sv (slc 1 (List.map eU32 xe12.1))), (6, .sv (slc 1 (List.map eU32 xe12.2)))] [(4, ⟨24, [.sv (.v (.bool false)), .sv (slc 1 (List.map eU32 []))]⟩)] []) (fun xe12 => xe12 = e12) ?_ (fun xe12 hx12 => ?_)
 refine ok_block ?_
 refine ok_loopM hl12 (fun s12 => AS.mkL 57 [(4, .ptr 4 0), (5, .sv (slc 1 (List.map eU32 s12.1))), (6, .sv (slc 1 (List.map eU32 s12.2)))] [(4, ⟨24, [.sv (.v (.bool false)), .sv (slc 1 (List.map eU32 []))]⟩)] []) (wR []) (fun s12 y12 G12 h hG12 hE12 => ?_)
 obtain ⟨y5l6, y6l6⟩ := s12
 try dsimp only
 refine qq <| qq ?_
 refine ok_tailJ h (fun j16 => AS.mkL 57 [(4, .ptr 4 0), (5, .sv (slc 1 (List.map eU32 y5l6))), (6, .sv (slc 1 (List.map eU32 y6l6))), (29, .sv (.v (.bool j16)))] [(4, ⟨24, [.sv (.v (.bool false)), .sv (slc 1 (List.map eU32 []))]⟩)] []) (fun h => ?_) (fun y29j15 h => ?_)
 refine ok_region <| mv rfl <| lE h fun x18 h18 h => ln rfl h18 <| lE h fun x19 h19 h => gt _ rfl rfl h19 <| mv rfl <| bE h fun c29_17 hg17 h => ?_
 cases x19
 obtain rfl := O (F hg17)
 exact ww <| ww <| ww <| ww <| wu <| wu <| wu <| ww <| pF rfl <| dn <| ⟨false, h, wR []⟩
 refine gm rfl <| lE (V hg17) fun x22 h22 hg17 => gn rfl h22 <| lE hg17 fun x23 h23 hg17 => gg _ rfl rfl h23 <| gm rfl <| bE hg17 fun c28_18 hg18 hg17 => ?_
 cases x23
 refine gm rfl <| lE (F hg18) fun x26 h26 hg18 => gn rfl h26 <| lE hg18 fun x27 h27 hg18 => gg _ rfl rfl h27 ?_
 obtain rfl := O hg18
 refine gF rfl ?_
 obtain rfl := O hg17
 exact pT rfl <| dn <| ⟨x27, h, wR []⟩
 obtain rfl := O (V hg18)
 refine ww <| ww <| ww <| gT rfl ?_
 obtain rfl := O hg17
 exact pT rfl <| dn <| ⟨true, h, wR []⟩
 try dsimp only
 refine AThen.n ?_
 cases y29j15
 refine cF <| ok_exit <| AThen.x <| AThen.x <| AInB.x <| AThen.n ?_
 obtain rfl := O (F h)
 exact ⟨(y5l6, y6l6), hE12 _ rfl, wR []⟩
 refine cT <| ok_skip <| AThen.n <| ok_block <| sr <| mv rfl <| mv rfl ?_
 obtain ⟨⟨x33a, x33b⟩, h33, h⟩ := bS (V h)
 refine cl (whole_divWords_ok h33) ⟨rfl, rfl, trivial⟩ <| mv rfl <| ex rfl rfl <| ex rfl rfl <| ag rfl <| ag rfl <| dn <| ok_region <| mv rfl <| mv rfl <| bE h fun x38 h38 h => cl (whole_trim_ok h38) ⟨rfl, trivial⟩ <| ag rfl <| ag rfl <| RT.done <| AInB.n ?_
 obtain rfl := O h
 exact AThen.n ⟨(y6l6, x38), hG12 _ rfl, wR []⟩
 subst hx12
 obtain ⟨y5e11, y6e11⟩ := xe12
 try dsimp only
 refine AThen.n <| qq <| sr <| mv rfl <| lE ho12 fun x40 h40 ho12 => ln rfl h40 <| lE ho12 fun x41 h41 ho12 => eq _ rfl rfl (eqI (p := x40) (q := 0) h41) <| dn ?_
 cases x41
 refine fs <| sr <| mv rfl <| bE (F ho12) fun x46 h46 ho12 => cl (whole_low_ok h46) ⟨rfl, trivial⟩ <| mv rfl <| bE ho12 fun x48 h48 ho12 => cl (whole_low_ok h48) ⟨rfl, trivial⟩ <| ag rfl <| ag rfl <| dn <| qq <| bE ho12 fun e24 hl24 ho24 => ?_
 refine ok_tailP (fun (y9e23 : Nat) => AS.mkL 57 [(4, .ptr 4 0), (9, .sv (.v (.int .u64 ((y9e23 : Nat) : Int))))] [(4, ⟨24, [.sv (.v (.bool false)), .sv (slc 1 (List.map eU32 []))]⟩)] []) (fun y9e23 => y9e23 = e24) ?_ (fun y9e23 hx24 => ?_)
 refine ok_block ?_
 refine ok_loopM hl24 (fun s24 => AS.mkL 57 [(4, .ptr 4 0), (9, .sv (.v (.int .u64 ((s24.1 : Nat) : Int)))), (10, .sv (.v (.int .u64 ((s24.2 : Nat) : Int))))] [(4, ⟨24, [.sv (.v (.bool false)), .sv (slc 1 (List.map eU32 []))]⟩)] []) (wR []) (fun s24 y24 G24 h hG24 hE24 => ?_)
 obtain ⟨y9l21, y10l21⟩ := s24
 try dsimp only
 refine qq <| sr <| mv rfl <| lE h fun x50 h50 h => gt _ rfl rfl (ltN (p := 0) (q := y10l21) h50) <| dn ?_
 cases x50
 refine cF <| ok_exit <| AThen.x <| AThen.x <| AInB.x <| AThen.n ?_
 obtain rfl := O (F h)
 exact ⟨y9l21, hE24 _ rfl, wR []⟩
 refine cT <| ok_skip <| AThen.n <| ok_block <| ok_region_draw mixed <| mv rfl <| mv rfl <| mv rfl <| bE (V h) fun x54 h54 h => RT.rem .none _ rfl rfl T (nzR h54) (remU h54) <| ag rfl <| ag rfl ?_
 refine RT.done ⟨by kernel_rfl, ?_⟩
 refine AInB.n ?_
 obtain rfl := O h
 exact AThen.n ⟨(y10l21, x54), hG24 _ rfl, wR []⟩
 subst hx24
 try dsimp only
 refine AThen.n <| sr <| mv rfl ?_
 obtain ⟨⟨x56_0, x56_1⟩, h56, ho24⟩ := bS ho24
 refine cl (whole_small_ok h56) ⟨rfl, rfl, trivial⟩ <| so rfl rfl rfl <| dn <| ok_ret ?_
 obtain rfl := O ho24
 exact RZ (.agg rfl rfl (.cons rfl (.cons rfl (.nil))) rfl (.nil))
 refine cT <| sr <| mv rfl <| bE (V ho12) fun x43 h43 ho12 => cl (slices_Clone_ok h43) ⟨rfl, trivial⟩ ?_
 obtain ⟨⟨x44_0, x44_1⟩, h44, ho12⟩ := bS ho12
 refine cl (whole_build_ok h44) ⟨rfl, rfl, trivial⟩ <| so rfl rfl rfl <| dn <| ok_ret <| AThen.r ?_
 obtain rfl := O ho12
 exact RZ (.agg rfl rfl (.cons rfl (.cons rfl (.nil))) rfl (.nil))
end Go.Proofs.Ytmiflmkdaeianaa
namespace Go.Proofs.Ytmiflmkdaeianaa
open Go.Fw
noncomputable def frac_operations_1_m (x0 : Zr) (x1 : Zr) (x2 : Zr) (x3 : Zr) : Option (Zr × Zr) := match x0 with | ⟨x0_0, x0_1⟩ => match x1 with | ⟨x1_0, x1_1⟩ => match x2 with | ⟨x2_0, x2_1⟩ => match x3 with | ⟨x3_0, x3_1⟩ => (whole_Mul_m ⟨x0_0, x0_1⟩ ⟨x3_0, x3_1⟩).bind fun ⟨x12_0, x12_1⟩ => (whole_Mul_m ⟨x2_0, x2_1⟩ ⟨x1_0, x1_1⟩).bind fun ⟨x15_0, x15_1⟩ => (whole_Add_m ⟨x12_0, x12_1⟩ ⟨x15_0, x15_1⟩).bind fun ⟨x16_0, x16_1⟩ => (whole_Mul_m ⟨x1_0, x1_1⟩ ⟨x3_0, x3_1⟩).bind fun ⟨x19_0, x19_1⟩ => some (⟨x16_0, x16_1⟩, ⟨x19_0, x19_1⟩)
noncomputable def frac_operations_2_m (x0 : Zr) (x1 : Zr) (x2 : Zr) (x3 : Zr) : Option (Zr × Zr) := match x0 with | ⟨x0_0, x0_1⟩ => match x1 with | ⟨x1_0, x1_1⟩ => match x2 with | ⟨x2_0, x2_1⟩ => match x3 with | ⟨x3_0, x3_1⟩ => (whole_Mul_m ⟨x0_0, x0_1⟩ ⟨x3_0, x3_1⟩).bind fun ⟨x12_0, x12_1⟩ => (whole_Mul_m ⟨x2_0, x2_1⟩ ⟨x1_0, x1_1⟩).bind fun ⟨x15_0, x15_1⟩ => (whole_Sub_m ⟨x12_0, x12_1⟩ ⟨x15_0, x15_1⟩).bind fun ⟨x16_0, x16_1⟩ => (whole_Mul_m ⟨x1_0, x1_1⟩ ⟨x3_0, x3_1⟩).bind fun ⟨x19_0, x19_1⟩ => some (⟨x16_0, x16_1⟩, ⟨x19_0, x19_1⟩)
noncomputable def frac_parts_m (x0 : Qr) : Option (Zr × Zr) := match x0 with | ⟨⟨x0_0, x0_1⟩, ⟨x0_2, x0_3⟩⟩ => (whole_Sign_m ⟨x0_2, x0_3⟩).bind fun x6 => (some (decide ((x6 : Int) = 0))).bind fun x8 => (bif x8 then (whole_FromInt64_m 1).bind fun ⟨x11_0, x11_1⟩ => some (⟨x0_0, x0_1⟩, ⟨x11_0, x11_1⟩) else (some (decide ((x6 : Int) = (-1)))).bind fun x13 => (bif x13 then (whole_Neg_m ⟨x0_0, x0_1⟩).bind fun ⟨x16_0, x16_1⟩ => (whole_Neg_m ⟨x0_2, x0_3⟩).bind fun ⟨x19_0, x19_1⟩ => some (⟨x16_0, x16_1⟩, ⟨x19_0, x19_1⟩) else some (⟨x0_0, x0_1⟩, ⟨x0_2, x0_3⟩)))
noncomputable def frac_reduce_m (x0 : Zr) (x1 : Zr) : Option (Qr) := match x0 with | ⟨x0_0, x0_1⟩ => match x1 with | ⟨x1_0, x1_1⟩ => (whole_Sign_m ⟨x1_0, x1_1⟩).bind fun x9 => (some (decide ((x9 : Int) < 0))).bind fun x10 => letJ (fun (j2 : Bool × (List Nat) × Bool × (List Nat)) => match j2 with | ⟨b3_0j1, b3_1j1, b2_0j1, b2_1j1⟩ => (whole_GCD_m ⟨b2_0j1, b2_1j1⟩ ⟨b3_0j1, b3_1j1⟩).bind fun ⟨x17_0, x17_1⟩ => (whole_DivMod_m ⟨b2_0j1, b2_1j1⟩ ⟨x17_0, x17_1⟩).bind fun ⟨⟨x21a_0, x21a_1⟩, ⟨x21b_0, x21b_1⟩, x21c⟩ => (whole_DivMod_m ⟨b3_0j1, b3_1j1⟩ ⟨x17_0, x17_1⟩).bind fun ⟨⟨x28a_0, x28a_1⟩, ⟨x28b_0, x28b_1⟩, x28c⟩ => (whole_Int64_m ⟨x28a_0, x28a_1⟩).bind fun ⟨x34a, x34b⟩ => letJ (fun (y41j4 : Bool) => letJ (fun (j7 : Bool × (List Nat)) => match j7 with | ⟨b3_0j6, b3_1j6⟩ => some ⟨⟨x21a_0, x21a_1⟩, ⟨b3_0j6, b3_1j6⟩⟩) fun K7 => (bif y41j4 then K7 (false, []) else K7 (x28a_0, x28a_1))) fun K5 => (bif x34b then (some (decide ((x34a : Int) = 1))).bind fun x40 => some x40 else some false).bind fun c41_8 => K5 c41_8) fun K2 => (bif x10 then (whole_Neg_m ⟨x0_0, x0_1⟩).bind fun ⟨x12_0, x12_1⟩ => (whole_Neg_m ⟨x1_0, x1_1⟩).bind fun ⟨x14_0, x14_1⟩ => K2 (x14_0, x14_1, x12_0, x12_1) else K2 (x1_0, x1_1, x0_0, x0_1))
noncomputable def frac_short_m (x0 : Qr) : Option (Int × Int × Bool) := match x0 with | ⟨⟨x0_0, x0_1⟩, ⟨x0_2, x0_3⟩⟩ => (whole_Int64_m ⟨x0_0, x0_1⟩).bind fun ⟨x10a, x10b⟩ => (whole_Int64_m ⟨x0_2, x0_3⟩).bind fun ⟨x16a, x16b⟩ => letJ (fun (y40j20 : Bool) => (bif y40j20 then some (0, 0, false) else (some (decide ((x16a : Int) = 0))).bind fun x43 => letJ (fun (j24 : Int × Int) => match j24 with | ⟨y2j23, y3j23⟩ => some (y2j23, y3j23, true)) fun K24 => (bif x43 then K24 (x10a, 1) else (some (decide ((x16a : Int) < 0))).bind fun x46 => letJ (fun (j26 : Int × Int) => match j26 with | ⟨y2j25, y3j25⟩ => K24 (y2j25, y3j25)) fun K26 => (bif x46 then (some (IntKind.i64.wrap (0 - x10a))).bind fun x48 => (some (IntKind.i64.wrap (0 - x16a))).bind fun x50 => K26 (x48, x50) else K26 (x10a, x16a))))) fun K21 => (some (!x10b)).bind fun x20 => (bif x20 then some true else (some (!x16b)).bind fun x23 => some x23).bind fun c24_27 => (bif c24_27 then some true else (some (decide ((x10a : Int) ≤ (-2147483648)))).bind fun x27 => some x27).bind fun c28_42 => (bif c28_42 then some true else (some (decide ((2147483648 : Int) ≤ x10a))).bind fun x31 => some x31).bind fun c32_43 => (bif c32_43 then some true else (some (decide ((x16a : Int) ≤ (-2147483648)))).bind fun x35 => some x35).bind fun c36_44 => (bif c36_44 then some true else (some (decide ((2147483648 : Int) ≤ x16a))).bind fun x39 => some x39).bind fun c40_45 => K21 c40_45
noncomputable def frac_ratio_m (x0 : Int) (x1 : Int) : Option (Qr) := (loopM (fun (s6 : Int × Int) => match s6 with | ⟨y5l3, y6l3⟩ => (show Option ((Int × Int) ⊕ (Int)) from (some (decide ((y6l3 : Int) ≠ 0))).bind fun x10 => (bif x10 then (irem y5l3 y6l3).bind fun x14 => some (.inl (y6l3, x14)) else some (.inr y5l3)))) (x0, x1)).bind fun y5e5 => (some (decide ((y5e5 : Int) < 0))).bind fun x16 => letJ (fun (y5j7 : Int) => (some (decide ((y5j7 : Int) = x1))).bind fun x21 => (bif x21 then (iquo x0 y5j7).bind fun x24 => (whole_FromInt64_m x24).bind fun ⟨x25_0, x25_1⟩ => some ⟨⟨x25_0, x25_1⟩, ⟨false, []⟩⟩ else (iquo x0 y5j7).bind fun x29 => (whole_FromInt64_m x29).bind fun ⟨x30_0, x30_1⟩ => (iquo x1 y5j7).bind fun x33 => (whole_FromInt64_m x33).bind fun ⟨x34_0, x34_1⟩ => some ⟨⟨x30_0, x30_1⟩, ⟨x34_0, x34_1⟩⟩)) fun K8 => (bif x16 then (some (IntKind.i64.wrap (0 - y5e5))).bind fun x18 => K8 x18 else K8 y5e5)
noncomputable def frac_sign_m (x0 : Int) : Option (Int) := (some (decide ((x0 : Int) < 0))).bind fun x5 => (bif x5 then some (-1) else (some (decide ((0 : Int) < x0))).bind fun x8 => (bif x8 then some 1 else some 0))
noncomputable def frac_copyOf_m (x0 : Zr) : Option (Zr) := match x0 with | ⟨x0_0, x0_1⟩ => (whole_Add_m ⟨x0_0, x0_1⟩ ⟨false, []⟩).bind fun ⟨x5_0, x5_1⟩ => some ⟨x5_0, x5_1⟩
noncomputable def frac_calcAdd_m (x1 : Qr) (x2 : Qr) : Option (Qr) := match x1 with | ⟨⟨x1_0, x1_1⟩, ⟨x1_2, x1_3⟩⟩ => match x2 with | ⟨⟨x2_0, x2_1⟩, ⟨x2_2, x2_3⟩⟩ => (frac_parts_m ⟨⟨x1_0, x1_1⟩, ⟨x1_2, x1_3⟩⟩).bind fun ⟨⟨x13a_0, x13a_1⟩, ⟨x13b_0, x13b_1⟩⟩ => (frac_parts_m ⟨⟨x2_0, x2_1⟩, ⟨x2_2, x2_3⟩⟩).bind fun ⟨⟨x18a_0, x18a_1⟩, ⟨x18b_0, x18b_1⟩⟩ => (frac_operations_1_m ⟨x13a_0, x13a_1⟩ ⟨x13b_0, x13b_1⟩ ⟨x18a_0, x18a_1⟩ ⟨x18b_0, x18b_1⟩).bind fun ⟨⟨x29a_0, x29a_1⟩, ⟨x29b_0, x29b_1⟩⟩ => (frac_reduce_m ⟨x29a_0, x29a_1⟩ ⟨x29b_0, x29b_1⟩).bind fun ⟨⟨x32_0, x32_1⟩, ⟨x32_2, x32_3⟩⟩ => some ⟨⟨x32_0, x32_1⟩, ⟨x32_2, x32_3⟩⟩
noncomputable def frac_calcSub_m (x1 : Qr) (x2 : Qr) : Option (Qr) := match x1 with | ⟨⟨x1_0, x1_1⟩, ⟨x1_2, x1_3⟩⟩ => match x2 with | ⟨⟨x2_0, x2_1⟩, ⟨x2_2, x2_3⟩⟩ => (frac_parts_m ⟨⟨x1_0, x1_1⟩, ⟨x1_2, x1_3⟩⟩).bind fun ⟨⟨x13a_0, x13a_1⟩, ⟨x13b_0, x13b_1⟩⟩ => (frac_parts_m ⟨⟨x2_0, x2_1⟩, ⟨x2_2, x2_3⟩⟩).bind fun ⟨⟨x18a_0, x18a_1⟩, ⟨x18b_0, x18b_1⟩⟩ => (frac_operations_2_m ⟨x13a_0, x13a_1⟩ ⟨x13b_0, x13b_1⟩ ⟨x18a_0, x18a_1⟩ ⟨x18b_0, x18b_1⟩).bind fun ⟨⟨x29a_0, x29a_1⟩, ⟨x29b_0, x29b_1⟩⟩ => (frac_reduce_m ⟨x29a_0, x29a_1⟩ ⟨x29b_0, x29b_1⟩).bind fun ⟨⟨x32_0, x32_1⟩, ⟨x32_2, x32_3⟩⟩ => some ⟨⟨x32_0, x32_1⟩, ⟨x32_2, x32_3⟩⟩
noncomputable def frac_New_m (x0 : Int) (x1 : Int) : Option (Qr × Int) := (some (decide ((x1 : Int) = 0))).bind fun x7 => (bif x7 then some (⟨⟨false, []⟩, ⟨false, []⟩⟩, 7) else (whole_FromInt64_m x0).bind fun ⟨x10_0, x10_1⟩ => (whole_FromInt64_m x1).bind fun ⟨x12_0, x12_1⟩ => (frac_reduce_m ⟨x10_0, x10_1⟩ ⟨x12_0, x12_1⟩).bind fun ⟨⟨x13_0, x13_1⟩, ⟨x13_2, x13_3⟩⟩ => some (⟨⟨x13_0, x13_1⟩, ⟨x13_2, x13_3⟩⟩, 0))
noncomputable def frac_FromInteger_m (x0 : Zr) : Option (Qr) := match x0 with | ⟨x0_0, x0_1⟩ => (frac_copyOf_m ⟨x0_0, x0_1⟩).bind fun ⟨x4_0, x4_1⟩ => some ⟨⟨x4_0, x4_1⟩, ⟨false, []⟩⟩
noncomputable def frac_Canonical_m (x0 : Qr) : Option (Qr) := match x0 with | ⟨⟨x0_0, x0_1⟩, ⟨x0_2, x0_3⟩⟩ => (frac_short_m ⟨⟨x0_0, x0_1⟩, ⟨x0_2, x0_3⟩⟩).bind fun ⟨x8a, x8b, x8c⟩ => (bif x8c then (frac_ratio_m x8a x8b).bind fun ⟨⟨x15_0, x15_1⟩, ⟨x15_2, x15_3⟩⟩ => some ⟨⟨x15_0, x15_1⟩, ⟨x15_2, x15_3⟩⟩ else (frac_parts_m ⟨⟨x0_0, x0_1⟩, ⟨x0_2, x0_3⟩⟩).bind fun ⟨⟨x17a_0, x17a_1⟩, ⟨x17b_0, x17b_1⟩⟩ => (frac_reduce_m ⟨x17a_0, x17a_1⟩ ⟨x17b_0, x17b_1⟩).bind fun ⟨⟨x20_0, x20_1⟩, ⟨x20_2, x20_3⟩⟩ => some ⟨⟨x20_0, x20_1⟩, ⟨x20_2, x20_3⟩⟩)
noncomputable def frac_Add_m (x0 : Qr) (x1 : Qr) : Option (Qr) := match x0 with | ⟨⟨x0_0, x0_1⟩, ⟨x0_2, x0_3⟩⟩ => match x1 with | ⟨⟨x1_0, x1_1⟩, ⟨x1_2, x1_3⟩⟩ => (frac_short_m ⟨⟨x0_0, x0_1⟩, ⟨x0_2, x0_3⟩⟩).bind fun ⟨x13a, x13b, x13c⟩ => (frac_short_m ⟨⟨x1_0, x1_1⟩, ⟨x1_2, x1_3⟩⟩).bind fun ⟨x19a, x19b, x19c⟩ => letJ (fun (y26j2 : Bool) => (bif y26j2 then (some (IntKind.i64.wrap (x13a * x19b))).bind fun x29 => (some (IntKind.i64.wrap (x19a * x13b))).bind fun x32 => (some (IntKind.i64.wrap (x29 + x32))).bind fun x33 => (some (IntKind.i64.wrap (x13b * x19b))).bind fun x36 => (frac_ratio_m x33 x36).bind fun ⟨⟨x37_0, x37_1⟩, ⟨x37_2, x37_3⟩⟩ => some ⟨⟨x37_0, x37_1⟩, ⟨x37_2, x37_3⟩⟩ else (frac_calcAdd_m ⟨⟨x0_0, x0_1⟩, ⟨x0_2, x0_3⟩⟩ ⟨⟨x1_0, x1_1⟩, ⟨x1_2, x1_3⟩⟩).bind fun ⟨⟨x40_0, x40_1⟩, ⟨x40_2, x40_3⟩⟩ => some ⟨⟨x40_0, x40_1⟩, ⟨x40_2, x40_3⟩⟩)) fun K3 => (bif x13c then some x19c else some false).bind fun c26_4 => K3 c26_4
noncomputable def frac_Sub_m (x0 : Qr) (x1 : Qr) : Option (Qr) := match x0 with | ⟨⟨x0_0, x0_1⟩, ⟨x0_2, x0_3⟩⟩ => match x1 with | ⟨⟨x1_0, x1_1⟩, ⟨x1_2, x1_3⟩⟩ => (frac_short_m ⟨⟨x0_0, x0_1⟩, ⟨x0_2, x0_3⟩⟩).bind fun ⟨x13a, x13b, x13c⟩ => (frac_short_m ⟨⟨x1_0, x1_1⟩, ⟨x1_2, x1_3⟩⟩).bind fun ⟨x19a, x19b, x19c⟩ => letJ (fun (y26j2 : Bool) => (bif y26j2 then (some (IntKind.i64.wrap (x13a * x19b))).bind fun x29 => (some (IntKind.i64.wrap (x19a * x13b))).bind fun x32 => (some (IntKind.i64.wrap (x29 - x32))).bind fun x33 => (some (IntKind.i64.wrap (x13b * x19b))).bind fun x36 => (frac_ratio_m x33 x36).bind fun ⟨⟨x37_0, x37_1⟩, ⟨x37_2, x37_3⟩⟩ => some ⟨⟨x37_0, x37_1⟩, ⟨x37_2, x37_3⟩⟩ else (frac_calcSub_m ⟨⟨x0_0, x0_1⟩, ⟨x0_2, x0_3⟩⟩ ⟨⟨x1_0, x1_1⟩, ⟨x1_2, x1_3⟩⟩).bind fun ⟨⟨x40_0, x40_1⟩, ⟨x40_2, x40_3⟩⟩ => some ⟨⟨x40_0, x40_1⟩, ⟨x40_2, x40_3⟩⟩)) fun K3 => (bif x13c then some x19c else some false).bind fun c26_4 => K3 c26_4
noncomputable def frac_Neg_m (x0 : Qr) : Option (Qr) := match x0 with | ⟨⟨x0_0, x0_1⟩, ⟨x0_2, x0_3⟩⟩ => (frac_Canonical_m ⟨⟨x0_0, x0_1⟩, ⟨x0_2, x0_3⟩⟩).bind fun ⟨⟨x5_0, x5_1⟩, ⟨x5_2, x5_3⟩⟩ => (whole_Neg_m ⟨x5_0, x5_1⟩).bind fun ⟨x8_0, x8_1⟩ => some ⟨⟨x8_0, x8_1⟩, ⟨x5_2, x5_3⟩⟩
noncomputable def frac_Cmp_m (x0 : Qr) (x1 : Qr) : Option (Int) := match x0 with | ⟨⟨x0_0, x0_1⟩, ⟨x0_2, x0_3⟩⟩ => match x1 with | ⟨⟨x1_0, x1_1⟩, ⟨x1_2, x1_3⟩⟩ => (frac_parts_m ⟨⟨x0_0, x0_1⟩, ⟨x0_2, x0_3⟩⟩).bind fun ⟨⟨x13a_0, x13a_1⟩, ⟨x13b_0, x13b_1⟩⟩ => (frac_parts_m ⟨⟨x1_0, x1_1⟩, ⟨x1_2, x1_3⟩⟩).bind fun ⟨⟨x18a_0, x18a_1⟩, ⟨x18b_0, x18b_1⟩⟩ => (whole_Sign_m ⟨x13a_0, x13a_1⟩).bind fun x22 => (whole_Sign_m ⟨x18a_0, x18a_1⟩).bind fun x24 => letJ (fun (y31j2 : Bool) => (bif y31j2 then (some (IntKind.i64.wrap (x22 - x24))).bind fun x34 => (frac_sign_m x34).bind fun x35 => some x35 else (whole_Mul_m ⟨x13a_0, x13a_1⟩ ⟨x18b_0, x18b_1⟩).bind fun ⟨x38_0, x38_1⟩ => (whole_Mul_m ⟨x18a_0, x18a_1⟩ ⟨x13b_0, x13b_1⟩).bind fun ⟨x41_0, x41_1⟩ => (whole_Cmp_m ⟨x38_0, x38_1⟩ ⟨x41_0, x41_1⟩).bind fun x42 => some x42)) fun K3 => (some (decide ((x22 : Int) ≠ x24))).bind fun x27 => (bif x27 then some true else (some (decide ((x22 : Int) = 0))).bind fun x30 => some x30).bind fun c31_4 => K3 c31_4
noncomputable def frac_Floor_m (x0 : Qr) : Option (Zr) := match x0 with | ⟨⟨x0_0, x0_1⟩, ⟨x0_2, x0_3⟩⟩ => (frac_parts_m ⟨⟨x0_0, x0_1⟩, ⟨x0_2, x0_3⟩⟩).bind fun ⟨⟨x8a_0, x8a_1⟩, ⟨x8b_0, x8b_1⟩⟩ => (whole_DivMod_m ⟨x8a_0, x8a_1⟩ ⟨x8b_0, x8b_1⟩).bind fun ⟨⟨x11a_0, x11a_1⟩, ⟨x11b_0, x11b_1⟩, x11c⟩ => some ⟨x11a_0, x11a_1⟩
end Go.Proofs.Ytmiflmkdaeianaa
namespace Go.Proofs.Ytmiflmkdaeianaa
open Go.Fw Go.Fw.Z Go.RowKit
abbrev frac_ops : List (Value × Value) := [(.int .u8 43, .agg #[.func (.func 105) #[] #[]]), (.int .u8 45, .agg #[.func (.func 106) #[] #[]]), (.int .u8 42, .agg #[.func (.func 107) #[] #[]]), (.int .u8 47, .agg #[.func (.func 108) #[] #[]])]
theorem frac_operations_ok : Pure Try.prog 88 [] (mapS frac_ops) := by
 refine pure_of_ok Try.func88 rfl (Nat.le_of_ble_eq_true rfl) (fun wld M vs hvs => ?_)
 refine ok_seq <| ok_region <| RT.asg .none rfl T <| RT.done <| AThen.n <| ok_seq <| ok_map4 (Nat.le_of_ble_eq_true rfl) rfl rfl rfl (fun S' h0 => ?_)
 exact ok_ret (R1 h0)
theorem frac_operations_2_ok {x0 : Zr} {x1 : Zr} {x2 : Zr} {x3 : Zr} {r : Zr × Zr} (h : frac_operations_2_m x0 x1 x2 x3 = some r) : Pure Try.prog 106 [.agg (eZ x0), .agg (eZ x1), .agg (eZ x2), .agg (eZ x3)] (.tup [.agg (eZ r.1), .agg (eZ r.2)]) := by
 obtain ⟨x0_0, x0_1⟩ := x0
 obtain ⟨x1_0, x1_1⟩ := x1
 obtain ⟨x2_0, x2_1⟩ := x2
 obtain ⟨x3_0, x3_1⟩ := x3
 refine pure_of_ok Try.func106 rfl (Nat.le_of_ble_eq_true rfl) (fun wld M vs hvs => ?_)
 unfold frac_operations_2_m at h
 refine sr <| bx rfl <| bx rfl <| bx rfl <| bx rfl <| al (cs := [.v (.bool false), slc 1 (List.map eU32 [])]) (by exact ⟨SV.imp_refl _, imp_nil, trivial⟩) rfl <| al (cs := [.v (.bool false), slc 1 (List.map eU32 [])]) (by exact ⟨SV.imp_refl _, imp_nil, trivial⟩) rfl <| dn <| qq <| ok_region_draw mixed <| ld rfl rfl (.cons rfl (.cons rfl (.nil))) <| ld rfl rfl (.cons rfl (.cons rfl (.nil))) ?_
 obtain ⟨⟨x12_0, x12_1⟩, h12, h⟩ := bS h
 refine cl (whole_Mul_ok h12) ⟨rfl, rfl, trivial⟩ <| ld rfl rfl (.cons rfl (.cons rfl (.nil))) <| ld rfl rfl (.cons rfl (.cons rfl (.nil))) ?_
 obtain ⟨⟨x15_0, x15_1⟩, h15, h⟩ := bS h
 refine cl (whole_Mul_ok h15) ⟨rfl, rfl, trivial⟩ ?_
 obtain ⟨⟨x16_0, x16_1⟩, h16, h⟩ := bS h
 refine cl (whole_Sub_ok h16) ⟨rfl, rfl, trivial⟩ <| ld rfl rfl (.cons rfl (.cons rfl (.nil))) <| ld rfl rfl (.cons rfl (.cons rfl (.nil))) ?_
 obtain ⟨⟨x19_0, x19_1⟩, h19, h⟩ := bS h
 refine cl (whole_Mul_ok h19) ⟨rfl, rfl, trivial⟩ <| so rfl rfl rfl <| so rfl rfl rfl ?_
 refine RT.done ⟨by kernel_rfl, ?_⟩
 refine AThen.n <| ok_ret ?_
 obtain rfl := O h
 exact RZ (.agg rfl rfl (.cons rfl (.cons rfl (.nil))) rfl (.agg rfl rfl (.cons rfl (.cons rfl (.nil))) rfl (.nil)))
theorem frac_parts_ok {x0 : Qr} {r : Zr × Zr} (h : frac_parts_m x0 = some r) : Pure Try.prog 65 [.agg (eQ x0)] (.tup [.agg (eZ r.1), .agg (eZ r.2)]) := by
 obtain ⟨⟨x0_0, x0_1⟩, ⟨x0_2, x0_3⟩⟩ := x0
 refine pure_of_ok Try.func65 rfl (Nat.le_of_ble_eq_true rfl) (fun wld M vs hvs => ?_)
 unfold frac_parts_m at h
 refine sr <| bx rfl <| al (cs := [.v (.bool false), slc 1 (List.map eU32 [])]) (by exact ⟨SV.imp_refl _, imp_nil, trivial⟩) rfl <| al (cs := [.v (.bool false), slc 1 (List.map eU32 [])]) (by exact ⟨SV.imp_refl _, imp_nil, trivial⟩) rfl <| dn <| qq <| sr <| fa rfl rfl <| ld rfl rfl (.cons rfl (.cons rfl (.nil))) <| bE h fun x6 h6 h => cl (whole_Sign_ok h6) ⟨rfl, trivial⟩ <| dn <| ok_block <| sr <| lE h fun x8 h8 h => eq _ rfl rfl (eqI (p := x6) (q := 0) h8) ?_
 refine ag rfl <| dn ?_
 cases x8
 refine cF <| sr <| lE (F h) fun x13 h13 h => eq _ rfl rfl (eqI (p := x6) (q := (-1)) h13) <| ag rfl <| dn ?_
 cases x13
 refine cF <| ok_skip <| AInB.n <| AThen.n <| qq <| ok_region_draw mixed <| fa rfl rfl <| ld rfl rfl (.cons rfl (.cons rfl (.nil))) <| fa rfl rfl <| ld rfl rfl (.cons rfl (.cons rfl (.nil))) <| so rfl rfl rfl <| so rfl rfl rfl ?_
 refine RT.done ⟨by kernel_rfl, ?_⟩
 refine AThen.n <| ok_ret ?_
 obtain rfl := O (F h)
 exact RZ (.agg rfl rfl (.cons rfl (.cons rfl (.nil))) rfl (.agg rfl rfl (.cons rfl (.cons rfl (.nil))) rfl (.nil)))
 refine cT <| qq <| ok_region_draw mixed <| fa rfl rfl <| ld rfl rfl (.cons rfl (.cons rfl (.nil))) ?_
 obtain ⟨⟨x16_0, x16_1⟩, h16, h⟩ := bS (V h)
 refine cl (whole_Neg_ok h16) ⟨rfl, trivial⟩ <| fa rfl rfl <| ld rfl rfl (.cons rfl (.cons rfl (.nil))) ?_
 obtain ⟨⟨x19_0, x19_1⟩, h19, h⟩ := bS h
 refine cl (whole_Neg_ok h19) ⟨rfl, trivial⟩ <| so rfl rfl rfl <| so rfl rfl rfl ?_
 refine RT.done ⟨by kernel_rfl, ?_⟩
 refine AThen.n <| ok_ret <| AInB.r <| AThen.r ?_
 obtain rfl := O h
 exact RZ (.agg rfl rfl (.cons rfl (.cons rfl (.nil))) rfl (.agg rfl rfl (.cons rfl (.cons rfl (.nil))) rfl (.nil)))
 refine cT <| qq <| ok_region_draw mixed <| fa rfl rfl <| ld rfl rfl (.cons rfl (.cons rfl (.nil))) ?_
 obtain ⟨⟨x11_0, x11_1⟩, h11, h⟩ := bS (V h)
 refine cl (whole_FromInt64_ok h11) ⟨rfl, trivial⟩ <| so rfl rfl rfl <| so rfl rfl rfl ?_
 refine RT.done ⟨by kernel_rfl, ?_⟩
 refine AThen.n <| ok_ret <| AInB.r <| AThen.r ?_
 obtain rfl := O h
 exact RZ (.agg rfl rfl (.cons rfl (.cons rfl (.nil))) rfl (.agg rfl rfl (.cons rfl (.cons rfl (.nil))) rfl (.nil)))
theorem frac_reduce_ok {x0 : Zr} {x1 : Zr} {r : Qr} (h : frac_reduce_m x0 x1 = some r) : Pure Try.prog 73 [.agg (eZ x0), .agg (eZ x1)] (.agg (eQ r)) := by
 obtain ⟨x0_0, x0_1⟩ := x0
 obtain ⟨x1_0, x1_1⟩ := x1
 refine pure_of_ok Try.func73 rfl (Nat.le_of_ble_eq_true rfl) (fun wld M vs hvs => ?_)
 unfold frac_reduce_m at h
 refine sr <| bx rfl <| bx rfl <| al (cs := [.v (.bool false), slc 1 (List.map eU32 []), .v (.bool false), slc 1 (List.map eU32 [])]) (by exact ⟨SV.imp_refl _, imp_nil, SV.imp_refl _, imp_nil, trivial⟩) rfl <| dn <| qq <| sr <| ld rfl rfl (.cons rfl (.cons rfl (.nil))) <| bE h fun x9 h9 h => cl (whole_Sign_ok h9) ⟨rfl, trivial⟩ <| lE h fun x10 h10 h => ls _ rfl rfl h10 <| dn ?_
 refine ok_tailJ h (fun j2 => AS.mkL 46 [(2, .ptr 2 0), (3, .ptr 3 0), (4, .ptr 4 0)] [(4, ⟨26, [.sv (.v (.bool false)), .sv (slc 1 (List.map eU32 [])), .sv (.v (.bool false)), .sv (slc 1 (List.map eU32 []))]⟩), (3, ⟨24, [.sv (.v (.bool j2.1)), .sv (slc 1 (List.map eU32 j2.2.1))]⟩), (2, ⟨24, [.sv (.v (.bool j2.2.2.1)), .sv (slc 1 (List.map eU32 j2.2.2.2))]⟩)] []) (fun h => ?_) (fun j2 h => ?_)
 cases x10
 exact fs <| ⟨(x1_0, x1_1, x0_0, x0_1), (F h), wR []⟩
 refine cT <| ok_region_draw mixed <| ld rfl rfl (.cons rfl (.cons rfl (.nil))) ?_
 obtain ⟨⟨x12_0, x12_1⟩, h12, h⟩ := bS (V h)
 refine cl (whole_Neg_ok h12) ⟨rfl, trivial⟩ <| ld rfl rfl (.cons rfl (.cons rfl (.nil))) ?_
 obtain ⟨⟨x14_0, x14_1⟩, h14, h⟩ := bS h
 refine cl (whole_Neg_ok h14) ⟨rfl, trivial⟩ <| so rfl rfl rfl <| so rfl rfl rfl ?_
 refine RT.done ⟨by kernel_rfl, ?_⟩
 exact AThen.n <| ⟨(x14_0, x14_1, x12_0, x12_1), h, wR []⟩
 obtain ⟨b3_0j1, b3_1j1, b2_0j1, b2_1j1⟩ := j2
 try dsimp only
 refine AThen.n <| sr <| ld rfl rfl (.cons rfl (.cons rfl (.nil))) <| ld rfl rfl (.cons rfl (.cons rfl (.nil))) ?_
 obtain ⟨⟨x17_0, x17_1⟩, h17, h⟩ := bS h
 refine cl (whole_GCD_ok h17) ⟨rfl, rfl, trivial⟩ <| al (cs := [.v (.bool false), slc 1 (List.map eU32 [])]) (by exact ⟨SV.imp_refl _, imp_nil, trivial⟩) rfl <| so rfl rfl rfl <| dn <| sr <| ld rfl rfl (.cons rfl (.cons rfl (.nil))) <| ld rfl rfl (.cons rfl (.cons rfl (.nil))) ?_
 obtain ⟨⟨⟨x21a_0, x21a_1⟩, ⟨x21b_0, x21b_1⟩, x21c⟩, h21, h⟩ := bS h
 refine cl (whole_DivMod_ok h21) ⟨rfl, rfl, trivial⟩ <| mv rfl <| ex rfl rfl <| ex rfl rfl <| ex rfl rfl <| so rfl rfl rfl <| dn <| sr <| ld rfl rfl (.cons rfl (.cons rfl (.nil))) <| ld rfl rfl (.cons rfl (.cons rfl (.nil))) ?_
 obtain ⟨⟨⟨x28a_0, x28a_1⟩, ⟨x28b_0, x28b_1⟩, x28c⟩, h28, h⟩ := bS h
 refine cl (whole_DivMod_ok h28) ⟨rfl, rfl, trivial⟩ <| mv rfl <| ex rfl rfl <| ex rfl rfl <| ex rfl rfl <| so rfl rfl rfl <| dn <| qq <| sr <| ld rfl rfl (.cons rfl (.cons rfl (.nil))) ?_
 obtain ⟨⟨x34a, x34b⟩, h34, h⟩ := bS h
 refine cl (whole_Int64_ok h34) ⟨rfl, trivial⟩ <| mv rfl <| ex rfl rfl <| ex rfl rfl <| ag rfl <| ag rfl <| dn <| qq ?_
 refine ok_tailJ h (fun j5 => AS.mkL 46 [(2, .ptr 2 0), (3, .ptr 3 0), (4, .ptr 4 0), (41, .sv (.v (.bool j5)))] [(4, ⟨26, [.sv (.v (.bool false)), .sv (slc 1 (List.map eU32 [])), .sv (.v (.bool false)), .sv (slc 1 (List.map eU32 []))]⟩), (3, ⟨24, [.sv (.v (.bool x28a_0)), .sv (slc 1 (List.map eU32 x28a_1))]⟩), (2, ⟨24, [.sv (.v (.bool x21a_0)), .sv (slc 1 (List.map eU32 x21a_1))]⟩)] []) (fun h => ?_) (fun y41j4 h => ?_)
 refine ok_region <| mv rfl <| mv rfl <| bE h fun c41_8 hg8 h => ?_
 cases x34b
 obtain rfl := O (F hg8)
 exact ww <| ww <| pF rfl <| dn <| ⟨false, h, wR []⟩
 refine gm rfl <| lE (V hg8) fun x40 h40 hg8 => ge_ _ rfl rfl (eqI (p := x34a) (q := 1) h40) ?_
 obtain rfl := O hg8
 exact pT rfl <| dn <| ⟨x40, h, wR []⟩
 try dsimp only
 refine AThen.n ?_
 refine ok_tailJ h (fun j7 => AS.mkL 46 [(2, .ptr 2 0), (3, .ptr 3 0), (4, .ptr 4 0)] [(4, ⟨26, [.sv (.v (.bool false)), .sv (slc 1 (List.map eU32 [])), .sv (.v (.bool false)), .sv (slc 1 (List.map eU32 []))]⟩), (3, ⟨24, [.sv (.v (.bool j7.1)), .sv (slc 1 (List.map eU32 j7.2))]⟩), (2, ⟨24, [.sv (.v (.bool x21a_0)), .sv (slc 1 (List.map eU32 x21a_1))]⟩)] []) (fun h => ?_) (fun j7 h => ?_)
 cases y41j4
 exact fs <| ⟨(x28a_0, x28a_1), (F h), wR []⟩
 exact cT <| ok_region <| bI (cs := [_, _]) (cs' := [.v (.bool false), slc 1 (List.map eU32 [])]) (.nil) ⟨SV.imp_refl _, imp_nil, trivial⟩ <| so rfl rfl rfl <| dn <| ⟨(false, []), (V h), wR []⟩
 obtain ⟨b3_0j6, b3_1j6⟩ := j7
 try dsimp only
 refine AThen.n <| sr <| ld rfl rfl (.cons rfl (.cons rfl (.nil))) <| ld rfl rfl (.cons rfl (.cons rfl (.nil))) <| bI (cs := [_, _, _, _]) (cs' := [.v (.bool x21a_0), slc 1 (List.map eU32 x21a_1), .v (.bool b3_0j6), slc 1 (List.map eU32 b3_1j6)]) (.agg rfl (.agg rfl (.nil))) ⟨SV.imp_refl _, SV.imp_refl _, SV.imp_refl _, SV.imp_refl _, trivial⟩ <| so rfl rfl rfl <| dn <| ok_ret ?_
 obtain rfl := O h
 exact RZ (.agg rfl rfl (.cons rfl (.cons rfl (.cons rfl (.cons rfl (.nil))))) rfl (.nil))
theorem frac_short_ok {x0 : Qr} {r : Int × Int × Bool} (h : frac_short_m x0 = some r) : Pure Try.prog 61 [.agg (eQ x0)] (.tup [.v (.int .i64 r.1), .v (.int .i64 r.2.1), .v (.bool r.2.2)]) := by
 obtain ⟨⟨x0_0, x0_1⟩, ⟨x0_2, x0_3⟩⟩ := x0
 refine pure_of_ok Try.func61 rfl (Nat.le_of_ble_eq_true rfl) (fun wld M vs hvs => ?_)
 unfold frac_short_m at h
 refine sr <| bx rfl <| ag rfl <| ag rfl <| ag rfl <| dn <| sr <| fa rfl rfl <| ld rfl rfl (.cons rfl (.cons rfl (.nil))) ?_
 obtain ⟨⟨x10a, x10b⟩, h10, h⟩ := bS h
 refine cl (whole_Int64_ok h10) ⟨rfl, trivial⟩ <| mv rfl <| ex rfl rfl <| ex rfl rfl <| ag rfl <| ag rfl <| dn <| sr <| fa rfl rfl <| ld rfl rfl (.cons rfl (.cons rfl (.nil))) ?_
 obtain ⟨⟨x16a, x16b⟩, h16, h⟩ := bS h
 refine cl (whole_Int64_ok h16) ⟨rfl, trivial⟩ <| mv rfl <| ex rfl rfl <| ex rfl rfl <| ag rfl <| ag rfl <| dn <| qq <| qq ?_
 refine ok_tailJ h (fun j21 => AS.mkL 53 [(2, .sv (.v (.int .i64 x10a))), (3, .sv (.v (.int .i64 x16a))), (40, .sv (.v (.bool j21)))] [] []) (fun h => ?_) (fun y40j20 h => ?_)
 refine ok_region <| mv rfl <| lE h fun x20 h20 h => nt rfl _ h20 <| mv rfl <| bE h fun c24_27 hg27 h => ?_
 cases x20
 refine gm rfl <| lE (F hg27) fun x23 h23 hg27 => gt_ rfl _ h23 ?_
 obtain rfl := O hg27
 refine pF rfl <| mv rfl <| bE h fun c28_28 hg28 h => ?_
 cases x23
 refine gm rfl <| lE (F hg28) fun x27 h27 hg28 => RT.leq (.some rfl rfl) _ rfl rfl T h27 ?_
 obtain rfl := O hg28
 refine pF rfl <| mv rfl <| bE h fun c32_29 hg29 h => ?_
 cases x27
 refine gm rfl <| lE (F hg29) fun x31 h31 hg29 => RT.geq (.some rfl rfl) _ rfl rfl T h31 ?_
 obtain rfl := O hg29
 refine pF rfl <| mv rfl <| bE h fun c36_30 hg30 h => ?_
 cases x31
 refine gm rfl <| lE (F hg30) fun x35 h35 hg30 => RT.leq (.some rfl rfl) _ rfl rfl T h35 ?_
 obtain rfl := O hg30
 refine pF rfl <| mv rfl <| bE h fun c40_31 hg31 h => ?_
 cases x35
 refine gm rfl <| lE (F hg31) fun x39 h39 hg31 => RT.geq (.some rfl rfl) _ rfl rfl T h39 ?_
 obtain rfl := O hg31
 exact pF rfl <| dn <| ⟨x39, h, wR []⟩
 obtain rfl := O (V hg31)
 exact ww <| ww <| pT rfl <| dn <| ⟨true, h, wR []⟩
 obtain rfl := O (V hg30)
 refine ww <| ww <| pT rfl <| mv rfl <| bE h fun c40_32 hg32 h => ?_
 obtain rfl := O (V hg32)
 exact ww <| ww <| pT rfl <| dn <| ⟨true, h, wR []⟩
 obtain rfl := O (V hg29)
 refine ww <| ww <| pT rfl <| mv rfl <| bE h fun c36_33 hg33 h => ?_
 obtain rfl := O (V hg33)
 refine ww <| ww <| pT rfl <| mv rfl <| bE h fun c40_34 hg34 h => ?_
 obtain rfl := O (V hg34)
 exact ww <| ww <| pT rfl <| dn <| ⟨true, h, wR []⟩
 obtain rfl := O (V hg28)
 refine ww <| ww <| pT rfl <| mv rfl <| bE h fun c32_35 hg35 h => ?_
 obtain rfl := O (V hg35)
 refine ww <| ww <| pT rfl <| mv rfl <| bE h fun c36_36 hg36 h => ?_
 obtain rfl := O (V hg36)
 refine ww <| ww <| pT rfl <| mv rfl <| bE h fun c40_37 hg37 h => ?_
 obtain rfl := O (V hg37)
 exact ww <| ww <| pT rfl <| dn <| ⟨true, h, wR []⟩
 obtain rfl := O (V hg27)
 refine ww <| ww <| pT rfl <| mv rfl <| bE h fun c28_38 hg38 h => ?_
 obtain rfl := O (V hg38)
 refine ww <| ww <| pT rfl <| mv rfl <| bE h fun c32_39 hg39 h => ?_
 obtain rfl := O (V hg39)
 refine ww <| ww <| pT rfl <| mv rfl <| bE h fun c36_40 hg40 h => ?_
 obtain rfl := O (V hg40)
 refine ww <| ww <| pT rfl <| mv rfl <| bE h fun c40_41 hg41 h => ?_
 obtain rfl := O (V hg41)
 exact ww <| ww <| pT rfl <| dn <| ⟨true, h, wR []⟩
 try dsimp only
 refine AThen.n ?_
 cases y40j20
 refine fs <| qq <| ok_block <| sr <| mv rfl <| lE (F h) fun x43 h43 h => eq _ rfl rfl (eqI (p := x16a) (q := 0) h43) <| ag rfl <| dn ?_
 refine ok_tailJ h (fun j24 => AS.mkL 53 [(2, .sv (.v (.int .i64 j24.1))), (3, .sv (.v (.int .i64 j24.2)))] [] []) (fun h => ?_) (fun j24 h => ?_)
 cases x43
 refine cF <| sr <| mv rfl <| lE (F h) fun x46 h46 h => ls _ rfl rfl h46 <| ag rfl <| dn ?_
 refine ok_tailJ h (fun j26 => AS.mkL 53 [(2, .sv (.v (.int .i64 j26.1))), (3, .sv (.v (.int .i64 j26.2)))] [] []) (fun h => ?_) (fun j26 h => ?_)
 cases x46
 exact fs <| ⟨(x10a, x16a), (F h), wR []⟩
 exact cT <| ok_region <| mv rfl <| lE (V h) fun x48 h48 h => RT.neg .none _ rfl T h48 <| mv rfl <| lE h fun x50 h50 h => RT.neg .none _ rfl T h50 <| ag rfl <| ag rfl <| dn <| ⟨(x48, x50), h, wR []⟩
 obtain ⟨y2j25, y3j25⟩ := j26
 try dsimp only
 exact AThen.n <| ⟨(y2j25, y3j25), h, wR []⟩
 exact cT <| ok_region <| ag rfl <| dn <| ⟨(x10a, 1), (V h), wR []⟩
 obtain ⟨y2j23, y3j23⟩ := j24
 try dsimp only
 refine AInB.n <| AThen.n <| sr <| mv rfl <| mv rfl <| ag rfl <| ag rfl <| ag rfl <| dn <| ok_ret ?_
 obtain rfl := O h
 exact RZ (.tmp rfl (.tmp rfl (.tmp rfl (.nil))))
 refine cT <| sr <| ag rfl <| ag rfl <| ag rfl <| dn <| ok_ret <| AThen.r ?_
 obtain rfl := O (V h)
 exact RZ (.tmp rfl (.tmp rfl (.tmp rfl (.nil))))
theorem frac_ratio_ok {x0 : Int} {x1 : Int} {r : Qr} (h : frac_ratio_m x0 x1 = some r) : Pure Try.prog 62 [.v (.int .i64 x0), .v (.int .i64 x1)] (.agg (eQ r)) := by
 refine pure_of_ok Try.func62 rfl (Nat.le_of_ble_eq_true rfl) (fun wld M vs hvs => ?_)
 unfold frac_ratio_m at h
 refine sr <| al (cs := [.v (.bool false), slc 1 (List.map eU32 []), .v (.bool false), slc 1 (List.map eU32 [])]) (by exact ⟨SV.imp_refl _, imp_nil, SV.imp_refl _, imp_nil, trivial⟩) rfl <| dn <| sr <| mv rfl <| mv rfl <| ag rfl <| ag rfl <| dn <| qq <| bE h fun e6 hl6 ho6 => ?_
 refine ok_tailP (fun (y5e5 : Int) => AS.mkL 36 [(0, .sv (.v (.int .i64 x0))), (1, .sv (.v (.int .i64 x1))), (4, .ptr 4 0), (5, .sv (.v (.int .i64 y5e5)))] [(4, ⟨26, [.sv (.v (.bool false)), .sv (slc 1 (List.map eU32 [])), .sv (.v (.bool false)), .sv (slc 1 (List.map eU32 []))]⟩)] []) (fun y5e5 => y5e5 = e6) ?_ (fun y5e5 hx6 => ?_)
 refine ok_block ?_
 refine ok_loopM hl6 (fun s6 => AS.mkL 36 [(0, .sv (.v (.int .i64 x0))), (1, .sv (.v (.int .i64 x1))), (4, .ptr 4 0), (5, .sv (.v (.int .i64 s6.1))), (6, .sv (.v (.int .i64 s6.2)))] [(4, ⟨26, [.sv (.v (.bool false)), .sv (slc 1 (List.map eU32 [])), .sv (.v (.bool false)), .sv (slc 1 (List.map eU32 []))]⟩)] []) (wR []) (fun s6 y6 G6 h hG6 hE6 => ?_)
 obtain ⟨y5l3, y6l3⟩ := s6
 try dsimp only
 refine qq <| sr <| mv rfl <| lE h fun x10 h10 h => ne _ rfl rfl (neI (p := y6l3) (q := 0) h10) <| dn ?_
 cases x10
 refine cF <| ok_exit <| AThen.x <| AThen.x <| AInB.x <| AThen.n ?_
 obtain rfl := O (F h)
 exact ⟨y5l3, hE6 _ rfl, wR []⟩
 refine cT <| ok_skip <| AThen.n <| ok_block <| ok_region_draw mixed <| mv rfl <| mv rfl <| mv rfl <| bE (V h) fun x14 h14 h => RT.rem .none _ rfl rfl T (nzRI h14) (remI h14) <| ag rfl <| ag rfl ?_
 refine RT.done ⟨by kernel_rfl, ?_⟩
 refine AInB.n ?_
 obtain rfl := O h
 exact AThen.n ⟨(y6l3, x14), hG6 _ rfl, wR []⟩
 subst hx6
 try dsimp only
 refine AThen.n <| qq <| sr <| mv rfl <| lE ho6 fun x16 h16 ho6 => ls _ rfl rfl h16 <| dn ?_
 refine ok_tailJ ho6 (fun j8 => AS.mkL 36 [(0, .sv (.v (.int .i64 x0))), (1, .sv (.v (.int .i64 x1))), (4, .ptr 4 0), (5, .sv (.v (.int .i64 j8)))] [(4, ⟨26, [.sv (.v (.bool false)), .sv (slc 1 (List.map eU32 [])), .sv (.v (.bool false)), .sv (slc 1 (List.map eU32 []))]⟩)] []) (fun ho6 => ?_) (fun y5j7 ho6 => ?_)
 cases x16
 exact fs <| ⟨y5e5, (F ho6), wR []⟩
 exact cT <| ok_region <| mv rfl <| lE (V ho6) fun x18 h18 ho6 => RT.neg .none _ rfl T h18 <| ag rfl <| dn <| ⟨x18, ho6, wR []⟩
 try dsimp only
 refine AThen.n <| qq <| sr <| mv rfl <| mv rfl <| lE ho6 fun x21 h21 ho6 => eq _ rfl rfl (eqI (p := y5j7) (q := x1) h21) <| dn ?_
 cases x21
 refine fs <| qq <| ok_region_draw mixed <| mv rfl <| mv rfl <| bE (F ho6) fun x29 h29 ho6 => RT.quo .none _ rfl rfl T (nzI h29) (quoI h29) ?_
 obtain ⟨⟨x30_0, x30_1⟩, h30, ho6⟩ := bS ho6
 refine cl (whole_FromInt64_ok h30) ⟨rfl, trivial⟩ <| mv rfl <| mv rfl <| bE ho6 fun x33 h33 ho6 => RT.quo .none _ rfl rfl T (nzI h33) (quoI h33) ?_
 obtain ⟨⟨x34_0, x34_1⟩, h34, ho6⟩ := bS ho6
 refine cl (whole_FromInt64_ok h34) ⟨rfl, trivial⟩ <| bI (cs := [_, _, _, _]) (cs' := [.v (.bool x30_0), slc 1 (List.map eU32 x30_1), .v (.bool x34_0), slc 1 (List.map eU32 x34_1)]) (.agg rfl (.agg rfl (.nil))) ⟨SV.imp_refl _, SV.imp_refl _, SV.imp_refl _, SV.imp_refl _, trivial⟩ <| so rfl rfl rfl ?_
 refine RT.done ⟨by kernel_rfl, ?_⟩
 refine AThen.n <| ok_ret ?_
 obtain rfl := O ho6
 exact RZ (.agg rfl rfl (.cons rfl (.cons rfl (.cons rfl (.cons rfl (.nil))))) rfl (.nil))
 refine cT <| sr <| mv rfl <| mv rfl <| bE (V ho6) fun x24 h24 ho6 => RT.quo .none _ rfl rfl T (nzI h24) (quoI h24) ?_
 obtain ⟨⟨x25_0, x25_1⟩, h25, ho6⟩ := bS ho6
 refine cl (whole_FromInt64_ok h25) ⟨rfl, trivial⟩ <| bI (cs := [_, _, _, _]) (cs' := [.v (.bool x25_0), slc 1 (List.map eU32 x25_1), .v (.bool false), slc 1 (List.map eU32 [])]) (.agg rfl (.nil)) ⟨SV.imp_refl _, SV.imp_refl _, SV.imp_refl _, imp_nil, trivial⟩ <| so rfl rfl rfl <| dn <| ok_ret <| AThen.r ?_
 obtain rfl := O ho6
 exact RZ (.agg rfl rfl (.cons rfl (.cons rfl (.cons rfl (.cons rfl (.nil))))) rfl (.nil))
theorem frac_sign_ok {x0 : Int} {r : Int} (h : frac_sign_m x0 = some r) : Pure Try.prog 66 [.v (.int .i64 x0)] (.v (.int .i64 r)) := by
 refine pure_of_ok Try.func66 rfl (Nat.le_of_ble_eq_true rfl) (fun wld M vs hvs => ?_)
 unfold frac_sign_m at h
 refine sr <| ag rfl <| dn <| qq <| ok_block <| sr <| mv rfl <| lE h fun x5 h5 h => ls _ rfl rfl h5 <| ag rfl <| dn ?_
 cases x5
 refine cF <| sr <| mv rfl <| lE (F h) fun x8 h8 h => gt _ rfl rfl h8 <| ag rfl <| dn ?_
 cases x8
 refine cF <| ok_skip <| AInB.n <| AThen.n <| sr <| ag rfl <| dn <| ok_ret ?_
 obtain rfl := O (F h)
 exact R1 rfl
 refine cT <| sr <| ag rfl <| dn <| ok_ret <| AInB.r <| AThen.r ?_
 obtain rfl := O (V h)
 exact R1 rfl
 refine cT <| sr <| ag rfl <| dn <| ok_ret <| AInB.r <| AThen.r ?_
 obtain rfl := O (V h)
 exact R1 rfl
theorem frac_copyOf_ok {x0 : Zr} {r : Zr} (h : frac_copyOf_m x0 = some r) : Pure Try.prog 64 [.agg (eZ x0)] (.agg (eZ r)) := by
 obtain ⟨x0_0, x0_1⟩ := x0
 refine pure_of_ok Try.func64 rfl (Nat.le_of_ble_eq_true rfl) (fun wld M vs hvs => ?_)
 unfold frac_copyOf_m at h
 refine sr <| bx rfl <| al (cs := [.v (.bool false), slc 1 (List.map eU32 [])]) (by exact ⟨SV.imp_refl _, imp_nil, trivial⟩) rfl <| dn <| sr <| ld rfl rfl (.cons rfl (.cons rfl (.nil))) <| bI (cs := [_, _]) (cs' := [.v (.bool false), slc 1 (List.map eU32 [])]) (.nil) ⟨SV.imp_refl _, imp_nil, trivial⟩ ?_
 obtain ⟨⟨x5_0, x5_1⟩, h5, h⟩ := bS h
 refine cl (whole_Add_ok h5) ⟨rfl, rfl, trivial⟩ <| so rfl rfl rfl <| dn <| ok_ret ?_
 obtain rfl := O h
 exact RZ (.agg rfl rfl (.cons rfl (.cons rfl (.nil))) rfl (.nil))
theorem frac_calcSub_ok {x1 : Qr} {x2 : Qr} {r : Qr} (h : frac_calcSub_m x1 x2 = some r) : Pure Try.prog 63 [.v (.int .u8 ((45 : Nat) : Int)), .agg (eQ x1), .agg (eQ x2)] (.agg (eQ r)) := by
 obtain ⟨⟨x1_0, x1_1⟩, ⟨x1_2, x1_3⟩⟩ := x1
 obtain ⟨⟨x2_0, x2_1⟩, ⟨x2_2, x2_3⟩⟩ := x2
 refine pure_of_ok Try.func63 rfl (Nat.le_of_ble_eq_true rfl) (fun wld M vs hvs => ?_)
 unfold frac_calcSub_m at h
 refine sr <| bx rfl <| bx rfl <| al (cs := [.v (.bool false), slc 1 (List.map eU32 []), .v (.bool false), slc 1 (List.map eU32 [])]) (by exact ⟨SV.imp_refl _, imp_nil, SV.imp_refl _, imp_nil, trivial⟩) rfl <| dn <| sr <| ld rfl rfl (.cons rfl (.cons rfl (.cons rfl (.cons rfl (.nil))))) ?_
 obtain ⟨⟨⟨x13a_0, x13a_1⟩, ⟨x13b_0, x13b_1⟩⟩, h13, h⟩ := bS h
 refine cl (frac_parts_ok h13) ⟨rfl, trivial⟩ <| mv rfl <| ex rfl rfl <| ex rfl rfl <| al (cs := [.v (.bool false), slc 1 (List.map eU32 [])]) (by exact ⟨SV.imp_refl _, imp_nil, trivial⟩) rfl <| al (cs := [.v (.bool false), slc 1 (List.map eU32 [])]) (by exact ⟨SV.imp_refl _, imp_nil, trivial⟩) rfl <| so rfl rfl rfl <| so rfl rfl rfl <| dn <| sr <| ld rfl rfl (.cons rfl (.cons rfl (.cons rfl (.cons rfl (.nil))))) ?_
 obtain ⟨⟨⟨x18a_0, x18a_1⟩, ⟨x18b_0, x18b_1⟩⟩, h18, h⟩ := bS h
 refine cl (frac_parts_ok h18) ⟨rfl, trivial⟩ <| mv rfl <| ex rfl rfl <| ex rfl rfl <| al (cs := [.v (.bool false), slc 1 (List.map eU32 [])]) (by exact ⟨SV.imp_refl _, imp_nil, trivial⟩) rfl <| al (cs := [.v (.bool false), slc 1 (List.map eU32 [])]) (by exact ⟨SV.imp_refl _, imp_nil, trivial⟩) rfl <| so rfl rfl rfl <| so rfl rfl rfl <| dn <| qq <| ok_region_draw mixed <| cl frac_operations_ok trivial <| mv rfl ?_
 refine RT.look .none [.func (.func 106) #[] #[]] rfl rfl rfl T <| fl rfl rfl <| ld rfl rfl (.cons rfl (.cons rfl (.nil))) <| ld rfl rfl (.cons rfl (.cons rfl (.nil))) <| ld rfl rfl (.cons rfl (.cons rfl (.nil))) <| ld rfl rfl (.cons rfl (.cons rfl (.nil))) ?_
 obtain ⟨⟨⟨x29a_0, x29a_1⟩, ⟨x29b_0, x29b_1⟩⟩, h29, h⟩ := bS h
 refine cl (frac_operations_2_ok h29) ⟨rfl, rfl, rfl, rfl, trivial⟩ <| ex rfl rfl <| ex rfl rfl ?_
 obtain ⟨⟨⟨x32_0, x32_1⟩, ⟨x32_2, x32_3⟩⟩, h32, h⟩ := bS h
 refine cl (frac_reduce_ok h32) ⟨rfl, rfl, trivial⟩ <| so rfl rfl rfl ?_
 refine RT.done ⟨by kernel_rfl, ?_⟩
 refine AThen.n <| ok_ret ?_
 obtain rfl := O h
 exact RZ (.agg rfl rfl (.cons rfl (.cons rfl (.cons rfl (.cons rfl (.nil))))) rfl (.nil))
end Go.Proofs.Ytmiflmkdaeianaa
namespace Go.Proofs.Ytmiflmkdaeianaa
open Go.Fw Go.Fw.Z Go.RowKit
theorem frac_New_ok {x0 : Int} {x1 : Int} {r : Qr × Int} (h : frac_New_m x0 x1 = some r) : Pure Try.prog 40 [.v (.int .i64 x0), .v (.int .i64 x1)] (.tup [.agg (eQ r.1), .v (.int .i64 r.2)]) := by
 refine pure_of_ok Try.func40 rfl (Nat.le_of_ble_eq_true rfl) (fun wld M vs hvs => ?_)
 unfold frac_New_m at h
 refine sr <| al (cs := [.v (.bool false), slc 1 (List.map eU32 []), .v (.bool false), slc 1 (List.map eU32 [])]) (by exact ⟨SV.imp_refl _, imp_nil, SV.imp_refl _, imp_nil, trivial⟩) rfl <| ag rfl <| dn <| qq <| sr <| mv rfl <| lE h fun x7 h7 h => eq _ rfl rfl (eqI (p := x1) (q := 0) h7) <| dn ?_
 cases x7
 refine fs <| sr <| mv rfl ?_
 obtain ⟨⟨x10_0, x10_1⟩, h10, h⟩ := bS (F h)
 refine cl (whole_FromInt64_ok h10) ⟨rfl, trivial⟩ <| mv rfl ?_
 obtain ⟨⟨x12_0, x12_1⟩, h12, h⟩ := bS h
 refine cl (whole_FromInt64_ok h12) ⟨rfl, trivial⟩ ?_
 obtain ⟨⟨⟨x13_0, x13_1⟩, ⟨x13_2, x13_3⟩⟩, h13, h⟩ := bS h
 refine cl (frac_reduce_ok h13) ⟨rfl, rfl, trivial⟩ <| so rfl rfl rfl <| ag rfl <| dn <| ok_ret ?_
 obtain rfl := O h
 exact RZ (.agg rfl rfl (.cons rfl (.cons rfl (.cons rfl (.cons rfl (.nil))))) rfl (.tmp rfl (.nil)))
 refine cT <| sr <| bI (cs := [_, _, _, _]) (cs' := [.v (.bool false), slc 1 (List.map eU32 []), .v (.bool false), slc 1 (List.map eU32 [])]) (.nil) ⟨SV.imp_refl _, imp_nil, SV.imp_refl _, imp_nil, trivial⟩ <| so rfl rfl rfl <| ag rfl <| dn <| ok_ret <| AThen.r ?_
 obtain rfl := O (V h)
 exact RZ (.agg rfl rfl (.cons rfl (.cons rfl (.cons rfl (.cons rfl (.nil))))) rfl (.tmp rfl (.nil)))
theorem frac_FromInteger_ok {x0 : Zr} {r : Qr} (h : frac_FromInteger_m x0 = some r) : Pure Try.prog 32 [.agg (eZ x0)] (.agg (eQ r)) := by
 obtain ⟨x0_0, x0_1⟩ := x0
 refine pure_of_ok Try.func32 rfl (Nat.le_of_ble_eq_true rfl) (fun wld M vs hvs => ?_)
 unfold frac_FromInteger_m at h
 refine sr <| bx rfl <| al (cs := [.v (.bool false), slc 1 (List.map eU32 []), .v (.bool false), slc 1 (List.map eU32 [])]) (by exact ⟨SV.imp_refl _, imp_nil, SV.imp_refl _, imp_nil, trivial⟩) rfl <| dn <| sr <| ld rfl rfl (.cons rfl (.cons rfl (.nil))) ?_
 obtain ⟨⟨x4_0, x4_1⟩, h4, h⟩ := bS h
 refine cl (frac_copyOf_ok h4) ⟨rfl, trivial⟩ <| bI (cs := [_, _, _, _]) (cs' := [.v (.bool x4_0), slc 1 (List.map eU32 x4_1), .v (.bool false), slc 1 (List.map eU32 [])]) (.agg rfl (.nil)) ⟨SV.imp_refl _, SV.imp_refl _, SV.imp_refl _, imp_nil, trivial⟩ <| so rfl rfl rfl <| dn <| ok_ret ?_
 obtain rfl := O h
 exact RZ (.agg rfl rfl (.cons rfl (.cons rfl (.cons rfl (.cons rfl (.nil))))) rfl (.nil))
theorem frac_Sub_ok {x0 : Qr} {x1 : Qr} {r : Qr} (h : frac_Sub_m x0 x1 = some r) : Pure Try.prog 31 [.agg (eQ x0), .agg (eQ x1)] (.agg (eQ r)) := by
 obtain ⟨⟨x0_0, x0_1⟩, ⟨x0_2, x0_3⟩⟩ := x0
 obtain ⟨⟨x1_0, x1_1⟩, ⟨x1_2, x1_3⟩⟩ := x1
 refine pure_of_ok Try.func31 rfl (Nat.le_of_ble_eq_true rfl) (fun wld M vs hvs => ?_)
 unfold frac_Sub_m at h
 refine sr <| bx rfl <| bx rfl <| al (cs := [.v (.bool false), slc 1 (List.map eU32 []), .v (.bool false), slc 1 (List.map eU32 [])]) (by exact ⟨SV.imp_refl _, imp_nil, SV.imp_refl _, imp_nil, trivial⟩) rfl <| dn <| sr <| ld rfl rfl (.cons rfl (.cons rfl (.cons rfl (.cons rfl (.nil))))) ?_
 obtain ⟨⟨x13a, x13b, x13c⟩, h13, h⟩ := bS h
 refine cl (frac_short_ok h13) ⟨rfl, trivial⟩ <| mv rfl <| ex rfl rfl <| ex rfl rfl <| ex rfl rfl <| ag rfl <| ag rfl <| ag rfl <| dn <| sr <| ld rfl rfl (.cons rfl (.cons rfl (.cons rfl (.cons rfl (.nil))))) ?_
 obtain ⟨⟨x19a, x19b, x19c⟩, h19, h⟩ := bS h
 refine cl (frac_short_ok h19) ⟨rfl, trivial⟩ <| mv rfl <| ex rfl rfl <| ex rfl rfl <| ex rfl rfl <| ag rfl <| ag rfl <| ag rfl <| dn <| qq <| qq ?_
 refine ok_tailJ h (fun j3 => AS.mkL 41 [(2, .ptr 2 0), (3, .ptr 3 0), (4, .ptr 4 0), (5, .sv (.v (.int .i64 x13a))), (6, .sv (.v (.int .i64 x13b))), (8, .sv (.v (.int .i64 x19a))), (9, .sv (.v (.int .i64 x19b))), (26, .sv (.v (.bool j3)))] [(4, ⟨26, [.sv (.v (.bool false)), .sv (slc 1 (List.map eU32 [])), .sv (.v (.bool false)), .sv (slc 1 (List.map eU32 []))]⟩), (3, ⟨26, [.sv (.v (.bool x1_0)), .sv (slc 1 (List.map eU32 x1_1)), .sv (.v (.bool x1_2)), .sv (slc 1 (List.map eU32 x1_3))]⟩), (2, ⟨26, [.sv (.v (.bool x0_0)), .sv (slc 1 (List.map eU32 x0_1)), .sv (.v (.bool x0_2)), .sv (slc 1 (List.map eU32 x0_3))]⟩)] []) (fun h => ?_) (fun y26j2 h => ?_)
 refine ok_region <| mv rfl <| mv rfl <| bE h fun c26_4 hg4 h => ?_
 cases x13c
 obtain rfl := O (F hg4)
 exact ww <| pF rfl <| dn <| ⟨false, h, wR []⟩
 refine gm rfl ?_
 obtain rfl := O (V hg4)
 exact pT rfl <| dn <| ⟨x19c, h, wR []⟩
 try dsimp only
 refine AThen.n ?_
 cases y26j2
 refine fs <| sr <| ld rfl rfl (.cons rfl (.cons rfl (.cons rfl (.cons rfl (.nil))))) <| ld rfl rfl (.cons rfl (.cons rfl (.cons rfl (.cons rfl (.nil))))) ?_
 obtain ⟨⟨⟨x40_0, x40_1⟩, ⟨x40_2, x40_3⟩⟩, h40, h⟩ := bS (F h)
 refine cl (frac_calcSub_ok h40) ⟨rfl, rfl, rfl, trivial⟩ <| so rfl rfl rfl <| dn <| ok_ret ?_
 obtain rfl := O h
 exact RZ (.agg rfl rfl (.cons rfl (.cons rfl (.cons rfl (.cons rfl (.nil))))) rfl (.nil))
 refine cT <| sr <| mv rfl <| mv rfl <| lE (V h) fun x29 h29 h => RT.mul .none _ rfl rfl T h29 <| mv rfl <| mv rfl <| lE h fun x32 h32 h => RT.mul .none _ rfl rfl T h32 <| lE h fun x33 h33 h => sb _ rfl rfl h33 <| mv rfl <| mv rfl <| lE h fun x36 h36 h => RT.mul .none _ rfl rfl T h36 ?_
 obtain ⟨⟨⟨x37_0, x37_1⟩, ⟨x37_2, x37_3⟩⟩, h37, h⟩ := bS h
 refine cl (frac_ratio_ok h37) ⟨rfl, rfl, trivial⟩ <| so rfl rfl rfl <| dn <| ok_ret <| AThen.r ?_
 obtain rfl := O h
 exact RZ (.agg rfl rfl (.cons rfl (.cons rfl (.cons rfl (.cons rfl (.nil))))) rfl (.nil))
theorem frac_Cmp_ok {x0 : Qr} {x1 : Qr} {r : Int} (h : frac_Cmp_m x0 x1 = some r) : Pure Try.prog 33 [.agg (eQ x0), .agg (eQ x1)] (.v (.int .i64 r)) := by
 obtain ⟨⟨x0_0, x0_1⟩, ⟨x0_2, x0_3⟩⟩ := x0
 obtain ⟨⟨x1_0, x1_1⟩, ⟨x1_2, x1_3⟩⟩ := x1
 refine pure_of_ok Try.func33 rfl (Nat.le_of_ble_eq_true rfl) (fun wld M vs hvs => ?_)
 unfold frac_Cmp_m at h
 refine sr <| bx rfl <| bx rfl <| ag rfl <| dn <| sr <| ld rfl rfl (.cons rfl (.cons rfl (.cons rfl (.cons rfl (.nil))))) ?_
 obtain ⟨⟨⟨x13a_0, x13a_1⟩, ⟨x13b_0, x13b_1⟩⟩, h13, h⟩ := bS h
 refine cl (frac_parts_ok h13) ⟨rfl, trivial⟩ <| mv rfl <| ex rfl rfl <| ex rfl rfl <| al (cs := [.v (.bool false), slc 1 (List.map eU32 [])]) (by exact ⟨SV.imp_refl _, imp_nil, trivial⟩) rfl <| al (cs := [.v (.bool false), slc 1 (List.map eU32 [])]) (by exact ⟨SV.imp_refl _, imp_nil, trivial⟩) rfl <| so rfl rfl rfl <| so rfl rfl rfl <| dn <| sr <| ld rfl rfl (.cons rfl (.cons rfl (.cons rfl (.cons rfl (.nil))))) ?_
 obtain ⟨⟨⟨x18a_0, x18a_1⟩, ⟨x18b_0, x18b_1⟩⟩, h18, h⟩ := bS h
 refine cl (frac_parts_ok h18) ⟨rfl, trivial⟩ <| mv rfl <| ex rfl rfl <| ex rfl rfl <| al (cs := [.v (.bool false), slc 1 (List.map eU32 [])]) (by exact ⟨SV.imp_refl _, imp_nil, trivial⟩) rfl <| al (cs := [.v (.bool false), slc 1 (List.map eU32 [])]) (by exact ⟨SV.imp_refl _, imp_nil, trivial⟩) rfl <| so rfl rfl rfl <| so rfl rfl rfl <| dn <| qq <| qq <| ok_region_draw mixed <| ld rfl rfl (.cons rfl (.cons rfl (.nil))) <| bE h fun x22 h22 h => ?_
 refine cl (whole_Sign_ok h22) ⟨rfl, trivial⟩ <| ld rfl rfl (.cons rfl (.cons rfl (.nil))) <| bE h fun x24 h24 h => cl (whole_Sign_ok h24) ⟨rfl, trivial⟩ <| ag rfl <| ag rfl ?_
 refine RT.done ⟨by kernel_rfl, ?_⟩
 refine AThen.n <| qq ?_
 refine ok_tailJ h (fun j3 => AS.mkL 43 [(5, .ptr 5 0), (6, .ptr 6 0), (7, .ptr 7 0), (8, .ptr 8 0), (9, .sv (.v (.int .i64 x22))), (10, .sv (.v (.int .i64 x24))), (31, .sv (.v (.bool j3)))] [(8, ⟨24, [.sv (.v (.bool x18b_0)), .sv (slc 1 (List.map eU32 x18b_1))]⟩), (7, ⟨24, [.sv (.v (.bool x18a_0)), .sv (slc 1 (List.map eU32 x18a_1))]⟩), (6, ⟨24, [.sv (.v (.bool x13b_0)), .sv (slc 1 (List.map eU32 x13b_1))]⟩), (5, ⟨24, [.sv (.v (.bool x13a_0)), .sv (slc 1 (List.map eU32 x13a_1))]⟩)] []) (fun h => ?_) (fun y31j2 h => ?_)
 refine ok_region <| mv rfl <| mv rfl <| lE h fun x27 h27 h => ne _ rfl rfl (neI (p := x22) (q := x24) h27) <| mv rfl <| bE h fun c31_4 hg4 h => ?_
 cases x27
 refine gm rfl <| lE (F hg4) fun x30 h30 hg4 => ge_ _ rfl rfl (eqI (p := x22) (q := 0) h30) ?_
 obtain rfl := O hg4
 exact pF rfl <| dn <| ⟨x30, h, wR []⟩
 obtain rfl := O (V hg4)
 exact ww <| ww <| pT rfl <| dn <| ⟨true, h, wR []⟩
 try dsimp only
 refine AThen.n ?_
 cases y31j2
 refine fs <| qq <| ok_region_draw mixed <| ld rfl rfl (.cons rfl (.cons rfl (.nil))) <| ld rfl rfl (.cons rfl (.cons rfl (.nil))) ?_
 obtain ⟨⟨x38_0, x38_1⟩, h38, h⟩ := bS (F h)
 refine cl (whole_Mul_ok h38) ⟨rfl, rfl, trivial⟩ <| ld rfl rfl (.cons rfl (.cons rfl (.nil))) <| ld rfl rfl (.cons rfl (.cons rfl (.nil))) ?_
 obtain ⟨⟨x41_0, x41_1⟩, h41, h⟩ := bS h
 refine cl (whole_Mul_ok h41) ⟨rfl, rfl, trivial⟩ <| bE h fun x42 h42 h => cl (whole_Cmp_ok h42) ⟨rfl, rfl, trivial⟩ <| ag rfl ?_
 refine RT.done ⟨by kernel_rfl, ?_⟩
 refine AThen.n <| ok_ret ?_
 obtain rfl := O h
 exact R1 rfl
 refine cT <| sr <| mv rfl <| mv rfl <| lE (V h) fun x34 h34 h => sb _ rfl rfl h34 <| bE h fun x35 h35 h => cl (frac_sign_ok h35) ⟨rfl, trivial⟩ <| ag rfl <| dn <| ok_ret <| AThen.r ?_
 obtain rfl := O h
 exact R1 rfl
theorem frac_Floor_ok {x0 : Qr} {r : Zr} (h : frac_Floor_m x0 = some r) : Pure Try.prog 41 [.agg (eQ x0)] (.agg (eZ r)) := by
 obtain ⟨⟨x0_0, x0_1⟩, ⟨x0_2, x0_3⟩⟩ := x0
 refine pure_of_ok Try.func41 rfl (Nat.le_of_ble_eq_true rfl) (fun wld M vs hvs => ?_)
 unfold frac_Floor_m at h
 refine sr <| bx rfl <| al (cs := [.v (.bool false), slc 1 (List.map eU32 [])]) (by exact ⟨SV.imp_refl _, imp_nil, trivial⟩) rfl <| dn <| sr <| ld rfl rfl (.cons rfl (.cons rfl (.cons rfl (.cons rfl (.nil))))) ?_
 obtain ⟨⟨⟨x8a_0, x8a_1⟩, ⟨x8b_0, x8b_1⟩⟩, h8, h⟩ := bS h
 refine cl (frac_parts_ok h8) ⟨rfl, trivial⟩ <| ex rfl rfl <| ex rfl rfl ?_
 obtain ⟨⟨⟨x11a_0, x11a_1⟩, ⟨x11b_0, x11b_1⟩, x11c⟩, h11, h⟩ := bS h
 refine cl (whole_DivMod_ok h11) ⟨rfl, rfl, trivial⟩ <| mv rfl <| ex rfl rfl <| ex rfl rfl <| ex rfl rfl <| al (cs := [.v (.bool false), slc 1 (List.map eU32 [])]) (by exact ⟨SV.imp_refl _, imp_nil, trivial⟩) rfl <| al (cs := [.v (.bool false), slc 1 (List.map eU32 [])]) (by exact ⟨SV.imp_refl _, imp_nil, trivial⟩) rfl <| so rfl rfl rfl <| so rfl rfl rfl <| ag rfl <| dn <| sr <| ld rfl rfl (.cons rfl (.cons rfl (.nil))) ?_
 refine so rfl rfl rfl <| dn <| ok_ret ?_
 obtain rfl := O h
 exact RZ (.agg rfl rfl (.cons rfl (.cons rfl (.nil))) rfl (.nil))
end Go.Proofs.Ytmiflmkdaeianaa
namespace Go.Fw
open Go.RowKit
def nuOf : List (Nat × Row × Value) → (Nat → Value) → Nat → Value
  | [], ν, j => ν j
  | (k, _, v) :: l, ν, j => if j = k then v else nuOf l ν j
theorem nuOf_not {ν : Nat → Value} : ∀ {l : List (Nat × Row × Value)} {j : Nat}, (∀ R v, (j, R, v) ∉ l) → nuOf l ν j = ν j
  | [], _, _ => rfl
  | (k, R, v) :: l, j, h => by
    have : j ≠ k := fun e => h R v (by rw [e]; simp)
    rw [nuOf, if_neg this]
    exact nuOf_not (fun R v hm => h R v (List.mem_cons_of_mem _ hm))
theorem nuOf_mem {ν : Nat → Value} : ∀ {l : List (Nat × Row × Value)} {j : Nat} {R : Row} {v : Value}, (l.map (·.1)).Nodup → (j, R, v) ∈ l → nuOf l ν j = v
  | (k, R', v') :: l, j, R, v, hn, h => by
    rw [List.map_cons, List.nodup_cons] at hn
    rcases List.mem_cons.1 h with e | e
    · cases e; rw [nuOf, if_pos rfl]
    · have : j ≠ k := fun q => hn.1 (List.mem_map.2 ⟨(j, R, v), e, q⟩)
      rw [nuOf, if_neg this]; exact nuOf_mem hn.2 e
def rsOf (olds : List Nat) (news : List (Nat × Row × Value)) : List (Nat × RSt) := olds.map (fun j => (j, .dead)) ++ news.map (fun n => (n.1, .live n.2.1))
theorem lastR_append : ∀ (l k : List (Nat × RSt)) (j : Nat), lastR (l ++ k) j = match lastR k j with | some R => some R | none => lastR l j
  | [], k, j => by cases h : lastR k j <;> simp [h, lastR]
  | (i, R) :: l, k, j => by
    rw [List.cons_append, lastR, lastR, lastR_append l k j]
    cases h : lastR k j <;> simp
theorem lastR_none {l : List (Nat × RSt)} {j : Nat} (h : ∀ R, (j, R) ∉ l) : lastR l j = none := by
  induction l with
  | nil => rfl
  | cons p l ih =>
    obtain ⟨i, R⟩ := p
    rw [lastR, ih (fun R hm => h R (List.mem_cons_of_mem _ hm))]
    have : j ≠ i := fun e => h R (by rw [e]; simp)
    simp [this]
theorem lastR_some {l : List (Nat × RSt)} {j : Nat} {R : RSt} (h : lastR l j = some R) : (j, R) ∈ l := by
  induction l with
  | nil => cases h
  | cons p l ih =>
    obtain ⟨i, R'⟩ := p
    rw [lastR] at h
    cases e : lastR l j with
    | some R2 => rw [e] at h; cases h; exact List.mem_cons_of_mem _ (ih e)
    | none =>
      rw [e] at h
      by_cases q : j = i
      · subst q; simp at h; subst h; simp
      · simp [q] at h
theorem lastR_ex {l : List (Nat × RSt)} {j : Nat} {R : RSt} (h : (j, R) ∈ l) : ∃ R', lastR l j = some R' := by
  induction l with
  | nil => cases h
  | cons p l ih =>
    obtain ⟨i, R'⟩ := p
    rw [lastR]
    rcases List.mem_cons.1 h with e | e
    · cases e
      cases q : lastR l j with
      | some R2 => exact ⟨R2, rfl⟩
      | none => exact ⟨R, by simp⟩
    · obtain ⟨R2, h2⟩ := ih e
      exact ⟨R2, by rw [h2]⟩
section swap
variable {C : Ctx} {S : AS}
theorem HoldsAt.swapO {E : Env} {a : Act} {w w' : World} (h : HoldsAt C S E a w) {i : Nat} {T : TypeId} {cells cells' : List AV} {us' : List Value} {M' : Mem} (hB : S.b i = some ⟨T, cells⟩) (olds : List Nat) (news : List (Nat × Row × Value))
    (hold : ∀ j ∈ olds, ∃ R, S.r j = .live R) (hnew : ∀ k R v, (k, R, v) ∈ news → S.r k = .un ∧ k < 1000) (hnd : (news.map (·.1)).Nodup)
    (hM : E.M.le M') (hmn : ∀ b o x, M' b o = some x → E.M b o = some x ∨ w.heap.size ≤ b ∨ ∃ j ∈ olds, (E.ν j).ownBlock = some b) (hin : M'.inW w')
    (hbox : w'.heap[E.β i]? = some (.cells ⟨us'⟩ T (0, 0))) (hnb : ∀ o, M' (E.β i) o = none) (hcells : AllV { E with M := M', ν := nuOf news E.ν } cells' us')
    (hcb : ∀ x ∈ cells', (∀ j, ¬ x.mb j) ∧ ∀ j, x.mr j → ∃ R v, (j, R, v) ∈ news)
    (hrow : ∀ k R v, (k, R, v) ∈ news → (∃ vs : List Value, w'.ownsRow 0 R.E R.sz v R.n vs ∧ SV.All M' R.cells vs) ∧ ∀ g, v.ownBlock = some g → ((∃ j ∈ olds, (E.ν j).ownBlock = some g) ∨ w.heap.size ≤ g) ∧ (∀ o, M' g o = none) ∧ g ≠ E.β i)
    (hrinj : ∀ k R v k' R' v' g, (k, R, v) ∈ news → (k', R', v') ∈ news → v.ownBlock = some g → v'.ownBlock = some g → k = k')
    (hos : w'.os = w.os) (htape : w'.tape = w.tape) (hout : w'.output = w.output) (hsize : w.heap.size ≤ w'.heap.size)
    (hblk : ∀ k, k < w.heap.size → k ≠ E.β i → (∀ j ∈ olds, (E.ν j).ownBlock ≠ some k) → w'.heap[k]? = w.heap[k]?) :
    HoldsAt C (AS.setRs (rsOf olds news) (AS.setBs [(i, ⟨T, cells'⟩)] S)) { E with M := M', ν := nuOf news E.ν } a w' := by
  obtain ⟨hβ1, hβ2, hβ3, vs0, hβ4, _⟩ := h.bx i _ hB
  have hβlt : E.β i < w.heap.size := (Array.getElem?_eq_some_iff.1 hβ4).1
  obtain ⟨n1, n2, n3, n4, n5⟩ := setRs_n (rsOf olds news) (AS.setBs [(i, ⟨T, cells'⟩)] S)
  have tOf : (AS.setRs (rsOf olds news) (AS.setBs [(i, ⟨T, cells'⟩)] S)).t = S.t := n2
  have bOf : ∀ j, (AS.setRs (rsOf olds news) (AS.setBs [(i, ⟨T, cells'⟩)] S)).b j = if j = i then some ⟨T, cells'⟩ else S.b j := fun j => by
    rw [n3]
    by_cases e : j = i
    · subst e; rw [if_pos rfl]; exact AS.setB_same _ _ _
    · rw [if_neg e]; exact AS.setB_other _ _ _ _ e
  have inNew : ∀ k R v, (k, R, v) ∈ news → lastR (news.map (fun n => (n.1, RSt.live n.2.1))) k = some (.live R) := fun k R v hm => by
    obtain ⟨R', hR'⟩ := lastR_ex (l := news.map (fun n => (n.1, RSt.live n.2.1))) (j := k) (R := .live R) (List.mem_map.2 ⟨(k, R, v), hm, rfl⟩)
    obtain ⟨⟨k2, R2, v2⟩, hm2, e⟩ := List.mem_map.1 (lastR_some hR')
    have e1 : k2 = k := congrArg Prod.fst e
    have e2 : RSt.live R2 = R' := congrArg Prod.snd e
    rw [e1] at hm2
    have : R2 = R := by
      have key : ∀ (l : List (Nat × Row × Value)), (l.map (·.1)).Nodup → (k, R2, v2) ∈ l → (k, R, v) ∈ l → R2 = R := by
        intro l
        induction l with
        | nil => intro _ h; cases h
        | cons p l ih =>
          intro hn h1 h2
          rw [List.map_cons, List.nodup_cons] at hn
          rcases List.mem_cons.1 h1 with e1 | e1 <;> rcases List.mem_cons.1 h2 with e2 | e2
          · rw [← e1] at e2; cases e2; rfl
          · exact absurd (List.mem_map.2 ⟨_, e2, by rw [← e1]⟩) hn.1
          · exact absurd (List.mem_map.2 ⟨_, e1, by rw [← e2]⟩) hn.1
          · exact ih hn.2 e1 e2
      exact key news hnd hm2 hm
    rw [hR', ← e2, this]
  have rNew : ∀ k R v, (k, R, v) ∈ news → (AS.setRs (rsOf olds news) (AS.setBs [(i, ⟨T, cells'⟩)] S)).r k = .live R := fun k R v hm => by
    rw [setRs_r, rsOf, lastR_append, inNew k R v hm]; rfl
  have rOld : ∀ j, (∀ R v, (j, R, v) ∉ news) → (AS.setRs (rsOf olds news) (AS.setBs [(i, ⟨T, cells'⟩)] S)).r j = if j ∈ olds then .dead else S.r j := fun j hn => by
    have e1 : lastR (news.map (fun n => (n.1, RSt.live n.2.1))) j = none := lastR_none (fun R hm => by
      obtain ⟨⟨k2, R2, v2⟩, hm2, e⟩ := List.mem_map.1 hm
      cases e; exact hn R2 v2 hm2)
    rw [setRs_r, rsOf, lastR_append, e1]
    by_cases ho : j ∈ olds
    · rw [if_pos ho]
      obtain ⟨R', hR'⟩ := lastR_ex (l := olds.map (fun j => (j, RSt.dead))) (j := j) (R := .dead) (List.mem_map.2 ⟨j, ho, rfl⟩)
      obtain ⟨j2, _, e⟩ := List.mem_map.1 (lastR_some hR')
      cases e
      rw [hR']; rfl
    · rw [if_neg ho, lastR_none (fun R hm => by obtain ⟨j2, hm2, e⟩ := List.mem_map.1 hm; cases e; exact ho hm2)]; rfl
  have notNew : ∀ j, S.r j ≠ .un → ∀ R v, (j, R, v) ∉ news := fun j hj R v hm => hj (hnew j R v hm).1
  have rne : ∀ j, S.r j ≠ .un → (AS.setRs (rsOf olds news) (AS.setBs [(i, ⟨T, cells'⟩)] S)).r j ≠ .un := fun j hj => by
    rw [rOld j (notNew j hj)]
    split
    · simp
    · exact hj
  have oblk : ∀ j ∈ olds, ∀ g, (E.ν j).ownBlock = some g → (C.w0.heap.size ≤ g ∨ C.bor g) ∧ (∀ o, E.M g o = none) ∧ ¬ E.O g ∧ (∀ n B, S.b n = some B → E.β n ≠ g) ∧ g < w.heap.size ∧ ∃ c e, w.heap[g]? = some (Obj.cells c e (0, 0)) := fun j hj g hg => by
    obtain ⟨R, hR⟩ := hold j hj
    obtain ⟨⟨us, q1, _⟩, q2⟩ := h.rx j R hR
    obtain ⟨q3, q4, q5, q6⟩ := q2 g hg
    refine ⟨q3, q4, q5, q6, row_lt h hR hg, ?_⟩
    rcases q1.2 with ⟨q7, _⟩ | ⟨g', cap, cur, q7, _, q8, _⟩
    · rw [q7] at hg; cases hg
    · rw [q7] at hg; cases hg; exact ⟨_, _, q8⟩
  have keep : ∀ x : AV, (∀ j, x.mr j → S.r j ≠ .un) → ∀ v, x.holds E v → x.holds { E with M := M', ν := nuOf news E.ν } v := fun x hx v hv =>
    AV.holds_congr (E := E) (E' := { E with M := M', ν := nuOf news E.ν }) hM (fun _ _ => rfl) (fun j hj => nuOf_not (notNew j (hx j hj))) hv
  have noM : ∀ b, b < w.heap.size → (∀ o, E.M b o = none) → (∀ j ∈ olds, (E.ν j).ownBlock ≠ some b) → ∀ o, M' b o = none := fun b h1 h2 h3 o => by
    cases e : M' b o with
    | none => rfl
    | some v =>
      rcases hmn b o v e with q | q | ⟨j, q1, q2⟩
      · rw [h2 o] at q; cases q
      · omega
      · exact absurd q2 (h3 j q1)
  have live : ∀ j R, (AS.setRs (rsOf olds news) (AS.setBs [(i, ⟨T, cells'⟩)] S)).r j = .live R → (∃ v, (j, R, v) ∈ news) ∨ ((∀ R v, (j, R, v) ∉ news) ∧ j ∉ olds ∧ S.r j = .live R) := fun j R hj => by
    by_cases hn : ∃ R v, (j, R, v) ∈ news
    · obtain ⟨R', v, hm⟩ := hn
      rw [rNew j R' v hm] at hj; cases hj; exact .inl ⟨v, hm⟩
    · have hn : ∀ R v, (j, R, v) ∉ news := fun R v hm => hn ⟨R, v, hm⟩
      rw [rOld j hn] at hj
      by_cases ho : j ∈ olds
      · rw [if_pos ho] at hj; cases hj
      · rw [if_neg ho] at hj; exact .inr ⟨hn, ho, hj⟩
  have oth : ∀ j R, S.r j = .live R → j ∉ olds → ∀ g, (E.ν j).ownBlock = some g → ∀ j' ∈ olds, (E.ν j').ownBlock ≠ some g := fun j R hR ho g hg j' hj' e => by
    obtain ⟨R', hR'⟩ := hold j' hj'
    have := h.rinj j j' R R' hR hR' g hg e
    subst this; exact ho hj'
  exact {
    wf := by
      refine ⟨fun s j hj => ?_, fun s j hj => ?_, fun j B hB' x hx m hm => ?_, fun j B hB' x hx m hm => ?_⟩
      · rw [tOf] at hj
        obtain ⟨B, hB'⟩ := h.wf.tb s j hj
        rw [bOf]
        by_cases e : j = i
        · exact ⟨_, if_pos e⟩
        · exact ⟨B, by rw [if_neg e]; exact hB'⟩
      · rw [tOf] at hj
        exact rne j (h.wf.tr s j hj)
      · rw [bOf] at hB' ⊢
        by_cases e : j = i
        · rw [if_pos e] at hB'; cases hB'; exact absurd hm ((hcb x hx).1 m)
        · rw [if_neg e] at hB'
          obtain ⟨B2, hB2⟩ := h.wf.bb j B hB' x hx m hm
          by_cases e2 : m = i
          · exact ⟨_, if_pos e2⟩
          · exact ⟨B2, by rw [if_neg e2]; exact hB2⟩
      · rw [bOf] at hB'
        by_cases e : j = i
        · rw [if_pos e] at hB'; cases hB'
          obtain ⟨R, v, hm2⟩ := (hcb x hx).2 m hm
          rw [rNew m R v hm2]; simp
        · rw [if_neg e] at hB'; exact rne m (h.wf.br j B hB' x hx m hm)
    marks := by
      obtain ⟨ds, d1, d2, d3⟩ := h.marks
      refine ⟨ds, d1, d2, fun r hr => ?_⟩
      obtain ⟨p1, p2, p3⟩ := d3 r hr
      refine ⟨p1, p2, ?_⟩
      rw [hblk r (Array.getElem?_eq_some_iff.1 p3).1 (fun e => by rw [e, hβ4] at p3; cases p3) (fun j hj e => by
        obtain ⟨_, _, _, _, _, c, e2, q⟩ := oblk j hj r e
        rw [q] at p3; cases p3)]
      exact p3
    size := by rw [n1]; exact h.size
    os := hos.trans h.os
    tape := htape.trans h.tape
    output := hout.trans h.output
    grown := Nat.le_trans h.grown hsize
    frame := fun k hk hown => by
      rw [hblk k (Nat.lt_of_lt_of_le hk h.grown) (fun e => by
        rcases hβ1 with q | q
        · omega
        · exact hown (C.hbo _ (by rw [e]; exact q))) (fun j hj e => by
        rcases (oblk j hj k e).1 with q | q
        · omega
        · exact hown (C.hbo _ q))]
      exact h.frame k hk hown
    m0 := Mem.le_trans h.m0 hM
    mnew := fun b o v e => by
      rcases hmn b o v e with q | q | ⟨j, q1, q2⟩
      · exact h.mnew b o v q
      · exact .inr (.inl (Nat.le_trans h.grown q))
      · rcases (oblk j q1 b q2).1 with q | q
        · exact .inr (.inl q)
        · exact .inr (.inr (C.hbo _ q))
    inW := hin
    tm := fun s => by rw [tOf]; exact keep _ (h.wf.tr s) _ (h.tm s)
    bx := fun j B hB' => by
      rw [bOf] at hB'
      by_cases e : j = i
      · rw [if_pos e] at hB'; cases hB'; subst e
        exact ⟨hβ1, hnb, hβ3, us', hbox, hcells⟩
      · rw [if_neg e] at hB'
        obtain ⟨p1, p2, p3, vs, p4, p5⟩ := h.bx j B hB'
        have hlt := (Array.getElem?_eq_some_iff.1 p4).1
        have hno : ∀ j' ∈ olds, (E.ν j').ownBlock ≠ some (E.β j) := fun j' hj' q => (oblk j' hj' _ q).2.2.2.1 j B hB' rfl
        refine ⟨p1, noM _ hlt p2 hno, p3, vs, ?_, p5.imp (fun x hx v hv => keep x (h.wf.br j B hB' x hx) v hv)⟩
        show w'.heap[E.β j]? = _
        rw [hblk _ hlt (fun q => e (h.inj j i B _ hB' hB q)) hno]; exact p4
    inj := fun j j' B B' h1 h2 e => by
      have key : ∀ n B, (AS.setRs (rsOf olds news) (AS.setBs [(i, ⟨T, cells'⟩)] S)).b n = some B → ∃ B', S.b n = some B' := fun n B hn => by
        rw [bOf] at hn
        by_cases e : n = i
        · subst e; exact ⟨_, hB⟩
        · rw [if_neg e] at hn; exact ⟨B, hn⟩
      obtain ⟨B1, p1⟩ := key j B h1
      obtain ⟨B2, p2⟩ := key j' B' h2
      exact h.inj j j' B1 B2 p1 p2 e
    rx := fun j R hj => by
      have boxes : ∀ g, (∀ n B, S.b n = some B → E.β n ≠ g) → ∀ n B, (AS.setRs (rsOf olds news) (AS.setBs [(i, ⟨T, cells'⟩)] S)).b n = some B → E.β n ≠ g := fun g hg n B hn => by
        rw [bOf] at hn
        by_cases e : n = i
        · subst e; exact hg _ _ hB
        · rw [if_neg e] at hn; exact hg n B hn
      rcases live j R hj with ⟨v, hm⟩ | ⟨hn, ho, hR⟩
      · rw [show ({ E with M := M', ν := nuOf news E.ν } : Env).ν j = v from nuOf_mem hnd hm]
        obtain ⟨p1, p2⟩ := hrow j R v hm
        refine ⟨p1, fun g hg => ?_⟩
        obtain ⟨p3, p4, p5⟩ := p2 g hg
        rcases p3 with ⟨j', q1, q2⟩ | p3
        · obtain ⟨o1, o2, o3, o4, _⟩ := oblk j' q1 g q2
          exact ⟨o1, p4, o3, boxes g o4⟩
        · refine ⟨.inl (Nat.le_trans h.grown p3), p4, fun q => ?_, boxes g (fun n B hn q => ?_)⟩
          · have := (h.olt g q).1; omega
          · obtain ⟨_, _, _, vs, q4, _⟩ := h.bx n B hn
            have := (Array.getElem?_eq_some_iff.1 q4).1
            omega
      · rw [show ({ E with M := M', ν := nuOf news E.ν } : Env).ν j = E.ν j from nuOf_not hn]
        obtain ⟨⟨us, p1, p2⟩, p3⟩ := h.rx j R hR
        refine ⟨⟨us, ownsRow_same p1 fun g hg => hblk g (row_lt h hR hg) (fun e => (p3 g hg).2.2.2 i _ hB e.symm) (oth j R hR ho g hg), p2.mono hM⟩, fun g hg => ?_⟩
        obtain ⟨p4, p5, p6, p7⟩ := p3 g hg
        exact ⟨p4, noM g (row_lt h hR hg) p5 (oth j R hR ho g hg), p6, boxes g p7⟩
    rinj := fun j j' R R' h1 h2 g e1 e2 => by
      have mixed : ∀ j R v j' R' g, (j, R, v) ∈ news → S.r j' = .live R' → j' ∉ olds → v.ownBlock = some g → (E.ν j').ownBlock = some g → False := fun j R v j' R' g hm hR' ho e1 e2 => by
        rcases ((hrow j R v hm).2 g e1).1 with ⟨j2, q1, q2⟩ | q
        · exact oth j' R' hR' ho g e2 j2 q1 q2
        · have := row_lt h hR' e2; omega
      rcases live j R h1 with ⟨v, hm⟩ | ⟨hn, ho, hR⟩ <;> rcases live j' R' h2 with ⟨v', hm'⟩ | ⟨hn', ho', hR'⟩
      · rw [show ({ E with M := M', ν := nuOf news E.ν } : Env).ν j = v from nuOf_mem hnd hm] at e1
        rw [show ({ E with M := M', ν := nuOf news E.ν } : Env).ν j' = v' from nuOf_mem hnd hm'] at e2
        exact hrinj j R v j' R' v' g hm hm' e1 e2
      · rw [show ({ E with M := M', ν := nuOf news E.ν } : Env).ν j = v from nuOf_mem hnd hm] at e1
        rw [show ({ E with M := M', ν := nuOf news E.ν } : Env).ν j' = E.ν j' from nuOf_not hn'] at e2
        exact (mixed j R v j' R' g hm hR' ho' e1 e2).elim
      · rw [show ({ E with M := M', ν := nuOf news E.ν } : Env).ν j = E.ν j from nuOf_not hn] at e1
        rw [show ({ E with M := M', ν := nuOf news E.ν } : Env).ν j' = v' from nuOf_mem hnd hm'] at e2
        exact (mixed j' R' v' j R g hm' hR ho e2 e1).elim
      · rw [show ({ E with M := M', ν := nuOf news E.ν } : Env).ν j = E.ν j from nuOf_not hn] at e1
        rw [show ({ E with M := M', ν := nuOf news E.ν } : Env).ν j' = E.ν j' from nuOf_not hn'] at e2
        exact h.rinj j j' R R' hR hR' g e1 e2
    pin := h.pin
    pinr := fun k v e => by
      rw [show ({ E with M := M', ν := nuOf news E.ν } : Env).ν k = E.ν k from nuOf_not (fun R v hm => by have := (hnew k R v hm).2; have := C.hpr k _ e; omega)]
      exact h.pinr k v e
    olt := fun b hb => by
      obtain ⟨p1, p2, p3⟩ := h.olt b hb
      exact ⟨Nat.lt_of_lt_of_le p1 hsize, noM b p1 p2 (fun j hj e => (oblk j hj b e).2.2.1 hb), p3⟩
    jj := by
      have hj := C.jf S.g S.go E.O E.M M' w w' h.jj hM hin (fun b o v e => by
        rcases hmn b o v e with q | q | ⟨j, q1, q2⟩
        · exact .inl q
        · exact .inr ⟨.inl (Nat.le_trans h.grown q), fun q2 => by have := (h.olt b q2).1; omega⟩
        · obtain ⟨o1, _, o3, _⟩ := oblk j q1 b q2
          exact .inr ⟨o1, o3⟩) (fun b hb => by
        have hlt : b < w.heap.size ∨ w.heap.size ≤ b := Nat.lt_or_ge _ _
        have hb' : b < w.heap.size := by
          rcases hb with ⟨q, _⟩ | q
          · exact Nat.lt_of_lt_of_le q h.grown
          · exact (h.olt b q).1
        refine hblk b hb' (fun e => ?_) (fun j hj e => ?_)
        · subst e
          rcases hb with ⟨q1, q2⟩ | q
          · rcases hβ1 with p | p
            · omega
            · exact q2 p
          · exact hβ3 q
        · obtain ⟨o1, _, o3, _⟩ := oblk j hj b e
          rcases hb with ⟨q1, q2⟩ | q
          · rcases o1 with p | p
            · omega
            · exact q2 p
          · exact o3 q) hos htape hout hsize
      rw [n4, n5]; exact hj }
end swap
end Go.Fw
namespace Go.Fw
open Go.RowKit
inductive Oc where
  | s (x : SV)
  | r (R : Row)
def OcAll (M : Mem) (w : World) : List Oc → List Value → Prop
  | [], [] => True
  | .s x :: l, v :: vs => x.h M v ∧ OcAll M w l vs
  | .r R :: l, v :: vs => (∃ us : List Value, w.ownsRow 0 R.E R.sz v R.n us ∧ SV.All M R.cells us) ∧ OcAll M w l vs
  | _, _ => False
def rowsOf : List Oc → List Row
  | [] => []
  | .s _ :: l => rowsOf l
  | .r R :: l => R :: rowsOf l
def rowVals : List Oc → List Value → List (Row × Value)
  | .s _ :: l, _ :: vs => rowVals l vs
  | .r R :: l, v :: vs => (R, v) :: rowVals l vs
  | _, _ => []
def ocBlk (c : List Oc) (us : List Value) (g : Nat) : Prop := ∃ p ∈ rowVals c us, p.2.ownBlock = some g
def oCells : List Nat → List Oc → List AV
  | ids, .s x :: l => .sv x :: oCells ids l
  | i :: ids, .r _ :: l => .row i :: oCells ids l
  | [], .r _ :: l => .sv .any :: oCells [] l
  | _, [] => []
def Apart (l : List (Row × Value)) : Prop := l.Pairwise fun p q => ∀ g, p.2.ownBlock = some g → q.2.ownBlock ≠ some g
structure ObjAt (M : Mem) (w : World) (β : Nat) (T : TypeId) (c : List Oc) (us : List Value) : Prop where
  hp : w.heap[β]? = some (.cells ⟨us⟩ T (0, 0))
  al : OcAll M w c us
  nb : ∀ o, M β o = none
  nr : ∀ g, ocBlk c us g → g ≠ β ∧ ∀ o, M g o = none
  ap : Apart (rowVals c us)
theorem rowVals_len {M : Mem} {w : World} : ∀ {c : List Oc} {us : List Value}, OcAll M w c us → (rowVals c us).map (·.1) = rowsOf c
  | [], [], _ => rfl
  | .s _ :: l, _ :: vs, h => rowVals_len (c := l) (us := vs) h.2
  | .r R :: l, v :: vs, h => congrArg (R :: ·) (rowVals_len (c := l) (us := vs) h.2)
  | [], _ :: _, h => h.elim
  | .s _ :: _, [], h => h.elim
  | .r _ :: _, [], h => h.elim
theorem rowVals_at {M : Mem} {w : World} : ∀ {c : List Oc} {us : List Value}, OcAll M w c us → ∀ p ∈ rowVals c us, ∃ vs : List Value, w.ownsRow 0 p.1.E p.1.sz p.2 p.1.n vs ∧ SV.All M p.1.cells vs
  | [], [], _, p, hp => by cases hp
  | .s _ :: l, _ :: vs, h, p, hp => rowVals_at (c := l) (us := vs) h.2 p hp
  | .r R :: l, v :: vs, h, p, hp => by
    rcases List.mem_cons.1 hp with rfl | hp
    · exact h.1
    · exact rowVals_at (c := l) (us := vs) h.2 p hp
  | [], _ :: _, h, _, _ => h.elim
  | .s _ :: _, [], h, _, _ => h.elim
  | .r _ :: _, [], h, _, _ => h.elim
theorem zip_mem {α β : Type} : ∀ {l : List α} {k : List β} {a : α} {b : β}, (a, b) ∈ l.zip k → a ∈ l ∧ b ∈ k
  | _ :: _, _ :: _, _, _, h => by
    rw [List.zip_cons_cons] at h
    rcases List.mem_cons.1 h with e | e
    · cases e; simp
    · have := zip_mem e; exact ⟨List.mem_cons_of_mem _ this.1, List.mem_cons_of_mem _ this.2⟩
  | [], _, _, _, h => by simp at h
  | _ :: _, [], _, _, h => by simp at h
theorem zip_fst {α β : Type} : ∀ {l : List α} {k : List β}, l.length = k.length → (l.zip k).map (·.1) = l
  | [], [], _ => rfl
  | _ :: l, _ :: k, h => by rw [List.zip_cons_cons, List.map_cons, zip_fst (by simpa using h)]
  | [], _ :: _, h => by simp at h
  | _ :: _, [], h => by simp at h
theorem apart_ids : ∀ {ids : List Nat} {l : List (Row × Value)}, ids.Nodup → Apart l → ∀ k R v k' R' v' g, (k, R, v) ∈ ids.zip l → (k', R', v') ∈ ids.zip l → v.ownBlock = some g → v'.ownBlock = some g → k = k'
  | i :: ids, p :: l, hn, ha, k, R, v, k', R', v', g, h1, h2, e1, e2 => by
    rw [List.zip_cons_cons] at h1 h2
    rw [List.nodup_cons] at hn
    obtain ⟨ha1, ha2⟩ := List.pairwise_cons.1 ha
    rcases List.mem_cons.1 h1 with q1 | q1 <;> rcases List.mem_cons.1 h2 with q2 | q2
    · cases q1; cases q2; rfl
    · cases q1; exact absurd e2 (ha1 (R', v') (zip_mem q2).2 g e1)
    · cases q2; exact absurd e1 (ha1 (R, v) (zip_mem q1).2 g e2)
    · exact apart_ids hn.2 ha2 k R v k' R' v' g q1 q2 e1 e2
  | [], _, _, _, _, _, _, _, _, _, _, h1, _, _, _ => by simp at h1
  | _ :: _, [], _, _, _, _, _, _, _, _, _, h1, _, _, _ => by simp at h1
theorem oCells_all {E : Env} {w : World} : ∀ {ids : List Nat} {c : List Oc} {us : List Value}, ids.length = (rowsOf c).length → OcAll E.M w c us → (∀ i p, (i, p) ∈ ids.zip (rowVals c us) → E.ν i = p.2) → AllV E (oCells ids c) us
  | ids, [], [], _, _, _ => by cases ids <;> exact trivial
  | ids, .s x :: l, v :: vs, hl, h, hv => by
    have ih := oCells_all (E := E) (w := w) (ids := ids) (c := l) (us := vs) hl h.2 hv
    cases ids <;> exact ⟨h.1, ih⟩
  | i :: ids, .r R :: l, v :: vs, hl, h, hv => by
    refine ⟨(hv i (R, v) (by rw [rowVals, List.zip_cons_cons]; simp)).symm, oCells_all (w := w) (ids := ids) (c := l) (us := vs) (by simpa [rowsOf] using hl) h.2 (fun j p hm => hv j p ?_)⟩
    rw [rowVals, List.zip_cons_cons]; exact List.mem_cons_of_mem _ hm
  | [], .r R :: l, _ :: _, hl, _, _ => by simp [rowsOf] at hl
  | _, [], _ :: _, _, h, _ => h.elim
  | _, .s _ :: _, [], _, h, _ => h.elim
  | _, .r _ :: _, [], _, h, _ => h.elim
theorem oCells_m : ∀ {ids : List Nat} {c : List Oc} (x : AV), x ∈ oCells ids c → (∀ j, ¬ x.mb j) ∧ ∀ j, x.mr j → j ∈ ids
  | ids, [], x, h => by cases ids <;> simp [oCells] at h
  | ids, .s y :: l, x, h => by
    have h' : x ∈ AV.sv y :: oCells ids l := by cases ids <;> exact h
    rcases List.mem_cons.1 h' with rfl | h'
    · exact ⟨fun j e => e, fun j e => e.elim⟩
    · exact oCells_m x h'
  | i :: ids, .r _ :: l, x, h => by
    rcases List.mem_cons.1 (show x ∈ AV.row i :: oCells ids l from h) with rfl | h'
    · exact ⟨fun j e => e, fun j e => by cases e; simp⟩
    · obtain ⟨h1, h2⟩ := oCells_m x h'
      exact ⟨h1, fun j e => List.mem_cons_of_mem _ (h2 j e)⟩
  | [], .r _ :: l, x, h => by
    rcases List.mem_cons.1 (show x ∈ AV.sv .any :: oCells [] l from h) with rfl | h'
    · exact ⟨fun j e => e, fun j e => e.elim⟩
    · exact oCells_m x h'
def Lv (S : AS) : List Nat → List Row → Prop
  | [], [] => True
  | j :: js, R :: Rs => S.r j = .live R ∧ Lv S js Rs
  | _, _ => False
theorem Lv.len {S : AS} : ∀ {js : List Nat} {Rs : List Row}, Lv S js Rs → js.length = Rs.length
  | [], [], _ => rfl
  | _ :: _, _ :: _, h => congrArg (· + 1) (Lv.len h.2)
  | [], _ :: _, h => h.elim
  | _ :: _, [], h => h.elim
theorem Lv.mem {S : AS} : ∀ {js : List Nat} {Rs : List Row}, Lv S js Rs → ∀ j ∈ js, ∃ R, S.r j = .live R
  | j :: js, R :: Rs, h, k, hk => by
    rcases List.mem_cons.1 hk with rfl | hk
    · exact ⟨R, h.1⟩
    · exact Lv.mem h.2 k hk
  | [], _, _, k, hk => by cases hk
  | _ :: _, [], h, _, _ => h.elim
theorem cells_oc {C : Ctx} {S : AS} {E : Env} {a : Act} {w : World} (h : HoldsAt C S E a w) : ∀ {js : List Nat} {c : List Oc} {us : List Value}, Lv S js (rowsOf c) → AllV E (oCells js c) us → OcAll E.M w c us ∧ rowVals c us = (rowsOf c).zip (js.map E.ν)
  | [], [], [], _, _ => ⟨trivial, rfl⟩
  | js, .s x :: l, v :: vs, hL, hv => by
    have hv' : AllV E (AV.sv x :: oCells js l) (v :: vs) := by cases js <;> exact hv
    obtain ⟨h1, h2⟩ := cells_oc h (js := js) (c := l) (us := vs) hL hv'.2
    exact ⟨⟨hv'.1, h1⟩, h2⟩
  | j :: js, .r R :: l, v :: vs, hL, hv => by
    have hL : S.r j = .live R ∧ Lv S js (rowsOf l) := hL
    have hv' : AllV E (AV.row j :: oCells js l) (v :: vs) := hv
    obtain ⟨h1, h2⟩ := cells_oc h (js := js) (c := l) (us := vs) hL.2 hv'.2
    have e : v = E.ν j := hv'.1
    obtain ⟨q1, _⟩ := h.rx j R hL.1
    rw [← e] at q1
    refine ⟨⟨q1, h1⟩, ?_⟩
    rw [rowVals, h2, e]; rfl
  | [], .r _ :: _, _, hL, _ => hL.elim
  | _ :: _, [], _, hL, _ => hL.elim
  | [], [], _ :: _, _, hv => by simp [oCells] at hv; exact hv.elim
  | js, .s x :: l, [], _, hv => by
    have hv' : AllV E (AV.sv x :: oCells js l) [] := by cases js <;> exact hv
    exact hv'.elim
  | _ :: _, .r _ :: _, [], _, hv => hv.elim
theorem zip_snd_mem {α β : Type} : ∀ {l : List α} {k : List β} {b : β}, l.length = k.length → b ∈ k → ∃ a, (a, b) ∈ l.zip k
  | a :: l, c :: k, b, h, hb => by
    rcases List.mem_cons.1 hb with rfl | hb
    · exact ⟨a, by rw [List.zip_cons_cons]; simp⟩
    · obtain ⟨a', h'⟩ := zip_snd_mem (l := l) (k := k) (by simpa using h) hb
      exact ⟨a', by rw [List.zip_cons_cons]; exact List.mem_cons_of_mem _ h'⟩
  | [], [], _, _, hb => by cases hb
  | [], _ :: _, _, h, _ => by simp at h
theorem objAt_of {C : Ctx} {S : AS} {E : Env} {a : Act} {w : World} (h : HoldsAt C S E a w) {i : Nat} {T : TypeId} {js : List Nat} {c : List Oc} (hB : S.b i = some ⟨T, oCells js c⟩) (hL : Lv S js (rowsOf c)) (hn : js.Nodup) :
    ∃ us, ObjAt E.M w (E.β i) T c us ∧ (∀ g, ocBlk c us g ↔ ∃ j ∈ js, (E.ν j).ownBlock = some g) := by
  obtain ⟨_, q1, _, us, q2, q3⟩ := h.bx i _ hB
  obtain ⟨p1, p2⟩ := cells_oc h hL q3
  have hlen := hL.len
  have blk : ∀ g, ocBlk c us g ↔ ∃ j ∈ js, (E.ν j).ownBlock = some g := fun g => by
    unfold ocBlk
    rw [p2]
    constructor
    · rintro ⟨⟨R, v⟩, hm, hg⟩
      obtain ⟨j, hj, rfl⟩ := List.mem_map.1 (zip_mem hm).2
      exact ⟨j, hj, hg⟩
    · rintro ⟨j, hj, hg⟩
      obtain ⟨R, hR⟩ := zip_snd_mem (l := rowsOf c) (k := js.map E.ν) (by simp [hlen]) (List.mem_map.2 ⟨j, hj, rfl⟩)
      exact ⟨(R, E.ν j), hR, hg⟩
  refine ⟨us, ⟨q2, p1, q1, fun g hg => ?_, ?_⟩, blk⟩
  · obtain ⟨j, hj, hg'⟩ := (blk g).1 hg
    obtain ⟨R, hR⟩ := hL.mem j hj
    obtain ⟨_, q4⟩ := h.rx j R hR
    obtain ⟨_, q5, _, q6⟩ := q4 g hg'
    exact ⟨fun e => q6 i _ hB e.symm, q5⟩
  · rw [p2]
    have key : ∀ (js : List Nat) (Rs : List Row), Lv S js Rs → js.Nodup → Apart (Rs.zip (js.map E.ν)) := by
      intro js
      induction js with
      | nil => intro Rs hL _; cases Rs with | nil => exact List.Pairwise.nil | cons _ _ => exact hL.elim
      | cons j js ih =>
        intro Rs hL hn
        cases Rs with
        | nil => exact hL.elim
        | cons R Rs =>
          rw [List.nodup_cons] at hn
          rw [List.map_cons, List.zip_cons_cons]
          refine List.pairwise_cons.2 ⟨fun p hp g e1 e2 => ?_, ih Rs hL.2 hn.2⟩
          obtain ⟨R', v'⟩ := p
          obtain ⟨j', hj', rfl⟩ := List.mem_map.1 (zip_mem hp).2
          obtain ⟨R2, hR2⟩ := hL.2.mem j' hj'
          have := h.rinj j j' R R2 hL.1 hR2 g e1 e2
          subst this; exact hn.1 hj'
    exact key js _ hL hn
def objEnv (M : Mem) (β : Nat) : Env := ⟨fun _ => β, fun _ => .nilIface, fun _ => False, M⟩
def Fc.oy : Fc → Bool
  | .val _ => true
  | .box i => Nat.beq i 1000
  | .row _ => false
def AV.oy : AV → Bool
  | .sv _ => true
  | .ptr i _ => Nat.beq i 1000
  | .cmp _ js => js.all Fc.oy
  | _ => false
def Fc.rnb (i : Nat) : Fc → Fc
  | .box _ => .box i
  | c => c
def AV.rnb (i : Nat) : AV → AV
  | .ptr _ o => .ptr i o
  | .cmp t js => .cmp t (js.map (Fc.rnb i))
  | x => x
theorem rnb_holds {E : Env} {i : Nat} {x : AV} {v : Value} (hx : x.oy = true) (h : (x.rnb i).holds E v) : x.holds (objEnv E.M (E.β i)) v := by
  cases x with
  | sv s => exact h
  | ptr k o => exact h
  | cmp t js =>
    obtain ⟨vs, rfl, h⟩ := h
    refine ⟨vs, rfl, ?_⟩
    have key : ∀ (l : List Fc) (vs : List Value), (l.all Fc.oy) = true → AllF E (l.map (Fc.rnb i)) vs → AllF (objEnv E.M (E.β i)) l vs := by
      intro l
      induction l with
      | nil => intro vs _ h; cases vs with | nil => trivial | cons _ _ => exact h.elim
      | cons c l ih =>
        intro vs ho h
        rw [List.all_cons, Bool.and_eq_true] at ho
        cases vs with
        | nil => exact h.elim
        | cons u vs =>
          refine ⟨?_, ih vs ho.2 h.2⟩
          cases c with
          | val s => exact h.1
          | box k => exact h.1
          | row k => exact (Bool.false_ne_true ho.1).elim
    exact key js vs hx h
  | _ => exact (Bool.false_ne_true hx).elim
theorem rnb_all {E : Env} {i : Nat} : ∀ {l : List AV} {vs : List Value}, (l.all AV.oy) = true → AllV E (l.map (AV.rnb i)) vs → AllV (objEnv E.M (E.β i)) l vs
  | [], [], _, _ => trivial
  | x :: l, v :: vs, h, hv => by
    rw [List.all_cons, Bool.and_eq_true] at h
    exact ⟨rnb_holds h.1 hv.1, rnb_all h.2 hv.2⟩
  | [], _ :: _, _, h => h.elim
  | _ :: _, [], _, h => h.elim
def ObjC (P : Program) (f : FuncId) (args : List AV) (T : TypeId) (c0 : List Oc) (res : SV) (c1 : List Oc) : Prop :=
  ∀ (M : Mem) (w : World) (β : Nat) (vs us : List Value), M.inW w → ObjAt M w β T c0 us → AllV (objEnv M β) args vs →
    Calls P f ⟨vs⟩ w fun e w' => ∃ v M' us', e = .returned v ∧ M.le M' ∧ (∀ b o x, M' b o = some x → M b o = some x ∨ w.heap.size ≤ b ∨ ocBlk c0 us b) ∧ M'.inW w' ∧ res.h M' v ∧
      ObjAt M' w' β T c1 us' ∧ (∀ g, ocBlk c1 us' g → ocBlk c0 us g ∨ w.heap.size ≤ g) ∧ w'.os = w.os ∧ w'.tape = w.tape ∧ w'.output = w.output ∧ w.heap.size ≤ w'.heap.size ∧
      ∀ k, k < w.heap.size → k ≠ β → ¬ ocBlk c0 us k → w'.heap[k]? = w.heap[k]?
def ctxO (w : World) (M : Mem) (β : Nat) (c : List Oc) (us : List Value) : Ctx := { w0 := w, M0 := M, own := fun k => k = β ∨ ocBlk c us k, bor := fun k => k = β ∨ ocBlk c us k, pin := fun i => bif Nat.beq i 1000 then some β else none, pinr := fun _ => none, ro := none, J := fun _ _ _ _ _ => True, hbo := fun _ h => h, hpr := fun _ _ h => (by cases h), jf := fun _ _ _ _ _ _ _ _ _ _ _ _ _ _ _ _ => trivial }
theorem zip_row {M : Mem} {w : World} : ∀ {ids : List Nat} {c : List Oc} {us : List Value}, OcAll M w c us → ∀ {i : Nat} {R : Row}, (i, R) ∈ ids.zip (rowsOf c) → ∃ v, (i, R, v) ∈ ids.zip (rowVals c us)
  | ids, .s x :: l, v :: vs, h, i, R, hm => by
    have hm' : (i, R) ∈ ids.zip (rowsOf l) := hm
    exact zip_row (c := l) (us := vs) h.2 hm'
  | k :: ids, .r R' :: l, v :: vs, h, i, R, hm => by
    have hm' : (i, R) ∈ (k, R') :: ids.zip (rowsOf l) := hm
    rw [rowVals, List.zip_cons_cons]
    rcases List.mem_cons.1 hm' with e | e
    · cases e; exact ⟨v, by simp⟩
    · obtain ⟨v', h'⟩ := zip_row (ids := ids) (c := l) (us := vs) h.2 e
      exact ⟨v', List.mem_cons_of_mem _ h'⟩
  | [], .r _ :: _, _ :: _, _, _, _, hm => by simp at hm
  | _, [], [], _, _, _, hm => by simp [rowsOf] at hm
  | _, [], _ :: _, h, _, _, _ => h.elim
  | _, .s _ :: _, [], h, _, _, _ => h.elim
  | _, .r _ :: _, [], h, _, _, _ => h.elim
theorem ini_obj {n : Nat} {args : List AV} {T : TypeId} {c : List Oc} {M : Mem} {w : World} {β : Nat} {vs us : List Value} (ids : List Nat) (hM : M.inW w) (ho : ObjAt M w β T c us) (hv : AllV (objEnv M β) args vs) (hoy : args.all AV.oy = true) (hn : args.length ≤ n) (hid : ids.Nodup) (hil : ids.length = (rowsOf c).length) :
    HoldsAt (ctxO w M β c us) (AS.ini n args [(1000, ⟨T, oCells ids c⟩)] (ids.zip (rowsOf c))) ⟨fun _ => β, nuOf (ids.zip (rowVals c us)) (fun _ => .nilIface), fun _ => False, M⟩ { tmps := ⟨vs⟩ ++ Array.replicate (n - (⟨vs⟩ : Array Value).size) undef, defers := [] } w := by
  have hl := hv.length
  have hrv : (rowVals c us).length = (rowsOf c).length := by rw [← rowVals_len ho.al, List.length_map]
  have hnd : ((ids.zip (rowVals c us)).map (·.1)).Nodup := by rw [zip_fst (by omega)]; exact hid
  have oyArg : ∀ s, (argA args s).oy = true := fun s => by
    rcases argA_mem (l := args) (k := s) with e | e
    · rw [e]; rfl
    · exact List.all_eq_true.1 hoy _ e
  have oyB : ∀ x : AV, x.oy = true → (∀ j, x.mb j → j = 1000) ∧ ∀ j, ¬ x.mr j := fun x hx => by
    cases x with
    | sv s => exact ⟨fun j e => e.elim, fun j e => e⟩
    | ptr k o => exact ⟨fun j e => by cases e; exact Nat.eq_of_beq_eq_true hx, fun j e => e⟩
    | cmp t js =>
      refine ⟨fun j e => ?_, fun j e => ?_⟩
      · exact Nat.eq_of_beq_eq_true (List.all_eq_true.1 hx _ e)
      · exact Bool.false_ne_true (List.all_eq_true.1 hx _ e)
    | _ => exact (Bool.false_ne_true hx).elim
  have hall : AllV ⟨fun _ => β, nuOf (ids.zip (rowVals c us)) (fun _ => .nilIface), fun _ => False, M⟩ args vs := by
    refine hv.imp (fun x hx v hh => ?_)
    exact AV.holds_congr (E := objEnv M β) (E' := ⟨fun _ => β, nuOf (ids.zip (rowVals c us)) (fun _ => .nilIface), fun _ => False, M⟩) (Mem.le_refl _) (fun _ _ => rfl) (fun j hj => absurd hj ((oyB x (List.all_eq_true.1 hoy x hx)).2 j)) hh
  have live : ∀ j R, (AS.ini n args [(1000, ⟨T, oCells ids c⟩)] (ids.zip (rowsOf c))).r j = .live R → (j, R) ∈ ids.zip (rowsOf c) := fun j R hj => by
    have hj : (match lkR (ids.zip (rowsOf c)) j with | some R => RSt.live R | none => .un) = .live R := hj
    cases e : lkR (ids.zip (rowsOf c)) j with
    | none => rw [e] at hj; cases hj
    | some R' => rw [e] at hj; cases hj; exact lkR_mem e
  have isLive : ∀ j ∈ ids, (AS.ini n args [(1000, ⟨T, oCells ids c⟩)] (ids.zip (rowsOf c))).r j ≠ .un := fun j hj => by
    have key : ∀ (ids : List Nat) (Rs : List Row), ids.length = Rs.length → j ∈ ids → ∃ R, lkR (ids.zip Rs) j = some R := by
      intro ids
      induction ids with
      | nil => intro _ _ h; cases h
      | cons k ids ih =>
        intro Rs hl hm
        cases Rs with
        | nil => simp at hl
        | cons R Rs =>
          rw [List.zip_cons_cons, lkR]
          by_cases e : j = k
          · subst e; exact ⟨R, by simp⟩
          · rw [beq_ne e]
            rcases List.mem_cons.1 hm with q | q
            · exact absurd q e
            · exact ih Rs (by simpa using hl) q
    obtain ⟨R, hR⟩ := key ids _ hil hj
    show (match lkR (ids.zip (rowsOf c)) j with | some R => RSt.live R | none => .un) ≠ .un
    rw [hR]; simp
  have box : ∀ j B, (AS.ini n args [(1000, ⟨T, oCells ids c⟩)] (ids.zip (rowsOf c))).b j = some B → j = 1000 ∧ B = ⟨T, oCells ids c⟩ := fun j B h => by
    have := lkB_mem h
    simpa using this
  have b1000 : (AS.ini n args [(1000, ⟨T, oCells ids c⟩)] (ids.zip (rowsOf c))).b 1000 = some ⟨T, oCells ids c⟩ := rfl
  exact {
    wf := by
      refine ⟨fun s j hj => ?_, fun s j hj => ?_, fun i B hB x hx j hj => ?_, fun i B hB x hx j hj => ?_⟩
      · have := (oyB _ (oyArg s)).1 j hj
        subst this; exact ⟨_, b1000⟩
      · exact absurd hj ((oyB _ (oyArg s)).2 j)
      · obtain ⟨rfl, rfl⟩ := box i B hB
        exact absurd hj ((oCells_m x hx).1 j)
      · obtain ⟨rfl, rfl⟩ := box i B hB
        exact isLive j ((oCells_m x hx).2 j hj)
    marks := ⟨[], rfl, List.nodup_nil, by simp⟩
    size := by simp [AS.ini]; omega
    os := rfl
    tape := rfl
    output := rfl
    grown := Nat.le_refl _
    frame := fun _ _ _ => rfl
    m0 := Mem.le_refl _
    mnew := fun _ _ _ e => .inl e
    inW := hM
    tm := fun s => ini_tm hall s
    bx := fun i B h => by
      obtain ⟨rfl, rfl⟩ := box i B h
      refine ⟨.inr (.inl rfl), ho.nb, fun h => h, us, ho.hp, ?_⟩
      exact oCells_all (w := w) hil ho.al (fun j p hm => nuOf_mem (R := p.1) (v := p.2) hnd hm)
    inj := fun i j B1 B2 hi hj _ => by rw [(box i B1 hi).1, (box j B2 hj).1]
    rx := fun j R hj => by
      obtain ⟨v, hm⟩ := zip_row ho.al (live j R hj)
      have hν : nuOf (ids.zip (rowVals c us)) (fun _ => Value.nilIface) j = v := nuOf_mem hnd hm
      show (∃ vs : List Value, w.ownsRow 0 R.E R.sz (nuOf (ids.zip (rowVals c us)) (fun _ => .nilIface) j) R.n vs ∧ SV.All M R.cells vs) ∧ _
      rw [hν]
      refine ⟨rowVals_at ho.al (R, v) (zip_mem hm).2, fun g hg => ?_⟩
      have hg : v.ownBlock = some g := by rw [← hν]; exact hg
      have hb : ocBlk c us g := ⟨(R, v), (zip_mem hm).2, hg⟩
      obtain ⟨q1, q2⟩ := ho.nr g hb
      refine ⟨.inr (.inr hb), q2, fun h => h, fun k B _ e => q1 e.symm⟩
    rinj := fun j j' R R' h1 h2 g e1 e2 => by
      obtain ⟨v, hm⟩ := zip_row ho.al (live j R h1)
      obtain ⟨v', hm'⟩ := zip_row ho.al (live j' R' h2)
      have hν : nuOf (ids.zip (rowVals c us)) (fun _ => Value.nilIface) j = v := nuOf_mem hnd hm
      have hν' : nuOf (ids.zip (rowVals c us)) (fun _ => Value.nilIface) j' = v' := nuOf_mem hnd hm'
      exact apart_ids hid ho.ap j R v j' R' v' g hm hm' (by rw [← hν]; exact e1) (by rw [← hν']; exact e2)
    pin := fun i b e => by
      simp only [ctxO] at e
      cases h : Nat.beq i 1000 with
      | false => rw [h] at e; cases e
      | true => rw [h] at e; cases e; rfl
    pinr := fun i v e => by cases e
    olt := fun b e => e.elim
    jj := trivial }
theorem objC_of_ok {P : Program} {f : FuncId} {fn : Func} {code : Code} {args : List AV} {T : TypeId} {c0 c1 : List Oc} {res : SV} (ids : List Nat) (hf : P.funcs[f]? = some fn) (hb : fn.body = some code) (hn : args.length ≤ fn.ntmps) (hoy : args.all AV.oy = true) (hid : ids.Nodup) (hil : ids.length = (rowsOf c0).length)
    (h : ∀ (w : World) (M : Mem) (β : Nat) (us : List Value), Ok P (ctxO w M β c0 us) code (AS.ini fn.ntmps args [(1000, ⟨T, oCells ids c0⟩)] (ids.zip (rowsOf c0))) (fun e S => (e = .normal ∨ e = .ret) ∧ Res P S fn.results.toList res ∧ ∃ ks : List Nat, S.b 1000 = some ⟨T, oCells ks c1⟩ ∧ Lv S ks (rowsOf c1) ∧ ks.Nodup)) : ObjC P f args T c0 res c1 := by
  intro M w β vs us hM ho hv
  refine calls_of_ok rfl hf hb (ini_obj ids hM ho hv hoy hn hid hil) (h w M β us) ?_
  rintro S' E a w' ⟨hr, ks, hB, hL, hk⟩ hh
  obtain ⟨v, hv, hx⟩ := (ResA.sv hr).run hh
  have hβ : E.β 1000 = β := hh.pin 1000 β rfl
  obtain ⟨us', ho', hblk⟩ := objAt_of hh hB hL hk
  rw [hβ] at ho'
  refine ⟨v, hv, v, E.M, us', rfl, hh.m0, fun b o x e => ?_, hh.inW, hx, ho', fun g hg => ?_, hh.os, hh.tape, hh.output, hh.grown, fun k hk hne hno => hh.frame k hk (fun e => e.elim hne hno)⟩
  · rcases hh.mnew b o x e with q | q | q | q
    · exact .inl q
    · exact .inr (.inl q)
    · rw [show b = β from q, ho'.nb o] at e; cases e
    · exact .inr (.inr q)
  · obtain ⟨j, hj, hg'⟩ := (hblk g).1 hg
    obtain ⟨R, hR⟩ := hL.mem j hj
    obtain ⟨_, q⟩ := hh.rx j R hR
    rcases (q g hg').1 with q1 | q1 | q1
    · exact .inr q1
    · exact absurd q1 (ho'.nr g hg).1
    · exact .inl q1
end Go.Fw
namespace Go.Fw
open Go.RowKit
def Un (S : AS) : List Nat → Prop
  | [] => True
  | k :: ks => (S.r k = .un ∧ k < 1000) ∧ Un S ks
theorem Un.mem {S : AS} : ∀ {ks : List Nat}, Un S ks → ∀ k ∈ ks, S.r k = .un ∧ k < 1000
  | k :: ks, h, j, hj => by
    rcases List.mem_cons.1 hj with rfl | hj
    · exact h.1
    · exact Un.mem h.2 j hj
  | [], _, j, hj => by cases hj
theorem Un.congr {S S' : AS} : ∀ {ks : List Nat}, (∀ k ∈ ks, S'.r k = S.r k) → Un S ks → Un S' ks
  | [], _, _ => trivial
  | k :: ks, h, hu => ⟨by rw [h k (by simp)]; exact hu.1, Un.congr (fun j hj => h j (List.mem_cons_of_mem _ hj)) hu.2⟩
theorem Lv.congr {S S' : AS} : ∀ {js : List Nat} {Rs : List Row}, (∀ k ∈ js, S'.r k = S.r k) → Lv S js Rs → Lv S' js Rs
  | [], [], _, _ => trivial
  | j :: js, R :: Rs, h, hl => ⟨by rw [h j (by simp)]; exact hl.1, Lv.congr (fun k hk => h k (List.mem_cons_of_mem _ hk)) hl.2⟩
  | [], _ :: _, _, h => h.elim
  | _ :: _, [], _, h => h.elim
def oEff (js ks : List Nat) (c : List Oc) : List (Nat × RSt) := js.map (fun j => (j, RSt.dead)) ++ (ks.zip (rowsOf c)).map (fun p => (p.1, .live p.2))
theorem zip_live : ∀ (ks : List Nat) (l : List (Row × Value)), (ks.zip l).map (fun n => (n.1, RSt.live n.2.1)) = (ks.zip (l.map (·.1))).map (fun p => (p.1, .live p.2))
  | [], _ => rfl
  | _ :: _, [] => rfl
  | k :: ks, p :: l => by rw [List.map_cons, List.zip_cons_cons, List.zip_cons_cons, List.map_cons, List.map_cons, zip_live ks l]
theorem rsOf_eff {M : Mem} {w : World} {c : List Oc} {us : List Value} (h : OcAll M w c us) (js ks : List Nat) : rsOf js (ks.zip (rowVals c us)) = oEff js ks c := by
  unfold rsOf oEff
  rw [zip_live, rowVals_len h]
section steps
variable {P : Program} {C : Ctx} {ops : Array Oper} {S : AS} {nd : Bool} {K : List Ac → AS → Prop} {rest : List Oper} {acc : List Ac}
variable {gd : Option (Nat × Bool)} {rg : List Nat} {d : Nat} {ty : TypeId} {pos : String} {aft : Array Edge} {x y z : Operand} {T U E0 : TypeId}
theorem HoldsAt.lentObj {E : Env} {a : Act} {w w' : World} (h : HoldsAt C S E a w) {i : Nat} {js ks : List Nat} {c0 c1 : List Oc} {us us' : List Value} {M' : Mem} (hB : S.b i = some ⟨T, oCells js c0⟩) (hL : Lv S js (rowsOf c0)) (hks : ks.Nodup) (hkl : ks.length = (rowsOf c1).length) (hku : Un S ks)
    (hblk0 : ∀ g, ocBlk c0 us g ↔ ∃ j ∈ js, (E.ν j).ownBlock = some g) (hM : E.M.le M') (hn : ∀ b o x, M' b o = some x → E.M b o = some x ∨ w.heap.size ≤ b ∨ ocBlk c0 us b) (hin : M'.inW w') (ho : ObjAt M' w' (E.β i) T c1 us') (hg : ∀ g, ocBlk c1 us' g → ocBlk c0 us g ∨ w.heap.size ≤ g)
    (hos : w'.os = w.os) (htape : w'.tape = w.tape) (hout : w'.output = w.output) (hsize : w.heap.size ≤ w'.heap.size) (hblk : ∀ k, k < w.heap.size → k ≠ E.β i → ¬ ocBlk c0 us k → w'.heap[k]? = w.heap[k]?) :
    ∃ E' : Env, E'.M = M' ∧ E'.β = E.β ∧ HoldsAt C (AS.setRs (oEff js ks c1) (AS.setBs [(i, ⟨T, oCells ks c1⟩)] S)) E' a w' := by
  have hrv : (rowVals c1 us').length = (rowsOf c1).length := by rw [← rowVals_len ho.al, List.length_map]
  have hnd : ((ks.zip (rowVals c1 us')).map (·.1)).Nodup := by rw [zip_fst (by omega)]; exact hks
  rw [← rsOf_eff ho.al js ks]
  refine ⟨{ E with M := M', ν := nuOf (ks.zip (rowVals c1 us')) E.ν }, rfl, rfl, h.swapO hB js (ks.zip (rowVals c1 us')) (fun j hj => hL.mem j hj) (fun k R v hm => hku.mem k (zip_mem hm).1) hnd hM (fun b o x e => ?_) hin ho.hp ho.nb ?_ (fun x hx => ?_) (fun k R v hm => ?_) (apart_ids hks ho.ap) hos htape hout hsize (fun k hk hne hno => hblk k hk hne (fun q => ?_))⟩
  · rcases hn b o x e with q | q | q
    · exact .inl q
    · exact .inr (.inl q)
    · exact .inr (.inr ((hblk0 b).1 q))
  · exact oCells_all (E := { E with M := M', ν := nuOf (ks.zip (rowVals c1 us')) E.ν }) (w := w') hkl ho.al (fun j p hm => nuOf_mem (R := p.1) (v := p.2) hnd hm)
  · obtain ⟨q1, q2⟩ := oCells_m x hx
    refine ⟨q1, fun j hj => ?_⟩
    have hj := q2 j hj
    have key : ∀ (ks : List Nat) (l : List (Row × Value)), ks.length = l.length → j ∈ ks → ∃ R v, (j, R, v) ∈ ks.zip l := by
      intro ks
      induction ks with
      | nil => intro _ _ h; cases h
      | cons k ks ih =>
        intro l hl hm
        cases l with
        | nil => simp at hl
        | cons p l =>
          rw [List.zip_cons_cons]
          rcases List.mem_cons.1 hm with q | q
          · subst q; exact ⟨p.1, p.2, by simp⟩
          · obtain ⟨R, v, h⟩ := ih l (by simpa using hl) q
            exact ⟨R, v, List.mem_cons_of_mem _ h⟩
    exact key ks _ (by omega) hj
  · refine ⟨rowVals_at ho.al (R, v) (zip_mem hm).2, fun g hgv => ?_⟩
    have hb : ocBlk c1 us' g := ⟨(R, v), (zip_mem hm).2, hgv⟩
    obtain ⟨q1, q2⟩ := ho.nr g hb
    refine ⟨?_, q2, q1⟩
    rcases hg g hb with q | q
    · exact .inl ((hblk0 g).1 q)
    · exact .inr q
  · obtain ⟨j, hj, e⟩ := (hblk0 k).1 q
    exact hno j hj e
theorem RT.callO (hg : Gd ops S gd rg) {f : FuncId} [Ent P f] {g : Operand} {xs : Array Operand} {at_ : Array TypeId} {args : List AV} {T : TypeId} {c0 c1 : List Oc} {res : SV} (hp : ObjC P f args T c0 res c1) (i : Nat) (js ks : List Nat) (hB : S.b i = some ⟨T, oCells js c0⟩) (hL : Lv S js (rowsOf c0)) (hjs : js.Nodup) (hks : ks.Nodup) (hkl : ks.length = (rowsOf c1).length) (hku : Un S ks)
    (hoy : args.all AV.oy = true) (hf : S.ev g = .sv (.v (.func (.func f) #[] #[]))) (hargs : Args S xs.toList (args.map (AV.rnb i))) (hd : d < S.n)
    (next : RunT P C ops nd K rest (⟨rg ++ (okeys g ++ xs.toList.flatMap okeys), [i], js ++ ks, ⟨some (d, .sv res), [(i, ⟨T, oCells ks c1⟩)], oEff js ks c1⟩⟩ :: acc) ((AS.setRs (oEff js ks c1) (AS.setBs [(i, ⟨T, oCells ks c1⟩)] S)).set d (.sv res))) : RunT P C ops nd K (⟨some d, .call ⟨.value g, xs, at_⟩, ty, pos, aft, gd⟩ :: rest) acc S := by
  refine .inl ⟨_, [i], js ++ ks, _, ?_, next⟩
  rintro S' hn ht hb hr k a w L Q ho ⟨E, h⟩ hLL
  refine wpOp_of (C := C) ho (hg.wanted h (fun s hs => ht s (List.mem_append_left _ hs)) rfl) ?_
  have hgf : a.eval g = .func (.func f) #[] ⟨[]⟩ := by
    have h1 := h.ev g; rw [ev_congr (fun _ h => List.mem_append_right _ (List.mem_append_left _ h)) ht, hf] at h1; exact h1
  have hall := rnb_all hoy (Args.vals h hargs (fun s hs => ht s (List.mem_append_right _ (List.mem_append_right _ hs))))
  have hB' : S'.b i = some ⟨T, oCells js c0⟩ := by rw [hb i (by simp)]; exact hB
  have hL' : Lv S' js (rowsOf c0) := hL.congr (fun k hk => hr k (List.mem_append_left _ hk))
  have hku' : Un S' ks := hku.congr (fun k hk => hr k (List.mem_append_right _ hk))
  obtain ⟨us, ho1, hblk0⟩ := objAt_of h hB' hL' hjs
  refine wpIn_of (C := C) (by intro c h; cases h) (run_call hgf) ?_
  rw [List.append_nil]
  refine ⟨fun h => by simp at h, fr_calls ((hp E.M w (E.β i) _ us h.inW ho1 hall).mono ?_)⟩
  rintro e w' ⟨v, M', us', rfl, hM, hnew, hin, hv, ho2, hg2, hos, htape, hout, hsize, hblk⟩
  obtain ⟨E', e1, e2, h1⟩ := h.lentObj hB' hL' hks hkl hku' hblk0 hM hnew hin ho2 hg2 hos htape hout hsize hblk
  refine hLL _ _ ⟨_, h1.put (x := .sv res) (v := v) (by show res.h E'.M v; rw [e1]; exact hv) ?_ nomb⟩
  rw [(setRs_n _ _).1]; show d < S'.n; omega
theorem run_callB {f : FuncId} [Ent P f] {o : Option Nat} {g : Operand} {xs : Array Operand} {at_ : Array TypeId} {a : Act} {w : World} {bs : List Value} (hgf : a.eval g = .func (.func f) ⟨bs⟩ #[]) :
    (execOp a.eval ⟨o, .call ⟨.value g, xs, at_⟩, ty, pos, aft, gd⟩).run P w = .ok (.enter f ⟨bs ++ xs.toList.map a.eval⟩) w := by
  have e2 : (⟨bs⟩ : Array Value) ++ xs.map a.eval = ⟨bs ++ xs.toList.map a.eval⟩ := by apply Array.ext'; simp
  have e1 := Ent.run (P := P) (f := f) (⟨bs⟩ ++ xs.map a.eval) w
  rw [← e2]
  simp [execOp, resolve, hgf, Deferred.ofValue, invoke, e1]
theorem RT.makeBnd (hg : Gd ops S gd rg) {g : FuncId} {i : Nat} (hx : S.ev x = .ptr i 0) (hd : d < S.n)
    (next : RunT P C ops nd K rest (⟨rg ++ okeys x, [], [], ⟨some (d, .cmp (.bnd g) [.box i]), [], []⟩⟩ :: acc) (S.set d (.cmp (.bnd g) [.box i]))) : RunT P C ops nd K (⟨some d, .makeFunc (.func g) #[x] #[], ty, pos, aft, gd⟩ :: rest) acc S :=
  RT.value hg (okeys x) [] [] (.cmp (.bnd g) [.box i]) hd (by intro c h; cases h) (fun S' ht _ _ E a w h => by
    have hx' : S'.ev x = .ptr i 0 := by rw [ev_congr (fun _ h => h) ht, hx]
    have h1 := h.ev x
    rw [hx'] at h1
    obtain ⟨l1, l2⟩ := ev_live h.wf hx'
    refine ⟨.func (.func g) #[a.eval x] #[], by simp [execOp, Instr.makeFunc], ⟨[a.eval x], rfl, h1, trivial⟩, fun j e => ?_, fun j e => ?_⟩
    · have : j = i := by simpa [AV.mb] using e
      exact l1 j this
    · simp [AV.mr] at e) next
theorem RT.nilCheckP (hg : Gd ops S gd rg) {i o : Nat} (hx : S.ev x = .ptr i o) (hd : d < S.n)
    (next : RunT P C ops nd K rest (⟨rg ++ okeys x, [], [], ⟨some (d, .ptr i o), [], []⟩⟩ :: acc) (S.set d (.ptr i o))) : RunT P C ops nd K (⟨some d, .nilCheck x, ty, pos, aft, gd⟩ :: rest) acc S :=
  RT.value hg (okeys x) [] [] (.ptr i o) hd (by intro c h; cases h) (fun S' ht _ _ E a w h => by
    have hx' : S'.ev x = .ptr i o := by rw [ev_congr (fun _ h => h) ht, hx]
    have h1 := h.ev x
    rw [hx'] at h1
    have h2 : a.eval x = .pointer (some ⟨E.β i, o, none⟩) := h1
    exact ⟨a.eval x, by simp [execOp, h2], h1, ev_live h.wf hx'⟩) next
class TyPtr (P : Program) (T : TypeId) : Prop where
  u : P.underlying T = some (.pointer (P.pointee T))
theorem RT.ptrNil (hg : Gd ops S gd rg) [tT : TyPtr P T] {i o : Nat} (hx : S.ev x = .ptr i o) (hy : S.ev y = .sv (.v (.pointer none))) (hd : d < S.n)
    (next : RunT P C ops nd K rest (⟨rg ++ (okeys x ++ okeys y), [], [], ⟨some (d, .sv (.v (.bool false))), [], []⟩⟩ :: acc) (S.set d (.sv (.v (.bool false))))) : RunT P C ops nd K (⟨some d, .binOp .eql T x y U, ty, pos, aft, gd⟩ :: rest) acc S :=
  RT.value hg (okeys x ++ okeys y) [] [] (.sv (.v (.bool false))) hd (by intro c h; cases h) (fun S' ht _ _ E a w h => by
    have h1 := h.ev x
    rw [ev_congr (fun _ h => List.mem_append_left _ h) ht, hx] at h1
    have h2 := h.ev y
    rw [ev_congr (fun _ h => List.mem_append_right _ h) ht, hy] at h2
    have h1 : a.eval x = .pointer (some ⟨E.β i, o, none⟩) := h1
    have h2 : a.eval y = .pointer none := h2
    have e := run_eql_pointer_nil (P := P) w T (some ⟨E.β i, o, none⟩) tT.u
    refine ⟨.bool false, ?_, rfl, nomb⟩
    simp [execOp, h1, h2, eqGuard, e]) next
theorem RT.nilNil (hg : Gd ops S gd rg) [tT : TyPtr P T] (hx : S.ev x = .sv (.v (.pointer none))) (hy : S.ev y = .sv (.v (.pointer none))) (hd : d < S.n)
    (next : RunT P C ops nd K rest (⟨rg ++ (okeys x ++ okeys y), [], [], ⟨some (d, .sv (.v (.bool true))), [], []⟩⟩ :: acc) (S.set d (.sv (.v (.bool true))))) : RunT P C ops nd K (⟨some d, .binOp .eql T x y U, ty, pos, aft, gd⟩ :: rest) acc S :=
  RT.op2 hg (by intro c h; cases h) hx hy hd (fun ρ w h1 h2 => by
    have e := run_eql_pointer_nil (P := P) w T none tT.u
    simp [execOp, h1, h2, eqGuard, e]) next
def Fc.av : Fc → AV
  | .val s => .sv s
  | .box i => .ptr i 0
  | .row i => .row i
theorem RT.extractC (hg : Gd ops S gd rg) {i : Nat} {js : List Fc} {s : Fc} (hx : S.ev x = .cmp .tup js) (hi : js[i]? = some s) (hd : d < S.n)
    (next : RunT P C ops nd K rest (⟨rg ++ okeys x, [], [], ⟨some (d, s.av), [], []⟩⟩ :: acc) (S.set d s.av)) : RunT P C ops nd K (⟨some d, .extract x i, ty, pos, aft, gd⟩ :: rest) acc S :=
  RT.value hg (okeys x) [] [] s.av hd (by intro c h; cases h) (fun S' ht _ _ E a w h => by
    have hx' : S'.ev x = .cmp .tup js := by rw [ev_congr (fun _ h => h) ht, hx]
    have h1 := h.ev x
    rw [hx'] at h1
    obtain ⟨l1, l2⟩ := ev_live h.wf hx'
    obtain ⟨vs, hv, hall⟩ := h1
    have hv : a.eval x = .tuple ⟨vs⟩ := hv
    obtain ⟨u, hu, hs⟩ := hall.get hi
    have hm := List.mem_of_getElem? hi
    refine ⟨u, by simp [execOp, hv, Instr.extract, hu], ?_, fun j e => ?_, fun j e => ?_⟩
    · cases s <;> exact hs
    · cases s with
      | val s => exact e.elim
      | box k => have e : j = k := e; subst e; exact l1 j hm
      | row k => exact e.elim
    · cases s with
      | val s => exact e.elim
      | box k => exact e.elim
      | row k => have e : j = k := e; subst e; exact l2 j hm) next
def resV (tp : Bool) (p : Value) (rs : List Value) : Value := bif tp then .tuple ⟨p :: rs⟩ else p
def NewO (P : Program) (f : FuncId) (args : List SV) (tp : Bool) (rest : List SV) (T : TypeId) (c : List Oc) : Prop :=
  ∀ (M : Mem) (w : World) (vs : List Value), M.inW w → SV.All M args vs →
    Calls P f ⟨vs⟩ w fun e w' => ∃ β rs M' us, e = .returned (resV tp (.pointer (some ⟨β, 0, none⟩)) rs) ∧ M.le M' ∧ (∀ b o x, M' b o = some x → M b o = some x ∨ w.heap.size ≤ b) ∧ M'.inW w' ∧ SV.All M' rest rs ∧
      ObjAt M' w' β T c us ∧ w.heap.size ≤ β ∧ (∀ g, ocBlk c us g → w.heap.size ≤ g) ∧ Below w.heap.size w w'
theorem newO_end {w : World} {M : Mem} {S' : AS} {E : Env} {a : Act} {w' : World} {k : Nat} {ks : List Nat} {c : List Oc} (hB : S'.b k = some ⟨T, oCells ks c⟩) (hL : Lv S' ks (rowsOf c)) (hk : ks.Nodup) (hh : HoldsAt (ctx0 w M) S' E a w') :
    ∃ us, M.le E.M ∧ (∀ b o x, E.M b o = some x → M b o = some x ∨ w.heap.size ≤ b) ∧ E.M.inW w' ∧ ObjAt E.M w' (E.β k) T c us ∧ w.heap.size ≤ E.β k ∧ (∀ g, ocBlk c us g → w.heap.size ≤ g) ∧ Below w.heap.size w w' := by
  obtain ⟨us, ho, hblk⟩ := objAt_of hh hB hL hk
  refine ⟨us, hh.m0, fun b o x e => ?_, hh.inW, ho, (hh.bx k _ hB).1.elim id (fun h => h.elim), fun g hg => ?_, hh.os, hh.tape, hh.output, hh.grown, fun k hk => hh.frame k hk (fun h => h)⟩
  · rcases hh.mnew b o x e with h | h | h
    · exact .inl h
    · exact .inr h
    · exact h.elim
  · obtain ⟨j, hj, hg'⟩ := (hblk g).1 hg
    obtain ⟨R, hR⟩ := hL.mem j hj
    exact ((hh.rx j R hR).2 g hg').1.elim id (fun h => h.elim)
theorem newO_of_ok2 {f : FuncId} {fn : Func} {code : Code} {args : List SV} {s : SV} {c : List Oc} {t1 t2 : Nat} (hf : P.funcs[f]? = some fn) (hb : fn.body = some code) (hn : args.length ≤ fn.ntmps) (hres : fn.results = #[.tmp t1, .tmp t2])
    (h : ∀ (w : World) (M : Mem) (vs : List Value), SV.All M args vs → Ok P (ctx0 w M) code (AS.init fn.ntmps args) (fun e S => (e = .normal ∨ e = .ret) ∧ ∃ (k : Nat) (ks : List Nat), S.t t1 = .ptr k 0 ∧ S.t t2 = .sv s ∧ S.b k = some ⟨T, oCells ks c⟩ ∧ Lv S ks (rowsOf c) ∧ ks.Nodup)) : NewO P f args true [s] T c := by
  intro M w vs hM hvs
  refine calls_of_ok rfl hf hb (init_holds hM hvs hn) (h w M vs hvs) ?_
  rintro S' E a w' ⟨k, ks, hr1, hr2, hB, hL, hk⟩ hh
  have h1 := hh.tm t1
  rw [hr1] at h1
  have h1 : a.tmps.getD t1 undef = .pointer (some ⟨E.β k, 0, none⟩) := h1
  have h2 := hh.tm t2
  rw [hr2] at h2
  obtain ⟨us, q1, q2, q3, q4, q5, q6, q7⟩ := newO_end hB hL hk hh
  refine ⟨.tuple #[.pointer (some ⟨E.β k, 0, none⟩), a.tmps.getD t2 undef], ?_, E.β k, [a.tmps.getD t2 undef], E.M, us, rfl, q1, q2, q3, ⟨h2, trivial⟩, q4, q5, q6, q7⟩
  rw [Array.getD_eq_getD_getElem?] at h1
  simp [results, hres, h1]
theorem HoldsAt.newRows {a : Act} {w : World} : ∀ (ks : List Nat) (l : List (Row × Value)) {S : AS} {E : Env}, HoldsAt C S E a w → ks.length = l.length → ks.Nodup → Un S ks → (∀ p ∈ l, ∃ vs : List Value, w.ownsRow 0 p.1.E p.1.sz p.2 p.1.n vs ∧ SV.All E.M p.1.cells vs) → Apart l → (∀ p ∈ l, ∀ g, p.2.ownBlock = some g → Free C S E g) →
    ∃ E' : Env, E'.M = E.M ∧ E'.β = E.β ∧ E'.O = E.O ∧ (∀ i p, (i, p) ∈ ks.zip l → E'.ν i = p.2) ∧ (∀ i, i ∉ ks → E'.ν i = E.ν i) ∧ HoldsAt C (AS.setRs ((ks.zip l).map (fun n => (n.1, .live n.2.1))) S) E' a w
  | [], [], S, E, h, _, _, _, _, _, _ => ⟨E, rfl, rfl, rfl, fun i p hm => (by simp at hm), fun _ _ => rfl, h⟩
  | k :: ks, p :: l, S, E, h, hl, hn, hu, ho, ha, hf => by
    obtain ⟨R, v⟩ := p
    rw [List.nodup_cons] at hn
    obtain ⟨ha1, ha2⟩ := List.pairwise_cons.1 ha
    obtain ⟨vs, ho1, ho2⟩ := ho (R, v) (by simp)
    have h1 := h.newRow' hu.1.1 hu.1.2 [] none (.inl ⟨rfl, rfl⟩) (R' := R) ho1 ho2 (fun g hg => .inr (hf (R, v) (by simp) g hg)) (grown_refl w none)
    have hu' : Un (AS.setRs ([] ++ [(k, .live R)]) S) ks := hu.2.congr (fun j hj => by
      show (AS.setR S k _).r j = _
      exact AS.setR_other _ _ _ _ (fun e => hn.1 (e ▸ hj)))
    obtain ⟨E', q1, q2, q3, q4, q5, q6⟩ := HoldsAt.newRows ks l h1 (by simpa using hl) hn.2 hu' (fun p hp => ho p (List.mem_cons_of_mem _ hp)) ha2 (fun p hp g hg => by
      obtain ⟨f1, f2, f3, f4, f5⟩ := hf p (List.mem_cons_of_mem _ hp) g hg
      refine ⟨f1, f2, f3, f4, fun j R' hR' e => ?_⟩
      have hR' : (AS.setR S k (.live R)).r j = .live R' := hR'
      by_cases ej : j = k
      · subst ej
        have e : (if j = j then v else E.ν j).ownBlock = some g := e
        rw [if_pos rfl] at e
        exact ha1 p hp g e hg
      · rw [AS.setR_other _ _ _ _ ej] at hR'
        have e : (if j = k then v else E.ν j).ownBlock = some g := e
        rw [if_neg ej] at e
        exact f5 j R' hR' e)
    refine ⟨E', q1, q2, q3, fun i p hm => ?_, fun i hi => ?_, q6⟩
    · rw [List.zip_cons_cons] at hm
      rcases List.mem_cons.1 hm with e | e
      · cases e
        rw [q5 k hn.1]
        show (if k = k then v else E.ν k) = v
        rw [if_pos rfl]
      · exact q4 i p e
    · rw [q5 i (fun hm => hi (List.mem_cons_of_mem _ hm))]
      show (if i = k then v else E.ν i) = E.ν i
      rw [if_neg (fun e => hi (by rw [e]; simp))]
  | [], _ :: _, _, _, _, hl, _, _, _, _, _ => by simp at hl
  | _ :: _, [], _, _, _, hl, _, _, _, _, _ => by simp at hl
theorem setRs_setB (i : Nat) (B : Box) : ∀ (l : List (Nat × RSt)) (S : AS), AS.setRs l (S.setB i B) = (AS.setRs l S).setB i B
  | [], _ => rfl
  | (j, R) :: l, S => setRs_setB i B l (S.setR j R)
theorem zip_fst_mem {α β : Type} : ∀ {l : List α} {k : List β} {a : α}, l.length = k.length → a ∈ l → ∃ b, (a, b) ∈ l.zip k
  | a :: l, c :: k, b, h, hb => by
    rcases List.mem_cons.1 hb with rfl | hb
    · exact ⟨c, by rw [List.zip_cons_cons]; simp⟩
    · obtain ⟨a', h'⟩ := zip_fst_mem (l := l) (k := k) (by simpa using h) hb
      exact ⟨a', by rw [List.zip_cons_cons]; exact List.mem_cons_of_mem _ h'⟩
  | [], _, _, _, hb => by cases hb
  | _ :: _, [], _, h, _ => by simp at h
theorem HoldsAt.newObj {E : Env} {a : Act} {w w' : World} (h : HoldsAt C S E a w) {i : Nat} (hi : S.b i = none) (hp : C.pin i = none) {ks : List Nat} {c : List Oc} {us : List Value} {M' : Mem} {β : Nat} (hks : ks.Nodup) (hkl : ks.length = (rowsOf c).length) (hku : Un S ks)
    (hM : E.M.le M') (hn : ∀ b o x, M' b o = some x → E.M b o = some x ∨ w.heap.size ≤ b) (hin : M'.inW w') (ho : ObjAt M' w' β T c us) (hβ : w.heap.size ≤ β) (hg : ∀ g, ocBlk c us g → w.heap.size ≤ g) (hbl : Below w.heap.size w w') :
    ∃ E' : Env, E'.M = M' ∧ E'.β i = β ∧ HoldsAt C (AS.setRs (oEff [] ks c) (AS.setBs [(i, ⟨T, oCells ks c⟩)] S)) E' a w' := by
  have hrv : (rowVals c us).length = (rowsOf c).length := by rw [← rowVals_len ho.al, List.length_map]
  have h0 := h.grow hM hn hin hbl
  obtain ⟨E1, q1, q2, q3, q4, q5, h1⟩ := HoldsAt.newRows ks (rowVals c us) h0 (by omega) hks hku (rowVals_at ho.al) ho.ap (fun p hp g hgv => h.freeNew (hg g ⟨p, hp, hgv⟩) (ho.nr g ⟨p, hp, hgv⟩).2)
  have hS1 : AS.setRs ((ks.zip (rowVals c us)).map (fun n => (n.1, .live n.2.1))) S = AS.setRs (oEff [] ks c) S := by rw [← rsOf_eff ho.al [] ks]; rfl
  rw [hS1] at h1
  obtain ⟨f1, f2, f3, f4, f5⟩ := h.freeNew (M' := M') hβ ho.nb
  have hi1 : (AS.setRs (oEff [] ks c) S).b i = none := by rw [(setRs_n _ _).2.2.1]; exact hi
  have hfree : Free C (AS.setRs (oEff [] ks c) S) E1 β := by
    refine ⟨f1, by rw [q1]; exact f2, by rw [q3]; exact f3, fun j B hB => ?_, fun j R hR e => ?_⟩
    · rw [(setRs_n _ _).2.2.1] at hB; rw [q2]; exact f4 j B hB
    · by_cases hj : j ∈ ks
      · obtain ⟨p, hm⟩ := zip_fst_mem (l := ks) (k := rowVals c us) (by omega) hj
        rw [q4 j p hm] at e
        exact (ho.nr β ⟨p, (zip_mem hm).2, e⟩).1 rfl
      · rw [setRs_r, lastR_none (fun R hm => by
          obtain ⟨x, hx, e⟩ := List.mem_map.1 (show (j, R) ∈ (ks.zip (rowsOf c)).map (fun p => (p.1, RSt.live p.2)) from hm)
          obtain ⟨k, R2⟩ := x
          have e : k = j := congrArg Prod.fst e
          exact hj (e ▸ (zip_mem hx).1))] at hR
        rw [q5 j hj] at e
        exact f5 j R hR e
  have h2 := h1.newBox' hi1 hp hfree ho.hp (oCells_all (w := w') hkl (by rw [q1]; exact ho.al) q4) (fun x hx => by
    obtain ⟨p1, p2⟩ := oCells_m x hx
    refine ⟨fun j e => absurd e (p1 j), fun j e => ?_⟩
    obtain ⟨R, hm⟩ := zip_fst_mem (l := ks) (k := rowsOf c) hkl (p2 j e)
    obtain ⟨R', hR'⟩ := lastR_ex (l := oEff [] ks c) (j := j) (R := .live R) (List.mem_map.2 ⟨(j, R), hm, rfl⟩)
    rw [setRs_r, hR']
    obtain ⟨x, hx, e⟩ := List.mem_map.1 (show (j, R') ∈ (ks.zip (rowsOf c)).map (fun p => (p.1, RSt.live p.2)) from lastR_some hR')
    rw [← show RSt.live x.2 = R' from congrArg Prod.snd e]
    simp)
  refine ⟨{ E1 with β := fun j => if j = i then β else E1.β j }, q1, ?_, ?_⟩
  rotate_left 1
  · rw [show AS.setBs [(i, (⟨T, oCells ks c⟩ : Box))] S = S.setB i ⟨T, oCells ks c⟩ from rfl, setRs_setB]
    exact h2
  · show (if i = i then β else E1.β i) = β
    rw [if_pos rfl]
theorem RT.callNO2 (hg : Gd ops S gd rg) {f : FuncId} [Ent P f] {g : Operand} {xs : Array Operand} {at_ : Array TypeId} {args : List SV} {T : TypeId} {c : List Oc} {s : SV} (hp : NewO P f args true [s] T c) (ks : List Nat) (hks : ks.Nodup) (hkl : ks.length = (rowsOf c).length) (hku : Un S ks) (hf : S.ev g = .sv (.v (.func (.func f) #[] #[]))) (hargs : AllSv S xs.toList args) (hd : d < S.n) (hdb : S.b d = none) (hpin : C.pin d = none)
    (next : RunT P C ops nd K rest (⟨rg ++ (okeys g ++ xs.toList.flatMap okeys), [d], ks, ⟨some (d, .cmp .tup [.box d, .val s]), [(d, ⟨T, oCells ks c⟩)], oEff [] ks c⟩⟩ :: acc) ((AS.setRs (oEff [] ks c) (AS.setBs [(d, ⟨T, oCells ks c⟩)] S)).set d (.cmp .tup [.box d, .val s]))) : RunT P C ops nd K (⟨some d, .call ⟨.value g, xs, at_⟩, ty, pos, aft, gd⟩ :: rest) acc S := by
  refine .inl ⟨_, [d], ks, _, ?_, next⟩
  rintro S' hn ht hb hr i a w L Q ho ⟨E, h⟩ hL
  refine wpOp_of (C := C) ho (hg.wanted h (fun s hs => ht s (List.mem_append_left _ hs)) rfl) ?_
  have hgf : a.eval g = .func (.func f) #[] ⟨[]⟩ := by
    have h1 := h.ev g; rw [ev_congr (fun _ h => List.mem_append_right _ (List.mem_append_left _ h)) ht, hf] at h1; exact h1
  have hall := AllSv.vals h hargs (fun s hs => ht s (List.mem_append_right _ (List.mem_append_right _ hs)))
  have hdn : S'.b d = none := by rw [hb d (by simp)]; exact hdb
  refine wpIn_of (C := C) (by intro c h; cases h) (run_call hgf) ?_
  rw [List.append_nil]
  refine ⟨fun h => by simp at h, fr_calls ((hp E.M w _ h.inW hall).mono ?_)⟩
  rintro e w' ⟨β, rs, M', us, rfl, hM, hnew, hin, hrs, ho2, hβ, hg2, hbl⟩
  obtain ⟨E', e1, e2, h1⟩ := h.newObj hdn hpin hks hkl (hku.congr hr) hM hnew hin ho2 hβ hg2 hbl
  match rs, hrs with
  | [r], hrs =>
    refine hL _ _ ⟨_, h1.put (x := .cmp .tup [.box d, .val s]) (v := .tuple #[.pointer (some ⟨β, 0, none⟩), r]) ⟨[.pointer (some ⟨β, 0, none⟩), r], rfl, by show _ = Value.pointer (some ⟨E'.β d, 0, none⟩); rw [e2], by show s.h E'.M r; rw [e1]; exact hrs.1, trivial⟩ ?_ ⟨fun j e => ?_, fun j e => ?_⟩⟩
    · rw [(setRs_n _ _).1]; show d < S'.n; omega
    · have e : j = d := by simpa [AV.mb] using e
      subst e
      rw [(setRs_n _ _).2.2.1]
      exact ⟨_, AS.setB_same _ _ _⟩
    · simp [AV.mr] at e
end steps
end Go.Fw
namespace Go.Fw
open Go.RowKit
def ObjR (P : Program) (f : FuncId) (args : List AV) (T : TypeId) (c : List Oc) (res : SV) : Prop :=
  ∀ (M : Mem) (w : World) (β : Nat) (vs us : List Value), M.inW w → ObjAt M w β T c us → AllV (objEnv M β) args vs →
    Calls P f ⟨vs⟩ w fun e w' => ∃ v M', e = .returned v ∧ M.le M' ∧ (∀ b o x, M' b o = some x → M b o = some x ∨ w.heap.size ≤ b) ∧ M'.inW w' ∧ res.h M' v ∧
      ObjAt M' w' β T c us ∧ w'.os = w.os ∧ w'.tape = w.tape ∧ w'.output = w.output ∧ w.heap.size ≤ w'.heap.size ∧ ∀ k, k < w.heap.size → k ≠ β → ¬ ocBlk c us k → w'.heap[k]? = w.heap[k]?
def lkV : List (Nat × Row × Value) → Nat → Option Value
  | [], _ => none
  | (k, _, v) :: l, j => if j = k then some v else lkV l j
theorem lkV_mem : ∀ {l : List (Nat × Row × Value)} {j : Nat} {v : Value}, lkV l j = some v → ∃ R, (j, R, v) ∈ l
  | (k, R, u) :: l, j, v, h => by
    rw [lkV] at h
    by_cases e : j = k
    · rw [if_pos e] at h; cases h; subst e; exact ⟨R, by simp⟩
    · rw [if_neg e] at h
      obtain ⟨R', hm⟩ := lkV_mem h
      exact ⟨R', List.mem_cons_of_mem _ hm⟩
  | [], _, _, h => by cases h
theorem lkV_of : ∀ {l : List (Nat × Row × Value)} {j : Nat} {R : Row} {v : Value}, (l.map (·.1)).Nodup → (j, R, v) ∈ l → lkV l j = some v
  | (k, R', v') :: l, j, R, v, hn, h => by
    rw [List.map_cons, List.nodup_cons] at hn
    rw [lkV]
    rcases List.mem_cons.1 h with e | e
    · cases e; rw [if_pos rfl]
    · have : j ≠ k := fun q => hn.1 (List.mem_map.2 ⟨(j, R, v), e, q⟩)
      rw [if_neg this]; exact lkV_of hn.2 e
theorem bleAll {ids : List Nat} (h : (ids.all fun i => Nat.ble 1000 i) = true) : ∀ i ∈ ids, 1000 ≤ i := fun i hi => Nat.le_of_ble_eq_true (List.all_eq_true.1 h i hi)
def ctxP (w : World) (M : Mem) (β : Nat) (c : List Oc) (us : List Value) (ids : List Nat) (hid : (ids.all fun i => Nat.ble 1000 i) = true) : Ctx := { w0 := w, M0 := M, own := fun k => k = β ∨ ocBlk c us k, bor := fun k => k = β ∨ ocBlk c us k, pin := fun i => bif Nat.beq i 1000 then some β else none, pinr := lkV (ids.zip (rowVals c us)), ro := none, J := fun _ _ _ _ _ => True, hbo := fun _ h => h, hpr := fun _ _ h => (by obtain ⟨R, hm⟩ := lkV_mem h; exact bleAll hid _ (zip_mem hm).1), jf := fun _ _ _ _ _ _ _ _ _ _ _ _ _ _ _ _ => trivial }
def Oc.cst : Oc → Prop
  | .s x => ∃ v, x = .v v
  | .r _ => True
def allCst : List Oc → Prop
  | [] => True
  | c :: l => c.cst ∧ allCst l
theorem same_us {M M' : Mem} {w w' : World} : ∀ {c : List Oc} {us us' : List Value}, allCst c → OcAll M w c us → OcAll M' w' c us' → rowVals c us = rowVals c us' → us = us'
  | [], [], [], _, _, _, _ => rfl
  | .s x :: l, v :: vs, v' :: vs', hc, h, h', e => by
    obtain ⟨y, rfl⟩ := hc.1
    have e1 : v = y := h.1
    have e2 : v' = y := h'.1
    rw [e1, e2, same_us hc.2 h.2 h'.2 e]
  | .r R :: l, v :: vs, v' :: vs', hc, h, h', e => by
    rw [rowVals, rowVals] at e
    have e1 := (List.cons.inj e).1
    have e2 := (List.cons.inj e).2
    rw [same_us hc.2 h.2 h'.2 e2]
    rw [(Prod.mk.inj e1).2]
  | [], [], _ :: _, _, _, h, _ => h.elim
  | [], _ :: _, _, _, h, _, _ => h.elim
  | .s _ :: _, [], _, _, h, _, _ => h.elim
  | .r _ :: _, [], _, _, h, _, _ => h.elim
  | .s _ :: _, _ :: _, [], _, _, h, _ => h.elim
  | .r _ :: _, _ :: _, [], _, _, h, _ => h.elim
theorem objR_of_ok {P : Program} {f : FuncId} {fn : Func} {code : Code} {args : List AV} {T : TypeId} {c : List Oc} {res : SV} (ids : List Nat) (hf : P.funcs[f]? = some fn) (hb : fn.body = some code) (hn : args.length ≤ fn.ntmps) (hoy : args.all AV.oy = true) (hid : ids.Nodup) (hil : ids.length = (rowsOf c).length) (hge : (ids.all fun i => Nat.ble 1000 i) = true) (hcst : allCst c)
    (h : ∀ (w : World) (M : Mem) (β : Nat) (us : List Value), Ok P (ctxP w M β c us ids hge) code (AS.ini fn.ntmps args [(1000, ⟨T, oCells ids c⟩)] (ids.zip (rowsOf c))) (fun e S => (e = .normal ∨ e = .ret) ∧ Res P S fn.results.toList res ∧ S.b 1000 = some ⟨T, oCells ids c⟩ ∧ Lv S ids (rowsOf c))) : ObjR P f args T c res := by
  intro M w β vs us hM ho hv
  have hrv : (rowVals c us).length = (rowsOf c).length := by rw [← rowVals_len ho.al, List.length_map]
  have hnd : ((ids.zip (rowVals c us)).map (·.1)).Nodup := by rw [zip_fst (by omega)]; exact hid
  have hini : HoldsAt (ctxP w M β c us ids hge) (AS.ini fn.ntmps args [(1000, ⟨T, oCells ids c⟩)] (ids.zip (rowsOf c))) ⟨fun _ => β, nuOf (ids.zip (rowVals c us)) (fun _ => .nilIface), fun _ => False, M⟩ { tmps := ⟨vs⟩ ++ Array.replicate (fn.ntmps - (⟨vs⟩ : Array Value).size) undef, defers := [] } w := by
    have h0 := ini_obj (n := fn.ntmps) ids hM ho hv hoy hn hid hil
    exact { wf := h0.wf, marks := h0.marks, size := h0.size, os := h0.os, tape := h0.tape, output := h0.output, grown := h0.grown, frame := h0.frame, m0 := h0.m0, mnew := h0.mnew, inW := h0.inW, tm := h0.tm, bx := h0.bx, inj := h0.inj, rx := h0.rx, rinj := h0.rinj, pin := h0.pin, pinr := fun i v e => (by
      obtain ⟨R, hm⟩ := lkV_mem e
      exact nuOf_mem hnd hm), olt := h0.olt, jj := trivial }
  refine calls_of_ok rfl hf hb hini (h w M β us) ?_
  rintro S' E a w' ⟨hr, hB, hL⟩ hh
  obtain ⟨v, hv, hx⟩ := (ResA.sv hr).run hh
  have hβ : E.β 1000 = β := hh.pin 1000 β rfl
  obtain ⟨us', ho', hblk⟩ := objAt_of hh hB hL hid
  rw [hβ] at ho'
  obtain ⟨_, _, _, us2, q2, q3⟩ := hh.bx 1000 _ hB
  rw [hβ, ho'.hp] at q2
  obtain rfl : us' = us2 := by
    have := Option.some.inj q2
    injection this with e
    injection e
  obtain ⟨_, hrv'⟩ := cells_oc hh hL q3
  have hrows : rowVals c us = rowVals c us' := by
    rw [hrv']
    have key : ∀ (ids : List Nat) (l : List (Row × Value)) (Rs : List Row), ids.length = l.length → l.map (·.1) = Rs → (∀ i R v, (i, R, v) ∈ ids.zip l → E.ν i = v) → l = Rs.zip (ids.map E.ν) := by
      intro ids
      induction ids with
      | nil => intro l Rs hl hm _; cases l with | nil => cases hm; rfl | cons _ _ => simp at hl
      | cons i ids ih =>
        intro l Rs hl hm hν
        cases l with
        | nil => simp at hl
        | cons p l =>
          cases hm
          obtain ⟨R, v⟩ := p
          rw [List.map_cons, List.map_cons, List.zip_cons_cons, hν i R v (by rw [List.zip_cons_cons]; simp), ← ih l _ (by simpa using hl) rfl (fun i R v hm => hν i R v (by rw [List.zip_cons_cons]; exact List.mem_cons_of_mem _ hm))]
    exact key ids _ _ (by omega) (rowVals_len ho.al) (fun i R v hm => hh.pinr i v (lkV_of hnd hm))
  obtain rfl : us = us' := same_us hcst ho.al ho'.al hrows
  refine ⟨v, hv, v, E.M, rfl, hh.m0, fun b o x e => ?_, hh.inW, hx, ho', hh.os, hh.tape, hh.output, hh.grown, fun k hk hne hno => hh.frame k hk (fun e => e.elim hne hno)⟩
  rcases hh.mnew b o x e with q | q | q | q
  · exact .inl q
  · exact .inr q
  · rw [show b = β from q, ho'.nb o] at e; cases e
  · rw [(ho'.nr b q).2 o] at e; cases e
section steps
variable {P : Program} {C : Ctx} {ops : Array Oper} {S : AS} {nd : Bool} {K : List Ac → AS → Prop} {rest : List Oper} {acc : List Ac}
variable {gd : Option (Nat × Bool)} {rg : List Nat} {d : Nat} {ty : TypeId} {pos : String} {aft : Array Edge} {x y z : Operand} {T U E0 : TypeId}
theorem HoldsAt.readObj {E : Env} {a : Act} {w w' : World} (h : HoldsAt C S E a w) {i : Nat} {js : List Nat} {c : List Oc} {us : List Value} {M' : Mem} (hB : S.b i = some ⟨T, oCells js c⟩) (hL : Lv S js (rowsOf c)) (hjs : js.Nodup) (hus : ObjAt E.M w (E.β i) T c us)
    (hM : E.M.le M') (hn : ∀ b o x, M' b o = some x → E.M b o = some x ∨ w.heap.size ≤ b) (hin : M'.inW w') (ho : ObjAt M' w' (E.β i) T c us)
    (hos : w'.os = w.os) (htape : w'.tape = w.tape) (hout : w'.output = w.output) (hsize : w.heap.size ≤ w'.heap.size) (hblk : ∀ k, k < w.heap.size → k ≠ E.β i → ¬ ocBlk c us k → w'.heap[k]? = w.heap[k]?) :
    HoldsAt C S { E with M := M' } a w' := by
  obtain ⟨hβ1, hβ2, hβ3, us0, hβ4, hβ5⟩ := h.bx i _ hB
  obtain rfl : us0 = us := by
    rw [hus.hp] at hβ4
    have := Option.some.inj hβ4
    injection this with e
    injection e with e
    exact e.symm
  obtain ⟨_, hrv⟩ := cells_oc h hL hβ5
  have hlen := hL.len
  have blk : ∀ g, ocBlk c us0 g ↔ ∃ j ∈ js, (E.ν j).ownBlock = some g := fun g => by
    unfold ocBlk
    rw [hrv]
    constructor
    · rintro ⟨⟨R, v⟩, hm, hg⟩
      obtain ⟨j, hj, rfl⟩ := List.mem_map.1 (zip_mem hm).2
      exact ⟨j, hj, hg⟩
    · rintro ⟨j, hj, hg⟩
      obtain ⟨R, hR⟩ := zip_snd_mem (l := rowsOf c) (k := js.map E.ν) (by simp [hlen]) (List.mem_map.2 ⟨j, hj, rfl⟩)
      exact ⟨(R, E.ν j), hR, hg⟩
  have oblk : ∀ g, ocBlk c us0 g → (C.w0.heap.size ≤ g ∨ C.bor g) ∧ ¬ E.O g ∧ (∀ n B, S.b n = some B → E.β n ≠ g) ∧ ∃ c e, w.heap[g]? = some (Obj.cells c e (0, 0)) := fun g hg => by
    obtain ⟨j, hj, hg'⟩ := (blk g).1 hg
    obtain ⟨R, hR⟩ := hL.mem j hj
    obtain ⟨⟨us, q1, _⟩, q2⟩ := h.rx j R hR
    obtain ⟨q3, q4, q5, q6⟩ := q2 g hg'
    refine ⟨q3, q5, q6, ?_⟩
    rcases q1.2 with ⟨q7, _⟩ | ⟨g', cap, cur, q7, _, q8, _⟩
    · rw [q7] at hg'; cases hg'
    · rw [q7] at hg'; cases hg'; exact ⟨_, _, q8⟩
  have keep : ∀ x : AV, ∀ v, x.holds E v → x.holds { E with M := M' } v := fun x v hv => AV.holds_congr (E := E) (E' := { E with M := M' }) hM (fun _ _ => rfl) (fun _ _ => rfl) hv
  have noM : ∀ b, b < w.heap.size → (∀ o, E.M b o = none) → ∀ o, M' b o = none := fun b h1 h2 o => by
    cases e : M' b o with
    | none => rfl
    | some v =>
      rcases hn b o v e with q | q
      · rw [h2 o] at q; cases q
      · omega
  exact {
    wf := h.wf
    marks := by
      obtain ⟨ds, d1, d2, d3⟩ := h.marks
      refine ⟨ds, d1, d2, fun r hr => ?_⟩
      obtain ⟨p1, p2, p3⟩ := d3 r hr
      refine ⟨p1, p2, ?_⟩
      rw [hblk r (Array.getElem?_eq_some_iff.1 p3).1 (fun e => by rw [e, hβ4] at p3; cases p3) (fun e => by
        obtain ⟨_, _, _, c, e2, q⟩ := oblk r e
        rw [q] at p3; cases p3)]
      exact p3
    size := h.size
    os := hos.trans h.os
    tape := htape.trans h.tape
    output := hout.trans h.output
    grown := Nat.le_trans h.grown hsize
    frame := fun k hk hown => by
      rw [hblk k (Nat.lt_of_lt_of_le hk h.grown) (fun e => by
        rcases hβ1 with q | q
        · omega
        · exact hown (C.hbo _ (by rw [e]; exact q))) (fun e => by
        rcases (oblk k e).1 with q | q
        · omega
        · exact hown (C.hbo _ q))]
      exact h.frame k hk hown
    m0 := Mem.le_trans h.m0 hM
    mnew := fun b o v e => by
      rcases hn b o v e with q | q
      · exact h.mnew b o v q
      · exact .inr (.inl (Nat.le_trans h.grown q))
    inW := hin
    tm := fun s => keep _ _ (h.tm s)
    bx := fun j B hB' => by
      obtain ⟨p1, p2, p3, vs, p4, p5⟩ := h.bx j B hB'
      have hlt := (Array.getElem?_eq_some_iff.1 p4).1
      by_cases e : j = i
      · subst e
        rw [hB] at hB'; cases hB'
        refine ⟨p1, ho.nb, p3, us0, ho.hp, ?_⟩
        exact hβ5.imp (fun x _ v hv => keep x v hv)
      · refine ⟨p1, noM _ hlt p2, p3, vs, ?_, p5.imp (fun x _ v hv => keep x v hv)⟩
        show w'.heap[E.β j]? = _
        rw [hblk _ hlt (fun q => e (h.inj j i B _ hB' hB q)) (fun q => (oblk _ q).2.2.1 j B hB' rfl)]; exact p4
    inj := h.inj
    rx := fun j R hR => by
      obtain ⟨⟨vs, p1, p2⟩, p3⟩ := h.rx j R hR
      by_cases hj : j ∈ js
      · have hz : (R, E.ν j) ∈ rowVals c us0 := by
          rw [hrv]
          have key : ∀ (js : List Nat) (Rs : List Row), Lv S js Rs → j ∈ js → (R, E.ν j) ∈ Rs.zip (js.map E.ν) := by
            intro js
            induction js with
            | nil => intro _ _ h; cases h
            | cons k js ih =>
              intro Rs hl hm
              cases Rs with
              | nil => exact hl.elim
              | cons R' Rs =>
                rw [List.map_cons, List.zip_cons_cons]
                rcases List.mem_cons.1 hm with q | q
                · subst q
                  have := hl.1
                  rw [hR] at this; cases this
                  simp
                · exact List.mem_cons_of_mem _ (ih Rs hl.2 q)
          exact key js _ hL hj
        refine ⟨rowVals_at ho.al _ hz, fun g hg => ?_⟩
        obtain ⟨p4, p5, p6, p7⟩ := p3 g hg
        exact ⟨p4, (ho.nr g ⟨_, hz, hg⟩).2, p6, p7⟩
      · have oth : ∀ g, (E.ν j).ownBlock = some g → ¬ ocBlk c us0 g := fun g hg q => by
          obtain ⟨j', hj', e⟩ := (blk g).1 q
          obtain ⟨R', hR'⟩ := hL.mem j' hj'
          have := h.rinj j j' R R' hR hR' g hg e
          subst this; exact hj hj'
        refine ⟨⟨vs, ownsRow_same p1 fun g hg => hblk g (row_lt h hR hg) (fun e => (p3 g hg).2.2.2 i _ hB e.symm) (oth g hg), p2.mono hM⟩, fun g hg => ?_⟩
        obtain ⟨p4, p5, p6, p7⟩ := p3 g hg
        exact ⟨p4, noM g (row_lt h hR hg) p5, p6, p7⟩
    rinj := h.rinj
    pin := h.pin
    pinr := h.pinr
    olt := fun b hb => by
      obtain ⟨p1, p2, p3⟩ := h.olt b hb
      exact ⟨Nat.lt_of_lt_of_le p1 hsize, noM b p1 p2, p3⟩
    jj := C.jf S.g S.go E.O E.M M' w w' h.jj hM hin (fun b o v e => by
        rcases hn b o v e with q | q
        · exact .inl q
        · exact .inr ⟨.inl (Nat.le_trans h.grown q), fun q2 => by have := (h.olt b q2).1; omega⟩) (fun b hb => by
        have hb' : b < w.heap.size := by
          rcases hb with ⟨q, _⟩ | q
          · exact Nat.lt_of_lt_of_le q h.grown
          · exact (h.olt b q).1
        refine hblk b hb' (fun e => ?_) (fun e => ?_)
        · subst e
          rcases hb with ⟨q1, q2⟩ | q
          · rcases hβ1 with p | p
            · omega
            · exact q2 p
          · exact hβ3 q
        · obtain ⟨o1, o3, _⟩ := oblk b e
          rcases hb with ⟨q1, q2⟩ | q
          · rcases o1 with p | p
            · omega
            · exact q2 p
          · exact o3 q) hos htape hout hsize }
theorem RT.callOR (hg : Gd ops S gd rg) {f : FuncId} [Ent P f] {g : Operand} {xs : Array Operand} {at_ : Array TypeId} {args : List AV} {T : TypeId} {c : List Oc} {res : SV} (hp : ObjR P f args T c res) (i : Nat) (js : List Nat) (hB : S.b i = some ⟨T, oCells js c⟩) (hL : Lv S js (rowsOf c)) (hjs : js.Nodup)
    (hoy : args.all AV.oy = true) (hf : S.ev g = .sv (.v (.func (.func f) #[] #[]))) (hargs : Args S xs.toList (args.map (AV.rnb i))) (hd : d < S.n)
    (next : RunT P C ops nd K rest (⟨rg ++ (okeys g ++ xs.toList.flatMap okeys), [i], js, ⟨some (d, .sv res), [], []⟩⟩ :: acc) (S.set d (.sv res))) : RunT P C ops nd K (⟨some d, .call ⟨.value g, xs, at_⟩, ty, pos, aft, gd⟩ :: rest) acc S := by
  refine .inl ⟨_, [i], js, _, ?_, next⟩
  rintro S' hn ht hb hr k a w L Q ho ⟨E, h⟩ hLL
  refine wpOp_of (C := C) ho (hg.wanted h (fun s hs => ht s (List.mem_append_left _ hs)) rfl) ?_
  have hgf : a.eval g = .func (.func f) #[] ⟨[]⟩ := by
    have h1 := h.ev g; rw [ev_congr (fun _ h => List.mem_append_right _ (List.mem_append_left _ h)) ht, hf] at h1; exact h1
  have hall := rnb_all hoy (Args.vals h hargs (fun s hs => ht s (List.mem_append_right _ (List.mem_append_right _ hs))))
  have hB' : S'.b i = some ⟨T, oCells js c⟩ := by rw [hb i (by simp)]; exact hB
  have hL' : Lv S' js (rowsOf c) := hL.congr (fun k hk => hr k hk)
  obtain ⟨us, ho1, hblk0⟩ := objAt_of h hB' hL' hjs
  refine wpIn_of (C := C) (by intro c h; cases h) (run_call hgf) ?_
  rw [List.append_nil]
  refine ⟨fun h => by simp at h, fr_calls ((hp E.M w (E.β i) _ us h.inW ho1 hall).mono ?_)⟩
  rintro e w' ⟨v, M', rfl, hM, hnew, hin, hv, ho2, hos, htape, hout, hsize, hblk⟩
  have h1 := h.readObj hB' hL' hjs ho1 hM hnew hin ho2 hos htape hout hsize hblk
  exact hLL _ _ ⟨_, h1.put (x := .sv res) (v := v) hv (by show d < S'.n; omega) nomb⟩
theorem RT.callORB (hg : Gd ops S gd rg) {f : FuncId} [Ent P f] {g : Operand} {xs : Array Operand} {at_ : Array TypeId} {args : List AV} {T : TypeId} {c : List Oc} {res : SV} (hp : ObjR P f (.ptr 1000 0 :: args) T c res) (i : Nat) (js : List Nat) (hB : S.b i = some ⟨T, oCells js c⟩) (hL : Lv S js (rowsOf c)) (hjs : js.Nodup)
    (hoy : args.all AV.oy = true) (hf : S.ev g = .cmp (.bnd f) [.box i]) (hargs : Args S xs.toList (args.map (AV.rnb i))) (hd : d < S.n)
    (next : RunT P C ops nd K rest (⟨rg ++ (okeys g ++ xs.toList.flatMap okeys), [i], js, ⟨some (d, .sv res), [], []⟩⟩ :: acc) (S.set d (.sv res))) : RunT P C ops nd K (⟨some d, .call ⟨.value g, xs, at_⟩, ty, pos, aft, gd⟩ :: rest) acc S := by
  refine .inl ⟨_, [i], js, _, ?_, next⟩
  rintro S' hn ht hb hr k a w L Q ho ⟨E, h⟩ hLL
  refine wpOp_of (C := C) ho (hg.wanted h (fun s hs => ht s (List.mem_append_left _ hs)) rfl) ?_
  have hgf : a.eval g = .func (.func f) ⟨[.pointer (some ⟨E.β i, 0, none⟩)]⟩ #[] := by
    have h1 := h.ev g; rw [ev_congr (fun _ h => List.mem_append_right _ (List.mem_append_left _ h)) ht, hf] at h1
    obtain ⟨vs, h2, h3⟩ := h1
    cases vs with
    | nil => exact h3.elim
    | cons v vs =>
      cases vs with
      | cons _ _ => exact h3.2.elim
      | nil => rw [h2, show v = _ from h3.1]; rfl
  have hall : AllV (objEnv E.M (E.β i)) (.ptr 1000 0 :: args) (.pointer (some ⟨E.β i, 0, none⟩) :: xs.toList.map a.eval) := ⟨rfl, rnb_all hoy (Args.vals h hargs (fun s hs => ht s (List.mem_append_right _ (List.mem_append_right _ hs))))⟩
  have hB' : S'.b i = some ⟨T, oCells js c⟩ := by rw [hb i (by simp)]; exact hB
  have hL' : Lv S' js (rowsOf c) := hL.congr (fun k hk => hr k hk)
  obtain ⟨us, ho1, hblk0⟩ := objAt_of h hB' hL' hjs
  refine wpIn_of (C := C) (by intro c h; cases h) (run_callB hgf) ?_
  refine ⟨fun h => by simp at h, fr_calls ((hp E.M w (E.β i) _ us h.inW ho1 hall).mono ?_)⟩
  rintro e w' ⟨v, M', rfl, hM, hnew, hin, hv, ho2, hos, htape, hout, hsize, hblk⟩
  have h1 := h.readObj hB' hL' hjs ho1 hM hnew hin ho2 hos htape hout hsize hblk
  exact hLL _ _ ⟨_, h1.put (x := .sv res) (v := v) hv (by show d < S'.n; omega) nomb⟩
end steps
end Go.Fw
namespace Go.Proofs.Ytmiflmkdaeianaa
open Go.Fw
noncomputable def book_Round_m (x0 : Qr) : Option (Zr) := match x0 with | ⟨⟨x0_0, x0_1⟩, ⟨x0_2, x0_3⟩⟩ => (frac_New_m 1 2).bind fun ⟨⟨⟨x11a_0, x11a_1⟩, ⟨x11a_2, x11a_3⟩⟩, x11b⟩ => (frac_Floor_m ⟨⟨x0_0, x0_1⟩, ⟨x0_2, x0_3⟩⟩).bind fun ⟨x15_0, x15_1⟩ => (whole_FromInt64_m 1).bind fun ⟨x17_0, x17_1⟩ => (whole_Add_m ⟨x15_0, x15_1⟩ ⟨x17_0, x17_1⟩).bind fun ⟨x18_0, x18_1⟩ => (frac_FromInteger_m ⟨x15_0, x15_1⟩).bind fun ⟨⟨x21_0, x21_1⟩, ⟨x21_2, x21_3⟩⟩ => (frac_Sub_m ⟨⟨x0_0, x0_1⟩, ⟨x0_2, x0_3⟩⟩ ⟨⟨x21_0, x21_1⟩, ⟨x21_2, x21_3⟩⟩).bind fun ⟨⟨x22_0, x22_1⟩, ⟨x22_2, x22_3⟩⟩ => (frac_Cmp_m ⟨⟨x22_0, x22_1⟩, ⟨x22_2, x22_3⟩⟩ ⟨⟨x11a_0, x11a_1⟩, ⟨x11a_2, x11a_3⟩⟩).bind fun x24 => (some (decide ((x24 : Int) = (-1)))).bind fun x26 => (bif x26 then some ⟨x15_0, x15_1⟩ else (some (decide ((x24 : Int) = 1))).bind fun x29 => (bif x29 then some ⟨x18_0, x18_1⟩ else (whole_FromInt64_m 2).bind fun ⟨x33_0, x33_1⟩ => (whole_DivMod_m ⟨x15_0, x15_1⟩ ⟨x33_0, x33_1⟩).bind fun ⟨⟨x34a_0, x34a_1⟩, ⟨x34b_0, x34b_1⟩, x34c⟩ => (whole_Sign_m ⟨x34b_0, x34b_1⟩).bind fun x39 => (some (decide ((x39 : Int) = 0))).bind fun x40 => (bif x40 then some ⟨x15_0, x15_1⟩ else some ⟨x18_0, x18_1⟩)))
noncomputable def book_New_m (x0 : Int) : Option (Int × (List En)) := letJ (fun (y9j2 : Bool) => (bif y9j2 then none else some (x0, []))) fun K3 => (some (decide ((x0 : Int) < 1))).bind fun x5 => (bif x5 then some true else (some (decide ((64 : Int) < x0))).bind fun x8 => some x8).bind fun c9_4 => K3 c9_4
noncomputable def book_Book_blank_m (o0 : Int) (o1 : List En) : Option (Bool) := letJ (fun (y2j2 : Bool) => some y2j2) fun K3 => (bif false then none else (some (decide ((o0 : Int) = 0))).bind fun x10 => some x10).bind fun c11_4 => K3 c11_4
noncomputable def book_Book_pays_m (o0 : Int) (o1 : List En) (x1 : Int) : Option (Bool) := letJ (fun (y4j2 : Bool) => some y4j2) fun K3 => (some (decide ((0 : Int) < x1))).bind fun x6 => (bif x6 then (some (decide ((x1 : Int) < o0))).bind fun x13 => some x13 else some false).bind fun c14_4 => K3 c14_4
noncomputable def book_check_m (x0 : En) (o0 : Int) (o1 : List En) : Option (Int) := match x0 with | ⟨x0_0, x0_1, x0_2, ⟨x0_3, x0_4⟩⟩ => (book_Book_pays_m o0 o1 x0_0).bind fun x8 => (some (!x8)).bind fun x9 => (bif x9 then some 1 else letJ (fun (y17j2 : Bool) => (bif y17j2 then some 12 else letJ (fun (y25j5 : Bool) => (bif y25j5 then some 1 else some 0)) fun K6 => (some (decide ((x0_2 : Int) < (-1)))).bind fun x20 => (bif x20 then some true else (some (decide ((8 : Int) ≤ x0_2))).bind fun x24 => some x24).bind fun c25_7 => K6 c25_7)) fun K3 => (some (decide ((x0_1 : Nat) < 1))).bind fun x12 => (bif x12 then some true else (some (decide ((4 : Nat) < x0_1))).bind fun x16 => some x16).bind fun c17_8 => K3 c17_8)
noncomputable def book_Book_Move_m (o0 : Int) (o1 : List En) (x1 : Int) (x2 : Nat) (x3 : Int) (x4 : Qr) : Option (Int × (List En)) := match x4 with | ⟨⟨x4_0, x4_1⟩, ⟨x4_2, x4_3⟩⟩ => (book_Book_blank_m o0 o1).bind fun x14 => (bif x14 then some (2, o1) else (book_check_m ⟨x1, x2, x3, ⟨false, []⟩⟩ o0 o1).bind fun x22 => (some (decide ((x22 : Int) ≠ 0))).bind fun x24 => (bif x24 then some (x22, o1) else (some (o1.length : Int)).bind fun x30 => (some (decide ((1024 : Int) ≤ x30))).bind fun x31 => (bif x31 then some (5, o1) else (book_Round_m ⟨⟨x4_0, x4_1⟩, ⟨x4_2, x4_3⟩⟩).bind fun ⟨x33_0, x33_1⟩ => (apM 56 o1 [⟨x1, x2, x3, ⟨x33_0, x33_1⟩⟩]).bind fun x42 => some (0, x42))))
noncomputable def book_Book_Entries_m (o0 : Int) (o1 : List En) : Option (List En) := (book_Book_blank_m o0 o1).bind fun x7 => (bif x7 then some [] else (some (o1.length : Int)).bind fun x12 => (mkM 56 x12 (⟨0, 0, 0, ⟨false, []⟩⟩ : En)).bind fun x13 => (some (o1.length : Int)).bind fun x18 => (loopM (fun (s8 : Int × (List En)) => match s8 with | ⟨y19l4, r13l4⟩ => (show Option ((Int × (List En)) ⊕ ((List En))) from (some (decide ((y19l4 : Int) < x18))).bind fun x20 => (bif x20 then (cki o1 y19l4).bind fun x22 => (o1[x22]?).bind fun ⟨x23_0, x23_1, x23_2, ⟨x23_3, x23_4⟩⟩ => (whole_Add_m ⟨x23_3, x23_4⟩ ⟨false, []⟩).bind fun ⟨x27_0, x27_1⟩ => (cki r13l4 y19l4).bind fun x32 => (stM r13l4 x32 ⟨x23_0, x23_1, x23_2, ⟨x27_0, x27_1⟩⟩).bind fun l10 => (some (IntKind.i64.wrap (y19l4 + 1))).bind fun x33 => some (.inl (x33, l10)) else some (.inr r13l4)))) (0, x13)).bind fun r13e7 => some r13e7)
noncomputable def book_Book_All_m (o0 : Int) (o1 : List En) : Option (List Zr) := (book_Book_blank_m o0 o1).bind fun x7 => (bif x7 then some [] else (mkM 32 o0 (⟨false, []⟩ : Zr)).bind fun x12 => (some (o1.length : Int)).bind fun x17 => (loopM (fun (s10 : Int × (List Zr)) => match s10 with | ⟨y18l5, r12l5⟩ => (show Option ((Int × (List Zr)) ⊕ ((List Zr))) from (some (decide ((y18l5 : Int) < x17))).bind fun x19 => (bif x19 then (cki o1 y18l5).bind fun x20 => (o1[x20]?).bind fun ⟨x21_0, x21_1, x21_2, ⟨x21_3, x21_4⟩⟩ => (cki r12l5 x21_0).bind fun x28 => (r12l5[x28]?).bind fun ⟨x29_0, x29_1⟩ => (whole_Add_m ⟨x29_0, x29_1⟩ ⟨x21_3, x21_4⟩).bind fun ⟨x32_0, x32_1⟩ => (cki r12l5 x21_0).bind fun x33 => (stM r12l5 x33 ⟨x32_0, x32_1⟩).bind fun l12 => (cki l12 0).bind fun x36 => (l12[x36]?).bind fun ⟨x37_0, x37_1⟩ => (whole_Sub_m ⟨x37_0, x37_1⟩ ⟨x21_3, x21_4⟩).bind fun ⟨x40_0, x40_1⟩ => (cki l12 0).bind fun x41 => (stM l12 x41 ⟨x40_0, x40_1⟩).bind fun l14 => (some (IntKind.i64.wrap (y18l5 + 1))).bind fun x42 => some (.inl (x42, l14)) else some (.inr r12l5)))) (0, x12)).bind fun r12e9 => some r12e9)
noncomputable def book_Book_Has_m (o0 : Int) (o1 : List En) (x1 : Int) : Option (Zr × Int) := (book_Book_blank_m o0 o1).bind fun x7 => (bif x7 then some (⟨false, []⟩, 2) else letJ (fun (y18j2 : Bool) => (bif y18j2 then some (⟨false, []⟩, 1) else (book_Book_All_m o0 o1).bind fun x21 => (geti x21 x1).bind fun ⟨x23_0, x23_1⟩ => some (⟨x23_0, x23_1⟩, 0))) fun K3 => (some (decide ((x1 : Int) < 0))).bind fun x10 => (bif x10 then some true else (some (decide ((o0 : Int) ≤ x1))).bind fun x17 => some x17).bind fun c18_4 => K3 c18_4)
noncomputable def book_Book_By_m (o0 : Int) (o1 : List En) (x1 : Nat) : Option (Zr) := (book_Book_blank_m o0 o1).bind fun x10 => (bif x10 then some ⟨false, []⟩ else (some (o1.length : Int)).bind fun x16 => (loopM (fun (s8 : Int × Bool × (List Nat)) => match s8 with | ⟨y17l4, b5_0l4, b5_1l4⟩ => (show Option ((Int × Bool × (List Nat)) ⊕ (Bool × (List Nat))) from (some (decide ((y17l4 : Int) < x16))).bind fun x18 => (bif x18 then (cki o1 y17l4).bind fun x19 => (o1[x19]?).bind fun ⟨x20_0, x20_1, x20_2, ⟨x20_3, x20_4⟩⟩ => (some (decide ((x20_1 : Nat) = x1))).bind fun x24 => letJ (fun (j10 : Bool × (List Nat)) => match j10 with | ⟨b5_0j9, b5_1j9⟩ => (some (IntKind.i64.wrap (y17l4 + 1))).bind fun x29 => some (.inl (x29, b5_0j9, b5_1j9))) fun K10 => (bif x24 then (whole_Add_m ⟨b5_0l4, b5_1l4⟩ ⟨x20_3, x20_4⟩).bind fun ⟨x28_0, x28_1⟩ => K10 (x28_0, x28_1) else K10 (b5_0l4, b5_1l4)) else some (.inr (b5_0l4, b5_1l4))))) (0, false, [])).bind fun e8 => match e8 with | ⟨b5_0e7, b5_1e7⟩ => some ⟨b5_0e7, b5_1e7⟩)
noncomputable def book_nblank_m  : Option (Bool) := some true
noncomputable def book_nMove_m (x1 : Int) (x2 : Nat) (x3 : Int) (x4 : Qr) : Option (Int) := match x4 with | ⟨⟨x4_0, x4_1⟩, ⟨x4_2, x4_3⟩⟩ => some 2
noncomputable def book_nEntries_m  : Option (List En) := some []
noncomputable def book_nAll_m  : Option (List Zr) := some []
noncomputable def book_nHas_m (x1 : Int) : Option (Zr × Int) := some (⟨false, []⟩, 2)
noncomputable def book_nBy_m (x1 : Nat) : Option (Zr) := some ⟨false, []⟩
noncomputable def book_nCopy_m  : Option (Unit) := some ()
noncomputable def book_New0_m  : Option (Unit × Int) := some ((), 1)
noncomputable def book_New65_m  : Option (Unit × Int) := some ((), 1)
noncomputable def book_Move9_m (o0 : Int) (o1 : List En) (x1 : Int) (x3 : Int) (x4 : Qr) : Option (Int) := match x4 with | ⟨⟨x4_0, x4_1⟩, ⟨x4_2, x4_3⟩⟩ => (book_Book_blank_m o0 o1).bind fun x14 => (bif x14 then some 2 else (book_check_m ⟨x1, 9, x3, ⟨false, []⟩⟩ o0 o1).bind fun x22 => (some (decide ((x22 : Int) ≠ 0))).bind fun x24 => (bif x24 then some x22 else (some (o1.length : Int)).bind fun x30 => (some (decide ((1024 : Int) ≤ x30))).bind fun x31 => (bif x31 then some 5 else (book_Round_m ⟨⟨x4_0, x4_1⟩, ⟨x4_2, x4_3⟩⟩).bind fun ⟨x33_0, x33_1⟩ => (apM 56 o1 [⟨x1, 9, x3, ⟨x33_0, x33_1⟩⟩]).bind fun x42 => none)))
noncomputable def book_zblank_m (o1 : List En) : Option (Bool) := letJ (fun (y2j2 : Bool) => some y2j2) fun K3 => (bif false then none else some true).bind fun c11_4 => K3 c11_4
noncomputable def book_zMove_m (o1 : List En) (x1 : Int) (x2 : Nat) (x3 : Int) (x4 : Qr) : Option (Int) := match x4 with | ⟨⟨x4_0, x4_1⟩, ⟨x4_2, x4_3⟩⟩ => some 2
end Go.Proofs.Ytmiflmkdaeianaa
