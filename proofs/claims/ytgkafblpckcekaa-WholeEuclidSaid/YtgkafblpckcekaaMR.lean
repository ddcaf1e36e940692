/- Plain functions: what the program's functions compute. Made by program. -/
import Derived.Test.YtgkafblpckcekaaFwDen4
namespace Go.Proofs.Ytgkafblpckcekaa
open Go.Fw
noncomputable def ref01_trim_m (x0 : List Int) : Option (List Int) :=
  (some (x0.length : Int)).bind fun x5 =>
  (loopM (fun (y3l5 : Int) =>
      (show Option ((Int) ⊕ (Int)) from
        letJ (fun (y15j12 : Bool) =>
            (bif y15j12 then
                (some (IntKind.i64.wrap (y3l5 - 1))).bind fun x17 =>
                some (.inl x17)
              else
                some (.inr y3l5))) fun K13 =>
        (some (decide ((0 : Int) < y3l5))).bind fun x7 =>
        (bif x7 then
            (some (IntKind.i64.wrap (y3l5 - 1))).bind fun x11 =>
            (geti x0 x11).bind fun x12 =>
            (some (decide ((x12 : Int) = 0))).bind fun x14 =>
            some x14
          else
            some false).bind fun c15_14 =>
        K13 c15_14)) x5).bind fun y3e9 =>
      (subM x0 0 y3e9).bind fun x20 =>
      some x20
noncomputable def ref01_halves_m (x0 : List Nat) : Option (List Int) :=
  (loopM (fun (s6 : Int × (List Int)) =>
    match s6 with
    | ⟨y4l3, r306l3⟩ =>
      (show Option ((Int × (List Int)) ⊕ ((List Int))) from
        (some (x0.length : Int)).bind fun x7 =>
        (some (decide ((y4l3 : Int) < x7))).bind fun x8 =>
        (bif x8 then
            (geti x0 y4l3).bind fun x14 =>
            (some (x14 % 65536)).bind fun x16 =>
            (some (IntKind.i64.wrap (x16 : Int))).bind fun x17 =>
            (geti x0 y4l3).bind fun x20 =>
            (some (x20 / 65536 % 4294967296)).bind fun x22 =>
            (some (IntKind.i64.wrap (x22 : Int))).bind fun x23 =>
            (apM 8 r306l3 [x17, x23]).bind fun x25 =>
            (some (IntKind.i64.wrap (y4l3 + 1))).bind fun x10 =>
            some (.inl (x10, x25))
          else
            some (.inr r306l3)))) (0, [])).bind fun r306e5 =>
      (ref01_trim_m r306e5).bind fun x27 =>
      some x27
noncomputable def ref01_at_m (x0 : List Int) (x1 : Int) : Option (Int) :=
  (some (x0.length : Int)).bind fun x7 =>
  (some (decide ((x1 : Int) < x7))).bind fun x8 =>
  (bif x8 then
      (geti x0 x1).bind fun x11 =>
      some x11
    else
      some 0)
noncomputable def ref01_of_m (x0 : Bool) (x1 : List Int) : Option (Zr) :=
  (ref01_trim_m x1).bind fun x8 =>
  (loopM (fun (s6 : Int × (List Nat)) =>
    match s6 with
    | ⟨y6l3, r306l3⟩ =>
      (show Option ((Int × (List Nat)) ⊕ ((List Nat))) from
        (some (x8.length : Int)).bind fun x11 =>
        (some (decide ((y6l3 : Int) < x11))).bind fun x12 =>
        (bif x12 then
            (ref01_at_m x8 y6l3).bind fun x18 =>
            (some ((x18 % 4294967296).toNat)).bind fun x19 =>
            (some (IntKind.i64.wrap (y6l3 + 1))).bind fun x22 =>
            (ref01_at_m x8 x22).bind fun x23 =>
            (some ((x23 % 4294967296).toNat)).bind fun x24 =>
            (some ((x24 * 65536) % 4294967296)).bind fun x25 =>
            (some ((x19 + x25) % 4294967296)).bind fun x26 =>
            (apM 4 r306l3 [x26]).bind fun x28 =>
            (some (IntKind.i64.wrap (y6l3 + 2))).bind fun x14 =>
            some (.inl (x14, x28))
          else
            some (.inr r306l3)))) (0, [])).bind fun r306e5 =>
      letJ (fun (b4_0j8 : Bool) =>
          some ⟨b4_0j8, r306e5⟩) fun K9 =>
      (bif x0 then
          (some (r306e5.length : Int)).bind fun x32 =>
          (some (decide ((0 : Int) < x32))).bind fun x33 =>
          some x33
        else
          some false).bind fun c34_10 =>
      K9 c34_10
noncomputable def ref01_Least_m (x0 : Zr) : Option (Zr) :=
  match x0 with
  | ⟨x0_0, x0_1⟩ =>
    (ref01_halves_m x0_1).bind fun x7 =>
    (ref01_of_m x0_0 x7).bind fun ⟨x8_0, x8_1⟩ =>
    some ⟨x8_0, x8_1⟩
noncomputable def ref01_Same_m (x0 : Zr) (x1 : Zr) : Option (Bool) :=
  match x0 with
  | ⟨x0_0, x0_1⟩ =>
    match x1 with
    | ⟨x1_0, x1_1⟩ =>
      letJ (fun (y19j2 : Bool) =>
          (bif y19j2 then
              some false
            else
              (loopM (fun (y5l6 : Int) =>
                  (show Option ((Int) ⊕ ((Unit) ⊕ (Bool))) from
                    (some (x0_1.length : Int)).bind fun x23 =>
                    (some (decide ((y5l6 : Int) < x23))).bind fun x24 =>
                    (bif x24 then
                        (geti x0_1 y5l6).bind fun x30 =>
                        (geti x1_1 y5l6).bind fun x35 =>
                        (some (decide ((x30 : Nat) ≠ x35))).bind fun x37 =>
                        (bif x37 then
                            some (.inr (.inr false))
                          else
                            (some (IntKind.i64.wrap (y5l6 + 1))).bind fun x26 =>
                            some (.inl x26))
                      else
                        some (.inr (.inl ()))))) 0).bind fun e9 =>
                match e9 with
                | .inr v9 => some v9
                | .inl _ =>
                  some true)) fun K3 =>
      (some (!(x0_0 == x1_0))).bind fun x10 =>
      (bif x10 then
          some true
        else
          (some (x0_1.length : Int)).bind fun x14 =>
          (some (x1_1.length : Int)).bind fun x17 =>
          (some (decide ((x14 : Int) ≠ x17))).bind fun x18 =>
          some x18).bind fun c19_10 =>
      K3 c19_10
noncomputable def ref01_From_m (x0 : Int) : Option (Zr) :=
  (some ((x0 % 18446744073709551616).toNat)).bind fun x5 =>
  (some (decide ((x0 : Int) < 0))).bind fun x7 =>
  letJ (fun (y3j1 : Nat) =>
      (some (decide ((x0 : Int) < 0))).bind fun x11 =>
      (some (y3j1 % 4294967296)).bind fun x13 =>
      (some (x13 % 4294967296)).bind fun x14 =>
      (some (y3j1 / 4294967296 % 18446744073709551616)).bind fun x16 =>
      (some (x16 % 4294967296)).bind fun x17 =>
      (ref01_Least_m ⟨x11, [x14, x17]⟩).bind fun ⟨x20_0, x20_1⟩ =>
      some ⟨x20_0, x20_1⟩) fun K2 =>
  (bif x7 then
      (some (usub 18446744073709551616 0 x5)).bind fun x9 =>
      K2 x9
    else
      K2 x5)
noncomputable def ref01_cmp_m (x0 : List Int) (x1 : List Int) : Option (Int) :=
  (some (x0.length : Int)).bind fun x7 =>
  (some (x1.length : Int)).bind fun x9 =>
  (some (max (x7 : Int) x9)).bind fun x10 =>
  (some (IntKind.i64.wrap (x10 - 1))).bind fun x11 =>
  (loopM (fun (y5l3 : Int) =>
      (show Option ((Int) ⊕ ((Unit) ⊕ (Int))) from
        (some (decide ((0 : Int) ≤ y5l3))).bind fun x13 =>
        (bif x13 then
            (ref01_at_m x0 y5l3).bind fun x18 =>
            (ref01_at_m x1 y5l3).bind fun x21 =>
            (some (decide ((x18 : Int) < x21))).bind fun x22 =>
            (bif x22 then
                some (.inr (.inr (-1)))
              else
                (ref01_at_m x0 y5l3).bind fun x25 =>
                (ref01_at_m x1 y5l3).bind fun x28 =>
                (some (decide ((x28 : Int) < x25))).bind fun x29 =>
                (bif x29 then
                    some (.inr (.inr 1))
                  else
                    (some (IntKind.i64.wrap (y5l3 - 1))).bind fun x15 =>
                    some (.inl x15)))
          else
            some (.inr (.inl ()))))) x11).bind fun e6 =>
    match e6 with
    | .inr v6 => some v6
    | .inl _ =>
      some 0
noncomputable def ref01_add_m (x0 : List Int) (x1 : List Int) : Option (List Int) :=
  (loopM (fun (s16 : Int × Int × (List Int)) =>
    match s16 with
    | ⟨y6l8, y7l8, r306l8⟩ =>
      (show Option ((Int × Int × (List Int)) ⊕ ((List Int))) from
        letJ (fun (y22j21 : Bool) =>
            (bif y22j21 then
                (ref01_at_m x0 y7l8).bind fun x27 =>
                (ref01_at_m x1 y7l8).bind fun x30 =>
                (some (IntKind.i64.wrap (x27 + x30))).bind fun x31 =>
                (some (IntKind.i64.wrap (x31 + y6l8))).bind fun x33 =>
                (some (Int.tmod x33 65536)).bind fun x36 =>
                (apM 8 r306l8 [x36]).bind fun x38 =>
                (some (IntKind.i64.wrap (Int.tdiv x33 65536))).bind fun x40 =>
                (some (IntKind.i64.wrap (y7l8 + 1))).bind fun x24 =>
                some (.inl (x40, x24, x38))
              else
                some (.inr r306l8))) fun K22 =>
        (some (x0.length : Int)).bind fun x11 =>
        (some (decide ((y7l8 : Int) < x11))).bind fun x12 =>
        (bif x12 then
            some true
          else
            (some (x1.length : Int)).bind fun x16 =>
            (some (decide ((y7l8 : Int) < x16))).bind fun x17 =>
            some x17).bind fun c18_23 =>
        (bif c18_23 then
            some true
          else
            (some (decide ((0 : Int) < y6l8))).bind fun x21 =>
            some x21).bind fun c22_26 =>
        K22 c22_26)) (0, 0, [])).bind fun r306e15 =>
      (ref01_trim_m r306e15).bind fun x42 =>
      some x42
noncomputable def ref01_sub_m (x0 : List Int) (x1 : List Int) : Option (List Int) :=
  (loopM (fun (s8 : Int × Int × (List Int)) =>
    match s8 with
    | ⟨y6l4, y7l4, r306l4⟩ =>
      (show Option ((Int × Int × (List Int)) ⊕ ((List Int))) from
        (some (x0.length : Int)).bind fun x11 =>
        (some (decide ((y7l4 : Int) < x11))).bind fun x12 =>
        (bif x12 then
            (ref01_at_m x0 y7l4).bind fun x17 =>
            (ref01_at_m x1 y7l4).bind fun x20 =>
            (some (IntKind.i64.wrap (x17 - x20))).bind fun x21 =>
            (some (IntKind.i64.wrap (x21 - y6l4))).bind fun x23 =>
            (some (decide ((x23 : Int) < 0))).bind fun x25 =>
            letJ (fun (j10 : Int × Int) =>
              match j10 with
              | ⟨y6j9, y8j9⟩ =>
                (apM 8 r306l4 [y8j9]).bind fun x31 =>
                (some (IntKind.i64.wrap (y7l4 + 1))).bind fun x14 =>
                some (.inl (y6j9, x14, x31))) fun K10 =>
            (bif x25 then
                (some (IntKind.i64.wrap (x23 + 65536))).bind fun x27 =>
                K10 (1, x27)
              else
                K10 (0, x23))
          else
            some (.inr r306l4)))) (0, 0, [])).bind fun r306e7 =>
      (ref01_trim_m r306e7).bind fun x33 =>
      some x33
noncomputable def ref01_small_m (x0 : List Int) : Option (Int) :=
  (some (x0.length : Int)).bind fun x6 =>
  (some (IntKind.i64.wrap (x6 - 1))).bind fun x7 =>
  (loopM (fun (s6 : Int × Int) =>
    match s6 with
    | ⟨y3l3, y4l3⟩ =>
      (show Option ((Int × Int) ⊕ (Int)) from
        (some (decide ((0 : Int) ≤ y4l3))).bind fun x9 =>
        (bif x9 then
            (some (IntKind.i64.wrap (y3l3 * 65536))).bind fun x13 =>
            (geti x0 y4l3).bind fun x16 =>
            (some (IntKind.i64.wrap (x13 + x16))).bind fun x18 =>
            (some (IntKind.i64.wrap (y4l3 - 1))).bind fun x11 =>
            some (.inl (x18, x11))
          else
            some (.inr y3l3)))) (0, x7)).bind fun y3e5 =>
      some y3e5
noncomputable def ref01_back_m (x0 : Int) : Option (List Int) :=
  (some (Int.tmod x0 65536)).bind fun x4 =>
  (some (IntKind.i64.wrap (Int.tdiv x0 65536))).bind fun x6 =>
  (some (Int.tmod x6 65536)).bind fun x7 =>
  (some (IntKind.i64.wrap (Int.tdiv x0 65536))).bind fun x9 =>
  (some (IntKind.i64.wrap (Int.tdiv x9 65536))).bind fun x10 =>
  (ref01_trim_m [x4, x7, x10]).bind fun x12 =>
  some x12
noncomputable def ref01_times_m (x0 : List Int) (x1 : Int) : Option (List Int) :=
  (loopM (fun (s10 : Int × Int × (List Int)) =>
    match s10 with
    | ⟨y6l5, y7l5, r306l5⟩ =>
      (show Option ((Int × Int × (List Int)) ⊕ ((List Int))) from
        letJ (fun (y16j12 : Bool) =>
            (bif y16j12 then
                (ref01_at_m x0 y7l5).bind fun x21 =>
                (some (IntKind.i64.wrap (x21 * x1))).bind fun x23 =>
                (some (IntKind.i64.wrap (x23 + y6l5))).bind fun x25 =>
                (some (Int.tmod x25 65536)).bind fun x28 =>
                (apM 8 r306l5 [x28]).bind fun x30 =>
                (some (IntKind.i64.wrap (Int.tdiv x25 65536))).bind fun x32 =>
                (some (IntKind.i64.wrap (y7l5 + 1))).bind fun x18 =>
                some (.inl (x32, x18, x30))
              else
                some (.inr r306l5))) fun K13 =>
        (some (x0.length : Int)).bind fun x11 =>
        (some (decide ((y7l5 : Int) < x11))).bind fun x12 =>
        (bif x12 then
            some true
          else
            (some (decide ((0 : Int) < y6l5))).bind fun x15 =>
            some x15).bind fun c16_14 =>
        K13 c16_14)) (0, 0, [])).bind fun r306e9 =>
      (ref01_trim_m r306e9).bind fun x34 =>
      some x34
noncomputable def ref01_mul_m (x0 : List Int) (x1 : List Int) : Option (List Int) :=
  (some (x0.length : Int)).bind fun x9 =>
  (some (x1.length : Int)).bind fun x11 =>
  (some (IntKind.i64.wrap (x9 + x11))).bind fun x12 =>
  (some (decide ((x12 : Int) ≤ 3))).bind fun x13 =>
  (bif x13 then
      (ref01_small_m x0).bind fun x15 =>
      (ref01_small_m x1).bind fun x17 =>
      (some (IntKind.i64.wrap (x15 * x17))).bind fun x18 =>
      (ref01_back_m x18).bind fun x19 =>
      some x19
    else
      (some (x0.length : Int)).bind fun x21 =>
      (some (IntKind.i64.wrap (x21 - 1))).bind fun x22 =>
      (loopM (fun (s16 : (List Int) × Int) =>
        match s16 with
        | ⟨y5l8, y6l8⟩ =>
          (show Option (((List Int) × Int) ⊕ ((List Int))) from
            (some (decide ((0 : Int) ≤ y6l8))).bind fun x24 =>
            (bif x24 then
                (apM 8 [0] y5l8).bind fun x29 =>
                (loopM (fun (s22 : (List Int) × Int) =>
                  match s22 with
                  | ⟨y5l19, y7l19⟩ =>
                    (show Option (((List Int) × Int) ⊕ ((List Int))) from
                      (geti x0 y6l8).bind fun x33 =>
                      (some (decide ((y7l19 : Int) < x33))).bind fun x35 =>
                      (bif x35 then
                          (geti x0 y6l8).bind fun x42 =>
                          (some (IntKind.i64.wrap (x42 - y7l19))).bind fun x45 =>
                          (some (min (1024 : Int) x45)).bind fun x46 =>
                          (ref01_times_m x1 x46).bind fun x47 =>
                          (ref01_add_m y5l19 x47).bind fun x48 =>
                          (some (IntKind.i64.wrap (y7l19 + 1024))).bind fun x37 =>
                          some (.inl (x48, x37))
                        else
                          some (.inr y5l19)))) (x29, 0)).bind fun y5e21 =>
                    (some (IntKind.i64.wrap (y6l8 - 1))).bind fun x26 =>
                    some (.inl (y5e21, x26))
              else
                some (.inr y5l8)))) ([], x22)).bind fun y5e15 =>
          (ref01_trim_m y5e15).bind fun x50 =>
          some x50)
noncomputable def ref01_div_m (x0 : List Int) (x1 : List Int) : Option ((List Int) × (List Int)) :=
  letJ (fun (y21j2 : Bool) =>
      (bif y21j2 then
          (ref01_small_m x0).bind fun x23 =>
          (ref01_small_m x1).bind fun x25 =>
          (iquo x23 x25).bind fun x26 =>
          (ref01_back_m x26).bind fun x27 =>
          (ref01_small_m x0).bind fun x29 =>
          (ref01_small_m x1).bind fun x31 =>
          (irem x29 x31).bind fun x32 =>
          (ref01_back_m x32).bind fun x33 =>
          some (x27, x33)
        else
          (some (x0.length : Int)).bind fun x35 =>
          (mkM 8 x35 (0 : Int)).bind fun x36 =>
          (some (x1.length : Int)).bind fun x38 =>
          (some (decide ((x38 : Int) = 1))).bind fun x39 =>
          (bif x39 then
              (some (x0.length : Int)).bind fun x41 =>
              (some (IntKind.i64.wrap (x41 - 1))).bind fun x42 =>
              (loopM (fun (s18 : Int × Int × (List Int)) =>
                match s18 with
                | ⟨y7l14, y8l14, r36l14⟩ =>
                  (show Option ((Int × Int × (List Int)) ⊕ (Int × (List Int))) from
                    (some (decide ((0 : Int) ≤ y8l14))).bind fun x44 =>
                    (bif x44 then
                        (some (IntKind.i64.wrap (y7l14 * 65536))).bind fun x48 =>
                        (geti x0 y8l14).bind fun x51 =>
                        (some (IntKind.i64.wrap (x48 + x51))).bind fun x53 =>
                        (geti x1 0).bind fun x58 =>
                        (iquo x53 x58).bind fun x60 =>
                        (geti x1 0).bind fun x63 =>
                        (irem x53 x63).bind fun x65 =>
                        (cki r36l14 y8l14).bind fun x66 =>
                        (stM r36l14 x66 x60).bind fun l20 =>
                        (some (IntKind.i64.wrap (y8l14 - 1))).bind fun x46 =>
                        some (.inl (x65, x46, l20))
                      else
                        some (.inr (y7l14, r36l14))))) (0, x42, x36)).bind fun e18 =>
                match e18 with
                | ⟨y7e17, r36e17⟩ =>
                  (ref01_trim_m r36e17).bind fun x68 =>
                  (ref01_trim_m [y7e17]).bind fun x71 =>
                  some (x68, x71)
            else
              (some (x0.length : Int)).bind fun x73 =>
              (some (IntKind.i64.wrap (x73 - 1))).bind fun x74 =>
              (loopM (fun (s44 : (List Int) × Int × (List Int)) =>
                match s44 with
                | ⟨y9l32, y10l32, r36l32⟩ =>
                  (show Option (((List Int) × Int × (List Int)) ⊕ ((List Int) × (List Int))) from
                    (some (decide ((0 : Int) ≤ y10l32))).bind fun x76 =>
                    (bif x76 then
                        (geti x0 y10l32).bind fun x81 =>
                        (apM 8 [x81] y9l32).bind fun x85 =>
                        (ref01_trim_m x85).bind fun x86 =>
                        (some (x86.length : Int)).bind fun x88 =>
                        (some (x1.length : Int)).bind fun x90 =>
                        (some (decide ((x88 : Int) < x90))).bind fun x91 =>
                        letJ (fun (y12j45 : Int) =>
                            (loopM (fun (s54 : Int × Int) =>
                              match s54 with
                              | ⟨y11l50, y12l50⟩ =>
                                (show Option ((Int × Int) ⊕ (Int)) from
                                  (some (IntKind.i64.wrap (y12l50 - y11l50))).bind fun x94 =>
                                  (some (decide ((1 : Int) < x94))).bind fun x95 =>
                                  (bif x95 then
                                      (some (IntKind.i64.wrap (y11l50 + y12l50))).bind fun x98 =>
                                      (some (IntKind.i64.wrap (Int.tdiv x98 2))).bind fun x99 =>
                                      (ref01_times_m x1 x99).bind fun x102 =>
                                      (ref01_cmp_m x102 x86).bind fun x104 =>
                                      (some (decide ((x104 : Int) ≤ 0))).bind fun x105 =>
                                      letJ (fun (j56 : Int × Int) =>
                                        match j56 with
                                        | ⟨y11j55, y12j55⟩ =>
                                          some (.inl (y11j55, y12j55))) fun K56 =>
                                      (bif x105 then
                                          K56 (x99, y12l50)
                                        else
                                          K56 (y11l50, x99))
                                    else
                                      some (.inr y11l50)))) (0, y12j45)).bind fun y11e53 =>
                                (ref01_times_m x1 y11e53).bind fun x114 =>
                                (ref01_sub_m x86 x114).bind fun x115 =>
                                (cki r36l32 y10l32).bind fun x116 =>
                                (stM r36l32 x116 y11e53).bind fun l58 =>
                                (some (IntKind.i64.wrap (y10l32 - 1))).bind fun x78 =>
                                some (.inl (x115, x78, l58))) fun K46 =>
                        (bif x91 then
                            K46 1
                          else
                            K46 65536)
                      else
                        some (.inr (y9l32, r36l32))))) ([], x74, x36)).bind fun e44 =>
                match e44 with
                | ⟨y9e43, r36e43⟩ =>
                  (ref01_trim_m r36e43).bind fun x118 =>
                  some (x118, y9e43)))) fun K3 =>
  (some (x0.length : Int)).bind fun x15 =>
  (some (decide ((x15 : Int) ≤ 3))).bind fun x16 =>
  (bif x16 then
      (some (x1.length : Int)).bind fun x19 =>
      (some (decide ((x19 : Int) ≤ 3))).bind fun x20 =>
      some x20
    else
      some false).bind fun c21_59 =>
  K3 c21_59
noncomputable def ref01_Sign_m (x0 : Zr) : Option (Int) :=
  match x0 with
  | ⟨x0_0, x0_1⟩ =>
    (ref01_halves_m x0_1).bind fun x5 =>
    (some (x5.length : Int)).bind fun x6 =>
    (some (decide ((x6 : Int) = 0))).bind fun x7 =>
    (bif x7 then
        some 0
      else
        (bif x0_0 then
            some (-1)
          else
            some 1))
noncomputable def ref01_Cmp_m (x0 : Zr) (x1 : Zr) : Option (Int) :=
  match x0 with
  | ⟨x0_0, x0_1⟩ =>
    match x1 with
    | ⟨x1_0, x1_1⟩ =>
      (ref01_Sign_m ⟨x0_0, x0_1⟩).bind fun x7 =>
      (ref01_Sign_m ⟨x1_0, x1_1⟩).bind fun x9 =>
      (some (decide ((x7 : Int) ≠ x9))).bind fun x10 =>
      (bif x10 then
          (ref01_Sign_m ⟨x0_0, x0_1⟩).bind fun x12 =>
          (ref01_Sign_m ⟨x1_0, x1_1⟩).bind fun x14 =>
          (some (decide ((x12 : Int) < x14))).bind fun x15 =>
          (bif x15 then
              some (-1)
            else
              some 1)
        else
          (ref01_halves_m x0_1).bind fun x18 =>
          (ref01_halves_m x1_1).bind fun x21 =>
          (ref01_cmp_m x18 x21).bind fun x22 =>
          (ref01_Sign_m ⟨x0_0, x0_1⟩).bind fun x24 =>
          (some (decide ((x24 : Int) < 0))).bind fun x25 =>
          (bif x25 then
              (some (IntKind.i64.wrap (0 - x22))).bind fun x27 =>
              some x27
            else
              some x22))
noncomputable def ref01_Neg_m (x0 : Zr) : Option (Zr) :=
  match x0 with
  | ⟨x0_0, x0_1⟩ =>
    (some (!x0_0)).bind fun x5 =>
    (ref01_halves_m x0_1).bind fun x8 =>
    (ref01_of_m x5 x8).bind fun ⟨x9_0, x9_1⟩ =>
    some ⟨x9_0, x9_1⟩
noncomputable def ref01_Abs_m (x0 : Zr) : Option (Zr) :=
  match x0 with
  | ⟨x0_0, x0_1⟩ =>
    (ref01_halves_m x0_1).bind fun x5 =>
    (ref01_of_m false x5).bind fun ⟨x6_0, x6_1⟩ =>
    some ⟨x6_0, x6_1⟩
noncomputable def ref01_Add_m (x0 : Zr) (x1 : Zr) : Option (Zr) :=
  match x0 with
  | ⟨x0_0, x0_1⟩ =>
    match x1 with
    | ⟨x1_0, x1_1⟩ =>
      (ref01_halves_m x0_1).bind fun x9 =>
      (ref01_halves_m x1_1).bind fun x12 =>
      (some (x0_0 == x1_0)).bind fun x17 =>
      (bif x17 then
          (ref01_add_m x9 x12).bind fun x22 =>
          (ref01_of_m x0_0 x22).bind fun ⟨x23_0, x23_1⟩ =>
          some ⟨x23_0, x23_1⟩
        else
          (ref01_cmp_m x9 x12).bind fun x26 =>
          (some (decide ((0 : Int) ≤ x26))).bind fun x27 =>
          (bif x27 then
              (ref01_sub_m x9 x12).bind fun x32 =>
              (ref01_of_m x0_0 x32).bind fun ⟨x33_0, x33_1⟩ =>
              some ⟨x33_0, x33_1⟩
            else
              (ref01_sub_m x12 x9).bind fun x38 =>
              (ref01_of_m x1_0 x38).bind fun ⟨x39_0, x39_1⟩ =>
              some ⟨x39_0, x39_1⟩))
noncomputable def ref01_Sub_m (x0 : Zr) (x1 : Zr) : Option (Zr) :=
  match x0 with
  | ⟨x0_0, x0_1⟩ =>
    match x1 with
    | ⟨x1_0, x1_1⟩ =>
      (ref01_Neg_m ⟨x1_0, x1_1⟩).bind fun ⟨x7_0, x7_1⟩ =>
      (ref01_Add_m ⟨x0_0, x0_1⟩ ⟨x7_0, x7_1⟩).bind fun ⟨x8_0, x8_1⟩ =>
      some ⟨x8_0, x8_1⟩
noncomputable def ref01_Mul_m (x0 : Zr) (x1 : Zr) : Option (Zr) :=
  match x0 with
  | ⟨x0_0, x0_1⟩ =>
    match x1 with
    | ⟨x1_0, x1_1⟩ =>
      (some (!(x0_0 == x1_0))).bind fun x9 =>
      (ref01_halves_m x0_1).bind fun x12 =>
      (ref01_halves_m x1_1).bind fun x15 =>
      (ref01_mul_m x12 x15).bind fun x16 =>
      (ref01_of_m x9 x16).bind fun ⟨x17_0, x17_1⟩ =>
      some ⟨x17_0, x17_1⟩
noncomputable def ref01_Int_m (x0 : Zr) : Option (Int × Bool) :=
  match x0 with
  | ⟨x0_0, x0_1⟩ =>
    letJ (fun (y16j2 : Bool) =>
        (bif y16j2 then
            some (0, false)
          else
            (ref01_halves_m x0_1).bind fun x19 =>
            (some (x19.length : Int)).bind fun x21 =>
            (some (IntKind.i64.wrap (x21 - 1))).bind fun x22 =>
            (loopM (fun (s9 : Nat × Int) =>
              match s9 with
              | ⟨y4l6, y6l6⟩ =>
                (show Option ((Nat × Int) ⊕ (Nat)) from
                  (some (decide ((0 : Int) ≤ y6l6))).bind fun x24 =>
                  (bif x24 then
                      (some ((y4l6 * 65536) % 18446744073709551616)).bind fun x28 =>
                      (geti x19 y6l6).bind fun x31 =>
                      (some ((x31 % 18446744073709551616).toNat)).bind fun x33 =>
                      (some ((x28 + x33) % 18446744073709551616)).bind fun x34 =>
                      (some (IntKind.i64.wrap (y6l6 - 1))).bind fun x26 =>
                      some (.inl (x34, x26))
                    else
                      some (.inr y4l6)))) (0, x22)).bind fun y4e8 =>
                letJ (fun (y4j10 : Nat) =>
                    (some (IntKind.i64.wrap (y4j10 : Int))).bind fun x40 =>
                    some (x40, true)) fun K11 =>
                (bif x0_0 then
                    (some (usub 18446744073709551616 0 y4e8)).bind fun x38 =>
                    K11 x38
                  else
                    K11 y4e8))) fun K3 =>
    (ref01_From_m (-9223372036854775808)).bind fun ⟨x8_0, x8_1⟩ =>
    (ref01_Cmp_m ⟨x0_0, x0_1⟩ ⟨x8_0, x8_1⟩).bind fun x9 =>
    (some (decide ((x9 : Int) < 0))).bind fun x10 =>
    (bif x10 then
        some true
      else
        (ref01_From_m 9223372036854775807).bind fun ⟨x13_0, x13_1⟩ =>
        (ref01_Cmp_m ⟨x0_0, x0_1⟩ ⟨x13_0, x13_1⟩).bind fun x14 =>
        (some (decide ((0 : Int) < x14))).bind fun x15 =>
        some x15).bind fun c16_12 =>
    K3 c16_12
noncomputable def ref01_Div_m (x0 : Zr) (x1 : Zr) : Option (Zr × Zr × Int) :=
  match x0 with
  | ⟨x0_0, x0_1⟩ =>
    match x1 with
    | ⟨x1_0, x1_1⟩ =>
      (ref01_halves_m x0_1).bind fun x13 =>
      (ref01_halves_m x1_1).bind fun x16 =>
      (some (x16.length : Int)).bind fun x18 =>
      (some (decide ((x18 : Int) = 0))).bind fun x19 =>
      (bif x19 then
          some (⟨false, []⟩, ⟨false, []⟩, 7)
        else
          (ref01_div_m x13 x16).bind fun ⟨x25a, x25b⟩ =>
          letJ (fun (j3 : Bool × Bool) =>
            match j3 with
            | ⟨y34j2, b2_0j2⟩ =>
              letJ (fun (j5 : (List Int) × (List Int)) =>
                match j5 with
                | ⟨y9j4, y10j4⟩ =>
                  (some (!(b2_0j2 == x1_0))).bind fun x45 =>
                  (ref01_of_m x45 y9j4).bind fun ⟨x47_0, x47_1⟩ =>
                  (ref01_of_m false y10j4).bind fun ⟨x49_0, x49_1⟩ =>
                  some (⟨x47_0, x47_1⟩, ⟨x49_0, x49_1⟩, 0)) fun K5 =>
              (bif y34j2 then
                  (ref01_add_m x25a [1]).bind fun x37 =>
                  (ref01_sub_m x16 x25b).bind fun x40 =>
                  K5 (x37, x40)
                else
                  K5 (x25a, x25b))) fun K3 =>
          (bif x0_0 then
              (some (x25b.length : Int)).bind fun x32 =>
              (some (decide ((0 : Int) < x32))).bind fun x33 =>
              some x33
            else
              some false).bind fun c34_6 =>
          K3 (c34_6, x0_0))
noncomputable def ref01_Gcd_m (x0 : Zr) (x1 : Zr) : Option (Zr) :=
  match x0 with
  | ⟨x0_0, x0_1⟩ =>
    match x1 with
    | ⟨x1_0, x1_1⟩ =>
      (ref01_halves_m x0_1).bind fun x11 =>
      (ref01_halves_m x1_1).bind fun x14 =>
      (loopM (fun (s6 : (List Int) × (List Int)) =>
        match s6 with
        | ⟨y5l3, y6l3⟩ =>
          (show Option (((List Int) × (List Int)) ⊕ ((List Int))) from
            (some (y6l3.length : Int)).bind fun x16 =>
            (some (decide ((0 : Int) < x16))).bind fun x17 =>
            (bif x17 then
                (ref01_div_m y5l3 y6l3).bind fun ⟨x21a, x21b⟩ =>
                some (.inl (y6l3, x21b))
              else
                some (.inr y5l3)))) (x11, x14)).bind fun y5e5 =>
          (ref01_of_m false y5e5).bind fun ⟨x27_0, x27_1⟩ =>
          some ⟨x27_0, x27_1⟩
noncomputable def ref01_Text_m (x0 : Zr) : Option (Str) :=
  match x0 with
  | ⟨x0_0, x0_1⟩ =>
    (ref01_halves_m x0_1).bind fun x9 =>
    (loopM (fun (s10 : (List Int) × Str) =>
      match s10 with
      | ⟨y3l5, y4l5⟩ =>
        (show Option (((List Int) × Str) ⊕ (Str)) from
          letJ (fun (y16j12 : Bool) =>
              (bif y16j12 then
                  (ref01_div_m y3l5 [10]).bind fun ⟨x20a, x20b⟩ =>
                  (ref01_at_m x20b 0).bind fun x24 =>
                  (some ((x24 % 256).toNat)).bind fun x25 =>
                  (some ((48 + x25) % 256)).bind fun x26 =>
                  (some (List.map UInt8.ofNat [x26])).bind fun x28 =>
                  (catM x28 y4l5).bind fun x30 =>
                  some (.inl (x20a, x30))
                else
                  some (.inr y4l5))) fun K13 =>
          (some (y3l5.length : Int)).bind fun x11 =>
          (some (decide ((0 : Int) < x11))).bind fun x12 =>
          (bif x12 then
              some true
            else
              (some (decide ((y4l5 : Str) = []))).bind fun x15 =>
              some x15).bind fun c16_14 =>
          K13 c16_14)) (x9, [])).bind fun y4e9 =>
        (ref01_Sign_m ⟨x0_0, x0_1⟩).bind fun x33 =>
        (some (decide ((x33 : Int) < 0))).bind fun x34 =>
        (bif x34 then
            (catM [45] y4e9).bind fun x36 =>
            some x36
          else
            some y4e9)
noncomputable def ref01_Parse_m (x0 : Str) : Option (Zr × Int) :=
  letJ (fun (y4j2 : Bool) =>
      letJ (fun (j5 : Bool × Str) =>
        match j5 with
        | ⟨y4j4, y5j4⟩ =>
          (some ((y5j4 : Str).length : Int)).bind fun x20 =>
          (some (decide ((1000 : Int) < x20))).bind fun x21 =>
          (bif x21 then
              some (⟨false, []⟩, 5)
            else
              letJ (fun (y37j9 : Bool) =>
                  (bif y37j9 then
                      some (⟨false, []⟩, 3)
                    else
                      (loopM (fun (s20 : (List Int) × Int) =>
                        match s20 with
                        | ⟨y6l15, y7l15⟩ =>
                          (show Option (((List Int) × Int) ⊕ (((List Int)) ⊕ (Zr × Int))) from
                            (some ((y5j4 : Str).length : Int)).bind fun x41 =>
                            (some (decide ((y7l15 : Int) < x41))).bind fun x42 =>
                            (bif x42 then
                                letJ (fun (y54j22 : Bool) =>
                                    (bif y54j22 then
                                        some (.inr (.inr (⟨false, []⟩, 3)))
                                      else
                                        (ref01_times_m y6l15 10).bind fun x57 =>
                                        (sgeti y5j4 y7l15).bind fun x60 =>
                                        (some (usub 256 x60 48)).bind fun x61 =>
                                        (some (IntKind.i64.wrap (x61 : Int))).bind fun x62 =>
                                        (ref01_trim_m [x62]).bind fun x64 =>
                                        (ref01_add_m x57 x64).bind fun x65 =>
                                        (some (IntKind.i64.wrap (y7l15 + 1))).bind fun x44 =>
                                        some (.inl (x65, x44)))) fun K23 =>
                                (sgeti y5j4 y7l15).bind fun x47 =>
                                (some (decide ((x47 : Nat) < 48))).bind fun x48 =>
                                (bif x48 then
                                    some true
                                  else
                                    (sgeti y5j4 y7l15).bind fun x52 =>
                                    (some (decide ((57 : Nat) < x52))).bind fun x53 =>
                                    some x53).bind fun c54_24 =>
                                K23 c54_24
                              else
                                some (.inr (.inl y6l15))))) ([], 0)).bind fun e20 =>
                        match e20 with
                        | .inr v20 => some v20
                        | .inl y6e19 =>
                          (ref01_of_m y4j4 y6e19).bind fun ⟨x68_0, x68_1⟩ =>
                          some (⟨x68_0, x68_1⟩, 0))) fun K10 =>
              (some (decide ((y5j4 : Str) = []))).bind fun x24 =>
              (bif x24 then
                  some true
                else
                  (sgeti y5j4 0).bind fun x27 =>
                  (some (decide ((x27 : Nat) = 48))).bind fun x28 =>
                  (bif x28 then
                      (some ((y5j4 : Str).length : Int)).bind fun x31 =>
                      (some (decide ((1 : Int) < x31))).bind fun x32 =>
                      (bif x32 then
                          some true
                        else
                          some y4j4).bind fun c35_27 =>
                      some c35_27
                    else
                      some false).bind fun c36_26 =>
                  some c36_26).bind fun c37_25 =>
              K10 c37_25)) fun K5 =>
      (bif y4j2 then
          (subM x0 1 (x0.length : Int)).bind fun x18 =>
          K5 (true, x18)
        else
          K5 (false, x0))) fun K3 =>
  (some (decide ((x0 : Str) ≠ []))).bind fun x9 =>
  (bif x9 then
      (sgeti x0 0).bind fun x12 =>
      (some (decide ((x12 : Nat) = 45))).bind fun x13 =>
      some x13
    else
      some false).bind fun c14_28 =>
  K3 c14_28
end Go.Proofs.Ytgkafblpckcekaa
