/- Plain functions: what the program's functions compute. Made by program. -/
import Derived.Test.YtgkafblpckcekaaMW
import Derived.Test.YtgkafblpckcekaaMR
namespace Go.Proofs.Ytgkafblpckcekaa
open Go.Fw
noncomputable def law01_n_m (x0 : Int) : Option (Zr) :=
  (whole_FromInt64_m x0).bind fun ⟨x4_0, x4_1⟩ =>
  some ⟨x4_0, x4_1⟩
noncomputable def law01_is_m (x0 : Zr) (x1 : Int) : Option (Bool) :=
  match x0 with
  | ⟨x0_0, x0_1⟩ =>
    (ref01_From_m x1).bind fun ⟨x7_0, x7_1⟩ =>
    (ref01_Same_m ⟨x0_0, x0_1⟩ ⟨x7_0, x7_1⟩).bind fun x8 =>
    some x8
noncomputable def law01_alive_m  : Option (Bool) :=
  (law01_n_m (-7)).bind fun ⟨x13_0, x13_1⟩ =>
  (law01_n_m 2).bind fun ⟨x14_0, x14_1⟩ =>
  (whole_DivMod_m ⟨x13_0, x13_1⟩ ⟨x14_0, x14_1⟩).bind fun ⟨⟨x15a_0, x15a_1⟩, ⟨x15b_0, x15b_1⟩, x15c⟩ =>
  (law01_n_m (-7)).bind fun ⟨x20_0, x20_1⟩ =>
  (law01_n_m (-2)).bind fun ⟨x21_0, x21_1⟩ =>
  (whole_DivMod_m ⟨x20_0, x20_1⟩ ⟨x21_0, x21_1⟩).bind fun ⟨⟨x22a_0, x22a_1⟩, ⟨x22b_0, x22b_1⟩, x22c⟩ =>
  (law01_n_m 7).bind fun ⟨x27_0, x27_1⟩ =>
  (law01_n_m (-2)).bind fun ⟨x28_0, x28_1⟩ =>
  (whole_DivMod_m ⟨x27_0, x27_1⟩ ⟨x28_0, x28_1⟩).bind fun ⟨⟨x29a_0, x29a_1⟩, ⟨x29b_0, x29b_1⟩, x29c⟩ =>
  (whole_Parse_m [45, 48]).bind fun ⟨⟨x34a_0, x34a_1⟩, x34b⟩ =>
  letJ (fun (y50j9 : Bool) =>
      (bif y50j9 then
          some false
        else
          letJ (fun (y0j54 : Bool) =>
              some y0j54) fun K55 =>
          (law01_is_m ⟨x15a_0, x15a_1⟩ (-4)).bind fun x52 =>
          (bif x52 then
              (law01_is_m ⟨x15b_0, x15b_1⟩ 1).bind fun x55 =>
              some x55
            else
              some false).bind fun c56_56 =>
          (bif c56_56 then
              (law01_is_m ⟨x22a_0, x22a_1⟩ 4).bind fun x59 =>
              some x59
            else
              some false).bind fun c60_92 =>
          (bif c60_92 then
              (law01_is_m ⟨x22b_0, x22b_1⟩ 1).bind fun x63 =>
              some x63
            else
              some false).bind fun c64_93 =>
          (bif c64_93 then
              (law01_is_m ⟨x29a_0, x29a_1⟩ (-3)).bind fun x67 =>
              some x67
            else
              some false).bind fun c68_94 =>
          (bif c68_94 then
              (law01_is_m ⟨x29b_0, x29b_1⟩ 1).bind fun x71 =>
              some x71
            else
              some false).bind fun c72_95 =>
          (bif c72_95 then
              (law01_n_m (-12)).bind fun ⟨x74_0, x74_1⟩ =>
              (law01_n_m 18).bind fun ⟨x75_0, x75_1⟩ =>
              (whole_GCD_m ⟨x74_0, x74_1⟩ ⟨x75_0, x75_1⟩).bind fun ⟨x76_0, x76_1⟩ =>
              (law01_is_m ⟨x76_0, x76_1⟩ 6).bind fun x77 =>
              some x77
            else
              some false).bind fun c78_96 =>
          (bif c78_96 then
              (law01_n_m 0).bind fun ⟨x80_0, x80_1⟩ =>
              (law01_n_m (-5)).bind fun ⟨x81_0, x81_1⟩ =>
              (whole_GCD_m ⟨x80_0, x80_1⟩ ⟨x81_0, x81_1⟩).bind fun ⟨x82_0, x82_1⟩ =>
              (law01_is_m ⟨x82_0, x82_1⟩ 5).bind fun x83 =>
              some x83
            else
              some false).bind fun c84_97 =>
          (bif c84_97 then
              (law01_n_m (-9223372036854775808)).bind fun ⟨x86_0, x86_1⟩ =>
              (whole_Format_m ⟨x86_0, x86_1⟩).bind fun x87 =>
              (some (decide ((x87 : Str) = [45, 57, 50, 50, 51, 51, 55, 50, 48, 51, 54, 56, 53, 52, 55, 55, 53, 56, 48, 56]))).bind fun x88 =>
              some x88
            else
              some false).bind fun c89_98 =>
          K55 c89_98)) fun K10 =>
  (some (decide ((x15c : Int) ≠ 0))).bind fun x38 =>
  (bif x38 then
      some true
    else
      (some (decide ((x22c : Int) ≠ 0))).bind fun x41 =>
      some x41).bind fun c42_99 =>
  (bif c42_99 then
      some true
    else
      (some (decide ((x29c : Int) ≠ 0))).bind fun x45 =>
      some x45).bind fun c46_105 =>
  (bif c46_105 then
      some true
    else
      (some (decide ((x34b : Int) ≠ 3))).bind fun x49 =>
      some x49).bind fun c50_106 =>
  K10 c50_106
noncomputable def law01_Long_m (x0 : List Zr) : Option (Bool) :=
  (loopM (fun (y3l3 : Int) =>
      (show Option ((Int) ⊕ ((Unit) ⊕ (Bool))) from
        (some (x0.length : Int)).bind fun x6 =>
        (some (decide ((y3l3 : Int) < x6))).bind fun x7 =>
        (bif x7 then
            (geti x0 y3l3).bind fun ⟨x12_0, x12_1⟩ =>
            (some (x12_1.length : Int)).bind fun x15 =>
            (some (decide ((12 : Int) < x15))).bind fun x16 =>
            (bif x16 then
                some (.inr (.inr true))
              else
                (some (IntKind.i64.wrap (y3l3 + 1))).bind fun x9 =>
                some (.inl x9))
          else
            some (.inr (.inl ()))))) 0).bind fun e6 =>
    match e6 with
    | .inr v6 => some v6
    | .inl _ =>
      some false
noncomputable def law01_Own_m (x0 : Zr) : Option (Zr) :=
  match x0 with
  | ⟨x0_0, x0_1⟩ =>
    (apM 4 [] x0_1).bind fun x7 =>
    some ⟨x0_0, x7⟩
noncomputable def law01_divides_m (x0 : Zr) (x1 : Zr) : Option (Bool) :=
  match x0 with
  | ⟨x0_0, x0_1⟩ =>
    match x1 with
    | ⟨x1_0, x1_1⟩ =>
      (whole_Sign_m ⟨x0_0, x0_1⟩).bind fun x9 =>
      (some (decide ((x9 : Int) = 0))).bind fun x10 =>
      (bif x10 then
          (whole_Sign_m ⟨x1_0, x1_1⟩).bind fun x12 =>
          (some (decide ((x12 : Int) = 0))).bind fun x13 =>
          some x13
        else
          (whole_DivMod_m ⟨x1_0, x1_1⟩ ⟨x0_0, x0_1⟩).bind fun ⟨⟨x17a_0, x17a_1⟩, ⟨x17b_0, x17b_1⟩, x17c⟩ =>
          letJ (fun (y4j2 : Bool) =>
              some y4j2) fun K3 =>
          (some (decide ((x17c : Int) = 0))).bind fun x22 =>
          (bif x22 then
              (whole_Sign_m ⟨x17b_0, x17b_1⟩).bind fun x25 =>
              (some (decide ((x25 : Int) = 0))).bind fun x26 =>
              some x26
            else
              some false).bind fun c27_4 =>
          K3 c27_4)
noncomputable def law01_WholeExamples_m  : Option (Bool) :=
  (law01_alive_m).bind fun x1 =>
  some x1
noncomputable def law01_WholeRing_m (x0 : Zr) (x1 : Zr) (x2 : Zr) : Option (Bool) :=
  match x0 with
  | ⟨x0_0, x0_1⟩ =>
    match x1 with
    | ⟨x1_0, x1_1⟩ =>
      match x2 with
      | ⟨x2_0, x2_1⟩ =>
        (law01_Long_m [⟨x0_0, x0_1⟩, ⟨x1_0, x1_1⟩, ⟨x2_0, x2_1⟩]).bind fun x17 =>
        (bif x17 then
            (law01_alive_m).bind fun x18 =>
            some x18
          else
            (whole_Add_m ⟨x0_0, x0_1⟩ ⟨x1_0, x1_1⟩).bind fun ⟨x21_0, x21_1⟩ =>
            (whole_Add_m ⟨x1_0, x1_1⟩ ⟨x2_0, x2_1⟩).bind fun ⟨x24_0, x24_1⟩ =>
            (whole_Mul_m ⟨x0_0, x0_1⟩ ⟨x1_0, x1_1⟩).bind fun ⟨x27_0, x27_1⟩ =>
            (whole_Mul_m ⟨x1_0, x1_1⟩ ⟨x2_0, x2_1⟩).bind fun ⟨x30_0, x30_1⟩ =>
            letJ (fun (y81j14 : Bool) =>
                (bif y81j14 then
                    some false
                  else
                    (whole_Sub_m ⟨x0_0, x0_1⟩ ⟨x1_0, x1_1⟩).bind fun ⟨x84_0, x84_1⟩ =>
                    letJ (fun (y6j42 : Bool) =>
                        some y6j42) fun K43 =>
                    (whole_Sign_m ⟨x84_0, x84_1⟩).bind fun x86 =>
                    (whole_Cmp_m ⟨x0_0, x0_1⟩ ⟨x1_0, x1_1⟩).bind fun x89 =>
                    (some (decide ((x86 : Int) = x89))).bind fun x90 =>
                    (bif x90 then
                        (whole_Cmp_m ⟨x0_0, x0_1⟩ ⟨x1_0, x1_1⟩).bind fun x94 =>
                        (whole_Cmp_m ⟨x1_0, x1_1⟩ ⟨x0_0, x0_1⟩).bind fun x97 =>
                        (some (IntKind.i64.wrap (0 - x97))).bind fun x98 =>
                        (some (decide ((x94 : Int) = x98))).bind fun x99 =>
                        some x99
                      else
                        some false).bind fun c100_44 =>
                    (bif c100_44 then
                        (whole_Add_m ⟨x0_0, x0_1⟩ ⟨x2_0, x2_1⟩).bind fun ⟨x104_0, x104_1⟩ =>
                        (whole_Cmp_m ⟨x104_0, x104_1⟩ ⟨x24_0, x24_1⟩).bind fun x106 =>
                        (whole_Cmp_m ⟨x0_0, x0_1⟩ ⟨x1_0, x1_1⟩).bind fun x109 =>
                        (some (decide ((x106 : Int) = x109))).bind fun x110 =>
                        some x110
                      else
                        some false).bind fun c111_65 =>
                    (bif c111_65 then
                        (whole_Add_m ⟨x84_0, x84_1⟩ ⟨x1_0, x1_1⟩).bind fun ⟨x116_0, x116_1⟩ =>
                        (whole_Abs_m ⟨x0_0, x0_1⟩).bind fun ⟨x118_0, x118_1⟩ =>
                        (ref01_Same_m ⟨x116_0, x116_1⟩ ⟨x118_0, x118_1⟩).bind fun x119 =>
                        (whole_Sign_m ⟨x0_0, x0_1⟩).bind fun x121 =>
                        (some (decide ((0 : Int) ≤ x121))).bind fun x122 =>
                        (some (x119 == x122)).bind fun x123 =>
                        some x123
                      else
                        some false).bind fun c124_66 =>
                    (bif c124_66 then
                        (whole_IsCanonical_m ⟨x84_0, x84_1⟩).bind fun x127 =>
                        some x127
                      else
                        some false).bind fun c128_67 =>
                    (bif c128_67 then
                        (whole_IsCanonical_m ⟨x27_0, x27_1⟩).bind fun x131 =>
                        some x131
                      else
                        some false).bind fun c132_68 =>
                    (bif c132_68 then
                        (law01_alive_m).bind fun x134 =>
                        some x134
                      else
                        some false).bind fun c135_69 =>
                    K43 c135_69)) fun K15 =>
            (whole_Add_m ⟨x1_0, x1_1⟩ ⟨x0_0, x0_1⟩).bind fun ⟨x35_0, x35_1⟩ =>
            (ref01_Same_m ⟨x21_0, x21_1⟩ ⟨x35_0, x35_1⟩).bind fun x36 =>
            (some (!x36)).bind fun x37 =>
            (bif x37 then
                some true
              else
                (whole_Mul_m ⟨x1_0, x1_1⟩ ⟨x0_0, x0_1⟩).bind fun ⟨x43_0, x43_1⟩ =>
                (ref01_Same_m ⟨x27_0, x27_1⟩ ⟨x43_0, x43_1⟩).bind fun x44 =>
                (some (!x44)).bind fun x45 =>
                some x45).bind fun c46_70 =>
            (bif c46_70 then
                some true
              else
                (whole_Add_m ⟨x21_0, x21_1⟩ ⟨x2_0, x2_1⟩).bind fun ⟨x51_0, x51_1⟩ =>
                (whole_Add_m ⟨x0_0, x0_1⟩ ⟨x24_0, x24_1⟩).bind fun ⟨x54_0, x54_1⟩ =>
                (ref01_Same_m ⟨x51_0, x51_1⟩ ⟨x54_0, x54_1⟩).bind fun x55 =>
                (some (!x55)).bind fun x56 =>
                some x56).bind fun c57_80 =>
            (bif c57_80 then
                some true
              else
                (whole_Mul_m ⟨x27_0, x27_1⟩ ⟨x2_0, x2_1⟩).bind fun ⟨x62_0, x62_1⟩ =>
                (whole_Mul_m ⟨x0_0, x0_1⟩ ⟨x30_0, x30_1⟩).bind fun ⟨x65_0, x65_1⟩ =>
                (ref01_Same_m ⟨x62_0, x62_1⟩ ⟨x65_0, x65_1⟩).bind fun x66 =>
                (some (!x66)).bind fun x67 =>
                some x67).bind fun c68_81 =>
            (bif c68_81 then
                some true
              else
                (whole_Mul_m ⟨x0_0, x0_1⟩ ⟨x24_0, x24_1⟩).bind fun ⟨x73_0, x73_1⟩ =>
                (whole_Mul_m ⟨x0_0, x0_1⟩ ⟨x2_0, x2_1⟩).bind fun ⟨x77_0, x77_1⟩ =>
                (whole_Add_m ⟨x27_0, x27_1⟩ ⟨x77_0, x77_1⟩).bind fun ⟨x78_0, x78_1⟩ =>
                (ref01_Same_m ⟨x73_0, x73_1⟩ ⟨x78_0, x78_1⟩).bind fun x79 =>
                (some (!x79)).bind fun x80 =>
                some x80).bind fun c81_82 =>
            K15 c81_82)
noncomputable def law01_WholeEuclid_m (x0 : Zr) (x1 : Zr) (x2 : Zr) : Option (Bool) :=
  match x0 with
  | ⟨x0_0, x0_1⟩ =>
    match x1 with
    | ⟨x1_0, x1_1⟩ =>
      match x2 with
      | ⟨x2_0, x2_1⟩ =>
        (law01_Long_m [⟨x0_0, x0_1⟩, ⟨x1_0, x1_1⟩, ⟨x2_0, x2_1⟩]).bind fun x15 =>
        (bif x15 then
            (law01_alive_m).bind fun x16 =>
            some x16
          else
            (whole_DivMod_m ⟨x0_0, x0_1⟩ ⟨x1_0, x1_1⟩).bind fun ⟨⟨x20a_0, x20a_1⟩, ⟨x20b_0, x20b_1⟩, x20c⟩ =>
            letJ (fun (y47j7 : Bool) =>
                (bif y47j7 then
                    some false
                  else
                    letJ (fun (y71j14 : Bool) =>
                        (bif y71j14 then
                            some false
                          else
                            (whole_GCD_m ⟨x0_0, x0_1⟩ ⟨x1_0, x1_1⟩).bind fun ⟨x74_0, x74_1⟩ =>
                            letJ (fun (y105j30 : Bool) =>
                                (bif y105j30 then
                                    some false
                                  else
                                    letJ (fun (y6j36 : Bool) =>
                                        some y6j36) fun K37 =>
                                    (whole_Mul_m ⟨x0_0, x0_1⟩ ⟨x2_0, x2_1⟩).bind fun ⟨x108_0, x108_1⟩ =>
                                    (whole_Mul_m ⟨x1_0, x1_1⟩ ⟨x2_0, x2_1⟩).bind fun ⟨x111_0, x111_1⟩ =>
                                    (whole_GCD_m ⟨x108_0, x108_1⟩ ⟨x111_0, x111_1⟩).bind fun ⟨x112_0, x112_1⟩ =>
                                    (whole_Abs_m ⟨x2_0, x2_1⟩).bind fun ⟨x115_0, x115_1⟩ =>
                                    (whole_Mul_m ⟨x74_0, x74_1⟩ ⟨x115_0, x115_1⟩).bind fun ⟨x116_0, x116_1⟩ =>
                                    (ref01_Same_m ⟨x112_0, x112_1⟩ ⟨x116_0, x116_1⟩).bind fun x117 =>
                                    (bif x117 then
                                        (whole_GCD_m ⟨x1_0, x1_1⟩ ⟨x0_0, x0_1⟩).bind fun ⟨x121_0, x121_1⟩ =>
                                        (ref01_Same_m ⟨x121_0, x121_1⟩ ⟨x74_0, x74_1⟩).bind fun x123 =>
                                        some x123
                                      else
                                        some false).bind fun c124_38 =>
                                    (bif c124_38 then
                                        (law01_alive_m).bind fun x126 =>
                                        some x126
                                      else
                                        some false).bind fun c127_41 =>
                                    K37 c127_41)) fun K31 =>
                            (whole_Sign_m ⟨x74_0, x74_1⟩).bind fun x76 =>
                            (some (decide ((x76 : Int) < 0))).bind fun x77 =>
                            (bif x77 then
                                some true
                              else
                                (law01_divides_m ⟨x74_0, x74_1⟩ ⟨x0_0, x0_1⟩).bind fun x81 =>
                                (some (!x81)).bind fun x82 =>
                                some x82).bind fun c83_42 =>
                            (bif c83_42 then
                                some true
                              else
                                (law01_divides_m ⟨x74_0, x74_1⟩ ⟨x1_0, x1_1⟩).bind fun x87 =>
                                (some (!x87)).bind fun x88 =>
                                some x88).bind fun c89_52 =>
                            (bif c89_52 then
                                some true
                              else
                                (law01_divides_m ⟨x2_0, x2_1⟩ ⟨x0_0, x0_1⟩).bind fun x93 =>
                                (bif x93 then
                                    (law01_divides_m ⟨x2_0, x2_1⟩ ⟨x1_0, x1_1⟩).bind fun x97 =>
                                    some x97
                                  else
                                    some false).bind fun c98_54 =>
                                (bif c98_54 then
                                    (law01_divides_m ⟨x2_0, x2_1⟩ ⟨x74_0, x74_1⟩).bind fun x102 =>
                                    (some (!x102)).bind fun x103 =>
                                    some x103
                                  else
                                    some false).bind fun c104_55 =>
                                some c104_55).bind fun c105_53 =>
                            K31 c105_53)) fun K15 =>
                    (some (decide ((x20c : Int) = 0))).bind fun x49 =>
                    (bif x49 then
                        (whole_Mul_m ⟨x20a_0, x20a_1⟩ ⟨x1_0, x1_1⟩).bind fun ⟨x53_0, x53_1⟩ =>
                        (whole_Add_m ⟨x53_0, x53_1⟩ ⟨x20b_0, x20b_1⟩).bind fun ⟨x55_0, x55_1⟩ =>
                        (whole_Cmp_m ⟨x55_0, x55_1⟩ ⟨x0_0, x0_1⟩).bind fun x57 =>
                        (some (decide ((x57 : Int) ≠ 0))).bind fun x58 =>
                        (bif x58 then
                            some true
                          else
                            (whole_Sign_m ⟨x20b_0, x20b_1⟩).bind fun x61 =>
                            (some (decide ((x61 : Int) < 0))).bind fun x62 =>
                            some x62).bind fun c63_57 =>
                        (bif c63_57 then
                            some true
                          else
                            (whole_Abs_m ⟨x1_0, x1_1⟩).bind fun ⟨x67_0, x67_1⟩ =>
                            (whole_Cmp_m ⟨x20b_0, x20b_1⟩ ⟨x67_0, x67_1⟩).bind fun x68 =>
                            (some (decide ((0 : Int) ≤ x68))).bind fun x69 =>
                            some x69).bind fun c70_60 =>
                        some c70_60
                      else
                        some false).bind fun c71_56 =>
                    K15 c71_56)) fun K8 =>
            (some (decide ((x20c : Int) = 0))).bind fun x25 =>
            (whole_Sign_m ⟨x1_0, x1_1⟩).bind fun x27 =>
            (some (decide ((x27 : Int) ≠ 0))).bind fun x28 =>
            (some (!(x25 == x28))).bind fun x29 =>
            (bif x29 then
                some true
              else
                (some (decide ((x20c : Int) ≠ 0))).bind fun x32 =>
                (bif x32 then
                    (some (decide ((x20c : Int) ≠ 7))).bind fun x35 =>
                    (bif x35 then
                        some true
                      else
                        (whole_Sign_m ⟨x20a_0, x20a_1⟩).bind fun x38 =>
                        (some (decide ((x38 : Int) ≠ 0))).bind fun x39 =>
                        some x39).bind fun c40_63 =>
                    (bif c40_63 then
                        some true
                      else
                        (whole_Sign_m ⟨x20b_0, x20b_1⟩).bind fun x43 =>
                        (some (decide ((x43 : Int) ≠ 0))).bind fun x44 =>
                        some x44).bind fun c45_66 =>
                    some c45_66
                  else
                    some false).bind fun c46_62 =>
                some c46_62).bind fun c47_61 =>
            K8 c47_61)
noncomputable def law01_WholeMatches_m (x0 : Zr) (x1 : Zr) (x2 : Int) : Option (Bool) :=
  match x0 with
  | ⟨x0_0, x0_1⟩ =>
    match x1 with
    | ⟨x1_0, x1_1⟩ =>
      (law01_Long_m [⟨x0_0, x0_1⟩, ⟨x1_0, x1_1⟩]).bind fun x16 =>
      (bif x16 then
          (law01_alive_m).bind fun x17 =>
          some x17
        else
          (law01_Own_m ⟨x0_0, x0_1⟩).bind fun ⟨x19_0, x19_1⟩ =>
          (law01_Own_m ⟨x1_0, x1_1⟩).bind fun ⟨x21_0, x21_1⟩ =>
          (whole_Int64_m ⟨x19_0, x19_1⟩).bind fun ⟨x24a, x24b⟩ =>
          (ref01_Int_m ⟨x0_0, x0_1⟩).bind fun ⟨x29a, x29b⟩ =>
          letJ (fun (y56j9 : Bool) =>
              (bif y56j9 then
                  some false
                else
                  letJ (fun (y84j15 : Bool) =>
                      (bif y84j15 then
                          some false
                        else
                          letJ (fun (y114j25 : Bool) =>
                              (bif y114j25 then
                                  some false
                                else
                                  letJ (fun (y6j31 : Bool) =>
                                      some y6j31) fun K32 =>
                                  (ref01_Same_m ⟨x19_0, x19_1⟩ ⟨x0_0, x0_1⟩).bind fun x117 =>
                                  (bif x117 then
                                      (ref01_Same_m ⟨x21_0, x21_1⟩ ⟨x1_0, x1_1⟩).bind fun x121 =>
                                      some x121
                                    else
                                      some false).bind fun c122_33 =>
                                  (bif c122_33 then
                                      (law01_alive_m).bind fun x124 =>
                                      some x124
                                    else
                                      some false).bind fun c125_36 =>
                                  K32 c125_36)) fun K26 =>
                          (whole_Neg_m ⟨x19_0, x19_1⟩).bind fun ⟨x86_0, x86_1⟩ =>
                          (ref01_Neg_m ⟨x0_0, x0_1⟩).bind fun ⟨x88_0, x88_1⟩ =>
                          (ref01_Same_m ⟨x86_0, x86_1⟩ ⟨x88_0, x88_1⟩).bind fun x89 =>
                          (some (!x89)).bind fun x90 =>
                          (bif x90 then
                              some true
                            else
                              (whole_Abs_m ⟨x19_0, x19_1⟩).bind fun ⟨x93_0, x93_1⟩ =>
                              (ref01_Abs_m ⟨x0_0, x0_1⟩).bind fun ⟨x95_0, x95_1⟩ =>
                              (ref01_Same_m ⟨x93_0, x93_1⟩ ⟨x95_0, x95_1⟩).bind fun x96 =>
                              (some (!x96)).bind fun x97 =>
                              some x97).bind fun c98_37 =>
                          (bif c98_37 then
                              some true
                            else
                              (whole_Sign_m ⟨x19_0, x19_1⟩).bind fun x101 =>
                              (ref01_Sign_m ⟨x0_0, x0_1⟩).bind fun x103 =>
                              (some (decide ((x101 : Int) ≠ x103))).bind fun x104 =>
                              some x104).bind fun c105_43 =>
                          (bif c105_43 then
                              some true
                            else
                              (whole_Cmp_m ⟨x19_0, x19_1⟩ ⟨x21_0, x21_1⟩).bind fun x109 =>
                              (ref01_Cmp_m ⟨x0_0, x0_1⟩ ⟨x1_0, x1_1⟩).bind fun x112 =>
                              (some (decide ((x109 : Int) ≠ x112))).bind fun x113 =>
                              some x113).bind fun c114_44 =>
                          K26 c114_44)) fun K16 =>
                  (whole_Add_m ⟨x19_0, x19_1⟩ ⟨x21_0, x21_1⟩).bind fun ⟨x59_0, x59_1⟩ =>
                  (ref01_Add_m ⟨x0_0, x0_1⟩ ⟨x1_0, x1_1⟩).bind fun ⟨x62_0, x62_1⟩ =>
                  (ref01_Same_m ⟨x59_0, x59_1⟩ ⟨x62_0, x62_1⟩).bind fun x63 =>
                  (some (!x63)).bind fun x64 =>
                  (bif x64 then
                      some true
                    else
                      (whole_Sub_m ⟨x19_0, x19_1⟩ ⟨x21_0, x21_1⟩).bind fun ⟨x68_0, x68_1⟩ =>
                      (ref01_Sub_m ⟨x0_0, x0_1⟩ ⟨x1_0, x1_1⟩).bind fun ⟨x71_0, x71_1⟩ =>
                      (ref01_Same_m ⟨x68_0, x68_1⟩ ⟨x71_0, x71_1⟩).bind fun x72 =>
                      (some (!x72)).bind fun x73 =>
                      some x73).bind fun c74_45 =>
                  (bif c74_45 then
                      some true
                    else
                      (whole_Mul_m ⟨x19_0, x19_1⟩ ⟨x21_0, x21_1⟩).bind fun ⟨x78_0, x78_1⟩ =>
                      (ref01_Mul_m ⟨x0_0, x0_1⟩ ⟨x1_0, x1_1⟩).bind fun ⟨x81_0, x81_1⟩ =>
                      (ref01_Same_m ⟨x78_0, x78_1⟩ ⟨x81_0, x81_1⟩).bind fun x82 =>
                      (some (!x82)).bind fun x83 =>
                      some x83).bind fun c84_48 =>
                  K16 c84_48)) fun K10 =>
          (some (decide ((x24a : Int) ≠ x29a))).bind fun x34 =>
          (bif x34 then
              some true
            else
              (some (!(x24b == x29b))).bind fun x38 =>
              some x38).bind fun c39_49 =>
          (bif c39_49 then
              some true
            else
              (whole_FromInt64_m x2).bind fun ⟨x42_0, x42_1⟩ =>
              (ref01_From_m x2).bind fun ⟨x44_0, x44_1⟩ =>
              (ref01_Same_m ⟨x42_0, x42_1⟩ ⟨x44_0, x44_1⟩).bind fun x45 =>
              (some (!x45)).bind fun x46 =>
              some x46).bind fun c47_55 =>
          (bif c47_55 then
              some true
            else
              (whole_IsCanonical_m ⟨x19_0, x19_1⟩).bind fun x50 =>
              (ref01_Least_m ⟨x0_0, x0_1⟩).bind fun ⟨x53_0, x53_1⟩ =>
              (ref01_Same_m ⟨x0_0, x0_1⟩ ⟨x53_0, x53_1⟩).bind fun x54 =>
              (some (!(x50 == x54))).bind fun x55 =>
              some x55).bind fun c56_56 =>
          K10 c56_56)
noncomputable def law01_WholeDivMatches_m (x0 : Zr) (x1 : Zr) : Option (Bool) :=
  match x0 with
  | ⟨x0_0, x0_1⟩ =>
    match x1 with
    | ⟨x1_0, x1_1⟩ =>
      (law01_Long_m [⟨x0_0, x0_1⟩, ⟨x1_0, x1_1⟩]).bind fun x16 =>
      (bif x16 then
          (law01_alive_m).bind fun x17 =>
          some x17
        else
          (law01_Own_m ⟨x0_0, x0_1⟩).bind fun ⟨x19_0, x19_1⟩ =>
          (law01_Own_m ⟨x1_0, x1_1⟩).bind fun ⟨x21_0, x21_1⟩ =>
          (whole_DivMod_m ⟨x19_0, x19_1⟩ ⟨x21_0, x21_1⟩).bind fun ⟨⟨x25a_0, x25a_1⟩, ⟨x25b_0, x25b_1⟩, x25c⟩ =>
          (ref01_Div_m ⟨x0_0, x0_1⟩ ⟨x1_0, x1_1⟩).bind fun ⟨⟨x32a_0, x32a_1⟩, ⟨x32b_0, x32b_1⟩, x32c⟩ =>
          letJ (fun (y4j27 : Bool) =>
              some y4j27) fun K28 =>
          (ref01_Same_m ⟨x25a_0, x25a_1⟩ ⟨x32a_0, x32a_1⟩).bind fun x38 =>
          (bif x38 then
              (ref01_Same_m ⟨x25b_0, x25b_1⟩ ⟨x32b_0, x32b_1⟩).bind fun x42 =>
              some x42
            else
              some false).bind fun c43_29 =>
          (bif c43_29 then
              (some (decide ((x25c : Int) = x32c))).bind fun x47 =>
              some x47
            else
              some false).bind fun c48_50 =>
          (bif c48_50 then
              (whole_GCD_m ⟨x19_0, x19_1⟩ ⟨x21_0, x21_1⟩).bind fun ⟨x52_0, x52_1⟩ =>
              (ref01_Gcd_m ⟨x0_0, x0_1⟩ ⟨x1_0, x1_1⟩).bind fun ⟨x55_0, x55_1⟩ =>
              (ref01_Same_m ⟨x52_0, x52_1⟩ ⟨x55_0, x55_1⟩).bind fun x56 =>
              some x56
            else
              some false).bind fun c57_51 =>
          (bif c57_51 then
              (ref01_Same_m ⟨x19_0, x19_1⟩ ⟨x0_0, x0_1⟩).bind fun x61 =>
              some x61
            else
              some false).bind fun c62_52 =>
          (bif c62_52 then
              (ref01_Same_m ⟨x21_0, x21_1⟩ ⟨x1_0, x1_1⟩).bind fun x66 =>
              some x66
            else
              some false).bind fun c67_53 =>
          (bif c67_53 then
              (law01_alive_m).bind fun x69 =>
              some x69
            else
              some false).bind fun c70_54 =>
          K28 c70_54)
noncomputable def law01_WholeParseMatches_m (x0 : Zr) (x1 : Str) : Option (Bool) :=
  match x0 with
  | ⟨x0_0, x0_1⟩ =>
    letJ (fun (y19j2 : Bool) =>
        (bif y19j2 then
            (law01_alive_m).bind fun x20 =>
            some x20
          else
            (whole_Format_m ⟨x0_0, x0_1⟩).bind fun x22 =>
            (whole_Parse_m x1).bind fun ⟨⟨x25a_0, x25a_1⟩, x25b⟩ =>
            (ref01_Parse_m x1).bind fun ⟨⟨x30a_0, x30a_1⟩, x30b⟩ =>
            (whole_Parse_m x22).bind fun ⟨⟨x35a_0, x35a_1⟩, x35b⟩ =>
            letJ (fun (y63j17 : Bool) =>
                (bif y63j17 then
                    some false
                  else
                    letJ (fun (y4j23 : Bool) =>
                        some y4j23) fun K24 =>
                    (some (decide ((x25b : Int) ≠ 0))).bind fun x65 =>
                    (bif x65 then
                        some true
                      else
                        (whole_Format_m ⟨x25a_0, x25a_1⟩).bind fun x68 =>
                        (some (decide ((x68 : Str) = x1))).bind fun x70 =>
                        some x70).bind fun c71_25 =>
                    (bif c71_25 then
                        (law01_alive_m).bind fun x73 =>
                        some x73
                      else
                        some false).bind fun c74_28 =>
                    K24 c74_28)) fun K18 =>
            (ref01_Text_m ⟨x0_0, x0_1⟩).bind fun x40 =>
            (some (decide ((x22 : Str) ≠ x40))).bind fun x41 =>
            (bif x41 then
                some true
              else
                (ref01_Same_m ⟨x25a_0, x25a_1⟩ ⟨x30a_0, x30a_1⟩).bind fun x45 =>
                (some (!x45)).bind fun x46 =>
                some x46).bind fun c47_29 =>
            (bif c47_29 then
                some true
              else
                (some (decide ((x25b : Int) ≠ x30b))).bind fun x51 =>
                some x51).bind fun c52_39 =>
            (bif c52_39 then
                some true
              else
                (some (decide ((x35b : Int) ≠ 0))).bind fun x55 =>
                some x55).bind fun c56_40 =>
            (bif c56_40 then
                some true
              else
                (ref01_Least_m ⟨x0_0, x0_1⟩).bind fun ⟨x60_0, x60_1⟩ =>
                (ref01_Same_m ⟨x35a_0, x35a_1⟩ ⟨x60_0, x60_1⟩).bind fun x61 =>
                (some (!x61)).bind fun x62 =>
                some x62).bind fun c63_41 =>
            K18 c63_41)) fun K3 =>
    (law01_Long_m [⟨x0_0, x0_1⟩]).bind fun x14 =>
    (bif x14 then
        some true
      else
        (some ((x1 : Str).length : Int)).bind fun x17 =>
        (some (decide ((1100 : Int) < x17))).bind fun x18 =>
        some x18).bind fun c19_42 =>
    K3 c19_42
end Go.Proofs.Ytgkafblpckcekaa
