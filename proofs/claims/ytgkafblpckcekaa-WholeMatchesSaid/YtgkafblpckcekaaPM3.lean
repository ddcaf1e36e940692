/- A part of the proof: the framework, the plain functions, the followed functions, the plain laws. -/
import Derived.Test.YtgkafblpckcekaaPM2
set_option linter.unusedVariables false
set_option linter.unusedSimpArgs false
namespace Go.Proofs.Ytgkafblpckcekaa
open Go.Fw Go.RowKit
theorem whole_carrier_ok (c : Nat) : CloC Try.prog 71 [.v (.int .u64 (c : Nat))] 80 59 [.v (.int .u64 (c : Nat))] := by
  refine cloC_of_ok Try.func71 rfl (Nat.le_of_ble_eq_true rfl) (fun wld M vs hvs => ?_)
  refine ok_seq ?_
  refine ok_region ?_
  refine RT.boxV .none (s := .sv _) rfl (tl rfl) rfl rfl ?_
  refine RT.asg .none rfl (tl rfl) ?_
  refine RT.done ?_
  refine AThen.n ?_
  refine ok_seq ?_
  refine ok_region ?_
  refine RT.makeFunc .none (.box rfl (.nil)) (tl rfl) ?_
  refine RT.assign .none (s := .clo _ _) rfl (tl rfl) ?_
  refine RT.done ?_
  refine AThen.n ?_
  refine ok_ret ?_
  exact ⟨.inr rfl, _, .tmp rfl, rfl⟩
theorem whole_pairs_ok (a b : List Nat) : Pure Try.prog 72 [(slc 1 (List.map eU32 a)), (slc 1 (List.map eU32 b))] (cloS 81 [ref [(slc 1 (List.map eU32 a))], ref [(slc 1 (List.map eU32 b))]]) := by
  refine pure_of_ok Try.func72 rfl (Nat.le_of_ble_eq_true rfl) (fun wld M vs hvs => ?_)
  refine ok_seq ?_
  refine ok_region ?_
  refine RT.boxV .none (s := .sv _) rfl (tl rfl) rfl rfl ?_
  refine RT.boxV .none (s := .sv _) rfl (tl rfl) rfl rfl ?_
  refine RT.asg .none rfl (tl rfl) ?_
  refine RT.done ?_
  refine AThen.n ?_
  refine ok_seq ?_
  refine ok_region ?_
  refine RT.makeFunc .none (.box rfl (.box rfl (.nil))) (tl rfl) ?_
  refine RT.assign .none (s := .clo _ _) rfl (tl rfl) ?_
  refine RT.done ?_
  refine AThen.n ?_
  refine ok_weak (weak_frzB (i := 2) rfl [(slc 1 (List.map eU32 a))] (.cons rfl .nil) .any 0 [(4, .clo 81 [.val (ref [(slc 1 (List.map eU32 a))]), .box 3])] (fun _ _ _ => trivial) (Ones.h (l := [(slc 1 (List.map eU32 a))])) ⟨@FT.clo _ _ _ _ _ 4 81 [.box 2, .box 3] rfl, trivial⟩) ?_
  refine ok_weak (weak_frzB (i := 3) rfl [(slc 1 (List.map eU32 b))] (.cons rfl .nil) .any 0 [(4, .clo 81 [.val (ref [(slc 1 (List.map eU32 a))]), .val (ref [(slc 1 (List.map eU32 b))])])] (fun _ _ _ => trivial) (Ones.h (l := [(slc 1 (List.map eU32 b))])) ⟨@FT.clo _ _ _ _ _ 4 81 [.val (ref [(slc 1 (List.map eU32 a))]), .box 3] rfl, trivial⟩) ?_
  refine ok_weak (weak_t 4 (cloS 81 [ref [(slc 1 (List.map eU32 a))], ref [(slc 1 (List.map eU32 b))]]) (fun _ _ h => clo_sv h)) ?_
  refine ok_ret ?_
  exact ⟨.inr rfl, res_of (.tmp rfl (.nil)) rfl⟩
theorem whole_pairs_it (a b : List Nat) : Iter Try.prog 81 [ref [(slc 1 (List.map eU32 a))], ref [(slc 1 (List.map eU32 b))]] (max a.length b.length) (fun k => [.v (.int .u64 ((a.getD k 0 % 18446744073709551616 : Nat) : Int)), .v (.int .u64 ((b.getD k 0 % 18446744073709551616 : Nat) : Int))]) := by
  refine iter_of_ok Try.func81 rfl rfl (Nat.le_of_ble_eq_true rfl) (fun wld M O l J hJ hcv hr => ?_)
  obtain ⟨cvs, hcv⟩ := hcv
  have hla : a.length ≤ 9223372036854775807 := by cases cvs with | nil => exact hcv.elim | cons _ cvs => exact ref_len hcv.1
  have hlb : b.length ≤ 9223372036854775807 := by cases cvs with | nil => exact hcv.elim | cons _ cvs => cases cvs with | nil => exact hcv.2.elim | cons _ _ => exact ref_len hcv.2.1
  refine ok_seq ?_
  refine ok_region ?_
  refine RT.loadRV .none rfl rfl (tl rfl) ?_
  refine RT.len .none rfl (tl rfl) ?_
  refine RT.loadRV .none rfl rfl (tl rfl) ?_
  refine RT.len .none rfl (tl rfl) ?_
  refine RT.max .none (((max a.length b.length : Nat) : Int)) rfl rfl (tl rfl) (by simp only [List.length_map]; split <;> omega) ?_
  refine RT.mv .none rfl (tl rfl) ?_
  refine RT.done ?_
  refine AThen.n ?_
  refine ok_block ?_
  refine ok_loop (I := fun x : { i : Nat // i ≤ max a.length b.length } => AS.mkL 39 [(0, .sv (.v (.func (.yield l) #[] #[]))), (1, .sv (ref [(slc 1 (List.map eU32 a))])), (2, .sv (ref [(slc 1 (List.map eU32 b))])), (11, .sv (.v (.int .i64 ((max a.length b.length : Nat) : Int)))), (12, .sv (.v (.int .i64 ((x.1 : Nat) : Int))))] [] [] (x.1)) (μ := fun x => max a.length b.length - x.1) ⟨0, by omega⟩ (by (try dsimp only); exact weakL id rfl rfl rfl rfl rfl ⟨.sv (by first | exact SV.imp_refl _ | exact SV.imp_int (by omega) | exact SV.imp_int (by push_cast; omega) | exact SV.imp_int (by dsimp only; omega) | exact SV.imp_eq (by simp)), .sv (by first | exact SV.imp_refl _ | exact SV.imp_int (by omega) | exact SV.imp_int (by push_cast; omega) | exact SV.imp_int (by dsimp only; omega) | exact SV.imp_eq (by simp)), .sv (by first | exact SV.imp_refl _ | exact SV.imp_int (by omega) | exact SV.imp_int (by push_cast; omega) | exact SV.imp_int (by dsimp only; omega) | exact SV.imp_eq (by simp)), .sv (by first | exact SV.imp_refl _ | exact SV.imp_int (by omega) | exact SV.imp_int (by push_cast; omega) | exact SV.imp_int (by dsimp only; omega) | exact SV.imp_eq (by simp)), .sv (by first | exact SV.imp_refl _ | exact SV.imp_int (by omega) | exact SV.imp_int (by push_cast; omega) | exact SV.imp_int (by dsimp only; omega) | exact SV.imp_eq (by simp)), trivial⟩ trivial trivial (fun _ _ => rfl)) ?_
  rintro ⟨i, hi0⟩
  try dsimp only
  rcases pair_cases a b i hi0 with ⟨hi, hb1, hb2⟩ | ⟨hi, hb1, hb2⟩ | ⟨hi, hb1, hb2⟩ | hi
  ·
    refine ok_seq ?_
    refine ok_region ?_
    refine RT.lss .none (true) rfl rfl (tl rfl) (by simp; omega) ?_
    refine RT.done ?_
    refine AThen.n ?_
    refine ok_seq ?_
    refine ok_condT rfl ?_
    refine ok_skip ?_
    refine AThen.n ?_
    refine ok_seq ?_
    refine ok_block ?_
    refine ok_seq ?_
    refine ok_region ?_
    refine RT.mv .none rfl (tl rfl) ?_
    refine RT.asg .none rfl (tl rfl) ?_
    refine RT.done ?_
    refine AThen.n ?_
    refine ok_seq ?_
    refine ok_region ?_
    refine RT.asg .none rfl (tl rfl) ?_
    refine RT.asg .none rfl (tl rfl) ?_
    refine RT.done ?_
    refine AThen.n ?_
    refine ok_seq ?_
    refine ok_seq ?_
    refine ok_region ?_
    refine RT.mv .none rfl (tl rfl) ?_
    refine RT.loadRV .none rfl rfl (tl rfl) ?_
    refine RT.len .none rfl (tl rfl) ?_
    refine RT.lss .none (true) rfl rfl (tl rfl) (by simp only [List.length_map]; simp; omega) ?_
    refine RT.done ?_
    refine AThen.n ?_
    refine ok_condT rfl ?_
    refine ok_region ?_
    refine RT.loadRV .none rfl rfl (tl rfl) ?_
    refine RT.mv .none rfl (tl rfl) ?_
    refine RT.ixA .none [.v (.int .u32 ((a.getD i 0 : Nat) : Int))] (Int.natCast_nonneg i) (by rw [Int.toNat_natCast, List.getElem?_map, get_getD hb1]; rfl) rfl rfl (tl rfl) ?_
    refine RT.loadRV .none rfl rfl (tl rfl) ?_
    refine RT.conv .none (((a.getD i 0 % 18446744073709551616 : Nat) : Int)) rfl (tl rfl) cu64 ?_
    refine RT.asg .none rfl (tl rfl) ?_
    refine RT.done ?_
    refine AThen.n ?_
    refine ok_seq ?_
    refine ok_seq ?_
    refine ok_region ?_
    refine RT.mv .none rfl (tl rfl) ?_
    refine RT.loadRV .none rfl rfl (tl rfl) ?_
    refine RT.len .none rfl (tl rfl) ?_
    refine RT.lss .none (true) rfl rfl (tl rfl) (by simp only [List.length_map]; simp; omega) ?_
    refine RT.done ?_
    refine AThen.n ?_
    refine ok_condT rfl ?_
    refine ok_region ?_
    refine RT.loadRV .none rfl rfl (tl rfl) ?_
    refine RT.mv .none rfl (tl rfl) ?_
    refine RT.ixA .none [.v (.int .u32 ((b.getD i 0 : Nat) : Int))] (Int.natCast_nonneg i) (by rw [Int.toNat_natCast, List.getElem?_map, get_getD hb2]; rfl) rfl rfl (tl rfl) ?_
    refine RT.loadRV .none rfl rfl (tl rfl) ?_
    refine RT.conv .none (((b.getD i 0 % 18446744073709551616 : Nat) : Int)) rfl (tl rfl) cu64 ?_
    refine RT.asg .none rfl (tl rfl) ?_
    refine RT.done ?_
    refine AThen.n ?_
    refine ok_seq ?_
    refine ok_region ?_
    refine RT.mv .none rfl (tl rfl) ?_
    refine RT.mv .none rfl (tl rfl) ?_
    refine RT.mv .none rfl (tl rfl) ?_
    refine RT.yield .none hr rfl (fun _ h => h) rfl (i) rfl rfl hi (by exact ⟨rfl, rfl, trivial⟩) (tl rfl) (fun yb => ?_)
    cases yb
    ·
      refine RT.not .none rfl (tl rfl) true rfl ?_
      refine RT.done ?_
      refine AThen.n ?_
      refine ok_condT rfl ?_
      refine ok_ret ?_
      refine AInB.r ?_
      refine AThen.r ?_
      refine AThen.r ?_
      refine AInB.r ?_
      exact ⟨.inr rfl, (fun h => by cases h)⟩
    ·
      refine RT.not .none rfl (tl rfl) false rfl ?_
      refine RT.done ?_
      refine AThen.n ?_
      refine ok_condF rfl ?_
      refine ok_skip ?_
      refine AInB.n ?_
      refine AThen.n ?_
      refine ok_region ?_
      refine RT.add .none (((i : Nat) : Int) + 1) rfl rfl (tl rfl) (nw_i64 (by omega)) ?_
      refine RT.mv .none rfl (tl rfl) ?_
      refine RT.done ?_
      refine AThen.n ?_
      refine ⟨⟨i + 1, by omega⟩, (by dsimp only; omega), ?_⟩
      try dsimp only
      exact weakL id rfl rfl rfl rfl rfl ⟨.sv (by first | exact SV.imp_refl _ | exact SV.imp_int (by omega) | exact SV.imp_int (by push_cast; omega) | exact SV.imp_int (by dsimp only; omega) | exact SV.imp_eq (by simp)), .sv (by first | exact SV.imp_refl _ | exact SV.imp_int (by omega) | exact SV.imp_int (by push_cast; omega) | exact SV.imp_int (by dsimp only; omega) | exact SV.imp_eq (by simp)), .sv (by first | exact SV.imp_refl _ | exact SV.imp_int (by omega) | exact SV.imp_int (by push_cast; omega) | exact SV.imp_int (by dsimp only; omega) | exact SV.imp_eq (by simp)), .sv (by first | exact SV.imp_refl _ | exact SV.imp_int (by omega) | exact SV.imp_int (by push_cast; omega) | exact SV.imp_int (by dsimp only; omega) | exact SV.imp_eq (by simp)), .sv (by first | exact SV.imp_refl _ | exact SV.imp_int (by omega) | exact SV.imp_int (by push_cast; omega) | exact SV.imp_int (by dsimp only; omega) | exact SV.imp_eq (by simp)), trivial⟩ trivial trivial (fun _ _ => rfl)
  ·
    refine ok_seq ?_
    refine ok_region ?_
    refine RT.lss .none (true) rfl rfl (tl rfl) (by simp; omega) ?_
    refine RT.done ?_
    refine AThen.n ?_
    refine ok_seq ?_
    refine ok_condT rfl ?_
    refine ok_skip ?_
    refine AThen.n ?_
    refine ok_seq ?_
    refine ok_block ?_
    refine ok_seq ?_
    refine ok_region ?_
    refine RT.mv .none rfl (tl rfl) ?_
    refine RT.asg .none rfl (tl rfl) ?_
    refine RT.done ?_
    refine AThen.n ?_
    refine ok_seq ?_
    refine ok_region ?_
    refine RT.asg .none rfl (tl rfl) ?_
    refine RT.asg .none rfl (tl rfl) ?_
    refine RT.done ?_
    refine AThen.n ?_
    refine ok_seq ?_
    refine ok_seq ?_
    refine ok_region ?_
    refine RT.mv .none rfl (tl rfl) ?_
    refine RT.loadRV .none rfl rfl (tl rfl) ?_
    refine RT.len .none rfl (tl rfl) ?_
    refine RT.lss .none (true) rfl rfl (tl rfl) (by simp only [List.length_map]; simp; omega) ?_
    refine RT.done ?_
    refine AThen.n ?_
    refine ok_condT rfl ?_
    refine ok_region ?_
    refine RT.loadRV .none rfl rfl (tl rfl) ?_
    refine RT.mv .none rfl (tl rfl) ?_
    refine RT.ixA .none [.v (.int .u32 ((a.getD i 0 : Nat) : Int))] (Int.natCast_nonneg i) (by rw [Int.toNat_natCast, List.getElem?_map, get_getD hb1]; rfl) rfl rfl (tl rfl) ?_
    refine RT.loadRV .none rfl rfl (tl rfl) ?_
    refine RT.conv .none (((a.getD i 0 % 18446744073709551616 : Nat) : Int)) rfl (tl rfl) cu64 ?_
    refine RT.asg .none rfl (tl rfl) ?_
    refine RT.done ?_
    refine AThen.n ?_
    refine ok_seq ?_
    refine ok_seq ?_
    refine ok_region ?_
    refine RT.mv .none rfl (tl rfl) ?_
    refine RT.loadRV .none rfl rfl (tl rfl) ?_
    refine RT.len .none rfl (tl rfl) ?_
    refine RT.lss .none (false) rfl rfl (tl rfl) (by simp only [List.length_map]; simp; omega) ?_
    refine RT.done ?_
    refine AThen.n ?_
    refine ok_condF rfl ?_
    refine ok_skip ?_
    refine AThen.n ?_
    refine ok_seq ?_
    refine ok_region ?_
    refine RT.mv .none rfl (tl rfl) ?_
    refine RT.mv .none rfl (tl rfl) ?_
    refine RT.mv .none rfl (tl rfl) ?_
    refine RT.yield .none hr rfl (fun _ h => h) rfl (i) rfl rfl hi (by exact ⟨rfl, (by show AV.sv _ = AV.sv _; rw [getD_of_le hb2]; rfl), trivial⟩) (tl rfl) (fun yb => ?_)
    cases yb
    ·
      refine RT.not .none rfl (tl rfl) true rfl ?_
      refine RT.done ?_
      refine AThen.n ?_
      refine ok_condT rfl ?_
      refine ok_ret ?_
      refine AInB.r ?_
      refine AThen.r ?_
      refine AThen.r ?_
      refine AInB.r ?_
      exact ⟨.inr rfl, (fun h => by cases h)⟩
    ·
      refine RT.not .none rfl (tl rfl) false rfl ?_
      refine RT.done ?_
      refine AThen.n ?_
      refine ok_condF rfl ?_
      refine ok_skip ?_
      refine AInB.n ?_
      refine AThen.n ?_
      refine ok_region ?_
      refine RT.add .none (((i : Nat) : Int) + 1) rfl rfl (tl rfl) (nw_i64 (by omega)) ?_
      refine RT.mv .none rfl (tl rfl) ?_
      refine RT.done ?_
      refine AThen.n ?_
      refine ⟨⟨i + 1, by omega⟩, (by dsimp only; omega), ?_⟩
      try dsimp only
      exact weakL id rfl rfl rfl rfl rfl ⟨.sv (by first | exact SV.imp_refl _ | exact SV.imp_int (by omega) | exact SV.imp_int (by push_cast; omega) | exact SV.imp_int (by dsimp only; omega) | exact SV.imp_eq (by simp)), .sv (by first | exact SV.imp_refl _ | exact SV.imp_int (by omega) | exact SV.imp_int (by push_cast; omega) | exact SV.imp_int (by dsimp only; omega) | exact SV.imp_eq (by simp)), .sv (by first | exact SV.imp_refl _ | exact SV.imp_int (by omega) | exact SV.imp_int (by push_cast; omega) | exact SV.imp_int (by dsimp only; omega) | exact SV.imp_eq (by simp)), .sv (by first | exact SV.imp_refl _ | exact SV.imp_int (by omega) | exact SV.imp_int (by push_cast; omega) | exact SV.imp_int (by dsimp only; omega) | exact SV.imp_eq (by simp)), .sv (by first | exact SV.imp_refl _ | exact SV.imp_int (by omega) | exact SV.imp_int (by push_cast; omega) | exact SV.imp_int (by dsimp only; omega) | exact SV.imp_eq (by simp)), trivial⟩ trivial trivial (fun _ _ => rfl)
  ·
    refine ok_seq ?_
    refine ok_region ?_
    refine RT.lss .none (true) rfl rfl (tl rfl) (by simp; omega) ?_
    refine RT.done ?_
    refine AThen.n ?_
    refine ok_seq ?_
    refine ok_condT rfl ?_
    refine ok_skip ?_
    refine AThen.n ?_
    refine ok_seq ?_
    refine ok_block ?_
    refine ok_seq ?_
    refine ok_region ?_
    refine RT.mv .none rfl (tl rfl) ?_
    refine RT.asg .none rfl (tl rfl) ?_
    refine RT.done ?_
    refine AThen.n ?_
    refine ok_seq ?_
    refine ok_region ?_
    refine RT.asg .none rfl (tl rfl) ?_
    refine RT.asg .none rfl (tl rfl) ?_
    refine RT.done ?_
    refine AThen.n ?_
    refine ok_seq ?_
    refine ok_seq ?_
    refine ok_region ?_
    refine RT.mv .none rfl (tl rfl) ?_
    refine RT.loadRV .none rfl rfl (tl rfl) ?_
    refine RT.len .none rfl (tl rfl) ?_
    refine RT.lss .none (false) rfl rfl (tl rfl) (by simp only [List.length_map]; simp; omega) ?_
    refine RT.done ?_
    refine AThen.n ?_
    refine ok_condF rfl ?_
    refine ok_skip ?_
    refine AThen.n ?_
    refine ok_seq ?_
    refine ok_seq ?_
    refine ok_region ?_
    refine RT.mv .none rfl (tl rfl) ?_
    refine RT.loadRV .none rfl rfl (tl rfl) ?_
    refine RT.len .none rfl (tl rfl) ?_
    refine RT.lss .none (true) rfl rfl (tl rfl) (by simp only [List.length_map]; simp; omega) ?_
    refine RT.done ?_
    refine AThen.n ?_
    refine ok_condT rfl ?_
    refine ok_region ?_
    refine RT.loadRV .none rfl rfl (tl rfl) ?_
    refine RT.mv .none rfl (tl rfl) ?_
    refine RT.ixA .none [.v (.int .u32 ((b.getD i 0 : Nat) : Int))] (Int.natCast_nonneg i) (by rw [Int.toNat_natCast, List.getElem?_map, get_getD hb2]; rfl) rfl rfl (tl rfl) ?_
    refine RT.loadRV .none rfl rfl (tl rfl) ?_
    refine RT.conv .none (((b.getD i 0 % 18446744073709551616 : Nat) : Int)) rfl (tl rfl) cu64 ?_
    refine RT.asg .none rfl (tl rfl) ?_
    refine RT.done ?_
    refine AThen.n ?_
    refine ok_seq ?_
    refine ok_region ?_
    refine RT.mv .none rfl (tl rfl) ?_
    refine RT.mv .none rfl (tl rfl) ?_
    refine RT.mv .none rfl (tl rfl) ?_
    refine RT.yield .none hr rfl (fun _ h => h) rfl (i) rfl rfl hi (by exact ⟨(by show AV.sv _ = AV.sv _; rw [getD_of_le hb1]; rfl), rfl, trivial⟩) (tl rfl) (fun yb => ?_)
    cases yb
    ·
      refine RT.not .none rfl (tl rfl) true rfl ?_
      refine RT.done ?_
      refine AThen.n ?_
      refine ok_condT rfl ?_
      refine ok_ret ?_
      refine AInB.r ?_
      refine AThen.r ?_
      refine AThen.r ?_
      refine AInB.r ?_
      exact ⟨.inr rfl, (fun h => by cases h)⟩
    ·
      refine RT.not .none rfl (tl rfl) false rfl ?_
      refine RT.done ?_
      refine AThen.n ?_
      refine ok_condF rfl ?_
      refine ok_skip ?_
      refine AInB.n ?_
      refine AThen.n ?_
      refine ok_region ?_
      refine RT.add .none (((i : Nat) : Int) + 1) rfl rfl (tl rfl) (nw_i64 (by omega)) ?_
      refine RT.mv .none rfl (tl rfl) ?_
      refine RT.done ?_
      refine AThen.n ?_
      refine ⟨⟨i + 1, by omega⟩, (by dsimp only; omega), ?_⟩
      try dsimp only
      exact weakL id rfl rfl rfl rfl rfl ⟨.sv (by first | exact SV.imp_refl _ | exact SV.imp_int (by omega) | exact SV.imp_int (by push_cast; omega) | exact SV.imp_int (by dsimp only; omega) | exact SV.imp_eq (by simp)), .sv (by first | exact SV.imp_refl _ | exact SV.imp_int (by omega) | exact SV.imp_int (by push_cast; omega) | exact SV.imp_int (by dsimp only; omega) | exact SV.imp_eq (by simp)), .sv (by first | exact SV.imp_refl _ | exact SV.imp_int (by omega) | exact SV.imp_int (by push_cast; omega) | exact SV.imp_int (by dsimp only; omega) | exact SV.imp_eq (by simp)), .sv (by first | exact SV.imp_refl _ | exact SV.imp_int (by omega) | exact SV.imp_int (by push_cast; omega) | exact SV.imp_int (by dsimp only; omega) | exact SV.imp_eq (by simp)), .sv (by first | exact SV.imp_refl _ | exact SV.imp_int (by omega) | exact SV.imp_int (by push_cast; omega) | exact SV.imp_int (by dsimp only; omega) | exact SV.imp_eq (by simp)), trivial⟩ trivial trivial (fun _ _ => rfl)
  ·
    subst hi
    refine ok_seq ?_
    refine ok_region ?_
    refine RT.lss .none (false) rfl rfl (tl rfl) (by simp) ?_
    refine RT.done ?_
    refine AThen.n ?_
    refine ok_seq ?_
    refine ok_condF rfl ?_
    refine ok_exit ?_
    refine AThen.x ?_
    refine AThen.x ?_
    refine AInB.x ?_
    exact ⟨.inl rfl, (fun _ => rfl)⟩
theorem slices_Clone_ok {x0 r : List Nat} (h : slices_Clone_m x0 = some r) : Pure Try.prog 54 [slc 1 (List.map eU32 x0)] (slc 1 (List.map eU32 r)) := by
  refine pure_of_ok Try.func54 rfl (Nat.le_of_ble_eq_true rfl) (fun wld M vs hvs => ?_)
  unfold slices_Clone_m at h
  refine ok_seq ?_
  refine ok_region ?_
  refine RT.asgI .none rfl (imp_nil (n := 1) (e := eU32)) (tl rfl) ?_
  refine RT.done ?_
  refine AThen.n ?_
  refine ok_seq ?_
  refine ok_seq ?_
  refine ok_region ?_
  refine RT.mv .none rfl (tl rfl) ?_
  refine RT.nilSl .none rfl (tl rfl) (fun nb hnb => ?_)
  cases nb
  · refine RT.done ?_
    refine AThen.n ?_
    refine ok_condF rfl ?_
    refine ok_skip ?_
    refine AThen.n ?_
    refine ok_seq ?_
    refine ok_region ?_
    refine RT.buildRw (l := ([] : List Nat)) (e := eU32) .none .nil (tl rfl) rfl (tl rfl) rfl rfl rfl rfl rfl rfl ?_
    refine RT.mv .none rfl (tl rfl) ?_
    refine RT.apIR (k := x0) (e := eU32) .none rfl rfl rfl (tl rfl) rfl (tl rfl) h ?_
    refine RT.asg .none rfl (tl rfl) ?_
    refine RT.done ?_
    refine AThen.n ?_
    refine ok_ret ?_
    exact ⟨.inr rfl, res_imp (.tmp rfl .nil) (SV.imp_refl _)⟩
  · have hx : x0 = [] := by simpa using hnb rfl
    subst hx
    obtain ⟨_, _, rfl⟩ := apM_some h
    refine RT.done ?_
    refine AThen.n ?_
    refine ok_condT rfl ?_
    refine ok_seq ?_
    refine ok_region ?_
    refine RT.asgI .none rfl (imp_nil (n := 1) (e := eU32)) (tl rfl) ?_
    refine RT.done ?_
    refine AThen.n ?_
    refine ok_ret ?_
    refine AThen.r ?_
    exact ⟨.inr rfl, res_imp (.tmp rfl .nil) (SV.imp_refl _)⟩
theorem slices_CloneN_ok {x0 r : List Nat} (h : slices_Clone_m x0 = some r) : NewC Try.prog 54 [slc 1 (List.map eU32 x0)] (TR 51 1 eU32 r) := by
  refine newC_of_ok Try.func54 rfl (Nat.le_of_ble_eq_true rfl) (fun wld M vs hvs => ?_)
  unfold slices_Clone_m at h
  refine ok_seq ?_
  refine ok_region ?_
  refine RT.asg .none rfl (tl rfl) ?_
  refine RT.done ?_
  refine AThen.n ?_
  refine ok_seq ?_
  refine ok_seq ?_
  refine ok_region ?_
  refine RT.mv .none rfl (tl rfl) ?_
  refine RT.nilSl .none rfl (tl rfl) (fun nb hnb => ?_)
  cases nb
  · refine RT.done ?_
    refine AThen.n ?_
    refine ok_condF rfl ?_
    refine ok_skip ?_
    refine AThen.n ?_
    refine ok_seq ?_
    refine ok_region ?_
    refine RT.buildRw (l := ([] : List Nat)) (e := eU32) .none .nil (tl rfl) rfl (tl rfl) rfl rfl rfl rfl rfl rfl ?_
    refine RT.mv .none rfl (tl rfl) ?_
    refine RT.apR (k := x0) (e := eU32) .none rfl rfl rfl (tl rfl) rfl (tl rfl) h ?_
    refine RT.assign .none (s := .row _) rfl (tl rfl) ?_
    refine RT.done ?_
    refine AThen.n ?_
    refine ok_ret ?_
    exact ⟨.inr rfl, _, .tmp rfl, rfl⟩
  · have hx : x0 = [] := by simpa using hnb rfl
    subst hx
    obtain ⟨_, _, rfl⟩ := apM_some h
    refine RT.done ?_
    refine AThen.n ?_
    refine ok_condT rfl ?_
    refine ok_seq ?_
    refine ok_region ?_
    refine RT.asg .none rfl (tl rfl) ?_
    refine RT.done ?_
    refine AThen.n ?_
    refine ok_weak (weak_nil 2 300 51 1 rfl rfl (tl rfl)) ?_
    refine ok_ret ?_
    refine AThen.r ?_
    exact ⟨.inr rfl, _, .tmp rfl, rfl⟩
theorem whole_carrier_1_ok {x0 : Nat} {c0 : Nat} {r : Nat × Nat} (h : whole_carrier_1_m x0 c0 = some r) : BoxC Try.prog 80 [.v (.int .u64 ((x0 : Nat) : Int))] 59 [.v (.int .u64 ((c0 : Nat) : Int))] (.v (.int .u32 ((r.1 : Nat) : Int))) [.v (.int .u64 ((r.2 : Nat) : Int))] := by
  refine boxC_of_ok Try.func80 rfl (Nat.le_of_ble_eq_true rfl) (fun wld M β => ?_)
  unfold whole_carrier_1_m at h
  refine ok_seq ?_
  refine ok_region ?_
  refine RT.asg .none rfl (tl rfl) ?_
  refine RT.done ?_
  refine AThen.n ?_
  refine ok_seq ?_
  refine ok_region ?_
  refine RT.mv .none rfl (tl rfl) ?_
  refine RT.ldV .none rfl rfl rfl (tl rfl) ?_
  replace h := let_some h
  obtain ⟨x6, h6, h⟩ := h
  refine RT.add .none _ rfl rfl (tl rfl) (UK.add (a := x0) (b := c0) h6) ?_
  refine RT.asg .none rfl (tl rfl) ?_
  refine RT.done ?_
  refine AThen.n ?_
  refine ok_seq ?_
  refine ok_region ?_
  refine RT.mv .none rfl (tl rfl) ?_
  replace h := let_some h
  obtain ⟨x8, h8, h⟩ := h
  refine RT.shr .none _ rfl rfl (tl rfl) (by decide) (shrU (k := .u64) (a := x6) (q := 32) (s := 32) rfl h8) ?_
  refine RT.storeV (cells := [_]) .none (s := .sv _) rfl rfl rfl (tl rfl) rfl ?_
  refine RT.done ?_
  refine AThen.n ?_
  refine ok_seq ?_
  refine ok_region ?_
  refine RT.mv .none rfl (tl rfl) ?_
  replace h := let_some h
  obtain ⟨x10, h10, h⟩ := h
  refine RT.conv .none _ rfl (tl rfl) (UK.nat h10) ?_
  refine RT.asg .none rfl (tl rfl) ?_
  refine RT.done ?_
  refine AThen.n ?_
  refine ok_ret ?_
  obtain rfl := Option.some.inj h
  exact ⟨.inr rfl, res_imp (.tmp rfl (.nil)) (SV.imp_refl _), rfl⟩
theorem whole_trim_ok {x0 : List Nat} {r : List Nat} (h : whole_trim_m x0 = some r) : Pure Try.prog 44 [slc 1 (List.map eU32 x0)] (slc 1 (List.map eU32 r)) := by
  refine pure_of_ok Try.func44 rfl (Nat.le_of_ble_eq_true rfl) (fun wld M vs hvs => ?_)
  unfold whole_trim_m at h
  refine ok_seq ?_
  refine ok_region ?_
  refine RT.asgI .none rfl (imp_nil (n := 1) (e := eU32)) (tl rfl) ?_
  refine RT.done ?_
  refine AThen.n ?_
  refine ok_seq ?_
  replace h := bind_some h
  obtain ⟨e10, hl10, ho10⟩ := h
  refine ok_tailP (fun (y0e9 : (List Nat)) => AS.mkL 21 [(0, .sv (slc 1 (List.map eU32 y0e9)))] [] []) (fun y0e9 => y0e9 = e10) ?_ (fun y0e9 hx10 => ?_)
  · refine ok_block ?_
    refine ok_loopM hl10 (fun s10 => AS.mkL 21 [(0, .sv (slc 1 (List.map eU32 s10)))] [] []) (by (try dsimp only); exact weakL id rfl rfl rfl rfl rfl ⟨.sv (SV.imp_refl _), trivial⟩ trivial trivial (fun _ _ => rfl)) (fun y0l5 y10 G10 h hG10 hE10 => ?_)
    try dsimp only
    refine ok_seq ?_
    refine ok_seq ?_
    refine ok_tailJ h (fun j13 => AS.mkL 21 [(0, .sv (slc 1 (List.map eU32 y0l5))), (14, .sv (.v (.bool j13)))] [] []) (fun h => ?_) (fun y14j12 h => ?_)
    · refine ok_region ?_
      refine RT.mv .none rfl (tl rfl) ?_
      replace h := let_some h
      obtain ⟨x4, h4, h⟩ := h
      refine RT.lenM .none rfl (tl rfl) h4 ?_
      replace h := let_some h
      obtain ⟨x5, h5, h⟩ := h
      refine RT.gtr .none _ rfl rfl (tl rfl) h5 ?_
      refine RT.mv .none rfl (tl rfl) ?_
      replace h := bind_some h
      obtain ⟨c14_14, hg14, h⟩ := h
      cases x5
      · replace hg14 := br_f hg14
        obtain rfl := Option.some.inj hg14
        refine RT.skV rfl rfl (sk rfl) (tl rfl) ?_
        refine RT.skV rfl rfl (sk rfl) (tl rfl) ?_
        refine RT.skV rfl rfl (sk rfl) (tl rfl) ?_
        refine RT.skV rfl rfl (sk rfl) (tl rfl) ?_
        refine RT.skV rfl rfl (sk rfl) (tl rfl) ?_
        refine RT.skV rfl rfl (sk rfl) (tl rfl) ?_
        refine RT.skV rfl rfl (sk rfl) (tl rfl) ?_
        refine RT.pickF .none rfl rfl (tl rfl) ?_
        refine RT.done ?_
        refine AThen.n ?_
        refine ⟨false, h, ?_⟩
        try dsimp only
        exact weakL id rfl rfl rfl rfl rfl ⟨.sv (SV.imp_refl _), .sv (SV.imp_refl _), trivial⟩ trivial trivial (fun _ _ => rfl)
      · replace hg14 := br_t hg14
        refine RT.mv (.some rfl rfl) rfl (tl rfl) ?_
        refine RT.mv (.some rfl rfl) rfl (tl rfl) ?_
        replace hg14 := let_some hg14
        obtain ⟨x9, h9, hg14⟩ := hg14
        refine RT.lenM (.some rfl rfl) rfl (tl rfl) h9 ?_
        replace hg14 := let_some hg14
        obtain ⟨x10, h10, hg14⟩ := hg14
        refine RT.sub (.some rfl rfl) _ rfl rfl (tl rfl) h10 ?_
        replace hg14 := bind_some hg14
        obtain ⟨x11, h11, hg14⟩ := hg14
        refine RT.ixM (.some rfl rfl) rfl rfl (tl rfl) h11 ?_
        refine RT.loadRV (.some rfl rfl) rfl rfl (tl rfl) ?_
        replace hg14 := let_some hg14
        obtain ⟨x13, h13, hg14⟩ := hg14
        refine RT.eql (.some rfl rfl) _ rfl rfl (tl rfl) (eqN (p := x11) (q := 0) h13) ?_
        obtain rfl := Option.some.inj hg14
        refine RT.pickT .none rfl rfl (tl rfl) ?_
        refine RT.done ?_
        refine AThen.n ?_
        refine ⟨x13, h, ?_⟩
        try dsimp only
        exact weakL id rfl rfl rfl rfl rfl ⟨.sv (SV.imp_refl _), .sv (SV.imp_refl _), trivial⟩ trivial trivial (fun _ _ => rfl)
    · try dsimp only
      refine AThen.n ?_
      cases y14j12
      · replace h := br_f h
        refine ok_condF rfl ?_
        refine ok_exit ?_
        refine AThen.x ?_
        refine AThen.x ?_
        refine AInB.x ?_
        refine AThen.n ?_
        obtain rfl := Option.some.inj h
        refine ⟨y0l5, hE10 _ rfl, ?_⟩
        try dsimp only
        exact weakL id rfl rfl rfl rfl rfl ⟨.sv (SV.imp_refl _), trivial⟩ trivial trivial (fun _ _ => rfl)
      · replace h := br_t h
        refine ok_condT rfl ?_
        refine ok_skip ?_
        refine AThen.n ?_
        refine ok_block ?_
        refine ok_region ?_
        refine RT.mv .none rfl (tl rfl) ?_
        refine RT.mv .none rfl (tl rfl) ?_
        replace h := let_some h
        obtain ⟨x17, h17, h⟩ := h
        refine RT.lenM .none rfl (tl rfl) h17 ?_
        replace h := let_some h
        obtain ⟨x18, h18, h⟩ := h
        refine RT.sub .none _ rfl rfl (tl rfl) h18 ?_
        replace h := bind_some h
        obtain ⟨x19, h19, h⟩ := h
        refine RT.sliceM .none 0 x18 rfl rfl ⟨_, rfl⟩ (tl rfl) h19 ?_
        refine RT.asg .none rfl (tl rfl) ?_
        refine RT.done ?_
        refine AInB.n ?_
        obtain rfl := Option.some.inj h
        refine AThen.n ⟨x19, hG10 _ rfl, ?_⟩
        try dsimp only
        exact weakL id rfl rfl rfl rfl rfl ⟨.sv (SV.imp_refl _), trivial⟩ trivial trivial (fun _ _ => rfl)
  · subst hx10
    try dsimp only
    refine AThen.n ?_
    refine ok_seq ?_
    refine ok_region ?_
    refine RT.mv .none rfl (tl rfl) ?_
    refine RT.asg .none rfl (tl rfl) ?_
    refine RT.done ?_
    refine AThen.n ?_
    refine ok_ret ?_
    obtain rfl := Option.some.inj ho10
    exact ⟨.inr rfl, res_imp (.tmp rfl (.nil)) (SV.imp_refl _)⟩
theorem whole_trimT_ok {x0 : List Nat} {r : List Nat} (h : whole_trimT_m x0 = some r) : TakeC Try.prog 44 [.row 1000] (TR 51 1 eU32 x0) 51 1 r.length (List.flatMap eU32 r) := by
  refine takeC_of_ok Try.func44 rfl (Nat.le_of_ble_eq_true rfl) rfl (fun wld M v0 => ?_)
  unfold whole_trimT_m at h
  refine ok_seq ?_
  refine ok_region ?_
  refine RT.asg .none rfl (tl rfl) ?_
  refine RT.done ?_
  refine AThen.n ?_
  refine ok_weak (weak_nil 2 304 51 1 rfl rfl (tl rfl)) ?_
  refine ok_seq ?_
  replace h := bind_some h
  obtain ⟨e10, hl10, ho10⟩ := h
  refine ok_tailP (fun (r306e9 : (List Nat)) => AS.mkL 21 [(0, .row 306)] [] [(306, TR 51 1 eU32 r306e9)]) (fun r306e9 => r306e9 = e10) ?_ (fun r306e9 hx10 => ?_)
  · refine ok_block ?_
    refine ok_loopM hl10 (fun s10 => AS.mkL 21 [(0, .row 306)] [] [(306, TR 51 1 eU32 s10)]) (by (try dsimp only); exact weakL (fun i => bif Nat.beq i 306 then 1000 else i) rfl rfl rfl rfl rfl ⟨.row rfl, trivial⟩ trivial ⟨⟨_, rfl, SVIs.refl _⟩, trivial⟩ (fun i hi => by rw [beq_ne (show i ≠ 306 by omega)]; rfl)) (fun r306l5 y10 G10 h hG10 hE10 => ?_)
    try dsimp only
    refine ok_seq ?_
    refine ok_seq ?_
    refine ok_tailJ h (fun j13 => AS.mkL 21 [(0, .row 306), (14, .sv (.v (.bool j13)))] [] [(306, TR 51 1 eU32 r306l5)]) (fun h => ?_) (fun y14j12 h => ?_)
    · refine ok_region ?_
      refine RT.move .none (s := .row _) rfl (tl rfl) ?_
      replace h := let_some h
      obtain ⟨x4, h4, h⟩ := h
      refine RT.lenRM .none rfl rfl (tl rfl) h4 ?_
      replace h := let_some h
      obtain ⟨x5, h5, h⟩ := h
      refine RT.gtr .none _ rfl rfl (tl rfl) h5 ?_
      refine RT.mv .none rfl (tl rfl) ?_
      replace h := bind_some h
      obtain ⟨c14_14, hg14, h⟩ := h
      cases x5
      · replace hg14 := br_f hg14
        obtain rfl := Option.some.inj hg14
        refine RT.skV rfl rfl (sk rfl) (tl rfl) ?_
        refine RT.skV rfl rfl (sk rfl) (tl rfl) ?_
        refine RT.skV rfl rfl (sk rfl) (tl rfl) ?_
        refine RT.skV rfl rfl (sk rfl) (tl rfl) ?_
        refine RT.skV rfl rfl (sk rfl) (tl rfl) ?_
        refine RT.skV rfl rfl (sk rfl) (tl rfl) ?_
        refine RT.skV rfl rfl (sk rfl) (tl rfl) ?_
        refine RT.pickF .none rfl rfl (tl rfl) ?_
        refine RT.done ?_
        refine AThen.n ?_
        refine ⟨false, h, ?_⟩
        try dsimp only
        exact weakL id rfl rfl rfl rfl rfl ⟨.row rfl, .sv (SV.imp_refl _), trivial⟩ trivial ⟨⟨_, rfl, SVIs.refl _⟩, trivial⟩ (fun _ _ => rfl)
      · replace hg14 := br_t hg14
        refine RT.move (.some rfl rfl) (s := .row _) rfl (tl rfl) ?_
        refine RT.move (.some rfl rfl) (s := .row _) rfl (tl rfl) ?_
        replace hg14 := let_some hg14
        obtain ⟨x9, h9, hg14⟩ := hg14
        refine RT.lenRM (.some rfl rfl) rfl rfl (tl rfl) h9 ?_
        replace hg14 := let_some hg14
        obtain ⟨x10, h10, hg14⟩ := hg14
        refine RT.sub (.some rfl rfl) _ rfl rfl (tl rfl) h10 ?_
        replace hg14 := bind_some hg14
        obtain ⟨x11, h11, hg14⟩ := hg14
        refine RT.ixRM (.some rfl rfl) rfl rfl rfl (tl rfl) h11 ?_
        replace hg14 := bind_some hg14
        obtain ⟨x12, h12, hg14⟩ := hg14
        refine RT.ldRM (.some rfl rfl) rfl rfl h12 rfl (tl rfl) ?_
        replace hg14 := let_some hg14
        obtain ⟨x13, h13, hg14⟩ := hg14
        refine RT.eql (.some rfl rfl) _ rfl rfl (tl rfl) (eqN (p := x12) (q := 0) h13) ?_
        obtain rfl := Option.some.inj hg14
        refine RT.pickT .none rfl rfl (tl rfl) ?_
        refine RT.done ?_
        refine AThen.n ?_
        refine ⟨x13, h, ?_⟩
        try dsimp only
        exact weakL id rfl rfl rfl rfl rfl ⟨.row rfl, .sv (SV.imp_refl _), trivial⟩ trivial ⟨⟨_, rfl, SVIs.refl _⟩, trivial⟩ (fun _ _ => rfl)
    · try dsimp only
      refine AThen.n ?_
      cases y14j12
      · replace h := br_f h
        refine ok_condF rfl ?_
        refine ok_exit ?_
        refine AThen.x ?_
        refine AThen.x ?_
        refine AInB.x ?_
        refine AThen.n ?_
        obtain rfl := Option.some.inj h
        refine ⟨r306l5, hE10 _ rfl, ?_⟩
        try dsimp only
        exact weakL id rfl rfl rfl rfl rfl ⟨.row rfl, trivial⟩ trivial ⟨⟨_, rfl, SVIs.refl _⟩, trivial⟩ (fun _ _ => rfl)
      · replace h := br_t h
        refine ok_condT rfl ?_
        refine ok_skip ?_
        refine AThen.n ?_
        refine ok_block ?_
        refine ok_region ?_
        refine RT.move .none (s := .row _) rfl (tl rfl) ?_
        refine RT.move .none (s := .row _) rfl (tl rfl) ?_
        replace h := let_some h
        obtain ⟨x17, h17, h⟩ := h
        refine RT.lenRM .none rfl rfl (tl rfl) h17 ?_
        replace h := let_some h
        obtain ⟨x18, h18, h⟩ := h
        refine RT.sub .none _ rfl rfl (tl rfl) h18 ?_
        replace h := bind_some h
        obtain ⟨x19, h19, h⟩ := h
        refine RT.truncM .none rfl rfl rfl (tl rfl) rfl (tl rfl) h19 ?_
        refine RT.assign .none (s := .row _) rfl (tl rfl) ?_
        refine RT.done ?_
        refine AInB.n ?_
        obtain rfl := Option.some.inj h
        refine AThen.n ⟨x19, hG10 _ rfl, ?_⟩
        try dsimp only
        exact weakL (fun i => bif Nat.beq i 306 then 19 else i) rfl rfl rfl rfl rfl ⟨.row rfl, trivial⟩ trivial ⟨⟨_, rfl, SVIs.refl _⟩, trivial⟩ (fun i hi => by rw [beq_ne (show i ≠ 306 by omega)]; rfl)
  · subst hx10
    try dsimp only
    refine AThen.n ?_
    refine ok_seq ?_
    refine ok_region ?_
    refine RT.move .none (s := .row _) rfl (tl rfl) ?_
    refine RT.assign .none (s := .row _) rfl (tl rfl) ?_
    refine RT.done ?_
    refine AThen.n ?_
    refine ok_ret ?_
    obtain rfl := Option.some.inj ho10
    exact ⟨.inr rfl, _, .tmp rfl, rfl⟩
theorem whole_build_ok {x0 : Bool} {x1 : List Nat} {r : Zr} (h : whole_build_m x0 x1 = some r) : Pure Try.prog 48 [.v (.bool x0), slc 1 (List.map eU32 x1)] (.agg (eZ r)) := by
  refine pure_of_ok Try.func48 rfl (Nat.le_of_ble_eq_true rfl) (fun wld M vs hvs => ?_)
  unfold whole_build_m at h
  refine ok_seq ?_
  refine ok_region ?_
  refine RT.allocI .none (cs := [.v (.bool false), slc 1 (List.map eU32 [])]) (by exact ⟨SV.imp_refl _, imp_nil, trivial⟩) rfl (tl rfl) rfl rfl ?_
  refine RT.done ?_
  refine AThen.n ?_
  refine ok_seq ?_
  refine ok_region ?_
  refine RT.mv .none rfl (tl rfl) ?_
  replace h := bind_some h
  obtain ⟨x6, h6, h⟩ := h
  refine RT.call .none (whole_trim_ok h6) rfl ⟨rfl, trivial⟩ (tl rfl) ?_
  refine RT.asg .none rfl (tl rfl) ?_
  refine RT.done ?_
  refine AThen.n ?_
  refine ok_seq ?_
  refine ok_seq ?_
  refine ok_region ?_
  refine RT.mv .none rfl (tl rfl) ?_
  replace h := let_some h
  obtain ⟨x8, h8, h⟩ := h
  refine RT.lenM .none rfl (tl rfl) h8 ?_
  replace h := let_some h
  obtain ⟨x9, h9, h⟩ := h
  refine RT.eql .none _ rfl rfl (tl rfl) (eqI (p := x8) (q := 0) h9) ?_
  refine RT.done ?_
  refine AThen.n ?_
  cases x9
  · replace h := br_f h
    refine ok_condF rfl ?_
    refine ok_skip ?_
    refine AThen.n ?_
    refine ok_seq ?_
    refine ok_region ?_
    refine RT.mv .none rfl (tl rfl) ?_
    refine RT.mv .none rfl (tl rfl) ?_
    refine RT.buildI (cs := [_, _]) (cs' := [.v (.bool x0), slc 1 (List.map eU32 x6)]) .none (.one rfl (.one rfl (.nil))) rfl ⟨SV.imp_refl _, SV.imp_refl _, trivial⟩ (tl rfl) ?_
    refine RT.store .none rfl rfl rfl rfl rfl ?_
    refine RT.done ?_
    refine AThen.n ?_
    refine ok_ret ?_
    obtain rfl := Option.some.inj h
    exact ⟨.inr rfl, res_imp (.agg rfl rfl (.cons rfl (.cons rfl (.nil))) rfl (.nil)) (SV.imp_refl _)⟩
  · replace h := br_t h
    refine ok_condT rfl ?_
    refine ok_seq ?_
    refine ok_region ?_
    refine RT.buildI (cs := [_, _]) (cs' := [.v (.bool false), slc 1 (List.map eU32 [])]) .none (.nil) rfl ⟨SV.imp_refl _, imp_nil, trivial⟩ (tl rfl) ?_
    refine RT.store .none rfl rfl rfl rfl rfl ?_
    refine RT.done ?_
    refine AThen.n ?_
    refine ok_ret ?_
    refine AThen.r ?_
    obtain rfl := Option.some.inj h
    exact ⟨.inr rfl, res_imp (.agg rfl rfl (.cons rfl (.cons rfl (.nil))) rfl (.nil)) (SV.imp_refl _)⟩
theorem whole_small_ok {x0 : Bool} {x1 : Nat} {r : Zr} (h : whole_small_m x0 x1 = some r) : Pure Try.prog 56 [.v (.bool x0), .v (.int .u64 ((x1 : Nat) : Int))] (.agg (eZ r)) := by
  refine pure_of_ok Try.func56 rfl (Nat.le_of_ble_eq_true rfl) (fun wld M vs hvs => ?_)
  unfold whole_small_m at h
  refine ok_seq ?_
  refine ok_region ?_
  refine RT.allocI .none (cs := [.v (.bool false), slc 1 (List.map eU32 [])]) (by exact ⟨SV.imp_refl _, imp_nil, trivial⟩) rfl (tl rfl) rfl rfl ?_
  refine RT.done ?_
  refine AThen.n ?_
  refine ok_seq ?_
  refine ok_block ?_
  refine ok_seq ?_
  refine ok_region ?_
  refine RT.mv .none rfl (tl rfl) ?_
  replace h := let_some h
  obtain ⟨x7, h7, h⟩ := h
  refine RT.eql .none _ rfl rfl (tl rfl) (eqN (p := x1) (q := 0) h7) ?_
  refine RT.asg .none rfl (tl rfl) ?_
  refine RT.done ?_
  refine AThen.n ?_
  cases x7
  · replace h := br_f h
    refine ok_condF rfl ?_
    refine ok_seq ?_
    refine ok_region ?_
    refine RT.mv .none rfl (tl rfl) ?_
    replace h := let_some h
    obtain ⟨x11, h11, h⟩ := h
    refine RT.shr .none _ rfl rfl (tl rfl) (by decide) (shrU (k := .u64) (a := x1) (q := 32) (s := 32) rfl h11) ?_
    replace h := let_some h
    obtain ⟨x12, h12, h⟩ := h
    refine RT.eql .none _ rfl rfl (tl rfl) (eqN (p := x11) (q := 0) h12) ?_
    refine RT.asg .none rfl (tl rfl) ?_
    refine RT.done ?_
    refine AThen.n ?_
    cases x12
    · replace h := br_f h
      refine ok_condF rfl ?_
      refine ok_skip ?_
      refine AInB.n ?_
      refine AThen.n ?_
      refine ok_seq ?_
      refine ok_region ?_
      refine RT.mv .none rfl (tl rfl) ?_
      refine RT.mv .none rfl (tl rfl) ?_
      replace h := let_some h
      obtain ⟨x20, h20, h⟩ := h
      refine RT.conv .none _ rfl (tl rfl) (UK.nat h20) ?_
      refine RT.mv .none rfl (tl rfl) ?_
      replace h := let_some h
      obtain ⟨x22, h22, h⟩ := h
      refine RT.shr .none _ rfl rfl (tl rfl) (by decide) (shrU (k := .u64) (a := x1) (q := 32) (s := 32) rfl h22) ?_
      replace h := let_some h
      obtain ⟨x23, h23, h⟩ := h
      refine RT.conv .none _ rfl (tl rfl) (UK.nat h23) ?_
      refine RT.buildSl (l := [x20, x23]) (e := eU32) .none (.one rfl (.one rfl (.nil))) (tl rfl) rfl rfl rfl rfl rfl rfl ?_
      refine RT.buildI (cs := [_, _]) (cs' := [.v (.bool x0), slc 1 (List.map eU32 [x20, x23])]) .none (.one rfl (.one rfl (.nil))) rfl ⟨SV.imp_refl _, SV.imp_refl _, trivial⟩ (tl rfl) ?_
      refine RT.store .none rfl rfl rfl rfl rfl ?_
      refine RT.done ?_
      refine AThen.n ?_
      refine ok_ret ?_
      obtain rfl := Option.some.inj h
      exact ⟨.inr rfl, res_imp (.agg rfl rfl (.cons rfl (.cons rfl (.nil))) rfl (.nil)) (SV.imp_refl _)⟩
    · replace h := br_t h
      refine ok_condT rfl ?_
      refine ok_seq ?_
      refine ok_region ?_
      refine RT.mv .none rfl (tl rfl) ?_
      refine RT.mv .none rfl (tl rfl) ?_
      replace h := let_some h
      obtain ⟨x15, h15, h⟩ := h
      refine RT.conv .none _ rfl (tl rfl) (UK.nat h15) ?_
      refine RT.buildSl (l := [x15]) (e := eU32) .none (.one rfl (.nil)) (tl rfl) rfl rfl rfl rfl rfl rfl ?_
      refine RT.buildI (cs := [_, _]) (cs' := [.v (.bool x0), slc 1 (List.map eU32 [x15])]) .none (.one rfl (.one rfl (.nil))) rfl ⟨SV.imp_refl _, SV.imp_refl _, trivial⟩ (tl rfl) ?_
      refine RT.store .none rfl rfl rfl rfl rfl ?_
      refine RT.done ?_
      refine AThen.n ?_
      refine ok_ret ?_
      refine AInB.r ?_
      refine AThen.r ?_
      obtain rfl := Option.some.inj h
      exact ⟨.inr rfl, res_imp (.agg rfl rfl (.cons rfl (.cons rfl (.nil))) rfl (.nil)) (SV.imp_refl _)⟩
  · replace h := br_t h
    refine ok_condT rfl ?_
    refine ok_seq ?_
    refine ok_region ?_
    refine RT.buildI (cs := [_, _]) (cs' := [.v (.bool false), slc 1 (List.map eU32 [])]) .none (.nil) rfl ⟨SV.imp_refl _, imp_nil, trivial⟩ (tl rfl) ?_
    refine RT.store .none rfl rfl rfl rfl rfl ?_
    refine RT.done ?_
    refine AThen.n ?_
    refine ok_ret ?_
    refine AInB.r ?_
    refine AThen.r ?_
    obtain rfl := Option.some.inj h
    exact ⟨.inr rfl, res_imp (.agg rfl rfl (.cons rfl (.cons rfl (.nil))) rfl (.nil)) (SV.imp_refl _)⟩
theorem whole_low_ok {x0 : List Nat} {r : Nat} (h : whole_low_m x0 = some r) : Pure Try.prog 55 [slc 1 (List.map eU32 x0)] (.v (.int .u64 ((r : Nat) : Int))) := by
  refine pure_of_ok Try.func55 rfl (Nat.le_of_ble_eq_true rfl) (fun wld M vs hvs => ?_)
  unfold whole_low_m at h
  refine ok_seq ?_
  refine ok_region ?_
  refine RT.asg .none rfl (tl rfl) ?_
  refine RT.done ?_
  refine AThen.n ?_
  refine ok_seq ?_
  refine ok_seq ?_
  refine ok_region ?_
  refine RT.mv .none rfl (tl rfl) ?_
  replace h := let_some h
  obtain ⟨x4, h4, h⟩ := h
  refine RT.lenM .none rfl (tl rfl) h4 ?_
  refine RT.done ?_
  refine AThen.n ?_
  refine ok_block ?_
  refine ok_seq ?_
  refine ok_region ?_
  replace h := let_some h
  obtain ⟨x6, h6, h⟩ := h
  refine RT.eql .none _ rfl rfl (tl rfl) (eqI (p := x4) (q := 0) h6) ?_
  refine RT.asg .none rfl (tl rfl) ?_
  refine RT.done ?_
  refine AThen.n ?_
  cases x6
  · replace h := br_f h
    refine ok_condF rfl ?_
    refine ok_seq ?_
    refine ok_region ?_
    replace h := let_some h
    obtain ⟨x8, h8, h⟩ := h
    refine RT.eql .none _ rfl rfl (tl rfl) (eqI (p := x4) (q := 1) h8) ?_
    refine RT.asg .none rfl (tl rfl) ?_
    refine RT.done ?_
    refine AThen.n ?_
    cases x8
    · replace h := br_f h
      refine ok_condF rfl ?_
      refine ok_skip ?_
      refine AInB.n ?_
      refine AThen.n ?_
      refine ok_seq ?_
      refine ok_region_draw mixed ?_
      refine RT.mv .none rfl (tl rfl) ?_
      replace h := bind_some h
      obtain ⟨x14, h14, h⟩ := h
      refine RT.ixM .none rfl rfl (tl rfl) h14 ?_
      refine RT.loadRV .none rfl rfl (tl rfl) ?_
      replace h := let_some h
      obtain ⟨x16, h16, h⟩ := h
      refine RT.conv .none _ rfl (tl rfl) (UK.nat h16) ?_
      refine RT.mv .none rfl (tl rfl) ?_
      replace h := bind_some h
      obtain ⟨x18, h18, h⟩ := h
      refine RT.ixM .none rfl rfl (tl rfl) h18 ?_
      refine RT.loadRV .none rfl rfl (tl rfl) ?_
      replace h := let_some h
      obtain ⟨x20, h20, h⟩ := h
      refine RT.conv .none _ rfl (tl rfl) (UK.nat h20) ?_
      replace h := let_some h
      obtain ⟨x21, h21, h⟩ := h
      refine RT.shl .none _ rfl rfl (tl rfl) (by decide) (UK.shl (a := x20) (q := 32) (s := 32) rfl h21) ?_
      replace h := let_some h
      obtain ⟨x22, h22, h⟩ := h
      refine RT.or .none _ rfl rfl (tl rfl) (UK.or (a := x16) (b := x21) h22) ?_
      refine RT.asg .none rfl (tl rfl) ?_
      refine RT.done ⟨by kernel_rfl, ?_⟩
      refine AThen.n ?_
      refine ok_ret ?_
      obtain rfl := Option.some.inj h
      exact ⟨.inr rfl, res_imp (.tmp rfl (.nil)) (SV.imp_refl _)⟩
    · replace h := br_t h
      refine ok_condT rfl ?_
      refine ok_seq ?_
      refine ok_region ?_
      refine RT.mv .none rfl (tl rfl) ?_
      replace h := bind_some h
      obtain ⟨x10, h10, h⟩ := h
      refine RT.ixM .none rfl rfl (tl rfl) h10 ?_
      refine RT.loadRV .none rfl rfl (tl rfl) ?_
      replace h := let_some h
      obtain ⟨x12, h12, h⟩ := h
      refine RT.conv .none _ rfl (tl rfl) (UK.nat h12) ?_
      refine RT.asg .none rfl (tl rfl) ?_
      refine RT.done ?_
      refine AThen.n ?_
      refine ok_ret ?_
      refine AInB.r ?_
      refine AThen.r ?_
      obtain rfl := Option.some.inj h
      exact ⟨.inr rfl, res_imp (.tmp rfl (.nil)) (SV.imp_refl _)⟩
  · replace h := br_t h
    refine ok_condT rfl ?_
    refine ok_seq ?_
    refine ok_region ?_
    refine RT.asg .none rfl (tl rfl) ?_
    refine RT.done ?_
    refine AThen.n ?_
    refine ok_ret ?_
    refine AInB.r ?_
    refine AThen.r ?_
    obtain rfl := Option.some.inj h
    exact ⟨.inr rfl, res_imp (.tmp rfl (.nil)) (SV.imp_refl _)⟩
theorem whole_compareWords_ok {x0 : List Nat} {x1 : List Nat} {r : Int} (h : whole_compareWords_m x0 x1 = some r) : Pure Try.prog 65 [slc 1 (List.map eU32 x0), slc 1 (List.map eU32 x1)] (.v (.int .i64 r)) := by
  refine pure_of_ok Try.func65 rfl (Nat.le_of_ble_eq_true rfl) (fun wld M vs hvs => ?_)
  unfold whole_compareWords_m at h
  refine ok_seq ?_
  refine ok_region ?_
  refine RT.asg .none rfl (tl rfl) ?_
  refine RT.done ?_
  refine AThen.n ?_
  refine ok_seq ?_
  refine ok_seq ?_
  refine ok_region ?_
  refine RT.mv .none rfl (tl rfl) ?_
  replace h := let_some h
  obtain ⟨x7, h7, h⟩ := h
  refine RT.lenM .none rfl (tl rfl) h7 ?_
  refine RT.mv .none rfl (tl rfl) ?_
  replace h := let_some h
  obtain ⟨x9, h9, h⟩ := h
  refine RT.lenM .none rfl (tl rfl) h9 ?_
  replace h := let_some h
  obtain ⟨x10, h10, h⟩ := h
  refine RT.neq .none _ rfl rfl (tl rfl) (neI (p := x7) (q := x9) h10) ?_
  refine RT.done ?_
  refine AThen.n ?_
  cases x10
  · replace h := br_f h
    refine ok_condF rfl ?_
    refine ok_skip ?_
    refine AThen.n ?_
    refine ok_seq ?_
    refine ok_seq ?_
    refine ok_region ?_
    refine RT.mv .none rfl (tl rfl) ?_
    replace h := let_some h
    obtain ⟨x17, h17, h⟩ := h
    refine RT.lenM .none rfl (tl rfl) h17 ?_
    replace h := let_some h
    obtain ⟨x18, h18, h⟩ := h
    refine RT.sub .none _ rfl rfl (tl rfl) h18 ?_
    refine RT.asg .none rfl (tl rfl) ?_
    refine RT.done ?_
    refine AThen.n ?_
    replace h := bind_some h
    obtain ⟨e6, hl6, ho6⟩ := h
    refine ok_tailP (fun (xe6 : Unit) => AS.mkL 41 [] [] []) (fun xe6 => .inl xe6 = e6) ?_ (fun xe6 hx6 => ?_)
    · refine ok_block ?_
      refine ok_loopM hl6 (fun s6 => AS.mkL 41 [(0, .sv (slc 1 (List.map eU32 x0))), (1, .sv (slc 1 (List.map eU32 x1))), (5, .sv (.v (.int .i64 s6)))] [] []) (by (try dsimp only); exact weakL id rfl rfl rfl rfl rfl ⟨.sv (SV.imp_refl _), .sv (SV.imp_refl _), .sv (SV.imp_refl _), trivial⟩ trivial trivial (fun _ _ => rfl)) (fun y5l3 y6 G6 h hG6 hE6 => ?_)
      try dsimp only
      refine ok_seq ?_
      refine ok_seq ?_
      refine ok_region ?_
      refine RT.mv .none rfl (tl rfl) ?_
      replace h := let_some h
      obtain ⟨x20, h20, h⟩ := h
      refine RT.geq .none _ rfl rfl (tl rfl) h20 ?_
      refine RT.done ?_
      refine AThen.n ?_
      cases x20
      · replace h := br_f h
        refine ok_condF rfl ?_
        refine ok_exit ?_
        refine AThen.x ?_
        refine AThen.x ?_
        refine AInB.x ?_
        refine AThen.n ?_
        obtain rfl := Option.some.inj h
        refine ⟨(), hE6 _ rfl, ?_⟩
        try dsimp only
        exact weakL id rfl rfl rfl rfl rfl trivial trivial trivial (fun _ _ => rfl)
      · replace h := br_t h
        refine ok_condT rfl ?_
        refine ok_skip ?_
        refine AThen.n ?_
        refine ok_seq ?_
        refine ok_block ?_
        refine ok_seq ?_
        refine ok_region_draw mixed ?_
        refine RT.mv .none rfl (tl rfl) ?_
        refine RT.mv .none rfl (tl rfl) ?_
        replace h := bind_some h
        obtain ⟨x25, h25, h⟩ := h
        refine RT.ixM .none rfl rfl (tl rfl) h25 ?_
        refine RT.loadRV .none rfl rfl (tl rfl) ?_
        refine RT.mv .none rfl (tl rfl) ?_
        refine RT.mv .none rfl (tl rfl) ?_
        replace h := bind_some h
        obtain ⟨x29, h29, h⟩ := h
        refine RT.ixM .none rfl rfl (tl rfl) h29 ?_
        refine RT.loadRV .none rfl rfl (tl rfl) ?_
        replace h := let_some h
        obtain ⟨x31, h31, h⟩ := h
        refine RT.neq .none _ rfl rfl (tl rfl) (neN (p := x25) (q := x29) h31) ?_
        refine RT.done ⟨by kernel_rfl, ?_⟩
        refine AThen.n ?_
        cases x31
        · replace h := br_f h
          refine ok_condF rfl ?_
          refine ok_skip ?_
          refine AInB.n ?_
          refine AThen.n ?_
          refine ok_region ?_
          refine RT.mv .none rfl (tl rfl) ?_
          replace h := let_some h
          obtain ⟨x22, h22, h⟩ := h
          refine RT.sub .none _ rfl rfl (tl rfl) h22 ?_
          refine RT.asg .none rfl (tl rfl) ?_
          refine RT.done ?_
          obtain rfl := Option.some.inj h
          refine AThen.n ⟨x22, hG6 _ rfl, ?_⟩
          try dsimp only
          exact weakL id rfl rfl rfl rfl rfl ⟨.sv (SV.imp_refl _), .sv (SV.imp_refl _), .sv (SV.imp_refl _), trivial⟩ trivial trivial (fun _ _ => rfl)
        · replace h := br_t h
          refine ok_condT rfl ?_
          refine ok_seq ?_
          refine ok_seq ?_
          refine ok_region_draw mixed ?_
          refine RT.mv .none rfl (tl rfl) ?_
          refine RT.mv .none rfl (tl rfl) ?_
          replace h := bind_some h
          obtain ⟨x34, h34, h⟩ := h
          refine RT.ixM .none rfl rfl (tl rfl) h34 ?_
          refine RT.loadRV .none rfl rfl (tl rfl) ?_
          refine RT.mv .none rfl (tl rfl) ?_
          refine RT.mv .none rfl (tl rfl) ?_
          replace h := bind_some h
          obtain ⟨x38, h38, h⟩ := h
          refine RT.ixM .none rfl rfl (tl rfl) h38 ?_
          refine RT.loadRV .none rfl rfl (tl rfl) ?_
          replace h := let_some h
          obtain ⟨x40, h40, h⟩ := h
          refine RT.lss .none _ rfl rfl (tl rfl) (ltN (p := x34) (q := x38) h40) ?_
          refine RT.done ⟨by kernel_rfl, ?_⟩
          refine AThen.n ?_
          cases x40
          · replace h := br_f h
            refine ok_condF rfl ?_
            refine ok_skip ?_
            refine AThen.n ?_
            refine ok_seq ?_
            refine ok_region ?_
            refine RT.asg .none rfl (tl rfl) ?_
            refine RT.done ?_
            refine AThen.n ?_
            refine ok_ret ?_
            refine AInB.r ?_
            refine AThen.r ?_
            obtain rfl := Option.some.inj h
            have he6 := hE6 _ rfl
            subst he6
            refine AThen.r ?_
            refine AInB.r ?_
            refine AThen.r ?_
            refine AThen.r ?_
            obtain rfl := Option.some.inj ho6
            exact ⟨.inr rfl, res_imp (.tmp rfl (.nil)) (SV.imp_refl _)⟩
          · replace h := br_t h
            refine ok_condT rfl ?_
            refine ok_seq ?_
            refine ok_region ?_
            refine RT.asg .none rfl (tl rfl) ?_
            refine RT.done ?_
            refine AThen.n ?_
            refine ok_ret ?_
            refine AThen.r ?_
            refine AInB.r ?_
            refine AThen.r ?_
            obtain rfl := Option.some.inj h
            have he6 := hE6 _ rfl
            subst he6
            refine AThen.r ?_
            refine AInB.r ?_
            refine AThen.r ?_
            refine AThen.r ?_
            obtain rfl := Option.some.inj ho6
            exact ⟨.inr rfl, res_imp (.tmp rfl (.nil)) (SV.imp_refl _)⟩
    · subst hx6
      try dsimp only
      refine AThen.n ?_
      refine ok_seq ?_
      refine ok_region ?_
      refine RT.asg .none rfl (tl rfl) ?_
      refine RT.done ?_
      refine AThen.n ?_
      refine ok_ret ?_
      obtain rfl := Option.some.inj ho6
      exact ⟨.inr rfl, res_imp (.tmp rfl (.nil)) (SV.imp_refl _)⟩
  · replace h := br_t h
    refine ok_condT rfl ?_
    refine ok_seq ?_
    refine ok_seq ?_
    refine ok_region ?_
    refine RT.mv .none rfl (tl rfl) ?_
    replace h := let_some h
    obtain ⟨x12, h12, h⟩ := h
    refine RT.lenM .none rfl (tl rfl) h12 ?_
    refine RT.mv .none rfl (tl rfl) ?_
    replace h := let_some h
    obtain ⟨x14, h14, h⟩ := h
    refine RT.lenM .none rfl (tl rfl) h14 ?_
    replace h := let_some h
    obtain ⟨x15, h15, h⟩ := h
    refine RT.lss .none _ rfl rfl (tl rfl) h15 ?_
    refine RT.done ?_
    refine AThen.n ?_
    cases x15
    · replace h := br_f h
      refine ok_condF rfl ?_
      refine ok_skip ?_
      refine AThen.n ?_
      refine ok_seq ?_
      refine ok_region ?_
      refine RT.asg .none rfl (tl rfl) ?_
      refine RT.done ?_
      refine AThen.n ?_
      refine ok_ret ?_
      refine AThen.r ?_
      obtain rfl := Option.some.inj h
      exact ⟨.inr rfl, res_imp (.tmp rfl (.nil)) (SV.imp_refl _)⟩
    · replace h := br_t h
      refine ok_condT rfl ?_
      refine ok_seq ?_
      refine ok_region ?_
      refine RT.asg .none rfl (tl rfl) ?_
      refine RT.done ?_
      refine AThen.n ?_
      refine ok_ret ?_
      refine AThen.r ?_
      refine AThen.r ?_
      obtain rfl := Option.some.inj h
      exact ⟨.inr rfl, res_imp (.tmp rfl (.nil)) (SV.imp_refl _)⟩
theorem whole_addWords_ok {x0 : List Nat} {x1 : List Nat} {r : List Nat} (h : whole_addWords_m x0 x1 = some r) : Pure Try.prog 46 [slc 1 (List.map eU32 x0), slc 1 (List.map eU32 x1)] (slc 1 (List.map eU32 r)) := by
  refine pure_of_ok Try.func46 rfl (Nat.le_of_ble_eq_true rfl) (fun wld M vs hvs => ?_)
  unfold whole_addWords_m at h
  refine ok_seq ?_
  refine ok_region ?_
  refine RT.asgI .none rfl (imp_nil (n := 1) (e := eU32)) (tl rfl) ?_
  refine RT.done ?_
  refine AThen.n ?_
  refine ok_seq ?_
  refine ok_region ?_
  refine RT.mv .none rfl (tl rfl) ?_
  replace h := let_some h
  obtain ⟨x10, h10, h⟩ := h
  refine RT.lenM .none rfl (tl rfl) h10 ?_
  refine RT.mv .none rfl (tl rfl) ?_
  replace h := let_some h
  obtain ⟨x12, h12, h⟩ := h
  refine RT.lenM .none rfl (tl rfl) h12 ?_
  replace h := let_some h
  obtain ⟨x13, h13, h⟩ := h
  refine RT.max .none _ rfl rfl (tl rfl) (maxI (p := x10) (q := x12) h13) ?_
  replace h := let_some h
  obtain ⟨x14, h14, h⟩ := h
  refine RT.add .none _ rfl rfl (tl rfl) h14 ?_
  replace h := bind_some h
  obtain ⟨x15, h15, h⟩ := h
  refine RT.mkEmp (e := eU32) .none rfl rfl (tl rfl) rfl (tl rfl) h15 ?_
  refine RT.alloc .none (tl rfl) rfl rfl ?_
  refine RT.storeR (cells := [_]) .none rfl rfl rfl rfl (tl rfl) rfl ?_
  refine RT.done ?_
  refine AThen.n ?_
  refine ok_seq ?_
  refine ok_region ?_
  refine RT.callF .none (whole_carrier_ok 0) rfl ⟨rfl, trivial⟩ (tl rfl) rfl rfl ?_
  refine RT.alloc .none (tl rfl) rfl rfl ?_
  refine RT.storeV (cells := [_]) .none (s := .clo _ _) rfl rfl rfl (tl rfl) rfl ?_
  refine RT.done ?_
  refine AThen.n ?_
  refine ok_seq ?_
  refine ok_seq ?_
  refine ok_region ?_
  refine RT.mv .none rfl (tl rfl) ?_
  refine RT.mv .none rfl (tl rfl) ?_
  refine RT.call .none (whole_pairs_ok x0 x1) rfl ⟨rfl, rfl, trivial⟩ (tl rfl) ?_
  refine RT.done ?_
  refine AThen.n ?_
  refine ok_block ?_
  replace h := bind_some h
  obtain ⟨e7, hl7, ho7⟩ := h
  obtain ⟨st7, hs7, ht7, hn7⟩ := rangeM_st hl7
  refine ok_rangeFunc (whole_pairs_it x0 x1) (fun _ _ _ _ _ => trivial) rfl (fun k => AS.mkL 35 [(5, .ptr 5 0), (6, .ptr 6 0), (19, .sv (cloS 81 [ref [slc 1 (List.map eU32 x0)], ref [slc 1 (List.map eU32 x1)]]))] [(6, ⟨75, [.clo 80 [.box 16]]⟩), (16, ⟨59, [.sv (.v (.int .u64 (((st7 k).1 : Nat) : Int)))]⟩), (5, ⟨22, [.row 302]⟩)] [(302, TR 51 1 eU32 (st7 k).2)]) [6, 16, 5] rfl (fun _ => ⟨rfl, rfl⟩) (rangeT rfl) (fun _ => rfl) (rangeP rfl) (by (try dsimp only); rw [hs7]; (try dsimp only); exact weakL (fun i => bif Nat.beq i 302 then 15 else i) rfl rfl rfl rfl rfl ⟨.ptr, .ptr, .sv (SV.imp_refl _), trivial⟩ ⟨⟨_, rfl, ⟨.clo, trivial⟩⟩, ⟨_, rfl, ⟨.sv (SV.imp_refl _), trivial⟩⟩, ⟨_, rfl, ⟨.row rfl, trivial⟩⟩, trivial⟩ ⟨⟨_, rfl, SVIs.refl _⟩, trivial⟩ (fun i hi => by rw [beq_ne (show i ≠ 302 by omega)]; rfl)) (fun k hk D => ?_) ?_
  · have h := ht7 k hk
    obtain ⟨sk, hsk⟩ : ∃ q, st7 k = q := ⟨_, rfl⟩
    rw [hsk] at h ⊢
    obtain ⟨b16_0l4, r302l4⟩ := sk
    dsimp only [AS.inR, setPs]
    try dsimp only at h
    replace h := let_some h
    obtain ⟨p20, hp20, h⟩ := h
    rw [hp20]
    replace h := let_some h
    obtain ⟨p21, hp21, h⟩ := h
    rw [hp21]
    refine ok_seq ?_
    refine ok_region ?_
    refine RT.asg .none rfl (tl rfl) ?_
    refine RT.done ?_
    refine AThen.n ?_
    refine ok_region ?_
    refine RT.asg .none rfl (tl rfl) ?_
    refine RT.done ?_
    refine AThen.n ⟨rfl, ?_⟩
    dsimp only [AS.goOn]
    refine ok_block ?_
    refine ok_region_draw mixed ?_
    refine RT.loadV .none (s := .row _) rfl rfl rfl (tl rfl) ?_
    refine RT.loadV .none (s := .clo _ _) rfl rfl rfl (tl rfl) ?_
    refine RT.mv .none rfl (tl rfl) ?_
    refine RT.mv .none rfl (tl rfl) ?_
    replace h := let_some h
    obtain ⟨x26, h26, h⟩ := h
    refine RT.add .none _ rfl rfl (tl rfl) (UK.add (a := p20) (b := p21) h26) ?_
    replace h := bind_some h
    obtain ⟨⟨x27, k9⟩, h27, h⟩ := h
    refine RT.callB .none (whole_carrier_1_ok h27) 16 rfl rfl ⟨rfl, trivial⟩ (tl rfl) ?_
    refine RT.buildSl (l := [x27]) (e := eU32) .none (.one rfl (.nil)) (tl rfl) rfl rfl rfl rfl rfl rfl ?_
    replace h := bind_some h
    obtain ⟨x29, h29, h⟩ := h
    refine RT.apR (k := [x27]) (e := eU32) .none rfl rfl rfl (tl rfl) rfl (tl rfl) h29 ?_
    refine RT.storeR (cells := [_]) .none rfl rfl rfl rfl (tl rfl) rfl ?_
    refine RT.done ⟨by kernel_rfl, ?_⟩
    refine AInB.n ?_
    replace h := Option.some.inj h
    refine ⟨rfl, rfl, ?_⟩
    try dsimp only
    rw [← h]
    try dsimp only
    exact weakL (fun i => bif Nat.beq i 302 then 29 else i) rfl rfl rfl rfl rfl ⟨.ptr, .ptr, .sv (SV.imp_refl _), trivial⟩ ⟨⟨_, rfl, ⟨.clo, trivial⟩⟩, ⟨_, rfl, ⟨.sv (SV.imp_refl _), trivial⟩⟩, ⟨_, rfl, ⟨.row rfl, trivial⟩⟩, trivial⟩ ⟨⟨_, rfl, SVIs.refl _⟩, trivial⟩ (fun i hi => by rw [beq_ne (show i ≠ 302 by omega)]; rfl)
  · rw [hn7]
    obtain ⟨b16_0l4, r302l4⟩ := e7
    try dsimp only
    refine AInB.n ?_
    refine AThen.n ?_
    refine ok_seq ?_
    refine ok_region_draw mixed ?_
    refine RT.loadV .none (s := .row _) rfl rfl rfl (tl rfl) ?_
    refine RT.loadV .none (s := .clo _ _) rfl rfl rfl (tl rfl) ?_
    replace ho7 := bind_some ho7
    obtain ⟨⟨x32, k11⟩, h32, ho7⟩ := ho7
    refine RT.callB .none (whole_carrier_1_ok h32) 16 rfl rfl ⟨rfl, trivial⟩ (tl rfl) ?_
    refine RT.buildSl (l := [x32]) (e := eU32) .none (.one rfl (.nil)) (tl rfl) rfl rfl rfl rfl rfl rfl ?_
    replace ho7 := bind_some ho7
    obtain ⟨x34, h34, ho7⟩ := ho7
    refine RT.apIR (k := [x32]) (e := eU32) .none rfl rfl rfl (tl rfl) rfl (tl rfl) h34 ?_
    refine RT.asg .none rfl (tl rfl) ?_
    refine RT.done ⟨by kernel_rfl, ?_⟩
    refine AThen.n ?_
    refine ok_ret ?_
    obtain rfl := Option.some.inj ho7
    exact ⟨.inr rfl, res_imp (.tmp rfl (.nil)) (SV.imp_refl _)⟩
theorem whole_subWords_ok {x0 : List Nat} {x1 : List Nat} {r : List Nat} (h : whole_subWords_m x0 x1 = some r) : Pure Try.prog 47 [slc 1 (List.map eU32 x0), slc 1 (List.map eU32 x1)] (slc 1 (List.map eU32 r)) := by
  refine pure_of_ok Try.func47 rfl (Nat.le_of_ble_eq_true rfl) (fun wld M vs hvs => ?_)
  unfold whole_subWords_m at h
  refine ok_seq ?_
  refine ok_region ?_
  refine RT.asgI .none rfl (imp_nil (n := 1) (e := eU32)) (tl rfl) ?_
  refine RT.done ?_
  refine AThen.n ?_
  refine ok_seq ?_
  refine ok_region ?_
  refine RT.mv .none rfl (tl rfl) ?_
  replace h := let_some h
  obtain ⟨x10, h10, h⟩ := h
  refine RT.lenM .none rfl (tl rfl) h10 ?_
  replace h := bind_some h
  obtain ⟨x11, h11, h⟩ := h
  refine RT.mkEmp (e := eU32) .none rfl rfl (tl rfl) rfl (tl rfl) h11 ?_
  refine RT.alloc .none (tl rfl) rfl rfl ?_
  refine RT.storeR (cells := [_]) .none rfl rfl rfl rfl (tl rfl) rfl ?_
  refine RT.done ?_
  refine AThen.n ?_
  refine ok_seq ?_
  refine ok_region ?_
  refine RT.callF .none (whole_carrier_ok 1) rfl ⟨rfl, trivial⟩ (tl rfl) rfl rfl ?_
  refine RT.alloc .none (tl rfl) rfl rfl ?_
  refine RT.storeV (cells := [_]) .none (s := .clo _ _) rfl rfl rfl (tl rfl) rfl ?_
  refine RT.done ?_
  refine AThen.n ?_
  refine ok_seq ?_
  refine ok_seq ?_
  refine ok_region ?_
  refine RT.mv .none rfl (tl rfl) ?_
  refine RT.mv .none rfl (tl rfl) ?_
  refine RT.call .none (whole_pairs_ok x0 x1) rfl ⟨rfl, rfl, trivial⟩ (tl rfl) ?_
  refine RT.done ?_
  refine AThen.n ?_
  refine ok_block ?_
  replace h := bind_some h
  obtain ⟨e7, hl7, ho7⟩ := h
  obtain ⟨st7, hs7, ht7, hn7⟩ := rangeM_st hl7
  refine ok_rangeFunc (whole_pairs_it x0 x1) (fun _ _ _ _ _ => trivial) rfl (fun k => AS.mkL 28 [(5, .ptr 5 0), (6, .ptr 6 0), (15, .sv (cloS 81 [ref [slc 1 (List.map eU32 x0)], ref [slc 1 (List.map eU32 x1)]]))] [(6, ⟨75, [.clo 80 [.box 12]]⟩), (12, ⟨59, [.sv (.v (.int .u64 (((st7 k).1 : Nat) : Int)))]⟩), (5, ⟨22, [.row 302]⟩)] [(302, TR 51 1 eU32 (st7 k).2)]) [6, 12, 5] rfl (fun _ => ⟨rfl, rfl⟩) (rangeT rfl) (fun _ => rfl) (rangeP rfl) (by (try dsimp only); rw [hs7]; (try dsimp only); exact weakL (fun i => bif Nat.beq i 302 then 11 else i) rfl rfl rfl rfl rfl ⟨.ptr, .ptr, .sv (SV.imp_refl _), trivial⟩ ⟨⟨_, rfl, ⟨.clo, trivial⟩⟩, ⟨_, rfl, ⟨.sv (SV.imp_refl _), trivial⟩⟩, ⟨_, rfl, ⟨.row rfl, trivial⟩⟩, trivial⟩ ⟨⟨_, rfl, SVIs.refl _⟩, trivial⟩ (fun i hi => by rw [beq_ne (show i ≠ 302 by omega)]; rfl)) (fun k hk D => ?_) ?_
  · have h := ht7 k hk
    obtain ⟨sk, hsk⟩ : ∃ q, st7 k = q := ⟨_, rfl⟩
    rw [hsk] at h ⊢
    obtain ⟨b12_0l4, r302l4⟩ := sk
    dsimp only [AS.inR, setPs]
    try dsimp only at h
    replace h := let_some h
    obtain ⟨p16, hp16, h⟩ := h
    rw [hp16]
    replace h := let_some h
    obtain ⟨p17, hp17, h⟩ := h
    rw [hp17]
    refine ok_seq ?_
    refine ok_region ?_
    refine RT.asg .none rfl (tl rfl) ?_
    refine RT.done ?_
    refine AThen.n ?_
    refine ok_region ?_
    refine RT.asg .none rfl (tl rfl) ?_
    refine RT.done ?_
    refine AThen.n ⟨rfl, ?_⟩
    dsimp only [AS.goOn]
    refine ok_block ?_
    refine ok_region_draw mixed ?_
    refine RT.loadV .none (s := .row _) rfl rfl rfl (tl rfl) ?_
    refine RT.loadV .none (s := .clo _ _) rfl rfl rfl (tl rfl) ?_
    refine RT.mv .none rfl (tl rfl) ?_
    refine RT.mv .none rfl (tl rfl) ?_
    replace h := let_some h
    obtain ⟨x22, h22, h⟩ := h
    refine RT.sub .none _ rfl rfl (tl rfl) (UK.sub (a := 4294967295) (b := p17) h22) ?_
    replace h := let_some h
    obtain ⟨x23, h23, h⟩ := h
    refine RT.add .none _ rfl rfl (tl rfl) (UK.add (a := p16) (b := x22) h23) ?_
    replace h := bind_some h
    obtain ⟨⟨x24, k9⟩, h24, h⟩ := h
    refine RT.callB .none (whole_carrier_1_ok h24) 12 rfl rfl ⟨rfl, trivial⟩ (tl rfl) ?_
    refine RT.buildSl (l := [x24]) (e := eU32) .none (.one rfl (.nil)) (tl rfl) rfl rfl rfl rfl rfl rfl ?_
    replace h := bind_some h
    obtain ⟨x26, h26, h⟩ := h
    refine RT.apR (k := [x24]) (e := eU32) .none rfl rfl rfl (tl rfl) rfl (tl rfl) h26 ?_
    refine RT.storeR (cells := [_]) .none rfl rfl rfl rfl (tl rfl) rfl ?_
    refine RT.done ⟨by kernel_rfl, ?_⟩
    refine AInB.n ?_
    replace h := Option.some.inj h
    refine ⟨rfl, rfl, ?_⟩
    try dsimp only
    rw [← h]
    try dsimp only
    exact weakL (fun i => bif Nat.beq i 302 then 26 else i) rfl rfl rfl rfl rfl ⟨.ptr, .ptr, .sv (SV.imp_refl _), trivial⟩ ⟨⟨_, rfl, ⟨.clo, trivial⟩⟩, ⟨_, rfl, ⟨.sv (SV.imp_refl _), trivial⟩⟩, ⟨_, rfl, ⟨.row rfl, trivial⟩⟩, trivial⟩ ⟨⟨_, rfl, SVIs.refl _⟩, trivial⟩ (fun i hi => by rw [beq_ne (show i ≠ 302 by omega)]; rfl)
  · rw [hn7]
    obtain ⟨b12_0l4, r302l4⟩ := e7
    try dsimp only
    refine AInB.n ?_
    refine AThen.n ?_
    refine ok_seq ?_
    refine ok_region ?_
    refine RT.loadV .none (s := .row _) rfl rfl rfl (tl rfl) ?_
    refine RT.assign .none (s := .row _) rfl (tl rfl) ?_
    refine RT.done ?_
    refine AThen.n ?_
    refine ok_weak (weak_frzM (i := 302) (E1 := 51) (n := 1) (e := eU32) (l := r302l4) rfl) ?_
    refine ok_ret ?_
    obtain rfl := Option.some.inj ho7
    exact ⟨.inr rfl, res_imp (.tmp rfl (.nil)) (SV.imp_refl _)⟩
theorem whole_mulWords_ok {x0 : List Nat} {x1 : List Nat} {r : List Nat} (h : whole_mulWords_m x0 x1 = some r) : Pure Try.prog 67 [slc 1 (List.map eU32 x0), slc 1 (List.map eU32 x1)] (slc 1 (List.map eU32 r)) := by
  refine pure_of_ok Try.func67 rfl (Nat.le_of_ble_eq_true rfl) (fun wld M vs hvs => ?_)
  unfold whole_mulWords_m at h
  refine ok_seq ?_
  refine ok_region ?_
  refine RT.asgI .none rfl (imp_nil (n := 1) (e := eU32)) (tl rfl) ?_
  refine RT.done ?_
  refine AThen.n ?_
  refine ok_seq ?_
  refine ok_region ?_
  refine RT.mv .none rfl (tl rfl) ?_
  replace h := let_some h
  obtain ⟨x12, h12, h⟩ := h
  refine RT.lenM .none rfl (tl rfl) h12 ?_
  refine RT.mv .none rfl (tl rfl) ?_
  replace h := let_some h
  obtain ⟨x14, h14, h⟩ := h
  refine RT.lenM .none rfl (tl rfl) h14 ?_
  replace h := let_some h
  obtain ⟨x15, h15, h⟩ := h
  refine RT.add .none _ rfl rfl (tl rfl) h15 ?_
  replace h := bind_some h
  obtain ⟨x16, h16, h⟩ := h
  refine RT.mkRow (n := 1) (e := eU32) .none rfl rfl (tl rfl) rfl (tl rfl) (by rfl) (by decide) (by exact ⟨SV.imp_refl _, trivial⟩) h16 ?_
  refine RT.assign .none (s := .row _) rfl (tl rfl) ?_
  refine RT.done ?_
  refine AThen.n ?_
  refine ok_seq ?_
  refine ok_seq ?_
  refine ok_region ?_
  refine RT.mv .none rfl (tl rfl) ?_
  replace h := let_some h
  obtain ⟨x18, h18, h⟩ := h
  refine RT.lenM .none rfl (tl rfl) h18 ?_
  refine RT.mv .none rfl (tl rfl) ?_
  refine RT.done ?_
  refine AThen.n ?_
  replace h := bind_some h
  obtain ⟨e28, hl28, ho28⟩ := h
  refine ok_tailP (fun (r16e27 : (List Nat)) => AS.mkL 63 [(5, .row 16)] [] [(16, TR 51 1 eU32 r16e27)]) (fun r16e27 => r16e27 = e28) ?_ (fun r16e27 hx28 => ?_)
  · refine ok_block ?_
    refine ok_loopM hl28 (fun s28 => AS.mkL 63 [(1, .sv (slc 1 (List.map eU32 x1))), (5, .row 16), (17, .sv (slc 1 (List.map eU32 x0))), (18, .sv (.v (.int .i64 x18))), (19, .sv (.v (.int .i64 s28.1)))] [] [(16, TR 51 1 eU32 s28.2)]) (by (try dsimp only); exact weakL id rfl rfl rfl rfl rfl ⟨.sv (SV.imp_refl _), .row rfl, .sv (SV.imp_refl _), .sv (SV.imp_refl _), .sv (SV.imp_refl _), trivial⟩ trivial ⟨⟨_, rfl, SVIs.refl _⟩, trivial⟩ (fun _ _ => rfl)) (fun s28 y28 G28 h hG28 hE28 => ?_)
    obtain ⟨y19l14, r16l14⟩ := s28
    try dsimp only
    refine ok_seq ?_
    refine ok_region ?_
    replace h := let_some h
    obtain ⟨x20, h20, h⟩ := h
    refine RT.lss .none _ rfl rfl (tl rfl) h20 ?_
    refine RT.done ?_
    refine AThen.n ?_
    refine ok_seq ?_
    cases x20
    · replace h := br_f h
      refine ok_condF rfl ?_
      refine ok_exit ?_
      refine AThen.x ?_
      refine AThen.x ?_
      refine AInB.x ?_
      refine AThen.n ?_
      obtain rfl := Option.some.inj h
      refine ⟨r16l14, hE28 _ rfl, ?_⟩
      try dsimp only
      exact weakL id rfl rfl rfl rfl rfl ⟨.row rfl, trivial⟩ trivial ⟨⟨_, rfl, SVIs.refl _⟩, trivial⟩ (fun _ _ => rfl)
    · replace h := br_t h
      refine ok_condT rfl ?_
      refine ok_skip ?_
      refine AThen.n ?_
      refine ok_seq ?_
      refine ok_block ?_
      refine ok_seq ?_
      refine ok_region ?_
      refine RT.mv .none rfl (tl rfl) ?_
      replace h := bind_some h
      obtain ⟨x22, h22, h⟩ := h
      refine RT.ixM .none rfl rfl (tl rfl) h22 ?_
      refine RT.loadRV .none rfl rfl (tl rfl) ?_
      refine RT.asg .none rfl (tl rfl) ?_
      refine RT.asg .none rfl (tl rfl) ?_
      refine RT.done ?_
      refine AThen.n ?_
      refine ok_seq ?_
      refine ok_region ?_
      refine RT.callF .none (whole_carrier_ok 0) rfl ⟨rfl, trivial⟩ (tl rfl) rfl rfl ?_
      refine RT.assign .none (s := .clo _ _) rfl (tl rfl) ?_
      refine RT.done ?_
      refine AThen.n ?_
      refine ok_seq ?_
      refine ok_seq ?_
      refine ok_region ?_
      refine RT.mv .none rfl (tl rfl) ?_
      replace h := let_some h
      obtain ⟨x26, h26, h⟩ := h
      refine RT.lenM .none rfl (tl rfl) h26 ?_
      refine RT.mv .none rfl (tl rfl) ?_
      refine RT.done ?_
      refine AThen.n ?_
      replace h := bind_some h
      obtain ⟨e38, hl38, ho38⟩ := h
      refine ok_tailP (fun (xe38 : Nat × (List Nat)) => AS.mkL 63 [(1, .sv (slc 1 (List.map eU32 x1))), (5, .row 16), (6, .sv (.v (.int .i64 y19l14))), (8, .clo 80 [.box 24]), (17, .sv (slc 1 (List.map eU32 x0))), (18, .sv (.v (.int .i64 x18))), (19, .sv (.v (.int .i64 y19l14)))] [(24, ⟨59, [.sv (.v (.int .u64 ((xe38.1 : Nat) : Int)))]⟩)] [(16, TR 51 1 eU32 xe38.2)]) (fun xe38 => xe38 = e38) ?_ (fun xe38 hx38 => ?_)
      · refine ok_block ?_
        refine ok_loopM hl38 (fun s38 => AS.mkL 63 [(1, .sv (slc 1 (List.map eU32 x1))), (5, .row 16), (6, .sv (.v (.int .i64 y19l14))), (7, .sv (.v (.int .u32 ((x22 : Nat) : Int)))), (8, .clo 80 [.box 24]), (17, .sv (slc 1 (List.map eU32 x0))), (18, .sv (.v (.int .i64 x18))), (19, .sv (.v (.int .i64 y19l14))), (25, .sv (slc 1 (List.map eU32 x1))), (26, .sv (.v (.int .i64 x26))), (27, .sv (.v (.int .i64 s38.1)))] [(24, ⟨59, [.sv (.v (.int .u64 ((s38.2.1 : Nat) : Int)))]⟩)] [(16, TR 51 1 eU32 s38.2.2)]) (by (try dsimp only); exact weakL id rfl rfl rfl rfl rfl ⟨.sv (SV.imp_refl _), .row rfl, .sv (SV.imp_refl _), .sv (SV.imp_refl _), .clo, .sv (SV.imp_refl _), .sv (SV.imp_refl _), .sv (SV.imp_refl _), .sv (SV.imp_refl _), .sv (SV.imp_refl _), .sv (SV.imp_refl _), trivial⟩ ⟨⟨_, rfl, ⟨.sv (SV.imp_refl _), trivial⟩⟩, trivial⟩ ⟨⟨_, rfl, SVIs.refl _⟩, trivial⟩ (fun _ _ => rfl)) (fun s38 y38 G38 h hG38 hE38 => ?_)
        obtain ⟨y27l33, b24_0l33, r16l33⟩ := s38
        try dsimp only
        refine ok_seq ?_
        refine ok_region ?_
        replace h := let_some h
        obtain ⟨x28, h28, h⟩ := h
        refine RT.lss .none _ rfl rfl (tl rfl) h28 ?_
        refine RT.done ?_
        refine AThen.n ?_
        refine ok_seq ?_
        cases x28
        · replace h := br_f h
          refine ok_condF rfl ?_
          refine ok_exit ?_
          refine AThen.x ?_
          refine AThen.x ?_
          refine AInB.x ?_
          refine AThen.n ?_
          obtain rfl := Option.some.inj h
          refine ⟨(b24_0l33, r16l33), hE38 _ rfl, ?_⟩
          try dsimp only
          exact weakL id rfl rfl rfl rfl rfl ⟨.sv (SV.imp_refl _), .row rfl, .sv (SV.imp_refl _), .clo, .sv (SV.imp_refl _), .sv (SV.imp_refl _), .sv (SV.imp_refl _), trivial⟩ ⟨⟨_, rfl, ⟨.sv (SV.imp_refl _), trivial⟩⟩, trivial⟩ ⟨⟨_, rfl, SVIs.refl _⟩, trivial⟩ (fun _ _ => rfl)
        · replace h := br_t h
          refine ok_condT rfl ?_
          refine ok_skip ?_
          refine AThen.n ?_
          refine ok_seq ?_
          refine ok_block ?_
          refine ok_seq ?_
          refine ok_region ?_
          refine RT.mv .none rfl (tl rfl) ?_
          replace h := bind_some h
          obtain ⟨x30, h30, h⟩ := h
          refine RT.ixM .none rfl rfl (tl rfl) h30 ?_
          refine RT.loadRV .none rfl rfl (tl rfl) ?_
          refine RT.asg .none rfl (tl rfl) ?_
          refine RT.asg .none rfl (tl rfl) ?_
          refine RT.done ?_
          refine AThen.n ?_
          refine ok_region ?_
          refine RT.move .none (s := .row _) rfl (tl rfl) ?_
          refine RT.mv .none rfl (tl rfl) ?_
          refine RT.mv .none rfl (tl rfl) ?_
          replace h := let_some h
          obtain ⟨x35, h35, h⟩ := h
          refine RT.add .none _ rfl rfl (tl rfl) h35 ?_
          refine RT.move .none (s := .clo _ _) rfl (tl rfl) ?_
          refine RT.move .none (s := .row _) rfl (tl rfl) ?_
          refine RT.mv .none rfl (tl rfl) ?_
          refine RT.mv .none rfl (tl rfl) ?_
          replace h := let_some h
          obtain ⟨x40, h40, h⟩ := h
          refine RT.add .none _ rfl rfl (tl rfl) h40 ?_
          replace h := bind_some h
          obtain ⟨x41, h41, h⟩ := h
          refine RT.ixRM .none rfl rfl rfl (tl rfl) h41 ?_
          replace h := bind_some h
          obtain ⟨x42, h42, h⟩ := h
          refine RT.ldRM .none rfl rfl h42 rfl (tl rfl) ?_
          replace h := let_some h
          obtain ⟨x43, h43, h⟩ := h
          refine RT.conv .none _ rfl (tl rfl) (UK.nat h43) ?_
          refine RT.mv .none rfl (tl rfl) ?_
          replace h := let_some h
          obtain ⟨x45, h45, h⟩ := h
          refine RT.conv .none _ rfl (tl rfl) (UK.nat h45) ?_
          refine RT.mv .none rfl (tl rfl) ?_
          replace h := let_some h
          obtain ⟨x47, h47, h⟩ := h
          refine RT.conv .none _ rfl (tl rfl) (UK.nat h47) ?_
          replace h := let_some h
          obtain ⟨x48, h48, h⟩ := h
          refine RT.mul .none _ rfl rfl (tl rfl) (UK.mul (a := x45) (b := x47) h48) ?_
          replace h := let_some h
          obtain ⟨x49, h49, h⟩ := h
          refine RT.add .none _ rfl rfl (tl rfl) (UK.add (a := x43) (b := x48) h49) ?_
          replace h := bind_some h
          obtain ⟨⟨x50, k41⟩, h50, h⟩ := h
          refine RT.callB .none (whole_carrier_1_ok h50) 24 rfl rfl ⟨rfl, trivial⟩ (tl rfl) ?_
          replace h := bind_some h
          obtain ⟨x51, h51, h⟩ := h
          refine RT.ixRM .none rfl rfl rfl (tl rfl) h51 ?_
          replace h := bind_some h
          obtain ⟨l42, hl42_, h⟩ := h
          refine RT.stRM .none x50 rfl rfl rfl rfl hl42_ ?_
          refine RT.done ?_
          refine AInB.n ?_
          refine AThen.n ?_
          refine ok_region ?_
          replace h := let_some h
          obtain ⟨x52, h52, h⟩ := h
          refine RT.add .none _ rfl rfl (tl rfl) h52 ?_
          refine RT.mv .none rfl (tl rfl) ?_
          refine RT.done ?_
          obtain rfl := Option.some.inj h
          refine AThen.n ⟨(x52, k41, l42), hG38 _ rfl, ?_⟩
          try dsimp only
          exact weakL id rfl rfl rfl rfl rfl ⟨.sv (SV.imp_refl _), .row rfl, .sv (SV.imp_refl _), .sv (SV.imp_refl _), .clo, .sv (SV.imp_refl _), .sv (SV.imp_refl _), .sv (SV.imp_refl _), .sv (SV.imp_refl _), .sv (SV.imp_refl _), .sv (SV.imp_refl _), trivial⟩ ⟨⟨_, rfl, ⟨.sv (SV.imp_refl _), trivial⟩⟩, trivial⟩ ⟨⟨_, rfl, SVIs.refl _⟩, trivial⟩ (fun _ _ => rfl)
      · subst hx38
        obtain ⟨b24_0e37, r16e37⟩ := xe38
        try dsimp only
        refine AThen.n ?_
        refine ok_region ?_
        refine RT.move .none (s := .row _) rfl (tl rfl) ?_
        refine RT.mv .none rfl (tl rfl) ?_
        refine RT.mv .none rfl (tl rfl) ?_
        replace ho38 := let_some ho38
        obtain ⟨x56, h56, ho38⟩ := ho38
        refine RT.lenM .none rfl (tl rfl) h56 ?_
        replace ho38 := let_some ho38
        obtain ⟨x57, h57, ho38⟩ := ho38
        refine RT.add .none _ rfl rfl (tl rfl) h57 ?_
        refine RT.move .none (s := .clo _ _) rfl (tl rfl) ?_
        replace ho38 := bind_some ho38
        obtain ⟨⟨x59, k45⟩, h59, ho38⟩ := ho38
        refine RT.callB .none (whole_carrier_1_ok h59) 24 rfl rfl ⟨rfl, trivial⟩ (tl rfl) ?_
        replace ho38 := bind_some ho38
        obtain ⟨x60, h60, ho38⟩ := ho38
        refine RT.ixRM .none rfl rfl rfl (tl rfl) h60 ?_
        replace ho38 := bind_some ho38
        obtain ⟨l46, hl46_, ho38⟩ := ho38
        refine RT.stRM .none x59 rfl rfl rfl rfl hl46_ ?_
        refine RT.done ?_
        refine AInB.n ?_
        refine AThen.n ?_
        refine ok_region ?_
        replace ho38 := let_some ho38
        obtain ⟨x61, h61, ho38⟩ := ho38
        refine RT.add .none _ rfl rfl (tl rfl) h61 ?_
        refine RT.mv .none rfl (tl rfl) ?_
        refine RT.done ?_
        obtain rfl := Option.some.inj ho38
        refine AThen.n ⟨(x61, l46), hG28 _ rfl, ?_⟩
        try dsimp only
        exact weakL id rfl rfl rfl rfl rfl ⟨.sv (SV.imp_refl _), .row rfl, .sv (SV.imp_refl _), .sv (SV.imp_refl _), .sv (SV.imp_refl _), trivial⟩ trivial ⟨⟨_, rfl, SVIs.refl _⟩, trivial⟩ (fun _ _ => rfl)
  · subst hx28
    try dsimp only
    refine AThen.n ?_
    refine ok_seq ?_
    refine ok_region ?_
    refine RT.move .none (s := .row _) rfl (tl rfl) ?_
    refine RT.assign .none (s := .row _) rfl (tl rfl) ?_
    refine RT.done ?_
    refine AThen.n ?_
    refine ok_weak (weak_frzM (i := 16) (E1 := 51) (n := 1) (e := eU32) (l := r16e27) rfl) ?_
    refine ok_ret ?_
    obtain rfl := Option.some.inj ho28
    exact ⟨.inr rfl, res_imp (.tmp rfl (.nil)) (SV.imp_refl _)⟩
end Go.Proofs.Ytgkafblpckcekaa
namespace Go.Proofs.Ytgkafblpckcekaa
open Go.Fw Go.RowKit
theorem whole_scaleWordsT_ok {x0 : List Nat} {x1 : Nat} {x2 : Nat} {r : List Nat} (h : whole_scaleWordsT_m x0 x1 x2 = some r) : TakeC Try.prog 61 [.row 1000, .sv (.v (.int .u64 ((x1 : Nat) : Int))), .sv (.v (.int .u64 ((x2 : Nat) : Int)))] (TR 51 1 eU32 x0) 51 1 r.length (List.flatMap eU32 r) := by
  refine takeC_of_ok Try.func61 rfl (Nat.le_of_ble_eq_true rfl) rfl (fun wld M v0 => ?_)
  unfold whole_scaleWordsT_m at h
  refine ok_seq ?_
  refine ok_region ?_
  refine RT.asg .none rfl (tl rfl) ?_
  refine RT.done ?_
  refine AThen.n ?_
  refine ok_weak (weak_nil 6 304 51 1 rfl rfl (tl rfl)) ?_
  refine ok_seq ?_
  refine ok_region ?_
  refine RT.mv .none rfl (tl rfl) ?_
  refine RT.callF .none (whole_carrier_ok x2) rfl ⟨rfl, trivial⟩ (tl rfl) rfl rfl ?_
  refine RT.assign .none (s := .clo _ _) rfl (tl rfl) ?_
  refine RT.done ?_
  refine AThen.n ?_
  refine ok_seq ?_
  refine ok_seq ?_
  refine ok_region ?_
  refine RT.move .none (s := .row _) rfl (tl rfl) ?_
  replace h := let_some h
  obtain ⟨x13, h13, h⟩ := h
  refine RT.lenRM .none rfl rfl (tl rfl) h13 ?_
  refine RT.mv .none rfl (tl rfl) ?_
  refine RT.done ?_
  refine AThen.n ?_
  replace h := bind_some h
  obtain ⟨e10, hl10, ho10⟩ := h
  refine ok_tailP (fun (xe10 : Nat × (List Nat)) => AS.mkL 34 [(0, .row 1000), (7, .clo 80 [.box 11])] [(11, ⟨59, [.sv (.v (.int .u64 ((xe10.1 : Nat) : Int)))]⟩)] [(1000, TR 51 1 eU32 xe10.2)]) (fun xe10 => xe10 = e10) ?_ (fun xe10 hx10 => ?_)
  · refine ok_block ?_
    refine ok_loopM hl10 (fun s10 => AS.mkL 34 [(0, .row 1000), (1, .sv (.v (.int .u64 ((x1 : Nat) : Int)))), (7, .clo 80 [.box 11]), (12, .row 1000), (13, .sv (.v (.int .i64 x13))), (14, .sv (.v (.int .i64 s10.1)))] [(11, ⟨59, [.sv (.v (.int .u64 ((s10.2.1 : Nat) : Int)))]⟩)] [(1000, TR 51 1 eU32 s10.2.2)]) (by (try dsimp only); exact weakL id rfl rfl rfl rfl rfl ⟨.row rfl, .sv (SV.imp_refl _), .clo, .row rfl, .sv (SV.imp_refl _), .sv (SV.imp_refl _), trivial⟩ ⟨⟨_, rfl, ⟨.sv (SV.imp_refl _), trivial⟩⟩, trivial⟩ ⟨⟨_, rfl, SVIs.refl _⟩, trivial⟩ (fun _ _ => rfl)) (fun s10 y10 G10 h hG10 hE10 => ?_)
    obtain ⟨y14l5, b11_0l5, r1000l5⟩ := s10
    try dsimp only
    refine ok_seq ?_
    refine ok_region ?_
    replace h := let_some h
    obtain ⟨x15, h15, h⟩ := h
    refine RT.lss .none _ rfl rfl (tl rfl) h15 ?_
    refine RT.done ?_
    refine AThen.n ?_
    refine ok_seq ?_
    cases x15
    · replace h := br_f h
      refine ok_condF rfl ?_
      refine ok_exit ?_
      refine AThen.x ?_
      refine AThen.x ?_
      refine AInB.x ?_
      refine AThen.n ?_
      obtain rfl := Option.some.inj h
      refine ⟨(b11_0l5, r1000l5), hE10 _ rfl, ?_⟩
      try dsimp only
      exact weakL id rfl rfl rfl rfl rfl ⟨.row rfl, .clo, trivial⟩ ⟨⟨_, rfl, ⟨.sv (SV.imp_refl _), trivial⟩⟩, trivial⟩ ⟨⟨_, rfl, SVIs.refl _⟩, trivial⟩ (fun _ _ => rfl)
    · replace h := br_t h
      refine ok_condT rfl ?_
      refine ok_skip ?_
      refine AThen.n ?_
      refine ok_seq ?_
      refine ok_block ?_
      refine ok_seq ?_
      refine ok_region ?_
      refine RT.mv .none rfl (tl rfl) ?_
      replace h := bind_some h
      obtain ⟨x17, h17, h⟩ := h
      refine RT.ixRM .none rfl rfl rfl (tl rfl) h17 ?_
      replace h := bind_some h
      obtain ⟨x18, h18, h⟩ := h
      refine RT.ldRM .none rfl rfl h18 rfl (tl rfl) ?_
      refine RT.asg .none rfl (tl rfl) ?_
      refine RT.asg .none rfl (tl rfl) ?_
      refine RT.done ?_
      refine AThen.n ?_
      refine ok_region ?_
      refine RT.move .none (s := .row _) rfl (tl rfl) ?_
      refine RT.mv .none rfl (tl rfl) ?_
      refine RT.move .none (s := .clo _ _) rfl (tl rfl) ?_
      refine RT.mv .none rfl (tl rfl) ?_
      replace h := let_some h
      obtain ⟨x23, h23, h⟩ := h
      refine RT.conv .none _ rfl (tl rfl) (UK.nat h23) ?_
      refine RT.mv .none rfl (tl rfl) ?_
      replace h := let_some h
      obtain ⟨x25, h25, h⟩ := h
      refine RT.mul .none _ rfl rfl (tl rfl) (UK.mul (a := x23) (b := x1) h25) ?_
      replace h := bind_some h
      obtain ⟨⟨x26, k13⟩, h26, h⟩ := h
      refine RT.callB .none (whole_carrier_1_ok h26) 11 rfl rfl ⟨rfl, trivial⟩ (tl rfl) ?_
      replace h := bind_some h
      obtain ⟨x27, h27, h⟩ := h
      refine RT.ixRM .none rfl rfl rfl (tl rfl) h27 ?_
      replace h := bind_some h
      obtain ⟨l14, hl14_, h⟩ := h
      refine RT.stRM .none x26 rfl rfl rfl rfl hl14_ ?_
      refine RT.done ?_
      refine AInB.n ?_
      refine AThen.n ?_
      refine ok_region ?_
      replace h := let_some h
      obtain ⟨x28, h28, h⟩ := h
      refine RT.add .none _ rfl rfl (tl rfl) h28 ?_
      refine RT.mv .none rfl (tl rfl) ?_
      refine RT.done ?_
      obtain rfl := Option.some.inj h
      refine AThen.n ⟨(x28, k13, l14), hG10 _ rfl, ?_⟩
      try dsimp only
      exact weakL id rfl rfl rfl rfl rfl ⟨.row rfl, .sv (SV.imp_refl _), .clo, .row rfl, .sv (SV.imp_refl _), .sv (SV.imp_refl _), trivial⟩ ⟨⟨_, rfl, ⟨.sv (SV.imp_refl _), trivial⟩⟩, trivial⟩ ⟨⟨_, rfl, SVIs.refl _⟩, trivial⟩ (fun _ _ => rfl)
  · subst hx10
    obtain ⟨b11_0e9, r1000e9⟩ := xe10
    try dsimp only
    refine AThen.n ?_
    refine ok_seq ?_
    refine ok_region ?_
    refine RT.move .none (s := .row _) rfl (tl rfl) ?_
    refine RT.move .none (s := .clo _ _) rfl (tl rfl) ?_
    replace ho10 := bind_some ho10
    obtain ⟨⟨x31, k16⟩, h31, ho10⟩ := ho10
    refine RT.callB .none (whole_carrier_1_ok h31) 11 rfl rfl ⟨rfl, trivial⟩ (tl rfl) ?_
    refine RT.buildSl (l := [x31]) (e := eU32) .none (.one rfl (.nil)) (tl rfl) rfl rfl rfl rfl rfl rfl ?_
    replace ho10 := bind_some ho10
    obtain ⟨x33, h33, ho10⟩ := ho10
    refine RT.apR (k := [x31]) (e := eU32) .none rfl rfl rfl (tl rfl) rfl (tl rfl) h33 ?_
    refine RT.assign .none (s := .row _) rfl (tl rfl) ?_
    refine RT.done ?_
    refine AThen.n ?_
    refine ok_ret ?_
    obtain rfl := Option.some.inj ho10
    exact ⟨.inr rfl, _, .tmp rfl, rfl⟩
theorem whole_shortDiv_ok {x0 : List Nat} {x1 : Nat} {r : Nat × List Nat} (h : whole_shortDiv_m x0 x1 = some r) : RowC Try.prog 57 [.row 1000, .sv (.v (.int .u64 ((x1 : Nat) : Int)))] (TR 51 1 eU32 x0) (.sv (.v (.int .u64 ((r.1 : Nat) : Int)))) (List.flatMap eU32 r.2) := by
  refine rowC_of_ok Try.func57 rfl (Nat.le_of_ble_eq_true rfl) rfl rfl (fun wld M v0 => ?_)
  unfold whole_shortDiv_m at h
  refine ok_seq ?_
  refine ok_region ?_
  refine RT.asg .none rfl (tl rfl) ?_
  refine RT.done ?_
  refine AThen.n ?_
  refine ok_seq ?_
  refine ok_region ?_
  refine RT.asg .none rfl (tl rfl) ?_
  refine RT.done ?_
  refine AThen.n ?_
  refine ok_seq ?_
  refine ok_seq ?_
  refine ok_region ?_
  refine RT.move .none (s := .row _) rfl (tl rfl) ?_
  replace h := let_some h
  obtain ⟨x9, h9, h⟩ := h
  refine RT.lenRM .none rfl rfl (tl rfl) h9 ?_
  replace h := let_some h
  obtain ⟨x10, h10, h⟩ := h
  refine RT.sub .none _ rfl rfl (tl rfl) h10 ?_
  refine RT.asg .none rfl (tl rfl) ?_
  refine RT.done ?_
  refine AThen.n ?_
  replace h := bind_some h
  obtain ⟨e8, hl8, ho8⟩ := h
  refine ok_tailP (fun (xe8 : Nat × (List Nat)) => AS.mkL 34 [(5, .sv (.v (.int .u64 ((xe8.1 : Nat) : Int))))] [] [(1000, TR 51 1 eU32 xe8.2)]) (fun xe8 => xe8 = e8) ?_ (fun xe8 hx8 => ?_)
  · refine ok_block ?_
    refine ok_loopM hl8 (fun s8 => AS.mkL 34 [(0, .row 1000), (1, .sv (.v (.int .u64 ((x1 : Nat) : Int)))), (5, .sv (.v (.int .u64 ((s8.1 : Nat) : Int)))), (6, .sv (.v (.int .i64 s8.2.1)))] [] [(1000, TR 51 1 eU32 s8.2.2)]) (by (try dsimp only); exact weakL id rfl rfl rfl rfl rfl ⟨.row rfl, .sv (SV.imp_refl _), .sv (SV.imp_refl _), .sv (SV.imp_refl _), trivial⟩ trivial ⟨⟨_, rfl, SVIs.refl _⟩, trivial⟩ (fun _ _ => rfl)) (fun s8 y8 G8 h hG8 hE8 => ?_)
    obtain ⟨y5l4, y6l4, r1000l4⟩ := s8
    try dsimp only
    refine ok_seq ?_
    refine ok_seq ?_
    refine ok_region ?_
    refine RT.mv .none rfl (tl rfl) ?_
    replace h := let_some h
    obtain ⟨x12, h12, h⟩ := h
    refine RT.geq .none _ rfl rfl (tl rfl) h12 ?_
    refine RT.done ?_
    refine AThen.n ?_
    cases x12
    · replace h := br_f h
      refine ok_condF rfl ?_
      refine ok_exit ?_
      refine AThen.x ?_
      refine AThen.x ?_
      refine AInB.x ?_
      refine AThen.n ?_
      obtain rfl := Option.some.inj h
      refine ⟨(y5l4, r1000l4), hE8 _ rfl, ?_⟩
      try dsimp only
      exact weakL id rfl rfl rfl rfl rfl ⟨.sv (SV.imp_refl _), trivial⟩ trivial ⟨⟨_, rfl, SVIs.refl _⟩, trivial⟩ (fun _ _ => rfl)
    · replace h := br_t h
      refine ok_condT rfl ?_
      refine ok_skip ?_
      refine AThen.n ?_
      refine ok_seq ?_
      refine ok_block ?_
      refine ok_seq ?_
      refine ok_region ?_
      refine RT.mv .none rfl (tl rfl) ?_
      replace h := let_some h
      obtain ⟨x16, h16, h⟩ := h
      refine RT.shl .none _ rfl rfl (tl rfl) (by decide) (UK.shl (a := y5l4) (q := 32) (s := 32) rfl h16) ?_
      refine RT.move .none (s := .row _) rfl (tl rfl) ?_
      refine RT.mv .none rfl (tl rfl) ?_
      replace h := bind_some h
      obtain ⟨x19, h19, h⟩ := h
      refine RT.ixRM .none rfl rfl rfl (tl rfl) h19 ?_
      replace h := bind_some h
      obtain ⟨x20, h20, h⟩ := h
      refine RT.ldRM .none rfl rfl h20 rfl (tl rfl) ?_
      replace h := let_some h
      obtain ⟨x21, h21, h⟩ := h
      refine RT.conv .none _ rfl (tl rfl) (UK.nat h21) ?_
      replace h := let_some h
      obtain ⟨x22, h22, h⟩ := h
      refine RT.or .none _ rfl rfl (tl rfl) (UK.or (a := x16) (b := x21) h22) ?_
      refine RT.asg .none rfl (tl rfl) ?_
      refine RT.done ?_
      refine AThen.n ?_
      refine ok_seq ?_
      refine ok_region ?_
      refine RT.move .none (s := .row _) rfl (tl rfl) ?_
      refine RT.mv .none rfl (tl rfl) ?_
      refine RT.mv .none rfl (tl rfl) ?_
      refine RT.mv .none rfl (tl rfl) ?_
      replace h := bind_some h
      obtain ⟨x27, h27, h⟩ := h
      refine RT.quo .none _ rfl rfl (tl rfl) (nzU h27) (UK.quo h27) ?_
      replace h := let_some h
      obtain ⟨x28, h28, h⟩ := h
      refine RT.conv .none _ rfl (tl rfl) (UK.nat h28) ?_
      replace h := bind_some h
      obtain ⟨x29, h29, h⟩ := h
      refine RT.ixRM .none rfl rfl rfl (tl rfl) h29 ?_
      replace h := bind_some h
      obtain ⟨l10, hl10_, h⟩ := h
      refine RT.stRM .none x28 rfl rfl rfl rfl hl10_ ?_
      refine RT.done ?_
      refine AThen.n ?_
      refine ok_region ?_
      refine RT.mv .none rfl (tl rfl) ?_
      refine RT.mv .none rfl (tl rfl) ?_
      replace h := bind_some h
      obtain ⟨x32, h32, h⟩ := h
      refine RT.rem .none _ rfl rfl (tl rfl) (nzR h32) (remU h32) ?_
      refine RT.asg .none rfl (tl rfl) ?_
      refine RT.done ?_
      refine AInB.n ?_
      refine AThen.n ?_
      refine ok_region ?_
      refine RT.mv .none rfl (tl rfl) ?_
      replace h := let_some h
      obtain ⟨x14, h14, h⟩ := h
      refine RT.sub .none _ rfl rfl (tl rfl) h14 ?_
      refine RT.asg .none rfl (tl rfl) ?_
      refine RT.done ?_
      obtain rfl := Option.some.inj h
      refine AThen.n ⟨(x32, x14, l10), hG8 _ rfl, ?_⟩
      try dsimp only
      exact weakL id rfl rfl rfl rfl rfl ⟨.row rfl, .sv (SV.imp_refl _), .sv (SV.imp_refl _), .sv (SV.imp_refl _), trivial⟩ trivial ⟨⟨_, rfl, SVIs.refl _⟩, trivial⟩ (fun _ _ => rfl)
  · subst hx8
    obtain ⟨y5e7, r1000e7⟩ := xe8
    try dsimp only
    refine AThen.n ?_
    refine ok_seq ?_
    refine ok_region ?_
    refine RT.mv .none rfl (tl rfl) ?_
    refine RT.asg .none rfl (tl rfl) ?_
    refine RT.done ?_
    refine AThen.n ?_
    refine ok_ret ?_
    replace ho8 := bind_some ho8
    obtain ⟨_, hle, ho8⟩ := ho8
    obtain rfl := Option.some.inj ho8
    exact ⟨.inr rfl, .sv (res_imp (.tmp rfl (.nil)) (SV.imp_refl _)), (by show _ = RSt.live ⟨51, 1, x0.length, List.flatMap eU32 r1000e7⟩; rw [← eqLen_some hle]; rfl)⟩
theorem whole_shiftLeft_ok {x0 : List Nat} {x1 : Nat} {r : List Nat} (h : whole_shiftLeft_m x0 x1 = some r) : Pure Try.prog 77 [slc 1 (List.map eU32 x0), .v (.int .u64 ((x1 : Nat) : Int))] (slc 1 (List.map eU32 r)) := by
  refine pure_of_ok Try.func77 rfl (Nat.le_of_ble_eq_true rfl) (fun wld M vs hvs => ?_)
  unfold whole_shiftLeft_m at h
  refine ok_seq ?_
  refine ok_region ?_
  refine RT.asgI .none rfl (imp_nil (n := 1) (e := eU32)) (tl rfl) ?_
  refine RT.done ?_
  refine AThen.n ?_
  refine ok_seq ?_
  refine ok_region ?_
  refine RT.callF .none (whole_carrier_ok 0) rfl ⟨rfl, trivial⟩ (tl rfl) rfl rfl ?_
  refine RT.assign .none (s := .clo _ _) rfl (tl rfl) ?_
  refine RT.done ?_
  refine AThen.n ?_
  refine ok_seq ?_
  refine ok_region ?_
  refine RT.mv .none rfl (tl rfl) ?_
  replace h := let_some h
  obtain ⟨x11, h11, h⟩ := h
  refine RT.lenM .none rfl (tl rfl) h11 ?_
  replace h := let_some h
  obtain ⟨x12, h12, h⟩ := h
  refine RT.add .none _ rfl rfl (tl rfl) h12 ?_
  replace h := bind_some h
  obtain ⟨x13, h13, h⟩ := h
  refine RT.mkEmp (e := eU32) .none rfl rfl (tl rfl) rfl (tl rfl) h13 ?_
  refine RT.assign .none (s := .row _) rfl (tl rfl) ?_
  refine RT.done ?_
  refine AThen.n ?_
  refine ok_seq ?_
  refine ok_seq ?_
  refine ok_region ?_
  refine RT.mv .none rfl (tl rfl) ?_
  replace h := let_some h
  obtain ⟨x15, h15, h⟩ := h
  refine RT.lenM .none rfl (tl rfl) h15 ?_
  refine RT.mv .none rfl (tl rfl) ?_
  refine RT.done ?_
  refine AThen.n ?_
  replace h := bind_some h
  obtain ⟨e8, hl8, ho8⟩ := h
  refine ok_tailP (fun (xe8 : Nat × (List Nat)) => AS.mkL 35 [(5, .clo 80 [.box 9]), (6, .row 302)] [(9, ⟨59, [.sv (.v (.int .u64 ((xe8.1 : Nat) : Int)))]⟩)] [(302, TR 51 1 eU32 xe8.2)]) (fun xe8 => xe8 = e8) ?_ (fun xe8 hx8 => ?_)
  · refine ok_block ?_
    refine ok_loopM hl8 (fun s8 => AS.mkL 35 [(1, .sv (.v (.int .u64 ((x1 : Nat) : Int)))), (5, .clo 80 [.box 9]), (6, .row 302), (14, .sv (slc 1 (List.map eU32 x0))), (15, .sv (.v (.int .i64 x15))), (16, .sv (.v (.int .i64 s8.1)))] [(9, ⟨59, [.sv (.v (.int .u64 ((s8.2.1 : Nat) : Int)))]⟩)] [(302, TR 51 1 eU32 s8.2.2)]) (by (try dsimp only); exact weakL (fun i => bif Nat.beq i 302 then 13 else i) rfl rfl rfl rfl rfl ⟨.sv (SV.imp_refl _), .clo, .row rfl, .sv (SV.imp_refl _), .sv (SV.imp_refl _), .sv (SV.imp_refl _), trivial⟩ ⟨⟨_, rfl, ⟨.sv (SV.imp_refl _), trivial⟩⟩, trivial⟩ ⟨⟨_, rfl, SVIs.refl _⟩, trivial⟩ (fun i hi => by rw [beq_ne (show i ≠ 302 by omega)]; rfl)) (fun s8 y8 G8 h hG8 hE8 => ?_)
    obtain ⟨y16l4, b9_0l4, r302l4⟩ := s8
    try dsimp only
    refine ok_seq ?_
    refine ok_region ?_
    replace h := let_some h
    obtain ⟨x17, h17, h⟩ := h
    refine RT.lss .none _ rfl rfl (tl rfl) h17 ?_
    refine RT.done ?_
    refine AThen.n ?_
    refine ok_seq ?_
    cases x17
    · replace h := br_f h
      refine ok_condF rfl ?_
      refine ok_exit ?_
      refine AThen.x ?_
      refine AThen.x ?_
      refine AInB.x ?_
      refine AThen.n ?_
      obtain rfl := Option.some.inj h
      refine ⟨(b9_0l4, r302l4), hE8 _ rfl, ?_⟩
      try dsimp only
      exact weakL id rfl rfl rfl rfl rfl ⟨.clo, .row rfl, trivial⟩ ⟨⟨_, rfl, ⟨.sv (SV.imp_refl _), trivial⟩⟩, trivial⟩ ⟨⟨_, rfl, SVIs.refl _⟩, trivial⟩ (fun _ _ => rfl)
    · replace h := br_t h
      refine ok_condT rfl ?_
      refine ok_skip ?_
      refine AThen.n ?_
      refine ok_seq ?_
      refine ok_block ?_
      refine ok_seq ?_
      refine ok_region ?_
      replace h := bind_some h
      obtain ⟨x18, h18, h⟩ := h
      refine RT.ixM .none rfl rfl (tl rfl) h18 ?_
      refine RT.loadRV .none rfl rfl (tl rfl) ?_
      refine RT.asg .none rfl (tl rfl) ?_
      refine RT.done ?_
      refine AThen.n ?_
      refine ok_region ?_
      refine RT.move .none (s := .row _) rfl (tl rfl) ?_
      refine RT.move .none (s := .clo _ _) rfl (tl rfl) ?_
      refine RT.mv .none rfl (tl rfl) ?_
      replace h := let_some h
      obtain ⟨x23, h23, h⟩ := h
      refine RT.conv .none _ rfl (tl rfl) (UK.nat h23) ?_
      refine RT.mv .none rfl (tl rfl) ?_
      replace h := let_some h
      obtain ⟨x25, h25, h⟩ := h
      refine RT.shl .none _ rfl rfl (tl rfl) (Int.natCast_nonneg _) (UK.shl (a := x23) (q := ((x1 : Nat) : Int)) (s := min x1 64) rfl h25) ?_
      replace h := bind_some h
      obtain ⟨⟨x26, k10⟩, h26, h⟩ := h
      refine RT.callB .none (whole_carrier_1_ok h26) 9 rfl rfl ⟨rfl, trivial⟩ (tl rfl) ?_
      refine RT.buildSl (l := [x26]) (e := eU32) .none (.one rfl (.nil)) (tl rfl) rfl rfl rfl rfl rfl rfl ?_
      replace h := bind_some h
      obtain ⟨x28, h28, h⟩ := h
      refine RT.apR (k := [x26]) (e := eU32) .none rfl rfl rfl (tl rfl) rfl (tl rfl) h28 ?_
      refine RT.assign .none (s := .row _) rfl (tl rfl) ?_
      refine RT.done ?_
      refine AInB.n ?_
      refine AThen.n ?_
      refine ok_region ?_
      replace h := let_some h
      obtain ⟨x29, h29, h⟩ := h
      refine RT.add .none _ rfl rfl (tl rfl) h29 ?_
      refine RT.mv .none rfl (tl rfl) ?_
      refine RT.done ?_
      obtain rfl := Option.some.inj h
      refine AThen.n ⟨(x29, k10, x28), hG8 _ rfl, ?_⟩
      try dsimp only
      exact weakL (fun i => bif Nat.beq i 302 then 28 else i) rfl rfl rfl rfl rfl ⟨.sv (SV.imp_refl _), .clo, .row rfl, .sv (SV.imp_refl _), .sv (SV.imp_refl _), .sv (SV.imp_refl _), trivial⟩ ⟨⟨_, rfl, ⟨.sv (SV.imp_refl _), trivial⟩⟩, trivial⟩ ⟨⟨_, rfl, SVIs.refl _⟩, trivial⟩ (fun i hi => by rw [beq_ne (show i ≠ 302 by omega)]; rfl)
  · subst hx8
    obtain ⟨b9_0e7, r302e7⟩ := xe8
    try dsimp only
    refine AThen.n ?_
    refine ok_seq ?_
    refine ok_region ?_
    refine RT.move .none (s := .row _) rfl (tl rfl) ?_
    refine RT.move .none (s := .clo _ _) rfl (tl rfl) ?_
    replace ho8 := bind_some ho8
    obtain ⟨⟨x32, k12⟩, h32, ho8⟩ := ho8
    refine RT.callB .none (whole_carrier_1_ok h32) 9 rfl rfl ⟨rfl, trivial⟩ (tl rfl) ?_
    refine RT.buildSl (l := [x32]) (e := eU32) .none (.one rfl (.nil)) (tl rfl) rfl rfl rfl rfl rfl rfl ?_
    replace ho8 := bind_some ho8
    obtain ⟨x34, h34, ho8⟩ := ho8
    refine RT.apIR (k := [x32]) (e := eU32) .none rfl rfl rfl (tl rfl) rfl (tl rfl) h34 ?_
    refine RT.asg .none rfl (tl rfl) ?_
    refine RT.done ?_
    refine AThen.n ?_
    refine ok_ret ?_
    obtain rfl := Option.some.inj ho8
    exact ⟨.inr rfl, res_imp (.tmp rfl (.nil)) (SV.imp_refl _)⟩
theorem whole_shiftLeftN_ok {x0 : List Nat} {x1 : Nat} {r : List Nat} (h : whole_shiftLeftN_m x0 x1 = some r) : NewC Try.prog 77 [slc 1 (List.map eU32 x0), .v (.int .u64 ((x1 : Nat) : Int))] (TR 51 1 eU32 r) := by
  refine newC_of_ok Try.func77 rfl (Nat.le_of_ble_eq_true rfl) (fun wld M vs hvs => ?_)
  unfold whole_shiftLeftN_m at h
  refine ok_seq ?_
  refine ok_region ?_
  refine RT.asg .none rfl (tl rfl) ?_
  refine RT.done ?_
  refine AThen.n ?_
  refine ok_weak (weak_nil 4 304 51 1 rfl rfl (tl rfl)) ?_
  refine ok_seq ?_
  refine ok_region ?_
  refine RT.callF .none (whole_carrier_ok 0) rfl ⟨rfl, trivial⟩ (tl rfl) rfl rfl ?_
  refine RT.assign .none (s := .clo _ _) rfl (tl rfl) ?_
  refine RT.done ?_
  refine AThen.n ?_
  refine ok_seq ?_
  refine ok_region ?_
  refine RT.mv .none rfl (tl rfl) ?_
  replace h := let_some h
  obtain ⟨x11, h11, h⟩ := h
  refine RT.lenM .none rfl (tl rfl) h11 ?_
  replace h := let_some h
  obtain ⟨x12, h12, h⟩ := h
  refine RT.add .none _ rfl rfl (tl rfl) h12 ?_
  replace h := bind_some h
  obtain ⟨x13, h13, h⟩ := h
  refine RT.mkEmp (e := eU32) .none rfl rfl (tl rfl) rfl (tl rfl) h13 ?_
  refine RT.assign .none (s := .row _) rfl (tl rfl) ?_
  refine RT.done ?_
  refine AThen.n ?_
  refine ok_seq ?_
  refine ok_seq ?_
  refine ok_region ?_
  refine RT.mv .none rfl (tl rfl) ?_
  replace h := let_some h
  obtain ⟨x15, h15, h⟩ := h
  refine RT.lenM .none rfl (tl rfl) h15 ?_
  refine RT.mv .none rfl (tl rfl) ?_
  refine RT.done ?_
  refine AThen.n ?_
  replace h := bind_some h
  obtain ⟨e8, hl8, ho8⟩ := h
  refine ok_tailP (fun (xe8 : Nat × (List Nat)) => AS.mkL 35 [(5, .clo 80 [.box 9]), (6, .row 306)] [(9, ⟨59, [.sv (.v (.int .u64 ((xe8.1 : Nat) : Int)))]⟩)] [(306, TR 51 1 eU32 xe8.2)]) (fun xe8 => xe8 = e8) ?_ (fun xe8 hx8 => ?_)
  · refine ok_block ?_
    refine ok_loopM hl8 (fun s8 => AS.mkL 35 [(1, .sv (.v (.int .u64 ((x1 : Nat) : Int)))), (5, .clo 80 [.box 9]), (6, .row 306), (14, .sv (slc 1 (List.map eU32 x0))), (15, .sv (.v (.int .i64 x15))), (16, .sv (.v (.int .i64 s8.1)))] [(9, ⟨59, [.sv (.v (.int .u64 ((s8.2.1 : Nat) : Int)))]⟩)] [(306, TR 51 1 eU32 s8.2.2)]) (by (try dsimp only); exact weakL (fun i => bif Nat.beq i 306 then 13 else i) rfl rfl rfl rfl rfl ⟨.sv (SV.imp_refl _), .clo, .row rfl, .sv (SV.imp_refl _), .sv (SV.imp_refl _), .sv (SV.imp_refl _), trivial⟩ ⟨⟨_, rfl, ⟨.sv (SV.imp_refl _), trivial⟩⟩, trivial⟩ ⟨⟨_, rfl, SVIs.refl _⟩, trivial⟩ (fun i hi => by rw [beq_ne (show i ≠ 306 by omega)]; rfl)) (fun s8 y8 G8 h hG8 hE8 => ?_)
    obtain ⟨y16l4, b9_0l4, r306l4⟩ := s8
    try dsimp only
    refine ok_seq ?_
    refine ok_region ?_
    replace h := let_some h
    obtain ⟨x17, h17, h⟩ := h
    refine RT.lss .none _ rfl rfl (tl rfl) h17 ?_
    refine RT.done ?_
    refine AThen.n ?_
    refine ok_seq ?_
    cases x17
    · replace h := br_f h
      refine ok_condF rfl ?_
      refine ok_exit ?_
      refine AThen.x ?_
      refine AThen.x ?_
      refine AInB.x ?_
      refine AThen.n ?_
      obtain rfl := Option.some.inj h
      refine ⟨(b9_0l4, r306l4), hE8 _ rfl, ?_⟩
      try dsimp only
      exact weakL id rfl rfl rfl rfl rfl ⟨.clo, .row rfl, trivial⟩ ⟨⟨_, rfl, ⟨.sv (SV.imp_refl _), trivial⟩⟩, trivial⟩ ⟨⟨_, rfl, SVIs.refl _⟩, trivial⟩ (fun _ _ => rfl)
    · replace h := br_t h
      refine ok_condT rfl ?_
      refine ok_skip ?_
      refine AThen.n ?_
      refine ok_seq ?_
      refine ok_block ?_
      refine ok_seq ?_
      refine ok_region ?_
      replace h := bind_some h
      obtain ⟨x18, h18, h⟩ := h
      refine RT.ixM .none rfl rfl (tl rfl) h18 ?_
      refine RT.loadRV .none rfl rfl (tl rfl) ?_
      refine RT.asg .none rfl (tl rfl) ?_
      refine RT.done ?_
      refine AThen.n ?_
      refine ok_region ?_
      refine RT.move .none (s := .row _) rfl (tl rfl) ?_
      refine RT.move .none (s := .clo _ _) rfl (tl rfl) ?_
      refine RT.mv .none rfl (tl rfl) ?_
      replace h := let_some h
      obtain ⟨x23, h23, h⟩ := h
      refine RT.conv .none _ rfl (tl rfl) (UK.nat h23) ?_
      refine RT.mv .none rfl (tl rfl) ?_
      replace h := let_some h
      obtain ⟨x25, h25, h⟩ := h
      refine RT.shl .none _ rfl rfl (tl rfl) (Int.natCast_nonneg _) (UK.shl (a := x23) (q := ((x1 : Nat) : Int)) (s := min x1 64) rfl h25) ?_
      replace h := bind_some h
      obtain ⟨⟨x26, k10⟩, h26, h⟩ := h
      refine RT.callB .none (whole_carrier_1_ok h26) 9 rfl rfl ⟨rfl, trivial⟩ (tl rfl) ?_
      refine RT.buildSl (l := [x26]) (e := eU32) .none (.one rfl (.nil)) (tl rfl) rfl rfl rfl rfl rfl rfl ?_
      replace h := bind_some h
      obtain ⟨x28, h28, h⟩ := h
      refine RT.apR (k := [x26]) (e := eU32) .none rfl rfl rfl (tl rfl) rfl (tl rfl) h28 ?_
      refine RT.assign .none (s := .row _) rfl (tl rfl) ?_
      refine RT.done ?_
      refine AInB.n ?_
      refine AThen.n ?_
      refine ok_region ?_
      replace h := let_some h
      obtain ⟨x29, h29, h⟩ := h
      refine RT.add .none _ rfl rfl (tl rfl) h29 ?_
      refine RT.mv .none rfl (tl rfl) ?_
      refine RT.done ?_
      obtain rfl := Option.some.inj h
      refine AThen.n ⟨(x29, k10, x28), hG8 _ rfl, ?_⟩
      try dsimp only
      exact weakL (fun i => bif Nat.beq i 306 then 28 else i) rfl rfl rfl rfl rfl ⟨.sv (SV.imp_refl _), .clo, .row rfl, .sv (SV.imp_refl _), .sv (SV.imp_refl _), .sv (SV.imp_refl _), trivial⟩ ⟨⟨_, rfl, ⟨.sv (SV.imp_refl _), trivial⟩⟩, trivial⟩ ⟨⟨_, rfl, SVIs.refl _⟩, trivial⟩ (fun i hi => by rw [beq_ne (show i ≠ 306 by omega)]; rfl)
  · subst hx8
    obtain ⟨b9_0e7, r306e7⟩ := xe8
    try dsimp only
    refine AThen.n ?_
    refine ok_seq ?_
    refine ok_region ?_
    refine RT.move .none (s := .row _) rfl (tl rfl) ?_
    refine RT.move .none (s := .clo _ _) rfl (tl rfl) ?_
    replace ho8 := bind_some ho8
    obtain ⟨⟨x32, k12⟩, h32, ho8⟩ := ho8
    refine RT.callB .none (whole_carrier_1_ok h32) 9 rfl rfl ⟨rfl, trivial⟩ (tl rfl) ?_
    refine RT.buildSl (l := [x32]) (e := eU32) .none (.one rfl (.nil)) (tl rfl) rfl rfl rfl rfl rfl rfl ?_
    replace ho8 := bind_some ho8
    obtain ⟨x34, h34, ho8⟩ := ho8
    refine RT.apR (k := [x32]) (e := eU32) .none rfl rfl rfl (tl rfl) rfl (tl rfl) h34 ?_
    refine RT.assign .none (s := .row _) rfl (tl rfl) ?_
    refine RT.done ?_
    refine AThen.n ?_
    refine ok_ret ?_
    obtain rfl := Option.some.inj ho8
    exact ⟨.inr rfl, _, .tmp rfl, rfl⟩
theorem math_bits_Len32_ok {x0 : Nat} {r : Int} (h : math_bits_Len32_m x0 = some r) : Pure Try.prog 83 [.v (.int .u32 ((x0 : Nat) : Int))] (.v (.int .i64 r)) := by
  refine pure_of_ok Try.func83 rfl (Nat.le_of_ble_eq_true rfl) (fun wld M vs hvs => ?_)
  unfold math_bits_Len32_m at h
  refine ok_seq ?_
  refine ok_region ?_
  refine RT.asg .none rfl (tl rfl) ?_
  refine RT.done ?_
  refine AThen.n ?_
  refine ok_seq ?_
  refine ok_seq ?_
  refine ok_region ?_
  refine RT.mv .none rfl (tl rfl) ?_
  replace h := let_some h
  obtain ⟨x4, h4, h⟩ := h
  refine RT.geq .none _ rfl rfl (tl rfl) (leN (p := 65536) (q := x0) h4) ?_
  refine RT.done ?_
  refine AThen.n ?_
  refine ok_tailJ h (fun j2 => AS.mkL 19 [(0, .sv (.v (.int .u32 ((j2.1 : Nat) : Int)))), (2, .sv (.v (.int .i64 j2.2)))] [] []) (fun h => ?_) (fun j2 h => ?_)
  · cases x4
    · replace h := br_f h
      refine ok_condF rfl ?_
      refine ok_skip ?_
      refine AThen.n ?_
      refine ⟨(x0, 0), h, ?_⟩
      try dsimp only
      exact weakL id rfl rfl rfl rfl rfl ⟨.sv (SV.imp_refl _), .sv (SV.imp_refl _), trivial⟩ trivial trivial (fun _ _ => rfl)
    · replace h := br_t h
      refine ok_condT rfl ?_
      refine ok_seq ?_
      refine ok_region ?_
      refine RT.mv .none rfl (tl rfl) ?_
      replace h := let_some h
      obtain ⟨x6, h6, h⟩ := h
      refine RT.shr .none _ rfl rfl (tl rfl) (by decide) (shrU (k := .u32) (a := x0) (q := 16) (s := 16) rfl h6) ?_
      refine RT.asg .none rfl (tl rfl) ?_
      refine RT.done ?_
      refine AThen.n ?_
      refine ok_region ?_
      refine RT.asg .none rfl (tl rfl) ?_
      refine RT.done ?_
      refine AThen.n ?_
      refine ⟨(x6, 16), h, ?_⟩
      try dsimp only
      exact weakL id rfl rfl rfl rfl rfl ⟨.sv (SV.imp_refl _), .sv (SV.imp_refl _), trivial⟩ trivial trivial (fun _ _ => rfl)
  · obtain ⟨y0j1, y2j1⟩ := j2
    try dsimp only
    refine AThen.n ?_
    refine ok_seq ?_
    refine ok_seq ?_
    refine ok_region ?_
    refine RT.mv .none rfl (tl rfl) ?_
    replace h := let_some h
    obtain ⟨x8, h8, h⟩ := h
    refine RT.geq .none _ rfl rfl (tl rfl) (leN (p := 256) (q := y0j1) h8) ?_
    refine RT.done ?_
    refine AThen.n ?_
    refine ok_tailJ h (fun j4 => AS.mkL 19 [(0, .sv (.v (.int .u32 ((j4.1 : Nat) : Int)))), (2, .sv (.v (.int .i64 j4.2)))] [] []) (fun h => ?_) (fun j4 h => ?_)
    · cases x8
      · replace h := br_f h
        refine ok_condF rfl ?_
        refine ok_skip ?_
        refine AThen.n ?_
        refine ⟨(y0j1, y2j1), h, ?_⟩
        try dsimp only
        exact weakL id rfl rfl rfl rfl rfl ⟨.sv (SV.imp_refl _), .sv (SV.imp_refl _), trivial⟩ trivial trivial (fun _ _ => rfl)
      · replace h := br_t h
        refine ok_condT rfl ?_
        refine ok_seq ?_
        refine ok_region ?_
        refine RT.mv .none rfl (tl rfl) ?_
        replace h := let_some h
        obtain ⟨x10, h10, h⟩ := h
        refine RT.shr .none _ rfl rfl (tl rfl) (by decide) (shrU (k := .u32) (a := y0j1) (q := 8) (s := 8) rfl h10) ?_
        refine RT.asg .none rfl (tl rfl) ?_
        refine RT.done ?_
        refine AThen.n ?_
        refine ok_region ?_
        refine RT.mv .none rfl (tl rfl) ?_
        replace h := let_some h
        obtain ⟨x12, h12, h⟩ := h
        refine RT.add .none _ rfl rfl (tl rfl) h12 ?_
        refine RT.asg .none rfl (tl rfl) ?_
        refine RT.done ?_
        refine AThen.n ?_
        refine ⟨(x10, x12), h, ?_⟩
        try dsimp only
        exact weakL id rfl rfl rfl rfl rfl ⟨.sv (SV.imp_refl _), .sv (SV.imp_refl _), trivial⟩ trivial trivial (fun _ _ => rfl)
    · obtain ⟨y0j3, y2j3⟩ := j4
      try dsimp only
      refine AThen.n ?_
      refine ok_seq ?_
      refine ok_region ?_
      refine RT.mv .none rfl (tl rfl) ?_
      refine RT.mv .none rfl (tl rfl) ?_
      replace h := let_some h
      obtain ⟨x15, h15, h⟩ := h
      refine RT.conv .none _ rfl (tl rfl) (UK.nat h15) ?_
      replace h := bind_some h
      obtain ⟨x16, h16, h⟩ := h
      refine RT.six (l := [0, 1, 2, 2, 3, 3, 3, 3, 4, 4, 4, 4, 4, 4, 4, 4, 5, 5, 5, 5, 5, 5, 5, 5, 5, 5, 5, 5, 5, 5, 5, 5, 6, 6, 6, 6, 6, 6, 6, 6, 6, 6, 6, 6, 6, 6, 6, 6, 6, 6, 6, 6, 6, 6, 6, 6, 6, 6, 6, 6, 6, 6, 6, 6, 7, 7, 7, 7, 7, 7, 7, 7, 7, 7, 7, 7, 7, 7, 7, 7, 7, 7, 7, 7, 7, 7, 7, 7, 7, 7, 7, 7, 7, 7, 7, 7, 7, 7, 7, 7, 7, 7, 7, 7, 7, 7, 7, 7, 7, 7, 7, 7, 7, 7, 7, 7, 7, 7, 7, 7, 7, 7, 7, 7, 7, 7, 7, 7, 8, 8, 8, 8, 8, 8, 8, 8, 8, 8, 8, 8, 8, 8, 8, 8, 8, 8, 8, 8, 8, 8, 8, 8, 8, 8, 8, 8, 8, 8, 8, 8, 8, 8, 8, 8, 8, 8, 8, 8, 8, 8, 8, 8, 8, 8, 8, 8, 8, 8, 8, 8, 8, 8, 8, 8, 8, 8, 8, 8, 8, 8, 8, 8, 8, 8, 8, 8, 8, 8, 8, 8, 8, 8, 8, 8, 8, 8, 8, 8, 8, 8, 8, 8, 8, 8, 8, 8, 8, 8, 8, 8, 8, 8, 8, 8, 8, 8, 8, 8, 8, 8, 8, 8, 8, 8, 8, 8, 8, 8, 8, 8, 8, 8, 8, 8, 8, 8, 8, 8, 8, 8, 8, 8, 8, 8, 8, 8]) .none rfl rfl (tl rfl) h16 ?_
      replace h := let_some h
      obtain ⟨x17, h17, h⟩ := h
      refine RT.conv .none _ rfl (tl rfl) h17 ?_
      replace h := let_some h
      obtain ⟨x18, h18, h⟩ := h
      refine RT.add .none _ rfl rfl (tl rfl) h18 ?_
      refine RT.asg .none rfl (tl rfl) ?_
      refine RT.done ?_
      refine AThen.n ?_
      refine ok_ret ?_
      obtain rfl := Option.some.inj h
      exact ⟨.inr rfl, res_imp (.tmp rfl (.nil)) (SV.imp_refl _)⟩
theorem math_bits_LeadingZeros32_ok {x0 : Nat} {r : Int} (h : math_bits_LeadingZeros32_m x0 = some r) : Pure Try.prog 76 [.v (.int .u32 ((x0 : Nat) : Int))] (.v (.int .i64 r)) := by
  refine pure_of_ok Try.func76 rfl (Nat.le_of_ble_eq_true rfl) (fun wld M vs hvs => ?_)
  unfold math_bits_LeadingZeros32_m at h
  refine ok_seq ?_
  refine ok_region ?_
  refine RT.asg .none rfl (tl rfl) ?_
  refine RT.done ?_
  refine AThen.n ?_
  refine ok_seq ?_
  refine ok_region ?_
  refine RT.mv .none rfl (tl rfl) ?_
  replace h := bind_some h
  obtain ⟨x4, h4, h⟩ := h
  refine RT.call .none (math_bits_Len32_ok h4) rfl ⟨rfl, trivial⟩ (tl rfl) ?_
  replace h := let_some h
  obtain ⟨x5, h5, h⟩ := h
  refine RT.sub .none _ rfl rfl (tl rfl) h5 ?_
  refine RT.asg .none rfl (tl rfl) ?_
  refine RT.done ?_
  refine AThen.n ?_
  refine ok_ret ?_
  obtain rfl := Option.some.inj h
  exact ⟨.inr rfl, res_imp (.tmp rfl (.nil)) (SV.imp_refl _)⟩
theorem whole_estimate_ok {x0 : List Nat} {o0 : Nat} {n0 : Nat} {x1 : List Nat} {r : Nat × List Nat} (h : whole_estimate_m x0 o0 n0 x1 = some r) : RowC Try.prog 78 [.rsl 1000 (o0 * 1) n0, .sv (slc 1 (List.map eU32 x1))] (TR 51 1 eU32 x0) (.sv (.v (.int .u64 ((r.1 : Nat) : Int)))) (List.flatMap eU32 r.2) := by
  refine rowC_of_ok Try.func78 rfl (Nat.le_of_ble_eq_true rfl) rfl rfl (fun wld M v0 => ?_)
  unfold whole_estimate_m at h
  refine ok_seq ?_
  refine ok_region ?_
  refine RT.asg .none rfl (tl rfl) ?_
  refine RT.done ?_
  refine AThen.n ?_
  refine ok_seq ?_
  refine ok_region ?_
  refine RT.mv .none rfl (tl rfl) ?_
  replace h := let_some h
  obtain ⟨x12, h12, h⟩ := h
  refine RT.lenM .none rfl (tl rfl) h12 ?_
  refine RT.asg .none rfl (tl rfl) ?_
  refine RT.done ?_
  refine AThen.n ?_
  refine ok_seq ?_
  refine ok_region_draw mixed ?_
  refine RT.move .none (s := .rsl _ _ _) rfl (tl rfl) ?_
  refine RT.mv .none rfl (tl rfl) ?_
  replace h := bind_some h
  obtain ⟨x15, h15, h⟩ := h
  refine RT.ixRsM .none rfl rfl (tl rfl) h15 ?_
  replace h := bind_some h
  obtain ⟨x16, h16, h⟩ := h
  refine RT.ldRM .none rfl rfl h16 rfl (tl rfl) ?_
  replace h := let_some h
  obtain ⟨x17, h17, h⟩ := h
  refine RT.conv .none _ rfl (tl rfl) (UK.nat h17) ?_
  replace h := let_some h
  obtain ⟨x18, h18, h⟩ := h
  refine RT.shl .none _ rfl rfl (tl rfl) (by decide) (UK.shl (a := x17) (q := 32) (s := 32) rfl h18) ?_
  refine RT.move .none (s := .rsl _ _ _) rfl (tl rfl) ?_
  refine RT.mv .none rfl (tl rfl) ?_
  replace h := let_some h
  obtain ⟨x21, h21, h⟩ := h
  refine RT.sub .none _ rfl rfl (tl rfl) h21 ?_
  replace h := bind_some h
  obtain ⟨x22, h22, h⟩ := h
  refine RT.ixRsM .none rfl rfl (tl rfl) h22 ?_
  replace h := bind_some h
  obtain ⟨x23, h23, h⟩ := h
  refine RT.ldRM .none rfl rfl h23 rfl (tl rfl) ?_
  replace h := let_some h
  obtain ⟨x24, h24, h⟩ := h
  refine RT.conv .none _ rfl (tl rfl) (UK.nat h24) ?_
  replace h := let_some h
  obtain ⟨x25, h25, h⟩ := h
  refine RT.or .none _ rfl rfl (tl rfl) (UK.or (a := x18) (b := x24) h25) ?_
  refine RT.asg .none rfl (tl rfl) ?_
  refine RT.done ⟨by kernel_rfl, ?_⟩
  refine AThen.n ?_
  refine ok_seq ?_
  refine ok_region_draw mixed ?_
  refine RT.mv .none rfl (tl rfl) ?_
  refine RT.mv .none rfl (tl rfl) ?_
  replace h := let_some h
  obtain ⟨x28, h28, h⟩ := h
  refine RT.sub .none _ rfl rfl (tl rfl) h28 ?_
  replace h := bind_some h
  obtain ⟨x29, h29, h⟩ := h
  refine RT.ixM .none rfl rfl (tl rfl) h29 ?_
  refine RT.loadRV .none rfl rfl (tl rfl) ?_
  replace h := let_some h
  obtain ⟨x31, h31, h⟩ := h
  refine RT.conv .none _ rfl (tl rfl) (UK.nat h31) ?_
  refine RT.mv .none rfl (tl rfl) ?_
  refine RT.mv .none rfl (tl rfl) ?_
  replace h := let_some h
  obtain ⟨x34, h34, h⟩ := h
  refine RT.sub .none _ rfl rfl (tl rfl) h34 ?_
  replace h := bind_some h
  obtain ⟨x35, h35, h⟩ := h
  refine RT.ixM .none rfl rfl (tl rfl) h35 ?_
  refine RT.loadRV .none rfl rfl (tl rfl) ?_
  replace h := let_some h
  obtain ⟨x37, h37, h⟩ := h
  refine RT.conv .none _ rfl (tl rfl) (UK.nat h37) ?_
  refine RT.asg .none rfl (tl rfl) ?_
  refine RT.asg .none rfl (tl rfl) ?_
  refine RT.done ⟨by kernel_rfl, ?_⟩
  refine AThen.n ?_
  refine ok_seq ?_
  refine ok_region_draw mixed ?_
  refine RT.mv .none rfl (tl rfl) ?_
  refine RT.mv .none rfl (tl rfl) ?_
  replace h := bind_some h
  obtain ⟨x40, h40, h⟩ := h
  refine RT.quo .none _ rfl rfl (tl rfl) (nzU h40) (UK.quo h40) ?_
  refine RT.mv .none rfl (tl rfl) ?_
  refine RT.mv .none rfl (tl rfl) ?_
  replace h := bind_some h
  obtain ⟨x43, h43, h⟩ := h
  refine RT.rem .none _ rfl rfl (tl rfl) (nzR h43) (remU h43) ?_
  refine RT.asg .none rfl (tl rfl) ?_
  refine RT.asg .none rfl (tl rfl) ?_
  refine RT.done ⟨by kernel_rfl, ?_⟩
  refine AThen.n ?_
  refine ok_seq ?_
  replace h := bind_some h
  obtain ⟨e10, hl10, ho10⟩ := h
  refine ok_tailP (fun (y9e9 : Nat) => AS.mkL 71 [(9, .sv (.v (.int .u64 ((y9e9 : Nat) : Int))))] [] [(1000, TR 51 1 eU32 x0)]) (fun y9e9 => y9e9 = e10) ?_ (fun y9e9 hx10 => ?_)
  · refine ok_block ?_
    refine ok_loopM hl10 (fun s10 => AS.mkL 71 [(0, .rsl 1000 (o0 * 1) n0), (5, .sv (.v (.int .i64 x12))), (7, .sv (.v (.int .u64 ((x31 : Nat) : Int)))), (8, .sv (.v (.int .u64 ((x37 : Nat) : Int)))), (9, .sv (.v (.int .u64 ((s10.1 : Nat) : Int)))), (10, .sv (.v (.int .u64 ((s10.2 : Nat) : Int))))] [] [(1000, TR 51 1 eU32 x0)]) (by (try dsimp only); exact weakL id rfl rfl rfl rfl rfl ⟨.rsl rfl, .sv (SV.imp_refl _), .sv (SV.imp_refl _), .sv (SV.imp_refl _), .sv (SV.imp_refl _), .sv (SV.imp_refl _), trivial⟩ trivial ⟨⟨_, rfl, SVIs.refl _⟩, trivial⟩ (fun _ _ => rfl)) (fun s10 y10 G10 h hG10 hE10 => ?_)
    obtain ⟨y9l5, y10l5⟩ := s10
    try dsimp only
    refine ok_seq ?_
    refine ok_seq ?_
    refine ok_tailJ h (fun j13 => AS.mkL 71 [(0, .rsl 1000 (o0 * 1) n0), (5, .sv (.v (.int .i64 x12))), (7, .sv (.v (.int .u64 ((x31 : Nat) : Int)))), (8, .sv (.v (.int .u64 ((x37 : Nat) : Int)))), (9, .sv (.v (.int .u64 ((y9l5 : Nat) : Int)))), (10, .sv (.v (.int .u64 ((y10l5 : Nat) : Int)))), (61, .sv (.v (.bool j13)))] [] [(1000, TR 51 1 eU32 x0)]) (fun h => ?_) (fun y61j12 h => ?_)
    · refine ok_region ?_
      refine RT.mv .none rfl (tl rfl) ?_
      replace h := let_some h
      obtain ⟨x45, h45, h⟩ := h
      refine RT.shr .none _ rfl rfl (tl rfl) (by decide) (shrU (k := .u64) (a := y9l5) (q := 32) (s := 32) rfl h45) ?_
      replace h := let_some h
      obtain ⟨x46, h46, h⟩ := h
      refine RT.neq .none _ rfl rfl (tl rfl) (neN (p := x45) (q := 0) h46) ?_
      refine RT.mv .none rfl (tl rfl) ?_
      replace h := bind_some h
      obtain ⟨c61_14, hg14, h⟩ := h
      cases x46
      · replace hg14 := br_f hg14
        refine RT.mv (.some rfl rfl) rfl (tl rfl) ?_
        refine RT.mv (.some rfl rfl) rfl (tl rfl) ?_
        replace hg14 := let_some hg14
        obtain ⟨x50, h50, hg14⟩ := hg14
        refine RT.mul (.some rfl rfl) _ rfl rfl (tl rfl) (UK.mul (a := y9l5) (b := x37) h50) ?_
        refine RT.mv (.some rfl rfl) rfl (tl rfl) ?_
        replace hg14 := let_some hg14
        obtain ⟨x52, h52, hg14⟩ := hg14
        refine RT.shl (.some rfl rfl) _ rfl rfl (tl rfl) (by decide) (UK.shl (a := y10l5) (q := 32) (s := 32) rfl h52) ?_
        refine RT.move (.some rfl rfl) (s := .rsl _ _ _) rfl (tl rfl) ?_
        refine RT.mv (.some rfl rfl) rfl (tl rfl) ?_
        replace hg14 := let_some hg14
        obtain ⟨x55, h55, hg14⟩ := hg14
        refine RT.sub (.some rfl rfl) _ rfl rfl (tl rfl) h55 ?_
        replace hg14 := bind_some hg14
        obtain ⟨x56, h56, hg14⟩ := hg14
        refine RT.ixRsM (.some rfl rfl) rfl rfl (tl rfl) h56 ?_
        replace hg14 := bind_some hg14
        obtain ⟨x57, h57, hg14⟩ := hg14
        refine RT.ldRM (.some rfl rfl) rfl rfl h57 rfl (tl rfl) ?_
        replace hg14 := let_some hg14
        obtain ⟨x58, h58, hg14⟩ := hg14
        refine RT.conv (.some rfl rfl) _ rfl (tl rfl) (UK.nat h58) ?_
        replace hg14 := let_some hg14
        obtain ⟨x59, h59, hg14⟩ := hg14
        refine RT.or (.some rfl rfl) _ rfl rfl (tl rfl) (UK.or (a := x52) (b := x58) h59) ?_
        replace hg14 := let_some hg14
        obtain ⟨x60, h60, hg14⟩ := hg14
        refine RT.gtr (.some rfl rfl) _ rfl rfl (tl rfl) (ltN (p := x59) (q := x50) h60) ?_
        obtain rfl := Option.some.inj hg14
        refine RT.pickF .none rfl rfl (tl rfl) ?_
        refine RT.done ?_
        refine AThen.n ?_
        refine ⟨x60, h, ?_⟩
        try dsimp only
        exact weakL id rfl rfl rfl rfl rfl ⟨.rsl rfl, .sv (SV.imp_refl _), .sv (SV.imp_refl _), .sv (SV.imp_refl _), .sv (SV.imp_refl _), .sv (SV.imp_refl _), .sv (SV.imp_refl _), trivial⟩ trivial ⟨⟨_, rfl, SVIs.refl _⟩, trivial⟩ (fun _ _ => rfl)
      · replace hg14 := br_t hg14
        obtain rfl := Option.some.inj hg14
        refine RT.skV rfl rfl (sk rfl) (tl rfl) ?_
        refine RT.skV rfl rfl (sk rfl) (tl rfl) ?_
        refine RT.skV rfl rfl (sk rfl) (tl rfl) ?_
        refine RT.skV rfl rfl (sk rfl) (tl rfl) ?_
        refine RT.skV rfl rfl (sk rfl) (tl rfl) ?_
        refine RT.skV rfl rfl (sk rfl) (tl rfl) ?_
        refine RT.skV rfl rfl (sk rfl) (tl rfl) ?_
        refine RT.skV rfl rfl (sk rfl) (tl rfl) ?_
        refine RT.skV rfl rfl (sk rfl) (tl rfl) ?_
        refine RT.skV rfl rfl (sk rfl) (tl rfl) ?_
        refine RT.skV rfl rfl (sk rfl) (tl rfl) ?_
        refine RT.skV rfl rfl (sk rfl) (tl rfl) ?_
        refine RT.skV rfl rfl (sk rfl) (tl rfl) ?_
        refine RT.pickT .none rfl rfl (tl rfl) ?_
        refine RT.done ?_
        refine AThen.n ?_
        refine ⟨true, h, ?_⟩
        try dsimp only
        exact weakL id rfl rfl rfl rfl rfl ⟨.rsl rfl, .sv (SV.imp_refl _), .sv (SV.imp_refl _), .sv (SV.imp_refl _), .sv (SV.imp_refl _), .sv (SV.imp_refl _), .sv (SV.imp_refl _), trivial⟩ trivial ⟨⟨_, rfl, SVIs.refl _⟩, trivial⟩ (fun _ _ => rfl)
    · try dsimp only
      refine AThen.n ?_
      cases y61j12
      · replace h := br_f h
        refine ok_condF rfl ?_
        refine ok_exit ?_
        refine AThen.x ?_
        refine AThen.x ?_
        refine AInB.x ?_
        refine AThen.n ?_
        obtain rfl := Option.some.inj h
        refine ⟨y9l5, hE10 _ rfl, ?_⟩
        try dsimp only
        exact weakL id rfl rfl rfl rfl rfl ⟨.sv (SV.imp_refl _), trivial⟩ trivial ⟨⟨_, rfl, SVIs.refl _⟩, trivial⟩ (fun _ _ => rfl)
      · replace h := br_t h
        refine ok_condT rfl ?_
        refine ok_skip ?_
        refine AThen.n ?_
        refine ok_block ?_
        refine ok_seq ?_
        refine ok_region ?_
        refine RT.mv .none rfl (tl rfl) ?_
        replace h := let_some h
        obtain ⟨x63, h63, h⟩ := h
        refine RT.sub .none _ rfl rfl (tl rfl) (UK.sub (a := y9l5) (b := 1) h63) ?_
        refine RT.asg .none rfl (tl rfl) ?_
        refine RT.done ?_
        refine AThen.n ?_
        refine ok_seq ?_
        refine ok_region ?_
        refine RT.mv .none rfl (tl rfl) ?_
        refine RT.mv .none rfl (tl rfl) ?_
        replace h := let_some h
        obtain ⟨x66, h66, h⟩ := h
        refine RT.add .none _ rfl rfl (tl rfl) (UK.add (a := y10l5) (b := x31) h66) ?_
        refine RT.asg .none rfl (tl rfl) ?_
        refine RT.done ?_
        refine AThen.n ?_
        refine ok_seq ?_
        refine ok_region ?_
        refine RT.mv .none rfl (tl rfl) ?_
        replace h := let_some h
        obtain ⟨x68, h68, h⟩ := h
        refine RT.shr .none _ rfl rfl (tl rfl) (by decide) (shrU (k := .u64) (a := x66) (q := 32) (s := 32) rfl h68) ?_
        replace h := let_some h
        obtain ⟨x69, h69, h⟩ := h
        refine RT.neq .none _ rfl rfl (tl rfl) (neN (p := x68) (q := 0) h69) ?_
        refine RT.done ?_
        refine AThen.n ?_
        cases x69
        · replace h := br_f h
          refine ok_condF rfl ?_
          refine ok_skip ?_
          refine AInB.n ?_
          obtain rfl := Option.some.inj h
          refine AThen.n ⟨(x63, x66), hG10 _ rfl, ?_⟩
          try dsimp only
          exact weakL id rfl rfl rfl rfl rfl ⟨.rsl rfl, .sv (SV.imp_refl _), .sv (SV.imp_refl _), .sv (SV.imp_refl _), .sv (SV.imp_refl _), .sv (SV.imp_refl _), trivial⟩ trivial ⟨⟨_, rfl, SVIs.refl _⟩, trivial⟩ (fun _ _ => rfl)
        · replace h := br_t h
          refine ok_condT rfl ?_
          refine ok_exit ?_
          refine AInB.y (by decide) ?_
          refine AThen.x ?_
          refine AInB.x ?_
          refine AThen.n ?_
          obtain rfl := Option.some.inj h
          refine ⟨x63, hE10 _ rfl, ?_⟩
          try dsimp only
          exact weakL id rfl rfl rfl rfl rfl ⟨.sv (SV.imp_refl _), trivial⟩ trivial ⟨⟨_, rfl, SVIs.refl _⟩, trivial⟩ (fun _ _ => rfl)
  · subst hx10
    try dsimp only
    refine AThen.n ?_
    refine ok_seq ?_
    refine ok_region ?_
    refine RT.mv .none rfl (tl rfl) ?_
    refine RT.asg .none rfl (tl rfl) ?_
    refine RT.done ?_
    refine AThen.n ?_
    refine ok_ret ?_
    replace ho10 := bind_some ho10
    obtain ⟨_, hle, ho10⟩ := ho10
    obtain rfl := Option.some.inj ho10
    exact ⟨.inr rfl, .sv (res_imp (.tmp rfl (.nil)) (SV.imp_refl _)), (by show _ = RSt.live ⟨51, 1, x0.length, List.flatMap eU32 x0⟩; rw [← eqLen_some hle]; rfl)⟩
theorem whole_subtractMultiple_ok {x0 : List Nat} {o0 : Nat} {n0 : Nat} {x1 : List Nat} {x2 : Nat} {r : Bool × List Nat} (h : whole_subtractMultiple_m x0 o0 n0 x1 x2 = some r) : RowC Try.prog 79 [.rsl 1000 (o0 * 1) n0, .sv (slc 1 (List.map eU32 x1)), .sv (.v (.int .u64 ((x2 : Nat) : Int)))] (TR 51 1 eU32 x0) (.sv (.v (.bool r.1))) (List.flatMap eU32 r.2) := by
  refine rowC_of_ok Try.func79 rfl (Nat.le_of_ble_eq_true rfl) rfl rfl (fun wld M v0 => ?_)
  unfold whole_subtractMultiple_m at h
  refine ok_seq ?_
  refine ok_region ?_
  refine RT.asg .none rfl (tl rfl) ?_
  refine RT.done ?_
  refine AThen.n ?_
  refine ok_seq ?_
  refine ok_region ?_
  refine RT.asg .none rfl (tl rfl) ?_
  refine RT.done ?_
  refine AThen.n ?_
  refine ok_seq ?_
  refine ok_region ?_
  refine RT.callF .none (whole_carrier_ok 0) rfl ⟨rfl, trivial⟩ (tl rfl) rfl rfl ?_
  refine RT.assign .none (s := .clo _ _) rfl (tl rfl) ?_
  refine RT.done ?_
  refine AThen.n ?_
  refine ok_seq ?_
  refine ok_seq ?_
  refine ok_region ?_
  refine RT.move .none (s := .rsl _ _ _) rfl (tl rfl) ?_
  replace h := let_some h
  obtain ⟨x14, h14, h⟩ := h
  refine RT.lenRsM .none rfl (tl rfl) h14 ?_
  refine RT.mv .none rfl (tl rfl) ?_
  refine RT.done ?_
  refine AThen.n ?_
  replace h := bind_some h
  obtain ⟨e12, hl12, ho12⟩ := h
  refine ok_tailP (fun (xe12 : Nat × (List Nat)) => AS.mkL 51 [(7, .sv (.v (.int .u64 ((xe12.1 : Nat) : Int))))] [] [(1000, TR 51 1 eU32 xe12.2)]) (fun xe12 => xe12 = e12) ?_ (fun xe12 hx12 => ?_)
  · refine ok_block ?_
    refine ok_loopM hl12 (fun s12 => AS.mkL 51 [(0, .rsl 1000 (o0 * 1) n0), (1, .sv (slc 1 (List.map eU32 x1))), (2, .sv (.v (.int .u64 ((x2 : Nat) : Int)))), (7, .sv (.v (.int .u64 ((s12.1 : Nat) : Int)))), (8, .clo 80 [.box 12]), (14, .sv (.v (.int .i64 x14))), (15, .sv (.v (.int .i64 s12.2.1)))] [(12, ⟨59, [.sv (.v (.int .u64 ((s12.2.2.1 : Nat) : Int)))]⟩)] [(1000, TR 51 1 eU32 s12.2.2.2)]) (by (try dsimp only); exact weakL id rfl rfl rfl rfl rfl ⟨.rsl rfl, .sv (SV.imp_refl _), .sv (SV.imp_refl _), .sv (SV.imp_refl _), .clo, .sv (SV.imp_refl _), .sv (SV.imp_refl _), trivial⟩ ⟨⟨_, rfl, ⟨.sv (SV.imp_refl _), trivial⟩⟩, trivial⟩ ⟨⟨_, rfl, SVIs.refl _⟩, trivial⟩ (fun _ _ => rfl)) (fun s12 y12 G12 h hG12 hE12 => ?_)
    obtain ⟨y7l6, y15l6, b12_0l6, r1000l6⟩ := s12
    try dsimp only
    refine ok_seq ?_
    refine ok_region ?_
    replace h := let_some h
    obtain ⟨x16, h16, h⟩ := h
    refine RT.lss .none _ rfl rfl (tl rfl) h16 ?_
    refine RT.done ?_
    refine AThen.n ?_
    refine ok_seq ?_
    cases x16
    · replace h := br_f h
      refine ok_condF rfl ?_
      refine ok_exit ?_
      refine AThen.x ?_
      refine AThen.x ?_
      refine AInB.x ?_
      refine AThen.n ?_
      obtain rfl := Option.some.inj h
      refine ⟨(y7l6, r1000l6), hE12 _ rfl, ?_⟩
      try dsimp only
      exact weakL id rfl rfl rfl rfl rfl ⟨.sv (SV.imp_refl _), trivial⟩ trivial ⟨⟨_, rfl, SVIs.refl _⟩, trivial⟩ (fun _ _ => rfl)
    · replace h := br_t h
      refine ok_condT rfl ?_
      refine ok_skip ?_
      refine AThen.n ?_
      refine ok_seq ?_
      refine ok_block ?_
      refine ok_seq ?_
      refine ok_region ?_
      refine RT.mv .none rfl (tl rfl) ?_
      refine RT.asg .none rfl (tl rfl) ?_
      refine RT.done ?_
      refine AThen.n ?_
      refine ok_seq ?_
      refine ok_region ?_
      refine RT.asg .none rfl (tl rfl) ?_
      refine RT.done ?_
      refine AThen.n ?_
      refine ok_seq ?_
      refine ok_seq ?_
      refine ok_region ?_
      refine RT.mv .none rfl (tl rfl) ?_
      refine RT.mv .none rfl (tl rfl) ?_
      replace h := let_some h
      obtain ⟨x20, h20, h⟩ := h
      refine RT.lenM .none rfl (tl rfl) h20 ?_
      replace h := let_some h
      obtain ⟨x21, h21, h⟩ := h
      refine RT.lss .none _ rfl rfl (tl rfl) h21 ?_
      refine RT.done ?_
      refine AThen.n ?_
      refine ok_tailJ h (fun j14 => AS.mkL 51 [(0, .rsl 1000 (o0 * 1) n0), (1, .sv (slc 1 (List.map eU32 x1))), (2, .sv (.v (.int .u64 ((x2 : Nat) : Int)))), (7, .sv (.v (.int .u64 ((y7l6 : Nat) : Int)))), (8, .clo 80 [.box 12]), (9, .sv (.v (.int .i64 y15l6))), (10, .sv (.v (.int .u64 ((j14 : Nat) : Int)))), (14, .sv (.v (.int .i64 x14))), (15, .sv (.v (.int .i64 y15l6)))] [(12, ⟨59, [.sv (.v (.int .u64 ((b12_0l6 : Nat) : Int)))]⟩)] [(1000, TR 51 1 eU32 r1000l6)]) (fun h => ?_) (fun y10j13 h => ?_)
      · cases x21
        · replace h := br_f h
          refine ok_condF rfl ?_
          refine ok_skip ?_
          refine AThen.n ?_
          refine ⟨0, h, ?_⟩
          try dsimp only
          exact weakL id rfl rfl rfl rfl rfl ⟨.rsl rfl, .sv (SV.imp_refl _), .sv (SV.imp_refl _), .sv (SV.imp_refl _), .clo, .sv (SV.imp_refl _), .sv (SV.imp_refl _), .sv (SV.imp_refl _), .sv (SV.imp_refl _), trivial⟩ ⟨⟨_, rfl, ⟨.sv (SV.imp_refl _), trivial⟩⟩, trivial⟩ ⟨⟨_, rfl, SVIs.refl _⟩, trivial⟩ (fun _ _ => rfl)
        · replace h := br_t h
          refine ok_condT rfl ?_
          refine ok_region ?_
          refine RT.mv .none rfl (tl rfl) ?_
          refine RT.mv .none rfl (tl rfl) ?_
          replace h := bind_some h
          obtain ⟨x24, h24, h⟩ := h
          refine RT.ixM .none rfl rfl (tl rfl) h24 ?_
          refine RT.loadRV .none rfl rfl (tl rfl) ?_
          replace h := let_some h
          obtain ⟨x26, h26, h⟩ := h
          refine RT.conv .none _ rfl (tl rfl) (UK.nat h26) ?_
          refine RT.mv .none rfl (tl rfl) ?_
          replace h := let_some h
          obtain ⟨x28, h28, h⟩ := h
          refine RT.mul .none _ rfl rfl (tl rfl) (UK.mul (a := x26) (b := x2) h28) ?_
          refine RT.asg .none rfl (tl rfl) ?_
          refine RT.done ?_
          refine AThen.n ?_
          refine ⟨x28, h, ?_⟩
          try dsimp only
          exact weakL id rfl rfl rfl rfl rfl ⟨.rsl rfl, .sv (SV.imp_refl _), .sv (SV.imp_refl _), .sv (SV.imp_refl _), .clo, .sv (SV.imp_refl _), .sv (SV.imp_refl _), .sv (SV.imp_refl _), .sv (SV.imp_refl _), trivial⟩ ⟨⟨_, rfl, ⟨.sv (SV.imp_refl _), trivial⟩⟩, trivial⟩ ⟨⟨_, rfl, SVIs.refl _⟩, trivial⟩ (fun _ _ => rfl)
      · try dsimp only
        refine AThen.n ?_
        refine ok_seq ?_
        refine ok_region_draw mixed ?_
        refine RT.move .none (s := .rsl _ _ _) rfl (tl rfl) ?_
        refine RT.mv .none rfl (tl rfl) ?_
        replace h := bind_some h
        obtain ⟨x31, h31, h⟩ := h
        refine RT.ixRsM .none rfl rfl (tl rfl) h31 ?_
        replace h := bind_some h
        obtain ⟨x32, h32, h⟩ := h
        refine RT.ldRM .none rfl rfl h32 rfl (tl rfl) ?_
        replace h := let_some h
        obtain ⟨x33, h33, h⟩ := h
        refine RT.conv .none _ rfl (tl rfl) (UK.nat h33) ?_
        refine RT.move .none (s := .clo _ _) rfl (tl rfl) ?_
        refine RT.mv .none rfl (tl rfl) ?_
        replace h := bind_some h
        obtain ⟨⟨x36, k16⟩, h36, h⟩ := h
        refine RT.callB .none (whole_carrier_1_ok h36) 12 rfl rfl ⟨rfl, trivial⟩ (tl rfl) ?_
        replace h := let_some h
        obtain ⟨x37, h37, h⟩ := h
        refine RT.conv .none _ rfl (tl rfl) (UK.nat h37) ?_
        replace h := let_some h
        obtain ⟨x38, h38, h⟩ := h
        refine RT.sub .none _ rfl rfl (tl rfl) (UK.sub (a := x33) (b := x37) h38) ?_
        refine RT.mv .none rfl (tl rfl) ?_
        replace h := let_some h
        obtain ⟨x40, h40, h⟩ := h
        refine RT.sub .none _ rfl rfl (tl rfl) (UK.sub (a := x38) (b := y7l6) h40) ?_
        refine RT.asg .none rfl (tl rfl) ?_
        refine RT.done ⟨by kernel_rfl, ?_⟩
        refine AThen.n ?_
        refine ok_seq ?_
        refine ok_region ?_
        refine RT.move .none (s := .rsl _ _ _) rfl (tl rfl) ?_
        refine RT.mv .none rfl (tl rfl) ?_
        refine RT.mv .none rfl (tl rfl) ?_
        replace h := let_some h
        obtain ⟨x44, h44, h⟩ := h
        refine RT.conv .none _ rfl (tl rfl) (UK.nat h44) ?_
        replace h := bind_some h
        obtain ⟨x45, h45, h⟩ := h
        refine RT.ixRsM .none rfl rfl (tl rfl) h45 ?_
        replace h := bind_some h
        obtain ⟨l18, hl18_, h⟩ := h
        refine RT.stRM .none x44 rfl rfl rfl rfl hl18_ ?_
        refine RT.done ?_
        refine AThen.n ?_
        refine ok_region ?_
        refine RT.mv .none rfl (tl rfl) ?_
        replace h := let_some h
        obtain ⟨x47, h47, h⟩ := h
        refine RT.shr .none _ rfl rfl (tl rfl) (by decide) (shrU (k := .u64) (a := x40) (q := 63) (s := 63) rfl h47) ?_
        refine RT.asg .none rfl (tl rfl) ?_
        refine RT.done ?_
        refine AInB.n ?_
        refine AThen.n ?_
        refine ok_region ?_
        replace h := let_some h
        obtain ⟨x48, h48, h⟩ := h
        refine RT.add .none _ rfl rfl (tl rfl) h48 ?_
        refine RT.mv .none rfl (tl rfl) ?_
        refine RT.done ?_
        obtain rfl := Option.some.inj h
        refine AThen.n ⟨(x47, x48, k16, l18), hG12 _ rfl, ?_⟩
        try dsimp only
        exact weakL id rfl rfl rfl rfl rfl ⟨.rsl rfl, .sv (SV.imp_refl _), .sv (SV.imp_refl _), .sv (SV.imp_refl _), .clo, .sv (SV.imp_refl _), .sv (SV.imp_refl _), trivial⟩ ⟨⟨_, rfl, ⟨.sv (SV.imp_refl _), trivial⟩⟩, trivial⟩ ⟨⟨_, rfl, SVIs.refl _⟩, trivial⟩ (fun _ _ => rfl)
  · subst hx12
    obtain ⟨y7e11, r1000e11⟩ := xe12
    try dsimp only
    refine AThen.n ?_
    refine ok_seq ?_
    refine ok_region ?_
    refine RT.mv .none rfl (tl rfl) ?_
    replace ho12 := let_some ho12
    obtain ⟨x50, h50, ho12⟩ := ho12
    refine RT.neq .none _ rfl rfl (tl rfl) (neN (p := y7e11) (q := 0) h50) ?_
    refine RT.asg .none rfl (tl rfl) ?_
    refine RT.done ?_
    refine AThen.n ?_
    refine ok_ret ?_
    replace ho12 := bind_some ho12
    obtain ⟨_, hle, ho12⟩ := ho12
    obtain rfl := Option.some.inj ho12
    exact ⟨.inr rfl, .sv (res_imp (.tmp rfl (.nil)) (SV.imp_refl _)), (by show _ = RSt.live ⟨51, 1, x0.length, List.flatMap eU32 r1000e11⟩; rw [← eqLen_some hle]; rfl)⟩
theorem whole_longDiv_ok {x0 : List Nat} {x1 : List Nat} {r : (List Nat) × (List Nat)} (h : whole_longDiv_m x0 x1 = some r) : Pure Try.prog 70 [slc 1 (List.map eU32 x0), slc 1 (List.map eU32 x1)] (.tup [slc 1 (List.map eU32 r.1), slc 1 (List.map eU32 r.2)]) := by
  refine pure_of_ok Try.func70 rfl (Nat.le_of_ble_eq_true rfl) (fun wld M vs hvs => ?_)
  unfold whole_longDiv_m at h
  refine ok_seq ?_
  refine ok_region ?_
  refine RT.asg .none rfl (tl rfl) ?_
  refine RT.asg .none rfl (tl rfl) ?_
  refine RT.done ?_
  refine AThen.n ?_
  refine ok_weak (weak_nil 4 306 51 1 rfl rfl (tl rfl)) ?_
  refine ok_weak (weak_nil 5 308 51 1 rfl rfl (tl rfl)) ?_
  refine ok_seq ?_
  refine ok_region ?_
  refine RT.mv .none rfl (tl rfl) ?_
  replace h := let_some h
  obtain ⟨x17, h17, h⟩ := h
  refine RT.lenM .none rfl (tl rfl) h17 ?_
  refine RT.asg .none rfl (tl rfl) ?_
  refine RT.done ?_
  refine AThen.n ?_
  refine ok_seq ?_
  refine ok_region ?_
  refine RT.mv .none rfl (tl rfl) ?_
  refine RT.mv .none rfl (tl rfl) ?_
  replace h := let_some h
  obtain ⟨x20, h20, h⟩ := h
  refine RT.sub .none _ rfl rfl (tl rfl) h20 ?_
  replace h := bind_some h
  obtain ⟨x21, h21, h⟩ := h
  refine RT.ixM .none rfl rfl (tl rfl) h21 ?_
  refine RT.loadRV .none rfl rfl (tl rfl) ?_
  replace h := bind_some h
  obtain ⟨x23, h23, h⟩ := h
  refine RT.call .none (math_bits_LeadingZeros32_ok h23) rfl ⟨rfl, trivial⟩ (tl rfl) ?_
  replace h := let_some h
  obtain ⟨x24, h24, h⟩ := h
  refine RT.conv .none _ rfl (tl rfl) (UK.conv h24) ?_
  refine RT.asg .none rfl (tl rfl) ?_
  refine RT.done ?_
  refine AThen.n ?_
  refine ok_seq ?_
  refine ok_region_draw mixed ?_
  refine RT.mv .none rfl (tl rfl) ?_
  refine RT.mv .none rfl (tl rfl) ?_
  replace h := bind_some h
  obtain ⟨x27, h27, h⟩ := h
  refine RT.callN .none (whole_shiftLeftN_ok h27) rfl ⟨rfl, rfl, trivial⟩ (tl rfl) rfl (tl rfl) ?_
  refine RT.mv .none rfl (tl rfl) ?_
  refine RT.mv .none rfl (tl rfl) ?_
  replace h := bind_some h
  obtain ⟨x30, h30, h⟩ := h
  refine RT.call .none (whole_shiftLeft_ok h30) rfl ⟨rfl, rfl, trivial⟩ (tl rfl) ?_
  refine RT.mv .none rfl (tl rfl) ?_
  replace h := bind_some h
  obtain ⟨x32, h32, h⟩ := h
  refine RT.sliceM .none 0 x17 rfl rfl ⟨_, rfl⟩ (tl rfl) h32 ?_
  refine RT.assign .none (s := .row _) rfl (tl rfl) ?_
  refine RT.asg .none rfl (tl rfl) ?_
  refine RT.done ⟨by kernel_rfl, ?_⟩
  refine AThen.n ?_
  refine ok_seq ?_
  refine ok_region ?_
  refine RT.mv .none rfl (tl rfl) ?_
  replace h := let_some h
  obtain ⟨x34, h34, h⟩ := h
  refine RT.lenM .none rfl (tl rfl) h34 ?_
  refine RT.mv .none rfl (tl rfl) ?_
  replace h := let_some h
  obtain ⟨x36, h36, h⟩ := h
  refine RT.sub .none _ rfl rfl (tl rfl) h36 ?_
  replace h := let_some h
  obtain ⟨x37, h37, h⟩ := h
  refine RT.add .none _ rfl rfl (tl rfl) h37 ?_
  replace h := bind_some h
  obtain ⟨x38, h38, h⟩ := h
  refine RT.mkRow (n := 1) (e := eU32) .none rfl rfl (tl rfl) rfl (tl rfl) (by rfl) (by decide) (by exact ⟨SV.imp_refl _, trivial⟩) h38 ?_
  refine RT.assign .none (s := .row _) rfl (tl rfl) ?_
  refine RT.done ?_
  refine AThen.n ?_
  refine ok_seq ?_
  refine ok_seq ?_
  refine ok_region ?_
  refine RT.mv .none rfl (tl rfl) ?_
  replace h := let_some h
  obtain ⟨x40, h40, h⟩ := h
  refine RT.lenM .none rfl (tl rfl) h40 ?_
  refine RT.mv .none rfl (tl rfl) ?_
  replace h := let_some h
  obtain ⟨x42, h42, h⟩ := h
  refine RT.sub .none _ rfl rfl (tl rfl) h42 ?_
  refine RT.asg .none rfl (tl rfl) ?_
  refine RT.done ?_
  refine AThen.n ?_
  replace h := bind_some h
  obtain ⟨e36, hl36, ho36⟩ := h
  refine ok_tailP (fun (xe36 : (List Nat) × (List Nat)) => AS.mkL 141 [(4, .row 38), (6, .sv (.v (.int .i64 x17))), (7, .sv (.v (.int .u64 ((x24 : Nat) : Int)))), (8, .row 27)] [] [(38, TR 51 1 eU32 xe36.1), (27, TR 51 1 eU32 xe36.2)]) (fun xe36 => xe36 = e36) ?_ (fun xe36 hx36 => ?_)
  · refine ok_block ?_
    refine ok_loopM hl36 (fun s36 => AS.mkL 141 [(4, .row 38), (6, .sv (.v (.int .i64 x17))), (7, .sv (.v (.int .u64 ((x24 : Nat) : Int)))), (8, .row 27), (9, .sv (slc 1 (List.map eU32 x32))), (10, .sv (.v (.int .i64 s36.1)))] [] [(38, TR 51 1 eU32 s36.2.1), (27, TR 51 1 eU32 s36.2.2)]) (by (try dsimp only); exact weakL id rfl rfl rfl rfl rfl ⟨.row rfl, .sv (SV.imp_refl _), .sv (SV.imp_refl _), .row rfl, .sv (SV.imp_refl _), .sv (SV.imp_refl _), trivial⟩ trivial ⟨⟨_, rfl, SVIs.refl _⟩, ⟨_, rfl, SVIs.refl _⟩, trivial⟩ (fun _ _ => rfl)) (fun s36 y36 G36 h hG36 hE36 => ?_)
    obtain ⟨y10l18, r38l18, r27l18⟩ := s36
    try dsimp only
    refine ok_seq ?_
    refine ok_seq ?_
    refine ok_region ?_
    refine RT.mv .none rfl (tl rfl) ?_
    replace h := let_some h
    obtain ⟨x44, h44, h⟩ := h
    refine RT.geq .none _ rfl rfl (tl rfl) h44 ?_
    refine RT.done ?_
    refine AThen.n ?_
    cases x44
    · replace h := br_f h
      refine ok_condF rfl ?_
      refine ok_exit ?_
      refine AThen.x ?_
      refine AThen.x ?_
      refine AInB.x ?_
      refine AThen.n ?_
      obtain rfl := Option.some.inj h
      refine ⟨(r38l18, r27l18), hE36 _ rfl, ?_⟩
      try dsimp only
      exact weakL id rfl rfl rfl rfl rfl ⟨.row rfl, .sv (SV.imp_refl _), .sv (SV.imp_refl _), .row rfl, trivial⟩ trivial ⟨⟨_, rfl, SVIs.refl _⟩, ⟨_, rfl, SVIs.refl _⟩, trivial⟩ (fun _ _ => rfl)
    · replace h := br_t h
      refine ok_condT rfl ?_
      refine ok_skip ?_
      refine AThen.n ?_
      refine ok_seq ?_
      refine ok_block ?_
      refine ok_seq ?_
      refine ok_region ?_
      refine RT.move .none (s := .row _) rfl (tl rfl) ?_
      refine RT.mv .none rfl (tl rfl) ?_
      refine RT.mv .none rfl (tl rfl) ?_
      refine RT.mv .none rfl (tl rfl) ?_
      replace h := let_some h
      obtain ⟨x51, h51, h⟩ := h
      refine RT.add .none _ rfl rfl (tl rfl) h51 ?_
      replace h := let_some h
      obtain ⟨x52, h52, h⟩ := h
      refine RT.add .none _ rfl rfl (tl rfl) h52 ?_
      replace h := bind_some h
      obtain ⟨⟨o53, n53⟩, h53, h⟩ := h
      refine RT.slRM .none y10l18 x52 rfl rfl ⟨_, rfl⟩ ⟨_, rfl⟩ (tl rfl) h53 ?_
      refine RT.mv .none rfl (tl rfl) ?_
      replace h := bind_some h
      obtain ⟨⟨x55, l38⟩, h55, h⟩ := h
      replace h := bind_some h
      obtain ⟨_, he38, h⟩ := h
      refine RT.callRM (l := r27l18) (l' := l38) (e := eU32) .none (whole_estimate_ok h55) (eqLen_some he38) 27 rfl rfl rfl rfl (.cons rfl (.cons rfl (.nil))) (tl rfl) ?_
      refine RT.asg .none rfl (tl rfl) ?_
      refine RT.done ?_
      refine AThen.n ?_
      refine ok_seq ?_
      refine ok_seq ?_
      refine ok_region ?_
      refine RT.move .none (s := .row _) rfl (tl rfl) ?_
      refine RT.mv .none rfl (tl rfl) ?_
      refine RT.mv .none rfl (tl rfl) ?_
      refine RT.mv .none rfl (tl rfl) ?_
      replace h := let_some h
      obtain ⟨x60, h60, h⟩ := h
      refine RT.add .none _ rfl rfl (tl rfl) h60 ?_
      replace h := let_some h
      obtain ⟨x61, h61, h⟩ := h
      refine RT.add .none _ rfl rfl (tl rfl) h61 ?_
      replace h := bind_some h
      obtain ⟨⟨o62, n62⟩, h62, h⟩ := h
      refine RT.slRM .none y10l18 x61 rfl rfl ⟨_, rfl⟩ ⟨_, rfl⟩ (tl rfl) h62 ?_
      refine RT.mv .none rfl (tl rfl) ?_
      refine RT.mv .none rfl (tl rfl) ?_
      replace h := bind_some h
      obtain ⟨⟨x65, l40⟩, h65, h⟩ := h
      replace h := bind_some h
      obtain ⟨_, he40, h⟩ := h
      refine RT.callRM (l := l38) (l' := l40) (e := eU32) .none (whole_subtractMultiple_ok h65) (eqLen_some he40) 27 rfl rfl rfl rfl (.cons rfl (.cons rfl (.cons rfl (.nil)))) (tl rfl) ?_
      refine RT.done ?_
      refine AThen.n ?_
      refine ok_tailJ h (fun j53 => AS.mkL 141 [(4, .row 38), (6, .sv (.v (.int .i64 x17))), (7, .sv (.v (.int .u64 ((x24 : Nat) : Int)))), (8, .row 27), (9, .sv (slc 1 (List.map eU32 x32))), (10, .sv (.v (.int .i64 y10l18))), (11, .sv (.v (.int .u64 ((j53.1 : Nat) : Int))))] [] [(38, TR 51 1 eU32 r38l18), (27, TR 51 1 eU32 j53.2)]) (fun h => ?_) (fun j53 h => ?_)
      · cases x65
        · replace h := br_f h
          refine ok_condF rfl ?_
          refine ok_skip ?_
          refine AThen.n ?_
          refine ⟨(x55, l40), h, ?_⟩
          try dsimp only
          exact weakL id rfl rfl rfl rfl rfl ⟨.row rfl, .sv (SV.imp_refl _), .sv (SV.imp_refl _), .row rfl, .sv (SV.imp_refl _), .sv (SV.imp_refl _), .sv (SV.imp_refl _), trivial⟩ trivial ⟨⟨_, rfl, SVIs.refl _⟩, ⟨_, rfl, SVIs.refl _⟩, trivial⟩ (fun _ _ => rfl)
        · replace h := br_t h
          refine ok_condT rfl ?_
          refine ok_seq ?_
          refine ok_region ?_
          refine RT.mv .none rfl (tl rfl) ?_
          replace h := let_some h
          obtain ⟨x67, h67, h⟩ := h
          refine RT.sub .none _ rfl rfl (tl rfl) (UK.sub (a := x55) (b := 1) h67) ?_
          refine RT.asg .none rfl (tl rfl) ?_
          refine RT.done ?_
          refine AThen.n ?_
          refine ok_seq ?_
          refine ok_region ?_
          refine RT.callF .none (whole_carrier_ok 0) rfl ⟨rfl, trivial⟩ (tl rfl) rfl rfl ?_
          refine RT.assign .none (s := .clo _ _) rfl (tl rfl) ?_
          refine RT.done ?_
          refine AThen.n ?_
          refine ok_seq ?_
          refine ok_seq ?_
          refine ok_region ?_
          refine RT.mv .none rfl (tl rfl) ?_
          replace h := let_some h
          obtain ⟨x70, h70, h⟩ := h
          refine RT.lenM .none rfl (tl rfl) h70 ?_
          refine RT.mv .none rfl (tl rfl) ?_
          refine RT.done ?_
          refine AThen.n ?_
          replace h := bind_some h
          obtain ⟨e65, hl65, ho65⟩ := h
          refine ok_tailP (fun (xe65 : Nat × (List Nat)) => AS.mkL 141 [(4, .row 38), (6, .sv (.v (.int .i64 x17))), (7, .sv (.v (.int .u64 ((x24 : Nat) : Int)))), (8, .row 27), (9, .sv (slc 1 (List.map eU32 x32))), (10, .sv (.v (.int .i64 y10l18))), (11, .sv (.v (.int .u64 ((x67 : Nat) : Int)))), (12, .clo 80 [.box 68])] [(68, ⟨59, [.sv (.v (.int .u64 ((xe65.1 : Nat) : Int)))]⟩)] [(38, TR 51 1 eU32 r38l18), (27, TR 51 1 eU32 xe65.2)]) (fun xe65 => xe65 = e65) ?_ (fun xe65 hx65 => ?_)
          · refine ok_block ?_
            refine ok_loopM hl65 (fun s65 => AS.mkL 141 [(4, .row 38), (6, .sv (.v (.int .i64 x17))), (7, .sv (.v (.int .u64 ((x24 : Nat) : Int)))), (8, .row 27), (9, .sv (slc 1 (List.map eU32 x32))), (10, .sv (.v (.int .i64 y10l18))), (11, .sv (.v (.int .u64 ((x67 : Nat) : Int)))), (12, .clo 80 [.box 68]), (69, .sv (slc 1 (List.map eU32 x32))), (70, .sv (.v (.int .i64 x70))), (71, .sv (.v (.int .i64 s65.1)))] [(68, ⟨59, [.sv (.v (.int .u64 ((s65.2.1 : Nat) : Int)))]⟩)] [(38, TR 51 1 eU32 r38l18), (27, TR 51 1 eU32 s65.2.2)]) (by (try dsimp only); exact weakL id rfl rfl rfl rfl rfl ⟨.row rfl, .sv (SV.imp_refl _), .sv (SV.imp_refl _), .row rfl, .sv (SV.imp_refl _), .sv (SV.imp_refl _), .sv (SV.imp_refl _), .clo, .sv (SV.imp_refl _), .sv (SV.imp_refl _), .sv (SV.imp_refl _), trivial⟩ ⟨⟨_, rfl, ⟨.sv (SV.imp_refl _), trivial⟩⟩, trivial⟩ ⟨⟨_, rfl, SVIs.refl _⟩, ⟨_, rfl, SVIs.refl _⟩, trivial⟩ (fun _ _ => rfl)) (fun s65 y65 G65 h hG65 hE65 => ?_)
            obtain ⟨y71l60, b68_0l60, r27l60⟩ := s65
            try dsimp only
            refine ok_seq ?_
            refine ok_region ?_
            replace h := let_some h
            obtain ⟨x72, h72, h⟩ := h
            refine RT.lss .none _ rfl rfl (tl rfl) h72 ?_
            refine RT.done ?_
            refine AThen.n ?_
            refine ok_seq ?_
            cases x72
            · replace h := br_f h
              refine ok_condF rfl ?_
              refine ok_exit ?_
              refine AThen.x ?_
              refine AThen.x ?_
              refine AInB.x ?_
              refine AThen.n ?_
              obtain rfl := Option.some.inj h
              refine ⟨(b68_0l60, r27l60), hE65 _ rfl, ?_⟩
              try dsimp only
              exact weakL id rfl rfl rfl rfl rfl ⟨.row rfl, .sv (SV.imp_refl _), .sv (SV.imp_refl _), .row rfl, .sv (SV.imp_refl _), .sv (SV.imp_refl _), .sv (SV.imp_refl _), .clo, trivial⟩ ⟨⟨_, rfl, ⟨.sv (SV.imp_refl _), trivial⟩⟩, trivial⟩ ⟨⟨_, rfl, SVIs.refl _⟩, ⟨_, rfl, SVIs.refl _⟩, trivial⟩ (fun _ _ => rfl)
            · replace h := br_t h
              refine ok_condT rfl ?_
              refine ok_skip ?_
              refine AThen.n ?_
              refine ok_seq ?_
              refine ok_block ?_
              refine ok_seq ?_
              refine ok_region ?_
              refine RT.mv .none rfl (tl rfl) ?_
              replace h := bind_some h
              obtain ⟨x74, h74, h⟩ := h
              refine RT.ixM .none rfl rfl (tl rfl) h74 ?_
              refine RT.loadRV .none rfl rfl (tl rfl) ?_
              refine RT.asg .none rfl (tl rfl) ?_
              refine RT.asg .none rfl (tl rfl) ?_
              refine RT.done ?_
              refine AThen.n ?_
              refine ok_region ?_
              refine RT.move .none (s := .row _) rfl (tl rfl) ?_
              refine RT.mv .none rfl (tl rfl) ?_
              refine RT.mv .none rfl (tl rfl) ?_
              replace h := let_some h
              obtain ⟨x79, h79, h⟩ := h
              refine RT.add .none _ rfl rfl (tl rfl) h79 ?_
              refine RT.move .none (s := .clo _ _) rfl (tl rfl) ?_
              refine RT.move .none (s := .row _) rfl (tl rfl) ?_
              refine RT.mv .none rfl (tl rfl) ?_
              refine RT.mv .none rfl (tl rfl) ?_
              replace h := let_some h
              obtain ⟨x84, h84, h⟩ := h
              refine RT.add .none _ rfl rfl (tl rfl) h84 ?_
              replace h := bind_some h
              obtain ⟨x85, h85, h⟩ := h
              refine RT.ixRM .none rfl rfl rfl (tl rfl) h85 ?_
              replace h := bind_some h
              obtain ⟨x86, h86, h⟩ := h
              refine RT.ldRM .none rfl rfl h86 rfl (tl rfl) ?_
              replace h := let_some h
              obtain ⟨x87, h87, h⟩ := h
              refine RT.conv .none _ rfl (tl rfl) (UK.nat h87) ?_
              refine RT.mv .none rfl (tl rfl) ?_
              replace h := let_some h
              obtain ⟨x89, h89, h⟩ := h
              refine RT.conv .none _ rfl (tl rfl) (UK.nat h89) ?_
              replace h := let_some h
              obtain ⟨x90, h90, h⟩ := h
              refine RT.add .none _ rfl rfl (tl rfl) (UK.add (a := x87) (b := x89) h90) ?_
              replace h := bind_some h
              obtain ⟨⟨x91, k68⟩, h91, h⟩ := h
              refine RT.callB .none (whole_carrier_1_ok h91) 68 rfl rfl ⟨rfl, trivial⟩ (tl rfl) ?_
              replace h := bind_some h
              obtain ⟨x92, h92, h⟩ := h
              refine RT.ixRM .none rfl rfl rfl (tl rfl) h92 ?_
              replace h := bind_some h
              obtain ⟨l69, hl69_, h⟩ := h
              refine RT.stRM .none x91 rfl rfl rfl rfl hl69_ ?_
              refine RT.done ?_
              refine AInB.n ?_
              refine AThen.n ?_
              refine ok_region ?_
              replace h := let_some h
              obtain ⟨x93, h93, h⟩ := h
              refine RT.add .none _ rfl rfl (tl rfl) h93 ?_
              refine RT.mv .none rfl (tl rfl) ?_
              refine RT.done ?_
              obtain rfl := Option.some.inj h
              refine AThen.n ⟨(x93, k68, l69), hG65 _ rfl, ?_⟩
              try dsimp only
              exact weakL id rfl rfl rfl rfl rfl ⟨.row rfl, .sv (SV.imp_refl _), .sv (SV.imp_refl _), .row rfl, .sv (SV.imp_refl _), .sv (SV.imp_refl _), .sv (SV.imp_refl _), .clo, .sv (SV.imp_refl _), .sv (SV.imp_refl _), .sv (SV.imp_refl _), trivial⟩ ⟨⟨_, rfl, ⟨.sv (SV.imp_refl _), trivial⟩⟩, trivial⟩ ⟨⟨_, rfl, SVIs.refl _⟩, ⟨_, rfl, SVIs.refl _⟩, trivial⟩ (fun _ _ => rfl)
          · subst hx65
            obtain ⟨b68_0e64, r27e64⟩ := xe65
            try dsimp only
            refine AThen.n ?_
            refine ok_region ?_
            refine RT.move .none (s := .row _) rfl (tl rfl) ?_
            refine RT.mv .none rfl (tl rfl) ?_
            refine RT.mv .none rfl (tl rfl) ?_
            replace ho65 := let_some ho65
            obtain ⟨x97, h97, ho65⟩ := ho65
            refine RT.add .none _ rfl rfl (tl rfl) h97 ?_
            refine RT.move .none (s := .clo _ _) rfl (tl rfl) ?_
            refine RT.move .none (s := .row _) rfl (tl rfl) ?_
            refine RT.mv .none rfl (tl rfl) ?_
            refine RT.mv .none rfl (tl rfl) ?_
            replace ho65 := let_some ho65
            obtain ⟨x102, h102, ho65⟩ := ho65
            refine RT.add .none _ rfl rfl (tl rfl) h102 ?_
            replace ho65 := bind_some ho65
            obtain ⟨x103, h103, ho65⟩ := ho65
            refine RT.ixRM .none rfl rfl rfl (tl rfl) h103 ?_
            replace ho65 := bind_some ho65
            obtain ⟨x104, h104, ho65⟩ := ho65
            refine RT.ldRM .none rfl rfl h104 rfl (tl rfl) ?_
            replace ho65 := let_some ho65
            obtain ⟨x105, h105, ho65⟩ := ho65
            refine RT.conv .none _ rfl (tl rfl) (UK.nat h105) ?_
            replace ho65 := bind_some ho65
            obtain ⟨⟨x106, k72⟩, h106, ho65⟩ := ho65
            refine RT.callB .none (whole_carrier_1_ok h106) 68 rfl rfl ⟨rfl, trivial⟩ (tl rfl) ?_
            replace ho65 := bind_some ho65
            obtain ⟨x107, h107, ho65⟩ := ho65
            refine RT.ixRM .none rfl rfl rfl (tl rfl) h107 ?_
            replace ho65 := bind_some ho65
            obtain ⟨l73, hl73_, ho65⟩ := ho65
            refine RT.stRM .none x106 rfl rfl rfl rfl hl73_ ?_
            refine RT.done ?_
            refine AThen.n ?_
            refine ⟨(x67, l73), ho65, ?_⟩
            try dsimp only
            exact weakL id rfl rfl rfl rfl rfl ⟨.row rfl, .sv (SV.imp_refl _), .sv (SV.imp_refl _), .row rfl, .sv (SV.imp_refl _), .sv (SV.imp_refl _), .sv (SV.imp_refl _), trivial⟩ trivial ⟨⟨_, rfl, SVIs.refl _⟩, ⟨_, rfl, SVIs.refl _⟩, trivial⟩ (fun _ _ => rfl)
      · obtain ⟨y11j52, r27j52⟩ := j53
        try dsimp only
        refine AThen.n ?_
        refine ok_region ?_
        refine RT.move .none (s := .row _) rfl (tl rfl) ?_
        refine RT.mv .none rfl (tl rfl) ?_
        refine RT.mv .none rfl (tl rfl) ?_
        replace h := let_some h
        obtain ⟨x111, h111, h⟩ := h
        refine RT.conv .none _ rfl (tl rfl) (UK.nat h111) ?_
        replace h := bind_some h
        obtain ⟨x112, h112, h⟩ := h
        refine RT.ixRM .none rfl rfl rfl (tl rfl) h112 ?_
        replace h := bind_some h
        obtain ⟨l55, hl55_, h⟩ := h
        refine RT.stRM .none x111 rfl rfl rfl rfl hl55_ ?_
        refine RT.done ?_
        refine AInB.n ?_
        refine AThen.n ?_
        refine ok_region ?_
        refine RT.mv .none rfl (tl rfl) ?_
        replace h := let_some h
        obtain ⟨x46, h46, h⟩ := h
        refine RT.sub .none _ rfl rfl (tl rfl) h46 ?_
        refine RT.asg .none rfl (tl rfl) ?_
        refine RT.done ?_
        obtain rfl := Option.some.inj h
        refine AThen.n ⟨(x46, l55, r27j52), hG36 _ rfl, ?_⟩
        try dsimp only
        exact weakL id rfl rfl rfl rfl rfl ⟨.row rfl, .sv (SV.imp_refl _), .sv (SV.imp_refl _), .row rfl, .sv (SV.imp_refl _), .sv (SV.imp_refl _), trivial⟩ trivial ⟨⟨_, rfl, SVIs.refl _⟩, ⟨_, rfl, SVIs.refl _⟩, trivial⟩ (fun _ _ => rfl)
  · subst hx36
    obtain ⟨r38e35, r27e35⟩ := xe36
    try dsimp only
    refine AThen.n ?_
    refine ok_seq ?_
    refine ok_region ?_
    refine RT.mv .none rfl (tl rfl) ?_
    replace ho36 := bind_some ho36
    obtain ⟨x114, h114, ho36⟩ := ho36
    refine RT.mkRow (n := 1) (e := eU32) .none rfl rfl (tl rfl) rfl (tl rfl) (by rfl) (by decide) (by exact ⟨SV.imp_refl _, trivial⟩) h114 ?_
    refine RT.assign .none (s := .row _) rfl (tl rfl) ?_
    refine RT.done ?_
    refine AThen.n ?_
    refine ok_seq ?_
    refine ok_seq ?_
    refine ok_region ?_
    refine RT.mv .none rfl (tl rfl) ?_
    refine RT.mv .none rfl (tl rfl) ?_
    refine RT.done ?_
    refine AThen.n ?_
    replace ho36 := bind_some ho36
    obtain ⟨e81, hl81, ho81⟩ := ho36
    refine ok_tailP (fun (r114e80 : (List Nat)) => AS.mkL 141 [(4, .row 38), (5, .row 114)] [] [(38, TR 51 1 eU32 r38e35), (114, TR 51 1 eU32 r114e80)]) (fun r114e80 => r114e80 = e81) ?_ (fun r114e80 hx81 => ?_)
    · refine ok_block ?_
      refine ok_loopM hl81 (fun s81 => AS.mkL 141 [(4, .row 38), (5, .row 114), (7, .sv (.v (.int .u64 ((x24 : Nat) : Int)))), (8, .row 27), (115, .sv (.v (.int .i64 x17))), (116, .sv (.v (.int .i64 s81.1)))] [] [(38, TR 51 1 eU32 r38e35), (114, TR 51 1 eU32 s81.2), (27, TR 51 1 eU32 r27e35)]) (by (try dsimp only); exact weakL id rfl rfl rfl rfl rfl ⟨.row rfl, .row rfl, .sv (SV.imp_refl _), .row rfl, .sv (SV.imp_refl _), .sv (SV.imp_refl _), trivial⟩ trivial ⟨⟨_, rfl, SVIs.refl _⟩, ⟨_, rfl, SVIs.refl _⟩, ⟨_, rfl, SVIs.refl _⟩, trivial⟩ (fun _ _ => rfl)) (fun s81 y81 G81 h hG81 hE81 => ?_)
      obtain ⟨y116l77, r114l77⟩ := s81
      try dsimp only
      refine ok_seq ?_
      refine ok_region ?_
      replace h := let_some h
      obtain ⟨x117, h117, h⟩ := h
      refine RT.lss .none _ rfl rfl (tl rfl) h117 ?_
      refine RT.done ?_
      refine AThen.n ?_
      refine ok_seq ?_
      cases x117
      · replace h := br_f h
        refine ok_condF rfl ?_
        refine ok_exit ?_
        refine AThen.x ?_
        refine AThen.x ?_
        refine AInB.x ?_
        refine AThen.n ?_
        obtain rfl := Option.some.inj h
        refine ⟨r114l77, hE81 _ rfl, ?_⟩
        try dsimp only
        exact weakL id rfl rfl rfl rfl rfl ⟨.row rfl, .row rfl, trivial⟩ trivial ⟨⟨_, rfl, SVIs.refl _⟩, ⟨_, rfl, SVIs.refl _⟩, trivial⟩ (fun _ _ => rfl)
      · replace h := br_t h
        refine ok_condT rfl ?_
        refine ok_skip ?_
        refine AThen.n ?_
        refine ok_seq ?_
        refine ok_block ?_
        refine ok_seq ?_
        refine ok_region ?_
        refine RT.mv .none rfl (tl rfl) ?_
        refine RT.asg .none rfl (tl rfl) ?_
        refine RT.done ?_
        refine AThen.n ?_
        refine ok_region_draw mixed ?_
        refine RT.move .none (s := .row _) rfl (tl rfl) ?_
        refine RT.mv .none rfl (tl rfl) ?_
        refine RT.move .none (s := .row _) rfl (tl rfl) ?_
        refine RT.mv .none rfl (tl rfl) ?_
        replace h := bind_some h
        obtain ⟨x123, h123, h⟩ := h
        refine RT.ixRM .none rfl rfl rfl (tl rfl) h123 ?_
        replace h := bind_some h
        obtain ⟨x124, h124, h⟩ := h
        refine RT.ldRM .none rfl rfl h124 rfl (tl rfl) ?_
        replace h := let_some h
        obtain ⟨x125, h125, h⟩ := h
        refine RT.conv .none _ rfl (tl rfl) (UK.nat h125) ?_
        refine RT.move .none (s := .row _) rfl (tl rfl) ?_
        refine RT.mv .none rfl (tl rfl) ?_
        replace h := let_some h
        obtain ⟨x128, h128, h⟩ := h
        refine RT.add .none _ rfl rfl (tl rfl) h128 ?_
        replace h := bind_some h
        obtain ⟨x129, h129, h⟩ := h
        refine RT.ixRM .none rfl rfl rfl (tl rfl) h129 ?_
        replace h := bind_some h
        obtain ⟨x130, h130, h⟩ := h
        refine RT.ldRM .none rfl rfl h130 rfl (tl rfl) ?_
        replace h := let_some h
        obtain ⟨x131, h131, h⟩ := h
        refine RT.conv .none _ rfl (tl rfl) (UK.nat h131) ?_
        replace h := let_some h
        obtain ⟨x132, h132, h⟩ := h
        refine RT.shl .none _ rfl rfl (tl rfl) (by decide) (UK.shl (a := x131) (q := 32) (s := 32) rfl h132) ?_
        replace h := let_some h
        obtain ⟨x133, h133, h⟩ := h
        refine RT.or .none _ rfl rfl (tl rfl) (UK.or (a := x125) (b := x132) h133) ?_
        refine RT.mv .none rfl (tl rfl) ?_
        replace h := let_some h
        obtain ⟨x135, h135, h⟩ := h
        refine RT.shr .none _ rfl rfl (tl rfl) (Int.natCast_nonneg _) (shrU (k := .u64) (a := x133) (q := ((x24 : Nat) : Int)) (s := min x24 64) rfl h135) ?_
        replace h := let_some h
        obtain ⟨x136, h136, h⟩ := h
        refine RT.conv .none _ rfl (tl rfl) (UK.nat h136) ?_
        replace h := bind_some h
        obtain ⟨x137, h137, h⟩ := h
        refine RT.ixRM .none rfl rfl rfl (tl rfl) h137 ?_
        replace h := bind_some h
        obtain ⟨l83, hl83_, h⟩ := h
        refine RT.stRM .none x136 rfl rfl rfl rfl hl83_ ?_
        refine RT.done ⟨by kernel_rfl, ?_⟩
        refine AInB.n ?_
        refine AThen.n ?_
        refine ok_region ?_
        replace h := let_some h
        obtain ⟨x138, h138, h⟩ := h
        refine RT.add .none _ rfl rfl (tl rfl) h138 ?_
        refine RT.mv .none rfl (tl rfl) ?_
        refine RT.done ?_
        obtain rfl := Option.some.inj h
        refine AThen.n ⟨(x138, l83), hG81 _ rfl, ?_⟩
        try dsimp only
        exact weakL id rfl rfl rfl rfl rfl ⟨.row rfl, .row rfl, .sv (SV.imp_refl _), .row rfl, .sv (SV.imp_refl _), .sv (SV.imp_refl _), trivial⟩ trivial ⟨⟨_, rfl, SVIs.refl _⟩, ⟨_, rfl, SVIs.refl _⟩, ⟨_, rfl, SVIs.refl _⟩, trivial⟩ (fun _ _ => rfl)
    · subst hx81
      try dsimp only
      refine AThen.n ?_
      refine ok_seq ?_
      refine ok_region ?_
      refine RT.move .none (s := .row _) rfl (tl rfl) ?_
      refine RT.move .none (s := .row _) rfl (tl rfl) ?_
      refine RT.assign .none (s := .row _) rfl (tl rfl) ?_
      refine RT.assign .none (s := .row _) rfl (tl rfl) ?_
      refine RT.done ?_
      refine AThen.n ?_
      refine ok_weak (weak_frzM (i := 38) (E1 := 51) (n := 1) (e := eU32) (l := r38e35) rfl) ?_
      refine ok_weak (weak_frzM (i := 114) (E1 := 51) (n := 1) (e := eU32) (l := r114e80) rfl) ?_
      refine ok_ret ?_
      obtain rfl := Option.some.inj ho81
      exact ⟨.inr rfl, res_imp (.tmp rfl (.tmp rfl (.nil))) (SV.imp_refl _)⟩
theorem whole_divWords_ok {x0 : List Nat} {x1 : List Nat} {r : (List Nat) × (List Nat)} (h : whole_divWords_m x0 x1 = some r) : Pure Try.prog 45 [slc 1 (List.map eU32 x0), slc 1 (List.map eU32 x1)] (.tup [slc 1 (List.map eU32 r.1), slc 1 (List.map eU32 r.2)]) := by
  refine pure_of_ok Try.func45 rfl (Nat.le_of_ble_eq_true rfl) (fun wld M vs hvs => ?_)
  unfold whole_divWords_m at h
  refine ok_seq ?_
  refine ok_region ?_
  refine RT.asg .none rfl (tl rfl) ?_
  refine RT.asgI .none rfl (imp_nil (n := 1) (e := eU32)) (tl rfl) ?_
  refine RT.done ?_
  refine AThen.n ?_
  refine ok_weak (weak_nil 4 304 51 1 rfl rfl (tl rfl)) ?_
  refine ok_seq ?_
  refine ok_block ?_
  refine ok_seq ?_
  refine ok_region ?_
  refine RT.mv .none rfl (tl rfl) ?_
  refine RT.mv .none rfl (tl rfl) ?_
  replace h := bind_some h
  obtain ⟨x12, h12, h⟩ := h
  refine RT.call .none (whole_compareWords_ok h12) rfl ⟨rfl, rfl, trivial⟩ (tl rfl) ?_
  replace h := let_some h
  obtain ⟨x13, h13, h⟩ := h
  refine RT.lss .none _ rfl rfl (tl rfl) h13 ?_
  refine RT.asg .none rfl (tl rfl) ?_
  refine RT.done ?_
  refine AThen.n ?_
  cases x13
  · replace h := br_f h
    refine ok_condF rfl ?_
    refine ok_seq ?_
    refine ok_region ?_
    refine RT.mv .none rfl (tl rfl) ?_
    replace h := let_some h
    obtain ⟨x18, h18, h⟩ := h
    refine RT.lenM .none rfl (tl rfl) h18 ?_
    replace h := let_some h
    obtain ⟨x19, h19, h⟩ := h
    refine RT.leq .none _ rfl rfl (tl rfl) h19 ?_
    refine RT.asg .none rfl (tl rfl) ?_
    refine RT.done ?_
    refine AThen.n ?_
    cases x19
    · replace h := br_f h
      refine ok_condF rfl ?_
      refine ok_seq ?_
      refine ok_region ?_
      refine RT.mv .none rfl (tl rfl) ?_
      replace h := let_some h
      obtain ⟨x36, h36, h⟩ := h
      refine RT.lenM .none rfl (tl rfl) h36 ?_
      replace h := let_some h
      obtain ⟨x37, h37, h⟩ := h
      refine RT.eql .none _ rfl rfl (tl rfl) (eqI (p := x36) (q := 1) h37) ?_
      refine RT.asg .none rfl (tl rfl) ?_
      refine RT.done ?_
      refine AThen.n ?_
      cases x37
      · replace h := br_f h
        refine ok_condF rfl ?_
        refine ok_skip ?_
        refine AInB.n ?_
        refine AThen.n ?_
        refine ok_seq ?_
        refine ok_region ?_
        refine RT.mv .none rfl (tl rfl) ?_
        refine RT.mv .none rfl (tl rfl) ?_
        replace h := bind_some h
        obtain ⟨⟨x52a, x52b⟩, h52, h⟩ := h
        refine RT.call .none (whole_longDiv_ok h52) rfl ⟨rfl, rfl, trivial⟩ (tl rfl) ?_
        refine RT.extract .none rfl rfl (tl rfl) ?_
        refine RT.extract .none rfl rfl (tl rfl) ?_
        refine RT.asg .none rfl (tl rfl) ?_
        refine RT.asg .none rfl (tl rfl) ?_
        refine RT.done ?_
        refine AThen.n ?_
        refine ok_ret ?_
        obtain rfl := Option.some.inj h
        exact ⟨.inr rfl, res_imp (.tmp rfl (.tmp rfl (.nil))) (SV.imp_refl _)⟩
      · replace h := br_t h
        refine ok_condT rfl ?_
        refine ok_seq ?_
        refine ok_region ?_
        refine RT.mv .none rfl (tl rfl) ?_
        replace h := bind_some h
        obtain ⟨x39, h39, h⟩ := h
        refine RT.callN .none (slices_CloneN_ok h39) rfl ⟨rfl, trivial⟩ (tl rfl) rfl (tl rfl) ?_
        refine RT.assign .none (s := .row _) rfl (tl rfl) ?_
        refine RT.done ?_
        refine AThen.n ?_
        refine ok_seq ?_
        refine ok_region ?_
        refine RT.move .none (s := .row _) rfl (tl rfl) ?_
        refine RT.mv .none rfl (tl rfl) ?_
        replace h := bind_some h
        obtain ⟨x42, h42, h⟩ := h
        refine RT.ixM .none rfl rfl (tl rfl) h42 ?_
        refine RT.loadRV .none rfl rfl (tl rfl) ?_
        replace h := let_some h
        obtain ⟨x44, h44, h⟩ := h
        refine RT.conv .none _ rfl (tl rfl) (UK.nat h44) ?_
        replace h := bind_some h
        obtain ⟨⟨x45, l5⟩, h45, h⟩ := h
        replace h := bind_some h
        obtain ⟨_, he5, h⟩ := h
        refine RT.callRM (l := x39) (l' := l5) (e := eU32) .none (whole_shortDiv_ok h45) (eqLen_some he5) 39 rfl rfl rfl rfl (.cons rfl (.cons rfl (.nil))) (tl rfl) ?_
        refine RT.asg .none rfl (tl rfl) ?_
        refine RT.done ?_
        refine AThen.n ?_
        refine ok_seq ?_
        refine ok_region ?_
        refine RT.move .none (s := .row _) rfl (tl rfl) ?_
        refine RT.mv .none rfl (tl rfl) ?_
        replace h := let_some h
        obtain ⟨x48, h48, h⟩ := h
        refine RT.conv .none _ rfl (tl rfl) (UK.nat h48) ?_
        refine RT.buildSl (l := [x48]) (e := eU32) .none (.one rfl (.nil)) (tl rfl) rfl rfl rfl rfl rfl rfl ?_
        refine RT.assign .none (s := .row _) rfl (tl rfl) ?_
        refine RT.asg .none rfl (tl rfl) ?_
        refine RT.done ?_
        refine AThen.n ?_
        refine ok_weak (weak_frzM (i := 39) (E1 := 51) (n := 1) (e := eU32) (l := l5) rfl) ?_
        refine ok_ret ?_
        refine AInB.r ?_
        refine AThen.r ?_
        obtain rfl := Option.some.inj h
        exact ⟨.inr rfl, res_imp (.tmp rfl (.tmp rfl (.nil))) (SV.imp_refl _)⟩
    · replace h := br_t h
      refine ok_condT rfl ?_
      refine ok_seq ?_
      refine ok_region ?_
      refine RT.mv .none rfl (tl rfl) ?_
      replace h := bind_some h
      obtain ⟨x21, h21, h⟩ := h
      refine RT.call .none (whole_low_ok h21) rfl ⟨rfl, trivial⟩ (tl rfl) ?_
      refine RT.mv .none rfl (tl rfl) ?_
      replace h := bind_some h
      obtain ⟨x23, h23, h⟩ := h
      refine RT.call .none (whole_low_ok h23) rfl ⟨rfl, trivial⟩ (tl rfl) ?_
      refine RT.asg .none rfl (tl rfl) ?_
      refine RT.asg .none rfl (tl rfl) ?_
      refine RT.done ?_
      refine AThen.n ?_
      refine ok_seq ?_
      refine ok_region_draw mixed ?_
      refine RT.mv .none rfl (tl rfl) ?_
      refine RT.mv .none rfl (tl rfl) ?_
      replace h := bind_some h
      obtain ⟨x26, h26, h⟩ := h
      refine RT.quo .none _ rfl rfl (tl rfl) (nzU h26) (UK.quo h26) ?_
      replace h := bind_some h
      obtain ⟨⟨x27_0, x27_1⟩, h27, h⟩ := h
      refine RT.call .none (whole_small_ok h27) rfl ⟨rfl, rfl, trivial⟩ (tl rfl) ?_
      refine RT.field .none rfl rfl (tl rfl) ?_
      refine RT.mv .none rfl (tl rfl) ?_
      refine RT.mv .none rfl (tl rfl) ?_
      replace h := bind_some h
      obtain ⟨x31, h31, h⟩ := h
      refine RT.rem .none _ rfl rfl (tl rfl) (nzR h31) (remU h31) ?_
      replace h := bind_some h
      obtain ⟨⟨x32_0, x32_1⟩, h32, h⟩ := h
      refine RT.call .none (whole_small_ok h32) rfl ⟨rfl, rfl, trivial⟩ (tl rfl) ?_
      refine RT.field .none rfl rfl (tl rfl) ?_
      refine RT.asg .none rfl (tl rfl) ?_
      refine RT.asg .none rfl (tl rfl) ?_
      refine RT.done ⟨by kernel_rfl, ?_⟩
      refine AThen.n ?_
      refine ok_ret ?_
      refine AInB.r ?_
      refine AThen.r ?_
      obtain rfl := Option.some.inj h
      exact ⟨.inr rfl, res_imp (.tmp rfl (.tmp rfl (.nil))) (SV.imp_refl _)⟩
  · replace h := br_t h
    refine ok_condT rfl ?_
    refine ok_seq ?_
    refine ok_region ?_
    refine RT.mv .none rfl (tl rfl) ?_
    replace h := bind_some h
    obtain ⟨x15, h15, h⟩ := h
    refine RT.call .none (slices_Clone_ok h15) rfl ⟨rfl, trivial⟩ (tl rfl) ?_
    refine RT.asg .none rfl (tl rfl) ?_
    refine RT.asg .none rfl (tl rfl) ?_
    refine RT.done ?_
    refine AThen.n ?_
    refine ok_weak (weak_nil 4 310 51 1 rfl rfl (tl rfl)) ?_
    refine ok_weak (weak_frzM (i := 310) (E1 := 51) (n := 1) (e := eU32) (l := []) rfl) ?_
    refine ok_ret ?_
    refine AInB.r ?_
    refine AThen.r ?_
    obtain rfl := Option.some.inj h
    exact ⟨.inr rfl, res_imp (.tmp rfl (.tmp rfl (.nil))) (SV.imp_refl _)⟩
end Go.Proofs.Ytgkafblpckcekaa
namespace Go.Proofs.Ytgkafblpckcekaa
open Go.Fw Go.RowKit
theorem whole_FromInt64_ok {x0 : Int} {r : Zr} (h : whole_FromInt64_m x0 = some r) : Pure Try.prog 32 [.v (.int .i64 x0)] (.agg (eZ r)) := by
  refine pure_of_ok Try.func32 rfl (Nat.le_of_ble_eq_true rfl) (fun wld M vs hvs => ?_)
  unfold whole_FromInt64_m at h
  refine ok_seq ?_
  refine ok_region ?_
  refine RT.allocI .none (cs := [.v (.bool false), slc 1 (List.map eU32 [])]) (by exact ⟨SV.imp_refl _, imp_nil, trivial⟩) rfl (tl rfl) rfl rfl ?_
  refine RT.done ?_
  refine AThen.n ?_
  refine ok_seq ?_
  refine ok_region ?_
  refine RT.mv .none rfl (tl rfl) ?_
  replace h := let_some h
  obtain ⟨x5, h5, h⟩ := h
  refine RT.conv .none _ rfl (tl rfl) (UK.conv h5) ?_
  refine RT.asg .none rfl (tl rfl) ?_
  refine RT.done ?_
  refine AThen.n ?_
  refine ok_seq ?_
  refine ok_seq ?_
  refine ok_region ?_
  refine RT.mv .none rfl (tl rfl) ?_
  replace h := let_some h
  obtain ⟨x7, h7, h⟩ := h
  refine RT.lss .none _ rfl rfl (tl rfl) h7 ?_
  refine RT.done ?_
  refine AThen.n ?_
  refine ok_tailJ h (fun j2 => AS.mkL 14 [(0, .sv (.v (.int .i64 x0))), (2, .ptr 2 0), (3, .sv (.v (.int .u64 ((j2 : Nat) : Int))))] [(2, ⟨24, [.sv (.v (.bool false)), .sv (slc 1 (List.map eU32 []))]⟩)] []) (fun h => ?_) (fun y3j1 h => ?_)
  · cases x7
    · replace h := br_f h
      refine ok_condF rfl ?_
      refine ok_skip ?_
      refine AThen.n ?_
      refine ⟨x5, h, ?_⟩
      try dsimp only
      exact weakL id rfl rfl rfl rfl rfl ⟨.sv (SV.imp_refl _), .ptr, .sv (SV.imp_refl _), trivial⟩ ⟨⟨_, rfl, ⟨.sv (SV.imp_refl _), .sv (SV.imp_refl _), trivial⟩⟩, trivial⟩ trivial (fun _ _ => rfl)
    · replace h := br_t h
      refine ok_condT rfl ?_
      refine ok_region ?_
      refine RT.mv .none rfl (tl rfl) ?_
      replace h := let_some h
      obtain ⟨x9, h9, h⟩ := h
      refine RT.neg .none _ rfl (tl rfl) (UK.neg h9) ?_
      refine RT.asg .none rfl (tl rfl) ?_
      refine RT.done ?_
      refine AThen.n ?_
      refine ⟨x9, h, ?_⟩
      try dsimp only
      exact weakL id rfl rfl rfl rfl rfl ⟨.sv (SV.imp_refl _), .ptr, .sv (SV.imp_refl _), trivial⟩ ⟨⟨_, rfl, ⟨.sv (SV.imp_refl _), .sv (SV.imp_refl _), trivial⟩⟩, trivial⟩ trivial (fun _ _ => rfl)
  · try dsimp only
    refine AThen.n ?_
    refine ok_seq ?_
    refine ok_region ?_
    refine RT.mv .none rfl (tl rfl) ?_
    replace h := let_some h
    obtain ⟨x11, h11, h⟩ := h
    refine RT.lss .none _ rfl rfl (tl rfl) h11 ?_
    refine RT.mv .none rfl (tl rfl) ?_
    replace h := bind_some h
    obtain ⟨⟨x13_0, x13_1⟩, h13, h⟩ := h
    refine RT.call .none (whole_small_ok h13) rfl ⟨rfl, rfl, trivial⟩ (tl rfl) ?_
    refine RT.store .none rfl rfl rfl rfl rfl ?_
    refine RT.done ?_
    refine AThen.n ?_
    refine ok_ret ?_
    obtain rfl := Option.some.inj h
    exact ⟨.inr rfl, res_imp (.agg rfl rfl (.cons rfl (.cons rfl (.nil))) rfl (.nil)) (SV.imp_refl _)⟩
theorem whole_Int64_ok {x0 : Zr} {r : Int × Bool} (h : whole_Int64_m x0 = some r) : Pure Try.prog 30 [.agg (eZ x0)] (.tup [.v (.int .i64 r.1), .v (.bool r.2)]) := by
  obtain ⟨x0_0, x0_1⟩ := x0
  refine pure_of_ok Try.func30 rfl (Nat.le_of_ble_eq_true rfl) (fun wld M vs hvs => ?_)
  unfold whole_Int64_m at h
  refine ok_seq ?_
  refine ok_region ?_
  refine RT.box .none rfl (tl rfl) rfl rfl ?_
  refine RT.asg .none rfl (tl rfl) ?_
  refine RT.asg .none rfl (tl rfl) ?_
  refine RT.done ?_
  refine AThen.n ?_
  refine ok_seq ?_
  refine ok_region ?_
  refine RT.fieldAddr .none rfl (tl rfl) rfl ?_
  refine RT.ldV .none rfl rfl rfl (tl rfl) ?_
  replace h := bind_some h
  obtain ⟨x8, h8, h⟩ := h
  refine RT.call .none (whole_trim_ok h8) rfl ⟨rfl, trivial⟩ (tl rfl) ?_
  refine RT.asg .none rfl (tl rfl) ?_
  refine RT.done ?_
  refine AThen.n ?_
  refine ok_seq ?_
  refine ok_seq ?_
  refine ok_region ?_
  refine RT.mv .none rfl (tl rfl) ?_
  replace h := let_some h
  obtain ⟨x10, h10, h⟩ := h
  refine RT.lenM .none rfl (tl rfl) h10 ?_
  replace h := let_some h
  obtain ⟨x11, h11, h⟩ := h
  refine RT.gtr .none _ rfl rfl (tl rfl) h11 ?_
  refine RT.done ?_
  refine AThen.n ?_
  cases x11
  · replace h := br_f h
    refine ok_condF rfl ?_
    refine ok_skip ?_
    refine AThen.n ?_
    refine ok_seq ?_
    refine ok_region ?_
    refine RT.mv .none rfl (tl rfl) ?_
    replace h := bind_some h
    obtain ⟨x13, h13, h⟩ := h
    refine RT.call .none (whole_low_ok h13) rfl ⟨rfl, trivial⟩ (tl rfl) ?_
    refine RT.asg .none rfl (tl rfl) ?_
    refine RT.done ?_
    refine AThen.n ?_
    refine ok_seq ?_
    refine ok_seq ?_
    refine ok_region ?_
    refine RT.fieldAddr .none rfl (tl rfl) rfl ?_
    refine RT.ldV .none rfl rfl rfl (tl rfl) ?_
    refine RT.done ?_
    refine AThen.n ?_
    cases x0_0
    · replace h := br_f h
      refine ok_condF rfl ?_
      refine ok_skip ?_
      refine AThen.n ?_
      refine ok_seq ?_
      refine ok_seq ?_
      refine ok_region ?_
      refine RT.mv .none rfl (tl rfl) ?_
      replace h := let_some h
      obtain ⟨x22, h22, h⟩ := h
      refine RT.geq .none _ rfl rfl (tl rfl) (leN (p := 9223372036854775808) (q := x13) h22) ?_
      refine RT.done ?_
      refine AThen.n ?_
      cases x22
      · replace h := br_f h
        refine ok_condF rfl ?_
        refine ok_skip ?_
        refine AThen.n ?_
        refine ok_seq ?_
        refine ok_region ?_
        refine RT.mv .none rfl (tl rfl) ?_
        replace h := let_some h
        obtain ⟨x24, h24, h⟩ := h
        refine RT.conv .none _ rfl (tl rfl) h24 ?_
        refine RT.asg .none rfl (tl rfl) ?_
        refine RT.asg .none rfl (tl rfl) ?_
        refine RT.done ?_
        refine AThen.n ?_
        refine ok_ret ?_
        obtain rfl := Option.some.inj h
        exact ⟨.inr rfl, res_imp (.tmp rfl (.tmp rfl (.nil))) (SV.imp_refl _)⟩
      · replace h := br_t h
        refine ok_condT rfl ?_
        refine ok_seq ?_
        refine ok_region ?_
        refine RT.asg .none rfl (tl rfl) ?_
        refine RT.asg .none rfl (tl rfl) ?_
        refine RT.done ?_
        refine AThen.n ?_
        refine ok_ret ?_
        refine AThen.r ?_
        obtain rfl := Option.some.inj h
        exact ⟨.inr rfl, res_imp (.tmp rfl (.tmp rfl (.nil))) (SV.imp_refl _)⟩
    · replace h := br_t h
      refine ok_condT rfl ?_
      refine ok_seq ?_
      refine ok_seq ?_
      refine ok_region ?_
      refine RT.mv .none rfl (tl rfl) ?_
      replace h := let_some h
      obtain ⟨x17, h17, h⟩ := h
      refine RT.gtr .none _ rfl rfl (tl rfl) (ltN (p := 9223372036854775808) (q := x13) h17) ?_
      refine RT.done ?_
      refine AThen.n ?_
      cases x17
      · replace h := br_f h
        refine ok_condF rfl ?_
        refine ok_skip ?_
        refine AThen.n ?_
        refine ok_seq ?_
        refine ok_region ?_
        refine RT.mv .none rfl (tl rfl) ?_
        replace h := let_some h
        obtain ⟨x19, h19, h⟩ := h
        refine RT.neg .none _ rfl (tl rfl) (UK.neg h19) ?_
        replace h := let_some h
        obtain ⟨x20, h20, h⟩ := h
        refine RT.conv .none _ rfl (tl rfl) h20 ?_
        refine RT.asg .none rfl (tl rfl) ?_
        refine RT.asg .none rfl (tl rfl) ?_
        refine RT.done ?_
        refine AThen.n ?_
        refine ok_ret ?_
        refine AThen.r ?_
        obtain rfl := Option.some.inj h
        exact ⟨.inr rfl, res_imp (.tmp rfl (.tmp rfl (.nil))) (SV.imp_refl _)⟩
      · replace h := br_t h
        refine ok_condT rfl ?_
        refine ok_seq ?_
        refine ok_region ?_
        refine RT.asg .none rfl (tl rfl) ?_
        refine RT.asg .none rfl (tl rfl) ?_
        refine RT.done ?_
        refine AThen.n ?_
        refine ok_ret ?_
        refine AThen.r ?_
        refine AThen.r ?_
        obtain rfl := Option.some.inj h
        exact ⟨.inr rfl, res_imp (.tmp rfl (.tmp rfl (.nil))) (SV.imp_refl _)⟩
  · replace h := br_t h
    refine ok_condT rfl ?_
    refine ok_seq ?_
    refine ok_region ?_
    refine RT.asg .none rfl (tl rfl) ?_
    refine RT.asg .none rfl (tl rfl) ?_
    refine RT.done ?_
    refine AThen.n ?_
    refine ok_ret ?_
    refine AThen.r ?_
    obtain rfl := Option.some.inj h
    exact ⟨.inr rfl, res_imp (.tmp rfl (.tmp rfl (.nil))) (SV.imp_refl _)⟩
theorem whole_IsCanonical_ok {x0 : Zr} {r : Bool} (h : whole_IsCanonical_m x0 = some r) : Pure Try.prog 29 [.agg (eZ x0)] (.v (.bool r)) := by
  obtain ⟨x0_0, x0_1⟩ := x0
  refine pure_of_ok Try.func29 rfl (Nat.le_of_ble_eq_true rfl) (fun wld M vs hvs => ?_)
  unfold whole_IsCanonical_m at h
  refine ok_seq ?_
  refine ok_region ?_
  refine RT.box .none rfl (tl rfl) rfl rfl ?_
  refine RT.asg .none rfl (tl rfl) ?_
  refine RT.done ?_
  refine AThen.n ?_
  refine ok_seq ?_
  refine ok_seq ?_
  refine ok_region ?_
  refine RT.fieldAddr .none rfl (tl rfl) rfl ?_
  refine RT.ldV .none rfl rfl rfl (tl rfl) ?_
  replace h := let_some h
  obtain ⟨x5, h5, h⟩ := h
  refine RT.lenM .none rfl (tl rfl) h5 ?_
  replace h := let_some h
  obtain ⟨x6, h6, h⟩ := h
  refine RT.eql .none _ rfl rfl (tl rfl) (eqI (p := x5) (q := 0) h6) ?_
  refine RT.done ?_
  refine AThen.n ?_
  cases x6
  · replace h := br_f h
    refine ok_condF rfl ?_
    refine ok_skip ?_
    refine AThen.n ?_
    refine ok_seq ?_
    refine ok_region ?_
    refine RT.fieldAddr .none rfl (tl rfl) rfl ?_
    refine RT.ldV .none rfl rfl rfl (tl rfl) ?_
    refine RT.fieldAddr .none rfl (tl rfl) rfl ?_
    refine RT.ldV .none rfl rfl rfl (tl rfl) ?_
    replace h := let_some h
    obtain ⟨x14, h14, h⟩ := h
    refine RT.lenM .none rfl (tl rfl) h14 ?_
    replace h := let_some h
    obtain ⟨x15, h15, h⟩ := h
    refine RT.sub .none _ rfl rfl (tl rfl) h15 ?_
    replace h := bind_some h
    obtain ⟨x16, h16, h⟩ := h
    refine RT.ixM .none rfl rfl (tl rfl) h16 ?_
    refine RT.loadRV .none rfl rfl (tl rfl) ?_
    replace h := let_some h
    obtain ⟨x18, h18, h⟩ := h
    refine RT.neq .none _ rfl rfl (tl rfl) (neN (p := x16) (q := 0) h18) ?_
    refine RT.asg .none rfl (tl rfl) ?_
    refine RT.done ?_
    refine AThen.n ?_
    refine ok_ret ?_
    obtain rfl := Option.some.inj h
    exact ⟨.inr rfl, res_imp (.tmp rfl (.nil)) (SV.imp_refl _)⟩
  · replace h := br_t h
    refine ok_condT rfl ?_
    refine ok_seq ?_
    refine ok_region ?_
    refine RT.fieldAddr .none rfl (tl rfl) rfl ?_
    refine RT.ldV .none rfl rfl rfl (tl rfl) ?_
    replace h := let_some h
    obtain ⟨x9, h9, h⟩ := h
    refine RT.not .none rfl (tl rfl) _ h9 ?_
    refine RT.asg .none rfl (tl rfl) ?_
    refine RT.done ?_
    refine AThen.n ?_
    refine ok_ret ?_
    refine AThen.r ?_
    obtain rfl := Option.some.inj h
    exact ⟨.inr rfl, res_imp (.tmp rfl (.nil)) (SV.imp_refl _)⟩
theorem whole_signedSum_ok {x0 : Bool} {x1 : List Nat} {x2 : Bool} {x3 : List Nat} {r : Zr} (h : whole_signedSum_m x0 x1 x2 x3 = some r) : Pure Try.prog 66 [.v (.bool x0), slc 1 (List.map eU32 x1), .v (.bool x2), slc 1 (List.map eU32 x3)] (.agg (eZ r)) := by
  refine pure_of_ok Try.func66 rfl (Nat.le_of_ble_eq_true rfl) (fun wld M vs hvs => ?_)
  unfold whole_signedSum_m at h
  refine ok_seq ?_
  refine ok_region ?_
  refine RT.allocI .none (cs := [.v (.bool false), slc 1 (List.map eU32 [])]) (by exact ⟨SV.imp_refl _, imp_nil, trivial⟩) rfl (tl rfl) rfl rfl ?_
  refine RT.done ?_
  refine AThen.n ?_
  refine ok_seq ?_
  refine ok_seq ?_
  refine ok_region ?_
  refine RT.mv .none rfl (tl rfl) ?_
  refine RT.mv .none rfl (tl rfl) ?_
  replace h := let_some h
  obtain ⟨x11, h11, h⟩ := h
  refine RT.beql .none _ rfl rfl (tl rfl) h11 ?_
  refine RT.done ?_
  refine AThen.n ?_
  cases x11
  · replace h := br_f h
    refine ok_condF rfl ?_
    refine ok_skip ?_
    refine AThen.n ?_
    refine ok_seq ?_
    refine ok_seq ?_
    refine ok_region ?_
    refine RT.mv .none rfl (tl rfl) ?_
    refine RT.mv .none rfl (tl rfl) ?_
    replace h := bind_some h
    obtain ⟨x19, h19, h⟩ := h
    refine RT.call .none (whole_compareWords_ok h19) rfl ⟨rfl, rfl, trivial⟩ (tl rfl) ?_
    replace h := let_some h
    obtain ⟨x20, h20, h⟩ := h
    refine RT.lss .none _ rfl rfl (tl rfl) h20 ?_
    refine RT.done ?_
    refine AThen.n ?_
    cases x20
    · replace h := br_f h
      refine ok_condF rfl ?_
      refine ok_skip ?_
      refine AThen.n ?_
      refine ok_seq ?_
      refine ok_region ?_
      refine RT.mv .none rfl (tl rfl) ?_
      refine RT.mv .none rfl (tl rfl) ?_
      refine RT.mv .none rfl (tl rfl) ?_
      replace h := bind_some h
      obtain ⟨x29, h29, h⟩ := h
      refine RT.call .none (whole_subWords_ok h29) rfl ⟨rfl, rfl, trivial⟩ (tl rfl) ?_
      replace h := bind_some h
      obtain ⟨⟨x30_0, x30_1⟩, h30, h⟩ := h
      refine RT.call .none (whole_build_ok h30) rfl ⟨rfl, rfl, trivial⟩ (tl rfl) ?_
      refine RT.store .none rfl rfl rfl rfl rfl ?_
      refine RT.done ?_
      refine AThen.n ?_
      refine ok_ret ?_
      obtain rfl := Option.some.inj h
      exact ⟨.inr rfl, res_imp (.agg rfl rfl (.cons rfl (.cons rfl (.nil))) rfl (.nil)) (SV.imp_refl _)⟩
    · replace h := br_t h
      refine ok_condT rfl ?_
      refine ok_seq ?_
      refine ok_region ?_
      refine RT.mv .none rfl (tl rfl) ?_
      refine RT.mv .none rfl (tl rfl) ?_
      refine RT.mv .none rfl (tl rfl) ?_
      replace h := bind_some h
      obtain ⟨x24, h24, h⟩ := h
      refine RT.call .none (whole_subWords_ok h24) rfl ⟨rfl, rfl, trivial⟩ (tl rfl) ?_
      replace h := bind_some h
      obtain ⟨⟨x25_0, x25_1⟩, h25, h⟩ := h
      refine RT.call .none (whole_build_ok h25) rfl ⟨rfl, rfl, trivial⟩ (tl rfl) ?_
      refine RT.store .none rfl rfl rfl rfl rfl ?_
      refine RT.done ?_
      refine AThen.n ?_
      refine ok_ret ?_
      refine AThen.r ?_
      obtain rfl := Option.some.inj h
      exact ⟨.inr rfl, res_imp (.agg rfl rfl (.cons rfl (.cons rfl (.nil))) rfl (.nil)) (SV.imp_refl _)⟩
  · replace h := br_t h
    refine ok_condT rfl ?_
    refine ok_seq ?_
    refine ok_region ?_
    refine RT.mv .none rfl (tl rfl) ?_
    refine RT.mv .none rfl (tl rfl) ?_
    refine RT.mv .none rfl (tl rfl) ?_
    replace h := bind_some h
    obtain ⟨x15, h15, h⟩ := h
    refine RT.call .none (whole_addWords_ok h15) rfl ⟨rfl, rfl, trivial⟩ (tl rfl) ?_
    replace h := bind_some h
    obtain ⟨⟨x16_0, x16_1⟩, h16, h⟩ := h
    refine RT.call .none (whole_build_ok h16) rfl ⟨rfl, rfl, trivial⟩ (tl rfl) ?_
    refine RT.store .none rfl rfl rfl rfl rfl ?_
    refine RT.done ?_
    refine AThen.n ?_
    refine ok_ret ?_
    refine AThen.r ?_
    obtain rfl := Option.some.inj h
    exact ⟨.inr rfl, res_imp (.agg rfl rfl (.cons rfl (.cons rfl (.nil))) rfl (.nil)) (SV.imp_refl _)⟩
theorem whole_Add_ok {x0 : Zr} {x1 : Zr} {r : Zr} (h : whole_Add_m x0 x1 = some r) : Pure Try.prog 24 [.agg (eZ x0), .agg (eZ x1)] (.agg (eZ r)) := by
  obtain ⟨x0_0, x0_1⟩ := x0
  obtain ⟨x1_0, x1_1⟩ := x1
  refine pure_of_ok Try.func24 rfl (Nat.le_of_ble_eq_true rfl) (fun wld M vs hvs => ?_)
  unfold whole_Add_m at h
  refine ok_seq ?_
  refine ok_region ?_
  refine RT.box .none rfl (tl rfl) rfl rfl ?_
  refine RT.box .none rfl (tl rfl) rfl rfl ?_
  refine RT.allocI .none (cs := [.v (.bool false), slc 1 (List.map eU32 [])]) (by exact ⟨SV.imp_refl _, imp_nil, trivial⟩) rfl (tl rfl) rfl rfl ?_
  refine RT.done ?_
  refine AThen.n ?_
  refine ok_seq ?_
  refine ok_region ?_
  refine RT.load .none rfl rfl (.cons rfl (.cons rfl (.nil))) rfl (tl rfl) ?_
  replace h := bind_some h
  obtain ⟨⟨x12a, x12b⟩, h12, h⟩ := h
  refine RT.call .none (whole_Int64_ok h12) rfl ⟨rfl, trivial⟩ (tl rfl) ?_
  refine RT.mv .none rfl (tl rfl) ?_
  refine RT.extract .none rfl rfl (tl rfl) ?_
  refine RT.extract .none rfl rfl (tl rfl) ?_
  refine RT.asg .none rfl (tl rfl) ?_
  refine RT.asg .none rfl (tl rfl) ?_
  refine RT.done ?_
  refine AThen.n ?_
  refine ok_seq ?_
  refine ok_region ?_
  refine RT.load .none rfl rfl (.cons rfl (.cons rfl (.nil))) rfl (tl rfl) ?_
  replace h := bind_some h
  obtain ⟨⟨x17a, x17b⟩, h17, h⟩ := h
  refine RT.call .none (whole_Int64_ok h17) rfl ⟨rfl, trivial⟩ (tl rfl) ?_
  refine RT.mv .none rfl (tl rfl) ?_
  refine RT.extract .none rfl rfl (tl rfl) ?_
  refine RT.extract .none rfl rfl (tl rfl) ?_
  refine RT.asg .none rfl (tl rfl) ?_
  refine RT.asg .none rfl (tl rfl) ?_
  refine RT.done ?_
  refine AThen.n ?_
  refine ok_seq ?_
  refine ok_seq ?_
  refine ok_tailJ h (fun j3 => AS.mkL 48 [(2, .ptr 2 0), (3, .ptr 3 0), (4, .ptr 4 0), (5, .sv (.v (.int .i64 x12a))), (7, .sv (.v (.int .i64 x17a))), (23, .sv (.v (.bool j3)))] [(4, ⟨24, [.sv (.v (.bool false)), .sv (slc 1 (List.map eU32 []))]⟩), (3, ⟨24, [.sv (.v (.bool x1_0)), .sv (slc 1 (List.map eU32 x1_1))]⟩), (2, ⟨24, [.sv (.v (.bool x0_0)), .sv (slc 1 (List.map eU32 x0_1))]⟩)] []) (fun h => ?_) (fun y23j2 h => ?_)
  · refine ok_region ?_
    refine RT.mv .none rfl (tl rfl) ?_
    refine RT.mv .none rfl (tl rfl) ?_
    replace h := bind_some h
    obtain ⟨c23_6, hg6, h⟩ := h
    cases x12b
    · replace hg6 := br_f hg6
      obtain rfl := Option.some.inj hg6
      refine RT.skV rfl rfl (sk rfl) (tl rfl) ?_
      refine RT.pickF .none rfl rfl (tl rfl) ?_
      refine RT.done ?_
      refine AThen.n ?_
      refine ⟨false, h, ?_⟩
      try dsimp only
      exact weakL id rfl rfl rfl rfl rfl ⟨.ptr, .ptr, .ptr, .sv (SV.imp_refl _), .sv (SV.imp_refl _), .sv (SV.imp_refl _), trivial⟩ ⟨⟨_, rfl, ⟨.sv (SV.imp_refl _), .sv (SV.imp_refl _), trivial⟩⟩, ⟨_, rfl, ⟨.sv (SV.imp_refl _), .sv (SV.imp_refl _), trivial⟩⟩, ⟨_, rfl, ⟨.sv (SV.imp_refl _), .sv (SV.imp_refl _), trivial⟩⟩, trivial⟩ trivial (fun _ _ => rfl)
    · replace hg6 := br_t hg6
      refine RT.mv (.some rfl rfl) rfl (tl rfl) ?_
      obtain rfl := Option.some.inj hg6
      refine RT.pickT .none rfl rfl (tl rfl) ?_
      refine RT.done ?_
      refine AThen.n ?_
      refine ⟨x17b, h, ?_⟩
      try dsimp only
      exact weakL id rfl rfl rfl rfl rfl ⟨.ptr, .ptr, .ptr, .sv (SV.imp_refl _), .sv (SV.imp_refl _), .sv (SV.imp_refl _), trivial⟩ ⟨⟨_, rfl, ⟨.sv (SV.imp_refl _), .sv (SV.imp_refl _), trivial⟩⟩, ⟨_, rfl, ⟨.sv (SV.imp_refl _), .sv (SV.imp_refl _), trivial⟩⟩, ⟨_, rfl, ⟨.sv (SV.imp_refl _), .sv (SV.imp_refl _), trivial⟩⟩, trivial⟩ trivial (fun _ _ => rfl)
  · try dsimp only
    refine AThen.n ?_
    refine ok_tailJ h (fun j5 => AS.mkL 48 [(2, .ptr 2 0), (3, .ptr 3 0), (4, .ptr 4 0)] [(4, ⟨24, [.sv (.v (.bool false)), .sv (slc 1 (List.map eU32 []))]⟩), (3, ⟨24, [.sv (.v (.bool x1_0)), .sv (slc 1 (List.map eU32 x1_1))]⟩), (2, ⟨24, [.sv (.v (.bool x0_0)), .sv (slc 1 (List.map eU32 x0_1))]⟩)] []) (fun h => ?_) (fun j5 h => ?_)
    · cases y23j2
      · replace h := br_f h
        refine ok_condF rfl ?_
        refine ok_skip ?_
        refine AThen.n ?_
        refine ⟨(), h, ?_⟩
        try dsimp only
        exact weakL id rfl rfl rfl rfl rfl ⟨.ptr, .ptr, .ptr, trivial⟩ ⟨⟨_, rfl, ⟨.sv (SV.imp_refl _), .sv (SV.imp_refl _), trivial⟩⟩, ⟨_, rfl, ⟨.sv (SV.imp_refl _), .sv (SV.imp_refl _), trivial⟩⟩, ⟨_, rfl, ⟨.sv (SV.imp_refl _), .sv (SV.imp_refl _), trivial⟩⟩, trivial⟩ trivial (fun _ _ => rfl)
      · replace h := br_t h
        refine ok_condT rfl ?_
        refine ok_seq ?_
        refine ok_region ?_
        refine RT.mv .none rfl (tl rfl) ?_
        refine RT.mv .none rfl (tl rfl) ?_
        replace h := let_some h
        obtain ⟨x26, h26, h⟩ := h
        refine RT.add .none _ rfl rfl (tl rfl) h26 ?_
        refine RT.asg .none rfl (tl rfl) ?_
        refine RT.done ?_
        refine AThen.n ?_
        refine ok_seq ?_
        refine ok_region ?_
        refine RT.mv .none rfl (tl rfl) ?_
        refine RT.mv .none rfl (tl rfl) ?_
        replace h := let_some h
        obtain ⟨x29, h29, h⟩ := h
        refine RT.xor .none _ rfl rfl (tl rfl) h29 ?_
        refine RT.mv .none rfl (tl rfl) ?_
        refine RT.mv .none rfl (tl rfl) ?_
        replace h := let_some h
        obtain ⟨x32, h32, h⟩ := h
        refine RT.xor .none _ rfl rfl (tl rfl) h32 ?_
        replace h := let_some h
        obtain ⟨x33, h33, h⟩ := h
        refine RT.and .none _ rfl rfl (tl rfl) h33 ?_
        replace h := let_some h
        obtain ⟨x34, h34, h⟩ := h
        refine RT.geq .none _ rfl rfl (tl rfl) h34 ?_
        refine RT.done ?_
        refine AThen.n ?_
        cases x34
        · replace h := br_f h
          refine ok_condF rfl ?_
          refine ok_skip ?_
          refine AThen.n ?_
          refine ⟨(), h, ?_⟩
          try dsimp only
          exact weakL id rfl rfl rfl rfl rfl ⟨.ptr, .ptr, .ptr, trivial⟩ ⟨⟨_, rfl, ⟨.sv (SV.imp_refl _), .sv (SV.imp_refl _), trivial⟩⟩, ⟨_, rfl, ⟨.sv (SV.imp_refl _), .sv (SV.imp_refl _), trivial⟩⟩, ⟨_, rfl, ⟨.sv (SV.imp_refl _), .sv (SV.imp_refl _), trivial⟩⟩, trivial⟩ trivial (fun _ _ => rfl)
        · replace h := br_t h
          refine ok_condT rfl ?_
          refine ok_seq ?_
          refine ok_region ?_
          refine RT.mv .none rfl (tl rfl) ?_
          replace h := bind_some h
          obtain ⟨⟨x36_0, x36_1⟩, h36, h⟩ := h
          refine RT.call .none (whole_FromInt64_ok h36) rfl ⟨rfl, trivial⟩ (tl rfl) ?_
          refine RT.store .none rfl rfl rfl rfl rfl ?_
          refine RT.done ?_
          refine AThen.n ?_
          refine ok_ret ?_
          refine AThen.r ?_
          refine AThen.r ?_
          obtain rfl := Option.some.inj h
          exact ⟨.inr rfl, res_imp (.agg rfl rfl (.cons rfl (.cons rfl (.nil))) rfl (.nil)) (SV.imp_refl _)⟩
    · try dsimp only
      refine AThen.n ?_
      refine ok_seq ?_
      refine ok_region_draw mixed ?_
      refine RT.fieldAddr .none rfl (tl rfl) rfl ?_
      refine RT.ldV .none rfl rfl rfl (tl rfl) ?_
      refine RT.fieldAddr .none rfl (tl rfl) rfl ?_
      refine RT.ldV .none rfl rfl rfl (tl rfl) ?_
      replace h := bind_some h
      obtain ⟨x41, h41, h⟩ := h
      refine RT.call .none (whole_trim_ok h41) rfl ⟨rfl, trivial⟩ (tl rfl) ?_
      refine RT.fieldAddr .none rfl (tl rfl) rfl ?_
      refine RT.ldV .none rfl rfl rfl (tl rfl) ?_
      refine RT.fieldAddr .none rfl (tl rfl) rfl ?_
      refine RT.ldV .none rfl rfl rfl (tl rfl) ?_
      replace h := bind_some h
      obtain ⟨x46, h46, h⟩ := h
      refine RT.call .none (whole_trim_ok h46) rfl ⟨rfl, trivial⟩ (tl rfl) ?_
      replace h := bind_some h
      obtain ⟨⟨x47_0, x47_1⟩, h47, h⟩ := h
      refine RT.call .none (whole_signedSum_ok h47) rfl ⟨rfl, rfl, rfl, rfl, trivial⟩ (tl rfl) ?_
      refine RT.store .none rfl rfl rfl rfl rfl ?_
      refine RT.done ⟨by kernel_rfl, ?_⟩
      refine AThen.n ?_
      refine ok_ret ?_
      obtain rfl := Option.some.inj h
      exact ⟨.inr rfl, res_imp (.agg rfl rfl (.cons rfl (.cons rfl (.nil))) rfl (.nil)) (SV.imp_refl _)⟩
theorem whole_Sub_ok {x0 : Zr} {x1 : Zr} {r : Zr} (h : whole_Sub_m x0 x1 = some r) : Pure Try.prog 28 [.agg (eZ x0), .agg (eZ x1)] (.agg (eZ r)) := by
  obtain ⟨x0_0, x0_1⟩ := x0
  obtain ⟨x1_0, x1_1⟩ := x1
  refine pure_of_ok Try.func28 rfl (Nat.le_of_ble_eq_true rfl) (fun wld M vs hvs => ?_)
  unfold whole_Sub_m at h
  refine ok_seq ?_
  refine ok_region ?_
  refine RT.box .none rfl (tl rfl) rfl rfl ?_
  refine RT.box .none rfl (tl rfl) rfl rfl ?_
  refine RT.allocI .none (cs := [.v (.bool false), slc 1 (List.map eU32 [])]) (by exact ⟨SV.imp_refl _, imp_nil, trivial⟩) rfl (tl rfl) rfl rfl ?_
  refine RT.done ?_
  refine AThen.n ?_
  refine ok_seq ?_
  refine ok_region ?_
  refine RT.load .none rfl rfl (.cons rfl (.cons rfl (.nil))) rfl (tl rfl) ?_
  replace h := bind_some h
  obtain ⟨⟨x12a, x12b⟩, h12, h⟩ := h
  refine RT.call .none (whole_Int64_ok h12) rfl ⟨rfl, trivial⟩ (tl rfl) ?_
  refine RT.mv .none rfl (tl rfl) ?_
  refine RT.extract .none rfl rfl (tl rfl) ?_
  refine RT.extract .none rfl rfl (tl rfl) ?_
  refine RT.asg .none rfl (tl rfl) ?_
  refine RT.asg .none rfl (tl rfl) ?_
  refine RT.done ?_
  refine AThen.n ?_
  refine ok_seq ?_
  refine ok_region ?_
  refine RT.load .none rfl rfl (.cons rfl (.cons rfl (.nil))) rfl (tl rfl) ?_
  replace h := bind_some h
  obtain ⟨⟨x17a, x17b⟩, h17, h⟩ := h
  refine RT.call .none (whole_Int64_ok h17) rfl ⟨rfl, trivial⟩ (tl rfl) ?_
  refine RT.mv .none rfl (tl rfl) ?_
  refine RT.extract .none rfl rfl (tl rfl) ?_
  refine RT.extract .none rfl rfl (tl rfl) ?_
  refine RT.asg .none rfl (tl rfl) ?_
  refine RT.asg .none rfl (tl rfl) ?_
  refine RT.done ?_
  refine AThen.n ?_
  refine ok_seq ?_
  refine ok_seq ?_
  refine ok_tailJ h (fun j3 => AS.mkL 49 [(2, .ptr 2 0), (3, .ptr 3 0), (4, .ptr 4 0), (5, .sv (.v (.int .i64 x12a))), (7, .sv (.v (.int .i64 x17a))), (23, .sv (.v (.bool j3)))] [(4, ⟨24, [.sv (.v (.bool false)), .sv (slc 1 (List.map eU32 []))]⟩), (3, ⟨24, [.sv (.v (.bool x1_0)), .sv (slc 1 (List.map eU32 x1_1))]⟩), (2, ⟨24, [.sv (.v (.bool x0_0)), .sv (slc 1 (List.map eU32 x0_1))]⟩)] []) (fun h => ?_) (fun y23j2 h => ?_)
  · refine ok_region ?_
    refine RT.mv .none rfl (tl rfl) ?_
    refine RT.mv .none rfl (tl rfl) ?_
    replace h := bind_some h
    obtain ⟨c23_6, hg6, h⟩ := h
    cases x12b
    · replace hg6 := br_f hg6
      obtain rfl := Option.some.inj hg6
      refine RT.skV rfl rfl (sk rfl) (tl rfl) ?_
      refine RT.pickF .none rfl rfl (tl rfl) ?_
      refine RT.done ?_
      refine AThen.n ?_
      refine ⟨false, h, ?_⟩
      try dsimp only
      exact weakL id rfl rfl rfl rfl rfl ⟨.ptr, .ptr, .ptr, .sv (SV.imp_refl _), .sv (SV.imp_refl _), .sv (SV.imp_refl _), trivial⟩ ⟨⟨_, rfl, ⟨.sv (SV.imp_refl _), .sv (SV.imp_refl _), trivial⟩⟩, ⟨_, rfl, ⟨.sv (SV.imp_refl _), .sv (SV.imp_refl _), trivial⟩⟩, ⟨_, rfl, ⟨.sv (SV.imp_refl _), .sv (SV.imp_refl _), trivial⟩⟩, trivial⟩ trivial (fun _ _ => rfl)
    · replace hg6 := br_t hg6
      refine RT.mv (.some rfl rfl) rfl (tl rfl) ?_
      obtain rfl := Option.some.inj hg6
      refine RT.pickT .none rfl rfl (tl rfl) ?_
      refine RT.done ?_
      refine AThen.n ?_
      refine ⟨x17b, h, ?_⟩
      try dsimp only
      exact weakL id rfl rfl rfl rfl rfl ⟨.ptr, .ptr, .ptr, .sv (SV.imp_refl _), .sv (SV.imp_refl _), .sv (SV.imp_refl _), trivial⟩ ⟨⟨_, rfl, ⟨.sv (SV.imp_refl _), .sv (SV.imp_refl _), trivial⟩⟩, ⟨_, rfl, ⟨.sv (SV.imp_refl _), .sv (SV.imp_refl _), trivial⟩⟩, ⟨_, rfl, ⟨.sv (SV.imp_refl _), .sv (SV.imp_refl _), trivial⟩⟩, trivial⟩ trivial (fun _ _ => rfl)
  · try dsimp only
    refine AThen.n ?_
    refine ok_tailJ h (fun j5 => AS.mkL 49 [(2, .ptr 2 0), (3, .ptr 3 0), (4, .ptr 4 0)] [(4, ⟨24, [.sv (.v (.bool false)), .sv (slc 1 (List.map eU32 []))]⟩), (3, ⟨24, [.sv (.v (.bool x1_0)), .sv (slc 1 (List.map eU32 x1_1))]⟩), (2, ⟨24, [.sv (.v (.bool x0_0)), .sv (slc 1 (List.map eU32 x0_1))]⟩)] []) (fun h => ?_) (fun j5 h => ?_)
    · cases y23j2
      · replace h := br_f h
        refine ok_condF rfl ?_
        refine ok_skip ?_
        refine AThen.n ?_
        refine ⟨(), h, ?_⟩
        try dsimp only
        exact weakL id rfl rfl rfl rfl rfl ⟨.ptr, .ptr, .ptr, trivial⟩ ⟨⟨_, rfl, ⟨.sv (SV.imp_refl _), .sv (SV.imp_refl _), trivial⟩⟩, ⟨_, rfl, ⟨.sv (SV.imp_refl _), .sv (SV.imp_refl _), trivial⟩⟩, ⟨_, rfl, ⟨.sv (SV.imp_refl _), .sv (SV.imp_refl _), trivial⟩⟩, trivial⟩ trivial (fun _ _ => rfl)
      · replace h := br_t h
        refine ok_condT rfl ?_
        refine ok_seq ?_
        refine ok_region ?_
        refine RT.mv .none rfl (tl rfl) ?_
        refine RT.mv .none rfl (tl rfl) ?_
        replace h := let_some h
        obtain ⟨x26, h26, h⟩ := h
        refine RT.sub .none _ rfl rfl (tl rfl) h26 ?_
        refine RT.asg .none rfl (tl rfl) ?_
        refine RT.done ?_
        refine AThen.n ?_
        refine ok_seq ?_
        refine ok_region ?_
        refine RT.mv .none rfl (tl rfl) ?_
        refine RT.mv .none rfl (tl rfl) ?_
        replace h := let_some h
        obtain ⟨x29, h29, h⟩ := h
        refine RT.xor .none _ rfl rfl (tl rfl) h29 ?_
        refine RT.mv .none rfl (tl rfl) ?_
        refine RT.mv .none rfl (tl rfl) ?_
        replace h := let_some h
        obtain ⟨x32, h32, h⟩ := h
        refine RT.xor .none _ rfl rfl (tl rfl) h32 ?_
        replace h := let_some h
        obtain ⟨x33, h33, h⟩ := h
        refine RT.and .none _ rfl rfl (tl rfl) h33 ?_
        replace h := let_some h
        obtain ⟨x34, h34, h⟩ := h
        refine RT.geq .none _ rfl rfl (tl rfl) h34 ?_
        refine RT.done ?_
        refine AThen.n ?_
        cases x34
        · replace h := br_f h
          refine ok_condF rfl ?_
          refine ok_skip ?_
          refine AThen.n ?_
          refine ⟨(), h, ?_⟩
          try dsimp only
          exact weakL id rfl rfl rfl rfl rfl ⟨.ptr, .ptr, .ptr, trivial⟩ ⟨⟨_, rfl, ⟨.sv (SV.imp_refl _), .sv (SV.imp_refl _), trivial⟩⟩, ⟨_, rfl, ⟨.sv (SV.imp_refl _), .sv (SV.imp_refl _), trivial⟩⟩, ⟨_, rfl, ⟨.sv (SV.imp_refl _), .sv (SV.imp_refl _), trivial⟩⟩, trivial⟩ trivial (fun _ _ => rfl)
        · replace h := br_t h
          refine ok_condT rfl ?_
          refine ok_seq ?_
          refine ok_region ?_
          refine RT.mv .none rfl (tl rfl) ?_
          replace h := bind_some h
          obtain ⟨⟨x36_0, x36_1⟩, h36, h⟩ := h
          refine RT.call .none (whole_FromInt64_ok h36) rfl ⟨rfl, trivial⟩ (tl rfl) ?_
          refine RT.store .none rfl rfl rfl rfl rfl ?_
          refine RT.done ?_
          refine AThen.n ?_
          refine ok_ret ?_
          refine AThen.r ?_
          refine AThen.r ?_
          obtain rfl := Option.some.inj h
          exact ⟨.inr rfl, res_imp (.agg rfl rfl (.cons rfl (.cons rfl (.nil))) rfl (.nil)) (SV.imp_refl _)⟩
    · try dsimp only
      refine AThen.n ?_
      refine ok_seq ?_
      refine ok_region_draw mixed ?_
      refine RT.fieldAddr .none rfl (tl rfl) rfl ?_
      refine RT.ldV .none rfl rfl rfl (tl rfl) ?_
      refine RT.fieldAddr .none rfl (tl rfl) rfl ?_
      refine RT.ldV .none rfl rfl rfl (tl rfl) ?_
      replace h := bind_some h
      obtain ⟨x41, h41, h⟩ := h
      refine RT.call .none (whole_trim_ok h41) rfl ⟨rfl, trivial⟩ (tl rfl) ?_
      refine RT.fieldAddr .none rfl (tl rfl) rfl ?_
      refine RT.ldV .none rfl rfl rfl (tl rfl) ?_
      replace h := let_some h
      obtain ⟨x44, h44, h⟩ := h
      refine RT.not .none rfl (tl rfl) _ h44 ?_
      refine RT.fieldAddr .none rfl (tl rfl) rfl ?_
      refine RT.ldV .none rfl rfl rfl (tl rfl) ?_
      replace h := bind_some h
      obtain ⟨x47, h47, h⟩ := h
      refine RT.call .none (whole_trim_ok h47) rfl ⟨rfl, trivial⟩ (tl rfl) ?_
      replace h := bind_some h
      obtain ⟨⟨x48_0, x48_1⟩, h48, h⟩ := h
      refine RT.call .none (whole_signedSum_ok h48) rfl ⟨rfl, rfl, rfl, rfl, trivial⟩ (tl rfl) ?_
      refine RT.store .none rfl rfl rfl rfl rfl ?_
      refine RT.done ⟨by kernel_rfl, ?_⟩
      refine AThen.n ?_
      refine ok_ret ?_
      obtain rfl := Option.some.inj h
      exact ⟨.inr rfl, res_imp (.agg rfl rfl (.cons rfl (.cons rfl (.nil))) rfl (.nil)) (SV.imp_refl _)⟩
theorem whole_Mul_ok {x0 : Zr} {x1 : Zr} {r : Zr} (h : whole_Mul_m x0 x1 = some r) : Pure Try.prog 25 [.agg (eZ x0), .agg (eZ x1)] (.agg (eZ r)) := by
  obtain ⟨x0_0, x0_1⟩ := x0
  obtain ⟨x1_0, x1_1⟩ := x1
  refine pure_of_ok Try.func25 rfl (Nat.le_of_ble_eq_true rfl) (fun wld M vs hvs => ?_)
  unfold whole_Mul_m at h
  refine ok_seq ?_
  refine ok_region ?_
  refine RT.box .none rfl (tl rfl) rfl rfl ?_
  refine RT.box .none rfl (tl rfl) rfl rfl ?_
  refine RT.allocI .none (cs := [.v (.bool false), slc 1 (List.map eU32 [])]) (by exact ⟨SV.imp_refl _, imp_nil, trivial⟩) rfl (tl rfl) rfl rfl ?_
  refine RT.done ?_
  refine AThen.n ?_
  refine ok_seq ?_
  refine ok_region_draw mixed ?_
  refine RT.fieldAddr .none rfl (tl rfl) rfl ?_
  refine RT.ldV .none rfl rfl rfl (tl rfl) ?_
  replace h := bind_some h
  obtain ⟨x9, h9, h⟩ := h
  refine RT.call .none (whole_trim_ok h9) rfl ⟨rfl, trivial⟩ (tl rfl) ?_
  refine RT.fieldAddr .none rfl (tl rfl) rfl ?_
  refine RT.ldV .none rfl rfl rfl (tl rfl) ?_
  replace h := bind_some h
  obtain ⟨x12, h12, h⟩ := h
  refine RT.call .none (whole_trim_ok h12) rfl ⟨rfl, trivial⟩ (tl rfl) ?_
  refine RT.asg .none rfl (tl rfl) ?_
  refine RT.asg .none rfl (tl rfl) ?_
  refine RT.done ⟨by kernel_rfl, ?_⟩
  refine AThen.n ?_
  refine ok_seq ?_
  refine ok_seq ?_
  refine ok_tailJ h (fun j3 => AS.mkL 41 [(2, .ptr 2 0), (3, .ptr 3 0), (4, .ptr 4 0), (5, .sv (slc 1 (List.map eU32 x9))), (6, .sv (slc 1 (List.map eU32 x12))), (20, .sv (.v (.bool j3)))] [(4, ⟨24, [.sv (.v (.bool false)), .sv (slc 1 (List.map eU32 []))]⟩), (3, ⟨24, [.sv (.v (.bool x1_0)), .sv (slc 1 (List.map eU32 x1_1))]⟩), (2, ⟨24, [.sv (.v (.bool x0_0)), .sv (slc 1 (List.map eU32 x0_1))]⟩)] []) (fun h => ?_) (fun y20j2 h => ?_)
  · refine ok_region ?_
    refine RT.mv .none rfl (tl rfl) ?_
    replace h := let_some h
    obtain ⟨x14, h14, h⟩ := h
    refine RT.lenM .none rfl (tl rfl) h14 ?_
    replace h := let_some h
    obtain ⟨x15, h15, h⟩ := h
    refine RT.leq .none _ rfl rfl (tl rfl) h15 ?_
    refine RT.mv .none rfl (tl rfl) ?_
    replace h := bind_some h
    obtain ⟨c20_4, hg4, h⟩ := h
    cases x15
    · replace hg4 := br_f hg4
      obtain rfl := Option.some.inj hg4
      refine RT.skV rfl rfl (sk rfl) (tl rfl) ?_
      refine RT.skV rfl rfl (sk rfl) (tl rfl) ?_
      refine RT.skV rfl rfl (sk rfl) (tl rfl) ?_
      refine RT.pickF .none rfl rfl (tl rfl) ?_
      refine RT.done ?_
      refine AThen.n ?_
      refine ⟨false, h, ?_⟩
      try dsimp only
      exact weakL id rfl rfl rfl rfl rfl ⟨.ptr, .ptr, .ptr, .sv (SV.imp_refl _), .sv (SV.imp_refl _), .sv (SV.imp_refl _), trivial⟩ ⟨⟨_, rfl, ⟨.sv (SV.imp_refl _), .sv (SV.imp_refl _), trivial⟩⟩, ⟨_, rfl, ⟨.sv (SV.imp_refl _), .sv (SV.imp_refl _), trivial⟩⟩, ⟨_, rfl, ⟨.sv (SV.imp_refl _), .sv (SV.imp_refl _), trivial⟩⟩, trivial⟩ trivial (fun _ _ => rfl)
    · replace hg4 := br_t hg4
      refine RT.mv (.some rfl rfl) rfl (tl rfl) ?_
      replace hg4 := let_some hg4
      obtain ⟨x18, h18, hg4⟩ := hg4
      refine RT.lenM (.some rfl rfl) rfl (tl rfl) h18 ?_
      replace hg4 := let_some hg4
      obtain ⟨x19, h19, hg4⟩ := hg4
      refine RT.leq (.some rfl rfl) _ rfl rfl (tl rfl) h19 ?_
      obtain rfl := Option.some.inj hg4
      refine RT.pickT .none rfl rfl (tl rfl) ?_
      refine RT.done ?_
      refine AThen.n ?_
      refine ⟨x19, h, ?_⟩
      try dsimp only
      exact weakL id rfl rfl rfl rfl rfl ⟨.ptr, .ptr, .ptr, .sv (SV.imp_refl _), .sv (SV.imp_refl _), .sv (SV.imp_refl _), trivial⟩ ⟨⟨_, rfl, ⟨.sv (SV.imp_refl _), .sv (SV.imp_refl _), trivial⟩⟩, ⟨_, rfl, ⟨.sv (SV.imp_refl _), .sv (SV.imp_refl _), trivial⟩⟩, ⟨_, rfl, ⟨.sv (SV.imp_refl _), .sv (SV.imp_refl _), trivial⟩⟩, trivial⟩ trivial (fun _ _ => rfl)
  · try dsimp only
    refine AThen.n ?_
    cases y20j2
    · replace h := br_f h
      refine ok_condF rfl ?_
      refine ok_skip ?_
      refine AThen.n ?_
      refine ok_seq ?_
      refine ok_region_draw mixed ?_
      refine RT.fieldAddr .none rfl (tl rfl) rfl ?_
      refine RT.ldV .none rfl rfl rfl (tl rfl) ?_
      refine RT.fieldAddr .none rfl (tl rfl) rfl ?_
      refine RT.ldV .none rfl rfl rfl (tl rfl) ?_
      replace h := let_some h
      obtain ⟨x36, h36, h⟩ := h
      refine RT.bneq .none _ rfl rfl (tl rfl) h36 ?_
      refine RT.mv .none rfl (tl rfl) ?_
      refine RT.mv .none rfl (tl rfl) ?_
      replace h := bind_some h
      obtain ⟨x39, h39, h⟩ := h
      refine RT.call .none (whole_mulWords_ok h39) rfl ⟨rfl, rfl, trivial⟩ (tl rfl) ?_
      replace h := bind_some h
      obtain ⟨⟨x40_0, x40_1⟩, h40, h⟩ := h
      refine RT.call .none (whole_build_ok h40) rfl ⟨rfl, rfl, trivial⟩ (tl rfl) ?_
      refine RT.store .none rfl rfl rfl rfl rfl ?_
      refine RT.done ⟨by kernel_rfl, ?_⟩
      refine AThen.n ?_
      refine ok_ret ?_
      obtain rfl := Option.some.inj h
      exact ⟨.inr rfl, res_imp (.agg rfl rfl (.cons rfl (.cons rfl (.nil))) rfl (.nil)) (SV.imp_refl _)⟩
    · replace h := br_t h
      refine ok_condT rfl ?_
      refine ok_seq ?_
      refine ok_region_draw mixed ?_
      refine RT.fieldAddr .none rfl (tl rfl) rfl ?_
      refine RT.ldV .none rfl rfl rfl (tl rfl) ?_
      refine RT.fieldAddr .none rfl (tl rfl) rfl ?_
      refine RT.ldV .none rfl rfl rfl (tl rfl) ?_
      replace h := let_some h
      obtain ⟨x25, h25, h⟩ := h
      refine RT.bneq .none _ rfl rfl (tl rfl) h25 ?_
      refine RT.mv .none rfl (tl rfl) ?_
      replace h := bind_some h
      obtain ⟨x27, h27, h⟩ := h
      refine RT.call .none (whole_low_ok h27) rfl ⟨rfl, trivial⟩ (tl rfl) ?_
      refine RT.mv .none rfl (tl rfl) ?_
      replace h := bind_some h
      obtain ⟨x29, h29, h⟩ := h
      refine RT.call .none (whole_low_ok h29) rfl ⟨rfl, trivial⟩ (tl rfl) ?_
      replace h := let_some h
      obtain ⟨x30, h30, h⟩ := h
      refine RT.mul .none _ rfl rfl (tl rfl) (UK.mul (a := x27) (b := x29) h30) ?_
      replace h := bind_some h
      obtain ⟨⟨x31_0, x31_1⟩, h31, h⟩ := h
      refine RT.call .none (whole_small_ok h31) rfl ⟨rfl, rfl, trivial⟩ (tl rfl) ?_
      refine RT.store .none rfl rfl rfl rfl rfl ?_
      refine RT.done ⟨by kernel_rfl, ?_⟩
      refine AThen.n ?_
      refine ok_ret ?_
      refine AThen.r ?_
      obtain rfl := Option.some.inj h
      exact ⟨.inr rfl, res_imp (.agg rfl rfl (.cons rfl (.cons rfl (.nil))) rfl (.nil)) (SV.imp_refl _)⟩
theorem whole_Neg_ok {x0 : Zr} {r : Zr} (h : whole_Neg_m x0 = some r) : Pure Try.prog 37 [.agg (eZ x0)] (.agg (eZ r)) := by
  obtain ⟨x0_0, x0_1⟩ := x0
  refine pure_of_ok Try.func37 rfl (Nat.le_of_ble_eq_true rfl) (fun wld M vs hvs => ?_)
  unfold whole_Neg_m at h
  refine ok_seq ?_
  refine ok_region ?_
  refine RT.box .none rfl (tl rfl) rfl rfl ?_
  refine RT.allocI .none (cs := [.v (.bool false), slc 1 (List.map eU32 [])]) (by exact ⟨SV.imp_refl _, imp_nil, trivial⟩) rfl (tl rfl) rfl rfl ?_
  refine RT.done ?_
  refine AThen.n ?_
  refine ok_seq ?_
  refine ok_region_draw mixed ?_
  refine RT.fieldAddr .none rfl (tl rfl) rfl ?_
  refine RT.ldV .none rfl rfl rfl (tl rfl) ?_
  replace h := let_some h
  obtain ⟨x5, h5, h⟩ := h
  refine RT.not .none rfl (tl rfl) _ h5 ?_
  refine RT.fieldAddr .none rfl (tl rfl) rfl ?_
  refine RT.ldV .none rfl rfl rfl (tl rfl) ?_
  replace h := bind_some h
  obtain ⟨x8, h8, h⟩ := h
  refine RT.call .none (whole_trim_ok h8) rfl ⟨rfl, trivial⟩ (tl rfl) ?_
  replace h := bind_some h
  obtain ⟨x9, h9, h⟩ := h
  refine RT.call .none (slices_Clone_ok h9) rfl ⟨rfl, trivial⟩ (tl rfl) ?_
  replace h := bind_some h
  obtain ⟨⟨x10_0, x10_1⟩, h10, h⟩ := h
  refine RT.call .none (whole_build_ok h10) rfl ⟨rfl, rfl, trivial⟩ (tl rfl) ?_
  refine RT.store .none rfl rfl rfl rfl rfl ?_
  refine RT.done ⟨by kernel_rfl, ?_⟩
  refine AThen.n ?_
  refine ok_ret ?_
  obtain rfl := Option.some.inj h
  exact ⟨.inr rfl, res_imp (.agg rfl rfl (.cons rfl (.cons rfl (.nil))) rfl (.nil)) (SV.imp_refl _)⟩
theorem whole_Abs_ok {x0 : Zr} {r : Zr} (h : whole_Abs_m x0 = some r) : Pure Try.prog 26 [.agg (eZ x0)] (.agg (eZ r)) := by
  obtain ⟨x0_0, x0_1⟩ := x0
  refine pure_of_ok Try.func26 rfl (Nat.le_of_ble_eq_true rfl) (fun wld M vs hvs => ?_)
  unfold whole_Abs_m at h
  refine ok_seq ?_
  refine ok_region ?_
  refine RT.box .none rfl (tl rfl) rfl rfl ?_
  refine RT.allocI .none (cs := [.v (.bool false), slc 1 (List.map eU32 [])]) (by exact ⟨SV.imp_refl _, imp_nil, trivial⟩) rfl (tl rfl) rfl rfl ?_
  refine RT.done ?_
  refine AThen.n ?_
  refine ok_seq ?_
  refine ok_region ?_
  refine RT.fieldAddr .none rfl (tl rfl) rfl ?_
  refine RT.ldV .none rfl rfl rfl (tl rfl) ?_
  replace h := bind_some h
  obtain ⟨x5, h5, h⟩ := h
  refine RT.call .none (whole_trim_ok h5) rfl ⟨rfl, trivial⟩ (tl rfl) ?_
  replace h := bind_some h
  obtain ⟨x6, h6, h⟩ := h
  refine RT.call .none (slices_Clone_ok h6) rfl ⟨rfl, trivial⟩ (tl rfl) ?_
  replace h := bind_some h
  obtain ⟨⟨x7_0, x7_1⟩, h7, h⟩ := h
  refine RT.call .none (whole_build_ok h7) rfl ⟨rfl, rfl, trivial⟩ (tl rfl) ?_
  refine RT.store .none rfl rfl rfl rfl rfl ?_
  refine RT.done ?_
  refine AThen.n ?_
  refine ok_ret ?_
  obtain rfl := Option.some.inj h
  exact ⟨.inr rfl, res_imp (.agg rfl rfl (.cons rfl (.cons rfl (.nil))) rfl (.nil)) (SV.imp_refl _)⟩
theorem whole_Sign_ok {x0 : Zr} {r : Int} (h : whole_Sign_m x0 = some r) : Pure Try.prog 22 [.agg (eZ x0)] (.v (.int .i64 r)) := by
  obtain ⟨x0_0, x0_1⟩ := x0
  refine pure_of_ok Try.func22 rfl (Nat.le_of_ble_eq_true rfl) (fun wld M vs hvs => ?_)
  unfold whole_Sign_m at h
  refine ok_seq ?_
  refine ok_region ?_
  refine RT.box .none rfl (tl rfl) rfl rfl ?_
  refine RT.asg .none rfl (tl rfl) ?_
  refine RT.done ?_
  refine AThen.n ?_
  refine ok_seq ?_
  refine ok_block ?_
  refine ok_seq ?_
  refine ok_region ?_
  refine RT.fieldAddr .none rfl (tl rfl) rfl ?_
  refine RT.ldV .none rfl rfl rfl (tl rfl) ?_
  replace h := bind_some h
  obtain ⟨x6, h6, h⟩ := h
  refine RT.call .none (whole_trim_ok h6) rfl ⟨rfl, trivial⟩ (tl rfl) ?_
  replace h := let_some h
  obtain ⟨x7, h7, h⟩ := h
  refine RT.lenM .none rfl (tl rfl) h7 ?_
  replace h := let_some h
  obtain ⟨x8, h8, h⟩ := h
  refine RT.eql .none _ rfl rfl (tl rfl) (eqI (p := x7) (q := 0) h8) ?_
  refine RT.asg .none rfl (tl rfl) ?_
  refine RT.done ?_
  refine AThen.n ?_
  cases x8
  · replace h := br_f h
    refine ok_condF rfl ?_
    refine ok_seq ?_
    refine ok_region ?_
    refine RT.fieldAddr .none rfl (tl rfl) rfl ?_
    refine RT.ldV .none rfl rfl rfl (tl rfl) ?_
    refine RT.asg .none rfl (tl rfl) ?_
    refine RT.done ?_
    refine AThen.n ?_
    cases x0_0
    · replace h := br_f h
      refine ok_condF rfl ?_
      refine ok_skip ?_
      refine AInB.n ?_
      refine AThen.n ?_
      refine ok_seq ?_
      refine ok_region ?_
      refine RT.asg .none rfl (tl rfl) ?_
      refine RT.done ?_
      refine AThen.n ?_
      refine ok_ret ?_
      obtain rfl := Option.some.inj h
      exact ⟨.inr rfl, res_imp (.tmp rfl (.nil)) (SV.imp_refl _)⟩
    · replace h := br_t h
      refine ok_condT rfl ?_
      refine ok_seq ?_
      refine ok_region ?_
      refine RT.asg .none rfl (tl rfl) ?_
      refine RT.done ?_
      refine AThen.n ?_
      refine ok_ret ?_
      refine AInB.r ?_
      refine AThen.r ?_
      obtain rfl := Option.some.inj h
      exact ⟨.inr rfl, res_imp (.tmp rfl (.nil)) (SV.imp_refl _)⟩
  · replace h := br_t h
    refine ok_condT rfl ?_
    refine ok_seq ?_
    refine ok_region ?_
    refine RT.asg .none rfl (tl rfl) ?_
    refine RT.done ?_
    refine AThen.n ?_
    refine ok_ret ?_
    refine AInB.r ?_
    refine AThen.r ?_
    obtain rfl := Option.some.inj h
    exact ⟨.inr rfl, res_imp (.tmp rfl (.nil)) (SV.imp_refl _)⟩
theorem whole_Cmp_ok {x0 : Zr} {x1 : Zr} {r : Int} (h : whole_Cmp_m x0 x1 = some r) : Pure Try.prog 23 [.agg (eZ x0), .agg (eZ x1)] (.v (.int .i64 r)) := by
  obtain ⟨x0_0, x0_1⟩ := x0
  obtain ⟨x1_0, x1_1⟩ := x1
  refine pure_of_ok Try.func23 rfl (Nat.le_of_ble_eq_true rfl) (fun wld M vs hvs => ?_)
  unfold whole_Cmp_m at h
  refine ok_seq ?_
  refine ok_region ?_
  refine RT.box .none rfl (tl rfl) rfl rfl ?_
  refine RT.box .none rfl (tl rfl) rfl rfl ?_
  refine RT.asg .none rfl (tl rfl) ?_
  refine RT.done ?_
  refine AThen.n ?_
  refine ok_seq ?_
  refine ok_region_draw mixed ?_
  refine RT.load .none rfl rfl (.cons rfl (.cons rfl (.nil))) rfl (tl rfl) ?_
  replace h := bind_some h
  obtain ⟨x8, h8, h⟩ := h
  refine RT.call .none (whole_Sign_ok h8) rfl ⟨rfl, trivial⟩ (tl rfl) ?_
  refine RT.load .none rfl rfl (.cons rfl (.cons rfl (.nil))) rfl (tl rfl) ?_
  replace h := bind_some h
  obtain ⟨x10, h10, h⟩ := h
  refine RT.call .none (whole_Sign_ok h10) rfl ⟨rfl, trivial⟩ (tl rfl) ?_
  refine RT.asg .none rfl (tl rfl) ?_
  refine RT.asg .none rfl (tl rfl) ?_
  refine RT.done ⟨by kernel_rfl, ?_⟩
  refine AThen.n ?_
  refine ok_seq ?_
  refine ok_block ?_
  refine ok_seq ?_
  refine ok_region ?_
  refine RT.mv .none rfl (tl rfl) ?_
  refine RT.mv .none rfl (tl rfl) ?_
  replace h := let_some h
  obtain ⟨x14, h14, h⟩ := h
  refine RT.lss .none _ rfl rfl (tl rfl) h14 ?_
  refine RT.asg .none rfl (tl rfl) ?_
  refine RT.done ?_
  refine AThen.n ?_
  cases x14
  · replace h := br_f h
    refine ok_condF rfl ?_
    refine ok_seq ?_
    refine ok_region ?_
    refine RT.mv .none rfl (tl rfl) ?_
    refine RT.mv .none rfl (tl rfl) ?_
    replace h := let_some h
    obtain ⟨x18, h18, h⟩ := h
    refine RT.gtr .none _ rfl rfl (tl rfl) h18 ?_
    refine RT.asg .none rfl (tl rfl) ?_
    refine RT.done ?_
    refine AThen.n ?_
    cases x18
    · replace h := br_f h
      refine ok_condF rfl ?_
      refine ok_seq ?_
      refine ok_region ?_
      refine RT.mv .none rfl (tl rfl) ?_
      replace h := let_some h
      obtain ⟨x21, h21, h⟩ := h
      refine RT.lss .none _ rfl rfl (tl rfl) h21 ?_
      refine RT.asg .none rfl (tl rfl) ?_
      refine RT.done ?_
      refine AThen.n ?_
      cases x21
      · replace h := br_f h
        refine ok_condF rfl ?_
        refine ok_skip ?_
        refine AInB.n ?_
        refine AThen.n ?_
        refine ok_seq ?_
        refine ok_region_draw mixed ?_
        refine RT.fieldAddr .none rfl (tl rfl) rfl ?_
        refine RT.ldV .none rfl rfl rfl (tl rfl) ?_
        replace h := bind_some h
        obtain ⟨x31, h31, h⟩ := h
        refine RT.call .none (whole_trim_ok h31) rfl ⟨rfl, trivial⟩ (tl rfl) ?_
        refine RT.fieldAddr .none rfl (tl rfl) rfl ?_
        refine RT.ldV .none rfl rfl rfl (tl rfl) ?_
        replace h := bind_some h
        obtain ⟨x34, h34, h⟩ := h
        refine RT.call .none (whole_trim_ok h34) rfl ⟨rfl, trivial⟩ (tl rfl) ?_
        replace h := bind_some h
        obtain ⟨x35, h35, h⟩ := h
        refine RT.call .none (whole_compareWords_ok h35) rfl ⟨rfl, rfl, trivial⟩ (tl rfl) ?_
        refine RT.asg .none rfl (tl rfl) ?_
        refine RT.done ⟨by kernel_rfl, ?_⟩
        refine AThen.n ?_
        refine ok_ret ?_
        obtain rfl := Option.some.inj h
        exact ⟨.inr rfl, res_imp (.tmp rfl (.nil)) (SV.imp_refl _)⟩
      · replace h := br_t h
        refine ok_condT rfl ?_
        refine ok_seq ?_
        refine ok_region_draw mixed ?_
        refine RT.fieldAddr .none rfl (tl rfl) rfl ?_
        refine RT.ldV .none rfl rfl rfl (tl rfl) ?_
        replace h := bind_some h
        obtain ⟨x24, h24, h⟩ := h
        refine RT.call .none (whole_trim_ok h24) rfl ⟨rfl, trivial⟩ (tl rfl) ?_
        refine RT.fieldAddr .none rfl (tl rfl) rfl ?_
        refine RT.ldV .none rfl rfl rfl (tl rfl) ?_
        replace h := bind_some h
        obtain ⟨x27, h27, h⟩ := h
        refine RT.call .none (whole_trim_ok h27) rfl ⟨rfl, trivial⟩ (tl rfl) ?_
        replace h := bind_some h
        obtain ⟨x28, h28, h⟩ := h
        refine RT.call .none (whole_compareWords_ok h28) rfl ⟨rfl, rfl, trivial⟩ (tl rfl) ?_
        refine RT.asg .none rfl (tl rfl) ?_
        refine RT.done ⟨by kernel_rfl, ?_⟩
        refine AThen.n ?_
        refine ok_ret ?_
        refine AInB.r ?_
        refine AThen.r ?_
        obtain rfl := Option.some.inj h
        exact ⟨.inr rfl, res_imp (.tmp rfl (.nil)) (SV.imp_refl _)⟩
    · replace h := br_t h
      refine ok_condT rfl ?_
      refine ok_seq ?_
      refine ok_region ?_
      refine RT.asg .none rfl (tl rfl) ?_
      refine RT.done ?_
      refine AThen.n ?_
      refine ok_ret ?_
      refine AInB.r ?_
      refine AThen.r ?_
      obtain rfl := Option.some.inj h
      exact ⟨.inr rfl, res_imp (.tmp rfl (.nil)) (SV.imp_refl _)⟩
  · replace h := br_t h
    refine ok_condT rfl ?_
    refine ok_seq ?_
    refine ok_region ?_
    refine RT.asg .none rfl (tl rfl) ?_
    refine RT.done ?_
    refine AThen.n ?_
    refine ok_ret ?_
    refine AInB.r ?_
    refine AThen.r ?_
    obtain rfl := Option.some.inj h
    exact ⟨.inr rfl, res_imp (.tmp rfl (.nil)) (SV.imp_refl _)⟩
theorem whole_DivMod_ok {x0 : Zr} {x1 : Zr} {r : Zr × Zr × Int} (h : whole_DivMod_m x0 x1 = some r) : Pure Try.prog 12 [.agg (eZ x0), .agg (eZ x1)] (.tup [.agg (eZ r.1), .agg (eZ r.2.1), .v (.int .i64 r.2.2)]) := by
  obtain ⟨x0_0, x0_1⟩ := x0
  obtain ⟨x1_0, x1_1⟩ := x1
  refine pure_of_ok Try.func12 rfl (Nat.le_of_ble_eq_true rfl) (fun wld M vs hvs => ?_)
  unfold whole_DivMod_m at h
  refine ok_seq ?_
  refine ok_region ?_
  refine RT.box .none rfl (tl rfl) rfl rfl ?_
  refine RT.box .none rfl (tl rfl) rfl rfl ?_
  refine RT.allocI .none (cs := [.v (.bool false), slc 1 (List.map eU32 [])]) (by exact ⟨SV.imp_refl _, imp_nil, trivial⟩) rfl (tl rfl) rfl rfl ?_
  refine RT.allocI .none (cs := [.v (.bool false), slc 1 (List.map eU32 [])]) (by exact ⟨SV.imp_refl _, imp_nil, trivial⟩) rfl (tl rfl) rfl rfl ?_
  refine RT.asg .none rfl (tl rfl) ?_
  refine RT.done ?_
  refine AThen.n ?_
  refine ok_seq ?_
  refine ok_region_draw mixed ?_
  refine RT.fieldAddr .none rfl (tl rfl) rfl ?_
  refine RT.ldV .none rfl rfl rfl (tl rfl) ?_
  replace h := bind_some h
  obtain ⟨x13, h13, h⟩ := h
  refine RT.call .none (whole_trim_ok h13) rfl ⟨rfl, trivial⟩ (tl rfl) ?_
  refine RT.fieldAddr .none rfl (tl rfl) rfl ?_
  refine RT.ldV .none rfl rfl rfl (tl rfl) ?_
  replace h := bind_some h
  obtain ⟨x16, h16, h⟩ := h
  refine RT.call .none (whole_trim_ok h16) rfl ⟨rfl, trivial⟩ (tl rfl) ?_
  refine RT.asg .none rfl (tl rfl) ?_
  refine RT.asg .none rfl (tl rfl) ?_
  refine RT.done ⟨by kernel_rfl, ?_⟩
  refine AThen.n ?_
  refine ok_seq ?_
  refine ok_seq ?_
  refine ok_region ?_
  refine RT.mv .none rfl (tl rfl) ?_
  replace h := let_some h
  obtain ⟨x18, h18, h⟩ := h
  refine RT.lenM .none rfl (tl rfl) h18 ?_
  replace h := let_some h
  obtain ⟨x19, h19, h⟩ := h
  refine RT.eql .none _ rfl rfl (tl rfl) (eqI (p := x18) (q := 0) h19) ?_
  refine RT.done ?_
  refine AThen.n ?_
  cases x19
  · replace h := br_f h
    refine ok_condF rfl ?_
    refine ok_skip ?_
    refine AThen.n ?_
    refine ok_seq ?_
    refine ok_region ?_
    refine RT.mv .none rfl (tl rfl) ?_
    refine RT.mv .none rfl (tl rfl) ?_
    replace h := bind_some h
    obtain ⟨⟨x25a, x25b⟩, h25, h⟩ := h
    refine RT.call .none (whole_divWords_ok h25) rfl ⟨rfl, rfl, trivial⟩ (tl rfl) ?_
    refine RT.mv .none rfl (tl rfl) ?_
    refine RT.extract .none rfl rfl (tl rfl) ?_
    refine RT.extract .none rfl rfl (tl rfl) ?_
    refine RT.asg .none rfl (tl rfl) ?_
    refine RT.asg .none rfl (tl rfl) ?_
    refine RT.done ?_
    refine AThen.n ?_
    refine ok_seq ?_
    refine ok_region ?_
    refine RT.mv .none rfl (tl rfl) ?_
    replace h := bind_some h
    obtain ⟨x29, h29, h⟩ := h
    refine RT.call .none (whole_trim_ok h29) rfl ⟨rfl, trivial⟩ (tl rfl) ?_
    refine RT.asg .none rfl (tl rfl) ?_
    refine RT.done ?_
    refine AThen.n ?_
    refine ok_seq ?_
    refine ok_seq ?_
    refine ok_tailJ h (fun j3 => AS.mkL 52 [(2, .ptr 2 0), (3, .ptr 3 0), (4, .ptr 4 0), (5, .ptr 5 0), (8, .sv (slc 1 (List.map eU32 x16))), (9, .sv (slc 1 (List.map eU32 x25a))), (10, .sv (slc 1 (List.map eU32 x29))), (36, .sv (.v (.bool j3.1)))] [(5, ⟨24, [.sv (.v (.bool false)), .sv (slc 1 (List.map eU32 []))]⟩), (4, ⟨24, [.sv (.v (.bool false)), .sv (slc 1 (List.map eU32 []))]⟩), (3, ⟨24, [.sv (.v (.bool x1_0)), .sv (slc 1 (List.map eU32 x1_1))]⟩), (2, ⟨24, [.sv (.v (.bool j3.2)), .sv (slc 1 (List.map eU32 x0_1))]⟩)] []) (fun h => ?_) (fun j3 h => ?_)
    · refine ok_region ?_
      refine RT.fieldAddr .none rfl (tl rfl) rfl ?_
      refine RT.ldV .none rfl rfl rfl (tl rfl) ?_
      refine RT.mv .none rfl (tl rfl) ?_
      replace h := bind_some h
      obtain ⟨c36_6, hg6, h⟩ := h
      cases x0_0
      · replace hg6 := br_f hg6
        obtain rfl := Option.some.inj hg6
        refine RT.skV rfl rfl (sk rfl) (tl rfl) ?_
        refine RT.skV rfl rfl (sk rfl) (tl rfl) ?_
        refine RT.skV rfl rfl (sk rfl) (tl rfl) ?_
        refine RT.pickF .none rfl rfl (tl rfl) ?_
        refine RT.done ?_
        refine AThen.n ?_
        refine ⟨(false, false), h, ?_⟩
        try dsimp only
        exact weakL id rfl rfl rfl rfl rfl ⟨.ptr, .ptr, .ptr, .ptr, .sv (SV.imp_refl _), .sv (SV.imp_refl _), .sv (SV.imp_refl _), .sv (SV.imp_refl _), trivial⟩ ⟨⟨_, rfl, ⟨.sv (SV.imp_refl _), .sv (SV.imp_refl _), trivial⟩⟩, ⟨_, rfl, ⟨.sv (SV.imp_refl _), .sv (SV.imp_refl _), trivial⟩⟩, ⟨_, rfl, ⟨.sv (SV.imp_refl _), .sv (SV.imp_refl _), trivial⟩⟩, ⟨_, rfl, ⟨.sv (SV.imp_refl _), .sv (SV.imp_refl _), trivial⟩⟩, trivial⟩ trivial (fun _ _ => rfl)
      · replace hg6 := br_t hg6
        refine RT.mv (.some rfl rfl) rfl (tl rfl) ?_
        replace hg6 := let_some hg6
        obtain ⟨x34, h34, hg6⟩ := hg6
        refine RT.lenM (.some rfl rfl) rfl (tl rfl) h34 ?_
        replace hg6 := let_some hg6
        obtain ⟨x35, h35, hg6⟩ := hg6
        refine RT.gtr (.some rfl rfl) _ rfl rfl (tl rfl) h35 ?_
        obtain rfl := Option.some.inj hg6
        refine RT.pickT .none rfl rfl (tl rfl) ?_
        refine RT.done ?_
        refine AThen.n ?_
        refine ⟨(x35, true), h, ?_⟩
        try dsimp only
        exact weakL id rfl rfl rfl rfl rfl ⟨.ptr, .ptr, .ptr, .ptr, .sv (SV.imp_refl _), .sv (SV.imp_refl _), .sv (SV.imp_refl _), .sv (SV.imp_refl _), trivial⟩ ⟨⟨_, rfl, ⟨.sv (SV.imp_refl _), .sv (SV.imp_refl _), trivial⟩⟩, ⟨_, rfl, ⟨.sv (SV.imp_refl _), .sv (SV.imp_refl _), trivial⟩⟩, ⟨_, rfl, ⟨.sv (SV.imp_refl _), .sv (SV.imp_refl _), trivial⟩⟩, ⟨_, rfl, ⟨.sv (SV.imp_refl _), .sv (SV.imp_refl _), trivial⟩⟩, trivial⟩ trivial (fun _ _ => rfl)
    · obtain ⟨y36j2, b2_0j2⟩ := j3
      try dsimp only
      refine AThen.n ?_
      refine ok_tailJ h (fun j5 => AS.mkL 52 [(2, .ptr 2 0), (3, .ptr 3 0), (4, .ptr 4 0), (5, .ptr 5 0), (9, .sv (slc 1 (List.map eU32 j5.1))), (10, .sv (slc 1 (List.map eU32 j5.2)))] [(5, ⟨24, [.sv (.v (.bool false)), .sv (slc 1 (List.map eU32 []))]⟩), (4, ⟨24, [.sv (.v (.bool false)), .sv (slc 1 (List.map eU32 []))]⟩), (3, ⟨24, [.sv (.v (.bool x1_0)), .sv (slc 1 (List.map eU32 x1_1))]⟩), (2, ⟨24, [.sv (.v (.bool b2_0j2)), .sv (slc 1 (List.map eU32 x0_1))]⟩)] []) (fun h => ?_) (fun j5 h => ?_)
      · cases y36j2
        · replace h := br_f h
          refine ok_condF rfl ?_
          refine ok_skip ?_
          refine AThen.n ?_
          refine ⟨(x25a, x29), h, ?_⟩
          try dsimp only
          exact weakL id rfl rfl rfl rfl rfl ⟨.ptr, .ptr, .ptr, .ptr, .sv (SV.imp_refl _), .sv (SV.imp_refl _), trivial⟩ ⟨⟨_, rfl, ⟨.sv (SV.imp_refl _), .sv (SV.imp_refl _), trivial⟩⟩, ⟨_, rfl, ⟨.sv (SV.imp_refl _), .sv (SV.imp_refl _), trivial⟩⟩, ⟨_, rfl, ⟨.sv (SV.imp_refl _), .sv (SV.imp_refl _), trivial⟩⟩, ⟨_, rfl, ⟨.sv (SV.imp_refl _), .sv (SV.imp_refl _), trivial⟩⟩, trivial⟩ trivial (fun _ _ => rfl)
        · replace h := br_t h
          refine ok_condT rfl ?_
          refine ok_seq ?_
          refine ok_region ?_
          refine RT.mv .none rfl (tl rfl) ?_
          refine RT.buildSl (l := [1]) (e := eU32) .none (.one rfl (.nil)) (tl rfl) rfl rfl rfl rfl rfl rfl ?_
          replace h := bind_some h
          obtain ⟨x39, h39, h⟩ := h
          refine RT.call .none (whole_addWords_ok h39) rfl ⟨rfl, rfl, trivial⟩ (tl rfl) ?_
          refine RT.asg .none rfl (tl rfl) ?_
          refine RT.done ?_
          refine AThen.n ?_
          refine ok_region ?_
          refine RT.mv .none rfl (tl rfl) ?_
          refine RT.mv .none rfl (tl rfl) ?_
          replace h := bind_some h
          obtain ⟨x42, h42, h⟩ := h
          refine RT.call .none (whole_subWords_ok h42) rfl ⟨rfl, rfl, trivial⟩ (tl rfl) ?_
          refine RT.asg .none rfl (tl rfl) ?_
          refine RT.done ?_
          refine AThen.n ?_
          refine ⟨(x39, x42), h, ?_⟩
          try dsimp only
          exact weakL id rfl rfl rfl rfl rfl ⟨.ptr, .ptr, .ptr, .ptr, .sv (SV.imp_refl _), .sv (SV.imp_refl _), trivial⟩ ⟨⟨_, rfl, ⟨.sv (SV.imp_refl _), .sv (SV.imp_refl _), trivial⟩⟩, ⟨_, rfl, ⟨.sv (SV.imp_refl _), .sv (SV.imp_refl _), trivial⟩⟩, ⟨_, rfl, ⟨.sv (SV.imp_refl _), .sv (SV.imp_refl _), trivial⟩⟩, ⟨_, rfl, ⟨.sv (SV.imp_refl _), .sv (SV.imp_refl _), trivial⟩⟩, trivial⟩ trivial (fun _ _ => rfl)
      · obtain ⟨y9j4, y10j4⟩ := j5
        try dsimp only
        refine AThen.n ?_
        refine ok_seq ?_
        refine ok_region ?_
        refine RT.fieldAddr .none rfl (tl rfl) rfl ?_
        refine RT.ldV .none rfl rfl rfl (tl rfl) ?_
        refine RT.fieldAddr .none rfl (tl rfl) rfl ?_
        refine RT.ldV .none rfl rfl rfl (tl rfl) ?_
        replace h := let_some h
        obtain ⟨x47, h47, h⟩ := h
        refine RT.bneq .none _ rfl rfl (tl rfl) h47 ?_
        refine RT.mv .none rfl (tl rfl) ?_
        replace h := bind_some h
        obtain ⟨⟨x49_0, x49_1⟩, h49, h⟩ := h
        refine RT.call .none (whole_build_ok h49) rfl ⟨rfl, rfl, trivial⟩ (tl rfl) ?_
        refine RT.mv .none rfl (tl rfl) ?_
        replace h := bind_some h
        obtain ⟨⟨x51_0, x51_1⟩, h51, h⟩ := h
        refine RT.call .none (whole_build_ok h51) rfl ⟨rfl, rfl, trivial⟩ (tl rfl) ?_
        refine RT.store .none rfl rfl rfl rfl rfl ?_
        refine RT.store .none rfl rfl rfl rfl rfl ?_
        refine RT.asg .none rfl (tl rfl) ?_
        refine RT.done ?_
        refine AThen.n ?_
        refine ok_ret ?_
        obtain rfl := Option.some.inj h
        exact ⟨.inr rfl, res_imp (.agg rfl rfl (.cons rfl (.cons rfl (.nil))) rfl (.agg rfl rfl (.cons rfl (.cons rfl (.nil))) rfl (.tmp rfl (.nil)))) (SV.imp_refl _)⟩
  · replace h := br_t h
    refine ok_condT rfl ?_
    refine ok_seq ?_
    refine ok_region ?_
    refine RT.buildI (cs := [_, _]) (cs' := [.v (.bool false), slc 1 (List.map eU32 [])]) .none (.nil) rfl ⟨SV.imp_refl _, imp_nil, trivial⟩ (tl rfl) ?_
    refine RT.buildI (cs := [_, _]) (cs' := [.v (.bool false), slc 1 (List.map eU32 [])]) .none (.nil) rfl ⟨SV.imp_refl _, imp_nil, trivial⟩ (tl rfl) ?_
    refine RT.store .none rfl rfl rfl rfl rfl ?_
    refine RT.store .none rfl rfl rfl rfl rfl ?_
    refine RT.asg .none rfl (tl rfl) ?_
    refine RT.done ?_
    refine AThen.n ?_
    refine ok_ret ?_
    refine AThen.r ?_
    obtain rfl := Option.some.inj h
    exact ⟨.inr rfl, res_imp (.agg rfl rfl (.cons rfl (.cons rfl (.nil))) rfl (.agg rfl rfl (.cons rfl (.cons rfl (.nil))) rfl (.tmp rfl (.nil)))) (SV.imp_refl _)⟩
theorem whole_GCD_ok {x0 : Zr} {x1 : Zr} {r : Zr} (h : whole_GCD_m x0 x1 = some r) : Pure Try.prog 15 [.agg (eZ x0), .agg (eZ x1)] (.agg (eZ r)) := by
  obtain ⟨x0_0, x0_1⟩ := x0
  obtain ⟨x1_0, x1_1⟩ := x1
  refine pure_of_ok Try.func15 rfl (Nat.le_of_ble_eq_true rfl) (fun wld M vs hvs => ?_)
  unfold whole_GCD_m at h
  refine ok_seq ?_
  refine ok_region ?_
  refine RT.box .none rfl (tl rfl) rfl rfl ?_
  refine RT.box .none rfl (tl rfl) rfl rfl ?_
  refine RT.allocI .none (cs := [.v (.bool false), slc 1 (List.map eU32 [])]) (by exact ⟨SV.imp_refl _, imp_nil, trivial⟩) rfl (tl rfl) rfl rfl ?_
  refine RT.done ?_
  refine AThen.n ?_
  refine ok_seq ?_
  refine ok_region_draw mixed ?_
  refine RT.fieldAddr .none rfl (tl rfl) rfl ?_
  refine RT.ldV .none rfl rfl rfl (tl rfl) ?_
  replace h := bind_some h
  obtain ⟨x13, h13, h⟩ := h
  refine RT.call .none (whole_trim_ok h13) rfl ⟨rfl, trivial⟩ (tl rfl) ?_
  refine RT.fieldAddr .none rfl (tl rfl) rfl ?_
  refine RT.ldV .none rfl rfl rfl (tl rfl) ?_
  replace h := bind_some h
  obtain ⟨x16, h16, h⟩ := h
  refine RT.call .none (whole_trim_ok h16) rfl ⟨rfl, trivial⟩ (tl rfl) ?_
  refine RT.asg .none rfl (tl rfl) ?_
  refine RT.asg .none rfl (tl rfl) ?_
  refine RT.done ⟨by kernel_rfl, ?_⟩
  refine AThen.n ?_
  refine ok_seq ?_
  replace h := bind_some h
  obtain ⟨e12, hl12, ho12⟩ := h
  refine ok_tailP (fun (xe12 : (List Nat) × (List Nat)) => AS.mkL 57 [(4, .ptr 4 0), (5, .sv (slc 1 (List.map eU32 xe12.1))), (6, .sv (slc 1 (List.map eU32 xe12.2)))] [(4, ⟨24, [.sv (.v (.bool false)), .sv (slc 1 (List.map eU32 []))]⟩)] []) (fun xe12 => xe12 = e12) ?_ (fun xe12 hx12 => ?_)
  · refine ok_block ?_
    refine ok_loopM hl12 (fun s12 => AS.mkL 57 [(4, .ptr 4 0), (5, .sv (slc 1 (List.map eU32 s12.1))), (6, .sv (slc 1 (List.map eU32 s12.2)))] [(4, ⟨24, [.sv (.v (.bool false)), .sv (slc 1 (List.map eU32 []))]⟩)] []) (by (try dsimp only); exact weakL id rfl rfl rfl rfl rfl ⟨.ptr, .sv (SV.imp_refl _), .sv (SV.imp_refl _), trivial⟩ ⟨⟨_, rfl, ⟨.sv (SV.imp_refl _), .sv (SV.imp_refl _), trivial⟩⟩, trivial⟩ trivial (fun _ _ => rfl)) (fun s12 y12 G12 h hG12 hE12 => ?_)
    obtain ⟨y5l6, y6l6⟩ := s12
    try dsimp only
    refine ok_seq ?_
    refine ok_seq ?_
    refine ok_tailJ h (fun j16 => AS.mkL 57 [(4, .ptr 4 0), (5, .sv (slc 1 (List.map eU32 y5l6))), (6, .sv (slc 1 (List.map eU32 y6l6))), (29, .sv (.v (.bool j16)))] [(4, ⟨24, [.sv (.v (.bool false)), .sv (slc 1 (List.map eU32 []))]⟩)] []) (fun h => ?_) (fun y29j15 h => ?_)
    · refine ok_region ?_
      refine RT.mv .none rfl (tl rfl) ?_
      replace h := let_some h
      obtain ⟨x18, h18, h⟩ := h
      refine RT.lenM .none rfl (tl rfl) h18 ?_
      replace h := let_some h
      obtain ⟨x19, h19, h⟩ := h
      refine RT.gtr .none _ rfl rfl (tl rfl) h19 ?_
      refine RT.mv .none rfl (tl rfl) ?_
      replace h := bind_some h
      obtain ⟨c29_17, hg17, h⟩ := h
      cases x19
      · replace hg17 := br_f hg17
        obtain rfl := Option.some.inj hg17
        refine RT.skV rfl rfl (sk rfl) (tl rfl) ?_
        refine RT.skV rfl rfl (sk rfl) (tl rfl) ?_
        refine RT.skV rfl rfl (sk rfl) (tl rfl) ?_
        refine RT.skV rfl rfl (sk rfl) (tl rfl) ?_
        refine RT.skipU rfl rfl (tl rfl) ?_
        refine RT.skipU rfl rfl (tl rfl) ?_
        refine RT.skipU rfl rfl (tl rfl) ?_
        refine RT.skV rfl rfl (sk rfl) (tl rfl) ?_
        refine RT.pickF .none rfl rfl (tl rfl) ?_
        refine RT.done ?_
        refine AThen.n ?_
        refine ⟨false, h, ?_⟩
        try dsimp only
        exact weakL id rfl rfl rfl rfl rfl ⟨.ptr, .sv (SV.imp_refl _), .sv (SV.imp_refl _), .sv (SV.imp_refl _), trivial⟩ ⟨⟨_, rfl, ⟨.sv (SV.imp_refl _), .sv (SV.imp_refl _), trivial⟩⟩, trivial⟩ trivial (fun _ _ => rfl)
      · replace hg17 := br_t hg17
        refine RT.mv (.some rfl rfl) rfl (tl rfl) ?_
        replace hg17 := let_some hg17
        obtain ⟨x22, h22, hg17⟩ := hg17
        refine RT.lenM (.some rfl rfl) rfl (tl rfl) h22 ?_
        replace hg17 := let_some hg17
        obtain ⟨x23, h23, hg17⟩ := hg17
        refine RT.gtr (.some rfl rfl) _ rfl rfl (tl rfl) h23 ?_
        refine RT.mv (.some rfl rfl) rfl (tl rfl) ?_
        replace hg17 := bind_some hg17
        obtain ⟨c28_18, hg18, hg17⟩ := hg17
        cases x23
        · replace hg18 := br_f hg18
          refine RT.mv (.some rfl rfl) rfl (tl rfl) ?_
          replace hg18 := let_some hg18
          obtain ⟨x26, h26, hg18⟩ := hg18
          refine RT.lenM (.some rfl rfl) rfl (tl rfl) h26 ?_
          replace hg18 := let_some hg18
          obtain ⟨x27, h27, hg18⟩ := hg18
          refine RT.gtr (.some rfl rfl) _ rfl rfl (tl rfl) h27 ?_
          obtain rfl := Option.some.inj hg18
          refine RT.pickF (.some rfl rfl) rfl rfl (tl rfl) ?_
          obtain rfl := Option.some.inj hg17
          refine RT.pickT .none rfl rfl (tl rfl) ?_
          refine RT.done ?_
          refine AThen.n ?_
          refine ⟨x27, h, ?_⟩
          try dsimp only
          exact weakL id rfl rfl rfl rfl rfl ⟨.ptr, .sv (SV.imp_refl _), .sv (SV.imp_refl _), .sv (SV.imp_refl _), trivial⟩ ⟨⟨_, rfl, ⟨.sv (SV.imp_refl _), .sv (SV.imp_refl _), trivial⟩⟩, trivial⟩ trivial (fun _ _ => rfl)
        · replace hg18 := br_t hg18
          obtain rfl := Option.some.inj hg18
          refine RT.skV rfl rfl (sk rfl) (tl rfl) ?_
          refine RT.skV rfl rfl (sk rfl) (tl rfl) ?_
          refine RT.skV rfl rfl (sk rfl) (tl rfl) ?_
          refine RT.pickT (.some rfl rfl) rfl rfl (tl rfl) ?_
          obtain rfl := Option.some.inj hg17
          refine RT.pickT .none rfl rfl (tl rfl) ?_
          refine RT.done ?_
          refine AThen.n ?_
          refine ⟨true, h, ?_⟩
          try dsimp only
          exact weakL id rfl rfl rfl rfl rfl ⟨.ptr, .sv (SV.imp_refl _), .sv (SV.imp_refl _), .sv (SV.imp_refl _), trivial⟩ ⟨⟨_, rfl, ⟨.sv (SV.imp_refl _), .sv (SV.imp_refl _), trivial⟩⟩, trivial⟩ trivial (fun _ _ => rfl)
    · try dsimp only
      refine AThen.n ?_
      cases y29j15
      · replace h := br_f h
        refine ok_condF rfl ?_
        refine ok_exit ?_
        refine AThen.x ?_
        refine AThen.x ?_
        refine AInB.x ?_
        refine AThen.n ?_
        obtain rfl := Option.some.inj h
        refine ⟨(y5l6, y6l6), hE12 _ rfl, ?_⟩
        try dsimp only
        exact weakL id rfl rfl rfl rfl rfl ⟨.ptr, .sv (SV.imp_refl _), .sv (SV.imp_refl _), trivial⟩ ⟨⟨_, rfl, ⟨.sv (SV.imp_refl _), .sv (SV.imp_refl _), trivial⟩⟩, trivial⟩ trivial (fun _ _ => rfl)
      · replace h := br_t h
        refine ok_condT rfl ?_
        refine ok_skip ?_
        refine AThen.n ?_
        refine ok_block ?_
        refine ok_seq ?_
        refine ok_region ?_
        refine RT.mv .none rfl (tl rfl) ?_
        refine RT.mv .none rfl (tl rfl) ?_
        replace h := bind_some h
        obtain ⟨⟨x33a, x33b⟩, h33, h⟩ := h
        refine RT.call .none (whole_divWords_ok h33) rfl ⟨rfl, rfl, trivial⟩ (tl rfl) ?_
        refine RT.mv .none rfl (tl rfl) ?_
        refine RT.extract .none rfl rfl (tl rfl) ?_
        refine RT.extract .none rfl rfl (tl rfl) ?_
        refine RT.asg .none rfl (tl rfl) ?_
        refine RT.asg .none rfl (tl rfl) ?_
        refine RT.done ?_
        refine AThen.n ?_
        refine ok_region ?_
        refine RT.mv .none rfl (tl rfl) ?_
        refine RT.mv .none rfl (tl rfl) ?_
        replace h := bind_some h
        obtain ⟨x38, h38, h⟩ := h
        refine RT.call .none (whole_trim_ok h38) rfl ⟨rfl, trivial⟩ (tl rfl) ?_
        refine RT.asg .none rfl (tl rfl) ?_
        refine RT.asg .none rfl (tl rfl) ?_
        refine RT.done ?_
        refine AInB.n ?_
        obtain rfl := Option.some.inj h
        refine AThen.n ⟨(y6l6, x38), hG12 _ rfl, ?_⟩
        try dsimp only
        exact weakL id rfl rfl rfl rfl rfl ⟨.ptr, .sv (SV.imp_refl _), .sv (SV.imp_refl _), trivial⟩ ⟨⟨_, rfl, ⟨.sv (SV.imp_refl _), .sv (SV.imp_refl _), trivial⟩⟩, trivial⟩ trivial (fun _ _ => rfl)
  · subst hx12
    obtain ⟨y5e11, y6e11⟩ := xe12
    try dsimp only
    refine AThen.n ?_
    refine ok_seq ?_
    refine ok_seq ?_
    refine ok_region ?_
    refine RT.mv .none rfl (tl rfl) ?_
    replace ho12 := let_some ho12
    obtain ⟨x40, h40, ho12⟩ := ho12
    refine RT.lenM .none rfl (tl rfl) h40 ?_
    replace ho12 := let_some ho12
    obtain ⟨x41, h41, ho12⟩ := ho12
    refine RT.eql .none _ rfl rfl (tl rfl) (eqI (p := x40) (q := 0) h41) ?_
    refine RT.done ?_
    refine AThen.n ?_
    cases x41
    · replace ho12 := br_f ho12
      refine ok_condF rfl ?_
      refine ok_skip ?_
      refine AThen.n ?_
      refine ok_seq ?_
      refine ok_region ?_
      refine RT.mv .none rfl (tl rfl) ?_
      replace ho12 := bind_some ho12
      obtain ⟨x46, h46, ho12⟩ := ho12
      refine RT.call .none (whole_low_ok h46) rfl ⟨rfl, trivial⟩ (tl rfl) ?_
      refine RT.mv .none rfl (tl rfl) ?_
      replace ho12 := bind_some ho12
      obtain ⟨x48, h48, ho12⟩ := ho12
      refine RT.call .none (whole_low_ok h48) rfl ⟨rfl, trivial⟩ (tl rfl) ?_
      refine RT.asg .none rfl (tl rfl) ?_
      refine RT.asg .none rfl (tl rfl) ?_
      refine RT.done ?_
      refine AThen.n ?_
      refine ok_seq ?_
      replace ho12 := bind_some ho12
      obtain ⟨e24, hl24, ho24⟩ := ho12
      refine ok_tailP (fun (y9e23 : Nat) => AS.mkL 57 [(4, .ptr 4 0), (9, .sv (.v (.int .u64 ((y9e23 : Nat) : Int))))] [(4, ⟨24, [.sv (.v (.bool false)), .sv (slc 1 (List.map eU32 []))]⟩)] []) (fun y9e23 => y9e23 = e24) ?_ (fun y9e23 hx24 => ?_)
      · refine ok_block ?_
        refine ok_loopM hl24 (fun s24 => AS.mkL 57 [(4, .ptr 4 0), (9, .sv (.v (.int .u64 ((s24.1 : Nat) : Int)))), (10, .sv (.v (.int .u64 ((s24.2 : Nat) : Int))))] [(4, ⟨24, [.sv (.v (.bool false)), .sv (slc 1 (List.map eU32 []))]⟩)] []) (by (try dsimp only); exact weakL id rfl rfl rfl rfl rfl ⟨.ptr, .sv (SV.imp_refl _), .sv (SV.imp_refl _), trivial⟩ ⟨⟨_, rfl, ⟨.sv (SV.imp_refl _), .sv (SV.imp_refl _), trivial⟩⟩, trivial⟩ trivial (fun _ _ => rfl)) (fun s24 y24 G24 h hG24 hE24 => ?_)
        obtain ⟨y9l21, y10l21⟩ := s24
        try dsimp only
        refine ok_seq ?_
        refine ok_seq ?_
        refine ok_region ?_
        refine RT.mv .none rfl (tl rfl) ?_
        replace h := let_some h
        obtain ⟨x50, h50, h⟩ := h
        refine RT.gtr .none _ rfl rfl (tl rfl) (ltN (p := 0) (q := y10l21) h50) ?_
        refine RT.done ?_
        refine AThen.n ?_
        cases x50
        · replace h := br_f h
          refine ok_condF rfl ?_
          refine ok_exit ?_
          refine AThen.x ?_
          refine AThen.x ?_
          refine AInB.x ?_
          refine AThen.n ?_
          obtain rfl := Option.some.inj h
          refine ⟨y9l21, hE24 _ rfl, ?_⟩
          try dsimp only
          exact weakL id rfl rfl rfl rfl rfl ⟨.ptr, .sv (SV.imp_refl _), trivial⟩ ⟨⟨_, rfl, ⟨.sv (SV.imp_refl _), .sv (SV.imp_refl _), trivial⟩⟩, trivial⟩ trivial (fun _ _ => rfl)
        · replace h := br_t h
          refine ok_condT rfl ?_
          refine ok_skip ?_
          refine AThen.n ?_
          refine ok_block ?_
          refine ok_region_draw mixed ?_
          refine RT.mv .none rfl (tl rfl) ?_
          refine RT.mv .none rfl (tl rfl) ?_
          refine RT.mv .none rfl (tl rfl) ?_
          replace h := bind_some h
          obtain ⟨x54, h54, h⟩ := h
          refine RT.rem .none _ rfl rfl (tl rfl) (nzR h54) (remU h54) ?_
          refine RT.asg .none rfl (tl rfl) ?_
          refine RT.asg .none rfl (tl rfl) ?_
          refine RT.done ⟨by kernel_rfl, ?_⟩
          refine AInB.n ?_
          obtain rfl := Option.some.inj h
          refine AThen.n ⟨(y10l21, x54), hG24 _ rfl, ?_⟩
          try dsimp only
          exact weakL id rfl rfl rfl rfl rfl ⟨.ptr, .sv (SV.imp_refl _), .sv (SV.imp_refl _), trivial⟩ ⟨⟨_, rfl, ⟨.sv (SV.imp_refl _), .sv (SV.imp_refl _), trivial⟩⟩, trivial⟩ trivial (fun _ _ => rfl)
      · subst hx24
        try dsimp only
        refine AThen.n ?_
        refine ok_seq ?_
        refine ok_region ?_
        refine RT.mv .none rfl (tl rfl) ?_
        replace ho24 := bind_some ho24
        obtain ⟨⟨x56_0, x56_1⟩, h56, ho24⟩ := ho24
        refine RT.call .none (whole_small_ok h56) rfl ⟨rfl, rfl, trivial⟩ (tl rfl) ?_
        refine RT.store .none rfl rfl rfl rfl rfl ?_
        refine RT.done ?_
        refine AThen.n ?_
        refine ok_ret ?_
        obtain rfl := Option.some.inj ho24
        exact ⟨.inr rfl, res_imp (.agg rfl rfl (.cons rfl (.cons rfl (.nil))) rfl (.nil)) (SV.imp_refl _)⟩
    · replace ho12 := br_t ho12
      refine ok_condT rfl ?_
      refine ok_seq ?_
      refine ok_region ?_
      refine RT.mv .none rfl (tl rfl) ?_
      replace ho12 := bind_some ho12
      obtain ⟨x43, h43, ho12⟩ := ho12
      refine RT.call .none (slices_Clone_ok h43) rfl ⟨rfl, trivial⟩ (tl rfl) ?_
      replace ho12 := bind_some ho12
      obtain ⟨⟨x44_0, x44_1⟩, h44, ho12⟩ := ho12
      refine RT.call .none (whole_build_ok h44) rfl ⟨rfl, rfl, trivial⟩ (tl rfl) ?_
      refine RT.store .none rfl rfl rfl rfl rfl ?_
      refine RT.done ?_
      refine AThen.n ?_
      refine ok_ret ?_
      refine AThen.r ?_
      obtain rfl := Option.some.inj ho12
      exact ⟨.inr rfl, res_imp (.agg rfl rfl (.cons rfl (.cons rfl (.nil))) rfl (.nil)) (SV.imp_refl _)⟩
end Go.Proofs.Ytgkafblpckcekaa
