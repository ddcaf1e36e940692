/- The proofs that the code computes the plain functions. Made by program. -/
import Derived.Test.YtgkafblpckcekaaFwDen4
import Derived.Test.YtgkafblpckcekaaInst0
import Derived.Test.YtgkafblpckcekaaMW
namespace Go.Proofs.Ytgkafblpckcekaa
open Go.Fw Go.RowKit
theorem whole_carrier_ok (c : Nat) : CloC Try.prog 71 [.v (.int .u64 (c : Nat))] 80 59 [.v (.int .u64 (c : Nat))] := by
  refine cloC_of_ok Try.func71 rfl (Nat.le_of_ble_eq_true rfl) (fun wld M vs hvs => ?_)
  refine ok_seq ?_
  refine ok_region ?_
  refine RT.boxV .none (s := .sv _) rfl (tl rfl) rfl rfl ?_
  refine RT.asg .none rfl (tl rfl) ?_
  refine RT.done ?_
  refine AThen.n ?_
  refine ok_seq ?_
  refine ok_region ?_
  refine RT.makeFunc .none (.box rfl (.nil)) (tl rfl) ?_
  refine RT.assign .none (s := .clo _ _) rfl (tl rfl) ?_
  refine RT.done ?_
  refine AThen.n ?_
  refine ok_ret ?_
  exact ⟨.inr rfl, _, .tmp rfl, rfl⟩
theorem whole_pairs_ok (a b : List Nat) : Pure Try.prog 72 [(slc 1 (List.map eU32 a)), (slc 1 (List.map eU32 b))] (cloS 81 [ref [(slc 1 (List.map eU32 a))], ref [(slc 1 (List.map eU32 b))]]) := by
  refine pure_of_ok Try.func72 rfl (Nat.le_of_ble_eq_true rfl) (fun wld M vs hvs => ?_)
  refine ok_seq ?_
  refine ok_region ?_
  refine RT.boxV .none (s := .sv _) rfl (tl rfl) rfl rfl ?_
  refine RT.boxV .none (s := .sv _) rfl (tl rfl) rfl rfl ?_
  refine RT.asg .none rfl (tl rfl) ?_
  refine RT.done ?_
  refine AThen.n ?_
  refine ok_seq ?_
  refine ok_region ?_
  refine RT.makeFunc .none (.box rfl (.box rfl (.nil))) (tl rfl) ?_
  refine RT.assign .none (s := .clo _ _) rfl (tl rfl) ?_
  refine RT.done ?_
  refine AThen.n ?_
  refine ok_weak (weak_frzB (i := 2) rfl [(slc 1 (List.map eU32 a))] (.cons rfl .nil) .any 0 [(4, .clo 81 [.val (ref [(slc 1 (List.map eU32 a))]), .box 3])] (fun _ _ _ => trivial) (Ones.h (l := [(slc 1 (List.map eU32 a))])) ⟨@FT.clo _ _ _ _ _ 4 81 [.box 2, .box 3] rfl, trivial⟩) ?_
  refine ok_weak (weak_frzB (i := 3) rfl [(slc 1 (List.map eU32 b))] (.cons rfl .nil) .any 0 [(4, .clo 81 [.val (ref [(slc 1 (List.map eU32 a))]), .val (ref [(slc 1 (List.map eU32 b))])])] (fun _ _ _ => trivial) (Ones.h (l := [(slc 1 (List.map eU32 b))])) ⟨@FT.clo _ _ _ _ _ 4 81 [.val (ref [(slc 1 (List.map eU32 a))]), .box 3] rfl, trivial⟩) ?_
  refine ok_weak (weak_t 4 (cloS 81 [ref [(slc 1 (List.map eU32 a))], ref [(slc 1 (List.map eU32 b))]]) (fun _ _ h => clo_sv h)) ?_
  refine ok_ret ?_
  exact ⟨.inr rfl, res_of (.tmp rfl (.nil)) rfl⟩
theorem whole_pairs_it (a b : List Nat) : Iter Try.prog 81 [ref [(slc 1 (List.map eU32 a))], ref [(slc 1 (List.map eU32 b))]] (max a.length b.length) (fun k => [.v (.int .u64 ((a.getD k 0 % 18446744073709551616 : Nat) : Int)), .v (.int .u64 ((b.getD k 0 % 18446744073709551616 : Nat) : Int))]) := by
  refine iter_of_ok Try.func81 rfl rfl (Nat.le_of_ble_eq_true rfl) (fun wld M O l J hJ hcv hr => ?_)
  obtain ⟨cvs, hcv⟩ := hcv
  have hla : a.length ≤ 9223372036854775807 := by cases cvs with | nil => exact hcv.elim | cons _ cvs => exact ref_len hcv.1
  have hlb : b.length ≤ 9223372036854775807 := by cases cvs with | nil => exact hcv.elim | cons _ cvs => cases cvs with | nil => exact hcv.2.elim | cons _ _ => exact ref_len hcv.2.1
  refine ok_seq ?_
  refine ok_region ?_
  refine RT.loadRV .none rfl rfl (tl rfl) ?_
  refine RT.len .none rfl (tl rfl) ?_
  refine RT.loadRV .none rfl rfl (tl rfl) ?_
  refine RT.len .none rfl (tl rfl) ?_
  refine RT.max .none (((max a.length b.length : Nat) : Int)) rfl rfl (tl rfl) (by simp only [List.length_map]; split <;> omega) ?_
  refine RT.mv .none rfl (tl rfl) ?_
  refine RT.done ?_
  refine AThen.n ?_
  refine ok_block ?_
  refine ok_loop (I := fun x : { i : Nat // i ≤ max a.length b.length } => AS.mkL 39 [(0, .sv (.v (.func (.yield l) #[] #[]))), (1, .sv (ref [(slc 1 (List.map eU32 a))])), (2, .sv (ref [(slc 1 (List.map eU32 b))])), (11, .sv (.v (.int .i64 ((max a.length b.length : Nat) : Int)))), (12, .sv (.v (.int .i64 ((x.1 : Nat) : Int))))] [] [] (x.1)) (μ := fun x => max a.length b.length - x.1) ⟨0, by omega⟩ (by (try dsimp only); exact weakL id rfl rfl rfl rfl rfl ⟨.sv (by first | exact SV.imp_refl _ | exact SV.imp_int (by omega) | exact SV.imp_int (by push_cast; omega) | exact SV.imp_int (by dsimp only; omega) | exact SV.imp_eq (by simp)), .sv (by first | exact SV.imp_refl _ | exact SV.imp_int (by omega) | exact SV.imp_int (by push_cast; omega) | exact SV.imp_int (by dsimp only; omega) | exact SV.imp_eq (by simp)), .sv (by first | exact SV.imp_refl _ | exact SV.imp_int (by omega) | exact SV.imp_int (by push_cast; omega) | exact SV.imp_int (by dsimp only; omega) | exact SV.imp_eq (by simp)), .sv (by first | exact SV.imp_refl _ | exact SV.imp_int (by omega) | exact SV.imp_int (by push_cast; omega) | exact SV.imp_int (by dsimp only; omega) | exact SV.imp_eq (by simp)), .sv (by first | exact SV.imp_refl _ | exact SV.imp_int (by omega) | exact SV.imp_int (by push_cast; omega) | exact SV.imp_int (by dsimp only; omega) | exact SV.imp_eq (by simp)), trivial⟩ trivial trivial (fun _ _ => rfl)) ?_
  rintro ⟨i, hi0⟩
  try dsimp only
  rcases pair_cases a b i hi0 with ⟨hi, hb1, hb2⟩ | ⟨hi, hb1, hb2⟩ | ⟨hi, hb1, hb2⟩ | hi
  ·
    refine ok_seq ?_
    refine ok_region ?_
    refine RT.lss .none (true) rfl rfl (tl rfl) (by simp; omega) ?_
    refine RT.done ?_
    refine AThen.n ?_
    refine ok_seq ?_
    refine ok_condT rfl ?_
    refine ok_skip ?_
    refine AThen.n ?_
    refine ok_seq ?_
    refine ok_block ?_
    refine ok_seq ?_
    refine ok_region ?_
    refine RT.mv .none rfl (tl rfl) ?_
    refine RT.asg .none rfl (tl rfl) ?_
    refine RT.done ?_
    refine AThen.n ?_
    refine ok_seq ?_
    refine ok_region ?_
    refine RT.asg .none rfl (tl rfl) ?_
    refine RT.asg .none rfl (tl rfl) ?_
    refine RT.done ?_
    refine AThen.n ?_
    refine ok_seq ?_
    refine ok_seq ?_
    refine ok_region ?_
    refine RT.mv .none rfl (tl rfl) ?_
    refine RT.loadRV .none rfl rfl (tl rfl) ?_
    refine RT.len .none rfl (tl rfl) ?_
    refine RT.lss .none (true) rfl rfl (tl rfl) (by simp only [List.length_map]; simp; omega) ?_
    refine RT.done ?_
    refine AThen.n ?_
    refine ok_condT rfl ?_
    refine ok_region ?_
    refine RT.loadRV .none rfl rfl (tl rfl) ?_
    refine RT.mv .none rfl (tl rfl) ?_
    refine RT.ixA .none [.v (.int .u32 ((a.getD i 0 : Nat) : Int))] (Int.natCast_nonneg i) (by rw [Int.toNat_natCast, List.getElem?_map, get_getD hb1]; rfl) rfl rfl (tl rfl) ?_
    refine RT.loadRV .none rfl rfl (tl rfl) ?_
    refine RT.conv .none (((a.getD i 0 % 18446744073709551616 : Nat) : Int)) rfl (tl rfl) cu64 ?_
    refine RT.asg .none rfl (tl rfl) ?_
    refine RT.done ?_
    refine AThen.n ?_
    refine ok_seq ?_
    refine ok_seq ?_
    refine ok_region ?_
    refine RT.mv .none rfl (tl rfl) ?_
    refine RT.loadRV .none rfl rfl (tl rfl) ?_
    refine RT.len .none rfl (tl rfl) ?_
    refine RT.lss .none (true) rfl rfl (tl rfl) (by simp only [List.length_map]; simp; omega) ?_
    refine RT.done ?_
    refine AThen.n ?_
    refine ok_condT rfl ?_
    refine ok_region ?_
    refine RT.loadRV .none rfl rfl (tl rfl) ?_
    refine RT.mv .none rfl (tl rfl) ?_
    refine RT.ixA .none [.v (.int .u32 ((b.getD i 0 : Nat) : Int))] (Int.natCast_nonneg i) (by rw [Int.toNat_natCast, List.getElem?_map, get_getD hb2]; rfl) rfl rfl (tl rfl) ?_
    refine RT.loadRV .none rfl rfl (tl rfl) ?_
    refine RT.conv .none (((b.getD i 0 % 18446744073709551616 : Nat) : Int)) rfl (tl rfl) cu64 ?_
    refine RT.asg .none rfl (tl rfl) ?_
    refine RT.done ?_
    refine AThen.n ?_
    refine ok_seq ?_
    refine ok_region ?_
    refine RT.mv .none rfl (tl rfl) ?_
    refine RT.mv .none rfl (tl rfl) ?_
    refine RT.mv .none rfl (tl rfl) ?_
    refine RT.yield .none hr rfl (fun _ h => h) rfl (i) rfl rfl hi (by exact ⟨rfl, rfl, trivial⟩) (tl rfl) (fun yb => ?_)
    cases yb
    ·
      refine RT.not .none rfl (tl rfl) true rfl ?_
      refine RT.done ?_
      refine AThen.n ?_
      refine ok_condT rfl ?_
      refine ok_ret ?_
      refine AInB.r ?_
      refine AThen.r ?_
      refine AThen.r ?_
      refine AInB.r ?_
      exact ⟨.inr rfl, (fun h => by cases h)⟩
    ·
      refine RT.not .none rfl (tl rfl) false rfl ?_
      refine RT.done ?_
      refine AThen.n ?_
      refine ok_condF rfl ?_
      refine ok_skip ?_
      refine AInB.n ?_
      refine AThen.n ?_
      refine ok_region ?_
      refine RT.add .none (((i : Nat) : Int) + 1) rfl rfl (tl rfl) (nw_i64 (by omega)) ?_
      refine RT.mv .none rfl (tl rfl) ?_
      refine RT.done ?_
      refine AThen.n ?_
      refine ⟨⟨i + 1, by omega⟩, (by dsimp only; omega), ?_⟩
      try dsimp only
      exact weakL id rfl rfl rfl rfl rfl ⟨.sv (by first | exact SV.imp_refl _ | exact SV.imp_int (by omega) | exact SV.imp_int (by push_cast; omega) | exact SV.imp_int (by dsimp only; omega) | exact SV.imp_eq (by simp)), .sv (by first | exact SV.imp_refl _ | exact SV.imp_int (by omega) | exact SV.imp_int (by push_cast; omega) | exact SV.imp_int (by dsimp only; omega) | exact SV.imp_eq (by simp)), .sv (by first | exact SV.imp_refl _ | exact SV.imp_int (by omega) | exact SV.imp_int (by push_cast; omega) | exact SV.imp_int (by dsimp only; omega) | exact SV.imp_eq (by simp)), .sv (by first | exact SV.imp_refl _ | exact SV.imp_int (by omega) | exact SV.imp_int (by push_cast; omega) | exact SV.imp_int (by dsimp only; omega) | exact SV.imp_eq (by simp)), .sv (by first | exact SV.imp_refl _ | exact SV.imp_int (by omega) | exact SV.imp_int (by push_cast; omega) | exact SV.imp_int (by dsimp only; omega) | exact SV.imp_eq (by simp)), trivial⟩ trivial trivial (fun _ _ => rfl)
  ·
    refine ok_seq ?_
    refine ok_region ?_
    refine RT.lss .none (true) rfl rfl (tl rfl) (by simp; omega) ?_
    refine RT.done ?_
    refine AThen.n ?_
    refine ok_seq ?_
    refine ok_condT rfl ?_
    refine ok_skip ?_
    refine AThen.n ?_
    refine ok_seq ?_
    refine ok_block ?_
    refine ok_seq ?_
    refine ok_region ?_
    refine RT.mv .none rfl (tl rfl) ?_
    refine RT.asg .none rfl (tl rfl) ?_
    refine RT.done ?_
    refine AThen.n ?_
    refine ok_seq ?_
    refine ok_region ?_
    refine RT.asg .none rfl (tl rfl) ?_
    refine RT.asg .none rfl (tl rfl) ?_
    refine RT.done ?_
    refine AThen.n ?_
    refine ok_seq ?_
    refine ok_seq ?_
    refine ok_region ?_
    refine RT.mv .none rfl (tl rfl) ?_
    refine RT.loadRV .none rfl rfl (tl rfl) ?_
    refine RT.len .none rfl (tl rfl) ?_
    refine RT.lss .none (true) rfl rfl (tl rfl) (by simp only [List.length_map]; simp; omega) ?_
    refine RT.done ?_
    refine AThen.n ?_
    refine ok_condT rfl ?_
    refine ok_region ?_
    refine RT.loadRV .none rfl rfl (tl rfl) ?_
    refine RT.mv .none rfl (tl rfl) ?_
    refine RT.ixA .none [.v (.int .u32 ((a.getD i 0 : Nat) : Int))] (Int.natCast_nonneg i) (by rw [Int.toNat_natCast, List.getElem?_map, get_getD hb1]; rfl) rfl rfl (tl rfl) ?_
    refine RT.loadRV .none rfl rfl (tl rfl) ?_
    refine RT.conv .none (((a.getD i 0 % 18446744073709551616 : Nat) : Int)) rfl (tl rfl) cu64 ?_
    refine RT.asg .none rfl (tl rfl) ?_
    refine RT.done ?_
    refine AThen.n ?_
    refine ok_seq ?_
    refine ok_seq ?_
    refine ok_region ?_
    refine RT.mv .none rfl (tl rfl) ?_
    refine RT.loadRV .none rfl rfl (tl rfl) ?_
    refine RT.len .none rfl (tl rfl) ?_
    refine RT.lss .none (false) rfl rfl (tl rfl) (by simp only [List.length_map]; simp; omega) ?_
    refine RT.done ?_
    refine AThen.n ?_
    refine ok_condF rfl ?_
    refine ok_skip ?_
    refine AThen.n ?_
    refine ok_seq ?_
    refine ok_region ?_
    refine RT.mv .none rfl (tl rfl) ?_
    refine RT.mv .none rfl (tl rfl) ?_
    refine RT.mv .none rfl (tl rfl) ?_
    refine RT.yield .none hr rfl (fun _ h => h) rfl (i) rfl rfl hi (by exact ⟨rfl, (by show AV.sv _ = AV.sv _; rw [getD_of_le hb2]; rfl), trivial⟩) (tl rfl) (fun yb => ?_)
    cases yb
    ·
      refine RT.not .none rfl (tl rfl) true rfl ?_
      refine RT.done ?_
      refine AThen.n ?_
      refine ok_condT rfl ?_
      refine ok_ret ?_
      refine AInB.r ?_
      refine AThen.r ?_
      refine AThen.r ?_
      refine AInB.r ?_
      exact ⟨.inr rfl, (fun h => by cases h)⟩
    ·
      refine RT.not .none rfl (tl rfl) false rfl ?_
      refine RT.done ?_
      refine AThen.n ?_
      refine ok_condF rfl ?_
      refine ok_skip ?_
      refine AInB.n ?_
      refine AThen.n ?_
      refine ok_region ?_
      refine RT.add .none (((i : Nat) : Int) + 1) rfl rfl (tl rfl) (nw_i64 (by omega)) ?_
      refine RT.mv .none rfl (tl rfl) ?_
      refine RT.done ?_
      refine AThen.n ?_
      refine ⟨⟨i + 1, by omega⟩, (by dsimp only; omega), ?_⟩
      try dsimp only
      exact weakL id rfl rfl rfl rfl rfl ⟨.sv (by first | exact SV.imp_refl _ | exact SV.imp_int (by omega) | exact SV.imp_int (by push_cast; omega) | exact SV.imp_int (by dsimp only; omega) | exact SV.imp_eq (by simp)), .sv (by first | exact SV.imp_refl _ | exact SV.imp_int (by omega) | exact SV.imp_int (by push_cast; omega) | exact SV.imp_int (by dsimp only; omega) | exact SV.imp_eq (by simp)), .sv (by first | exact SV.imp_refl _ | exact SV.imp_int (by omega) | exact SV.imp_int (by push_cast; omega) | exact SV.imp_int (by dsimp only; omega) | exact SV.imp_eq (by simp)), .sv (by first | exact SV.imp_refl _ | exact SV.imp_int (by omega) | exact SV.imp_int (by push_cast; omega) | exact SV.imp_int (by dsimp only; omega) | exact SV.imp_eq (by simp)), .sv (by first | exact SV.imp_refl _ | exact SV.imp_int (by omega) | exact SV.imp_int (by push_cast; omega) | exact SV.imp_int (by dsimp only; omega) | exact SV.imp_eq (by simp)), trivial⟩ trivial trivial (fun _ _ => rfl)
  ·
    refine ok_seq ?_
    refine ok_region ?_
    refine RT.lss .none (true) rfl rfl (tl rfl) (by simp; omega) ?_
    refine RT.done ?_
    refine AThen.n ?_
    refine ok_seq ?_
    refine ok_condT rfl ?_
    refine ok_skip ?_
    refine AThen.n ?_
    refine ok_seq ?_
    refine ok_block ?_
    refine ok_seq ?_
    refine ok_region ?_
    refine RT.mv .none rfl (tl rfl) ?_
    refine RT.asg .none rfl (tl rfl) ?_
    refine RT.done ?_
    refine AThen.n ?_
    refine ok_seq ?_
    refine ok_region ?_
    refine RT.asg .none rfl (tl rfl) ?_
    refine RT.asg .none rfl (tl rfl) ?_
    refine RT.done ?_
    refine AThen.n ?_
    refine ok_seq ?_
    refine ok_seq ?_
    refine ok_region ?_
    refine RT.mv .none rfl (tl rfl) ?_
    refine RT.loadRV .none rfl rfl (tl rfl) ?_
    refine RT.len .none rfl (tl rfl) ?_
    refine RT.lss .none (false) rfl rfl (tl rfl) (by simp only [List.length_map]; simp; omega) ?_
    refine RT.done ?_
    refine AThen.n ?_
    refine ok_condF rfl ?_
    refine ok_skip ?_
    refine AThen.n ?_
    refine ok_seq ?_
    refine ok_seq ?_
    refine ok_region ?_
    refine RT.mv .none rfl (tl rfl) ?_
    refine RT.loadRV .none rfl rfl (tl rfl) ?_
    refine RT.len .none rfl (tl rfl) ?_
    refine RT.lss .none (true) rfl rfl (tl rfl) (by simp only [List.length_map]; simp; omega) ?_
    refine RT.done ?_
    refine AThen.n ?_
    refine ok_condT rfl ?_
    refine ok_region ?_
    refine RT.loadRV .none rfl rfl (tl rfl) ?_
    refine RT.mv .none rfl (tl rfl) ?_
    refine RT.ixA .none [.v (.int .u32 ((b.getD i 0 : Nat) : Int))] (Int.natCast_nonneg i) (by rw [Int.toNat_natCast, List.getElem?_map, get_getD hb2]; rfl) rfl rfl (tl rfl) ?_
    refine RT.loadRV .none rfl rfl (tl rfl) ?_
    refine RT.conv .none (((b.getD i 0 % 18446744073709551616 : Nat) : Int)) rfl (tl rfl) cu64 ?_
    refine RT.asg .none rfl (tl rfl) ?_
    refine RT.done ?_
    refine AThen.n ?_
    refine ok_seq ?_
    refine ok_region ?_
    refine RT.mv .none rfl (tl rfl) ?_
    refine RT.mv .none rfl (tl rfl) ?_
    refine RT.mv .none rfl (tl rfl) ?_
    refine RT.yield .none hr rfl (fun _ h => h) rfl (i) rfl rfl hi (by exact ⟨(by show AV.sv _ = AV.sv _; rw [getD_of_le hb1]; rfl), rfl, trivial⟩) (tl rfl) (fun yb => ?_)
    cases yb
    ·
      refine RT.not .none rfl (tl rfl) true rfl ?_
      refine RT.done ?_
      refine AThen.n ?_
      refine ok_condT rfl ?_
      refine ok_ret ?_
      refine AInB.r ?_
      refine AThen.r ?_
      refine AThen.r ?_
      refine AInB.r ?_
      exact ⟨.inr rfl, (fun h => by cases h)⟩
    ·
      refine RT.not .none rfl (tl rfl) false rfl ?_
      refine RT.done ?_
      refine AThen.n ?_
      refine ok_condF rfl ?_
      refine ok_skip ?_
      refine AInB.n ?_
      refine AThen.n ?_
      refine ok_region ?_
      refine RT.add .none (((i : Nat) : Int) + 1) rfl rfl (tl rfl) (nw_i64 (by omega)) ?_
      refine RT.mv .none rfl (tl rfl) ?_
      refine RT.done ?_
      refine AThen.n ?_
      refine ⟨⟨i + 1, by omega⟩, (by dsimp only; omega), ?_⟩
      try dsimp only
      exact weakL id rfl rfl rfl rfl rfl ⟨.sv (by first | exact SV.imp_refl _ | exact SV.imp_int (by omega) | exact SV.imp_int (by push_cast; omega) | exact SV.imp_int (by dsimp only; omega) | exact SV.imp_eq (by simp)), .sv (by first | exact SV.imp_refl _ | exact SV.imp_int (by omega) | exact SV.imp_int (by push_cast; omega) | exact SV.imp_int (by dsimp only; omega) | exact SV.imp_eq (by simp)), .sv (by first | exact SV.imp_refl _ | exact SV.imp_int (by omega) | exact SV.imp_int (by push_cast; omega) | exact SV.imp_int (by dsimp only; omega) | exact SV.imp_eq (by simp)), .sv (by first | exact SV.imp_refl _ | exact SV.imp_int (by omega) | exact SV.imp_int (by push_cast; omega) | exact SV.imp_int (by dsimp only; omega) | exact SV.imp_eq (by simp)), .sv (by first | exact SV.imp_refl _ | exact SV.imp_int (by omega) | exact SV.imp_int (by push_cast; omega) | exact SV.imp_int (by dsimp only; omega) | exact SV.imp_eq (by simp)), trivial⟩ trivial trivial (fun _ _ => rfl)
  ·
    subst hi
    refine ok_seq ?_
    refine ok_region ?_
    refine RT.lss .none (false) rfl rfl (tl rfl) (by simp) ?_
    refine RT.done ?_
    refine AThen.n ?_
    refine ok_seq ?_
    refine ok_condF rfl ?_
    refine ok_exit ?_
    refine AThen.x ?_
    refine AThen.x ?_
    refine AInB.x ?_
    exact ⟨.inl rfl, (fun _ => rfl)⟩
theorem slices_Clone_ok {x0 r : List Nat} (h : slices_Clone_m x0 = some r) : Pure Try.prog 54 [slc 1 (List.map eU32 x0)] (slc 1 (List.map eU32 r)) := by
  refine pure_of_ok Try.func54 rfl (Nat.le_of_ble_eq_true rfl) (fun wld M vs hvs => ?_)
  unfold slices_Clone_m at h
  refine ok_seq ?_
  refine ok_region ?_
  refine RT.asgI .none rfl (imp_nil (n := 1) (e := eU32)) (tl rfl) ?_
  refine RT.done ?_
  refine AThen.n ?_
  refine ok_seq ?_
  refine ok_seq ?_
  refine ok_region ?_
  refine RT.mv .none rfl (tl rfl) ?_
  refine RT.nilSl .none rfl (tl rfl) (fun nb hnb => ?_)
  cases nb
  · refine RT.done ?_
    refine AThen.n ?_
    refine ok_condF rfl ?_
    refine ok_skip ?_
    refine AThen.n ?_
    refine ok_seq ?_
    refine ok_region ?_
    refine RT.buildRw (l := ([] : List Nat)) (e := eU32) .none .nil (tl rfl) rfl (tl rfl) rfl rfl rfl rfl rfl rfl ?_
    refine RT.mv .none rfl (tl rfl) ?_
    refine RT.apIR (k := x0) (e := eU32) .none rfl rfl rfl (tl rfl) rfl (tl rfl) h ?_
    refine RT.asg .none rfl (tl rfl) ?_
    refine RT.done ?_
    refine AThen.n ?_
    refine ok_ret ?_
    exact ⟨.inr rfl, res_imp (.tmp rfl .nil) (SV.imp_refl _)⟩
  · have hx : x0 = [] := by simpa using hnb rfl
    subst hx
    obtain ⟨_, _, rfl⟩ := apM_some h
    refine RT.done ?_
    refine AThen.n ?_
    refine ok_condT rfl ?_
    refine ok_seq ?_
    refine ok_region ?_
    refine RT.asgI .none rfl (imp_nil (n := 1) (e := eU32)) (tl rfl) ?_
    refine RT.done ?_
    refine AThen.n ?_
    refine ok_ret ?_
    refine AThen.r ?_
    exact ⟨.inr rfl, res_imp (.tmp rfl .nil) (SV.imp_refl _)⟩
theorem slices_CloneN_ok {x0 r : List Nat} (h : slices_Clone_m x0 = some r) : NewC Try.prog 54 [slc 1 (List.map eU32 x0)] (TR 51 1 eU32 r) := by
  refine newC_of_ok Try.func54 rfl (Nat.le_of_ble_eq_true rfl) (fun wld M vs hvs => ?_)
  unfold slices_Clone_m at h
  refine ok_seq ?_
  refine ok_region ?_
  refine RT.asg .none rfl (tl rfl) ?_
  refine RT.done ?_
  refine AThen.n ?_
  refine ok_seq ?_
  refine ok_seq ?_
  refine ok_region ?_
  refine RT.mv .none rfl (tl rfl) ?_
  refine RT.nilSl .none rfl (tl rfl) (fun nb hnb => ?_)
  cases nb
  · refine RT.done ?_
    refine AThen.n ?_
    refine ok_condF rfl ?_
    refine ok_skip ?_
    refine AThen.n ?_
    refine ok_seq ?_
    refine ok_region ?_
    refine RT.buildRw (l := ([] : List Nat)) (e := eU32) .none .nil (tl rfl) rfl (tl rfl) rfl rfl rfl rfl rfl rfl ?_
    refine RT.mv .none rfl (tl rfl) ?_
    refine RT.apR (k := x0) (e := eU32) .none rfl rfl rfl (tl rfl) rfl (tl rfl) h ?_
    refine RT.assign .none (s := .row _) rfl (tl rfl) ?_
    refine RT.done ?_
    refine AThen.n ?_
    refine ok_ret ?_
    exact ⟨.inr rfl, _, .tmp rfl, rfl⟩
  · have hx : x0 = [] := by simpa using hnb rfl
    subst hx
    obtain ⟨_, _, rfl⟩ := apM_some h
    refine RT.done ?_
    refine AThen.n ?_
    refine ok_condT rfl ?_
    refine ok_seq ?_
    refine ok_region ?_
    refine RT.asg .none rfl (tl rfl) ?_
    refine RT.done ?_
    refine AThen.n ?_
    refine ok_weak (weak_nil 2 300 51 1 rfl rfl (tl rfl)) ?_
    refine ok_ret ?_
    refine AThen.r ?_
    exact ⟨.inr rfl, _, .tmp rfl, rfl⟩
theorem whole_carrier_1_ok {x0 : Nat} {c0 : Nat} {r : Nat × Nat} (h : whole_carrier_1_m x0 c0 = some r) : BoxC Try.prog 80 [.v (.int .u64 ((x0 : Nat) : Int))] 59 [.v (.int .u64 ((c0 : Nat) : Int))] (.v (.int .u32 ((r.1 : Nat) : Int))) [.v (.int .u64 ((r.2 : Nat) : Int))] := by
  refine boxC_of_ok Try.func80 rfl (Nat.le_of_ble_eq_true rfl) (fun wld M β => ?_)
  unfold whole_carrier_1_m at h
  refine ok_seq ?_
  refine ok_region ?_
  refine RT.asg .none rfl (tl rfl) ?_
  refine RT.done ?_
  refine AThen.n ?_
  refine ok_seq ?_
  refine ok_region ?_
  refine RT.mv .none rfl (tl rfl) ?_
  refine RT.ldV .none rfl rfl rfl (tl rfl) ?_
  replace h := let_some h
  obtain ⟨x6, h6, h⟩ := h
  refine RT.add .none _ rfl rfl (tl rfl) (UK.add (a := x0) (b := c0) h6) ?_
  refine RT.asg .none rfl (tl rfl) ?_
  refine RT.done ?_
  refine AThen.n ?_
  refine ok_seq ?_
  refine ok_region ?_
  refine RT.mv .none rfl (tl rfl) ?_
  replace h := let_some h
  obtain ⟨x8, h8, h⟩ := h
  refine RT.shr .none _ rfl rfl (tl rfl) (by decide) (shrU (k := .u64) (a := x6) (q := 32) (s := 32) rfl h8) ?_
  refine RT.storeV (cells := [_]) .none (s := .sv _) rfl rfl rfl (tl rfl) rfl ?_
  refine RT.done ?_
  refine AThen.n ?_
  refine ok_seq ?_
  refine ok_region ?_
  refine RT.mv .none rfl (tl rfl) ?_
  replace h := let_some h
  obtain ⟨x10, h10, h⟩ := h
  refine RT.conv .none _ rfl (tl rfl) (UK.nat h10) ?_
  refine RT.asg .none rfl (tl rfl) ?_
  refine RT.done ?_
  refine AThen.n ?_
  refine ok_ret ?_
  obtain rfl := Option.some.inj h
  exact ⟨.inr rfl, res_imp (.tmp rfl (.nil)) (SV.imp_refl _), rfl⟩
theorem whole_trim_ok {x0 : List Nat} {r : List Nat} (h : whole_trim_m x0 = some r) : Pure Try.prog 44 [slc 1 (List.map eU32 x0)] (slc 1 (List.map eU32 r)) := by
  refine pure_of_ok Try.func44 rfl (Nat.le_of_ble_eq_true rfl) (fun wld M vs hvs => ?_)
  unfold whole_trim_m at h
  refine ok_seq ?_
  refine ok_region ?_
  refine RT.asgI .none rfl (imp_nil (n := 1) (e := eU32)) (tl rfl) ?_
  refine RT.done ?_
  refine AThen.n ?_
  refine ok_seq ?_
  replace h := bind_some h
  obtain ⟨e10, hl10, ho10⟩ := h
  refine ok_tailP (fun (y0e9 : (List Nat)) => AS.mkL 21 [(0, .sv (slc 1 (List.map eU32 y0e9)))] [] []) (fun y0e9 => y0e9 = e10) ?_ (fun y0e9 hx10 => ?_)
  · refine ok_block ?_
    refine ok_loopM hl10 (fun s10 => AS.mkL 21 [(0, .sv (slc 1 (List.map eU32 s10)))] [] []) (by (try dsimp only); exact weakL id rfl rfl rfl rfl rfl ⟨.sv (SV.imp_refl _), trivial⟩ trivial trivial (fun _ _ => rfl)) (fun y0l5 y10 G10 h hG10 hE10 => ?_)
    try dsimp only
    refine ok_seq ?_
    refine ok_seq ?_
    refine ok_tailJ h (fun j13 => AS.mkL 21 [(0, .sv (slc 1 (List.map eU32 y0l5))), (14, .sv (.v (.bool j13)))] [] []) (fun h => ?_) (fun y14j12 h => ?_)
    · refine ok_region ?_
      refine RT.mv .none rfl (tl rfl) ?_
      replace h := let_some h
      obtain ⟨x4, h4, h⟩ := h
      refine RT.lenM .none rfl (tl rfl) h4 ?_
      replace h := let_some h
      obtain ⟨x5, h5, h⟩ := h
      refine RT.gtr .none _ rfl rfl (tl rfl) h5 ?_
      refine RT.mv .none rfl (tl rfl) ?_
      replace h := bind_some h
      obtain ⟨c14_14, hg14, h⟩ := h
      cases x5
      · replace hg14 := br_f hg14
        obtain rfl := Option.some.inj hg14
        refine RT.skV rfl rfl (sk rfl) (tl rfl) ?_
        refine RT.skV rfl rfl (sk rfl) (tl rfl) ?_
        refine RT.skV rfl rfl (sk rfl) (tl rfl) ?_
        refine RT.skV rfl rfl (sk rfl) (tl rfl) ?_
        refine RT.skV rfl rfl (sk rfl) (tl rfl) ?_
        refine RT.skV rfl rfl (sk rfl) (tl rfl) ?_
        refine RT.skV rfl rfl (sk rfl) (tl rfl) ?_
        refine RT.pickF .none rfl rfl (tl rfl) ?_
        refine RT.done ?_
        refine AThen.n ?_
        refine ⟨false, h, ?_⟩
        try dsimp only
        exact weakL id rfl rfl rfl rfl rfl ⟨.sv (SV.imp_refl _), .sv (SV.imp_refl _), trivial⟩ trivial trivial (fun _ _ => rfl)
      · replace hg14 := br_t hg14
        refine RT.mv (.some rfl rfl) rfl (tl rfl) ?_
        refine RT.mv (.some rfl rfl) rfl (tl rfl) ?_
        replace hg14 := let_some hg14
        obtain ⟨x9, h9, hg14⟩ := hg14
        refine RT.lenM (.some rfl rfl) rfl (tl rfl) h9 ?_
        replace hg14 := let_some hg14
        obtain ⟨x10, h10, hg14⟩ := hg14
        refine RT.sub (.some rfl rfl) _ rfl rfl (tl rfl) h10 ?_
        replace hg14 := bind_some hg14
        obtain ⟨x11, h11, hg14⟩ := hg14
        refine RT.ixM (.some rfl rfl) rfl rfl (tl rfl) h11 ?_
        refine RT.loadRV (.some rfl rfl) rfl rfl (tl rfl) ?_
        replace hg14 := let_some hg14
        obtain ⟨x13, h13, hg14⟩ := hg14
        refine RT.eql (.some rfl rfl) _ rfl rfl (tl rfl) (eqN (p := x11) (q := 0) h13) ?_
        obtain rfl := Option.some.inj hg14
        refine RT.pickT .none rfl rfl (tl rfl) ?_
        refine RT.done ?_
        refine AThen.n ?_
        refine ⟨x13, h, ?_⟩
        try dsimp only
        exact weakL id rfl rfl rfl rfl rfl ⟨.sv (SV.imp_refl _), .sv (SV.imp_refl _), trivial⟩ trivial trivial (fun _ _ => rfl)
    · try dsimp only
      refine AThen.n ?_
      cases y14j12
      · replace h := br_f h
        refine ok_condF rfl ?_
        refine ok_exit ?_
        refine AThen.x ?_
        refine AThen.x ?_
        refine AInB.x ?_
        refine AThen.n ?_
        obtain rfl := Option.some.inj h
        refine ⟨y0l5, hE10 _ rfl, ?_⟩
        try dsimp only
        exact weakL id rfl rfl rfl rfl rfl ⟨.sv (SV.imp_refl _), trivial⟩ trivial trivial (fun _ _ => rfl)
      · replace h := br_t h
        refine ok_condT rfl ?_
        refine ok_skip ?_
        refine AThen.n ?_
        refine ok_block ?_
        refine ok_region ?_
        refine RT.mv .none rfl (tl rfl) ?_
        refine RT.mv .none rfl (tl rfl) ?_
        replace h := let_some h
        obtain ⟨x17, h17, h⟩ := h
        refine RT.lenM .none rfl (tl rfl) h17 ?_
        replace h := let_some h
        obtain ⟨x18, h18, h⟩ := h
        refine RT.sub .none _ rfl rfl (tl rfl) h18 ?_
        replace h := bind_some h
        obtain ⟨x19, h19, h⟩ := h
        refine RT.sliceM .none 0 x18 rfl rfl ⟨_, rfl⟩ (tl rfl) h19 ?_
        refine RT.asg .none rfl (tl rfl) ?_
        refine RT.done ?_
        refine AInB.n ?_
        obtain rfl := Option.some.inj h
        refine AThen.n ⟨x19, hG10 _ rfl, ?_⟩
        try dsimp only
        exact weakL id rfl rfl rfl rfl rfl ⟨.sv (SV.imp_refl _), trivial⟩ trivial trivial (fun _ _ => rfl)
  · subst hx10
    try dsimp only
    refine AThen.n ?_
    refine ok_seq ?_
    refine ok_region ?_
    refine RT.mv .none rfl (tl rfl) ?_
    refine RT.asg .none rfl (tl rfl) ?_
    refine RT.done ?_
    refine AThen.n ?_
    refine ok_ret ?_
    obtain rfl := Option.some.inj ho10
    exact ⟨.inr rfl, res_imp (.tmp rfl (.nil)) (SV.imp_refl _)⟩
theorem whole_trimT_ok {x0 : List Nat} {r : List Nat} (h : whole_trimT_m x0 = some r) : TakeC Try.prog 44 [.row 1000] (TR 51 1 eU32 x0) 51 1 r.length (List.flatMap eU32 r) := by
  refine takeC_of_ok Try.func44 rfl (Nat.le_of_ble_eq_true rfl) rfl (fun wld M v0 => ?_)
  unfold whole_trimT_m at h
  refine ok_seq ?_
  refine ok_region ?_
  refine RT.asg .none rfl (tl rfl) ?_
  refine RT.done ?_
  refine AThen.n ?_
  refine ok_weak (weak_nil 2 304 51 1 rfl rfl (tl rfl)) ?_
  refine ok_seq ?_
  replace h := bind_some h
  obtain ⟨e10, hl10, ho10⟩ := h
  refine ok_tailP (fun (r306e9 : (List Nat)) => AS.mkL 21 [(0, .row 306)] [] [(306, TR 51 1 eU32 r306e9)]) (fun r306e9 => r306e9 = e10) ?_ (fun r306e9 hx10 => ?_)
  · refine ok_block ?_
    refine ok_loopM hl10 (fun s10 => AS.mkL 21 [(0, .row 306)] [] [(306, TR 51 1 eU32 s10)]) (by (try dsimp only); exact weakL (fun i => bif Nat.beq i 306 then 1000 else i) rfl rfl rfl rfl rfl ⟨.row rfl, trivial⟩ trivial ⟨⟨_, rfl, SVIs.refl _⟩, trivial⟩ (fun i hi => by rw [beq_ne (show i ≠ 306 by omega)]; rfl)) (fun r306l5 y10 G10 h hG10 hE10 => ?_)
    try dsimp only
    refine ok_seq ?_
    refine ok_seq ?_
    refine ok_tailJ h (fun j13 => AS.mkL 21 [(0, .row 306), (14, .sv (.v (.bool j13)))] [] [(306, TR 51 1 eU32 r306l5)]) (fun h => ?_) (fun y14j12 h => ?_)
    · refine ok_region ?_
      refine RT.move .none (s := .row _) rfl (tl rfl) ?_
      replace h := let_some h
      obtain ⟨x4, h4, h⟩ := h
      refine RT.lenRM .none rfl rfl (tl rfl) h4 ?_
      replace h := let_some h
      obtain ⟨x5, h5, h⟩ := h
      refine RT.gtr .none _ rfl rfl (tl rfl) h5 ?_
      refine RT.mv .none rfl (tl rfl) ?_
      replace h := bind_some h
      obtain ⟨c14_14, hg14, h⟩ := h
      cases x5
      · replace hg14 := br_f hg14
        obtain rfl := Option.some.inj hg14
        refine RT.skV rfl rfl (sk rfl) (tl rfl) ?_
        refine RT.skV rfl rfl (sk rfl) (tl rfl) ?_
        refine RT.skV rfl rfl (sk rfl) (tl rfl) ?_
        refine RT.skV rfl rfl (sk rfl) (tl rfl) ?_
        refine RT.skV rfl rfl (sk rfl) (tl rfl) ?_
        refine RT.skV rfl rfl (sk rfl) (tl rfl) ?_
        refine RT.skV rfl rfl (sk rfl) (tl rfl) ?_
        refine RT.pickF .none rfl rfl (tl rfl) ?_
        refine RT.done ?_
        refine AThen.n ?_
        refine ⟨false, h, ?_⟩
        try dsimp only
        exact weakL id rfl rfl rfl rfl rfl ⟨.row rfl, .sv (SV.imp_refl _), trivial⟩ trivial ⟨⟨_, rfl, SVIs.refl _⟩, trivial⟩ (fun _ _ => rfl)
      · replace hg14 := br_t hg14
        refine RT.move (.some rfl rfl) (s := .row _) rfl (tl rfl) ?_
        refine RT.move (.some rfl rfl) (s := .row _) rfl (tl rfl) ?_
        replace hg14 := let_some hg14
        obtain ⟨x9, h9, hg14⟩ := hg14
        refine RT.lenRM (.some rfl rfl) rfl rfl (tl rfl) h9 ?_
        replace hg14 := let_some hg14
        obtain ⟨x10, h10, hg14⟩ := hg14
        refine RT.sub (.some rfl rfl) _ rfl rfl (tl rfl) h10 ?_
        replace hg14 := bind_some hg14
        obtain ⟨x11, h11, hg14⟩ := hg14
        refine RT.ixRM (.some rfl rfl) rfl rfl rfl (tl rfl) h11 ?_
        replace hg14 := bind_some hg14
        obtain ⟨x12, h12, hg14⟩ := hg14
        refine RT.ldRM (.some rfl rfl) rfl rfl h12 rfl (tl rfl) ?_
        replace hg14 := let_some hg14
        obtain ⟨x13, h13, hg14⟩ := hg14
        refine RT.eql (.some rfl rfl) _ rfl rfl (tl rfl) (eqN (p := x12) (q := 0) h13) ?_
        obtain rfl := Option.some.inj hg14
        refine RT.pickT .none rfl rfl (tl rfl) ?_
        refine RT.done ?_
        refine AThen.n ?_
        refine ⟨x13, h, ?_⟩
        try dsimp only
        exact weakL id rfl rfl rfl rfl rfl ⟨.row rfl, .sv (SV.imp_refl _), trivial⟩ trivial ⟨⟨_, rfl, SVIs.refl _⟩, trivial⟩ (fun _ _ => rfl)
    · try dsimp only
      refine AThen.n ?_
      cases y14j12
      · replace h := br_f h
        refine ok_condF rfl ?_
        refine ok_exit ?_
        refine AThen.x ?_
        refine AThen.x ?_
        refine AInB.x ?_
        refine AThen.n ?_
        obtain rfl := Option.some.inj h
        refine ⟨r306l5, hE10 _ rfl, ?_⟩
        try dsimp only
        exact weakL id rfl rfl rfl rfl rfl ⟨.row rfl, trivial⟩ trivial ⟨⟨_, rfl, SVIs.refl _⟩, trivial⟩ (fun _ _ => rfl)
      · replace h := br_t h
        refine ok_condT rfl ?_
        refine ok_skip ?_
        refine AThen.n ?_
        refine ok_block ?_
        refine ok_region ?_
        refine RT.move .none (s := .row _) rfl (tl rfl) ?_
        refine RT.move .none (s := .row _) rfl (tl rfl) ?_
        replace h := let_some h
        obtain ⟨x17, h17, h⟩ := h
        refine RT.lenRM .none rfl rfl (tl rfl) h17 ?_
        replace h := let_some h
        obtain ⟨x18, h18, h⟩ := h
        refine RT.sub .none _ rfl rfl (tl rfl) h18 ?_
        replace h := bind_some h
        obtain ⟨x19, h19, h⟩ := h
        refine RT.truncM .none rfl rfl rfl (tl rfl) rfl (tl rfl) h19 ?_
        refine RT.assign .none (s := .row _) rfl (tl rfl) ?_
        refine RT.done ?_
        refine AInB.n ?_
        obtain rfl := Option.some.inj h
        refine AThen.n ⟨x19, hG10 _ rfl, ?_⟩
        try dsimp only
        exact weakL (fun i => bif Nat.beq i 306 then 19 else i) rfl rfl rfl rfl rfl ⟨.row rfl, trivial⟩ trivial ⟨⟨_, rfl, SVIs.refl _⟩, trivial⟩ (fun i hi => by rw [beq_ne (show i ≠ 306 by omega)]; rfl)
  · subst hx10
    try dsimp only
    refine AThen.n ?_
    refine ok_seq ?_
    refine ok_region ?_
    refine RT.move .none (s := .row _) rfl (tl rfl) ?_
    refine RT.assign .none (s := .row _) rfl (tl rfl) ?_
    refine RT.done ?_
    refine AThen.n ?_
    refine ok_ret ?_
    obtain rfl := Option.some.inj ho10
    exact ⟨.inr rfl, _, .tmp rfl, rfl⟩
theorem whole_build_ok {x0 : Bool} {x1 : List Nat} {r : Zr} (h : whole_build_m x0 x1 = some r) : Pure Try.prog 48 [.v (.bool x0), slc 1 (List.map eU32 x1)] (.agg (eZ r)) := by
  refine pure_of_ok Try.func48 rfl (Nat.le_of_ble_eq_true rfl) (fun wld M vs hvs => ?_)
  unfold whole_build_m at h
  refine ok_seq ?_
  refine ok_region ?_
  refine RT.allocI .none (cs := [.v (.bool false), slc 1 (List.map eU32 [])]) (by exact ⟨SV.imp_refl _, imp_nil, trivial⟩) rfl (tl rfl) rfl rfl ?_
  refine RT.done ?_
  refine AThen.n ?_
  refine ok_seq ?_
  refine ok_region ?_
  refine RT.mv .none rfl (tl rfl) ?_
  replace h := bind_some h
  obtain ⟨x6, h6, h⟩ := h
  refine RT.call .none (whole_trim_ok h6) rfl ⟨rfl, trivial⟩ (tl rfl) ?_
  refine RT.asg .none rfl (tl rfl) ?_
  refine RT.done ?_
  refine AThen.n ?_
  refine ok_seq ?_
  refine ok_seq ?_
  refine ok_region ?_
  refine RT.mv .none rfl (tl rfl) ?_
  replace h := let_some h
  obtain ⟨x8, h8, h⟩ := h
  refine RT.lenM .none rfl (tl rfl) h8 ?_
  replace h := let_some h
  obtain ⟨x9, h9, h⟩ := h
  refine RT.eql .none _ rfl rfl (tl rfl) (eqI (p := x8) (q := 0) h9) ?_
  refine RT.done ?_
  refine AThen.n ?_
  cases x9
  · replace h := br_f h
    refine ok_condF rfl ?_
    refine ok_skip ?_
    refine AThen.n ?_
    refine ok_seq ?_
    refine ok_region ?_
    refine RT.mv .none rfl (tl rfl) ?_
    refine RT.mv .none rfl (tl rfl) ?_
    refine RT.buildI (cs := [_, _]) (cs' := [.v (.bool x0), slc 1 (List.map eU32 x6)]) .none (.one rfl (.one rfl (.nil))) rfl ⟨SV.imp_refl _, SV.imp_refl _, trivial⟩ (tl rfl) ?_
    refine RT.store .none rfl rfl rfl rfl rfl ?_
    refine RT.done ?_
    refine AThen.n ?_
    refine ok_ret ?_
    obtain rfl := Option.some.inj h
    exact ⟨.inr rfl, res_imp (.agg rfl rfl (.cons rfl (.cons rfl (.nil))) rfl (.nil)) (SV.imp_refl _)⟩
  · replace h := br_t h
    refine ok_condT rfl ?_
    refine ok_seq ?_
    refine ok_region ?_
    refine RT.buildI (cs := [_, _]) (cs' := [.v (.bool false), slc 1 (List.map eU32 [])]) .none (.nil) rfl ⟨SV.imp_refl _, imp_nil, trivial⟩ (tl rfl) ?_
    refine RT.store .none rfl rfl rfl rfl rfl ?_
    refine RT.done ?_
    refine AThen.n ?_
    refine ok_ret ?_
    refine AThen.r ?_
    obtain rfl := Option.some.inj h
    exact ⟨.inr rfl, res_imp (.agg rfl rfl (.cons rfl (.cons rfl (.nil))) rfl (.nil)) (SV.imp_refl _)⟩
theorem whole_small_ok {x0 : Bool} {x1 : Nat} {r : Zr} (h : whole_small_m x0 x1 = some r) : Pure Try.prog 56 [.v (.bool x0), .v (.int .u64 ((x1 : Nat) : Int))] (.agg (eZ r)) := by
  refine pure_of_ok Try.func56 rfl (Nat.le_of_ble_eq_true rfl) (fun wld M vs hvs => ?_)
  unfold whole_small_m at h
  refine ok_seq ?_
  refine ok_region ?_
  refine RT.allocI .none (cs := [.v (.bool false), slc 1 (List.map eU32 [])]) (by exact ⟨SV.imp_refl _, imp_nil, trivial⟩) rfl (tl rfl) rfl rfl ?_
  refine RT.done ?_
  refine AThen.n ?_
  refine ok_seq ?_
  refine ok_block ?_
  refine ok_seq ?_
  refine ok_region ?_
  refine RT.mv .none rfl (tl rfl) ?_
  replace h := let_some h
  obtain ⟨x7, h7, h⟩ := h
  refine RT.eql .none _ rfl rfl (tl rfl) (eqN (p := x1) (q := 0) h7) ?_
  refine RT.asg .none rfl (tl rfl) ?_
  refine RT.done ?_
  refine AThen.n ?_
  cases x7
  · replace h := br_f h
    refine ok_condF rfl ?_
    refine ok_seq ?_
    refine ok_region ?_
    refine RT.mv .none rfl (tl rfl) ?_
    replace h := let_some h
    obtain ⟨x11, h11, h⟩ := h
    refine RT.shr .none _ rfl rfl (tl rfl) (by decide) (shrU (k := .u64) (a := x1) (q := 32) (s := 32) rfl h11) ?_
    replace h := let_some h
    obtain ⟨x12, h12, h⟩ := h
    refine RT.eql .none _ rfl rfl (tl rfl) (eqN (p := x11) (q := 0) h12) ?_
    refine RT.asg .none rfl (tl rfl) ?_
    refine RT.done ?_
    refine AThen.n ?_
    cases x12
    · replace h := br_f h
      refine ok_condF rfl ?_
      refine ok_skip ?_
      refine AInB.n ?_
      refine AThen.n ?_
      refine ok_seq ?_
      refine ok_region ?_
      refine RT.mv .none rfl (tl rfl) ?_
      refine RT.mv .none rfl (tl rfl) ?_
      replace h := let_some h
      obtain ⟨x20, h20, h⟩ := h
      refine RT.conv .none _ rfl (tl rfl) (UK.nat h20) ?_
      refine RT.mv .none rfl (tl rfl) ?_
      replace h := let_some h
      obtain ⟨x22, h22, h⟩ := h
      refine RT.shr .none _ rfl rfl (tl rfl) (by decide) (shrU (k := .u64) (a := x1) (q := 32) (s := 32) rfl h22) ?_
      replace h := let_some h
      obtain ⟨x23, h23, h⟩ := h
      refine RT.conv .none _ rfl (tl rfl) (UK.nat h23) ?_
      refine RT.buildSl (l := [x20, x23]) (e := eU32) .none (.one rfl (.one rfl (.nil))) (tl rfl) rfl rfl rfl rfl rfl rfl ?_
      refine RT.buildI (cs := [_, _]) (cs' := [.v (.bool x0), slc 1 (List.map eU32 [x20, x23])]) .none (.one rfl (.one rfl (.nil))) rfl ⟨SV.imp_refl _, SV.imp_refl _, trivial⟩ (tl rfl) ?_
      refine RT.store .none rfl rfl rfl rfl rfl ?_
      refine RT.done ?_
      refine AThen.n ?_
      refine ok_ret ?_
      obtain rfl := Option.some.inj h
      exact ⟨.inr rfl, res_imp (.agg rfl rfl (.cons rfl (.cons rfl (.nil))) rfl (.nil)) (SV.imp_refl _)⟩
    · replace h := br_t h
      refine ok_condT rfl ?_
      refine ok_seq ?_
      refine ok_region ?_
      refine RT.mv .none rfl (tl rfl) ?_
      refine RT.mv .none rfl (tl rfl) ?_
      replace h := let_some h
      obtain ⟨x15, h15, h⟩ := h
      refine RT.conv .none _ rfl (tl rfl) (UK.nat h15) ?_
      refine RT.buildSl (l := [x15]) (e := eU32) .none (.one rfl (.nil)) (tl rfl) rfl rfl rfl rfl rfl rfl ?_
      refine RT.buildI (cs := [_, _]) (cs' := [.v (.bool x0), slc 1 (List.map eU32 [x15])]) .none (.one rfl (.one rfl (.nil))) rfl ⟨SV.imp_refl _, SV.imp_refl _, trivial⟩ (tl rfl) ?_
      refine RT.store .none rfl rfl rfl rfl rfl ?_
      refine RT.done ?_
      refine AThen.n ?_
      refine ok_ret ?_
      refine AInB.r ?_
      refine AThen.r ?_
      obtain rfl := Option.some.inj h
      exact ⟨.inr rfl, res_imp (.agg rfl rfl (.cons rfl (.cons rfl (.nil))) rfl (.nil)) (SV.imp_refl _)⟩
  · replace h := br_t h
    refine ok_condT rfl ?_
    refine ok_seq ?_
    refine ok_region ?_
    refine RT.buildI (cs := [_, _]) (cs' := [.v (.bool false), slc 1 (List.map eU32 [])]) .none (.nil) rfl ⟨SV.imp_refl _, imp_nil, trivial⟩ (tl rfl) ?_
    refine RT.store .none rfl rfl rfl rfl rfl ?_
    refine RT.done ?_
    refine AThen.n ?_
    refine ok_ret ?_
    refine AInB.r ?_
    refine AThen.r ?_
    obtain rfl := Option.some.inj h
    exact ⟨.inr rfl, res_imp (.agg rfl rfl (.cons rfl (.cons rfl (.nil))) rfl (.nil)) (SV.imp_refl _)⟩
theorem whole_low_ok {x0 : List Nat} {r : Nat} (h : whole_low_m x0 = some r) : Pure Try.prog 55 [slc 1 (List.map eU32 x0)] (.v (.int .u64 ((r : Nat) : Int))) := by
  refine pure_of_ok Try.func55 rfl (Nat.le_of_ble_eq_true rfl) (fun wld M vs hvs => ?_)
  unfold whole_low_m at h
  refine ok_seq ?_
  refine ok_region ?_
  refine RT.asg .none rfl (tl rfl) ?_
  refine RT.done ?_
  refine AThen.n ?_
  refine ok_seq ?_
  refine ok_seq ?_
  refine ok_region ?_
  refine RT.mv .none rfl (tl rfl) ?_
  replace h := let_some h
  obtain ⟨x4, h4, h⟩ := h
  refine RT.lenM .none rfl (tl rfl) h4 ?_
  refine RT.done ?_
  refine AThen.n ?_
  refine ok_block ?_
  refine ok_seq ?_
  refine ok_region ?_
  replace h := let_some h
  obtain ⟨x6, h6, h⟩ := h
  refine RT.eql .none _ rfl rfl (tl rfl) (eqI (p := x4) (q := 0) h6) ?_
  refine RT.asg .none rfl (tl rfl) ?_
  refine RT.done ?_
  refine AThen.n ?_
  cases x6
  · replace h := br_f h
    refine ok_condF rfl ?_
    refine ok_seq ?_
    refine ok_region ?_
    replace h := let_some h
    obtain ⟨x8, h8, h⟩ := h
    refine RT.eql .none _ rfl rfl (tl rfl) (eqI (p := x4) (q := 1) h8) ?_
    refine RT.asg .none rfl (tl rfl) ?_
    refine RT.done ?_
    refine AThen.n ?_
    cases x8
    · replace h := br_f h
      refine ok_condF rfl ?_
      refine ok_skip ?_
      refine AInB.n ?_
      refine AThen.n ?_
      refine ok_seq ?_
      refine ok_region_draw mixed ?_
      refine RT.mv .none rfl (tl rfl) ?_
      replace h := bind_some h
      obtain ⟨x14, h14, h⟩ := h
      refine RT.ixM .none rfl rfl (tl rfl) h14 ?_
      refine RT.loadRV .none rfl rfl (tl rfl) ?_
      replace h := let_some h
      obtain ⟨x16, h16, h⟩ := h
      refine RT.conv .none _ rfl (tl rfl) (UK.nat h16) ?_
      refine RT.mv .none rfl (tl rfl) ?_
      replace h := bind_some h
      obtain ⟨x18, h18, h⟩ := h
      refine RT.ixM .none rfl rfl (tl rfl) h18 ?_
      refine RT.loadRV .none rfl rfl (tl rfl) ?_
      replace h := let_some h
      obtain ⟨x20, h20, h⟩ := h
      refine RT.conv .none _ rfl (tl rfl) (UK.nat h20) ?_
      replace h := let_some h
      obtain ⟨x21, h21, h⟩ := h
      refine RT.shl .none _ rfl rfl (tl rfl) (by decide) (UK.shl (a := x20) (q := 32) (s := 32) rfl h21) ?_
      replace h := let_some h
      obtain ⟨x22, h22, h⟩ := h
      refine RT.or .none _ rfl rfl (tl rfl) (UK.or (a := x16) (b := x21) h22) ?_
      refine RT.asg .none rfl (tl rfl) ?_
      refine RT.done ⟨by kernel_rfl, ?_⟩
      refine AThen.n ?_
      refine ok_ret ?_
      obtain rfl := Option.some.inj h
      exact ⟨.inr rfl, res_imp (.tmp rfl (.nil)) (SV.imp_refl _)⟩
    · replace h := br_t h
      refine ok_condT rfl ?_
      refine ok_seq ?_
      refine ok_region ?_
      refine RT.mv .none rfl (tl rfl) ?_
      replace h := bind_some h
      obtain ⟨x10, h10, h⟩ := h
      refine RT.ixM .none rfl rfl (tl rfl) h10 ?_
      refine RT.loadRV .none rfl rfl (tl rfl) ?_
      replace h := let_some h
      obtain ⟨x12, h12, h⟩ := h
      refine RT.conv .none _ rfl (tl rfl) (UK.nat h12) ?_
      refine RT.asg .none rfl (tl rfl) ?_
      refine RT.done ?_
      refine AThen.n ?_
      refine ok_ret ?_
      refine AInB.r ?_
      refine AThen.r ?_
      obtain rfl := Option.some.inj h
      exact ⟨.inr rfl, res_imp (.tmp rfl (.nil)) (SV.imp_refl _)⟩
  · replace h := br_t h
    refine ok_condT rfl ?_
    refine ok_seq ?_
    refine ok_region ?_
    refine RT.asg .none rfl (tl rfl) ?_
    refine RT.done ?_
    refine AThen.n ?_
    refine ok_ret ?_
    refine AInB.r ?_
    refine AThen.r ?_
    obtain rfl := Option.some.inj h
    exact ⟨.inr rfl, res_imp (.tmp rfl (.nil)) (SV.imp_refl _)⟩
theorem whole_compareWords_ok {x0 : List Nat} {x1 : List Nat} {r : Int} (h : whole_compareWords_m x0 x1 = some r) : Pure Try.prog 65 [slc 1 (List.map eU32 x0), slc 1 (List.map eU32 x1)] (.v (.int .i64 r)) := by
  refine pure_of_ok Try.func65 rfl (Nat.le_of_ble_eq_true rfl) (fun wld M vs hvs => ?_)
  unfold whole_compareWords_m at h
  refine ok_seq ?_
  refine ok_region ?_
  refine RT.asg .none rfl (tl rfl) ?_
  refine RT.done ?_
  refine AThen.n ?_
  refine ok_seq ?_
  refine ok_seq ?_
  refine ok_region ?_
  refine RT.mv .none rfl (tl rfl) ?_
  replace h := let_some h
  obtain ⟨x7, h7, h⟩ := h
  refine RT.lenM .none rfl (tl rfl) h7 ?_
  refine RT.mv .none rfl (tl rfl) ?_
  replace h := let_some h
  obtain ⟨x9, h9, h⟩ := h
  refine RT.lenM .none rfl (tl rfl) h9 ?_
  replace h := let_some h
  obtain ⟨x10, h10, h⟩ := h
  refine RT.neq .none _ rfl rfl (tl rfl) (neI (p := x7) (q := x9) h10) ?_
  refine RT.done ?_
  refine AThen.n ?_
  cases x10
  · replace h := br_f h
    refine ok_condF rfl ?_
    refine ok_skip ?_
    refine AThen.n ?_
    refine ok_seq ?_
    refine ok_seq ?_
    refine ok_region ?_
    refine RT.mv .none rfl (tl rfl) ?_
    replace h := let_some h
    obtain ⟨x17, h17, h⟩ := h
    refine RT.lenM .none rfl (tl rfl) h17 ?_
    replace h := let_some h
    obtain ⟨x18, h18, h⟩ := h
    refine RT.sub .none _ rfl rfl (tl rfl) h18 ?_
    refine RT.asg .none rfl (tl rfl) ?_
    refine RT.done ?_
    refine AThen.n ?_
    replace h := bind_some h
    obtain ⟨e6, hl6, ho6⟩ := h
    refine ok_tailP (fun (xe6 : Unit) => AS.mkL 41 [] [] []) (fun xe6 => .inl xe6 = e6) ?_ (fun xe6 hx6 => ?_)
    · refine ok_block ?_
      refine ok_loopM hl6 (fun s6 => AS.mkL 41 [(0, .sv (slc 1 (List.map eU32 x0))), (1, .sv (slc 1 (List.map eU32 x1))), (5, .sv (.v (.int .i64 s6)))] [] []) (by (try dsimp only); exact weakL id rfl rfl rfl rfl rfl ⟨.sv (SV.imp_refl _), .sv (SV.imp_refl _), .sv (SV.imp_refl _), trivial⟩ trivial trivial (fun _ _ => rfl)) (fun y5l3 y6 G6 h hG6 hE6 => ?_)
      try dsimp only
      refine ok_seq ?_
      refine ok_seq ?_
      refine ok_region ?_
      refine RT.mv .none rfl (tl rfl) ?_
      replace h := let_some h
      obtain ⟨x20, h20, h⟩ := h
      refine RT.geq .none _ rfl rfl (tl rfl) h20 ?_
      refine RT.done ?_
      refine AThen.n ?_
      cases x20
      · replace h := br_f h
        refine ok_condF rfl ?_
        refine ok_exit ?_
        refine AThen.x ?_
        refine AThen.x ?_
        refine AInB.x ?_
        refine AThen.n ?_
        obtain rfl := Option.some.inj h
        refine ⟨(), hE6 _ rfl, ?_⟩
        try dsimp only
        exact weakL id rfl rfl rfl rfl rfl trivial trivial trivial (fun _ _ => rfl)
      · replace h := br_t h
        refine ok_condT rfl ?_
        refine ok_skip ?_
        refine AThen.n ?_
        refine ok_seq ?_
        refine ok_block ?_
        refine ok_seq ?_
        refine ok_region_draw mixed ?_
        refine RT.mv .none rfl (tl rfl) ?_
        refine RT.mv .none rfl (tl rfl) ?_
        replace h := bind_some h
        obtain ⟨x25, h25, h⟩ := h
        refine RT.ixM .none rfl rfl (tl rfl) h25 ?_
        refine RT.loadRV .none rfl rfl (tl rfl) ?_
        refine RT.mv .none rfl (tl rfl) ?_
        refine RT.mv .none rfl (tl rfl) ?_
        replace h := bind_some h
        obtain ⟨x29, h29, h⟩ := h
        refine RT.ixM .none rfl rfl (tl rfl) h29 ?_
        refine RT.loadRV .none rfl rfl (tl rfl) ?_
        replace h := let_some h
        obtain ⟨x31, h31, h⟩ := h
        refine RT.neq .none _ rfl rfl (tl rfl) (neN (p := x25) (q := x29) h31) ?_
        refine RT.done ⟨by kernel_rfl, ?_⟩
        refine AThen.n ?_
        cases x31
        · replace h := br_f h
          refine ok_condF rfl ?_
          refine ok_skip ?_
          refine AInB.n ?_
          refine AThen.n ?_
          refine ok_region ?_
          refine RT.mv .none rfl (tl rfl) ?_
          replace h := let_some h
          obtain ⟨x22, h22, h⟩ := h
          refine RT.sub .none _ rfl rfl (tl rfl) h22 ?_
          refine RT.asg .none rfl (tl rfl) ?_
          refine RT.done ?_
          obtain rfl := Option.some.inj h
          refine AThen.n ⟨x22, hG6 _ rfl, ?_⟩
          try dsimp only
          exact weakL id rfl rfl rfl rfl rfl ⟨.sv (SV.imp_refl _), .sv (SV.imp_refl _), .sv (SV.imp_refl _), trivial⟩ trivial trivial (fun _ _ => rfl)
        · replace h := br_t h
          refine ok_condT rfl ?_
          refine ok_seq ?_
          refine ok_seq ?_
          refine ok_region_draw mixed ?_
          refine RT.mv .none rfl (tl rfl) ?_
          refine RT.mv .none rfl (tl rfl) ?_
          replace h := bind_some h
          obtain ⟨x34, h34, h⟩ := h
          refine RT.ixM .none rfl rfl (tl rfl) h34 ?_
          refine RT.loadRV .none rfl rfl (tl rfl) ?_
          refine RT.mv .none rfl (tl rfl) ?_
          refine RT.mv .none rfl (tl rfl) ?_
          replace h := bind_some h
          obtain ⟨x38, h38, h⟩ := h
          refine RT.ixM .none rfl rfl (tl rfl) h38 ?_
          refine RT.loadRV .none rfl rfl (tl rfl) ?_
          replace h := let_some h
          obtain ⟨x40, h40, h⟩ := h
          refine RT.lss .none _ rfl rfl (tl rfl) (ltN (p := x34) (q := x38) h40) ?_
          refine RT.done ⟨by kernel_rfl, ?_⟩
          refine AThen.n ?_
          cases x40
          · replace h := br_f h
            refine ok_condF rfl ?_
            refine ok_skip ?_
            refine AThen.n ?_
            refine ok_seq ?_
            refine ok_region ?_
            refine RT.asg .none rfl (tl rfl) ?_
            refine RT.done ?_
            refine AThen.n ?_
            refine ok_ret ?_
            refine AInB.r ?_
            refine AThen.r ?_
            obtain rfl := Option.some.inj h
            have he6 := hE6 _ rfl
            subst he6
            refine AThen.r ?_
            refine AInB.r ?_
            refine AThen.r ?_
            refine AThen.r ?_
            obtain rfl := Option.some.inj ho6
            exact ⟨.inr rfl, res_imp (.tmp rfl (.nil)) (SV.imp_refl _)⟩
          · replace h := br_t h
            refine ok_condT rfl ?_
            refine ok_seq ?_
            refine ok_region ?_
            refine RT.asg .none rfl (tl rfl) ?_
            refine RT.done ?_
            refine AThen.n ?_
            refine ok_ret ?_
            refine AThen.r ?_
            refine AInB.r ?_
            refine AThen.r ?_
            obtain rfl := Option.some.inj h
            have he6 := hE6 _ rfl
            subst he6
            refine AThen.r ?_
            refine AInB.r ?_
            refine AThen.r ?_
            refine AThen.r ?_
            obtain rfl := Option.some.inj ho6
            exact ⟨.inr rfl, res_imp (.tmp rfl (.nil)) (SV.imp_refl _)⟩
    · subst hx6
      try dsimp only
      refine AThen.n ?_
      refine ok_seq ?_
      refine ok_region ?_
      refine RT.asg .none rfl (tl rfl) ?_
      refine RT.done ?_
      refine AThen.n ?_
      refine ok_ret ?_
      obtain rfl := Option.some.inj ho6
      exact ⟨.inr rfl, res_imp (.tmp rfl (.nil)) (SV.imp_refl _)⟩
  · replace h := br_t h
    refine ok_condT rfl ?_
    refine ok_seq ?_
    refine ok_seq ?_
    refine ok_region ?_
    refine RT.mv .none rfl (tl rfl) ?_
    replace h := let_some h
    obtain ⟨x12, h12, h⟩ := h
    refine RT.lenM .none rfl (tl rfl) h12 ?_
    refine RT.mv .none rfl (tl rfl) ?_
    replace h := let_some h
    obtain ⟨x14, h14, h⟩ := h
    refine RT.lenM .none rfl (tl rfl) h14 ?_
    replace h := let_some h
    obtain ⟨x15, h15, h⟩ := h
    refine RT.lss .none _ rfl rfl (tl rfl) h15 ?_
    refine RT.done ?_
    refine AThen.n ?_
    cases x15
    · replace h := br_f h
      refine ok_condF rfl ?_
      refine ok_skip ?_
      refine AThen.n ?_
      refine ok_seq ?_
      refine ok_region ?_
      refine RT.asg .none rfl (tl rfl) ?_
      refine RT.done ?_
      refine AThen.n ?_
      refine ok_ret ?_
      refine AThen.r ?_
      obtain rfl := Option.some.inj h
      exact ⟨.inr rfl, res_imp (.tmp rfl (.nil)) (SV.imp_refl _)⟩
    · replace h := br_t h
      refine ok_condT rfl ?_
      refine ok_seq ?_
      refine ok_region ?_
      refine RT.asg .none rfl (tl rfl) ?_
      refine RT.done ?_
      refine AThen.n ?_
      refine ok_ret ?_
      refine AThen.r ?_
      refine AThen.r ?_
      obtain rfl := Option.some.inj h
      exact ⟨.inr rfl, res_imp (.tmp rfl (.nil)) (SV.imp_refl _)⟩
theorem whole_addWords_ok {x0 : List Nat} {x1 : List Nat} {r : List Nat} (h : whole_addWords_m x0 x1 = some r) : Pure Try.prog 46 [slc 1 (List.map eU32 x0), slc 1 (List.map eU32 x1)] (slc 1 (List.map eU32 r)) := by
  refine pure_of_ok Try.func46 rfl (Nat.le_of_ble_eq_true rfl) (fun wld M vs hvs => ?_)
  unfold whole_addWords_m at h
  refine ok_seq ?_
  refine ok_region ?_
  refine RT.asgI .none rfl (imp_nil (n := 1) (e := eU32)) (tl rfl) ?_
  refine RT.done ?_
  refine AThen.n ?_
  refine ok_seq ?_
  refine ok_region ?_
  refine RT.mv .none rfl (tl rfl) ?_
  replace h := let_some h
  obtain ⟨x10, h10, h⟩ := h
  refine RT.lenM .none rfl (tl rfl) h10 ?_
  refine RT.mv .none rfl (tl rfl) ?_
  replace h := let_some h
  obtain ⟨x12, h12, h⟩ := h
  refine RT.lenM .none rfl (tl rfl) h12 ?_
  replace h := let_some h
  obtain ⟨x13, h13, h⟩ := h
  refine RT.max .none _ rfl rfl (tl rfl) (maxI (p := x10) (q := x12) h13) ?_
  replace h := let_some h
  obtain ⟨x14, h14, h⟩ := h
  refine RT.add .none _ rfl rfl (tl rfl) h14 ?_
  replace h := bind_some h
  obtain ⟨x15, h15, h⟩ := h
  refine RT.mkEmp (e := eU32) .none rfl rfl (tl rfl) rfl (tl rfl) h15 ?_
  refine RT.alloc .none (tl rfl) rfl rfl ?_
  refine RT.storeR (cells := [_]) .none rfl rfl rfl rfl (tl rfl) rfl ?_
  refine RT.done ?_
  refine AThen.n ?_
  refine ok_seq ?_
  refine ok_region ?_
  refine RT.callF .none (whole_carrier_ok 0) rfl ⟨rfl, trivial⟩ (tl rfl) rfl rfl ?_
  refine RT.alloc .none (tl rfl) rfl rfl ?_
  refine RT.storeV (cells := [_]) .none (s := .clo _ _) rfl rfl rfl (tl rfl) rfl ?_
  refine RT.done ?_
  refine AThen.n ?_
  refine ok_seq ?_
  refine ok_seq ?_
  refine ok_region ?_
  refine RT.mv .none rfl (tl rfl) ?_
  refine RT.mv .none rfl (tl rfl) ?_
  refine RT.call .none (whole_pairs_ok x0 x1) rfl ⟨rfl, rfl, trivial⟩ (tl rfl) ?_
  refine RT.done ?_
  refine AThen.n ?_
  refine ok_block ?_
  replace h := bind_some h
  obtain ⟨e7, hl7, ho7⟩ := h
  obtain ⟨st7, hs7, ht7, hn7⟩ := rangeM_st hl7
  refine ok_rangeFunc (whole_pairs_it x0 x1) (fun _ _ _ _ _ => trivial) rfl (fun k => AS.mkL 35 [(5, .ptr 5 0), (6, .ptr 6 0), (19, .sv (cloS 81 [ref [slc 1 (List.map eU32 x0)], ref [slc 1 (List.map eU32 x1)]]))] [(6, ⟨75, [.clo 80 [.box 16]]⟩), (16, ⟨59, [.sv (.v (.int .u64 (((st7 k).1 : Nat) : Int)))]⟩), (5, ⟨22, [.row 302]⟩)] [(302, TR 51 1 eU32 (st7 k).2)]) [6, 16, 5] rfl (fun _ => ⟨rfl, rfl⟩) (rangeT rfl) (fun _ => rfl) (rangeP rfl) (by (try dsimp only); rw [hs7]; (try dsimp only); exact weakL (fun i => bif Nat.beq i 302 then 15 else i) rfl rfl rfl rfl rfl ⟨.ptr, .ptr, .sv (SV.imp_refl _), trivial⟩ ⟨⟨_, rfl, ⟨.clo, trivial⟩⟩, ⟨_, rfl, ⟨.sv (SV.imp_refl _), trivial⟩⟩, ⟨_, rfl, ⟨.row rfl, trivial⟩⟩, trivial⟩ ⟨⟨_, rfl, SVIs.refl _⟩, trivial⟩ (fun i hi => by rw [beq_ne (show i ≠ 302 by omega)]; rfl)) (fun k hk D => ?_) ?_
  · have h := ht7 k hk
    obtain ⟨sk, hsk⟩ : ∃ q, st7 k = q := ⟨_, rfl⟩
    rw [hsk] at h ⊢
    obtain ⟨b16_0l4, r302l4⟩ := sk
    dsimp only [AS.inR, setPs]
    try dsimp only at h
    replace h := let_some h
    obtain ⟨p20, hp20, h⟩ := h
    rw [hp20]
    replace h := let_some h
    obtain ⟨p21, hp21, h⟩ := h
    rw [hp21]
    refine ok_seq ?_
    refine ok_region ?_
    refine RT.asg .none rfl (tl rfl) ?_
    refine RT.done ?_
    refine AThen.n ?_
    refine ok_region ?_
    refine RT.asg .none rfl (tl rfl) ?_
    refine RT.done ?_
    refine AThen.n ⟨rfl, ?_⟩
    dsimp only [AS.goOn]
    refine ok_block ?_
    refine ok_region_draw mixed ?_
    refine RT.loadV .none (s := .row _) rfl rfl rfl (tl rfl) ?_
    refine RT.loadV .none (s := .clo _ _) rfl rfl rfl (tl rfl) ?_
    refine RT.mv .none rfl (tl rfl) ?_
    refine RT.mv .none rfl (tl rfl) ?_
    replace h := let_some h
    obtain ⟨x26, h26, h⟩ := h
    refine RT.add .none _ rfl rfl (tl rfl) (UK.add (a := p20) (b := p21) h26) ?_
    replace h := bind_some h
    obtain ⟨⟨x27, k9⟩, h27, h⟩ := h
    refine RT.callB .none (whole_carrier_1_ok h27) 16 rfl rfl ⟨rfl, trivial⟩ (tl rfl) ?_
    refine RT.buildSl (l := [x27]) (e := eU32) .none (.one rfl (.nil)) (tl rfl) rfl rfl rfl rfl rfl rfl ?_
    replace h := bind_some h
    obtain ⟨x29, h29, h⟩ := h
    refine RT.apR (k := [x27]) (e := eU32) .none rfl rfl rfl (tl rfl) rfl (tl rfl) h29 ?_
    refine RT.storeR (cells := [_]) .none rfl rfl rfl rfl (tl rfl) rfl ?_
    refine RT.done ⟨by kernel_rfl, ?_⟩
    refine AInB.n ?_
    replace h := Option.some.inj h
    refine ⟨rfl, rfl, ?_⟩
    try dsimp only
    rw [← h]
    try dsimp only
    exact weakL (fun i => bif Nat.beq i 302 then 29 else i) rfl rfl rfl rfl rfl ⟨.ptr, .ptr, .sv (SV.imp_refl _), trivial⟩ ⟨⟨_, rfl, ⟨.clo, trivial⟩⟩, ⟨_, rfl, ⟨.sv (SV.imp_refl _), trivial⟩⟩, ⟨_, rfl, ⟨.row rfl, trivial⟩⟩, trivial⟩ ⟨⟨_, rfl, SVIs.refl _⟩, trivial⟩ (fun i hi => by rw [beq_ne (show i ≠ 302 by omega)]; rfl)
  · rw [hn7]
    obtain ⟨b16_0l4, r302l4⟩ := e7
    try dsimp only
    refine AInB.n ?_
    refine AThen.n ?_
    refine ok_seq ?_
    refine ok_region_draw mixed ?_
    refine RT.loadV .none (s := .row _) rfl rfl rfl (tl rfl) ?_
    refine RT.loadV .none (s := .clo _ _) rfl rfl rfl (tl rfl) ?_
    replace ho7 := bind_some ho7
    obtain ⟨⟨x32, k11⟩, h32, ho7⟩ := ho7
    refine RT.callB .none (whole_carrier_1_ok h32) 16 rfl rfl ⟨rfl, trivial⟩ (tl rfl) ?_
    refine RT.buildSl (l := [x32]) (e := eU32) .none (.one rfl (.nil)) (tl rfl) rfl rfl rfl rfl rfl rfl ?_
    replace ho7 := bind_some ho7
    obtain ⟨x34, h34, ho7⟩ := ho7
    refine RT.apIR (k := [x32]) (e := eU32) .none rfl rfl rfl (tl rfl) rfl (tl rfl) h34 ?_
    refine RT.asg .none rfl (tl rfl) ?_
    refine RT.done ⟨by kernel_rfl, ?_⟩
    refine AThen.n ?_
    refine ok_ret ?_
    obtain rfl := Option.some.inj ho7
    exact ⟨.inr rfl, res_imp (.tmp rfl (.nil)) (SV.imp_refl _)⟩
theorem whole_subWords_ok {x0 : List Nat} {x1 : List Nat} {r : List Nat} (h : whole_subWords_m x0 x1 = some r) : Pure Try.prog 47 [slc 1 (List.map eU32 x0), slc 1 (List.map eU32 x1)] (slc 1 (List.map eU32 r)) := by
  refine pure_of_ok Try.func47 rfl (Nat.le_of_ble_eq_true rfl) (fun wld M vs hvs => ?_)
  unfold whole_subWords_m at h
  refine ok_seq ?_
  refine ok_region ?_
  refine RT.asgI .none rfl (imp_nil (n := 1) (e := eU32)) (tl rfl) ?_
  refine RT.done ?_
  refine AThen.n ?_
  refine ok_seq ?_
  refine ok_region ?_
  refine RT.mv .none rfl (tl rfl) ?_
  replace h := let_some h
  obtain ⟨x10, h10, h⟩ := h
  refine RT.lenM .none rfl (tl rfl) h10 ?_
  replace h := bind_some h
  obtain ⟨x11, h11, h⟩ := h
  refine RT.mkEmp (e := eU32) .none rfl rfl (tl rfl) rfl (tl rfl) h11 ?_
  refine RT.alloc .none (tl rfl) rfl rfl ?_
  refine RT.storeR (cells := [_]) .none rfl rfl rfl rfl (tl rfl) rfl ?_
  refine RT.done ?_
  refine AThen.n ?_
  refine ok_seq ?_
  refine ok_region ?_
  refine RT.callF .none (whole_carrier_ok 1) rfl ⟨rfl, trivial⟩ (tl rfl) rfl rfl ?_
  refine RT.alloc .none (tl rfl) rfl rfl ?_
  refine RT.storeV (cells := [_]) .none (s := .clo _ _) rfl rfl rfl (tl rfl) rfl ?_
  refine RT.done ?_
  refine AThen.n ?_
  refine ok_seq ?_
  refine ok_seq ?_
  refine ok_region ?_
  refine RT.mv .none rfl (tl rfl) ?_
  refine RT.mv .none rfl (tl rfl) ?_
  refine RT.call .none (whole_pairs_ok x0 x1) rfl ⟨rfl, rfl, trivial⟩ (tl rfl) ?_
  refine RT.done ?_
  refine AThen.n ?_
  refine ok_block ?_
  replace h := bind_some h
  obtain ⟨e7, hl7, ho7⟩ := h
  obtain ⟨st7, hs7, ht7, hn7⟩ := rangeM_st hl7
  refine ok_rangeFunc (whole_pairs_it x0 x1) (fun _ _ _ _ _ => trivial) rfl (fun k => AS.mkL 28 [(5, .ptr 5 0), (6, .ptr 6 0), (15, .sv (cloS 81 [ref [slc 1 (List.map eU32 x0)], ref [slc 1 (List.map eU32 x1)]]))] [(6, ⟨75, [.clo 80 [.box 12]]⟩), (12, ⟨59, [.sv (.v (.int .u64 (((st7 k).1 : Nat) : Int)))]⟩), (5, ⟨22, [.row 302]⟩)] [(302, TR 51 1 eU32 (st7 k).2)]) [6, 12, 5] rfl (fun _ => ⟨rfl, rfl⟩) (rangeT rfl) (fun _ => rfl) (rangeP rfl) (by (try dsimp only); rw [hs7]; (try dsimp only); exact weakL (fun i => bif Nat.beq i 302 then 11 else i) rfl rfl rfl rfl rfl ⟨.ptr, .ptr, .sv (SV.imp_refl _), trivial⟩ ⟨⟨_, rfl, ⟨.clo, trivial⟩⟩, ⟨_, rfl, ⟨.sv (SV.imp_refl _), trivial⟩⟩, ⟨_, rfl, ⟨.row rfl, trivial⟩⟩, trivial⟩ ⟨⟨_, rfl, SVIs.refl _⟩, trivial⟩ (fun i hi => by rw [beq_ne (show i ≠ 302 by omega)]; rfl)) (fun k hk D => ?_) ?_
  · have h := ht7 k hk
    obtain ⟨sk, hsk⟩ : ∃ q, st7 k = q := ⟨_, rfl⟩
    rw [hsk] at h ⊢
    obtain ⟨b12_0l4, r302l4⟩ := sk
    dsimp only [AS.inR, setPs]
    try dsimp only at h
    replace h := let_some h
    obtain ⟨p16, hp16, h⟩ := h
    rw [hp16]
    replace h := let_some h
    obtain ⟨p17, hp17, h⟩ := h
    rw [hp17]
    refine ok_seq ?_
    refine ok_region ?_
    refine RT.asg .none rfl (tl rfl) ?_
    refine RT.done ?_
    refine AThen.n ?_
    refine ok_region ?_
    refine RT.asg .none rfl (tl rfl) ?_
    refine RT.done ?_
    refine AThen.n ⟨rfl, ?_⟩
    dsimp only [AS.goOn]
    refine ok_block ?_
    refine ok_region_draw mixed ?_
    refine RT.loadV .none (s := .row _) rfl rfl rfl (tl rfl) ?_
    refine RT.loadV .none (s := .clo _ _) rfl rfl rfl (tl rfl) ?_
    refine RT.mv .none rfl (tl rfl) ?_
    refine RT.mv .none rfl (tl rfl) ?_
    replace h := let_some h
    obtain ⟨x22, h22, h⟩ := h
    refine RT.sub .none _ rfl rfl (tl rfl) (UK.sub (a := 4294967295) (b := p17) h22) ?_
    replace h := let_some h
    obtain ⟨x23, h23, h⟩ := h
    refine RT.add .none _ rfl rfl (tl rfl) (UK.add (a := p16) (b := x22) h23) ?_
    replace h := bind_some h
    obtain ⟨⟨x24, k9⟩, h24, h⟩ := h
    refine RT.callB .none (whole_carrier_1_ok h24) 12 rfl rfl ⟨rfl, trivial⟩ (tl rfl) ?_
    refine RT.buildSl (l := [x24]) (e := eU32) .none (.one rfl (.nil)) (tl rfl) rfl rfl rfl rfl rfl rfl ?_
    replace h := bind_some h
    obtain ⟨x26, h26, h⟩ := h
    refine RT.apR (k := [x24]) (e := eU32) .none rfl rfl rfl (tl rfl) rfl (tl rfl) h26 ?_
    refine RT.storeR (cells := [_]) .none rfl rfl rfl rfl (tl rfl) rfl ?_
    refine RT.done ⟨by kernel_rfl, ?_⟩
    refine AInB.n ?_
    replace h := Option.some.inj h
    refine ⟨rfl, rfl, ?_⟩
    try dsimp only
    rw [← h]
    try dsimp only
    exact weakL (fun i => bif Nat.beq i 302 then 26 else i) rfl rfl rfl rfl rfl ⟨.ptr, .ptr, .sv (SV.imp_refl _), trivial⟩ ⟨⟨_, rfl, ⟨.clo, trivial⟩⟩, ⟨_, rfl, ⟨.sv (SV.imp_refl _), trivial⟩⟩, ⟨_, rfl, ⟨.row rfl, trivial⟩⟩, trivial⟩ ⟨⟨_, rfl, SVIs.refl _⟩, trivial⟩ (fun i hi => by rw [beq_ne (show i ≠ 302 by omega)]; rfl)
  · rw [hn7]
    obtain ⟨b12_0l4, r302l4⟩ := e7
    try dsimp only
    refine AInB.n ?_
    refine AThen.n ?_
    refine ok_seq ?_
    refine ok_region ?_
    refine RT.loadV .none (s := .row _) rfl rfl rfl (tl rfl) ?_
    refine RT.assign .none (s := .row _) rfl (tl rfl) ?_
    refine RT.done ?_
    refine AThen.n ?_
    refine ok_weak (weak_frzM (i := 302) (E1 := 51) (n := 1) (e := eU32) (l := r302l4) rfl) ?_
    refine ok_ret ?_
    obtain rfl := Option.some.inj ho7
    exact ⟨.inr rfl, res_imp (.tmp rfl (.nil)) (SV.imp_refl _)⟩
theorem whole_mulWords_ok {x0 : List Nat} {x1 : List Nat} {r : List Nat} (h : whole_mulWords_m x0 x1 = some r) : Pure Try.prog 67 [slc 1 (List.map eU32 x0), slc 1 (List.map eU32 x1)] (slc 1 (List.map eU32 r)) := by
  refine pure_of_ok Try.func67 rfl (Nat.le_of_ble_eq_true rfl) (fun wld M vs hvs => ?_)
  unfold whole_mulWords_m at h
  refine ok_seq ?_
  refine ok_region ?_
  refine RT.asgI .none rfl (imp_nil (n := 1) (e := eU32)) (tl rfl) ?_
  refine RT.done ?_
  refine AThen.n ?_
  refine ok_seq ?_
  refine ok_region ?_
  refine RT.mv .none rfl (tl rfl) ?_
  replace h := let_some h
  obtain ⟨x12, h12, h⟩ := h
  refine RT.lenM .none rfl (tl rfl) h12 ?_
  refine RT.mv .none rfl (tl rfl) ?_
  replace h := let_some h
  obtain ⟨x14, h14, h⟩ := h
  refine RT.lenM .none rfl (tl rfl) h14 ?_
  replace h := let_some h
  obtain ⟨x15, h15, h⟩ := h
  refine RT.add .none _ rfl rfl (tl rfl) h15 ?_
  replace h := bind_some h
  obtain ⟨x16, h16, h⟩ := h
  refine RT.mkRow (n := 1) (e := eU32) .none rfl rfl (tl rfl) rfl (tl rfl) (by rfl) (by decide) (by exact ⟨SV.imp_refl _, trivial⟩) h16 ?_
  refine RT.assign .none (s := .row _) rfl (tl rfl) ?_
  refine RT.done ?_
  refine AThen.n ?_
  refine ok_seq ?_
  refine ok_seq ?_
  refine ok_region ?_
  refine RT.mv .none rfl (tl rfl) ?_
  replace h := let_some h
  obtain ⟨x18, h18, h⟩ := h
  refine RT.lenM .none rfl (tl rfl) h18 ?_
  refine RT.mv .none rfl (tl rfl) ?_
  refine RT.done ?_
  refine AThen.n ?_
  replace h := bind_some h
  obtain ⟨e28, hl28, ho28⟩ := h
  refine ok_tailP (fun (r16e27 : (List Nat)) => AS.mkL 63 [(5, .row 16)] [] [(16, TR 51 1 eU32 r16e27)]) (fun r16e27 => r16e27 = e28) ?_ (fun r16e27 hx28 => ?_)
  · refine ok_block ?_
    refine ok_loopM hl28 (fun s28 => AS.mkL 63 [(1, .sv (slc 1 (List.map eU32 x1))), (5, .row 16), (17, .sv (slc 1 (List.map eU32 x0))), (18, .sv (.v (.int .i64 x18))), (19, .sv (.v (.int .i64 s28.1)))] [] [(16, TR 51 1 eU32 s28.2)]) (by (try dsimp only); exact weakL id rfl rfl rfl rfl rfl ⟨.sv (SV.imp_refl _), .row rfl, .sv (SV.imp_refl _), .sv (SV.imp_refl _), .sv (SV.imp_refl _), trivial⟩ trivial ⟨⟨_, rfl, SVIs.refl _⟩, trivial⟩ (fun _ _ => rfl)) (fun s28 y28 G28 h hG28 hE28 => ?_)
    obtain ⟨y19l14, r16l14⟩ := s28
    try dsimp only
    refine ok_seq ?_
    refine ok_region ?_
    replace h := let_some h
    obtain ⟨x20, h20, h⟩ := h
    refine RT.lss .none _ rfl rfl (tl rfl) h20 ?_
    refine RT.done ?_
    refine AThen.n ?_
    refine ok_seq ?_
    cases x20
    · replace h := br_f h
      refine ok_condF rfl ?_
      refine ok_exit ?_
      refine AThen.x ?_
      refine AThen.x ?_
      refine AInB.x ?_
      refine AThen.n ?_
      obtain rfl := Option.some.inj h
      refine ⟨r16l14, hE28 _ rfl, ?_⟩
      try dsimp only
      exact weakL id rfl rfl rfl rfl rfl ⟨.row rfl, trivial⟩ trivial ⟨⟨_, rfl, SVIs.refl _⟩, trivial⟩ (fun _ _ => rfl)
    · replace h := br_t h
      refine ok_condT rfl ?_
      refine ok_skip ?_
      refine AThen.n ?_
      refine ok_seq ?_
      refine ok_block ?_
      refine ok_seq ?_
      refine ok_region ?_
      refine RT.mv .none rfl (tl rfl) ?_
      replace h := bind_some h
      obtain ⟨x22, h22, h⟩ := h
      refine RT.ixM .none rfl rfl (tl rfl) h22 ?_
      refine RT.loadRV .none rfl rfl (tl rfl) ?_
      refine RT.asg .none rfl (tl rfl) ?_
      refine RT.asg .none rfl (tl rfl) ?_
      refine RT.done ?_
      refine AThen.n ?_
      refine ok_seq ?_
      refine ok_region ?_
      refine RT.callF .none (whole_carrier_ok 0) rfl ⟨rfl, trivial⟩ (tl rfl) rfl rfl ?_
      refine RT.assign .none (s := .clo _ _) rfl (tl rfl) ?_
      refine RT.done ?_
      refine AThen.n ?_
      refine ok_seq ?_
      refine ok_seq ?_
      refine ok_region ?_
      refine RT.mv .none rfl (tl rfl) ?_
      replace h := let_some h
      obtain ⟨x26, h26, h⟩ := h
      refine RT.lenM .none rfl (tl rfl) h26 ?_
      refine RT.mv .none rfl (tl rfl) ?_
      refine RT.done ?_
      refine AThen.n ?_
      replace h := bind_some h
      obtain ⟨e38, hl38, ho38⟩ := h
      refine ok_tailP (fun (xe38 : Nat × (List Nat)) => AS.mkL 63 [(1, .sv (slc 1 (List.map eU32 x1))), (5, .row 16), (6, .sv (.v (.int .i64 y19l14))), (8, .clo 80 [.box 24]), (17, .sv (slc 1 (List.map eU32 x0))), (18, .sv (.v (.int .i64 x18))), (19, .sv (.v (.int .i64 y19l14)))] [(24, ⟨59, [.sv (.v (.int .u64 ((xe38.1 : Nat) : Int)))]⟩)] [(16, TR 51 1 eU32 xe38.2)]) (fun xe38 => xe38 = e38) ?_ (fun xe38 hx38 => ?_)
      · refine ok_block ?_
        refine ok_loopM hl38 (fun s38 => AS.mkL 63 [(1, .sv (slc 1 (List.map eU32 x1))), (5, .row 16), (6, .sv (.v (.int .i64 y19l14))), (7, .sv (.v (.int .u32 ((x22 : Nat) : Int)))), (8, .clo 80 [.box 24]), (17, .sv (slc 1 (List.map eU32 x0))), (18, .sv (.v (.int .i64 x18))), (19, .sv (.v (.int .i64 y19l14))), (25, .sv (slc 1 (List.map eU32 x1))), (26, .sv (.v (.int .i64 x26))), (27, .sv (.v (.int .i64 s38.1)))] [(24, ⟨59, [.sv (.v (.int .u64 ((s38.2.1 : Nat) : Int)))]⟩)] [(16, TR 51 1 eU32 s38.2.2)]) (by (try dsimp only); exact weakL id rfl rfl rfl rfl rfl ⟨.sv (SV.imp_refl _), .row rfl, .sv (SV.imp_refl _), .sv (SV.imp_refl _), .clo, .sv (SV.imp_refl _), .sv (SV.imp_refl _), .sv (SV.imp_refl _), .sv (SV.imp_refl _), .sv (SV.imp_refl _), .sv (SV.imp_refl _), trivial⟩ ⟨⟨_, rfl, ⟨.sv (SV.imp_refl _), trivial⟩⟩, trivial⟩ ⟨⟨_, rfl, SVIs.refl _⟩, trivial⟩ (fun _ _ => rfl)) (fun s38 y38 G38 h hG38 hE38 => ?_)
        obtain ⟨y27l33, b24_0l33, r16l33⟩ := s38
        try dsimp only
        refine ok_seq ?_
        refine ok_region ?_
        replace h := let_some h
        obtain ⟨x28, h28, h⟩ := h
        refine RT.lss .none _ rfl rfl (tl rfl) h28 ?_
        refine RT.done ?_
        refine AThen.n ?_
        refine ok_seq ?_
        cases x28
        · replace h := br_f h
          refine ok_condF rfl ?_
          refine ok_exit ?_
          refine AThen.x ?_
          refine AThen.x ?_
          refine AInB.x ?_
          refine AThen.n ?_
          obtain rfl := Option.some.inj h
          refine ⟨(b24_0l33, r16l33), hE38 _ rfl, ?_⟩
          try dsimp only
          exact weakL id rfl rfl rfl rfl rfl ⟨.sv (SV.imp_refl _), .row rfl, .sv (SV.imp_refl _), .clo, .sv (SV.imp_refl _), .sv (SV.imp_refl _), .sv (SV.imp_refl _), trivial⟩ ⟨⟨_, rfl, ⟨.sv (SV.imp_refl _), trivial⟩⟩, trivial⟩ ⟨⟨_, rfl, SVIs.refl _⟩, trivial⟩ (fun _ _ => rfl)
        · replace h := br_t h
          refine ok_condT rfl ?_
          refine ok_skip ?_
          refine AThen.n ?_
          refine ok_seq ?_
          refine ok_block ?_
          refine ok_seq ?_
          refine ok_region ?_
          refine RT.mv .none rfl (tl rfl) ?_
          replace h := bind_some h
          obtain ⟨x30, h30, h⟩ := h
          refine RT.ixM .none rfl rfl (tl rfl) h30 ?_
          refine RT.loadRV .none rfl rfl (tl rfl) ?_
          refine RT.asg .none rfl (tl rfl) ?_
          refine RT.asg .none rfl (tl rfl) ?_
          refine RT.done ?_
          refine AThen.n ?_
          refine ok_region ?_
          refine RT.move .none (s := .row _) rfl (tl rfl) ?_
          refine RT.mv .none rfl (tl rfl) ?_
          refine RT.mv .none rfl (tl rfl) ?_
          replace h := let_some h
          obtain ⟨x35, h35, h⟩ := h
          refine RT.add .none _ rfl rfl (tl rfl) h35 ?_
          refine RT.move .none (s := .clo _ _) rfl (tl rfl) ?_
          refine RT.move .none (s := .row _) rfl (tl rfl) ?_
          refine RT.mv .none rfl (tl rfl) ?_
          refine RT.mv .none rfl (tl rfl) ?_
          replace h := let_some h
          obtain ⟨x40, h40, h⟩ := h
          refine RT.add .none _ rfl rfl (tl rfl) h40 ?_
          replace h := bind_some h
          obtain ⟨x41, h41, h⟩ := h
          refine RT.ixRM .none rfl rfl rfl (tl rfl) h41 ?_
          replace h := bind_some h
          obtain ⟨x42, h42, h⟩ := h
          refine RT.ldRM .none rfl rfl h42 rfl (tl rfl) ?_
          replace h := let_some h
          obtain ⟨x43, h43, h⟩ := h
          refine RT.conv .none _ rfl (tl rfl) (UK.nat h43) ?_
          refine RT.mv .none rfl (tl rfl) ?_
          replace h := let_some h
          obtain ⟨x45, h45, h⟩ := h
          refine RT.conv .none _ rfl (tl rfl) (UK.nat h45) ?_
          refine RT.mv .none rfl (tl rfl) ?_
          replace h := let_some h
          obtain ⟨x47, h47, h⟩ := h
          refine RT.conv .none _ rfl (tl rfl) (UK.nat h47) ?_
          replace h := let_some h
          obtain ⟨x48, h48, h⟩ := h
          refine RT.mul .none _ rfl rfl (tl rfl) (UK.mul (a := x45) (b := x47) h48) ?_
          replace h := let_some h
          obtain ⟨x49, h49, h⟩ := h
          refine RT.add .none _ rfl rfl (tl rfl) (UK.add (a := x43) (b := x48) h49) ?_
          replace h := bind_some h
          obtain ⟨⟨x50, k41⟩, h50, h⟩ := h
          refine RT.callB .none (whole_carrier_1_ok h50) 24 rfl rfl ⟨rfl, trivial⟩ (tl rfl) ?_
          replace h := bind_some h
          obtain ⟨x51, h51, h⟩ := h
          refine RT.ixRM .none rfl rfl rfl (tl rfl) h51 ?_
          replace h := bind_some h
          obtain ⟨l42, hl42_, h⟩ := h
          refine RT.stRM .none x50 rfl rfl rfl rfl hl42_ ?_
          refine RT.done ?_
          refine AInB.n ?_
          refine AThen.n ?_
          refine ok_region ?_
          replace h := let_some h
          obtain ⟨x52, h52, h⟩ := h
          refine RT.add .none _ rfl rfl (tl rfl) h52 ?_
          refine RT.mv .none rfl (tl rfl) ?_
          refine RT.done ?_
          obtain rfl := Option.some.inj h
          refine AThen.n ⟨(x52, k41, l42), hG38 _ rfl, ?_⟩
          try dsimp only
          exact weakL id rfl rfl rfl rfl rfl ⟨.sv (SV.imp_refl _), .row rfl, .sv (SV.imp_refl _), .sv (SV.imp_refl _), .clo, .sv (SV.imp_refl _), .sv (SV.imp_refl _), .sv (SV.imp_refl _), .sv (SV.imp_refl _), .sv (SV.imp_refl _), .sv (SV.imp_refl _), trivial⟩ ⟨⟨_, rfl, ⟨.sv (SV.imp_refl _), trivial⟩⟩, trivial⟩ ⟨⟨_, rfl, SVIs.refl _⟩, trivial⟩ (fun _ _ => rfl)
      · subst hx38
        obtain ⟨b24_0e37, r16e37⟩ := xe38
        try dsimp only
        refine AThen.n ?_
        refine ok_region ?_
        refine RT.move .none (s := .row _) rfl (tl rfl) ?_
        refine RT.mv .none rfl (tl rfl) ?_
        refine RT.mv .none rfl (tl rfl) ?_
        replace ho38 := let_some ho38
        obtain ⟨x56, h56, ho38⟩ := ho38
        refine RT.lenM .none rfl (tl rfl) h56 ?_
        replace ho38 := let_some ho38
        obtain ⟨x57, h57, ho38⟩ := ho38
        refine RT.add .none _ rfl rfl (tl rfl) h57 ?_
        refine RT.move .none (s := .clo _ _) rfl (tl rfl) ?_
        replace ho38 := bind_some ho38
        obtain ⟨⟨x59, k45⟩, h59, ho38⟩ := ho38
        refine RT.callB .none (whole_carrier_1_ok h59) 24 rfl rfl ⟨rfl, trivial⟩ (tl rfl) ?_
        replace ho38 := bind_some ho38
        obtain ⟨x60, h60, ho38⟩ := ho38
        refine RT.ixRM .none rfl rfl rfl (tl rfl) h60 ?_
        replace ho38 := bind_some ho38
        obtain ⟨l46, hl46_, ho38⟩ := ho38
        refine RT.stRM .none x59 rfl rfl rfl rfl hl46_ ?_
        refine RT.done ?_
        refine AInB.n ?_
        refine AThen.n ?_
        refine ok_region ?_
        replace ho38 := let_some ho38
        obtain ⟨x61, h61, ho38⟩ := ho38
        refine RT.add .none _ rfl rfl (tl rfl) h61 ?_
        refine RT.mv .none rfl (tl rfl) ?_
        refine RT.done ?_
        obtain rfl := Option.some.inj ho38
        refine AThen.n ⟨(x61, l46), hG28 _ rfl, ?_⟩
        try dsimp only
        exact weakL id rfl rfl rfl rfl rfl ⟨.sv (SV.imp_refl _), .row rfl, .sv (SV.imp_refl _), .sv (SV.imp_refl _), .sv (SV.imp_refl _), trivial⟩ trivial ⟨⟨_, rfl, SVIs.refl _⟩, trivial⟩ (fun _ _ => rfl)
  · subst hx28
    try dsimp only
    refine AThen.n ?_
    refine ok_seq ?_
    refine ok_region ?_
    refine RT.move .none (s := .row _) rfl (tl rfl) ?_
    refine RT.assign .none (s := .row _) rfl (tl rfl) ?_
    refine RT.done ?_
    refine AThen.n ?_
    refine ok_weak (weak_frzM (i := 16) (E1 := 51) (n := 1) (e := eU32) (l := r16e27) rfl) ?_
    refine ok_ret ?_
    obtain rfl := Option.some.inj ho28
    exact ⟨.inr rfl, res_imp (.tmp rfl (.nil)) (SV.imp_refl _)⟩
end Go.Proofs.Ytgkafblpckcekaa
