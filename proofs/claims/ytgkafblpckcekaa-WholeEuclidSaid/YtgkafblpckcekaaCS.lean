/- How the laws' arguments are opened. Made by program. -/
import Derived.Test.YtgkafblpckcekaaOpen
namespace Go.Proofs.Ytgkafblpckcekaa
open Go.Fw Go.RowKit Go.ChangeShapes Go.WideShapes Go.ChangeAt
theorem own_ : ownKnob Try.prog.godebug = none := by kernel_rfl
theorem laidOut_ : laidOutB Try.prog = true := by kernel_rfl
instance : StN Try.prog 24 2 := ⟨by kernel_rfl⟩
instance : Opn Try.prog 24 eZ (fun z => (True ∧ (z.w.length ≤ 9223372036854775807 ∧ ∀ x ∈ z.w, x < 4294967296))) (fun z => (1 + ((z.w.map fun x => 1).sum + 1) + 1)) := ⟨fun enc W fuel cs d p h => by
  obtain ⟨xs, n, rfl, hl, hn, hf⟩ := st_open h
  have hl : cs.length = 2 := hl.trans (by kernel_rfl)
  match xs, hn with
  | [⟨d0, p0⟩, ⟨d1, p1⟩], _ =>
  match cs, hl with
  | [c0, c1], _ =>
  have t0 : DataW.trod enc Try.prog W 0 (fun _ => true) true n 4 [c0] = some (d0, p0) := (by have q := hf 0 _ _ inferInstance; rw [show Try.prog.cellsOf 4 = 1 by kernel_rfl] at q; exact q)
  obtain ⟨x0, a0, b0, e0, s0⟩ := Opn.h (P := Try.prog) (T := 4) (e := eB) enc W n _ d0 p0 t0
  have t1 : DataW.trod enc Try.prog W 0 (fun _ => true) true n 22 [c1] = some (d1, p1) := (by have q := hf 1 _ _ inferInstance; rw [show Try.prog.cellsOf 22 = 1 by kernel_rfl] at q; exact q)
  obtain ⟨x1, a1, b1, e1, s1⟩ := Opn.h (P := Try.prog) (T := 22) (e := (eS 1 eU32)) enc W n _ d1 p1 t1
  refine ⟨⟨x0, x1⟩, ⟨a0, a1⟩, ⟨b0.1, b1.1, trivial⟩, ?_, ?_⟩
  · intro v hv; simp only [List.mem_cons, List.not_mem_nil, or_false] at hv; rcases hv with rfl | rfl
    · exact e0 _ (by simp)
    · exact e1 _ (by simp)
  · simp only [List.map_cons, List.map_nil, Rows.uptoBulk, Rows.uptoBulkAll]; omega⟩
end Go.Proofs.Ytgkafblpckcekaa
