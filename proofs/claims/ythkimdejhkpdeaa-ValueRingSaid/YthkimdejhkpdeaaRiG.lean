/- Part 7 of what the claim rests on. -/
import Derived.Test.YthkimdejhkpdeaaRiA
import Derived.Test.YthkimdejhkpdeaaRiB
import Derived.Test.YthkimdejhkpdeaaRiC
import Derived.Test.YthkimdejhkpdeaaRiD
import Derived.Test.YthkimdejhkpdeaaRiE
import Derived.Test.YthkimdejhkpdeaaRiF
section
set_option linter.unusedVariables false
set_option linter.unusedSimpArgs false
/- How the seat's arguments are read: pairs of whole numbers. -/
namespace Go.Abs.Seat
open Go.Proofs Go.Abs Go.ChangeShapes

section
variable {Hd : Type} {enc : TypeId × Value → Hd} {w : World}


theorem list2 {α : Type} {l : List α} (hl : l.length = 2) : ∃ u v, l = [u, v] := by
  rcases l with _ | ⟨u, _ | ⟨v, _ | ⟨z, r⟩⟩⟩
  · simp at hl
  · simp at hl
  · exact ⟨u, v, rfl⟩
  · simp at hl

theorem relL_one {S : Nat → Nat → Prop} {d : Dat} {v : Value} (h : RelL w S [d] [v]) : RelD w S d v := by
  simp only [RelL] at h
  obtain ⟨v', r, hv, hd, hr⟩ := h
  simp at hv
  obtain ⟨rfl, rfl⟩ := hv
  exact hd

theorem relL_two {S : Nat → Nat → Prop} {d d' : Dat} {v v' : Value} (h : RelD w S d v) (h' : RelD w S d' v') : RelL w S [d, d'] [v, v'] := by
  simp only [RelL]
  exact ⟨v, [v'], rfl, h, v', [], rfl, h', rfl⟩

theorem one0 (u v : Value) : (([u, v] : List Value).drop (0 * 1)).take 1 = [u] := rfl
theorem one1 (u v : Value) : (([u, v] : List Value).drop (1 * 1)).take 1 = [v] := rfl

theorem readsP2 (n : Nat) : Reads enc Try.prog w n 52 (Int × Int) (fun p => [.int .i64 p.1, .int .i64 p.2]) (fun p => (Lit.int .i64 p.1).wf = true ∧ (Lit.int .i64 p.2).wf = true) := by
  intro cs x hx
  have hc3 : Try.prog.cellsOf 3 = 1 := by kernel_rfl
  have hc : Try.prog.cellsOf 52 = 2 := by kernel_rfl
  have hu := Try.underlying52
  have h3 : ∀ m, Reads enc Try.prog w m 3 Int (fun z => [.int .i64 z]) (fun z => (Lit.int .i64 z).wf = true) := fun m => reads_int Try.underlying3 hc3
  generalize Try.prog = P at *
  obtain ⟨m, rfl, hl, h⟩ := trod_array hu hx
  rw [hc] at hl
  obtain ⟨u, v, rfl⟩ := list2 hl
  obtain ⟨y0, e0⟩ := h 0 (by decide)
  obtain ⟨y1, e1⟩ := h 1 (by decide)
  rw [hc3] at e0 e1
  rw [one0] at e0
  rw [one1] at e1
  obtain ⟨a, ga, ra, _, _⟩ := h3 m _ _ e0
  obtain ⟨b, gb, rb, _, _⟩ := h3 m _ _ e1
  exact ⟨(a, b), ⟨ga, gb⟩, relL_two (relL_one ra) (relL_one rb), by rw [hc]; rfl, by simp [cellD]⟩

end
end Go.Abs.Seat
end
