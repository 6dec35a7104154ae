/- Part 9 of what the claim rests on. -/
import Derived.Test.YthkimdejhkpdeaaGetsA
import Derived.Test.YthkimdejhkpdeaaGetsB
import Derived.Test.YthkimdejhkpdeaaGetsC
import Derived.Test.YthkimdejhkpdeaaGetsD
import Derived.Test.YthkimdejhkpdeaaGetsE
import Derived.Test.YthkimdejhkpdeaaGetsF
import Derived.Test.YthkimdejhkpdeaaGetsG
import Derived.Test.YthkimdejhkpdeaaGetsH
section
set_option linter.unusedVariables false
set_option linter.unusedSimpArgs false
/- How the seat's arguments are read: types. -/
namespace Go.Abs.Seat
open Go.Proofs Go.Abs Go.ChangeShapes

section
variable {Hd : Type} {enc : TypeId × Value → Hd} {P : Program} {w : World}

theorem reads_map {n : Nat} {t : TypeId} {α β : Type} {ea : α → List Dat} {eb : β → List Dat} {ga : α → Prop} {gb : β → Prop} (h : Reads enc P w n t α ea ga) (hm : ∀ a, ga a → ∃ b, gb b ∧ eb b = ea a) : Reads enc P w n t β eb gb := by
  intro cs x hx
  obtain ⟨a, hg, hr, hl, hc⟩ := h cs x hx
  obtain ⟨b, hb, he⟩ := hm a hg
  exact ⟨b, hb, by rw [he]; exact hr, by rw [he]; exact hl, by rw [he]; exact hc⟩

theorem reads_zero {t : TypeId} {α : Type} {en : α → List Dat} {good : α → Prop} : Reads enc P w 0 t α en good := by
  intro cs x hx
  simp [DataW.trod] at hx

theorem readsT : ∀ n, Reads enc Try.prog w n 25 KT encT okT ∧ Reads enc Try.prog w n 23 (List KT) (fun l => [.sl 2 (l.map encT)]) (fun l => (∀ a ∈ l, okT a) ∧ l.length ≤ maxLen)
  | 0 => ⟨reads_zero, reads_zero⟩
  | n + 1 => by
    obtain ⟨h1, h2⟩ := readsT n
    have hc : Try.prog.cellsOf 25 = 2 := by kernel_rfl
    have h3 : Reads enc Try.prog w n 3 Int (fun z => [.int .i64 z]) (fun z => (Lit.int .i64 z).wf = true) := reads_int Try.underlying3 (by kernel_rfl)
    have hsl := reads_slice (n := n) (enc := enc) (w := w) Try.underlying23 (by kernel_rfl) (by rw [hc]; decide) h1
    rw [hc] at hsl
    refine ⟨?_, hsl⟩
    have hF := readsF_cons (f := { name := "Kind", type := 3, offset := 0, embedded := false, tag := "", pkgPath := "", byteOffset := 0 }) (L := 2) (o := 0) (o' := 1) rfl (by kernel_rfl) (by decide) h3
      (readsF_cons (f := { name := "Args", type := 23, offset := 1, embedded := false, tag := "", pkgPath := "", byteOffset := 8 }) (L := 2) (o := 1) (o' := 2) rfl (by kernel_rfl) (by decide) h2 readsF_nil)
    have hs := reads_struct (t := 25) (enc := enc) (w := w) Try.underlying25 (by rw [hc]; exact hF)
    refine reads_map hs fun ⟨k, l, u⟩ ⟨_, ⟨hg, hl⟩, _⟩ => ⟨.mk k 2 l, ?_, ?_⟩
    · simp only [okT]
      refine ⟨.inr trivial, by simpa [maxLen] using hl, ?_⟩
      have : ∀ l : List KT, (∀ a ∈ l, okT a) → okTs l := by
        intro l
        induction l with
        | nil => intro _; simp only [okTs]
        | cons a l ih => intro h; simp only [okTs]; exact ⟨h a (by simp), ih fun x hx => h x (by simp [hx])⟩
      exact this l hg
    · simp only [encT, encTs_map]
      rfl
end
end Go.Abs.Seat
end
