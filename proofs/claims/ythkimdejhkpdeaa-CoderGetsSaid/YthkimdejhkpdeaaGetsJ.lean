/- Part 10 of what the claim rests on. -/
import Derived.Test.YthkimdejhkpdeaaGetsA
import Derived.Test.YthkimdejhkpdeaaGetsB
import Derived.Test.YthkimdejhkpdeaaGetsC
import Derived.Test.YthkimdejhkpdeaaGetsD
import Derived.Test.YthkimdejhkpdeaaGetsE
import Derived.Test.YthkimdejhkpdeaaGetsF
import Derived.Test.YthkimdejhkpdeaaGetsG
import Derived.Test.YthkimdejhkpdeaaGetsH
import Derived.Test.YthkimdejhkpdeaaGetsI
section
set_option linter.unusedVariables false
set_option linter.unusedSimpArgs false
/- How the seat's arguments are read: the reference's types, bytes. -/
namespace Go.Abs.Seat
open Go.Proofs Go.Abs Go.ChangeShapes

section
variable {Hd : Type} {enc : TypeId × Value → Hd} {P : Program} {w : World}

theorem readsRT : ∀ n, Reads enc Try.prog w n 31 KT encT okT ∧ Reads enc Try.prog w n 29 (List KT) (fun l => [.sl 2 (l.map encT)]) (fun l => (∀ a ∈ l, okT a) ∧ l.length ≤ maxLen)
  | 0 => ⟨reads_zero, reads_zero⟩
  | n + 1 => by
    obtain ⟨h1, h2⟩ := readsRT n
    have hc : Try.prog.cellsOf 31 = 2 := by kernel_rfl
    have h3 : Reads enc Try.prog w n 3 Int (fun z => [.int .i64 z]) (fun z => (Lit.int .i64 z).wf = true) := reads_int Try.underlying3 (by kernel_rfl)
    have hsl := reads_slice (n := n) (enc := enc) (w := w) Try.underlying29 (by kernel_rfl) (by rw [hc]; decide) h1
    rw [hc] at hsl
    refine ⟨?_, hsl⟩
    have hF := readsF_cons (f := { name := "Kind", type := 3, offset := 0, embedded := false, tag := "", pkgPath := "", byteOffset := 0 }) (L := 2) (o := 0) (o' := 1) rfl (by kernel_rfl) (by decide) h3
      (readsF_cons (f := { name := "Args", type := 29, offset := 1, embedded := false, tag := "", pkgPath := "", byteOffset := 8 }) (L := 2) (o := 1) (o' := 2) rfl (by kernel_rfl) (by decide) h2 readsF_nil)
    have hs := reads_struct (t := 31) (enc := enc) (w := w) Try.underlying31 (by rw [hc]; exact hF)
    refine reads_map hs fun ⟨k, l, u⟩ ⟨_, ⟨hg, hl⟩, _⟩ => ⟨.mk k 2 l, ?_, ?_⟩
    · simp only [okT]
      refine ⟨.inr trivial, by simpa [maxLen] using hl, ?_⟩
      have : ∀ l : List KT, (∀ a ∈ l, okT a) → okTs l := by
        intro l
        induction l with
        | nil => intro _; simp only [okTs]
        | cons a l ih => intro h; simp only [okTs]; exact ⟨h a (by simp), ih fun x hx => h x (by simp [hx])⟩
      exact this l hg
    · simp only [encT, encTs_map]
      rfl

theorem reads_byte {n : Nat} : Reads enc Try.prog w n 5 UInt8 (fun c => [byteDat c]) (fun _ => True) := by
  refine reads_map (reads_int Try.underlying5 (by kernel_rfl)) fun z hz => ⟨UInt8.ofNat z.toNat, trivial, ?_⟩
  have h : 0 ≤ z ∧ z < 256 := by
    have h1 : IntKind.u8.min ≤ z ∧ z ≤ IntKind.u8.max := by simpa [Lit.wf] using hz
    have h2 : IntKind.u8.min = 0 := rfl
    have h3 : IntKind.u8.max = 255 := rfl
    omega
  have h2 : (UInt8.ofNat z.toNat).toNat = z.toNat := by
    rw [UInt8.toNat_ofNat']
    omega
  simp only [byteDat, h2]
  congr 2
  omega

theorem readsB (n : Nat) : Reads enc Try.prog w n 74 (List UInt8) (fun l => [.sl 1 (bytesC l)]) (fun l => l.length ≤ maxLen) := by
  cases n with
  | zero => exact reads_zero
  | succ n =>
    have hc : Try.prog.cellsOf 5 = 1 := by kernel_rfl
    have hsl := reads_slice (n := n) (enc := enc) (w := w) Try.underlying74 (by kernel_rfl) (by rw [hc]; decide) reads_byte
    rw [hc] at hsl
    exact reads_map hsl fun l ⟨_, hl⟩ => ⟨l, hl, rfl⟩
end
end Go.Abs.Seat
end
