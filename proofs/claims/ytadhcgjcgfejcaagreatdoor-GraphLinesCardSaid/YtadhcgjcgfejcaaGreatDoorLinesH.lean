/- Part 8 of what the claim rests on. -/
import Derived.Stop.LaidErr
import Derived.Test.YtadhcgjcgfejcaaGreatDoorLinesA
import Derived.Test.YtadhcgjcgfejcaaGreatDoorLinesB
import Derived.Test.YtadhcgjcgfejcaaGreatDoorLinesC
import Derived.Test.YtadhcgjcgfejcaaGreatDoorLinesD
import Derived.Test.YtadhcgjcgfejcaaGreatDoorLinesE
import Derived.Test.YtadhcgjcgfejcaaGreatDoorLinesF
import Derived.Test.YtadhcgjcgfejcaaGreatDoorLinesG
section
set_option linter.unusedVariables false
set_option linter.unusedSimpArgs false
namespace Go.Abs.Seat
open Go.Proofs Go.Abs Go.ChangeShapes
section
variable {Hd : Type} {enc : TypeId × Value → Hd} {P : Program} {w : World}
theorem reads_map {n : Nat} {t : TypeId} {α β : Type} {ea : α → List Dat} {eb : β → List Dat} {ga : α → Prop} {gb : β → Prop} (h : Reads enc P w n t α ea ga) (hm : ∀ a, ga a → ∃ b, gb b ∧ eb b = ea a) : Reads enc P w n t β eb gb := by
 intro cs x hx
 obtain ⟨a, hg, hr, hl, hc⟩ := h cs x hx
 obtain ⟨b, hb, he⟩ := hm a hg
 exact ⟨b, hb, by rw [he]; exact hr, by rw [he]; exact hl, by rw [he]; exact hc⟩
theorem reads_zero {t : TypeId} {α : Type} {en : α → List Dat} {good : α → Prop} : Reads enc P w 0 t α en good := by
 intro cs x hx
 simp [DataW.trod] at hx
theorem readsT : ∀ n, Reads enc Tryz.prog w n 46 KT encT okT ∧ Reads enc Tryz.prog w n 44 (List KT) (fun l => [.sl 2 (l.map encT)]) (fun l => (∀ a ∈ l, okT a) ∧ l.length ≤ maxLen)
 | 0 => ⟨reads_zero, reads_zero⟩
 | n + 1 => by
  obtain ⟨h1, h2⟩ := readsT n
  have hc : Tryz.prog.cellsOf 46 = 2 := by kernel_rfl
  have h3 : Reads enc Tryz.prog w n 3 Int (fun z => [.int .i64 z]) (fun z => (Lit.int .i64 z).wf = true) := reads_int Tryz.underlying3 (by kernel_rfl)
  have hsl := reads_slice (n := n) (enc := enc) (w := w) Tryz.underlying44 (by kernel_rfl) (by rw [hc]; decide) h1
  rw [hc] at hsl
  refine ⟨?_, hsl⟩
  have hF := readsF_cons (f := { name := "Kind", type := 3, offset := 0, embedded := false, tag := "", pkgPath := "", byteOffset := 0 }) (L := 2) (o := 0) (o' := 1) rfl (by kernel_rfl) (by decide) h3
   (readsF_cons (f := { name := "Args", type := 44, offset := 1, embedded := false, tag := "", pkgPath := "", byteOffset := 8 }) (L := 2) (o := 1) (o' := 2) rfl (by kernel_rfl) (by decide) h2 readsF_nil)
  have hs := reads_struct (t := 46) (enc := enc) (w := w) Tryz.underlying46 (by rw [hc]; exact hF)
  refine reads_map hs fun ⟨k, l, u⟩ ⟨_, ⟨hg, hl⟩, _⟩ => ⟨.mk k 2 l, ?_, ?_⟩
  ·simp only [okT]
   refine ⟨.inr trivial, by simpa [maxLen] using hl, ?_⟩
   have : ∀ l : List KT, (∀ a ∈ l, okT a) → okTs l := by
    intro l
    induction l with
    | nil => intro _; simp only [okTs]
    | cons a l ih => intro h; simp only [okTs]; exact ⟨h a (by simp), ih fun x hx => h x (by simp [hx])⟩
   exact this l hg
  ·simp only [encT,encTs_map]
   rfl
theorem readsI (n : Nat) : Reads enc Tryz.prog w n 43 (List Int) (fun l => [.sl 1 (rowsI l)]) (fun l => l.length ≤ maxLen) := by
 have h3 : Reads enc Tryz.prog w (n - 1) 3 Int (fun z => [.int .i64 z]) (fun z => (Lit.int .i64 z).wf = true) := reads_int Tryz.underlying3 (by kernel_rfl)
 have hc : Tryz.prog.cellsOf 3 = 1 := by kernel_rfl
 cases n with
 | zero => exact reads_zero
 | succ n =>
  have hsl := reads_slice (n := n) (enc := enc) (w := w) Tryz.underlying43 (by kernel_rfl) (by rw [hc]; decide) h3
  rw [hc] at hsl
  exact reads_map hsl fun l ⟨_, hl⟩ => ⟨l, hl, rfl⟩
theorem readsG : ∀ n, Reads enc Tryz.prog w n 52 GN encG GOk
 | 0 => reads_zero
 | n + 1 => by
  have hc : Tryz.prog.cellsOf 52 = 14 := by kernel_rfl
  have h3 : Reads enc Tryz.prog w n 3 Int (fun z => [.int .i64 z]) (fun z => (Lit.int .i64 z).wf = true) := reads_int Tryz.underlying3 (by kernel_rfl)
  have h4 : Reads enc Tryz.prog w n 4 Bool (fun b => [.bool b]) (fun _ => True) := reads_bool Tryz.underlying4 (by kernel_rfl)
  have h9 : Reads enc Tryz.prog w n 9 (List UInt8) (fun s => [.str s]) (fun s => s.length ≤ maxLen) := reads_str Tryz.underlying9 (by kernel_rfl)
  have hfn : Reads enc Tryz.prog w n 48 (Int × Int × Int × Int) (fun x => [.int .i64 x.1, .int .i64 x.2.1, .int .i64 x.2.2.1, .int .i64 x.2.2.2]) (fun _ => True) := by
   cases n with
   | zero => exact reads_zero
   | succ n =>
    have h3 : Reads enc Tryz.prog w n 3 Int (fun z => [.int .i64 z]) (fun z => (Lit.int .i64 z).wf = true) := reads_int Tryz.underlying3 (by kernel_rfl)
    have hc : Tryz.prog.cellsOf 48 = 4 := by kernel_rfl
    have hF := readsF_cons (f := { name := "Kind", type := 3, offset := 0, embedded := false, tag := "", pkgPath := "", byteOffset := 0 }) (L := 4) (o := 0) (o' := 1) rfl (by kernel_rfl) (by decide) h3
     (readsF_cons (f := { name := "Size", type := 3, offset := 1, embedded := false, tag := "", pkgPath := "", byteOffset := 8 }) (L := 4) (o := 1) (o' := 2) rfl (by kernel_rfl) (by decide) h3
     (readsF_cons (f := { name := "Period", type := 3, offset := 2, embedded := false, tag := "", pkgPath := "", byteOffset := 16 }) (L := 4) (o := 2) (o' := 3) rfl (by kernel_rfl) (by decide) h3
     (readsF_cons (f := { name := "Offset", type := 3, offset := 3, embedded := false, tag := "", pkgPath := "", byteOffset := 24 }) (L := 4) (o := 3) (o' := 4) rfl (by kernel_rfl) (by decide) h3 readsF_nil)))
    have hs := reads_struct (t := 48) (enc := enc) (w := w) Tryz.underlying48 (by rw [hc]; exact hF)
    exact reads_map hs fun ⟨a, b, c, d, u⟩ _ => ⟨(a, b, c, d), trivial, rfl⟩
  have htr : Reads enc Tryz.prog w n 50 (Int × Int × Int × Bool) (fun x => [.int .i64 x.1, .int .i64 x.2.1, .int .i64 x.2.2.1, .bool x.2.2.2]) (fun _ => True) := by
   cases n with
   | zero => exact reads_zero
   | succ n =>
    have h3 : Reads enc Tryz.prog w n 3 Int (fun z => [.int .i64 z]) (fun z => (Lit.int .i64 z).wf = true) := reads_int Tryz.underlying3 (by kernel_rfl)
    have h4 : Reads enc Tryz.prog w n 4 Bool (fun b => [.bool b]) (fun _ => True) := reads_bool Tryz.underlying4 (by kernel_rfl)
    have hc : Tryz.prog.cellsOf 50 = 4 := by kernel_rfl
    have hF := readsF_cons (f := { name := "Early", type := 3, offset := 0, embedded := false, tag := "", pkgPath := "", byteOffset := 0 }) (L := 4) (o := 0) (o' := 1) rfl (by kernel_rfl) (by decide) h3
     (readsF_cons (f := { name := "Late", type := 3, offset := 1, embedded := false, tag := "", pkgPath := "", byteOffset := 8 }) (L := 4) (o := 1) (o' := 2) rfl (by kernel_rfl) (by decide) h3
     (readsF_cons (f := { name := "Lateness", type := 3, offset := 2, embedded := false, tag := "", pkgPath := "", byteOffset := 16 }) (L := 4) (o := 2) (o' := 3) rfl (by kernel_rfl) (by decide) h3
     (readsF_cons (f := { name := "Accumulate", type := 4, offset := 3, embedded := false, tag := "", pkgPath := "", byteOffset := 24 }) (L := 4) (o := 3) (o' := 4) rfl (by kernel_rfl) (by decide) h4 readsF_nil)))
    have hs := reads_struct (t := 50) (enc := enc) (w := w) Tryz.underlying50 (by rw [hc]; exact hF)
    exact reads_map hs fun ⟨a, b, c, d, u⟩ _ => ⟨(a, b, c, d), trivial, rfl⟩
  have hF := readsF_cons (f := { name := "Op", type := 3, offset := 0, embedded := false, tag := "", pkgPath := "", byteOffset := 0 }) (L := 14) (o := 0) (o' := 1) rfl (by kernel_rfl) (by decide) h3
   (readsF_cons (f := { name := "In", type := 43, offset := 1, embedded := false, tag := "", pkgPath := "", byteOffset := 8 }) (L := 14) (o := 1) (o' := 2) rfl (by kernel_rfl) (by decide) (readsI n)
   (readsF_cons (f := { name := "Side", type := 43, offset := 2, embedded := false, tag := "", pkgPath := "", byteOffset := 32 }) (L := 14) (o := 2) (o' := 3) rfl (by kernel_rfl) (by decide) (readsI n)
   (readsF_cons (f := { name := "Text", type := 9, offset := 3, embedded := false, tag := "", pkgPath := "", byteOffset := 56 }) (L := 14) (o := 3) (o' := 4) rfl (by kernel_rfl) (by decide) h9
   (readsF_cons (f := { name := "Type", type := 46, offset := 4, embedded := false, tag := "", pkgPath := "", byteOffset := 72 }) (L := 14) (o := 4) (o' := 6) rfl (by kernel_rfl) (by decide) (readsT n).1
   (readsF_cons (f := { name := "Fn", type := 48, offset := 6, embedded := false, tag := "", pkgPath := "", byteOffset := 104 }) (L := 14) (o := 6) (o' := 10) rfl (by kernel_rfl) (by decide) hfn
   (readsF_cons (f := { name := "Trig", type := 50, offset := 10, embedded := false, tag := "", pkgPath := "", byteOffset := 136 }) (L := 14) (o := 10) (o' := 14) rfl (by kernel_rfl) (by decide) htr readsF_nil))))))
  have hs := reads_struct (t := 52) (enc := enc) (w := w) Tryz.underlying52 (by rw [hc]; exact hF)
  refine reads_map hs fun ⟨op, ins, side, txt, ty, ⟨fk, fs, fp, fo⟩, ⟨te, tl, tt, acc⟩, u⟩ ⟨_, hi, hs, hx, hty, _, _, _⟩ => ⟨⟨op, ins, 1, side, 1, txt, ty, fk, fs, fp, fo, te, tl, tt, acc⟩, ?_, ?_⟩
  ·exact ⟨hty, .inr rfl, .inr rfl, by simpa [maxLen] using hi, by simpa [maxLen] using hs, by simpa [maxLen] using hx⟩
  ·obtain ⟨k, s, a⟩ := ty
   simp only [encG,encT,KT.k,KT.s,KT.args]
   rfl
theorem readsGs : ∀ n, Reads enc Tryz.prog w n 29 (List GN) (fun l => [.sl 14 (l.map encG)]) (fun l => (∀ g ∈ l, GOk g) ∧ l.length ≤ maxLen)
 | 0 => reads_zero
 | n + 1 => by
  have hc : Tryz.prog.cellsOf 52 = 14 := by kernel_rfl
  have hsl := reads_slice (n := n) (enc := enc) (w := w) Tryz.underlying29 (by kernel_rfl) (by rw [hc]; decide) (readsG n)
  rw [hc] at hsl
  exact hsl
end
end Go.Abs.Seat
namespace Go.Proofs
open Go.ChangeShapes Go.RowKit
theorem err_cell {P : Program} {n nm : String} {d : DataW Unit} {r : List (String × DataW Unit)} {W : World} {g : Nat} {ti : TypeId} {ms : Array (String × TypeId)} (h : laidMet P ((n, .iface nm d) :: r) W)
  (hg : P.globalNamed n = some g) (ht : (P.globals[g]?).map (·.type) = some ti) (hi : P.underlying ti = some (.interface ms)) : ∃ t p, W.cell? ⟨g, 0, none⟩ = some (.iface t p) := by
 obtain ⟨ps, ⟨g0, t0, cs0, f0, p0, q0, hg0, ht0, hv0, hd0, _, e0⟩, _, hrows⟩ := h
 obtain rfl := Option.some.inj (hg.symm.trans hg0)
 obtain rfl := Option.some.inj (ht.symm.trans ht0)
 obtain ⟨l0⟩ := cs0
 obtain ⟨f1, u, v, e, hn, h1⟩ := iface_of_trod hi hd0
 refine ⟨u, v, ?_⟩
 rw [World.var?_cell hg0 hv0 0]
 simp only at e
 subst e
 rfl
end Go.Proofs
end
