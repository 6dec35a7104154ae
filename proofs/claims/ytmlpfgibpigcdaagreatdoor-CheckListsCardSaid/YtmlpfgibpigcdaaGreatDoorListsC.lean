/- Part 3 of what the claim rests on. -/
import Derived.Test.YtmlpfgibpigcdaaGreatDoorListsA
import Derived.Test.YtmlpfgibpigcdaaGreatDoorListsB
section
set_option linter.unusedVariables false
set_option linter.unusedSimpArgs false
namespace Go.Abs
section
variable {n : Nat} {H0 : Heap}
theorem ccE_sh (hn : n = H0.length) {ok : TypeId × Nat → Bool} {args : List AV} {H : Heap} {v : AV} {H' : Heap} (h : ccE ok args H = some (v, H')) : ccE ok (args.map (sh n)) (H0 ++ shH n H) = some (sh n v, H0 ++ shH n H') := by
 unfold ccE at h
 split at h
 ·rename_i _ _ id
  simp only [List.map_cons,List.map_nil,sh,ccE,shH_get hn]
  split at h
  ·rename_i ty a0 rest he
   rw [he]
   simp only [Option.map_some,shO,List.map_cons,List.map_nil]
   split at h
   ·rename_i hty
    rw [if_pos hty]
    split at h
    ·simp only [Option.some.injEq,Prod.mk.injEq] at h
     obtain ⟨rfl, rfl⟩ := h
     simp only [sh]
     rw [← shH_set hn]
     rfl
    ·rename_i id'
     split at h
     ·rename_i hid
      subst hid
      simp only [Option.some.injEq,Prod.mk.injEq] at h
      obtain ⟨rfl, rfl⟩ := h
      simp only [sh,if_true]
      rfl
     ·simp at h
    ·simp at h
   ·simp at h
  ·simp at h
 ·simp at h
theorem stE_sh (hn : n = H0.length) {ok : TypeId × Nat → Bool} {tb : TypeId} {args : List AV} {H : Heap} {v : AV} {H' : Heap} (h : stE ok tb args H = some (v, H')) : stE ok tb (args.map (sh n)) (H0 ++ shH n H) = some (sh n v, H0 ++ shH n H') := by
 unfold stE at h
 split at h
 ·rename_i _ _ id
  simp only [List.map_cons,List.map_nil,sh,stE,shH_get hn]
  split at h
  ·rename_i ty a0 s es tok rest he
   rw [he]
   simp only [Option.map_some,shO,List.map_cons,List.map_nil,sh,shH_get hn]
   split at h
   ·rename_i ty' k l h1 h2
    rw [h1]
    simp only [Option.map_some,shO,h2]
    split at h
    ·rename_i hc
     rw [if_pos hc]
     simp only [Option.some.injEq,Prod.mk.injEq] at h
     obtain ⟨rfl, rfl⟩ := h
     rw [← shH_set hn]
     rfl
    ·simp at h
   ·simp at h
  ·simp at h
 ·simp at h
theorem strO_sh (hn : n = H0.length) {cc st : FuncId} {ok : TypeId × Nat → Bool} {tb : TypeId} {Ψ : Oracle} (hΨ : ShO n H0 Ψ Ψ) : ShO n H0 (strO cc st ok tb Ψ) (strO cc st ok tb Ψ) := fun f args H v H' h => by
 unfold strO at h ⊢
 split at h
 ·rename_i hf; rw [if_pos hf]; exact ccE_sh hn h
 ·rename_i hf
  rw [if_neg hf]
  split at h
  ·rename_i hg; rw [if_pos hg]; exact stE_sh hn h
  ·rename_i hg; rw [if_neg hg]; exact hΨ f args H v H' h
theorem idxO_sh {ib : FuncId} {Ψ : Oracle} (hΨ : ShO n H0 Ψ Ψ) : ShO n H0 (idxO ib Ψ) (idxO ib Ψ) := fun f args H v H' h => by
 unfold idxO at h ⊢
 split at h
 ·rename_i e
  rw [if_pos e]
  split at h
  ·simp only [Option.some.injEq,Prod.mk.injEq] at h
   obtain ⟨rfl, rfl⟩ := h
   simp only [List.map_cons,List.map_nil,sh]
  ·simp at h
 ·rename_i e
  rw [if_neg e]
  exact hΨ f args H v H' h
theorem none_sh : ShO n H0 (fun _ _ _ => none) (fun _ _ _ => none) := fun _ _ _ _ _ h => by simp at h
end
theorem lim_args {Ψ : Oracle} (hΨ : ∀ n H0, n = H0.length → ShO n H0 Ψ Ψ) {T F : FuncId → Option AFunc} (hT : ∀ f af, T f = some af → F f = some af ∧ closedC af.code = true) (hn : ∀ f, T f = none → F f = none ∨ ∀ args H, Ψ f args H = none)
  {k : Nat} {f : FuncId} {args : List AV} {r : AV} (h : runC Ψ T k f args [] = some (r, [])) (ha : ∀ n, args.map (sh n) = args) (hr : ∀ n, sh n r = r) (H : Heap) : Lim Ψ F f args H = some (r, H) := by
 have h1 := runC_le (F := T) (fun f af hf => hf) (fun f hf => .inl hf) k _ _ _ _ h
 have h2 := runF_sh (n := H.length) (H0 := H) rfl (hΨ _ _ rfl) (fun f af hf => (hT f af hf).2) k _ _ _ _ _ h1
 have h3 := runF_le (fun f af hf => (hT f af hf).1) hn k _ _ _ _ h2
 simp only [shH,List.map_nil,List.append_nil,ha,hr] at h3
 exact lim_iff.2 ⟨k, h3⟩
end Go.Abs
end
