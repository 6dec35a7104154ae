/- Part 5 of what the claim rests on. -/
import Derived.Test.YthkimdejhkpdeaaGetsA
import Derived.Test.YthkimdejhkpdeaaGetsB
import Derived.Test.YthkimdejhkpdeaaGetsC
import Derived.Test.YthkimdejhkpdeaaGetsD
section
set_option linter.unusedVariables false
set_option linter.unusedSimpArgs false
/- The abstract reading of Go code, thirtieth part: an operation does not know what lies below its heap. -/
namespace Go.Abs

def closedOpd : AOpd → Bool
  | .t _ => true
  | .c a => closedA a

/-- Does an operation hold no place in its text? -/
def closedOp (op : AOp) : Bool := (opnds op).all closedOpd && match op with
  | .alloc _ z => closedAs z
  | .build z _ => closedAs z
  | .bslice _ _ _ z _ => closedAs z
  | .mkslice _ _ z _ _ => closedAs z
  | .clear _ z _ => closedAs z
  | _ => true

section
variable {n : Nat} {H0 H : Heap}

theorem map_closed {z : List AV} (h : closedAs z = true) : z.map (sh n) = z := by
  rw [← shs_map, shs_closed h]

theorem aop_sh (hn : n = H0.length) {ρ : AOpd → AV} {op : AOp} (hc : closedOp op = true) {v : AV} {H' : Heap} (h : aop H ρ op = some (v, H')) :
    aop (H0 ++ shH n H) (fun x => sh n (ρ x)) op = some (sh n v, H0 ++ shH n H') := by
  unfold closedOp at hc
  rw [Bool.and_eq_true] at hc
  have hz := hc.2
  cases op <;> simp only [aop] at h ⊢ <;> simp only at hz
  case move x => simp only [Option.some.injEq, Prod.mk.injEq] at h; obtain ⟨rfl, rfl⟩ := h; rfl
  case pick c a b =>
    cases hcc : ρ c <;> rw [hcc] at h <;> try (simp at h; done)
    rename_i d
    cases d <;> try (simp at h; done)
    simp only [sh] at h ⊢
    split at h <;> simp_all
  case alloc ty z =>
    simp only [Option.some.injEq, Prod.mk.injEq] at h
    obtain ⟨rfl, rfl⟩ := h
    rw [shH_len hn, ← shH_app]
    simp [sh, shO, map_closed hz]
  case box ty x =>
    split at h
    · rename_i hk
      simp only [Option.some.injEq, Prod.mk.injEq] at h
      obtain ⟨rfl, rfl⟩ := h
      rw [sh_cells, all_cellOk, if_pos hk, shH_len hn, ← shH_app]
      simp [sh, shO]
    · simp at h
  case build z parts =>
    split at h
    · rename_i cs hf
      simp only [Option.some.injEq, Prod.mk.injEq] at h
      obtain ⟨rfl, rfl⟩ := h
      have := sh_fillA (n := n) hf
      rw [map_closed hz, List.map_map] at this
      have e : (parts.map fun p => (p.1, p.2.1, sh n (ρ p.2.2))) = parts.map ((fun p => (p.1, p.2.1, sh n p.2.2)) ∘ fun p => (p.1, p.2.1, ρ p.2.2)) := rfl
      rw [e, this]
      simp only [sh_mkAgg]
    · simp at h
  case bslice mu s k z parts =>
    split at h
    · rename_i es hf
      have := sh_fillE (n := n) hf
      rw [List.map_map, List.map_replicate, map_closed hz] at this
      have e : (parts.map fun p => (p.1, sh n (ρ p.2))) = parts.map ((fun p => (p.1, sh n p.2)) ∘ fun p => (p.1, ρ p.2)) := rfl
      rw [e, this]
      simp only
      split at h
      · rename_i hm
        simp only [Option.some.injEq, Prod.mk.injEq] at h
        obtain ⟨rfl, rfl⟩ := h
        rw [if_pos hm, shH_len hn, ← shH_app]
        simp [sh, shO]
      · rename_i hm
        rw [if_neg hm, sh_toDatss]
        split at h
        · rename_i ds hd
          simp only [Option.some.injEq, Prod.mk.injEq] at h
          obtain ⟨rfl, rfl⟩ := h
          first | rfl | (rw [hd]; rfl)
        · simp at h
    · simp at h
  case load k x =>
    split at h
    · rename_i u hl
      simp only [Option.some.injEq, Prod.mk.injEq] at h
      obtain ⟨rfl, rfl⟩ := h
      rw [sh_load hn hl]
    · simp at h
  case store k x v =>
    split at h
    · rename_i u hl
      simp only [Option.some.injEq, Prod.mk.injEq] at h
      obtain ⟨rfl, rfl⟩ := h
      rw [sh_store hn hl]
      rfl
    · simp at h
  case nilCheck x =>
    split at h
    all_goals first
      | (rename_i hx
         simp only [Option.some.injEq, Prod.mk.injEq] at h
         obtain ⟨rfl, rfl⟩ := h
         rw [hx]; rfl)
      | (simp at h)
  case bin op x y =>
    split at h
    · rename_i u hl
      simp only [Option.some.injEq, Prod.mk.injEq] at h
      obtain ⟨rfl, rfl⟩ := h
      rw [sh_bin hl]
    · simp at h
  case binB op x y =>
    split at h
    · rename_i u hl
      simp only [Option.some.injEq, Prod.mk.injEq] at h
      obtain ⟨rfl, rfl⟩ := h
      rw [sh_bool hl]
    · simp at h
  case un op x =>
    split at h
    · rename_i u hl
      simp only [Option.some.injEq, Prod.mk.injEq] at h
      obtain ⟨rfl, rfl⟩ := h
      rw [sh_un hl]
    · simp at h
  case min x y =>
    split at h
    · rename_i u hl
      simp only [Option.some.injEq, Prod.mk.injEq] at h
      obtain ⟨rfl, rfl⟩ := h
      rw [sh_min hl]
    · simp at h
  case max x y =>
    split at h
    · rename_i u hl
      simp only [Option.some.injEq, Prod.mk.injEq] at h
      obtain ⟨rfl, rfl⟩ := h
      rw [sh_max hl]
    · simp at h
  case lenSl x =>
    split at h
    · rename_i u hl
      simp only [Option.some.injEq, Prod.mk.injEq] at h
      obtain ⟨rfl, rfl⟩ := h
      rw [sh_len, hl]; rfl
    · simp at h
  case mkfunc f cap =>
    simp only [Option.some.injEq, Prod.mk.injEq] at h
    obtain ⟨rfl, rfl⟩ := h
    simp [sh, shs_map]
  case append ty bytes s x y =>
    split at h
    · rename_i ys hl
      rw [sh_elems hn hl]
      exact sh_append hn h
    · simp at h
  case field off k x =>
    split at h
    · rename_i cs hl
      rw [sh_aggCells hl]
      simp only
      split at h
      · rename_i u hp
        simp only [Option.some.injEq, Prod.mk.injEq] at h
        obtain ⟨rfl, rfl⟩ := h
        rw [sh_part hp]
      · simp at h
    · simp at h
  case elemArr len size k x i =>
    split at h
    · rename_i cs hl
      rw [sh_aggCells hl, sh_idx]
      simp only
      split at h
      · rename_i m hm
        try rw [hm]
        try simp only
        split at h
        · rename_i u hp
          simp only [Option.some.injEq, Prod.mk.injEq] at h
          obtain ⟨rfl, rfl⟩ := h
          rw [sh_part hp]
        · simp at h
      · simp at h
    · simp at h
  case extract i x =>
    split at h
    · rename_i cs hx
      split at h
      · rename_i u hu
        simp only [Option.some.injEq, Prod.mk.injEq] at h
        obtain ⟨rfl, rfl⟩ := h
        rw [hx]
        simp only [sh, shs_map, List.getElem?_map, hu, Option.map_some]
      · simp at h
    · simp at h
  case slice s x lo hi mx =>
    have e : (fun m => boundA (fun x => sh n (ρ x)) m hi) = fun m => boundA ρ m hi := funext fun m => sh_bound m hi
    rw [sh_bound, e]
    cases mx with
    | none =>
      simp only at h ⊢
      split at h
      · split at h
        · rename_i u hu
          simp only [Option.some.injEq, Prod.mk.injEq] at h
          obtain ⟨rfl, rfl⟩ := h
          try simp only [*]
          rw [sh_slice hu]
        · simp at h
      · simp at h
    | some m =>
      simp only [sh_bound] at h ⊢
      split at h
      · split at h
        · rename_i u hu
          simp only [Option.some.injEq, Prod.mk.injEq] at h
          obtain ⟨rfl, rfl⟩ := h
          try simp only [*]
          rw [sh_slice hu]
        · simp at h
      · simp at h
  case mkslice bytes s z l c =>
    rw [sh_int, sh_int]
    split at h
    · rename_i a b ha hb
      try rw [ha, hb]
      try simp only
      split at h
      · rename_i hk
        simp only [Option.some.injEq, Prod.mk.injEq] at h
        obtain ⟨rfl, rfl⟩ := h
        rw [if_pos hk, shH_len hn, ← shH_app]
        simp [sh, shO, map_closed hz]
      · simp at h
    · simp at h
  case clear s z x =>
    cases hx : ρ x <;> rw [hx] at h <;> try (simp at h; done)
    · rename_i d
      cases d <;> try (simp at h; done)
      rename_i s' es
      cases es <;> simp at h
      obtain ⟨rfl, rfl⟩ := h
      simp only [sh]
      rfl
    · simp only [Option.some.injEq, Prod.mk.injEq] at h
      obtain ⟨rfl, rfl⟩ := h
      simp only [sh]
      rfl
    · rename_i s' id off k
      simp only [sh, shH_get hn] at h ⊢
      split at h
      · rename_i hs
        rw [if_pos hs]
        split at h
        · rename_i ty es he
          rw [he]
          simp only [Option.map_some, shO, List.length_map]
          split at h
          · rename_i hk
            simp only [Option.some.injEq, Prod.mk.injEq] at h
            obtain ⟨rfl, rfl⟩ := h
            rw [if_pos hk, ← shH_set hn]
            simp [shO, sh, undefA, shs, List.map_take, List.map_drop, map_closed hz]
          · simp at h
        · simp at h
      · simp at h
  case fieldAddr off x =>
    split at h
    all_goals first
      | (rename_i hx
         simp only [Option.some.injEq, Prod.mk.injEq] at h
         obtain ⟨rfl, rfl⟩ := h
         rw [hx]; rfl)
      | (simp at h)
  case indexSl s x i =>
    cases hx : ρ x <;> rw [hx] at h <;> try (simp at h; done)
    · rename_i d
      cases d <;> try (simp at h; done)
      simp only [sh, sh_idx] at h ⊢
      repeat' (split at h)
      all_goals first
        | (simp at h; done)
        | (simp only [Option.some.injEq, Prod.mk.injEq] at h
           obtain ⟨rfl, rfl⟩ := h
           simp_all [sh])
    · simp only [sh, sh_idx] at h ⊢
      repeat' (split at h)
      all_goals first
        | (simp at h; done)
        | (simp only [Option.some.injEq, Prod.mk.injEq] at h
           obtain ⟨rfl, rfl⟩ := h
           simp_all [sh])
    · simp only [sh, sh_idx] at h ⊢
      repeat' (split at h)
      all_goals first
        | (simp at h; done)
        | (simp only [Option.some.injEq, Prod.mk.injEq] at h
           obtain ⟨rfl, rfl⟩ := h
           simp_all [sh])
  case indexArr len size x i =>
    split at h
    · rename_i id p j hx
      split at h
      · rename_i m hm
        simp only [Option.some.injEq, Prod.mk.injEq] at h
        obtain ⟨rfl, rfl⟩ := h
        rw [hx]
        simp only [sh, sh_idx, hm]
      · simp at h
    · rename_i cs hx
      split at h
      · rename_i m hm
        simp only [Option.some.injEq, Prod.mk.injEq] at h
        obtain ⟨rfl, rfl⟩ := h
        rw [hx]
        simp only [sh, sh_idx, hm]
      · simp at h
    · simp at h
  case indexStr x i =>
    cases hx : ρ x <;> rw [hx] at h <;> try (simp at h; done)
    all_goals
      first
      | (rename_i d
         cases d <;> try (simp at h; done)
         simp only [sh, sh_idx, sh_int, sh_bound] at h ⊢
         repeat' (split at h)
         all_goals first
           | (simp at h; done)
           | (simp only [Option.some.injEq, Prod.mk.injEq] at h
              obtain ⟨rfl, rfl⟩ := h
              simp_all [sh]))
      | (simp only [sh, sh_idx, sh_int, sh_bound] at h ⊢
         repeat' (split at h)
         all_goals first
           | (simp at h; done)
           | (simp only [Option.some.injEq, Prod.mk.injEq] at h
              obtain ⟨rfl, rfl⟩ := h
              simp_all [sh]))
  case i2i k x =>
    cases hx : ρ x <;> rw [hx] at h <;> try (simp at h; done)
    all_goals
      first
      | (rename_i d
         cases d <;> try (simp at h; done)
         simp only [sh, sh_idx, sh_int, sh_bound] at h ⊢
         repeat' (split at h)
         all_goals first
           | (simp at h; done)
           | (simp only [Option.some.injEq, Prod.mk.injEq] at h
              obtain ⟨rfl, rfl⟩ := h
              simp_all [sh]))
      | (simp only [sh, sh_idx, sh_int, sh_bound] at h ⊢
         repeat' (split at h)
         all_goals first
           | (simp at h; done)
           | (simp only [Option.some.injEq, Prod.mk.injEq] at h
              obtain ⟨rfl, rfl⟩ := h
              simp_all [sh]))
  case i2f k x =>
    cases hx : ρ x <;> rw [hx] at h <;> try (simp at h; done)
    all_goals
      first
      | (rename_i d
         cases d <;> try (simp at h; done)
         simp only [sh, sh_idx, sh_int, sh_bound] at h ⊢
         repeat' (split at h)
         all_goals first
           | (simp at h; done)
           | (simp only [Option.some.injEq, Prod.mk.injEq] at h
              obtain ⟨rfl, rfl⟩ := h
              simp_all [sh]))
      | (simp only [sh, sh_idx, sh_int, sh_bound] at h ⊢
         repeat' (split at h)
         all_goals first
           | (simp at h; done)
           | (simp only [Option.some.injEq, Prod.mk.injEq] at h
              obtain ⟨rfl, rfl⟩ := h
              simp_all [sh]))
  case f2i k x =>
    cases hx : ρ x <;> rw [hx] at h <;> try (simp at h; done)
    all_goals
      first
      | (rename_i d
         cases d <;> try (simp at h; done)
         simp only [sh, sh_idx, sh_int, sh_bound] at h ⊢
         repeat' (split at h)
         all_goals first
           | (simp at h; done)
           | (simp only [Option.some.injEq, Prod.mk.injEq] at h
              obtain ⟨rfl, rfl⟩ := h
              simp_all [sh]))
      | (simp only [sh, sh_idx, sh_int, sh_bound] at h ⊢
         repeat' (split at h)
         all_goals first
           | (simp at h; done)
           | (simp only [Option.some.injEq, Prod.mk.injEq] at h
              obtain ⟨rfl, rfl⟩ := h
              simp_all [sh]))
  case s2b x =>
    cases hx : ρ x <;> rw [hx] at h <;> try (simp at h; done)
    all_goals
      first
      | (rename_i d
         cases d <;> try (simp at h; done)
         simp only [sh, sh_idx, sh_int, sh_bound] at h ⊢
         repeat' (split at h)
         all_goals first
           | (simp at h; done)
           | (simp only [Option.some.injEq, Prod.mk.injEq] at h
              obtain ⟨rfl, rfl⟩ := h
              simp_all [sh]))
      | (simp only [sh, sh_idx, sh_int, sh_bound] at h ⊢
         repeat' (split at h)
         all_goals first
           | (simp at h; done)
           | (simp only [Option.some.injEq, Prod.mk.injEq] at h
              obtain ⟨rfl, rfl⟩ := h
              simp_all [sh]))
  case b2s x =>
    cases hx : ρ x <;> rw [hx] at h <;> try (simp at h; done)
    all_goals
      first
      | (rename_i d
         cases d <;> try (simp at h; done)
         simp only [sh, sh_idx, sh_int, sh_bound] at h ⊢
         repeat' (split at h)
         all_goals first
           | (simp at h; done)
           | (simp only [Option.some.injEq, Prod.mk.injEq] at h
              obtain ⟨rfl, rfl⟩ := h
              simp_all [sh]))
      | (simp only [sh, sh_idx, sh_int, sh_bound] at h ⊢
         repeat' (split at h)
         all_goals first
           | (simp at h; done)
           | (simp only [Option.some.injEq, Prod.mk.injEq] at h
              obtain ⟨rfl, rfl⟩ := h
              simp_all [sh]))
  case strId x =>
    cases hx : ρ x <;> rw [hx] at h <;> try (simp at h; done)
    all_goals
      first
      | (rename_i d
         cases d <;> try (simp at h; done)
         simp only [sh, sh_idx, sh_int, sh_bound] at h ⊢
         repeat' (split at h)
         all_goals first
           | (simp at h; done)
           | (simp only [Option.some.injEq, Prod.mk.injEq] at h
              obtain ⟨rfl, rfl⟩ := h
              simp_all [sh]))
      | (simp only [sh, sh_idx, sh_int, sh_bound] at h ⊢
         repeat' (split at h)
         all_goals first
           | (simp at h; done)
           | (simp only [Option.some.injEq, Prod.mk.injEq] at h
              obtain ⟨rfl, rfl⟩ := h
              simp_all [sh]))
  case sliceStr x lo hi =>
    cases hx : ρ x <;> rw [hx] at h <;> try (simp at h; done)
    all_goals
      first
      | (rename_i d
         cases d <;> try (simp at h; done)
         simp only [sh, sh_idx, sh_int, sh_bound] at h ⊢
         repeat' (split at h)
         all_goals first
           | (simp at h; done)
           | (simp only [Option.some.injEq, Prod.mk.injEq] at h
              obtain ⟨rfl, rfl⟩ := h
              simp_all [sh]))
      | (simp only [sh, sh_idx, sh_int, sh_bound] at h ⊢
         repeat' (split at h)
         all_goals first
           | (simp at h; done)
           | (simp only [Option.some.injEq, Prod.mk.injEq] at h
              obtain ⟨rfl, rfl⟩ := h
              simp_all [sh]))
  case lenStr x =>
    cases hx : ρ x <;> rw [hx] at h <;> try (simp at h; done)
    all_goals
      first
      | (rename_i d
         cases d <;> try (simp at h; done)
         simp only [sh, sh_idx, sh_int, sh_bound] at h ⊢
         repeat' (split at h)
         all_goals first
           | (simp at h; done)
           | (simp only [Option.some.injEq, Prod.mk.injEq] at h
              obtain ⟨rfl, rfl⟩ := h
              simp_all [sh]))
      | (simp only [sh, sh_idx, sh_int, sh_bound] at h ⊢
         repeat' (split at h)
         all_goals first
           | (simp at h; done)
           | (simp only [Option.some.injEq, Prod.mk.injEq] at h
              obtain ⟨rfl, rfl⟩ := h
              simp_all [sh]))
  case real x =>
    cases hx : ρ x <;> rw [hx] at h <;> try (simp at h; done)
    all_goals
      first
      | (rename_i d
         cases d <;> try (simp at h; done)
         simp only [sh, sh_idx, sh_int, sh_bound] at h ⊢
         repeat' (split at h)
         all_goals first
           | (simp at h; done)
           | (simp only [Option.some.injEq, Prod.mk.injEq] at h
              obtain ⟨rfl, rfl⟩ := h
              simp_all [sh]))
      | (simp only [sh, sh_idx, sh_int, sh_bound] at h ⊢
         repeat' (split at h)
         all_goals first
           | (simp at h; done)
           | (simp only [Option.some.injEq, Prod.mk.injEq] at h
              obtain ⟨rfl, rfl⟩ := h
              simp_all [sh]))
  case imag x =>
    cases hx : ρ x <;> rw [hx] at h <;> try (simp at h; done)
    all_goals
      first
      | (rename_i d
         cases d <;> try (simp at h; done)
         simp only [sh, sh_idx, sh_int, sh_bound] at h ⊢
         repeat' (split at h)
         all_goals first
           | (simp at h; done)
           | (simp only [Option.some.injEq, Prod.mk.injEq] at h
              obtain ⟨rfl, rfl⟩ := h
              simp_all [sh]))
      | (simp only [sh, sh_idx, sh_int, sh_bound] at h ⊢
         repeat' (split at h)
         all_goals first
           | (simp at h; done)
           | (simp only [Option.some.injEq, Prod.mk.injEq] at h
              obtain ⟨rfl, rfl⟩ := h
              simp_all [sh]))
  case complex x y =>
    split at h
    · rename_i hx hy
      rw [hx, hy]
      simp only [sh]
      split at h
      · simp only [Option.some.injEq, Prod.mk.injEq] at h
        obtain ⟨rfl, rfl⟩ := h
        simp_all [sh]
      · simp at h
    · simp at h
  all_goals simp at h

end
end Go.Abs
end
section
set_option linter.unusedVariables false
set_option linter.unusedSimpArgs false
/- The abstract reading of Go code, thirty-first part: code does not know what lies below its heap. -/
namespace Go.Abs

section
variable {n : Nat} {H0 : Heap}

theorem sh_load_eq (hn : n = H0.length) {H : Heap} {k : Option Nat} {a : AV} : loadAt (H0 ++ shH n H) k (sh n a) = (loadAt H k a).map (sh n) := by
  cases h : loadAt H k a with
  | some v => rw [sh_load hn h]; rfl
  | none =>
    rw [Option.map_none]
    cases a with
    | im d =>
      have : loadAt (H0 ++ shH n H) k (.im d) = loadAt H k (.im d) := by cases d <;> rfl
      simp only [sh]
      rw [this]; exact h
    | ptr id i j =>
      simp only [sh, loadAt, shH_get hn] at h ⊢
      cases hid : H[id]? with
      | none => rfl
      | some o =>
        rw [hid] at h
        cases o with
        | hw t m => rfl
        | obj ty es =>
          simp only [Option.map_some, shO, List.getElem?_map] at h ⊢
          cases he : es[i]? with
          | none => rfl
          | some e =>
            rw [he] at h
            simp only [Option.map_some] at h ⊢
            cases k with
            | none =>
              simp only at h ⊢
              rw [List.getElem?_map, h]; rfl
            | some m =>
              simp only [List.length_map] at h ⊢
              split at h
              · simp at h
              · rename_i hk
                rw [if_neg hk]
    | nils => rfl
    | asl s es t => rfl
    | ms s id o m => rfl
    | agg cs => rfl
    | tup cs => rfl
    | clo f cs => rfl
    | any => rfl

theorem ev_sh {tm : List AV} {x : AOpd} (h : closedOpd x = true) : ev (tm.map (sh n)) x = sh n (ev tm x) := by
  cases x with
  | t k =>
    simp only [ev, List.getD_eq_getElem?_getD, List.getElem?_map]
    cases tm[k]? with
    | none => simp [undefA, sh, shs]
    | some a => rfl
  | c a => simp only [ev]; exact (sh_closed h).symm

theorem wanted_sh {tm : List AV} (g : Option (Nat × Bool)) : wantedA (tm.map (sh n)) g = wantedA tm g := by
  cases g with
  | none => rfl
  | some p =>
    obtain ⟨d, b⟩ := p
    simp only [wantedA, List.getElem?_map]
    cases tm[d]? with
    | none => rfl
    | some a =>
      simp only [Option.map_some]
      cases a with
      | tup cs => cases cs <;> rfl
      | im d => rfl
      | nils => rfl
      | asl s es t => rfl
      | ms s id o m => rfl
      | agg cs => rfl
      | ptr i j k => rfl
      | clo f cs => rfl
      | any => rfl

theorem put_sh (tm : List AV) (d : Option Nat) (v : AV) : putA (tm.map (sh n)) d (sh n v) = (putA tm d v).map (sh n) := by
  cases d with
  | none => rfl
  | some d => simp only [putA, List.map_set]

/-- One oracle's answers, moved up, are the other one's. -/
def ShO (n : Nat) (H0 : Heap) (Φ Φ' : Oracle) : Prop := ∀ f args H v H', Φ f args H = some (v, H') → Φ' f (args.map (sh n)) (H0 ++ shH n H) = some (sh n v, H0 ++ shH n H')

theorem aopc_sh (hn : n = H0.length) {Φ Φ' : Oracle} (hΦ : ShO n H0 Φ Φ') {H : Heap} {tm : List AV} {op : AOp} (hc : closedOp op = true) {v : AV} {H' : Heap} (h : aopc Φ H tm op = some (v, H')) :
    aopc Φ' (H0 ++ shH n H) (tm.map (sh n)) op = some (sh n v, H0 ++ shH n H') := by
  have hop : ∀ x ∈ opnds op, closedOpd x = true := by
    unfold closedOp at hc
    rw [Bool.and_eq_true] at hc
    exact fun x hx => List.all_eq_true.1 hc.1 x hx
  by_cases hcall : ∃ f args, op = .call f args
  · obtain ⟨f, args, rfl⟩ := hcall
    simp only [aopc] at h ⊢
    have hf := ev_sh (n := n) (tm := tm) (hop f (by simp [opnds]))
    have ha : args.map (ev (tm.map (sh n))) = (args.map (ev tm)).map (sh n) := by
      rw [List.map_map]
      exact List.map_congr_left fun x hx => ev_sh (hop x (by simp [opnds, hx]))
    rw [hf]
    split at h
    · rename_i g cap hg
      rw [hg]
      simp only [sh, shs_map]
      rw [ha, ← List.map_append]
      exact hΦ _ _ _ _ _ h
    · simp at h
  · have e1 : ∀ Φ H tm, aopc Φ H tm op = aop H (ev tm) op := by
      intro Φ H tm
      cases op <;> first | rfl | (exact absurd ⟨_, _, rfl⟩ hcall)
    rw [e1] at h ⊢
    rw [aop_congr (ρ' := fun x => sh n (ev tm x)) _ (fun x hx => ev_sh (hop x hx))]
    exact aop_sh hn hc h

def closedOps (l : List AOper) : Bool := l.all fun o => closedOp o.op

def s2 (n : Nat) (H0 : Heap) (p : List AV × Heap) : List AV × Heap := (p.1.map (sh n), H0 ++ shH n p.2)

theorem xops_sh (hn : n = H0.length) {Φ Φ' : Oracle} (hΦ : ShO n H0 Φ Φ') {R : Type} {K : List (List AV × Heap) → List AV → Heap → Option R} {x : R} :
    ∀ {l : List AOper} {tr : List (List AV × Heap)} {tm : List AV} {H : Heap}, closedOps l = true → xops Φ l tr tm H K = some x →
    ∃ tr' tm' H', K tr' tm' H' = some x ∧ ∀ {R' : Type} (K' : List (List AV × Heap) → List AV → Heap → Option R'), xops Φ' l (tr.map (s2 n H0)) (tm.map (sh n)) (H0 ++ shH n H) K' = K' (tr'.map (s2 n H0)) (tm'.map (sh n)) (H0 ++ shH n H')
  | [], tr, tm, H, _, h => by
    simp only [xops] at h
    exact ⟨tr, tm, H, h, fun K' => by simp only [xops]⟩
  | o :: l, tr, tm, H, hc, h => by
    simp only [closedOps, List.all_cons, Bool.and_eq_true] at hc
    simp only [xops] at h
    split at h
    · rename_i hw
      split at h
      · rename_i v H1 hv
        obtain ⟨tr', tm', H', h1, h2⟩ := xops_sh hn hΦ hc.2 h
        refine ⟨tr', tm', H', h1, fun K' => ?_⟩
        simp only [xops, wanted_sh, hw, aopc_sh hn hΦ hc.1 hv, put_sh]
        exact h2 K'
      · simp at h
    · rename_i hw
      obtain ⟨tr', tm', H', h1, h2⟩ := xops_sh hn hΦ hc.2 h
      refine ⟨tr', tm', H', h1, fun K' => ?_⟩
      have hu : sh n undefA = undefA := rfl
      simp only [xops, wanted_sh, hw]
      rw [← hu, put_sh]
      exact h2 K'
    · simp at h

theorem stays_sh (hn : n = H0.length) {l : List AOper} (hc : closedOps l = true) {sts : List (List AV × Heap)} {p : Nat × Nat} (h : stays l sts p) : stays l (sts.map (s2 n H0)) p := by
  unfold stays at h ⊢
  simp only [List.getElem?_map]
  split at h
  · rename_i o s a b h1 h2 h3 h4
    simp only [h1, h2, h3, h4, Option.map_some, s2, wanted_sh]
    rcases h with h | h
    · exact .inl h
    · right
      split at h
      · rename_i k x hl
        have hx : closedOpd x = true := by
          have ho := List.all_eq_true.1 hc o (List.mem_of_getElem? h1)
          unfold closedOp at ho
          rw [Bool.and_eq_true] at ho
          refine List.all_eq_true.1 ho.1 x ?_
          cases hop : o.op <;> rw [hop] at hl <;> simp [loadOf] at hl
          simp [opnds, hl.2]
        first | rw [ev_sh hx, sh_load_eq hn, sh_load_eq hn, h] | (rw [hl]; simp only; rw [ev_sh hx, sh_load_eq hn, sh_load_eq hn, h])
      · exact h.elim
  · exact h.elim

theorem xreg_sh (hn : n = H0.length) {Φ Φ' : Oracle} (hΦ : ShO n H0 Φ Φ') {R : Type} {K : List AV → Heap → Option R} {x : R} {l : List AOper} {ps : List (Nat × Nat)} {tm : List AV} {H : Heap} (hc : closedOps l = true) (h : xreg Φ l ps tm H K = some x) :
    ∃ tm' H', K tm' H' = some x ∧ ∀ {R' : Type} (K' : List AV → Heap → Option R'), xreg Φ' l ps (tm.map (sh n)) (H0 ++ shH n H) K' = K' (tm'.map (sh n)) (H0 ++ shH n H') := by
  unfold xreg at h
  split at h
  · obtain ⟨tr', tm', H', h1, h2⟩ := xops_sh hn hΦ hc h
    exact ⟨tm', H', h1, fun K' => by simp only [xreg]; exact h2 _⟩
  · rename_i p ps
    obtain ⟨tr', tm', H', h1, h2⟩ := xops_sh hn hΦ hc h
    split at h1
    · rename_i hall
      refine ⟨tm', H', h1, fun K' => ?_⟩
      simp only [xreg]
      refine (h2 _).trans ?_
      rw [if_pos]
      intro q hq
      have h3 := stays_sh hn hc (hall q hq)
      rw [List.map_reverse, List.map_cons] at h3
      exact h3
    · simp at h1

end
end Go.Abs
end
section
set_option linter.unusedVariables false
set_option linter.unusedSimpArgs false
/- The abstract reading of Go code, thirty-second part: calls do not know what lies below their heap. -/
namespace Go.Abs

def closedC : ACode → Bool
  | .skip => true
  | .ops l _ => closedOps l
  | .seq a b => closedC a && closedC b
  | .cond c a b => closedOpd c && closedC a && closedC b
  | .block _ a => closedC a
  | .loop a => closedC a
  | .exit _ => true
  | .scope a b => closedC a && closedC b
  | .label _ => true
  | .goto _ => true
  | .ret => true
  | .bad => true

theorem find_closed : ∀ {a r : ACode} {l : Nat}, closedC a = true → findA a l = some r → closedC r = true
  | .seq a b, r, l, hc, h => by
    simp only [closedC, Bool.and_eq_true] at hc
    simp only [findA] at h
    split at h
    · rename_i rest hr
      injection h with h; subst h
      simp only [closedC, Bool.and_eq_true]
      exact ⟨find_closed hc.1 hr, hc.2⟩
    · exact find_closed hc.2 h
  | .label _, r, l, hc, h => by
    simp only [findA] at h
    split at h
    · injection h with h; subst h; rfl
    · simp at h
  | .skip, r, l, hc, h => by simp [findA] at h
  | .ops _ _, r, l, hc, h => by simp [findA] at h
  | .cond _ _ _, r, l, hc, h => by simp [findA] at h
  | .block _ _, r, l, hc, h => by simp [findA] at h
  | .loop _, r, l, hc, h => by simp [findA] at h
  | .exit _, r, l, hc, h => by simp [findA] at h
  | .scope _ _, r, l, hc, h => by simp [findA] at h
  | .goto _, r, l, hc, h => by simp [findA] at h
  | .ret, r, l, hc, h => by simp [findA] at h
  | .bad, r, l, hc, h => by simp [findA] at h

section
variable {n : Nat} {H0 : Heap}

def shOut (n : Nat) (H0 : Heap) (o : Out) : Out := (o.1, o.2.1.map (sh n), H0 ++ shH n o.2.2)

theorem execF_sh (hn : n = H0.length) {Φ Φ' : Oracle} (hΦ : ShO n H0 Φ Φ') : ∀ {k : Nat} {c : ACode} {tm : List AV} {H : Heap} {o : Out}, closedC c = true → execF Φ k c tm H = some o → execF Φ' k c (tm.map (sh n)) (H0 ++ shH n H) = some (shOut n H0 o)
  | 0, _, _, _, _, _, h => by simp [execF] at h
  | k + 1, c, tm, H, o, hc, h => by
    have ih : ∀ {c : ACode} {tm : List AV} {H : Heap} {o : Out}, closedC c = true → execF Φ k c tm H = some o → execF Φ' k c (tm.map (sh n)) (H0 ++ shH n H) = some (shOut n H0 o) := fun hc h => execF_sh hn hΦ hc h
    cases c <;> simp only [execF] at h ⊢ <;> simp only [closedC, Bool.and_eq_true] at hc
    case ops l ps =>
      obtain ⟨tm', H', h1, h2⟩ := xreg_sh hn hΦ hc h
      injection h1 with h1
      subst h1
      exact h2 _
    case seq a b =>
      cases ha : execF Φ k a tm H with
      | none => rw [ha] at h; simp at h
      | some o1 =>
        rw [ha] at h
        rw [ih hc.1 ha]
        obtain ⟨e, tm1, H1⟩ := o1
        cases e with
        | normal => exact ih hc.2 h
        | exit i => injection h with h; subst h; rfl
        | goto l => injection h with h; subst h; rfl
        | ret => injection h with h; subst h; rfl
    case cond x a b =>
      rw [ev_sh hc.1.1]
      split at h
      · rename_i t ht
        rw [ht]
        simp only [sh]
        split at h
        · rename_i htt; rw [if_pos htt]; exact ih hc.1.2 h
        · rename_i htt; rw [if_neg htt]; exact ih hc.2 h
      · simp at h
    case block id a =>
      cases ha : execF Φ k a tm H with
      | none => rw [ha] at h; simp at h
      | some o1 =>
        rw [ha] at h
        rw [ih hc ha]
        obtain ⟨e, tm1, H1⟩ := o1
        cases e with
        | exit i =>
          simp only [shOut] at h ⊢
          split at h
          · rename_i hi; rw [if_pos hi]; injection h with h; subst h; rfl
          · rename_i hi; rw [if_neg hi]; injection h with h; subst h; rfl
        | normal => injection h with h; subst h; rfl
        | goto l => injection h with h; subst h; rfl
        | ret => injection h with h; subst h; rfl
    case loop a =>
      cases ha : execF Φ k a tm H with
      | none => rw [ha] at h; simp at h
      | some o1 =>
        rw [ha] at h
        rw [ih hc ha]
        obtain ⟨e, tm1, H1⟩ := o1
        cases e with
        | normal => exact ih (c := .loop a) (by simpa only [closedC] using hc) h
        | exit i => injection h with h; subst h; rfl
        | goto l => injection h with h; subst h; rfl
        | ret => injection h with h; subst h; rfl
    case scope body cur =>
      cases ha : execF Φ k cur tm H with
      | none => rw [ha] at h; simp at h
      | some o1 =>
        rw [ha] at h
        rw [ih hc.2 ha]
        obtain ⟨e, tm1, H1⟩ := o1
        cases e with
        | goto l =>
          simp only [shOut] at h ⊢
          cases hf : findA body l with
          | none => rw [hf] at h; simp at h
          | some r =>
            rw [hf] at h
            exact ih (c := .scope body r) (by simp only [closedC, Bool.and_eq_true]; exact ⟨hc.1, find_closed hc.1 hf⟩) h
        | normal => injection h with h; subst h; rfl
        | exit i => injection h with h; subst h; rfl
        | ret => injection h with h; subst h; rfl
    case bad => simp at h
    all_goals
      injection h with h; subst h; rfl

mutual
theorem sh_inj : ∀ {a b : AV}, sh n a = sh n b → a = b
  | .im d, b, h => by cases b <;> simp [sh] at h; rw [h]
  | .nils, b, h => by cases b <;> simp [sh] at h; rfl
  | .asl s es t, b, h => by cases b <;> simp [sh] at h; rw [h.1, h.2.1, h.2.2]
  | .ms s i o k, b, h => by cases b <;> simp [sh] at h; rw [h.1, h.2.1, h.2.2.1, h.2.2.2]
  | .ptr i j k, b, h => by cases b <;> simp [sh] at h; rw [h.1, h.2.1, h.2.2]
  | .agg cs, b, h => by
    cases b <;> simp [sh] at h
    rw [shs_inj h]
  | .tup cs, b, h => by
    cases b <;> simp [sh] at h
    rw [shs_inj h]
  | .clo f cs, b, h => by
    cases b <;> simp [sh] at h
    rw [h.1, shs_inj h.2]
  | .any, b, h => by cases b <;> simp [sh] at h; rfl
theorem shs_inj : ∀ {a b : List AV}, shs n a = shs n b → a = b
  | [], b, h => by cases b <;> simp [shs] at h; rfl
  | a :: l, b, h => by
    cases b <;> simp [shs] at h
    rw [sh_inj h.1, shs_inj h.2]
end

theorem map_inj {α β : Type} {f : α → β} (hf : ∀ {a b}, f a = f b → a = b) : ∀ {l m : List α}, l.map f = m.map f → l = m
  | [], m, h => by cases m <;> simp at h; rfl
  | a :: l, m, h => by
    cases m <;> simp at h
    rw [hf h.1, map_inj hf h.2]

theorem shO_inj {a b : HO} (h : shO n a = shO n b) : a = b := by
  cases a <;> cases b <;> simp [shO] at h
  · rw [h.1, map_inj (fun {x y} hxy => map_inj (fun {u v} huv => sh_inj huv) hxy) h.2]
  · rw [h.1, h.2]

mutual
theorem refs_sh (m : Nat) : ∀ a : AV, refsLt (n + m) (sh n a) = refsLt m a
  | .im _ => rfl
  | .nils => rfl
  | .asl s es t => by simp [sh, refsLt]
  | .ms s i o k => by simp [sh, refsLt]
  | .ptr i j k => by simp [sh, refsLt]
  | .agg cs => by simp only [sh, refsLt, refss_sh m cs]
  | .tup cs => by simp only [sh, refsLt, refss_sh m cs]
  | .clo f cs => by simp only [sh, refsLt, refss_sh m cs]
  | .any => rfl
theorem refss_sh (m : Nat) : ∀ l : List AV, refsLts (n + m) (shs n l) = refsLts m l
  | [] => rfl
  | a :: l => by simp only [shs, refsLts, refs_sh m a, refss_sh m l]
end

theorem refsO_sh (m : Nat) (o : HO) : refsO (n + m) (shO n o) = refsO m o := by
  cases o with
  | hw t k => rfl
  | obj t es =>
    simp only [shO, refsO, List.all_map]
    congr 1
    funext e
    have := refss_sh (n := n) m e
    rw [shs_map] at this
    exact this

theorem held_sh (hn : n = H0.length) {Ha Hb : Heap} : heldIn (H0 ++ shH n Ha) (H0 ++ shH n Hb) ↔ heldIn Ha Hb := by
  unfold heldIn
  rw [shH_len hn]
  constructor
  · intro h i hi
    have := h (n + i) (by omega)
    rw [shH_get hn, shH_get hn] at this
    rcases this with h1 | ⟨o, h1, h2⟩
    · left
      cases ha : Ha[i]? with
      | none => rw [ha] at h1; simp at h1; simpa using h1
      | some a =>
        cases hb : Hb[i]? with
        | none => rw [ha, hb] at h1; simp at h1
        | some b =>
          rw [ha, hb] at h1
          simp only [Option.map_some, Option.some.injEq] at h1
          rw [shO_inj h1]
    · right
      cases hb : Hb[i]? with
      | none => rw [hb] at h1; simp at h1
      | some b =>
        rw [hb] at h1
        simp only [Option.map_some, Option.some.injEq] at h1
        subst h1
        rw [refsO_sh] at h2
        exact ⟨b, rfl, h2⟩
  · intro h i hi
    by_cases hlt : i < n
    · left
      rw [List.getElem?_append_left (by omega), List.getElem?_append_left (by omega)]
    · obtain ⟨j, rfl⟩ : ∃ j, i = n + j := ⟨i - n, by omega⟩
      rw [shH_get hn, shH_get hn]
      rcases h j (by omega) with h1 | ⟨o, h1, h2⟩
      · left; rw [h1]
      · right; exact ⟨shO n o, by rw [h1]; rfl, by rw [refsO_sh]; exact h2⟩

theorem degrade_sh (a : AV) : degrade (sh n a) = sh n (degrade a) := by
  have h1 : ∀ a : AV, degrade1 (sh n a) = sh n (degrade1 a) := fun a => by
    unfold degrade1
    rw [sh_toDat]
    cases toDat a <;> rfl
  unfold degrade
  rw [sh_toDat]
  cases toDat a with
  | some d => rfl
  | none =>
    cases a <;> simp only [sh, shs_map, List.map_map] <;> try rfl
    congr 1
    exact List.map_congr_left fun x _ => h1 x

theorem leave_sh (hn : n = H0.length) {Ha H H' : Heap} {keep : Bool} {r r' : AV} (h : leave Ha keep r H = (r', H')) : leave (H0 ++ shH n Ha) keep (sh n r) (H0 ++ shH n H) = (sh n r', H0 ++ shH n H') := by
  unfold leave at h ⊢
  have e : (if keep = true then sh n r else degrade (sh n r)) = sh n (if keep = true then r else degrade r) := by
    split
    · rfl
    · exact degrade_sh r
  rw [e]
  generalize (if keep = true then r else degrade r) = r1 at h ⊢
  rw [shH_len hn]
  by_cases hc : refsLt Ha.length r1 = true ∧ heldIn Ha H
  · rw [if_pos hc] at h
    rw [if_pos ⟨by rw [refs_sh]; exact hc.1, (held_sh hn).2 hc.2⟩]
    obtain ⟨rfl, rfl⟩ := Prod.mk.inj h
    congr 1
    rw [hn, List.take_append, List.take_of_length_le (by omega), show H0.length + Ha.length - H0.length = Ha.length by omega]
    congr 1
    simp only [shH, List.map_take]
  · rw [if_neg hc] at h
    rw [if_neg fun x => hc ⟨by rw [← refs_sh (n := n)]; exact x.1, (held_sh hn).1 x.2⟩]
    obtain ⟨rfl, rfl⟩ := Prod.mk.inj h
    rfl

theorem resA_sh (hn : n = H0.length) {tm : List AV} {H : Heap} : ∀ {rs : List (Nat × Option (Option Nat))} {l : List AV}, resA tm H rs = some l → resA (tm.map (sh n)) (H0 ++ shH n H) rs = some (l.map (sh n))
  | [], l, h => by
    simp only [resA] at h; injection h with h; subst h; rfl
  | (t, none) :: rs, l, h => by
    simp only [resA] at h ⊢
    split at h
    · rename_i r hr
      injection h with h; subst h
      rw [resA_sh hn hr]
      have := ev_sh (n := n) (tm := tm) (x := .t t) rfl
      simp only [ev] at this
      simp only [this, List.map_cons]
    · simp at h
  | (t, some k) :: rs, l, h => by
    simp only [resA] at h ⊢
    have := ev_sh (n := n) (tm := tm) (x := .t t) rfl
    simp only [ev] at this
    rw [this]
    split at h
    · rename_i v r hv hr
      injection h with h; subst h
      rw [resA_sh hn hr, sh_load hn hv]
      rfl
    · simp at h

theorem tup_sh (l : List AV) : tupA (l.map (sh n)) = sh n (tupA l) := by
  match l with
  | [] => simp [tupA, sh, shs]
  | [a] => rfl
  | a :: b :: l => simp [tupA, sh, shs, shs_map]

theorem enter_sh (f : AFunc) (args : List AV) : enterA f (args.map (sh n)) = (enterA f args).map (sh n) := by
  simp [enterA, sh, undefA, shs]

theorem runF_sh (hn : n = H0.length) {Ψ : Oracle} (hΨ : ShO n H0 Ψ Ψ) {T : FuncId → Option AFunc} (hT : ∀ f af, T f = some af → closedC af.code = true) : ∀ k, ShO n H0 (runF Ψ T k) (runF Ψ T k)
  | 0 => fun f args H v H' h => by simp [runF] at h
  | k + 1 => fun f args H v H' h => by
    have ih := runF_sh hn hΨ hT k
    simp only [runF] at h ⊢
    cases hf : T f with
    | none => rw [hf] at h; exact hΨ _ _ _ _ _ h
    | some af =>
      rw [hf] at h
      simp only at h ⊢
      cases he : execF (runF Ψ T k) k af.code (enterA af args) H with
      | none => rw [he] at h; simp [endA] at h
      | some o =>
        rw [he] at h
        rw [enter_sh, execF_sh hn ih (hT f af hf) he]
        obtain ⟨e, tm, H1⟩ := o
        cases e with
        | normal =>
          simp only [endA, shOut] at h ⊢
          split at h
          · rename_i l hl
            injection h with h
            rw [resA_sh hn hl]
            simp only
            rw [tup_sh, leave_sh hn h]
          · simp at h
        | ret =>
          simp only [endA, shOut] at h ⊢
          split at h
          · rename_i l hl
            injection h with h
            rw [resA_sh hn hl]
            simp only
            rw [tup_sh, leave_sh hn h]
          · simp at h
        | exit i => simp [endA] at h
        | goto l => simp [endA] at h

end
end Go.Abs
end
section
set_option linter.unusedVariables false
set_option linter.unusedSimpArgs false
/- The abstract reading of Go code, thirty-third part: a closed run that has been reckoned at the empty heap holds at every heap. -/
namespace Go.Abs

section
variable {n : Nat} {H0 : Heap}

theorem ccA_sh (hn : n = H0.length) {tB : TypeId} {args : List AV} {H : Heap} {v : AV} {H' : Heap} (h : ccA tB args H = some (v, H')) : ccA tB (args.map (sh n)) (H0 ++ shH n H) = some (sh n v, H0 ++ shH n H') := by
  unfold ccA at h
  split at h
  · rename_i _ _ id
    simp only [List.map_cons, List.map_nil, sh, ccA, shH_get hn]
    split at h
    · rename_i ty a0 a1 he
      rw [he]
      simp only [Option.map_some, shO, List.map_cons, List.map_nil]
      split at h
      · rename_i hty
        rw [if_pos hty]
        split at h
        · simp only [Option.some.injEq, Prod.mk.injEq] at h
          obtain ⟨rfl, rfl⟩ := h
          simp only [sh]
          rw [← shH_set hn]
          rfl
        · rename_i id'
          split at h
          · rename_i hid
            subst hid
            simp only [Option.some.injEq, Prod.mk.injEq] at h
            obtain ⟨rfl, rfl⟩ := h
            simp only [sh, if_true]
            rfl
          · simp at h
        · simp at h
      · simp at h
    · simp at h
  · simp at h

theorem stA_sh (hn : n = H0.length) {tB tb : TypeId} {args : List AV} {H : Heap} {v : AV} {H' : Heap} (h : stA tB tb args H = some (v, H')) : stA tB tb (args.map (sh n)) (H0 ++ shH n H) = some (sh n v, H0 ++ shH n H') := by
  unfold stA at h
  split at h
  · rename_i _ _ id
    simp only [List.map_cons, List.map_nil, sh, stA, shH_get hn]
    split at h
    · rename_i ty a0 s es tok he
      rw [he]
      simp only [Option.map_some, shO, List.map_cons, List.map_nil, sh, shH_get hn]
      split at h
      · rename_i ty' k l h1 h2
        rw [h1]
        simp only [Option.map_some, shO, h2]
        split at h
        · rename_i hc
          rw [if_pos hc]
          simp only [Option.some.injEq, Prod.mk.injEq] at h
          obtain ⟨rfl, rfl⟩ := h
          rw [← shH_set hn]
          rfl
        · simp at h
      · simp at h
    · simp at h
  · simp at h

theorem bldA_sh (hn : n = H0.length) (cc st : FuncId) (tB tb : TypeId) : ShO n H0 (bldA cc st tB tb) (bldA cc st tB tb) := fun f args H v H' h => by
  unfold bldA at h ⊢
  split at h
  · rename_i hf; rw [if_pos hf]; exact ccA_sh hn h
  · rename_i hf
    rw [if_neg hf]
    split at h
    · rename_i hg; rw [if_pos hg]; exact stA_sh hn h
    · simp at h
end

theorem runF_le {Ψ : Oracle} {T F : FuncId → Option AFunc} (hT : ∀ f af, T f = some af → F f = some af) (hn : ∀ f, T f = none → F f = none ∨ ∀ args H, Ψ f args H = none) : ∀ k, OLe (runF Ψ T k) (runF Ψ F k)
  | 0 => fun f args H x hx => by simp [runF] at hx
  | k + 1 => fun f args H x hx => by
    have ih := runF_le hT hn k
    simp only [runF] at hx ⊢
    cases hf : T f with
    | none =>
      rw [hf] at hx
      rcases hn f hf with h | h
      · rw [h]; exact hx
      · simp only [h] at hx; simp at hx
    | some af =>
      rw [hf] at hx
      rw [hT f af hf]
      simp only at hx ⊢
      cases he : execF (runF Ψ T k) k af.code (enterA af args) H with
      | none => rw [he] at hx; simp [endA] at hx
      | some o => rw [he] at hx; rw [execF_mono ih (Nat.le_refl _) he]; exact hx

/-- A closed run, reckoned at the empty heap: at every heap. -/
theorem lim_any {cc st : FuncId} {tB tb : TypeId} {T F : FuncId → Option AFunc} (hT : ∀ f af, T f = some af → F f = some af ∧ closedC af.code = true) (hn : ∀ f, T f = none → F f = none ∨ ∀ args H, bldA cc st tB tb f args H = none)
    {k : Nat} {f : FuncId} {d : Dat} (h : runC (bldA cc st tB tb) T k f [] [] = some (.im d, [])) (H : Heap) : Lim (bldA cc st tB tb) F f [] H = some (.im d, H) := by
  have h1 := runC_le (F := T) (fun f af hf => hf) (fun f hf => .inl hf) k _ _ _ _ h
  have h2 := runF_sh (n := H.length) (H0 := H) rfl (bldA_sh rfl cc st tB tb) (fun f af hf => (hT f af hf).2) k _ _ _ _ _ h1
  have h3 := runF_le (fun f af hf => (hT f af hf).1) hn k _ _ _ _ h2
  simp only [List.map_nil, shH, List.append_nil, sh] at h3
  exact lim_iff.2 ⟨k, h3⟩

end Go.Abs
end
section
set_option linter.unusedVariables false
set_option linter.unusedSimpArgs false
/- The abstract reading of Go code, thirty-fourth part: what stands behind code, folded: so that simp does not go through it ahead of time. -/
namespace Go.Abs

section
variable {R : Type} {Φ : Oracle} {Λ : ACode → List AV → Heap → Option Out} {K : AEx → List AV → Heap → Option R} {tm : List AV} {H : Heap}

/-- Behind the first part of two. -/
noncomputable def seqK (Φ : Oracle) (Λ : ACode → List AV → Heap → Option Out) (b : ACode) (K : AEx → List AV → Heap → Option R) (e : AEx) (tm : List AV) (H : Heap) : Option R := match e with
  | .normal => exec0 Φ Λ b tm H K
  | .exit i => K (.exit i) tm H
  | .goto l => K (.goto l) tm H
  | .ret => K .ret tm H

/-- Behind a block. -/
def blockK (id : Nat) (K : AEx → List AV → Heap → Option R) (e : AEx) (tm : List AV) (H : Heap) : Option R := match e with
  | .exit i => if i = id then K .normal tm H else K (.exit i) tm H
  | .normal => K .normal tm H
  | .goto l => K (.goto l) tm H
  | .ret => K .ret tm H

theorem x_seq {a b : ACode} : exec0 Φ Λ (.seq a b) tm H K = exec0 Φ Λ a tm H (seqK Φ Λ b K) := _root_.id rfl
theorem x_block {id : Nat} {a : ACode} : exec0 Φ Λ (.block id a) tm H K = exec0 Φ Λ a tm H (blockK id K) := _root_.id rfl
theorem x_skip : exec0 Φ Λ .skip tm H K = K .normal tm H := _root_.id rfl
theorem x_label {l : Nat} : exec0 Φ Λ (.label l) tm H K = K .normal tm H := _root_.id rfl
theorem x_ops {l : List AOper} {ps : List (Nat × Nat)} : exec0 Φ Λ (.ops l ps) tm H K = xreg Φ l ps tm H (K .normal) := _root_.id rfl
theorem x_cond {c : AOpd} {a b : ACode} : exec0 Φ Λ (.cond c a b) tm H K = match ev tm c with
    | .im (.bool t) => if t = true then exec0 Φ Λ a tm H K else exec0 Φ Λ b tm H K
    | _ => none := _root_.id rfl
theorem x_exit {i : Nat} : exec0 Φ Λ (.exit i) tm H K = K (.exit i) tm H := _root_.id rfl
theorem x_goto {l : Nat} : exec0 Φ Λ (.goto l) tm H K = K (.goto l) tm H := _root_.id rfl
theorem x_ret : exec0 Φ Λ .ret tm H K = K .ret tm H := _root_.id rfl
theorem k_normal {b : ACode} : seqK Φ Λ b K .normal tm H = exec0 Φ Λ b tm H K := _root_.id rfl
theorem k_exit {b : ACode} {i : Nat} : seqK Φ Λ b K (.exit i) tm H = K (.exit i) tm H := _root_.id rfl
theorem k_goto {b : ACode} {l : Nat} : seqK Φ Λ b K (.goto l) tm H = K (.goto l) tm H := _root_.id rfl
theorem k_ret {b : ACode} : seqK Φ Λ b K .ret tm H = K .ret tm H := _root_.id rfl
theorem b_normal {id : Nat} : blockK id K .normal tm H = K .normal tm H := _root_.id rfl
theorem b_exit {id i : Nat} : blockK id K (.exit i) tm H = if i = id then K .normal tm H else K (.exit i) tm H := _root_.id rfl
theorem b_goto {id l : Nat} : blockK id K (.goto l) tm H = K (.goto l) tm H := _root_.id rfl
theorem b_ret {id : Nat} : blockK id K .ret tm H = K .ret tm H := _root_.id rfl
end
end Go.Abs
namespace Go.Abs
section
variable {k : IntKind} {x y : Int}
theorem b_lss : binA .lss (.im (.int k x)) (.im (.int k y)) = some (.im (.bool (decide (x < y)))) := by simp only [binA, isShift, binInt, Bool.false_eq_true, if_false, if_true]
theorem b_leq : binA .leq (.im (.int k x)) (.im (.int k y)) = some (.im (.bool (decide (x ≤ y)))) := by simp only [binA, isShift, binInt, Bool.false_eq_true, if_false, if_true]
theorem b_gtr : binA .gtr (.im (.int k x)) (.im (.int k y)) = some (.im (.bool (decide (y < x)))) := by simp only [binA, isShift, binInt, Bool.false_eq_true, if_false, if_true]
theorem b_geq : binA .geq (.im (.int k x)) (.im (.int k y)) = some (.im (.bool (decide (y ≤ x)))) := by simp only [binA, isShift, binInt, Bool.false_eq_true, if_false, if_true]
theorem b_eql : binA .eql (.im (.int k x)) (.im (.int k y)) = some (.im (.bool (decide (x = y)))) := by simp only [binA, isShift, binInt, Bool.false_eq_true, if_false, if_true]
theorem b_neq : binA .neq (.im (.int k x)) (.im (.int k y)) = some (.im (.bool (!decide (x = y)))) := by simp only [binA, isShift, binInt, Bool.false_eq_true, if_false, if_true]
theorem b_add : binA .add (.im (.int k x)) (.im (.int k y)) = some (.im (.int k (k.wrap (x + y)))) := by simp only [binA, isShift, binInt, Bool.false_eq_true, if_false, if_true]
theorem b_sub : binA .sub (.im (.int k x)) (.im (.int k y)) = some (.im (.int k (k.wrap (x - y)))) := by simp only [binA, isShift, binInt, Bool.false_eq_true, if_false, if_true]
theorem b_mul : binA .mul (.im (.int k x)) (.im (.int k y)) = some (.im (.int k (k.wrap (x * y)))) := by simp only [binA, isShift, binInt, Bool.false_eq_true, if_false, if_true]
end
section
variable {x y : List UInt8}
theorem s_eql : binA .eql (.im (.str x)) (.im (.str y)) = some (.im (.bool (decide (x = y)))) := rfl
theorem s_neq : binA .neq (.im (.str x)) (.im (.str y)) = some (.im (.bool (!decide (x = y)))) := rfl
theorem s_add (h : x.length + y.length ≤ 2 ^ 62) : binA .add (.im (.str x)) (.im (.str y)) = some (.im (.str (x ++ y))) := by simp only [binA, binStr, if_pos h]
end
end Go.Abs
end
section
set_option linter.unusedVariables false
set_option linter.unusedSimpArgs false
/- The abstract reading of Go code, thirty-fifth part: running a region step by step, with what comes behind kept folded. -/
namespace Go.Abs
section
variable {R : Type} {Φ : Oracle} {Λ : ACode → List AV → Heap → Option Out}

/-- Operations in the order of the text, without the states behind. -/
def yops (Φ : Oracle) : List AOper → List AV → Heap → (List AV → Heap → Option R) → Option R
  | [], tm, H, K => K tm H
  | o :: os, tm, H, K => match wantedA tm o.guard with
    | some true => match aopc Φ H tm o.op with
      | some (v, H') => yops Φ os (putA tm o.dst v) H' K
      | none => none
    | some false => yops Φ os (putA tm o.dst undefA) H K
    | none => none

theorem xops_yops {K : List AV → Heap → Option R} : ∀ {os : List AOper} {tr : List (List AV × Heap)} {tm : List AV} {H : Heap}, xops Φ os tr tm H (fun _ tm H => K tm H) = yops Φ os tm H K
  | [], tr, tm, H => rfl
  | o :: os, tr, tm, H => by
    simp only [xops, yops]
    cases wantedA tm o.guard with
    | none => rfl
    | some b =>
      cases b with
      | false => exact xops_yops
      | true =>
        simp only
        cases aopc Φ H tm o.op with
        | none => rfl
        | some p => exact xops_yops

/-- Behind one operation. -/
def yK (Φ : Oracle) (os : List AOper) (dst : Option Nat) (tm : List AV) (K : List AV → Heap → Option R) : Option (AV × Heap) → Option R
  | some (v, H') => yops Φ os (putA tm dst v) H' K
  | none => none

/-- Behind the question whether an operation is to be done. -/
def yG (Φ : Oracle) (os : List AOper) (dst : Option Nat) (op : AOp) (tm : List AV) (H : Heap) (K : List AV → Heap → Option R) : Option Bool → Option R
  | some true => yK Φ os dst tm K (aopc Φ H tm op)
  | some false => yops Φ os (putA tm dst undefA) H K
  | none => none

variable {os : List AOper} {dst : Option Nat} {op : AOp} {tm : List AV} {H H' : Heap} {K : List AV → Heap → Option R} {v : AV} {g : Nat × Bool} {d : Nat} {b : Bool}

theorem y_ops {l : List AOper} {K : AEx → List AV → Heap → Option R} : exec0 Φ Λ (.ops l []) tm H K = yops Φ l tm H (K .normal) := by
  rw [x_ops]
  simp only [xreg]
  exact xops_yops
theorem y_nil : yops Φ [] tm H K = K tm H := _root_.id rfl
theorem y_cons : yops Φ (⟨dst, op, none⟩ :: os) tm H K = yK Φ os dst tm K (aopc Φ H tm op) := by
  simp only [yops, wantedA]
  cases aopc Φ H tm op <;> rfl
theorem y_guard : yops Φ (⟨dst, op, some g⟩ :: os) tm H K = yG Φ os dst op tm H K (wantedA tm (some g)) := by
  simp only [yops]
  cases wantedA tm (some g) with
  | none => rfl
  | some b => cases b <;> simp only [yG, yK] <;> first | rfl | (cases aopc Φ H tm op <;> rfl)
theorem y_some : yK Φ os (some d) tm K (some (v, H')) = yops Φ os (tm.set d v) H' K := _root_.id rfl
theorem y_drop : yK Φ os none tm K (some (v, H')) = yops Φ os tm H' K := _root_.id rfl
theorem y_do : yG Φ os dst op tm H K (some true) = yK Φ os dst tm K (aopc Φ H tm op) := _root_.id rfl
theorem y_not : yG Φ os (some d) op tm H K (some false) = yops Φ os (tm.set d (.tup [])) H K := _root_.id rfl
theorem y_not0 : yG Φ os none op tm H K (some false) = yops Φ os tm H K := _root_.id rfl
theorem w_bool {c : Bool} (h : tm[d]? = some (.im (.bool c))) : wantedA tm (some (d, b)) = some (c == b) := by
  simp only [wantedA, h]
theorem w_none (h : tm[d]? = some (.tup [])) : wantedA tm (some (d, b)) = some false := by
  simp only [wantedA, h]

/-! one operation -/
/-- A call of a closure. -/
def yC (Φ : Oracle) (H : Heap) (args : List AV) : AV → Option (AV × Heap)
  | .clo g cap => Φ g (args ++ cap) H
  | _ => none
theorem c_call {f : AOpd} {args : List AOpd} : aopc Φ H tm (.call f args) = yC Φ H (args.map (ev tm)) (ev tm f) := by
  simp only [aopc]
  cases ev tm f <;> rfl
theorem c_clo {f : FuncId} {args cap : List AV} : yC Φ H args (.clo f cap) = Φ f (args ++ cap) H := _root_.id rfl
theorem c_move {x : AOpd} : aopc Φ H tm (.move x) = aop H (ev tm) (.move x) := by simp only [aopc]
theorem c_pick {c a b : AOpd} : aopc Φ H tm (.pick c a b) = aop H (ev tm) (.pick c a b) := by simp only [aopc]
theorem c_alloc {ty : Option (TypeId × Nat)} {z : List AV} : aopc Φ H tm (.alloc ty z) = aop H (ev tm) (.alloc ty z) := by simp only [aopc]
theorem c_box {ty : Option TypeId} {x : AOpd} : aopc Φ H tm (.box ty x) = aop H (ev tm) (.box ty x) := by simp only [aopc]
theorem c_build {z : List AV} {parts : List (Nat × Nat × AOpd)} : aopc Φ H tm (.build z parts) = aop H (ev tm) (.build z parts) := by simp only [aopc]
theorem c_bslice {mu : Bool} {s n : Nat} {z : List AV} {parts : List (Nat × AOpd)} : aopc Φ H tm (.bslice mu s n z parts) = aop H (ev tm) (.bslice mu s n z parts) := by simp only [aopc]
theorem c_load {k : Option Nat} {x : AOpd} : aopc Φ H tm (.load k x) = aop H (ev tm) (.load k x) := by simp only [aopc]
theorem c_store {k : Nat} {x v : AOpd} : aopc Φ H tm (.store k x v) = aop H (ev tm) (.store k x v) := by simp only [aopc]
theorem c_nilCheck {x : AOpd} : aopc Φ H tm (.nilCheck x) = aop H (ev tm) (.nilCheck x) := by simp only [aopc]
theorem c_bin {op : BinOp} {x y : AOpd} : aopc Φ H tm (.bin op x y) = aop H (ev tm) (.bin op x y) := by simp only [aopc]
theorem c_binB {op : BinOp} {x y : AOpd} : aopc Φ H tm (.binB op x y) = aop H (ev tm) (.binB op x y) := by simp only [aopc]
theorem c_un {op : UnOp} {x : AOpd} : aopc Φ H tm (.un op x) = aop H (ev tm) (.un op x) := by simp only [aopc]
theorem c_i2i {k : IntKind} {x : AOpd} : aopc Φ H tm (.i2i k x) = aop H (ev tm) (.i2i k x) := by simp only [aopc]
theorem c_i2f {k : FloatKind} {x : AOpd} : aopc Φ H tm (.i2f k x) = aop H (ev tm) (.i2f k x) := by simp only [aopc]
theorem c_f2i {k : IntKind} {x : AOpd} : aopc Φ H tm (.f2i k x) = aop H (ev tm) (.f2i k x) := by simp only [aopc]
theorem c_s2b {x : AOpd} : aopc Φ H tm (.s2b x) = aop H (ev tm) (.s2b x) := by simp only [aopc]
theorem c_b2s {x : AOpd} : aopc Φ H tm (.b2s x) = aop H (ev tm) (.b2s x) := by simp only [aopc]
theorem c_strId {x : AOpd} : aopc Φ H tm (.strId x) = aop H (ev tm) (.strId x) := by simp only [aopc]
theorem c_mkfunc {f : FuncId} {cap : List AOpd} : aopc Φ H tm (.mkfunc f cap) = aop H (ev tm) (.mkfunc f cap) := by simp only [aopc]
theorem c_mkslice {bytes s : Nat} {z : List AV} {len cap : AOpd} : aopc Φ H tm (.mkslice bytes s z len cap) = aop H (ev tm) (.mkslice bytes s z len cap) := by simp only [aopc]
theorem c_slice {s : Nat} {x : AOpd} {lo hi mx : Option AOpd} : aopc Φ H tm (.slice s x lo hi mx) = aop H (ev tm) (.slice s x lo hi mx) := by simp only [aopc]
theorem c_sliceStr {x : AOpd} {lo hi : Option AOpd} : aopc Φ H tm (.sliceStr x lo hi) = aop H (ev tm) (.sliceStr x lo hi) := by simp only [aopc]
theorem c_fieldAddr {off : Nat} {x : AOpd} : aopc Φ H tm (.fieldAddr off x) = aop H (ev tm) (.fieldAddr off x) := by simp only [aopc]
theorem c_field {off : Nat} {k : Option Nat} {x : AOpd} : aopc Φ H tm (.field off k x) = aop H (ev tm) (.field off k x) := by simp only [aopc]
theorem c_indexSl {s : Nat} {x i : AOpd} : aopc Φ H tm (.indexSl s x i) = aop H (ev tm) (.indexSl s x i) := by simp only [aopc]
theorem c_indexArr {len size : Nat} {x i : AOpd} : aopc Φ H tm (.indexArr len size x i) = aop H (ev tm) (.indexArr len size x i) := by simp only [aopc]
theorem c_elemArr {len size : Nat} {k : Option Nat} {x i : AOpd} : aopc Φ H tm (.elemArr len size k x i) = aop H (ev tm) (.elemArr len size k x i) := by simp only [aopc]
theorem c_indexStr {x i : AOpd} : aopc Φ H tm (.indexStr x i) = aop H (ev tm) (.indexStr x i) := by simp only [aopc]
theorem c_extract {i : Nat} {x : AOpd} : aopc Φ H tm (.extract i x) = aop H (ev tm) (.extract i x) := by simp only [aopc]
theorem c_lenStr {x : AOpd} : aopc Φ H tm (.lenStr x) = aop H (ev tm) (.lenStr x) := by simp only [aopc]
theorem c_lenSl {x : AOpd} : aopc Φ H tm (.lenSl x) = aop H (ev tm) (.lenSl x) := by simp only [aopc]
theorem c_append {ty : TypeId} {bytes s : Nat} {x y : AOpd} : aopc Φ H tm (.append ty bytes s x y) = aop H (ev tm) (.append ty bytes s x y) := by simp only [aopc]
theorem c_real {x : AOpd} : aopc Φ H tm (.real x) = aop H (ev tm) (.real x) := by simp only [aopc]
theorem c_imag {x : AOpd} : aopc Φ H tm (.imag x) = aop H (ev tm) (.imag x) := by simp only [aopc]
theorem c_complex {x y : AOpd} : aopc Φ H tm (.complex x y) = aop H (ev tm) (.complex x y) := by simp only [aopc]
theorem c_min {x y : AOpd} : aopc Φ H tm (.min x y) = aop H (ev tm) (.min x y) := by simp only [aopc]
theorem c_max {x y : AOpd} : aopc Φ H tm (.max x y) = aop H (ev tm) (.max x y) := by simp only [aopc]
theorem c_clear {s : Nat} {z : List AV} {x : AOpd} : aopc Φ H tm (.clear s z x) = aop H (ev tm) (.clear s z x) := by simp only [aopc]
theorem c_bad  : aopc Φ H tm (.bad) = aop H (ev tm) (.bad) := by simp only [aopc]
end
end Go.Abs
end
section
set_option linter.unusedVariables false
set_option linter.unusedSimpArgs false
/- The abstract reading of Go code, thirty-sixth part: the end of a call that has written one thing which was there. -/
namespace Go.Abs
/-- The heap is as it was up to n, but for one place. -/
def But (n id : Nat) (H H' : Heap) : Prop := H.length ≤ H'.length ∧ ∀ i, i < n → i ≠ id → H'[i]? = H[i]?
theorem But.refl {n id : Nat} {A : Heap} : But n id A A := ⟨Nat.le_refl _, fun _ _ _ => rfl⟩
theorem But.app {n id : Nat} {A B : Heap} (h : But n id A B) (hn : n ≤ A.length) (M : Heap) : But n id A (B ++ M) :=
  ⟨by have := h.1; simp; omega, fun i hi hne => by rw [List.getElem?_append_left (by have := h.1; omega)]; exact h.2 i hi hne⟩
theorem But.set {n id : Nat} {A B : Heap} (h : But n id A B) (o : HO) : But n id A (B.set id o) :=
  ⟨by simpa using h.1, fun i hi hne => by rw [List.getElem?_set_ne (fun e => hne e.symm)]; exact h.2 i hi hne⟩
theorem But.trans {n id : Nat} {A B C : Heap} (h : But n id A B) (k : But n id B C) : But n id A C :=
  ⟨Nat.le_trans h.1 k.1, fun i hi hne => (k.2 i hi hne).trans (h.2 i hi hne)⟩
theorem But.less {n m id : Nat} {A B : Heap} (h : But n id A B) (hm : m ≤ n) : But m id A B := ⟨h.1, fun i hi hne => h.2 i (by omega) hne⟩

theorem leave_but {id : Nat} {H H' : Heap} {keep : Bool} {r : AV} {o : HO} (hb : But H.length id H H') (ho : H'[id]? = some o) (hro : refsO H.length o = true) (hr : refsLt H.length (if keep then r else degrade r) = true) (hid : id < H.length) :
    leave H keep r H' = (if keep then r else degrade r, H.set id o) := by
  have hh : heldIn H H' := fun i hi => by
    by_cases h : i = id
    · subst h; exact .inr ⟨o, ho, hro⟩
    · exact .inl (hb.2 i hi h)
  unfold leave
  rw [if_pos ⟨hr, hh⟩]
  congr 1
  apply List.ext_getElem?
  intro i
  rw [List.getElem?_take]
  by_cases hi : i < H.length
  · rw [if_pos hi]
    by_cases h : i = id
    · subst h; rw [ho, List.getElem?_set_self hi]
    · rw [hb.2 i hi h, List.getElem?_set_ne (fun e => h e.symm)]
  · rw [if_neg hi, List.getElem?_eq_none (by simpa using hi)]
theorem thenL_inv {R : Type} {o : Option Out} {K : AEx → List AV → Heap → Option R} {r : Option R} {Q : AEx → List AV → Heap → Prop} (hr : thenL o K = r) (h : ∃ e tm H, o = some (e, tm, H) ∧ Q e tm H) : ∃ e tm H, Q e tm H ∧ K e tm H = r := by
  obtain ⟨e, tm, H, rfl, hq⟩ := h
  exact ⟨e, tm, H, hq, hr⟩
theorem ret_ex {o : Option Out} {Q : List AV → Heap → Prop} (h : ∃ tm H, o = some (.ret, tm, H) ∧ Q tm H) : ∃ e tm H, o = some (e, tm, H) ∧ (e = .ret ∧ Q tm H) := by
  obtain ⟨tm, H, h, hq⟩ := h
  exact ⟨_, tm, H, h, rfl, hq⟩

/-! regions in which loads may be done earlier: with the states on the way -/
section
variable {R : Type} {Φ : Oracle} {Λ : ACode → List AV → Heap → Option Out}
/-- Behind one operation. -/
def zK (Φ : Oracle) (os : List AOper) (dst : Option Nat) (tr : List (List AV × Heap)) (tm : List AV) (H : Heap) (K : List (List AV × Heap) → List AV → Heap → Option R) : Option (AV × Heap) → Option R
  | some (v, H') => xops Φ os ((tm, H) :: tr) (putA tm dst v) H' K
  | none => none
/-- Behind the question whether an operation is to be done. -/
def zG (Φ : Oracle) (os : List AOper) (dst : Option Nat) (op : AOp) (tr : List (List AV × Heap)) (tm : List AV) (H : Heap) (K : List (List AV × Heap) → List AV → Heap → Option R) : Option Bool → Option R
  | some true => zK Φ os dst tr tm H K (aopc Φ H tm op)
  | some false => xops Φ os ((tm, H) :: tr) (putA tm dst undefA) H K
  | none => none
open Classical in
/-- The end of such a region. -/
noncomputable def pairK (l : List AOper) (ps : List (Nat × Nat)) (K : List AV → Heap → Option R) (tr : List (List AV × Heap)) (tm : List AV) (H : Heap) : Option R :=
  if ∀ q ∈ ps, stays l (((tm, H) :: tr).reverse) q then K tm H else none

variable {os : List AOper} {dst : Option Nat} {op : AOp} {tr : List (List AV × Heap)} {tm : List AV} {H H' : Heap} {K : List (List AV × Heap) → List AV → Heap → Option R} {v : AV} {g : Nat × Bool} {d : Nat} {b : Bool}
theorem z_ops {l : List AOper} {p : Nat × Nat} {ps : List (Nat × Nat)} {K : AEx → List AV → Heap → Option R} : exec0 Φ Λ (.ops l (p :: ps)) tm H K = xops Φ l [] tm H (pairK l (p :: ps) (K .normal)) := by
  rw [x_ops]
  rfl
theorem z_nil : xops Φ [] tr tm H K = K tr tm H := _root_.id rfl
theorem z_cons : xops Φ (⟨dst, op, none⟩ :: os) tr tm H K = zK Φ os dst tr tm H K (aopc Φ H tm op) := by
  simp only [xops, wantedA]
  cases aopc Φ H tm op <;> rfl
theorem z_guard : xops Φ (⟨dst, op, some g⟩ :: os) tr tm H K = zG Φ os dst op tr tm H K (wantedA tm (some g)) := by
  simp only [xops]
  cases wantedA tm (some g) with
  | none => rfl
  | some b => cases b <;> simp only [zG, zK] <;> first | rfl | (cases aopc Φ H tm op <;> rfl)
theorem z_some : zK Φ os (some d) tr tm H K (some (v, H')) = xops Φ os ((tm, H) :: tr) (tm.set d v) H' K := _root_.id rfl
theorem z_drop : zK Φ os none tr tm H K (some (v, H')) = xops Φ os ((tm, H) :: tr) tm H' K := _root_.id rfl
theorem z_do : zG Φ os dst op tr tm H K (some true) = zK Φ os dst tr tm H K (aopc Φ H tm op) := _root_.id rfl
theorem z_not : zG Φ os (some d) op tr tm H K (some false) = xops Φ os ((tm, H) :: tr) (tm.set d (.tup [])) H K := _root_.id rfl
theorem z_not0 : zG Φ os none op tr tm H K (some false) = xops Φ os ((tm, H) :: tr) tm H K := _root_.id rfl
end
theorem set_same {α : Type} {l : List α} {i : Nat} {x : α} (h : l[i]? = some x) : l.set i x = l := by
  apply List.ext_getElem?
  intro j
  by_cases hj : i = j
  · subst hj; rw [h, List.getElem?_set_self (List.getElem?_eq_some_iff.1 h).1]
  · rw [List.getElem?_set_ne hj]

/-- One element more to what is gathered. -/
theorem Gath.grow {ty : TypeId} {s bytes n : Nat} {v : AV} {H : Heap} {es : List (List Dat)} (h : Gath ty s n v H es) (hn : n ≤ H.length) (y : List Dat) (hb : (es.length + 1) * bytes ≤ 2 ^ 46) (hb0 : 0 < bytes) :
    ∃ (tok : Nat) (H' : Heap), appendA H ty bytes s v [y] = some (.asl s (es ++ [y]) tok, H') ∧ Gath ty s n (.asl s (es ++ [y]) tok) H' (es ++ [y]) ∧ H.length ≤ H'.length ∧ (∀ i, i < n → H'[i]? = H[i]?) ∧ (∀ (i : Nat) (t : Option (TypeId × Nat)) (xs : List (List AV)), H[i]? = some (HO.obj t xs) → H'[i]? = some (HO.obj t xs)) := by
  rcases h with ⟨rfl, rfl⟩ | ⟨h1, tok, h2, rfl, h4⟩
  · refine ⟨H.length, H ++ [.hw ty 1], ?_, .inr ⟨by simp, H.length, hn, rfl, by rw [hget0]; rfl⟩, by simp, fun i hi => List.getElem?_append_left (by omega), fun i t xs hi => by rw [List.getElem?_append_left (List.getElem?_eq_some_iff.1 hi).1]; exact hi⟩
    simp only [appendA, List.length_nil, Nat.zero_add]
    rw [if_pos ⟨by simpa using hb, hb0⟩]
    rfl
  · have hlt := (List.getElem?_eq_some_iff.1 h4).1
    refine ⟨tok, H.set tok (.hw ty (es.length + 1)), ?_, .inr ⟨by simp, tok, h2, rfl, ?_⟩, by simp, fun i hi => List.getElem?_set_ne (by omega), fun i t xs hi => ?_⟩
    · simp only [appendA, h4, List.length_cons, List.length_nil, Nat.zero_add]
      rw [if_pos ⟨trivial, trivial, hb, hb0, trivial⟩]
    · rw [List.getElem?_set_self hlt]
      simp
    · have : tok ≠ i := fun e => by subst e; rw [h4] at hi; simp at hi
      rw [List.getElem?_set_ne this]; exact hi
theorem leave_deg {H M : Heap} {r r' : AV} (hd : degrade r = r') (hr : refsLt H.length r' = true) : leave H false r (H ++ M) = (r', H) := by
  unfold leave
  have e : (if (false : Bool) = true then r else degrade r) = r' := by simp [hd]
  rw [e, if_pos ⟨hr, heldIn_app H M⟩, htake]
end Go.Abs
end
section
set_option linter.unusedVariables false
set_option linter.unusedSimpArgs false
/- The abstract reading of Go code, thirty-seventh part: the end of a call that has left all that was there. -/
namespace Go.Abs
theorem leave_low {H H' : Heap} {r r' : AV} (hd : degrade r = r') (hr : refsLt H.length r' = true) (_hl : H.length ≤ H'.length) (hb : ∀ i, i < H.length → H'[i]? = H[i]?) : leave H false r H' = (r', H) := by
  have hh : heldIn H H' := fun i hi => .inl (hb i hi)
  unfold leave
  have e : (if (false : Bool) = true then r else degrade r) = r' := by simp [hd]
  rw [e, if_pos ⟨hr, hh⟩]
  congr 1
  apply List.ext_getElem?
  intro i
  rw [List.getElem?_take]
  by_cases hi : i < H.length
  · rw [if_pos hi, hb i hi]
  · rw [if_neg hi, List.getElem?_eq_none (by omega)]
theorem leave_nil {H : Heap} {d : Dat} : leave [] false (.im d) H = (.im d, []) := leave_app (H := []) (L := H)
end Go.Abs
end
section
set_option linter.unusedVariables false
set_option linter.unusedSimpArgs false
/- What the seat's functions come to: of (the law's copy of a type as the reference's). -/
set_option linter.unusedVariables false
set_option linter.unusedSimpArgs false
namespace Go.Abs.Seat
open Go.Proofs

mutual
def slim : KT → Prop
  | .mk _ _ args => args.length ≤ 1000000 ∧ slims args
def slims : List KT → Prop
  | [] => True
  | a :: l => slim a ∧ slims l
end
theorem slims_mem : ∀ {l : List KT}, slims l → ∀ a ∈ l, slim a
  | [], _, a, h => by simp at h
  | b :: l, h, a, hm => by
    simp only [slims] at h
    rcases List.mem_cons.1 hm with rfl | hm
    · exact h.1
    · exact slims_mem h.2 a hm
mutual
theorem narrow_slim : ∀ t : KT, narrow t → slim t
  | .mk _ _ args, h => by
    simp only [narrow] at h
    simp only [slim]
    exact ⟨by omega, narrows_slims args h.2⟩
theorem narrows_slims : ∀ l : List KT, narrows l → slims l
  | [], _ => by simp only [slims]
  | a :: l, h => by
    simp only [narrows] at h
    simp only [slims]
    exact ⟨narrow_slim a h.1, narrows_slims l h.2⟩
end

end Go.Abs.Seat
end
section
set_option linter.unusedVariables false
set_option linter.unusedSimpArgs false
/- Copies of types. -/
set_option linter.unusedVariables false
set_option linter.unusedSimpArgs false
namespace Go.Abs.Seat
open Go.Proofs

mutual
theorem clone_right : ∀ (t : KT) (d : Int), rightT (cloneT t) d = rightT t d
  | .mk k s args, d => by
    have hl : (cloneTs args).length = args.length := by rw [cloneTs_map]; simp
    simp only [cloneT, rightT, hl, clone_rights args (d - 1)]
theorem clone_rights : ∀ (l : List KT) (d : Int), rightNot (cloneTs l) d = rightNot l d
  | [], d => rfl
  | a :: l, d => by simp only [cloneTs, rightNot, clone_right a d, clone_rights l d]
end

mutual
theorem clone_ok : ∀ (t : KT), okT t → okT (cloneT t)
  | .mk k s args, h => by
    have hl : (cloneTs args).length = args.length := by rw [cloneTs_map]; simp
    simp only [okT] at h
    simp only [cloneT, okT]
    refine ⟨?_, by omega, clone_oks args h.2.2⟩
    by_cases h0 : args.length = 0
    · left
      have : (cloneTs args).length = 0 := by omega
      exact List.length_eq_zero_iff.1 this
    · right; rw [if_neg h0]
theorem clone_oks : ∀ (l : List KT), okTs l → okTs (cloneTs l)
  | [], h => by simp only [cloneTs, okTs]
  | a :: l, h => by
    simp only [okTs] at h
    simp only [cloneTs, okTs]
    exact ⟨clone_ok a h.1, clone_oks l h.2⟩
end

theorem drop_cons {α : Type} {l : List α} {i : Nat} (h : i < l.length) : ∃ w, l[i]? = some w ∧ l.drop i = w :: l.drop (i + 1) := by
  refine ⟨_, List.getElem?_eq_getElem h, ?_⟩
  rw [List.drop_eq_getElem_cons h]
theorem byte_eq (a c : UInt8) : decide (((a.toNat : Nat) : Int) = ((c.toNat : Nat) : Int)) = decide (a = c) := by
  congr 1
  simp only [Int.ofNat_inj, UInt8.toNat_inj]

theorem kidx_cases (k : Int) : (k = 1 ∨ k = 2 ∨ k = 3 ∨ k = 4 ∨ k = 5 ∨ k = 6 ∨ k = 7 ∨ k = 9) ∨ kidx k = none := by
  by_cases h1 : k = 1
  · simp [h1]
  by_cases h2 : k = 2
  · simp [h2]
  by_cases h3 : k = 3
  · simp [h3]
  by_cases h4 : k = 4
  · simp [h4]
  by_cases h5 : k = 5
  · simp [h5]
  by_cases h6 : k = 6
  · simp [h6]
  by_cases h7 : k = 7
  · simp [h7]
  by_cases h9 : k = 9
  · simp [h9]
  exact .inr (kidx_none h1 h2 h3 h4 h5 h6 h7 h9)

theorem word_none {k : Int} (h : wordK k = []) : kidx k = none := by
  rcases kidx_cases k with (rfl | rfl | rfl | rfl | rfl | rfl | rfl | rfl) | h'
  · exact absurd h (by decide)
  · exact absurd h (by decide)
  · exact absurd h (by decide)
  · exact absurd h (by decide)
  · exact absurd h (by decide)
  · exact absurd h (by decide)
  · exact absurd h (by decide)
  · exact absurd h (by decide)
  · exact h'

end Go.Abs.Seat
end
section
set_option linter.unusedVariables false
set_option linter.unusedSimpArgs false
/- The table's functions are the program's, and hold no place. -/
namespace Go.Abs.Seat
open Go.Proofs
set_option maxRecDepth 10000 in
theorem Tok (f : FuncId) (af : AFunc) (h : T f = some af) : F f = some af ∧ closedC af.code = true := by
  unfold T at h
  by_cases h3 : f = 3
  · subst h3; rw [if_pos rfl] at h; injection h with h; subst h; exact ⟨F3, by kernel_rfl⟩
  rw [if_neg h3] at h
  by_cases h4 : f = 4
  · subst h4; rw [if_pos rfl] at h; injection h with h; subst h; exact ⟨F4, by kernel_rfl⟩
  rw [if_neg h4] at h
  by_cases h5 : f = 5
  · subst h5; rw [if_pos rfl] at h; injection h with h; subst h; exact ⟨F5, by kernel_rfl⟩
  rw [if_neg h5] at h
  by_cases h6 : f = 6
  · subst h6; rw [if_pos rfl] at h; injection h with h; subst h; exact ⟨F6, by kernel_rfl⟩
  rw [if_neg h6] at h
  by_cases h11 : f = 11
  · subst h11; rw [if_pos rfl] at h; injection h with h; subst h; exact ⟨F11, by kernel_rfl⟩
  rw [if_neg h11] at h
  by_cases h12 : f = 12
  · subst h12; rw [if_pos rfl] at h; injection h with h; subst h; exact ⟨F12, by kernel_rfl⟩
  rw [if_neg h12] at h
  by_cases h13 : f = 13
  · subst h13; rw [if_pos rfl] at h; injection h with h; subst h; exact ⟨F13, by kernel_rfl⟩
  rw [if_neg h13] at h
  by_cases h14 : f = 14
  · subst h14; rw [if_pos rfl] at h; injection h with h; subst h; exact ⟨F14, by kernel_rfl⟩
  rw [if_neg h14] at h
  by_cases h15 : f = 15
  · subst h15; rw [if_pos rfl] at h; injection h with h; subst h; exact ⟨F15, by kernel_rfl⟩
  rw [if_neg h15] at h
  by_cases h16 : f = 16
  · subst h16; rw [if_pos rfl] at h; injection h with h; subst h; exact ⟨F16, by kernel_rfl⟩
  rw [if_neg h16] at h
  by_cases h17 : f = 17
  · subst h17; rw [if_pos rfl] at h; injection h with h; subst h; exact ⟨F17, by kernel_rfl⟩
  rw [if_neg h17] at h
  by_cases h18 : f = 18
  · subst h18; rw [if_pos rfl] at h; injection h with h; subst h; exact ⟨F18, by kernel_rfl⟩
  rw [if_neg h18] at h
  by_cases h19 : f = 19
  · subst h19; rw [if_pos rfl] at h; injection h with h; subst h; exact ⟨F19, by kernel_rfl⟩
  rw [if_neg h19] at h
  by_cases h20 : f = 20
  · subst h20; rw [if_pos rfl] at h; injection h with h; subst h; exact ⟨F20, by kernel_rfl⟩
  rw [if_neg h20] at h
  by_cases h21 : f = 21
  · subst h21; rw [if_pos rfl] at h; injection h with h; subst h; exact ⟨F21, by kernel_rfl⟩
  rw [if_neg h21] at h
  by_cases h22 : f = 22
  · subst h22; rw [if_pos rfl] at h; injection h with h; subst h; exact ⟨F22, by kernel_rfl⟩
  rw [if_neg h22] at h
  by_cases h23 : f = 23
  · subst h23; rw [if_pos rfl] at h; injection h with h; subst h; exact ⟨F23, by kernel_rfl⟩
  rw [if_neg h23] at h
  by_cases h45 : f = 45
  · subst h45; rw [if_pos rfl] at h; injection h with h; subst h; exact ⟨F45, by kernel_rfl⟩
  rw [if_neg h45] at h
  by_cases h46 : f = 46
  · subst h46; rw [if_pos rfl] at h; injection h with h; subst h; exact ⟨F46, by kernel_rfl⟩
  rw [if_neg h46] at h
  by_cases h47 : f = 47
  · subst h47; rw [if_pos rfl] at h; injection h with h; subst h; exact ⟨F47, by kernel_rfl⟩
  rw [if_neg h47] at h
  by_cases h48 : f = 48
  · subst h48; rw [if_pos rfl] at h; injection h with h; subst h; exact ⟨F48, by kernel_rfl⟩
  rw [if_neg h48] at h
  by_cases h50 : f = 50
  · subst h50; rw [if_pos rfl] at h; injection h with h; subst h; exact ⟨F50, by kernel_rfl⟩
  rw [if_neg h50] at h
  by_cases h51 : f = 51
  · subst h51; rw [if_pos rfl] at h; injection h with h; subst h; exact ⟨F51, by kernel_rfl⟩
  rw [if_neg h51] at h
  by_cases h52 : f = 52
  · subst h52; rw [if_pos rfl] at h; injection h with h; subst h; exact ⟨F52, by kernel_rfl⟩
  rw [if_neg h52] at h
  by_cases h53 : f = 53
  · subst h53; rw [if_pos rfl] at h; injection h with h; subst h; exact ⟨F53, by kernel_rfl⟩
  rw [if_neg h53] at h
  by_cases h69 : f = 69
  · subst h69; rw [if_pos rfl] at h; injection h with h; subst h; exact ⟨F69, by kernel_rfl⟩
  rw [if_neg h69] at h
  by_cases h70 : f = 70
  · subst h70; rw [if_pos rfl] at h; injection h with h; subst h; exact ⟨F70, by kernel_rfl⟩
  rw [if_neg h70] at h
  by_cases h71 : f = 71
  · subst h71; rw [if_pos rfl] at h; injection h with h; subst h; exact ⟨F71, by kernel_rfl⟩
  rw [if_neg h71] at h
  by_cases h72 : f = 72
  · subst h72; rw [if_pos rfl] at h; injection h with h; subst h; exact ⟨F72, by kernel_rfl⟩
  rw [if_neg h72] at h
  by_cases h73 : f = 73
  · subst h73; rw [if_pos rfl] at h; injection h with h; subst h; exact ⟨F73, by kernel_rfl⟩
  rw [if_neg h73] at h
  by_cases h74 : f = 74
  · subst h74; rw [if_pos rfl] at h; injection h with h; subst h; exact ⟨F74, by kernel_rfl⟩
  rw [if_neg h74] at h
  by_cases h75 : f = 75
  · subst h75; rw [if_pos rfl] at h; injection h with h; subst h; exact ⟨F75, by kernel_rfl⟩
  rw [if_neg h75] at h
  by_cases h76 : f = 76
  · subst h76; rw [if_pos rfl] at h; injection h with h; subst h; exact ⟨F76, by kernel_rfl⟩
  rw [if_neg h76] at h
  by_cases h77 : f = 77
  · subst h77; rw [if_pos rfl] at h; injection h with h; subst h; exact ⟨F77, by kernel_rfl⟩
  rw [if_neg h77] at h
  by_cases h78 : f = 78
  · subst h78; rw [if_pos rfl] at h; injection h with h; subst h; exact ⟨F78, by kernel_rfl⟩
  rw [if_neg h78] at h
  by_cases h79 : f = 79
  · subst h79; rw [if_pos rfl] at h; injection h with h; subst h; exact ⟨F79, by kernel_rfl⟩
  rw [if_neg h79] at h
  by_cases h98 : f = 98
  · subst h98; rw [if_pos rfl] at h; injection h with h; subst h; exact ⟨F98, by kernel_rfl⟩
  rw [if_neg h98] at h
  by_cases h99 : f = 99
  · subst h99; rw [if_pos rfl] at h; injection h with h; subst h; exact ⟨F99, by kernel_rfl⟩
  rw [if_neg h99] at h
  by_cases h100 : f = 100
  · subst h100; rw [if_pos rfl] at h; injection h with h; subst h; exact ⟨F100, by kernel_rfl⟩
  rw [if_neg h100] at h
  by_cases h102 : f = 102
  · subst h102; rw [if_pos rfl] at h; injection h with h; subst h; exact ⟨F102, by kernel_rfl⟩
  rw [if_neg h102] at h
  simp at h
theorem Tno (f : FuncId) (_ : T f = none) : F f = none ∨ ∀ args H, bldA 101 49 94 5 f args H = none := by
  by_cases h1 : f = 101
  · subst h1; left; kernel_rfl
  by_cases h2 : f = 49
  · subst h2; left; kernel_rfl
  right
  intro args H
  simp only [bldA, h1, h2, if_false]
end Go.Abs.Seat
end
section
set_option linter.unusedVariables false
set_option linter.unusedSimpArgs false
/- More of the seat's functions as abstract code. -/
set_option linter.unusedVariables false
namespace Go.Abs.Seat
open Go.Proofs
def f10 : AFunc := ⟨143, [(4, none)], (.seq (.ops [⟨(some 2), (.box none (.t 0)), none⟩, ⟨(some 4), (.move (.c (.im (.bool false)))), none⟩] []) (.seq (.seq (.ops [⟨(some 15), (.load (some 2) (.t 2)), none⟩, ⟨(some 16), (.call (.c (.clo 37 [])) [(.t 15), (.c .nils)]), none⟩, ⟨(some 17), (.un .not (.t 16)), none⟩, ⟨(some 18), (.move (.t 17)), none⟩, ⟨(some 19), (.move (.t 1)), (some (18, false))⟩, ⟨(some 20), (.lenSl (.t 19)), (some (18, false))⟩, ⟨(some 21), (.bin .gtr (.t 20) (.c (.im (.int .i64 100000)))), (some (18, false))⟩, ⟨(some 22), (.pick (.t 18) (.c (.im (.bool true))) (.t 21)), none⟩] []) (.cond (.t 22) (.seq (.ops [⟨(some 23), (.call (.c (.clo 38 [])) []), none⟩, ⟨(some 4), (.move (.t 23)), none⟩] []) .ret) .skip)) (.seq (.ops [⟨(some 24), (.move (.t 1)), none⟩, ⟨(some 25), (.call (.c (.clo 39 [])) [(.t 24)]), none⟩, ⟨(some 5), (.move (.t 25)), none⟩] []) (.seq (.ops [⟨(some 27), (.load (some 2) (.t 2)), none⟩, ⟨(some 28), (.call (.c (.clo 41 [])) [(.t 27)]), none⟩, ⟨(some 29), (.move (.t 5)), none⟩, ⟨(some 30), (.call (.c (.clo 40 [])) [(.t 28), (.t 29)]), none⟩, ⟨(some 26), (.move (.t 30)), none⟩, ⟨(some 31), (.extract 0 (.t 26)), none⟩, ⟨(some 32), (.extract 1 (.t 26)), none⟩, ⟨(some 33), (.extract 2 (.t 26)), none⟩, ⟨(some 6), (.alloc none [(.im (.int .i64 0)), (.im (.int .i64 0)), (.im (.str [])), (.im (.cpx .f64 0 0)), .nils]), none⟩, ⟨none, (.store 5 (.t 6) (.t 31)), none⟩, ⟨(some 7), (.move (.t 32)), none⟩, ⟨(some 8), (.move (.t 33)), none⟩] []) (.seq (.ops [⟨(some 35), (.load (some 2) (.t 2)), none⟩, ⟨(some 36), (.call (.c (.clo 41 [])) [(.t 35)]), none⟩, ⟨(some 37), (.move (.t 5)), none⟩, ⟨(some 38), (.call (.c (.clo 42 [])) [(.t 36), (.t 37)]), none⟩, ⟨(some 34), (.move (.t 38)), none⟩, ⟨(some 39), (.extract 0 (.t 34)), none⟩, ⟨(some 40), (.extract 1 (.t 34)), none⟩, ⟨(some 41), (.extract 2 (.t 34)), none⟩, ⟨(some 9), (.alloc none [(.im (.int .i64 0)), (.im (.int .i64 0)), (.im (.str [])), (.im (.cpx .f64 0 0)), .nils]), none⟩, ⟨none, (.store 5 (.t 9) (.t 39)), none⟩, ⟨(some 10), (.move (.t 40)), none⟩, ⟨(some 11), (.move (.t 41)), none⟩] []) (.seq (.seq (.ops [⟨(some 42), (.load (some 2) (.t 2)), none⟩, ⟨(some 43), (.call (.c (.clo 31 [])) [(.t 42), (.c (.im (.int .i64 6)))]), none⟩, ⟨(some 44), (.un .not (.t 43)), none⟩] []) (.cond (.t 44) (.seq (.ops [⟨(some 45), (.move (.t 8)), none⟩, ⟨(some 46), (.bin .eql (.t 45) (.c (.im (.int .i64 20)))), none⟩, ⟨(some 47), (.move (.t 46)), none⟩, ⟨(some 48), (.move (.t 11)), (some (47, true))⟩, ⟨(some 49), (.bin .eql (.t 48) (.c (.im (.int .i64 20)))), (some (47, true))⟩, ⟨(some 50), (.pick (.t 47) (.t 49) (.c (.im (.bool false)))), none⟩, ⟨(some 51), (.move (.t 50)), none⟩, ⟨(some 52), (.move (.t 7)), (some (51, true))⟩, ⟨(some 53), (.bin .eql (.t 52) (.c (.im (.int .i64 0)))), (some (51, true))⟩, ⟨(some 54), (.pick (.t 51) (.t 53) (.c (.im (.bool false)))), none⟩, ⟨(some 55), (.move (.t 54)), none⟩, ⟨(some 56), (.move (.t 10)), (some (55, true))⟩, ⟨(some 57), (.bin .eql (.t 56) (.c (.im (.int .i64 0)))), (some (55, true))⟩, ⟨(some 58), (.pick (.t 55) (.t 57) (.c (.im (.bool false)))), none⟩, ⟨(some 59), (.move (.t 58)), none⟩, ⟨(some 60), (.call (.c (.clo 38 [])) []), (some (59, true))⟩, ⟨(some 61), (.pick (.t 59) (.t 60) (.c (.im (.bool false)))), none⟩, ⟨(some 4), (.move (.t 61)), none⟩] []) .ret) .skip)) (.seq (.ops [⟨(some 63), (.load (some 2) (.t 2)), none⟩, ⟨(some 64), (.move (.t 1)), none⟩, ⟨(some 65), (.call (.c (.clo 43 [])) [(.t 63), (.t 64)]), none⟩, ⟨(some 62), (.move (.t 65)), none⟩, ⟨(some 66), (.extract 0 (.t 62)), none⟩, ⟨(some 67), (.extract 1 (.t 62)), none⟩, ⟨(some 68), (.extract 2 (.t 62)), none⟩, ⟨(some 12), (.alloc none [(.im (.int .i64 0)), (.im (.int .i64 0)), (.im (.str [])), (.im (.cpx .f64 0 0)), .nils]), none⟩, ⟨none, (.store 5 (.t 12) (.t 66)), none⟩, ⟨(some 13), (.move (.t 67)), none⟩, ⟨(some 14), (.move (.t 68)), none⟩] []) (.seq (.seq (.ops [⟨(some 69), (.move (.t 11)), none⟩, ⟨(some 70), (.move (.t 14)), none⟩, ⟨(some 71), (.bin .neq (.t 69) (.t 70)), none⟩, ⟨(some 72), (.move (.t 71)), none⟩, ⟨(some 73), (.move (.t 10)), (some (72, false))⟩, ⟨(some 74), (.move (.t 13)), (some (72, false))⟩, ⟨(some 75), (.bin .neq (.t 73) (.t 74)), (some (72, false))⟩, ⟨(some 76), (.pick (.t 72) (.c (.im (.bool true))) (.t 75)), none⟩, ⟨(some 77), (.move (.t 76)), none⟩, ⟨(some 78), (.move (.t 5)), (some (77, false))⟩, ⟨(some 79), (.move (.t 1)), (some (77, false))⟩, ⟨(some 80), (.call (.c (.clo 44 [])) [(.t 78), (.t 79)]), (some (77, false))⟩, ⟨(some 81), (.un .not (.t 80)), (some (77, false))⟩, ⟨(some 82), (.pick (.t 77) (.c (.im (.bool true))) (.t 81)), none⟩] []) (.cond (.t 82) (.seq (.ops [⟨(some 4), (.move (.c (.im (.bool false)))), none⟩] []) .ret) .skip)) (.seq (.seq (.ops [⟨(some 83), (.move (.t 14)), none⟩, ⟨(some 84), (.bin .neq (.t 83) (.c (.im (.int .i64 0)))), none⟩] []) (.cond (.t 84) (.seq (.ops [⟨(some 85), (.move (.t 8)), none⟩, ⟨(some 86), (.move (.t 11)), none⟩, ⟨(some 87), (.bin .eql (.t 85) (.t 86)), none⟩, ⟨(some 88), (.move (.t 87)), none⟩, ⟨(some 89), (.move (.t 7)), (some (88, true))⟩, ⟨(some 90), (.move (.t 10)), (some (88, true))⟩, ⟨(some 91), (.bin .eql (.t 89) (.t 90)), (some (88, true))⟩, ⟨(some 92), (.pick (.t 88) (.t 91) (.c (.im (.bool false)))), none⟩, ⟨(some 93), (.move (.t 92)), none⟩, ⟨(some 94), (.fieldAddr 0 (.t 6)), (some (93, true))⟩, ⟨(some 95), (.load none (.t 94)), (some (93, true))⟩, ⟨(some 96), (.bin .eql (.t 95) (.c (.im (.int .i64 0)))), (some (93, true))⟩, ⟨(some 97), (.pick (.t 93) (.t 96) (.c (.im (.bool false)))), none⟩, ⟨(some 98), (.move (.t 97)), none⟩, ⟨(some 99), (.fieldAddr 0 (.t 9)), (some (98, true))⟩, ⟨(some 100), (.load none (.t 99)), (some (98, true))⟩, ⟨(some 101), (.bin .eql (.t 100) (.c (.im (.int .i64 0)))), (some (98, true))⟩, ⟨(some 102), (.pick (.t 98) (.t 101) (.c (.im (.bool false)))), none⟩, ⟨(some 103), (.move (.t 102)), none⟩, ⟨(some 104), (.call (.c (.clo 38 [])) []), (some (103, true))⟩, ⟨(some 105), (.pick (.t 103) (.t 104) (.c (.im (.bool false)))), none⟩, ⟨(some 4), (.move (.t 105)), none⟩] []) .ret) .skip)) (.seq (.seq (.ops [⟨(some 106), (.load (some 5) (.t 9)), none⟩, ⟨(some 107), (.load (some 5) (.t 12)), none⟩, ⟨(some 108), (.call (.c (.clo 35 [])) [(.t 106), (.t 107)]), none⟩, ⟨(some 109), (.un .not (.t 108)), none⟩] []) (.cond (.t 109) (.seq (.ops [⟨(some 4), (.move (.c (.im (.bool false)))), none⟩] []) .ret) .skip)) (.seq (.seq (.ops [⟨(some 110), (.move (.t 13)), none⟩, ⟨(some 111), (.move (.t 1)), none⟩, ⟨(some 112), (.lenSl (.t 111)), none⟩, ⟨(some 113), (.bin .lss (.t 110) (.t 112)), none⟩] []) (.cond (.t 113) (.seq (.ops [⟨(some 114), (.move (.t 8)), none⟩, ⟨(some 115), (.bin .eql (.t 114) (.c (.im (.int .i64 31)))), none⟩, ⟨(some 116), (.move (.t 115)), none⟩, ⟨(some 117), (.move (.t 7)), (some (116, true))⟩, ⟨(some 118), (.move (.t 13)), (some (116, true))⟩, ⟨(some 119), (.bin .eql (.t 117) (.t 118)), (some (116, true))⟩, ⟨(some 120), (.pick (.t 116) (.t 119) (.c (.im (.bool false)))), none⟩, ⟨(some 121), (.move (.t 120)), none⟩, ⟨(some 122), (.fieldAddr 0 (.t 6)), (some (121, true))⟩, ⟨(some 123), (.load none (.t 122)), (some (121, true))⟩, ⟨(some 124), (.bin .eql (.t 123) (.c (.im (.int .i64 0)))), (some (121, true))⟩, ⟨(some 125), (.pick (.t 121) (.t 124) (.c (.im (.bool false)))), none⟩, ⟨(some 126), (.move (.t 125)), none⟩, ⟨(some 127), (.call (.c (.clo 38 [])) []), (some (126, true))⟩, ⟨(some 128), (.pick (.t 126) (.t 127) (.c (.im (.bool false)))), none⟩, ⟨(some 4), (.move (.t 128)), none⟩] []) .ret) .skip)) (.seq (.ops [⟨(some 129), (.move (.t 8)), none⟩, ⟨(some 130), (.bin .eql (.t 129) (.c (.im (.int .i64 0)))), none⟩, ⟨(some 131), (.move (.t 130)), none⟩, ⟨(some 132), (.move (.t 7)), (some (131, true))⟩, ⟨(some 133), (.bin .eql (.t 132) (.c (.im (.int .i64 0)))), (some (131, true))⟩, ⟨(some 134), (.pick (.t 131) (.t 133) (.c (.im (.bool false)))), none⟩, ⟨(some 135), (.move (.t 134)), none⟩, ⟨(some 136), (.load (some 5) (.t 6)), (some (135, true))⟩, ⟨(some 137), (.load (some 5) (.t 12)), (some (135, true))⟩, ⟨(some 138), (.call (.c (.clo 35 [])) [(.t 136), (.t 137)]), (some (135, true))⟩, ⟨(some 139), (.pick (.t 135) (.t 138) (.c (.im (.bool false)))), none⟩, ⟨(some 140), (.move (.t 139)), none⟩, ⟨(some 141), (.call (.c (.clo 38 [])) []), (some (140, true))⟩, ⟨(some 142), (.pick (.t 140) (.t 141) (.c (.im (.bool false)))), none⟩, ⟨(some 4), (.move (.t 142)), none⟩] []) .ret)))))))))))), false⟩
theorem F10 : F 10 = some f10 := by kernel_rfl
def f24 : AFunc := ⟨11, [(4, (some (some 5)))], (.seq (.ops [⟨(some 4), (.alloc none [(.im (.int .i64 0)), (.im (.int .i64 0)), (.im (.str [])), (.im (.cpx .f64 0 0)), .nils]), none⟩] []) (.seq (.ops [⟨(some 5), (.move (.t 0)), none⟩, ⟨(some 6), (.call (.c (.clo 54 [])) [(.t 5)]), none⟩, ⟨(some 7), (.move (.t 1)), none⟩, ⟨(some 8), (.call (.c (.clo 54 [])) [(.t 7)]), none⟩, ⟨(some 9), (.complex (.t 6) (.t 8)), none⟩, ⟨(some 10), (.build [(.im (.int .i64 0)), (.im (.int .i64 0)), (.im (.str [])), (.im (.cpx .f64 0 0)), .nils] [(0, (1, (.c (.im (.int .i64 5))))), (3, (1, (.t 9)))]), none⟩, ⟨none, (.store 5 (.t 4) (.t 10)), none⟩] []) .ret)), false⟩
theorem F24 : F 24 = some f24 := by kernel_rfl
def f26 : AFunc := ⟨25, [(2, none), (3, none), (4, none)], (.seq (.ops [⟨(some 1), (.box none (.t 0)), none⟩, ⟨(some 2), (.move (.c (.im (.int .i64 0)))), none⟩, ⟨(some 3), (.move (.c (.im (.int .i64 0)))), none⟩, ⟨(some 4), (.move (.c (.im (.int .i64 0)))), none⟩] []) (.seq (.ops [⟨(some 7), (.load (some 5) (.t 1)), none⟩, ⟨(some 8), (.bslice false 5 1 [(.im (.int .i64 0)), (.im (.int .i64 0)), (.im (.str [])), (.im (.cpx .f64 0 0)), .nils] [(0, (.t 7))]), none⟩, ⟨(some 9), (.call (.c (.clo 57 [])) [(.t 8)]), none⟩, ⟨(some 6), (.move (.t 9)), none⟩, ⟨(some 10), (.extract 0 (.t 6)), none⟩, ⟨(some 11), (.extract 1 (.t 6)), none⟩, ⟨(some 5), (.move (.t 10)), none⟩, ⟨(some 4), (.move (.t 11)), none⟩] []) (.seq (.seq (.ops [⟨(some 12), (.move (.t 4)), none⟩, ⟨(some 13), (.bin .neq (.t 12) (.c (.im (.int .i64 0)))), none⟩] []) (.cond (.t 13) (.seq (.ops [⟨(some 14), (.move (.t 4)), none⟩, ⟨(some 2), (.move (.c (.im (.int .i64 0)))), none⟩, ⟨(some 3), (.move (.c (.im (.int .i64 0)))), none⟩, ⟨(some 4), (.move (.t 14)), none⟩] []) .ret) .skip)) (.seq (.ops [⟨(some 15), (.move (.t 5)), none⟩, ⟨(some 16), (.indexSl 1 (.t 15) (.c (.im (.int .i64 0)))), none⟩, ⟨(some 17), (.load none (.t 16)), none⟩, ⟨(some 18), (.real (.t 17)), none⟩, ⟨(some 19), (.f2i .i64 (.t 18)), none⟩, ⟨(some 20), (.move (.t 5)), none⟩, ⟨(some 21), (.indexSl 1 (.t 20) (.c (.im (.int .i64 0)))), none⟩, ⟨(some 22), (.load none (.t 21)), none⟩, ⟨(some 23), (.imag (.t 22)), none⟩, ⟨(some 24), (.f2i .i64 (.t 23)), none⟩, ⟨(some 2), (.move (.t 19)), none⟩, ⟨(some 3), (.move (.t 24)), none⟩, ⟨(some 4), (.move (.c (.im (.int .i64 0)))), none⟩] []) .ret)))), false⟩
theorem F26 : F 26 = some f26 := by kernel_rfl
def b31_0 : ACode := (.seq (.seq (.ops [⟨(some 23), (.move (.t 5)), none⟩, ⟨(some 24), (.fieldAddr 1 (.t 2)), none⟩, ⟨(some 25), (.load none (.t 24)), none⟩, ⟨(some 26), (.lenSl (.t 25)), none⟩, ⟨(some 27), (.bin .lss (.t 23) (.t 26)), none⟩] []) (.cond (.t 27) .skip (.exit 0))) (.seq (.block 1 (.seq (.ops [⟨(some 30), (.fieldAddr 1 (.t 2)), none⟩, ⟨(some 31), (.load none (.t 30)), none⟩, ⟨(some 32), (.move (.t 5)), none⟩, ⟨(some 33), (.indexSl 2 (.t 31) (.t 32)), none⟩, ⟨(some 34), (.load (some 2) (.t 33)), none⟩, ⟨(some 35), (.move (.t 1)), none⟩, ⟨(some 36), (.bin .sub (.t 35) (.c (.im (.int .i64 1)))), none⟩, ⟨(some 37), (.call (.c (.clo 31 [])) [(.t 34), (.t 36)]), none⟩, ⟨(some 38), (.un .not (.t 37)), none⟩] []) (.cond (.t 38) (.seq (.ops [⟨(some 4), (.move (.c (.im (.bool false)))), none⟩] []) .ret) .skip))) (.ops [⟨(some 28), (.move (.t 5)), none⟩, ⟨(some 29), (.bin .add (.t 28) (.c (.im (.int .i64 1)))), none⟩, ⟨(some 5), (.move (.t 29)), none⟩] [])))
def c31_0 : ACode := .loop b31_0
theorem e31_0 {R : Type} (Φ : Oracle) (Λ' : ACode → List AV → Heap → Option Out) (tm : List AV) (H : Heap) (K : AEx → List AV → Heap → Option R) : exec0 Φ Λ' c31_0 tm H K = thenL (Λ' c31_0 tm H) K := rfl
theorem l31_0 (tm : List AV) (H : Heap) : Λ c31_0 tm H = exec0 L Λ b31_0 tm H fun e tm H => match e with
    | .normal => Λ c31_0 tm H
    | .exit i => some (.exit i, tm, H)
    | .goto l => some (.goto l, tm, H)
    | .ret => some (.ret, tm, H) := loop_eq
def f31 : AFunc := ⟨39, [(4, none)], (.seq (.ops [⟨(some 2), (.box none (.t 0)), none⟩, ⟨(some 4), (.move (.c (.im (.bool false)))), none⟩] []) (.seq (.seq (.ops [⟨(some 6), (.move (.t 1)), none⟩, ⟨(some 7), (.bin .eql (.t 6) (.c (.im (.int .i64 0)))), none⟩, ⟨(some 8), (.move (.t 7)), none⟩, ⟨(some 9), (.fieldAddr 0 (.t 2)), (some (8, false))⟩, ⟨(some 10), (.load none (.t 9)), (some (8, false))⟩, ⟨(some 11), (.call (.c (.clo 22 [])) [(.t 10)]), (some (8, false))⟩, ⟨(some 12), (.bin .eql (.t 11) (.c (.im (.str [])))), (some (8, false))⟩, ⟨(some 13), (.pick (.t 8) (.c (.im (.bool true))) (.t 12)), none⟩, ⟨(some 14), (.move (.t 13)), none⟩, ⟨(some 15), (.fieldAddr 1 (.t 2)), (some (14, false))⟩, ⟨(some 16), (.load none (.t 15)), (some (14, false))⟩, ⟨(some 17), (.lenSl (.t 16)), (some (14, false))⟩, ⟨(some 18), (.fieldAddr 0 (.t 2)), (some (14, false))⟩, ⟨(some 19), (.load none (.t 18)), (some (14, false))⟩, ⟨(some 20), (.call (.c (.clo 23 [])) [(.t 19)]), (some (14, false))⟩, ⟨(some 21), (.bin .neq (.t 17) (.t 20)), (some (14, false))⟩, ⟨(some 22), (.pick (.t 14) (.c (.im (.bool true))) (.t 21)), none⟩] [(10, 14)]) (.cond (.t 22) (.seq (.ops [⟨(some 4), (.move (.c (.im (.bool false)))), none⟩] []) .ret) .skip)) (.seq (.seq (.ops [⟨(some 5), (.move (.c (.im (.int .i64 0)))), none⟩] []) (.block 0 c31_0)) (.seq (.ops [⟨(some 4), (.move (.c (.im (.bool true)))), none⟩] []) .ret)))), false⟩
theorem F31 : F 31 = some f31 := by kernel_rfl
def f35 : AFunc := ⟨16, [(4, none)], (.seq (.ops [⟨(some 2), (.box none (.t 0)), none⟩, ⟨(some 3), (.box none (.t 1)), none⟩, ⟨(some 4), (.move (.c (.im (.bool false)))), none⟩] []) (.seq (.ops [⟨(some 5), (.fieldAddr 0 (.t 2)), none⟩, ⟨(some 6), (.load none (.t 5)), none⟩, ⟨(some 7), (.fieldAddr 0 (.t 3)), none⟩, ⟨(some 8), (.load none (.t 7)), none⟩, ⟨(some 9), (.bin .eql (.t 6) (.t 8)), none⟩, ⟨(some 10), (.move (.t 9)), none⟩, ⟨(some 11), (.load (some 5) (.t 2)), (some (10, true))⟩, ⟨(some 12), (.load (some 5) (.t 3)), (some (10, true))⟩, ⟨(some 13), (.call (.c (.clo 61 [])) [(.t 11), (.t 12)]), (some (10, true))⟩, ⟨(some 14), (.bin .eql (.t 13) (.c (.im (.int .i64 0)))), (some (10, true))⟩, ⟨(some 15), (.pick (.t 10) (.t 14) (.c (.im (.bool false)))), none⟩, ⟨(some 4), (.move (.t 15)), none⟩] []) .ret)), false⟩
theorem F35 : F 35 = some f35 := by kernel_rfl
def b37_0 : ACode := (.seq (.ops [⟨(some 11), (.bin .lss (.t 10) (.t 9)), none⟩] []) (.seq (.cond (.t 11) .skip (.exit 0)) (.seq (.block 1 (.seq (.ops [⟨(some 12), (.indexSl 5 (.t 8) (.t 10)), none⟩, ⟨(some 13), (.load (some 5) (.t 12)), none⟩, ⟨(some 7), (.alloc none [(.im (.int .i64 0)), (.im (.int .i64 0)), (.im (.str [])), (.im (.cpx .f64 0 0)), .nils]), none⟩, ⟨none, (.store 5 (.t 7) (.t 13)), none⟩] []) (.seq (.ops [⟨(some 14), (.load (some 5) (.t 7)), none⟩, ⟨(some 15), (.call (.c (.clo 62 [])) [(.t 14), (.t 5), (.c (.im (.int .i64 30)))]), none⟩, ⟨(some 16), (.un .not (.t 15)), none⟩] []) (.cond (.t 16) (.seq (.ops [⟨(some 4), (.move (.c (.im (.bool false)))), none⟩] []) .ret) .skip)))) (.ops [⟨(some 17), (.bin .add (.t 10) (.c (.im (.int .i64 1)))), none⟩, ⟨(some 10), (.move (.t 17)), none⟩] []))))
def c37_0 : ACode := .loop b37_0
theorem e37_0 {R : Type} (Φ : Oracle) (Λ' : ACode → List AV → Heap → Option Out) (tm : List AV) (H : Heap) (K : AEx → List AV → Heap → Option R) : exec0 Φ Λ' c37_0 tm H K = thenL (Λ' c37_0 tm H) K := rfl
theorem l37_0 (tm : List AV) (H : Heap) : Λ c37_0 tm H = exec0 L Λ b37_0 tm H fun e tm H => match e with
    | .normal => Λ c37_0 tm H
    | .exit i => some (.exit i, tm, H)
    | .goto l => some (.goto l, tm, H)
    | .ret => some (.ret, tm, H) := loop_eq
def f37 : AFunc := ⟨20, [(4, none)], (.seq (.ops [⟨(some 2), (.box none (.t 0)), none⟩, ⟨(some 4), (.move (.c (.im (.bool false)))), none⟩] []) (.seq (.ops [⟨(some 5), (.alloc none [(.im (.int .i64 0))]), none⟩, ⟨none, (.store 1 (.t 5) (.c (.im (.int .i64 20000)))), none⟩] []) (.seq (.seq (.ops [⟨(some 8), (.move (.t 1)), none⟩, ⟨(some 9), (.lenSl (.t 8)), none⟩, ⟨(some 10), (.move (.c (.im (.int .i64 0)))), none⟩] []) (.block 0 c37_0)) (.seq (.ops [⟨(some 18), (.load (some 2) (.t 2)), none⟩, ⟨(some 19), (.call (.c (.clo 63 [])) [(.t 18), (.t 5), (.c (.im (.int .i64 30)))]), none⟩, ⟨(some 4), (.move (.t 19)), none⟩] []) .ret)))), false⟩
theorem F37 : F 37 = some f37 := by kernel_rfl
def f38 : AFunc := ⟨17, [(0, none)], (.seq (.ops [⟨(some 0), (.move (.c (.im (.bool false)))), none⟩] []) (.seq (.ops [⟨(some 4), (.build [(.im (.int .i64 0)), .nils] [(0, (1, (.c (.im (.int .i64 3)))))]), none⟩, ⟨(some 5), (.build [(.im (.int .i64 0)), (.im (.int .i64 0)), (.im (.str [])), (.im (.cpx .f64 0 0)), .nils] [(0, (1, (.c (.im (.int .i64 3))))), (2, (1, (.c (.im (.str [97])))))]), none⟩, ⟨(some 6), (.bslice false 5 1 [(.im (.int .i64 0)), (.im (.int .i64 0)), (.im (.str [])), (.im (.cpx .f64 0 0)), .nils] [(0, (.t 5))]), none⟩, ⟨(some 7), (.call (.c (.clo 64 [])) [(.t 4), (.t 6)]), none⟩, ⟨(some 3), (.move (.t 7)), none⟩, ⟨(some 8), (.extract 0 (.t 3)), none⟩, ⟨(some 9), (.extract 1 (.t 3)), none⟩, ⟨(some 1), (.move (.t 8)), none⟩, ⟨(some 2), (.move (.t 9)), none⟩] []) (.seq (.ops [⟨(some 10), (.move (.t 2)), none⟩, ⟨(some 11), (.bin .eql (.t 10) (.c (.im (.int .i64 0)))), none⟩, ⟨(some 12), (.move (.t 11)), none⟩, ⟨(some 13), (.move (.t 1)), (some (12, true))⟩, ⟨(some 14), (.b2s (.t 13)), (some (12, true))⟩, ⟨(some 15), (.bin .eql (.t 14) (.c (.im (.str [97, 0, 0])))), (some (12, true))⟩, ⟨(some 16), (.pick (.t 12) (.t 15) (.c (.im (.bool false)))), none⟩, ⟨(some 0), (.move (.t 16)), none⟩] []) .ret))), false⟩
theorem F38 : F 38 = some f38 := by kernel_rfl
def f39 : AFunc := ⟨7, [(2, none)], (.seq (.ops [⟨(some 2), (.move (.c .nils)), none⟩] []) (.seq (.ops [⟨(some 3), (.move (.c .nils)), none⟩] []) (.seq (.ops [⟨(some 4), (.move (.t 3)), none⟩, ⟨(some 5), (.move (.t 0)), none⟩, ⟨(some 6), (.append 5 1 1 (.t 4) (.t 5)), none⟩, ⟨(some 2), (.move (.t 6)), none⟩] []) .ret))), false⟩
theorem F39 : F 39 = some f39 := by kernel_rfl
def f40 : AFunc := ⟨29, [(4, (some (some 5))), (5, none), (6, none)], (.seq (.ops [⟨(some 2), (.box none (.t 0)), none⟩, ⟨(some 4), (.alloc none [(.im (.int .i64 0)), (.im (.int .i64 0)), (.im (.str [])), (.im (.cpx .f64 0 0)), .nils]), none⟩, ⟨(some 5), (.move (.c (.im (.int .i64 0)))), none⟩, ⟨(some 6), (.move (.c (.im (.int .i64 0)))), none⟩] []) (.seq (.ops [⟨(some 9), (.load (some 2) (.t 2)), none⟩, ⟨(some 10), (.move (.t 1)), none⟩, ⟨(some 11), (.call (.c (.clo 42 [])) [(.t 9), (.t 10)]), none⟩, ⟨(some 8), (.move (.t 11)), none⟩, ⟨(some 12), (.extract 0 (.t 8)), none⟩, ⟨(some 13), (.extract 1 (.t 8)), none⟩, ⟨(some 14), (.extract 2 (.t 8)), none⟩, ⟨none, (.store 5 (.t 4) (.t 12)), none⟩, ⟨(some 7), (.move (.t 13)), none⟩, ⟨(some 6), (.move (.t 14)), none⟩] []) (.seq (.block 0 (.seq (.ops [⟨(some 16), (.move (.t 6)), none⟩, ⟨(some 17), (.bin .neq (.t 16) (.c (.im (.int .i64 0)))), none⟩, ⟨(some 15), (.move (.t 17)), none⟩] []) (.cond (.t 15) (.seq (.ops [⟨(some 18), (.build [(.im (.int .i64 0)), (.im (.int .i64 0)), (.im (.str [])), (.im (.cpx .f64 0 0)), .nils] []), none⟩, ⟨(some 19), (.move (.t 7)), none⟩, ⟨(some 20), (.move (.t 6)), none⟩, ⟨none, (.store 5 (.t 4) (.t 18)), none⟩, ⟨(some 5), (.move (.t 19)), none⟩, ⟨(some 6), (.move (.t 20)), none⟩] []) .ret) (.seq (.ops [⟨(some 22), (.move (.t 7)), none⟩, ⟨(some 23), (.move (.t 1)), none⟩, ⟨(some 24), (.lenSl (.t 23)), none⟩, ⟨(some 25), (.bin .lss (.t 22) (.t 24)), none⟩, ⟨(some 21), (.move (.t 25)), none⟩] []) (.cond (.t 21) (.seq (.ops [⟨(some 26), (.build [(.im (.int .i64 0)), (.im (.int .i64 0)), (.im (.str [])), (.im (.cpx .f64 0 0)), .nils] []), none⟩, ⟨(some 27), (.move (.t 7)), none⟩, ⟨none, (.store 5 (.t 4) (.t 26)), none⟩, ⟨(some 5), (.move (.t 27)), none⟩, ⟨(some 6), (.move (.c (.im (.int .i64 31)))), none⟩] []) .ret) .skip))))) (.seq (.ops [⟨(some 28), (.load (some 5) (.t 4)), none⟩, ⟨none, (.store 5 (.t 4) (.t 28)), none⟩, ⟨(some 5), (.move (.c (.im (.int .i64 0)))), none⟩, ⟨(some 6), (.move (.c (.im (.int .i64 0)))), none⟩] []) .ret)))), false⟩
theorem F40 : F 40 = some f40 := by kernel_rfl
def b41_0 : ACode := (.seq (.ops [⟨(some 10), (.bin .lss (.t 9) (.t 8)), none⟩] []) (.seq (.cond (.t 10) .skip (.exit 0)) (.seq (.block 1 (.seq (.ops [⟨(some 11), (.indexSl 2 (.t 7) (.t 9)), none⟩, ⟨(some 12), (.load (some 2) (.t 11)), none⟩, ⟨(some 5), (.alloc none [(.im (.int .i64 0)), .nils]), none⟩, ⟨none, (.store 2 (.t 5) (.t 12)), none⟩] []) (.ops [⟨(some 13), (.move (.t 3)), none⟩, ⟨(some 14), (.load (some 2) (.t 5)), none⟩, ⟨(some 15), (.call (.c (.clo 41 [])) [(.t 14)]), none⟩, ⟨(some 16), (.bslice false 2 1 [(.im (.int .i64 0)), .nils] [(0, (.t 15))]), none⟩, ⟨(some 17), (.append 25 32 2 (.t 13) (.t 16)), none⟩, ⟨(some 3), (.move (.t 17)), none⟩] []))) (.ops [⟨(some 18), (.bin .add (.t 9) (.c (.im (.int .i64 1)))), none⟩, ⟨(some 9), (.move (.t 18)), none⟩] []))))
def c41_0 : ACode := .loop b41_0
theorem e41_0 {R : Type} (Φ : Oracle) (Λ' : ACode → List AV → Heap → Option Out) (tm : List AV) (H : Heap) (K : AEx → List AV → Heap → Option R) : exec0 Φ Λ' c41_0 tm H K = thenL (Λ' c41_0 tm H) K := rfl
theorem l41_0 (tm : List AV) (H : Heap) : Λ c41_0 tm H = exec0 L Λ b41_0 tm H fun e tm H => match e with
    | .normal => Λ c41_0 tm H
    | .exit i => some (.exit i, tm, H)
    | .goto l => some (.goto l, tm, H)
    | .ret => some (.ret, tm, H) := loop_eq
def f41 : AFunc := ⟨23, [(2, (some (some 2)))], (.seq (.ops [⟨(some 1), (.box none (.t 0)), none⟩, ⟨(some 2), (.alloc none [(.im (.int .i64 0)), .nils]), none⟩] []) (.seq (.ops [⟨(some 3), (.move (.c .nils)), none⟩] []) (.seq (.seq (.ops [⟨(some 6), (.fieldAddr 1 (.t 1)), none⟩, ⟨(some 7), (.load none (.t 6)), none⟩, ⟨(some 8), (.lenSl (.t 7)), none⟩, ⟨(some 9), (.move (.c (.im (.int .i64 0)))), none⟩] []) (.block 0 c41_0)) (.seq (.ops [⟨(some 19), (.fieldAddr 0 (.t 1)), none⟩, ⟨(some 20), (.load none (.t 19)), none⟩, ⟨(some 21), (.move (.t 3)), none⟩, ⟨(some 22), (.build [(.im (.int .i64 0)), .nils] [(0, (1, (.t 20))), (1, (1, (.t 21)))]), none⟩, ⟨none, (.store 2 (.t 2) (.t 22)), none⟩] []) .ret)))), false⟩
theorem F41 : F 41 = some f41 := by kernel_rfl
def f42 : AFunc := ⟨42, [(4, (some (some 5))), (5, none), (6, none)], (.seq (.ops [⟨(some 2), (.box none (.t 0)), none⟩, ⟨(some 4), (.alloc none [(.im (.int .i64 0)), (.im (.int .i64 0)), (.im (.str [])), (.im (.cpx .f64 0 0)), .nils]), none⟩, ⟨(some 5), (.move (.c (.im (.int .i64 0)))), none⟩, ⟨(some 6), (.move (.c (.im (.int .i64 0)))), none⟩] []) (.seq (.seq (.ops [⟨(some 9), (.load (some 2) (.t 2)), none⟩, ⟨(some 10), (.call (.c (.clo 19 [])) [(.t 9)]), none⟩, ⟨(some 7), (.move (.t 10)), none⟩] []) (.seq (.ops [⟨(some 11), (.move (.t 7)), none⟩, ⟨(some 12), (.bin .neq (.t 11) (.c (.im (.int .i64 0)))), none⟩] []) (.cond (.t 12) (.seq (.ops [⟨(some 13), (.build [(.im (.int .i64 0)), (.im (.int .i64 0)), (.im (.str [])), (.im (.cpx .f64 0 0)), .nils] []), none⟩, ⟨(some 14), (.move (.t 7)), none⟩, ⟨none, (.store 5 (.t 4) (.t 13)), none⟩, ⟨(some 5), (.move (.c (.im (.int .i64 0)))), none⟩, ⟨(some 6), (.move (.t 14)), none⟩] []) .ret) .skip))) (.seq (.ops [⟨(some 15), (.move (.t 1)), none⟩, ⟨(some 16), (.load (some 2) (.t 2)), none⟩, ⟨(some 17), (.call (.c (.clo 65 [])) [(.t 16)]), none⟩, ⟨(some 18), (.build [.nils, (.im (.int .i64 0)), (.im (.int .i64 0)), (.im (.int .i64 0))] [(0, (1, (.t 15))), (2, (1, (.t 17)))]), none⟩, ⟨(some 19), (.box none (.t 18)), none⟩, ⟨(some 8), (.move (.t 19)), none⟩] []) (.seq (.ops [⟨(some 20), (.move (.t 8)), none⟩, ⟨(some 21), (.load (some 2) (.t 2)), none⟩, ⟨(some 22), (.call (.c (.clo 66 [])) [(.t 20), (.t 21)]), none⟩, ⟨none, (.store 5 (.t 4) (.t 22)), none⟩] []) (.seq (.seq (.ops [⟨(some 23), (.move (.t 8)), none⟩, ⟨(some 24), (.nilCheck (.t 23)), none⟩, ⟨(some 25), (.fieldAddr 3 (.t 24)), none⟩, ⟨(some 26), (.load none (.t 25)), none⟩, ⟨(some 27), (.bin .neq (.t 26) (.c (.im (.int .i64 0)))), none⟩] []) (.cond (.t 27) (.seq (.ops [⟨(some 28), (.build [(.im (.int .i64 0)), (.im (.int .i64 0)), (.im (.str [])), (.im (.cpx .f64 0 0)), .nils] []), none⟩, ⟨(some 29), (.move (.t 8)), none⟩, ⟨(some 30), (.nilCheck (.t 29)), none⟩, ⟨(some 31), (.fieldAddr 1 (.t 30)), none⟩, ⟨(some 32), (.load none (.t 31)), none⟩, ⟨(some 33), (.move (.t 8)), none⟩, ⟨(some 34), (.nilCheck (.t 33)), none⟩, ⟨(some 35), (.fieldAddr 3 (.t 34)), none⟩, ⟨(some 36), (.load none (.t 35)), none⟩, ⟨none, (.store 5 (.t 4) (.t 28)), none⟩, ⟨(some 5), (.move (.t 32)), none⟩, ⟨(some 6), (.move (.t 36)), none⟩] [(4, 9), (8, 9)]) .ret) .skip)) (.seq (.ops [⟨(some 37), (.load (some 5) (.t 4)), none⟩, ⟨(some 38), (.move (.t 8)), none⟩, ⟨(some 39), (.nilCheck (.t 38)), none⟩, ⟨(some 40), (.fieldAddr 1 (.t 39)), none⟩, ⟨(some 41), (.load none (.t 40)), none⟩, ⟨none, (.store 5 (.t 4) (.t 37)), none⟩, ⟨(some 5), (.move (.t 41)), none⟩, ⟨(some 6), (.move (.c (.im (.int .i64 0)))), none⟩] [(4, 5)]) .ret)))))), false⟩
theorem F42 : F 42 = some f42 := by kernel_rfl
def f43 : AFunc := ⟨16, [(4, (some (some 5))), (5, none), (6, none)], (.seq (.ops [⟨(some 2), (.box none (.t 0)), none⟩, ⟨(some 4), (.alloc none [(.im (.int .i64 0)), (.im (.int .i64 0)), (.im (.str [])), (.im (.cpx .f64 0 0)), .nils]), none⟩, ⟨(some 5), (.move (.c (.im (.int .i64 0)))), none⟩, ⟨(some 6), (.move (.c (.im (.int .i64 0)))), none⟩] []) (.seq (.ops [⟨(some 8), (.load (some 2) (.t 2)), none⟩, ⟨(some 9), (.call (.c (.clo 67 [])) [(.t 8)]), none⟩, ⟨(some 7), (.alloc none [(.im (.int .i64 0))]), none⟩, ⟨none, (.store 1 (.t 7) (.t 9)), none⟩] []) (.seq (.ops [⟨(some 10), (.load (some 2) (.t 2)), none⟩, ⟨(some 11), (.move (.t 1)), none⟩, ⟨(some 12), (.call (.c (.clo 68 [])) [(.t 10), (.t 11), (.c (.im (.int .i64 0))), (.t 7)]), none⟩, ⟨(some 13), (.extract 0 (.t 12)), none⟩, ⟨(some 14), (.extract 1 (.t 12)), none⟩, ⟨(some 15), (.extract 2 (.t 12)), none⟩, ⟨none, (.store 5 (.t 4) (.t 13)), none⟩, ⟨(some 5), (.move (.t 14)), none⟩, ⟨(some 6), (.move (.t 15)), none⟩] []) .ret))), false⟩
theorem F43 : F 43 = some f43 := by kernel_rfl
def f44 : AFunc := ⟨10, [(4, none)], (.seq (.ops [⟨(some 4), (.move (.c (.im (.bool false)))), none⟩] []) (.seq (.ops [⟨(some 5), (.move (.t 0)), none⟩, ⟨(some 6), (.b2s (.t 5)), none⟩, ⟨(some 7), (.move (.t 1)), none⟩, ⟨(some 8), (.b2s (.t 7)), none⟩, ⟨(some 9), (.bin .eql (.t 6) (.t 8)), none⟩, ⟨(some 4), (.move (.t 9)), none⟩] []) .ret)), false⟩
theorem F44 : F 44 = some f44 := by kernel_rfl
def f54 : AFunc := ⟨11, [(2, none)], (.seq (.ops [⟨(some 2), (.move (.c (.im (.flt .f64 0)))), none⟩] []) (.seq (.ops [⟨(some 3), (.move (.t 0)), none⟩, ⟨(some 4), (.bin .and (.t 3) (.c (.im (.int .i64 2097151)))), none⟩, ⟨(some 0), (.move (.t 4)), none⟩] []) (.seq (.seq (.ops [⟨(some 5), (.move (.t 0)), none⟩, ⟨(some 6), (.bin .geq (.t 5) (.c (.im (.int .i64 1048576)))), none⟩] []) (.cond (.t 6) (.ops [⟨(some 7), (.move (.t 0)), none⟩, ⟨(some 8), (.bin .sub (.t 7) (.c (.im (.int .i64 2097152)))), none⟩, ⟨(some 0), (.move (.t 8)), none⟩] []) .skip)) (.seq (.ops [⟨(some 9), (.move (.t 0)), none⟩, ⟨(some 10), (.i2f .f64 (.t 9)), none⟩, ⟨(some 2), (.move (.t 10)), none⟩] []) .ret)))), false⟩
theorem F54 : F 54 = some f54 := by kernel_rfl
def b57_0 : ACode := (.seq (.ops [⟨(some 10), (.bin .lss (.t 9) (.t 8)), none⟩] []) (.seq (.cond (.t 10) .skip (.exit 0)) (.seq (.block 1 (.seq (.ops [⟨(some 11), (.indexSl 5 (.t 7) (.t 9)), none⟩, ⟨(some 12), (.load (some 5) (.t 11)), none⟩, ⟨(some 6), (.alloc none [(.im (.int .i64 0)), (.im (.int .i64 0)), (.im (.str [])), (.im (.cpx .f64 0 0)), .nils]), none⟩, ⟨none, (.store 5 (.t 6) (.t 12)), none⟩] []) (.seq (.seq (.ops [⟨(some 13), (.fieldAddr 0 (.t 6)), none⟩, ⟨(some 14), (.load none (.t 13)), none⟩, ⟨(some 15), (.bin .neq (.t 14) (.c (.im (.int .i64 5)))), none⟩, ⟨(some 16), (.move (.t 15)), none⟩, ⟨(some 17), (.load (some 5) (.t 6)), (some (16, false))⟩, ⟨(some 18), (.call (.c (.clo 58 [])) [(.t 17)]), (some (16, false))⟩, ⟨(some 19), (.bin .neq (.t 18) (.c (.im (.int .i64 0)))), (some (16, false))⟩, ⟨(some 20), (.pick (.t 16) (.c (.im (.bool true))) (.t 19)), none⟩] []) (.cond (.t 20) (.seq (.ops [⟨(some 2), (.move (.c .nils)), none⟩, ⟨(some 3), (.move (.c (.im (.int .i64 10)))), none⟩] []) .ret) .skip)) (.ops [⟨(some 21), (.move (.t 4)), none⟩, ⟨(some 22), (.fieldAddr 3 (.t 6)), none⟩, ⟨(some 23), (.load none (.t 22)), none⟩, ⟨(some 24), (.bslice false 1 1 [(.im (.cpx .f64 0 0))] [(0, (.t 23))]), none⟩, ⟨(some 25), (.append 53 16 1 (.t 21) (.t 24)), none⟩, ⟨(some 4), (.move (.t 25)), none⟩] [])))) (.ops [⟨(some 26), (.bin .add (.t 9) (.c (.im (.int .i64 1)))), none⟩, ⟨(some 9), (.move (.t 26)), none⟩] []))))
def c57_0 : ACode := .loop b57_0
theorem e57_0 {R : Type} (Φ : Oracle) (Λ' : ACode → List AV → Heap → Option Out) (tm : List AV) (H : Heap) (K : AEx → List AV → Heap → Option R) : exec0 Φ Λ' c57_0 tm H K = thenL (Λ' c57_0 tm H) K := rfl
theorem l57_0 (tm : List AV) (H : Heap) : Λ c57_0 tm H = exec0 L Λ b57_0 tm H fun e tm H => match e with
    | .normal => Λ c57_0 tm H
    | .exit i => some (.exit i, tm, H)
    | .goto l => some (.goto l, tm, H)
    | .ret => some (.ret, tm, H) := loop_eq
def f57 : AFunc := ⟨28, [(2, none), (3, none)], (.seq (.ops [⟨(some 2), (.move (.c .nils)), none⟩, ⟨(some 3), (.move (.c (.im (.int .i64 0)))), none⟩] []) (.seq (.ops [⟨(some 4), (.move (.c .nils)), none⟩] []) (.seq (.seq (.ops [⟨(some 7), (.move (.t 0)), none⟩, ⟨(some 8), (.lenSl (.t 7)), none⟩, ⟨(some 9), (.move (.c (.im (.int .i64 0)))), none⟩] []) (.block 0 c57_0)) (.seq (.ops [⟨(some 27), (.move (.t 4)), none⟩, ⟨(some 2), (.move (.t 27)), none⟩, ⟨(some 3), (.move (.c (.im (.int .i64 0)))), none⟩] []) .ret)))), false⟩
theorem F57 : F 57 = some f57 := by kernel_rfl
def f58 : AFunc := ⟨14, [(2, none)], (.seq (.ops [⟨(some 1), (.box none (.t 0)), none⟩, ⟨(some 2), (.move (.c (.im (.int .i64 0)))), none⟩] []) (.seq (.seq (.ops [⟨(some 7), (.load (some 5) (.t 1)), none⟩, ⟨(some 8), (.call (.c (.clo 87 [])) [(.t 7)]), none⟩, ⟨(some 6), (.move (.t 8)), none⟩, ⟨(some 9), (.extract 0 (.t 6)), none⟩, ⟨(some 10), (.extract 1 (.t 6)), none⟩, ⟨(some 11), (.extract 2 (.t 6)), none⟩, ⟨(some 3), (.move (.t 9)), none⟩, ⟨(some 4), (.move (.t 10)), none⟩, ⟨(some 5), (.move (.t 11)), none⟩] []) (.seq (.ops [⟨(some 12), (.move (.t 5)), none⟩, ⟨(some 13), (.un .not (.t 12)), none⟩] []) (.cond (.t 13) (.seq (.ops [⟨(some 2), (.move (.c (.im (.int .i64 10)))), none⟩] []) .ret) .skip))) (.seq (.ops [⟨(some 2), (.move (.c (.im (.int .i64 0)))), none⟩] []) .ret))), false⟩
theorem F58 : F 58 = some f58 := by kernel_rfl
def b61_0 : ACode := (.seq (.seq (.ops [⟨(some 59), (.move (.t 6)), none⟩, ⟨(some 60), (.fieldAddr 4 (.t 2)), none⟩, ⟨(some 61), (.load none (.t 60)), none⟩, ⟨(some 62), (.lenSl (.t 61)), none⟩, ⟨(some 63), (.bin .lss (.t 59) (.t 62)), none⟩, ⟨(some 64), (.move (.t 63)), none⟩, ⟨(some 65), (.move (.t 6)), (some (64, true))⟩, ⟨(some 66), (.fieldAddr 4 (.t 3)), (some (64, true))⟩, ⟨(some 67), (.load none (.t 66)), (some (64, true))⟩, ⟨(some 68), (.lenSl (.t 67)), (some (64, true))⟩, ⟨(some 69), (.bin .lss (.t 65) (.t 68)), (some (64, true))⟩, ⟨(some 70), (.pick (.t 64) (.t 69) (.c (.im (.bool false)))), none⟩] []) (.cond (.t 70) .skip (.exit 1))) (.seq (.block 2 (.seq (.ops [⟨(some 73), (.fieldAddr 4 (.t 2)), none⟩, ⟨(some 74), (.load none (.t 73)), none⟩, ⟨(some 75), (.move (.t 6)), none⟩, ⟨(some 76), (.indexSl 5 (.t 74) (.t 75)), none⟩, ⟨(some 77), (.load (some 5) (.t 76)), none⟩, ⟨(some 78), (.fieldAddr 4 (.t 3)), none⟩, ⟨(some 79), (.load none (.t 78)), none⟩, ⟨(some 80), (.move (.t 6)), none⟩, ⟨(some 81), (.indexSl 5 (.t 79) (.t 80)), none⟩, ⟨(some 82), (.load (some 5) (.t 81)), none⟩, ⟨(some 83), (.call (.c (.clo 61 [])) [(.t 77), (.t 82)]), none⟩, ⟨(some 7), (.move (.t 83)), none⟩] []) (.seq (.ops [⟨(some 84), (.move (.t 7)), none⟩, ⟨(some 85), (.bin .neq (.t 84) (.c (.im (.int .i64 0)))), none⟩] []) (.cond (.t 85) (.seq (.ops [⟨(some 86), (.move (.t 7)), none⟩, ⟨(some 4), (.move (.t 86)), none⟩] []) .ret) .skip)))) (.ops [⟨(some 71), (.move (.t 6)), none⟩, ⟨(some 72), (.bin .add (.t 71) (.c (.im (.int .i64 1)))), none⟩, ⟨(some 6), (.move (.t 72)), none⟩] [])))
def c61_0 : ACode := .loop b61_0
theorem e61_0 {R : Type} (Φ : Oracle) (Λ' : ACode → List AV → Heap → Option Out) (tm : List AV) (H : Heap) (K : AEx → List AV → Heap → Option R) : exec0 Φ Λ' c61_0 tm H K = thenL (Λ' c61_0 tm H) K := rfl
theorem l61_0 (tm : List AV) (H : Heap) : Λ c61_0 tm H = exec0 L Λ b61_0 tm H fun e tm H => match e with
    | .normal => Λ c61_0 tm H
    | .exit i => some (.exit i, tm, H)
    | .goto l => some (.goto l, tm, H)
    | .ret => some (.ret, tm, H) := loop_eq
def f61 : AFunc := ⟨94, [(4, none)], (.seq (.ops [⟨(some 2), (.box none (.t 0)), none⟩, ⟨(some 3), (.box none (.t 1)), none⟩, ⟨(some 4), (.move (.c (.im (.int .i64 0)))), none⟩] []) (.seq (.seq (.ops [⟨(some 8), (.fieldAddr 0 (.t 2)), none⟩, ⟨(some 9), (.load none (.t 8)), none⟩, ⟨(some 10), (.fieldAddr 0 (.t 3)), none⟩, ⟨(some 11), (.load none (.t 10)), none⟩, ⟨(some 12), (.bin .neq (.t 9) (.t 11)), none⟩] []) (.cond (.t 12) (.seq (.ops [⟨(some 13), (.fieldAddr 0 (.t 2)), none⟩, ⟨(some 14), (.load none (.t 13)), none⟩, ⟨(some 15), (.fieldAddr 0 (.t 3)), none⟩, ⟨(some 16), (.load none (.t 15)), none⟩, ⟨(some 17), (.call (.c (.clo 88 [])) [(.t 14), (.t 16)]), none⟩, ⟨(some 4), (.move (.t 17)), none⟩] []) .ret) .skip)) (.seq (.seq (.ops [⟨(some 18), (.fieldAddr 0 (.t 2)), none⟩, ⟨(some 19), (.load none (.t 18)), none⟩] []) (.block 0 (.seq (.seq (.ops [⟨(some 21), (.bin .eql (.t 19) (.c (.im (.int .i64 1)))), none⟩, ⟨(some 20), (.move (.t 21)), none⟩] []) (.cond (.t 20) .skip (.ops [⟨(some 22), (.bin .eql (.t 19) (.c (.im (.int .i64 2)))), none⟩, ⟨(some 20), (.move (.t 22)), none⟩] []))) (.cond (.t 20) (.seq (.ops [⟨(some 23), (.fieldAddr 1 (.t 2)), none⟩, ⟨(some 24), (.load none (.t 23)), none⟩, ⟨(some 25), (.fieldAddr 1 (.t 3)), none⟩, ⟨(some 26), (.load none (.t 25)), none⟩, ⟨(some 27), (.call (.c (.clo 88 [])) [(.t 24), (.t 26)]), none⟩, ⟨(some 4), (.move (.t 27)), none⟩] []) .ret) (.seq (.seq (.ops [⟨(some 29), (.bin .eql (.t 19) (.c (.im (.int .i64 3)))), none⟩, ⟨(some 28), (.move (.t 29)), none⟩] []) (.cond (.t 28) .skip (.ops [⟨(some 30), (.bin .eql (.t 19) (.c (.im (.int .i64 4)))), none⟩, ⟨(some 28), (.move (.t 30)), none⟩] []))) (.cond (.t 28) (.seq (.ops [⟨(some 31), (.fieldAddr 2 (.t 2)), none⟩, ⟨(some 32), (.load none (.t 31)), none⟩, ⟨(some 33), (.fieldAddr 2 (.t 3)), none⟩, ⟨(some 34), (.load none (.t 33)), none⟩, ⟨(some 35), (.call (.c (.clo 89 [])) [(.t 32), (.t 34)]), none⟩, ⟨(some 4), (.move (.t 35)), none⟩] []) .ret) (.seq (.ops [⟨(some 37), (.bin .eql (.t 19) (.c (.im (.int .i64 5)))), none⟩, ⟨(some 36), (.move (.t 37)), none⟩] []) (.cond (.t 36) (.seq (.seq (.ops [⟨(some 38), (.fieldAddr 3 (.t 2)), none⟩, ⟨(some 39), (.load none (.t 38)), none⟩, ⟨(some 40), (.real (.t 39)), none⟩, ⟨(some 41), (.f2i .i64 (.t 40)), none⟩, ⟨(some 42), (.fieldAddr 3 (.t 3)), none⟩, ⟨(some 43), (.load none (.t 42)), none⟩, ⟨(some 44), (.real (.t 43)), none⟩, ⟨(some 45), (.f2i .i64 (.t 44)), none⟩, ⟨(some 46), (.call (.c (.clo 88 [])) [(.t 41), (.t 45)]), none⟩, ⟨(some 5), (.move (.t 46)), none⟩] []) (.seq (.ops [⟨(some 47), (.move (.t 5)), none⟩, ⟨(some 48), (.bin .neq (.t 47) (.c (.im (.int .i64 0)))), none⟩] []) (.cond (.t 48) (.seq (.ops [⟨(some 49), (.move (.t 5)), none⟩, ⟨(some 4), (.move (.t 49)), none⟩] []) .ret) .skip))) (.seq (.ops [⟨(some 50), (.fieldAddr 3 (.t 2)), none⟩, ⟨(some 51), (.load none (.t 50)), none⟩, ⟨(some 52), (.imag (.t 51)), none⟩, ⟨(some 53), (.f2i .i64 (.t 52)), none⟩, ⟨(some 54), (.fieldAddr 3 (.t 3)), none⟩, ⟨(some 55), (.load none (.t 54)), none⟩, ⟨(some 56), (.imag (.t 55)), none⟩, ⟨(some 57), (.f2i .i64 (.t 56)), none⟩, ⟨(some 58), (.call (.c (.clo 88 [])) [(.t 53), (.t 57)]), none⟩, ⟨(some 4), (.move (.t 58)), none⟩] []) .ret)) .skip)))))))) (.seq (.seq (.ops [⟨(some 6), (.move (.c (.im (.int .i64 0)))), none⟩] []) (.block 1 c61_0)) (.seq (.ops [⟨(some 87), (.fieldAddr 4 (.t 2)), none⟩, ⟨(some 88), (.load none (.t 87)), none⟩, ⟨(some 89), (.lenSl (.t 88)), none⟩, ⟨(some 90), (.fieldAddr 4 (.t 3)), none⟩, ⟨(some 91), (.load none (.t 90)), none⟩, ⟨(some 92), (.lenSl (.t 91)), none⟩, ⟨(some 93), (.call (.c (.clo 88 [])) [(.t 89), (.t 92)]), none⟩, ⟨(some 4), (.move (.t 93)), none⟩] []) .ret))))), false⟩
theorem F61 : F 61 = some f61 := by kernel_rfl
def b62_0 : ACode := (.seq (.ops [⟨(some 26), (.bin .lss (.t 25) (.t 24)), none⟩] []) (.seq (.cond (.t 26) .skip (.exit 0)) (.seq (.block 1 (.seq (.ops [⟨(some 27), (.indexSl 5 (.t 23) (.t 25)), none⟩, ⟨(some 28), (.load (some 5) (.t 27)), none⟩, ⟨(some 8), (.alloc none [(.im (.int .i64 0)), (.im (.int .i64 0)), (.im (.str [])), (.im (.cpx .f64 0 0)), .nils]), none⟩, ⟨none, (.store 5 (.t 8) (.t 28)), none⟩] []) (.seq (.ops [⟨(some 29), (.load (some 5) (.t 8)), none⟩, ⟨(some 30), (.move (.t 1)), none⟩, ⟨(some 31), (.move (.t 2)), none⟩, ⟨(some 32), (.bin .sub (.t 31) (.c (.im (.int .i64 1)))), none⟩, ⟨(some 33), (.call (.c (.clo 62 [])) [(.t 29), (.t 30), (.t 32)]), none⟩, ⟨(some 34), (.un .not (.t 33)), none⟩] []) (.cond (.t 34) (.seq (.ops [⟨(some 6), (.move (.c (.im (.bool false)))), none⟩] []) .ret) .skip)))) (.ops [⟨(some 35), (.bin .add (.t 25) (.c (.im (.int .i64 1)))), none⟩, ⟨(some 25), (.move (.t 35)), none⟩] []))))
def c62_0 : ACode := .loop b62_0
theorem e62_0 {R : Type} (Φ : Oracle) (Λ' : ACode → List AV → Heap → Option Out) (tm : List AV) (H : Heap) (K : AEx → List AV → Heap → Option R) : exec0 Φ Λ' c62_0 tm H K = thenL (Λ' c62_0 tm H) K := rfl
theorem l62_0 (tm : List AV) (H : Heap) : Λ c62_0 tm H = exec0 L Λ b62_0 tm H fun e tm H => match e with
    | .normal => Λ c62_0 tm H
    | .exit i => some (.exit i, tm, H)
    | .goto l => some (.goto l, tm, H)
    | .ret => some (.ret, tm, H) := loop_eq
def f62 : AFunc := ⟨36, [(6, none)], (.seq (.ops [⟨(some 3), (.box none (.t 0)), none⟩, ⟨(some 6), (.move (.c (.im (.bool false)))), none⟩] []) (.seq (.ops [⟨(some 9), (.move (.t 1)), none⟩, ⟨(some 10), (.nilCheck (.t 9)), none⟩, ⟨(some 11), (.load none (.t 10)), none⟩, ⟨(some 12), (.bin .sub (.t 11) (.c (.im (.int .i64 1)))), none⟩, ⟨(some 13), (.nilCheck (.t 9)), none⟩, ⟨none, (.store 1 (.t 13) (.t 12)), none⟩] []) (.seq (.seq (.ops [⟨(some 14), (.move (.t 1)), none⟩, ⟨(some 15), (.nilCheck (.t 14)), none⟩, ⟨(some 16), (.load none (.t 15)), none⟩, ⟨(some 17), (.bin .lss (.t 16) (.c (.im (.int .i64 0)))), none⟩, ⟨(some 18), (.move (.t 17)), none⟩, ⟨(some 19), (.move (.t 2)), (some (18, false))⟩, ⟨(some 20), (.bin .eql (.t 19) (.c (.im (.int .i64 0)))), (some (18, false))⟩, ⟨(some 21), (.pick (.t 18) (.c (.im (.bool true))) (.t 20)), none⟩] []) (.cond (.t 21) (.seq (.ops [⟨(some 6), (.move (.c (.im (.bool false)))), none⟩] []) .ret) .skip)) (.seq (.seq (.ops [⟨(some 22), (.fieldAddr 4 (.t 3)), none⟩, ⟨(some 23), (.load none (.t 22)), none⟩, ⟨(some 24), (.lenSl (.t 23)), none⟩, ⟨(some 25), (.move (.c (.im (.int .i64 0)))), none⟩] []) (.block 0 c62_0)) (.seq (.ops [⟨(some 6), (.move (.c (.im (.bool true)))), none⟩] []) .ret))))), false⟩
theorem F62 : F 62 = some f62 := by kernel_rfl
def b63_0 : ACode := (.seq (.ops [⟨(some 26), (.bin .lss (.t 25) (.t 24)), none⟩] []) (.seq (.cond (.t 26) .skip (.exit 0)) (.seq (.block 1 (.seq (.ops [⟨(some 27), (.indexSl 2 (.t 23) (.t 25)), none⟩, ⟨(some 28), (.load (some 2) (.t 27)), none⟩, ⟨(some 8), (.alloc none [(.im (.int .i64 0)), .nils]), none⟩, ⟨none, (.store 2 (.t 8) (.t 28)), none⟩] []) (.seq (.ops [⟨(some 29), (.load (some 2) (.t 8)), none⟩, ⟨(some 30), (.move (.t 1)), none⟩, ⟨(some 31), (.move (.t 2)), none⟩, ⟨(some 32), (.bin .sub (.t 31) (.c (.im (.int .i64 1)))), none⟩, ⟨(some 33), (.call (.c (.clo 63 [])) [(.t 29), (.t 30), (.t 32)]), none⟩, ⟨(some 34), (.un .not (.t 33)), none⟩] []) (.cond (.t 34) (.seq (.ops [⟨(some 6), (.move (.c (.im (.bool false)))), none⟩] []) .ret) .skip)))) (.ops [⟨(some 35), (.bin .add (.t 25) (.c (.im (.int .i64 1)))), none⟩, ⟨(some 25), (.move (.t 35)), none⟩] []))))
def c63_0 : ACode := .loop b63_0
theorem e63_0 {R : Type} (Φ : Oracle) (Λ' : ACode → List AV → Heap → Option Out) (tm : List AV) (H : Heap) (K : AEx → List AV → Heap → Option R) : exec0 Φ Λ' c63_0 tm H K = thenL (Λ' c63_0 tm H) K := rfl
theorem l63_0 (tm : List AV) (H : Heap) : Λ c63_0 tm H = exec0 L Λ b63_0 tm H fun e tm H => match e with
    | .normal => Λ c63_0 tm H
    | .exit i => some (.exit i, tm, H)
    | .goto l => some (.goto l, tm, H)
    | .ret => some (.ret, tm, H) := loop_eq
def f63 : AFunc := ⟨36, [(6, none)], (.seq (.ops [⟨(some 3), (.box none (.t 0)), none⟩, ⟨(some 6), (.move (.c (.im (.bool false)))), none⟩] []) (.seq (.ops [⟨(some 9), (.move (.t 1)), none⟩, ⟨(some 10), (.nilCheck (.t 9)), none⟩, ⟨(some 11), (.load none (.t 10)), none⟩, ⟨(some 12), (.bin .sub (.t 11) (.c (.im (.int .i64 1)))), none⟩, ⟨(some 13), (.nilCheck (.t 9)), none⟩, ⟨none, (.store 1 (.t 13) (.t 12)), none⟩] []) (.seq (.seq (.ops [⟨(some 14), (.move (.t 1)), none⟩, ⟨(some 15), (.nilCheck (.t 14)), none⟩, ⟨(some 16), (.load none (.t 15)), none⟩, ⟨(some 17), (.bin .lss (.t 16) (.c (.im (.int .i64 0)))), none⟩, ⟨(some 18), (.move (.t 17)), none⟩, ⟨(some 19), (.move (.t 2)), (some (18, false))⟩, ⟨(some 20), (.bin .eql (.t 19) (.c (.im (.int .i64 0)))), (some (18, false))⟩, ⟨(some 21), (.pick (.t 18) (.c (.im (.bool true))) (.t 20)), none⟩] []) (.cond (.t 21) (.seq (.ops [⟨(some 6), (.move (.c (.im (.bool false)))), none⟩] []) .ret) .skip)) (.seq (.seq (.ops [⟨(some 22), (.fieldAddr 1 (.t 3)), none⟩, ⟨(some 23), (.load none (.t 22)), none⟩, ⟨(some 24), (.lenSl (.t 23)), none⟩, ⟨(some 25), (.move (.c (.im (.int .i64 0)))), none⟩] []) (.block 0 c63_0)) (.seq (.ops [⟨(some 6), (.move (.c (.im (.bool true)))), none⟩] []) .ret))))), false⟩
theorem F63 : F 63 = some f63 := by kernel_rfl
def b64_0 : ACode := (.seq (.ops [⟨(some 18), (.bin .lss (.t 17) (.t 16)), none⟩] []) (.seq (.cond (.t 18) .skip (.exit 0)) (.seq (.block 1 (.seq (.ops [⟨(some 19), (.indexSl 5 (.t 15) (.t 17)), none⟩, ⟨(some 20), (.load (some 5) (.t 19)), none⟩, ⟨(some 9), (.alloc none [(.im (.int .i64 0)), (.im (.int .i64 0)), (.im (.str [])), (.im (.cpx .f64 0 0)), .nils]), none⟩, ⟨none, (.store 5 (.t 9) (.t 20)), none⟩] []) (.seq (.seq (.ops [⟨(some 21), (.load (some 2) (.t 2)), none⟩, ⟨(some 22), (.load (some 5) (.t 9)), none⟩, ⟨(some 23), (.bslice false 5 1 [(.im (.int .i64 0)), (.im (.int .i64 0)), (.im (.str [])), (.im (.cpx .f64 0 0)), .nils] [(0, (.t 22))]), none⟩, ⟨(some 24), (.call (.c (.clo 90 [])) [(.t 21), (.t 23)]), none⟩, ⟨(some 25), (.un .not (.t 24)), none⟩] []) (.cond (.t 25) (.seq (.ops [⟨(some 4), (.move (.c .nils)), none⟩, ⟨(some 5), (.move (.c (.im (.int .i64 10)))), none⟩] []) .ret) .skip)) (.ops [⟨(some 26), (.move (.t 7)), none⟩, ⟨(some 27), (.load (some 2) (.t 2)), none⟩, ⟨(some 28), (.load (some 5) (.t 9)), none⟩, ⟨(some 29), (.call (.c (.clo 91 [])) [(.t 26), (.t 27), (.t 28)]), none⟩, ⟨(some 7), (.move (.t 29)), none⟩] [])))) (.ops [⟨(some 30), (.bin .add (.t 17) (.c (.im (.int .i64 1)))), none⟩, ⟨(some 17), (.move (.t 30)), none⟩] []))))
def c64_0 : ACode := .loop b64_0
theorem e64_0 {R : Type} (Φ : Oracle) (Λ' : ACode → List AV → Heap → Option Out) (tm : List AV) (H : Heap) (K : AEx → List AV → Heap → Option R) : exec0 Φ Λ' c64_0 tm H K = thenL (Λ' c64_0 tm H) K := rfl
theorem l64_0 (tm : List AV) (H : Heap) : Λ c64_0 tm H = exec0 L Λ b64_0 tm H fun e tm H => match e with
    | .normal => Λ c64_0 tm H
    | .exit i => some (.exit i, tm, H)
    | .goto l => some (.goto l, tm, H)
    | .ret => some (.ret, tm, H) := loop_eq
def f64 : AFunc := ⟨32, [(4, none), (5, none)], (.seq (.ops [⟨(some 2), (.box none (.t 0)), none⟩, ⟨(some 4), (.move (.c .nils)), none⟩, ⟨(some 5), (.move (.c (.im (.int .i64 0)))), none⟩] []) (.seq (.seq (.ops [⟨(some 10), (.load (some 2) (.t 2)), none⟩, ⟨(some 11), (.call (.c (.clo 19 [])) [(.t 10)]), none⟩, ⟨(some 6), (.move (.t 11)), none⟩] []) (.seq (.ops [⟨(some 12), (.move (.t 6)), none⟩, ⟨(some 13), (.bin .neq (.t 12) (.c (.im (.int .i64 0)))), none⟩] []) (.cond (.t 13) (.seq (.ops [⟨(some 14), (.move (.t 6)), none⟩, ⟨(some 4), (.move (.c .nils)), none⟩, ⟨(some 5), (.move (.t 14)), none⟩] []) .ret) .skip))) (.seq (.ops [⟨(some 7), (.move (.c .nils)), none⟩] []) (.seq (.seq (.ops [⟨(some 15), (.move (.t 1)), none⟩, ⟨(some 16), (.lenSl (.t 15)), none⟩, ⟨(some 17), (.move (.c (.im (.int .i64 0)))), none⟩] []) (.block 0 c64_0)) (.seq (.ops [⟨(some 31), (.move (.t 7)), none⟩, ⟨(some 4), (.move (.t 31)), none⟩, ⟨(some 5), (.move (.c (.im (.int .i64 0)))), none⟩] []) .ret))))), false⟩
theorem F64 : F 64 = some f64 := by kernel_rfl
def f65 : AFunc := ⟨18, [(2, none)], (.seq (.ops [⟨(some 1), (.box none (.t 0)), none⟩, ⟨(some 2), (.move (.c (.im (.int .i64 0)))), none⟩] []) (.seq (.seq (.ops [⟨(some 3), (.fieldAddr 0 (.t 1)), none⟩, ⟨(some 4), (.load none (.t 3)), none⟩, ⟨(some 5), (.bin .eql (.t 4) (.c (.im (.int .i64 6)))), none⟩] []) (.cond (.t 5) (.seq (.ops [⟨(some 6), (.fieldAddr 1 (.t 1)), none⟩, ⟨(some 7), (.load none (.t 6)), none⟩, ⟨(some 8), (.indexSl 2 (.t 7) (.c (.im (.int .i64 0)))), none⟩, ⟨(some 9), (.load (some 2) (.t 8)), none⟩, ⟨(some 10), (.call (.c (.clo 65 [])) [(.t 9)]), none⟩, ⟨(some 11), (.bin .add (.c (.im (.int .i64 1))) (.t 10)), none⟩, ⟨(some 12), (.fieldAddr 1 (.t 1)), none⟩, ⟨(some 13), (.load none (.t 12)), none⟩, ⟨(some 14), (.indexSl 2 (.t 13) (.c (.im (.int .i64 1)))), none⟩, ⟨(some 15), (.load (some 2) (.t 14)), none⟩, ⟨(some 16), (.call (.c (.clo 65 [])) [(.t 15)]), none⟩, ⟨(some 17), (.bin .add (.t 11) (.t 16)), none⟩, ⟨(some 2), (.move (.t 17)), none⟩] [(7, 4), (9, 4)]) .ret) .skip)) (.seq (.ops [⟨(some 2), (.move (.c (.im (.int .i64 1)))), none⟩] []) .ret))), false⟩
theorem F65 : F 65 = some f65 := by kernel_rfl
def b66_0 : ACode := (.seq (.seq (.ops [⟨(some 68), (.move (.t 0)), none⟩, ⟨(some 69), (.fieldAddr 1 (.t 3)), none⟩, ⟨(some 70), (.load none (.t 69)), none⟩, ⟨(some 71), (.indexSl 2 (.t 70) (.c (.im (.int .i64 0)))), none⟩, ⟨(some 72), (.load (some 2) (.t 71)), none⟩, ⟨(some 73), (.fieldAddr 4 (.t 5)), none⟩, ⟨(some 74), (.load none (.t 73)), none⟩, ⟨(some 75), (.lenSl (.t 74)), none⟩, ⟨(some 76), (.bin .sub (.c (.im (.int .i64 64))) (.t 75)), none⟩, ⟨(some 77), (.call (.c (.clo 95 [])) [(.t 68), (.t 72), (.t 76)]), none⟩] []) (.cond (.t 77) .skip (.exit 3))) (.block 4 (.ops [⟨(some 78), (.fieldAddr 4 (.t 5)), none⟩, ⟨(some 79), (.load none (.t 78)), none⟩, ⟨(some 80), (.move (.t 0)), none⟩, ⟨(some 81), (.fieldAddr 1 (.t 3)), none⟩, ⟨(some 82), (.load none (.t 81)), none⟩, ⟨(some 83), (.indexSl 2 (.t 82) (.c (.im (.int .i64 0)))), none⟩, ⟨(some 84), (.load (some 2) (.t 83)), none⟩, ⟨(some 85), (.call (.c (.clo 66 [])) [(.t 80), (.t 84)]), none⟩, ⟨(some 86), (.bslice false 5 1 [(.im (.int .i64 0)), (.im (.int .i64 0)), (.im (.str [])), (.im (.cpx .f64 0 0)), .nils] [(0, (.t 85))]), none⟩, ⟨(some 87), (.append 56 72 5 (.t 79) (.t 86)), none⟩, ⟨(some 88), (.fieldAddr 4 (.t 5)), none⟩, ⟨none, (.store 1 (.t 88) (.t 87)), none⟩] [(1, 7)])))
def c66_0 : ACode := .loop b66_0
theorem e66_0 {R : Type} (Φ : Oracle) (Λ' : ACode → List AV → Heap → Option Out) (tm : List AV) (H : Heap) (K : AEx → List AV → Heap → Option R) : exec0 Φ Λ' c66_0 tm H K = thenL (Λ' c66_0 tm H) K := rfl
theorem l66_0 (tm : List AV) (H : Heap) : Λ c66_0 tm H = exec0 L Λ b66_0 tm H fun e tm H => match e with
    | .normal => Λ c66_0 tm H
    | .exit i => some (.exit i, tm, H)
    | .goto l => some (.goto l, tm, H)
    | .ret => some (.ret, tm, H) := loop_eq
def b66_1 : ACode := (.seq (.ops [⟨(some 23), (.bin .lss (.t 22) (.c (.im (.int .i64 8)))), none⟩] []) (.seq (.cond (.t 23) .skip (.exit 1)) (.seq (.block 2 (.ops [⟨(some 24), (.move (.t 6)), none⟩, ⟨(some 25), (.bin .shl (.t 24) (.c (.im (.int .u64 8)))), none⟩, ⟨(some 26), (.move (.t 0)), none⟩, ⟨(some 27), (.call (.c (.clo 92 [])) [(.t 26), (.c (.im (.int .u8 255)))]), none⟩, ⟨(some 28), (.i2i .u64 (.t 27)), none⟩, ⟨(some 29), (.bin .or (.t 25) (.t 28)), none⟩, ⟨(some 6), (.move (.t 29)), none⟩] [])) (.ops [⟨(some 30), (.bin .add (.t 22) (.c (.im (.int .i64 1)))), none⟩, ⟨(some 22), (.move (.t 30)), none⟩] []))))
def c66_1 : ACode := .loop b66_1
theorem e66_1 {R : Type} (Φ : Oracle) (Λ' : ACode → List AV → Heap → Option Out) (tm : List AV) (H : Heap) (K : AEx → List AV → Heap → Option R) : exec0 Φ Λ' c66_1 tm H K = thenL (Λ' c66_1 tm H) K := rfl
theorem l66_1 (tm : List AV) (H : Heap) : Λ c66_1 tm H = exec0 L Λ b66_1 tm H fun e tm H => match e with
    | .normal => Λ c66_1 tm H
    | .exit i => some (.exit i, tm, H)
    | .goto l => some (.goto l, tm, H)
    | .ret => some (.ret, tm, H) := loop_eq
def f66 : AFunc := ⟨107, [(4, (some (some 5)))], (.seq (.ops [⟨(some 3), (.box none (.t 1)), none⟩, ⟨(some 4), (.alloc none [(.im (.int .i64 0)), (.im (.int .i64 0)), (.im (.str [])), (.im (.cpx .f64 0 0)), .nils]), none⟩] []) (.seq (.ops [⟨(some 9), (.fieldAddr 0 (.t 3)), none⟩, ⟨(some 10), (.load none (.t 9)), none⟩, ⟨(some 11), (.build [(.im (.int .i64 0)), (.im (.int .i64 0)), (.im (.str [])), (.im (.cpx .f64 0 0)), .nils] [(0, (1, (.t 10)))]), none⟩, ⟨(some 5), (.alloc none [(.im (.int .i64 0)), (.im (.int .i64 0)), (.im (.str [])), (.im (.cpx .f64 0 0)), .nils]), none⟩, ⟨none, (.store 5 (.t 5) (.t 11)), none⟩] []) (.seq (.seq (.ops [⟨(some 12), (.fieldAddr 0 (.t 3)), none⟩, ⟨(some 13), (.load none (.t 12)), none⟩] []) (.block 0 (.seq (.ops [⟨(some 15), (.bin .eql (.t 13) (.c (.im (.int .i64 1)))), none⟩, ⟨(some 14), (.move (.t 15)), none⟩] []) (.cond (.t 14) (.ops [⟨(some 16), (.move (.t 0)), none⟩, ⟨(some 17), (.call (.c (.clo 92 [])) [(.t 16), (.c (.im (.int .u8 1)))]), none⟩, ⟨(some 18), (.i2i .i64 (.t 17)), none⟩, ⟨(some 19), (.fieldAddr 1 (.t 5)), none⟩, ⟨none, (.store 1 (.t 19) (.t 18)), none⟩] []) (.seq (.ops [⟨(some 21), (.bin .eql (.t 13) (.c (.im (.int .i64 2)))), none⟩, ⟨(some 20), (.move (.t 21)), none⟩] []) (.cond (.t 20) (.seq (.ops [⟨(some 6), (.move (.c (.im (.int .u64 0)))), none⟩] []) (.seq (.seq (.ops [⟨(some 22), (.move (.c (.im (.int .i64 0)))), none⟩] []) (.block 1 c66_1)) (.ops [⟨(some 31), (.move (.t 6)), none⟩, ⟨(some 32), (.bin .xor (.t 31) (.c (.im (.int .u64 9223372036854775808)))), none⟩, ⟨(some 33), (.i2i .i64 (.t 32)), none⟩, ⟨(some 34), (.fieldAddr 1 (.t 5)), none⟩, ⟨none, (.store 1 (.t 34) (.t 33)), none⟩] []))) (.seq (.seq (.ops [⟨(some 36), (.bin .eql (.t 13) (.c (.im (.int .i64 3)))), none⟩, ⟨(some 35), (.move (.t 36)), none⟩] []) (.cond (.t 35) .skip (.ops [⟨(some 37), (.bin .eql (.t 13) (.c (.im (.int .i64 4)))), none⟩, ⟨(some 35), (.move (.t 37)), none⟩] []))) (.cond (.t 35) (.ops [⟨(some 38), (.move (.t 0)), none⟩, ⟨(some 39), (.call (.c (.clo 93 [])) [(.t 38)]), none⟩, ⟨(some 40), (.fieldAddr 2 (.t 5)), none⟩, ⟨none, (.store 1 (.t 40) (.t 39)), none⟩] []) (.seq (.ops [⟨(some 42), (.bin .eql (.t 13) (.c (.im (.int .i64 5)))), none⟩, ⟨(some 41), (.move (.t 42)), none⟩] []) (.cond (.t 41) (.seq (.ops [⟨(some 43), (.move (.t 0)), none⟩, ⟨(some 44), (.call (.c (.clo 94 [])) [(.t 43)]), none⟩, ⟨(some 7), (.move (.t 44)), none⟩] []) (.ops [⟨(some 45), (.move (.t 7)), none⟩, ⟨(some 46), (.move (.t 0)), none⟩, ⟨(some 47), (.call (.c (.clo 94 [])) [(.t 46)]), none⟩, ⟨(some 48), (.call (.c (.clo 24 [])) [(.t 45), (.t 47)]), none⟩, ⟨none, (.store 5 (.t 5) (.t 48)), none⟩] [])) (.seq (.ops [⟨(some 50), (.bin .eql (.t 13) (.c (.im (.int .i64 6)))), none⟩, ⟨(some 49), (.move (.t 50)), none⟩] []) (.cond (.t 49) (.seq (.ops [⟨(some 51), (.move (.t 0)), none⟩, ⟨(some 52), (.fieldAddr 1 (.t 3)), none⟩, ⟨(some 53), (.load none (.t 52)), none⟩, ⟨(some 54), (.indexSl 2 (.t 53) (.c (.im (.int .i64 0)))), none⟩, ⟨(some 55), (.load (some 2) (.t 54)), none⟩, ⟨(some 56), (.call (.c (.clo 66 [])) [(.t 51), (.t 55)]), none⟩, ⟨(some 8), (.alloc none [(.im (.int .i64 0)), (.im (.int .i64 0)), (.im (.str [])), (.im (.cpx .f64 0 0)), .nils]), none⟩, ⟨none, (.store 5 (.t 8) (.t 56)), none⟩] []) (.ops [⟨(some 57), (.load (some 5) (.t 8)), none⟩, ⟨(some 58), (.move (.t 0)), none⟩, ⟨(some 59), (.fieldAddr 1 (.t 3)), none⟩, ⟨(some 60), (.load none (.t 59)), none⟩, ⟨(some 61), (.indexSl 2 (.t 60) (.c (.im (.int .i64 1)))), none⟩, ⟨(some 62), (.load (some 2) (.t 61)), none⟩, ⟨(some 63), (.call (.c (.clo 66 [])) [(.t 58), (.t 62)]), none⟩, ⟨(some 64), (.bslice false 5 2 [(.im (.int .i64 0)), (.im (.int .i64 0)), (.im (.str [])), (.im (.cpx .f64 0 0)), .nils] [(0, (.t 57)), (1, (.t 63))]), none⟩, ⟨(some 65), (.fieldAddr 4 (.t 5)), none⟩, ⟨none, (.store 1 (.t 65) (.t 64)), none⟩] [(0, 6)])) (.seq (.ops [⟨(some 67), (.bin .eql (.t 13) (.c (.im (.int .i64 7)))), none⟩, ⟨(some 66), (.move (.t 67)), none⟩] []) (.cond (.t 66) (.block 3 c66_0) (.seq (.ops [⟨(some 90), (.bin .eql (.t 13) (.c (.im (.int .i64 9)))), none⟩, ⟨(some 89), (.move (.t 90)), none⟩] []) (.cond (.t 89) (.seq (.ops [⟨(some 91), (.move (.t 0)), none⟩, ⟨(some 92), (.fieldAddr 1 (.t 3)), none⟩, ⟨(some 93), (.load none (.t 92)), none⟩, ⟨(some 94), (.indexSl 2 (.t 93) (.c (.im (.int .i64 0)))), none⟩, ⟨(some 95), (.load (some 2) (.t 94)), none⟩, ⟨(some 96), (.call (.c (.clo 95 [])) [(.t 91), (.t 95), (.c (.im (.int .i64 1)))]), none⟩] []) (.cond (.t 96) (.ops [⟨(some 97), (.move (.t 0)), none⟩, ⟨(some 98), (.fieldAddr 1 (.t 3)), none⟩, ⟨(some 99), (.load none (.t 98)), none⟩, ⟨(some 100), (.indexSl 2 (.t 99) (.c (.im (.int .i64 0)))), none⟩, ⟨(some 101), (.load (some 2) (.t 100)), none⟩, ⟨(some 102), (.call (.c (.clo 66 [])) [(.t 97), (.t 101)]), none⟩, ⟨(some 103), (.bslice false 5 1 [(.im (.int .i64 0)), (.im (.int .i64 0)), (.im (.str [])), (.im (.cpx .f64 0 0)), .nils] [(0, (.t 102))]), none⟩, ⟨(some 104), (.fieldAddr 4 (.t 5)), none⟩, ⟨none, (.store 1 (.t 104) (.t 103)), none⟩] []) (.ops [⟨(some 105), (.fieldAddr 0 (.t 5)), none⟩, ⟨none, (.store 1 (.t 105) (.c (.im (.int .i64 8)))), none⟩] []))) .skip)))))))))))))))) (.seq (.ops [⟨(some 106), (.load (some 5) (.t 5)), none⟩, ⟨none, (.store 5 (.t 4) (.t 106)), none⟩] []) .ret)))), false⟩
theorem F66 : F 66 = some f66 := by kernel_rfl
def f67 : AFunc := ⟨18, [(2, none)], (.seq (.ops [⟨(some 1), (.box none (.t 0)), none⟩, ⟨(some 2), (.move (.c (.im (.int .i64 0)))), none⟩] []) (.seq (.seq (.ops [⟨(some 3), (.fieldAddr 0 (.t 1)), none⟩, ⟨(some 4), (.load none (.t 3)), none⟩, ⟨(some 5), (.bin .neq (.t 4) (.c (.im (.int .i64 6)))), none⟩] []) (.cond (.t 5) (.seq (.ops [⟨(some 2), (.move (.c (.im (.int .i64 1)))), none⟩] []) .ret) .skip)) (.seq (.ops [⟨(some 6), (.fieldAddr 1 (.t 1)), none⟩, ⟨(some 7), (.load none (.t 6)), none⟩, ⟨(some 8), (.indexSl 2 (.t 7) (.c (.im (.int .i64 0)))), none⟩, ⟨(some 9), (.load (some 2) (.t 8)), none⟩, ⟨(some 10), (.call (.c (.clo 67 [])) [(.t 9)]), none⟩, ⟨(some 11), (.bin .add (.c (.im (.int .i64 1))) (.t 10)), none⟩, ⟨(some 12), (.fieldAddr 1 (.t 1)), none⟩, ⟨(some 13), (.load none (.t 12)), none⟩, ⟨(some 14), (.indexSl 2 (.t 13) (.c (.im (.int .i64 1)))), none⟩, ⟨(some 15), (.load (some 2) (.t 14)), none⟩, ⟨(some 16), (.call (.c (.clo 67 [])) [(.t 15)]), none⟩, ⟨(some 17), (.bin .add (.t 11) (.t 16)), none⟩, ⟨(some 2), (.move (.t 17)), none⟩] [(7, 4), (9, 4)]) .ret))), false⟩
theorem F67 : F 67 = some f67 := by kernel_rfl
def b68_0 : ACode := (.block 8 (.seq (.seq (.ops [⟨(some 185), (.move (.t 2)), none⟩, ⟨(some 186), (.move (.t 1)), none⟩, ⟨(some 187), (.lenSl (.t 186)), none⟩, ⟨(some 188), (.bin .geq (.t 185) (.t 187)), none⟩] []) (.cond (.t 188) (.seq (.ops [⟨(some 189), (.build [(.im (.int .i64 0)), (.im (.int .i64 0)), (.im (.str [])), (.im (.cpx .f64 0 0)), .nils] []), none⟩, ⟨(some 190), (.move (.t 2)), none⟩, ⟨none, (.store 5 (.t 8) (.t 189)), none⟩, ⟨(some 9), (.move (.t 190)), none⟩, ⟨(some 10), (.move (.c (.im (.int .i64 30)))), none⟩] []) .ret) .skip)) (.seq (.seq (.ops [⟨(some 191), (.move (.t 1)), none⟩, ⟨(some 192), (.move (.t 2)), none⟩, ⟨(some 193), (.indexSl 1 (.t 191) (.t 192)), none⟩, ⟨(some 194), (.load none (.t 193)), none⟩, ⟨(some 195), (.bin .eql (.t 194) (.c (.im (.int .u8 0)))), none⟩] []) (.cond (.t 195) (.seq (.seq (.ops [⟨(some 196), (.fieldAddr 0 (.t 4)), none⟩, ⟨(some 197), (.load none (.t 196)), none⟩, ⟨(some 198), (.bin .eql (.t 197) (.c (.im (.int .i64 9)))), none⟩] []) (.cond (.t 198) (.ops [⟨(some 199), (.fieldAddr 0 (.t 11)), none⟩, ⟨none, (.store 1 (.t 199) (.c (.im (.int .i64 8)))), none⟩] []) .skip)) (.seq (.ops [⟨(some 200), (.load (some 5) (.t 11)), none⟩, ⟨(some 201), (.move (.t 2)), none⟩, ⟨(some 202), (.bin .add (.t 201) (.c (.im (.int .i64 1)))), none⟩, ⟨none, (.store 5 (.t 8) (.t 200)), none⟩, ⟨(some 9), (.move (.t 202)), none⟩, ⟨(some 10), (.move (.c (.im (.int .i64 0)))), none⟩] []) .ret)) .skip)) (.seq (.seq (.ops [⟨(some 203), (.move (.t 1)), none⟩, ⟨(some 204), (.move (.t 2)), none⟩, ⟨(some 205), (.indexSl 1 (.t 203) (.t 204)), none⟩, ⟨(some 206), (.load none (.t 205)), none⟩, ⟨(some 207), (.bin .gtr (.t 206) (.c (.im (.int .u8 1)))), none⟩, ⟨(some 208), (.move (.t 207)), none⟩, ⟨(some 209), (.fieldAddr 4 (.t 11)), (some (208, false))⟩, ⟨(some 210), (.load none (.t 209)), (some (208, false))⟩, ⟨(some 211), (.lenSl (.t 210)), (some (208, false))⟩, ⟨(some 212), (.bin .eql (.t 211) (.c (.im (.int .i64 64)))), (some (208, false))⟩, ⟨(some 213), (.pick (.t 208) (.c (.im (.bool true))) (.t 212)), none⟩, ⟨(some 214), (.move (.t 213)), none⟩, ⟨(some 215), (.move (.t 3)), (some (214, false))⟩, ⟨(some 216), (.nilCheck (.t 215)), (some (214, false))⟩, ⟨(some 217), (.load none (.t 216)), (some (214, false))⟩, ⟨(some 218), (.fieldAddr 1 (.t 4)), (some (214, false))⟩, ⟨(some 219), (.load none (.t 218)), (some (214, false))⟩, ⟨(some 220), (.indexSl 2 (.t 219) (.c (.im (.int .i64 0)))), (some (214, false))⟩, ⟨(some 221), (.load (some 2) (.t 220)), (some (214, false))⟩, ⟨(some 222), (.call (.c (.clo 67 [])) [(.t 221)]), (some (214, false))⟩, ⟨(some 223), (.bin .add (.t 217) (.t 222)), (some (214, false))⟩, ⟨(some 224), (.bin .gtr (.t 223) (.c (.im (.int .i64 2000)))), (some (214, false))⟩, ⟨(some 225), (.pick (.t 214) (.c (.im (.bool true))) (.t 224)), none⟩] [(14, 19)]) (.cond (.t 225) (.seq (.ops [⟨(some 226), (.build [(.im (.int .i64 0)), (.im (.int .i64 0)), (.im (.str [])), (.im (.cpx .f64 0 0)), .nils] []), none⟩, ⟨(some 227), (.move (.t 2)), none⟩, ⟨none, (.store 5 (.t 8) (.t 226)), none⟩, ⟨(some 9), (.move (.t 227)), none⟩, ⟨(some 10), (.move (.c (.im (.int .i64 31)))), none⟩] []) .ret) .skip)) (.seq (.ops [⟨(some 228), (.move (.t 3)), none⟩, ⟨(some 229), (.nilCheck (.t 228)), none⟩, ⟨(some 230), (.load none (.t 229)), none⟩, ⟨(some 231), (.fieldAddr 1 (.t 4)), none⟩, ⟨(some 232), (.load none (.t 231)), none⟩, ⟨(some 233), (.indexSl 2 (.t 232) (.c (.im (.int .i64 0)))), none⟩, ⟨(some 234), (.load (some 2) (.t 233)), none⟩, ⟨(some 235), (.call (.c (.clo 67 [])) [(.t 234)]), none⟩, ⟨(some 236), (.bin .add (.t 230) (.t 235)), none⟩, ⟨(some 237), (.nilCheck (.t 228)), none⟩, ⟨none, (.store 1 (.t 237) (.t 236)), none⟩] [(2, 7)]) (.seq (.ops [⟨(some 239), (.fieldAddr 1 (.t 4)), none⟩, ⟨(some 240), (.load none (.t 239)), none⟩, ⟨(some 241), (.indexSl 2 (.t 240) (.c (.im (.int .i64 0)))), none⟩, ⟨(some 242), (.load (some 2) (.t 241)), none⟩, ⟨(some 243), (.move (.t 1)), none⟩, ⟨(some 244), (.move (.t 2)), none⟩, ⟨(some 245), (.bin .add (.t 244) (.c (.im (.int .i64 1)))), none⟩, ⟨(some 246), (.move (.t 3)), none⟩, ⟨(some 247), (.call (.c (.clo 68 [])) [(.t 242), (.t 243), (.t 245), (.t 246)]), none⟩, ⟨(some 238), (.move (.t 247)), none⟩, ⟨(some 248), (.extract 0 (.t 238)), none⟩, ⟨(some 249), (.extract 1 (.t 238)), none⟩, ⟨(some 250), (.extract 2 (.t 238)), none⟩, ⟨(some 20), (.alloc none [(.im (.int .i64 0)), (.im (.int .i64 0)), (.im (.str [])), (.im (.cpx .f64 0 0)), .nils]), none⟩, ⟨none, (.store 5 (.t 20) (.t 248)), none⟩, ⟨(some 21), (.move (.t 249)), none⟩, ⟨(some 22), (.move (.t 250)), none⟩] []) (.seq (.seq (.ops [⟨(some 251), (.move (.t 22)), none⟩, ⟨(some 252), (.bin .neq (.t 251) (.c (.im (.int .i64 0)))), none⟩] []) (.cond (.t 252) (.seq (.ops [⟨(some 253), (.build [(.im (.int .i64 0)), (.im (.int .i64 0)), (.im (.str [])), (.im (.cpx .f64 0 0)), .nils] []), none⟩, ⟨(some 254), (.move (.t 21)), none⟩, ⟨(some 255), (.move (.t 22)), none⟩, ⟨none, (.store 5 (.t 8) (.t 253)), none⟩, ⟨(some 9), (.move (.t 254)), none⟩, ⟨(some 10), (.move (.t 255)), none⟩] []) .ret) .skip)) (.seq (.ops [⟨(some 256), (.fieldAddr 4 (.t 11)), none⟩, ⟨(some 257), (.load none (.t 256)), none⟩, ⟨(some 258), (.load (some 5) (.t 20)), none⟩, ⟨(some 259), (.bslice false 5 1 [(.im (.int .i64 0)), (.im (.int .i64 0)), (.im (.str [])), (.im (.cpx .f64 0 0)), .nils] [(0, (.t 258))]), none⟩, ⟨(some 260), (.append 56 72 5 (.t 257) (.t 259)), none⟩, ⟨(some 261), (.fieldAddr 4 (.t 11)), none⟩, ⟨none, (.store 1 (.t 261) (.t 260)), none⟩] []) (.seq (.ops [⟨(some 262), (.move (.t 21)), none⟩, ⟨(some 2), (.move (.t 262)), none⟩] []) (.seq (.ops [⟨(some 263), (.fieldAddr 0 (.t 4)), none⟩, ⟨(some 264), (.load none (.t 263)), none⟩, ⟨(some 265), (.bin .eql (.t 264) (.c (.im (.int .i64 9)))), none⟩] []) (.cond (.t 265) (.seq (.ops [⟨(some 266), (.load (some 5) (.t 11)), none⟩, ⟨(some 267), (.move (.t 2)), none⟩, ⟨none, (.store 5 (.t 8) (.t 266)), none⟩, ⟨(some 9), (.move (.t 267)), none⟩, ⟨(some 10), (.move (.c (.im (.int .i64 0)))), none⟩] []) .ret) .skip)))))))))))
def c68_0 : ACode := .loop b68_0
theorem e68_0 {R : Type} (Φ : Oracle) (Λ' : ACode → List AV → Heap → Option Out) (tm : List AV) (H : Heap) (K : AEx → List AV → Heap → Option R) : exec0 Φ Λ' c68_0 tm H K = thenL (Λ' c68_0 tm H) K := rfl
theorem l68_0 (tm : List AV) (H : Heap) : Λ c68_0 tm H = exec0 L Λ b68_0 tm H fun e tm H => match e with
    | .normal => Λ c68_0 tm H
    | .exit i => some (.exit i, tm, H)
    | .goto l => some (.goto l, tm, H)
    | .ret => some (.ret, tm, H) := loop_eq
def b68_1 : ACode := (.seq (.seq (.ops [⟨(some 154), (.move (.t 16)), none⟩, ⟨(some 155), (.bin .lss (.t 154) (.c (.im (.int .i64 2)))), none⟩] []) (.cond (.t 155) .skip (.exit 5))) (.seq (.block 6 (.seq (.ops [⟨(some 159), (.fieldAddr 1 (.t 4)), none⟩, ⟨(some 160), (.load none (.t 159)), none⟩, ⟨(some 161), (.move (.t 16)), none⟩, ⟨(some 162), (.indexSl 2 (.t 160) (.t 161)), none⟩, ⟨(some 163), (.load (some 2) (.t 162)), none⟩, ⟨(some 164), (.move (.t 1)), none⟩, ⟨(some 165), (.move (.t 2)), none⟩, ⟨(some 166), (.move (.t 3)), none⟩, ⟨(some 167), (.call (.c (.clo 68 [])) [(.t 163), (.t 164), (.t 165), (.t 166)]), none⟩, ⟨(some 158), (.move (.t 167)), none⟩, ⟨(some 168), (.extract 0 (.t 158)), none⟩, ⟨(some 169), (.extract 1 (.t 158)), none⟩, ⟨(some 170), (.extract 2 (.t 158)), none⟩, ⟨(some 17), (.alloc none [(.im (.int .i64 0)), (.im (.int .i64 0)), (.im (.str [])), (.im (.cpx .f64 0 0)), .nils]), none⟩, ⟨none, (.store 5 (.t 17) (.t 168)), none⟩, ⟨(some 18), (.move (.t 169)), none⟩, ⟨(some 19), (.move (.t 170)), none⟩] []) (.seq (.seq (.ops [⟨(some 171), (.move (.t 19)), none⟩, ⟨(some 172), (.bin .neq (.t 171) (.c (.im (.int .i64 0)))), none⟩] []) (.cond (.t 172) (.seq (.ops [⟨(some 173), (.build [(.im (.int .i64 0)), (.im (.int .i64 0)), (.im (.str [])), (.im (.cpx .f64 0 0)), .nils] []), none⟩, ⟨(some 174), (.move (.t 18)), none⟩, ⟨(some 175), (.move (.t 19)), none⟩, ⟨none, (.store 5 (.t 8) (.t 173)), none⟩, ⟨(some 9), (.move (.t 174)), none⟩, ⟨(some 10), (.move (.t 175)), none⟩] []) .ret) .skip)) (.seq (.ops [⟨(some 176), (.fieldAddr 4 (.t 11)), none⟩, ⟨(some 177), (.load none (.t 176)), none⟩, ⟨(some 178), (.load (some 5) (.t 17)), none⟩, ⟨(some 179), (.bslice false 5 1 [(.im (.int .i64 0)), (.im (.int .i64 0)), (.im (.str [])), (.im (.cpx .f64 0 0)), .nils] [(0, (.t 178))]), none⟩, ⟨(some 180), (.append 56 72 5 (.t 177) (.t 179)), none⟩, ⟨(some 181), (.fieldAddr 4 (.t 11)), none⟩, ⟨none, (.store 1 (.t 181) (.t 180)), none⟩] []) (.ops [⟨(some 182), (.move (.t 18)), none⟩, ⟨(some 2), (.move (.t 182)), none⟩] []))))) (.ops [⟨(some 156), (.move (.t 16)), none⟩, ⟨(some 157), (.bin .add (.t 156) (.c (.im (.int .i64 1)))), none⟩, ⟨(some 16), (.move (.t 157)), none⟩] [])))
def c68_1 : ACode := .loop b68_1
theorem e68_1 {R : Type} (Φ : Oracle) (Λ' : ACode → List AV → Heap → Option Out) (tm : List AV) (H : Heap) (K : AEx → List AV → Heap → Option R) : exec0 Φ Λ' c68_1 tm H K = thenL (Λ' c68_1 tm H) K := rfl
theorem l68_1 (tm : List AV) (H : Heap) : Λ c68_1 tm H = exec0 L Λ b68_1 tm H fun e tm H => match e with
    | .normal => Λ c68_1 tm H
    | .exit i => some (.exit i, tm, H)
    | .goto l => some (.goto l, tm, H)
    | .ret => some (.ret, tm, H) := loop_eq
def b68_2 : ACode := (.seq (.seq (.ops [⟨(some 95), (.move (.t 15)), none⟩, ⟨(some 96), (.bin .lss (.t 95) (.c (.im (.int .i64 2)))), none⟩] []) (.cond (.t 96) .skip (.exit 3))) (.seq (.block 4 (.seq (.seq (.ops [⟨(some 99), (.move (.t 2)), none⟩, ⟨(some 100), (.move (.t 1)), none⟩, ⟨(some 101), (.lenSl (.t 100)), none⟩, ⟨(some 102), (.bin .lss (.t 99) (.t 101)), none⟩, ⟨(some 103), (.move (.t 102)), none⟩, ⟨(some 104), (.move (.t 1)), (some (103, true))⟩, ⟨(some 105), (.move (.t 2)), (some (103, true))⟩, ⟨(some 106), (.indexSl 1 (.t 104) (.t 105)), (some (103, true))⟩, ⟨(some 107), (.load none (.t 106)), (some (103, true))⟩, ⟨(some 108), (.bin .gtr (.t 107) (.c (.im (.int .u8 31)))), (some (103, true))⟩, ⟨(some 109), (.pick (.t 103) (.t 108) (.c (.im (.bool false)))), none⟩] []) (.cond (.t 109) (.seq (.ops [⟨(some 110), (.build [(.im (.int .i64 0)), (.im (.int .i64 0)), (.im (.str [])), (.im (.cpx .f64 0 0)), .nils] []), none⟩, ⟨(some 111), (.move (.t 2)), none⟩, ⟨none, (.store 5 (.t 8) (.t 110)), none⟩, ⟨(some 9), (.move (.t 111)), none⟩, ⟨(some 10), (.move (.c (.im (.int .i64 31)))), none⟩] []) .ret) .skip)) (.seq (.seq (.ops [⟨(some 112), (.move (.t 1)), none⟩, ⟨(some 113), (.lenSl (.t 112)), none⟩, ⟨(some 114), (.move (.t 2)), none⟩, ⟨(some 115), (.bin .sub (.t 113) (.t 114)), none⟩, ⟨(some 116), (.bin .lss (.t 115) (.c (.im (.int .i64 3)))), none⟩] []) (.cond (.t 116) (.seq (.ops [⟨(some 117), (.build [(.im (.int .i64 0)), (.im (.int .i64 0)), (.im (.str [])), (.im (.cpx .f64 0 0)), .nils] []), none⟩, ⟨(some 118), (.move (.t 1)), none⟩, ⟨(some 119), (.lenSl (.t 118)), none⟩, ⟨none, (.store 5 (.t 8) (.t 117)), none⟩, ⟨(some 9), (.move (.t 119)), none⟩, ⟨(some 10), (.move (.c (.im (.int .i64 30)))), none⟩] []) .ret) .skip)) (.seq (.ops [⟨(some 120), (.move (.t 15)), none⟩, ⟨(some 121), (.move (.t 1)), none⟩, ⟨(some 122), (.move (.t 2)), none⟩, ⟨(some 123), (.indexSl 1 (.t 121) (.t 122)), none⟩, ⟨(some 124), (.load none (.t 123)), none⟩, ⟨(some 125), (.i2i .i64 (.t 124)), none⟩, ⟨(some 126), (.bin .mul (.t 125) (.c (.im (.int .i64 65536)))), none⟩, ⟨(some 127), (.move (.t 1)), none⟩, ⟨(some 128), (.move (.t 2)), none⟩, ⟨(some 129), (.bin .add (.t 128) (.c (.im (.int .i64 1)))), none⟩, ⟨(some 130), (.indexSl 1 (.t 127) (.t 129)), none⟩, ⟨(some 131), (.load none (.t 130)), none⟩, ⟨(some 132), (.i2i .i64 (.t 131)), none⟩, ⟨(some 133), (.bin .mul (.t 132) (.c (.im (.int .i64 256)))), none⟩, ⟨(some 134), (.bin .add (.t 126) (.t 133)), none⟩, ⟨(some 135), (.move (.t 1)), none⟩, ⟨(some 136), (.move (.t 2)), none⟩, ⟨(some 137), (.bin .add (.t 136) (.c (.im (.int .i64 2)))), none⟩, ⟨(some 138), (.indexSl 1 (.t 135) (.t 137)), none⟩, ⟨(some 139), (.load none (.t 138)), none⟩, ⟨(some 140), (.i2i .i64 (.t 139)), none⟩, ⟨(some 141), (.bin .add (.t 134) (.t 140)), none⟩, ⟨(some 142), (.bin .sub (.t 141) (.c (.im (.int .i64 1048576)))), none⟩, ⟨(some 143), (.indexArr 2 1 (.t 14) (.t 120)), none⟩, ⟨none, (.store 1 (.t 143) (.t 142)), none⟩] []) (.ops [⟨(some 144), (.move (.t 2)), none⟩, ⟨(some 145), (.bin .add (.t 144) (.c (.im (.int .i64 3)))), none⟩, ⟨(some 2), (.move (.t 145)), none⟩] []))))) (.ops [⟨(some 97), (.move (.t 15)), none⟩, ⟨(some 98), (.bin .add (.t 97) (.c (.im (.int .i64 1)))), none⟩, ⟨(some 15), (.move (.t 98)), none⟩] [])))
def c68_2 : ACode := .loop b68_2
theorem e68_2 {R : Type} (Φ : Oracle) (Λ' : ACode → List AV → Heap → Option Out) (tm : List AV) (H : Heap) (K : AEx → List AV → Heap → Option R) : exec0 Φ Λ' c68_2 tm H K = thenL (Λ' c68_2 tm H) K := rfl
theorem l68_2 (tm : List AV) (H : Heap) : Λ c68_2 tm H = exec0 L Λ b68_2 tm H fun e tm H => match e with
    | .normal => Λ c68_2 tm H
    | .exit i => some (.exit i, tm, H)
    | .goto l => some (.goto l, tm, H)
    | .ret => some (.ret, tm, H) := loop_eq
def b68_3 : ACode := (.seq (.seq (.ops [⟨(some 62), (.move (.t 13)), none⟩, ⟨(some 63), (.bin .lss (.t 62) (.c (.im (.int .i64 8)))), none⟩] []) (.cond (.t 63) .skip (.exit 1))) (.seq (.block 2 (.ops [⟨(some 66), (.move (.t 12)), none⟩, ⟨(some 67), (.bin .mul (.t 66) (.c (.im (.int .u64 256)))), none⟩, ⟨(some 68), (.move (.t 1)), none⟩, ⟨(some 69), (.move (.t 2)), none⟩, ⟨(some 70), (.move (.t 13)), none⟩, ⟨(some 71), (.bin .add (.t 69) (.t 70)), none⟩, ⟨(some 72), (.indexSl 1 (.t 68) (.t 71)), none⟩, ⟨(some 73), (.load none (.t 72)), none⟩, ⟨(some 74), (.i2i .u64 (.t 73)), none⟩, ⟨(some 75), (.bin .add (.t 67) (.t 74)), none⟩, ⟨(some 12), (.move (.t 75)), none⟩] [])) (.ops [⟨(some 64), (.move (.t 13)), none⟩, ⟨(some 65), (.bin .add (.t 64) (.c (.im (.int .i64 1)))), none⟩, ⟨(some 13), (.move (.t 65)), none⟩] [])))
def c68_3 : ACode := .loop b68_3
theorem e68_3 {R : Type} (Φ : Oracle) (Λ' : ACode → List AV → Heap → Option Out) (tm : List AV) (H : Heap) (K : AEx → List AV → Heap → Option R) : exec0 Φ Λ' c68_3 tm H K = thenL (Λ' c68_3 tm H) K := rfl
theorem l68_3 (tm : List AV) (H : Heap) : Λ c68_3 tm H = exec0 L Λ b68_3 tm H fun e tm H => match e with
    | .normal => Λ c68_3 tm H
    | .exit i => some (.exit i, tm, H)
    | .goto l => some (.goto l, tm, H)
    | .ret => some (.ret, tm, H) := loop_eq
def f68 : AFunc := ⟨268, [(8, (some (some 5))), (9, none), (10, none)], (.seq (.ops [⟨(some 4), (.box none (.t 0)), none⟩, ⟨(some 8), (.alloc none [(.im (.int .i64 0)), (.im (.int .i64 0)), (.im (.str [])), (.im (.cpx .f64 0 0)), .nils]), none⟩, ⟨(some 9), (.move (.c (.im (.int .i64 0)))), none⟩, ⟨(some 10), (.move (.c (.im (.int .i64 0)))), none⟩] []) (.seq (.ops [⟨(some 23), (.fieldAddr 0 (.t 4)), none⟩, ⟨(some 24), (.load none (.t 23)), none⟩, ⟨(some 25), (.build [(.im (.int .i64 0)), (.im (.int .i64 0)), (.im (.str [])), (.im (.cpx .f64 0 0)), .nils] [(0, (1, (.t 24)))]), none⟩, ⟨(some 11), (.alloc none [(.im (.int .i64 0)), (.im (.int .i64 0)), (.im (.str [])), (.im (.cpx .f64 0 0)), .nils]), none⟩, ⟨none, (.store 5 (.t 11) (.t 25)), none⟩] []) (.seq (.seq (.ops [⟨(some 26), (.fieldAddr 0 (.t 4)), none⟩, ⟨(some 27), (.load none (.t 26)), none⟩] []) (.block 0 (.seq (.ops [⟨(some 29), (.bin .eql (.t 27) (.c (.im (.int .i64 1)))), none⟩, ⟨(some 28), (.move (.t 29)), none⟩] []) (.cond (.t 28) (.seq (.seq (.ops [⟨(some 30), (.move (.t 2)), none⟩, ⟨(some 31), (.move (.t 1)), none⟩, ⟨(some 32), (.lenSl (.t 31)), none⟩, ⟨(some 33), (.bin .geq (.t 30) (.t 32)), none⟩] []) (.cond (.t 33) (.seq (.ops [⟨(some 34), (.build [(.im (.int .i64 0)), (.im (.int .i64 0)), (.im (.str [])), (.im (.cpx .f64 0 0)), .nils] []), none⟩, ⟨(some 35), (.move (.t 2)), none⟩, ⟨none, (.store 5 (.t 8) (.t 34)), none⟩, ⟨(some 9), (.move (.t 35)), none⟩, ⟨(some 10), (.move (.c (.im (.int .i64 30)))), none⟩] []) .ret) .skip)) (.seq (.seq (.ops [⟨(some 36), (.move (.t 1)), none⟩, ⟨(some 37), (.move (.t 2)), none⟩, ⟨(some 38), (.indexSl 1 (.t 36) (.t 37)), none⟩, ⟨(some 39), (.load none (.t 38)), none⟩, ⟨(some 40), (.bin .gtr (.t 39) (.c (.im (.int .u8 1)))), none⟩] []) (.cond (.t 40) (.seq (.ops [⟨(some 41), (.build [(.im (.int .i64 0)), (.im (.int .i64 0)), (.im (.str [])), (.im (.cpx .f64 0 0)), .nils] []), none⟩, ⟨(some 42), (.move (.t 2)), none⟩, ⟨none, (.store 5 (.t 8) (.t 41)), none⟩, ⟨(some 9), (.move (.t 42)), none⟩, ⟨(some 10), (.move (.c (.im (.int .i64 31)))), none⟩] []) .ret) .skip)) (.seq (.ops [⟨(some 43), (.move (.t 1)), none⟩, ⟨(some 44), (.move (.t 2)), none⟩, ⟨(some 45), (.indexSl 1 (.t 43) (.t 44)), none⟩, ⟨(some 46), (.load none (.t 45)), none⟩, ⟨(some 47), (.i2i .i64 (.t 46)), none⟩, ⟨(some 48), (.fieldAddr 1 (.t 11)), none⟩, ⟨none, (.store 1 (.t 48) (.t 47)), none⟩] []) (.seq (.ops [⟨(some 49), (.load (some 5) (.t 11)), none⟩, ⟨(some 50), (.move (.t 2)), none⟩, ⟨(some 51), (.bin .add (.t 50) (.c (.im (.int .i64 1)))), none⟩, ⟨none, (.store 5 (.t 8) (.t 49)), none⟩, ⟨(some 9), (.move (.t 51)), none⟩, ⟨(some 10), (.move (.c (.im (.int .i64 0)))), none⟩] []) .ret)))) (.seq (.ops [⟨(some 53), (.bin .eql (.t 27) (.c (.im (.int .i64 2)))), none⟩, ⟨(some 52), (.move (.t 53)), none⟩] []) (.cond (.t 52) (.seq (.seq (.ops [⟨(some 54), (.move (.t 1)), none⟩, ⟨(some 55), (.lenSl (.t 54)), none⟩, ⟨(some 56), (.move (.t 2)), none⟩, ⟨(some 57), (.bin .sub (.t 55) (.t 56)), none⟩, ⟨(some 58), (.bin .lss (.t 57) (.c (.im (.int .i64 8)))), none⟩] []) (.cond (.t 58) (.seq (.ops [⟨(some 59), (.build [(.im (.int .i64 0)), (.im (.int .i64 0)), (.im (.str [])), (.im (.cpx .f64 0 0)), .nils] []), none⟩, ⟨(some 60), (.move (.t 1)), none⟩, ⟨(some 61), (.lenSl (.t 60)), none⟩, ⟨none, (.store 5 (.t 8) (.t 59)), none⟩, ⟨(some 9), (.move (.t 61)), none⟩, ⟨(some 10), (.move (.c (.im (.int .i64 30)))), none⟩] []) .ret) .skip)) (.seq (.ops [⟨(some 12), (.move (.c (.im (.int .u64 0)))), none⟩] []) (.seq (.seq (.ops [⟨(some 13), (.move (.c (.im (.int .i64 0)))), none⟩] []) (.block 1 c68_3)) (.seq (.ops [⟨(some 76), (.move (.t 12)), none⟩, ⟨(some 77), (.bin .sub (.t 76) (.c (.im (.int .u64 9223372036854775808)))), none⟩, ⟨(some 78), (.i2i .i64 (.t 77)), none⟩, ⟨(some 79), (.fieldAddr 1 (.t 11)), none⟩, ⟨none, (.store 1 (.t 79) (.t 78)), none⟩] []) (.seq (.ops [⟨(some 80), (.load (some 5) (.t 11)), none⟩, ⟨(some 81), (.move (.t 2)), none⟩, ⟨(some 82), (.bin .add (.t 81) (.c (.im (.int .i64 8)))), none⟩, ⟨none, (.store 5 (.t 8) (.t 80)), none⟩, ⟨(some 9), (.move (.t 82)), none⟩, ⟨(some 10), (.move (.c (.im (.int .i64 0)))), none⟩] []) .ret))))) (.seq (.seq (.ops [⟨(some 84), (.bin .eql (.t 27) (.c (.im (.int .i64 3)))), none⟩, ⟨(some 83), (.move (.t 84)), none⟩] []) (.cond (.t 83) .skip (.ops [⟨(some 85), (.bin .eql (.t 27) (.c (.im (.int .i64 4)))), none⟩, ⟨(some 83), (.move (.t 85)), none⟩] []))) (.cond (.t 83) (.seq (.ops [⟨(some 86), (.load (some 5) (.t 11)), none⟩, ⟨(some 87), (.move (.t 1)), none⟩, ⟨(some 88), (.move (.t 2)), none⟩, ⟨(some 89), (.call (.c (.clo 96 [])) [(.t 86), (.t 87), (.t 88)]), none⟩, ⟨(some 90), (.extract 0 (.t 89)), none⟩, ⟨(some 91), (.extract 1 (.t 89)), none⟩, ⟨(some 92), (.extract 2 (.t 89)), none⟩, ⟨none, (.store 5 (.t 8) (.t 90)), none⟩, ⟨(some 9), (.move (.t 91)), none⟩, ⟨(some 10), (.move (.t 92)), none⟩] []) .ret) (.seq (.ops [⟨(some 94), (.bin .eql (.t 27) (.c (.im (.int .i64 5)))), none⟩, ⟨(some 93), (.move (.t 94)), none⟩] []) (.cond (.t 93) (.seq (.ops [⟨(some 14), (.alloc none [(.im (.int .i64 0)), (.im (.int .i64 0))]), none⟩] []) (.seq (.seq (.ops [⟨(some 15), (.move (.c (.im (.int .i64 0)))), none⟩] []) (.block 3 c68_2)) (.seq (.ops [⟨(some 146), (.indexArr 2 1 (.t 14) (.c (.im (.int .i64 0)))), none⟩, ⟨(some 147), (.load none (.t 146)), none⟩, ⟨(some 148), (.indexArr 2 1 (.t 14) (.c (.im (.int .i64 1)))), none⟩, ⟨(some 149), (.load none (.t 148)), none⟩, ⟨(some 150), (.call (.c (.clo 97 [])) [(.t 147), (.t 149)]), none⟩, ⟨(some 151), (.move (.t 2)), none⟩, ⟨none, (.store 5 (.t 8) (.t 150)), none⟩, ⟨(some 9), (.move (.t 151)), none⟩, ⟨(some 10), (.move (.c (.im (.int .i64 0)))), none⟩] []) .ret))) (.seq (.ops [⟨(some 153), (.bin .eql (.t 27) (.c (.im (.int .i64 6)))), none⟩, ⟨(some 152), (.move (.t 153)), none⟩] []) (.cond (.t 152) (.seq (.seq (.ops [⟨(some 16), (.move (.c (.im (.int .i64 0)))), none⟩] []) (.block 5 c68_1)) (.seq (.ops [⟨(some 183), (.load (some 5) (.t 11)), none⟩, ⟨(some 184), (.move (.t 2)), none⟩, ⟨none, (.store 5 (.t 8) (.t 183)), none⟩, ⟨(some 9), (.move (.t 184)), none⟩, ⟨(some 10), (.move (.c (.im (.int .i64 0)))), none⟩] []) .ret)) .skip)))))))))))) (.block 7 c68_0)))), false⟩
theorem F68 : F 68 = some f68 := by kernel_rfl
def f80 : AFunc := ⟨9, [(4, none)], (.seq (.ops [⟨(some 4), (.move (.c (.im (.bool false)))), none⟩] []) (.seq (.ops [⟨(some 5), (.move (.t 0)), none⟩, ⟨(some 6), (.move (.t 1)), none⟩, ⟨(some 7), (.call (.c (.clo 103 [])) [(.t 5), (.t 6)]), none⟩, ⟨(some 8), (.bin .geq (.t 7) (.c (.im (.int .i64 0)))), none⟩, ⟨(some 4), (.move (.t 8)), none⟩] []) .ret)), false⟩
theorem F80 : F 80 = some f80 := by kernel_rfl
def b87_0 : ACode := (.seq (.ops [⟨(some 16), (.bin .lss (.t 15) (.t 14)), none⟩] []) (.seq (.cond (.t 16) .skip (.exit 0)) (.seq (.block 1 (.seq (.ops [⟨(some 17), (.indexSl 5 (.t 13) (.t 15)), none⟩, ⟨(some 18), (.load (some 5) (.t 17)), none⟩, ⟨(some 8), (.alloc none [(.im (.int .i64 0)), (.im (.int .i64 0)), (.im (.str [])), (.im (.cpx .f64 0 0)), .nils]), none⟩, ⟨none, (.store 5 (.t 8) (.t 18)), none⟩] []) (.seq (.ops [⟨(some 19), (.move (.t 2)), none⟩, ⟨(some 20), (.bin .add (.t 19) (.c (.im (.int .i64 1)))), none⟩, ⟨(some 2), (.move (.t 20)), none⟩] []) (.seq (.seq (.ops [⟨(some 21), (.load (some 5) (.t 8)), none⟩, ⟨(some 22), (.call (.c (.clo 107 [])) [(.t 21)]), none⟩, ⟨(some 23), (.un .not (.t 22)), none⟩, ⟨(some 24), (.move (.t 23)), none⟩, ⟨(some 25), (.move (.t 2)), (some (24, false))⟩, ⟨(some 26), (.bin .gtr (.t 25) (.c (.im (.int .i64 2000)))), (some (24, false))⟩, ⟨(some 27), (.pick (.t 24) (.c (.im (.bool true))) (.t 26)), none⟩] []) (.cond (.t 27) (.seq (.ops [⟨(some 2), (.move (.c (.im (.int .i64 0)))), none⟩, ⟨(some 3), (.move (.c (.im (.int .i64 0)))), none⟩, ⟨(some 4), (.move (.c (.im (.bool false)))), none⟩] []) .ret) .skip)) (.ops [⟨(some 28), (.move (.t 6)), none⟩, ⟨(some 29), (.fieldAddr 4 (.t 8)), none⟩, ⟨(some 30), (.load none (.t 29)), none⟩, ⟨(some 31), (.append 56 72 5 (.t 28) (.t 30)), none⟩, ⟨(some 6), (.move (.t 31)), none⟩] []))))) (.ops [⟨(some 32), (.bin .add (.t 15) (.c (.im (.int .i64 1)))), none⟩, ⟨(some 15), (.move (.t 32)), none⟩] []))))
def c87_0 : ACode := .loop b87_0
theorem e87_0 {R : Type} (Φ : Oracle) (Λ' : ACode → List AV → Heap → Option Out) (tm : List AV) (H : Heap) (K : AEx → List AV → Heap → Option R) : exec0 Φ Λ' c87_0 tm H K = thenL (Λ' c87_0 tm H) K := rfl
theorem l87_0 (tm : List AV) (H : Heap) : Λ c87_0 tm H = exec0 L Λ b87_0 tm H fun e tm H => match e with
    | .normal => Λ c87_0 tm H
    | .exit i => some (.exit i, tm, H)
    | .goto l => some (.goto l, tm, H)
    | .ret => some (.ret, tm, H) := loop_eq
def c87_1 : ACode := (.scope (.seq (.ops [⟨(some 9), (.load (some 5) (.t 1)), none⟩, ⟨(some 10), (.bslice false 5 1 [(.im (.int .i64 0)), (.im (.int .i64 0)), (.im (.str [])), (.im (.cpx .f64 0 0)), .nils] [(0, (.t 9))]), none⟩, ⟨(some 5), (.move (.t 10)), none⟩] []) (.seq (.label 0) (.seq (.ops [⟨(some 11), (.move (.t 3)), none⟩, ⟨(some 12), (.bin .add (.t 11) (.c (.im (.int .i64 1)))), none⟩, ⟨(some 3), (.move (.t 12)), none⟩] []) (.seq (.ops [⟨(some 6), (.move (.c .nils)), none⟩] []) (.seq (.seq (.ops [⟨(some 13), (.move (.t 5)), none⟩, ⟨(some 14), (.lenSl (.t 13)), none⟩, ⟨(some 15), (.move (.c (.im (.int .i64 0)))), none⟩] []) (.block 0 c87_0)) (.seq (.seq (.ops [⟨(some 33), (.move (.t 3)), none⟩, ⟨(some 34), (.bin .gtr (.t 33) (.c (.im (.int .i64 8)))), none⟩] []) (.cond (.t 34) (.seq (.ops [⟨(some 2), (.move (.c (.im (.int .i64 0)))), none⟩, ⟨(some 3), (.move (.c (.im (.int .i64 0)))), none⟩, ⟨(some 4), (.move (.c (.im (.bool false)))), none⟩] []) .ret) .skip)) (.seq (.seq (.ops [⟨(some 35), (.move (.t 6)), none⟩, ⟨(some 5), (.move (.t 35)), none⟩] []) (.seq (.ops [⟨(some 36), (.move (.t 5)), none⟩, ⟨(some 37), (.lenSl (.t 36)), none⟩, ⟨(some 38), (.bin .gtr (.t 37) (.c (.im (.int .i64 0)))), none⟩] []) (.cond (.t 38) (.goto 0) .skip))) (.seq (.ops [⟨(some 39), (.move (.t 2)), none⟩, ⟨(some 40), (.move (.t 3)), none⟩, ⟨(some 2), (.move (.t 39)), none⟩, ⟨(some 3), (.move (.t 40)), none⟩, ⟨(some 4), (.move (.c (.im (.bool true)))), none⟩] []) .ret)))))))) (.seq (.ops [⟨(some 9), (.load (some 5) (.t 1)), none⟩, ⟨(some 10), (.bslice false 5 1 [(.im (.int .i64 0)), (.im (.int .i64 0)), (.im (.str [])), (.im (.cpx .f64 0 0)), .nils] [(0, (.t 9))]), none⟩, ⟨(some 5), (.move (.t 10)), none⟩] []) (.seq (.label 0) (.seq (.ops [⟨(some 11), (.move (.t 3)), none⟩, ⟨(some 12), (.bin .add (.t 11) (.c (.im (.int .i64 1)))), none⟩, ⟨(some 3), (.move (.t 12)), none⟩] []) (.seq (.ops [⟨(some 6), (.move (.c .nils)), none⟩] []) (.seq (.seq (.ops [⟨(some 13), (.move (.t 5)), none⟩, ⟨(some 14), (.lenSl (.t 13)), none⟩, ⟨(some 15), (.move (.c (.im (.int .i64 0)))), none⟩] []) (.block 0 c87_0)) (.seq (.seq (.ops [⟨(some 33), (.move (.t 3)), none⟩, ⟨(some 34), (.bin .gtr (.t 33) (.c (.im (.int .i64 8)))), none⟩] []) (.cond (.t 34) (.seq (.ops [⟨(some 2), (.move (.c (.im (.int .i64 0)))), none⟩, ⟨(some 3), (.move (.c (.im (.int .i64 0)))), none⟩, ⟨(some 4), (.move (.c (.im (.bool false)))), none⟩] []) .ret) .skip)) (.seq (.seq (.ops [⟨(some 35), (.move (.t 6)), none⟩, ⟨(some 5), (.move (.t 35)), none⟩] []) (.seq (.ops [⟨(some 36), (.move (.t 5)), none⟩, ⟨(some 37), (.lenSl (.t 36)), none⟩, ⟨(some 38), (.bin .gtr (.t 37) (.c (.im (.int .i64 0)))), none⟩] []) (.cond (.t 38) (.goto 0) .skip))) (.seq (.ops [⟨(some 39), (.move (.t 2)), none⟩, ⟨(some 40), (.move (.t 3)), none⟩, ⟨(some 2), (.move (.t 39)), none⟩, ⟨(some 3), (.move (.t 40)), none⟩, ⟨(some 4), (.move (.c (.im (.bool true)))), none⟩] []) .ret)))))))))
theorem e87_1 {R : Type} (Φ : Oracle) (Λ' : ACode → List AV → Heap → Option Out) (tm : List AV) (H : Heap) (K : AEx → List AV → Heap → Option R) : exec0 Φ Λ' c87_1 tm H K = thenL (Λ' c87_1 tm H) K := rfl
def f87 : AFunc := ⟨41, [(2, none), (3, none), (4, none)], (.seq (.ops [⟨(some 1), (.box none (.t 0)), none⟩, ⟨(some 2), (.move (.c (.im (.int .i64 0)))), none⟩, ⟨(some 3), (.move (.c (.im (.int .i64 0)))), none⟩, ⟨(some 4), (.move (.c (.im (.bool false)))), none⟩] []) c87_1), false⟩
theorem F87 : F 87 = some f87 := by kernel_rfl
def f88 : AFunc := ⟨11, [(4, none)], (.seq (.ops [⟨(some 4), (.move (.c (.im (.int .i64 0)))), none⟩] []) (.seq (.seq (.ops [⟨(some 5), (.move (.t 0)), none⟩, ⟨(some 6), (.move (.t 1)), none⟩, ⟨(some 7), (.bin .lss (.t 5) (.t 6)), none⟩] []) (.cond (.t 7) (.seq (.ops [⟨(some 4), (.move (.c (.im (.int .i64 (-1))))), none⟩] []) .ret) .skip)) (.seq (.seq (.ops [⟨(some 8), (.move (.t 0)), none⟩, ⟨(some 9), (.move (.t 1)), none⟩, ⟨(some 10), (.bin .gtr (.t 8) (.t 9)), none⟩] []) (.cond (.t 10) (.seq (.ops [⟨(some 4), (.move (.c (.im (.int .i64 1)))), none⟩] []) .ret) .skip)) (.seq (.ops [⟨(some 4), (.move (.c (.im (.int .i64 0)))), none⟩] []) .ret)))), false⟩
theorem F88 : F 88 = some f88 := by kernel_rfl
def b89_0 : ACode := (.seq (.seq (.ops [⟨(some 6), (.move (.t 5)), none⟩, ⟨(some 7), (.move (.t 0)), none⟩, ⟨(some 8), (.lenStr (.t 7)), none⟩, ⟨(some 9), (.bin .lss (.t 6) (.t 8)), none⟩, ⟨(some 10), (.move (.t 9)), none⟩, ⟨(some 11), (.move (.t 5)), (some (10, true))⟩, ⟨(some 12), (.move (.t 1)), (some (10, true))⟩, ⟨(some 13), (.lenStr (.t 12)), (some (10, true))⟩, ⟨(some 14), (.bin .lss (.t 11) (.t 13)), (some (10, true))⟩, ⟨(some 15), (.pick (.t 10) (.t 14) (.c (.im (.bool false)))), none⟩] []) (.cond (.t 15) .skip (.exit 0))) (.seq (.block 1 (.seq (.ops [⟨(some 18), (.move (.t 0)), none⟩, ⟨(some 19), (.move (.t 5)), none⟩, ⟨(some 20), (.indexStr (.t 18) (.t 19)), none⟩, ⟨(some 21), (.move (.t 1)), none⟩, ⟨(some 22), (.move (.t 5)), none⟩, ⟨(some 23), (.indexStr (.t 21) (.t 22)), none⟩, ⟨(some 24), (.bin .neq (.t 20) (.t 23)), none⟩] []) (.cond (.t 24) (.seq (.ops [⟨(some 25), (.move (.t 0)), none⟩, ⟨(some 26), (.move (.t 5)), none⟩, ⟨(some 27), (.indexStr (.t 25) (.t 26)), none⟩, ⟨(some 28), (.i2i .i64 (.t 27)), none⟩, ⟨(some 29), (.move (.t 1)), none⟩, ⟨(some 30), (.move (.t 5)), none⟩, ⟨(some 31), (.indexStr (.t 29) (.t 30)), none⟩, ⟨(some 32), (.i2i .i64 (.t 31)), none⟩, ⟨(some 33), (.call (.c (.clo 88 [])) [(.t 28), (.t 32)]), none⟩, ⟨(some 4), (.move (.t 33)), none⟩] []) .ret) .skip))) (.ops [⟨(some 16), (.move (.t 5)), none⟩, ⟨(some 17), (.bin .add (.t 16) (.c (.im (.int .i64 1)))), none⟩, ⟨(some 5), (.move (.t 17)), none⟩] [])))
def c89_0 : ACode := .loop b89_0
theorem e89_0 {R : Type} (Φ : Oracle) (Λ' : ACode → List AV → Heap → Option Out) (tm : List AV) (H : Heap) (K : AEx → List AV → Heap → Option R) : exec0 Φ Λ' c89_0 tm H K = thenL (Λ' c89_0 tm H) K := rfl
theorem l89_0 (tm : List AV) (H : Heap) : Λ c89_0 tm H = exec0 L Λ b89_0 tm H fun e tm H => match e with
    | .normal => Λ c89_0 tm H
    | .exit i => some (.exit i, tm, H)
    | .goto l => some (.goto l, tm, H)
    | .ret => some (.ret, tm, H) := loop_eq
def f89 : AFunc := ⟨39, [(4, none)], (.seq (.ops [⟨(some 4), (.move (.c (.im (.int .i64 0)))), none⟩] []) (.seq (.seq (.ops [⟨(some 5), (.move (.c (.im (.int .i64 0)))), none⟩] []) (.block 0 c89_0)) (.seq (.ops [⟨(some 34), (.move (.t 0)), none⟩, ⟨(some 35), (.lenStr (.t 34)), none⟩, ⟨(some 36), (.move (.t 1)), none⟩, ⟨(some 37), (.lenStr (.t 36)), none⟩, ⟨(some 38), (.call (.c (.clo 88 [])) [(.t 35), (.t 37)]), none⟩, ⟨(some 4), (.move (.t 38)), none⟩] []) .ret))), false⟩
theorem F89 : F 89 = some f89 := by kernel_rfl
def f90 : AFunc := ⟨12, [(4, none)], (.seq (.ops [⟨(some 2), (.box none (.t 0)), none⟩, ⟨(some 4), (.move (.c (.im (.bool false)))), none⟩] []) (.seq (.seq (.ops [⟨(some 5), (.load (some 2) (.t 2)), none⟩, ⟨(some 6), (.call (.c (.clo 19 [])) [(.t 5)]), none⟩, ⟨(some 7), (.bin .neq (.t 6) (.c (.im (.int .i64 0)))), none⟩] []) (.cond (.t 7) (.seq (.ops [⟨(some 4), (.move (.c (.im (.bool false)))), none⟩] []) .ret) .skip)) (.seq (.ops [⟨(some 8), (.move (.t 1)), none⟩, ⟨(some 9), (.mkfunc 108 [(.t 2)]), none⟩, ⟨(some 10), (.call (.c (.clo 80 [])) [(.t 8), (.t 9)]), none⟩, ⟨(some 11), (.un .not (.t 10)), none⟩, ⟨(some 4), (.move (.t 11)), none⟩] []) .ret))), false⟩
theorem F90 : F 90 = some f90 := by kernel_rfl
def b91_0 : ACode := (.seq (.ops [⟨(some 127), (.bin .lss (.t 126) (.t 125)), none⟩] []) (.seq (.cond (.t 127) .skip (.exit 7)) (.seq (.block 8 (.seq (.ops [⟨(some 128), (.indexSl 5 (.t 124) (.t 126)), none⟩, ⟨(some 129), (.load (some 5) (.t 128)), none⟩, ⟨(some 17), (.alloc none [(.im (.int .i64 0)), (.im (.int .i64 0)), (.im (.str [])), (.im (.cpx .f64 0 0)), .nils]), none⟩, ⟨none, (.store 5 (.t 17) (.t 129)), none⟩] []) (.ops [⟨(some 130), (.move (.t 0)), none⟩, ⟨(some 131), (.bslice false 1 1 [(.im (.int .u8 0))] [(0, (.c (.im (.int .u8 1))))]), none⟩, ⟨(some 132), (.append 5 1 1 (.t 130) (.t 131)), none⟩, ⟨(some 133), (.fieldAddr 1 (.t 4)), none⟩, ⟨(some 134), (.load none (.t 133)), none⟩, ⟨(some 135), (.indexSl 2 (.t 134) (.c (.im (.int .i64 0)))), none⟩, ⟨(some 136), (.load (some 2) (.t 135)), none⟩, ⟨(some 137), (.load (some 5) (.t 17)), none⟩, ⟨(some 138), (.call (.c (.clo 91 [])) [(.t 132), (.t 136), (.t 137)]), none⟩, ⟨(some 0), (.move (.t 138)), none⟩] [(4, 2), (6, 2), (7, 2)]))) (.ops [⟨(some 139), (.bin .add (.t 126) (.c (.im (.int .i64 1)))), none⟩, ⟨(some 126), (.move (.t 139)), none⟩] []))))
def c91_0 : ACode := .loop b91_0
theorem e91_0 {R : Type} (Φ : Oracle) (Λ' : ACode → List AV → Heap → Option Out) (tm : List AV) (H : Heap) (K : AEx → List AV → Heap → Option R) : exec0 Φ Λ' c91_0 tm H K = thenL (Λ' c91_0 tm H) K := rfl
theorem l91_0 (tm : List AV) (H : Heap) : Λ c91_0 tm H = exec0 L Λ b91_0 tm H fun e tm H => match e with
    | .normal => Λ c91_0 tm H
    | .exit i => some (.exit i, tm, H)
    | .goto l => some (.goto l, tm, H)
    | .ret => some (.ret, tm, H) := loop_eq
def b91_1 : ACode := (.seq (.ops [⟨(some 84), (.bin .lss (.t 83) (.t 82)), none⟩] []) (.seq (.cond (.t 84) .skip (.exit 5)) (.seq (.block 6 (.seq (.ops [⟨(some 85), (.indexSl 1 (.t 81) (.t 83)), none⟩, ⟨(some 86), (.load none (.t 85)), none⟩, ⟨(some 15), (.move (.t 86)), none⟩] []) (.ops [⟨(some 87), (.move (.t 0)), none⟩, ⟨(some 88), (.move (.t 15)), none⟩, ⟨(some 89), (.bin .shr (.t 88) (.c (.im (.int .u64 16)))), none⟩, ⟨(some 90), (.i2i .u8 (.t 89)), none⟩, ⟨(some 91), (.move (.t 15)), none⟩, ⟨(some 92), (.bin .shr (.t 91) (.c (.im (.int .u64 8)))), none⟩, ⟨(some 93), (.i2i .u8 (.t 92)), none⟩, ⟨(some 94), (.move (.t 15)), none⟩, ⟨(some 95), (.i2i .u8 (.t 94)), none⟩, ⟨(some 96), (.bslice false 1 3 [(.im (.int .u8 0))] [(0, (.t 90)), (1, (.t 93)), (2, (.t 95))]), none⟩, ⟨(some 97), (.append 5 1 1 (.t 87) (.t 96)), none⟩, ⟨(some 0), (.move (.t 97)), none⟩] []))) (.ops [⟨(some 98), (.bin .add (.t 83) (.c (.im (.int .i64 1)))), none⟩, ⟨(some 83), (.move (.t 98)), none⟩] []))))
def c91_1 : ACode := .loop b91_1
theorem e91_1 {R : Type} (Φ : Oracle) (Λ' : ACode → List AV → Heap → Option Out) (tm : List AV) (H : Heap) (K : AEx → List AV → Heap → Option R) : exec0 Φ Λ' c91_1 tm H K = thenL (Λ' c91_1 tm H) K := rfl
theorem l91_1 (tm : List AV) (H : Heap) : Λ c91_1 tm H = exec0 L Λ b91_1 tm H fun e tm H => match e with
    | .normal => Λ c91_1 tm H
    | .exit i => some (.exit i, tm, H)
    | .goto l => some (.goto l, tm, H)
    | .ret => some (.ret, tm, H) := loop_eq
def b91_2 : ACode := (.seq (.ops [⟨(some 53), (.bin .lss (.t 52) (.t 51)), none⟩] []) (.seq (.cond (.t 53) .skip (.exit 3)) (.seq (.block 4 (.seq (.ops [⟨(some 54), (.indexSl 1 (.t 50) (.t 52)), none⟩, ⟨(some 55), (.load none (.t 54)), none⟩, ⟨(some 10), (.move (.t 55)), none⟩] []) (.seq (.ops [⟨(some 56), (.move (.t 0)), none⟩, ⟨(some 57), (.move (.t 10)), none⟩, ⟨(some 58), (.bslice false 1 1 [(.im (.int .u8 0))] [(0, (.t 57))]), none⟩, ⟨(some 59), (.append 5 1 1 (.t 56) (.t 58)), none⟩, ⟨(some 0), (.move (.t 59)), none⟩] []) (.seq (.ops [⟨(some 60), (.move (.t 10)), none⟩, ⟨(some 61), (.bin .eql (.t 60) (.c (.im (.int .u8 0)))), none⟩] []) (.cond (.t 61) (.ops [⟨(some 62), (.move (.t 0)), none⟩, ⟨(some 63), (.bslice false 1 1 [(.im (.int .u8 0))] [(0, (.c (.im (.int .u8 255))))]), none⟩, ⟨(some 64), (.append 5 1 1 (.t 62) (.t 63)), none⟩, ⟨(some 0), (.move (.t 64)), none⟩] []) .skip))))) (.ops [⟨(some 65), (.bin .add (.t 52) (.c (.im (.int .i64 1)))), none⟩, ⟨(some 52), (.move (.t 65)), none⟩] []))))
def c91_2 : ACode := .loop b91_2
theorem e91_2 {R : Type} (Φ : Oracle) (Λ' : ACode → List AV → Heap → Option Out) (tm : List AV) (H : Heap) (K : AEx → List AV → Heap → Option R) : exec0 Φ Λ' c91_2 tm H K = thenL (Λ' c91_2 tm H) K := rfl
theorem l91_2 (tm : List AV) (H : Heap) : Λ c91_2 tm H = exec0 L Λ b91_2 tm H fun e tm H => match e with
    | .normal => Λ c91_2 tm H
    | .exit i => some (.exit i, tm, H)
    | .goto l => some (.goto l, tm, H)
    | .ret => some (.ret, tm, H) := loop_eq
def b91_3 : ACode := (.seq (.seq (.ops [⟨(some 34), (.move (.t 8)), none⟩, ⟨(some 35), (.bin .geq (.t 34) (.c (.im (.int .i64 0)))), none⟩] []) (.cond (.t 35) .skip (.exit 1))) (.seq (.block 2 (.ops [⟨(some 38), (.move (.t 0)), none⟩, ⟨(some 39), (.move (.t 7)), none⟩, ⟨(some 40), (.move (.t 8)), none⟩, ⟨(some 41), (.bin .shr (.t 39) (.t 40)), none⟩, ⟨(some 42), (.i2i .u8 (.t 41)), none⟩, ⟨(some 43), (.bslice false 1 1 [(.im (.int .u8 0))] [(0, (.t 42))]), none⟩, ⟨(some 44), (.append 5 1 1 (.t 38) (.t 43)), none⟩, ⟨(some 0), (.move (.t 44)), none⟩] [])) (.ops [⟨(some 36), (.move (.t 8)), none⟩, ⟨(some 37), (.bin .sub (.t 36) (.c (.im (.int .i64 8)))), none⟩, ⟨(some 8), (.move (.t 37)), none⟩] [])))
def c91_3 : ACode := .loop b91_3
theorem e91_3 {R : Type} (Φ : Oracle) (Λ' : ACode → List AV → Heap → Option Out) (tm : List AV) (H : Heap) (K : AEx → List AV → Heap → Option R) : exec0 Φ Λ' c91_3 tm H K = thenL (Λ' c91_3 tm H) K := rfl
theorem l91_3 (tm : List AV) (H : Heap) : Λ c91_3 tm H = exec0 L Λ b91_3 tm H fun e tm H => match e with
    | .normal => Λ c91_3 tm H
    | .exit i => some (.exit i, tm, H)
    | .goto l => some (.goto l, tm, H)
    | .ret => some (.ret, tm, H) := loop_eq
def f91 : AFunc := ⟨152, [(6, none)], (.seq (.ops [⟨(some 4), (.box none (.t 1)), none⟩, ⟨(some 5), (.box none (.t 2)), none⟩, ⟨(some 6), (.move (.c .nils)), none⟩] []) (.seq (.seq (.ops [⟨(some 18), (.fieldAddr 0 (.t 4)), none⟩, ⟨(some 19), (.load none (.t 18)), none⟩] []) (.block 0 (.seq (.ops [⟨(some 21), (.bin .eql (.t 19) (.c (.im (.int .i64 1)))), none⟩, ⟨(some 20), (.move (.t 21)), none⟩] []) (.cond (.t 20) (.seq (.ops [⟨(some 22), (.move (.t 0)), none⟩, ⟨(some 23), (.fieldAddr 1 (.t 5)), none⟩, ⟨(some 24), (.load none (.t 23)), none⟩, ⟨(some 25), (.i2i .u8 (.t 24)), none⟩, ⟨(some 26), (.bslice false 1 1 [(.im (.int .u8 0))] [(0, (.t 25))]), none⟩, ⟨(some 27), (.append 5 1 1 (.t 22) (.t 26)), none⟩, ⟨(some 6), (.move (.t 27)), none⟩] []) .ret) (.seq (.ops [⟨(some 29), (.bin .eql (.t 19) (.c (.im (.int .i64 2)))), none⟩, ⟨(some 28), (.move (.t 29)), none⟩] []) (.cond (.t 28) (.seq (.ops [⟨(some 30), (.fieldAddr 1 (.t 5)), none⟩, ⟨(some 31), (.load none (.t 30)), none⟩, ⟨(some 32), (.i2i .u64 (.t 31)), none⟩, ⟨(some 33), (.bin .xor (.t 32) (.c (.im (.int .u64 9223372036854775808)))), none⟩, ⟨(some 7), (.move (.t 33)), none⟩] []) (.seq (.ops [⟨(some 8), (.move (.c (.im (.int .i64 56)))), none⟩] []) (.block 1 c91_3))) (.seq (.seq (.ops [⟨(some 46), (.bin .eql (.t 19) (.c (.im (.int .i64 3)))), none⟩, ⟨(some 45), (.move (.t 46)), none⟩] []) (.cond (.t 45) .skip (.ops [⟨(some 47), (.bin .eql (.t 19) (.c (.im (.int .i64 4)))), none⟩, ⟨(some 45), (.move (.t 47)), none⟩] []))) (.cond (.t 45) (.seq (.seq (.ops [⟨(some 48), (.fieldAddr 2 (.t 5)), none⟩, ⟨(some 49), (.load none (.t 48)), none⟩, ⟨(some 50), (.s2b (.t 49)), none⟩, ⟨(some 51), (.lenSl (.t 50)), none⟩, ⟨(some 52), (.move (.c (.im (.int .i64 0)))), none⟩] []) (.block 3 c91_2)) (.seq (.ops [⟨(some 66), (.move (.t 0)), none⟩, ⟨(some 67), (.bslice false 1 2 [(.im (.int .u8 0))] [(0, (.c (.im (.int .u8 0)))), (1, (.c (.im (.int .u8 0))))]), none⟩, ⟨(some 68), (.append 5 1 1 (.t 66) (.t 67)), none⟩, ⟨(some 6), (.move (.t 68)), none⟩] []) .ret)) (.seq (.ops [⟨(some 70), (.bin .eql (.t 19) (.c (.im (.int .i64 5)))), none⟩, ⟨(some 69), (.move (.t 70)), none⟩] []) (.cond (.t 69) (.seq (.ops [⟨(some 72), (.load (some 5) (.t 5)), none⟩, ⟨(some 73), (.call (.c (.clo 26 [])) [(.t 72)]), none⟩, ⟨(some 71), (.move (.t 73)), none⟩, ⟨(some 74), (.extract 0 (.t 71)), none⟩, ⟨(some 75), (.extract 1 (.t 71)), none⟩, ⟨(some 76), (.extract 2 (.t 71)), none⟩, ⟨(some 11), (.move (.t 74)), none⟩, ⟨(some 12), (.move (.t 75)), none⟩, ⟨(some 13), (.move (.t 76)), none⟩] []) (.seq (.ops [⟨(some 77), (.move (.t 11)), none⟩, ⟨(some 78), (.bin .add (.t 77) (.c (.im (.int .i64 1048576)))), none⟩, ⟨(some 79), (.move (.t 12)), none⟩, ⟨(some 80), (.bin .add (.t 79) (.c (.im (.int .i64 1048576)))), none⟩, ⟨(some 81), (.bslice false 1 2 [(.im (.int .i64 0))] [(0, (.t 78)), (1, (.t 80))]), none⟩, ⟨(some 82), (.lenSl (.t 81)), none⟩, ⟨(some 83), (.move (.c (.im (.int .i64 0)))), none⟩] []) (.block 5 c91_1))) (.seq (.ops [⟨(some 100), (.bin .eql (.t 19) (.c (.im (.int .i64 6)))), none⟩, ⟨(some 99), (.move (.t 100)), none⟩] []) (.cond (.t 99) (.seq (.ops [⟨(some 101), (.move (.t 0)), none⟩, ⟨(some 102), (.fieldAddr 1 (.t 4)), none⟩, ⟨(some 103), (.load none (.t 102)), none⟩, ⟨(some 104), (.indexSl 2 (.t 103) (.c (.im (.int .i64 0)))), none⟩, ⟨(some 105), (.load (some 2) (.t 104)), none⟩, ⟨(some 106), (.fieldAddr 4 (.t 5)), none⟩, ⟨(some 107), (.load none (.t 106)), none⟩, ⟨(some 108), (.indexSl 5 (.t 107) (.c (.im (.int .i64 0)))), none⟩, ⟨(some 109), (.load (some 5) (.t 108)), none⟩, ⟨(some 110), (.call (.c (.clo 91 [])) [(.t 101), (.t 105), (.t 109)]), none⟩, ⟨(some 111), (.fieldAddr 1 (.t 4)), none⟩, ⟨(some 112), (.load none (.t 111)), none⟩, ⟨(some 113), (.indexSl 2 (.t 112) (.c (.im (.int .i64 1)))), none⟩, ⟨(some 114), (.load (some 2) (.t 113)), none⟩, ⟨(some 115), (.fieldAddr 4 (.t 5)), none⟩, ⟨(some 116), (.load none (.t 115)), none⟩, ⟨(some 117), (.indexSl 5 (.t 116) (.c (.im (.int .i64 1)))), none⟩, ⟨(some 118), (.load (some 5) (.t 117)), none⟩, ⟨(some 119), (.call (.c (.clo 91 [])) [(.t 110), (.t 114), (.t 118)]), none⟩, ⟨(some 6), (.move (.t 119)), none⟩] [(11, 9), (13, 9), (15, 9), (17, 9)]) .ret) (.seq (.seq (.ops [⟨(some 121), (.bin .eql (.t 19) (.c (.im (.int .i64 7)))), none⟩, ⟨(some 120), (.move (.t 121)), none⟩] []) (.cond (.t 120) .skip (.ops [⟨(some 122), (.bin .eql (.t 19) (.c (.im (.int .i64 9)))), none⟩, ⟨(some 120), (.move (.t 122)), none⟩] []))) (.cond (.t 120) (.seq (.seq (.ops [⟨(some 123), (.fieldAddr 4 (.t 5)), none⟩, ⟨(some 124), (.load none (.t 123)), none⟩, ⟨(some 125), (.lenSl (.t 124)), none⟩, ⟨(some 126), (.move (.c (.im (.int .i64 0)))), none⟩] []) (.block 7 c91_0)) (.seq (.ops [⟨(some 140), (.fieldAddr 0 (.t 4)), none⟩, ⟨(some 141), (.load none (.t 140)), none⟩, ⟨(some 142), (.bin .eql (.t 141) (.c (.im (.int .i64 7)))), none⟩, ⟨(some 143), (.move (.t 142)), none⟩, ⟨(some 144), (.fieldAddr 0 (.t 5)), (some (143, false))⟩, ⟨(some 145), (.load none (.t 144)), (some (143, false))⟩, ⟨(some 146), (.bin .eql (.t 145) (.c (.im (.int .i64 8)))), (some (143, false))⟩, ⟨(some 147), (.pick (.t 143) (.c (.im (.bool true))) (.t 146)), none⟩] []) (.cond (.t 147) (.ops [⟨(some 148), (.move (.t 0)), none⟩, ⟨(some 149), (.bslice false 1 1 [(.im (.int .u8 0))] [(0, (.c (.im (.int .u8 0))))]), none⟩, ⟨(some 150), (.append 5 1 1 (.t 148) (.t 149)), none⟩, ⟨(some 0), (.move (.t 150)), none⟩] []) .skip))) .skip)))))))))))))) (.seq (.ops [⟨(some 151), (.move (.t 0)), none⟩, ⟨(some 6), (.move (.t 151)), none⟩] []) .ret))), false⟩
theorem F91 : F 91 = some f91 := by kernel_rfl
def f92 : AFunc := ⟨59, [(4, none)], (.seq (.ops [⟨(some 4), (.move (.c (.im (.int .u8 0)))), none⟩] []) (.seq (.block 0 (.seq (.ops [⟨(some 6), (.move (.t 0)), none⟩, ⟨(some 7), (.nilCheck (.t 6)), none⟩, ⟨(some 8), (.fieldAddr 3 (.t 7)), none⟩, ⟨(some 9), (.load none (.t 8)), none⟩, ⟨(some 10), (.bin .neq (.t 9) (.c (.im (.int .i64 0)))), none⟩, ⟨(some 5), (.move (.t 10)), none⟩] []) (.cond (.t 5) (.seq (.ops [⟨(some 4), (.move (.c (.im (.int .u8 0)))), none⟩] []) .ret) (.seq (.ops [⟨(some 12), (.move (.t 0)), none⟩, ⟨(some 13), (.nilCheck (.t 12)), none⟩, ⟨(some 14), (.fieldAddr 1 (.t 13)), none⟩, ⟨(some 15), (.load none (.t 14)), none⟩, ⟨(some 16), (.move (.t 0)), none⟩, ⟨(some 17), (.nilCheck (.t 16)), none⟩, ⟨(some 18), (.fieldAddr 0 (.t 17)), none⟩, ⟨(some 19), (.load none (.t 18)), none⟩, ⟨(some 20), (.lenSl (.t 19)), none⟩, ⟨(some 21), (.bin .geq (.t 15) (.t 20)), none⟩, ⟨(some 11), (.move (.t 21)), none⟩] []) (.cond (.t 11) (.seq (.ops [⟨(some 22), (.move (.t 0)), none⟩, ⟨(some 23), (.nilCheck (.t 22)), none⟩, ⟨(some 24), (.fieldAddr 3 (.t 23)), none⟩, ⟨none, (.store 1 (.t 24) (.c (.im (.int .i64 30)))), none⟩] []) (.seq (.ops [⟨(some 4), (.move (.c (.im (.int .u8 0)))), none⟩] []) .ret)) (.seq (.ops [⟨(some 26), (.move (.t 0)), none⟩, ⟨(some 27), (.nilCheck (.t 26)), none⟩, ⟨(some 28), (.fieldAddr 0 (.t 27)), none⟩, ⟨(some 29), (.load none (.t 28)), none⟩, ⟨(some 30), (.move (.t 0)), none⟩, ⟨(some 31), (.nilCheck (.t 30)), none⟩, ⟨(some 32), (.fieldAddr 1 (.t 31)), none⟩, ⟨(some 33), (.load none (.t 32)), none⟩, ⟨(some 34), (.indexSl 1 (.t 29) (.t 33)), none⟩, ⟨(some 35), (.load none (.t 34)), none⟩, ⟨(some 36), (.move (.t 1)), none⟩, ⟨(some 37), (.bin .gtr (.t 35) (.t 36)), none⟩, ⟨(some 25), (.move (.t 37)), none⟩] []) (.cond (.t 25) (.seq (.ops [⟨(some 38), (.move (.t 0)), none⟩, ⟨(some 39), (.nilCheck (.t 38)), none⟩, ⟨(some 40), (.fieldAddr 3 (.t 39)), none⟩, ⟨none, (.store 1 (.t 40) (.c (.im (.int .i64 31)))), none⟩] []) (.seq (.ops [⟨(some 4), (.move (.c (.im (.int .u8 0)))), none⟩] []) .ret)) .skip))))))) (.seq (.ops [⟨(some 41), (.move (.t 0)), none⟩, ⟨(some 42), (.nilCheck (.t 41)), none⟩, ⟨(some 43), (.fieldAddr 1 (.t 42)), none⟩, ⟨(some 44), (.load none (.t 43)), none⟩, ⟨(some 45), (.bin .add (.t 44) (.c (.im (.int .i64 1)))), none⟩, ⟨(some 46), (.nilCheck (.t 41)), none⟩, ⟨(some 47), (.fieldAddr 1 (.t 46)), none⟩, ⟨none, (.store 1 (.t 47) (.t 45)), none⟩] []) (.seq (.ops [⟨(some 48), (.move (.t 0)), none⟩, ⟨(some 49), (.nilCheck (.t 48)), none⟩, ⟨(some 50), (.fieldAddr 0 (.t 49)), none⟩, ⟨(some 51), (.load none (.t 50)), none⟩, ⟨(some 52), (.move (.t 0)), none⟩, ⟨(some 53), (.nilCheck (.t 52)), none⟩, ⟨(some 54), (.fieldAddr 1 (.t 53)), none⟩, ⟨(some 55), (.load none (.t 54)), none⟩, ⟨(some 56), (.bin .sub (.t 55) (.c (.im (.int .i64 1)))), none⟩, ⟨(some 57), (.indexSl 1 (.t 51) (.t 56)), none⟩, ⟨(some 58), (.load none (.t 57)), none⟩, ⟨(some 4), (.move (.t 58)), none⟩] []) .ret)))), false⟩
theorem F92 : F 92 = some f92 := by kernel_rfl
def c93_0 : ACode := (.scope (.seq (.ops [⟨(some 3), (.move (.c .nils)), none⟩] []) (.seq (.label 0) (.seq (.ops [⟨(some 5), (.move (.t 0)), none⟩, ⟨(some 6), (.call (.c (.clo 92 [])) [(.t 5), (.c (.im (.int .u8 255)))]), none⟩, ⟨(some 4), (.move (.t 6)), none⟩] []) (.seq (.seq (.ops [⟨(some 7), (.move (.t 4)), none⟩, ⟨(some 8), (.bin .neq (.t 7) (.c (.im (.int .u8 0)))), none⟩] []) (.cond (.t 8) (.seq (.seq (.ops [⟨(some 9), (.move (.t 3)), none⟩, ⟨(some 10), (.lenSl (.t 9)), none⟩, ⟨(some 11), (.bin .eql (.t 10) (.c (.im (.int .i64 256)))), none⟩] []) (.cond (.t 11) (.ops [⟨(some 12), (.move (.t 0)), none⟩, ⟨(some 13), (.call (.c (.clo 110 [])) [(.t 12)]), none⟩] []) .skip)) (.seq (.ops [⟨(some 14), (.move (.t 3)), none⟩, ⟨(some 15), (.move (.t 4)), none⟩, ⟨(some 16), (.bslice false 1 1 [(.im (.int .u8 0))] [(0, (.t 15))]), none⟩, ⟨(some 17), (.append 5 1 1 (.t 14) (.t 16)), none⟩, ⟨(some 3), (.move (.t 17)), none⟩] []) (.goto 1))) .skip)) (.seq (.seq (.ops [⟨(some 18), (.move (.t 0)), none⟩, ⟨(some 19), (.call (.c (.clo 92 [])) [(.t 18), (.c (.im (.int .u8 255)))]), none⟩, ⟨(some 4), (.move (.t 19)), none⟩] []) (.block 0 (.seq (.ops [⟨(some 21), (.move (.t 4)), none⟩, ⟨(some 22), (.bin .eql (.t 21) (.c (.im (.int .u8 0)))), none⟩, ⟨(some 20), (.move (.t 22)), none⟩] []) (.cond (.t 20) (.seq (.ops [⟨(some 23), (.move (.t 3)), none⟩, ⟨(some 24), (.b2s (.t 23)), none⟩, ⟨(some 2), (.move (.t 24)), none⟩] []) .ret) (.seq (.ops [⟨(some 26), (.move (.t 4)), none⟩, ⟨(some 27), (.bin .neq (.t 26) (.c (.im (.int .u8 255)))), none⟩, ⟨(some 28), (.move (.t 27)), none⟩, ⟨(some 29), (.move (.t 3)), (some (28, false))⟩, ⟨(some 30), (.lenSl (.t 29)), (some (28, false))⟩, ⟨(some 31), (.bin .eql (.t 30) (.c (.im (.int .i64 256)))), (some (28, false))⟩, ⟨(some 32), (.pick (.t 28) (.c (.im (.bool true))) (.t 31)), none⟩, ⟨(some 25), (.move (.t 32)), none⟩] []) (.cond (.t 25) (.ops [⟨(some 33), (.move (.t 0)), none⟩, ⟨(some 34), (.call (.c (.clo 110 [])) [(.t 33)]), none⟩] []) .skip)))))) (.seq (.ops [⟨(some 35), (.move (.t 3)), none⟩, ⟨(some 36), (.bslice false 1 1 [(.im (.int .u8 0))] [(0, (.c (.im (.int .u8 0))))]), none⟩, ⟨(some 37), (.append 5 1 1 (.t 35) (.t 36)), none⟩, ⟨(some 3), (.move (.t 37)), none⟩] []) (.seq (.label 1) (.seq (.seq (.ops [⟨(some 38), (.move (.t 0)), none⟩, ⟨(some 39), (.nilCheck (.t 38)), none⟩, ⟨(some 40), (.fieldAddr 3 (.t 39)), none⟩, ⟨(some 41), (.load none (.t 40)), none⟩, ⟨(some 42), (.bin .eql (.t 41) (.c (.im (.int .i64 0)))), none⟩] []) (.cond (.t 42) (.goto 0) .skip)) (.seq (.ops [⟨(some 2), (.move (.c (.im (.str [])))), none⟩] []) .ret))))))))) (.seq (.ops [⟨(some 3), (.move (.c .nils)), none⟩] []) (.seq (.label 0) (.seq (.ops [⟨(some 5), (.move (.t 0)), none⟩, ⟨(some 6), (.call (.c (.clo 92 [])) [(.t 5), (.c (.im (.int .u8 255)))]), none⟩, ⟨(some 4), (.move (.t 6)), none⟩] []) (.seq (.seq (.ops [⟨(some 7), (.move (.t 4)), none⟩, ⟨(some 8), (.bin .neq (.t 7) (.c (.im (.int .u8 0)))), none⟩] []) (.cond (.t 8) (.seq (.seq (.ops [⟨(some 9), (.move (.t 3)), none⟩, ⟨(some 10), (.lenSl (.t 9)), none⟩, ⟨(some 11), (.bin .eql (.t 10) (.c (.im (.int .i64 256)))), none⟩] []) (.cond (.t 11) (.ops [⟨(some 12), (.move (.t 0)), none⟩, ⟨(some 13), (.call (.c (.clo 110 [])) [(.t 12)]), none⟩] []) .skip)) (.seq (.ops [⟨(some 14), (.move (.t 3)), none⟩, ⟨(some 15), (.move (.t 4)), none⟩, ⟨(some 16), (.bslice false 1 1 [(.im (.int .u8 0))] [(0, (.t 15))]), none⟩, ⟨(some 17), (.append 5 1 1 (.t 14) (.t 16)), none⟩, ⟨(some 3), (.move (.t 17)), none⟩] []) (.goto 1))) .skip)) (.seq (.seq (.ops [⟨(some 18), (.move (.t 0)), none⟩, ⟨(some 19), (.call (.c (.clo 92 [])) [(.t 18), (.c (.im (.int .u8 255)))]), none⟩, ⟨(some 4), (.move (.t 19)), none⟩] []) (.block 0 (.seq (.ops [⟨(some 21), (.move (.t 4)), none⟩, ⟨(some 22), (.bin .eql (.t 21) (.c (.im (.int .u8 0)))), none⟩, ⟨(some 20), (.move (.t 22)), none⟩] []) (.cond (.t 20) (.seq (.ops [⟨(some 23), (.move (.t 3)), none⟩, ⟨(some 24), (.b2s (.t 23)), none⟩, ⟨(some 2), (.move (.t 24)), none⟩] []) .ret) (.seq (.ops [⟨(some 26), (.move (.t 4)), none⟩, ⟨(some 27), (.bin .neq (.t 26) (.c (.im (.int .u8 255)))), none⟩, ⟨(some 28), (.move (.t 27)), none⟩, ⟨(some 29), (.move (.t 3)), (some (28, false))⟩, ⟨(some 30), (.lenSl (.t 29)), (some (28, false))⟩, ⟨(some 31), (.bin .eql (.t 30) (.c (.im (.int .i64 256)))), (some (28, false))⟩, ⟨(some 32), (.pick (.t 28) (.c (.im (.bool true))) (.t 31)), none⟩, ⟨(some 25), (.move (.t 32)), none⟩] []) (.cond (.t 25) (.ops [⟨(some 33), (.move (.t 0)), none⟩, ⟨(some 34), (.call (.c (.clo 110 [])) [(.t 33)]), none⟩] []) .skip)))))) (.seq (.ops [⟨(some 35), (.move (.t 3)), none⟩, ⟨(some 36), (.bslice false 1 1 [(.im (.int .u8 0))] [(0, (.c (.im (.int .u8 0))))]), none⟩, ⟨(some 37), (.append 5 1 1 (.t 35) (.t 36)), none⟩, ⟨(some 3), (.move (.t 37)), none⟩] []) (.seq (.label 1) (.seq (.seq (.ops [⟨(some 38), (.move (.t 0)), none⟩, ⟨(some 39), (.nilCheck (.t 38)), none⟩, ⟨(some 40), (.fieldAddr 3 (.t 39)), none⟩, ⟨(some 41), (.load none (.t 40)), none⟩, ⟨(some 42), (.bin .eql (.t 41) (.c (.im (.int .i64 0)))), none⟩] []) (.cond (.t 42) (.goto 0) .skip)) (.seq (.ops [⟨(some 2), (.move (.c (.im (.str [])))), none⟩] []) .ret))))))))))
theorem e93_0 {R : Type} (Φ : Oracle) (Λ' : ACode → List AV → Heap → Option Out) (tm : List AV) (H : Heap) (K : AEx → List AV → Heap → Option R) : exec0 Φ Λ' c93_0 tm H K = thenL (Λ' c93_0 tm H) K := rfl
def f93 : AFunc := ⟨43, [(2, none)], (.seq (.ops [⟨(some 2), (.move (.c (.im (.str [])))), none⟩] []) c93_0), false⟩
theorem F93 : F 93 = some f93 := by kernel_rfl
def f94 : AFunc := ⟨19, [(2, none)], (.seq (.ops [⟨(some 2), (.move (.c (.im (.int .i64 0)))), none⟩] []) (.seq (.ops [⟨(some 4), (.move (.t 0)), none⟩, ⟨(some 5), (.call (.c (.clo 92 [])) [(.t 4), (.c (.im (.int .u8 31)))]), none⟩, ⟨(some 3), (.move (.t 5)), none⟩] []) (.seq (.ops [⟨(some 6), (.move (.t 3)), none⟩, ⟨(some 7), (.i2i .i64 (.t 6)), none⟩, ⟨(some 8), (.bin .shl (.t 7) (.c (.im (.int .u64 16)))), none⟩, ⟨(some 9), (.move (.t 0)), none⟩, ⟨(some 10), (.call (.c (.clo 92 [])) [(.t 9), (.c (.im (.int .u8 255)))]), none⟩, ⟨(some 11), (.i2i .i64 (.t 10)), none⟩, ⟨(some 12), (.bin .shl (.t 11) (.c (.im (.int .u64 8)))), none⟩, ⟨(some 13), (.bin .or (.t 8) (.t 12)), none⟩, ⟨(some 14), (.move (.t 0)), none⟩, ⟨(some 15), (.call (.c (.clo 92 [])) [(.t 14), (.c (.im (.int .u8 255)))]), none⟩, ⟨(some 16), (.i2i .i64 (.t 15)), none⟩, ⟨(some 17), (.bin .or (.t 13) (.t 16)), none⟩, ⟨(some 18), (.bin .sub (.t 17) (.c (.im (.int .i64 1048576)))), none⟩, ⟨(some 2), (.move (.t 18)), none⟩] []) .ret))), false⟩
theorem F94 : F 94 = some f94 := by kernel_rfl
def f95 : AFunc := ⟨35, [(6, none)], (.seq (.ops [⟨(some 4), (.box none (.t 1)), none⟩, ⟨(some 6), (.move (.c (.im (.bool false)))), none⟩] []) (.seq (.seq (.ops [⟨(some 7), (.move (.t 0)), none⟩, ⟨(some 8), (.call (.c (.clo 92 [])) [(.t 7), (.c (.im (.int .u8 1)))]), none⟩, ⟨(some 9), (.bin .eql (.t 8) (.c (.im (.int .u8 0)))), none⟩] []) (.cond (.t 9) (.seq (.ops [⟨(some 6), (.move (.c (.im (.bool false)))), none⟩] []) .ret) .skip)) (.seq (.seq (.ops [⟨(some 10), (.move (.t 0)), none⟩, ⟨(some 11), (.nilCheck (.t 10)), none⟩, ⟨(some 12), (.fieldAddr 2 (.t 11)), none⟩, ⟨(some 13), (.load none (.t 12)), none⟩, ⟨(some 14), (.load (some 2) (.t 4)), none⟩, ⟨(some 15), (.call (.c (.clo 65 [])) [(.t 14)]), none⟩, ⟨(some 16), (.bin .add (.t 13) (.t 15)), none⟩, ⟨(some 17), (.nilCheck (.t 10)), none⟩, ⟨(some 18), (.fieldAddr 2 (.t 17)), none⟩, ⟨none, (.store 1 (.t 18) (.t 16)), none⟩] [(3, 5)]) (.seq (.ops [⟨(some 19), (.move (.t 2)), none⟩, ⟨(some 20), (.bin .eql (.t 19) (.c (.im (.int .i64 0)))), none⟩, ⟨(some 21), (.move (.t 20)), none⟩, ⟨(some 22), (.move (.t 0)), (some (21, false))⟩, ⟨(some 23), (.nilCheck (.t 22)), (some (21, false))⟩, ⟨(some 24), (.fieldAddr 2 (.t 23)), (some (21, false))⟩, ⟨(some 25), (.load none (.t 24)), (some (21, false))⟩, ⟨(some 26), (.bin .gtr (.t 25) (.c (.im (.int .i64 2000)))), (some (21, false))⟩, ⟨(some 27), (.pick (.t 21) (.c (.im (.bool true))) (.t 26)), none⟩] []) (.cond (.t 27) (.ops [⟨(some 28), (.move (.t 0)), none⟩, ⟨(some 29), (.call (.c (.clo 110 [])) [(.t 28)]), none⟩] []) .skip))) (.seq (.ops [⟨(some 30), (.move (.t 0)), none⟩, ⟨(some 31), (.nilCheck (.t 30)), none⟩, ⟨(some 32), (.fieldAddr 3 (.t 31)), none⟩, ⟨(some 33), (.load none (.t 32)), none⟩, ⟨(some 34), (.bin .eql (.t 33) (.c (.im (.int .i64 0)))), none⟩, ⟨(some 6), (.move (.t 34)), none⟩] []) .ret)))), false⟩
theorem F95 : F 95 = some f95 := by kernel_rfl
def b96_0 : ACode := (.seq (.seq (.ops [⟨(some 10), (.move (.t 2)), none⟩, ⟨(some 11), (.move (.t 1)), none⟩, ⟨(some 12), (.lenSl (.t 11)), none⟩, ⟨(some 13), (.bin .lss (.t 10) (.t 12)), none⟩] []) (.cond (.t 13) .skip (.exit 0))) (.block 1 (.seq (.seq (.ops [⟨(some 14), (.move (.t 1)), none⟩, ⟨(some 15), (.move (.t 2)), none⟩, ⟨(some 16), (.indexSl 1 (.t 14) (.t 15)), none⟩, ⟨(some 17), (.load none (.t 16)), none⟩, ⟨(some 18), (.bin .neq (.t 17) (.c (.im (.int .u8 0)))), none⟩] []) (.cond (.t 18) (.seq (.seq (.ops [⟨(some 19), (.move (.t 9)), none⟩, ⟨(some 20), (.lenSl (.t 19)), none⟩, ⟨(some 21), (.bin .eql (.t 20) (.c (.im (.int .i64 256)))), none⟩] []) (.cond (.t 21) (.seq (.ops [⟨(some 22), (.build [(.im (.int .i64 0)), (.im (.int .i64 0)), (.im (.str [])), (.im (.cpx .f64 0 0)), .nils] []), none⟩, ⟨(some 23), (.move (.t 2)), none⟩, ⟨none, (.store 5 (.t 6) (.t 22)), none⟩, ⟨(some 7), (.move (.t 23)), none⟩, ⟨(some 8), (.move (.c (.im (.int .i64 31)))), none⟩] []) .ret) .skip)) (.seq (.ops [⟨(some 24), (.move (.t 9)), none⟩, ⟨(some 25), (.move (.t 1)), none⟩, ⟨(some 26), (.move (.t 2)), none⟩, ⟨(some 27), (.indexSl 1 (.t 25) (.t 26)), none⟩, ⟨(some 28), (.load none (.t 27)), none⟩, ⟨(some 29), (.bslice false 1 1 [(.im (.int .u8 0))] [(0, (.t 28))]), none⟩, ⟨(some 30), (.append 5 1 1 (.t 24) (.t 29)), none⟩, ⟨(some 9), (.move (.t 30)), none⟩] []) (.seq (.ops [⟨(some 31), (.move (.t 2)), none⟩, ⟨(some 32), (.bin .add (.t 31) (.c (.im (.int .i64 1)))), none⟩, ⟨(some 2), (.move (.t 32)), none⟩] []) (.exit 1)))) .skip)) (.seq (.seq (.ops [⟨(some 33), (.move (.t 2)), none⟩, ⟨(some 34), (.bin .add (.t 33) (.c (.im (.int .i64 1)))), none⟩, ⟨(some 35), (.move (.t 1)), none⟩, ⟨(some 36), (.lenSl (.t 35)), none⟩, ⟨(some 37), (.bin .geq (.t 34) (.t 36)), none⟩] []) (.cond (.t 37) (.seq (.ops [⟨(some 38), (.build [(.im (.int .i64 0)), (.im (.int .i64 0)), (.im (.str [])), (.im (.cpx .f64 0 0)), .nils] []), none⟩, ⟨(some 39), (.move (.t 2)), none⟩, ⟨(some 40), (.bin .add (.t 39) (.c (.im (.int .i64 1)))), none⟩, ⟨none, (.store 5 (.t 6) (.t 38)), none⟩, ⟨(some 7), (.move (.t 40)), none⟩, ⟨(some 8), (.move (.c (.im (.int .i64 30)))), none⟩] []) .ret) .skip)) (.seq (.seq (.ops [⟨(some 41), (.move (.t 1)), none⟩, ⟨(some 42), (.move (.t 2)), none⟩, ⟨(some 43), (.bin .add (.t 42) (.c (.im (.int .i64 1)))), none⟩, ⟨(some 44), (.indexSl 1 (.t 41) (.t 43)), none⟩, ⟨(some 45), (.load none (.t 44)), none⟩, ⟨(some 46), (.bin .eql (.t 45) (.c (.im (.int .u8 0)))), none⟩] []) (.cond (.t 46) (.seq (.ops [⟨(some 47), (.move (.t 9)), none⟩, ⟨(some 48), (.b2s (.t 47)), none⟩, ⟨(some 49), (.fieldAddr 2 (.t 3)), none⟩, ⟨none, (.store 1 (.t 49) (.t 48)), none⟩] []) (.seq (.ops [⟨(some 50), (.load (some 5) (.t 3)), none⟩, ⟨(some 51), (.move (.t 2)), none⟩, ⟨(some 52), (.bin .add (.t 51) (.c (.im (.int .i64 2)))), none⟩, ⟨none, (.store 5 (.t 6) (.t 50)), none⟩, ⟨(some 7), (.move (.t 52)), none⟩, ⟨(some 8), (.move (.c (.im (.int .i64 0)))), none⟩] []) .ret)) .skip)) (.seq (.seq (.ops [⟨(some 53), (.move (.t 1)), none⟩, ⟨(some 54), (.move (.t 2)), none⟩, ⟨(some 55), (.bin .add (.t 54) (.c (.im (.int .i64 1)))), none⟩, ⟨(some 56), (.indexSl 1 (.t 53) (.t 55)), none⟩, ⟨(some 57), (.load none (.t 56)), none⟩, ⟨(some 58), (.bin .neq (.t 57) (.c (.im (.int .u8 255)))), none⟩, ⟨(some 59), (.move (.t 58)), none⟩, ⟨(some 60), (.move (.t 9)), (some (59, false))⟩, ⟨(some 61), (.lenSl (.t 60)), (some (59, false))⟩, ⟨(some 62), (.bin .eql (.t 61) (.c (.im (.int .i64 256)))), (some (59, false))⟩, ⟨(some 63), (.pick (.t 59) (.c (.im (.bool true))) (.t 62)), none⟩] []) (.cond (.t 63) (.seq (.ops [⟨(some 64), (.build [(.im (.int .i64 0)), (.im (.int .i64 0)), (.im (.str [])), (.im (.cpx .f64 0 0)), .nils] []), none⟩, ⟨(some 65), (.move (.t 2)), none⟩, ⟨(some 66), (.bin .add (.t 65) (.c (.im (.int .i64 1)))), none⟩, ⟨none, (.store 5 (.t 6) (.t 64)), none⟩, ⟨(some 7), (.move (.t 66)), none⟩, ⟨(some 8), (.move (.c (.im (.int .i64 31)))), none⟩] []) .ret) .skip)) (.seq (.ops [⟨(some 67), (.move (.t 9)), none⟩, ⟨(some 68), (.bslice false 1 1 [(.im (.int .u8 0))] [(0, (.c (.im (.int .u8 0))))]), none⟩, ⟨(some 69), (.append 5 1 1 (.t 67) (.t 68)), none⟩, ⟨(some 9), (.move (.t 69)), none⟩] []) (.ops [⟨(some 70), (.move (.t 2)), none⟩, ⟨(some 71), (.bin .add (.t 70) (.c (.im (.int .i64 2)))), none⟩, ⟨(some 2), (.move (.t 71)), none⟩] []))))))))
def c96_0 : ACode := .loop b96_0
theorem e96_0 {R : Type} (Φ : Oracle) (Λ' : ACode → List AV → Heap → Option Out) (tm : List AV) (H : Heap) (K : AEx → List AV → Heap → Option R) : exec0 Φ Λ' c96_0 tm H K = thenL (Λ' c96_0 tm H) K := rfl
theorem l96_0 (tm : List AV) (H : Heap) : Λ c96_0 tm H = exec0 L Λ b96_0 tm H fun e tm H => match e with
    | .normal => Λ c96_0 tm H
    | .exit i => some (.exit i, tm, H)
    | .goto l => some (.goto l, tm, H)
    | .ret => some (.ret, tm, H) := loop_eq
def f96 : AFunc := ⟨74, [(6, (some (some 5))), (7, none), (8, none)], (.seq (.ops [⟨(some 3), (.box none (.t 0)), none⟩, ⟨(some 6), (.alloc none [(.im (.int .i64 0)), (.im (.int .i64 0)), (.im (.str [])), (.im (.cpx .f64 0 0)), .nils]), none⟩, ⟨(some 7), (.move (.c (.im (.int .i64 0)))), none⟩, ⟨(some 8), (.move (.c (.im (.int .i64 0)))), none⟩] []) (.seq (.ops [⟨(some 9), (.move (.c .nils)), none⟩] []) (.seq (.block 0 c96_0) (.seq (.ops [⟨(some 72), (.build [(.im (.int .i64 0)), (.im (.int .i64 0)), (.im (.str [])), (.im (.cpx .f64 0 0)), .nils] []), none⟩, ⟨(some 73), (.move (.t 2)), none⟩, ⟨none, (.store 5 (.t 6) (.t 72)), none⟩, ⟨(some 7), (.move (.t 73)), none⟩, ⟨(some 8), (.move (.c (.im (.int .i64 30)))), none⟩] []) .ret)))), false⟩
theorem F96 : F 96 = some f96 := by kernel_rfl
def f97 : AFunc := ⟨13, [(4, (some (some 5)))], (.seq (.ops [⟨(some 4), (.alloc none [(.im (.int .i64 0)), (.im (.int .i64 0)), (.im (.str [])), (.im (.cpx .f64 0 0)), .nils]), none⟩] []) (.seq (.ops [⟨(some 5), (.move (.t 0)), none⟩, ⟨(some 6), (.call (.c (.clo 111 [])) [(.t 5)]), none⟩, ⟨(some 7), (.i2f .f64 (.t 6)), none⟩, ⟨(some 8), (.move (.t 1)), none⟩, ⟨(some 9), (.call (.c (.clo 111 [])) [(.t 8)]), none⟩, ⟨(some 10), (.i2f .f64 (.t 9)), none⟩, ⟨(some 11), (.complex (.t 7) (.t 10)), none⟩, ⟨(some 12), (.build [(.im (.int .i64 0)), (.im (.int .i64 0)), (.im (.str [])), (.im (.cpx .f64 0 0)), .nils] [(0, (1, (.c (.im (.int .i64 5))))), (3, (1, (.t 11)))]), none⟩, ⟨none, (.store 5 (.t 4) (.t 12)), none⟩] []) .ret)), false⟩
theorem F97 : F 97 = some f97 := by kernel_rfl
def b103_0 : ACode := (.seq (.ops [⟨(some 9), (.bin .lss (.t 8) (.t 7)), none⟩] []) (.seq (.cond (.t 9) .skip (.exit 0)) (.seq (.block 1 (.seq (.ops [⟨(some 10), (.move (.t 8)), none⟩, ⟨(some 5), (.move (.t 10)), none⟩] []) (.seq (.ops [⟨(some 11), (.move (.t 1)), none⟩, ⟨(some 12), (.move (.t 0)), none⟩, ⟨(some 13), (.move (.t 5)), none⟩, ⟨(some 14), (.indexSl 5 (.t 12) (.t 13)), none⟩, ⟨(some 15), (.load (some 5) (.t 14)), none⟩, ⟨(some 16), (.call (.t 11) [(.t 15)]), none⟩] []) (.cond (.t 16) (.seq (.ops [⟨(some 17), (.move (.t 5)), none⟩, ⟨(some 4), (.move (.t 17)), none⟩] []) .ret) .skip)))) (.ops [⟨(some 18), (.bin .add (.t 8) (.c (.im (.int .i64 1)))), none⟩, ⟨(some 8), (.move (.t 18)), none⟩] []))))
def c103_0 : ACode := .loop b103_0
theorem e103_0 {R : Type} (Φ : Oracle) (Λ' : ACode → List AV → Heap → Option Out) (tm : List AV) (H : Heap) (K : AEx → List AV → Heap → Option R) : exec0 Φ Λ' c103_0 tm H K = thenL (Λ' c103_0 tm H) K := rfl
theorem l103_0 (tm : List AV) (H : Heap) : Λ c103_0 tm H = exec0 L Λ b103_0 tm H fun e tm H => match e with
    | .normal => Λ c103_0 tm H
    | .exit i => some (.exit i, tm, H)
    | .goto l => some (.goto l, tm, H)
    | .ret => some (.ret, tm, H) := loop_eq
def f103 : AFunc := ⟨19, [(4, none)], (.seq (.ops [⟨(some 4), (.move (.c (.im (.int .i64 0)))), none⟩] []) (.seq (.seq (.ops [⟨(some 6), (.move (.t 0)), none⟩, ⟨(some 7), (.lenSl (.t 6)), none⟩, ⟨(some 8), (.move (.c (.im (.int .i64 0)))), none⟩] []) (.block 0 c103_0)) (.seq (.ops [⟨(some 4), (.move (.c (.im (.int .i64 (-1))))), none⟩] []) .ret))), false⟩
theorem F103 : F 103 = some f103 := by kernel_rfl
def f107 : AFunc := ⟨84, [(2, none)], (.seq (.ops [⟨(some 1), (.box none (.t 0)), none⟩, ⟨(some 2), (.move (.c (.im (.bool false)))), none⟩] []) (.seq (.seq (.ops [⟨(some 3), (.fieldAddr 0 (.t 1)), none⟩, ⟨(some 4), (.load none (.t 3)), none⟩] []) (.block 0 (.seq (.ops [⟨(some 6), (.bin .eql (.t 4) (.c (.im (.int .i64 1)))), none⟩, ⟨(some 5), (.move (.t 6)), none⟩] []) (.cond (.t 5) (.seq (.ops [⟨(some 7), (.load (some 5) (.t 1)), none⟩, ⟨(some 8), (.call (.c (.clo 114 [])) [(.t 7), (.c (.im (.bool true))), (.c (.im (.bool false))), (.c (.im (.bool false))), (.c (.im (.bool false)))]), none⟩, ⟨(some 9), (.move (.t 8)), none⟩, ⟨(some 10), (.fieldAddr 1 (.t 1)), (some (9, true))⟩, ⟨(some 11), (.load none (.t 10)), (some (9, true))⟩, ⟨(some 12), (.bin .eql (.t 11) (.c (.im (.int .i64 0)))), (some (9, true))⟩, ⟨(some 13), (.move (.t 12)), (some (9, true))⟩, ⟨(some 14), (.fieldAddr 1 (.t 1)), (some (13, false))⟩, ⟨(some 15), (.load none (.t 14)), (some (13, false))⟩, ⟨(some 16), (.bin .eql (.t 15) (.c (.im (.int .i64 1)))), (some (13, false))⟩, ⟨(some 17), (.pick (.t 13) (.c (.im (.bool true))) (.t 16)), (some (9, true))⟩, ⟨(some 18), (.pick (.t 9) (.t 17) (.c (.im (.bool false)))), none⟩, ⟨(some 2), (.move (.t 18)), none⟩] []) .ret) (.seq (.ops [⟨(some 20), (.bin .eql (.t 4) (.c (.im (.int .i64 2)))), none⟩, ⟨(some 19), (.move (.t 20)), none⟩] []) (.cond (.t 19) (.seq (.ops [⟨(some 21), (.load (some 5) (.t 1)), none⟩, ⟨(some 22), (.call (.c (.clo 114 [])) [(.t 21), (.c (.im (.bool true))), (.c (.im (.bool false))), (.c (.im (.bool false))), (.c (.im (.bool false)))]), none⟩, ⟨(some 2), (.move (.t 22)), none⟩] []) .ret) (.seq (.seq (.ops [⟨(some 24), (.bin .eql (.t 4) (.c (.im (.int .i64 3)))), none⟩, ⟨(some 23), (.move (.t 24)), none⟩] []) (.cond (.t 23) .skip (.ops [⟨(some 25), (.bin .eql (.t 4) (.c (.im (.int .i64 4)))), none⟩, ⟨(some 23), (.move (.t 25)), none⟩] []))) (.cond (.t 23) (.seq (.ops [⟨(some 26), (.load (some 5) (.t 1)), none⟩, ⟨(some 27), (.call (.c (.clo 114 [])) [(.t 26), (.c (.im (.bool false))), (.c (.im (.bool true))), (.c (.im (.bool false))), (.c (.im (.bool false)))]), none⟩, ⟨(some 28), (.move (.t 27)), none⟩, ⟨(some 29), (.fieldAddr 2 (.t 1)), (some (28, true))⟩, ⟨(some 30), (.load none (.t 29)), (some (28, true))⟩, ⟨(some 31), (.lenStr (.t 30)), (some (28, true))⟩, ⟨(some 32), (.bin .leq (.t 31) (.c (.im (.int .i64 256)))), (some (28, true))⟩, ⟨(some 33), (.pick (.t 28) (.t 32) (.c (.im (.bool false)))), none⟩, ⟨(some 2), (.move (.t 33)), none⟩] []) .ret) (.seq (.ops [⟨(some 35), (.bin .eql (.t 4) (.c (.im (.int .i64 5)))), none⟩, ⟨(some 34), (.move (.t 35)), none⟩] []) (.cond (.t 34) (.seq (.ops [⟨(some 36), (.load (some 5) (.t 1)), none⟩, ⟨(some 37), (.call (.c (.clo 114 [])) [(.t 36), (.c (.im (.bool false))), (.c (.im (.bool false))), (.c (.im (.bool true))), (.c (.im (.bool false)))]), none⟩, ⟨(some 38), (.move (.t 37)), none⟩, ⟨(some 39), (.fieldAddr 3 (.t 1)), (some (38, true))⟩, ⟨(some 40), (.load none (.t 39)), (some (38, true))⟩, ⟨(some 41), (.real (.t 40)), (some (38, true))⟩, ⟨(some 42), (.call (.c (.clo 115 [])) [(.t 41)]), (some (38, true))⟩, ⟨(some 43), (.pick (.t 38) (.t 42) (.c (.im (.bool false)))), none⟩, ⟨(some 44), (.move (.t 43)), none⟩, ⟨(some 45), (.fieldAddr 3 (.t 1)), (some (44, true))⟩, ⟨(some 46), (.load none (.t 45)), (some (44, true))⟩, ⟨(some 47), (.imag (.t 46)), (some (44, true))⟩, ⟨(some 48), (.call (.c (.clo 115 [])) [(.t 47)]), (some (44, true))⟩, ⟨(some 49), (.pick (.t 44) (.t 48) (.c (.im (.bool false)))), none⟩, ⟨(some 2), (.move (.t 49)), none⟩] []) .ret) (.seq (.ops [⟨(some 51), (.bin .eql (.t 4) (.c (.im (.int .i64 6)))), none⟩, ⟨(some 50), (.move (.t 51)), none⟩] []) (.cond (.t 50) (.seq (.ops [⟨(some 52), (.load (some 5) (.t 1)), none⟩, ⟨(some 53), (.call (.c (.clo 114 [])) [(.t 52), (.c (.im (.bool false))), (.c (.im (.bool false))), (.c (.im (.bool false))), (.c (.im (.bool true)))]), none⟩, ⟨(some 54), (.move (.t 53)), none⟩, ⟨(some 55), (.fieldAddr 4 (.t 1)), (some (54, true))⟩, ⟨(some 56), (.load none (.t 55)), (some (54, true))⟩, ⟨(some 57), (.lenSl (.t 56)), (some (54, true))⟩, ⟨(some 58), (.bin .eql (.t 57) (.c (.im (.int .i64 2)))), (some (54, true))⟩, ⟨(some 59), (.pick (.t 54) (.t 58) (.c (.im (.bool false)))), none⟩, ⟨(some 2), (.move (.t 59)), none⟩] []) .ret) (.seq (.ops [⟨(some 61), (.bin .eql (.t 4) (.c (.im (.int .i64 7)))), none⟩, ⟨(some 60), (.move (.t 61)), none⟩] []) (.cond (.t 60) (.seq (.ops [⟨(some 62), (.load (some 5) (.t 1)), none⟩, ⟨(some 63), (.call (.c (.clo 114 [])) [(.t 62), (.c (.im (.bool false))), (.c (.im (.bool false))), (.c (.im (.bool false))), (.c (.im (.bool true)))]), none⟩, ⟨(some 64), (.move (.t 63)), none⟩, ⟨(some 65), (.fieldAddr 4 (.t 1)), (some (64, true))⟩, ⟨(some 66), (.load none (.t 65)), (some (64, true))⟩, ⟨(some 67), (.lenSl (.t 66)), (some (64, true))⟩, ⟨(some 68), (.bin .leq (.t 67) (.c (.im (.int .i64 64)))), (some (64, true))⟩, ⟨(some 69), (.pick (.t 64) (.t 68) (.c (.im (.bool false)))), none⟩, ⟨(some 2), (.move (.t 69)), none⟩] []) .ret) (.seq (.ops [⟨(some 71), (.bin .eql (.t 4) (.c (.im (.int .i64 8)))), none⟩, ⟨(some 70), (.move (.t 71)), none⟩] []) (.cond (.t 70) (.seq (.ops [⟨(some 72), (.load (some 5) (.t 1)), none⟩, ⟨(some 73), (.call (.c (.clo 114 [])) [(.t 72), (.c (.im (.bool false))), (.c (.im (.bool false))), (.c (.im (.bool false))), (.c (.im (.bool false)))]), none⟩, ⟨(some 2), (.move (.t 73)), none⟩] []) .ret) (.seq (.ops [⟨(some 75), (.bin .eql (.t 4) (.c (.im (.int .i64 9)))), none⟩, ⟨(some 74), (.move (.t 75)), none⟩] []) (.cond (.t 74) (.seq (.ops [⟨(some 76), (.load (some 5) (.t 1)), none⟩, ⟨(some 77), (.call (.c (.clo 114 [])) [(.t 76), (.c (.im (.bool false))), (.c (.im (.bool false))), (.c (.im (.bool false))), (.c (.im (.bool true)))]), none⟩, ⟨(some 78), (.move (.t 77)), none⟩, ⟨(some 79), (.fieldAddr 4 (.t 1)), (some (78, true))⟩, ⟨(some 80), (.load none (.t 79)), (some (78, true))⟩, ⟨(some 81), (.lenSl (.t 80)), (some (78, true))⟩, ⟨(some 82), (.bin .eql (.t 81) (.c (.im (.int .i64 1)))), (some (78, true))⟩, ⟨(some 83), (.pick (.t 78) (.t 82) (.c (.im (.bool false)))), none⟩, ⟨(some 2), (.move (.t 83)), none⟩] []) .ret) .skip)))))))))))))))))) (.seq (.ops [⟨(some 2), (.move (.c (.im (.bool false)))), none⟩] []) .ret))), false⟩
theorem F107 : F 107 = some f107 := by kernel_rfl
def f108 : AFunc := ⟨13, [(3, none)], (.seq (.ops [⟨(some 2), (.box none (.t 0)), none⟩, ⟨(some 3), (.move (.c (.im (.bool false)))), none⟩] []) (.seq (.ops [⟨(some 4), (.load (some 5) (.t 2)), none⟩, ⟨(some 5), (.call (.c (.clo 58 [])) [(.t 4)]), none⟩, ⟨(some 6), (.bin .neq (.t 5) (.c (.im (.int .i64 0)))), none⟩, ⟨(some 7), (.move (.t 6)), none⟩, ⟨(some 8), (.load (some 2) (.t 1)), (some (7, false))⟩, ⟨(some 9), (.load (some 5) (.t 2)), (some (7, false))⟩, ⟨(some 10), (.call (.c (.clo 109 [])) [(.t 8), (.t 9)]), (some (7, false))⟩, ⟨(some 11), (.un .not (.t 10)), (some (7, false))⟩, ⟨(some 12), (.pick (.t 7) (.c (.im (.bool true))) (.t 11)), none⟩, ⟨(some 3), (.move (.t 12)), none⟩] []) .ret)), false⟩
theorem F108 : F 108 = some f108 := by kernel_rfl
def b109_0 : ACode := (.seq (.ops [⟨(some 26), (.bin .lss (.t 25) (.t 24)), none⟩] []) (.seq (.cond (.t 26) .skip (.exit 1)) (.seq (.block 2 (.seq (.ops [⟨(some 27), (.move (.t 25)), none⟩, ⟨(some 28), (.indexSl 5 (.t 23) (.t 25)), none⟩, ⟨(some 29), (.load (some 5) (.t 28)), none⟩, ⟨(some 6), (.alloc none [(.im (.int .i64 0)), (.im (.int .i64 0)), (.im (.str [])), (.im (.cpx .f64 0 0)), .nils]), none⟩, ⟨(some 5), (.move (.t 27)), none⟩, ⟨none, (.store 5 (.t 6) (.t 29)), none⟩] []) (.seq (.ops [⟨(some 30), (.fieldAddr 1 (.t 2)), none⟩, ⟨(some 31), (.load none (.t 30)), none⟩, ⟨(some 32), (.move (.t 5)), none⟩, ⟨(some 33), (.fieldAddr 1 (.t 2)), none⟩, ⟨(some 34), (.load none (.t 33)), none⟩, ⟨(some 35), (.lenSl (.t 34)), none⟩, ⟨(some 36), (.bin .sub (.t 35) (.c (.im (.int .i64 1)))), none⟩, ⟨(some 37), (.min (.t 32) (.t 36)), none⟩, ⟨(some 38), (.indexSl 2 (.t 31) (.t 37)), none⟩, ⟨(some 39), (.load (some 2) (.t 38)), none⟩, ⟨(some 40), (.load (some 5) (.t 6)), none⟩, ⟨(some 41), (.call (.c (.clo 109 [])) [(.t 39), (.t 40)]), none⟩, ⟨(some 42), (.un .not (.t 41)), none⟩] []) (.cond (.t 42) (.seq (.ops [⟨(some 4), (.move (.c (.im (.bool false)))), none⟩] []) .ret) .skip)))) (.ops [⟨(some 43), (.bin .add (.t 25) (.c (.im (.int .i64 1)))), none⟩, ⟨(some 25), (.move (.t 43)), none⟩] []))))
def c109_0 : ACode := .loop b109_0
theorem e109_0 {R : Type} (Φ : Oracle) (Λ' : ACode → List AV → Heap → Option Out) (tm : List AV) (H : Heap) (K : AEx → List AV → Heap → Option R) : exec0 Φ Λ' c109_0 tm H K = thenL (Λ' c109_0 tm H) K := rfl
theorem l109_0 (tm : List AV) (H : Heap) : Λ c109_0 tm H = exec0 L Λ b109_0 tm H fun e tm H => match e with
    | .normal => Λ c109_0 tm H
    | .exit i => some (.exit i, tm, H)
    | .goto l => some (.goto l, tm, H)
    | .ret => some (.ret, tm, H) := loop_eq
def f109 : AFunc := ⟨44, [(4, none)], (.seq (.ops [⟨(some 2), (.box none (.t 0)), none⟩, ⟨(some 3), (.box none (.t 1)), none⟩, ⟨(some 4), (.move (.c (.im (.bool false)))), none⟩] []) (.seq (.block 0 (.seq (.ops [⟨(some 8), (.fieldAddr 0 (.t 2)), none⟩, ⟨(some 9), (.load none (.t 8)), none⟩, ⟨(some 10), (.bin .eql (.t 9) (.c (.im (.int .i64 9)))), none⟩, ⟨(some 11), (.move (.t 10)), none⟩, ⟨(some 12), (.fieldAddr 0 (.t 3)), (some (11, true))⟩, ⟨(some 13), (.load none (.t 12)), (some (11, true))⟩, ⟨(some 14), (.bin .eql (.t 13) (.c (.im (.int .i64 8)))), (some (11, true))⟩, ⟨(some 15), (.pick (.t 11) (.t 14) (.c (.im (.bool false)))), none⟩, ⟨(some 7), (.move (.t 15)), none⟩] []) (.cond (.t 7) (.seq (.ops [⟨(some 4), (.move (.c (.im (.bool true)))), none⟩] []) .ret) (.seq (.ops [⟨(some 17), (.fieldAddr 0 (.t 2)), none⟩, ⟨(some 18), (.load none (.t 17)), none⟩, ⟨(some 19), (.fieldAddr 0 (.t 3)), none⟩, ⟨(some 20), (.load none (.t 19)), none⟩, ⟨(some 21), (.bin .neq (.t 18) (.t 20)), none⟩, ⟨(some 16), (.move (.t 21)), none⟩] []) (.cond (.t 16) (.seq (.ops [⟨(some 4), (.move (.c (.im (.bool false)))), none⟩] []) .ret) .skip))))) (.seq (.seq (.ops [⟨(some 22), (.fieldAddr 4 (.t 3)), none⟩, ⟨(some 23), (.load none (.t 22)), none⟩, ⟨(some 24), (.lenSl (.t 23)), none⟩, ⟨(some 25), (.move (.c (.im (.int .i64 0)))), none⟩] []) (.block 1 c109_0)) (.seq (.ops [⟨(some 4), (.move (.c (.im (.bool true)))), none⟩] []) .ret)))), false⟩
theorem F109 : F 109 = some f109 := by kernel_rfl
def f110 : AFunc := ⟨17, [], (.seq (.ops [⟨(some 2), (.move (.t 0)), none⟩, ⟨(some 3), (.nilCheck (.t 2)), none⟩, ⟨(some 4), (.fieldAddr 3 (.t 3)), none⟩, ⟨(some 5), (.load none (.t 4)), none⟩, ⟨(some 6), (.bin .eql (.t 5) (.c (.im (.int .i64 0)))), none⟩] []) (.cond (.t 6) (.seq (.ops [⟨(some 7), (.move (.t 0)), none⟩, ⟨(some 8), (.nilCheck (.t 7)), none⟩, ⟨(some 9), (.fieldAddr 1 (.t 8)), none⟩, ⟨(some 10), (.load none (.t 9)), none⟩, ⟨(some 11), (.bin .sub (.t 10) (.c (.im (.int .i64 1)))), none⟩, ⟨(some 12), (.nilCheck (.t 7)), none⟩, ⟨(some 13), (.fieldAddr 1 (.t 12)), none⟩, ⟨none, (.store 1 (.t 13) (.t 11)), none⟩] []) (.ops [⟨(some 14), (.move (.t 0)), none⟩, ⟨(some 15), (.nilCheck (.t 14)), none⟩, ⟨(some 16), (.fieldAddr 3 (.t 15)), none⟩, ⟨none, (.store 1 (.t 16) (.c (.im (.int .i64 31)))), none⟩] [])) .skip)), false⟩
theorem F110 : F 110 = some f110 := by kernel_rfl
def f111 : AFunc := ⟨15, [(2, none)], (.seq (.ops [⟨(some 2), (.move (.c (.im (.int .i64 0)))), none⟩] []) (.seq (.ops [⟨(some 4), (.move (.t 0)), none⟩, ⟨(some 5), (.bin .rem (.t 4) (.c (.im (.int .i64 2097152)))), none⟩, ⟨(some 3), (.move (.t 5)), none⟩] []) (.seq (.seq (.ops [⟨(some 6), (.move (.t 3)), none⟩, ⟨(some 7), (.bin .lss (.t 6) (.c (.im (.int .i64 0)))), none⟩] []) (.cond (.t 7) (.ops [⟨(some 8), (.move (.t 3)), none⟩, ⟨(some 9), (.bin .add (.t 8) (.c (.im (.int .i64 2097152)))), none⟩, ⟨(some 3), (.move (.t 9)), none⟩] []) .skip)) (.seq (.seq (.ops [⟨(some 10), (.move (.t 3)), none⟩, ⟨(some 11), (.bin .geq (.t 10) (.c (.im (.int .i64 1048576)))), none⟩] []) (.cond (.t 11) (.ops [⟨(some 12), (.move (.t 3)), none⟩, ⟨(some 13), (.bin .sub (.t 12) (.c (.im (.int .i64 2097152)))), none⟩, ⟨(some 3), (.move (.t 13)), none⟩] []) .skip)) (.seq (.ops [⟨(some 14), (.move (.t 3)), none⟩, ⟨(some 2), (.move (.t 14)), none⟩] []) .ret))))), false⟩
theorem F111 : F 111 = some f111 := by kernel_rfl
def f114 : AFunc := ⟨42, [(10, none)], (.seq (.ops [⟨(some 5), (.box none (.t 0)), none⟩, ⟨(some 10), (.move (.c (.im (.bool false)))), none⟩] []) (.seq (.ops [⟨(some 11), (.move (.t 1)), none⟩, ⟨(some 12), (.move (.t 11)), none⟩, ⟨(some 13), (.fieldAddr 1 (.t 5)), (some (12, false))⟩, ⟨(some 14), (.load none (.t 13)), (some (12, false))⟩, ⟨(some 15), (.bin .eql (.t 14) (.c (.im (.int .i64 0)))), (some (12, false))⟩, ⟨(some 16), (.pick (.t 12) (.c (.im (.bool true))) (.t 15)), none⟩, ⟨(some 17), (.move (.t 16)), none⟩, ⟨(some 18), (.move (.t 2)), (some (17, true))⟩, ⟨(some 19), (.move (.t 18)), (some (17, true))⟩, ⟨(some 20), (.fieldAddr 2 (.t 5)), (some (19, false))⟩, ⟨(some 21), (.load none (.t 20)), (some (19, false))⟩, ⟨(some 22), (.bin .eql (.t 21) (.c (.im (.str [])))), (some (19, false))⟩, ⟨(some 23), (.pick (.t 19) (.c (.im (.bool true))) (.t 22)), (some (17, true))⟩, ⟨(some 24), (.pick (.t 17) (.t 23) (.c (.im (.bool false)))), none⟩, ⟨(some 25), (.move (.t 24)), none⟩, ⟨(some 26), (.move (.t 3)), (some (25, true))⟩, ⟨(some 27), (.move (.t 26)), (some (25, true))⟩, ⟨(some 28), (.fieldAddr 3 (.t 5)), (some (27, false))⟩, ⟨(some 29), (.load none (.t 28)), (some (27, false))⟩, ⟨(some 30), (.bin .eql (.t 29) (.c (.im (.cpx .f64 0 0)))), (some (27, false))⟩, ⟨(some 31), (.pick (.t 27) (.c (.im (.bool true))) (.t 30)), (some (25, true))⟩, ⟨(some 32), (.pick (.t 25) (.t 31) (.c (.im (.bool false)))), none⟩, ⟨(some 33), (.move (.t 32)), none⟩, ⟨(some 34), (.move (.t 4)), (some (33, true))⟩, ⟨(some 35), (.move (.t 34)), (some (33, true))⟩, ⟨(some 36), (.fieldAddr 4 (.t 5)), (some (35, false))⟩, ⟨(some 37), (.load none (.t 36)), (some (35, false))⟩, ⟨(some 38), (.lenSl (.t 37)), (some (35, false))⟩, ⟨(some 39), (.bin .eql (.t 38) (.c (.im (.int .i64 0)))), (some (35, false))⟩, ⟨(some 40), (.pick (.t 35) (.c (.im (.bool true))) (.t 39)), (some (33, true))⟩, ⟨(some 41), (.pick (.t 33) (.t 40) (.c (.im (.bool false)))), none⟩, ⟨(some 10), (.move (.t 41)), none⟩] []) .ret)), false⟩
theorem F114 : F 114 = some f114 := by kernel_rfl
def f115 : AFunc := ⟨16, [(2, none)], (.seq (.ops [⟨(some 2), (.move (.c (.im (.bool false)))), none⟩] []) (.seq (.ops [⟨(some 3), (.move (.t 0)), none⟩, ⟨(some 4), (.bin .geq (.t 3) (.c (.im (.flt .f64 13920626448202203136)))), none⟩, ⟨(some 5), (.move (.t 4)), none⟩, ⟨(some 6), (.move (.t 0)), (some (5, true))⟩, ⟨(some 7), (.bin .lss (.t 6) (.c (.im (.flt .f64 4697254411347427328)))), (some (5, true))⟩, ⟨(some 8), (.pick (.t 5) (.t 7) (.c (.im (.bool false)))), none⟩, ⟨(some 9), (.move (.t 8)), none⟩, ⟨(some 10), (.move (.t 0)), (some (9, true))⟩, ⟨(some 11), (.move (.t 0)), (some (9, true))⟩, ⟨(some 12), (.f2i .i64 (.t 11)), (some (9, true))⟩, ⟨(some 13), (.i2f .f64 (.t 12)), (some (9, true))⟩, ⟨(some 14), (.bin .eql (.t 10) (.t 13)), (some (9, true))⟩, ⟨(some 15), (.pick (.t 9) (.t 14) (.c (.im (.bool false)))), none⟩, ⟨(some 2), (.move (.t 15)), none⟩] []) .ret)), false⟩
theorem F115 : F 115 = some f115 := by kernel_rfl
def T2 : FuncId → Option AFunc := fun n =>
  if n = 10 then some f10 else
  if n = 24 then some f24 else
  if n = 26 then some f26 else
  if n = 31 then some f31 else
  if n = 35 then some f35 else
  if n = 37 then some f37 else
  if n = 38 then some f38 else
  if n = 39 then some f39 else
  if n = 40 then some f40 else
  if n = 41 then some f41 else
  if n = 42 then some f42 else
  if n = 43 then some f43 else
  if n = 44 then some f44 else
  if n = 54 then some f54 else
  if n = 57 then some f57 else
  if n = 58 then some f58 else
  if n = 61 then some f61 else
  if n = 62 then some f62 else
  if n = 63 then some f63 else
  if n = 64 then some f64 else
  if n = 65 then some f65 else
  if n = 66 then some f66 else
  if n = 67 then some f67 else
  if n = 68 then some f68 else
  if n = 80 then some f80 else
  if n = 87 then some f87 else
  if n = 88 then some f88 else
  if n = 89 then some f89 else
  if n = 90 then some f90 else
  if n = 91 then some f91 else
  if n = 92 then some f92 else
  if n = 93 then some f93 else
  if n = 94 then some f94 else
  if n = 95 then some f95 else
  if n = 96 then some f96 else
  if n = 97 then some f97 else
  if n = 103 then some f103 else
  if n = 107 then some f107 else
  if n = 108 then some f108 else
  if n = 109 then some f109 else
  if n = 110 then some f110 else
  if n = 111 then some f111 else
  if n = 114 then some f114 else
  if n = 115 then some f115 else
  T n
set_option maxRecDepth 10000 in
theorem Tok2 (f : FuncId) (af : AFunc) (h : T2 f = some af) : F f = some af ∧ closedC af.code = true := by
  unfold T2 at h
  by_cases h10 : f = 10
  · subst h10; rw [if_pos rfl] at h; injection h with h; subst h; exact ⟨F10, by kernel_rfl⟩
  rw [if_neg h10] at h
  by_cases h24 : f = 24
  · subst h24; rw [if_pos rfl] at h; injection h with h; subst h; exact ⟨F24, by kernel_rfl⟩
  rw [if_neg h24] at h
  by_cases h26 : f = 26
  · subst h26; rw [if_pos rfl] at h; injection h with h; subst h; exact ⟨F26, by kernel_rfl⟩
  rw [if_neg h26] at h
  by_cases h31 : f = 31
  · subst h31; rw [if_pos rfl] at h; injection h with h; subst h; exact ⟨F31, by kernel_rfl⟩
  rw [if_neg h31] at h
  by_cases h35 : f = 35
  · subst h35; rw [if_pos rfl] at h; injection h with h; subst h; exact ⟨F35, by kernel_rfl⟩
  rw [if_neg h35] at h
  by_cases h37 : f = 37
  · subst h37; rw [if_pos rfl] at h; injection h with h; subst h; exact ⟨F37, by kernel_rfl⟩
  rw [if_neg h37] at h
  by_cases h38 : f = 38
  · subst h38; rw [if_pos rfl] at h; injection h with h; subst h; exact ⟨F38, by kernel_rfl⟩
  rw [if_neg h38] at h
  by_cases h39 : f = 39
  · subst h39; rw [if_pos rfl] at h; injection h with h; subst h; exact ⟨F39, by kernel_rfl⟩
  rw [if_neg h39] at h
  by_cases h40 : f = 40
  · subst h40; rw [if_pos rfl] at h; injection h with h; subst h; exact ⟨F40, by kernel_rfl⟩
  rw [if_neg h40] at h
  by_cases h41 : f = 41
  · subst h41; rw [if_pos rfl] at h; injection h with h; subst h; exact ⟨F41, by kernel_rfl⟩
  rw [if_neg h41] at h
  by_cases h42 : f = 42
  · subst h42; rw [if_pos rfl] at h; injection h with h; subst h; exact ⟨F42, by kernel_rfl⟩
  rw [if_neg h42] at h
  by_cases h43 : f = 43
  · subst h43; rw [if_pos rfl] at h; injection h with h; subst h; exact ⟨F43, by kernel_rfl⟩
  rw [if_neg h43] at h
  by_cases h44 : f = 44
  · subst h44; rw [if_pos rfl] at h; injection h with h; subst h; exact ⟨F44, by kernel_rfl⟩
  rw [if_neg h44] at h
  by_cases h54 : f = 54
  · subst h54; rw [if_pos rfl] at h; injection h with h; subst h; exact ⟨F54, by kernel_rfl⟩
  rw [if_neg h54] at h
  by_cases h57 : f = 57
  · subst h57; rw [if_pos rfl] at h; injection h with h; subst h; exact ⟨F57, by kernel_rfl⟩
  rw [if_neg h57] at h
  by_cases h58 : f = 58
  · subst h58; rw [if_pos rfl] at h; injection h with h; subst h; exact ⟨F58, by kernel_rfl⟩
  rw [if_neg h58] at h
  by_cases h61 : f = 61
  · subst h61; rw [if_pos rfl] at h; injection h with h; subst h; exact ⟨F61, by kernel_rfl⟩
  rw [if_neg h61] at h
  by_cases h62 : f = 62
  · subst h62; rw [if_pos rfl] at h; injection h with h; subst h; exact ⟨F62, by kernel_rfl⟩
  rw [if_neg h62] at h
  by_cases h63 : f = 63
  · subst h63; rw [if_pos rfl] at h; injection h with h; subst h; exact ⟨F63, by kernel_rfl⟩
  rw [if_neg h63] at h
  by_cases h64 : f = 64
  · subst h64; rw [if_pos rfl] at h; injection h with h; subst h; exact ⟨F64, by kernel_rfl⟩
  rw [if_neg h64] at h
  by_cases h65 : f = 65
  · subst h65; rw [if_pos rfl] at h; injection h with h; subst h; exact ⟨F65, by kernel_rfl⟩
  rw [if_neg h65] at h
  by_cases h66 : f = 66
  · subst h66; rw [if_pos rfl] at h; injection h with h; subst h; exact ⟨F66, by kernel_rfl⟩
  rw [if_neg h66] at h
  by_cases h67 : f = 67
  · subst h67; rw [if_pos rfl] at h; injection h with h; subst h; exact ⟨F67, by kernel_rfl⟩
  rw [if_neg h67] at h
  by_cases h68 : f = 68
  · subst h68; rw [if_pos rfl] at h; injection h with h; subst h; exact ⟨F68, by kernel_rfl⟩
  rw [if_neg h68] at h
  by_cases h80 : f = 80
  · subst h80; rw [if_pos rfl] at h; injection h with h; subst h; exact ⟨F80, by kernel_rfl⟩
  rw [if_neg h80] at h
  by_cases h87 : f = 87
  · subst h87; rw [if_pos rfl] at h; injection h with h; subst h; exact ⟨F87, by kernel_rfl⟩
  rw [if_neg h87] at h
  by_cases h88 : f = 88
  · subst h88; rw [if_pos rfl] at h; injection h with h; subst h; exact ⟨F88, by kernel_rfl⟩
  rw [if_neg h88] at h
  by_cases h89 : f = 89
  · subst h89; rw [if_pos rfl] at h; injection h with h; subst h; exact ⟨F89, by kernel_rfl⟩
  rw [if_neg h89] at h
  by_cases h90 : f = 90
  · subst h90; rw [if_pos rfl] at h; injection h with h; subst h; exact ⟨F90, by kernel_rfl⟩
  rw [if_neg h90] at h
  by_cases h91 : f = 91
  · subst h91; rw [if_pos rfl] at h; injection h with h; subst h; exact ⟨F91, by kernel_rfl⟩
  rw [if_neg h91] at h
  by_cases h92 : f = 92
  · subst h92; rw [if_pos rfl] at h; injection h with h; subst h; exact ⟨F92, by kernel_rfl⟩
  rw [if_neg h92] at h
  by_cases h93 : f = 93
  · subst h93; rw [if_pos rfl] at h; injection h with h; subst h; exact ⟨F93, by kernel_rfl⟩
  rw [if_neg h93] at h
  by_cases h94 : f = 94
  · subst h94; rw [if_pos rfl] at h; injection h with h; subst h; exact ⟨F94, by kernel_rfl⟩
  rw [if_neg h94] at h
  by_cases h95 : f = 95
  · subst h95; rw [if_pos rfl] at h; injection h with h; subst h; exact ⟨F95, by kernel_rfl⟩
  rw [if_neg h95] at h
  by_cases h96 : f = 96
  · subst h96; rw [if_pos rfl] at h; injection h with h; subst h; exact ⟨F96, by kernel_rfl⟩
  rw [if_neg h96] at h
  by_cases h97 : f = 97
  · subst h97; rw [if_pos rfl] at h; injection h with h; subst h; exact ⟨F97, by kernel_rfl⟩
  rw [if_neg h97] at h
  by_cases h103 : f = 103
  · subst h103; rw [if_pos rfl] at h; injection h with h; subst h; exact ⟨F103, by kernel_rfl⟩
  rw [if_neg h103] at h
  by_cases h107 : f = 107
  · subst h107; rw [if_pos rfl] at h; injection h with h; subst h; exact ⟨F107, by kernel_rfl⟩
  rw [if_neg h107] at h
  by_cases h108 : f = 108
  · subst h108; rw [if_pos rfl] at h; injection h with h; subst h; exact ⟨F108, by kernel_rfl⟩
  rw [if_neg h108] at h
  by_cases h109 : f = 109
  · subst h109; rw [if_pos rfl] at h; injection h with h; subst h; exact ⟨F109, by kernel_rfl⟩
  rw [if_neg h109] at h
  by_cases h110 : f = 110
  · subst h110; rw [if_pos rfl] at h; injection h with h; subst h; exact ⟨F110, by kernel_rfl⟩
  rw [if_neg h110] at h
  by_cases h111 : f = 111
  · subst h111; rw [if_pos rfl] at h; injection h with h; subst h; exact ⟨F111, by kernel_rfl⟩
  rw [if_neg h111] at h
  by_cases h114 : f = 114
  · subst h114; rw [if_pos rfl] at h; injection h with h; subst h; exact ⟨F114, by kernel_rfl⟩
  rw [if_neg h114] at h
  by_cases h115 : f = 115
  · subst h115; rw [if_pos rfl] at h; injection h with h; subst h; exact ⟨F115, by kernel_rfl⟩
  rw [if_neg h115] at h
  exact Tok f af h
theorem Tno2 (f : FuncId) (_ : T2 f = none) : F f = none ∨ ∀ args H, bldA 101 49 94 5 f args H = none := by
  by_cases h1 : f = 101
  · subst h1; left; kernel_rfl
  by_cases h2 : f = 49
  · subst h2; left; kernel_rfl
  right
  intro args H
  simp only [bldA, h1, h2, if_false]
end Go.Abs.Seat
end
