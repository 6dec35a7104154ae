/- Part 8 of what the claim rests on. -/
import Derived.Test.YtobnhbbcegeljaaDoorBackA
import Derived.Test.YtobnhbbcegeljaaDoorBackB
import Derived.Test.YtobnhbbcegeljaaDoorBackC
import Derived.Test.YtobnhbbcegeljaaDoorBackD
import Derived.Test.YtobnhbbcegeljaaDoorBackE
import Derived.Test.YtobnhbbcegeljaaDoorBackF
import Derived.Test.YtobnhbbcegeljaaDoorBackG
section
set_option linter.unusedVariables false
set_option linter.unusedSimpArgs false
namespace Go.Abs.Seat
open Go.Proofs
def NamX (t : NT) (u : List UInt8) : Prop := Nm u ∧ shapeT u = none ∧ t = mkN nameW 0 u zeroT []
inductive KX (R : NT → List UInt8 → Prop) : Nat → List UInt8 → List NT → List UInt8 → Prop
 | nil (i : Nat) : KX R i [] [] []
 | cons {i : Nat} {c : UInt8} {cs : List UInt8} {k : NT} {ks : List NT} {u v : List UInt8} (h : R k u) (hn : c = 110 → NamX k u) (hk : KX R (i + 1) cs ks v) : KX R i (c :: cs) (k :: ks) (sepB i :: (u ++ v))
theorem KX.len {R : NT → List UInt8 → Prop} {i : Nat} {cs : List UInt8} {ks : List NT} {v : List UInt8} (h : KX R i cs ks v) : cs.length = ks.length := by
 induction h with
 | nil i => rfl
 | cons h hn hk ih => simp only [List.length_cons,ih]
inductive TX1 (R : NT → List UInt8 → Prop) (deep : Prop) (t : NT) (u : List UInt8) : Prop
 | txt (x : List UInt8) (h : ¬ 256 < x.length) (ht : t = mkN textW 0 x zeroT []) (hu : u = quoteB x)
 | num (n : Int) (h : -9223372036854775808 ≤ n ∧ n ≤ 9223372036854775807) (ht : t = mkN intW n [] zeroT []) (hu : u = itoaN n)
 | nam (h : NamX t u)
 | wrd (hm : Nm u) (h : shapeT u = some []) (ht : t = mkN u 0 [] zeroT [])
 | sid (w : List UInt8) (n : Nat) (hm : Nm w) (h : shapeT w = some [100]) (hn : n ≤ 9) (ht : t = mkN w (n : Int) [] zeroT []) (hu : u = w ++ [40, UInt8.ofNat (48 + n), 41])
 | typ (w : List UInt8) (ty : KT) (hm : Nm w) (h : shapeT w = some [116]) (hr : rightT ty 6 = true) (ho : okT ty) (hc : cloneT ty = ty) (hp : Pl (showT ty)) (ht : t = mkN w 0 [] ty []) (hu : u = w ++ (40 :: (showT ty ++ [41])))
 | cal (w ps : List UInt8) (kids : List NT) (v : List UInt8) (hm : Nm w) (h : shapeT w = some ps) (h0 : ps ≠ []) (h1 : ps ≠ [100]) (h2 : ps ≠ [116]) (hd : deep) (hk : KX R 0 (partsW ps kids.length) kids v) (ht : t = mkN w 0 [] zeroT kids) (hu : u = w ++ (v ++ [41]))
def TX : Nat → NT → List UInt8 → Prop
 | 0, _, _ => False
 | d + 1, t, u => TX1 (TX d) (0 < d) t u
theorem ty_ne {c : UInt8} (h : tyC c = true) : c ≠ 32 ∧ c ≠ 34 :=
 ⟨fun e => by rw [e] at h; revert h; decide, fun e => by rw [e] at h; revert h; decide⟩
theorem typ_text {s : List UInt8} {p : Nat} (h : (typP s p).2.2 = false) : rightT (typP s p).1 6 = true ∧ okT (typP s p).1 ∧ cloneT (typP s p).1 = (typP s p).1 ∧ Pl (showT (typP s p).1) ∧ Sec s p (typP s p).2.1 (showT (typP s p).1) := by
 obtain ⟨a1, a2⟩ := typ_shows s p h
 have hgood := (typ_good s p).1
 obtain ⟨b1, b2, b3⟩ := typ_read s p
 rw [b2] at h
 have ho : (readP (s.drop p) 6 0).2.2 = true := by simpa using h
 have b3 := b3 ho
 obtain ⟨c1, c2⟩ := readP_shows (s.drop p) 6 0 ho
 have c3 := readP_back (s.drop p) 6 _ 0 _ c1 c2
 have hty := readP_ty (s.drop p) 6 0
 rw [b1, b3]
 rw [b3] at hgood
 rw [List.drop_zero, List.drop_drop] at c2
 rw [Nat.zero_add] at c3
 generalize readP (s.drop p) 6 0 = r at *
 obtain ⟨k, t, ok⟩ := r
 simp only at *
 injection c3 with c4 c5
 injection c5 with c5 c6
 subst c4
 have hpl : Pl (showT t) := fun c hc => by
  obtain ⟨i, hi⟩ := List.mem_iff_getElem?.1 hc
  have hil := (List.getElem?_eq_some_iff.1 hi).1
  have := hty i (Nat.zero_le _) hil
  unfold tyAt at this
  rw [c2, List.getElem?_append_left hil, hi] at this
  exact ty_ne this
 exact ⟨c1, hgood, c5.symm, hpl, sec_pl c2 hpl⟩
theorem name_text {s : List UInt8} {p : Nat} (hp : p ≤ s.length) (h : (nameP s p).2.2 = false) : ∃ u, NamX (nameP s p).1 u ∧ Sec s p (nameP s p).2.1 u := by
 have hq := skip_len hp
 have hb := sec_blank s p
 have hle := run_le s (skipB s p)
 unfold nameP at h ⊢
 split at h
 ·simp at h
 ·rename_i h1
  rw [if_neg h1]
  simp only [Bool.or_eq_true,decide_eq_true_eq,not_or] at h1
  have hlt : skipB s p < runB s (skipB s p) := by
   have hl := wordB_len hq
   have : (wordB s (skipB s p)).length ≠ 0 := fun e => h1.2 (List.length_eq_zero_iff.1 e)
   omega
  obtain ⟨h2, h3⟩ := word_sec hq hlt
  split at h
  ·rename_i h4
   rw [if_pos h4]
   exact ⟨_, ⟨h2, by simpa using h4, rfl⟩, by simpa using hb.trans h3⟩
  ·simp at h
theorem sep_ne (i : Nat) : sepB i ≠ 0 ∧ sepB i ≠ 32 ∧ sepB i ≠ 34 := by
 unfold sepB
 split <;> decide
theorem sep_succ (i : Nat) : sepB (i + 1) = 44 := by simp [sepB]
section
variable {s : List UInt8} {R : NT → List UInt8 → Prop} {rd : Nat → NT × Nat × Bool} (hrd : ∀ p, p ≤ s.length → (rd p).2.2 = false → ∃ u, R (rd p).1 u ∧ Sec s p (rd p).2.1 u) (hlen : ∀ p, p ≤ s.length → (rd p).2.1 ≤ s.length) (hnm : ∀ k u, NamX k u → R k u)
include hrd hnm
theorem item_text {c : UInt8} (hc : c ≠ 100 ∧ c ≠ 116) {st : St} {p : Nat} (hp : p ≤ s.length) (h : (itemX rd s c st p).2.2 = false) : ∃ k u, (itemX rd s c st p).1 = (st.1, st.2.1, st.2.2 ++ [k]) ∧ R k u ∧ (c = 110 → NamX k u) ∧ Sec s p (itemX rd s c st p).2.1 u := by
 unfold itemX at h ⊢
 rw [if_neg hc.1, if_neg hc.2] at h ⊢
 by_cases h1 : c = 110
 ·rw [if_pos h1] at h ⊢
  obtain ⟨u, a, b⟩ := name_text hp h
  exact ⟨_, u, rfl, hnm _ _ a, fun _ => a, b⟩
 ·rw [if_neg h1] at h ⊢
  obtain ⟨u, a, b⟩ := hrd p hp h
  exact ⟨_, u, rfl, a, fun e => absurd e h1, b⟩
include hlen
theorem go_text : ∀ (f i : Nat) (cs : List UInt8) (st : St) (p : Nat), p ≤ s.length → (∀ c ∈ cs, c ≠ 100 ∧ c ≠ 116) → cs.length ≤ f → (goX rd s false f (sepB i) cs st p).2.2 = false →
  ∃ ks v, (goX rd s false f (sepB i) cs st p).1 = (st.1, st.2.1, st.2.2 ++ ks) ∧ KX R i cs ks v ∧ Sec s p (goX rd s false f (sepB i) cs st p).2.1 v
 | f, i, [], st, p, hp, hc, hf, h => by
  rw [go_nil]
  exact ⟨[], [], by simp, .nil i, Sec.nil s p⟩
 | 0, i, c :: cs, st, p, hp, hc, hf, h => by simp at hf
 | f + 1, i, c :: cs, st, p, hp, hc, hf, h => by
  simp only [goX] at h ⊢
  by_cases h1 : (signP s p false (sepB i)).2 = true
  ·rw [if_pos h1] at h; simp at h
  rw [if_neg h1] at h ⊢
  have hs := sec_sign (s := s) (p := p) (sep_ne i) (by simpa using h1)
  have hp1 : (signP s p false (sepB i)).1 ≤ s.length := sign_len hp (sep_ne i).1
  generalize (signP s p false (sepB i)).1 = q at *
  by_cases h2 : (itemX rd s c st q).2.2 = true
  ·rw [if_pos h2] at h; rw [h] at h2; simp at h2
  rw [if_neg h2] at h ⊢
  obtain ⟨k, u, g1, g2, g3, g4⟩ := item_text hrd hnm (hc c (by simp)) (st := st) hp1 (by simpa using h2)
  have hp2 := item_len hlen c st hp1
  have h3 : moreX s false (itemX rd s c st q).1 (itemX rd s c st q).2.1 = false := by unfold moreX; rfl
  rw [h3, if_neg (by simp)] at h ⊢
  rw [g1] at h ⊢
  rw [← sep_succ i] at h ⊢
  obtain ⟨ks, v, k1, k2, k3⟩ := go_text f (i + 1) cs _ _ hp2 (fun c hc' => hc c (by simp [hc'])) (by simpa using hf) h
  exact ⟨k :: ks, _, by rw [k1]; simp, .cons g2 g3 k2, hs.trans (g4.trans k3)⟩
theorem go_text_lst : ∀ (f i : Nat) (st : St) (p : Nat), p ≤ s.length → st.2.2.length < 64 → 64 < f + st.2.2.length → (goX rd s true f (sepB i) [43] st p).2.2 = false →
  ∃ ks v, (goX rd s true f (sepB i) [43] st p).1 = (st.1, st.2.1, st.2.2 ++ ks) ∧ KX R i (List.replicate ks.length 101) ks v ∧ ks ≠ [] ∧ st.2.2.length + ks.length ≤ 64 ∧ Sec s p (goX rd s true f (sepB i) [43] st p).2.1 v
 | 0, i, st, p, hp, hl, hf, h => by omega
 | f + 1, i, st, p, hp, hl, hf, h => by
  simp only [goX] at h ⊢
  by_cases h1 : (signP s p false (sepB i)).2 = true
  ·rw [if_pos h1] at h; simp at h
  rw [if_neg h1] at h ⊢
  have hs := sec_sign (s := s) (p := p) (sep_ne i) (by simpa using h1)
  have hp1 : (signP s p false (sepB i)).1 ≤ s.length := sign_len hp (sep_ne i).1
  generalize (signP s p false (sepB i)).1 = q at *
  by_cases h2 : (itemX rd s 43 st q).2.2 = true
  ·rw [if_pos h2] at h; rw [h] at h2; simp at h2
  rw [if_neg h2] at h ⊢
  obtain ⟨k, u, g1, g2, g3, g4⟩ := item_text hrd hnm (c := 43) (by decide) (st := st) hp1 (by simpa using h2)
  have hp2 := item_len hlen 43 st hp1
  by_cases h3 : moreX s true (itemX rd s 43 st q).1 (itemX rd s 43 st q).2.1 = true
  ·rw [if_pos h3] at h ⊢
   unfold moreX at h3
   simp only [Bool.and_eq_true,decide_eq_true_eq,true_and] at h3
   rw [g1] at h h3 ⊢
   rw [← sep_succ i] at h ⊢
   simp only [List.length_append,List.length_cons,List.length_nil] at h3
   obtain ⟨ks, v, k1, k2, k3, k4, k5⟩ := go_text_lst f (i + 1) (st.1, st.2.1, st.2.2 ++ [k]) _ hp2 (by simp only [List.length_append,List.length_cons,List.length_nil]; omega) (by simp only [List.length_append,List.length_cons,List.length_nil]; omega) h
   simp only [List.length_append,List.length_cons,List.length_nil] at k4
   exact ⟨k :: ks, _, by rw [k1]; simp, .cons (cs := List.replicate ks.length 101) g2 (fun e => absurd e (by decide)) k2, by simp, by simp only [List.length_cons]; omega, hs.trans (g4.trans k5)⟩
  ·rw [if_neg h3] at h ⊢
   refine ⟨[k], _, by rw [g1], .cons (cs := []) g2 (fun e => absurd e (by decide)) (.nil _), by simp, by simp only [List.length_cons,List.length_nil]; omega, ?_⟩
   rw [List.append_nil]
   exact hs.trans g4
end
theorem go_one (rd : Nat → NT × Nat × Bool) (b : List UInt8) (f : Nat) (mark c : UInt8) (st : St) (p : Nat) (h : (goX rd b false (f + 1) mark [c] st p).2.2 = false) :
  (signP b p false mark).2 = false ∧ (itemX rd b c st (signP b p false mark).1).2.2 = false ∧ goX rd b false (f + 1) mark [c] st p = itemX rd b c st (signP b p false mark).1 := by
 simp only [goX] at h ⊢
 by_cases h1 : (signP b p false mark).2 = true
 ·rw [if_pos h1] at h; simp at h
 rw [if_neg h1] at h ⊢
 by_cases h2 : (itemX rd b c st (signP b p false mark).1).2.2 = true
 ·rw [if_pos h2] at h; rw [h] at h2; simp at h2
 rw [if_neg h2] at h ⊢
 have h3 : moreX b false (itemX rd b c st (signP b p false mark).1).1 (itemX rd b c st (signP b p false mark).1).2.1 = false := by unfold moreX; rfl
 rw [h3, if_neg (by simp)] at h ⊢
 have h2' : (itemX rd b c st (signP b p false mark).1).2.2 = false := by simpa using h2
 exact ⟨by simpa using h1, h2', Prod.ext rfl (Prod.ext rfl h2'.symm)⟩
theorem shape_letters {w ps : List UInt8} (h : shapeT w = some ps) (h1 : ps ≠ [100]) (h2 : ps ≠ [116]) : ps.length ≤ 5 ∧ ∀ c ∈ ps, c ≠ 100 ∧ c ≠ 116 := by
 have key : ∀ e ∈ shapes, e.2.length ≤ 5 ∧ (e.2 ≠ [100] → e.2 ≠ [116] → ∀ c ∈ e.2, c ≠ 100 ∧ c ≠ 116) := by decide
 obtain ⟨a, b⟩ := key _ (lookup_mem h)
 exact ⟨a, b h1 h2⟩
theorem call_text {s : List UInt8} {d : Nat} (ih : ∀ p, p ≤ s.length → (exprX s d p).2.2 = false → ∃ u, TX d (exprX s d p).1 u ∧ Sec s p (exprX s d p).2.1 u) {w ps : List UInt8} (hm : Nm w) (hw : shapeT w = some ps) (hne : ps ≠ []) (hd : ¬ (d = 0 ∧ ps ≠ [100] ∧ ps ≠ [116])) {p : Nat} (hp : p ≤ s.length) (h : (callX (exprX s d) s w ps p).2.2 = false) :
  ∃ v, TX (d + 1) (callX (exprX s d) s w ps p).1 (w ++ v) ∧ Sec s p (callX (exprX s d) s w ps p).2.1 v := by
 have hlen := expr_len s d
 unfold callX at h ⊢
 by_cases h1 : (goX (exprX s d) s (decide (ps = [43])) 70 40 ps (0, zeroT, []) p).2.2 = true
 ·rw [if_pos h1] at h; simp at h
 rw [if_neg h1] at h ⊢
 simp only at h ⊢
 have h1 : (goX (exprX s d) s (decide (ps = [43])) 70 40 ps (0, zeroT, []) p).2.2 = false := by simpa using h1
 have hend := sec_sign (s := s) (p := (goX (exprX s d) s (decide (ps = [43])) 70 40 ps (0, zeroT, []) p).2.1) (c := 41) (by decide) h
 by_cases c1 : ps = [100]
 ·subst c1
  rw [show decide (([100] : List UInt8) = [43]) = false from rfl] at h1 h hend ⊢
  obtain ⟨g1, g2, g3⟩ := go_one _ _ 69 40 100 _ _ h1
  have hs := sec_sign (s := s) (p := p) (c := 40) (by decide) g1
  rw [g3] at hend ⊢
  generalize (signP s p false 40).1 = q at *
  have hb := sec_blank s q
  unfold itemX at g2 hend ⊢
  rw [if_pos rfl] at g2 hend ⊢
  by_cases hdg : digZ ((peekB s (skipB s q)).toNat : Int) = true
  ·rw [if_pos hdg] at hend ⊢
   have hr := dig_range hdg
   obtain ⟨n, hn⟩ : ∃ n : Nat, ((peekB s (skipB s q)).toNat : Int) - 48 = (n : Int) := Int.eq_ofNat_of_zero_le (by omega)
   have hne : peekB s (skipB s q) ≠ 0 := fun e => by rw [e] at hr; revert hr; decide
   have hdd := drop_of (s := s) (p := skipB s q) (w := [peekB s (skipB s q)]) fun i hi => by
    obtain rfl : i = 0 := by simpa using hi
    exact peek_some (peek_lt hne)
   have hsec := sec_pl hdd fun x hx => by
    rw [List.mem_singleton.1 hx]
    exact letdig ⟨by omega, by omega⟩
   have e : UInt8.ofNat (48 + n) = peekB s (skipB s q) := by
    rw [show 48 + n = (peekB s (skipB s q)).toNat by omega]; exact UInt8.ofNat_toNat
   simp only [hn] at hend ⊢
   refine ⟨_, .sid w n hm hw (by omega) rfl rfl, ?_⟩
   rw [e]
   exact hs.trans (hb.trans (hsec.trans hend))
  ·rw [if_neg hdg] at g2; simp at g2
 by_cases c2 : ps = [116]
 ·subst c2
  rw [show decide (([116] : List UInt8) = [43]) = false from rfl] at h1 h hend ⊢
  obtain ⟨g1, g2, g3⟩ := go_one _ _ 69 40 116 _ _ h1
  have hs := sec_sign (s := s) (p := p) (c := 40) (by decide) g1
  rw [g3] at hend ⊢
  generalize (signP s p false 40).1 = q at *
  have hb := sec_blank s q
  unfold itemX at g2 hend ⊢
  rw [if_neg (by decide), if_pos rfl] at g2 hend ⊢
  obtain ⟨t1, t2, t3, t4, t5⟩ := typ_text g2
  simp only at hend ⊢
  exact ⟨_, .typ w _ hm hw t1 t2 t3 t4 rfl rfl, hs.trans (hb.trans (t5.trans hend))⟩
 have hd0 : 0 < d := by
  rcases Nat.eq_zero_or_pos d with h | h
  ·exact absurd ⟨h, c1, c2⟩ hd
  ·exact h
 have hnm : ∀ k u, NamX k u → TX d k u := fun k u hN => by
  clear h hend h1 ih hlen hd
  cases d with
  | zero => omega
  | succ d' => exact TX1.nam hN
 obtain ⟨hps, hlt⟩ := shape_letters hw c1 c2
 by_cases c3 : ps = [43]
 ·subst c3
  rw [show decide (([43] : List UInt8) = [43]) = true from rfl] at h1 h hend ⊢
  obtain ⟨ks, v, g1, g2, g3, g4, g5⟩ := go_text_lst ih hlen hnm 70 0 (0, zeroT, []) p hp (by decide) (by decide) h1
  change (goX (exprX s d) s true 70 40 [43] (0, zeroT, []) p).1 = _ at g1
  change Sec s p (goX (exprX s d) s true 70 40 [43] (0, zeroT, []) p).2.1 v at g5
  rw [g1]
  simp only [List.nil_append,List.length_nil,Nat.zero_add] at g4 ⊢
  have hpos : 0 < ks.length := List.length_pos_iff.2 g3
  have hpt : partsW [43] ks.length = List.replicate ks.length 101 := by
   unfold partsW
   rw [if_pos rfl, show min (max 1 ks.length) 64 = ks.length by omega]
  exact ⟨_, .cal w _ ks v hm hw hne c1 c2 hd0 (by rw [hpt]; exact g2) rfl rfl, g5.trans hend⟩
 ·rw [decide_eq_false c3] at h1 h hend ⊢
  obtain ⟨ks, v, g1, g2, g3⟩ := go_text ih hlen hnm 70 0 ps (0, zeroT, []) p hp hlt (by omega) h1
  change (goX (exprX s d) s false 70 40 ps (0, zeroT, []) p).1 = _ at g1
  change Sec s p (goX (exprX s d) s false 70 40 ps (0, zeroT, []) p).2.1 v at g3
  rw [g1]
  simp only [List.nil_append]
  have hpt : partsW ps ks.length = ps := by
   unfold partsW
   rw [if_neg c3]
  exact ⟨_, .cal w _ ks v hm hw hne c1 c2 hd0 (by rw [hpt]; exact g2) rfl rfl, g3.trans hend⟩
theorem expr_text (s : List UInt8) : ∀ (d p : Nat), p ≤ s.length → (exprX s d p).2.2 = false → ∃ u, TX d (exprX s d p).1 u ∧ Sec s p (exprX s d p).2.1 u
 | 0, p, hp, h => by simp [exprX] at h
 | d + 1, p, hp, h => by
  have hq := skip_len hp
  have hb := sec_blank s p
  have ih := expr_text s d
  rw [exprX_eq] at h ⊢
  by_cases h1 : peekB s (skipB s p) = 34
  ·rw [if_pos h1] at h ⊢
   obtain ⟨x, g1, g2, g3⟩ := str_text h1 h
   exact ⟨_, .txt x g1 g2 rfl, by simpa using hb.trans g3⟩
  rw [if_neg h1] at h ⊢
  by_cases h2 : (decide (peekB s (skipB s p) = 45) || digZ ((peekB s (skipB s p)).toNat : Int)) = true
  ·rw [if_pos h2] at h ⊢
   obtain ⟨n, g1, g2, g3⟩ := num_text h
   exact ⟨_, .num n g1 g2 rfl, by simpa using hb.trans g3⟩
  rw [if_neg h2] at h ⊢
  by_cases h3 : letZ ((peekB s (skipB s p)).toNat : Int) = false
  ·rw [if_pos h3] at h; simp at h
  rw [if_neg h3] at h ⊢
  by_cases h4 : longB s (skipB s p) = true
  ·rw [if_pos h4] at h; simp at h
  rw [if_neg h4] at h ⊢
  obtain ⟨hm, hsec⟩ := word_sec hq (run_up1 (by simpa using h3))
  have hr := run_len hq
  generalize wordB s (skipB s p) = w at *
  generalize runB s (skipB s p) = r at *
  have hsec2 := hb.trans hsec
  rw [List.nil_append] at hsec2
  cases hsh : shapeT w with
  | none =>
   simp only
   exact ⟨w, .nam ⟨hm, hsh, rfl⟩, hsec2⟩
  | some ps =>
   rw [hsh] at h
   simp only at h ⊢
   by_cases h5 : ps = []
   ·subst h5
    simp only [if_true]
    exact ⟨w, .wrd hm hsh rfl, hsec2⟩
   rw [if_neg h5] at h ⊢
   by_cases h6 : d = 0 ∧ ps ≠ [100] ∧ ps ≠ [116]
   ·rw [if_pos h6] at h; simp at h
   rw [if_neg h6] at h ⊢
   obtain ⟨v, g1, g2⟩ := call_text ih hm hsh h5 h6 hr h
   exact ⟨_, g1, hsec2.trans g2⟩
end Go.Abs.Seat
end
section
set_option linter.unusedVariables false
set_option linter.unusedSimpArgs false
namespace Go.Abs.Seat
open Go.Proofs
theorem shape_not {w ps : List UInt8} (h : shapeT w = some ps) : (w ≠ intW ∧ w ≠ textW ∧ w ≠ nameW) ∧ (ps = [100] → w ++ [40] = sideW) := by
 have key : ∀ e ∈ shapes, (e.1 ≠ intW ∧ e.1 ≠ textW ∧ e.1 ≠ nameW) ∧ (e.2 = [100] → e.1 ++ [40] = sideW) := by decide
 exact key _ (lookup_mem h)
theorem kidsW_text {R : NT → List UInt8 → Prop} {nd : NT → WSt → WSt} (hnd : ∀ k u, R k u → ∀ out : List UInt8, out.length + u.length ≤ 4096 → nd k (out, false) = (out ++ u, false)) {ps : List UInt8} {i : Nat} {cs : List UInt8} {ks : List NT} {v : List UInt8} (h : KX R i cs ks v) :
  ps.drop i = cs → ∀ out : List UInt8, out.length + v.length ≤ 4096 → kidsW nd ps i ks (out, false) = (out ++ v, false) := by
 induction h with
 | nil i => intro _ out _; simp [kidsW]
 | @cons i c cs k ks u v h hn hk ih =>
  intro hd out hl
  simp only [List.length_cons,List.length_append] at hl
  have hi : ps[i]? = some c := by
   have := List.getElem?_drop (xs := ps) (i := i) (j := 0)
   rw [hd] at this; simpa using this.symm
  have hd2 : ps.drop (i + 1) = cs := by rw [← List.drop_drop, hd]; rfl
  have hb : (decide (ps[i]? = some 110) && !isNam k) = false := by
   rw [hi]
   by_cases hc : c = 110
   ·obtain ⟨_, _, hk⟩ := hn hc
    rw [hk]
    simp [isNam, mkN]
   ·rw [decide_eq_false (by simpa using hc)]; rfl
  simp only [kidsW]
  rw [hb, Bool.or_false, hnd k u h _ (by simp only [List.length_append,List.length_cons,List.length_nil]; omega), ih hd2 _ (by simp only [List.length_append,List.length_cons,List.length_nil]; omega)]
  simp
theorem itoaN_one {n : Nat} (h : n ≤ 9) : itoaN (n : Int) = [UInt8.ofNat (48 + n)] := by
 unfold itoaN
 rw [if_neg (by omega), Int.toNat_natCast]
 unfold digN
 rw [if_pos (by omega)]
theorem name_ok {u : List UInt8} (h : Nm u) (hs : shapeT u = none) : nameOk u = true := by
 obtain ⟨h1, h2, h3, h4⟩ := h
 obtain ⟨c, l, rfl⟩ : ∃ c l, u = c :: l := by
  cases u with
  | nil => exact absurd rfl h1
  | cons c l => exact ⟨c, l, rfl⟩
 have hl := h3 c rfl
 have ha : (c :: l).any oddB = false := by
  rw [List.any_eq_false]
  intro x hx
  obtain ⟨i, hi⟩ := List.mem_iff_getElem?.1 hx
  unfold oddB
  rw [h4 i x hi]; simp
 have e : peekB (c :: l) 0 = c := rfl
 unfold nameOk
 rw [hs, ha, e, hl, decide_eq_false h1, decide_eq_false (by omega)]
 rfl
theorem bare_flat (op x : List UInt8) (i : Int) : bareN (mkN op i x zeroT []) true false false false = decide (x = []) ∧ bareN (mkN op i x zeroT []) false true false false = decide (i = 0) := by
 constructor <;> simp [bareN, mkN, zeroT, mkT]
theorem node_text : ∀ (d : Nat) (t : NT) (u : List UInt8), TX d t u → ∀ out : List UInt8, out.length + u.length ≤ 4096 → nodeW d t (out, false) = (out ++ u, false)
 | 0, t, u, h, out, hl => h.elim
 | d + 1, t, u, h, out, hl => by
  have hst : ¬ (((out, false) : WSt).2 || decide (4096 < ((out, false) : WSt).1.length)) = true := by
   simp only [Bool.false_or,decide_eq_true_eq]; omega
  cases h with
  | txt x h ht hu =>
   subst ht hu
   have hb := (bare_flat textW x 0).2
   unfold mkN at hb ⊢
   simp only [nodeW]
   rw [if_neg hst, if_neg (by decide), if_pos trivial, hb, if_neg (by simpa using h)]
  | num n h ht hu =>
   subst ht hu
   have hb := (bare_flat intW [] n).1
   unfold mkN at hb ⊢
   simp only [nodeW]
   rw [if_neg hst, if_pos trivial, hb]
   rfl
  | nam h =>
   obtain ⟨h1, h2, rfl⟩ := h
   have hb := (bare_flat nameW u 0).2
   have ho := name_ok h1 h2
   unfold mkN at hb ⊢
   simp only [nodeW]
   rw [if_neg hst, if_neg (by decide), if_neg (by decide), if_pos trivial, hb, ho]
   rfl
  | wrd hm h ht =>
   subst ht
   obtain ⟨⟨n1, n2, n3⟩, _⟩ := shape_not h
   have hb : bareN (mkN u 0 [] zeroT []) false false false true = true := by simp [bareN, mkN, zeroT, mkT]
   unfold mkN at hb ⊢
   simp only [nodeW]
   rw [if_neg hst, if_neg n1, if_neg n2, if_neg n3, h]
   simp only
   rw [if_neg (by decide), if_neg (by decide)]
   unfold callW
   rw [if_neg (by rw [hb]; decide), if_neg (by decide)]
   rfl
  | sid w n hm h hn ht hu =>
   subst ht hu
   obtain ⟨⟨n1, n2, n3⟩, n4⟩ := shape_not h
   have hb := (bare_flat w [] n).1
   unfold mkN at hb ⊢
   simp only [nodeW]
   rw [if_neg hst, if_neg n1, if_neg n2, if_neg n3, h]
   simp only [if_true]
   rw [hb, itoaN_one hn, ← n4 rfl, decide_eq_false (show ¬ (n : Int) < 0 by omega), decide_eq_false (show ¬ 9 < (n : Int) by omega)]
   simp
  | typ w ty hm h hr ho hc hp ht hu =>
   subst ht hu
   obtain ⟨⟨n1, n2, n3⟩, n4⟩ := shape_not h
   have hb : bareN (mkN w 0 [] ty []) false false true false = true := by
    obtain ⟨k, sa, args⟩ := ty
    simp [bareN, mkN]
   unfold mkN at hb ⊢
   simp only [nodeW]
   rw [if_neg hst, if_neg n1, if_neg n2, if_neg n3, h]
   simp only
   rw [if_neg (by decide), if_pos trivial, hb]
   unfold showW checkT
   rw [if_pos hr, if_pos hr]
   simp
  | cal w ps kids v hm h h0 h1 h2 hd hk ht hu =>
   subst ht hu
   obtain ⟨⟨n1, n2, n3⟩, n4⟩ := shape_not h
   have hb : bareN (mkN w 0 [] zeroT kids) false false false true = true := by simp [bareN, mkN, zeroT, mkT]
   have hlen := hk.len
   simp only [List.length_append,List.length_cons,List.length_nil] at hl
   have hkt := kidsW_text (nd := nodeW d) (fun k u h => node_text d k u h) (ps := partsW ps kids.length) hk rfl (out ++ w) (by rw [List.length_append]; omega)
   unfold mkN at hb ⊢
   simp only [nodeW]
   rw [if_neg hst, if_neg n1, if_neg n2, if_neg n3, h]
   simp only
   rw [if_neg h1, if_neg h2]
   unfold callW
   rw [hb, decide_eq_true hlen.symm, if_neg (by decide)]
   have hkl : 0 < kids.length := by
    rw [← hlen]
    unfold partsW
    split
    ·rw [List.length_replicate]; omega
    ·exact List.length_pos_iff.2 h0
   rw [if_pos hkl]
   simp only
   rw [hkt]
   simp
theorem fineNs_of : ∀ {l : List NT}, (∀ a ∈ l, fineN a) → fineNs l
 | [], _ => by simp only [fineNs]
 | a :: l, h => by simp only [fineNs]; exact ⟨h a (by simp), fineNs_of fun x hx => h x (by simp [hx])⟩
theorem fine_mk {op x : List UInt8} {i : Int} {ty : KT} {kids : List NT} (hi : -9223372036854775808 ≤ i ∧ i ≤ 9223372036854775807) (hx : x.length ≤ 1000000) (ho : op.length ≤ 1000000) (ht : okT ty) (hk : ∀ a ∈ kids, fineN a) : fineN (mkN op i x ty kids) := by
 unfold mkN
 simp only [fineN]
 refine ⟨hi, hx, ho, ?_, ht, fineNs_of hk⟩
 cases kids with
 | nil => exact .inl rfl
 | cons a l => right; rw [if_neg (by simp)]
theorem KX.all {R : NT → List UInt8 → Prop} {P : NT → Prop} (hR : ∀ k u, R k u → P k) {i : Nat} {cs : List UInt8} {ks : List NT} {v : List UInt8} (h : KX R i cs ks v) : ∀ k ∈ ks, P k := by
 induction h with
 | nil i => intro k hk; simp at hk
 | cons h hn hk ih =>
  intro k hk
  rcases List.mem_cons.1 hk with rfl | hk
  ·exact hR _ _ h
  ·exact ih k hk
theorem fine_text : ∀ (d : Nat) (t : NT) (u : List UInt8), TX d t u → fineN t
 | 0, t, u, h => h.elim
 | d + 1, t, u, h => by
  have hz : okT zeroT := good_zero.1
  have h0 : -9223372036854775808 ≤ (0 : Int) ∧ (0 : Int) ≤ 9223372036854775807 := by decide
  cases h with
  | txt x h ht hu => subst ht; exact fine_mk h0 (by omega) (by decide) hz (by simp)
  | num n h ht hu => subst ht; exact fine_mk h (by decide) (by decide) hz (by simp)
  | nam h => obtain ⟨h1, h2, rfl⟩ := h; exact fine_mk h0 (by have := h1.len; omega) (by decide) hz (by simp)
  | wrd hm h ht => subst ht; exact fine_mk h0 (by decide) (by have := hm.len; omega) hz (by simp)
  | sid w n hm h hn ht hu => subst ht; exact fine_mk (by omega) (by decide) (by have := hm.len; omega) hz (by simp)
  | typ w ty hm h hr ho hc hp ht hu => subst ht; exact fine_mk h0 (by decide) (by have := hm.len; omega) ho (by simp)
  | cal w ps kids v hm h h0' h1 h2 hd hk ht hu => subst ht; exact fine_mk h0 (by decide) (by have := hm.len; omega) hz (hk.all fun k u h => fine_text d k u h)
def Ends (r : List UInt8) : Prop := ∀ c, r[0]? = some c → c = 41 ∨ c = 44
section
variable {s : List UInt8} {p : Nat}
theorem at_drop {c : UInt8} {r : List UInt8} (h : s.drop p = c :: r) : s[p]? = some c ∧ peekB s p = c ∧ s.drop (p + 1) = r := by
 have h0 := of_drop (w := [c]) (r := r) h 0
 have h0 : s[p]? = some c := by simpa using h0
 exact ⟨h0, by unfold peekB; rw [h0]; rfl, by rw [← List.drop_drop, h]; rfl⟩
theorem drop_app {w r : List UInt8} (h : s.drop p = w ++ r) : s.drop (p + w.length) = r := by
 rw [← List.drop_drop, h, List.drop_left]
theorem skip_stay {c : UInt8} {r : List UInt8} (h : s.drop p = c :: r) (hc : c ≠ 32) : skipB s p = p := skip_at (by rw [(at_drop h).1]; simpa using hc)
theorem sign_back {c : UInt8} {r : List UInt8} (h : s.drop p = c :: r) (hc : c ≠ 32) : signP s p false c = (p + 1, false) := by
 unfold signP
 rw [if_neg (by simp), skip_stay h hc, (at_drop h).2.1, if_pos rfl]
theorem peek_next {w r : List UInt8} (h : s.drop p = w ++ r) : peekB s (p + w.length) = (r[0]?).getD 0 := by
 have := of_drop h w.length
 rw [List.getElem?_append_right (Nat.le_refl _), Nat.sub_self] at this
 unfold peekB
 rw [this]
theorem run_back {w r : List UInt8} (h : s.drop p = w ++ r) (hm : Nm w) (hr : namZ (((r[0]?).getD 0).toNat : Int) = false) : ∀ (f i : Nat), i ≤ w.length → i + f = 16 → runN s p f (p + i) = p + w.length
 | 0, i, hi, hf => by
  have := hm.len
  simp only [runN]; omega
 | f + 1, i, hi, hf => by
  unfold runN
  rcases Nat.lt_or_eq_of_le hi with h1 | rfl
  ·obtain ⟨c, hc⟩ : ∃ c, w[i]? = some c := ⟨_, List.getElem?_eq_getElem h1⟩
   have hpk : peekB s (p + i) = c := by
    have := of_drop h i
    rw [List.getElem?_append_left h1, hc] at this
    unfold peekB; rw [this]; rfl
   have hnam := hm.all i c hc
   have hg : goesB s p (p + i) = true := by
    unfold goesB
    rw [hpk, hnam, decide_eq_true (show p + i - p < 16 by omega)]
    simp only [Bool.and_self,Bool.true_and,Bool.or_eq_true,decide_eq_true_eq]
    rcases Nat.eq_zero_or_pos i with rfl | h2
    ·right; exact (let_nam (hm.hd c hc)).2
    ·left; omega
   rw [if_pos hg]
   exact run_back h hm hr f (i + 1) h1 (by omega)
  ·have hg : goesB s p (p + w.length) = false := by
    unfold goesB
    rw [peek_next h, hr]; simp
   rw [hg, if_neg (by simp)]
theorem word_back {w r : List UInt8} (h : s.drop p = w ++ r) (hm : Nm w) (hr : namZ (((r[0]?).getD 0).toNat : Int) = false) : skipB s p = p ∧ runB s p = p + w.length ∧ wordB s p = w ∧ longB s p = false ∧ letZ ((peekB s p).toNat : Int) = true := by
 have h1 : runB s p = p + w.length := by
  have := run_back h hm hr 16 0 (Nat.zero_le _) rfl
  exact this
 obtain ⟨c, l, hw⟩ : ∃ c l, w = c :: l := by
  cases w with
  | nil => exact absurd rfl hm.ne
  | cons c l => exact ⟨c, l, rfl⟩
 have hl := hm.hd c (by rw [hw]; rfl)
 have h2 : s.drop p = c :: (l ++ r) := by rw [h, hw]; rfl
 refine ⟨skip_stay h2 (nam_ne (let_nam hl).1).1, h1, ?_, ?_, by rw [(at_drop h2).2.1]; exact hl⟩
 ·unfold wordB
  rw [h1, h, show p + w.length - p = w.length by omega, List.take_left]
 ·unfold longB
  rw [h1, peek_next h, hr, Bool.and_false]
theorem ends_nam {r : List UInt8} (h : Ends r) : namZ (((r[0]?).getD 0).toNat : Int) = false ∧ digZ (((r[0]?).getD 0).toNat : Int) = false := by
 cases hr : r[0]? with
 | none => exact ⟨by decide, by decide⟩
 | some c =>
  rcases h c hr with rfl | rfl <;> exact ⟨by decide, by decide⟩
theorem numN_back {most : Nat} : ∀ (l r : List UInt8) (f n p : Nat), s.drop p = l ++ r → digZ (((r[0]?).getD 0).toNat : Int) = false → (∀ c ∈ l, isDig c) → l.length ≤ f → (l ≠ [] → 0 < n) → foldD l n ≤ most → numN s most f n p = (foldD l n, p + l.length, false)
 | [], r, f, n, p, hb, hr, hd, hf, hn, hm => by
  have := peek_next (w := []) hb
  rw [List.length_nil, Nat.add_zero] at this
  cases f with
  | zero => rfl
  | succ f => rw [numN_eq, this, hr, if_neg (by simp)]; rfl
 | c :: l, r, f, n, p, hb, hr, hd, hf, hn, hm => by
  obtain ⟨f', rfl⟩ : ∃ f', f = f' + 1 := ⟨f - 1, by simp only [List.length_cons] at hf; omega⟩
  obtain ⟨_, hpk, hnx⟩ := at_drop (r := l ++ r) hb
  have hc := hd c (by simp)
  have hn0 := hn (by simp)
  simp only [foldD] at hm
  have hge := foldD_ge l (10 * n + (c.toNat - 48))
  rw [numN_eq, hpk, digZ_of hc, if_pos rfl, if_pos ⟨hn0, by rw [Nat.le_div_iff_mul_le (by decide)]; omega⟩]
  rw [numN_back l r f' _ (p + 1) hnx hr (fun c h => hd c (by simp [h])) (by simp only [List.length_cons] at hf; omega) (fun _ => by omega) hm]
  simp only [foldD,List.length_cons]
  exact Prod.ext rfl (Prod.ext (by simp only; omega) rfl)
theorem len_drop {w r : List UInt8} (h : s.drop p = w ++ r) : w.length + r.length = s.length - p := by
 have := congrArg List.length h
 rw [List.length_drop, List.length_append] at this
 exact this.symm
theorem num_back {n : Int} (h0 : -9223372036854775808 ≤ n) (h1 : n ≤ 9223372036854775807) {r : List UInt8} (h : s.drop p = itoaN n ++ r) (hr : Ends r) : skipB s p = p ∧ peekB s p ≠ 34 ∧ (decide (peekB s p = 45) || digZ ((peekB s p).toNat : Int)) = true ∧ numP s p = (mkN intW n [] zeroT [], p + (itoaN n).length, false) := by
 have hdz := (ends_nam hr).2
 by_cases hn : n < 0
 ·obtain ⟨c, l, e, hd, hf, hc⟩ := itoaN_neg hn h0
  rw [e] at h ⊢
  obtain ⟨_, p0, hx⟩ := at_drop (r := c :: (l ++ r)) h
  obtain ⟨_, p1, hx2⟩ := at_drop (r := l ++ r) hx
  have hle := len_drop (w := l) (r := r) hx2
  have hcd := hd c (by simp)
  refine ⟨skip_stay (r := c :: (l ++ r)) h (by decide), by rw [p0]; decide, by rw [p0]; rfl, ?_⟩
  rw [numP_eq, p0]
  simp only [decide_true,if_true]
  unfold numQ
  rw [p1, digZ_of hcd]
  have h48 : decide (c = 48) = false := decide_eq_false (fun e => by rw [e] at hc; revert hc; decide)
  rw [h48, if_neg (by decide)]
  have hfold : foldD l (c.toNat - 48) = n.natAbs := by simpa only [foldD, Nat.mul_zero, Nat.zero_add] using hf
  have := numN_back (most := mostN true) l r (s.length - (p + 1 + 1)) (c.toNat - 48) (p + 1 + 1) hx2 hdz (fun x hx => hd x (by simp [hx])) (by omega) (fun _ => by omega) (by rw [hfold]; unfold mostN; rw [if_pos rfl]; omega)
  rw [this, hfold]
  simp only [sgnN,if_true]
  refine Prod.ext ?_ (Prod.ext ?_ rfl)
  ·simp only
   congr 1
   omega
  ·simp only [List.length_cons]; omega
 ·obtain ⟨c, l, e, hd, hf, hc, hz⟩ := itoaN_nonneg (by omega) h1
  rw [e] at h ⊢
  have hcd := hd c (by simp)
  obtain ⟨h32, h34⟩ := letdig hcd
  obtain ⟨_, p0, hx⟩ := at_drop (r := l ++ r) h
  have hle := len_drop (w := l) (r := r) hx
  have h45 : decide (c = 45) = false := decide_eq_false (fun e => by rw [e] at hcd; revert hcd; unfold isDig; decide)
  refine ⟨skip_stay (r := l ++ r) h h32, by rw [p0]; exact h34, by rw [p0, digZ_of hcd, Bool.or_true], ?_⟩
  rw [numP_eq, p0, h45]
  simp only [Bool.false_eq_true,if_false]
  unfold numQ
  rw [p0, digZ_of hcd]
  rw [if_neg (by simp)]
  have hfold : foldD l (c.toNat - 48) = n.toNat := by simpa only [foldD, Nat.mul_zero, Nat.zero_add] using hf
  have := numN_back (most := mostN false) l r (s.length - (p + 1)) (c.toNat - 48) (p + 1) hx hdz (fun x hx => hd x (by simp [hx])) (by omega) (fun hl => by
   rcases Int.lt_or_eq_of_le (show (0 : Int) ≤ n by omega) with h | h
   ·have := hc h; omega
   ·exact absurd (hz h.symm).2 hl) (by rw [hfold]; unfold mostN; rw [if_neg (by decide)]; omega)
  rw [this, hfold]
  simp only [sgnN,Bool.false_eq_true,if_false]
  refine Prod.ext ?_ (Prod.ext ?_ rfl)
  ·simp only
   congr 1
   omega
  ·simp only [List.length_cons]; omega
theorem str_back {x r : List UInt8} (hx : ¬ 256 < x.length) (h : s.drop p = quoteB x ++ r) : skipB s p = p ∧ peekB s p = 34 ∧ strP s (p + 1) = (mkN textW 0 x zeroT [], p + (quoteB x).length, false) := by
 have h0 : s.drop p = 34 :: ((quoteL x ++ [34]) ++ r) := h
 obtain ⟨_, p0, hn⟩ := at_drop h0
 have hg := quoteL_ge x
 have hq := quoteB_len x
 have hle := len_drop hn
 rw [List.length_append, List.length_cons, List.length_nil] at hle
 refine ⟨skip_stay h0 (by decide), p0, ?_⟩
 have hst := strN_quote (b := s) x (s.length + 1 - (p + 1)) (p + 1) [] (fun i hi => by
  rw [of_drop hn i, List.getElem?_append_left hi]) (by simp; omega) (by omega)
 unfold strP
 rw [hst]
 simp only [List.nil_append]
 refine Prod.ext rfl (Prod.ext ?_ rfl)
 simp only; omega
theorem typ_back {ty : KT} {r : List UInt8} (hr : rightT ty 6 = true) (hc : cloneT ty = ty) (h : s.drop p = showT ty ++ r) : typP s p = (ty, p + (showT ty).length, false) := by
 obtain ⟨b1, b2, b3⟩ := typ_read s p
 have := readP_back (s.drop p) 6 ty 0 r hr (by rw [List.drop_zero]; exact h)
 rw [this] at b1 b2 b3
 simp only [Nat.zero_add,hc] at b1 b2 b3
 exact Prod.ext (b3 trivial) (Prod.ext b1 b2)
end
theorem KX.ends {R : NT → List UInt8 → Prop} {i : Nat} {cs : List UInt8} {ks : List NT} {v : List UInt8} (h : KX R (i + 1) cs ks v) (r : List UInt8) : Ends (v ++ 41 :: r) := by
 cases h with
 | nil i =>
  intro c hc
  left
  simpa using hc.symm
 | cons h hn hk =>
  intro c hc
  right
  simp only [List.cons_append,List.getElem?_cons_zero,sep_succ] at hc
  injection hc with hc
  exact hc.symm
section
variable {s : List UInt8} {R : NT → List UInt8 → Prop} {rd : Nat → NT × Nat × Bool} (hrd : ∀ k u, R k u → ∀ p r, s.drop p = u ++ r → Ends r → rd p = (k, p + u.length, false))
include hrd
theorem item_back {c : UInt8} (hc : c ≠ 100 ∧ c ≠ 116) {k : NT} {u : List UInt8} (h : R k u) (hn : c = 110 → NamX k u) (st : St) {p : Nat} {r : List UInt8} (hs : s.drop p = u ++ r) (he : Ends r) : itemX rd s c st p = ((st.1, st.2.1, st.2.2 ++ [k]), p + u.length, false) := by
 unfold itemX
 rw [if_neg hc.1, if_neg hc.2]
 by_cases h1 : c = 110
 ·rw [if_pos h1]
  obtain ⟨g1, g2, rfl⟩ := hn h1
  obtain ⟨w1, w2, w3, w4, w5⟩ := word_back hs g1 (ends_nam he).1
  unfold nameP
  rw [w1, w2, w3, w4, decide_eq_false g1.ne, if_neg (by decide), g2]
  rfl
 ·rw [if_neg h1, hrd k u h p r hs he]
theorem go_back {i : Nat} {cs : List UInt8} {ks : List NT} {v : List UInt8} (h : KX R i cs ks v) : (∀ c ∈ cs, c ≠ 100 ∧ c ≠ 116) → ∀ (f : Nat) (st : St) (p : Nat) (r : List UInt8), cs.length ≤ f → s.drop p = v ++ 41 :: r →
  goX rd s false f (sepB i) cs st p = ((st.1, st.2.1, st.2.2 ++ ks), p + v.length, false) := by
 induction h with
 | nil i => intro _ f st p r _ _; rw [go_nil]; simp
 | @cons i c cs k ks u v h hn hk ih =>
  intro hc f st p r hf hs
  obtain ⟨f', rfl⟩ : ∃ f', f = f' + 1 := ⟨f - 1, by simp only [List.length_cons] at hf; omega⟩
  have hs1 : s.drop p = sepB i :: (u ++ (v ++ 41 :: r)) := by rw [hs]; simp
  obtain ⟨_, _, hs2⟩ := at_drop hs1
  have hsg := sign_back hs1 (sep_ne i).2.1
  have hit := item_back hrd (hc c (by simp)) h hn st hs2 (hk.ends r)
  have ih := ih (fun c hc' => hc c (by simp [hc'])) f' (st.1, st.2.1, st.2.2 ++ [k]) (p + 1 + u.length) r (by simpa using hf) (drop_app hs2)
  rw [sep_succ] at ih
  simp only [goX]
  rw [hsg]
  simp only [Bool.false_eq_true,if_false]
  rw [hit]
  have h3 : ∀ a b, moreX s false a b = false := fun a b => by unfold moreX; rfl
  simp only [Bool.false_eq_true,if_false,h3]
  rw [ih]
  simp only [List.append_assoc,List.cons_append,List.nil_append,List.length_cons,List.length_append]
  exact Prod.ext rfl (Prod.ext (by simp only; omega) rfl)
theorem go_back_lst {i : Nat} {cs : List UInt8} {ks : List NT} {v : List UInt8} (h : KX R i cs ks v) : ks ≠ [] → ∀ (f : Nat) (st : St) (p : Nat) (r : List UInt8), st.2.2.length + ks.length ≤ 64 → ks.length ≤ f → s.drop p = v ++ 41 :: r →
  goX rd s true f (sepB i) [43] st p = ((st.1, st.2.1, st.2.2 ++ ks), p + v.length, false) := by
 induction h with
 | nil i => intro h; exact absurd rfl h
 | @cons i c cs k ks u v h hn hk ih =>
  intro _ f st p r hl hf hs
  simp only [List.length_cons] at hl hf
  obtain ⟨f', rfl⟩ : ∃ f', f = f' + 1 := ⟨f - 1, by omega⟩
  have hs1 : s.drop p = sepB i :: (u ++ (v ++ 41 :: r)) := by rw [hs]; simp
  obtain ⟨_, _, hs2⟩ := at_drop hs1
  have hsg := sign_back hs1 (sep_ne i).2.1
  have hit := item_back hrd (c := 43) (by decide) h (fun e => absurd e (by decide)) st hs2 (hk.ends r)
  have hs3 := drop_app hs2
  have ih := fun hne => ih hne f' (st.1, st.2.1, st.2.2 ++ [k]) (p + 1 + u.length) r (by simp only [List.length_append,List.length_cons,List.length_nil]; omega) (by omega) hs3
  rw [sep_succ] at ih
  simp only [goX]
  rw [hsg]
  simp only [Bool.false_eq_true,if_false]
  rw [hit]
  simp only [Bool.false_eq_true,if_false]
  cases hk with
  | nil _ =>
   obtain ⟨_, p0, _⟩ := at_drop (r := r) hs3
   have hsk := skip_stay (r := r) hs3 (by decide)
   have h3 : moreX s true (st.1, st.2.1, st.2.2 ++ [k]) (p + 1 + u.length) = false := by
    unfold moreX
    rw [hsk, p0, show decide ((41 : UInt8) = 44) = false from rfl, Bool.and_false]; rfl
   rw [h3, if_neg (by simp)]
   simp only [List.append_nil,List.length_cons]
   exact Prod.ext rfl (Prod.ext (by simp only; omega) rfl)
  | @cons _ c2 cs2 k2 ks2 u2 v2 h' hn' hk' =>
   rw [sep_succ] at *
   obtain ⟨_, p0, _⟩ := at_drop (r := (u2 ++ v2) ++ 41 :: r) hs3
   have hsk := skip_stay (r := (u2 ++ v2) ++ 41 :: r) hs3 (by decide)
   simp only [List.length_cons] at hl
   have h3 : moreX s true (st.1, st.2.1, st.2.2 ++ [k]) (p + 1 + u.length) = true := by
    unfold moreX
    rw [hsk, p0, decide_eq_true (show (st.2.2 ++ [k]).length < 64 by simp only [List.length_append,List.length_cons,List.length_nil]; omega)]; rfl
   rw [h3, if_pos rfl, ih (by simp)]
   simp only [List.append_assoc,List.cons_append,List.nil_append,List.length_cons,List.length_append]
   exact Prod.ext rfl (Prod.ext (by simp only; omega) rfl)
end
theorem word_go {s : List UInt8} {d p : Nat} {w r : List UInt8} (h : s.drop p = w ++ r) (hm : Nm w) (hr : namZ (((r[0]?).getD 0).toNat : Int) = false) : exprX s (d + 1) p = wordX s d w (p + w.length) := by
 obtain ⟨w1, w2, w3, w4, w5⟩ := word_back h hm hr
 have h97 := (let_nam w5).2
 have n34 : peekB s p ≠ 34 := fun e => by rw [e] at w5; revert w5; decide
 have n45 : decide (peekB s p = 45) = false := decide_eq_false fun e => by rw [e] at w5; revert w5; decide
 have ndg : digZ ((peekB s p).toNat : Int) = false := by
  rcases Bool.eq_false_or_eq_true (digZ ((peekB s p).toNat : Int)) with e | e
  ·have := dig_range e; omega
  ·exact e
 rw [exprX_eq2, w1, if_neg n34, n45, ndg, if_neg (by decide), w5, if_neg (by decide), w4, if_neg (by decide), w3, w2]
theorem KX.hd {R : NT → List UInt8 → Prop} {i : Nat} {cs : List UInt8} {ks : List NT} {v : List UInt8} (h : KX R i cs ks v) (r : List UInt8) : namZ ((((v ++ (41 :: r))[0]?).getD 0).toNat : Int) = false := by
 have key : ∀ j : Nat, namZ ((sepB j).toNat : Int) = false := fun j => by unfold sepB; split <;> decide
 cases h with
 | nil i => exact (by decide : namZ ((41 : UInt8).toNat : Int) = false)
 | cons h hn hk => exact key i
theorem go_unit {rd : Nat → NT × Nat × Bool} {b : List UInt8} {mark c : UInt8} {st st' : St} {p q q' : Nat} (f : Nat) (h1 : signP b p false mark = (q, false)) (h2 : itemX rd b c st q = (st', q', false)) : goX rd b false (f + 1) mark [c] st p = (st', q', false) := by
 have h3 : ∀ a b', moreX b false a b' = false := fun a b' => by unfold moreX; rfl
 simp only [goX]
 rw [h1]
 simp only [Bool.false_eq_true,if_false]
 rw [h2]
 simp only [Bool.false_eq_true,if_false,h3]
theorem expr_back : ∀ (d : Nat) (t : NT) (u : List UInt8), TX d t u → ∀ (s : List UInt8) (p : Nat) (r : List UInt8), s.drop p = u ++ r → Ends r → exprX s d p = (t, p + u.length, false)
 | 0, t, u, h, s, p, r, hs, he => h.elim
 | d + 1, t, u, h, s, p, r, hs, he => by
  have n0 : namZ ((40 : UInt8).toNat : Int) = false := by decide
  cases h with
  | txt x h ht hu =>
   subst ht hu
   obtain ⟨g1, g2, g3⟩ := str_back h hs
   rw [exprX_eq, g1, if_pos g2, g3]
  | num n h ht hu =>
   subst ht hu
   obtain ⟨g1, g2, g3, g4⟩ := num_back h.1 h.2 hs he
   rw [exprX_eq, g1, if_neg g2, if_pos g3, g4]
  | nam h =>
   obtain ⟨h1, h2, rfl⟩ := h
   rw [word_go hs h1 (ends_nam he).1]
   unfold wordX
   rw [h2]
  | wrd hm h ht =>
   subst ht
   rw [word_go hs hm (ends_nam he).1]
   unfold wordX
   rw [h]
   simp only [if_true]
  | sid w n hm h hn ht hu =>
   subst ht hu
   have hs0 : s.drop p = w ++ (40 :: (UInt8.ofNat (48 + n) :: (41 :: r))) := by rw [hs]; simp
   have hs1 := drop_app hs0
   obtain ⟨_, _, hs2⟩ := at_drop hs1
   obtain ⟨_, hpk, hs3⟩ := at_drop hs2
   obtain ⟨hdg, hdn⟩ := dig_of n (by omega)
   have hsk := skip_stay hs2 (letdig hdg).1
   have hdz := digZ_of hdg
   have hdn' : ((UInt8.ofNat (48 + n)).toNat : Int) - 48 = (n : Int) := by unfold isDig at hdg; omega
   rw [word_go hs0 hm n0]
   unfold wordX
   rw [h]
   simp only
   rw [if_neg (by decide), if_neg (by simp)]
   have hgo : goX (exprX s d) s (decide (([100] : List UInt8) = [43])) 70 40 [100] (0, zeroT, []) (p + w.length) = (((n : Int), zeroT, []), p + w.length + 2, false) := by
    have e : decide (([100] : List UInt8) = [43]) = false := rfl
    rw [e]
    refine go_unit 69 (sign_back hs1 (by decide)) ?_
    unfold itemX
    rw [if_pos rfl, hsk, hpk, hdz, if_pos rfl, hdn']
   unfold callX
   rw [hgo]
   simp only [Bool.false_eq_true,if_false]
   rw [sign_back hs3 (by decide)]
   simp only [List.length_append,List.length_cons,List.length_nil]
   exact Prod.ext rfl (Prod.ext (by simp only; omega) rfl)
  | typ w ty hm h hr ho hc hp ht hu =>
   subst ht hu
   have hs0 : s.drop p = w ++ (40 :: (showT ty ++ (41 :: r))) := by rw [hs]; simp
   have hs1 := drop_app hs0
   obtain ⟨_, _, hs2⟩ := at_drop hs1
   have hs3 := drop_app hs2
   have hty := typ_back hr hc hs2
   have hsk : skipB s (p + w.length + 1) = p + w.length + 1 := by
    have hne := show_ne ty 6 hr
    obtain ⟨c, l, hcl⟩ : ∃ c l, showT ty = c :: l := by
     cases e : showT ty with
     | nil => exact absurd e hne
     | cons c l => exact ⟨c, l, rfl⟩
    have h2 := (hp c (by rw [hcl]; simp)).1
    exact skip_stay (c := c) (r := l ++ 41 :: r) (by rw [hs2, hcl]; rfl) h2
   rw [word_go hs0 hm n0]
   unfold wordX
   rw [h]
   simp only
   rw [if_neg (by decide), if_neg (by simp)]
   have hgo : goX (exprX s d) s (decide (([116] : List UInt8) = [43])) 70 40 [116] (0, zeroT, []) (p + w.length) = ((0, ty, []), p + w.length + 1 + (showT ty).length, false) := by
    have e : decide (([116] : List UInt8) = [43]) = false := rfl
    rw [e]
    refine go_unit 69 (sign_back hs1 (by decide)) ?_
    unfold itemX
    rw [if_neg (by decide), if_pos rfl, hsk, hty]
   unfold callX
   rw [hgo]
   simp only [Bool.false_eq_true,if_false]
   rw [sign_back hs3 (by decide)]
   simp only [List.length_append,List.length_cons,List.length_nil]
   exact Prod.ext rfl (Prod.ext (by simp only; omega) rfl)
  | cal w ps kids v hm h h0 h1 h2 hd hk ht hu =>
   subst ht hu
   have hs0 : s.drop p = w ++ (v ++ (41 :: r)) := by rw [hs]; simp
   have hs1 := drop_app hs0
   have hlen := hk.len
   have hkl : 0 < kids.length := by
    rw [← hlen]
    unfold partsW
    split
    ·rw [List.length_replicate]; omega
    ·exact List.length_pos_iff.2 h0
   have hv := hk.hd r
   rw [word_go hs0 hm hv]
   unfold wordX
   rw [h]
   simp only
   rw [if_neg h0, if_neg (by omega)]
   obtain ⟨hps, hlt⟩ := shape_letters h h1 h2
   have ih := fun k u (h : TX d k u) p r hs he => expr_back d k u h s p r hs he
   have hgo : goX (exprX s d) s (decide (ps = [43])) 70 40 ps (0, zeroT, []) (p + w.length) = ((0, zeroT, kids), p + w.length + v.length, false) := by
    by_cases c3 : ps = [43]
    ·subst c3
     unfold partsW at hk hlen
     rw [if_pos rfl] at hk hlen
     rw [List.length_replicate] at hlen
     have := go_back_lst ih hk (List.length_pos_iff.1 hkl) 70 (0, zeroT, []) (p + w.length) r (by simp only [List.length_nil]; omega) (by omega) hs1
     exact this
    ·unfold partsW at hk
     rw [if_neg c3] at hk
     rw [decide_eq_false c3]
     have := go_back ih hk hlt 70 (0, zeroT, []) (p + w.length) r (by omega) hs1
     exact this
   unfold callX
   rw [hgo]
   simp only [Bool.false_eq_true,if_false]
   rw [sign_back (drop_app hs1) (by decide)]
   simp only [List.length_append,List.length_cons,List.length_nil]
   exact Prod.ext rfl (Prod.ext (by simp only; omega) rfl)
theorem back (s : List UInt8) (hl : s.length ≤ 4096) (h : (readX s).2.2 = false) : Back s := by
 unfold readX at h
 by_cases h1 : (exprX s 24 0).2.2 = true
 ·rw [if_pos h1] at h; simp at h
 rw [if_neg h1] at h
 by_cases h2 : skipB s (exprX s 24 0).2.1 < s.length
 ·rw [if_pos h2] at h; simp at h
 have hx : (readX s).1 = (exprX s 24 0).1 := by
  unfold readX
  rw [if_neg h1, if_neg h2]
 obtain ⟨u, g1, g2⟩ := expr_text s 24 0 (Nat.zero_le _) (by simpa using h1)
 obtain ⟨v, v1, v2, v3, v4⟩ := g2.trans (sec_blank s (exprX s 24 0).2.1)
 have he := skip_len (expr_len0 s)
 have hsv : s = v := by
  have e0 : s.drop (skipB s (exprX s 24 0).2.1) = [] := List.drop_eq_nil_of_le (by omega)
  rw [e0, List.drop_zero, List.append_nil] at v1
  exact v1
 rw [List.append_nil, ← hsv] at v3
 have hul := strip_len s false
 rw [v3] at hul
 refine ⟨by rw [hx]; exact fine_text 24 _ u g1, ?_, ?_⟩
 ·rw [hx, v3]
  have := node_text 24 _ u g1 [] (by simp only [List.length_nil]; omega)
  unfold showX
  rw [this]
  simp only [List.nil_append,Bool.false_or]
  rw [if_neg (by simp only [decide_eq_true_eq]; omega)]
 ·rw [hx, v3]
  apply readX_of
  have := expr_back 24 _ u g1 u 0 [] (by simp) (by intro c hc; simp at hc)
  rw [this, Nat.zero_add]
end Go.Abs.Seat
end
section
set_option linter.unusedVariables false
set_option linter.unusedSimpArgs false
namespace Go.Abs.Seat
open Go.Proofs
theorem s4e (s : List UInt8) (at' : Int) (ha64 : -9223372036854775808 ≤ at' ∧ at' ≤ 9223372036854775807) : ∃ H', L 4 [.im (.str s), .im (.int .i64 at')] [] = some (.im (.bool true), H') :=
 s4 (fun s hl h => back s hl h) s at' ha64
end Go.Abs.Seat
end
