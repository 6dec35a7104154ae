/- Part 9 of what the claim rests on. -/
import Derived.Test.YtmlpfgibpigcdaaGreatDoorLetsA
import Derived.Test.YtmlpfgibpigcdaaGreatDoorLetsB
import Derived.Test.YtmlpfgibpigcdaaGreatDoorLetsC
import Derived.Test.YtmlpfgibpigcdaaGreatDoorLetsD
import Derived.Test.YtmlpfgibpigcdaaGreatDoorLetsE
import Derived.Test.YtmlpfgibpigcdaaGreatDoorLetsF
import Derived.Test.YtmlpfgibpigcdaaGreatDoorLetsG
import Derived.Test.YtmlpfgibpigcdaaGreatDoorLetsH
section
set_option linter.unusedVariables false
set_option linter.unusedSimpArgs false
namespace Go.Abs.Seat
open Go.Proofs
def Nt (t : KT) : Prop := cloneT t = t
def Mt (t : KT) : Prop := rightT t 6 = true → Nt t
mutual
theorem clone_idem : ∀ t : KT, cloneT (cloneT t) = cloneT t
 | .mk k s args => by
  have h := clone_idems args
  have hl : (cloneTs args).length = args.length := by rw [cloneTs_map, List.length_map]
  simp only [cloneT,h,hl]
theorem clone_idems : ∀ l : List KT, cloneTs (cloneTs l) = cloneTs l
 | [] => rfl
 | a :: l => by simp only [cloneTs,clone_idem a,clone_idems l]
end
theorem nt_simple (k : Int) : Nt (.mk k 0 []) := rfl
theorem nts {l : List KT} (h : ∀ a ∈ l, Nt a) : cloneTs l = l := by
 rw [cloneTs_map]
 exact (List.map_congr_left h).trans (List.map_id _)
theorem nt_mk (k : Int) {l : List KT} (h : ∀ a ∈ l, Nt a) (h0 : l ≠ []) : Nt (.mk k 2 l) := by
 unfold Nt
 simp only [cloneT,nts h]
 rw [if_neg fun hl => h0 (List.length_eq_zero_iff.1 hl)]
theorem nt_args {k : Int} {s : Nat} {l : List KT} (h : Nt (.mk k s l)) : ∀ a ∈ l, Nt a := by
 unfold Nt at h
 simp only [cloneT] at h
 injection h with _ _ h3
 intro a ha
 rw [cloneTs_map] at h3
 obtain ⟨i, hi⟩ := List.getElem?_of_mem ha
 have : (l.map cloneT)[i]? = some a := by rw [h3]; exact hi
 rw [List.getElem?_map, hi] at this
 exact Option.some.inj this
theorem nt_argX {t : KT} (h : Nt t) (k : Int) (i : Nat) : Nt (argX t k i).1 := by
 unfold argX
 split
 ·obtain ⟨tk, s, l⟩ := t
  simp only [KT.args]
  rw [List.getD_eq_getElem?_getD]
  cases hi : l[i]? with
  | none => exact nt_simple 0
  | some a => exact nt_args h a (List.mem_of_getElem? hi)
 ·exact nt_simple 0
theorem mt_mk {k : Int} (hk : k = 6 ∨ k = 7 ∨ k = 9) {l : List KT} (h : ∀ a ∈ l, Nt a) : Mt (.mk k 2 l) := fun hr => by
 refine nt_mk k h fun h0 => ?_
 subst h0
 rcases hk with rfl | rfl | rfl <;> exact absurd hr (by decide)
theorem mt_of {t : KT} (h : Nt t) : Mt t := fun _ => h
theorem ite_mt {c : Prop} [Decidable c] {a b : KT × Bool} (ha : Mt a.1) (hb : Mt b.1) : Mt (if c then a else b).1 := by split <;> assumption
theorem more_mt (op : List UInt8) (ts : List KT) (t0 : KT) (h0 : Nt t0) : Mt (moreX op ts t0).1 := by
 unfold moreX
 repeat' first | exact mt_of (nt_argX h0 _ _) | exact mt_of (nt_simple _) | exact mt_of h0 | refine ite_mt ?_ ?_
theorem plain_mt (op : List UInt8) (ts : List KT) (t0 tl : KT) (h0 : Nt t0) (hl : Nt tl) (h : ∀ a ∈ ts, Nt a) : Mt (plainX op ts t0 tl).1 := by
 have ha : ∀ a ∈ [(argX t0 7 0).1], Nt a := fun a ha => by simp at ha; subst ha; exact nt_argX h0 7 0
 have ht : ∀ a ∈ ts.take 1, Nt a := fun a ha => h a (List.mem_of_mem_take ha)
 unfold plainX
 repeat' first | exact more_mt _ _ _ h0 | exact mt_of (nt_argX h0 _ _) | refine ite_mt ?_ ?_ | exact mt_of h0 | exact mt_of hl | exact mt_of (nt_simple _) | exact mt_mk (by decide) h | exact mt_mk (by decide) ht | exact mt_mk (by decide) ha
theorem getD_nt {ts : List KT} (h : ∀ a ∈ ts, Nt a) (i : Nat) : Nt (ts.getD i zeroT) := by
 rw [List.getD_eq_getElem?_getD]
 cases hi : ts[i]? with
 | none => exact nt_simple 0
 | some a => exact h a (List.mem_of_getElem? hi)
theorem plain_nt {op : List UInt8} {ts : List KT} {u : KT} (h : ∀ a ∈ ts, Nt a) (hu : plainR op ts = .inl u) : Nt u := by
 unfold plainR at hu
 split at hu
 ·rename_i hc
  rw [Bool.and_eq_true] at hc
  cases hu
  exact plain_mt _ _ _ _ (getD_nt h _) (getD_nt h _) h hc.2
 ·cases hu
theorem made_nt {t u : KT} (h : madeX t = .inl u) : Nt u := by
 unfold madeX at h
 split at h
 ·cases h; exact clone_idem t
 ·cases h
mutual
theorem look_nt (v : EnvT) (hi : Nt v.it) (hs : ∀ t ∈ v.sides, Nt t) : ∀ (t : NT) (nm : Nms) (u : KT), (∀ x ∈ nm, Nt x.2) → lookX v t nm = .inl u → Nt u
 | .mk op i txt ty s kids, nm, u, hn, h => by
  have key : ∀ j nm' t, (∀ x ∈ nm', Nt x.2) → lookAt v kids j nm' = .inl t → Nt t := fun j nm' t hn' he => look_ntAt v hi hs kids j nm' t hn' he
  have keys : ∀ ts, looksX v kids 0 nm = .inl ts → ∀ a ∈ ts, Nt a := fun ts he => looks_nt v hi hs kids 0 nm ts hn he
  have ext : ∀ (l : Nms), (∀ x ∈ l, Nt x.2) → ∀ x ∈ nm ++ l, Nt x.2 := fun l hl x hx => by
   rcases List.mem_append.1 hx with hx | hx
   ·exact hn x hx
   ·exact hl x hx
  simp only [lookX] at h
  split at h
  ·cases h; exact nt_simple 2
  split at h
  ·cases h; exact nt_simple 3
  split at h
  ·cases h; exact nt_simple 1
  split at h
  ·cases h; exact hi
  split at h
  ·unfold nameX at h
   split at h
   ·rename_i x hf
    cases h
    exact hn x (List.mem_reverse.1 (List.mem_of_find?_eq_some hf))
   ·cases h
  split at h
  ·exact made_nt h
  split at h
  ·exact made_nt h
  split at h
  ·split at h
   ·cases h
   ·cases h
    exact getD_nt hs _
  split at h
  ·unfold bindsR at h
   split at h
   ·obtain ⟨t, h1, h2⟩ := then_inl h
    have r1 := key 1 _ t (ext [] (by simp)) (kid_inl h1)
    exact key 2 _ u (ext _ (fun x hx => by simp at hx; subst hx; exact r1)) (kid_inl h2)
   split at h
   ·obtain ⟨t, h1, h2⟩ := then_inl h
    obtain ⟨t1, h3, h4⟩ := then_inl h2
    have r1 := key 1 _ t1 (ext [] (by simp)) (kid_inl h3)
    split at h4
    ·obtain ⟨t4, h5, h6⟩ := then_inl h4
     split at h6
     ·cases h6; exact r1
     ·cases h6
    ·cases h4
   ·obtain ⟨t, h1, h2⟩ := then_inl h
    have r0 := key 0 _ t (ext [] (by simp)) (kid_inl h1)
    split at h2
    ·obtain ⟨t4, h5, h6⟩ := then_inl h2
     split at h6
     ·exact made_nt h6
     split at h6
     ·cases h6; exact r0
     ·cases h6
    ·cases h2
  ·split at h
   ·rename_i ts hts
    exact plain_nt (keys ts hts) h
   ·cases h
theorem look_ntAt (v : EnvT) (hi : Nt v.it) (hs : ∀ t ∈ v.sides, Nt t) : ∀ (kids : List NT) (j : Nat) (nm : Nms) (u : KT), (∀ x ∈ nm, Nt x.2) → lookAt v kids j nm = .inl u → Nt u
 | [], j, nm, u, _, h => by simp only [lookAt] at h; cases h
 | k :: ks, 0, nm, u, hn, h => by simp only [lookAt] at h; exact look_nt v hi hs k nm u hn h
 | k :: ks, j + 1, nm, u, hn, h => by simp only [lookAt] at h; exact look_ntAt v hi hs ks j nm u hn h
theorem looks_nt (v : EnvT) (hi : Nt v.it) (hs : ∀ t ∈ v.sides, Nt t) : ∀ (kids : List NT) (j : Nat) (nm : Nms) (ts : List KT), (∀ x ∈ nm, Nt x.2) → looksX v kids j nm = .inl ts → ∀ a ∈ ts, Nt a
 | [], j, nm, ts, _, h => by simp only [looksX] at h; cases h; simp
 | k :: ks, j, nm, ts, hn, h => by
  simp only [looksX] at h
  split at h
  ·cases h
  ·rename_i t ht
   split at h
   ·rename_i ts' hts
    cases h
    intro a ha
    rcases List.mem_cons.1 ha with rfl | ha
    ·exact look_nt v hi hs k nm a hn (kid_inl ht)
    ·exact looks_nt v hi hs ks (j + 1) nm ts' hn hts a ha
   ·cases h
end
end Go.Abs.Seat
end
section
set_option linter.unusedVariables false
set_option linter.unusedSimpArgs false
namespace Go.Abs.Seat
open Go.Proofs
def namAt (kids : List NT) (j : Nat) : Prop := ∀ k, kids[j]? = some k → isNam k = true
def Bn : Nat → NT → Prop
 | 0, _ => False
 | d + 1, .mk op _ _ _ _ kids => (op = [108, 101, 116] → namAt kids 0) ∧ (op = [109, 97, 112] → namAt kids 1) ∧ (op = [102, 105, 108, 116, 101, 114] → namAt kids 1) ∧ (op = [102, 111, 108, 100] → namAt kids 2 ∧ namAt kids 3) ∧ ∀ k ∈ kids, Bn d k
theorem kidsW_nam (d : Nat) (ps : List UInt8) : ∀ (kids : List NT) (i : Nat) (st : WSt), (kidsW (nodeW d) ps i kids st).2 = false → ∀ j k, kids[j]? = some k → ps[i + j]? = some 110 → isNam k = true
 | [], i, st, _, j, k, h, _ => by simp at h
 | k' :: ks, i, st, h, j, k, hk, hp => by
  simp only [kidsW] at h
  obtain ⟨h1, _⟩ := kidsW_good d ps ks (i + 1) _ h
  have hb : (st.2 || (decide (ps[i]? = some 110) && !isNam k')) = false := by
   cases hx : (st.2 || (decide (ps[i]? = some 110) && !isNam k')) with
   | false => rfl
   | true =>
    rw [hx, nodeW_bad] at h1
    cases h1
  cases j with
  | zero =>
   simp at hk
   subst hk
   rw [Nat.add_zero] at hp
   rw [hp] at hb
   simpa using (Bool.or_eq_false_iff.1 hb).2
  | succ j =>
   refine kidsW_nam d ps ks (i + 1) _ h j k (by simpa using hk) ?_
   rw [show i + 1 + j = i + (j + 1) by omega]
   exact hp
theorem spp1 : ∀ q ∈ shapes, q.1 = [108, 101, 116] → q.2 ≠ [43] ∧ q.2[0]? = some 110 := by decide
theorem spp2 : ∀ q ∈ shapes, q.1 = [109, 97, 112] → q.2 ≠ [43] ∧ q.2[1]? = some 110 := by decide
theorem spp3 : ∀ q ∈ shapes, q.1 = [102, 105, 108, 116, 101, 114] → q.2 ≠ [43] ∧ q.2[1]? = some 110 := by decide
theorem spp4 : ∀ q ∈ shapes, q.1 = [102, 111, 108, 100] → q.2 ≠ [43] ∧ q.2[2]? = some 110 ∧ q.2[3]? = some 110 := by decide
theorem namAt_nil (j : Nat) : namAt [] j := fun k h => by simp at h
theorem bn_nil (d : Nat) (op : List UInt8) (i : Int) (txt : List UInt8) (ty : KT) (s : Nat) : Bn (d + 1) (.mk op i txt ty s []) :=
 ⟨fun _ => namAt_nil 0, fun _ => namAt_nil 1, fun _ => namAt_nil 1, fun _ => ⟨namAt_nil 2, namAt_nil 3⟩, by simp⟩
theorem bn_of : ∀ (d : Nat) (t : NT) (acc : List UInt8), (nodeW d t (acc, false)).2 = false → Bn d t
 | 0, t, acc, h => by simp only [nodeW] at h; cases h
 | d + 1, .mk op i txt ty s kids, acc, h => by
  have leafCase : kids = [] → Bn (d + 1) (.mk op i txt ty s kids) := fun hk => by
   subst hk; exact bn_nil d op i txt ty s
  have bk : ∀ {a b c : Bool}, bareN (.mk op i txt ty s kids) a b c false = true → kids = [] := fun hb => by
   obtain ⟨_, _, _, _, _, he⟩ := bare_kids hb
   injection he
  simp only [nodeW] at h
  split at h
  ·cases h
  split at h
  ·exact leafCase (bk (by simpa using h))
  split at h
  ·split at h
   ·cases h
   ·rename_i hb
    simp only [Bool.or_eq_true,not_or,Bool.not_eq_true',Bool.not_eq_false] at hb
    exact leafCase (bk hb.1)
  split at h
  ·simp only [Bool.or_eq_false_iff,Bool.not_eq_false'] at h
   exact leafCase (bk h.1)
  split at h
  ·cases h
  ·rename_i ps hps
   have hm := lookup_mem hps
   have a1 := spp1 _ hm
   have a2 := spp2 _ hm
   have a3 := spp3 _ hm
   have a4 := spp4 _ hm
   simp only at a1 a2 a3 a4
   split at h
   ·simp only [Bool.or_eq_false_iff,Bool.not_eq_false',decide_eq_false_iff_not] at h
    exact leafCase (bk h.1.1)
   split at h
   ·simp only [Bool.or_eq_false_iff,Bool.not_eq_false'] at h
    exact leafCase (bk h.1)
   unfold callW at h
   split at h
   ·cases h
   have hk : (kidsW (nodeW d) (partsW ps kids.length) 0 kids (acc ++ op, false)).2 = false := by
    split at h
    ·exact h
    ·exact h
   have hn := kidsW_nam d _ kids 0 _ hk
   have hpp : ps ≠ [43] → partsW ps kids.length = ps := fun h43 => by unfold partsW; rw [if_neg h43]
   have at_ : ps ≠ [43] → ∀ j, ps[j]? = some 110 → namAt kids j := fun h43 j hj k hkj => hn j k hkj (by rw [hpp h43, Nat.zero_add]; exact hj)
   refine ⟨fun e => at_ (a1 e).1 0 (a1 e).2, fun e => at_ (a2 e).1 1 (a2 e).2, fun e => at_ (a3 e).1 1 (a3 e).2, fun e => ⟨at_ (a4 e).1 2 (a4 e).2.1, at_ (a4 e).1 3 (a4 e).2.2⟩, fun k hkm => ?_⟩
   obtain ⟨acc', ha⟩ := (kidsW_good d _ kids 0 _ hk).2 k hkm
   exact bn_of d k acc' ha
theorem show_bn {t : NT} (h : (showX t).2 = 0) : Bn 24 t := by
 refine bn_of 24 t [] ?_
 unfold showX at h
 split at h
 ·cases h
 ·rename_i hc
  simp only [Bool.or_eq_true,not_or,Bool.not_eq_true] at hc
  exact hc.1
theorem find_w {nm : Nms} (u : KT) {w : List UInt8} (hw : w ≠ [119]) : findX (([119], u) :: nm) w = findX nm w := by
 unfold findX
 rw [List.reverse_cons, List.find?_append]
 have : decide (([119] : List UInt8) = w) = false := decide_eq_false (Ne.symm hw)
 simp [this]
theorem find_own {nm : Nms} (u : KT) (h : ∀ x ∈ nm, x.1 ≠ [119]) : findX (([119], u) :: nm) [119] = some ([119], u) := by
 unfold findX
 rw [List.reverse_cons, List.find?_append]
 have : nm.reverse.find? (fun x => decide (x.1 = [119])) = none := by
  rw [List.find?_eq_none]
  intro x hx
  simpa using h x (List.mem_reverse.1 hx)
 rw [this]
 simp
theorem holdsBs_mem : ∀ {l : List NT}, holdsBs l = false → ∀ a ∈ l, holdsB a = false
 | [], _, a, ha => by simp at ha
 | x :: l, h, a, ha => by
  simp only [holdsBs,Bool.or_eq_false_iff] at h
  rcases List.mem_cons.1 ha with rfl | ha
  ·exact h.1
  ·exact holdsBs_mem h.2 a ha
theorem lookAt_cong (v W : EnvT) (f : NT → NT) (x : List UInt8 × KT) (nm : Nms) : ∀ (kids : List NT) (j : Nat), (∀ k ∈ kids, lookX v (f k) (x :: nm) = lookX W k nm) → lookAt v (kids.map f) j (x :: nm) = lookAt W kids j nm
 | [], j, _ => by simp only [List.map_nil,lookAt]
 | k :: ks, 0, h => by simp only [List.map_cons,lookAt]; exact h k (by simp)
 | k :: ks, j + 1, h => by simp only [List.map_cons,lookAt]; exact lookAt_cong v W f x nm ks j fun k hk => h k (by simp [hk])
theorem looks_cong (v W : EnvT) (f : NT → NT) (x : List UInt8 × KT) (nm : Nms) : ∀ (kids : List NT) (j : Nat), (∀ k ∈ kids, lookX v (f k) (x :: nm) = lookX W k nm) → looksX v (kids.map f) j (x :: nm) = looksX W kids j nm
 | [], j, _ => by simp only [List.map_nil,looksX]
 | k :: ks, j, h => by
  simp only [List.map_cons, looksX, h k (by simp), looks_cong v W f x nm ks (j + 1) fun k hk => h k (by simp [hk])]
theorem look_wN (v : EnvT) (l : Nms) : lookX v wN l = nameX l [119] := by
 unfold wN nameW
 simp only [lookX]
 rfl
theorem look_side (v : EnvT) (i : Int) (txt : List UInt8) (ty : KT) (s : Nat) (kids : List NT) (l : Nms) : lookX v (.mk sdW i txt ty s kids) l = if (v.sides.length : Int) ≤ i then .inr ([], 53) else .inl (v.sides.getD i.toNat zeroT) := by
 unfold sdW
 simp only [lookX]
 rfl
theorem txAt_map {f : NT → NT} {kids : List NT} {j : Nat} (h : ∀ k, kids[j]? = some k → txtN (f k) = txtN k) : txAt (kids.map f) j = txAt kids j := by
 unfold txAt
 rw [List.getElem?_map]
 cases hk : kids[j]? with
 | none => rfl
 | some k => exact h k hk
theorem then_cong {r r' : RT} {f g : KT → RT} (hr : r = r') (h : ∀ t, f t = g t) : thenR r f = thenR r' g := by
 rw [hr, funext h]
theorem swap_look (v W : EnvT) (u : KT) (hit : W.it = v.it) (hsd : W.sides = v.sides ++ [u]) : ∀ (d : Nat) (t : NT) (nm : Nms), Bn d t → tidyN t → holdsB t = false → (∀ x ∈ nm, x.1 ≠ [119]) → lookX v (swapN v.sides.length t) (([119], u) :: nm) = lookX W t nm
 | 0, t, nm, hb, _, _, _ => by simp only [Bn] at hb
 | d + 1, .mk op i txt ty s kids, nm, hb, ht, hh, hn => by
  simp only [Bn] at hb
  obtain ⟨b1, b2, b3, b4, bk⟩ := hb
  simp only [tidyN] at ht
  obtain ⟨_, _, hsi, htk⟩ := ht
  simp only [holdsB,Bool.or_eq_false_iff] at hh
  obtain ⟨hhk, hhn⟩ := hh
  have hkid : ∀ nm' : Nms, (∀ x ∈ nm', x.1 ≠ [119]) → ∀ k ∈ kids, lookX v (swapN v.sides.length k) (([119], u) :: nm') = lookX W k nm' := fun nm' hn' k hk => by
   obtain ⟨j, hj⟩ := List.getElem?_of_mem hk
   exact swap_look v W u hit hsd d k nm' (bk k hk) (tidyNs_at htk hj) (holdsBs_mem hhk k hk) hn'
  have hAt : ∀ (j : Nat) (nm' : Nms), (∀ x ∈ nm', x.1 ≠ [119]) → lookAt v (kids.map (swapN v.sides.length)) j (([119], u) :: nm') = lookAt W kids j nm' := fun j nm' hn' => lookAt_cong v W _ _ nm' kids j (hkid nm' hn')
  have hTx : ∀ j, namAt kids j → txAt (kids.map (swapN v.sides.length)) j = txAt kids j ∧ txAt kids j ≠ [119] := fun j hj => by
   refine ⟨txAt_map fun k hk => ?_, ?_⟩
   ·have hnk := hj k hk
    obtain ⟨kop, ki, ktx, kty, ks, kk⟩ := k
    simp only [isNam,decide_eq_true_eq] at hnk
    simp only [swapN]
    rw [if_neg fun h => by rw [hnk] at h; exact absurd h.1 (by decide)]
    rfl
   ·unfold txAt
    cases hk : kids[j]? with
    | none => simp
    | some k =>
     have hnk := hj k hk
     have hkh := holdsBs_mem hhk k (List.mem_of_getElem? hk)
     obtain ⟨kop, ki, ktx, kty, ks, kk⟩ := k
     simp only [isNam,decide_eq_true_eq] at hnk
     simp only [holdsB,Bool.or_eq_false_iff,hnk,decide_true,Bool.true_and,decide_eq_false_iff_not] at hkh
     exact hkh.2
  have ext : ∀ (l : Nms), (∀ x ∈ l, x.1 ≠ [119]) → ∀ x ∈ nm ++ l, x.1 ≠ [119] := fun l hl x hx => by
   rcases List.mem_append.1 hx with hx | hx
   ·exact hn x hx
   ·exact hl x hx
  by_cases hsw : op = sdW ∧ i = (v.sides.length : Int)
  ·simp only [swapN]
   rw [if_pos hsw, look_wN]
   obtain ⟨rfl, rfl⟩ := hsw
   have e : nameX (([119], u) :: nm) [119] = .inl u := by
    unfold nameX
    rw [find_own u hn]
   rw [e]
   have hl : W.sides.length = v.sides.length + 1 := by rw [hsd]; simp
   have hg : W.sides.getD ((v.sides.length : Int)).toNat zeroT = u := by
    rw [Int.toNat_natCast, hsd, List.getD_eq_getElem?_getD, List.getElem?_append_right (Nat.le_refl _), Nat.sub_self]
    rfl
   rw [look_side, if_neg (by omega), hg]
  ·have hX : swapN v.sides.length (.mk op i txt ty s kids) = .mk op i txt ty (if (swapNs v.sides.length kids).length = 0 then 0 else 6) (kids.map (swapN v.sides.length)) := by
    simp only [swapN]
    rw [if_neg hsw]
    simp only [mkN,swapNs_map]
   rw [hX]
   simp only [lookX]
   by_cases u0 : op = [105, 110, 116]
   ·rw [if_pos u0, if_pos u0]
   rw [if_neg u0, if_neg u0]
   by_cases u1 : op = [116, 101, 120, 116, 95, 111, 102]
   ·rw [if_pos u1, if_pos u1]
   rw [if_neg u1, if_neg u1]
   by_cases u2 : op = [116, 114, 117, 101] ∨ op = [102, 97, 108, 115, 101]
   ·rw [if_pos u2, if_pos u2]
   rw [if_neg u2, if_neg u2]
   by_cases u3 : op = [105, 116]
   ·rw [if_pos u3, if_pos u3, hit]
   rw [if_neg u3, if_neg u3]
   by_cases u4 : op = [110, 97, 109, 101]
   ·rw [if_pos u4, if_pos u4]
    have hw : txt ≠ [119] := by
     intro hw
     rw [decide_eq_true (show op = nameW from u4), decide_eq_true hw] at hhn
     cases hhn
    unfold nameX
    rw [find_w u hw]
   rw [if_neg u4, if_neg u4]
   by_cases u5 : op = [110, 105, 108]
   ·rw [if_pos u5, if_pos u5]
   rw [if_neg u5, if_neg u5]
   by_cases u6 : op = [110, 111, 110, 101]
   ·rw [if_pos u6, if_pos u6]
   rw [if_neg u6, if_neg u6]
   by_cases u7 : op = [115, 105, 100, 101]
   ·rw [if_pos u7, if_pos u7]
    have hi0 := hsi u7
    have hne : i ≠ (v.sides.length : Int) := fun h => hsw ⟨u7, h⟩
    have hl : W.sides.length = v.sides.length + 1 := by rw [hsd]; simp
    by_cases hle : (v.sides.length : Int) ≤ i
    ·rw [if_pos hle, if_pos (by omega)]
    ·rw [if_neg hle, if_neg (by omega)]
     rw [List.getD_eq_getElem?_getD, List.getD_eq_getElem?_getD, hsd, List.getElem?_append_left (by omega)]
   rw [if_neg u7, if_neg u7]
   by_cases u8 : bindsW op
   ·rw [if_pos u8, if_pos u8]
    unfold bindsR
    simp only [List.cons_append]
    by_cases l1 : op = letW
    ·rw [if_pos l1, if_pos l1]
     have t0 := hTx 0 (b1 l1)
     rw [hAt 1 _ (ext [] (by simp))]
     refine then_cong rfl fun t => ?_
     rw [t0.1, hAt 2 _ (ext _ (fun x hx => by simp at hx; subst hx; exact t0.2))]
    rw [if_neg l1, if_neg l1]
    by_cases l2 : op = foldW
    ·rw [if_pos l2, if_pos l2]
     have t2 := hTx 2 (b4 l2).1
     have t3 := hTx 3 (b4 l2).2
     rw [hAt 0 _ (ext [] (by simp))]
     refine then_cong rfl fun t => ?_
     rw [hAt 1 _ (ext [] (by simp))]
     refine then_cong rfl fun t1 => ?_
     rw [t2.1, t3.1, hAt 4 _ (ext _ (fun x hx => by
      simp at hx
      rcases hx with rfl | rfl
      ·exact t2.2
      ·exact t3.2))]
    rw [if_neg l2, if_neg l2]
    have t1 := hTx 1 (by
     rcases u8 with h | h | h | h
     ·exact absurd h l1
     ·exact b2 h
     ·exact b3 h
     ·exact absurd h l2)
    rw [hAt 0 _ (ext [] (by simp))]
    refine then_cong rfl fun t => ?_
    rw [t1.1, hAt 2 _ (ext _ (fun x hx => by simp at hx; subst hx; exact t1.2))]
   rw [if_neg u8, if_neg u8, looks_cong v W _ _ nm kids 0 (hkid nm hn)]
end Go.Abs.Seat
end
section
set_option linter.unusedVariables false
set_option linter.unusedSimpArgs false
namespace Go.Abs.Seat
open Go.Proofs
mutual
theorem swap_clone (m : Nat) : ∀ t : NT, cloneN (swapN m t) = swapN m (cloneN t)
 | .mk op i txt ty s kids => by
  have h := swap_clones m kids
  simp only [swapN,cloneN,mkN]
  split
  ·rfl
  ·simp only [cloneN,mkN,h]
theorem swap_clones (m : Nat) : ∀ l : List NT, cloneNs (swapNs m l) = swapNs m (cloneNs l)
 | [] => rfl
 | a :: l => by simp only [swapNs,cloneNs,swap_clone m a,swap_clones m l]
end
mutual
theorem holds_clone : ∀ t : NT, holdsB (cloneN t) = holdsB t
 | .mk op i txt ty s kids => by simp only [cloneN,mkN,holdsB,holds_clones kids]
theorem holds_clones : ∀ l : List NT, holdsBs (cloneNs l) = holdsBs l
 | [] => rfl
 | a :: l => by simp only [cloneNs,holdsBs,holds_clone a,holds_clones l]
end
mutual
theorem same_self : ∀ t : KT, sameT t t = true
 | .mk k s args => by simp only [sameT,decide_true,Bool.true_and,same_selfs args]
theorem same_selfs : ∀ l : List KT, sameTs l l = true
 | [] => rfl
 | a :: l => by simp only [sameTs,same_self a,same_selfs l,Bool.and_self]
end
theorem look_let (v : EnvT) (d s : NT) : lookX v (letN d s) [] = thenR (kidR 1 (lookX v d [])) fun t => kidR 2 (lookX v s [([119], t)]) := by
 unfold letN
 simp only [lookX]
 rfl
theorem lets_true (d n : NT) (v : EnvT) (hd : handN d) (hn : handN n) (hv : EnvH v) : letsB d n v = true := by
 unfold letsB
 by_cases ha : smallE d v = true
 rotate_left
 ·rw [if_neg ha]
 rw [if_pos ha]
 by_cases hb : smallE n v = true
 rotate_left
 ·rw [if_neg hb]
 rw [if_pos hb]
 by_cases h8 : 8 < (v.sides.length : Int)
 ·rw [if_pos h8]
 rw [if_neg h8]
 have sa := small_says hd hv ha
 have fa := clone_fine d sa.2.1
 have fn := clone_fine n (small_says hn hv hb).2.1
 have hEh := envC_h hv
 by_cases he : (inferX (cloneN d) (envC v)).2.2 = 0
 rotate_left
 ·rw [if_neg he]
 rw [if_pos he]
 by_cases hw : (showX (letN (cloneN d) (cloneN (swapN v.sides.length n)))).2 = 0
 rotate_left
 ·rw [if_neg hw]
 rw [if_pos hw]
 by_cases hwn : (showX (cloneN n)).2 = 0
 rotate_left
 ·rw [if_neg hwn]
 rw [if_pos hwn]
 by_cases hh : holdsB n = true
 ·rw [if_pos hh]
 rw [if_neg hh]
 have hh' : holdsB (cloneN n) = false := by
  rw [holds_clone]
  simpa using hh
 rw [swap_clone] at hw ⊢
 have hsl : (envC v).sides.length = v.sides.length := by simp [envC]
 have hi : (showX (cloneN d)).2 = 0 ∧ envR (envC v) = true ∧ ∃ u, lookX (envC v) (cloneN d) [] = .inl u ∧ inferX (cloneN d) (envC v) = (cloneT u, [], 0) := by
  generalize cloneN d = t' at *
  generalize envC v = v' at *
  have hI : inferX t' v' = if (showX t').2 = 0 then (if envR v' = true then (match lookX v' t' [] with | .inl u => (cloneT u, [], 0) | .inr (p, c) => (zeroT, p, c)) else (zeroT, [], 20)) else (zeroT, [], 110) := rfl
  rw [hI] at he ⊢
  by_cases h1 : (showX t').2 = 0
  rotate_left
  ·rw [if_neg h1] at he; cases he
  rw [if_pos h1] at he ⊢
  by_cases h2 : envR v' = true
  rotate_left
  ·rw [if_neg h2] at he; cases he
  rw [if_pos h2] at he ⊢
  refine ⟨h1, h2, ?_⟩
  cases hl : lookX v' t' [] with
  | inl u => exact ⟨u, rfl, rfl⟩
  | inr e =>
   obtain ⟨p, c⟩ := e
   rw [hl] at he
   have hc : c = 0 := he
   subst hc
   have := look_code v' 24 t' [] p 0 (show_gd fa h1).1 hl
   rcases this with h | h | h <;> cases h
 obtain ⟨hs, hr, u, hl, hi⟩ := hi
 have hu : Rt u := look_rt (envC v) (envOk hEh hr) (cloneN d) [] u (show_gd fa hs).2 (by simp) hl
 have hnt : Nt u := look_nt (envC v) (clone_idem _) (fun t ht => by
  simp only [envC] at ht
  obtain ⟨x, _, rfl⟩ := List.mem_map.1 ht
  exact clone_idem x) (cloneN d) [] u (by simp) hl
 rw [hi]
 simp only
 unfold Nt at hnt
 rw [hnt]
 have hWh : EnvH (withE v u) := with_h hv hu.1 sa.2.2.2.2
 have hWr : envR (withE v u) = true := by
  unfold envR at hr ⊢
  simp only [Bool.and_eq_true,decide_eq_true_eq,Bool.not_eq_true',List.any_eq_false] at hr ⊢
  refine ⟨⟨hr.1.1, ?_⟩, fun x hx => ?_⟩
  ·simp only [withE,List.length_append,List.length_map,List.length_cons,List.length_nil]
   omega
  ·simp only [withE] at hx
   rcases List.mem_append.1 hx with hx | hx
   ·exact hr.2 x hx
   ·rw [List.mem_singleton.1 hx, hu.2]; simp
 have gn := show_gd fn hwn
 have key := swap_look (envC v) (withE v u) u rfl rfl 24 (cloneN n) [] (show_bn hwn) gn.2 hh' (by simp)
 rw [hsl] at key
 have i1 : inferX (letN (cloneN d) (swapN v.sides.length (cloneN n))) (envC v) = (match lookX (envC v) (letN (cloneN d) (swapN v.sides.length (cloneN n))) [] with | .inl u => (cloneT u, [], 0) | .inr (p, c) => (zeroT, p, c)) := by
  unfold inferX
  rw [if_pos hw, if_pos hr]
  try rfl
 have i2 : inferX (cloneN n) (withE v u) = (match lookX (withE v u) (cloneN n) [] with | .inl u => (cloneT u, [], 0) | .inr (p, c) => (zeroT, p, c)) := by
  unfold inferX
  rw [if_pos hwn, if_pos hWr]
  try rfl
 rw [look_let, hl] at i1
 simp only [kidR,thenR] at i1
 rw [key] at i1
 have hrt := fun x hx => look_rt (withE v u) (envOk hWh hWr) (cloneN n) [] x gn.2 (by simp) hx
 have hcd := fun p c hx => look_code (withE v u) 24 (cloneN n) [] p c gn.1 hx
 cases hlr : lookX (withE v u) (cloneN n) [] with
 | inl x =>
  rw [hlr] at i1 i2
  simp only at i1 i2
  have hx := hrt x hlr
  rw [i1, i2, if_pos rfl, if_pos rfl]
  simp only [sameR_clone]
  unfold sameR
  rw [hx.2, Bool.true_and, Bool.true_and]
  exact same_self x
 | inr e =>
  obtain ⟨p, c⟩ := e
  rw [hlr] at i1 i2
  simp only at i1 i2
  have hc : c ≠ 0 := fun h0 => by
   subst h0
   rcases hcd p 0 hlr with h | h | h <;> cases h
  rw [i1, i2, if_pos rfl, if_neg hc]
theorem s3t (d n : NT) (v : EnvT) (hd : handN d) (hn : handN n) (hv : EnvH v) : ∃ H', L 3 [.im (.agg (encN d)), .im (.agg (encN n)), .im (.agg (encE v))] [] = some (.im (.bool true), H') := ⟨[], by rw [law3 d n v hd hn hv, lets_true d n v hd hn hv]⟩
end Go.Abs.Seat
end
section
set_option linter.unusedVariables false
set_option linter.unusedSimpArgs false
namespace Go.Abs.Seat
open Go.Proofs Go.Abs Go.ChangeShapes
section
variable {Hd : Type} {enc : TypeId × Value → Hd} {P : Program} {w : World}
theorem reads_map {n : Nat} {t : TypeId} {α β : Type} {ea : α → List Dat} {eb : β → List Dat} {ga : α → Prop} {gb : β → Prop} (h : Reads enc P w n t α ea ga) (hm : ∀ a, ga a → ∃ b, gb b ∧ eb b = ea a) : Reads enc P w n t β eb gb := by
 intro cs x hx
 obtain ⟨a, hg, hr, hl, hc⟩ := h cs x hx
 obtain ⟨b, hb, he⟩ := hm a hg
 exact ⟨b, hb, by rw [he]; exact hr, by rw [he]; exact hl, by rw [he]; exact hc⟩
theorem reads_zero {t : TypeId} {α : Type} {en : α → List Dat} {good : α → Prop} : Reads enc P w 0 t α en good := by
 intro cs x hx
 simp [DataW.trod] at hx
theorem readsT : ∀ n, Reads enc Tryz.prog w n 24 KT encT okT ∧ Reads enc Tryz.prog w n 22 (List KT) (fun l => [.sl 2 (l.map encT)]) (fun l => (∀ a ∈ l, okT a) ∧ l.length ≤ maxLen)
 | 0 => ⟨reads_zero, reads_zero⟩
 | n + 1 => by
  obtain ⟨h1, h2⟩ := readsT n
  have hc : Tryz.prog.cellsOf 24 = 2 := by kernel_rfl
  have h3 : Reads enc Tryz.prog w n 3 Int (fun z => [.int .i64 z]) (fun z => (Lit.int .i64 z).wf = true) := reads_int Tryz.underlying3 (by kernel_rfl)
  have hsl := reads_slice (n := n) (enc := enc) (w := w) Tryz.underlying22 (by kernel_rfl) (by rw [hc]; decide) h1
  rw [hc] at hsl
  refine ⟨?_, hsl⟩
  have hF := readsF_cons (f := { name := "Kind", type := 3, offset := 0, embedded := false, tag := "", pkgPath := "", byteOffset := 0 }) (L := 2) (o := 0) (o' := 1) rfl (by kernel_rfl) (by decide) h3
   (readsF_cons (f := { name := "Args", type := 22, offset := 1, embedded := false, tag := "", pkgPath := "", byteOffset := 8 }) (L := 2) (o := 1) (o' := 2) rfl (by kernel_rfl) (by decide) h2 readsF_nil)
  have hs := reads_struct (t := 24) (enc := enc) (w := w) Tryz.underlying24 (by rw [hc]; exact hF)
  refine reads_map hs fun ⟨k, l, u⟩ ⟨_, ⟨hg, hl⟩, _⟩ => ⟨.mk k 2 l, ?_, ?_⟩
  ·simp only [okT]
   refine ⟨.inr trivial, by simpa [maxLen] using hl, ?_⟩
   have : ∀ l : List KT, (∀ a ∈ l, okT a) → okTs l := by
    intro l
    induction l with
    | nil => intro _; simp only [okTs]
    | cons a l ih => intro h; simp only [okTs]; exact ⟨h a (by simp), ih fun x hx => h x (by simp [hx])⟩
   exact this l hg
  ·simp only [encT,encTs_map]
   rfl
theorem readsN : ∀ n, Reads enc Tryz.prog w n 27 NT encN handN ∧ Reads enc Tryz.prog w n 25 (List NT) (fun l => [.sl 6 (l.map encN)]) (fun l => (∀ a ∈ l, handN a) ∧ l.length ≤ maxLen)
 | 0 => ⟨reads_zero, reads_zero⟩
 | n + 1 => by
  obtain ⟨h1, h2⟩ := readsN n
  have hc : Tryz.prog.cellsOf 27 = 6 := by kernel_rfl
  have h3 : Reads enc Tryz.prog w n 3 Int (fun z => [.int .i64 z]) (fun z => (Lit.int .i64 z).wf = true) := reads_int Tryz.underlying3 (by kernel_rfl)
  have h9 : Reads enc Tryz.prog w n 9 (List UInt8) (fun s => [.str s]) (fun s => s.length ≤ maxLen) := reads_str Tryz.underlying9 (by kernel_rfl)
  have hsl := reads_slice (n := n) (enc := enc) (w := w) Tryz.underlying25 (by kernel_rfl) (by rw [hc]; decide) h1
  rw [hc] at hsl
  refine ⟨?_, hsl⟩
  have hF := readsF_cons (f := { name := "Op", type := 9, offset := 0, embedded := false, tag := "", pkgPath := "", byteOffset := 0 }) (L := 6) (o := 0) (o' := 1) rfl (by kernel_rfl) (by decide) h9
   (readsF_cons (f := { name := "Int", type := 3, offset := 1, embedded := false, tag := "", pkgPath := "", byteOffset := 16 }) (L := 6) (o := 1) (o' := 2) rfl (by kernel_rfl) (by decide) h3
   (readsF_cons (f := { name := "Text", type := 9, offset := 2, embedded := false, tag := "", pkgPath := "", byteOffset := 24 }) (L := 6) (o := 2) (o' := 3) rfl (by kernel_rfl) (by decide) h9
   (readsF_cons (f := { name := "Type", type := 24, offset := 3, embedded := false, tag := "", pkgPath := "", byteOffset := 40 }) (L := 6) (o := 3) (o' := 5) rfl (by kernel_rfl) (by decide) (readsT n).1
   (readsF_cons (f := { name := "Kids", type := 25, offset := 5, embedded := false, tag := "", pkgPath := "", byteOffset := 72 }) (L := 6) (o := 5) (o' := 6) rfl (by kernel_rfl) (by decide) h2 readsF_nil))))
  have hs := reads_struct (t := 27) (enc := enc) (w := w) Tryz.underlying27 (by rw [hc]; exact hF)
  refine reads_map hs fun ⟨op, i, txt, ty, l, u⟩ ⟨_, hi, _, hty, ⟨hg, hl⟩, _⟩ => ⟨.mk op i txt ty 6 l, ?_, ?_⟩
  ·simp only [handN]
   refine ⟨?_, .inr trivial, by simpa [maxLen] using hl, hty, ?_⟩
   ·simp only [Lit.wf,Bool.and_eq_true,decide_eq_true_eq] at hi
    exact hi
   ·have : ∀ l : List NT, (∀ a ∈ l, handN a) → handNs l := by
     intro l
     induction l with
     | nil => intro _; simp only [handNs]
     | cons a l ih => intro h; simp only [handNs]; exact ⟨h a (by simp), ih fun x hx => h x (by simp [hx])⟩
    exact this l hg
  ·obtain ⟨k, sa, args⟩ := ty
   simp only [encN,encT,encTs_map,encNs_map]
   rfl
theorem readsE : ∀ n, Reads enc Tryz.prog w n 29 EnvT encE EnvH
 | 0 => reads_zero
 | n + 1 => by
  have hc : Tryz.prog.cellsOf 29 = 3 := by kernel_rfl
  have hF := readsF_cons (f := { name := "It", type := 24, offset := 0, embedded := false, tag := "", pkgPath := "", byteOffset := 0 }) (L := 3) (o := 0) (o' := 2) rfl (by kernel_rfl) (by decide) (readsT (enc := enc) (w := w) n).1
   (readsF_cons (f := { name := "Sides", type := 22, offset := 2, embedded := false, tag := "", pkgPath := "", byteOffset := 32 }) (L := 3) (o := 2) (o' := 3) rfl (by kernel_rfl) (by decide) (readsT n).2 readsF_nil)
  have hs := reads_struct (t := 29) (enc := enc) (w := w) Tryz.underlying29 (by rw [hc]; exact hF)
  refine reads_map hs fun ⟨it, l, u⟩ ⟨hit, ⟨hg, hl⟩, _⟩ => ⟨⟨it, 2, l⟩, ?_, ?_⟩
  ·exact ⟨hit, hg, .inr rfl, by simpa [maxLen] using hl⟩
  ·obtain ⟨k, s, a⟩ := it
   simp only [encE,encT,KT.k,KT.s,KT.args]
   rfl
structure ChoiceT where
 c : NT
 x : NT
 y : NT
 v : EnvT
structure ChoiceH (z : ChoiceT) : Prop where
 c : handN z.c
 x : handN z.x
 y : handN z.y
 v : EnvH z.v
end
end Go.Abs.Seat
end
