/- Part 4 of what the claim rests on. -/
import Derived.Test.YthkimdejhkpdeaaProg
import Derived.Lib.Builder
import Derived.Lib.Bytealg
import Derived.Lib.UnsafeStr
import Derived.Laws.Externs
import Derived.WalkKit
import Derived.Test.YthkimdejhkpdeaaRiA
import Derived.Test.YthkimdejhkpdeaaRiB
import Derived.Test.YthkimdejhkpdeaaRiC
section
set_option linter.unusedVariables false
set_option linter.unusedSimpArgs false
/- The seat's strings.Builder: what its copyCheck and its String do. -/
set_option linter.unusedVariables false
namespace Go.Proofs
open Go.RowKit

set_option maxHeartbeats 1000000 in
set_option maxRecDepth 100000 in
theorem Try.cc_used (b : Nat) (w : World) (h0 : w.cell? ⟨b, 0, none⟩ = some (.pointer (some ⟨b, 0, none⟩))) :
    Calls Try.prog 101 #[.pointer (some ⟨b, 0, none⟩)] w fun e w' => e = .returned (.tuple #[]) ∧ w' = w := by
  obtain ⟨j, hj, hjs⟩ := Option.map_eq_some_iff.1 (show (Try.prog.info? 94).map (·.size) = some 2 by kernel_rfl)
  go_enter Try.func101, Try.ntmps101
  go_wp2
  rw [Lib.run_neq_ptr_same w _ Try.underlying92 hj]
  go_wp2
  go_end0
  exact ⟨rfl, rfl⟩

set_option maxHeartbeats 1000000 in
set_option maxRecDepth 100000 in
theorem Try.cc_fresh (b : Nat) (w : World) (h0 : w.cell? ⟨b, 0, none⟩ = some (.pointer none)) (hsh : w.shape? b = some (94, 2)) (hfz : w.frozen? ⟨b, 0, none⟩ = false) :
    Calls Try.prog 101 #[.pointer (some ⟨b, 0, none⟩)] w fun e w' => e = .returned (.tuple #[]) ∧ w' = w.setCell ⟨b, 0, none⟩ (.pointer (some ⟨b, 0, none⟩)) := by
  obtain ⟨j, hj, hjs⟩ := Option.map_eq_some_iff.1 (show (Try.prog.info? 94).map (·.size) = some 2 by kernel_rfl)
  go_enter Try.func101, Try.ntmps101
  go_wp2
  rw [Lib.run_to_unsafe w ⟨b, 0, none⟩ Try.underlying92 Try.underlying158 hj (by rw [hjs]; decide) hsh (Nat.zero_lt_succ 1)]
  simp only [Result.andThen]
  rw [Oper.upon_value]
  go_wp2
  rw [run_callFunc_extern Try.func112 (by kernel_rfl) (by kernel_rfl) (by kernel_rfl) (e := Extern.AbiNoEscape.same) (by kernel_rfl)]
  rw [Lib.run_noEscape]
  simp only [Result.andThen]
  rw [Oper.upon_value]
  go_wp2
  rw [Lib.run_from_unsafe w ⟨b, 0, none⟩ Try.underlying158 Try.underlying92 hj hsh (by kernel_rfl)]
  simp only [Result.andThen]
  rw [Oper.upon_value]
  go_wp2
  go_end0
  exact ⟨rfl, rfl⟩

theorem liesAt_bytes_at {P : Program} {e : TypeId} (hc : P.cellsOf e = 1) (count off n : Nat) (hn : off + n ≤ count) : liesAt P P.depth e count off e n = true := by
  have hd : P.depth = (2 * (P.types.size + Made.depth) + 1) + 1 := rfl
  rw [hd]
  simp only [liesAt, Bool.or_eq_true]
  left
  rw [hd]
  simp [rowAt, hc, hn, sameLayout, Nat.mod_one]

theorem run_text_at {P : Program} (w : World) (pt it ty e : TypeId) (hp : P.underlying pt = some (.pointer e)) (hc : P.cellsOf e = 1) (g o cells : Nat) (hsh : w.shape? g = some (e, cells)) (l : List UInt8) (h0 : l ≠ []) (hn : o + l.length ≤ cells) (h63 : l.length ≤ 9223372036854775807)
    (hcell : ∀ j x, l[j]? = some x → w.cell? ((⟨g, o, none⟩ : Addr).add j) = some (.int .u8 x.toNat)) :
    (Builtin.unsafeString_ #[pt, it] ty #[.pointer (some ⟨g, o, none⟩), .int .i64 l.length]).run P w = .ok (.string ⟨l.toArray⟩) (w.freeze ⟨g, o, none⟩ l.length) := by
  have hl : l.length ≠ 0 := by simpa using h0
  have hlb := Lib.run_loadBytes (P := P) w l ⟨g, o, none⟩ .empty hcell
  have hlies := liesAt_bytes_at (P := P) hc (cells / P.cellsOf e) o l.length (by rw [hc]; simpa using hn)
  have h63' : ¬ (9223372036854775807 : Int) < (l.length : Int) := by omega
  conv in (Builtin.unsafeString_ _ _ _) => delta Builtin.unsafeString_; whnf
  have hmax : IntKind.i64.max = 9223372036854775807 := rfl
  have hneg : ¬ (l.length : Int) < 0 := by omega
  generalize IntKind.i64.max.decLt (l.length : Int) = dc
  cases dc with
  | isTrue h => rw [hmax] at h; exact absurd h h63'
  | isFalse h =>
    simp [hl, variablesAt, hsh, elemOf, run_underlying hp, hlies, hlb]

set_option maxHeartbeats 1000000 in
set_option maxRecDepth 100000 in
theorem Try.text (b g o c cells : Nat) (l : List UInt8) (w : World) (hc1 : w.cell? ⟨b, 1, none⟩ = some (.slice (some ⟨g, o, none⟩) l.length c)) (h0 : l ≠ []) (hlc : l.length ≤ c) (hmax : l.length ≤ 2 ^ 62) (hsh : w.shape? g = some (5, cells)) (hfit : o + l.length ≤ cells)
    (hcell : ∀ j x, l[j]? = some x → w.cell? ⟨g, o + j, none⟩ = some (.int .u8 x.toNat)) :
    Calls Try.prog 49 #[.pointer (some ⟨b, 0, none⟩)] w fun e w' => e = .returned (.string ⟨l.toArray⟩) ∧ w' = w.drew.freeze ⟨g, o, none⟩ l.length := by
  have hl : l.length ≠ 0 := by simpa using h0
  have c1 : w.drew.cell? ⟨b, 1, none⟩ = some (.slice (some ⟨g, o, none⟩) l.length c) := hc1
  have hSD : (Builtin.unsafeSliceData_ #[74] 130 #[.slice (some ⟨g, o, none⟩) l.length c]).run Try.prog w.drew = .ok (.pointer (some ⟨g, o, none⟩)) w.drew :=
    Lib.run_unsafeSliceData_row _ _ _ _ _ _ (by omega)
  have hUS : (Builtin.unsafeString_ #[130, 3] 9 #[.pointer (some ⟨g, o, none⟩), .int .i64 l.length]).run Try.prog w.drew = .ok (.string ⟨l.toArray⟩) (w.drew.freeze ⟨g, o, none⟩ l.length) := by
    refine run_text_at w.drew 130 3 9 5 Try.underlying130 (by kernel_rfl) g o cells hsh l h0 hfit (by omega) fun j x hx => ?_
    have e : ((⟨g, o, none⟩ : Addr).add j) = ⟨g, o + j, none⟩ := by
      unfold Addr.add
      split <;> simp_all
    rw [e]
    exact hcell j x hx
  go_enter Try.func49, Try.ntmps49
  go_wp2
  go_region
  all_goals (go_wp2; go_ret; exact ⟨rfl, rfl⟩)

open Go.Abs in
theorem Try.bld : Bld Try.prog 101 49 94 5 where
  ecc := ⟨_, _, Try.func101, by kernel_rfl, rfl⟩
  est := ⟨_, _, Try.func49, by kernel_rfl, rfl⟩
  used := Try.cc_used
  fresh := Try.cc_fresh
  text := Try.text

set_option maxHeartbeats 1000000 in
set_option maxRecDepth 100000 in
theorem Try.cmps_walk (a b : ByteArray) (w : World) :
    Calls Try.prog 105 #[.string a, .string b] w fun e w' => e = .returned (.int .i64 (Lib.compareBytes a.data.toList b.data.toList)) ∧ w' = w := by
  go_enter Try.func105, Try.ntmps105
  go_wp2
  rw [run_callFunc_extern Try.func113 (by kernel_rfl) (by kernel_rfl) (by kernel_rfl) (e := Extern.BytealgCompare.compare) (by kernel_rfl), Lib.run_compareString]
  simp only [Result.andThen]
  rw [Oper.upon_value]
  go_wp2
  go_ret
  exact ⟨rfl, rfl⟩

open Go.Abs in
theorem Try.cmps : Cmps Try.prog 105 where
  enters := ⟨_, _, Try.func105, by kernel_rfl, rfl⟩
  cmp := Try.cmps_walk

open Go.Abs in
theorem Try.known (B : Nat → Prop) : Sound Try.prog B (cmpO 105 (bldA 101 49 94 5)) := cmpO_sound Try.cmps (bld_sound Try.bld)

end Go.Proofs
end
section
set_option linter.unusedVariables false
set_option linter.unusedSimpArgs false
/- The seat's functions as abstract code. -/
set_option linter.unusedVariables false
namespace Go.Abs.Seat
open Go.Proofs
/-- The functions that are known without being read. -/
def no : FuncId → Bool := fun k => k == 101 || k == 49 || k == 105
def pol : FuncId → Bool × Bool := fun f => (f == 72, f == 72 || f == 98)
noncomputable def F : FuncId → Option AFunc := compF Try.prog no pol
abbrev bld : Oracle := cmpO 105 (bldA 101 49 94 5)
noncomputable def L : Oracle := Lim bld F
noncomputable def Λ : ACode → List AV → Heap → Option Out := execL bld F
theorem leq {f : FuncId} {af : AFunc} (hf : F f = some af) (args : List AV) (H : Heap) : L f args H = exec0 L Λ af.code (enterA af args) H (endK af H) := lim_eq hf args H
def f3 : AFunc := ⟨57, [(2, none)], (.seq (.ops [⟨(some 2), (.move (.c (.im (.bool false)))), none⟩] []) (.seq (.seq (.ops [⟨(some 9), (.move (.t 0)), none⟩, ⟨(some 10), (.lenStr (.t 9)), none⟩, ⟨(some 11), (.bin .gtr (.t 10) (.c (.im (.int .i64 10000)))), none⟩] []) (.cond (.t 11) (.seq (.ops [⟨(some 12), (.call (.c (.clo 11 [])) []), none⟩, ⟨(some 2), (.move (.t 12)), none⟩] []) .ret) .skip)) (.seq (.ops [⟨(some 14), (.move (.t 0)), none⟩, ⟨(some 15), (.call (.c (.clo 12 [])) [(.t 14)]), none⟩, ⟨(some 13), (.move (.t 15)), none⟩, ⟨(some 16), (.extract 0 (.t 13)), none⟩, ⟨(some 17), (.extract 1 (.t 13)), none⟩, ⟨(some 18), (.extract 2 (.t 13)), none⟩, ⟨(some 3), (.alloc none [(.im (.int .i64 0)), .nils]), none⟩, ⟨none, (.store 2 (.t 3) (.t 16)), none⟩, ⟨(some 4), (.move (.t 17)), none⟩, ⟨(some 5), (.move (.t 18)), none⟩] []) (.seq (.ops [⟨(some 20), (.move (.t 0)), none⟩, ⟨(some 21), (.call (.c (.clo 13 [])) [(.t 20)]), none⟩, ⟨(some 19), (.move (.t 21)), none⟩, ⟨(some 22), (.extract 0 (.t 19)), none⟩, ⟨(some 23), (.extract 1 (.t 19)), none⟩, ⟨(some 24), (.extract 2 (.t 19)), none⟩, ⟨(some 6), (.alloc none [(.im (.int .i64 0)), .nils]), none⟩, ⟨none, (.store 2 (.t 6) (.t 22)), none⟩, ⟨(some 7), (.move (.t 23)), none⟩, ⟨(some 8), (.move (.t 24)), none⟩] []) (.seq (.seq (.ops [⟨(some 25), (.move (.t 8)), none⟩, ⟨(some 26), (.un .not (.t 25)), none⟩] []) (.cond (.t 26) (.seq (.ops [⟨(some 27), (.move (.t 5)), none⟩, ⟨(some 28), (.bin .eql (.t 27) (.c (.im (.int .i64 40)))), none⟩, ⟨(some 29), (.move (.t 28)), none⟩, ⟨(some 30), (.move (.t 4)), (some (29, true))⟩, ⟨(some 31), (.move (.t 7)), (some (29, true))⟩, ⟨(some 32), (.bin .eql (.t 30) (.t 31)), (some (29, true))⟩, ⟨(some 33), (.pick (.t 29) (.t 32) (.c (.im (.bool false)))), none⟩, ⟨(some 34), (.move (.t 33)), none⟩, ⟨(some 35), (.fieldAddr 0 (.t 3)), (some (34, true))⟩, ⟨(some 36), (.load none (.t 35)), (some (34, true))⟩, ⟨(some 37), (.bin .eql (.t 36) (.c (.im (.int .i64 0)))), (some (34, true))⟩, ⟨(some 38), (.pick (.t 34) (.t 37) (.c (.im (.bool false)))), none⟩, ⟨(some 39), (.move (.t 38)), none⟩, ⟨(some 40), (.call (.c (.clo 11 [])) []), (some (39, true))⟩, ⟨(some 41), (.pick (.t 39) (.t 40) (.c (.im (.bool false)))), none⟩, ⟨(some 2), (.move (.t 41)), none⟩] []) .ret) .skip)) (.seq (.ops [⟨(some 42), (.move (.t 5)), none⟩, ⟨(some 43), (.bin .eql (.t 42) (.c (.im (.int .i64 0)))), none⟩, ⟨(some 44), (.move (.t 43)), none⟩, ⟨(some 45), (.move (.t 4)), (some (44, true))⟩, ⟨(some 46), (.bin .eql (.t 45) (.c (.im (.int .i64 0)))), (some (44, true))⟩, ⟨(some 47), (.pick (.t 44) (.t 46) (.c (.im (.bool false)))), none⟩, ⟨(some 48), (.move (.t 47)), none⟩, ⟨(some 49), (.load (some 2) (.t 3)), (some (48, true))⟩, ⟨(some 50), (.call (.c (.clo 15 [])) [(.t 49)]), (some (48, true))⟩, ⟨(some 51), (.load (some 2) (.t 6)), (some (48, true))⟩, ⟨(some 52), (.call (.c (.clo 14 [])) [(.t 50), (.t 51)]), (some (48, true))⟩, ⟨(some 53), (.pick (.t 48) (.t 52) (.c (.im (.bool false)))), none⟩, ⟨(some 54), (.move (.t 53)), none⟩, ⟨(some 55), (.call (.c (.clo 11 [])) []), (some (54, true))⟩, ⟨(some 56), (.pick (.t 54) (.t 55) (.c (.im (.bool false)))), none⟩, ⟨(some 2), (.move (.t 56)), none⟩] [(9, 8)]) .ret)))))), false⟩
theorem F3 : F 3 = some f3 := by kernel_rfl
def f4 : AFunc := ⟨86, [(4, none)], (.seq (.ops [⟨(some 4), (.move (.c (.im (.bool false)))), none⟩] []) (.seq (.seq (.ops [⟨(some 14), (.move (.t 0)), none⟩, ⟨(some 15), (.lenStr (.t 14)), none⟩, ⟨(some 16), (.bin .gtr (.t 15) (.c (.im (.int .i64 1000)))), none⟩, ⟨(some 17), (.move (.t 16)), none⟩, ⟨(some 18), (.move (.t 1)), (some (17, false))⟩, ⟨(some 19), (.lenStr (.t 18)), (some (17, false))⟩, ⟨(some 20), (.bin .gtr (.t 19) (.c (.im (.int .i64 1000)))), (some (17, false))⟩, ⟨(some 21), (.pick (.t 17) (.c (.im (.bool true))) (.t 20)), none⟩] []) (.cond (.t 21) (.seq (.ops [⟨(some 22), (.call (.c (.clo 11 [])) []), none⟩, ⟨(some 4), (.move (.t 22)), none⟩] []) .ret) .skip)) (.seq (.ops [⟨(some 24), (.move (.t 0)), none⟩, ⟨(some 25), (.call (.c (.clo 12 [])) [(.t 24)]), none⟩, ⟨(some 23), (.move (.t 25)), none⟩, ⟨(some 26), (.extract 0 (.t 23)), none⟩, ⟨(some 27), (.extract 1 (.t 23)), none⟩, ⟨(some 28), (.extract 2 (.t 23)), none⟩, ⟨(some 5), (.alloc none [(.im (.int .i64 0)), .nils]), none⟩, ⟨none, (.store 2 (.t 5) (.t 26)), none⟩, ⟨(some 6), (.move (.t 27)), none⟩, ⟨(some 7), (.move (.t 28)), none⟩] []) (.seq (.seq (.ops [⟨(some 29), (.move (.t 7)), none⟩, ⟨(some 30), (.bin .eql (.t 29) (.c (.im (.int .i64 0)))), none⟩] []) (.cond (.t 30) (.seq (.ops [⟨(some 31), (.call (.c (.clo 11 [])) []), none⟩, ⟨(some 4), (.move (.t 31)), none⟩] []) .ret) .skip)) (.seq (.seq (.ops [⟨(some 32), (.move (.t 6)), none⟩, ⟨(some 33), (.bin .lss (.t 32) (.c (.im (.int .i64 0)))), none⟩, ⟨(some 34), (.move (.t 33)), none⟩, ⟨(some 35), (.move (.t 6)), (some (34, false))⟩, ⟨(some 36), (.move (.t 0)), (some (34, false))⟩, ⟨(some 37), (.lenStr (.t 36)), (some (34, false))⟩, ⟨(some 38), (.bin .gtr (.t 35) (.t 37)), (some (34, false))⟩, ⟨(some 39), (.pick (.t 34) (.c (.im (.bool true))) (.t 38)), none⟩] []) (.cond (.t 39) (.seq (.ops [⟨(some 4), (.move (.c (.im (.bool false)))), none⟩] []) .ret) .skip)) (.seq (.ops [⟨(some 41), (.move (.t 0)), none⟩, ⟨(some 42), (.move (.t 6)), none⟩, ⟨(some 43), (.sliceStr (.t 41) none (some (.t 42))), none⟩, ⟨(some 44), (.call (.c (.clo 12 [])) [(.t 43)]), none⟩, ⟨(some 40), (.move (.t 44)), none⟩, ⟨(some 45), (.extract 0 (.t 40)), none⟩, ⟨(some 46), (.extract 1 (.t 40)), none⟩, ⟨(some 47), (.extract 2 (.t 40)), none⟩, ⟨(some 8), (.alloc none [(.im (.int .i64 0)), .nils]), none⟩, ⟨none, (.store 2 (.t 8) (.t 45)), none⟩, ⟨(some 9), (.move (.t 46)), none⟩, ⟨(some 10), (.move (.t 47)), none⟩] []) (.seq (.seq (.ops [⟨(some 48), (.move (.t 10)), none⟩, ⟨(some 49), (.bin .eql (.t 48) (.c (.im (.int .i64 0)))), none⟩, ⟨(some 50), (.move (.t 49)), none⟩, ⟨(some 51), (.move (.t 9)), (some (50, true))⟩, ⟨(some 52), (.bin .neq (.t 51) (.c (.im (.int .i64 0)))), (some (50, true))⟩, ⟨(some 53), (.pick (.t 50) (.t 52) (.c (.im (.bool false)))), none⟩, ⟨(some 54), (.move (.t 53)), none⟩, ⟨(some 55), (.move (.t 10)), (some (54, false))⟩, ⟨(some 56), (.bin .neq (.t 55) (.c (.im (.int .i64 0)))), (some (54, false))⟩, ⟨(some 57), (.move (.t 56)), (some (54, false))⟩, ⟨(some 58), (.move (.t 9)), (some (57, true))⟩, ⟨(some 59), (.move (.t 6)), (some (57, true))⟩, ⟨(some 60), (.bin .neq (.t 58) (.t 59)), (some (57, true))⟩, ⟨(some 61), (.pick (.t 57) (.t 60) (.c (.im (.bool false)))), (some (54, false))⟩, ⟨(some 62), (.pick (.t 54) (.c (.im (.bool true))) (.t 61)), none⟩] []) (.cond (.t 62) (.seq (.ops [⟨(some 4), (.move (.c (.im (.bool false)))), none⟩] []) .ret) .skip)) (.seq (.seq (.ops [⟨(some 63), (.move (.t 6)), none⟩, ⟨(some 64), (.move (.t 0)), none⟩, ⟨(some 65), (.lenStr (.t 64)), none⟩, ⟨(some 66), (.bin .lss (.t 63) (.t 65)), none⟩] []) (.cond (.t 66) (.seq (.ops [⟨(some 68), (.move (.t 0)), none⟩, ⟨(some 69), (.move (.t 6)), none⟩, ⟨(some 70), (.bin .add (.t 69) (.c (.im (.int .i64 1)))), none⟩, ⟨(some 71), (.sliceStr (.t 68) none (some (.t 70))), none⟩, ⟨(some 72), (.move (.t 1)), none⟩, ⟨(some 73), (.bin .add (.t 71) (.t 72)), none⟩, ⟨(some 74), (.call (.c (.clo 12 [])) [(.t 73)]), none⟩, ⟨(some 67), (.move (.t 74)), none⟩, ⟨(some 75), (.extract 0 (.t 67)), none⟩, ⟨(some 76), (.extract 1 (.t 67)), none⟩, ⟨(some 77), (.extract 2 (.t 67)), none⟩, ⟨(some 11), (.alloc none [(.im (.int .i64 0)), .nils]), none⟩, ⟨none, (.store 2 (.t 11) (.t 75)), none⟩, ⟨(some 12), (.move (.t 76)), none⟩, ⟨(some 13), (.move (.t 77)), none⟩] []) (.seq (.ops [⟨(some 78), (.move (.t 13)), none⟩, ⟨(some 79), (.bin .eql (.t 78) (.c (.im (.int .i64 0)))), none⟩, ⟨(some 80), (.move (.t 79)), none⟩, ⟨(some 81), (.move (.t 12)), (some (80, false))⟩, ⟨(some 82), (.move (.t 6)), (some (80, false))⟩, ⟨(some 83), (.bin .neq (.t 81) (.t 82)), (some (80, false))⟩, ⟨(some 84), (.pick (.t 80) (.c (.im (.bool true))) (.t 83)), none⟩] []) (.cond (.t 84) (.seq (.ops [⟨(some 4), (.move (.c (.im (.bool false)))), none⟩] []) .ret) .skip))) .skip)) (.seq (.ops [⟨(some 85), (.call (.c (.clo 11 [])) []), none⟩, ⟨(some 4), (.move (.t 85)), none⟩] []) .ret))))))))), false⟩
theorem F4 : F 4 = some f4 := by kernel_rfl
def f5 : AFunc := ⟨74, [(4, none)], (.seq (.ops [⟨(some 2), (.box none (.t 0)), none⟩, ⟨(some 4), (.move (.c (.im (.bool false)))), none⟩] []) (.seq (.seq (.ops [⟨(some 15), (.load (some 2) (.t 2)), none⟩, ⟨(some 16), (.call (.c (.clo 16 [])) [(.t 15)]), none⟩, ⟨(some 17), (.un .not (.t 16)), none⟩, ⟨(some 18), (.move (.t 17)), none⟩, ⟨(some 19), (.move (.t 1)), (some (18, false))⟩, ⟨(some 20), (.lenStr (.t 19)), (some (18, false))⟩, ⟨(some 21), (.bin .gtr (.t 20) (.c (.im (.int .i64 10000)))), (some (18, false))⟩, ⟨(some 22), (.pick (.t 18) (.c (.im (.bool true))) (.t 21)), none⟩] []) (.cond (.t 22) (.seq (.ops [⟨(some 23), (.call (.c (.clo 11 [])) []), none⟩, ⟨(some 4), (.move (.t 23)), none⟩] []) .ret) .skip)) (.seq (.ops [⟨(some 25), (.load (some 2) (.t 2)), none⟩, ⟨(some 26), (.call (.c (.clo 17 [])) [(.t 25)]), none⟩, ⟨(some 24), (.move (.t 26)), none⟩, ⟨(some 27), (.extract 0 (.t 24)), none⟩, ⟨(some 28), (.extract 1 (.t 24)), none⟩, ⟨(some 5), (.move (.t 27)), none⟩, ⟨(some 6), (.move (.t 28)), none⟩] []) (.seq (.seq (.ops [⟨(some 29), (.move (.t 6)), none⟩, ⟨(some 30), (.bin .eql (.t 29) (.c (.im (.int .i64 0)))), none⟩] []) (.cond (.t 30) (.seq (.ops [⟨(some 32), (.move (.t 5)), none⟩, ⟨(some 33), (.call (.c (.clo 12 [])) [(.t 32)]), none⟩, ⟨(some 31), (.move (.t 33)), none⟩, ⟨(some 34), (.extract 0 (.t 31)), none⟩, ⟨(some 35), (.extract 1 (.t 31)), none⟩, ⟨(some 36), (.extract 2 (.t 31)), none⟩, ⟨(some 7), (.alloc none [(.im (.int .i64 0)), .nils]), none⟩, ⟨none, (.store 2 (.t 7) (.t 34)), none⟩, ⟨(some 8), (.move (.t 35)), none⟩, ⟨(some 9), (.move (.t 36)), none⟩] []) (.seq (.ops [⟨(some 37), (.move (.t 9)), none⟩, ⟨(some 38), (.bin .neq (.t 37) (.c (.im (.int .i64 0)))), none⟩, ⟨(some 39), (.move (.t 38)), none⟩, ⟨(some 40), (.load (some 2) (.t 2)), (some (39, false))⟩, ⟨(some 41), (.load (some 2) (.t 7)), (some (39, false))⟩, ⟨(some 42), (.call (.c (.clo 18 [])) [(.t 40), (.t 41)]), (some (39, false))⟩, ⟨(some 43), (.un .not (.t 42)), (some (39, false))⟩, ⟨(some 44), (.pick (.t 39) (.c (.im (.bool true))) (.t 43)), none⟩] []) (.cond (.t 44) (.seq (.ops [⟨(some 4), (.move (.c (.im (.bool false)))), none⟩] []) .ret) .skip))) .skip)) (.seq (.ops [⟨(some 46), (.move (.t 1)), none⟩, ⟨(some 47), (.call (.c (.clo 12 [])) [(.t 46)]), none⟩, ⟨(some 45), (.move (.t 47)), none⟩, ⟨(some 48), (.extract 0 (.t 45)), none⟩, ⟨(some 49), (.extract 1 (.t 45)), none⟩, ⟨(some 50), (.extract 2 (.t 45)), none⟩, ⟨(some 10), (.alloc none [(.im (.int .i64 0)), .nils]), none⟩, ⟨none, (.store 2 (.t 10) (.t 48)), none⟩, ⟨(some 11), (.move (.t 49)), none⟩, ⟨(some 12), (.move (.t 50)), none⟩] []) (.seq (.seq (.ops [⟨(some 51), (.move (.t 12)), none⟩, ⟨(some 52), (.bin .neq (.t 51) (.c (.im (.int .i64 0)))), none⟩] []) (.cond (.t 52) (.seq (.ops [⟨(some 53), (.call (.c (.clo 11 [])) []), none⟩, ⟨(some 4), (.move (.t 53)), none⟩] []) .ret) .skip)) (.seq (.ops [⟨(some 55), (.load (some 2) (.t 10)), none⟩, ⟨(some 56), (.call (.c (.clo 17 [])) [(.t 55)]), none⟩, ⟨(some 54), (.move (.t 56)), none⟩, ⟨(some 57), (.extract 0 (.t 54)), none⟩, ⟨(some 58), (.extract 1 (.t 54)), none⟩, ⟨(some 13), (.move (.t 57)), none⟩, ⟨(some 14), (.move (.t 58)), none⟩] []) (.seq (.ops [⟨(some 59), (.move (.t 14)), none⟩, ⟨(some 60), (.bin .eql (.t 59) (.c (.im (.int .i64 0)))), none⟩, ⟨(some 61), (.move (.t 60)), none⟩, ⟨(some 62), (.move (.t 13)), (some (61, true))⟩, ⟨(some 63), (.move (.t 1)), (some (61, true))⟩, ⟨(some 64), (.bin .eql (.t 62) (.t 63)), (some (61, true))⟩, ⟨(some 65), (.pick (.t 61) (.t 64) (.c (.im (.bool false)))), none⟩, ⟨(some 66), (.move (.t 65)), none⟩, ⟨(some 67), (.load (some 2) (.t 10)), (some (66, true))⟩, ⟨(some 68), (.call (.c (.clo 19 [])) [(.t 67)]), (some (66, true))⟩, ⟨(some 69), (.bin .eql (.t 68) (.c (.im (.int .i64 0)))), (some (66, true))⟩, ⟨(some 70), (.pick (.t 66) (.t 69) (.c (.im (.bool false)))), none⟩, ⟨(some 71), (.move (.t 70)), none⟩, ⟨(some 72), (.call (.c (.clo 11 [])) []), (some (71, true))⟩, ⟨(some 73), (.pick (.t 71) (.t 72) (.c (.im (.bool false)))), none⟩, ⟨(some 4), (.move (.t 73)), none⟩] []) .ret)))))))), false⟩
theorem F5 : F 5 = some f5 := by kernel_rfl
def b6_0 : ACode := (.seq (.ops [⟨(some 99), (.bin .lss (.t 98) (.t 97)), none⟩] []) (.seq (.cond (.t 99) .skip (.exit 2)) (.seq (.block 3 (.seq (.ops [⟨(some 100), (.move (.t 98)), none⟩, ⟨(some 101), (.indexSl 2 (.t 96) (.t 98)), none⟩, ⟨(some 102), (.load (some 2) (.t 101)), none⟩, ⟨(some 18), (.alloc none [(.im (.int .i64 0)), .nils]), none⟩, ⟨(some 17), (.move (.t 100)), none⟩, ⟨none, (.store 2 (.t 18) (.t 102)), none⟩] []) (.seq (.ops [⟨(some 104), (.load (some 2) (.t 18)), none⟩, ⟨(some 105), (.call (.c (.clo 17 [])) [(.t 104)]), none⟩, ⟨(some 103), (.move (.t 105)), none⟩, ⟨(some 106), (.extract 0 (.t 103)), none⟩, ⟨(some 107), (.extract 1 (.t 103)), none⟩, ⟨(some 19), (.move (.t 106)), none⟩, ⟨(some 20), (.move (.t 107)), none⟩] []) (.ops [⟨(some 108), (.move (.t 14)), none⟩, ⟨(some 109), (.bslice false 1 2 [(.im (.str []))] [(0, (.c (.im (.str [40])))), (1, (.c (.im (.str [44]))))]), none⟩, ⟨(some 110), (.move (.t 17)), none⟩, ⟨(some 111), (.min (.t 110) (.c (.im (.int .i64 1)))), none⟩, ⟨(some 112), (.indexSl 1 (.t 109) (.t 111)), none⟩, ⟨(some 113), (.load none (.t 112)), none⟩, ⟨(some 114), (.move (.t 19)), none⟩, ⟨(some 115), (.bin .add (.t 113) (.t 114)), none⟩, ⟨(some 116), (.bin .add (.t 108) (.t 115)), none⟩, ⟨(some 14), (.move (.t 116)), none⟩] [])))) (.ops [⟨(some 117), (.bin .add (.t 98) (.c (.im (.int .i64 1)))), none⟩, ⟨(some 98), (.move (.t 117)), none⟩] []))))
def c6_0 : ACode := .loop b6_0
theorem e6_0 {R : Type} (Φ : Oracle) (Λ' : ACode → List AV → Heap → Option Out) (tm : List AV) (H : Heap) (K : AEx → List AV → Heap → Option R) : exec0 Φ Λ' c6_0 tm H K = thenL (Λ' c6_0 tm H) K := rfl
theorem l6_0 (tm : List AV) (H : Heap) : Λ c6_0 tm H = exec0 L Λ b6_0 tm H fun e tm H => match e with
    | .normal => Λ c6_0 tm H
    | .exit i => some (.exit i, tm, H)
    | .goto l => some (.goto l, tm, H)
    | .ret => some (.ret, tm, H) := loop_eq
def b6_1 : ACode := (.seq (.ops [⟨(some 30), (.bin .lss (.t 29) (.t 28)), none⟩] []) (.seq (.cond (.t 30) .skip (.exit 0)) (.seq (.block 1 (.seq (.ops [⟨(some 31), (.indexSl 2 (.t 27) (.t 29)), none⟩, ⟨(some 32), (.load (some 2) (.t 31)), none⟩, ⟨(some 7), (.alloc none [(.im (.int .i64 0)), .nils]), none⟩, ⟨none, (.store 2 (.t 7) (.t 32)), none⟩] []) (.seq (.seq (.ops [⟨(some 33), (.load (some 2) (.t 7)), none⟩, ⟨(some 34), (.call (.c (.clo 16 [])) [(.t 33)]), none⟩, ⟨(some 35), (.un .not (.t 34)), none⟩] []) (.cond (.t 35) (.seq (.ops [⟨(some 36), (.call (.c (.clo 11 [])) []), none⟩, ⟨(some 4), (.move (.t 36)), none⟩] []) .ret) .skip)) (.seq (.ops [⟨(some 38), (.load (some 2) (.t 7)), none⟩, ⟨(some 39), (.call (.c (.clo 20 [])) [(.t 38)]), none⟩, ⟨(some 37), (.move (.t 39)), none⟩, ⟨(some 40), (.extract 0 (.t 37)), none⟩, ⟨(some 41), (.extract 1 (.t 37)), none⟩, ⟨(some 8), (.move (.t 40)), none⟩, ⟨(some 9), (.move (.t 41)), none⟩] []) (.seq (.seq (.ops [⟨(some 42), (.move (.t 9)), none⟩, ⟨(some 43), (.bin .neq (.t 42) (.c (.im (.int .i64 0)))), none⟩] []) (.cond (.t 43) (.seq (.ops [⟨(some 45), (.move (.t 0)), none⟩, ⟨(some 46), (.move (.t 1)), none⟩, ⟨(some 47), (.call (.c (.clo 21 [])) [(.t 45), (.t 46)]), none⟩, ⟨(some 44), (.move (.t 47)), none⟩, ⟨(some 48), (.extract 0 (.t 44)), none⟩, ⟨(some 49), (.extract 1 (.t 44)), none⟩, ⟨(some 10), (.alloc none [(.im (.int .i64 0)), .nils]), none⟩, ⟨none, (.store 2 (.t 10) (.t 48)), none⟩, ⟨(some 11), (.move (.t 49)), none⟩] []) (.seq (.ops [⟨(some 50), (.move (.t 11)), none⟩, ⟨(some 51), (.bin .eql (.t 50) (.c (.im (.int .i64 20)))), none⟩, ⟨(some 52), (.move (.t 51)), none⟩, ⟨(some 53), (.call (.c (.clo 11 [])) []), (some (52, true))⟩, ⟨(some 54), (.pick (.t 52) (.t 53) (.c (.im (.bool false)))), none⟩, ⟨(some 4), (.move (.t 54)), none⟩] []) .ret)) .skip)) (.ops [⟨(some 55), (.move (.t 5)), none⟩, ⟨(some 56), (.move (.t 8)), none⟩, ⟨(some 57), (.max (.t 55) (.t 56)), none⟩, ⟨(some 5), (.move (.t 57)), none⟩] [])))))) (.ops [⟨(some 58), (.bin .add (.t 29) (.c (.im (.int .i64 1)))), none⟩, ⟨(some 29), (.move (.t 58)), none⟩] []))))
def c6_1 : ACode := .loop b6_1
theorem e6_1 {R : Type} (Φ : Oracle) (Λ' : ACode → List AV → Heap → Option Out) (tm : List AV) (H : Heap) (K : AEx → List AV → Heap → Option R) : exec0 Φ Λ' c6_1 tm H K = thenL (Λ' c6_1 tm H) K := rfl
theorem l6_1 (tm : List AV) (H : Heap) : Λ c6_1 tm H = exec0 L Λ b6_1 tm H fun e tm H => match e with
    | .normal => Λ c6_1 tm H
    | .exit i => some (.exit i, tm, H)
    | .goto l => some (.goto l, tm, H)
    | .ret => some (.ret, tm, H) := loop_eq
def f6 : AFunc := ⟨152, [(4, none)], (.seq (.ops [⟨(some 4), (.move (.c (.im (.bool false)))), none⟩] []) (.seq (.seq (.ops [⟨(some 23), (.move (.t 1)), none⟩, ⟨(some 24), (.lenSl (.t 23)), none⟩, ⟨(some 25), (.bin .gtr (.t 24) (.c (.im (.int .i64 4)))), none⟩] []) (.cond (.t 25) (.seq (.ops [⟨(some 26), (.call (.c (.clo 11 [])) []), none⟩, ⟨(some 4), (.move (.t 26)), none⟩] []) .ret) .skip)) (.seq (.ops [⟨(some 5), (.move (.c (.im (.int .i64 0)))), none⟩] []) (.seq (.seq (.ops [⟨(some 27), (.move (.t 1)), none⟩, ⟨(some 28), (.lenSl (.t 27)), none⟩, ⟨(some 29), (.move (.c (.im (.int .i64 0)))), none⟩] []) (.block 0 c6_1)) (.seq (.ops [⟨(some 60), (.move (.t 0)), none⟩, ⟨(some 61), (.move (.t 1)), none⟩, ⟨(some 62), (.call (.c (.clo 21 [])) [(.t 60), (.t 61)]), none⟩, ⟨(some 59), (.move (.t 62)), none⟩, ⟨(some 63), (.extract 0 (.t 59)), none⟩, ⟨(some 64), (.extract 1 (.t 59)), none⟩, ⟨(some 12), (.alloc none [(.im (.int .i64 0)), .nils]), none⟩, ⟨none, (.store 2 (.t 12) (.t 63)), none⟩, ⟨(some 13), (.move (.t 64)), none⟩] []) (.seq (.ops [⟨(some 65), (.move (.t 0)), none⟩, ⟨(some 66), (.call (.c (.clo 22 [])) [(.t 65)]), none⟩, ⟨(some 14), (.move (.t 66)), none⟩] []) (.seq (.seq (.ops [⟨(some 67), (.move (.t 14)), none⟩, ⟨(some 68), (.bin .eql (.t 67) (.c (.im (.str [])))), none⟩, ⟨(some 69), (.move (.t 68)), none⟩, ⟨(some 70), (.move (.t 1)), (some (69, false))⟩, ⟨(some 71), (.lenSl (.t 70)), (some (69, false))⟩, ⟨(some 72), (.move (.t 0)), (some (69, false))⟩, ⟨(some 73), (.call (.c (.clo 23 [])) [(.t 72)]), (some (69, false))⟩, ⟨(some 74), (.bin .neq (.t 71) (.t 73)), (some (69, false))⟩, ⟨(some 75), (.pick (.t 69) (.c (.im (.bool true))) (.t 74)), none⟩, ⟨(some 76), (.move (.t 75)), none⟩, ⟨(some 77), (.move (.t 5)), (some (76, false))⟩, ⟨(some 78), (.bin .add (.t 77) (.c (.im (.int .i64 1)))), (some (76, false))⟩, ⟨(some 79), (.bin .gtr (.t 78) (.c (.im (.int .i64 6)))), (some (76, false))⟩, ⟨(some 80), (.pick (.t 76) (.c (.im (.bool true))) (.t 79)), none⟩] []) (.cond (.t 80) (.seq (.ops [⟨(some 81), (.move (.t 13)), none⟩, ⟨(some 82), (.bin .eql (.t 81) (.c (.im (.int .i64 20)))), none⟩, ⟨(some 83), (.move (.t 82)), none⟩, ⟨(some 84), (.fieldAddr 0 (.t 12)), (some (83, true))⟩, ⟨(some 85), (.load none (.t 84)), (some (83, true))⟩, ⟨(some 86), (.bin .eql (.t 85) (.c (.im (.int .i64 0)))), (some (83, true))⟩, ⟨(some 87), (.pick (.t 83) (.t 86) (.c (.im (.bool false)))), none⟩, ⟨(some 88), (.move (.t 87)), none⟩, ⟨(some 89), (.call (.c (.clo 11 [])) []), (some (88, true))⟩, ⟨(some 90), (.pick (.t 88) (.t 89) (.c (.im (.bool false)))), none⟩, ⟨(some 4), (.move (.t 90)), none⟩] []) .ret) .skip)) (.seq (.ops [⟨(some 92), (.load (some 2) (.t 12)), none⟩, ⟨(some 93), (.call (.c (.clo 20 [])) [(.t 92)]), none⟩, ⟨(some 91), (.move (.t 93)), none⟩, ⟨(some 94), (.extract 0 (.t 91)), none⟩, ⟨(some 95), (.extract 1 (.t 91)), none⟩, ⟨(some 15), (.move (.t 94)), none⟩, ⟨(some 16), (.move (.t 95)), none⟩] []) (.seq (.seq (.ops [⟨(some 96), (.move (.t 1)), none⟩, ⟨(some 97), (.lenSl (.t 96)), none⟩, ⟨(some 98), (.move (.c (.im (.int .i64 0)))), none⟩] []) (.block 2 c6_0)) (.seq (.seq (.ops [⟨(some 118), (.move (.t 1)), none⟩, ⟨(some 119), (.lenSl (.t 118)), none⟩, ⟨(some 120), (.bin .gtr (.t 119) (.c (.im (.int .i64 0)))), none⟩] []) (.cond (.t 120) (.ops [⟨(some 121), (.move (.t 14)), none⟩, ⟨(some 122), (.bin .add (.t 121) (.c (.im (.str [41])))), none⟩, ⟨(some 14), (.move (.t 122)), none⟩] []) .skip)) (.seq (.ops [⟨(some 124), (.load (some 2) (.t 12)), none⟩, ⟨(some 125), (.call (.c (.clo 17 [])) [(.t 124)]), none⟩, ⟨(some 123), (.move (.t 125)), none⟩, ⟨(some 126), (.extract 0 (.t 123)), none⟩, ⟨(some 127), (.extract 1 (.t 123)), none⟩, ⟨(some 21), (.move (.t 126)), none⟩, ⟨(some 22), (.move (.t 127)), none⟩] []) (.seq (.ops [⟨(some 128), (.move (.t 13)), none⟩, ⟨(some 129), (.bin .eql (.t 128) (.c (.im (.int .i64 0)))), none⟩, ⟨(some 130), (.move (.t 129)), none⟩, ⟨(some 131), (.move (.t 16)), (some (130, true))⟩, ⟨(some 132), (.bin .eql (.t 131) (.c (.im (.int .i64 0)))), (some (130, true))⟩, ⟨(some 133), (.pick (.t 130) (.t 132) (.c (.im (.bool false)))), none⟩, ⟨(some 134), (.move (.t 133)), none⟩, ⟨(some 135), (.move (.t 22)), (some (134, true))⟩, ⟨(some 136), (.bin .eql (.t 135) (.c (.im (.int .i64 0)))), (some (134, true))⟩, ⟨(some 137), (.pick (.t 134) (.t 136) (.c (.im (.bool false)))), none⟩, ⟨(some 138), (.move (.t 137)), none⟩, ⟨(some 139), (.move (.t 15)), (some (138, true))⟩, ⟨(some 140), (.move (.t 5)), (some (138, true))⟩, ⟨(some 141), (.bin .add (.t 140) (.c (.im (.int .i64 1)))), (some (138, true))⟩, ⟨(some 142), (.bin .eql (.t 139) (.t 141)), (some (138, true))⟩, ⟨(some 143), (.pick (.t 138) (.t 142) (.c (.im (.bool false)))), none⟩, ⟨(some 144), (.move (.t 143)), none⟩, ⟨(some 145), (.move (.t 21)), (some (144, true))⟩, ⟨(some 146), (.move (.t 14)), (some (144, true))⟩, ⟨(some 147), (.bin .eql (.t 145) (.t 146)), (some (144, true))⟩, ⟨(some 148), (.pick (.t 144) (.t 147) (.c (.im (.bool false)))), none⟩, ⟨(some 149), (.move (.t 148)), none⟩, ⟨(some 150), (.call (.c (.clo 11 [])) []), (some (149, true))⟩, ⟨(some 151), (.pick (.t 149) (.t 150) (.c (.im (.bool false)))), none⟩, ⟨(some 4), (.move (.t 151)), none⟩] []) .ret)))))))))))), false⟩
theorem F6 : F 6 = some f6 := by kernel_rfl
def f11 : AFunc := ⟨46, [(0, none)], (.seq (.ops [⟨(some 0), (.move (.c (.im (.bool false)))), none⟩] []) (.seq (.ops [⟨(some 10), (.call (.c (.clo 12 [])) [(.c (.im (.str [112, 97, 105, 114, 40, 105, 110, 116, 44, 108, 105, 115, 116, 40, 116, 101, 120, 116, 41, 41])))]), none⟩, ⟨(some 9), (.move (.t 10)), none⟩, ⟨(some 11), (.extract 0 (.t 9)), none⟩, ⟨(some 12), (.extract 1 (.t 9)), none⟩, ⟨(some 13), (.extract 2 (.t 9)), none⟩, ⟨(some 1), (.alloc none [(.im (.int .i64 0)), .nils]), none⟩, ⟨none, (.store 2 (.t 1) (.t 11)), none⟩, ⟨(some 2), (.move (.t 12)), none⟩, ⟨(some 3), (.move (.t 13)), none⟩] []) (.seq (.ops [⟨(some 15), (.load (some 2) (.t 1)), none⟩, ⟨(some 16), (.call (.c (.clo 17 [])) [(.t 15)]), none⟩, ⟨(some 14), (.move (.t 16)), none⟩, ⟨(some 17), (.extract 0 (.t 14)), none⟩, ⟨(some 18), (.extract 1 (.t 14)), none⟩, ⟨(some 4), (.move (.t 17)), none⟩, ⟨(some 5), (.move (.t 18)), none⟩] []) (.seq (.ops [⟨(some 20), (.call (.c (.clo 12 [])) [(.c (.im (.str [108, 105, 115, 116, 40, 105, 109, 116, 41])))]), none⟩, ⟨(some 19), (.move (.t 20)), none⟩, ⟨(some 21), (.extract 0 (.t 19)), none⟩, ⟨(some 22), (.extract 1 (.t 19)), none⟩, ⟨(some 23), (.extract 2 (.t 19)), none⟩, ⟨(some 6), (.alloc none [(.im (.int .i64 0)), .nils]), none⟩, ⟨none, (.store 2 (.t 6) (.t 21)), none⟩, ⟨(some 7), (.move (.t 22)), none⟩, ⟨(some 8), (.move (.t 23)), none⟩] []) (.seq (.ops [⟨(some 24), (.move (.t 3)), none⟩, ⟨(some 25), (.bin .eql (.t 24) (.c (.im (.int .i64 0)))), none⟩, ⟨(some 26), (.move (.t 25)), none⟩, ⟨(some 27), (.move (.t 5)), (some (26, true))⟩, ⟨(some 28), (.bin .eql (.t 27) (.c (.im (.int .i64 0)))), (some (26, true))⟩, ⟨(some 29), (.pick (.t 26) (.t 28) (.c (.im (.bool false)))), none⟩, ⟨(some 30), (.move (.t 29)), none⟩, ⟨(some 31), (.move (.t 2)), (some (30, true))⟩, ⟨(some 32), (.bin .eql (.t 31) (.c (.im (.int .i64 0)))), (some (30, true))⟩, ⟨(some 33), (.pick (.t 30) (.t 32) (.c (.im (.bool false)))), none⟩, ⟨(some 34), (.move (.t 33)), none⟩, ⟨(some 35), (.move (.t 4)), (some (34, true))⟩, ⟨(some 36), (.bin .eql (.t 35) (.c (.im (.str [112, 97, 105, 114, 40, 105, 110, 116, 44, 108, 105, 115, 116, 40, 116, 101, 120, 116, 41, 41])))), (some (34, true))⟩, ⟨(some 37), (.pick (.t 34) (.t 36) (.c (.im (.bool false)))), none⟩, ⟨(some 38), (.move (.t 37)), none⟩, ⟨(some 39), (.move (.t 7)), (some (38, true))⟩, ⟨(some 40), (.bin .eql (.t 39) (.c (.im (.int .i64 6)))), (some (38, true))⟩, ⟨(some 41), (.pick (.t 38) (.t 40) (.c (.im (.bool false)))), none⟩, ⟨(some 42), (.move (.t 41)), none⟩, ⟨(some 43), (.move (.t 8)), (some (42, true))⟩, ⟨(some 44), (.bin .eql (.t 43) (.c (.im (.int .i64 40)))), (some (42, true))⟩, ⟨(some 45), (.pick (.t 42) (.t 44) (.c (.im (.bool false)))), none⟩, ⟨(some 0), (.move (.t 45)), none⟩] []) .ret))))), false⟩
theorem F11 : F 11 = some f11 := by kernel_rfl
def f12 : AFunc := ⟨32, [(2, (some (some 2))), (3, none), (4, none)], (.seq (.ops [⟨(some 2), (.alloc none [(.im (.int .i64 0)), .nils]), none⟩, ⟨(some 3), (.move (.c (.im (.int .i64 0)))), none⟩, ⟨(some 4), (.move (.c (.im (.int .i64 0)))), none⟩] []) (.seq (.ops [⟨(some 7), (.move (.t 0)), none⟩, ⟨(some 8), (.build [(.im (.str [])), (.im (.int .i64 0))] [(0, (1, (.t 7)))]), none⟩, ⟨(some 9), (.box none (.t 8)), none⟩, ⟨(some 5), (.move (.t 9)), none⟩] []) (.seq (.ops [⟨(some 11), (.move (.t 5)), none⟩, ⟨(some 12), (.call (.c (.clo 45 [])) [(.t 11), (.c (.im (.int .i64 6)))]), none⟩, ⟨(some 10), (.move (.t 12)), none⟩, ⟨(some 13), (.extract 0 (.t 10)), none⟩, ⟨(some 14), (.extract 1 (.t 10)), none⟩, ⟨none, (.store 2 (.t 2) (.t 13)), none⟩, ⟨(some 6), (.move (.t 14)), none⟩] []) (.seq (.seq (.ops [⟨(some 15), (.move (.t 6)), none⟩, ⟨(some 16), (.un .not (.t 15)), none⟩, ⟨(some 17), (.move (.t 16)), none⟩, ⟨(some 18), (.move (.t 5)), (some (17, false))⟩, ⟨(some 19), (.nilCheck (.t 18)), (some (17, false))⟩, ⟨(some 20), (.fieldAddr 1 (.t 19)), (some (17, false))⟩, ⟨(some 21), (.load none (.t 20)), (some (17, false))⟩, ⟨(some 22), (.move (.t 0)), (some (17, false))⟩, ⟨(some 23), (.lenStr (.t 22)), (some (17, false))⟩, ⟨(some 24), (.bin .lss (.t 21) (.t 23)), (some (17, false))⟩, ⟨(some 25), (.pick (.t 17) (.c (.im (.bool true))) (.t 24)), none⟩] []) (.cond (.t 25) (.seq (.ops [⟨(some 26), (.build [(.im (.int .i64 0)), .nils] []), none⟩, ⟨(some 27), (.move (.t 5)), none⟩, ⟨(some 28), (.nilCheck (.t 27)), none⟩, ⟨(some 29), (.fieldAddr 1 (.t 28)), none⟩, ⟨(some 30), (.load none (.t 29)), none⟩, ⟨none, (.store 2 (.t 2) (.t 26)), none⟩, ⟨(some 3), (.move (.t 30)), none⟩, ⟨(some 4), (.move (.c (.im (.int .i64 40)))), none⟩] [(4, 5)]) .ret) .skip)) (.seq (.ops [⟨(some 31), (.load (some 2) (.t 2)), none⟩, ⟨none, (.store 2 (.t 2) (.t 31)), none⟩, ⟨(some 3), (.move (.c (.im (.int .i64 0)))), none⟩, ⟨(some 4), (.move (.c (.im (.int .i64 0)))), none⟩] []) .ret))))), false⟩
theorem F12 : F 12 = some f12 := by kernel_rfl
def f13 : AFunc := ⟨25, [(2, (some (some 2))), (3, none), (4, none)], (.seq (.ops [⟨(some 2), (.alloc none [(.im (.int .i64 0)), .nils]), none⟩, ⟨(some 3), (.move (.c (.im (.int .i64 0)))), none⟩, ⟨(some 4), (.move (.c (.im (.bool false)))), none⟩] []) (.seq (.ops [⟨(some 9), (.move (.t 0)), none⟩, ⟨(some 10), (.call (.c (.clo 46 [])) [(.t 9), (.c (.im (.int .i64 0))), (.c (.im (.int .i64 6)))]), none⟩, ⟨(some 8), (.move (.t 10)), none⟩, ⟨(some 11), (.extract 0 (.t 8)), none⟩, ⟨(some 12), (.extract 1 (.t 8)), none⟩, ⟨(some 13), (.extract 2 (.t 8)), none⟩, ⟨(some 5), (.alloc none [(.im (.int .i64 0)), .nils]), none⟩, ⟨none, (.store 2 (.t 5) (.t 11)), none⟩, ⟨(some 6), (.move (.t 12)), none⟩, ⟨(some 7), (.move (.t 13)), none⟩] []) (.seq (.seq (.ops [⟨(some 14), (.move (.t 7)), none⟩, ⟨(some 15), (.un .not (.t 14)), none⟩, ⟨(some 16), (.move (.t 15)), none⟩, ⟨(some 17), (.move (.t 6)), (some (16, false))⟩, ⟨(some 18), (.move (.t 0)), (some (16, false))⟩, ⟨(some 19), (.lenStr (.t 18)), (some (16, false))⟩, ⟨(some 20), (.bin .lss (.t 17) (.t 19)), (some (16, false))⟩, ⟨(some 21), (.pick (.t 16) (.c (.im (.bool true))) (.t 20)), none⟩] []) (.cond (.t 21) (.seq (.ops [⟨(some 22), (.build [(.im (.int .i64 0)), .nils] []), none⟩, ⟨(some 23), (.move (.t 6)), none⟩, ⟨none, (.store 2 (.t 2) (.t 22)), none⟩, ⟨(some 3), (.move (.t 23)), none⟩, ⟨(some 4), (.move (.c (.im (.bool false)))), none⟩] []) .ret) .skip)) (.seq (.ops [⟨(some 24), (.load (some 2) (.t 5)), none⟩, ⟨none, (.store 2 (.t 2) (.t 24)), none⟩, ⟨(some 3), (.move (.c (.im (.int .i64 0)))), none⟩, ⟨(some 4), (.move (.c (.im (.bool true)))), none⟩] []) .ret)))), false⟩
theorem F13 : F 13 = some f13 := by kernel_rfl
def b14_0 : ACode := (.seq (.seq (.ops [⟨(some 20), (.move (.t 5)), none⟩, ⟨(some 21), (.fieldAddr 1 (.t 2)), none⟩, ⟨(some 22), (.load none (.t 21)), none⟩, ⟨(some 23), (.lenSl (.t 22)), none⟩, ⟨(some 24), (.bin .lss (.t 20) (.t 23)), none⟩] []) (.cond (.t 24) .skip (.exit 0))) (.seq (.block 1 (.seq (.ops [⟨(some 27), (.fieldAddr 1 (.t 2)), none⟩, ⟨(some 28), (.load none (.t 27)), none⟩, ⟨(some 29), (.move (.t 5)), none⟩, ⟨(some 30), (.indexSl 2 (.t 28) (.t 29)), none⟩, ⟨(some 31), (.load (some 2) (.t 30)), none⟩, ⟨(some 32), (.fieldAddr 1 (.t 3)), none⟩, ⟨(some 33), (.load none (.t 32)), none⟩, ⟨(some 34), (.move (.t 5)), none⟩, ⟨(some 35), (.indexSl 2 (.t 33) (.t 34)), none⟩, ⟨(some 36), (.load (some 2) (.t 35)), none⟩, ⟨(some 37), (.call (.c (.clo 14 [])) [(.t 31), (.t 36)]), none⟩, ⟨(some 38), (.un .not (.t 37)), none⟩] []) (.cond (.t 38) (.seq (.ops [⟨(some 4), (.move (.c (.im (.bool false)))), none⟩] []) .ret) .skip))) (.ops [⟨(some 25), (.move (.t 5)), none⟩, ⟨(some 26), (.bin .add (.t 25) (.c (.im (.int .i64 1)))), none⟩, ⟨(some 5), (.move (.t 26)), none⟩] [])))
def c14_0 : ACode := .loop b14_0
theorem e14_0 {R : Type} (Φ : Oracle) (Λ' : ACode → List AV → Heap → Option Out) (tm : List AV) (H : Heap) (K : AEx → List AV → Heap → Option R) : exec0 Φ Λ' c14_0 tm H K = thenL (Λ' c14_0 tm H) K := rfl
theorem l14_0 (tm : List AV) (H : Heap) : Λ c14_0 tm H = exec0 L Λ b14_0 tm H fun e tm H => match e with
    | .normal => Λ c14_0 tm H
    | .exit i => some (.exit i, tm, H)
    | .goto l => some (.goto l, tm, H)
    | .ret => some (.ret, tm, H) := loop_eq
def f14 : AFunc := ⟨39, [(4, none)], (.seq (.ops [⟨(some 2), (.box none (.t 0)), none⟩, ⟨(some 3), (.box none (.t 1)), none⟩, ⟨(some 4), (.move (.c (.im (.bool false)))), none⟩] []) (.seq (.seq (.ops [⟨(some 6), (.fieldAddr 0 (.t 2)), none⟩, ⟨(some 7), (.load none (.t 6)), none⟩, ⟨(some 8), (.fieldAddr 0 (.t 3)), none⟩, ⟨(some 9), (.load none (.t 8)), none⟩, ⟨(some 10), (.bin .neq (.t 7) (.t 9)), none⟩, ⟨(some 11), (.move (.t 10)), none⟩, ⟨(some 12), (.fieldAddr 1 (.t 2)), (some (11, false))⟩, ⟨(some 13), (.load none (.t 12)), (some (11, false))⟩, ⟨(some 14), (.lenSl (.t 13)), (some (11, false))⟩, ⟨(some 15), (.fieldAddr 1 (.t 3)), (some (11, false))⟩, ⟨(some 16), (.load none (.t 15)), (some (11, false))⟩, ⟨(some 17), (.lenSl (.t 16)), (some (11, false))⟩, ⟨(some 18), (.bin .neq (.t 14) (.t 17)), (some (11, false))⟩, ⟨(some 19), (.pick (.t 11) (.c (.im (.bool true))) (.t 18)), none⟩] []) (.cond (.t 19) (.seq (.ops [⟨(some 4), (.move (.c (.im (.bool false)))), none⟩] []) .ret) .skip)) (.seq (.seq (.ops [⟨(some 5), (.move (.c (.im (.int .i64 0)))), none⟩] []) (.block 0 c14_0)) (.seq (.ops [⟨(some 4), (.move (.c (.im (.bool true)))), none⟩] []) .ret)))), false⟩
theorem F14 : F 14 = some f14 := by kernel_rfl
def b15_0 : ACode := (.seq (.ops [⟨(some 10), (.bin .lss (.t 9) (.t 8)), none⟩] []) (.seq (.cond (.t 10) .skip (.exit 0)) (.seq (.block 1 (.seq (.ops [⟨(some 11), (.indexSl 2 (.t 7) (.t 9)), none⟩, ⟨(some 12), (.load (some 2) (.t 11)), none⟩, ⟨(some 5), (.alloc none [(.im (.int .i64 0)), .nils]), none⟩, ⟨none, (.store 2 (.t 5) (.t 12)), none⟩] []) (.ops [⟨(some 13), (.move (.t 3)), none⟩, ⟨(some 14), (.load (some 2) (.t 5)), none⟩, ⟨(some 15), (.call (.c (.clo 15 [])) [(.t 14)]), none⟩, ⟨(some 16), (.bslice false 2 1 [(.im (.int .i64 0)), .nils] [(0, (.t 15))]), none⟩, ⟨(some 17), (.append 31 32 2 (.t 13) (.t 16)), none⟩, ⟨(some 3), (.move (.t 17)), none⟩] []))) (.ops [⟨(some 18), (.bin .add (.t 9) (.c (.im (.int .i64 1)))), none⟩, ⟨(some 9), (.move (.t 18)), none⟩] []))))
def c15_0 : ACode := .loop b15_0
theorem e15_0 {R : Type} (Φ : Oracle) (Λ' : ACode → List AV → Heap → Option Out) (tm : List AV) (H : Heap) (K : AEx → List AV → Heap → Option R) : exec0 Φ Λ' c15_0 tm H K = thenL (Λ' c15_0 tm H) K := rfl
theorem l15_0 (tm : List AV) (H : Heap) : Λ c15_0 tm H = exec0 L Λ b15_0 tm H fun e tm H => match e with
    | .normal => Λ c15_0 tm H
    | .exit i => some (.exit i, tm, H)
    | .goto l => some (.goto l, tm, H)
    | .ret => some (.ret, tm, H) := loop_eq
def f15 : AFunc := ⟨23, [(2, (some (some 2)))], (.seq (.ops [⟨(some 1), (.box none (.t 0)), none⟩, ⟨(some 2), (.alloc none [(.im (.int .i64 0)), .nils]), none⟩] []) (.seq (.ops [⟨(some 3), (.move (.c .nils)), none⟩] []) (.seq (.seq (.ops [⟨(some 6), (.fieldAddr 1 (.t 1)), none⟩, ⟨(some 7), (.load none (.t 6)), none⟩, ⟨(some 8), (.lenSl (.t 7)), none⟩, ⟨(some 9), (.move (.c (.im (.int .i64 0)))), none⟩] []) (.block 0 c15_0)) (.seq (.ops [⟨(some 19), (.fieldAddr 0 (.t 1)), none⟩, ⟨(some 20), (.load none (.t 19)), none⟩, ⟨(some 21), (.move (.t 3)), none⟩, ⟨(some 22), (.build [(.im (.int .i64 0)), .nils] [(0, (1, (.t 20))), (1, (1, (.t 21)))]), none⟩, ⟨none, (.store 2 (.t 2) (.t 22)), none⟩] []) .ret)))), false⟩
theorem F15 : F 15 = some f15 := by kernel_rfl
def f16 : AFunc := ⟨6, [(2, none)], (.seq (.ops [⟨(some 1), (.box none (.t 0)), none⟩, ⟨(some 2), (.move (.c (.im (.bool false)))), none⟩] []) (.seq (.ops [⟨(some 3), (.alloc none [(.im (.int .i64 0))]), none⟩, ⟨none, (.store 1 (.t 3) (.c (.im (.int .i64 2000)))), none⟩] []) (.seq (.ops [⟨(some 4), (.load (some 2) (.t 1)), none⟩, ⟨(some 5), (.call (.c (.clo 47 [])) [(.t 4), (.t 3), (.c (.im (.int .i64 30)))]), none⟩, ⟨(some 2), (.move (.t 5)), none⟩] []) .ret))), false⟩
theorem F16 : F 16 = some f16 := by kernel_rfl
def f17 : AFunc := ⟨18, [(2, none), (3, none)], (.seq (.ops [⟨(some 1), (.box none (.t 0)), none⟩, ⟨(some 2), (.move (.c (.im (.str [])))), none⟩, ⟨(some 3), (.move (.c (.im (.int .i64 0)))), none⟩] []) (.seq (.seq (.ops [⟨(some 6), (.load (some 2) (.t 1)), none⟩, ⟨(some 7), (.call (.c (.clo 19 [])) [(.t 6)]), none⟩, ⟨(some 4), (.move (.t 7)), none⟩] []) (.seq (.ops [⟨(some 8), (.move (.t 4)), none⟩, ⟨(some 9), (.bin .neq (.t 8) (.c (.im (.int .i64 0)))), none⟩] []) (.cond (.t 9) (.seq (.ops [⟨(some 10), (.move (.t 4)), none⟩, ⟨(some 2), (.move (.c (.im (.str [])))), none⟩, ⟨(some 3), (.move (.t 10)), none⟩] []) .ret) .skip))) (.seq (.ops [⟨(some 11), (.build [(.im .nilp), .nils] []), none⟩, ⟨(some 12), (.box (some 94) (.t 11)), none⟩, ⟨(some 5), (.move (.t 12)), none⟩] []) (.seq (.ops [⟨(some 13), (.move (.t 5)), none⟩, ⟨(some 14), (.load (some 2) (.t 1)), none⟩, ⟨(some 15), (.call (.c (.clo 48 [])) [(.t 13), (.t 14)]), none⟩] []) (.seq (.ops [⟨(some 16), (.move (.t 5)), none⟩, ⟨(some 17), (.call (.c (.clo 49 [])) [(.t 16)]), none⟩, ⟨(some 2), (.move (.t 17)), none⟩, ⟨(some 3), (.move (.c (.im (.int .i64 0)))), none⟩] []) .ret))))), false⟩
theorem F17 : F 17 = some f17 := by kernel_rfl
def f18 : AFunc := ⟨18, [(4, none)], (.seq (.ops [⟨(some 2), (.box none (.t 0)), none⟩, ⟨(some 3), (.box none (.t 1)), none⟩, ⟨(some 4), (.move (.c (.im (.bool false)))), none⟩] []) (.seq (.ops [⟨(some 5), (.load (some 2) (.t 2)), none⟩, ⟨(some 6), (.call (.c (.clo 19 [])) [(.t 5)]), none⟩, ⟨(some 7), (.bin .eql (.t 6) (.c (.im (.int .i64 0)))), none⟩, ⟨(some 8), (.move (.t 7)), none⟩, ⟨(some 9), (.load (some 2) (.t 3)), (some (8, true))⟩, ⟨(some 10), (.call (.c (.clo 19 [])) [(.t 9)]), (some (8, true))⟩, ⟨(some 11), (.bin .eql (.t 10) (.c (.im (.int .i64 0)))), (some (8, true))⟩, ⟨(some 12), (.pick (.t 8) (.t 11) (.c (.im (.bool false)))), none⟩, ⟨(some 13), (.move (.t 12)), none⟩, ⟨(some 14), (.load (some 2) (.t 2)), (some (13, true))⟩, ⟨(some 15), (.load (some 2) (.t 3)), (some (13, true))⟩, ⟨(some 16), (.call (.c (.clo 50 [])) [(.t 14), (.t 15)]), (some (13, true))⟩, ⟨(some 17), (.pick (.t 13) (.t 16) (.c (.im (.bool false)))), none⟩, ⟨(some 4), (.move (.t 17)), none⟩] []) .ret)), false⟩
theorem F18 : F 18 = some f18 := by kernel_rfl
def f19 : AFunc := ⟨6, [(2, none)], (.seq (.ops [⟨(some 1), (.box none (.t 0)), none⟩, ⟨(some 2), (.move (.c (.im (.int .i64 0)))), none⟩] []) (.seq (.seq (.ops [⟨(some 3), (.load (some 2) (.t 1)), none⟩, ⟨(some 4), (.call (.c (.clo 51 [])) [(.t 3), (.c (.im (.int .i64 6)))]), none⟩, ⟨(some 5), (.un .not (.t 4)), none⟩] []) (.cond (.t 5) (.seq (.ops [⟨(some 2), (.move (.c (.im (.int .i64 20)))), none⟩] []) .ret) .skip)) (.seq (.ops [⟨(some 2), (.move (.c (.im (.int .i64 0)))), none⟩] []) .ret))), false⟩
theorem F19 : F 19 = some f19 := by kernel_rfl
def f20 : AFunc := ⟨12, [(2, none), (3, none)], (.seq (.ops [⟨(some 1), (.box none (.t 0)), none⟩, ⟨(some 2), (.move (.c (.im (.int .i64 0)))), none⟩, ⟨(some 3), (.move (.c (.im (.int .i64 0)))), none⟩] []) (.seq (.seq (.ops [⟨(some 5), (.load (some 2) (.t 1)), none⟩, ⟨(some 6), (.call (.c (.clo 19 [])) [(.t 5)]), none⟩, ⟨(some 4), (.move (.t 6)), none⟩] []) (.seq (.ops [⟨(some 7), (.move (.t 4)), none⟩, ⟨(some 8), (.bin .neq (.t 7) (.c (.im (.int .i64 0)))), none⟩] []) (.cond (.t 8) (.seq (.ops [⟨(some 9), (.move (.t 4)), none⟩, ⟨(some 2), (.move (.c (.im (.int .i64 0)))), none⟩, ⟨(some 3), (.move (.t 9)), none⟩] []) .ret) .skip))) (.seq (.ops [⟨(some 10), (.load (some 2) (.t 1)), none⟩, ⟨(some 11), (.call (.c (.clo 52 [])) [(.t 10)]), none⟩, ⟨(some 2), (.move (.t 11)), none⟩, ⟨(some 3), (.move (.c (.im (.int .i64 0)))), none⟩] []) .ret))), false⟩
theorem F20 : F 20 = some f20 := by kernel_rfl
def f21 : AFunc := ⟨19, [(4, (some (some 2))), (5, none)], (.seq (.ops [⟨(some 4), (.alloc none [(.im (.int .i64 0)), .nils]), none⟩, ⟨(some 5), (.move (.c (.im (.int .i64 0)))), none⟩] []) (.seq (.ops [⟨(some 8), (.move (.t 0)), none⟩, ⟨(some 9), (.move (.t 1)), none⟩, ⟨(some 10), (.build [(.im (.int .i64 0)), .nils] [(0, (1, (.t 8))), (1, (1, (.t 9)))]), none⟩, ⟨(some 6), (.alloc none [(.im (.int .i64 0)), .nils]), none⟩, ⟨none, (.store 2 (.t 6) (.t 10)), none⟩] []) (.seq (.seq (.ops [⟨(some 11), (.load (some 2) (.t 6)), none⟩, ⟨(some 12), (.call (.c (.clo 19 [])) [(.t 11)]), none⟩, ⟨(some 7), (.move (.t 12)), none⟩] []) (.seq (.ops [⟨(some 13), (.move (.t 7)), none⟩, ⟨(some 14), (.bin .neq (.t 13) (.c (.im (.int .i64 0)))), none⟩] []) (.cond (.t 14) (.seq (.ops [⟨(some 15), (.build [(.im (.int .i64 0)), .nils] []), none⟩, ⟨(some 16), (.move (.t 7)), none⟩, ⟨none, (.store 2 (.t 4) (.t 15)), none⟩, ⟨(some 5), (.move (.t 16)), none⟩] []) .ret) .skip))) (.seq (.ops [⟨(some 17), (.load (some 2) (.t 6)), none⟩, ⟨(some 18), (.call (.c (.clo 53 [])) [(.t 17)]), none⟩, ⟨none, (.store 2 (.t 4) (.t 18)), none⟩, ⟨(some 5), (.move (.c (.im (.int .i64 0)))), none⟩] []) .ret)))), false⟩
theorem F21 : F 21 = some f21 := by kernel_rfl
def f22 : AFunc := ⟨20, [(2, none)], (.seq (.ops [⟨(some 2), (.move (.c (.im (.str [])))), none⟩] []) (.seq (.seq (.ops [⟨(some 3), (.move (.t 0)), none⟩] []) (.block 0 (.seq (.ops [⟨(some 5), (.bin .eql (.t 3) (.c (.im (.int .i64 1)))), none⟩, ⟨(some 4), (.move (.t 5)), none⟩] []) (.cond (.t 4) (.seq (.ops [⟨(some 2), (.move (.c (.im (.str [98, 111, 111, 108])))), none⟩] []) .ret) (.seq (.ops [⟨(some 7), (.bin .eql (.t 3) (.c (.im (.int .i64 2)))), none⟩, ⟨(some 6), (.move (.t 7)), none⟩] []) (.cond (.t 6) (.seq (.ops [⟨(some 2), (.move (.c (.im (.str [105, 110, 116])))), none⟩] []) .ret) (.seq (.ops [⟨(some 9), (.bin .eql (.t 3) (.c (.im (.int .i64 3)))), none⟩, ⟨(some 8), (.move (.t 9)), none⟩] []) (.cond (.t 8) (.seq (.ops [⟨(some 2), (.move (.c (.im (.str [116, 101, 120, 116])))), none⟩] []) .ret) (.seq (.ops [⟨(some 11), (.bin .eql (.t 3) (.c (.im (.int .i64 4)))), none⟩, ⟨(some 10), (.move (.t 11)), none⟩] []) (.cond (.t 10) (.seq (.ops [⟨(some 2), (.move (.c (.im (.str [98, 121, 116, 101, 115])))), none⟩] []) .ret) (.seq (.ops [⟨(some 13), (.bin .eql (.t 3) (.c (.im (.int .i64 5)))), none⟩, ⟨(some 12), (.move (.t 13)), none⟩] []) (.cond (.t 12) (.seq (.ops [⟨(some 2), (.move (.c (.im (.str [112, 111, 105, 110, 116])))), none⟩] []) .ret) (.seq (.ops [⟨(some 15), (.bin .eql (.t 3) (.c (.im (.int .i64 6)))), none⟩, ⟨(some 14), (.move (.t 15)), none⟩] []) (.cond (.t 14) (.seq (.ops [⟨(some 2), (.move (.c (.im (.str [112, 97, 105, 114])))), none⟩] []) .ret) (.seq (.ops [⟨(some 17), (.bin .eql (.t 3) (.c (.im (.int .i64 7)))), none⟩, ⟨(some 16), (.move (.t 17)), none⟩] []) (.cond (.t 16) (.seq (.ops [⟨(some 2), (.move (.c (.im (.str [108, 105, 115, 116])))), none⟩] []) .ret) (.seq (.ops [⟨(some 19), (.bin .eql (.t 3) (.c (.im (.int .i64 9)))), none⟩, ⟨(some 18), (.move (.t 19)), none⟩] []) (.cond (.t 18) (.seq (.ops [⟨(some 2), (.move (.c (.im (.str [111, 112, 116, 105, 111, 110])))), none⟩] []) .ret) .skip)))))))))))))))))) (.seq (.ops [⟨(some 2), (.move (.c (.im (.str [])))), none⟩] []) .ret))), false⟩
theorem F22 : F 22 = some f22 := by kernel_rfl
def f23 : AFunc := ⟨11, [(2, none)], (.seq (.ops [⟨(some 2), (.move (.c (.im (.int .i64 0)))), none⟩] []) (.seq (.seq (.ops [⟨(some 3), (.move (.t 0)), none⟩, ⟨(some 4), (.bin .eql (.t 3) (.c (.im (.int .i64 6)))), none⟩] []) (.cond (.t 4) (.seq (.ops [⟨(some 2), (.move (.c (.im (.int .i64 2)))), none⟩] []) .ret) .skip)) (.seq (.seq (.ops [⟨(some 5), (.move (.t 0)), none⟩, ⟨(some 6), (.bin .eql (.t 5) (.c (.im (.int .i64 7)))), none⟩, ⟨(some 7), (.move (.t 6)), none⟩, ⟨(some 8), (.move (.t 0)), (some (7, false))⟩, ⟨(some 9), (.bin .eql (.t 8) (.c (.im (.int .i64 9)))), (some (7, false))⟩, ⟨(some 10), (.pick (.t 7) (.c (.im (.bool true))) (.t 9)), none⟩] []) (.cond (.t 10) (.seq (.ops [⟨(some 2), (.move (.c (.im (.int .i64 1)))), none⟩] []) .ret) .skip)) (.seq (.ops [⟨(some 2), (.move (.c (.im (.int .i64 0)))), none⟩] []) .ret)))), false⟩
theorem F23 : F 23 = some f23 := by kernel_rfl
def b45_0 : ACode := (.seq (.ops [⟨(some 27), (.bin .lss (.t 26) (.t 25)), none⟩] []) (.seq (.cond (.t 27) .skip (.exit 0)) (.seq (.block 1 (.seq (.ops [⟨(some 28), (.move (.t 26)), none⟩, ⟨(some 9), (.move (.t 28)), none⟩] []) (.seq (.seq (.ops [⟨(some 29), (.move (.t 0)), none⟩, ⟨(some 30), (.move (.t 9)), none⟩, ⟨(some 31), (.indexStr (.c (.im (.str [40, 44]))) (.t 30)), none⟩, ⟨(some 32), (.call (.c (.clo 70 [])) [(.t 29), (.t 31)]), none⟩, ⟨(some 33), (.un .not (.t 32)), none⟩] []) (.cond (.t 33) (.seq (.ops [⟨(some 34), (.build [(.im (.int .i64 0)), .nils] []), none⟩, ⟨none, (.store 2 (.t 4) (.t 34)), none⟩, ⟨(some 5), (.move (.c (.im (.bool false)))), none⟩] []) .ret) .skip)) (.seq (.ops [⟨(some 36), (.move (.t 0)), none⟩, ⟨(some 37), (.move (.t 1)), none⟩, ⟨(some 38), (.bin .sub (.t 37) (.c (.im (.int .i64 1)))), none⟩, ⟨(some 39), (.call (.c (.clo 45 [])) [(.t 36), (.t 38)]), none⟩, ⟨(some 35), (.move (.t 39)), none⟩, ⟨(some 40), (.extract 0 (.t 35)), none⟩, ⟨(some 41), (.extract 1 (.t 35)), none⟩, ⟨(some 10), (.alloc none [(.im (.int .i64 0)), .nils]), none⟩, ⟨none, (.store 2 (.t 10) (.t 40)), none⟩, ⟨(some 11), (.move (.t 41)), none⟩] []) (.seq (.seq (.ops [⟨(some 42), (.move (.t 11)), none⟩, ⟨(some 43), (.un .not (.t 42)), none⟩] []) (.cond (.t 43) (.seq (.ops [⟨(some 44), (.build [(.im (.int .i64 0)), .nils] []), none⟩, ⟨none, (.store 2 (.t 4) (.t 44)), none⟩, ⟨(some 5), (.move (.c (.im (.bool false)))), none⟩] []) .ret) .skip)) (.ops [⟨(some 45), (.fieldAddr 1 (.t 8)), none⟩, ⟨(some 46), (.load none (.t 45)), none⟩, ⟨(some 47), (.load (some 2) (.t 10)), none⟩, ⟨(some 48), (.bslice false 2 1 [(.im (.int .i64 0)), .nils] [(0, (.t 47))]), none⟩, ⟨(some 49), (.append 25 32 2 (.t 46) (.t 48)), none⟩, ⟨(some 50), (.fieldAddr 1 (.t 8)), none⟩, ⟨none, (.store 1 (.t 50) (.t 49)), none⟩] [])))))) (.ops [⟨(some 51), (.bin .add (.t 26) (.c (.im (.int .i64 1)))), none⟩, ⟨(some 26), (.move (.t 51)), none⟩] []))))
def c45_0 : ACode := .loop b45_0
theorem e45_0 {R : Type} (Φ : Oracle) (Λ' : ACode → List AV → Heap → Option Out) (tm : List AV) (H : Heap) (K : AEx → List AV → Heap → Option R) : exec0 Φ Λ' c45_0 tm H K = thenL (Λ' c45_0 tm H) K := rfl
theorem l45_0 (tm : List AV) (H : Heap) : Λ c45_0 tm H = exec0 L Λ b45_0 tm H fun e tm H => match e with
    | .normal => Λ c45_0 tm H
    | .exit i => some (.exit i, tm, H)
    | .goto l => some (.goto l, tm, H)
    | .ret => some (.ret, tm, H) := loop_eq
def f45 : AFunc := ⟨60, [(4, (some (some 2))), (5, none)], (.seq (.ops [⟨(some 4), (.alloc none [(.im (.int .i64 0)), .nils]), none⟩, ⟨(some 5), (.move (.c (.im (.bool false)))), none⟩] []) (.seq (.ops [⟨(some 13), (.move (.t 0)), none⟩, ⟨(some 14), (.move (.t 1)), none⟩, ⟨(some 15), (.call (.c (.clo 69 [])) [(.t 13), (.t 14)]), none⟩, ⟨(some 12), (.move (.t 15)), none⟩, ⟨(some 16), (.extract 0 (.t 12)), none⟩, ⟨(some 17), (.extract 1 (.t 12)), none⟩, ⟨(some 6), (.alloc none [(.im (.int .i64 0)), (.im (.str [])), (.im (.int .i64 0))]), none⟩, ⟨none, (.store 3 (.t 6) (.t 16)), none⟩, ⟨(some 7), (.move (.t 17)), none⟩] []) (.seq (.seq (.ops [⟨(some 18), (.move (.t 7)), none⟩, ⟨(some 19), (.un .not (.t 18)), none⟩] []) (.cond (.t 19) (.seq (.ops [⟨(some 20), (.build [(.im (.int .i64 0)), .nils] []), none⟩, ⟨none, (.store 2 (.t 4) (.t 20)), none⟩, ⟨(some 5), (.move (.c (.im (.bool false)))), none⟩] []) .ret) .skip)) (.seq (.ops [⟨(some 21), (.fieldAddr 0 (.t 6)), none⟩, ⟨(some 22), (.load none (.t 21)), none⟩, ⟨(some 23), (.build [(.im (.int .i64 0)), .nils] [(0, (1, (.t 22)))]), none⟩, ⟨(some 8), (.alloc none [(.im (.int .i64 0)), .nils]), none⟩, ⟨none, (.store 2 (.t 8) (.t 23)), none⟩] []) (.seq (.seq (.ops [⟨(some 24), (.fieldAddr 2 (.t 6)), none⟩, ⟨(some 25), (.load none (.t 24)), none⟩, ⟨(some 26), (.move (.c (.im (.int .i64 0)))), none⟩] []) (.block 0 c45_0)) (.seq (.ops [⟨(some 52), (.load (some 2) (.t 8)), none⟩, ⟨(some 53), (.fieldAddr 2 (.t 6)), none⟩, ⟨(some 54), (.load none (.t 53)), none⟩, ⟨(some 55), (.bin .eql (.t 54) (.c (.im (.int .i64 0)))), none⟩, ⟨(some 56), (.move (.t 55)), none⟩, ⟨(some 57), (.move (.t 0)), (some (56, false))⟩, ⟨(some 58), (.call (.c (.clo 70 [])) [(.t 57), (.c (.im (.int .u8 41)))]), (some (56, false))⟩, ⟨(some 59), (.pick (.t 56) (.c (.im (.bool true))) (.t 58)), none⟩, ⟨none, (.store 2 (.t 4) (.t 52)), none⟩, ⟨(some 5), (.move (.t 59)), none⟩] [(0, 6)]) .ret)))))), false⟩
theorem F45 : F 45 = some f45 := by kernel_rfl
def b46_0 : ACode := (.seq (.seq (.ops [⟨(some 130), (.move (.t 20)), none⟩, ⟨(some 131), (.move (.t 19)), none⟩, ⟨(some 132), (.lenStr (.t 131)), none⟩, ⟨(some 133), (.bin .lss (.t 130) (.t 132)), none⟩, ⟨(some 134), (.move (.t 133)), none⟩, ⟨(some 135), (.move (.t 1)), (some (134, true))⟩, ⟨(some 136), (.move (.t 20)), (some (134, true))⟩, ⟨(some 137), (.bin .add (.t 135) (.t 136)), (some (134, true))⟩, ⟨(some 138), (.move (.t 0)), (some (134, true))⟩, ⟨(some 139), (.lenStr (.t 138)), (some (134, true))⟩, ⟨(some 140), (.bin .lss (.t 137) (.t 139)), (some (134, true))⟩, ⟨(some 141), (.pick (.t 134) (.t 140) (.c (.im (.bool false)))), none⟩, ⟨(some 142), (.move (.t 141)), none⟩, ⟨(some 143), (.move (.t 0)), (some (142, true))⟩, ⟨(some 144), (.move (.t 1)), (some (142, true))⟩, ⟨(some 145), (.move (.t 20)), (some (142, true))⟩, ⟨(some 146), (.bin .add (.t 144) (.t 145)), (some (142, true))⟩, ⟨(some 147), (.indexStr (.t 143) (.t 146)), (some (142, true))⟩, ⟨(some 148), (.move (.t 19)), (some (142, true))⟩, ⟨(some 149), (.move (.t 20)), (some (142, true))⟩, ⟨(some 150), (.indexStr (.t 148) (.t 149)), (some (142, true))⟩, ⟨(some 151), (.bin .eql (.t 147) (.t 150)), (some (142, true))⟩, ⟨(some 152), (.pick (.t 142) (.t 151) (.c (.im (.bool false)))), none⟩] []) (.cond (.t 152) .skip (.exit 6))) (.block 7 (.ops [⟨(some 153), (.move (.t 20)), none⟩, ⟨(some 154), (.bin .add (.t 153) (.c (.im (.int .i64 1)))), none⟩, ⟨(some 20), (.move (.t 154)), none⟩] [])))
def c46_0 : ACode := .loop b46_0
theorem e46_0 {R : Type} (Φ : Oracle) (Λ' : ACode → List AV → Heap → Option Out) (tm : List AV) (H : Heap) (K : AEx → List AV → Heap → Option R) : exec0 Φ Λ' c46_0 tm H K = thenL (Λ' c46_0 tm H) K := rfl
theorem l46_0 (tm : List AV) (H : Heap) : Λ c46_0 tm H = exec0 L Λ b46_0 tm H fun e tm H => match e with
    | .normal => Λ c46_0 tm H
    | .exit i => some (.exit i, tm, H)
    | .goto l => some (.goto l, tm, H)
    | .ret => some (.ret, tm, H) := loop_eq
def b46_1 : ACode := (.seq (.seq (.ops [⟨(some 113), (.move (.t 18)), none⟩, ⟨(some 114), (.bin .leq (.t 113) (.c (.im (.int .i64 9)))), none⟩] []) (.cond (.t 114) .skip (.exit 4))) (.seq (.block 5 (.seq (.ops [⟨(some 117), (.move (.t 18)), none⟩, ⟨(some 118), (.call (.c (.clo 22 [])) [(.t 117)]), none⟩, ⟨(some 19), (.move (.t 118)), none⟩] []) (.seq (.seq (.ops [⟨(some 119), (.move (.t 19)), none⟩, ⟨(some 120), (.bin .eql (.t 119) (.c (.im (.str [])))), none⟩, ⟨(some 121), (.move (.t 120)), none⟩, ⟨(some 122), (.move (.t 2)), (some (121, false))⟩, ⟨(some 123), (.bin .eql (.t 122) (.c (.im (.int .i64 1)))), (some (121, false))⟩, ⟨(some 124), (.move (.t 123)), (some (121, false))⟩, ⟨(some 125), (.move (.t 18)), (some (124, true))⟩, ⟨(some 126), (.call (.c (.clo 23 [])) [(.t 125)]), (some (124, true))⟩, ⟨(some 127), (.bin .gtr (.t 126) (.c (.im (.int .i64 0)))), (some (124, true))⟩, ⟨(some 128), (.pick (.t 124) (.t 127) (.c (.im (.bool false)))), (some (121, false))⟩, ⟨(some 129), (.pick (.t 121) (.c (.im (.bool true))) (.t 128)), none⟩] []) (.cond (.t 129) (.exit 5) .skip)) (.seq (.ops [⟨(some 20), (.move (.c (.im (.int .i64 0)))), none⟩] []) (.seq (.block 6 c46_0) (.seq (.ops [⟨(some 155), (.move (.t 20)), none⟩, ⟨(some 156), (.move (.t 17)), none⟩, ⟨(some 157), (.bin .gtr (.t 155) (.t 156)), none⟩] []) (.cond (.t 157) (.ops [⟨(some 158), (.move (.t 20)), none⟩, ⟨(some 17), (.move (.t 158)), none⟩] []) .skip))))))) (.ops [⟨(some 115), (.move (.t 18)), none⟩, ⟨(some 116), (.bin .add (.t 115) (.c (.im (.int .i64 1)))), none⟩, ⟨(some 18), (.move (.t 116)), none⟩] [])))
def c46_1 : ACode := .loop b46_1
theorem e46_1 {R : Type} (Φ : Oracle) (Λ' : ACode → List AV → Heap → Option Out) (tm : List AV) (H : Heap) (K : AEx → List AV → Heap → Option R) : exec0 Φ Λ' c46_1 tm H K = thenL (Λ' c46_1 tm H) K := rfl
theorem l46_1 (tm : List AV) (H : Heap) : Λ c46_1 tm H = exec0 L Λ b46_1 tm H fun e tm H => match e with
    | .normal => Λ c46_1 tm H
    | .exit i => some (.exit i, tm, H)
    | .goto l => some (.goto l, tm, H)
    | .ret => some (.ret, tm, H) := loop_eq
def b46_2 : ACode := (.seq (.seq (.ops [⟨(some 52), (.move (.t 12)), none⟩, ⟨(some 53), (.move (.t 9)), none⟩, ⟨(some 54), (.call (.c (.clo 23 [])) [(.t 53)]), none⟩, ⟨(some 55), (.bin .lss (.t 52) (.t 54)), none⟩] []) (.cond (.t 55) .skip (.exit 2))) (.seq (.block 3 (.seq (.ops [⟨(some 13), (.move (.c (.im (.int .u8 40)))), none⟩] []) (.seq (.seq (.ops [⟨(some 58), (.move (.t 12)), none⟩, ⟨(some 59), (.bin .gtr (.t 58) (.c (.im (.int .i64 0)))), none⟩] []) (.cond (.t 59) (.ops [⟨(some 13), (.move (.c (.im (.int .u8 44)))), none⟩] []) .skip)) (.seq (.seq (.ops [⟨(some 60), (.move (.t 1)), none⟩, ⟨(some 61), (.move (.t 0)), none⟩, ⟨(some 62), (.lenStr (.t 61)), none⟩, ⟨(some 63), (.bin .geq (.t 60) (.t 62)), none⟩, ⟨(some 64), (.move (.t 63)), none⟩, ⟨(some 65), (.move (.t 0)), (some (64, false))⟩, ⟨(some 66), (.move (.t 1)), (some (64, false))⟩, ⟨(some 67), (.indexStr (.t 65) (.t 66)), (some (64, false))⟩, ⟨(some 68), (.move (.t 13)), (some (64, false))⟩, ⟨(some 69), (.bin .neq (.t 67) (.t 68)), (some (64, false))⟩, ⟨(some 70), (.pick (.t 64) (.c (.im (.bool true))) (.t 69)), none⟩] []) (.cond (.t 70) (.seq (.ops [⟨(some 71), (.build [(.im (.int .i64 0)), .nils] []), none⟩, ⟨(some 72), (.move (.t 1)), none⟩, ⟨none, (.store 2 (.t 6) (.t 71)), none⟩, ⟨(some 7), (.move (.t 72)), none⟩, ⟨(some 8), (.move (.c (.im (.bool false)))), none⟩] []) .ret) .skip)) (.seq (.ops [⟨(some 74), (.move (.t 0)), none⟩, ⟨(some 75), (.move (.t 1)), none⟩, ⟨(some 76), (.bin .add (.t 75) (.c (.im (.int .i64 1)))), none⟩, ⟨(some 77), (.move (.t 2)), none⟩, ⟨(some 78), (.bin .sub (.t 77) (.c (.im (.int .i64 1)))), none⟩, ⟨(some 79), (.call (.c (.clo 46 [])) [(.t 74), (.t 76), (.t 78)]), none⟩, ⟨(some 73), (.move (.t 79)), none⟩, ⟨(some 80), (.extract 0 (.t 73)), none⟩, ⟨(some 81), (.extract 1 (.t 73)), none⟩, ⟨(some 82), (.extract 2 (.t 73)), none⟩, ⟨(some 14), (.alloc none [(.im (.int .i64 0)), .nils]), none⟩, ⟨none, (.store 2 (.t 14) (.t 80)), none⟩, ⟨(some 15), (.move (.t 81)), none⟩, ⟨(some 16), (.move (.t 82)), none⟩] []) (.seq (.seq (.ops [⟨(some 83), (.move (.t 16)), none⟩, ⟨(some 84), (.un .not (.t 83)), none⟩] []) (.cond (.t 84) (.seq (.ops [⟨(some 85), (.build [(.im (.int .i64 0)), .nils] []), none⟩, ⟨(some 86), (.move (.t 15)), none⟩, ⟨none, (.store 2 (.t 6) (.t 85)), none⟩, ⟨(some 7), (.move (.t 86)), none⟩, ⟨(some 8), (.move (.c (.im (.bool false)))), none⟩] []) .ret) .skip)) (.seq (.ops [⟨(some 87), (.fieldAddr 1 (.t 11)), none⟩, ⟨(some 88), (.load none (.t 87)), none⟩, ⟨(some 89), (.load (some 2) (.t 14)), none⟩, ⟨(some 90), (.bslice false 2 1 [(.im (.int .i64 0)), .nils] [(0, (.t 89))]), none⟩, ⟨(some 91), (.append 31 32 2 (.t 88) (.t 90)), none⟩, ⟨(some 92), (.fieldAddr 1 (.t 11)), none⟩, ⟨none, (.store 1 (.t 92) (.t 91)), none⟩] []) (.ops [⟨(some 93), (.move (.t 15)), none⟩, ⟨(some 1), (.move (.t 93)), none⟩] [])))))))) (.ops [⟨(some 56), (.move (.t 12)), none⟩, ⟨(some 57), (.bin .add (.t 56) (.c (.im (.int .i64 1)))), none⟩, ⟨(some 12), (.move (.t 57)), none⟩] [])))
def c46_2 : ACode := .loop b46_2
theorem e46_2 {R : Type} (Φ : Oracle) (Λ' : ACode → List AV → Heap → Option Out) (tm : List AV) (H : Heap) (K : AEx → List AV → Heap → Option R) : exec0 Φ Λ' c46_2 tm H K = thenL (Λ' c46_2 tm H) K := rfl
theorem l46_2 (tm : List AV) (H : Heap) : Λ c46_2 tm H = exec0 L Λ b46_2 tm H fun e tm H => match e with
    | .normal => Λ c46_2 tm H
    | .exit i => some (.exit i, tm, H)
    | .goto l => some (.goto l, tm, H)
    | .ret => some (.ret, tm, H) := loop_eq
def b46_3 : ACode := (.seq (.seq (.ops [⟨(some 21), (.move (.t 9)), none⟩, ⟨(some 22), (.bin .leq (.t 21) (.c (.im (.int .i64 9)))), none⟩] []) (.cond (.t 22) .skip (.exit 0))) (.seq (.block 1 (.seq (.ops [⟨(some 25), (.move (.t 9)), none⟩, ⟨(some 26), (.call (.c (.clo 22 [])) [(.t 25)]), none⟩, ⟨(some 10), (.move (.t 26)), none⟩] []) (.seq (.seq (.ops [⟨(some 27), (.move (.t 10)), none⟩, ⟨(some 28), (.bin .eql (.t 27) (.c (.im (.str [])))), none⟩, ⟨(some 29), (.move (.t 28)), none⟩, ⟨(some 30), (.move (.t 2)), (some (29, false))⟩, ⟨(some 31), (.bin .eql (.t 30) (.c (.im (.int .i64 1)))), (some (29, false))⟩, ⟨(some 32), (.move (.t 31)), (some (29, false))⟩, ⟨(some 33), (.move (.t 9)), (some (32, true))⟩, ⟨(some 34), (.call (.c (.clo 23 [])) [(.t 33)]), (some (32, true))⟩, ⟨(some 35), (.bin .gtr (.t 34) (.c (.im (.int .i64 0)))), (some (32, true))⟩, ⟨(some 36), (.pick (.t 32) (.t 35) (.c (.im (.bool false)))), (some (29, false))⟩, ⟨(some 37), (.pick (.t 29) (.c (.im (.bool true))) (.t 36)), none⟩, ⟨(some 38), (.move (.t 37)), none⟩, ⟨(some 39), (.move (.t 10)), (some (38, false))⟩, ⟨(some 40), (.move (.t 0)), (some (38, false))⟩, ⟨(some 41), (.move (.t 1)), (some (38, false))⟩, ⟨(some 42), (.sliceStr (.t 40) (some (.t 41)) none), (some (38, false))⟩, ⟨(some 43), (.call (.c (.clo 71 [])) [(.t 39), (.t 42)]), (some (38, false))⟩, ⟨(some 44), (.un .not (.t 43)), (some (38, false))⟩, ⟨(some 45), (.pick (.t 38) (.c (.im (.bool true))) (.t 44)), none⟩] []) (.cond (.t 45) (.exit 1) .skip)) (.seq (.ops [⟨(some 46), (.move (.t 9)), none⟩, ⟨(some 47), (.build [(.im (.int .i64 0)), .nils] [(0, (1, (.t 46)))]), none⟩, ⟨(some 11), (.alloc none [(.im (.int .i64 0)), .nils]), none⟩, ⟨none, (.store 2 (.t 11) (.t 47)), none⟩] []) (.seq (.ops [⟨(some 48), (.move (.t 1)), none⟩, ⟨(some 49), (.move (.t 10)), none⟩, ⟨(some 50), (.lenStr (.t 49)), none⟩, ⟨(some 51), (.bin .add (.t 48) (.t 50)), none⟩, ⟨(some 1), (.move (.t 51)), none⟩] []) (.seq (.seq (.ops [⟨(some 12), (.move (.c (.im (.int .i64 0)))), none⟩] []) (.block 2 c46_2)) (.seq (.seq (.ops [⟨(some 94), (.move (.t 9)), none⟩, ⟨(some 95), (.call (.c (.clo 23 [])) [(.t 94)]), none⟩, ⟨(some 96), (.bin .gtr (.t 95) (.c (.im (.int .i64 0)))), none⟩] []) (.cond (.t 96) (.seq (.seq (.ops [⟨(some 97), (.move (.t 1)), none⟩, ⟨(some 98), (.move (.t 0)), none⟩, ⟨(some 99), (.lenStr (.t 98)), none⟩, ⟨(some 100), (.bin .geq (.t 97) (.t 99)), none⟩, ⟨(some 101), (.move (.t 100)), none⟩, ⟨(some 102), (.move (.t 0)), (some (101, false))⟩, ⟨(some 103), (.move (.t 1)), (some (101, false))⟩, ⟨(some 104), (.indexStr (.t 102) (.t 103)), (some (101, false))⟩, ⟨(some 105), (.bin .neq (.t 104) (.c (.im (.int .u8 41)))), (some (101, false))⟩, ⟨(some 106), (.pick (.t 101) (.c (.im (.bool true))) (.t 105)), none⟩] []) (.cond (.t 106) (.seq (.ops [⟨(some 107), (.build [(.im (.int .i64 0)), .nils] []), none⟩, ⟨(some 108), (.move (.t 1)), none⟩, ⟨none, (.store 2 (.t 6) (.t 107)), none⟩, ⟨(some 7), (.move (.t 108)), none⟩, ⟨(some 8), (.move (.c (.im (.bool false)))), none⟩] []) .ret) .skip)) (.ops [⟨(some 109), (.move (.t 1)), none⟩, ⟨(some 110), (.bin .add (.t 109) (.c (.im (.int .i64 1)))), none⟩, ⟨(some 1), (.move (.t 110)), none⟩] [])) .skip)) (.seq (.ops [⟨(some 111), (.load (some 2) (.t 11)), none⟩, ⟨(some 112), (.move (.t 1)), none⟩, ⟨none, (.store 2 (.t 6) (.t 111)), none⟩, ⟨(some 7), (.move (.t 112)), none⟩, ⟨(some 8), (.move (.c (.im (.bool true)))), none⟩] []) .ret)))))))) (.ops [⟨(some 23), (.move (.t 9)), none⟩, ⟨(some 24), (.bin .add (.t 23) (.c (.im (.int .i64 1)))), none⟩, ⟨(some 9), (.move (.t 24)), none⟩] [])))
def c46_3 : ACode := .loop b46_3
theorem e46_3 {R : Type} (Φ : Oracle) (Λ' : ACode → List AV → Heap → Option Out) (tm : List AV) (H : Heap) (K : AEx → List AV → Heap → Option R) : exec0 Φ Λ' c46_3 tm H K = thenL (Λ' c46_3 tm H) K := rfl
theorem l46_3 (tm : List AV) (H : Heap) : Λ c46_3 tm H = exec0 L Λ b46_3 tm H fun e tm H => match e with
    | .normal => Λ c46_3 tm H
    | .exit i => some (.exit i, tm, H)
    | .goto l => some (.goto l, tm, H)
    | .ret => some (.ret, tm, H) := loop_eq
def f46 : AFunc := ⟨163, [(6, (some (some 2))), (7, none), (8, none)], (.seq (.ops [⟨(some 6), (.alloc none [(.im (.int .i64 0)), .nils]), none⟩, ⟨(some 7), (.move (.c (.im (.int .i64 0)))), none⟩, ⟨(some 8), (.move (.c (.im (.bool false)))), none⟩] []) (.seq (.seq (.ops [⟨(some 9), (.move (.c (.im (.int .i64 1)))), none⟩] []) (.block 0 c46_3)) (.seq (.ops [⟨(some 17), (.move (.c (.im (.int .i64 0)))), none⟩] []) (.seq (.seq (.ops [⟨(some 18), (.move (.c (.im (.int .i64 1)))), none⟩] []) (.block 4 c46_1)) (.seq (.ops [⟨(some 159), (.build [(.im (.int .i64 0)), .nils] []), none⟩, ⟨(some 160), (.move (.t 1)), none⟩, ⟨(some 161), (.move (.t 17)), none⟩, ⟨(some 162), (.bin .add (.t 160) (.t 161)), none⟩, ⟨none, (.store 2 (.t 6) (.t 159)), none⟩, ⟨(some 7), (.move (.t 162)), none⟩, ⟨(some 8), (.move (.c (.im (.bool false)))), none⟩] []) .ret))))), false⟩
theorem F46 : F 46 = some f46 := by kernel_rfl
def b47_0 : ACode := (.seq (.ops [⟨(some 26), (.bin .lss (.t 25) (.t 24)), none⟩] []) (.seq (.cond (.t 26) .skip (.exit 0)) (.seq (.block 1 (.seq (.ops [⟨(some 27), (.indexSl 2 (.t 23) (.t 25)), none⟩, ⟨(some 28), (.load (some 2) (.t 27)), none⟩, ⟨(some 8), (.alloc none [(.im (.int .i64 0)), .nils]), none⟩, ⟨none, (.store 2 (.t 8) (.t 28)), none⟩] []) (.seq (.ops [⟨(some 29), (.load (some 2) (.t 8)), none⟩, ⟨(some 30), (.move (.t 1)), none⟩, ⟨(some 31), (.move (.t 2)), none⟩, ⟨(some 32), (.bin .sub (.t 31) (.c (.im (.int .i64 1)))), none⟩, ⟨(some 33), (.call (.c (.clo 47 [])) [(.t 29), (.t 30), (.t 32)]), none⟩, ⟨(some 34), (.un .not (.t 33)), none⟩] []) (.cond (.t 34) (.seq (.ops [⟨(some 6), (.move (.c (.im (.bool false)))), none⟩] []) .ret) .skip)))) (.ops [⟨(some 35), (.bin .add (.t 25) (.c (.im (.int .i64 1)))), none⟩, ⟨(some 25), (.move (.t 35)), none⟩] []))))
def c47_0 : ACode := .loop b47_0
theorem e47_0 {R : Type} (Φ : Oracle) (Λ' : ACode → List AV → Heap → Option Out) (tm : List AV) (H : Heap) (K : AEx → List AV → Heap → Option R) : exec0 Φ Λ' c47_0 tm H K = thenL (Λ' c47_0 tm H) K := rfl
theorem l47_0 (tm : List AV) (H : Heap) : Λ c47_0 tm H = exec0 L Λ b47_0 tm H fun e tm H => match e with
    | .normal => Λ c47_0 tm H
    | .exit i => some (.exit i, tm, H)
    | .goto l => some (.goto l, tm, H)
    | .ret => some (.ret, tm, H) := loop_eq
def f47 : AFunc := ⟨36, [(6, none)], (.seq (.ops [⟨(some 3), (.box none (.t 0)), none⟩, ⟨(some 6), (.move (.c (.im (.bool false)))), none⟩] []) (.seq (.ops [⟨(some 9), (.move (.t 1)), none⟩, ⟨(some 10), (.nilCheck (.t 9)), none⟩, ⟨(some 11), (.load none (.t 10)), none⟩, ⟨(some 12), (.bin .sub (.t 11) (.c (.im (.int .i64 1)))), none⟩, ⟨(some 13), (.nilCheck (.t 9)), none⟩, ⟨none, (.store 1 (.t 13) (.t 12)), none⟩] []) (.seq (.seq (.ops [⟨(some 14), (.move (.t 1)), none⟩, ⟨(some 15), (.nilCheck (.t 14)), none⟩, ⟨(some 16), (.load none (.t 15)), none⟩, ⟨(some 17), (.bin .lss (.t 16) (.c (.im (.int .i64 0)))), none⟩, ⟨(some 18), (.move (.t 17)), none⟩, ⟨(some 19), (.move (.t 2)), (some (18, false))⟩, ⟨(some 20), (.bin .eql (.t 19) (.c (.im (.int .i64 0)))), (some (18, false))⟩, ⟨(some 21), (.pick (.t 18) (.c (.im (.bool true))) (.t 20)), none⟩] []) (.cond (.t 21) (.seq (.ops [⟨(some 6), (.move (.c (.im (.bool false)))), none⟩] []) .ret) .skip)) (.seq (.seq (.ops [⟨(some 22), (.fieldAddr 1 (.t 3)), none⟩, ⟨(some 23), (.load none (.t 22)), none⟩, ⟨(some 24), (.lenSl (.t 23)), none⟩, ⟨(some 25), (.move (.c (.im (.int .i64 0)))), none⟩] []) (.block 0 c47_0)) (.seq (.ops [⟨(some 6), (.move (.c (.im (.bool true)))), none⟩] []) .ret))))), false⟩
theorem F47 : F 47 = some f47 := by kernel_rfl
def b48_0 : ACode := (.seq (.ops [⟨(some 28), (.bin .lss (.t 27) (.t 26)), none⟩] []) (.seq (.cond (.t 28) .skip (.exit 2)) (.seq (.block 3 (.seq (.ops [⟨(some 29), (.move (.t 27)), none⟩, ⟨(some 30), (.indexSl 2 (.t 25) (.t 27)), none⟩, ⟨(some 31), (.load (some 2) (.t 30)), none⟩, ⟨(some 7), (.alloc none [(.im (.int .i64 0)), .nils]), none⟩, ⟨(some 6), (.move (.t 29)), none⟩, ⟨none, (.store 2 (.t 7) (.t 31)), none⟩] []) (.seq (.ops [⟨(some 32), (.move (.t 0)), none⟩, ⟨(some 33), (.move (.t 6)), none⟩, ⟨(some 34), (.indexStr (.c (.im (.str [40, 44]))) (.t 33)), none⟩, ⟨(some 35), (.call (.c (.clo 74 [])) [(.t 32), (.t 34)]), none⟩] []) (.ops [⟨(some 36), (.move (.t 0)), none⟩, ⟨(some 37), (.load (some 2) (.t 7)), none⟩, ⟨(some 38), (.call (.c (.clo 48 [])) [(.t 36), (.t 37)]), none⟩] [])))) (.ops [⟨(some 39), (.bin .add (.t 27) (.c (.im (.int .i64 1)))), none⟩, ⟨(some 27), (.move (.t 39)), none⟩] []))))
def c48_0 : ACode := .loop b48_0
theorem e48_0 {R : Type} (Φ : Oracle) (Λ' : ACode → List AV → Heap → Option Out) (tm : List AV) (H : Heap) (K : AEx → List AV → Heap → Option R) : exec0 Φ Λ' c48_0 tm H K = thenL (Λ' c48_0 tm H) K := rfl
theorem l48_0 (tm : List AV) (H : Heap) : Λ c48_0 tm H = exec0 L Λ b48_0 tm H fun e tm H => match e with
    | .normal => Λ c48_0 tm H
    | .exit i => some (.exit i, tm, H)
    | .goto l => some (.goto l, tm, H)
    | .ret => some (.ret, tm, H) := loop_eq
def b48_1 : ACode := (.seq (.ops [⟨(some 11), (.bin .lss (.t 10) (.t 9)), none⟩] []) (.seq (.cond (.t 11) .skip (.exit 0)) (.seq (.block 1 (.seq (.ops [⟨(some 12), (.indexSl 3 (.t 8) (.t 10)), none⟩, ⟨(some 13), (.load (some 3) (.t 12)), none⟩, ⟨(some 5), (.alloc none [(.im (.int .i64 0)), (.im (.str [])), (.im (.int .i64 0))]), none⟩, ⟨none, (.store 3 (.t 5) (.t 13)), none⟩] []) (.seq (.ops [⟨(some 14), (.fieldAddr 0 (.t 5)), none⟩, ⟨(some 15), (.load none (.t 14)), none⟩, ⟨(some 16), (.fieldAddr 0 (.t 3)), none⟩, ⟨(some 17), (.load none (.t 16)), none⟩, ⟨(some 18), (.bin .eql (.t 15) (.t 17)), none⟩] []) (.cond (.t 18) (.ops [⟨(some 19), (.move (.t 0)), none⟩, ⟨(some 20), (.fieldAddr 1 (.t 5)), none⟩, ⟨(some 21), (.load none (.t 20)), none⟩, ⟨(some 22), (.call (.c (.clo 73 [])) [(.t 19), (.t 21)]), none⟩] []) .skip)))) (.ops [⟨(some 23), (.bin .add (.t 10) (.c (.im (.int .i64 1)))), none⟩, ⟨(some 10), (.move (.t 23)), none⟩] []))))
def c48_1 : ACode := .loop b48_1
theorem e48_1 {R : Type} (Φ : Oracle) (Λ' : ACode → List AV → Heap → Option Out) (tm : List AV) (H : Heap) (K : AEx → List AV → Heap → Option R) : exec0 Φ Λ' c48_1 tm H K = thenL (Λ' c48_1 tm H) K := rfl
theorem l48_1 (tm : List AV) (H : Heap) : Λ c48_1 tm H = exec0 L Λ b48_1 tm H fun e tm H => match e with
    | .normal => Λ c48_1 tm H
    | .exit i => some (.exit i, tm, H)
    | .goto l => some (.goto l, tm, H)
    | .ret => some (.ret, tm, H) := loop_eq
def f48 : AFunc := ⟨46, [], (.seq (.ops [⟨(some 3), (.box none (.t 1)), none⟩] []) (.seq (.seq (.ops [⟨(some 8), (.call (.c (.clo 72 [])) []), none⟩, ⟨(some 9), (.lenSl (.t 8)), none⟩, ⟨(some 10), (.move (.c (.im (.int .i64 0)))), none⟩] []) (.block 0 c48_1)) (.seq (.seq (.ops [⟨(some 24), (.fieldAddr 1 (.t 3)), none⟩, ⟨(some 25), (.load none (.t 24)), none⟩, ⟨(some 26), (.lenSl (.t 25)), none⟩, ⟨(some 27), (.move (.c (.im (.int .i64 0)))), none⟩] []) (.block 2 c48_0)) (.seq (.ops [⟨(some 40), (.fieldAddr 1 (.t 3)), none⟩, ⟨(some 41), (.load none (.t 40)), none⟩, ⟨(some 42), (.lenSl (.t 41)), none⟩, ⟨(some 43), (.bin .gtr (.t 42) (.c (.im (.int .i64 0)))), none⟩] []) (.cond (.t 43) (.ops [⟨(some 44), (.move (.t 0)), none⟩, ⟨(some 45), (.call (.c (.clo 74 [])) [(.t 44), (.c (.im (.int .u8 41)))]), none⟩] []) .skip))))), false⟩
theorem F48 : F 48 = some f48 := by kernel_rfl
def f50 : AFunc := ⟨17, [(4, none)], (.seq (.ops [⟨(some 2), (.box none (.t 0)), none⟩, ⟨(some 3), (.box none (.t 1)), none⟩, ⟨(some 4), (.move (.c (.im (.bool false)))), none⟩] []) (.seq (.ops [⟨(some 5), (.fieldAddr 0 (.t 2)), none⟩, ⟨(some 6), (.load none (.t 5)), none⟩, ⟨(some 7), (.fieldAddr 0 (.t 3)), none⟩, ⟨(some 8), (.load none (.t 7)), none⟩, ⟨(some 9), (.bin .eql (.t 6) (.t 8)), none⟩, ⟨(some 10), (.move (.t 9)), none⟩, ⟨(some 11), (.fieldAddr 1 (.t 2)), (some (10, true))⟩, ⟨(some 12), (.load none (.t 11)), (some (10, true))⟩, ⟨(some 13), (.fieldAddr 1 (.t 3)), (some (10, true))⟩, ⟨(some 14), (.load none (.t 13)), (some (10, true))⟩, ⟨(some 15), (.call (.c (.clo 75 [])) [(.t 12), (.t 14), (.c (.clo 50 []))]), (some (10, true))⟩, ⟨(some 16), (.pick (.t 10) (.t 15) (.c (.im (.bool false)))), none⟩, ⟨(some 4), (.move (.t 16)), none⟩] []) .ret)), false⟩
theorem F50 : F 50 = some f50 := by kernel_rfl
def f51 : AFunc := ⟨31, [(4, none)], (.seq (.ops [⟨(some 2), (.box none (.t 0)), none⟩, ⟨(some 3), (.box none (.t 1)), none⟩, ⟨(some 4), (.move (.c (.im (.bool false)))), none⟩] []) (.seq (.ops [⟨(some 6), (.call (.c (.clo 72 [])) []), none⟩, ⟨(some 7), (.mkfunc 77 [(.t 2)]), none⟩, ⟨(some 8), (.call (.c (.clo 76 [])) [(.t 6), (.t 7)]), none⟩, ⟨(some 5), (.move (.t 8)), none⟩] []) (.seq (.seq (.ops [⟨(some 9), (.move (.t 5)), none⟩, ⟨(some 10), (.bin .lss (.t 9) (.c (.im (.int .i64 0)))), none⟩, ⟨(some 11), (.move (.t 10)), none⟩, ⟨(some 12), (.load none (.t 3)), (some (11, false))⟩, ⟨(some 13), (.bin .lss (.t 12) (.c (.im (.int .i64 1)))), (some (11, false))⟩, ⟨(some 14), (.pick (.t 11) (.c (.im (.bool true))) (.t 13)), none⟩, ⟨(some 15), (.move (.t 14)), none⟩, ⟨(some 16), (.fieldAddr 1 (.t 2)), (some (15, false))⟩, ⟨(some 17), (.load none (.t 16)), (some (15, false))⟩, ⟨(some 18), (.lenSl (.t 17)), (some (15, false))⟩, ⟨(some 19), (.call (.c (.clo 72 [])) []), (some (15, false))⟩, ⟨(some 20), (.move (.t 5)), (some (15, false))⟩, ⟨(some 21), (.indexSl 3 (.t 19) (.t 20)), (some (15, false))⟩, ⟨(some 22), (.fieldAddr 2 (.t 21)), (some (15, false))⟩, ⟨(some 23), (.load none (.t 22)), (some (15, false))⟩, ⟨(some 24), (.bin .neq (.t 18) (.t 23)), (some (15, false))⟩, ⟨(some 25), (.pick (.t 15) (.c (.im (.bool true))) (.t 24)), none⟩] [(8, 10)]) (.cond (.t 25) (.seq (.ops [⟨(some 4), (.move (.c (.im (.bool false)))), none⟩] []) .ret) .skip)) (.seq (.ops [⟨(some 26), (.fieldAddr 1 (.t 2)), none⟩, ⟨(some 27), (.load none (.t 26)), none⟩, ⟨(some 28), (.mkfunc 79 [(.t 3)]), none⟩, ⟨(some 29), (.call (.c (.clo 78 [])) [(.t 27), (.t 28)]), none⟩, ⟨(some 30), (.un .not (.t 29)), none⟩, ⟨(some 4), (.move (.t 30)), none⟩] []) .ret)))), false⟩
theorem F51 : F 51 = some f51 := by kernel_rfl
def b52_0 : ACode := (.seq (.ops [⟨(some 10), (.bin .lss (.t 9) (.t 8)), none⟩] []) (.seq (.cond (.t 10) .skip (.exit 0)) (.seq (.block 1 (.seq (.ops [⟨(some 11), (.indexSl 2 (.t 7) (.t 9)), none⟩, ⟨(some 12), (.load (some 2) (.t 11)), none⟩, ⟨(some 5), (.alloc none [(.im (.int .i64 0)), .nils]), none⟩, ⟨none, (.store 2 (.t 5) (.t 12)), none⟩] []) (.ops [⟨(some 13), (.move (.t 3)), none⟩, ⟨(some 14), (.load (some 2) (.t 5)), none⟩, ⟨(some 15), (.call (.c (.clo 52 [])) [(.t 14)]), none⟩, ⟨(some 16), (.max (.t 13) (.t 15)), none⟩, ⟨(some 3), (.move (.t 16)), none⟩] []))) (.ops [⟨(some 17), (.bin .add (.t 9) (.c (.im (.int .i64 1)))), none⟩, ⟨(some 9), (.move (.t 17)), none⟩] []))))
def c52_0 : ACode := .loop b52_0
theorem e52_0 {R : Type} (Φ : Oracle) (Λ' : ACode → List AV → Heap → Option Out) (tm : List AV) (H : Heap) (K : AEx → List AV → Heap → Option R) : exec0 Φ Λ' c52_0 tm H K = thenL (Λ' c52_0 tm H) K := rfl
theorem l52_0 (tm : List AV) (H : Heap) : Λ c52_0 tm H = exec0 L Λ b52_0 tm H fun e tm H => match e with
    | .normal => Λ c52_0 tm H
    | .exit i => some (.exit i, tm, H)
    | .goto l => some (.goto l, tm, H)
    | .ret => some (.ret, tm, H) := loop_eq
def f52 : AFunc := ⟨20, [(2, none)], (.seq (.ops [⟨(some 1), (.box none (.t 0)), none⟩, ⟨(some 2), (.move (.c (.im (.int .i64 0)))), none⟩] []) (.seq (.ops [⟨(some 3), (.move (.c (.im (.int .i64 0)))), none⟩] []) (.seq (.seq (.ops [⟨(some 6), (.fieldAddr 1 (.t 1)), none⟩, ⟨(some 7), (.load none (.t 6)), none⟩, ⟨(some 8), (.lenSl (.t 7)), none⟩, ⟨(some 9), (.move (.c (.im (.int .i64 0)))), none⟩] []) (.block 0 c52_0)) (.seq (.ops [⟨(some 18), (.move (.t 3)), none⟩, ⟨(some 19), (.bin .add (.t 18) (.c (.im (.int .i64 1)))), none⟩, ⟨(some 2), (.move (.t 19)), none⟩] []) .ret)))), false⟩
theorem F52 : F 52 = some f52 := by kernel_rfl
def b53_0 : ACode := (.seq (.ops [⟨(some 10), (.bin .lss (.t 9) (.t 8)), none⟩] []) (.seq (.cond (.t 10) .skip (.exit 0)) (.seq (.block 1 (.seq (.ops [⟨(some 11), (.indexSl 2 (.t 7) (.t 9)), none⟩, ⟨(some 12), (.load (some 2) (.t 11)), none⟩, ⟨(some 5), (.alloc none [(.im (.int .i64 0)), .nils]), none⟩, ⟨none, (.store 2 (.t 5) (.t 12)), none⟩] []) (.ops [⟨(some 13), (.move (.t 3)), none⟩, ⟨(some 14), (.load (some 2) (.t 5)), none⟩, ⟨(some 15), (.call (.c (.clo 53 [])) [(.t 14)]), none⟩, ⟨(some 16), (.bslice false 2 1 [(.im (.int .i64 0)), .nils] [(0, (.t 15))]), none⟩, ⟨(some 17), (.append 25 32 2 (.t 13) (.t 16)), none⟩, ⟨(some 3), (.move (.t 17)), none⟩] []))) (.ops [⟨(some 18), (.bin .add (.t 9) (.c (.im (.int .i64 1)))), none⟩, ⟨(some 9), (.move (.t 18)), none⟩] []))))
def c53_0 : ACode := .loop b53_0
theorem e53_0 {R : Type} (Φ : Oracle) (Λ' : ACode → List AV → Heap → Option Out) (tm : List AV) (H : Heap) (K : AEx → List AV → Heap → Option R) : exec0 Φ Λ' c53_0 tm H K = thenL (Λ' c53_0 tm H) K := rfl
theorem l53_0 (tm : List AV) (H : Heap) : Λ c53_0 tm H = exec0 L Λ b53_0 tm H fun e tm H => match e with
    | .normal => Λ c53_0 tm H
    | .exit i => some (.exit i, tm, H)
    | .goto l => some (.goto l, tm, H)
    | .ret => some (.ret, tm, H) := loop_eq
def f53 : AFunc := ⟨23, [(2, (some (some 2)))], (.seq (.ops [⟨(some 1), (.box none (.t 0)), none⟩, ⟨(some 2), (.alloc none [(.im (.int .i64 0)), .nils]), none⟩] []) (.seq (.ops [⟨(some 3), (.move (.c .nils)), none⟩] []) (.seq (.seq (.ops [⟨(some 6), (.fieldAddr 1 (.t 1)), none⟩, ⟨(some 7), (.load none (.t 6)), none⟩, ⟨(some 8), (.lenSl (.t 7)), none⟩, ⟨(some 9), (.move (.c (.im (.int .i64 0)))), none⟩] []) (.block 0 c53_0)) (.seq (.ops [⟨(some 19), (.fieldAddr 0 (.t 1)), none⟩, ⟨(some 20), (.load none (.t 19)), none⟩, ⟨(some 21), (.move (.t 3)), none⟩, ⟨(some 22), (.build [(.im (.int .i64 0)), .nils] [(0, (1, (.t 20))), (1, (1, (.t 21)))]), none⟩, ⟨none, (.store 2 (.t 2) (.t 22)), none⟩] []) .ret)))), false⟩
theorem F53 : F 53 = some f53 := by kernel_rfl
def b69_0 : ACode := (.seq (.ops [⟨(some 16), (.bin .lss (.t 15) (.t 14)), none⟩] []) (.seq (.cond (.t 16) .skip (.exit 0)) (.seq (.block 1 (.seq (.ops [⟨(some 17), (.indexSl 3 (.t 13) (.t 15)), none⟩, ⟨(some 18), (.load (some 3) (.t 17)), none⟩, ⟨(some 9), (.alloc none [(.im (.int .i64 0)), (.im (.str [])), (.im (.int .i64 0))]), none⟩, ⟨none, (.store 3 (.t 9) (.t 18)), none⟩] []) (.seq (.ops [⟨(some 19), (.fieldAddr 1 (.t 9)), none⟩, ⟨(some 20), (.load none (.t 19)), none⟩, ⟨(some 21), (.lenStr (.t 20)), none⟩, ⟨(some 22), (.load none (.t 7)), none⟩, ⟨(some 23), (.bin .eql (.t 21) (.t 22)), none⟩] []) (.cond (.t 23) (.seq (.ops [⟨(some 24), (.load (some 3) (.t 9)), none⟩, ⟨none, (.store 3 (.t 4) (.t 24)), none⟩, ⟨(some 5), (.move (.c (.im (.bool true)))), none⟩] []) .ret) .skip)))) (.ops [⟨(some 25), (.bin .add (.t 15) (.c (.im (.int .i64 1)))), none⟩, ⟨(some 15), (.move (.t 25)), none⟩] []))))
def c69_0 : ACode := .loop b69_0
theorem e69_0 {R : Type} (Φ : Oracle) (Λ' : ACode → List AV → Heap → Option Out) (tm : List AV) (H : Heap) (K : AEx → List AV → Heap → Option R) : exec0 Φ Λ' c69_0 tm H K = thenL (Λ' c69_0 tm H) K := rfl
theorem l69_0 (tm : List AV) (H : Heap) : Λ c69_0 tm H = exec0 L Λ b69_0 tm H fun e tm H => match e with
    | .normal => Λ c69_0 tm H
    | .exit i => some (.exit i, tm, H)
    | .goto l => some (.goto l, tm, H)
    | .ret => some (.ret, tm, H) := loop_eq
def c69_1 : ACode := (.scope (.seq (.ops [⟨(some 10), (.call (.c (.clo 72 [])) []), none⟩, ⟨(some 11), (.mkfunc 99 [(.t 3)]), none⟩, ⟨(some 12), (.call (.c (.clo 98 [])) [(.t 10), (.t 11)]), none⟩, ⟨(some 6), (.move (.t 12)), none⟩] []) (.seq (.ops [⟨(some 7), (.alloc none [(.im (.int .i64 0))]), none⟩, ⟨none, (.store 1 (.t 7) (.c (.im (.int .i64 0)))), none⟩] []) (.seq (.label 0) (.seq (.seq (.ops [⟨(some 13), (.move (.t 6)), none⟩, ⟨(some 14), (.lenSl (.t 13)), none⟩, ⟨(some 15), (.move (.c (.im (.int .i64 0)))), none⟩] []) (.block 0 c69_0)) (.seq (.seq (.ops [⟨(some 26), (.load none (.t 2)), none⟩, ⟨(some 27), (.nilCheck (.t 26)), none⟩, ⟨(some 28), (.fieldAddr 1 (.t 27)), none⟩, ⟨(some 29), (.load none (.t 28)), none⟩, ⟨(some 30), (.load none (.t 2)), none⟩, ⟨(some 31), (.nilCheck (.t 30)), none⟩, ⟨(some 32), (.fieldAddr 0 (.t 31)), none⟩, ⟨(some 33), (.load none (.t 32)), none⟩, ⟨(some 34), (.lenStr (.t 33)), none⟩, ⟨(some 35), (.bin .lss (.t 29) (.t 34)), none⟩] []) (.cond (.t 35) (.seq (.ops [⟨(some 36), (.move (.t 6)), none⟩, ⟨(some 37), (.mkfunc 100 [(.t 7), (.t 2)]), none⟩, ⟨(some 38), (.call (.c (.clo 98 [])) [(.t 36), (.t 37)]), none⟩, ⟨(some 6), (.move (.t 38)), none⟩] []) (.seq (.ops [⟨(some 39), (.move (.t 6)), none⟩, ⟨(some 40), (.lenSl (.t 39)), none⟩, ⟨(some 41), (.bin .gtr (.t 40) (.c (.im (.int .i64 0)))), none⟩] []) (.cond (.t 41) (.seq (.ops [⟨(some 42), (.load none (.t 2)), none⟩, ⟨(some 43), (.nilCheck (.t 42)), none⟩, ⟨(some 44), (.fieldAddr 1 (.t 43)), none⟩, ⟨(some 45), (.load none (.t 44)), none⟩, ⟨(some 46), (.bin .add (.t 45) (.c (.im (.int .i64 1)))), none⟩, ⟨(some 47), (.nilCheck (.t 42)), none⟩, ⟨(some 48), (.fieldAddr 1 (.t 47)), none⟩, ⟨none, (.store 1 (.t 48) (.t 46)), none⟩] []) (.seq (.ops [⟨(some 49), (.load none (.t 7)), none⟩, ⟨(some 50), (.bin .add (.t 49) (.c (.im (.int .i64 1)))), none⟩, ⟨none, (.store 1 (.t 7) (.t 50)), none⟩] []) (.goto 0))) .skip))) .skip)) (.seq (.ops [⟨(some 51), (.build [(.im (.int .i64 0)), (.im (.str [])), (.im (.int .i64 0))] []), none⟩, ⟨none, (.store 3 (.t 4) (.t 51)), none⟩, ⟨(some 5), (.move (.c (.im (.bool false)))), none⟩] []) .ret)))))) (.seq (.ops [⟨(some 10), (.call (.c (.clo 72 [])) []), none⟩, ⟨(some 11), (.mkfunc 99 [(.t 3)]), none⟩, ⟨(some 12), (.call (.c (.clo 98 [])) [(.t 10), (.t 11)]), none⟩, ⟨(some 6), (.move (.t 12)), none⟩] []) (.seq (.ops [⟨(some 7), (.alloc none [(.im (.int .i64 0))]), none⟩, ⟨none, (.store 1 (.t 7) (.c (.im (.int .i64 0)))), none⟩] []) (.seq (.label 0) (.seq (.seq (.ops [⟨(some 13), (.move (.t 6)), none⟩, ⟨(some 14), (.lenSl (.t 13)), none⟩, ⟨(some 15), (.move (.c (.im (.int .i64 0)))), none⟩] []) (.block 0 c69_0)) (.seq (.seq (.ops [⟨(some 26), (.load none (.t 2)), none⟩, ⟨(some 27), (.nilCheck (.t 26)), none⟩, ⟨(some 28), (.fieldAddr 1 (.t 27)), none⟩, ⟨(some 29), (.load none (.t 28)), none⟩, ⟨(some 30), (.load none (.t 2)), none⟩, ⟨(some 31), (.nilCheck (.t 30)), none⟩, ⟨(some 32), (.fieldAddr 0 (.t 31)), none⟩, ⟨(some 33), (.load none (.t 32)), none⟩, ⟨(some 34), (.lenStr (.t 33)), none⟩, ⟨(some 35), (.bin .lss (.t 29) (.t 34)), none⟩] []) (.cond (.t 35) (.seq (.ops [⟨(some 36), (.move (.t 6)), none⟩, ⟨(some 37), (.mkfunc 100 [(.t 7), (.t 2)]), none⟩, ⟨(some 38), (.call (.c (.clo 98 [])) [(.t 36), (.t 37)]), none⟩, ⟨(some 6), (.move (.t 38)), none⟩] []) (.seq (.ops [⟨(some 39), (.move (.t 6)), none⟩, ⟨(some 40), (.lenSl (.t 39)), none⟩, ⟨(some 41), (.bin .gtr (.t 40) (.c (.im (.int .i64 0)))), none⟩] []) (.cond (.t 41) (.seq (.ops [⟨(some 42), (.load none (.t 2)), none⟩, ⟨(some 43), (.nilCheck (.t 42)), none⟩, ⟨(some 44), (.fieldAddr 1 (.t 43)), none⟩, ⟨(some 45), (.load none (.t 44)), none⟩, ⟨(some 46), (.bin .add (.t 45) (.c (.im (.int .i64 1)))), none⟩, ⟨(some 47), (.nilCheck (.t 42)), none⟩, ⟨(some 48), (.fieldAddr 1 (.t 47)), none⟩, ⟨none, (.store 1 (.t 48) (.t 46)), none⟩] []) (.seq (.ops [⟨(some 49), (.load none (.t 7)), none⟩, ⟨(some 50), (.bin .add (.t 49) (.c (.im (.int .i64 1)))), none⟩, ⟨none, (.store 1 (.t 7) (.t 50)), none⟩] []) (.goto 0))) .skip))) .skip)) (.seq (.ops [⟨(some 51), (.build [(.im (.int .i64 0)), (.im (.str [])), (.im (.int .i64 0))] []), none⟩, ⟨none, (.store 3 (.t 4) (.t 51)), none⟩, ⟨(some 5), (.move (.c (.im (.bool false)))), none⟩] []) .ret)))))))
theorem e69_1 {R : Type} (Φ : Oracle) (Λ' : ACode → List AV → Heap → Option Out) (tm : List AV) (H : Heap) (K : AEx → List AV → Heap → Option R) : exec0 Φ Λ' c69_1 tm H K = thenL (Λ' c69_1 tm H) K := rfl
def f69 : AFunc := ⟨52, [(4, (some (some 3))), (5, none)], (.seq (.ops [⟨(some 2), (.box none (.t 0)), none⟩, ⟨(some 3), (.box none (.t 1)), none⟩, ⟨(some 4), (.alloc none [(.im (.int .i64 0)), (.im (.str [])), (.im (.int .i64 0))]), none⟩, ⟨(some 5), (.move (.c (.im (.bool false)))), none⟩] []) c69_1), false⟩
theorem F69 : F 69 = some f69 := by kernel_rfl
def f70 : AFunc := ⟨35, [(4, none)], (.seq (.ops [⟨(some 4), (.move (.c (.im (.bool false)))), none⟩] []) (.seq (.seq (.ops [⟨(some 5), (.move (.t 0)), none⟩, ⟨(some 6), (.nilCheck (.t 5)), none⟩, ⟨(some 7), (.fieldAddr 1 (.t 6)), none⟩, ⟨(some 8), (.load none (.t 7)), none⟩, ⟨(some 9), (.move (.t 0)), none⟩, ⟨(some 10), (.nilCheck (.t 9)), none⟩, ⟨(some 11), (.fieldAddr 0 (.t 10)), none⟩, ⟨(some 12), (.load none (.t 11)), none⟩, ⟨(some 13), (.lenStr (.t 12)), none⟩, ⟨(some 14), (.bin .lss (.t 8) (.t 13)), none⟩, ⟨(some 15), (.move (.t 14)), none⟩, ⟨(some 16), (.move (.t 0)), (some (15, true))⟩, ⟨(some 17), (.nilCheck (.t 16)), (some (15, true))⟩, ⟨(some 18), (.fieldAddr 0 (.t 17)), (some (15, true))⟩, ⟨(some 19), (.load none (.t 18)), (some (15, true))⟩, ⟨(some 20), (.move (.t 0)), (some (15, true))⟩, ⟨(some 21), (.nilCheck (.t 20)), (some (15, true))⟩, ⟨(some 22), (.fieldAddr 1 (.t 21)), (some (15, true))⟩, ⟨(some 23), (.load none (.t 22)), (some (15, true))⟩, ⟨(some 24), (.indexStr (.t 19) (.t 23)), (some (15, true))⟩, ⟨(some 25), (.move (.t 1)), (some (15, true))⟩, ⟨(some 26), (.bin .eql (.t 24) (.t 25)), (some (15, true))⟩, ⟨(some 27), (.pick (.t 15) (.t 26) (.c (.im (.bool false)))), none⟩] []) (.cond (.t 27) (.seq (.ops [⟨(some 28), (.move (.t 0)), none⟩, ⟨(some 29), (.nilCheck (.t 28)), none⟩, ⟨(some 30), (.fieldAddr 1 (.t 29)), none⟩, ⟨(some 31), (.load none (.t 30)), none⟩, ⟨(some 32), (.bin .add (.t 31) (.c (.im (.int .i64 1)))), none⟩, ⟨(some 33), (.nilCheck (.t 28)), none⟩, ⟨(some 34), (.fieldAddr 1 (.t 33)), none⟩, ⟨none, (.store 1 (.t 34) (.t 32)), none⟩] []) (.seq (.ops [⟨(some 4), (.move (.c (.im (.bool true)))), none⟩] []) .ret)) .skip)) (.seq (.ops [⟨(some 4), (.move (.c (.im (.bool false)))), none⟩] []) .ret))), false⟩
theorem F70 : F 70 = some f70 := by kernel_rfl
def f71 : AFunc := ⟨18, [(4, none)], (.seq (.ops [⟨(some 4), (.move (.c (.im (.bool false)))), none⟩] []) (.seq (.ops [⟨(some 5), (.move (.t 0)), none⟩, ⟨(some 6), (.lenStr (.t 5)), none⟩, ⟨(some 7), (.move (.t 1)), none⟩, ⟨(some 8), (.lenStr (.t 7)), none⟩, ⟨(some 9), (.bin .leq (.t 6) (.t 8)), none⟩, ⟨(some 10), (.move (.t 9)), none⟩, ⟨(some 11), (.move (.t 1)), (some (10, true))⟩, ⟨(some 12), (.move (.t 0)), (some (10, true))⟩, ⟨(some 13), (.lenStr (.t 12)), (some (10, true))⟩, ⟨(some 14), (.sliceStr (.t 11) none (some (.t 13))), (some (10, true))⟩, ⟨(some 15), (.move (.t 0)), (some (10, true))⟩, ⟨(some 16), (.bin .eql (.t 14) (.t 15)), (some (10, true))⟩, ⟨(some 17), (.pick (.t 10) (.t 16) (.c (.im (.bool false)))), none⟩, ⟨(some 4), (.move (.t 17)), none⟩] []) .ret)), false⟩
theorem F71 : F 71 = some f71 := by kernel_rfl
def f72 : AFunc := ⟨10, [(0, none)], (.seq (.ops [⟨(some 0), (.move (.c .nils)), none⟩] []) (.seq (.ops [⟨(some 1), (.build [(.im (.int .i64 0)), (.im (.str [])), (.im (.int .i64 0))] [(0, (1, (.c (.im (.int .i64 1))))), (1, (1, (.c (.im (.str [98, 111, 111, 108]))))), (2, (1, (.c (.im (.int .i64 0)))))]), none⟩, ⟨(some 2), (.build [(.im (.int .i64 0)), (.im (.str [])), (.im (.int .i64 0))] [(0, (1, (.c (.im (.int .i64 2))))), (1, (1, (.c (.im (.str [105, 110, 116]))))), (2, (1, (.c (.im (.int .i64 0)))))]), none⟩, ⟨(some 3), (.build [(.im (.int .i64 0)), (.im (.str [])), (.im (.int .i64 0))] [(0, (1, (.c (.im (.int .i64 3))))), (1, (1, (.c (.im (.str [116, 101, 120, 116]))))), (2, (1, (.c (.im (.int .i64 0)))))]), none⟩, ⟨(some 4), (.build [(.im (.int .i64 0)), (.im (.str [])), (.im (.int .i64 0))] [(0, (1, (.c (.im (.int .i64 4))))), (1, (1, (.c (.im (.str [98, 121, 116, 101, 115]))))), (2, (1, (.c (.im (.int .i64 0)))))]), none⟩, ⟨(some 5), (.build [(.im (.int .i64 0)), (.im (.str [])), (.im (.int .i64 0))] [(0, (1, (.c (.im (.int .i64 5))))), (1, (1, (.c (.im (.str [112, 111, 105, 110, 116]))))), (2, (1, (.c (.im (.int .i64 0)))))]), none⟩, ⟨(some 6), (.build [(.im (.int .i64 0)), (.im (.str [])), (.im (.int .i64 0))] [(0, (1, (.c (.im (.int .i64 6))))), (1, (1, (.c (.im (.str [112, 97, 105, 114]))))), (2, (1, (.c (.im (.int .i64 2)))))]), none⟩, ⟨(some 7), (.build [(.im (.int .i64 0)), (.im (.str [])), (.im (.int .i64 0))] [(0, (1, (.c (.im (.int .i64 7))))), (1, (1, (.c (.im (.str [108, 105, 115, 116]))))), (2, (1, (.c (.im (.int .i64 1)))))]), none⟩, ⟨(some 8), (.build [(.im (.int .i64 0)), (.im (.str [])), (.im (.int .i64 0))] [(0, (1, (.c (.im (.int .i64 9))))), (1, (1, (.c (.im (.str [111, 112, 116, 105, 111, 110]))))), (2, (1, (.c (.im (.int .i64 1)))))]), none⟩, ⟨(some 9), (.bslice true 3 8 [(.im (.int .i64 0)), (.im (.str [])), (.im (.int .i64 0))] [(0, (.t 1)), (1, (.t 2)), (2, (.t 3)), (3, (.t 4)), (4, (.t 5)), (5, (.t 6)), (6, (.t 7)), (7, (.t 8))]), none⟩, ⟨(some 0), (.move (.t 9)), none⟩] []) .ret)), true⟩
theorem F72 : F 72 = some f72 := by kernel_rfl
def f73 : AFunc := ⟨19, [(4, none), (5, none)], (.seq (.ops [⟨(some 4), (.move (.c (.im (.int .i64 0)))), none⟩, ⟨(some 5), (.move (.c (.im .nili))), none⟩] []) (.seq (.ops [⟨(some 6), (.move (.t 0)), none⟩, ⟨(some 7), (.call (.c (.clo 101 [])) [(.t 6)]), none⟩] []) (.seq (.ops [⟨(some 8), (.move (.t 0)), none⟩, ⟨(some 9), (.move (.t 0)), none⟩, ⟨(some 10), (.nilCheck (.t 9)), none⟩, ⟨(some 11), (.fieldAddr 1 (.t 10)), none⟩, ⟨(some 12), (.load none (.t 11)), none⟩, ⟨(some 13), (.move (.t 1)), none⟩, ⟨(some 14), (.append 5 1 1 (.t 12) (.t 13)), none⟩, ⟨(some 15), (.nilCheck (.t 8)), none⟩, ⟨(some 16), (.fieldAddr 1 (.t 15)), none⟩, ⟨none, (.store 1 (.t 16) (.t 14)), none⟩] []) (.seq (.ops [⟨(some 17), (.move (.t 1)), none⟩, ⟨(some 18), (.lenStr (.t 17)), none⟩, ⟨(some 4), (.move (.t 18)), none⟩, ⟨(some 5), (.move (.c (.im .nili))), none⟩] []) .ret)))), false⟩
theorem F73 : F 73 = some f73 := by kernel_rfl
def f74 : AFunc := ⟨17, [(4, none)], (.seq (.ops [⟨(some 4), (.move (.c (.im .nili))), none⟩] []) (.seq (.ops [⟨(some 5), (.move (.t 0)), none⟩, ⟨(some 6), (.call (.c (.clo 101 [])) [(.t 5)]), none⟩] []) (.seq (.ops [⟨(some 7), (.move (.t 0)), none⟩, ⟨(some 8), (.move (.t 0)), none⟩, ⟨(some 9), (.nilCheck (.t 8)), none⟩, ⟨(some 10), (.fieldAddr 1 (.t 9)), none⟩, ⟨(some 11), (.load none (.t 10)), none⟩, ⟨(some 12), (.move (.t 1)), none⟩, ⟨(some 13), (.bslice false 1 1 [(.im (.int .u8 0))] [(0, (.t 12))]), none⟩, ⟨(some 14), (.append 5 1 1 (.t 11) (.t 13)), none⟩, ⟨(some 15), (.nilCheck (.t 7)), none⟩, ⟨(some 16), (.fieldAddr 1 (.t 15)), none⟩, ⟨none, (.store 1 (.t 16) (.t 14)), none⟩] []) (.seq (.ops [⟨(some 4), (.move (.c (.im .nili))), none⟩] []) .ret)))), false⟩
theorem F74 : F 74 = some f74 := by kernel_rfl
def b75_0 : ACode := (.seq (.ops [⟨(some 18), (.bin .lss (.t 17) (.t 16)), none⟩] []) (.seq (.cond (.t 18) .skip (.exit 0)) (.seq (.block 1 (.seq (.ops [⟨(some 19), (.move (.t 17)), none⟩, ⟨(some 20), (.indexSl 2 (.t 15) (.t 17)), none⟩, ⟨(some 21), (.load (some 2) (.t 20)), none⟩, ⟨(some 8), (.alloc none [(.im (.int .i64 0)), .nils]), none⟩, ⟨(some 7), (.move (.t 19)), none⟩, ⟨none, (.store 2 (.t 8) (.t 21)), none⟩] []) (.seq (.ops [⟨(some 22), (.move (.t 1)), none⟩, ⟨(some 23), (.move (.t 7)), none⟩, ⟨(some 24), (.indexSl 2 (.t 22) (.t 23)), none⟩, ⟨(some 25), (.load (some 2) (.t 24)), none⟩, ⟨(some 9), (.alloc none [(.im (.int .i64 0)), .nils]), none⟩, ⟨none, (.store 2 (.t 9) (.t 25)), none⟩] []) (.seq (.ops [⟨(some 26), (.move (.t 2)), none⟩, ⟨(some 27), (.load (some 2) (.t 8)), none⟩, ⟨(some 28), (.load (some 2) (.t 9)), none⟩, ⟨(some 29), (.call (.t 26) [(.t 27), (.t 28)]), none⟩, ⟨(some 30), (.un .not (.t 29)), none⟩] []) (.cond (.t 30) (.seq (.ops [⟨(some 6), (.move (.c (.im (.bool false)))), none⟩] []) .ret) .skip))))) (.ops [⟨(some 31), (.bin .add (.t 17) (.c (.im (.int .i64 1)))), none⟩, ⟨(some 17), (.move (.t 31)), none⟩] []))))
def c75_0 : ACode := .loop b75_0
theorem e75_0 {R : Type} (Φ : Oracle) (Λ' : ACode → List AV → Heap → Option Out) (tm : List AV) (H : Heap) (K : AEx → List AV → Heap → Option R) : exec0 Φ Λ' c75_0 tm H K = thenL (Λ' c75_0 tm H) K := rfl
theorem l75_0 (tm : List AV) (H : Heap) : Λ c75_0 tm H = exec0 L Λ b75_0 tm H fun e tm H => match e with
    | .normal => Λ c75_0 tm H
    | .exit i => some (.exit i, tm, H)
    | .goto l => some (.goto l, tm, H)
    | .ret => some (.ret, tm, H) := loop_eq
def f75 : AFunc := ⟨32, [(6, none)], (.seq (.ops [⟨(some 6), (.move (.c (.im (.bool false)))), none⟩] []) (.seq (.seq (.ops [⟨(some 10), (.move (.t 0)), none⟩, ⟨(some 11), (.lenSl (.t 10)), none⟩, ⟨(some 12), (.move (.t 1)), none⟩, ⟨(some 13), (.lenSl (.t 12)), none⟩, ⟨(some 14), (.bin .neq (.t 11) (.t 13)), none⟩] []) (.cond (.t 14) (.seq (.ops [⟨(some 6), (.move (.c (.im (.bool false)))), none⟩] []) .ret) .skip)) (.seq (.seq (.ops [⟨(some 15), (.move (.t 0)), none⟩, ⟨(some 16), (.lenSl (.t 15)), none⟩, ⟨(some 17), (.move (.c (.im (.int .i64 0)))), none⟩] []) (.block 0 c75_0)) (.seq (.ops [⟨(some 6), (.move (.c (.im (.bool true)))), none⟩] []) .ret)))), false⟩
theorem F75 : F 75 = some f75 := by kernel_rfl
def b76_0 : ACode := (.seq (.ops [⟨(some 9), (.bin .lss (.t 8) (.t 7)), none⟩] []) (.seq (.cond (.t 9) .skip (.exit 0)) (.seq (.block 1 (.seq (.ops [⟨(some 10), (.move (.t 8)), none⟩, ⟨(some 5), (.move (.t 10)), none⟩] []) (.seq (.ops [⟨(some 11), (.move (.t 1)), none⟩, ⟨(some 12), (.move (.t 0)), none⟩, ⟨(some 13), (.move (.t 5)), none⟩, ⟨(some 14), (.indexSl 3 (.t 12) (.t 13)), none⟩, ⟨(some 15), (.load (some 3) (.t 14)), none⟩, ⟨(some 16), (.call (.t 11) [(.t 15)]), none⟩] []) (.cond (.t 16) (.seq (.ops [⟨(some 17), (.move (.t 5)), none⟩, ⟨(some 4), (.move (.t 17)), none⟩] []) .ret) .skip)))) (.ops [⟨(some 18), (.bin .add (.t 8) (.c (.im (.int .i64 1)))), none⟩, ⟨(some 8), (.move (.t 18)), none⟩] []))))
def c76_0 : ACode := .loop b76_0
theorem e76_0 {R : Type} (Φ : Oracle) (Λ' : ACode → List AV → Heap → Option Out) (tm : List AV) (H : Heap) (K : AEx → List AV → Heap → Option R) : exec0 Φ Λ' c76_0 tm H K = thenL (Λ' c76_0 tm H) K := rfl
theorem l76_0 (tm : List AV) (H : Heap) : Λ c76_0 tm H = exec0 L Λ b76_0 tm H fun e tm H => match e with
    | .normal => Λ c76_0 tm H
    | .exit i => some (.exit i, tm, H)
    | .goto l => some (.goto l, tm, H)
    | .ret => some (.ret, tm, H) := loop_eq
def f76 : AFunc := ⟨19, [(4, none)], (.seq (.ops [⟨(some 4), (.move (.c (.im (.int .i64 0)))), none⟩] []) (.seq (.seq (.ops [⟨(some 6), (.move (.t 0)), none⟩, ⟨(some 7), (.lenSl (.t 6)), none⟩, ⟨(some 8), (.move (.c (.im (.int .i64 0)))), none⟩] []) (.block 0 c76_0)) (.seq (.ops [⟨(some 4), (.move (.c (.im (.int .i64 (-1))))), none⟩] []) .ret))), false⟩
theorem F76 : F 76 = some f76 := by kernel_rfl
def f77 : AFunc := ⟨9, [(3, none)], (.seq (.ops [⟨(some 2), (.box none (.t 0)), none⟩, ⟨(some 3), (.move (.c (.im (.bool false)))), none⟩] []) (.seq (.ops [⟨(some 4), (.fieldAddr 0 (.t 2)), none⟩, ⟨(some 5), (.load none (.t 4)), none⟩, ⟨(some 6), (.fieldAddr 0 (.t 1)), none⟩, ⟨(some 7), (.load none (.t 6)), none⟩, ⟨(some 8), (.bin .eql (.t 5) (.t 7)), none⟩, ⟨(some 3), (.move (.t 8)), none⟩] []) .ret)), false⟩
theorem F77 : F 77 = some f77 := by kernel_rfl
def f78 : AFunc := ⟨9, [(4, none)], (.seq (.ops [⟨(some 4), (.move (.c (.im (.bool false)))), none⟩] []) (.seq (.ops [⟨(some 5), (.move (.t 0)), none⟩, ⟨(some 6), (.move (.t 1)), none⟩, ⟨(some 7), (.call (.c (.clo 102 [])) [(.t 5), (.t 6)]), none⟩, ⟨(some 8), (.bin .geq (.t 7) (.c (.im (.int .i64 0)))), none⟩, ⟨(some 4), (.move (.t 8)), none⟩] []) .ret)), false⟩
theorem F78 : F 78 = some f78 := by kernel_rfl
def f79 : AFunc := ⟨9, [(3, none)], (.seq (.ops [⟨(some 2), (.box none (.t 0)), none⟩, ⟨(some 3), (.move (.c (.im (.bool false)))), none⟩] []) (.seq (.ops [⟨(some 4), (.load (some 2) (.t 2)), none⟩, ⟨(some 5), (.load none (.t 1)), none⟩, ⟨(some 6), (.bin .sub (.t 5) (.c (.im (.int .i64 1)))), none⟩, ⟨(some 7), (.call (.c (.clo 51 [])) [(.t 4), (.t 6)]), none⟩, ⟨(some 8), (.un .not (.t 7)), none⟩, ⟨(some 3), (.move (.t 8)), none⟩] []) .ret)), false⟩
theorem F79 : F 79 = some f79 := by kernel_rfl
def b98_0 : ACode := (.seq (.seq (.ops [⟨(some 16), (.move (.t 6)), none⟩, ⟨(some 17), (.move (.t 0)), none⟩, ⟨(some 18), (.lenSl (.t 17)), none⟩, ⟨(some 19), (.bin .lss (.t 16) (.t 18)), none⟩] []) (.cond (.t 19) .skip (.exit 0))) (.seq (.block 1 (.seq (.ops [⟨(some 22), (.move (.t 0)), none⟩, ⟨(some 23), (.move (.t 6)), none⟩, ⟨(some 24), (.indexSl 3 (.t 22) (.t 23)), none⟩, ⟨(some 25), (.load (some 3) (.t 24)), none⟩, ⟨(some 7), (.alloc none [(.im (.int .i64 0)), (.im (.str [])), (.im (.int .i64 0))]), none⟩, ⟨none, (.store 3 (.t 7) (.t 25)), none⟩] []) (.seq (.ops [⟨(some 26), (.move (.t 1)), none⟩, ⟨(some 27), (.load (some 3) (.t 7)), none⟩, ⟨(some 28), (.call (.t 26) [(.t 27)]), none⟩, ⟨(some 29), (.un .not (.t 28)), none⟩] []) (.cond (.t 29) (.seq (.ops [⟨(some 30), (.move (.t 0)), none⟩, ⟨(some 31), (.move (.t 5)), none⟩, ⟨(some 32), (.load (some 3) (.t 7)), none⟩, ⟨(some 33), (.indexSl 3 (.t 30) (.t 31)), none⟩, ⟨none, (.store 3 (.t 33) (.t 32)), none⟩] []) (.ops [⟨(some 34), (.move (.t 5)), none⟩, ⟨(some 35), (.bin .add (.t 34) (.c (.im (.int .i64 1)))), none⟩, ⟨(some 5), (.move (.t 35)), none⟩] [])) .skip)))) (.ops [⟨(some 20), (.move (.t 6)), none⟩, ⟨(some 21), (.bin .add (.t 20) (.c (.im (.int .i64 1)))), none⟩, ⟨(some 6), (.move (.t 21)), none⟩] [])))
def c98_0 : ACode := .loop b98_0
theorem e98_0 {R : Type} (Φ : Oracle) (Λ' : ACode → List AV → Heap → Option Out) (tm : List AV) (H : Heap) (K : AEx → List AV → Heap → Option R) : exec0 Φ Λ' c98_0 tm H K = thenL (Λ' c98_0 tm H) K := rfl
theorem l98_0 (tm : List AV) (H : Heap) : Λ c98_0 tm H = exec0 L Λ b98_0 tm H fun e tm H => match e with
    | .normal => Λ c98_0 tm H
    | .exit i => some (.exit i, tm, H)
    | .goto l => some (.goto l, tm, H)
    | .ret => some (.ret, tm, H) := loop_eq
def f98 : AFunc := ⟨42, [(4, none)], (.seq (.ops [⟨(some 4), (.move (.c .nils)), none⟩] []) (.seq (.ops [⟨(some 8), (.move (.t 0)), none⟩, ⟨(some 9), (.move (.t 1)), none⟩, ⟨(some 10), (.call (.c (.clo 76 [])) [(.t 8), (.t 9)]), none⟩, ⟨(some 5), (.move (.t 10)), none⟩] []) (.seq (.seq (.ops [⟨(some 11), (.move (.t 5)), none⟩, ⟨(some 12), (.bin .eql (.t 11) (.c (.im (.int .i64 (-1))))), none⟩] []) (.cond (.t 12) (.seq (.ops [⟨(some 13), (.move (.t 0)), none⟩, ⟨(some 4), (.move (.t 13)), none⟩] []) .ret) .skip)) (.seq (.seq (.ops [⟨(some 14), (.move (.t 5)), none⟩, ⟨(some 15), (.bin .add (.t 14) (.c (.im (.int .i64 1)))), none⟩, ⟨(some 6), (.move (.t 15)), none⟩] []) (.block 0 c98_0)) (.seq (.ops [⟨(some 36), (.move (.t 0)), none⟩, ⟨(some 37), (.move (.t 5)), none⟩, ⟨(some 38), (.slice 3 (.t 36) (some (.t 37)) none none), none⟩, ⟨none, (.clear 3 [(.im (.int .i64 0)), (.im (.str [])), (.im (.int .i64 0))] (.t 38)), none⟩] []) (.seq (.ops [⟨(some 39), (.move (.t 0)), none⟩, ⟨(some 40), (.move (.t 5)), none⟩, ⟨(some 41), (.slice 3 (.t 39) none (some (.t 40)) none), none⟩, ⟨(some 4), (.move (.t 41)), none⟩] []) .ret)))))), true⟩
theorem F98 : F 98 = some f98 := by kernel_rfl
def f99 : AFunc := ⟨11, [(3, none)], (.seq (.ops [⟨(some 2), (.box none (.t 0)), none⟩, ⟨(some 3), (.move (.c (.im (.bool false)))), none⟩] []) (.seq (.ops [⟨(some 4), (.fieldAddr 2 (.t 2)), none⟩, ⟨(some 5), (.load none (.t 4)), none⟩, ⟨(some 6), (.bin .gtr (.t 5) (.c (.im (.int .i64 0)))), none⟩, ⟨(some 7), (.move (.t 6)), none⟩, ⟨(some 8), (.load none (.t 1)), (some (7, true))⟩, ⟨(some 9), (.bin .eql (.t 8) (.c (.im (.int .i64 1)))), (some (7, true))⟩, ⟨(some 10), (.pick (.t 7) (.t 9) (.c (.im (.bool false)))), none⟩, ⟨(some 3), (.move (.t 10)), none⟩] []) .ret)), false⟩
theorem F99 : F 99 = some f99 := by kernel_rfl
def f100 : AFunc := ⟨19, [(4, none)], (.seq (.ops [⟨(some 3), (.box none (.t 0)), none⟩, ⟨(some 4), (.move (.c (.im (.bool false)))), none⟩] []) (.seq (.ops [⟨(some 5), (.fieldAddr 1 (.t 3)), none⟩, ⟨(some 6), (.load none (.t 5)), none⟩, ⟨(some 7), (.load none (.t 1)), none⟩, ⟨(some 8), (.indexStr (.t 6) (.t 7)), none⟩, ⟨(some 9), (.load none (.t 2)), none⟩, ⟨(some 10), (.nilCheck (.t 9)), none⟩, ⟨(some 11), (.fieldAddr 0 (.t 10)), none⟩, ⟨(some 12), (.load none (.t 11)), none⟩, ⟨(some 13), (.load none (.t 2)), none⟩, ⟨(some 14), (.nilCheck (.t 13)), none⟩, ⟨(some 15), (.fieldAddr 1 (.t 14)), none⟩, ⟨(some 16), (.load none (.t 15)), none⟩, ⟨(some 17), (.indexStr (.t 12) (.t 16)), none⟩, ⟨(some 18), (.bin .neq (.t 8) (.t 17)), none⟩, ⟨(some 4), (.move (.t 18)), none⟩] []) .ret)), false⟩
theorem F100 : F 100 = some f100 := by kernel_rfl
def b102_0 : ACode := (.seq (.ops [⟨(some 9), (.bin .lss (.t 8) (.t 7)), none⟩] []) (.seq (.cond (.t 9) .skip (.exit 0)) (.seq (.block 1 (.seq (.ops [⟨(some 10), (.move (.t 8)), none⟩, ⟨(some 5), (.move (.t 10)), none⟩] []) (.seq (.ops [⟨(some 11), (.move (.t 1)), none⟩, ⟨(some 12), (.move (.t 0)), none⟩, ⟨(some 13), (.move (.t 5)), none⟩, ⟨(some 14), (.indexSl 2 (.t 12) (.t 13)), none⟩, ⟨(some 15), (.load (some 2) (.t 14)), none⟩, ⟨(some 16), (.call (.t 11) [(.t 15)]), none⟩] []) (.cond (.t 16) (.seq (.ops [⟨(some 17), (.move (.t 5)), none⟩, ⟨(some 4), (.move (.t 17)), none⟩] []) .ret) .skip)))) (.ops [⟨(some 18), (.bin .add (.t 8) (.c (.im (.int .i64 1)))), none⟩, ⟨(some 8), (.move (.t 18)), none⟩] []))))
def c102_0 : ACode := .loop b102_0
theorem e102_0 {R : Type} (Φ : Oracle) (Λ' : ACode → List AV → Heap → Option Out) (tm : List AV) (H : Heap) (K : AEx → List AV → Heap → Option R) : exec0 Φ Λ' c102_0 tm H K = thenL (Λ' c102_0 tm H) K := rfl
theorem l102_0 (tm : List AV) (H : Heap) : Λ c102_0 tm H = exec0 L Λ b102_0 tm H fun e tm H => match e with
    | .normal => Λ c102_0 tm H
    | .exit i => some (.exit i, tm, H)
    | .goto l => some (.goto l, tm, H)
    | .ret => some (.ret, tm, H) := loop_eq
def f102 : AFunc := ⟨19, [(4, none)], (.seq (.ops [⟨(some 4), (.move (.c (.im (.int .i64 0)))), none⟩] []) (.seq (.seq (.ops [⟨(some 6), (.move (.t 0)), none⟩, ⟨(some 7), (.lenSl (.t 6)), none⟩, ⟨(some 8), (.move (.c (.im (.int .i64 0)))), none⟩] []) (.block 0 c102_0)) (.seq (.ops [⟨(some 4), (.move (.c (.im (.int .i64 (-1))))), none⟩] []) .ret))), false⟩
theorem F102 : F 102 = some f102 := by kernel_rfl
def T : FuncId → Option AFunc := fun n =>
  if n = 3 then some f3 else
  if n = 4 then some f4 else
  if n = 5 then some f5 else
  if n = 6 then some f6 else
  if n = 11 then some f11 else
  if n = 12 then some f12 else
  if n = 13 then some f13 else
  if n = 14 then some f14 else
  if n = 15 then some f15 else
  if n = 16 then some f16 else
  if n = 17 then some f17 else
  if n = 18 then some f18 else
  if n = 19 then some f19 else
  if n = 20 then some f20 else
  if n = 21 then some f21 else
  if n = 22 then some f22 else
  if n = 23 then some f23 else
  if n = 45 then some f45 else
  if n = 46 then some f46 else
  if n = 47 then some f47 else
  if n = 48 then some f48 else
  if n = 50 then some f50 else
  if n = 51 then some f51 else
  if n = 52 then some f52 else
  if n = 53 then some f53 else
  if n = 69 then some f69 else
  if n = 70 then some f70 else
  if n = 71 then some f71 else
  if n = 72 then some f72 else
  if n = 73 then some f73 else
  if n = 74 then some f74 else
  if n = 75 then some f75 else
  if n = 76 then some f76 else
  if n = 77 then some f77 else
  if n = 78 then some f78 else
  if n = 79 then some f79 else
  if n = 98 then some f98 else
  if n = 99 then some f99 else
  if n = 100 then some f100 else
  if n = 102 then some f102 else
  none
end Go.Abs.Seat
end
section
set_option linter.unusedVariables false
set_option linter.unusedSimpArgs false
/- The table's functions are the program's, and hold no place. -/
namespace Go.Abs.Seat
open Go.Proofs
set_option maxRecDepth 10000 in
theorem Tok (f : FuncId) (af : AFunc) (h : T f = some af) : F f = some af ∧ closedC af.code = true := by
  unfold T at h
  by_cases h3 : f = 3
  · subst h3; rw [if_pos rfl] at h; injection h with h; subst h; exact ⟨F3, by kernel_rfl⟩
  rw [if_neg h3] at h
  by_cases h4 : f = 4
  · subst h4; rw [if_pos rfl] at h; injection h with h; subst h; exact ⟨F4, by kernel_rfl⟩
  rw [if_neg h4] at h
  by_cases h5 : f = 5
  · subst h5; rw [if_pos rfl] at h; injection h with h; subst h; exact ⟨F5, by kernel_rfl⟩
  rw [if_neg h5] at h
  by_cases h6 : f = 6
  · subst h6; rw [if_pos rfl] at h; injection h with h; subst h; exact ⟨F6, by kernel_rfl⟩
  rw [if_neg h6] at h
  by_cases h11 : f = 11
  · subst h11; rw [if_pos rfl] at h; injection h with h; subst h; exact ⟨F11, by kernel_rfl⟩
  rw [if_neg h11] at h
  by_cases h12 : f = 12
  · subst h12; rw [if_pos rfl] at h; injection h with h; subst h; exact ⟨F12, by kernel_rfl⟩
  rw [if_neg h12] at h
  by_cases h13 : f = 13
  · subst h13; rw [if_pos rfl] at h; injection h with h; subst h; exact ⟨F13, by kernel_rfl⟩
  rw [if_neg h13] at h
  by_cases h14 : f = 14
  · subst h14; rw [if_pos rfl] at h; injection h with h; subst h; exact ⟨F14, by kernel_rfl⟩
  rw [if_neg h14] at h
  by_cases h15 : f = 15
  · subst h15; rw [if_pos rfl] at h; injection h with h; subst h; exact ⟨F15, by kernel_rfl⟩
  rw [if_neg h15] at h
  by_cases h16 : f = 16
  · subst h16; rw [if_pos rfl] at h; injection h with h; subst h; exact ⟨F16, by kernel_rfl⟩
  rw [if_neg h16] at h
  by_cases h17 : f = 17
  · subst h17; rw [if_pos rfl] at h; injection h with h; subst h; exact ⟨F17, by kernel_rfl⟩
  rw [if_neg h17] at h
  by_cases h18 : f = 18
  · subst h18; rw [if_pos rfl] at h; injection h with h; subst h; exact ⟨F18, by kernel_rfl⟩
  rw [if_neg h18] at h
  by_cases h19 : f = 19
  · subst h19; rw [if_pos rfl] at h; injection h with h; subst h; exact ⟨F19, by kernel_rfl⟩
  rw [if_neg h19] at h
  by_cases h20 : f = 20
  · subst h20; rw [if_pos rfl] at h; injection h with h; subst h; exact ⟨F20, by kernel_rfl⟩
  rw [if_neg h20] at h
  by_cases h21 : f = 21
  · subst h21; rw [if_pos rfl] at h; injection h with h; subst h; exact ⟨F21, by kernel_rfl⟩
  rw [if_neg h21] at h
  by_cases h22 : f = 22
  · subst h22; rw [if_pos rfl] at h; injection h with h; subst h; exact ⟨F22, by kernel_rfl⟩
  rw [if_neg h22] at h
  by_cases h23 : f = 23
  · subst h23; rw [if_pos rfl] at h; injection h with h; subst h; exact ⟨F23, by kernel_rfl⟩
  rw [if_neg h23] at h
  by_cases h45 : f = 45
  · subst h45; rw [if_pos rfl] at h; injection h with h; subst h; exact ⟨F45, by kernel_rfl⟩
  rw [if_neg h45] at h
  by_cases h46 : f = 46
  · subst h46; rw [if_pos rfl] at h; injection h with h; subst h; exact ⟨F46, by kernel_rfl⟩
  rw [if_neg h46] at h
  by_cases h47 : f = 47
  · subst h47; rw [if_pos rfl] at h; injection h with h; subst h; exact ⟨F47, by kernel_rfl⟩
  rw [if_neg h47] at h
  by_cases h48 : f = 48
  · subst h48; rw [if_pos rfl] at h; injection h with h; subst h; exact ⟨F48, by kernel_rfl⟩
  rw [if_neg h48] at h
  by_cases h50 : f = 50
  · subst h50; rw [if_pos rfl] at h; injection h with h; subst h; exact ⟨F50, by kernel_rfl⟩
  rw [if_neg h50] at h
  by_cases h51 : f = 51
  · subst h51; rw [if_pos rfl] at h; injection h with h; subst h; exact ⟨F51, by kernel_rfl⟩
  rw [if_neg h51] at h
  by_cases h52 : f = 52
  · subst h52; rw [if_pos rfl] at h; injection h with h; subst h; exact ⟨F52, by kernel_rfl⟩
  rw [if_neg h52] at h
  by_cases h53 : f = 53
  · subst h53; rw [if_pos rfl] at h; injection h with h; subst h; exact ⟨F53, by kernel_rfl⟩
  rw [if_neg h53] at h
  by_cases h69 : f = 69
  · subst h69; rw [if_pos rfl] at h; injection h with h; subst h; exact ⟨F69, by kernel_rfl⟩
  rw [if_neg h69] at h
  by_cases h70 : f = 70
  · subst h70; rw [if_pos rfl] at h; injection h with h; subst h; exact ⟨F70, by kernel_rfl⟩
  rw [if_neg h70] at h
  by_cases h71 : f = 71
  · subst h71; rw [if_pos rfl] at h; injection h with h; subst h; exact ⟨F71, by kernel_rfl⟩
  rw [if_neg h71] at h
  by_cases h72 : f = 72
  · subst h72; rw [if_pos rfl] at h; injection h with h; subst h; exact ⟨F72, by kernel_rfl⟩
  rw [if_neg h72] at h
  by_cases h73 : f = 73
  · subst h73; rw [if_pos rfl] at h; injection h with h; subst h; exact ⟨F73, by kernel_rfl⟩
  rw [if_neg h73] at h
  by_cases h74 : f = 74
  · subst h74; rw [if_pos rfl] at h; injection h with h; subst h; exact ⟨F74, by kernel_rfl⟩
  rw [if_neg h74] at h
  by_cases h75 : f = 75
  · subst h75; rw [if_pos rfl] at h; injection h with h; subst h; exact ⟨F75, by kernel_rfl⟩
  rw [if_neg h75] at h
  by_cases h76 : f = 76
  · subst h76; rw [if_pos rfl] at h; injection h with h; subst h; exact ⟨F76, by kernel_rfl⟩
  rw [if_neg h76] at h
  by_cases h77 : f = 77
  · subst h77; rw [if_pos rfl] at h; injection h with h; subst h; exact ⟨F77, by kernel_rfl⟩
  rw [if_neg h77] at h
  by_cases h78 : f = 78
  · subst h78; rw [if_pos rfl] at h; injection h with h; subst h; exact ⟨F78, by kernel_rfl⟩
  rw [if_neg h78] at h
  by_cases h79 : f = 79
  · subst h79; rw [if_pos rfl] at h; injection h with h; subst h; exact ⟨F79, by kernel_rfl⟩
  rw [if_neg h79] at h
  by_cases h98 : f = 98
  · subst h98; rw [if_pos rfl] at h; injection h with h; subst h; exact ⟨F98, by kernel_rfl⟩
  rw [if_neg h98] at h
  by_cases h99 : f = 99
  · subst h99; rw [if_pos rfl] at h; injection h with h; subst h; exact ⟨F99, by kernel_rfl⟩
  rw [if_neg h99] at h
  by_cases h100 : f = 100
  · subst h100; rw [if_pos rfl] at h; injection h with h; subst h; exact ⟨F100, by kernel_rfl⟩
  rw [if_neg h100] at h
  by_cases h102 : f = 102
  · subst h102; rw [if_pos rfl] at h; injection h with h; subst h; exact ⟨F102, by kernel_rfl⟩
  rw [if_neg h102] at h
  simp at h
theorem bsh : ∀ n H0, n = H0.length → ShO n H0 bld bld := fun _ _ h => cmpO_sh (bldA_sh h 101 49 94 5)
theorem Tno (f : FuncId) (_ : T f = none) : F f = none ∨ ∀ args H, bld f args H = none := by
  by_cases h1 : f = 101
  · subst h1; left; kernel_rfl
  by_cases h2 : f = 49
  · subst h2; left; kernel_rfl
  by_cases h3 : f = 105
  · subst h3; left; kernel_rfl
  right
  intro args H
  simp only [bld, cmpO, bldA, h1, h2, h3, if_false]
end Go.Abs.Seat
end
