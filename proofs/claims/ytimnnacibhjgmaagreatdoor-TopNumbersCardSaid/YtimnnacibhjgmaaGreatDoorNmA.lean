/-
  TopNumbers answers true for every list of pieces and every bytes behind, and leaves them as they were; conditions: the listed package variables hold what the program's text lays (tied by the card).
-/
import Derived.Test.YtimnnacibhjgmaaGreatDoorSx
import Derived.Test.YtimnnacibhjgmaaGreatDoorTab
import Derived.Test.YtimnnacibhjgmaaGreatDoorPl

namespace Go.Abs
open Go Go.Proofs Go.RowKit
/-- What is remembered: the worked example. -/
def tfine : Table := [(15, [], .bool true)]
noncomputable abbrev E0 : Env := B.env tfine
theorem memo0 (f : FuncId) (vs : List Value) (h : f ≠ 15) : E0.memo f vs = none := by
  show look tfine f vs = none
  unfold tfine look
  have : ((15 : Nat) == f) = false := by simpa using fun h2 => h h2.symm
  rw [this]
  rfl
theorem fine_ok (S : St) (K : Value → St → Prop) (τ) : RL E0 15 [] S K τ ↔ K (.bool true) S := callR_memo rfl S K
theorem okf0 (f) : E0.okf f = true := rfl
set_option linter.unusedSimpArgs false
set_option maxRecDepth 100000
theorem ty3 : E0.P.underlying 3 = some (.int .i64) := keepEq (by kernel_rfl)
theorem ty4 : E0.P.underlying 4 = some .bool := keepEq (by kernel_rfl)
theorem ty5 : E0.P.underlying 5 = some (.int .u8) := keepEq (by kernel_rfl)
theorem ty9 : E0.P.underlying 9 = some .string := keepEq (by kernel_rfl)
theorem und73 : E0.P.underlying 73 = some (.slice 5) := keepEq (by kernel_rfl)
theorem und49 : E0.P.underlying 49 = some (.slice 3) := keepEq (by kernel_rfl)
theorem sz3 : szOf E0 3 = some 1 := keepEq (by kernel_rfl)
theorem sz5 : szOf E0 5 = some 1 := keepEq (by kernel_rfl)
theorem sz9 : szOf E0 9 = some 1 := keepEq (by kernel_rfl)
theorem inf5 : (E0.P.info? 5).map (fun i => (i.size, i.bytes, i.zero.map (·.cells))) = some (1, 1, some #[.int .u8 0]) := keepEq (by kernel_rfl)
theorem wrap64 (n : Int) (h0 : 0 ≤ n) (h1 : n < 9223372036854775808) : IntKind.i64.wrap n = n := wrap_i64_small n h0 h1
theorem wrap64s (n : Int) (h0 : -9223372036854775808 ≤ n) (h1 : n < 9223372036854775808) : IntKind.i64.wrap n = n := by
  unfold IntKind.wrap
  simp only [IntKind.bits, IntKind.signed, Bool.true_and]
  split
  · rename_i h; simp at h; omega
  · rename_i h; simp at h; omega
theorem str_toList (l : List UInt8) : (str l).data.toList = l := by simp [str]
theorem str_inj {a b : List UInt8} : str a = str b ↔ a = b := by
  constructor
  · intro h
    have := congrArg (fun s => s.data.toList) h
    simpa [str_toList] using this
  · rintro rfl; rfl
theorem str_append (a b : List UInt8) : str a ++ str b = str (a ++ b) := by
  have : (str a ++ str b).data.toList = (str (a ++ b)).data.toList := by simp [str_toList]
  exact ByteArray.ext (Array.toList_inj.1 this)
theorem cat (t x y) (a b : List UInt8) (h : a.length + b.length < 2^62) (S) : binA E0 .add t x y (.string (str a)) (.string (str b)) S = some (.value (.string (str (a ++ b))), S) := by
  rw [bin_s_add _ _ _ _ _ _ (by rw [str_size, str_size]; show ((a.length + b.length : Nat) : Int) ≤ 9223372036854775807; omega), str_append]
theorem strE (l : List UInt8) : decide (str l = ⟨#[]⟩) = decide (l = []) := decide_eq_decide.2 (str_inj (b := []))
theorem strEq (a b : List UInt8) : decide (str a = str b) = decide (a = b) := decide_eq_decide.2 str_inj
theorem ixS (l : List UInt8) (k : IntKind) (i : Nat) (h : i < l.length) (S : St) : idxA E0 9 (.string (str l)) (.int k i) S = some (.value (.int .u8 (l.getD i 0).toNat), S) := by
  have hi : ((i : Int).toNat) < (str l).size := by rw [str_size]; simpa using h
  rw [idx_str ty9 (str l) k i (by omega) hi S]
  congr 4
  show (((str l).data[(i : Int).toNat]'hi).toNat : Int) = _
  simp [str, h]
theorem ixS0 (l : List UInt8) (k : IntKind) (h : 0 < l.length) (S : St) : idxA E0 9 (.string (str l)) (.int k 0) S = some (.value (.int .u8 (l.getD 0 0).toNat), S) := ixS l k 0 h S
theorem lenS (l : List UInt8) (S : St) : lenA E0 9 (.string (str l)) S = some (.value (.int .i64 l.length), S) := by
  rw [len_str ty9, str_size]
theorem w_unroll {b t S Q τ} : RC E0 (.loop b) t S Q τ ↔ RC E0 b t S (SK E0 (.loop b) Q ⟨⟩) ⟨⟩ := runC_loop ..
/-- From a place to another one. -/
theorem sliceLo (l : List UInt8) (k : IntKind) (i : Nat) (h : i ≤ l.length) (S : St) : sliceA E0 9 (.string (str l)) (some (.int k i)) none none S = some (.value (.string (str (l.drop i))), S) := by
  rw [slice_strLo ty9 _ k i (by omega) (by rw [str_size]; omega)]
  congr 4
  apply ByteArray.ext
  apply Array.toList_inj.1
  have e : (str l).size - i = (l.drop i).length := by rw [str_size, List.length_drop]
  rw [ByteArray.data_extract]
  simp only [Array.toList_extract, str_toList, Int.toNat_natCast]
  show List.take ((str l).size - i) (List.drop i l) = _
  rw [e, List.take_length]
theorem sliceHi (l : List UInt8) (k : IntKind) (i : Nat) (h : i ≤ l.length) (S : St) : sliceA E0 9 (.string (str l)) none (some (.int k i)) none S = some (.value (.string (str (l.take i))), S) := by
  rw [slice_strHi ty9 _ k i (by omega) (by rw [str_size]; omega)]
  congr 4
  apply ByteArray.ext
  apply Array.toList_inj.1
  simp [str, ByteArray.data_extract]
theorem ret2 (a b : Value) (S K S1) (h : S.n ≤ S1.low) (ha : pf a = true) (hb : pf b = true) : retV [a, b] S K S1 ↔ K (.tuple #[a, b]) S :=
  retV_pure [a, b] S K S1 h (by simp [tupled, pf, pfA, pfL, ha, hb])
theorem ret3 (a b c : Value) (S K S1) (h : S.n ≤ S1.low) (ha : pf a = true) (hb : pf b = true) (hc : pf c = true) : retV [a, b, c] S K S1 ↔ K (.tuple #[a, b, c]) S :=
  retV_pure [a, b, c] S K S1 h (by simp [tupled, pf, pfA, pfL, ha, hb, hc])
theorem strNilE : (⟨#[]⟩ : ByteArray) = str [] := rfl
end Go.Abs

namespace Go.Abs
open Go Go.Proofs Go.RowKit
set_option linter.unusedSimpArgs false
set_option maxRecDepth 100000
theorem hasBody142 : hasBody E0 142 = true := keepEq rfl
theorem hasBody143 : hasBody E0 143 = true := keepEq rfl
theorem hasBody144 : hasBody E0 144 = true := keepEq rfl
theorem hasBody91 : hasBody E0 91 = true := keepEq rfl
theorem hasBody92 : hasBody E0 92 = true := keepEq rfl
theorem hasBody93 : hasBody E0 93 = true := keepEq rfl
theorem hasBody94 : hasBody E0 94 = true := keepEq rfl
theorem size_ok (n : Nat) (h : n < 2^62) (S : St) (K : Value → St → Prop) (τ) : RL E0 142 [.int .i64 n] S K τ ↔ K (.int .i64 (2 ^ cls n : Nat)) S := by
  refine w_det ?_ K τ
  rw [w_body (memo0 _ _ (by decide)) (okf0 _) Tryz.func142 (c := _) rfl (by show 1 ≤ 27; decide)]
  have h0 : ¬ ((n : Int) < 0) := by omega
  have h1 : ¬ ((4611686018427387903 : Int) < n) := by omega
  have w2 : IntKind.i64.wrap 2 = 2 := wrap64 _ (by decide) (by decide)
  have w4 : IntKind.i64.wrap 4 = 4 := wrap64 _ (by decide) (by decide)
  have w8 : IntKind.i64.wrap 8 = 8 := wrap64 _ (by decide) (by decide)
  by_cases c3 : 1073741824 ≤ n
  · have d3 : (1073741824 : Int) ≤ n := by omega
    have e : cls n = 3 := by unfold cls; rw [if_neg (by omega), if_neg (by omega), if_neg (by omega)]
    simp only [Tryz.f142, h0, h1, d3, e, w2, w4, w8, Int.reduceMul, ↓wDn, wUp0, wUp1, wUp2, Option.map_none, Int.reduceLE, Int.reduceLT, Int.reduceEq, Int.reduceNeg, Int.reduceToNat, Nat.reduceLeDiff, aresults, aresult, tupled, Bool.and_self, Bool.true_and, Bool.and_true, true_and, and_true, Option.bind_some, Option.bind_none, Option.getD_some, Option.getD_none, Option.map_some, List.getElem?_toArray, List.getElem?_cons_zero, List.getElem?_cons_succ, List.getElem?_nil, List.map_cons, List.map_nil, List.all_cons, List.all_nil, Nat.reduceLT, Nat.reduceEqDiff, Nat.reduceSub, Nat.reduceAdd, ↓reduceIte, if_true, if_false, Bool.false_eq_true, reduceCtorEq, Nat.le_refl, decide_true, decide_false, Bool.not_true, Bool.not_false, decide_eq_true_eq, decide_eq_false_iff_not, eq_self, Bool.false_and, Bool.and_false, Bool.not_eq_true', ite_self]
    rfl
  · have d3 : ¬ (1073741824 : Int) ≤ n := by omega
    by_cases c2 : 16384 ≤ n
    · have d2 : (16384 : Int) ≤ n := by omega
      have e : cls n = 2 := by unfold cls; rw [if_neg (by omega), if_neg (by omega), if_pos (by omega)]
      simp only [Tryz.f142, h0, h1, d3, d2, e, w2, w4, w8, Int.reduceMul, ↓wDn, wUp0, wUp1, wUp2, Option.map_none, Int.reduceLE, Int.reduceLT, Int.reduceEq, Int.reduceNeg, Int.reduceToNat, Nat.reduceLeDiff, aresults, aresult, tupled, Bool.and_self, Bool.true_and, Bool.and_true, true_and, and_true, Option.bind_some, Option.bind_none, Option.getD_some, Option.getD_none, Option.map_some, List.getElem?_toArray, List.getElem?_cons_zero, List.getElem?_cons_succ, List.getElem?_nil, List.map_cons, List.map_nil, List.all_cons, List.all_nil, Nat.reduceLT, Nat.reduceEqDiff, Nat.reduceSub, Nat.reduceAdd, ↓reduceIte, if_true, if_false, Bool.false_eq_true, reduceCtorEq, Nat.le_refl, decide_true, decide_false, Bool.not_true, Bool.not_false, decide_eq_true_eq, decide_eq_false_iff_not, eq_self, Bool.false_and, Bool.and_false, Bool.not_eq_true', ite_self]
      rfl
    · have d2 : ¬ (16384 : Int) ≤ n := by omega
      by_cases c1 : 64 ≤ n
      · have d1 : (64 : Int) ≤ n := by omega
        have e : cls n = 1 := by unfold cls; rw [if_neg (by omega), if_pos (by omega)]
        simp only [Tryz.f142, h0, h1, d3, d2, d1, e, w2, w4, w8, Int.reduceMul, ↓wDn, wUp0, wUp1, wUp2, Option.map_none, Int.reduceLE, Int.reduceLT, Int.reduceEq, Int.reduceNeg, Int.reduceToNat, Nat.reduceLeDiff, aresults, aresult, tupled, Bool.and_self, Bool.true_and, Bool.and_true, true_and, and_true, Option.bind_some, Option.bind_none, Option.getD_some, Option.getD_none, Option.map_some, List.getElem?_toArray, List.getElem?_cons_zero, List.getElem?_cons_succ, List.getElem?_nil, List.map_cons, List.map_nil, List.all_cons, List.all_nil, Nat.reduceLT, Nat.reduceEqDiff, Nat.reduceSub, Nat.reduceAdd, ↓reduceIte, if_true, if_false, Bool.false_eq_true, reduceCtorEq, Nat.le_refl, decide_true, decide_false, Bool.not_true, Bool.not_false, decide_eq_true_eq, decide_eq_false_iff_not, eq_self, Bool.false_and, Bool.and_false, Bool.not_eq_true', ite_self]
        rfl
      · have d1 : ¬ (64 : Int) ≤ n := by omega
        have e : cls n = 0 := by unfold cls; rw [if_pos (by omega)]
        simp only [Tryz.f142, h0, h1, d3, d2, d1, e, w2, w4, w8, Int.reduceMul, ↓wDn, wUp0, wUp1, wUp2, Option.map_none, Int.reduceLE, Int.reduceLT, Int.reduceEq, Int.reduceNeg, Int.reduceToNat, Nat.reduceLeDiff, aresults, aresult, tupled, Bool.and_self, Bool.true_and, Bool.and_true, true_and, and_true, Option.bind_some, Option.bind_none, Option.getD_some, Option.getD_none, Option.map_some, List.getElem?_toArray, List.getElem?_cons_zero, List.getElem?_cons_succ, List.getElem?_nil, List.map_cons, List.map_nil, List.all_cons, List.all_nil, Nat.reduceLT, Nat.reduceEqDiff, Nat.reduceSub, Nat.reduceAdd, ↓reduceIte, if_true, if_false, Bool.false_eq_true, reduceCtorEq, Nat.le_refl, decide_true, decide_false, Bool.not_true, Bool.not_false, decide_eq_true_eq, decide_eq_false_iff_not, eq_self, Bool.false_and, Bool.and_false, Bool.not_eq_true', ite_self]
        rfl

theorem class_ok (c : Nat) (h : c ≤ 3) (S : St) (K : Value → St → Prop) (τ) : RL E0 143 [.int .i64 (2 ^ c : Nat)] S K τ ↔ K (.int .i64 c) S := by
  refine w_det ?_ K τ
  rw [w_body (memo0 _ _ (by decide)) (okf0 _) Tryz.func143 (c := _) rfl (by show 1 ≤ 11; decide)]
  have w1 : IntKind.i64.wrap 1 = 1 := wrap64 _ (by decide) (by decide)
  have w2 : IntKind.i64.wrap 2 = 2 := wrap64 _ (by decide) (by decide)
  have w3 : IntKind.i64.wrap 3 = 3 := wrap64 _ (by decide) (by decide)
  have q : ∀ (t x y) (S : St) (a b : Int), IntKind.i64.wrap (a.tdiv 2) = b → binA E0 .quo t x y (.int .i64 a) (.int .i64 2) S = some (.value (.int .i64 b), S) := fun t x y S a b h => by rw [bin_quo _ _ _ _ _ _ _ (by decide), h]
  have q2 := fun t x y S => q t x y S 2 1 (by decide)
  have q4 := fun t x y S => q t x y S 4 2 (by decide)
  have q8 := fun t x y S => q t x y S 8 4 (by decide)
  obtain rfl | rfl | rfl | rfl : c = 0 ∨ c = 1 ∨ c = 2 ∨ c = 3 := by omega
  · have e : ((2 ^ 0 : Nat) : Int) = 1 := rfl
    rw [e]
    simp only [Tryz.f143, ↓wDn, wUp0, wUp1, wUp2, Option.map_none, Int.reduceLE, Int.reduceLT, Int.reduceEq, Int.reduceNeg, Int.reduceToNat, Nat.reduceLeDiff, aresults, aresult, tupled, Bool.and_self, Bool.true_and, Bool.and_true, true_and, and_true, Option.bind_some, Option.bind_none, Option.getD_some, Option.getD_none, Option.map_some, List.getElem?_toArray, List.getElem?_cons_zero, List.getElem?_cons_succ, List.getElem?_nil, List.map_cons, List.map_nil, List.all_cons, List.all_nil, Nat.reduceLT, Nat.reduceEqDiff, Nat.reduceSub, Nat.reduceAdd, ↓reduceIte, if_true, if_false, Bool.false_eq_true, reduceCtorEq, Nat.le_refl, decide_true, decide_false, Bool.not_true, Bool.not_false, decide_eq_true_eq, decide_eq_false_iff_not, eq_self, Bool.false_and, Bool.and_false, Bool.not_eq_true', ite_self]
    rw [w_unroll]
    simp only [↓wDn, wUp0, wUp1, wUp2, Option.map_none, Int.reduceLE, Int.reduceLT, Int.reduceEq, Int.reduceNeg, Int.reduceToNat, Nat.reduceLeDiff, aresults, aresult, tupled, Bool.and_self, Bool.true_and, Bool.and_true, true_and, and_true, Option.bind_some, Option.bind_none, Option.getD_some, Option.getD_none, Option.map_some, List.getElem?_toArray, List.getElem?_cons_zero, List.getElem?_cons_succ, List.getElem?_nil, List.map_cons, List.map_nil, List.all_cons, List.all_nil, Nat.reduceLT, Nat.reduceEqDiff, Nat.reduceSub, Nat.reduceAdd, ↓reduceIte, if_true, if_false, Bool.false_eq_true, reduceCtorEq, Nat.le_refl, decide_true, decide_false, Bool.not_true, Bool.not_false, decide_eq_true_eq, decide_eq_false_iff_not, eq_self, Bool.false_and, Bool.and_false, Bool.not_eq_true', ite_self]
    rfl
  · have e : ((2 ^ 1 : Nat) : Int) = 2 := rfl
    rw [e]
    simp only [Tryz.f143, ↓wDn, wUp0, wUp1, wUp2, Option.map_none, Int.reduceLE, Int.reduceLT, Int.reduceEq, Int.reduceNeg, Int.reduceToNat, Nat.reduceLeDiff, aresults, aresult, tupled, Bool.and_self, Bool.true_and, Bool.and_true, true_and, and_true, Option.bind_some, Option.bind_none, Option.getD_some, Option.getD_none, Option.map_some, List.getElem?_toArray, List.getElem?_cons_zero, List.getElem?_cons_succ, List.getElem?_nil, List.map_cons, List.map_nil, List.all_cons, List.all_nil, Nat.reduceLT, Nat.reduceEqDiff, Nat.reduceSub, Nat.reduceAdd, ↓reduceIte, if_true, if_false, Bool.false_eq_true, reduceCtorEq, Nat.le_refl, decide_true, decide_false, Bool.not_true, Bool.not_false, decide_eq_true_eq, decide_eq_false_iff_not, eq_self, Bool.false_and, Bool.and_false, Bool.not_eq_true', ite_self]
    rw [w_unroll]
    simp only [q2, Int.reduceAdd, w1, ↓wDn, wUp0, wUp1, wUp2, Option.map_none, Int.reduceLE, Int.reduceLT, Int.reduceEq, Int.reduceNeg, Int.reduceToNat, Nat.reduceLeDiff, aresults, aresult, tupled, Bool.and_self, Bool.true_and, Bool.and_true, true_and, and_true, Option.bind_some, Option.bind_none, Option.getD_some, Option.getD_none, Option.map_some, List.getElem?_toArray, List.getElem?_cons_zero, List.getElem?_cons_succ, List.getElem?_nil, List.map_cons, List.map_nil, List.all_cons, List.all_nil, Nat.reduceLT, Nat.reduceEqDiff, Nat.reduceSub, Nat.reduceAdd, ↓reduceIte, if_true, if_false, Bool.false_eq_true, reduceCtorEq, Nat.le_refl, decide_true, decide_false, Bool.not_true, Bool.not_false, decide_eq_true_eq, decide_eq_false_iff_not, eq_self, Bool.false_and, Bool.and_false, Bool.not_eq_true', ite_self]
    rw [w_unroll]
    simp only [↓wDn, wUp0, wUp1, wUp2, Option.map_none, Int.reduceLE, Int.reduceLT, Int.reduceEq, Int.reduceNeg, Int.reduceToNat, Nat.reduceLeDiff, aresults, aresult, tupled, Bool.and_self, Bool.true_and, Bool.and_true, true_and, and_true, Option.bind_some, Option.bind_none, Option.getD_some, Option.getD_none, Option.map_some, List.getElem?_toArray, List.getElem?_cons_zero, List.getElem?_cons_succ, List.getElem?_nil, List.map_cons, List.map_nil, List.all_cons, List.all_nil, Nat.reduceLT, Nat.reduceEqDiff, Nat.reduceSub, Nat.reduceAdd, ↓reduceIte, if_true, if_false, Bool.false_eq_true, reduceCtorEq, Nat.le_refl, decide_true, decide_false, Bool.not_true, Bool.not_false, decide_eq_true_eq, decide_eq_false_iff_not, eq_self, Bool.false_and, Bool.and_false, Bool.not_eq_true', ite_self]
    rfl
  · have e : ((2 ^ 2 : Nat) : Int) = 4 := rfl
    rw [e]
    simp only [Tryz.f143, ↓wDn, wUp0, wUp1, wUp2, Option.map_none, Int.reduceLE, Int.reduceLT, Int.reduceEq, Int.reduceNeg, Int.reduceToNat, Nat.reduceLeDiff, aresults, aresult, tupled, Bool.and_self, Bool.true_and, Bool.and_true, true_and, and_true, Option.bind_some, Option.bind_none, Option.getD_some, Option.getD_none, Option.map_some, List.getElem?_toArray, List.getElem?_cons_zero, List.getElem?_cons_succ, List.getElem?_nil, List.map_cons, List.map_nil, List.all_cons, List.all_nil, Nat.reduceLT, Nat.reduceEqDiff, Nat.reduceSub, Nat.reduceAdd, ↓reduceIte, if_true, if_false, Bool.false_eq_true, reduceCtorEq, Nat.le_refl, decide_true, decide_false, Bool.not_true, Bool.not_false, decide_eq_true_eq, decide_eq_false_iff_not, eq_self, Bool.false_and, Bool.and_false, Bool.not_eq_true', ite_self]
    rw [w_unroll]
    simp only [q4, Int.reduceAdd, w1, ↓wDn, wUp0, wUp1, wUp2, Option.map_none, Int.reduceLE, Int.reduceLT, Int.reduceEq, Int.reduceNeg, Int.reduceToNat, Nat.reduceLeDiff, aresults, aresult, tupled, Bool.and_self, Bool.true_and, Bool.and_true, true_and, and_true, Option.bind_some, Option.bind_none, Option.getD_some, Option.getD_none, Option.map_some, List.getElem?_toArray, List.getElem?_cons_zero, List.getElem?_cons_succ, List.getElem?_nil, List.map_cons, List.map_nil, List.all_cons, List.all_nil, Nat.reduceLT, Nat.reduceEqDiff, Nat.reduceSub, Nat.reduceAdd, ↓reduceIte, if_true, if_false, Bool.false_eq_true, reduceCtorEq, Nat.le_refl, decide_true, decide_false, Bool.not_true, Bool.not_false, decide_eq_true_eq, decide_eq_false_iff_not, eq_self, Bool.false_and, Bool.and_false, Bool.not_eq_true', ite_self]
    rw [w_unroll]
    simp only [q2, Int.reduceAdd, w2, ↓wDn, wUp0, wUp1, wUp2, Option.map_none, Int.reduceLE, Int.reduceLT, Int.reduceEq, Int.reduceNeg, Int.reduceToNat, Nat.reduceLeDiff, aresults, aresult, tupled, Bool.and_self, Bool.true_and, Bool.and_true, true_and, and_true, Option.bind_some, Option.bind_none, Option.getD_some, Option.getD_none, Option.map_some, List.getElem?_toArray, List.getElem?_cons_zero, List.getElem?_cons_succ, List.getElem?_nil, List.map_cons, List.map_nil, List.all_cons, List.all_nil, Nat.reduceLT, Nat.reduceEqDiff, Nat.reduceSub, Nat.reduceAdd, ↓reduceIte, if_true, if_false, Bool.false_eq_true, reduceCtorEq, Nat.le_refl, decide_true, decide_false, Bool.not_true, Bool.not_false, decide_eq_true_eq, decide_eq_false_iff_not, eq_self, Bool.false_and, Bool.and_false, Bool.not_eq_true', ite_self]
    rw [w_unroll]
    simp only [↓wDn, wUp0, wUp1, wUp2, Option.map_none, Int.reduceLE, Int.reduceLT, Int.reduceEq, Int.reduceNeg, Int.reduceToNat, Nat.reduceLeDiff, aresults, aresult, tupled, Bool.and_self, Bool.true_and, Bool.and_true, true_and, and_true, Option.bind_some, Option.bind_none, Option.getD_some, Option.getD_none, Option.map_some, List.getElem?_toArray, List.getElem?_cons_zero, List.getElem?_cons_succ, List.getElem?_nil, List.map_cons, List.map_nil, List.all_cons, List.all_nil, Nat.reduceLT, Nat.reduceEqDiff, Nat.reduceSub, Nat.reduceAdd, ↓reduceIte, if_true, if_false, Bool.false_eq_true, reduceCtorEq, Nat.le_refl, decide_true, decide_false, Bool.not_true, Bool.not_false, decide_eq_true_eq, decide_eq_false_iff_not, eq_self, Bool.false_and, Bool.and_false, Bool.not_eq_true', ite_self]
    rfl
  · have e : ((2 ^ 3 : Nat) : Int) = 8 := rfl
    rw [e]
    simp only [Tryz.f143, ↓wDn, wUp0, wUp1, wUp2, Option.map_none, Int.reduceLE, Int.reduceLT, Int.reduceEq, Int.reduceNeg, Int.reduceToNat, Nat.reduceLeDiff, aresults, aresult, tupled, Bool.and_self, Bool.true_and, Bool.and_true, true_and, and_true, Option.bind_some, Option.bind_none, Option.getD_some, Option.getD_none, Option.map_some, List.getElem?_toArray, List.getElem?_cons_zero, List.getElem?_cons_succ, List.getElem?_nil, List.map_cons, List.map_nil, List.all_cons, List.all_nil, Nat.reduceLT, Nat.reduceEqDiff, Nat.reduceSub, Nat.reduceAdd, ↓reduceIte, if_true, if_false, Bool.false_eq_true, reduceCtorEq, Nat.le_refl, decide_true, decide_false, Bool.not_true, Bool.not_false, decide_eq_true_eq, decide_eq_false_iff_not, eq_self, Bool.false_and, Bool.and_false, Bool.not_eq_true', ite_self]
    rw [w_unroll]
    simp only [q8, Int.reduceAdd, w1, ↓wDn, wUp0, wUp1, wUp2, Option.map_none, Int.reduceLE, Int.reduceLT, Int.reduceEq, Int.reduceNeg, Int.reduceToNat, Nat.reduceLeDiff, aresults, aresult, tupled, Bool.and_self, Bool.true_and, Bool.and_true, true_and, and_true, Option.bind_some, Option.bind_none, Option.getD_some, Option.getD_none, Option.map_some, List.getElem?_toArray, List.getElem?_cons_zero, List.getElem?_cons_succ, List.getElem?_nil, List.map_cons, List.map_nil, List.all_cons, List.all_nil, Nat.reduceLT, Nat.reduceEqDiff, Nat.reduceSub, Nat.reduceAdd, ↓reduceIte, if_true, if_false, Bool.false_eq_true, reduceCtorEq, Nat.le_refl, decide_true, decide_false, Bool.not_true, Bool.not_false, decide_eq_true_eq, decide_eq_false_iff_not, eq_self, Bool.false_and, Bool.and_false, Bool.not_eq_true', ite_self]
    rw [w_unroll]
    simp only [q4, Int.reduceAdd, w2, ↓wDn, wUp0, wUp1, wUp2, Option.map_none, Int.reduceLE, Int.reduceLT, Int.reduceEq, Int.reduceNeg, Int.reduceToNat, Nat.reduceLeDiff, aresults, aresult, tupled, Bool.and_self, Bool.true_and, Bool.and_true, true_and, and_true, Option.bind_some, Option.bind_none, Option.getD_some, Option.getD_none, Option.map_some, List.getElem?_toArray, List.getElem?_cons_zero, List.getElem?_cons_succ, List.getElem?_nil, List.map_cons, List.map_nil, List.all_cons, List.all_nil, Nat.reduceLT, Nat.reduceEqDiff, Nat.reduceSub, Nat.reduceAdd, ↓reduceIte, if_true, if_false, Bool.false_eq_true, reduceCtorEq, Nat.le_refl, decide_true, decide_false, Bool.not_true, Bool.not_false, decide_eq_true_eq, decide_eq_false_iff_not, eq_self, Bool.false_and, Bool.and_false, Bool.not_eq_true', ite_self]
    rw [w_unroll]
    simp only [q2, Int.reduceAdd, w3, ↓wDn, wUp0, wUp1, wUp2, Option.map_none, Int.reduceLE, Int.reduceLT, Int.reduceEq, Int.reduceNeg, Int.reduceToNat, Nat.reduceLeDiff, aresults, aresult, tupled, Bool.and_self, Bool.true_and, Bool.and_true, true_and, and_true, Option.bind_some, Option.bind_none, Option.getD_some, Option.getD_none, Option.map_some, List.getElem?_toArray, List.getElem?_cons_zero, List.getElem?_cons_succ, List.getElem?_nil, List.map_cons, List.map_nil, List.all_cons, List.all_nil, Nat.reduceLT, Nat.reduceEqDiff, Nat.reduceSub, Nat.reduceAdd, ↓reduceIte, if_true, if_false, Bool.false_eq_true, reduceCtorEq, Nat.le_refl, decide_true, decide_false, Bool.not_true, Bool.not_false, decide_eq_true_eq, decide_eq_false_iff_not, eq_self, Bool.false_and, Bool.and_false, Bool.not_eq_true', ite_self]
    rw [w_unroll]
    simp only [↓wDn, wUp0, wUp1, wUp2, Option.map_none, Int.reduceLE, Int.reduceLT, Int.reduceEq, Int.reduceNeg, Int.reduceToNat, Nat.reduceLeDiff, aresults, aresult, tupled, Bool.and_self, Bool.true_and, Bool.and_true, true_and, and_true, Option.bind_some, Option.bind_none, Option.getD_some, Option.getD_none, Option.map_some, List.getElem?_toArray, List.getElem?_cons_zero, List.getElem?_cons_succ, List.getElem?_nil, List.map_cons, List.map_nil, List.all_cons, List.all_nil, Nat.reduceLT, Nat.reduceEqDiff, Nat.reduceSub, Nat.reduceAdd, ↓reduceIte, if_true, if_false, Bool.false_eq_true, reduceCtorEq, Nat.le_refl, decide_true, decide_false, Bool.not_true, Bool.not_false, decide_eq_true_eq, decide_eq_false_iff_not, eq_self, Bool.false_and, Bool.and_false, Bool.not_eq_true', ite_self]
    rfl
/-- Whether a whole number has bytes. -/
def wholeP (z : Int) : Prop := -2305843009213693952 ≤ z ∧ z ≤ 2305843009213693951
theorem whole_ok (z : Int) (S : St) (K : Value → St → Prop) (τ) : RL E0 93 [.int .i64 z] S K τ ↔ K (.bool (decide (-2305843009213693952 ≤ z ∧ z ≤ 2305843009213693951))) S := by
  refine w_det ?_ K τ
  rw [w_body (memo0 _ _ (by decide)) (okf0 _) Tryz.func93 (c := _) rfl (by show 1 ≤ 9; decide)]
  by_cases h : -2305843009213693952 ≤ z
  · have e : decide (-2305843009213693952 ≤ z ∧ z ≤ 2305843009213693951) = decide (z ≤ 2305843009213693951) := decide_eq_decide.2 ⟨fun h => h.2, fun h2 => ⟨h, h2⟩⟩
    rw [e]
    simp only [Tryz.f93, h, ↓wDn, wUp0, wUp1, wUp2, Option.map_none, Int.reduceLE, Int.reduceLT, Int.reduceEq, Int.reduceNeg, Int.reduceToNat, Nat.reduceLeDiff, aresults, aresult, tupled, Bool.and_self, Bool.true_and, Bool.and_true, true_and, and_true, Option.bind_some, Option.bind_none, Option.getD_some, Option.getD_none, Option.map_some, List.getElem?_toArray, List.getElem?_cons_zero, List.getElem?_cons_succ, List.getElem?_nil, List.map_cons, List.map_nil, List.all_cons, List.all_nil, Nat.reduceLT, Nat.reduceEqDiff, Nat.reduceSub, Nat.reduceAdd, ↓reduceIte, if_true, if_false, Bool.false_eq_true, reduceCtorEq, Nat.le_refl, decide_true, decide_false, Bool.not_true, Bool.not_false, decide_eq_true_eq, decide_eq_false_iff_not, eq_self, Bool.false_and, Bool.and_false, Bool.not_eq_true', ite_self]
  · have e : decide (-2305843009213693952 ≤ z ∧ z ≤ 2305843009213693951) = false := decide_eq_false fun h2 => h h2.1
    rw [e]
    simp only [Tryz.f93, h, ↓wDn, wUp0, wUp1, wUp2, Option.map_none, Int.reduceLE, Int.reduceLT, Int.reduceEq, Int.reduceNeg, Int.reduceToNat, Nat.reduceLeDiff, aresults, aresult, tupled, Bool.and_self, Bool.true_and, Bool.and_true, true_and, and_true, Option.bind_some, Option.bind_none, Option.getD_some, Option.getD_none, Option.map_some, List.getElem?_toArray, List.getElem?_cons_zero, List.getElem?_cons_succ, List.getElem?_nil, List.map_cons, List.map_nil, List.all_cons, List.all_nil, Nat.reduceLT, Nat.reduceEqDiff, Nat.reduceSub, Nat.reduceAdd, ↓reduceIte, if_true, if_false, Bool.false_eq_true, reduceCtorEq, Nat.le_refl, decide_true, decide_false, Bool.not_true, Bool.not_false, decide_eq_true_eq, decide_eq_false_iff_not, eq_self, Bool.false_and, Bool.and_false, Bool.not_eq_true', ite_self]
def foldZ (z : Int) : Nat := if z < 0 then (-2 * z - 1).toNat else (2 * z).toNat
theorem foldZ_lt {z : Int} (h0 : -2305843009213693952 ≤ z) (h1 : z ≤ 2305843009213693951) : foldZ z < 2 ^ 62 := by
  unfold foldZ
  split <;> omega
theorem fold_ok (z : Int) (h0 : -2305843009213693952 ≤ z) (h1 : z ≤ 2305843009213693951) (S : St) (K : Value → St → Prop) (τ) : RL E0 144 [.int .i64 z] S K τ ↔ K (.int .i64 (foldZ z)) S := by
  refine w_det ?_ K τ
  rw [w_body (memo0 _ _ (by decide)) (okf0 _) Tryz.func144 (c := _) rfl (by show 1 ≤ 10; decide)]
  by_cases h : z < 0
  · have e : ((foldZ z : Nat) : Int) = -2 * z - 1 := by unfold foldZ; rw [if_pos h]; omega
    rw [e]
    simp only [Tryz.f144, h, wrap64 (-2 * z) (by omega) (by omega), wrap64 (-2 * z - 1) (by omega) (by omega), ↓wDn, wUp0, wUp1, wUp2, Option.map_none, Int.reduceLE, Int.reduceLT, Int.reduceEq, Int.reduceNeg, Int.reduceToNat, Nat.reduceLeDiff, aresults, aresult, tupled, Bool.and_self, Bool.true_and, Bool.and_true, true_and, and_true, Option.bind_some, Option.bind_none, Option.getD_some, Option.getD_none, Option.map_some, List.getElem?_toArray, List.getElem?_cons_zero, List.getElem?_cons_succ, List.getElem?_nil, List.map_cons, List.map_nil, List.all_cons, List.all_nil, Nat.reduceLT, Nat.reduceEqDiff, Nat.reduceSub, Nat.reduceAdd, ↓reduceIte, if_true, if_false, Bool.false_eq_true, reduceCtorEq, Nat.le_refl, decide_true, decide_false, Bool.not_true, Bool.not_false, decide_eq_true_eq, decide_eq_false_iff_not, eq_self, Bool.false_and, Bool.and_false, Bool.not_eq_true', ite_self]
  · have e : ((foldZ z : Nat) : Int) = 2 * z := by unfold foldZ; rw [if_neg h]; omega
    rw [e]
    simp only [Tryz.f144, h, wrap64 (2 * z) (by omega) (by omega), ↓wDn, wUp0, wUp1, wUp2, Option.map_none, Int.reduceLE, Int.reduceLT, Int.reduceEq, Int.reduceNeg, Int.reduceToNat, Nat.reduceLeDiff, aresults, aresult, tupled, Bool.and_self, Bool.true_and, Bool.and_true, true_and, and_true, Option.bind_some, Option.bind_none, Option.getD_some, Option.getD_none, Option.map_some, List.getElem?_toArray, List.getElem?_cons_zero, List.getElem?_cons_succ, List.getElem?_nil, List.map_cons, List.map_nil, List.all_cons, List.all_nil, Nat.reduceLT, Nat.reduceEqDiff, Nat.reduceSub, Nat.reduceAdd, ↓reduceIte, if_true, if_false, Bool.false_eq_true, reduceCtorEq, Nat.le_refl, decide_true, decide_false, Bool.not_true, Bool.not_false, decide_eq_true_eq, decide_eq_false_iff_not, eq_self, Bool.false_and, Bool.and_false, Bool.not_eq_true', ite_self]
end Go.Abs

namespace Go.Abs
open Go Go.Proofs Go.RowKit
set_option linter.unusedSimpArgs false
set_option maxRecDepth 100000
/-- Cells of bytes. -/
def byC (s : Nat) (f : Nat → Nat) : List Value := (List.range s).map fun j => .int .u8 (f j : Nat)
theorem byC_len (s f) : (byC s f).length = s := by simp [byC]
theorem byC_congr {s : Nat} {f g : Nat → Nat} (h : ∀ j, j < s → f j = g j) : byC s f = byC s g := by
  unfold byC
  refine List.map_congr_left fun j hj => ?_
  rw [h j (List.mem_range.1 hj)]
theorem byC_splice (s : Nat) (f : Nat → Nat) (k : Nat) (v : Nat) (h : k < s) : splice (byC s f) k [.int .u8 (v : Nat)] = byC s fun j => if j = k then v else f j := by
  unfold splice
  apply List.ext_getElem?
  intro i
  simp only [List.length_singleton]
  have hl : ((byC s f).take k).length = k := by rw [List.length_take, byC_len]; omega
  rcases Nat.lt_trichotomy i k with hi | hi | hi
  · rw [List.append_assoc, List.getElem?_append_left (by omega), List.getElem?_take_of_lt hi]
    simp [byC, show i < s by omega, show i ≠ k by omega]
  · subst hi
    rw [List.append_assoc, List.getElem?_append_right (by omega), hl]
    simp [byC, h]
  · rw [List.append_assoc, List.getElem?_append_right (by omega), hl, List.getElem?_append_right (by simp; omega)]
    simp only [List.length_singleton, List.getElem?_drop]
    have e : k + 1 + (i - k - 1) = i := by omega
    rw [e]
    by_cases his : i < s
    · simp [byC, his, show i ≠ k by omega]
    · simp [byC, his]
theorem byC_zero (s : Nat) : List.replicate s (.int .u8 0) = byC s fun _ => 0 := by
  unfold byC
  apply List.ext_getElem?
  intro i
  by_cases h : i < s <;> simp [h]
theorem ints_of_ints (k : IntKind) : ∀ ns : List Int, intsOf k (ns.map (Value.int k)) = some ns
  | [] => rfl
  | n :: ns => by
    rw [List.map_cons, intsOf, if_pos rfl, ints_of_ints k ns]
    rfl
theorem byC_ints (s f) : intsOf .u8 (byC s f) = some ((List.range s).map fun j => ((f j : Nat) : Int)) := by
  have : byC s f = ((List.range s).map fun j => ((f j : Nat) : Int)).map (Value.int .u8) := by simp [byC]
  rw [this, ints_of_ints]
theorem byC_get (s f i) (h : i < s) : (byC s f)[i]? = some (.int .u8 (f i : Nat)) := by simp [byC, h]
theorem byC_str (s : Nat) (f : Nat → Nat) : bytesOfInts ((List.range s).map fun j => ((f j : Nat) : Int)) = str ((List.range s).map fun j => UInt8.ofNat (f j)) := by
  unfold bytesOfInts str
  rw [List.map_map]
  rfl
theorem wrapU8 (n : Nat) (h : n < 256) : IntKind.u8.wrap (n : Int) = n := by
  unfold IntKind.wrap
  simp only [IntKind.bits, IntKind.signed, Bool.false_and, Bool.false_eq_true, if_false]
  omega
theorem wrapU8m (n : Nat) : IntKind.u8.wrap (n : Int) = (n % 256 : Nat) := by
  unfold IntKind.wrap
  simp only [IntKind.bits, IntKind.signed, Bool.false_and, Bool.false_eq_true, if_false]
  omega
theorem fdivN (n m : Nat) : ((n : Int).fdiv (m : Int)) = (n / m : Nat) := by
  rw [Int.fdiv_eq_ediv_of_nonneg _ (by omega)]
  rfl
theorem byteShr (n i : Nat) : IntKind.u8.wrap ((n : Int).fdiv (2 ^ (8 * i))) = (n / 256 ^ i % 256 : Nat) := by
  have e : ((2 : Int) ^ (8 * i)) = ((256 ^ i : Nat) : Int) := by
    rw [Int.pow_mul]
    push_cast
    rfl
  rw [e, fdivN, wrapU8m]
theorem orTop : ∀ c, c < 4 → ∀ d, d < 64 → IntKind.u8.wrap ((BitVec.ofInt IntKind.u8.bits ((d : Nat) : Int) ||| BitVec.ofInt IntKind.u8.bits ((64 * c : Nat) : Int)).toNat : Int) = (d + 64 * c : Nat) := by decide
end Go.Abs

namespace Go.Abs
open Go Go.Proofs Go.RowKit
set_option linter.unusedSimpArgs false
set_option maxRecDepth 100000
theorem ia73 (k : IntKind) (b len cap : Nat) (i : Nat) (h : i < len) : aindexAddr E0 73 (.slice (some ⟨b, 0, none⟩) len cap) (.int k i) = some (.pointer (some ⟨b, i, none⟩)) := by
  rw [idxAddr_slc und73 sz5 k i (by omega) (by omega)]
  simp
theorem ia73z (k : IntKind) (b len cap : Nat) (h : 0 < len) : aindexAddr E0 73 (.slice (some ⟨b, 0, none⟩) len cap) (.int k 0) = some (.pointer (some ⟨b, 0, none⟩)) := ia73 k b len cap 0 h
theorem ldB {S : St} {s : Nat} {f : Nat → Nat} {b i : Nat} (lw : Nat) (hg : St.get E0 S b = some (.own (byC s f) 5)) (h : i < s) : aload E0 ⟨S.n, S.h, lw⟩ 5 (.pointer (some ⟨b, i, none⟩)) = some (.int .u8 (f i : Nat)) := by
  rw [load_cell (S := ⟨S.n, S.h, lw⟩) (cells_own hg) ty5 rfl sz5]
  simp [byC, h]
theorem stB {S : St} {s : Nat} {f : Nat → Nat} {b i : Nat} (v : Nat) (hg : St.get E0 S b = some (.own (byC s f) 5)) (h : i < s) : astore E0 S 5 (.pointer (some ⟨b, i, none⟩)) (.int .u8 (v : Nat)) = some (S.set b (.own (byC s fun j => if j = i then v else f j) 5)) := by
  rw [store_own hg sz5 rfl rfl (by rw [byC_len]; omega), ← byC_splice s f i v h]
  rfl
theorem cvB {n : Nat} {h : List ABlk} {lw s b cap : Nat} {f : Nat → Nat} (hg : St.get E0 ⟨n, h, lw⟩ b = some (.own (byC s f) 5)) : convA E0 73 9 (.slice (some ⟨b, 0, none⟩) s cap) ⟨n, h, lw⟩ = some (.value (.string (str ((List.range s).map fun j => UInt8.ofNat (f j)))), ⟨n, h, lw⟩) := by
  rw [conv_bytes und73 ty5 ty9 (cells_own hg) (by rw [byC_len]; omega) (ns := (List.range s).map fun j => ((f j : Nat) : Int)) (by rw [List.drop_zero, List.take_of_length_le (by rw [byC_len]; omega)]; exact byC_ints s f), byC_str]
theorem cls_pow {n s : Nat} (h : 2 ^ cls n = s) : 0 < s ∧ s ≤ 8 ∧ (s = 1 ∨ s = 2 ∨ s = 4 ∨ s = 8) := by
  rcases cls_cases n with e | e | e | e <;> rw [e] at h <;> subst h <;> decide
theorem num_ok (n : Nat) (h : n < 2^62) (S : St) (hS : WF E0 S) (K : Value → St → Prop) (τ) : RL E0 91 [.int .i64 n] S K τ ↔ K (.string (str (enc n))) S := by
  refine w_det ?_ K τ
  rw [w_body (memo0 _ _ (by decide)) (okf0 _) Tryz.func91 (c := _) rfl (by show 1 ≤ 39; decide)]
  obtain ⟨s, hs⟩ : ∃ s, 2 ^ cls n = s := ⟨_, rfl⟩
  obtain ⟨s0, s8, _⟩ := cls_pow hs
  have sz := size_ok n h
  rw [hs] at sz
  have hz : ¬ ((s : Int) = 0) := by omega
  have cl := class_ok (cls n) (cls_le n)
  rw [hs] at cl
  have hd0 := dig0 h
  rw [hs] at hd0
  have w6 : IntKind.i64.wrap ((cls n : Int) * 2 ^ 6) = ((64 * cls n : Nat) : Int) := by rw [wrap64] <;> have := cls_le n <;> omega
  have hsh : ∀ t x y (S : St), binA E0 .shl t x y (.int .i64 (cls n)) (.int .u64 6) S = some (.value (.int .i64 (64 * cls n : Nat)), S) := fun t x y S => by
    rw [bin_shlK _ _ _ _ _ _ _ _ (by decide) (by decide)]
    exact congrArg (fun z => some (Next.value (Value.int .i64 z), S)) w6
  have w7 : IntKind.u8.wrap ((64 * cls n : Nat) : Int) = ((64 * cls n : Nat) : Int) := wrapU8 _ (by have := cls_le n; omega)
  simp only [Tryz.f91, hasBody142, sz, hz, mk_one und73 inf5 rfl _ _ s s0 (by omega) (by omega), ↓wDn, wUp0, wUp1, wUp2, Option.map_none, Int.reduceLE, Int.reduceLT, Int.reduceEq, Int.reduceNeg, Int.reduceToNat, Nat.reduceLeDiff, aresults, aresult, tupled, Bool.and_self, Bool.true_and, Bool.and_true, true_and, and_true, Option.bind_some, Option.bind_none, Option.getD_some, Option.getD_none, Option.map_some, List.getElem?_toArray, List.getElem?_cons_zero, List.getElem?_cons_succ, List.getElem?_nil, List.map_cons, List.map_nil, List.all_cons, List.all_nil, Nat.reduceLT, Nat.reduceEqDiff, Nat.reduceSub, Nat.reduceAdd, ↓reduceIte, if_true, if_false, Bool.false_eq_true, reduceCtorEq, Nat.le_refl, decide_true, decide_false, Bool.not_true, Bool.not_false, decide_eq_true_eq, decide_eq_false_iff_not, eq_self, Bool.false_and, Bool.and_false, Bool.not_eq_true', ite_self]
  rw [byC_zero]
  refine w_loopF (fun (i : Nat) g S1 => WF E0 S1 ∧ S1.n = S.n + 1 ∧ S.n ≤ S1.low ∧ St.get E0 S1 S.n = some (.own (byC s fun j => if s ≤ j + i then dig n s j else 0) 5) ∧ i ≤ s ∧ g 0 = .int .i64 n ∧ g 3 = .int .i64 s ∧ g 4 = .slice (some ⟨S.n, 0, none⟩) s s ∧ g 12 = .int .i64 s ∧ g 13 = .int .i64 i) (fun i => s - i) 0 ?init ?round
  case init =>
    refine ⟨?_, ?_, ?_, ?_, by omega, ?_, ?_, ?_, ?_, ?_⟩
    · simp only [hS, ↓wDn, wUp0, wUp1, wUp2, Option.map_none, Int.reduceLE, Int.reduceLT, Int.reduceEq, Int.reduceNeg, Int.reduceToNat, Nat.reduceLeDiff, aresults, aresult, tupled, Bool.and_self, Bool.true_and, Bool.and_true, true_and, and_true, Option.bind_some, Option.bind_none, Option.getD_some, Option.getD_none, Option.map_some, List.getElem?_toArray, List.getElem?_cons_zero, List.getElem?_cons_succ, List.getElem?_nil, List.map_cons, List.map_nil, List.all_cons, List.all_nil, Nat.reduceLT, Nat.reduceEqDiff, Nat.reduceSub, Nat.reduceAdd, ↓reduceIte, if_true, if_false, Bool.false_eq_true, reduceCtorEq, Nat.le_refl, decide_true, decide_false, Bool.not_true, Bool.not_false, decide_eq_true_eq, decide_eq_false_iff_not, eq_self, Bool.false_and, Bool.and_false, Bool.not_eq_true', ite_self]
    · simp only [↓wDn, wUp0, wUp1, wUp2, Option.map_none, Int.reduceLE, Int.reduceLT, Int.reduceEq, Int.reduceNeg, Int.reduceToNat, Nat.reduceLeDiff, aresults, aresult, tupled, Bool.and_self, Bool.true_and, Bool.and_true, true_and, and_true, Option.bind_some, Option.bind_none, Option.getD_some, Option.getD_none, Option.map_some, List.getElem?_toArray, List.getElem?_cons_zero, List.getElem?_cons_succ, List.getElem?_nil, List.map_cons, List.map_nil, List.all_cons, List.all_nil, Nat.reduceLT, Nat.reduceEqDiff, Nat.reduceSub, Nat.reduceAdd, ↓reduceIte, if_true, if_false, Bool.false_eq_true, reduceCtorEq, Nat.le_refl, decide_true, decide_false, Bool.not_true, Bool.not_false, decide_eq_true_eq, decide_eq_false_iff_not, eq_self, Bool.false_and, Bool.and_false, Bool.not_eq_true', ite_self]
    · simp only [↓wDn, wUp0, wUp1, wUp2, Option.map_none, Int.reduceLE, Int.reduceLT, Int.reduceEq, Int.reduceNeg, Int.reduceToNat, Nat.reduceLeDiff, aresults, aresult, tupled, Bool.and_self, Bool.true_and, Bool.and_true, true_and, and_true, Option.bind_some, Option.bind_none, Option.getD_some, Option.getD_none, Option.map_some, List.getElem?_toArray, List.getElem?_cons_zero, List.getElem?_cons_succ, List.getElem?_nil, List.map_cons, List.map_nil, List.all_cons, List.all_nil, Nat.reduceLT, Nat.reduceEqDiff, Nat.reduceSub, Nat.reduceAdd, ↓reduceIte, if_true, if_false, Bool.false_eq_true, reduceCtorEq, Nat.le_refl, decide_true, decide_false, Bool.not_true, Bool.not_false, decide_eq_true_eq, decide_eq_false_iff_not, eq_self, Bool.false_and, Bool.and_false, Bool.not_eq_true', ite_self]
    · rw [get_push ⟨S.n, S.h, S.n⟩ _ _ hS, if_pos rfl]
      exact congrArg (fun l => some (ABlk.own l 5)) (byC_congr fun j hj => by rw [if_neg (by omega)])
    all_goals simp only [Int.natCast_zero, ↓wDn, wUp0, wUp1, wUp2, Option.map_none, Int.reduceLE, Int.reduceLT, Int.reduceEq, Int.reduceNeg, Int.reduceToNat, Nat.reduceLeDiff, aresults, aresult, tupled, Bool.and_self, Bool.true_and, Bool.and_true, true_and, and_true, Option.bind_some, Option.bind_none, Option.getD_some, Option.getD_none, Option.map_some, List.getElem?_toArray, List.getElem?_cons_zero, List.getElem?_cons_succ, List.getElem?_nil, List.map_cons, List.map_nil, List.all_cons, List.all_nil, Nat.reduceLT, Nat.reduceEqDiff, Nat.reduceSub, Nat.reduceAdd, ↓reduceIte, if_true, if_false, Bool.false_eq_true, reduceCtorEq, Nat.le_refl, decide_true, decide_false, Bool.not_true, Bool.not_false, decide_eq_true_eq, decide_eq_false_iff_not, eq_self, Bool.false_and, Bool.and_false, Bool.not_eq_true', ite_self]
  case round =>
    rintro i g S1 ⟨hW, hn, hlow, hg, hi, g0, g3, g4, g12, g13⟩
    by_cases hlt : i < s
    · have hltz : (i : Int) < (s : Int) := by omega
      have e1 : IntKind.i64.wrap ((s : Int) - 1) = ((s - 1 : Nat) : Int) := by rw [wrap64] <;> omega
      have e2 : IntKind.i64.wrap (((s - 1 : Nat) : Int) - (i : Int)) = ((s - 1 - i : Nat) : Int) := by rw [wrap64] <;> omega
      have e3 : IntKind.i64.wrap (8 * (i : Int)) = ((8 * i : Nat) : Int) := by rw [wrap64] <;> omega
      have e4 : ∀ t x y (S : St), binA E0 .shr t x y (.int .i64 n) (.int .i64 ((8 * i : Nat) : Int)) S = some (.value (.int .i64 ((n : Int).fdiv (2 ^ (8 * i)))), S) := fun t x y S => bin_shrK _ _ _ _ _ _ _ _ (by omega) (by show 8 * i ≤ 64; omega)
      have e5 : IntKind.i64.wrap ((i : Int) + 1) = ((i + 1 : Nat) : Int) := by rw [wrap64] <;> omega
      have hst := stB (n / 256 ^ i % 256) hg (show s - 1 - i < s by omega)
      simp only [g0, g3, g4, g12, g13, hltz, e1, e2, e3, e4, e5, conv_int ty3 ty5, byteShr, ia73 _ S.n s s (s - 1 - i) (by omega), hst, ↓wDn, wUp0, wUp1, wUp2, Option.map_none, Int.reduceLE, Int.reduceLT, Int.reduceEq, Int.reduceNeg, Int.reduceToNat, Nat.reduceLeDiff, aresults, aresult, tupled, Bool.and_self, Bool.true_and, Bool.and_true, true_and, and_true, Option.bind_some, Option.bind_none, Option.getD_some, Option.getD_none, Option.map_some, List.getElem?_toArray, List.getElem?_cons_zero, List.getElem?_cons_succ, List.getElem?_nil, List.map_cons, List.map_nil, List.all_cons, List.all_nil, Nat.reduceLT, Nat.reduceEqDiff, Nat.reduceSub, Nat.reduceAdd, ↓reduceIte, if_true, if_false, Bool.false_eq_true, reduceCtorEq, Nat.le_refl, decide_true, decide_false, Bool.not_true, Bool.not_false, decide_eq_true_eq, decide_eq_false_iff_not, eq_self, Bool.false_and, Bool.and_false, Bool.not_eq_true', ite_self]
      refine w_next (i + 1) (by omega) ⟨?_, ?_, ?_, ?_, by omega, ?_, ?_, ?_, ?_, ?_⟩
      · simp only [hW, ↓wDn, wUp0, wUp1, wUp2, Option.map_none, Int.reduceLE, Int.reduceLT, Int.reduceEq, Int.reduceNeg, Int.reduceToNat, Nat.reduceLeDiff, aresults, aresult, tupled, Bool.and_self, Bool.true_and, Bool.and_true, true_and, and_true, Option.bind_some, Option.bind_none, Option.getD_some, Option.getD_none, Option.map_some, List.getElem?_toArray, List.getElem?_cons_zero, List.getElem?_cons_succ, List.getElem?_nil, List.map_cons, List.map_nil, List.all_cons, List.all_nil, Nat.reduceLT, Nat.reduceEqDiff, Nat.reduceSub, Nat.reduceAdd, ↓reduceIte, if_true, if_false, Bool.false_eq_true, reduceCtorEq, Nat.le_refl, decide_true, decide_false, Bool.not_true, Bool.not_false, decide_eq_true_eq, decide_eq_false_iff_not, eq_self, Bool.false_and, Bool.and_false, Bool.not_eq_true', ite_self]
      · simp only [hn, ↓wDn, wUp0, wUp1, wUp2, Option.map_none, Int.reduceLE, Int.reduceLT, Int.reduceEq, Int.reduceNeg, Int.reduceToNat, Nat.reduceLeDiff, aresults, aresult, tupled, Bool.and_self, Bool.true_and, Bool.and_true, true_and, and_true, Option.bind_some, Option.bind_none, Option.getD_some, Option.getD_none, Option.map_some, List.getElem?_toArray, List.getElem?_cons_zero, List.getElem?_cons_succ, List.getElem?_nil, List.map_cons, List.map_nil, List.all_cons, List.all_nil, Nat.reduceLT, Nat.reduceEqDiff, Nat.reduceSub, Nat.reduceAdd, ↓reduceIte, if_true, if_false, Bool.false_eq_true, reduceCtorEq, Nat.le_refl, decide_true, decide_false, Bool.not_true, Bool.not_false, decide_eq_true_eq, decide_eq_false_iff_not, eq_self, Bool.false_and, Bool.and_false, Bool.not_eq_true', ite_self]
      · simp only [hlow, ↓wDn, wUp0, wUp1, wUp2, Option.map_none, Int.reduceLE, Int.reduceLT, Int.reduceEq, Int.reduceNeg, Int.reduceToNat, Nat.reduceLeDiff, aresults, aresult, tupled, Bool.and_self, Bool.true_and, Bool.and_true, true_and, and_true, Option.bind_some, Option.bind_none, Option.getD_some, Option.getD_none, Option.map_some, List.getElem?_toArray, List.getElem?_cons_zero, List.getElem?_cons_succ, List.getElem?_nil, List.map_cons, List.map_nil, List.all_cons, List.all_nil, Nat.reduceLT, Nat.reduceEqDiff, Nat.reduceSub, Nat.reduceAdd, ↓reduceIte, if_true, if_false, Bool.false_eq_true, reduceCtorEq, Nat.le_refl, decide_true, decide_false, Bool.not_true, Bool.not_false, decide_eq_true_eq, decide_eq_false_iff_not, eq_self, Bool.false_and, Bool.and_false, Bool.not_eq_true', ite_self]
      · rw [get_setS _ _ _ _ hW (wf_base hS) (by omega), if_pos rfl]
        refine congrArg (fun l => some (ABlk.own l 5)) (byC_congr fun j hj => ?_)
        by_cases hj2 : j = s - 1 - i
        · rw [if_pos hj2, if_pos (by omega)]
          unfold dig
          rw [show s - 1 - j = i by omega]
        · rw [if_neg hj2]
          by_cases hj3 : s ≤ j + i
          · rw [if_pos hj3, if_pos (by omega)]
          · rw [if_neg hj3, if_neg (by omega)]
      all_goals simp only [g0, g3, g4, g12, g13, ↓wDn, wUp0, wUp1, wUp2, Option.map_none, Int.reduceLE, Int.reduceLT, Int.reduceEq, Int.reduceNeg, Int.reduceToNat, Nat.reduceLeDiff, aresults, aresult, tupled, Bool.and_self, Bool.true_and, Bool.and_true, true_and, and_true, Option.bind_some, Option.bind_none, Option.getD_some, Option.getD_none, Option.map_some, List.getElem?_toArray, List.getElem?_cons_zero, List.getElem?_cons_succ, List.getElem?_nil, List.map_cons, List.map_nil, List.all_cons, List.all_nil, Nat.reduceLT, Nat.reduceEqDiff, Nat.reduceSub, Nat.reduceAdd, ↓reduceIte, if_true, if_false, Bool.false_eq_true, reduceCtorEq, Nat.le_refl, decide_true, decide_false, Bool.not_true, Bool.not_false, decide_eq_true_eq, decide_eq_false_iff_not, eq_self, Bool.false_and, Bool.and_false, Bool.not_eq_true', ite_self]
    · have he : i = s := by omega
      subst he
      have hltz : ¬ ((i : Int) < (i : Int)) := by omega
      have hg2 : St.get E0 S1 S.n = some (.own (byC i (dig n i)) 5) := by
        rw [hg]
        exact congrArg (fun l => some (ABlk.own l 5)) (byC_congr fun j hj => by rw [if_pos (by omega)])
      have hst := stB (S := ⟨S1.n, S1.h, S1.n⟩) (dig n i 0 + 64 * cls n) hg2 s0
      simp only [g0, g3, g4, g12, g13, hltz, ia73z _ S.n i i s0, ldB _ hg2 s0, hasBody143, cl, hsh, conv_int ty3 ty5, w7, orTop (cls n) (by have := cls_le n; omega) _ hd0.2, hst, ↓wDn, wUp0, wUp1, wUp2, Option.map_none, Int.reduceLE, Int.reduceLT, Int.reduceEq, Int.reduceNeg, Int.reduceToNat, Nat.reduceLeDiff, aresults, aresult, tupled, Bool.and_self, Bool.true_and, Bool.and_true, true_and, and_true, Option.bind_some, Option.bind_none, Option.getD_some, Option.getD_none, Option.map_some, List.getElem?_toArray, List.getElem?_cons_zero, List.getElem?_cons_succ, List.getElem?_nil, List.map_cons, List.map_nil, List.all_cons, List.all_nil, Nat.reduceLT, Nat.reduceEqDiff, Nat.reduceSub, Nat.reduceAdd, ↓reduceIte, if_true, if_false, Bool.false_eq_true, reduceCtorEq, Nat.le_refl, decide_true, decide_false, Bool.not_true, Bool.not_false, decide_eq_true_eq, decide_eq_false_iff_not, eq_self, Bool.false_and, Bool.and_false, Bool.not_eq_true', ite_self]
      refine ⟨aordered_one _ _ 9 ?_ (by kernel_rfl), ?_⟩
      · intro y hy hne
        simp only [List.zipIdx_cons, List.zipIdx_nil, List.mem_cons, List.not_mem_nil, or_false] at hy
        rcases hy with rfl | rfl | rfl | rfl | rfl | rfl | rfl | rfl | rfl | rfl
        all_goals first | exact acls_ne2 _ _ _ _ _ _ _ (Nat.le_refl _) | exact absurd rfl hne
      · have henc : (List.range i).map (fun j => UInt8.ofNat (if j = 0 then dig n i 0 + 64 * cls n else dig n i j)) = enc n := by unfold enc encB; rw [hs]
        have hgx : ∀ lw, St.get E0 ⟨S1.n, ((⟨S1.n, S1.h, S1.n⟩ : St).set S.n (ABlk.own (byC i fun j => if j = 0 then dig n i 0 + 64 * cls n else dig n i j) 5)).h, lw⟩ S.n = some (ABlk.own (byC i fun j => if j = 0 then dig n i 0 + 64 * cls n else dig n i j) 5) := fun lw => by
          refine (get_setS ⟨S1.n, S1.h, S1.n⟩ _ _ _ hW (wf_base hS) (by show S.n < S1.n; omega)).trans ?_
          rw [if_pos rfl]
        have hn' : S.n ≤ S1.n := by omega
        simp only [g4, fun lw => cvB (cap := i) (hgx lw), henc, hlow, hn', ↓wDn, wUp0, wUp1, wUp2, Option.map_none, Int.reduceLE, Int.reduceLT, Int.reduceEq, Int.reduceNeg, Int.reduceToNat, Nat.reduceLeDiff, aresults, aresult, tupled, Bool.and_self, Bool.true_and, Bool.and_true, true_and, and_true, Option.bind_some, Option.bind_none, Option.getD_some, Option.getD_none, Option.map_some, List.getElem?_toArray, List.getElem?_cons_zero, List.getElem?_cons_succ, List.getElem?_nil, List.map_cons, List.map_nil, List.all_cons, List.all_nil, Nat.reduceLT, Nat.reduceEqDiff, Nat.reduceSub, Nat.reduceAdd, ↓reduceIte, if_true, if_false, Bool.false_eq_true, reduceCtorEq, Nat.le_refl, decide_true, decide_false, Bool.not_true, Bool.not_false, decide_eq_true_eq, decide_eq_false_iff_not, eq_self, Bool.false_and, Bool.and_false, Bool.not_eq_true', ite_self]
end Go.Abs

namespace Go.Abs
open Go Go.Proofs Go.RowKit
set_option linter.unusedSimpArgs false
set_option maxRecDepth 100000
/-- The number of bytes, by steps. -/
def thr (i : Nat) : Nat := 2 ^ (8 * 2 ^ i - 2)
theorem thr0 : thr 0 = 64 := rfl
theorem thr1 : thr 1 = 16384 := rfl
theorem thr2 : thr 2 = 1073741824 := rfl
theorem cls_step {n i : Nat} (h : i ≤ cls n) : (i < cls n) ↔ (i < 3 ∧ thr i ≤ n) := by
  have h3 := cls_le n
  obtain rfl | rfl | rfl | rfl : i = 0 ∨ i = 1 ∨ i = 2 ∨ i = 3 := by omega
  all_goals try simp only [thr0, thr1, thr2]
  all_goals unfold cls at *
  all_goals repeat' split at *
  all_goals omega
theorem coded_ok (n : Nat) (h : n < 2^62) (S : St) (hS : WF E0 S) (K : Value → St → Prop) (τ) : RL E0 28 [.int .i64 n] S K τ ↔ K (.string (str (enc n))) S := by
  refine w_det ?_ K τ
  rw [w_body (memo0 _ _ (by decide)) (okf0 _) Tryz.func28 (c := _) rfl (by show 1 ≤ 50; decide)]
  simp only [Tryz.f28, ↓wDn, wUp0, wUp1, wUp2, Option.map_none, Int.reduceLE, Int.reduceLT, Int.reduceEq, Int.reduceNeg, Int.reduceToNat, Nat.reduceLeDiff, aresults, aresult, tupled, Bool.and_self, Bool.true_and, Bool.and_true, true_and, and_true, Option.bind_some, Option.bind_none, Option.getD_some, Option.getD_none, Option.map_some, List.getElem?_toArray, List.getElem?_cons_zero, List.getElem?_cons_succ, List.getElem?_nil, List.map_cons, List.map_nil, List.all_cons, List.all_nil, Nat.reduceLT, Nat.reduceEqDiff, Nat.reduceSub, Nat.reduceAdd, ↓reduceIte, if_true, if_false, Bool.false_eq_true, reduceCtorEq, Nat.le_refl, decide_true, decide_false, Bool.not_true, Bool.not_false, decide_eq_true_eq, decide_eq_false_iff_not, eq_self, Bool.false_and, Bool.and_false, Bool.not_eq_true', ite_self]
  have hc3 := cls_le n
  have hd0 := dig0 h
  refine w_loopE (fun (i : Nat) g S1 => S1 = ⟨S.n, S.h, S.n⟩ ∧ i ≤ cls n ∧ g 0 = .int .i64 n ∧ g 3 = .int .i64 (2 ^ i : Nat)) (fun i => 3 - i) 0 (fun g S1 => S1 = ⟨S.n, S.h, S.n⟩ ∧ g 0 = .int .i64 n ∧ g 3 = .int .i64 (2 ^ cls n : Nat)) 0 ?init ?round ?rest
  case init =>
    refine ⟨rfl, by omega, ?_, ?_⟩ <;> simp only [↓wDn, wUp0, wUp1, wUp2, Option.map_none, Int.reduceLE, Int.reduceLT, Int.reduceEq, Int.reduceNeg, Int.reduceToNat, Nat.reduceLeDiff, aresults, aresult, tupled, Bool.and_self, Bool.true_and, Bool.and_true, true_and, and_true, Option.bind_some, Option.bind_none, Option.getD_some, Option.getD_none, Option.map_some, List.getElem?_toArray, List.getElem?_cons_zero, List.getElem?_cons_succ, List.getElem?_nil, List.map_cons, List.map_nil, List.all_cons, List.all_nil, Nat.reduceLT, Nat.reduceEqDiff, Nat.reduceSub, Nat.reduceAdd, ↓reduceIte, if_true, if_false, Bool.false_eq_true, reduceCtorEq, Nat.le_refl, decide_true, decide_false, Bool.not_true, Bool.not_false, decide_eq_true_eq, decide_eq_false_iff_not, eq_self, Bool.false_and, Bool.and_false, Bool.not_eq_true', ite_self]
    rfl
  case round =>
    rintro i g S1 ⟨rfl, hi, g0, g3⟩
    have hst := cls_step hi
    have hpow : 2 ^ i ≤ 8 := by
      have : i ≤ 3 := by omega
      obtain rfl | rfl | rfl | rfl : i = 0 ∨ i = 1 ∨ i = 2 ∨ i = 3 := by omega
      all_goals decide
    by_cases c : i < cls n
    · obtain ⟨c1, c2⟩ := hst.1 c
      have hp4 : 2 ^ i ≤ 4 := by
        obtain rfl | rfl | rfl : i = 0 ∨ i = 1 ∨ i = 2 := by omega
        all_goals decide
      have hp1 : 1 ≤ 2 ^ i := two_pos i
      have z1 : ((2 ^ i : Nat) : Int) < 8 := by omega
      have e1 : IntKind.i64.wrap (8 * ((2 ^ i : Nat) : Int)) = ((8 * 2 ^ i : Nat) : Int) := by rw [wrap64] <;> omega
      have e2 : IntKind.i64.wrap (((8 * 2 ^ i : Nat) : Int) - 2) = ((8 * 2 ^ i - 2 : Nat) : Int) := by rw [wrap64] <;> omega
      have e3 : ∀ t x y (S : St), binA E0 .shl t x y (.int .i64 1) (.int .i64 ((8 * 2 ^ i - 2 : Nat) : Int)) S = some (.value (.int .i64 (thr i)), S) := fun t x y S => by
        rw [bin_shlK _ _ _ _ _ _ _ _ (by omega) (by show 8 * 2 ^ i - 2 ≤ 64; omega)]
        refine congrArg (fun z => some (Next.value (Value.int .i64 z), S)) ?_
        obtain rfl | rfl | rfl : i = 0 ∨ i = 1 ∨ i = 2 := by omega
        all_goals decide
      have z2 : (thr i : Int) ≤ n := by omega
      have e4 : IntKind.i64.wrap (((2 ^ i : Nat) : Int) * 2) = ((2 ^ (i + 1) : Nat) : Int) := by rw [Nat.pow_succ, wrap64] <;> omega
      simp only [g0, g3, z1, e1, e2, e3, z2, e4, ↓wDn, wUp0, wUp1, wUp2, Option.map_none, Int.reduceLE, Int.reduceLT, Int.reduceEq, Int.reduceNeg, Int.reduceToNat, Nat.reduceLeDiff, aresults, aresult, tupled, Bool.and_self, Bool.true_and, Bool.and_true, true_and, and_true, Option.bind_some, Option.bind_none, Option.getD_some, Option.getD_none, Option.map_some, List.getElem?_toArray, List.getElem?_cons_zero, List.getElem?_cons_succ, List.getElem?_nil, List.map_cons, List.map_nil, List.all_cons, List.all_nil, Nat.reduceLT, Nat.reduceEqDiff, Nat.reduceSub, Nat.reduceAdd, ↓reduceIte, if_true, if_false, Bool.false_eq_true, reduceCtorEq, Nat.le_refl, decide_true, decide_false, Bool.not_true, Bool.not_false, decide_eq_true_eq, decide_eq_false_iff_not, eq_self, Bool.false_and, Bool.and_false, Bool.not_eq_true', ite_self]
      refine w_next (i + 1) (by omega) ⟨?_, by omega, ?_, ?_⟩ <;> simp only [g0, g3, ↓wDn, wUp0, wUp1, wUp2, Option.map_none, Int.reduceLE, Int.reduceLT, Int.reduceEq, Int.reduceNeg, Int.reduceToNat, Nat.reduceLeDiff, aresults, aresult, tupled, Bool.and_self, Bool.true_and, Bool.and_true, true_and, and_true, Option.bind_some, Option.bind_none, Option.getD_some, Option.getD_none, Option.map_some, List.getElem?_toArray, List.getElem?_cons_zero, List.getElem?_cons_succ, List.getElem?_nil, List.map_cons, List.map_nil, List.all_cons, List.all_nil, Nat.reduceLT, Nat.reduceEqDiff, Nat.reduceSub, Nat.reduceAdd, ↓reduceIte, if_true, if_false, Bool.false_eq_true, reduceCtorEq, Nat.le_refl, decide_true, decide_false, Bool.not_true, Bool.not_false, decide_eq_true_eq, decide_eq_false_iff_not, eq_self, Bool.false_and, Bool.and_false, Bool.not_eq_true', ite_self]
    · have he : i = cls n := by omega
      have hfin : OutP 50 0 (fun g S1 => S1 = ⟨S.n, S.h, S.n⟩ ∧ g 0 = .int .i64 n ∧ g 3 = .int .i64 (2 ^ cls n : Nat)) ⟨⟩ (.exit 0) (fr 50 g) ⟨S.n, S.h, S.n⟩ := w_out ⟨rfl, g0, by rw [g3, he]⟩
      by_cases z1 : ((2 ^ i : Nat) : Int) < 8
      · have c1 : i < 3 := by
          rcases Nat.lt_or_ge i 3 with h | h
          · exact h
          · have : i = 3 := by omega
            subst this
            exact absurd z1 (by decide)
        have hp1 : 1 ≤ 2 ^ i := two_pos i
        have e1 : IntKind.i64.wrap (8 * ((2 ^ i : Nat) : Int)) = ((8 * 2 ^ i : Nat) : Int) := by rw [wrap64] <;> omega
        have e2 : IntKind.i64.wrap (((8 * 2 ^ i : Nat) : Int) - 2) = ((8 * 2 ^ i - 2 : Nat) : Int) := by rw [wrap64] <;> omega
        have e3 : ∀ t x y (S : St), binA E0 .shl t x y (.int .i64 1) (.int .i64 ((8 * 2 ^ i - 2 : Nat) : Int)) S = some (.value (.int .i64 (thr i)), S) := fun t x y S => by
          rw [bin_shlK _ _ _ _ _ _ _ _ (by omega) (by show 8 * 2 ^ i - 2 ≤ 64; omega)]
          refine congrArg (fun z => some (Next.value (Value.int .i64 z), S)) ?_
          obtain rfl | rfl | rfl : i = 0 ∨ i = 1 ∨ i = 2 := by omega
          all_goals decide
        have z2 : ¬ (thr i : Int) ≤ n := fun hh => c (hst.2 ⟨c1, by omega⟩)
        simp only [g0, g3, z1, e1, e2, e3, z2, ↓wDn, wUp0, wUp1, wUp2, Option.map_none, Int.reduceLE, Int.reduceLT, Int.reduceEq, Int.reduceNeg, Int.reduceToNat, Nat.reduceLeDiff, aresults, aresult, tupled, Bool.and_self, Bool.true_and, Bool.and_true, true_and, and_true, Option.bind_some, Option.bind_none, Option.getD_some, Option.getD_none, Option.map_some, List.getElem?_toArray, List.getElem?_cons_zero, List.getElem?_cons_succ, List.getElem?_nil, List.map_cons, List.map_nil, List.all_cons, List.all_nil, Nat.reduceLT, Nat.reduceEqDiff, Nat.reduceSub, Nat.reduceAdd, ↓reduceIte, if_true, if_false, Bool.false_eq_true, reduceCtorEq, Nat.le_refl, decide_true, decide_false, Bool.not_true, Bool.not_false, decide_eq_true_eq, decide_eq_false_iff_not, eq_self, Bool.false_and, Bool.and_false, Bool.not_eq_true', ite_self]
        exact w_out ⟨rfl, by simp only [g0, ↓wDn, wUp0, wUp1, wUp2, Option.map_none, Int.reduceLE, Int.reduceLT, Int.reduceEq, Int.reduceNeg, Int.reduceToNat, Nat.reduceLeDiff, aresults, aresult, tupled, Bool.and_self, Bool.true_and, Bool.and_true, true_and, and_true, Option.bind_some, Option.bind_none, Option.getD_some, Option.getD_none, Option.map_some, List.getElem?_toArray, List.getElem?_cons_zero, List.getElem?_cons_succ, List.getElem?_nil, List.map_cons, List.map_nil, List.all_cons, List.all_nil, Nat.reduceLT, Nat.reduceEqDiff, Nat.reduceSub, Nat.reduceAdd, ↓reduceIte, if_true, if_false, Bool.false_eq_true, reduceCtorEq, Nat.le_refl, decide_true, decide_false, Bool.not_true, Bool.not_false, decide_eq_true_eq, decide_eq_false_iff_not, eq_self, Bool.false_and, Bool.and_false, Bool.not_eq_true', ite_self], by simp only [g3, he, ↓wDn, wUp0, wUp1, wUp2, Option.map_none, Int.reduceLE, Int.reduceLT, Int.reduceEq, Int.reduceNeg, Int.reduceToNat, Nat.reduceLeDiff, aresults, aresult, tupled, Bool.and_self, Bool.true_and, Bool.and_true, true_and, and_true, Option.bind_some, Option.bind_none, Option.getD_some, Option.getD_none, Option.map_some, List.getElem?_toArray, List.getElem?_cons_zero, List.getElem?_cons_succ, List.getElem?_nil, List.map_cons, List.map_nil, List.all_cons, List.all_nil, Nat.reduceLT, Nat.reduceEqDiff, Nat.reduceSub, Nat.reduceAdd, ↓reduceIte, if_true, if_false, Bool.false_eq_true, reduceCtorEq, Nat.le_refl, decide_true, decide_false, Bool.not_true, Bool.not_false, decide_eq_true_eq, decide_eq_false_iff_not, eq_self, Bool.false_and, Bool.and_false, Bool.not_eq_true', ite_self]⟩
      · simp only [g0, g3, z1, ↓wDn, wUp0, wUp1, wUp2, Option.map_none, Int.reduceLE, Int.reduceLT, Int.reduceEq, Int.reduceNeg, Int.reduceToNat, Nat.reduceLeDiff, aresults, aresult, tupled, Bool.and_self, Bool.true_and, Bool.and_true, true_and, and_true, Option.bind_some, Option.bind_none, Option.getD_some, Option.getD_none, Option.map_some, List.getElem?_toArray, List.getElem?_cons_zero, List.getElem?_cons_succ, List.getElem?_nil, List.map_cons, List.map_nil, List.all_cons, List.all_nil, Nat.reduceLT, Nat.reduceEqDiff, Nat.reduceSub, Nat.reduceAdd, ↓reduceIte, if_true, if_false, Bool.false_eq_true, reduceCtorEq, Nat.le_refl, decide_true, decide_false, Bool.not_true, Bool.not_false, decide_eq_true_eq, decide_eq_false_iff_not, eq_self, Bool.false_and, Bool.and_false, Bool.not_eq_true', ite_self]
        exact w_out ⟨rfl, by simp only [g0, ↓wDn, wUp0, wUp1, wUp2, Option.map_none, Int.reduceLE, Int.reduceLT, Int.reduceEq, Int.reduceNeg, Int.reduceToNat, Nat.reduceLeDiff, aresults, aresult, tupled, Bool.and_self, Bool.true_and, Bool.and_true, true_and, and_true, Option.bind_some, Option.bind_none, Option.getD_some, Option.getD_none, Option.map_some, List.getElem?_toArray, List.getElem?_cons_zero, List.getElem?_cons_succ, List.getElem?_nil, List.map_cons, List.map_nil, List.all_cons, List.all_nil, Nat.reduceLT, Nat.reduceEqDiff, Nat.reduceSub, Nat.reduceAdd, ↓reduceIte, if_true, if_false, Bool.false_eq_true, reduceCtorEq, Nat.le_refl, decide_true, decide_false, Bool.not_true, Bool.not_false, decide_eq_true_eq, decide_eq_false_iff_not, eq_self, Bool.false_and, Bool.and_false, Bool.not_eq_true', ite_self], by simp only [g3, he, ↓wDn, wUp0, wUp1, wUp2, Option.map_none, Int.reduceLE, Int.reduceLT, Int.reduceEq, Int.reduceNeg, Int.reduceToNat, Nat.reduceLeDiff, aresults, aresult, tupled, Bool.and_self, Bool.true_and, Bool.and_true, true_and, and_true, Option.bind_some, Option.bind_none, Option.getD_some, Option.getD_none, Option.map_some, List.getElem?_toArray, List.getElem?_cons_zero, List.getElem?_cons_succ, List.getElem?_nil, List.map_cons, List.map_nil, List.all_cons, List.all_nil, Nat.reduceLT, Nat.reduceEqDiff, Nat.reduceSub, Nat.reduceAdd, ↓reduceIte, if_true, if_false, Bool.false_eq_true, reduceCtorEq, Nat.le_refl, decide_true, decide_false, Bool.not_true, Bool.not_false, decide_eq_true_eq, decide_eq_false_iff_not, eq_self, Bool.false_and, Bool.and_false, Bool.not_eq_true', ite_self]⟩
  case rest =>
    rintro g S1 ⟨rfl, g0, g3⟩
    obtain ⟨s, hs⟩ : ∃ s, 2 ^ cls n = s := ⟨_, rfl⟩
    obtain ⟨s0, s8, _⟩ := cls_pow hs
    rw [hs] at g3 hd0
    simp only [g3, mk_one und73 inf5 rfl _ _ s s0 (by omega) (by omega), len_slc und73, ↓wDn, wUp0, wUp1, wUp2, Option.map_none, Int.reduceLE, Int.reduceLT, Int.reduceEq, Int.reduceNeg, Int.reduceToNat, Nat.reduceLeDiff, aresults, aresult, tupled, Bool.and_self, Bool.true_and, Bool.and_true, true_and, and_true, Option.bind_some, Option.bind_none, Option.getD_some, Option.getD_none, Option.map_some, List.getElem?_toArray, List.getElem?_cons_zero, List.getElem?_cons_succ, List.getElem?_nil, List.map_cons, List.map_nil, List.all_cons, List.all_nil, Nat.reduceLT, Nat.reduceEqDiff, Nat.reduceSub, Nat.reduceAdd, ↓reduceIte, if_true, if_false, Bool.false_eq_true, reduceCtorEq, Nat.le_refl, decide_true, decide_false, Bool.not_true, Bool.not_false, decide_eq_true_eq, decide_eq_false_iff_not, eq_self, Bool.false_and, Bool.and_false, Bool.not_eq_true', ite_self]
    rw [byC_zero]
    refine w_loopE (fun (i : Nat) g S1 => WF E0 S1 ∧ S1.n = S.n + 1 ∧ S.n ≤ S1.low ∧ St.get E0 S1 S.n = some (.own (byC s fun j => if j < i then dig n s j else 0) 5) ∧ i ≤ s ∧ g 0 = .int .i64 n ∧ g 3 = .int .i64 s ∧ g 4 = .slice (some ⟨S.n, 0, none⟩) s s ∧ g 22 = .int .i64 s ∧ g 23 = .int .i64 i) (fun i => s - i) 2
      (fun g S1 => WF E0 S1 ∧ S1.n = S.n + 1 ∧ S.n ≤ S1.low ∧ St.get E0 S1 S.n = some (.own (byC s (dig n s)) 5) ∧ g 3 = .int .i64 s ∧ g 4 = .slice (some ⟨S.n, 0, none⟩) s s) 0 ?init2 ?round2 ?rest2
    case init2 =>
      refine ⟨?_, ?_, ?_, ?_, by omega, ?_, ?_, ?_, ?_, ?_⟩
      · simp only [hS, ↓wDn, wUp0, wUp1, wUp2, Option.map_none, Int.reduceLE, Int.reduceLT, Int.reduceEq, Int.reduceNeg, Int.reduceToNat, Nat.reduceLeDiff, aresults, aresult, tupled, Bool.and_self, Bool.true_and, Bool.and_true, true_and, and_true, Option.bind_some, Option.bind_none, Option.getD_some, Option.getD_none, Option.map_some, List.getElem?_toArray, List.getElem?_cons_zero, List.getElem?_cons_succ, List.getElem?_nil, List.map_cons, List.map_nil, List.all_cons, List.all_nil, Nat.reduceLT, Nat.reduceEqDiff, Nat.reduceSub, Nat.reduceAdd, ↓reduceIte, if_true, if_false, Bool.false_eq_true, reduceCtorEq, Nat.le_refl, decide_true, decide_false, Bool.not_true, Bool.not_false, decide_eq_true_eq, decide_eq_false_iff_not, eq_self, Bool.false_and, Bool.and_false, Bool.not_eq_true', ite_self]
      · simp only [↓wDn, wUp0, wUp1, wUp2, Option.map_none, Int.reduceLE, Int.reduceLT, Int.reduceEq, Int.reduceNeg, Int.reduceToNat, Nat.reduceLeDiff, aresults, aresult, tupled, Bool.and_self, Bool.true_and, Bool.and_true, true_and, and_true, Option.bind_some, Option.bind_none, Option.getD_some, Option.getD_none, Option.map_some, List.getElem?_toArray, List.getElem?_cons_zero, List.getElem?_cons_succ, List.getElem?_nil, List.map_cons, List.map_nil, List.all_cons, List.all_nil, Nat.reduceLT, Nat.reduceEqDiff, Nat.reduceSub, Nat.reduceAdd, ↓reduceIte, if_true, if_false, Bool.false_eq_true, reduceCtorEq, Nat.le_refl, decide_true, decide_false, Bool.not_true, Bool.not_false, decide_eq_true_eq, decide_eq_false_iff_not, eq_self, Bool.false_and, Bool.and_false, Bool.not_eq_true', ite_self]
      · simp only [↓wDn, wUp0, wUp1, wUp2, Option.map_none, Int.reduceLE, Int.reduceLT, Int.reduceEq, Int.reduceNeg, Int.reduceToNat, Nat.reduceLeDiff, aresults, aresult, tupled, Bool.and_self, Bool.true_and, Bool.and_true, true_and, and_true, Option.bind_some, Option.bind_none, Option.getD_some, Option.getD_none, Option.map_some, List.getElem?_toArray, List.getElem?_cons_zero, List.getElem?_cons_succ, List.getElem?_nil, List.map_cons, List.map_nil, List.all_cons, List.all_nil, Nat.reduceLT, Nat.reduceEqDiff, Nat.reduceSub, Nat.reduceAdd, ↓reduceIte, if_true, if_false, Bool.false_eq_true, reduceCtorEq, Nat.le_refl, decide_true, decide_false, Bool.not_true, Bool.not_false, decide_eq_true_eq, decide_eq_false_iff_not, eq_self, Bool.false_and, Bool.and_false, Bool.not_eq_true', ite_self]
      · rw [get_push ⟨S.n, S.h, S.n⟩ _ _ hS, if_pos rfl]
        exact congrArg (fun l => some (ABlk.own l 5)) (byC_congr fun j hj => by rw [if_neg (by omega)])
      all_goals simp only [g0, g3, Int.natCast_zero, ↓wDn, wUp0, wUp1, wUp2, Option.map_none, Int.reduceLE, Int.reduceLT, Int.reduceEq, Int.reduceNeg, Int.reduceToNat, Nat.reduceLeDiff, aresults, aresult, tupled, Bool.and_self, Bool.true_and, Bool.and_true, true_and, and_true, Option.bind_some, Option.bind_none, Option.getD_some, Option.getD_none, Option.map_some, List.getElem?_toArray, List.getElem?_cons_zero, List.getElem?_cons_succ, List.getElem?_nil, List.map_cons, List.map_nil, List.all_cons, List.all_nil, Nat.reduceLT, Nat.reduceEqDiff, Nat.reduceSub, Nat.reduceAdd, ↓reduceIte, if_true, if_false, Bool.false_eq_true, reduceCtorEq, Nat.le_refl, decide_true, decide_false, Bool.not_true, Bool.not_false, decide_eq_true_eq, decide_eq_false_iff_not, eq_self, Bool.false_and, Bool.and_false, Bool.not_eq_true', ite_self]
    case round2 =>
      rintro i g S1 ⟨hW, hn, hlow, hg, hi, g0, g3, g4, g22, g23⟩
      by_cases hlt : i < s
      · have hltz : (i : Int) < (s : Int) := by omega
        have e1 : IntKind.i64.wrap ((s : Int) - 1) = ((s - 1 : Nat) : Int) := by rw [wrap64] <;> omega
        have e2 : IntKind.i64.wrap (((s - 1 : Nat) : Int) - (i : Int)) = ((s - 1 - i : Nat) : Int) := by rw [wrap64] <;> omega
        have e3 : IntKind.i64.wrap (8 * ((s - 1 - i : Nat) : Int)) = ((8 * (s - 1 - i) : Nat) : Int) := by rw [wrap64] <;> omega
        have e4 : ∀ t x y (S : St), binA E0 .shr t x y (.int .i64 n) (.int .i64 ((8 * (s - 1 - i) : Nat) : Int)) S = some (.value (.int .i64 ((n : Int).fdiv (2 ^ (8 * (s - 1 - i))))), S) := fun t x y S => bin_shrK _ _ _ _ _ _ _ _ (by omega) (by show 8 * (s - 1 - i) ≤ 64; omega)
        have e5 : IntKind.i64.wrap ((i : Int) + 1) = ((i + 1 : Nat) : Int) := by rw [wrap64] <;> omega
        have hst := stB (n / 256 ^ (s - 1 - i) % 256) hg hlt
        simp only [g0, g3, g4, g22, g23, hltz, e1, e2, e3, e4, e5, conv_int ty3 ty5, byteShr, ia73 _ S.n s s i hlt, hst, ↓wDn, wUp0, wUp1, wUp2, Option.map_none, Int.reduceLE, Int.reduceLT, Int.reduceEq, Int.reduceNeg, Int.reduceToNat, Nat.reduceLeDiff, aresults, aresult, tupled, Bool.and_self, Bool.true_and, Bool.and_true, true_and, and_true, Option.bind_some, Option.bind_none, Option.getD_some, Option.getD_none, Option.map_some, List.getElem?_toArray, List.getElem?_cons_zero, List.getElem?_cons_succ, List.getElem?_nil, List.map_cons, List.map_nil, List.all_cons, List.all_nil, Nat.reduceLT, Nat.reduceEqDiff, Nat.reduceSub, Nat.reduceAdd, ↓reduceIte, if_true, if_false, Bool.false_eq_true, reduceCtorEq, Nat.le_refl, decide_true, decide_false, Bool.not_true, Bool.not_false, decide_eq_true_eq, decide_eq_false_iff_not, eq_self, Bool.false_and, Bool.and_false, Bool.not_eq_true', ite_self]
        refine w_next (i + 1) (by omega) ⟨?_, ?_, ?_, ?_, by omega, ?_, ?_, ?_, ?_, ?_⟩
        · simp only [hW, ↓wDn, wUp0, wUp1, wUp2, Option.map_none, Int.reduceLE, Int.reduceLT, Int.reduceEq, Int.reduceNeg, Int.reduceToNat, Nat.reduceLeDiff, aresults, aresult, tupled, Bool.and_self, Bool.true_and, Bool.and_true, true_and, and_true, Option.bind_some, Option.bind_none, Option.getD_some, Option.getD_none, Option.map_some, List.getElem?_toArray, List.getElem?_cons_zero, List.getElem?_cons_succ, List.getElem?_nil, List.map_cons, List.map_nil, List.all_cons, List.all_nil, Nat.reduceLT, Nat.reduceEqDiff, Nat.reduceSub, Nat.reduceAdd, ↓reduceIte, if_true, if_false, Bool.false_eq_true, reduceCtorEq, Nat.le_refl, decide_true, decide_false, Bool.not_true, Bool.not_false, decide_eq_true_eq, decide_eq_false_iff_not, eq_self, Bool.false_and, Bool.and_false, Bool.not_eq_true', ite_self]
        · simp only [hn, ↓wDn, wUp0, wUp1, wUp2, Option.map_none, Int.reduceLE, Int.reduceLT, Int.reduceEq, Int.reduceNeg, Int.reduceToNat, Nat.reduceLeDiff, aresults, aresult, tupled, Bool.and_self, Bool.true_and, Bool.and_true, true_and, and_true, Option.bind_some, Option.bind_none, Option.getD_some, Option.getD_none, Option.map_some, List.getElem?_toArray, List.getElem?_cons_zero, List.getElem?_cons_succ, List.getElem?_nil, List.map_cons, List.map_nil, List.all_cons, List.all_nil, Nat.reduceLT, Nat.reduceEqDiff, Nat.reduceSub, Nat.reduceAdd, ↓reduceIte, if_true, if_false, Bool.false_eq_true, reduceCtorEq, Nat.le_refl, decide_true, decide_false, Bool.not_true, Bool.not_false, decide_eq_true_eq, decide_eq_false_iff_not, eq_self, Bool.false_and, Bool.and_false, Bool.not_eq_true', ite_self]
        · simp only [hlow, ↓wDn, wUp0, wUp1, wUp2, Option.map_none, Int.reduceLE, Int.reduceLT, Int.reduceEq, Int.reduceNeg, Int.reduceToNat, Nat.reduceLeDiff, aresults, aresult, tupled, Bool.and_self, Bool.true_and, Bool.and_true, true_and, and_true, Option.bind_some, Option.bind_none, Option.getD_some, Option.getD_none, Option.map_some, List.getElem?_toArray, List.getElem?_cons_zero, List.getElem?_cons_succ, List.getElem?_nil, List.map_cons, List.map_nil, List.all_cons, List.all_nil, Nat.reduceLT, Nat.reduceEqDiff, Nat.reduceSub, Nat.reduceAdd, ↓reduceIte, if_true, if_false, Bool.false_eq_true, reduceCtorEq, Nat.le_refl, decide_true, decide_false, Bool.not_true, Bool.not_false, decide_eq_true_eq, decide_eq_false_iff_not, eq_self, Bool.false_and, Bool.and_false, Bool.not_eq_true', ite_self]
        · rw [get_setS _ _ _ _ hW (wf_base hS) (by omega), if_pos rfl]
          refine congrArg (fun l => some (ABlk.own l 5)) (byC_congr fun j hj => ?_)
          by_cases hj2 : j = i
          · rw [if_pos hj2, if_pos (by omega), hj2]
            rfl
          · rw [if_neg hj2]
            by_cases hj3 : j < i
            · rw [if_pos hj3, if_pos (by omega)]
            · rw [if_neg hj3, if_neg (by omega)]
        all_goals simp only [g0, g3, g4, g22, g23, ↓wDn, wUp0, wUp1, wUp2, Option.map_none, Int.reduceLE, Int.reduceLT, Int.reduceEq, Int.reduceNeg, Int.reduceToNat, Nat.reduceLeDiff, aresults, aresult, tupled, Bool.and_self, Bool.true_and, Bool.and_true, true_and, and_true, Option.bind_some, Option.bind_none, Option.getD_some, Option.getD_none, Option.map_some, List.getElem?_toArray, List.getElem?_cons_zero, List.getElem?_cons_succ, List.getElem?_nil, List.map_cons, List.map_nil, List.all_cons, List.all_nil, Nat.reduceLT, Nat.reduceEqDiff, Nat.reduceSub, Nat.reduceAdd, ↓reduceIte, if_true, if_false, Bool.false_eq_true, reduceCtorEq, Nat.le_refl, decide_true, decide_false, Bool.not_true, Bool.not_false, decide_eq_true_eq, decide_eq_false_iff_not, eq_self, Bool.false_and, Bool.and_false, Bool.not_eq_true', ite_self]
      · have he : i = s := by omega
        have hltz : ¬ ((i : Int) < (s : Int)) := by omega
        have hg2 : St.get E0 S1 S.n = some (.own (byC s (dig n s)) 5) := by
          rw [hg]
          exact congrArg (fun l => some (ABlk.own l 5)) (byC_congr fun j hj => by rw [if_pos (by omega)])
        simp only [g22, g23, hltz, ↓wDn, wUp0, wUp1, wUp2, Option.map_none, Int.reduceLE, Int.reduceLT, Int.reduceEq, Int.reduceNeg, Int.reduceToNat, Nat.reduceLeDiff, aresults, aresult, tupled, Bool.and_self, Bool.true_and, Bool.and_true, true_and, and_true, Option.bind_some, Option.bind_none, Option.getD_some, Option.getD_none, Option.map_some, List.getElem?_toArray, List.getElem?_cons_zero, List.getElem?_cons_succ, List.getElem?_nil, List.map_cons, List.map_nil, List.all_cons, List.all_nil, Nat.reduceLT, Nat.reduceEqDiff, Nat.reduceSub, Nat.reduceAdd, ↓reduceIte, if_true, if_false, Bool.false_eq_true, reduceCtorEq, Nat.le_refl, decide_true, decide_false, Bool.not_true, Bool.not_false, decide_eq_true_eq, decide_eq_false_iff_not, eq_self, Bool.false_and, Bool.and_false, Bool.not_eq_true', ite_self]
        exact w_out ⟨by simp only [hW, ↓wDn, wUp0, wUp1, wUp2, Option.map_none, Int.reduceLE, Int.reduceLT, Int.reduceEq, Int.reduceNeg, Int.reduceToNat, Nat.reduceLeDiff, aresults, aresult, tupled, Bool.and_self, Bool.true_and, Bool.and_true, true_and, and_true, Option.bind_some, Option.bind_none, Option.getD_some, Option.getD_none, Option.map_some, List.getElem?_toArray, List.getElem?_cons_zero, List.getElem?_cons_succ, List.getElem?_nil, List.map_cons, List.map_nil, List.all_cons, List.all_nil, Nat.reduceLT, Nat.reduceEqDiff, Nat.reduceSub, Nat.reduceAdd, ↓reduceIte, if_true, if_false, Bool.false_eq_true, reduceCtorEq, Nat.le_refl, decide_true, decide_false, Bool.not_true, Bool.not_false, decide_eq_true_eq, decide_eq_false_iff_not, eq_self, Bool.false_and, Bool.and_false, Bool.not_eq_true', ite_self], by simp only [hn, ↓wDn, wUp0, wUp1, wUp2, Option.map_none, Int.reduceLE, Int.reduceLT, Int.reduceEq, Int.reduceNeg, Int.reduceToNat, Nat.reduceLeDiff, aresults, aresult, tupled, Bool.and_self, Bool.true_and, Bool.and_true, true_and, and_true, Option.bind_some, Option.bind_none, Option.getD_some, Option.getD_none, Option.map_some, List.getElem?_toArray, List.getElem?_cons_zero, List.getElem?_cons_succ, List.getElem?_nil, List.map_cons, List.map_nil, List.all_cons, List.all_nil, Nat.reduceLT, Nat.reduceEqDiff, Nat.reduceSub, Nat.reduceAdd, ↓reduceIte, if_true, if_false, Bool.false_eq_true, reduceCtorEq, Nat.le_refl, decide_true, decide_false, Bool.not_true, Bool.not_false, decide_eq_true_eq, decide_eq_false_iff_not, eq_self, Bool.false_and, Bool.and_false, Bool.not_eq_true', ite_self], by simp only [hlow, ↓wDn, wUp0, wUp1, wUp2, Option.map_none, Int.reduceLE, Int.reduceLT, Int.reduceEq, Int.reduceNeg, Int.reduceToNat, Nat.reduceLeDiff, aresults, aresult, tupled, Bool.and_self, Bool.true_and, Bool.and_true, true_and, and_true, Option.bind_some, Option.bind_none, Option.getD_some, Option.getD_none, Option.map_some, List.getElem?_toArray, List.getElem?_cons_zero, List.getElem?_cons_succ, List.getElem?_nil, List.map_cons, List.map_nil, List.all_cons, List.all_nil, Nat.reduceLT, Nat.reduceEqDiff, Nat.reduceSub, Nat.reduceAdd, ↓reduceIte, if_true, if_false, Bool.false_eq_true, reduceCtorEq, Nat.le_refl, decide_true, decide_false, Bool.not_true, Bool.not_false, decide_eq_true_eq, decide_eq_false_iff_not, eq_self, Bool.false_and, Bool.and_false, Bool.not_eq_true', ite_self], by simp only [hg2, ↓wDn, wUp0, wUp1, wUp2, Option.map_none, Int.reduceLE, Int.reduceLT, Int.reduceEq, Int.reduceNeg, Int.reduceToNat, Nat.reduceLeDiff, aresults, aresult, tupled, Bool.and_self, Bool.true_and, Bool.and_true, true_and, and_true, Option.bind_some, Option.bind_none, Option.getD_some, Option.getD_none, Option.map_some, List.getElem?_toArray, List.getElem?_cons_zero, List.getElem?_cons_succ, List.getElem?_nil, List.map_cons, List.map_nil, List.all_cons, List.all_nil, Nat.reduceLT, Nat.reduceEqDiff, Nat.reduceSub, Nat.reduceAdd, ↓reduceIte, if_true, if_false, Bool.false_eq_true, reduceCtorEq, Nat.le_refl, decide_true, decide_false, Bool.not_true, Bool.not_false, decide_eq_true_eq, decide_eq_false_iff_not, eq_self, Bool.false_and, Bool.and_false, Bool.not_eq_true', ite_self], by simp only [g3, ↓wDn, wUp0, wUp1, wUp2, Option.map_none, Int.reduceLE, Int.reduceLT, Int.reduceEq, Int.reduceNeg, Int.reduceToNat, Nat.reduceLeDiff, aresults, aresult, tupled, Bool.and_self, Bool.true_and, Bool.and_true, true_and, and_true, Option.bind_some, Option.bind_none, Option.getD_some, Option.getD_none, Option.map_some, List.getElem?_toArray, List.getElem?_cons_zero, List.getElem?_cons_succ, List.getElem?_nil, List.map_cons, List.map_nil, List.all_cons, List.all_nil, Nat.reduceLT, Nat.reduceEqDiff, Nat.reduceSub, Nat.reduceAdd, ↓reduceIte, if_true, if_false, Bool.false_eq_true, reduceCtorEq, Nat.le_refl, decide_true, decide_false, Bool.not_true, Bool.not_false, decide_eq_true_eq, decide_eq_false_iff_not, eq_self, Bool.false_and, Bool.and_false, Bool.not_eq_true', ite_self], by simp only [g4, ↓wDn, wUp0, wUp1, wUp2, Option.map_none, Int.reduceLE, Int.reduceLT, Int.reduceEq, Int.reduceNeg, Int.reduceToNat, Nat.reduceLeDiff, aresults, aresult, tupled, Bool.and_self, Bool.true_and, Bool.and_true, true_and, and_true, Option.bind_some, Option.bind_none, Option.getD_some, Option.getD_none, Option.map_some, List.getElem?_toArray, List.getElem?_cons_zero, List.getElem?_cons_succ, List.getElem?_nil, List.map_cons, List.map_nil, List.all_cons, List.all_nil, Nat.reduceLT, Nat.reduceEqDiff, Nat.reduceSub, Nat.reduceAdd, ↓reduceIte, if_true, if_false, Bool.false_eq_true, reduceCtorEq, Nat.le_refl, decide_true, decide_false, Bool.not_true, Bool.not_false, decide_eq_true_eq, decide_eq_false_iff_not, eq_self, Bool.false_and, Bool.and_false, Bool.not_eq_true', ite_self]⟩
    case rest2 =>
      rintro g S1 ⟨hW, hn, hlow, hg, g3, g4⟩
      simp only [g3, g4, ↓wDn, wUp0, wUp1, wUp2, Option.map_none, Int.reduceLE, Int.reduceLT, Int.reduceEq, Int.reduceNeg, Int.reduceToNat, Nat.reduceLeDiff, aresults, aresult, tupled, Bool.and_self, Bool.true_and, Bool.and_true, true_and, and_true, Option.bind_some, Option.bind_none, Option.getD_some, Option.getD_none, Option.map_some, List.getElem?_toArray, List.getElem?_cons_zero, List.getElem?_cons_succ, List.getElem?_nil, List.map_cons, List.map_nil, List.all_cons, List.all_nil, Nat.reduceLT, Nat.reduceEqDiff, Nat.reduceSub, Nat.reduceAdd, ↓reduceIte, if_true, if_false, Bool.false_eq_true, reduceCtorEq, Nat.le_refl, decide_true, decide_false, Bool.not_true, Bool.not_false, decide_eq_true_eq, decide_eq_false_iff_not, eq_self, Bool.false_and, Bool.and_false, Bool.not_eq_true', ite_self]
      refine w_loopE (fun (i : Nat) g S1 => WF E0 S1 ∧ S1.n = S.n + 1 ∧ S.n ≤ S1.low ∧ St.get E0 S1 S.n = some (.own (byC s fun j => if j = 0 then dig n s 0 + 64 * i else dig n s j) 5) ∧ i ≤ cls n ∧ g 3 = .int .i64 s ∧ g 4 = .slice (some ⟨S.n, 0, none⟩) s s ∧ g 6 = .int .i64 (2 ^ i : Nat)) (fun i => 3 - i) 4
        (fun g S1 => WF E0 S1 ∧ S1.n = S.n + 1 ∧ S.n ≤ S1.low ∧ St.get E0 S1 S.n = some (.own (byC s fun j => if j = 0 then dig n s 0 + 64 * cls n else dig n s j) 5) ∧ g 4 = .slice (some ⟨S.n, 0, none⟩) s s) 0 ?init3 ?round3 ?rest3
      case init3 =>
        refine ⟨?_, ?_, ?_, ?_, by omega, ?_, ?_, ?_⟩
        · simp only [hW, ↓wDn, wUp0, wUp1, wUp2, Option.map_none, Int.reduceLE, Int.reduceLT, Int.reduceEq, Int.reduceNeg, Int.reduceToNat, Nat.reduceLeDiff, aresults, aresult, tupled, Bool.and_self, Bool.true_and, Bool.and_true, true_and, and_true, Option.bind_some, Option.bind_none, Option.getD_some, Option.getD_none, Option.map_some, List.getElem?_toArray, List.getElem?_cons_zero, List.getElem?_cons_succ, List.getElem?_nil, List.map_cons, List.map_nil, List.all_cons, List.all_nil, Nat.reduceLT, Nat.reduceEqDiff, Nat.reduceSub, Nat.reduceAdd, ↓reduceIte, if_true, if_false, Bool.false_eq_true, reduceCtorEq, Nat.le_refl, decide_true, decide_false, Bool.not_true, Bool.not_false, decide_eq_true_eq, decide_eq_false_iff_not, eq_self, Bool.false_and, Bool.and_false, Bool.not_eq_true', ite_self]
        · simp only [hn, ↓wDn, wUp0, wUp1, wUp2, Option.map_none, Int.reduceLE, Int.reduceLT, Int.reduceEq, Int.reduceNeg, Int.reduceToNat, Nat.reduceLeDiff, aresults, aresult, tupled, Bool.and_self, Bool.true_and, Bool.and_true, true_and, and_true, Option.bind_some, Option.bind_none, Option.getD_some, Option.getD_none, Option.map_some, List.getElem?_toArray, List.getElem?_cons_zero, List.getElem?_cons_succ, List.getElem?_nil, List.map_cons, List.map_nil, List.all_cons, List.all_nil, Nat.reduceLT, Nat.reduceEqDiff, Nat.reduceSub, Nat.reduceAdd, ↓reduceIte, if_true, if_false, Bool.false_eq_true, reduceCtorEq, Nat.le_refl, decide_true, decide_false, Bool.not_true, Bool.not_false, decide_eq_true_eq, decide_eq_false_iff_not, eq_self, Bool.false_and, Bool.and_false, Bool.not_eq_true', ite_self]
        · simp only [hlow, ↓wDn, wUp0, wUp1, wUp2, Option.map_none, Int.reduceLE, Int.reduceLT, Int.reduceEq, Int.reduceNeg, Int.reduceToNat, Nat.reduceLeDiff, aresults, aresult, tupled, Bool.and_self, Bool.true_and, Bool.and_true, true_and, and_true, Option.bind_some, Option.bind_none, Option.getD_some, Option.getD_none, Option.map_some, List.getElem?_toArray, List.getElem?_cons_zero, List.getElem?_cons_succ, List.getElem?_nil, List.map_cons, List.map_nil, List.all_cons, List.all_nil, Nat.reduceLT, Nat.reduceEqDiff, Nat.reduceSub, Nat.reduceAdd, ↓reduceIte, if_true, if_false, Bool.false_eq_true, reduceCtorEq, Nat.le_refl, decide_true, decide_false, Bool.not_true, Bool.not_false, decide_eq_true_eq, decide_eq_false_iff_not, eq_self, Bool.false_and, Bool.and_false, Bool.not_eq_true', ite_self]
        · rw [get_mk, hg]
          exact congrArg (fun l => some (ABlk.own l 5)) (byC_congr fun j hj => by
            by_cases h0 : j = 0
            · rw [if_pos h0, h0, Nat.mul_zero, Nat.add_zero]
            · rw [if_neg h0])
        · simp only [g3, ↓wDn, wUp0, wUp1, wUp2, Option.map_none, Int.reduceLE, Int.reduceLT, Int.reduceEq, Int.reduceNeg, Int.reduceToNat, Nat.reduceLeDiff, aresults, aresult, tupled, Bool.and_self, Bool.true_and, Bool.and_true, true_and, and_true, Option.bind_some, Option.bind_none, Option.getD_some, Option.getD_none, Option.map_some, List.getElem?_toArray, List.getElem?_cons_zero, List.getElem?_cons_succ, List.getElem?_nil, List.map_cons, List.map_nil, List.all_cons, List.all_nil, Nat.reduceLT, Nat.reduceEqDiff, Nat.reduceSub, Nat.reduceAdd, ↓reduceIte, if_true, if_false, Bool.false_eq_true, reduceCtorEq, Nat.le_refl, decide_true, decide_false, Bool.not_true, Bool.not_false, decide_eq_true_eq, decide_eq_false_iff_not, eq_self, Bool.false_and, Bool.and_false, Bool.not_eq_true', ite_self]
        · simp only [g4, ↓wDn, wUp0, wUp1, wUp2, Option.map_none, Int.reduceLE, Int.reduceLT, Int.reduceEq, Int.reduceNeg, Int.reduceToNat, Nat.reduceLeDiff, aresults, aresult, tupled, Bool.and_self, Bool.true_and, Bool.and_true, true_and, and_true, Option.bind_some, Option.bind_none, Option.getD_some, Option.getD_none, Option.map_some, List.getElem?_toArray, List.getElem?_cons_zero, List.getElem?_cons_succ, List.getElem?_nil, List.map_cons, List.map_nil, List.all_cons, List.all_nil, Nat.reduceLT, Nat.reduceEqDiff, Nat.reduceSub, Nat.reduceAdd, ↓reduceIte, if_true, if_false, Bool.false_eq_true, reduceCtorEq, Nat.le_refl, decide_true, decide_false, Bool.not_true, Bool.not_false, decide_eq_true_eq, decide_eq_false_iff_not, eq_self, Bool.false_and, Bool.and_false, Bool.not_eq_true', ite_self]
        · simp only [↓wDn, wUp0, wUp1, wUp2, Option.map_none, Int.reduceLE, Int.reduceLT, Int.reduceEq, Int.reduceNeg, Int.reduceToNat, Nat.reduceLeDiff, aresults, aresult, tupled, Bool.and_self, Bool.true_and, Bool.and_true, true_and, and_true, Option.bind_some, Option.bind_none, Option.getD_some, Option.getD_none, Option.map_some, List.getElem?_toArray, List.getElem?_cons_zero, List.getElem?_cons_succ, List.getElem?_nil, List.map_cons, List.map_nil, List.all_cons, List.all_nil, Nat.reduceLT, Nat.reduceEqDiff, Nat.reduceSub, Nat.reduceAdd, ↓reduceIte, if_true, if_false, Bool.false_eq_true, reduceCtorEq, Nat.le_refl, decide_true, decide_false, Bool.not_true, Bool.not_false, decide_eq_true_eq, decide_eq_false_iff_not, eq_self, Bool.false_and, Bool.and_false, Bool.not_eq_true', ite_self]
          rfl
      case round3 =>
        rintro i g S1 ⟨hW, hn, hlow, hg, hi, g3, g4, g6⟩
        by_cases c : i < cls n
        · have hp2 : 2 ^ i < s := by rw [← hs]; exact Nat.pow_lt_pow_right (by decide) c
          have hp1 : 1 ≤ 2 ^ i := two_pos i
          have z1 : ((2 ^ i : Nat) : Int) < (s : Int) := by omega
          have hv : IntKind.u8.wrap (((dig n s 0 + 64 * i : Nat) : Int) + 64) = ((dig n s 0 + 64 * (i + 1) : Nat) : Int) := by
            have e : ((dig n s 0 + 64 * i : Nat) : Int) + 64 = ((dig n s 0 + 64 * (i + 1) : Nat) : Int) := by omega
            rw [e]
            exact wrapU8 _ (by have := hd0.2; omega)
          have hld := fun lw => ldB lw hg s0
          rw [if_pos rfl] at hld
          have hst := stB (dig n s 0 + 64 * (i + 1)) hg s0
          have e4 : IntKind.i64.wrap (((2 ^ i : Nat) : Int) * 2) = ((2 ^ (i + 1) : Nat) : Int) := by rw [Nat.pow_succ, wrap64] <;> omega
          have hld0 := ldB S1.low hg s0
          rw [if_pos rfl] at hld0
          simp only [g3, g4, g6, z1, ia73z _ S.n s s s0, hld, hld0, hv, hst, e4, ↓wDn, wUp0, wUp1, wUp2, Option.map_none, Int.reduceLE, Int.reduceLT, Int.reduceEq, Int.reduceNeg, Int.reduceToNat, Nat.reduceLeDiff, aresults, aresult, tupled, Bool.and_self, Bool.true_and, Bool.and_true, true_and, and_true, Option.bind_some, Option.bind_none, Option.getD_some, Option.getD_none, Option.map_some, List.getElem?_toArray, List.getElem?_cons_zero, List.getElem?_cons_succ, List.getElem?_nil, List.map_cons, List.map_nil, List.all_cons, List.all_nil, Nat.reduceLT, Nat.reduceEqDiff, Nat.reduceSub, Nat.reduceAdd, ↓reduceIte, if_true, if_false, Bool.false_eq_true, reduceCtorEq, Nat.le_refl, decide_true, decide_false, Bool.not_true, Bool.not_false, decide_eq_true_eq, decide_eq_false_iff_not, eq_self, Bool.false_and, Bool.and_false, Bool.not_eq_true', ite_self]
          refine w_next (i + 1) (by omega) ⟨?_, ?_, ?_, ?_, by omega, ?_, ?_, ?_⟩
          · simp only [hW, ↓wDn, wUp0, wUp1, wUp2, Option.map_none, Int.reduceLE, Int.reduceLT, Int.reduceEq, Int.reduceNeg, Int.reduceToNat, Nat.reduceLeDiff, aresults, aresult, tupled, Bool.and_self, Bool.true_and, Bool.and_true, true_and, and_true, Option.bind_some, Option.bind_none, Option.getD_some, Option.getD_none, Option.map_some, List.getElem?_toArray, List.getElem?_cons_zero, List.getElem?_cons_succ, List.getElem?_nil, List.map_cons, List.map_nil, List.all_cons, List.all_nil, Nat.reduceLT, Nat.reduceEqDiff, Nat.reduceSub, Nat.reduceAdd, ↓reduceIte, if_true, if_false, Bool.false_eq_true, reduceCtorEq, Nat.le_refl, decide_true, decide_false, Bool.not_true, Bool.not_false, decide_eq_true_eq, decide_eq_false_iff_not, eq_self, Bool.false_and, Bool.and_false, Bool.not_eq_true', ite_self]
          · simp only [hn, ↓wDn, wUp0, wUp1, wUp2, Option.map_none, Int.reduceLE, Int.reduceLT, Int.reduceEq, Int.reduceNeg, Int.reduceToNat, Nat.reduceLeDiff, aresults, aresult, tupled, Bool.and_self, Bool.true_and, Bool.and_true, true_and, and_true, Option.bind_some, Option.bind_none, Option.getD_some, Option.getD_none, Option.map_some, List.getElem?_toArray, List.getElem?_cons_zero, List.getElem?_cons_succ, List.getElem?_nil, List.map_cons, List.map_nil, List.all_cons, List.all_nil, Nat.reduceLT, Nat.reduceEqDiff, Nat.reduceSub, Nat.reduceAdd, ↓reduceIte, if_true, if_false, Bool.false_eq_true, reduceCtorEq, Nat.le_refl, decide_true, decide_false, Bool.not_true, Bool.not_false, decide_eq_true_eq, decide_eq_false_iff_not, eq_self, Bool.false_and, Bool.and_false, Bool.not_eq_true', ite_self]
          · simp only [hlow, ↓wDn, wUp0, wUp1, wUp2, Option.map_none, Int.reduceLE, Int.reduceLT, Int.reduceEq, Int.reduceNeg, Int.reduceToNat, Nat.reduceLeDiff, aresults, aresult, tupled, Bool.and_self, Bool.true_and, Bool.and_true, true_and, and_true, Option.bind_some, Option.bind_none, Option.getD_some, Option.getD_none, Option.map_some, List.getElem?_toArray, List.getElem?_cons_zero, List.getElem?_cons_succ, List.getElem?_nil, List.map_cons, List.map_nil, List.all_cons, List.all_nil, Nat.reduceLT, Nat.reduceEqDiff, Nat.reduceSub, Nat.reduceAdd, ↓reduceIte, if_true, if_false, Bool.false_eq_true, reduceCtorEq, Nat.le_refl, decide_true, decide_false, Bool.not_true, Bool.not_false, decide_eq_true_eq, decide_eq_false_iff_not, eq_self, Bool.false_and, Bool.and_false, Bool.not_eq_true', ite_self]
          · rw [get_setS _ _ _ _ hW (wf_base hS) (by omega), if_pos rfl]
            refine congrArg (fun l => some (ABlk.own l 5)) (byC_congr fun j hj => ?_)
            by_cases h0 : j = 0
            · rw [if_pos h0, if_pos h0]
            · rw [if_neg h0, if_neg h0, if_neg h0]
          all_goals simp only [g3, g4, g6, ↓wDn, wUp0, wUp1, wUp2, Option.map_none, Int.reduceLE, Int.reduceLT, Int.reduceEq, Int.reduceNeg, Int.reduceToNat, Nat.reduceLeDiff, aresults, aresult, tupled, Bool.and_self, Bool.true_and, Bool.and_true, true_and, and_true, Option.bind_some, Option.bind_none, Option.getD_some, Option.getD_none, Option.map_some, List.getElem?_toArray, List.getElem?_cons_zero, List.getElem?_cons_succ, List.getElem?_nil, List.map_cons, List.map_nil, List.all_cons, List.all_nil, Nat.reduceLT, Nat.reduceEqDiff, Nat.reduceSub, Nat.reduceAdd, ↓reduceIte, if_true, if_false, Bool.false_eq_true, reduceCtorEq, Nat.le_refl, decide_true, decide_false, Bool.not_true, Bool.not_false, decide_eq_true_eq, decide_eq_false_iff_not, eq_self, Bool.false_and, Bool.and_false, Bool.not_eq_true', ite_self]
        · have he : i = cls n := by omega
          have z1 : ¬ ((2 ^ i : Nat) : Int) < (s : Int) := by rw [he, hs]; omega
          rw [he] at hg
          simp only [g3, g6, z1, ↓wDn, wUp0, wUp1, wUp2, Option.map_none, Int.reduceLE, Int.reduceLT, Int.reduceEq, Int.reduceNeg, Int.reduceToNat, Nat.reduceLeDiff, aresults, aresult, tupled, Bool.and_self, Bool.true_and, Bool.and_true, true_and, and_true, Option.bind_some, Option.bind_none, Option.getD_some, Option.getD_none, Option.map_some, List.getElem?_toArray, List.getElem?_cons_zero, List.getElem?_cons_succ, List.getElem?_nil, List.map_cons, List.map_nil, List.all_cons, List.all_nil, Nat.reduceLT, Nat.reduceEqDiff, Nat.reduceSub, Nat.reduceAdd, ↓reduceIte, if_true, if_false, Bool.false_eq_true, reduceCtorEq, Nat.le_refl, decide_true, decide_false, Bool.not_true, Bool.not_false, decide_eq_true_eq, decide_eq_false_iff_not, eq_self, Bool.false_and, Bool.and_false, Bool.not_eq_true', ite_self]
          exact w_out ⟨by simp only [hW, ↓wDn, wUp0, wUp1, wUp2, Option.map_none, Int.reduceLE, Int.reduceLT, Int.reduceEq, Int.reduceNeg, Int.reduceToNat, Nat.reduceLeDiff, aresults, aresult, tupled, Bool.and_self, Bool.true_and, Bool.and_true, true_and, and_true, Option.bind_some, Option.bind_none, Option.getD_some, Option.getD_none, Option.map_some, List.getElem?_toArray, List.getElem?_cons_zero, List.getElem?_cons_succ, List.getElem?_nil, List.map_cons, List.map_nil, List.all_cons, List.all_nil, Nat.reduceLT, Nat.reduceEqDiff, Nat.reduceSub, Nat.reduceAdd, ↓reduceIte, if_true, if_false, Bool.false_eq_true, reduceCtorEq, Nat.le_refl, decide_true, decide_false, Bool.not_true, Bool.not_false, decide_eq_true_eq, decide_eq_false_iff_not, eq_self, Bool.false_and, Bool.and_false, Bool.not_eq_true', ite_self], by simp only [hn, ↓wDn, wUp0, wUp1, wUp2, Option.map_none, Int.reduceLE, Int.reduceLT, Int.reduceEq, Int.reduceNeg, Int.reduceToNat, Nat.reduceLeDiff, aresults, aresult, tupled, Bool.and_self, Bool.true_and, Bool.and_true, true_and, and_true, Option.bind_some, Option.bind_none, Option.getD_some, Option.getD_none, Option.map_some, List.getElem?_toArray, List.getElem?_cons_zero, List.getElem?_cons_succ, List.getElem?_nil, List.map_cons, List.map_nil, List.all_cons, List.all_nil, Nat.reduceLT, Nat.reduceEqDiff, Nat.reduceSub, Nat.reduceAdd, ↓reduceIte, if_true, if_false, Bool.false_eq_true, reduceCtorEq, Nat.le_refl, decide_true, decide_false, Bool.not_true, Bool.not_false, decide_eq_true_eq, decide_eq_false_iff_not, eq_self, Bool.false_and, Bool.and_false, Bool.not_eq_true', ite_self], by simp only [hlow, ↓wDn, wUp0, wUp1, wUp2, Option.map_none, Int.reduceLE, Int.reduceLT, Int.reduceEq, Int.reduceNeg, Int.reduceToNat, Nat.reduceLeDiff, aresults, aresult, tupled, Bool.and_self, Bool.true_and, Bool.and_true, true_and, and_true, Option.bind_some, Option.bind_none, Option.getD_some, Option.getD_none, Option.map_some, List.getElem?_toArray, List.getElem?_cons_zero, List.getElem?_cons_succ, List.getElem?_nil, List.map_cons, List.map_nil, List.all_cons, List.all_nil, Nat.reduceLT, Nat.reduceEqDiff, Nat.reduceSub, Nat.reduceAdd, ↓reduceIte, if_true, if_false, Bool.false_eq_true, reduceCtorEq, Nat.le_refl, decide_true, decide_false, Bool.not_true, Bool.not_false, decide_eq_true_eq, decide_eq_false_iff_not, eq_self, Bool.false_and, Bool.and_false, Bool.not_eq_true', ite_self], by simp only [hg, ↓wDn, wUp0, wUp1, wUp2, Option.map_none, Int.reduceLE, Int.reduceLT, Int.reduceEq, Int.reduceNeg, Int.reduceToNat, Nat.reduceLeDiff, aresults, aresult, tupled, Bool.and_self, Bool.true_and, Bool.and_true, true_and, and_true, Option.bind_some, Option.bind_none, Option.getD_some, Option.getD_none, Option.map_some, List.getElem?_toArray, List.getElem?_cons_zero, List.getElem?_cons_succ, List.getElem?_nil, List.map_cons, List.map_nil, List.all_cons, List.all_nil, Nat.reduceLT, Nat.reduceEqDiff, Nat.reduceSub, Nat.reduceAdd, ↓reduceIte, if_true, if_false, Bool.false_eq_true, reduceCtorEq, Nat.le_refl, decide_true, decide_false, Bool.not_true, Bool.not_false, decide_eq_true_eq, decide_eq_false_iff_not, eq_self, Bool.false_and, Bool.and_false, Bool.not_eq_true', ite_self], by simp only [g4, ↓wDn, wUp0, wUp1, wUp2, Option.map_none, Int.reduceLE, Int.reduceLT, Int.reduceEq, Int.reduceNeg, Int.reduceToNat, Nat.reduceLeDiff, aresults, aresult, tupled, Bool.and_self, Bool.true_and, Bool.and_true, true_and, and_true, Option.bind_some, Option.bind_none, Option.getD_some, Option.getD_none, Option.map_some, List.getElem?_toArray, List.getElem?_cons_zero, List.getElem?_cons_succ, List.getElem?_nil, List.map_cons, List.map_nil, List.all_cons, List.all_nil, Nat.reduceLT, Nat.reduceEqDiff, Nat.reduceSub, Nat.reduceAdd, ↓reduceIte, if_true, if_false, Bool.false_eq_true, reduceCtorEq, Nat.le_refl, decide_true, decide_false, Bool.not_true, Bool.not_false, decide_eq_true_eq, decide_eq_false_iff_not, eq_self, Bool.false_and, Bool.and_false, Bool.not_eq_true', ite_self]⟩
      case rest3 =>
        rintro g S1 ⟨hW, hn, hlow, hg, g4⟩
        have henc : (List.range s).map (fun j => UInt8.ofNat (if j = 0 then dig n s 0 + 64 * cls n else dig n s j)) = enc n := by unfold enc encB; rw [hs]
        have hgx : ∀ lw, St.get E0 ⟨S1.n, S1.h, lw⟩ S.n = some (ABlk.own (byC s fun j => if j = 0 then dig n s 0 + 64 * cls n else dig n s j) 5) := fun lw => hg
        have hc := cvB (cap := s) (hgx S1.low)
        rw [henc] at hc
        simp only [g4, hc, hlow, ↓wDn, wUp0, wUp1, wUp2, Option.map_none, Int.reduceLE, Int.reduceLT, Int.reduceEq, Int.reduceNeg, Int.reduceToNat, Nat.reduceLeDiff, aresults, aresult, tupled, Bool.and_self, Bool.true_and, Bool.and_true, true_and, and_true, Option.bind_some, Option.bind_none, Option.getD_some, Option.getD_none, Option.map_some, List.getElem?_toArray, List.getElem?_cons_zero, List.getElem?_cons_succ, List.getElem?_nil, List.map_cons, List.map_nil, List.all_cons, List.all_nil, Nat.reduceLT, Nat.reduceEqDiff, Nat.reduceSub, Nat.reduceAdd, ↓reduceIte, if_true, if_false, Bool.false_eq_true, reduceCtorEq, Nat.le_refl, decide_true, decide_false, Bool.not_true, Bool.not_false, decide_eq_true_eq, decide_eq_false_iff_not, eq_self, Bool.false_and, Bool.and_false, Bool.not_eq_true', ite_self]
end Go.Abs

namespace Go.Abs
open Go Go.Proofs Go.RowKit
set_option linter.unusedSimpArgs false
set_option maxRecDepth 100000
theorem hasBody28 : hasBody E0 28 = true := keepEq rfl
theorem hasBody96 : hasBody E0 96 = true := keepEq rfl
theorem hasBody97 : hasBody E0 97 = true := keepEq rfl
theorem hasBody98 : hasBody E0 98 = true := keepEq rfl
theorem hasBody99 : hasBody E0 99 = true := keepEq rfl
theorem whole2_ok (z : Int) (h0 : -2305843009213693952 ≤ z) (h1 : z ≤ 2305843009213693951) (S : St) (hS : WF E0 S) (K : Value → St → Prop) (τ) : RL E0 92 [.int .i64 z] S K τ ↔ K (.string (str (enc (foldZ z)))) S := by
  refine w_det ?_ K τ
  rw [w_body (memo0 _ _ (by decide)) (okf0 _) Tryz.func92 (c := _) rfl (by show 1 ≤ 9; decide)]
  have hd : decide (-2305843009213693952 ≤ z ∧ z ≤ 2305843009213693951) = true := decide_eq_true ⟨h0, h1⟩
  have hn := fun S hS K τ => num_ok (foldZ z) (foldZ_lt h0 h1) S hS K τ
  simp only [Tryz.f92, hasBody93, hasBody144, hasBody91, whole_ok, hd, fold_ok z h0 h1, hn, hS, ↓wDn, wUp0, wUp1, wUp2, Option.map_none, Int.reduceLE, Int.reduceLT, Int.reduceEq, Int.reduceNeg, Int.reduceToNat, Nat.reduceLeDiff, aresults, aresult, tupled, Bool.and_self, Bool.true_and, Bool.and_true, true_and, and_true, Option.bind_some, Option.bind_none, Option.getD_some, Option.getD_none, Option.map_some, List.getElem?_toArray, List.getElem?_cons_zero, List.getElem?_cons_succ, List.getElem?_nil, List.map_cons, List.map_nil, List.all_cons, List.all_nil, Nat.reduceLT, Nat.reduceEqDiff, Nat.reduceSub, Nat.reduceAdd, ↓reduceIte, if_true, if_false, Bool.false_eq_true, reduceCtorEq, Nat.le_refl, decide_true, decide_false, Bool.not_true, Bool.not_false, decide_eq_true_eq, decide_eq_false_iff_not, eq_self, Bool.false_and, Bool.and_false, Bool.not_eq_true', ite_self]
theorem text_ok (l : List UInt8) (hl : l.length < 2^60) (S : St) (hS : WF E0 S) (K : Value → St → Prop) (τ) : RL E0 94 [.string (str l)] S K τ ↔ K (.string (str (enc l.length ++ l))) S := by
  refine w_det ?_ K τ
  rw [w_body (memo0 _ _ (by decide)) (okf0 _) Tryz.func94 (c := _) rfl (by show 1 ≤ 8; decide)]
  have hn := fun S hS K τ => num_ok l.length (by omega) S hS K τ
  have he := enc_len l.length
  have hp : 2 ^ cls l.length ≤ 8 := by obtain ⟨_, h, _⟩ := cls_pow (n := l.length) rfl; exact h
  simp only [Tryz.f94, hasBody91, lenS, hn, hS, cat _ _ _ (enc l.length) l (by omega), ↓wDn, wUp0, wUp1, wUp2, Option.map_none, Int.reduceLE, Int.reduceLT, Int.reduceEq, Int.reduceNeg, Int.reduceToNat, Nat.reduceLeDiff, aresults, aresult, tupled, Bool.and_self, Bool.true_and, Bool.and_true, true_and, and_true, Option.bind_some, Option.bind_none, Option.getD_some, Option.getD_none, Option.map_some, List.getElem?_toArray, List.getElem?_cons_zero, List.getElem?_cons_succ, List.getElem?_nil, List.map_cons, List.map_nil, List.all_cons, List.all_nil, Nat.reduceLT, Nat.reduceEqDiff, Nat.reduceSub, Nat.reduceAdd, ↓reduceIte, if_true, if_false, Bool.false_eq_true, reduceCtorEq, Nat.le_refl, decide_true, decide_false, Bool.not_true, Bool.not_false, decide_eq_true_eq, decide_eq_false_iff_not, eq_self, Bool.false_and, Bool.and_false, Bool.not_eq_true', ite_self]
theorem ofInt_mod (z : Int) : ((BitVec.ofInt 64 z).toNat : Int) = z % 18446744073709551616 := by
  rw [BitVec.toNat_ofInt]
  omega
/-- What a mask of small bits leaves. -/
theorem maskI (k : Nat) (hk : k ≤ 62) (z : Int) : IntKind.i64.wrap ((BitVec.ofInt IntKind.i64.bits z &&& BitVec.ofInt IntKind.i64.bits ((2 ^ k - 1 : Nat) : Int)).toNat : Int) = ((z % 2 ^ k).toNat : Nat) := by
  show IntKind.i64.wrap ((BitVec.ofInt 64 z &&& BitVec.ofInt 64 ((2 ^ k - 1 : Nat) : Int)).toNat : Int) = _
  have hp : (2 : Nat) ^ k ≤ 2 ^ 62 := Nat.pow_le_pow_right (by decide) hk
  have h0 : 0 < (2 : Nat) ^ k := two_pos k
  have hm : (BitVec.ofInt 64 ((2 ^ k - 1 : Nat) : Int)).toNat = 2 ^ k - 1 := ofInt64 _ (by omega)
  rw [BitVec.toNat_and, hm, Nat.and_two_pow_sub_one_eq_mod]
  have hlt := Nat.mod_lt (BitVec.ofInt 64 z).toNat h0
  rw [wrap64 _ (by omega) (by omega)]
  have e := ofInt_mod z
  have hc : ((2 : Int) ^ k) = ((2 ^ k : Nat) : Int) := by push_cast; rfl
  have hdv : ((2 ^ k : Nat) : Int) ∣ 18446744073709551616 := by
    have : (18446744073709551616 : Int) = ((2 ^ 64 : Nat) : Int) := by decide
    rw [this]
    exact Int.natCast_dvd_natCast.2 (Nat.pow_dvd_pow 2 (by omega))
  rw [hc]
  have hnn : 0 ≤ z % ((2 ^ k : Nat) : Int) := Int.emod_nonneg _ (by omega)
  rw [Int.toNat_of_nonneg hnn, Int.natCast_emod, e, Int.emod_emod_of_dvd z hdv]
def unfZ (n : Nat) : Int := if n % 2 = 1 then -((n / 2 : Nat) : Int) - 1 else ((n / 2 : Nat) : Int)
theorem unf_fold (z : Int) : unfZ (foldZ z) = z := by
  unfold unfZ foldZ
  split <;> split <;> omega
theorem unfold_ok (n : Nat) (h : n < 2^62) (S : St) (K : Value → St → Prop) (τ) : RL E0 99 [.int .i64 n] S K τ ↔ K (.int .i64 (unfZ n)) S := by
  refine w_det ?_ K τ
  rw [w_body (memo0 _ _ (by decide)) (okf0 _) Tryz.func99 (c := _) rfl (by show 1 ≤ 12; decide)]
  have hm := maskI 1 (by decide) (n : Int)
  have e1 : (((2 ^ 1 - 1 : Nat)) : Int) = 1 := rfl
  have e2 : (((n : Int) % 2 ^ 1).toNat : Int) = ((n % 2 : Nat) : Int) := by omega
  rw [e1, e2] at hm
  have hs : ∀ t x y (S : St), binA E0 .shr t x y (.int .i64 n) (.int .u64 1) S = some (.value (.int .i64 (n / 2 : Nat)), S) := fun t x y S => by
    rw [bin_shrK _ _ _ _ _ _ _ _ (by decide) (by decide)]
    exact congrArg (fun z => some (Next.value (Value.int .i64 z), S)) (fdivN n 2)
  by_cases c : n % 2 = 1
  · have c' : ((n % 2 : Nat) : Int) = 1 := by omega
    have e : unfZ n = -((n / 2 : Nat) : Int) - 1 := by unfold unfZ; rw [if_pos c]
    have w1 : IntKind.i64.wrap (0 - ((n / 2 : Nat) : Int)) = -((n / 2 : Nat) : Int) := by rw [wrap64s] <;> omega
    have w2 : IntKind.i64.wrap (-((n / 2 : Nat) : Int) - 1) = -((n / 2 : Nat) : Int) - 1 := by rw [wrap64s] <;> omega
    rw [e]
    simp only [Tryz.f99, hm, c', hs, w1, w2, ↓wDn, wUp0, wUp1, wUp2, Option.map_none, Int.reduceLE, Int.reduceLT, Int.reduceEq, Int.reduceNeg, Int.reduceToNat, Nat.reduceLeDiff, aresults, aresult, tupled, Bool.and_self, Bool.true_and, Bool.and_true, true_and, and_true, Option.bind_some, Option.bind_none, Option.getD_some, Option.getD_none, Option.map_some, List.getElem?_toArray, List.getElem?_cons_zero, List.getElem?_cons_succ, List.getElem?_nil, List.map_cons, List.map_nil, List.all_cons, List.all_nil, Nat.reduceLT, Nat.reduceEqDiff, Nat.reduceSub, Nat.reduceAdd, ↓reduceIte, if_true, if_false, Bool.false_eq_true, reduceCtorEq, Nat.le_refl, decide_true, decide_false, Bool.not_true, Bool.not_false, decide_eq_true_eq, decide_eq_false_iff_not, eq_self, Bool.false_and, Bool.and_false, Bool.not_eq_true', ite_self]
  · have c' : ¬ ((n % 2 : Nat) : Int) = 1 := by omega
    have e : unfZ n = ((n / 2 : Nat) : Int) := by unfold unfZ; rw [if_neg c]
    rw [e]
    simp only [Tryz.f99, hm, c', hs, ↓wDn, wUp0, wUp1, wUp2, Option.map_none, Int.reduceLE, Int.reduceLT, Int.reduceEq, Int.reduceNeg, Int.reduceToNat, Nat.reduceLeDiff, aresults, aresult, tupled, Bool.and_self, Bool.true_and, Bool.and_true, true_and, and_true, Option.bind_some, Option.bind_none, Option.getD_some, Option.getD_none, Option.map_some, List.getElem?_toArray, List.getElem?_cons_zero, List.getElem?_cons_succ, List.getElem?_nil, List.map_cons, List.map_nil, List.all_cons, List.all_nil, Nat.reduceLT, Nat.reduceEqDiff, Nat.reduceSub, Nat.reduceAdd, ↓reduceIte, if_true, if_false, Bool.false_eq_true, reduceCtorEq, Nat.le_refl, decide_true, decide_false, Bool.not_true, Bool.not_false, decide_eq_true_eq, decide_eq_false_iff_not, eq_self, Bool.false_and, Bool.and_false, Bool.not_eq_true', ite_self]
theorem orB (a b : Nat) (ha : a < 2 ^ 54) (hb : b < 256) : IntKind.i64.wrap ((BitVec.ofInt IntKind.i64.bits (IntKind.i64.wrap ((a : Int) * 2 ^ 8)) ||| BitVec.ofInt IntKind.i64.bits (b : Int)).toNat : Int) = ((a * 256 + b : Nat) : Int) := by
  have e : IntKind.i64.wrap ((a : Int) * 2 ^ 8) = ((a * 256 : Nat) : Int) := by rw [wrap64] <;> omega
  rw [e]
  show IntKind.i64.wrap ((BitVec.ofInt 64 ((a * 256 : Nat) : Int) ||| BitVec.ofInt 64 (b : Int)).toNat : Int) = _
  rw [BitVec.toNat_or, ofInt64 _ (by omega), ofInt64 _ (by omega)]
  have h2 : a * 256 ||| b = a * 256 + b := by
    have := Nat.two_pow_add_eq_or_of_lt (i := 8) hb a
    rw [Nat.mul_comm a 256]
    exact this.symm
  rw [h2, wrap64] <;> omega
theorem mask63 (b : UInt8) : IntKind.u8.wrap ((BitVec.ofInt IntKind.u8.bits (b.toNat : Int) &&& BitVec.ofInt IntKind.u8.bits 63).toNat : Int) = ((b.toNat % 64 : Nat) : Int) := by
  show IntKind.u8.wrap ((BitVec.ofInt 8 (b.toNat : Int) &&& BitVec.ofInt 8 63).toNat : Int) = _
  have h1 : (BitVec.ofInt 8 (b.toNat : Int)).toNat = b.toNat := by
    rw [BitVec.toNat_ofInt]
    have := b.toNat_lt
    omega
  have h2 : (BitVec.ofInt 8 63).toNat = 2 ^ 6 - 1 := rfl
  rw [BitVec.toNat_and, h1, h2, Nat.and_two_pow_sub_one_eq_mod, wrapU8 _ (by omega)]
end Go.Abs

namespace Go.Abs
open Go Go.Proofs Go.RowKit
set_option linter.unusedSimpArgs false
set_option maxRecDepth 100000
theorem top4 (b : UInt8) : b.toNat / 64 ≤ 3 := by have := b.toNat_lt; omega
theorem get_ok (l : List UInt8) (hl : l.length < 2^60) (S : St) (K : Value → St → Prop) (τ) : RL E0 98 [.string (str l)] S K τ ↔ K (.tuple #[.int .i64 (gets l).1, .string (str (gets l).2.1), .int .i64 (gets l).2.2]) S := by
  refine w_det ?_ K τ
  rw [w_body (memo0 _ _ (by decide)) (okf0 _) Tryz.func98 (c := _) rfl (by show 1 ≤ 41; decide)]
  simp only [Tryz.f98, strE, ↓wDn, wUp0, wUp1, wUp2, Option.map_none, Int.reduceLE, Int.reduceLT, Int.reduceEq, Int.reduceNeg, Int.reduceToNat, Nat.reduceLeDiff, aresults, aresult, tupled, Bool.and_self, Bool.true_and, Bool.and_true, true_and, and_true, Option.bind_some, Option.bind_none, Option.getD_some, Option.getD_none, Option.map_some, List.getElem?_toArray, List.getElem?_cons_zero, List.getElem?_cons_succ, List.getElem?_nil, List.map_cons, List.map_nil, List.all_cons, List.all_nil, Nat.reduceLT, Nat.reduceEqDiff, Nat.reduceSub, Nat.reduceAdd, ↓reduceIte, if_true, if_false, Bool.false_eq_true, reduceCtorEq, Nat.le_refl, decide_true, decide_false, Bool.not_true, Bool.not_false, decide_eq_true_eq, decide_eq_false_iff_not, eq_self, Bool.false_and, Bool.and_false, Bool.not_eq_true', ite_self]
  by_cases hz : l = []
  · have e : gets l = (0, [], 7) := by unfold gets; rw [if_pos hz]
    rw [e]
    simp only [hz, ret3, ↓wDn, wUp0, wUp1, wUp2, Option.map_none, Int.reduceLE, Int.reduceLT, Int.reduceEq, Int.reduceNeg, Int.reduceToNat, Nat.reduceLeDiff, aresults, aresult, tupled, Bool.and_self, Bool.true_and, Bool.and_true, true_and, and_true, Option.bind_some, Option.bind_none, Option.getD_some, Option.getD_none, Option.map_some, List.getElem?_toArray, List.getElem?_cons_zero, List.getElem?_cons_succ, List.getElem?_nil, List.map_cons, List.map_nil, List.all_cons, List.all_nil, Nat.reduceLT, Nat.reduceEqDiff, Nat.reduceSub, Nat.reduceAdd, ↓reduceIte, if_true, if_false, Bool.false_eq_true, reduceCtorEq, Nat.le_refl, decide_true, decide_false, Bool.not_true, Bool.not_false, decide_eq_true_eq, decide_eq_false_iff_not, eq_self, Bool.false_and, Bool.and_false, Bool.not_eq_true', ite_self]
    rfl
  have hpos : 0 < l.length := List.length_pos_iff.2 hz
  obtain ⟨b, hb⟩ : ∃ b, l.getD 0 0 = b := ⟨_, rfl⟩
  obtain ⟨c, hc⟩ : ∃ c, b.toNat / 64 = c := ⟨_, rfl⟩
  have hc3 : c ≤ 3 := by rw [← hc]; exact top4 b
  obtain ⟨s, hs⟩ : ∃ s, 2 ^ c = s := ⟨_, rfl⟩
  have s8 : 0 < s ∧ s ≤ 8 := by
    obtain rfl | rfl | rfl | rfl : c = 0 ∨ c = 1 ∨ c = 2 ∨ c = 3 := by omega
    all_goals (rw [← hs]; decide)
  have hix := fun k S => ixS0 l k hpos S
  rw [hb] at hix
  have h6 : ∀ t x y (S : St), binA E0 .shr t x y (.int .u8 b.toNat) (.int .u64 6) S = some (.value (.int .u8 (c : Nat)), S) := fun t x y S => by
    rw [bin_shrK _ _ _ _ _ _ _ _ (by decide) (by decide)]
    refine congrArg (fun z => some (Next.value (Value.int .u8 z), S)) ?_
    rw [← hc]
    exact fdivN b.toNat 64
  have h7 : ∀ t x y (S : St), binA E0 .shl t x y (.int .i64 1) (.int .u8 (c : Nat)) S = some (.value (.int .i64 (s : Nat)), S) := fun t x y S => by
    rw [bin_shlK _ _ _ _ _ _ _ _ (by omega) (by show c ≤ 64; omega)]
    refine congrArg (fun z => some (Next.value (Value.int .i64 z), S)) ?_
    rw [← hs]
    obtain rfl | rfl | rfl | rfl : c = 0 ∨ c = 1 ∨ c = 2 ∨ c = 3 := by omega
    all_goals decide
  by_cases hsh : l.length < s
  · have e : gets l = (0, [], 7) := by unfold gets; rw [if_neg hz, hb, hc, hs, if_pos hsh]
    rw [e]
    have z1 : (l.length : Int) < (s : Int) := by omega
    simp only [hz, hix, h6, h7, lenS, z1, ret3, ↓wDn, wUp0, wUp1, wUp2, Option.map_none, Int.reduceLE, Int.reduceLT, Int.reduceEq, Int.reduceNeg, Int.reduceToNat, Nat.reduceLeDiff, aresults, aresult, tupled, Bool.and_self, Bool.true_and, Bool.and_true, true_and, and_true, Option.bind_some, Option.bind_none, Option.getD_some, Option.getD_none, Option.map_some, List.getElem?_toArray, List.getElem?_cons_zero, List.getElem?_cons_succ, List.getElem?_nil, List.map_cons, List.map_nil, List.all_cons, List.all_nil, Nat.reduceLT, Nat.reduceEqDiff, Nat.reduceSub, Nat.reduceAdd, ↓reduceIte, if_true, if_false, Bool.false_eq_true, reduceCtorEq, Nat.le_refl, decide_true, decide_false, Bool.not_true, Bool.not_false, decide_eq_true_eq, decide_eq_false_iff_not, eq_self, Bool.false_and, Bool.and_false, Bool.not_eq_true', ite_self]
    rfl
  have z1 : ¬ (l.length : Int) < (s : Int) := by omega
  have w8 : IntKind.i64.wrap ((b.toNat % 64 : Nat) : Int) = ((b.toNat % 64 : Nat) : Int) := wrap64 _ (by omega) (by omega)
  simp only [hz, hix, h6, h7, lenS, z1, mask63, conv_int ty5 ty3, w8, ↓wDn, wUp0, wUp1, wUp2, Option.map_none, Int.reduceLE, Int.reduceLT, Int.reduceEq, Int.reduceNeg, Int.reduceToNat, Nat.reduceLeDiff, aresults, aresult, tupled, Bool.and_self, Bool.true_and, Bool.and_true, true_and, and_true, Option.bind_some, Option.bind_none, Option.getD_some, Option.getD_none, Option.map_some, List.getElem?_toArray, List.getElem?_cons_zero, List.getElem?_cons_succ, List.getElem?_nil, List.map_cons, List.map_nil, List.all_cons, List.all_nil, Nat.reduceLT, Nat.reduceEqDiff, Nat.reduceSub, Nat.reduceAdd, ↓reduceIte, if_true, if_false, Bool.false_eq_true, reduceCtorEq, Nat.le_refl, decide_true, decide_false, Bool.not_true, Bool.not_false, decide_eq_true_eq, decide_eq_false_iff_not, eq_self, Bool.false_and, Bool.and_false, Bool.not_eq_true', ite_self]
  refine w_loopE (fun (k : Nat) g S1 => S1 = ⟨S.n, S.h, S.n⟩ ∧ 0 < k ∧ k ≤ s ∧ g 0 = .string (str l) ∧ g 2 = .int .i64 (acc l k) ∧ g 5 = .int .i64 s ∧ g 6 = .int .i64 k) (fun k => s - k) 0
    (fun g S1 => S1 = ⟨S.n, S.h, S.n⟩ ∧ g 0 = .string (str l) ∧ g 2 = .int .i64 (acc l s) ∧ g 5 = .int .i64 s) 1 ?init ?round ?rest
  case init =>
    refine ⟨rfl, by omega, by omega, ?_, ?_, ?_, ?_⟩
    · simp only [↓wDn, wUp0, wUp1, wUp2, Option.map_none, Int.reduceLE, Int.reduceLT, Int.reduceEq, Int.reduceNeg, Int.reduceToNat, Nat.reduceLeDiff, aresults, aresult, tupled, Bool.and_self, Bool.true_and, Bool.and_true, true_and, and_true, Option.bind_some, Option.bind_none, Option.getD_some, Option.getD_none, Option.map_some, List.getElem?_toArray, List.getElem?_cons_zero, List.getElem?_cons_succ, List.getElem?_nil, List.map_cons, List.map_nil, List.all_cons, List.all_nil, Nat.reduceLT, Nat.reduceEqDiff, Nat.reduceSub, Nat.reduceAdd, ↓reduceIte, if_true, if_false, Bool.false_eq_true, reduceCtorEq, Nat.le_refl, decide_true, decide_false, Bool.not_true, Bool.not_false, decide_eq_true_eq, decide_eq_false_iff_not, eq_self, Bool.false_and, Bool.and_false, Bool.not_eq_true', ite_self]
    · simp only [acc_one, hb, ↓wDn, wUp0, wUp1, wUp2, Option.map_none, Int.reduceLE, Int.reduceLT, Int.reduceEq, Int.reduceNeg, Int.reduceToNat, Nat.reduceLeDiff, aresults, aresult, tupled, Bool.and_self, Bool.true_and, Bool.and_true, true_and, and_true, Option.bind_some, Option.bind_none, Option.getD_some, Option.getD_none, Option.map_some, List.getElem?_toArray, List.getElem?_cons_zero, List.getElem?_cons_succ, List.getElem?_nil, List.map_cons, List.map_nil, List.all_cons, List.all_nil, Nat.reduceLT, Nat.reduceEqDiff, Nat.reduceSub, Nat.reduceAdd, ↓reduceIte, if_true, if_false, Bool.false_eq_true, reduceCtorEq, Nat.le_refl, decide_true, decide_false, Bool.not_true, Bool.not_false, decide_eq_true_eq, decide_eq_false_iff_not, eq_self, Bool.false_and, Bool.and_false, Bool.not_eq_true', ite_self]
    · simp only [↓wDn, wUp0, wUp1, wUp2, Option.map_none, Int.reduceLE, Int.reduceLT, Int.reduceEq, Int.reduceNeg, Int.reduceToNat, Nat.reduceLeDiff, aresults, aresult, tupled, Bool.and_self, Bool.true_and, Bool.and_true, true_and, and_true, Option.bind_some, Option.bind_none, Option.getD_some, Option.getD_none, Option.map_some, List.getElem?_toArray, List.getElem?_cons_zero, List.getElem?_cons_succ, List.getElem?_nil, List.map_cons, List.map_nil, List.all_cons, List.all_nil, Nat.reduceLT, Nat.reduceEqDiff, Nat.reduceSub, Nat.reduceAdd, ↓reduceIte, if_true, if_false, Bool.false_eq_true, reduceCtorEq, Nat.le_refl, decide_true, decide_false, Bool.not_true, Bool.not_false, decide_eq_true_eq, decide_eq_false_iff_not, eq_self, Bool.false_and, Bool.and_false, Bool.not_eq_true', ite_self]
    · simp only [↓wDn, wUp0, wUp1, wUp2, Option.map_none, Int.reduceLE, Int.reduceLT, Int.reduceEq, Int.reduceNeg, Int.reduceToNat, Nat.reduceLeDiff, aresults, aresult, tupled, Bool.and_self, Bool.true_and, Bool.and_true, true_and, and_true, Option.bind_some, Option.bind_none, Option.getD_some, Option.getD_none, Option.map_some, List.getElem?_toArray, List.getElem?_cons_zero, List.getElem?_cons_succ, List.getElem?_nil, List.map_cons, List.map_nil, List.all_cons, List.all_nil, Nat.reduceLT, Nat.reduceEqDiff, Nat.reduceSub, Nat.reduceAdd, ↓reduceIte, if_true, if_false, Bool.false_eq_true, reduceCtorEq, Nat.le_refl, decide_true, decide_false, Bool.not_true, Bool.not_false, decide_eq_true_eq, decide_eq_false_iff_not, eq_self, Bool.false_and, Bool.and_false, Bool.not_eq_true', ite_self]
      rfl
  case round =>
    rintro k g S1 ⟨rfl, hk0, hk, g0, g2, g5, g6⟩
    by_cases hlt : k < s
    · have z2 : (k : Int) < (s : Int) := by omega
      have ha := acc_lt l k hk0
      have ha2 : acc l k < 2 ^ 54 := by
        refine Nat.lt_of_lt_of_le ha ?_
        have : 256 ^ (k - 1) ≤ 256 ^ 6 := Nat.pow_le_pow_right (by decide) (by omega)
        omega
      have hor := orB (acc l k) (l.getD k 0).toNat ha2 (l.getD k 0).toNat_lt
      rw [← acc_next l k (by omega)] at hor
      have h8 : ∀ t x y (S : St), binA E0 .shl t x y (.int .i64 (acc l k)) (.int .u64 8) S = some (.value (.int .i64 (IntKind.i64.wrap ((acc l k : Int) * 2 ^ 8))), S) := fun t x y S => bin_shlK _ _ _ _ _ _ _ _ (by decide) (by decide)
      have w9 : IntKind.i64.wrap ((l.getD k 0).toNat : Int) = ((l.getD k 0).toNat : Int) := wrap64 _ (by omega) (by have := (l.getD k 0).toNat_lt; omega)
      have e5 : IntKind.i64.wrap ((k : Int) + 1) = ((k + 1 : Nat) : Int) := by rw [wrap64] <;> omega
      simp only [g0, g2, g5, g6, z2, h8, ixS l _ k (by omega), conv_int ty5 ty3, w9, hor, e5, ↓wDn, wUp0, wUp1, wUp2, Option.map_none, Int.reduceLE, Int.reduceLT, Int.reduceEq, Int.reduceNeg, Int.reduceToNat, Nat.reduceLeDiff, aresults, aresult, tupled, Bool.and_self, Bool.true_and, Bool.and_true, true_and, and_true, Option.bind_some, Option.bind_none, Option.getD_some, Option.getD_none, Option.map_some, List.getElem?_toArray, List.getElem?_cons_zero, List.getElem?_cons_succ, List.getElem?_nil, List.map_cons, List.map_nil, List.all_cons, List.all_nil, Nat.reduceLT, Nat.reduceEqDiff, Nat.reduceSub, Nat.reduceAdd, ↓reduceIte, if_true, if_false, Bool.false_eq_true, reduceCtorEq, Nat.le_refl, decide_true, decide_false, Bool.not_true, Bool.not_false, decide_eq_true_eq, decide_eq_false_iff_not, eq_self, Bool.false_and, Bool.and_false, Bool.not_eq_true', ite_self]
      refine w_next (k + 1) (by omega) ⟨rfl, by omega, by omega, ?_, ?_, ?_, ?_⟩ <;> simp only [g0, g2, g5, g6, ↓wDn, wUp0, wUp1, wUp2, Option.map_none, Int.reduceLE, Int.reduceLT, Int.reduceEq, Int.reduceNeg, Int.reduceToNat, Nat.reduceLeDiff, aresults, aresult, tupled, Bool.and_self, Bool.true_and, Bool.and_true, true_and, and_true, Option.bind_some, Option.bind_none, Option.getD_some, Option.getD_none, Option.map_some, List.getElem?_toArray, List.getElem?_cons_zero, List.getElem?_cons_succ, List.getElem?_nil, List.map_cons, List.map_nil, List.all_cons, List.all_nil, Nat.reduceLT, Nat.reduceEqDiff, Nat.reduceSub, Nat.reduceAdd, ↓reduceIte, if_true, if_false, Bool.false_eq_true, reduceCtorEq, Nat.le_refl, decide_true, decide_false, Bool.not_true, Bool.not_false, decide_eq_true_eq, decide_eq_false_iff_not, eq_self, Bool.false_and, Bool.and_false, Bool.not_eq_true', ite_self]
    · have he : k = s := by omega
      have z2 : ¬ (k : Int) < (s : Int) := by omega
      simp only [g5, g6, z2, ↓wDn, wUp0, wUp1, wUp2, Option.map_none, Int.reduceLE, Int.reduceLT, Int.reduceEq, Int.reduceNeg, Int.reduceToNat, Nat.reduceLeDiff, aresults, aresult, tupled, Bool.and_self, Bool.true_and, Bool.and_true, true_and, and_true, Option.bind_some, Option.bind_none, Option.getD_some, Option.getD_none, Option.map_some, List.getElem?_toArray, List.getElem?_cons_zero, List.getElem?_cons_succ, List.getElem?_nil, List.map_cons, List.map_nil, List.all_cons, List.all_nil, Nat.reduceLT, Nat.reduceEqDiff, Nat.reduceSub, Nat.reduceAdd, ↓reduceIte, if_true, if_false, Bool.false_eq_true, reduceCtorEq, Nat.le_refl, decide_true, decide_false, Bool.not_true, Bool.not_false, decide_eq_true_eq, decide_eq_false_iff_not, eq_self, Bool.false_and, Bool.and_false, Bool.not_eq_true', ite_self]
      exact w_out ⟨rfl, by simp only [g0, ↓wDn, wUp0, wUp1, wUp2, Option.map_none, Int.reduceLE, Int.reduceLT, Int.reduceEq, Int.reduceNeg, Int.reduceToNat, Nat.reduceLeDiff, aresults, aresult, tupled, Bool.and_self, Bool.true_and, Bool.and_true, true_and, and_true, Option.bind_some, Option.bind_none, Option.getD_some, Option.getD_none, Option.map_some, List.getElem?_toArray, List.getElem?_cons_zero, List.getElem?_cons_succ, List.getElem?_nil, List.map_cons, List.map_nil, List.all_cons, List.all_nil, Nat.reduceLT, Nat.reduceEqDiff, Nat.reduceSub, Nat.reduceAdd, ↓reduceIte, if_true, if_false, Bool.false_eq_true, reduceCtorEq, Nat.le_refl, decide_true, decide_false, Bool.not_true, Bool.not_false, decide_eq_true_eq, decide_eq_false_iff_not, eq_self, Bool.false_and, Bool.and_false, Bool.not_eq_true', ite_self], by simp only [g2, he, ↓wDn, wUp0, wUp1, wUp2, Option.map_none, Int.reduceLE, Int.reduceLT, Int.reduceEq, Int.reduceNeg, Int.reduceToNat, Nat.reduceLeDiff, aresults, aresult, tupled, Bool.and_self, Bool.true_and, Bool.and_true, true_and, and_true, Option.bind_some, Option.bind_none, Option.getD_some, Option.getD_none, Option.map_some, List.getElem?_toArray, List.getElem?_cons_zero, List.getElem?_cons_succ, List.getElem?_nil, List.map_cons, List.map_nil, List.all_cons, List.all_nil, Nat.reduceLT, Nat.reduceEqDiff, Nat.reduceSub, Nat.reduceAdd, ↓reduceIte, if_true, if_false, Bool.false_eq_true, reduceCtorEq, Nat.le_refl, decide_true, decide_false, Bool.not_true, Bool.not_false, decide_eq_true_eq, decide_eq_false_iff_not, eq_self, Bool.false_and, Bool.and_false, Bool.not_eq_true', ite_self], by simp only [g5, ↓wDn, wUp0, wUp1, wUp2, Option.map_none, Int.reduceLE, Int.reduceLT, Int.reduceEq, Int.reduceNeg, Int.reduceToNat, Nat.reduceLeDiff, aresults, aresult, tupled, Bool.and_self, Bool.true_and, Bool.and_true, true_and, and_true, Option.bind_some, Option.bind_none, Option.getD_some, Option.getD_none, Option.map_some, List.getElem?_toArray, List.getElem?_cons_zero, List.getElem?_cons_succ, List.getElem?_nil, List.map_cons, List.map_nil, List.all_cons, List.all_nil, Nat.reduceLT, Nat.reduceEqDiff, Nat.reduceSub, Nat.reduceAdd, ↓reduceIte, if_true, if_false, Bool.false_eq_true, reduceCtorEq, Nat.le_refl, decide_true, decide_false, Bool.not_true, Bool.not_false, decide_eq_true_eq, decide_eq_false_iff_not, eq_self, Bool.false_and, Bool.and_false, Bool.not_eq_true', ite_self]⟩
  case rest =>
    rintro g S1 ⟨rfl, g0, g2, g5⟩
    have ha := acc_lt l s s8.1
    have ha2 : acc l s < 2 ^ 62 := by
      refine Nat.lt_of_lt_of_le ha ?_
      have : 256 ^ (s - 1) ≤ 256 ^ 7 := Nat.pow_le_pow_right (by decide) (by omega)
      omega
    have hsz := size_ok (acc l s) ha2
    by_cases hq : 2 ^ cls (acc l s) = s
    · have e : gets l = (acc l s, l.drop s, 0) := by unfold gets; rw [if_neg hz, hb, hc, hs, if_neg hsh, if_pos hq]
      rw [e]
      rw [hq] at hsz
      simp only [g0, g2, g5, hasBody142, hsz, sliceLo l _ s (by omega), ret3, ↓wDn, wUp0, wUp1, wUp2, Option.map_none, Int.reduceLE, Int.reduceLT, Int.reduceEq, Int.reduceNeg, Int.reduceToNat, Nat.reduceLeDiff, aresults, aresult, tupled, Bool.and_self, Bool.true_and, Bool.and_true, true_and, and_true, Option.bind_some, Option.bind_none, Option.getD_some, Option.getD_none, Option.map_some, List.getElem?_toArray, List.getElem?_cons_zero, List.getElem?_cons_succ, List.getElem?_nil, List.map_cons, List.map_nil, List.all_cons, List.all_nil, Nat.reduceLT, Nat.reduceEqDiff, Nat.reduceSub, Nat.reduceAdd, ↓reduceIte, if_true, if_false, Bool.false_eq_true, reduceCtorEq, Nat.le_refl, decide_true, decide_false, Bool.not_true, Bool.not_false, decide_eq_true_eq, decide_eq_false_iff_not, eq_self, Bool.false_and, Bool.and_false, Bool.not_eq_true', ite_self]
    · have e : gets l = (0, [], 3) := by unfold gets; rw [if_neg hz, hb, hc, hs, if_neg hsh, if_neg hq]
      rw [e]
      have hq' : ¬ ((2 ^ cls (acc l s) : Nat) : Int) = (s : Int) := by omega
      simp only [g0, g2, g5, hasBody142, hsz, hq', ret3, ↓wDn, wUp0, wUp1, wUp2, Option.map_none, Int.reduceLE, Int.reduceLT, Int.reduceEq, Int.reduceNeg, Int.reduceToNat, Nat.reduceLeDiff, aresults, aresult, tupled, Bool.and_self, Bool.true_and, Bool.and_true, true_and, and_true, Option.bind_some, Option.bind_none, Option.getD_some, Option.getD_none, Option.map_some, List.getElem?_toArray, List.getElem?_cons_zero, List.getElem?_cons_succ, List.getElem?_nil, List.map_cons, List.map_nil, List.all_cons, List.all_nil, Nat.reduceLT, Nat.reduceEqDiff, Nat.reduceSub, Nat.reduceAdd, ↓reduceIte, if_true, if_false, Bool.false_eq_true, reduceCtorEq, Nat.le_refl, decide_true, decide_false, Bool.not_true, Bool.not_false, decide_eq_true_eq, decide_eq_false_iff_not, eq_self, Bool.false_and, Bool.and_false, Bool.not_eq_true', ite_self]
      rfl

/-- A text behind its length. -/
def getT (l : List UInt8) : List UInt8 × List UInt8 × Int :=
  if (gets l).2.2 ≠ 0 then ([], [], (gets l).2.2)
  else if 65536 < (gets l).1 then ([], [], 2)
  else if (gets l).2.1.length < (gets l).1 then ([], [], 7)
  else ((gets l).2.1.take (gets l).1, (gets l).2.1.drop (gets l).1, 0)
theorem gets_len (l : List UInt8) : (gets l).2.1.length ≤ l.length := by
  unfold gets
  repeat' split
  all_goals simp
theorem getT_ok (l : List UInt8) (hl : l.length < 2^60) (S : St) (K : Value → St → Prop) (τ) : RL E0 96 [.string (str l)] S K τ ↔ K (.tuple #[.string (str (getT l).1), .string (str (getT l).2.1), .int .i64 (getT l).2.2]) S := by
  refine w_det ?_ K τ
  rw [w_body (memo0 _ _ (by decide)) (okf0 _) Tryz.func96 (c := _) rfl (by show 1 ≤ 30; decide)]
  have hln := gets_len l
  have hg := fun S K τ => get_ok l hl S K τ
  have hgt : getT l = (if (gets l).2.2 ≠ 0 then ([], [], (gets l).2.2)
  else if 65536 < (gets l).1 then ([], [], 2)
  else if (gets l).2.1.length < (gets l).1 then ([], [], 7)
  else ((gets l).2.1.take (gets l).1, (gets l).2.1.drop (gets l).1, 0)) := rfl
  obtain ⟨n, hn⟩ : ∃ n, (gets l).1 = n := ⟨_, rfl⟩
  obtain ⟨r, hr⟩ : ∃ r, (gets l).2.1 = r := ⟨_, rfl⟩
  obtain ⟨e, he⟩ : ∃ e, (gets l).2.2 = e := ⟨_, rfl⟩
  rw [hn, hr, he] at hgt
  rw [hr] at hln
  simp only [hn, hr, he] at hg
  rw [hgt]
  by_cases h0 : e = 0
  · subst h0
    rw [if_neg (by simp)]
    by_cases h1 : 65536 < n
    · have z1 : (65536 : Int) < (n : Int) := by omega
      rw [if_pos h1]
      simp only [Tryz.f96, hasBody98, hg, z1, ret3, ↓wDn, wUp0, wUp1, wUp2, Option.map_none, Int.reduceLE, Int.reduceLT, Int.reduceEq, Int.reduceNeg, Int.reduceToNat, Nat.reduceLeDiff, aresults, aresult, tupled, Bool.and_self, Bool.true_and, Bool.and_true, true_and, and_true, Option.bind_some, Option.bind_none, Option.getD_some, Option.getD_none, Option.map_some, List.getElem?_toArray, List.getElem?_cons_zero, List.getElem?_cons_succ, List.getElem?_nil, List.map_cons, List.map_nil, List.all_cons, List.all_nil, Nat.reduceLT, Nat.reduceEqDiff, Nat.reduceSub, Nat.reduceAdd, ↓reduceIte, if_true, if_false, Bool.false_eq_true, reduceCtorEq, Nat.le_refl, decide_true, decide_false, Bool.not_true, Bool.not_false, decide_eq_true_eq, decide_eq_false_iff_not, eq_self, Bool.false_and, Bool.and_false, Bool.not_eq_true', ite_self]
      rfl
    · have z1 : ¬ (65536 : Int) < (n : Int) := by omega
      rw [if_neg h1]
      by_cases h2 : r.length < n
      · have z2 : (r.length : Int) < (n : Int) := by omega
        rw [if_pos h2]
        simp only [Tryz.f96, hasBody98, hg, z1, z2, lenS, ret3, ↓wDn, wUp0, wUp1, wUp2, Option.map_none, Int.reduceLE, Int.reduceLT, Int.reduceEq, Int.reduceNeg, Int.reduceToNat, Nat.reduceLeDiff, aresults, aresult, tupled, Bool.and_self, Bool.true_and, Bool.and_true, true_and, and_true, Option.bind_some, Option.bind_none, Option.getD_some, Option.getD_none, Option.map_some, List.getElem?_toArray, List.getElem?_cons_zero, List.getElem?_cons_succ, List.getElem?_nil, List.map_cons, List.map_nil, List.all_cons, List.all_nil, Nat.reduceLT, Nat.reduceEqDiff, Nat.reduceSub, Nat.reduceAdd, ↓reduceIte, if_true, if_false, Bool.false_eq_true, reduceCtorEq, Nat.le_refl, decide_true, decide_false, Bool.not_true, Bool.not_false, decide_eq_true_eq, decide_eq_false_iff_not, eq_self, Bool.false_and, Bool.and_false, Bool.not_eq_true', ite_self]
        rfl
      · have z2 : ¬ (r.length : Int) < (n : Int) := by omega
        rw [if_neg h2]
        simp only [Tryz.f96, hasBody98, hg, z1, z2, lenS, ret3, sliceHi r _ n (by omega), sliceLo r _ n (by omega), ↓wDn, wUp0, wUp1, wUp2, Option.map_none, Int.reduceLE, Int.reduceLT, Int.reduceEq, Int.reduceNeg, Int.reduceToNat, Nat.reduceLeDiff, aresults, aresult, tupled, Bool.and_self, Bool.true_and, Bool.and_true, true_and, and_true, Option.bind_some, Option.bind_none, Option.getD_some, Option.getD_none, Option.map_some, List.getElem?_toArray, List.getElem?_cons_zero, List.getElem?_cons_succ, List.getElem?_nil, List.map_cons, List.map_nil, List.all_cons, List.all_nil, Nat.reduceLT, Nat.reduceEqDiff, Nat.reduceSub, Nat.reduceAdd, ↓reduceIte, if_true, if_false, Bool.false_eq_true, reduceCtorEq, Nat.le_refl, decide_true, decide_false, Bool.not_true, Bool.not_false, decide_eq_true_eq, decide_eq_false_iff_not, eq_self, Bool.false_and, Bool.and_false, Bool.not_eq_true', ite_self]
  · rw [if_pos h0]
    simp only [Tryz.f96, hasBody98, hg, h0, ret3, ↓wDn, wUp0, wUp1, wUp2, Option.map_none, Int.reduceLE, Int.reduceLT, Int.reduceEq, Int.reduceNeg, Int.reduceToNat, Nat.reduceLeDiff, aresults, aresult, tupled, Bool.and_self, Bool.true_and, Bool.and_true, true_and, and_true, Option.bind_some, Option.bind_none, Option.getD_some, Option.getD_none, Option.map_some, List.getElem?_toArray, List.getElem?_cons_zero, List.getElem?_cons_succ, List.getElem?_nil, List.map_cons, List.map_nil, List.all_cons, List.all_nil, Nat.reduceLT, Nat.reduceEqDiff, Nat.reduceSub, Nat.reduceAdd, ↓reduceIte, if_true, if_false, Bool.false_eq_true, reduceCtorEq, Nat.le_refl, decide_true, decide_false, Bool.not_true, Bool.not_false, decide_eq_true_eq, decide_eq_false_iff_not, eq_self, Bool.false_and, Bool.and_false, Bool.not_eq_true', ite_self]
    rfl
/-- A flag. -/
def getF (l : List UInt8) : Nat × List UInt8 × Int :=
  if l = [] then (0, [], 7) else if 1 < (l.getD 0 0).toNat then (0, [], 3) else ((l.getD 0 0).toNat, l.drop 1, 0)
theorem getF_ok (l : List UInt8) (hl : l.length < 2^60) (S : St) (K : Value → St → Prop) (τ) : RL E0 97 [.string (str l)] S K τ ↔ K (.tuple #[.int .i64 (getF l).1, .string (str (getF l).2.1), .int .i64 (getF l).2.2]) S := by
  refine w_det ?_ K τ
  rw [w_body (memo0 _ _ (by decide)) (okf0 _) Tryz.func97 (c := _) rfl (by show 1 ≤ 17; decide)]
  by_cases hz : l = []
  · have e : getF l = (0, [], 7) := by unfold getF; rw [if_pos hz]
    rw [e]
    simp only [Tryz.f97, strE, hz, ret3, ↓wDn, wUp0, wUp1, wUp2, Option.map_none, Int.reduceLE, Int.reduceLT, Int.reduceEq, Int.reduceNeg, Int.reduceToNat, Nat.reduceLeDiff, aresults, aresult, tupled, Bool.and_self, Bool.true_and, Bool.and_true, true_and, and_true, Option.bind_some, Option.bind_none, Option.getD_some, Option.getD_none, Option.map_some, List.getElem?_toArray, List.getElem?_cons_zero, List.getElem?_cons_succ, List.getElem?_nil, List.map_cons, List.map_nil, List.all_cons, List.all_nil, Nat.reduceLT, Nat.reduceEqDiff, Nat.reduceSub, Nat.reduceAdd, ↓reduceIte, if_true, if_false, Bool.false_eq_true, reduceCtorEq, Nat.le_refl, decide_true, decide_false, Bool.not_true, Bool.not_false, decide_eq_true_eq, decide_eq_false_iff_not, eq_self, Bool.false_and, Bool.and_false, Bool.not_eq_true', ite_self]
    rfl
  have hpos : 0 < l.length := List.length_pos_iff.2 hz
  have w8 : IntKind.i64.wrap ((l.getD 0 0).toNat : Int) = ((l.getD 0 0).toNat : Int) := wrap64 _ (by omega) (by have := (l.getD 0 0).toNat_lt; omega)
  by_cases h1 : 1 < (l.getD 0 0).toNat
  · have z1 : (1 : Int) < ((l.getD 0 0).toNat : Int) := by omega
    have e : getF l = (0, [], 3) := by unfold getF; rw [if_neg hz, if_pos h1]
    rw [e]
    simp only [Tryz.f97, strE, hz, ixS0 l _ hpos, z1, ret3, ↓wDn, wUp0, wUp1, wUp2, Option.map_none, Int.reduceLE, Int.reduceLT, Int.reduceEq, Int.reduceNeg, Int.reduceToNat, Nat.reduceLeDiff, aresults, aresult, tupled, Bool.and_self, Bool.true_and, Bool.and_true, true_and, and_true, Option.bind_some, Option.bind_none, Option.getD_some, Option.getD_none, Option.map_some, List.getElem?_toArray, List.getElem?_cons_zero, List.getElem?_cons_succ, List.getElem?_nil, List.map_cons, List.map_nil, List.all_cons, List.all_nil, Nat.reduceLT, Nat.reduceEqDiff, Nat.reduceSub, Nat.reduceAdd, ↓reduceIte, if_true, if_false, Bool.false_eq_true, reduceCtorEq, Nat.le_refl, decide_true, decide_false, Bool.not_true, Bool.not_false, decide_eq_true_eq, decide_eq_false_iff_not, eq_self, Bool.false_and, Bool.and_false, Bool.not_eq_true', ite_self]
    rfl
  · have z1 : ¬ (1 : Int) < ((l.getD 0 0).toNat : Int) := by omega
    have e : getF l = ((l.getD 0 0).toNat, l.drop 1, 0) := by unfold getF; rw [if_neg hz, if_neg h1]
    rw [e]
    have hsl := fun k S => sliceLo l k 1 (by omega) S
    have e1 : ((1 : Nat) : Int) = 1 := rfl
    rw [e1] at hsl
    simp only [Tryz.f97, strE, hz, ixS0 l _ hpos, z1, conv_int ty5 ty3, w8, hsl, ret3, ↓wDn, wUp0, wUp1, wUp2, Option.map_none, Int.reduceLE, Int.reduceLT, Int.reduceEq, Int.reduceNeg, Int.reduceToNat, Nat.reduceLeDiff, aresults, aresult, tupled, Bool.and_self, Bool.true_and, Bool.and_true, true_and, and_true, Option.bind_some, Option.bind_none, Option.getD_some, Option.getD_none, Option.map_some, List.getElem?_toArray, List.getElem?_cons_zero, List.getElem?_cons_succ, List.getElem?_nil, List.map_cons, List.map_nil, List.all_cons, List.all_nil, Nat.reduceLT, Nat.reduceEqDiff, Nat.reduceSub, Nat.reduceAdd, ↓reduceIte, if_true, if_false, Bool.false_eq_true, reduceCtorEq, Nat.le_refl, decide_true, decide_false, Bool.not_true, Bool.not_false, decide_eq_true_eq, decide_eq_false_iff_not, eq_self, Bool.false_and, Bool.and_false, Bool.not_eq_true', ite_self]
end Go.Abs
