/-
  TopNamed answers true for every two slices of bytes, and leaves them as they were; conditions: the listed package variables hold what the program's text lays (tied by the card).
-/
import Derived.Test.YtdnokoimbekoeaaGreatDoorNmA
import Derived.Test.YtdnokoimbekoeaaGreatDoorPl
import Derived.Test.YtdnokoimbekoeaaGreatDoorSx

namespace Go.Abs
open Go Go.Proofs Go.RowKit
set_option linter.unusedSimpArgs false
set_option maxRecDepth 100000
theorem und23 : E0.P.underlying 23 = some (.slice 9) := keepEq (by kernel_rfl)
theorem sz9 : szOf E0 9 = some 1 := keepEq (by kernel_rfl)
theorem inf9 : (E0.P.info? 9).map (fun i => (i.size, i.bytes, i.zero.map (·.cells))) = some (1, 16, some #[.string ⟨#[]⟩]) := keepEq (by kernel_rfl)
theorem hasBody30 : hasBody E0 30 = true := keepEq rfl
theorem hasBody16 : hasBody E0 16 = true := keepEq rfl
def scells (l : List (List UInt8)) : List Value := l.map fun p => .string (str p)
theorem extract0 (s : ByteArray) (m : Nat) : s.extract 0 m = str (s.data.toList.take m) := by
  apply bytes_ext
  rw [Lib.extract_toList, Lib.toList_data]
  simp [str]
theorem extractE (s : ByteArray) (m : Nat) : s.extract m s.size = str (s.data.toList.drop m) := by
  apply bytes_ext
  rw [Lib.extract_toList, Lib.toList_data]
  have : s.size = s.data.toList.length := Lib.size_eq s
  rw [List.take_of_length_le (by rw [List.length_drop]; omega)]
  simp [str]
theorem ia23 (k : IntKind) (b len cap : Nat) (i : Nat) (h : i < len) : aindexAddr E0 23 (.slice (some ⟨b, 0, none⟩) len cap) (.int k i) = some (.pointer (some ⟨b, i, none⟩)) := by
  rw [idxAddr_slc und23 sz9 k i (by omega) (by omega)]
  simp
theorem splice_at (a : List Value) (v z : Value) (r : List Value) : splice (a ++ z :: r) a.length [v] = a ++ v :: r := by
  unfold splice
  simp
theorem retV_np (v : Value) (S K S1) (hp : pf v = false) : retV [v] S K S1 ↔ K v ⟨S1.n, S1.h, Nat.min S.low S1.low⟩ := by
  unfold retV
  rw [if_neg (by simp [tupled, hp])]
  rfl
theorem genSplit_ok (l : List UInt8) (hl : l.length < 2^30) (S : St) (hS : WF E0 S) (K : Value → St → Prop) (τ)
    (hK : ∀ S', WF E0 S' → S'.n = S.n + 1 → S'.low = Nat.min S.low S.n → (∀ b, b < S.n → St.get E0 S' b = St.get E0 S b) → St.get E0 S' S.n = some (.own (scells (splitB l)) 9) → K (.slice (some ⟨S.n, 0, none⟩) (splitB l).length (splitB l).length) S') :
    RL E0 30 [.string (str l), .string ⟨#[46]⟩, .int .i64 0, .int .i64 (-1)] S K τ := by
  refine (w_body (memo0 _ _ (by decide)) (okf0 _) Tryz.func30 (c := _) rfl (by show 4 ≤ 66; decide) S K).2 ?_
  have hcnt := count_le l
  obtain ⟨n, hn⟩ : ∃ n, Lib.countByte l 46 + 1 = n := ⟨_, rfl⟩
  have hlen : (splitB l).length = n := by rw [split_len, hn]
  have w1 : IntKind.i64.wrap ((Lib.countByte l 46 : Int) + 1) = (n : Int) := by rw [wrap64 _ (by omega) (by omega)]; omega
  have w2 : IntKind.i64.wrap (((str l).size : Int) + 1) = ((l.length + 1 : Nat) : Int) := by rw [str_size, wrap64 _ (by omega) (by omega)]; rfl
  have hmin : ¬ ((l.length + 1 : Nat) : Int) < (n : Int) := by omega
  have w3 : IntKind.i64.wrap ((n : Int) - 1) = ((n - 1 : Nat) : Int) := by rw [wrap64 _ (by omega) (by omega)]; omega
  have hd46 : ((⟨#[46]⟩ : ByteArray) = ⟨#[]⟩) = False := by
    apply eq_false; intro h
    have := congrArg ByteArray.size h
    simp [ByteArray.size] at this
  have hneg : ((-1 : Int) = 0) = False := by simp
  have hneg2 : ((-1 : Int) < 0) = True := by simp
  simp only [Tryz.f30, hneg, hneg2, hd46, hasBody21, countDot_ok, str_toList, w1, len_str ty9, w2, hmin, mk_one und23 inf9 rfl _ _ n (by omega) (by omega) (by omega), w3, ↓wDn, wUp0, wUp1, wUp2, Option.map_none, Int.reduceLE, Int.reduceLT, Int.reduceEq, Int.reduceNeg, Int.reduceToNat, Nat.reduceLeDiff, aresults, aresult, tupled, Bool.and_self, Bool.true_and, Bool.and_true, true_and, and_true, Option.bind_some, Option.bind_none, Option.getD_some, Option.getD_none, Option.map_some, List.getElem?_toArray, List.getElem?_cons_zero, List.getElem?_cons_succ, List.getElem?_nil, List.map_cons, List.map_nil, List.all_cons, List.all_nil, Nat.reduceLT, Nat.reduceEqDiff, Nat.reduceSub, Nat.reduceAdd, ↓reduceIte, if_true, if_false, Bool.false_eq_true, reduceCtorEq, Nat.le_refl, decide_true, decide_false, Bool.not_true, Bool.not_false, decide_eq_true_eq, decide_eq_false_iff_not, eq_self, Bool.false_and, Bool.and_false, Bool.not_eq_true', ite_self]
  refine w_loopF (fun (x : Nat × List UInt8) g S1 => WF E0 S1 ∧ S1.n = S.n + 1 ∧ S1.low = S.n ∧ (∀ b, b < S.n → St.get E0 S1 b = St.get E0 S b) ∧
      (∃ dn : List (List UInt8), dn.length = x.1 ∧ splitB l = dn ++ splitB x.2 ∧ St.get E0 S1 S.n = some (.own (scells dn ++ List.replicate (n - x.1) (.string ⟨#[]⟩)) 9)) ∧ Lib.countByte x.2 46 + x.1 + 1 = n ∧ x.2.length ≤ l.length ∧
      g 0 = .string (str x.2) ∧ g 1 = .string ⟨#[46]⟩ ∧ g 2 = .int .i64 0 ∧ g 3 = .int .i64 (n - 1 : Nat) ∧ g 9 = .slice (some ⟨S.n, 0, none⟩) n n ∧ g 10 = .int .i64 x.1) (fun x => n - x.1) (0, l) ?init ?round
  case init =>
    refine ⟨?_, ?_, ?_, ?_, ⟨[], rfl, rfl, ?_⟩, by simpa using hn, Nat.le_refl _, ?_, ?_, ?_, ?_, ?_, ?_⟩
    · simp only [hS, ↓wDn, wUp0, wUp1, wUp2, Option.map_none, Int.reduceLE, Int.reduceLT, Int.reduceEq, Int.reduceNeg, Int.reduceToNat, Nat.reduceLeDiff, aresults, aresult, tupled, Bool.and_self, Bool.true_and, Bool.and_true, true_and, and_true, Option.bind_some, Option.bind_none, Option.getD_some, Option.getD_none, Option.map_some, List.getElem?_toArray, List.getElem?_cons_zero, List.getElem?_cons_succ, List.getElem?_nil, List.map_cons, List.map_nil, List.all_cons, List.all_nil, Nat.reduceLT, Nat.reduceEqDiff, Nat.reduceSub, Nat.reduceAdd, ↓reduceIte, if_true, if_false, Bool.false_eq_true, reduceCtorEq, Nat.le_refl, decide_true, decide_false, Bool.not_true, Bool.not_false, decide_eq_true_eq, decide_eq_false_iff_not, eq_self, Bool.false_and, Bool.and_false, Bool.not_eq_true', ite_self]
    · simp only [↓wDn, wUp0, wUp1, wUp2, Option.map_none, Int.reduceLE, Int.reduceLT, Int.reduceEq, Int.reduceNeg, Int.reduceToNat, Nat.reduceLeDiff, aresults, aresult, tupled, Bool.and_self, Bool.true_and, Bool.and_true, true_and, and_true, Option.bind_some, Option.bind_none, Option.getD_some, Option.getD_none, Option.map_some, List.getElem?_toArray, List.getElem?_cons_zero, List.getElem?_cons_succ, List.getElem?_nil, List.map_cons, List.map_nil, List.all_cons, List.all_nil, Nat.reduceLT, Nat.reduceEqDiff, Nat.reduceSub, Nat.reduceAdd, ↓reduceIte, if_true, if_false, Bool.false_eq_true, reduceCtorEq, Nat.le_refl, decide_true, decide_false, Bool.not_true, Bool.not_false, decide_eq_true_eq, decide_eq_false_iff_not, eq_self, Bool.false_and, Bool.and_false, Bool.not_eq_true', ite_self]
    · simp only [↓wDn, wUp0, wUp1, wUp2, Option.map_none, Int.reduceLE, Int.reduceLT, Int.reduceEq, Int.reduceNeg, Int.reduceToNat, Nat.reduceLeDiff, aresults, aresult, tupled, Bool.and_self, Bool.true_and, Bool.and_true, true_and, and_true, Option.bind_some, Option.bind_none, Option.getD_some, Option.getD_none, Option.map_some, List.getElem?_toArray, List.getElem?_cons_zero, List.getElem?_cons_succ, List.getElem?_nil, List.map_cons, List.map_nil, List.all_cons, List.all_nil, Nat.reduceLT, Nat.reduceEqDiff, Nat.reduceSub, Nat.reduceAdd, ↓reduceIte, if_true, if_false, Bool.false_eq_true, reduceCtorEq, Nat.le_refl, decide_true, decide_false, Bool.not_true, Bool.not_false, decide_eq_true_eq, decide_eq_false_iff_not, eq_self, Bool.false_and, Bool.and_false, Bool.not_eq_true', ite_self]
    · intro b hb
      rw [get_push ⟨S.n, S.h, S.n⟩ _ _ hS]
      exact if_neg (by show ¬ b = S.n; omega)
    · rw [get_push ⟨S.n, S.h, S.n⟩ _ _ hS]
      exact if_pos rfl
    · simp only [↓wDn, wUp0, wUp1, wUp2, Option.map_none, Int.reduceLE, Int.reduceLT, Int.reduceEq, Int.reduceNeg, Int.reduceToNat, Nat.reduceLeDiff, aresults, aresult, tupled, Bool.and_self, Bool.true_and, Bool.and_true, true_and, and_true, Option.bind_some, Option.bind_none, Option.getD_some, Option.getD_none, Option.map_some, List.getElem?_toArray, List.getElem?_cons_zero, List.getElem?_cons_succ, List.getElem?_nil, List.map_cons, List.map_nil, List.all_cons, List.all_nil, Nat.reduceLT, Nat.reduceEqDiff, Nat.reduceSub, Nat.reduceAdd, ↓reduceIte, if_true, if_false, Bool.false_eq_true, reduceCtorEq, Nat.le_refl, decide_true, decide_false, Bool.not_true, Bool.not_false, decide_eq_true_eq, decide_eq_false_iff_not, eq_self, Bool.false_and, Bool.and_false, Bool.not_eq_true', ite_self]
    · simp only [↓wDn, wUp0, wUp1, wUp2, Option.map_none, Int.reduceLE, Int.reduceLT, Int.reduceEq, Int.reduceNeg, Int.reduceToNat, Nat.reduceLeDiff, aresults, aresult, tupled, Bool.and_self, Bool.true_and, Bool.and_true, true_and, and_true, Option.bind_some, Option.bind_none, Option.getD_some, Option.getD_none, Option.map_some, List.getElem?_toArray, List.getElem?_cons_zero, List.getElem?_cons_succ, List.getElem?_nil, List.map_cons, List.map_nil, List.all_cons, List.all_nil, Nat.reduceLT, Nat.reduceEqDiff, Nat.reduceSub, Nat.reduceAdd, ↓reduceIte, if_true, if_false, Bool.false_eq_true, reduceCtorEq, Nat.le_refl, decide_true, decide_false, Bool.not_true, Bool.not_false, decide_eq_true_eq, decide_eq_false_iff_not, eq_self, Bool.false_and, Bool.and_false, Bool.not_eq_true', ite_self]
    · simp only [↓wDn, wUp0, wUp1, wUp2, Option.map_none, Int.reduceLE, Int.reduceLT, Int.reduceEq, Int.reduceNeg, Int.reduceToNat, Nat.reduceLeDiff, aresults, aresult, tupled, Bool.and_self, Bool.true_and, Bool.and_true, true_and, and_true, Option.bind_some, Option.bind_none, Option.getD_some, Option.getD_none, Option.map_some, List.getElem?_toArray, List.getElem?_cons_zero, List.getElem?_cons_succ, List.getElem?_nil, List.map_cons, List.map_nil, List.all_cons, List.all_nil, Nat.reduceLT, Nat.reduceEqDiff, Nat.reduceSub, Nat.reduceAdd, ↓reduceIte, if_true, if_false, Bool.false_eq_true, reduceCtorEq, Nat.le_refl, decide_true, decide_false, Bool.not_true, Bool.not_false, decide_eq_true_eq, decide_eq_false_iff_not, eq_self, Bool.false_and, Bool.and_false, Bool.not_eq_true', ite_self]
    · simp only [↓wDn, wUp0, wUp1, wUp2, Option.map_none, Int.reduceLE, Int.reduceLT, Int.reduceEq, Int.reduceNeg, Int.reduceToNat, Nat.reduceLeDiff, aresults, aresult, tupled, Bool.and_self, Bool.true_and, Bool.and_true, true_and, and_true, Option.bind_some, Option.bind_none, Option.getD_some, Option.getD_none, Option.map_some, List.getElem?_toArray, List.getElem?_cons_zero, List.getElem?_cons_succ, List.getElem?_nil, List.map_cons, List.map_nil, List.all_cons, List.all_nil, Nat.reduceLT, Nat.reduceEqDiff, Nat.reduceSub, Nat.reduceAdd, ↓reduceIte, if_true, if_false, Bool.false_eq_true, reduceCtorEq, Nat.le_refl, decide_true, decide_false, Bool.not_true, Bool.not_false, decide_eq_true_eq, decide_eq_false_iff_not, eq_self, Bool.false_and, Bool.and_false, Bool.not_eq_true', ite_self]
    · simp only [↓wDn, wUp0, wUp1, wUp2, Option.map_none, Int.reduceLE, Int.reduceLT, Int.reduceEq, Int.reduceNeg, Int.reduceToNat, Nat.reduceLeDiff, aresults, aresult, tupled, Bool.and_self, Bool.true_and, Bool.and_true, true_and, and_true, Option.bind_some, Option.bind_none, Option.getD_some, Option.getD_none, Option.map_some, List.getElem?_toArray, List.getElem?_cons_zero, List.getElem?_cons_succ, List.getElem?_nil, List.map_cons, List.map_nil, List.all_cons, List.all_nil, Nat.reduceLT, Nat.reduceEqDiff, Nat.reduceSub, Nat.reduceAdd, ↓reduceIte, if_true, if_false, Bool.false_eq_true, reduceCtorEq, Nat.le_refl, decide_true, decide_false, Bool.not_true, Bool.not_false, decide_eq_true_eq, decide_eq_false_iff_not, eq_self, Bool.false_and, Bool.and_false, Bool.not_eq_true', ite_self]
    · simp only [Int.natCast_zero, ↓wDn, wUp0, wUp1, wUp2, Option.map_none, Int.reduceLE, Int.reduceLT, Int.reduceEq, Int.reduceNeg, Int.reduceToNat, Nat.reduceLeDiff, aresults, aresult, tupled, Bool.and_self, Bool.true_and, Bool.and_true, true_and, and_true, Option.bind_some, Option.bind_none, Option.getD_some, Option.getD_none, Option.map_some, List.getElem?_toArray, List.getElem?_cons_zero, List.getElem?_cons_succ, List.getElem?_nil, List.map_cons, List.map_nil, List.all_cons, List.all_nil, Nat.reduceLT, Nat.reduceEqDiff, Nat.reduceSub, Nat.reduceAdd, ↓reduceIte, if_true, if_false, Bool.false_eq_true, reduceCtorEq, Nat.le_refl, decide_true, decide_false, Bool.not_true, Bool.not_false, decide_eq_true_eq, decide_eq_false_iff_not, eq_self, Bool.false_and, Bool.and_false, Bool.not_eq_true', ite_self]
  case round =>
    rintro ⟨i, r⟩ g S1 ⟨hW, hn1, hlow, hold, ⟨dn, hdn, hspl, hg⟩, hc, hrl, g0, g1, g2, g3, g9, g10⟩
    simp only at hdn hspl hg hc hrl g0 g10
    have hb0 := wf_base hS
    by_cases hlt : i < n - 1
    · have hltz : (i : Int) < ((n - 1 : Nat) : Int) := by omega
      obtain ⟨m, m1, m2, m3, m4⟩ := idx_split r (by omega)
      have hm0 : ¬ (m : Int) < 0 := by omega
      have wm0 : IntKind.i64.wrap ((m : Int) + 0) = (m : Int) := by rw [wrap64 _ (by omega) (by omega)]; omega
      have wm1 : IntKind.i64.wrap ((m : Int) + 1) = ((m + 1 : Nat) : Int) := by rw [wrap64 _ (by omega) (by omega)]; rfl
      have sl1 := fun S => slice_strHi (E := E0) ty9 (str r) .i64 (m : Int) (by omega) (by rw [str_size]; omega) S
      have sl2 := fun S => slice_strLo (E := E0) ty9 (str r) .i64 ((m + 1 : Nat) : Int) (by omega) (by rw [str_size]; omega) S
      simp only [Int.toNat_natCast, extract0, extractE, str_toList] at sl1 sl2
      have hrep : List.replicate (n - i) (Value.string ⟨#[]⟩) = .string ⟨#[]⟩ :: List.replicate (n - (i + 1)) (.string ⟨#[]⟩) := by
        rw [← List.replicate_succ]; congr 1; omega
      have hsp : splice (scells dn ++ List.replicate (n - i) (.string ⟨#[]⟩)) i [.string (str (r.take m))] = scells (dn ++ [r.take m]) ++ List.replicate (n - (i + 1)) (.string ⟨#[]⟩) := by
        have hle : i = (scells dn).length := by simp [scells, hdn]
        rw [hrep]
        conv => lhs; rw [hle]
        rw [splice_at]
        simp [scells, hle]
      obtain ⟨S2, hS2⟩ : ∃ S2, S1.set S.n (.own (scells (dn ++ [r.take m]) ++ List.replicate (n - (i + 1)) (.string ⟨#[]⟩)) 9) = S2 := ⟨_, rfl⟩
      have hst : astore E0 S1 9 (.pointer (some ⟨S.n, i, none⟩)) (.string (str (r.take m))) = some S2 := by
        rw [store_own hg sz9 rfl rfl (by simp [scells, hdn]; omega), ← hS2, ← hsp]
        rfl
      simp only [g0, g1, g2, g3, g9, g10, hltz, hasBody36, index_ok, str_toList, m1, hm0, wm0, sl1, ia23 _ S.n n n i (by omega), hst, len_str ty9, dotSize, wm1, sl2, wrap64 ((i : Int) + 1) (by omega) (by omega), ↓wDn, wUp0, wUp1, wUp2, Option.map_none, Int.reduceLE, Int.reduceLT, Int.reduceEq, Int.reduceNeg, Int.reduceToNat, Nat.reduceLeDiff, aresults, aresult, tupled, Bool.and_self, Bool.true_and, Bool.and_true, true_and, and_true, Option.bind_some, Option.bind_none, Option.getD_some, Option.getD_none, Option.map_some, List.getElem?_toArray, List.getElem?_cons_zero, List.getElem?_cons_succ, List.getElem?_nil, List.map_cons, List.map_nil, List.all_cons, List.all_nil, Nat.reduceLT, Nat.reduceEqDiff, Nat.reduceSub, Nat.reduceAdd, ↓reduceIte, if_true, if_false, Bool.false_eq_true, reduceCtorEq, Nat.le_refl, decide_true, decide_false, Bool.not_true, Bool.not_false, decide_eq_true_eq, decide_eq_false_iff_not, eq_self, Bool.false_and, Bool.and_false, Bool.not_eq_true', ite_self]
      refine w_next (i + 1, r.drop (m + 1)) (by simp only; omega) ⟨?_, ?_, ?_, ?_, ⟨dn ++ [r.take m], by simp [hdn], by rw [hspl, m3]; simp, ?_⟩, by simp only; omega, by simp only [List.length_drop]; omega, ?_, ?_, ?_, ?_, ?_, ?_⟩
      · rw [← hS2, wf_set]; exact hW
      · rw [← hS2]; exact hn1
      · rw [← hS2, low_set, hlow, nmin_self]
      · intro b hb
        rw [← hS2, get_setS _ _ _ _ hW hb0 (by omega), if_neg (by omega)]
        exact hold b hb
      · rw [← hS2, get_setS _ _ _ _ hW hb0 (by omega), if_pos rfl]
      · simp only [↓wDn, wUp0, wUp1, wUp2, Option.map_none, Int.reduceLE, Int.reduceLT, Int.reduceEq, Int.reduceNeg, Int.reduceToNat, Nat.reduceLeDiff, aresults, aresult, tupled, Bool.and_self, Bool.true_and, Bool.and_true, true_and, and_true, Option.bind_some, Option.bind_none, Option.getD_some, Option.getD_none, Option.map_some, List.getElem?_toArray, List.getElem?_cons_zero, List.getElem?_cons_succ, List.getElem?_nil, List.map_cons, List.map_nil, List.all_cons, List.all_nil, Nat.reduceLT, Nat.reduceEqDiff, Nat.reduceSub, Nat.reduceAdd, ↓reduceIte, if_true, if_false, Bool.false_eq_true, reduceCtorEq, Nat.le_refl, decide_true, decide_false, Bool.not_true, Bool.not_false, decide_eq_true_eq, decide_eq_false_iff_not, eq_self, Bool.false_and, Bool.and_false, Bool.not_eq_true', ite_self]
      · simp only [g1, ↓wDn, wUp0, wUp1, wUp2, Option.map_none, Int.reduceLE, Int.reduceLT, Int.reduceEq, Int.reduceNeg, Int.reduceToNat, Nat.reduceLeDiff, aresults, aresult, tupled, Bool.and_self, Bool.true_and, Bool.and_true, true_and, and_true, Option.bind_some, Option.bind_none, Option.getD_some, Option.getD_none, Option.map_some, List.getElem?_toArray, List.getElem?_cons_zero, List.getElem?_cons_succ, List.getElem?_nil, List.map_cons, List.map_nil, List.all_cons, List.all_nil, Nat.reduceLT, Nat.reduceEqDiff, Nat.reduceSub, Nat.reduceAdd, ↓reduceIte, if_true, if_false, Bool.false_eq_true, reduceCtorEq, Nat.le_refl, decide_true, decide_false, Bool.not_true, Bool.not_false, decide_eq_true_eq, decide_eq_false_iff_not, eq_self, Bool.false_and, Bool.and_false, Bool.not_eq_true', ite_self]
      · simp only [g2, ↓wDn, wUp0, wUp1, wUp2, Option.map_none, Int.reduceLE, Int.reduceLT, Int.reduceEq, Int.reduceNeg, Int.reduceToNat, Nat.reduceLeDiff, aresults, aresult, tupled, Bool.and_self, Bool.true_and, Bool.and_true, true_and, and_true, Option.bind_some, Option.bind_none, Option.getD_some, Option.getD_none, Option.map_some, List.getElem?_toArray, List.getElem?_cons_zero, List.getElem?_cons_succ, List.getElem?_nil, List.map_cons, List.map_nil, List.all_cons, List.all_nil, Nat.reduceLT, Nat.reduceEqDiff, Nat.reduceSub, Nat.reduceAdd, ↓reduceIte, if_true, if_false, Bool.false_eq_true, reduceCtorEq, Nat.le_refl, decide_true, decide_false, Bool.not_true, Bool.not_false, decide_eq_true_eq, decide_eq_false_iff_not, eq_self, Bool.false_and, Bool.and_false, Bool.not_eq_true', ite_self]
      · simp only [g3, ↓wDn, wUp0, wUp1, wUp2, Option.map_none, Int.reduceLE, Int.reduceLT, Int.reduceEq, Int.reduceNeg, Int.reduceToNat, Nat.reduceLeDiff, aresults, aresult, tupled, Bool.and_self, Bool.true_and, Bool.and_true, true_and, and_true, Option.bind_some, Option.bind_none, Option.getD_some, Option.getD_none, Option.map_some, List.getElem?_toArray, List.getElem?_cons_zero, List.getElem?_cons_succ, List.getElem?_nil, List.map_cons, List.map_nil, List.all_cons, List.all_nil, Nat.reduceLT, Nat.reduceEqDiff, Nat.reduceSub, Nat.reduceAdd, ↓reduceIte, if_true, if_false, Bool.false_eq_true, reduceCtorEq, Nat.le_refl, decide_true, decide_false, Bool.not_true, Bool.not_false, decide_eq_true_eq, decide_eq_false_iff_not, eq_self, Bool.false_and, Bool.and_false, Bool.not_eq_true', ite_self]
      · simp only [g9, ↓wDn, wUp0, wUp1, wUp2, Option.map_none, Int.reduceLE, Int.reduceLT, Int.reduceEq, Int.reduceNeg, Int.reduceToNat, Nat.reduceLeDiff, aresults, aresult, tupled, Bool.and_self, Bool.true_and, Bool.and_true, true_and, and_true, Option.bind_some, Option.bind_none, Option.getD_some, Option.getD_none, Option.map_some, List.getElem?_toArray, List.getElem?_cons_zero, List.getElem?_cons_succ, List.getElem?_nil, List.map_cons, List.map_nil, List.all_cons, List.all_nil, Nat.reduceLT, Nat.reduceEqDiff, Nat.reduceSub, Nat.reduceAdd, ↓reduceIte, if_true, if_false, Bool.false_eq_true, reduceCtorEq, Nat.le_refl, decide_true, decide_false, Bool.not_true, Bool.not_false, decide_eq_true_eq, decide_eq_false_iff_not, eq_self, Bool.false_and, Bool.and_false, Bool.not_eq_true', ite_self]
      · simp only [↓wDn, wUp0, wUp1, wUp2, Option.map_none, Int.reduceLE, Int.reduceLT, Int.reduceEq, Int.reduceNeg, Int.reduceToNat, Nat.reduceLeDiff, aresults, aresult, tupled, Bool.and_self, Bool.true_and, Bool.and_true, true_and, and_true, Option.bind_some, Option.bind_none, Option.getD_some, Option.getD_none, Option.map_some, List.getElem?_toArray, List.getElem?_cons_zero, List.getElem?_cons_succ, List.getElem?_nil, List.map_cons, List.map_nil, List.all_cons, List.all_nil, Nat.reduceLT, Nat.reduceEqDiff, Nat.reduceSub, Nat.reduceAdd, ↓reduceIte, if_true, if_false, Bool.false_eq_true, reduceCtorEq, Nat.le_refl, decide_true, decide_false, Bool.not_true, Bool.not_false, decide_eq_true_eq, decide_eq_false_iff_not, eq_self, Bool.false_and, Bool.and_false, Bool.not_eq_true', ite_self]
        rfl
    · have hltz : ¬ (i : Int) < ((n - 1 : Nat) : Int) := by omega
      have hin : i = n - 1 := by omega
      have hz := split_zero r (by omega)
      rw [hz] at hspl
      have hrep : List.replicate (n - i) (Value.string ⟨#[]⟩) = [.string ⟨#[]⟩] := by
        have : n - i = 1 := by omega
        rw [this]; rfl
      have hsp : splice (scells dn ++ List.replicate (n - i) (.string ⟨#[]⟩)) i [.string (str r)] = scells (splitB l) := by
        have hle : i = (scells dn).length := by simp [scells, hdn]
        rw [hrep]
        conv => lhs; rw [hle]
        rw [splice_at, hspl]
        simp [scells]
      obtain ⟨S2, hS2⟩ : ∃ S2, S1.set S.n (.own (scells (splitB l)) 9) = S2 := ⟨_, rfl⟩
      have hst : astore E0 S1 9 (.pointer (some ⟨S.n, i, none⟩)) (.string (str r)) = some S2 := by
        rw [store_own hg sz9 rfl rfl (by simp [scells, hdn]; omega), ← hS2, ← hsp]
        rfl
      have hop1 : (2:Nat)^31 ≤ OPEN := by decide
      have hop : n < OPEN := by omega
      have wi : IntKind.i64.wrap ((i : Int) + 1) = (n : Int) := by rw [wrap64 _ (by omega) (by omega)]; omega
      simp only [g0, g1, g2, g3, g9, g10, hltz, ia23 _ S.n n n i (by omega), hst, wi, slice_hi und23 sz9 S.n n n _ n (Nat.le_refl _) hop, ↓wDn, wUp0, wUp1, wUp2, Option.map_none, Int.reduceLE, Int.reduceLT, Int.reduceEq, Int.reduceNeg, Int.reduceToNat, Nat.reduceLeDiff, aresults, aresult, tupled, Bool.and_self, Bool.true_and, Bool.and_true, true_and, and_true, Option.bind_some, Option.bind_none, Option.getD_some, Option.getD_none, Option.map_some, List.getElem?_toArray, List.getElem?_cons_zero, List.getElem?_cons_succ, List.getElem?_nil, List.map_cons, List.map_nil, List.all_cons, List.all_nil, Nat.reduceLT, Nat.reduceEqDiff, Nat.reduceSub, Nat.reduceAdd, ↓reduceIte, if_true, if_false, Bool.false_eq_true, reduceCtorEq, Nat.le_refl, decide_true, decide_false, Bool.not_true, Bool.not_false, decide_eq_true_eq, decide_eq_false_iff_not, eq_self, Bool.false_and, Bool.and_false, Bool.not_eq_true', ite_self]
      rw [retV_np _ _ _ _ rfl]
      have := hK ⟨S2.n, S2.h, Nat.min S.low S2.low⟩ (by rw [wf_mk, ← hS2, wf_set]; exact hW) (by rw [← hS2]; exact hn1) (by rw [← hS2]; show Nat.min S.low (Nat.min S1.low S.n) = _; rw [hlow, nmin_self])
        (by intro b hb; rw [get_mk, ← hS2, get_setS _ _ _ _ hW hb0 (by omega), if_neg (by omega)]; exact hold b hb)
        (by rw [get_mk, ← hS2, get_setS _ _ _ _ hW hb0 (by omega), if_pos rfl])
      rw [hlen] at this
      exact this
end Go.Abs

namespace Go.Abs
open Go Go.Proofs Go.RowKit
set_option linter.unusedSimpArgs false
set_option maxRecDepth 100000
/-- A call that gives a new slice of texts, in a block of its own. -/
def Gives (S : St) (ps : List (List UInt8)) (K : Value → St → Prop) : Prop :=
  ∀ S', WF E0 S' → S'.n = S.n + 1 → S'.low = Nat.min S.low S.n → (∀ b, b < S.n → St.get E0 S' b = St.get E0 S b) → St.get E0 S' S.n = some (.own (scells ps) 9) → K (.slice (some ⟨S.n, 0, none⟩) ps.length ps.length) S'

/-- A body that ends by giving what another call gave. -/
theorem gives_ret {S : St} {ps : List (List UInt8)} {K : Value → St → Prop} (hK : Gives S ps K) {S' : St} (h1 : WF E0 S') (h2 : S'.n = S.n + 1) (h3 : S'.low = Nat.min S.n S.n) (h4 : ∀ b, b < S.n → St.get E0 S' b = St.get E0 S b) (h5 : St.get E0 S' S.n = some (.own (scells ps) 9)) :
    retV [.slice (some ⟨S.n, 0, none⟩) ps.length ps.length] S K S' := by
  rw [retV_np _ _ _ _ rfl]
  exact hK ⟨S'.n, S'.h, Nat.min S.low S'.low⟩ h1 h2 (by show Nat.min S.low S'.low = _; rw [h3, nmin_self]) h4 h5

theorem split_ok (l : List UInt8) (hl : l.length < 2^30) (S : St) (hS : WF E0 S) (K : Value → St → Prop) (τ) (hK : Gives S (splitB l) K) : RL E0 16 [.string (str l), .string ⟨#[46]⟩] S K τ := by
  refine (w_body (memo0 _ _ (by decide)) (okf0 _) Tryz.func16 (c := _) rfl (by show 2 ≤ 8; decide) S K).2 ?_
  simp only [Tryz.f16, hasBody30, ↓wDn, wUp0, wUp1, wUp2, Option.map_none, Int.reduceLE, Int.reduceLT, Int.reduceEq, Int.reduceNeg, Int.reduceToNat, Nat.reduceLeDiff, aresults, aresult, tupled, Bool.and_self, Bool.true_and, Bool.and_true, true_and, and_true, Option.bind_some, Option.bind_none, Option.getD_some, Option.getD_none, Option.map_some, List.getElem?_toArray, List.getElem?_cons_zero, List.getElem?_cons_succ, List.getElem?_nil, List.map_cons, List.map_nil, List.all_cons, List.all_nil, Nat.reduceLT, Nat.reduceEqDiff, Nat.reduceSub, Nat.reduceAdd, ↓reduceIte, if_true, if_false, Bool.false_eq_true, reduceCtorEq, Nat.le_refl, decide_true, decide_false, Bool.not_true, Bool.not_false, decide_eq_true_eq, decide_eq_false_iff_not, eq_self, Bool.false_and, Bool.and_false, Bool.not_eq_true', ite_self]
  refine genSplit_ok l hl ⟨S.n, S.h, S.n⟩ hS _ _ ?_
  intro S' h1 h2 h3 h4 h5
  simp only [↓wDn, wUp0, wUp1, wUp2, Option.map_none, Int.reduceLE, Int.reduceLT, Int.reduceEq, Int.reduceNeg, Int.reduceToNat, Nat.reduceLeDiff, aresults, aresult, tupled, Bool.and_self, Bool.true_and, Bool.and_true, true_and, and_true, Option.bind_some, Option.bind_none, Option.getD_some, Option.getD_none, Option.map_some, List.getElem?_toArray, List.getElem?_cons_zero, List.getElem?_cons_succ, List.getElem?_nil, List.map_cons, List.map_nil, List.all_cons, List.all_nil, Nat.reduceLT, Nat.reduceEqDiff, Nat.reduceSub, Nat.reduceAdd, ↓reduceIte, if_true, if_false, Bool.false_eq_true, reduceCtorEq, Nat.le_refl, decide_true, decide_false, Bool.not_true, Bool.not_false, decide_eq_true_eq, decide_eq_false_iff_not, eq_self, Bool.false_and, Bool.and_false, Bool.not_eq_true', ite_self]
  exact gives_ret hK h1 h2 h3 h4 h5

theorem hasBody7 : hasBody E0 7 = true := keepEq rfl
theorem hasBody5 : hasBody E0 5 = true := keepEq rfl
theorem hasBody24 : hasBody E0 24 = true := keepEq rfl
theorem parts_ok (rs : List Nat) (hr : ∀ r ∈ rs, r < 2048) (hl : (bs rs).length < 2^30) (hn : rs.length < 2^30) (hc : checkR rs = 0) (S : St) (hS : WF E0 S) (K : Value → St → Prop) (τ) (hK : Gives S (splitB (bs rs)) K) : RL E0 5 [.string (str (bs rs))] S K τ := by
  refine (w_body (memo0 _ _ (by decide)) (okf0 _) Tryz.func5 (c := _) rfl (by show 1 ≤ 8; decide) S K).2 ?_
  simp only [Tryz.f5, hasBody7, hasBody16, check_ok rs hr (by omega) (by omega), hS, hc, ↓wDn, wUp0, wUp1, wUp2, Option.map_none, Int.reduceLE, Int.reduceLT, Int.reduceEq, Int.reduceNeg, Int.reduceToNat, Nat.reduceLeDiff, aresults, aresult, tupled, Bool.and_self, Bool.true_and, Bool.and_true, true_and, and_true, Option.bind_some, Option.bind_none, Option.getD_some, Option.getD_none, Option.map_some, List.getElem?_toArray, List.getElem?_cons_zero, List.getElem?_cons_succ, List.getElem?_nil, List.map_cons, List.map_nil, List.all_cons, List.all_nil, Nat.reduceLT, Nat.reduceEqDiff, Nat.reduceSub, Nat.reduceAdd, ↓reduceIte, if_true, if_false, Bool.false_eq_true, reduceCtorEq, Nat.le_refl, decide_true, decide_false, Bool.not_true, Bool.not_false, decide_eq_true_eq, decide_eq_false_iff_not, eq_self, Bool.false_and, Bool.and_false, Bool.not_eq_true', ite_self]
  refine split_ok (bs rs) hl ⟨S.n, S.h, S.n⟩ hS _ _ ?_
  intro S' h1 h2 h3 h4 h5
  simp only [↓wDn, wUp0, wUp1, wUp2, Option.map_none, Int.reduceLE, Int.reduceLT, Int.reduceEq, Int.reduceNeg, Int.reduceToNat, Nat.reduceLeDiff, aresults, aresult, tupled, Bool.and_self, Bool.true_and, Bool.and_true, true_and, and_true, Option.bind_some, Option.bind_none, Option.getD_some, Option.getD_none, Option.map_some, List.getElem?_toArray, List.getElem?_cons_zero, List.getElem?_cons_succ, List.getElem?_nil, List.map_cons, List.map_nil, List.all_cons, List.all_nil, Nat.reduceLT, Nat.reduceEqDiff, Nat.reduceSub, Nat.reduceAdd, ↓reduceIte, if_true, if_false, Bool.false_eq_true, reduceCtorEq, Nat.le_refl, decide_true, decide_false, Bool.not_true, Bool.not_false, decide_eq_true_eq, decide_eq_false_iff_not, eq_self, Bool.false_and, Bool.and_false, Bool.not_eq_true', ite_self]
  exact gives_ret hK h1 h2 h3 h4 h5

theorem ld9 (S : St) (ps : List (List UInt8)) (b i lw : Nat) (hc : St.cells E0 S b = some (scells ps)) (h : i < ps.length) : aload E0 ⟨S.n, S.h, lw⟩ 9 (.pointer (some ⟨b, i, none⟩)) = some (.string (str ps[i])) := by
  rw [load_cell (S := ⟨S.n, S.h, lw⟩) hc ty9 rfl sz9]
  simp [scells, h]
theorem str_inj {a b : List UInt8} : str a = str b ↔ a = b := by
  constructor
  · intro h
    have := congrArg (fun s => s.data.toList) h
    simpa [str_toList] using this
  · rintro rfl; rfl
/-- slices.Equal, of texts: of the first n of the one, and all of the other. -/
theorem equal_ok (ps qs : List (List UInt8)) (n : Nat) (hn : n ≤ ps.length) (b1 b2 cap1 cap2 : Nat) (S : St) (h1 : St.cells E0 S b1 = some (scells ps)) (h2 : St.cells E0 S b2 = some (scells qs)) (hl : ps.length < 2^62) (K : Value → St → Prop) (τ) :
    RL E0 24 [.slice (some ⟨b1, 0, none⟩) n cap1, .slice (some ⟨b2, 0, none⟩) qs.length cap2] S K τ ↔ K (.bool (decide (ps.take n = qs))) S := by
  refine w_det ?_ K τ
  rw [w_body (memo0 _ _ (by decide)) (okf0 _) Tryz.func24 (c := _) rfl (by show 2 ≤ 26; decide)]
  by_cases hln : n = qs.length
  · subst hln
    have hltk : (ps.take qs.length).length = qs.length := by rw [List.length_take]; omega
    simp only [Tryz.f24, len_slc und23, ↓wDn, wUp0, wUp1, wUp2, Option.map_none, Int.reduceLE, Int.reduceLT, Int.reduceEq, Int.reduceNeg, Int.reduceToNat, Nat.reduceLeDiff, aresults, aresult, tupled, Bool.and_self, Bool.true_and, Bool.and_true, true_and, and_true, Option.bind_some, Option.bind_none, Option.getD_some, Option.getD_none, Option.map_some, List.getElem?_toArray, List.getElem?_cons_zero, List.getElem?_cons_succ, List.getElem?_nil, List.map_cons, List.map_nil, List.all_cons, List.all_nil, Nat.reduceLT, Nat.reduceEqDiff, Nat.reduceSub, Nat.reduceAdd, ↓reduceIte, if_true, if_false, Bool.false_eq_true, reduceCtorEq, Nat.le_refl, decide_true, decide_false, Bool.not_true, Bool.not_false, decide_eq_true_eq, decide_eq_false_iff_not, eq_self, Bool.false_and, Bool.and_false, Bool.not_eq_true', ite_self]
    refine w_loopF (fun (i : Nat) g S1 => S1 = ⟨S.n, S.h, S.n⟩ ∧ i ≤ qs.length ∧ (∀ j (_ : j < i) (h : j < qs.length) (h' : j < ps.length), ps[j] = qs[j]) ∧ g 0 = .slice (some ⟨b1, 0, none⟩) qs.length cap1 ∧ g 1 = .slice (some ⟨b2, 0, none⟩) qs.length cap2 ∧ g 12 = .int .i64 qs.length ∧ g 13 = .int .i64 i) (fun i => qs.length - i) 0 ?init ?round
    case init =>
      refine ⟨rfl, by omega, by intro j hj; omega, ?_, ?_, ?_, ?_⟩ <;> simp only [Int.natCast_zero, ↓wDn, wUp0, wUp1, wUp2, Option.map_none, Int.reduceLE, Int.reduceLT, Int.reduceEq, Int.reduceNeg, Int.reduceToNat, Nat.reduceLeDiff, aresults, aresult, tupled, Bool.and_self, Bool.true_and, Bool.and_true, true_and, and_true, Option.bind_some, Option.bind_none, Option.getD_some, Option.getD_none, Option.map_some, List.getElem?_toArray, List.getElem?_cons_zero, List.getElem?_cons_succ, List.getElem?_nil, List.map_cons, List.map_nil, List.all_cons, List.all_nil, Nat.reduceLT, Nat.reduceEqDiff, Nat.reduceSub, Nat.reduceAdd, ↓reduceIte, if_true, if_false, Bool.false_eq_true, reduceCtorEq, Nat.le_refl, decide_true, decide_false, Bool.not_true, Bool.not_false, decide_eq_true_eq, decide_eq_false_iff_not, eq_self, Bool.false_and, Bool.and_false, Bool.not_eq_true', ite_self]
    case round =>
      rintro i g S1 ⟨rfl, hi, hall, g0, g1, g12, g13⟩
      by_cases hlt : i < qs.length
      · have hltz : (i : Int) < (qs.length : Int) := by omega
        by_cases he : ps[i] = qs[i]
        · have hez : str ps[i] = str qs[i] := by rw [he]
          simp only [g0, g1, g12, g13, hltz, ia23 _ b1 qs.length cap1 i hlt, ia23 _ b2 qs.length cap2 i hlt, ld9 S ps b1 i _ h1 (by omega), ld9 S qs b2 i _ h2 hlt, hez, ↓wDn, wUp0, wUp1, wUp2, Option.map_none, Int.reduceLE, Int.reduceLT, Int.reduceEq, Int.reduceNeg, Int.reduceToNat, Nat.reduceLeDiff, aresults, aresult, tupled, Bool.and_self, Bool.true_and, Bool.and_true, true_and, and_true, Option.bind_some, Option.bind_none, Option.getD_some, Option.getD_none, Option.map_some, List.getElem?_toArray, List.getElem?_cons_zero, List.getElem?_cons_succ, List.getElem?_nil, List.map_cons, List.map_nil, List.all_cons, List.all_nil, Nat.reduceLT, Nat.reduceEqDiff, Nat.reduceSub, Nat.reduceAdd, ↓reduceIte, if_true, if_false, Bool.false_eq_true, reduceCtorEq, Nat.le_refl, decide_true, decide_false, Bool.not_true, Bool.not_false, decide_eq_true_eq, decide_eq_false_iff_not, eq_self, Bool.false_and, Bool.and_false, Bool.not_eq_true', ite_self]
          refine w_next (i + 1) (by omega) ⟨rfl, by omega, ?_, ?_, ?_, ?_, ?_⟩
          · intro j hj h h'
            by_cases hji : j = i
            · subst hji; exact he
            · exact hall j (by omega) h h'
          · simp only [g0, ↓wDn, wUp0, wUp1, wUp2, Option.map_none, Int.reduceLE, Int.reduceLT, Int.reduceEq, Int.reduceNeg, Int.reduceToNat, Nat.reduceLeDiff, aresults, aresult, tupled, Bool.and_self, Bool.true_and, Bool.and_true, true_and, and_true, Option.bind_some, Option.bind_none, Option.getD_some, Option.getD_none, Option.map_some, List.getElem?_toArray, List.getElem?_cons_zero, List.getElem?_cons_succ, List.getElem?_nil, List.map_cons, List.map_nil, List.all_cons, List.all_nil, Nat.reduceLT, Nat.reduceEqDiff, Nat.reduceSub, Nat.reduceAdd, ↓reduceIte, if_true, if_false, Bool.false_eq_true, reduceCtorEq, Nat.le_refl, decide_true, decide_false, Bool.not_true, Bool.not_false, decide_eq_true_eq, decide_eq_false_iff_not, eq_self, Bool.false_and, Bool.and_false, Bool.not_eq_true', ite_self]
          · simp only [g1, ↓wDn, wUp0, wUp1, wUp2, Option.map_none, Int.reduceLE, Int.reduceLT, Int.reduceEq, Int.reduceNeg, Int.reduceToNat, Nat.reduceLeDiff, aresults, aresult, tupled, Bool.and_self, Bool.true_and, Bool.and_true, true_and, and_true, Option.bind_some, Option.bind_none, Option.getD_some, Option.getD_none, Option.map_some, List.getElem?_toArray, List.getElem?_cons_zero, List.getElem?_cons_succ, List.getElem?_nil, List.map_cons, List.map_nil, List.all_cons, List.all_nil, Nat.reduceLT, Nat.reduceEqDiff, Nat.reduceSub, Nat.reduceAdd, ↓reduceIte, if_true, if_false, Bool.false_eq_true, reduceCtorEq, Nat.le_refl, decide_true, decide_false, Bool.not_true, Bool.not_false, decide_eq_true_eq, decide_eq_false_iff_not, eq_self, Bool.false_and, Bool.and_false, Bool.not_eq_true', ite_self]
          · simp only [g12, ↓wDn, wUp0, wUp1, wUp2, Option.map_none, Int.reduceLE, Int.reduceLT, Int.reduceEq, Int.reduceNeg, Int.reduceToNat, Nat.reduceLeDiff, aresults, aresult, tupled, Bool.and_self, Bool.true_and, Bool.and_true, true_and, and_true, Option.bind_some, Option.bind_none, Option.getD_some, Option.getD_none, Option.map_some, List.getElem?_toArray, List.getElem?_cons_zero, List.getElem?_cons_succ, List.getElem?_nil, List.map_cons, List.map_nil, List.all_cons, List.all_nil, Nat.reduceLT, Nat.reduceEqDiff, Nat.reduceSub, Nat.reduceAdd, ↓reduceIte, if_true, if_false, Bool.false_eq_true, reduceCtorEq, Nat.le_refl, decide_true, decide_false, Bool.not_true, Bool.not_false, decide_eq_true_eq, decide_eq_false_iff_not, eq_self, Bool.false_and, Bool.and_false, Bool.not_eq_true', ite_self]
          · simp only [g13, wrap64 ((i : Int) + 1) (by omega) (by omega), ↓wDn, wUp0, wUp1, wUp2, Option.map_none, Int.reduceLE, Int.reduceLT, Int.reduceEq, Int.reduceNeg, Int.reduceToNat, Nat.reduceLeDiff, aresults, aresult, tupled, Bool.and_self, Bool.true_and, Bool.and_true, true_and, and_true, Option.bind_some, Option.bind_none, Option.getD_some, Option.getD_none, Option.map_some, List.getElem?_toArray, List.getElem?_cons_zero, List.getElem?_cons_succ, List.getElem?_nil, List.map_cons, List.map_nil, List.all_cons, List.all_nil, Nat.reduceLT, Nat.reduceEqDiff, Nat.reduceSub, Nat.reduceAdd, ↓reduceIte, if_true, if_false, Bool.false_eq_true, reduceCtorEq, Nat.le_refl, decide_true, decide_false, Bool.not_true, Bool.not_false, decide_eq_true_eq, decide_eq_false_iff_not, eq_self, Bool.false_and, Bool.and_false, Bool.not_eq_true', ite_self]
            rfl
        · have hez : ¬ str ps[i] = str qs[i] := fun h => he (str_inj.1 h)
          have hne : ¬ ps.take qs.length = qs := by
            intro h
            apply he
            have := congrArg (fun l => l[i]?) h
            simp only [List.getElem?_take, hlt, if_true] at this
            rw [List.getElem?_eq_getElem (by omega), List.getElem?_eq_getElem hlt] at this
            exact Option.some.inj this
          simp only [g0, g1, g12, g13, hltz, ia23 _ b1 qs.length cap1 i hlt, ia23 _ b2 qs.length cap2 i hlt, ld9 S ps b1 i _ h1 (by omega), ld9 S qs b2 i _ h2 hlt, hez, hne, ↓wDn, wUp0, wUp1, wUp2, Option.map_none, Int.reduceLE, Int.reduceLT, Int.reduceEq, Int.reduceNeg, Int.reduceToNat, Nat.reduceLeDiff, aresults, aresult, tupled, Bool.and_self, Bool.true_and, Bool.and_true, true_and, and_true, Option.bind_some, Option.bind_none, Option.getD_some, Option.getD_none, Option.map_some, List.getElem?_toArray, List.getElem?_cons_zero, List.getElem?_cons_succ, List.getElem?_nil, List.map_cons, List.map_nil, List.all_cons, List.all_nil, Nat.reduceLT, Nat.reduceEqDiff, Nat.reduceSub, Nat.reduceAdd, ↓reduceIte, if_true, if_false, Bool.false_eq_true, reduceCtorEq, Nat.le_refl, decide_true, decide_false, Bool.not_true, Bool.not_false, decide_eq_true_eq, decide_eq_false_iff_not, eq_self, Bool.false_and, Bool.and_false, Bool.not_eq_true', ite_self]
      · have hltz : ¬ (i : Int) < (qs.length : Int) := by omega
        have heq : ps.take qs.length = qs := by
          apply List.ext_getElem hltk
          intro j h h'
          rw [List.getElem_take]
          exact hall j (by omega) h' (by omega)
        simp only [g0, g1, g12, g13, hltz, heq, ↓wDn, wUp0, wUp1, wUp2, Option.map_none, Int.reduceLE, Int.reduceLT, Int.reduceEq, Int.reduceNeg, Int.reduceToNat, Nat.reduceLeDiff, aresults, aresult, tupled, Bool.and_self, Bool.true_and, Bool.and_true, true_and, and_true, Option.bind_some, Option.bind_none, Option.getD_some, Option.getD_none, Option.map_some, List.getElem?_toArray, List.getElem?_cons_zero, List.getElem?_cons_succ, List.getElem?_nil, List.map_cons, List.map_nil, List.all_cons, List.all_nil, Nat.reduceLT, Nat.reduceEqDiff, Nat.reduceSub, Nat.reduceAdd, ↓reduceIte, if_true, if_false, Bool.false_eq_true, reduceCtorEq, Nat.le_refl, decide_true, decide_false, Bool.not_true, Bool.not_false, decide_eq_true_eq, decide_eq_false_iff_not, eq_self, Bool.false_and, Bool.and_false, Bool.not_eq_true', ite_self]
  · have hlz : ¬ (n : Int) = (qs.length : Int) := by omega
    have hne : ¬ ps.take n = qs := by
      intro h
      have := congrArg List.length h
      rw [List.length_take] at this
      omega
    simp only [Tryz.f24, len_slc und23, hlz, hne, ↓wDn, wUp0, wUp1, wUp2, Option.map_none, Int.reduceLE, Int.reduceLT, Int.reduceEq, Int.reduceNeg, Int.reduceToNat, Nat.reduceLeDiff, aresults, aresult, tupled, Bool.and_self, Bool.true_and, Bool.and_true, true_and, and_true, Option.bind_some, Option.bind_none, Option.getD_some, Option.getD_none, Option.map_some, List.getElem?_toArray, List.getElem?_cons_zero, List.getElem?_cons_succ, List.getElem?_nil, List.map_cons, List.map_nil, List.all_cons, List.all_nil, Nat.reduceLT, Nat.reduceEqDiff, Nat.reduceSub, Nat.reduceAdd, ↓reduceIte, if_true, if_false, Bool.false_eq_true, reduceCtorEq, Nat.le_refl, decide_true, decide_false, Bool.not_true, Bool.not_false, decide_eq_true_eq, decide_eq_false_iff_not, eq_self, Bool.false_and, Bool.and_false, Bool.not_eq_true', ite_self]
end Go.Abs

namespace Go.Abs
open Go Go.Proofs Go.RowKit
set_option linter.unusedSimpArgs false
set_option maxRecDepth 100000
def underB (ps qs : List (List UInt8)) : Bool := decide (qs.length ≤ ps.length) && decide (0 < qs.length) && decide (ps.take qs.length = qs)
theorem under_ok (rs qs : List Nat) (hr : ∀ r ∈ rs, r < 2048) (hq : ∀ r ∈ qs, r < 2048) (hl : (bs rs).length < 2^30) (hn : rs.length < 2^30) (hl' : (bs qs).length < 2^30) (hn' : qs.length < 2^30)
    (hz : (bs (rs.map smallN)).length < 2^30) (hz' : (bs (qs.map smallN)).length < 2^30) (hc1 : checkR (rs.map smallN) = 0) (hc2 : checkR (qs.map smallN) = 0) (S : St) (hS : WF E0 S) (K : Value → St → Prop) (τ) :
    RL E0 10 [.string (str (bs rs)), .string (str (bs qs))] S K τ ↔ K (.bool (underB (splitB (bs (rs.map smallN))) (splitB (bs (qs.map smallN))))) S := by
  refine w_det ?_ K τ
  rw [w_body (memo0 _ _ (by decide)) (okf0 _) Tryz.func10 (c := _) rfl (by show 2 ≤ 31; decide)]
  have hr2 : ∀ r ∈ rs.map smallN, r < 2048 := by intro r h; obtain ⟨x, hx, rfl⟩ := List.mem_map.1 h; exact smallN_lt x (hr x hx)
  have hq2 : ∀ r ∈ qs.map smallN, r < 2048 := by intro r h; obtain ⟨x, hx, rfl⟩ := List.mem_map.1 h; exact smallN_lt x (hq x hx)
  obtain ⟨ps, hps⟩ : ∃ ps, splitB (bs (rs.map smallN)) = ps := ⟨_, rfl⟩
  obtain ⟨qs', hqs⟩ : ∃ qs', splitB (bs (qs.map smallN)) = qs' := ⟨_, rfl⟩
  have hpl : ps.length < 2^31 := by rw [← hps, split_len]; have := count_le (bs (rs.map smallN)); omega
  have hql : qs'.length < 2^31 := by rw [← hqs, split_len]; have := count_le (bs (qs.map smallN)); omega
  simp only [Tryz.f10, hasBody6, hasBody5, hasBody24, fold_ok rs hr (by omega) (by omega), hS, ↓wDn, wUp0, wUp1, wUp2, Option.map_none, Int.reduceLE, Int.reduceLT, Int.reduceEq, Int.reduceNeg, Int.reduceToNat, Nat.reduceLeDiff, aresults, aresult, tupled, Bool.and_self, Bool.true_and, Bool.and_true, true_and, and_true, Option.bind_some, Option.bind_none, Option.getD_some, Option.getD_none, Option.map_some, List.getElem?_toArray, List.getElem?_cons_zero, List.getElem?_cons_succ, List.getElem?_nil, List.map_cons, List.map_nil, List.all_cons, List.all_nil, Nat.reduceLT, Nat.reduceEqDiff, Nat.reduceSub, Nat.reduceAdd, ↓reduceIte, if_true, if_false, Bool.false_eq_true, reduceCtorEq, Nat.le_refl, decide_true, decide_false, Bool.not_true, Bool.not_false, decide_eq_true_eq, decide_eq_false_iff_not, eq_self, Bool.false_and, Bool.and_false, Bool.not_eq_true', ite_self]
  refine parts_ok _ hr2 hz (by simpa using hn) hc1 ⟨S.n, S.h, S.n⟩ hS _ _ ?_
  rw [hps]
  intro S' h1 h2 h3 h4 h5
  simp only at h2 h3 h4 h5
  simp only [hasBody6, hasBody5, hasBody24, fold_ok qs hq (by omega) (by omega), h1, ↓wDn, wUp0, wUp1, wUp2, Option.map_none, Int.reduceLE, Int.reduceLT, Int.reduceEq, Int.reduceNeg, Int.reduceToNat, Nat.reduceLeDiff, aresults, aresult, tupled, Bool.and_self, Bool.true_and, Bool.and_true, true_and, and_true, Option.bind_some, Option.bind_none, Option.getD_some, Option.getD_none, Option.map_some, List.getElem?_toArray, List.getElem?_cons_zero, List.getElem?_cons_succ, List.getElem?_nil, List.map_cons, List.map_nil, List.all_cons, List.all_nil, Nat.reduceLT, Nat.reduceEqDiff, Nat.reduceSub, Nat.reduceAdd, ↓reduceIte, if_true, if_false, Bool.false_eq_true, reduceCtorEq, Nat.le_refl, decide_true, decide_false, Bool.not_true, Bool.not_false, decide_eq_true_eq, decide_eq_false_iff_not, eq_self, Bool.false_and, Bool.and_false, Bool.not_eq_true', ite_self]
  refine parts_ok _ hq2 hz' (by simpa using hn') hc2 S' h1 _ _ ?_
  rw [hqs]
  intro S2 k1 k2 k3 k4 k5
  have g1 : St.cells E0 S2 S.n = some (scells ps) := cells_own (by rw [k4 S.n (by omega)]; exact h5)
  have g2 : St.cells E0 S2 S'.n = some (scells qs') := cells_own k5
  have hlow : S.n ≤ S2.low := by rw [k3, h3, nmin_self, le_nmin]; omega
  by_cases c1 : qs'.length ≤ ps.length
  · have c1z : (qs'.length : Int) ≤ (ps.length : Int) := by omega
    by_cases c2 : 0 < qs'.length
    · have c2z : (0 : Int) < (qs'.length : Int) := by omega
      have hop1 : (2:Nat)^31 ≤ OPEN := by decide
      have : underB ps qs' = decide (ps.take qs'.length = qs') := by simp [underB, c1, c2]
      simp only [len_slc und23, c1z, c2z, slice_hi und23 sz9 S.n ps.length ps.length _ qs'.length c1 (by omega), hasBody24, equal_ok ps qs' qs'.length c1 S.n S'.n _ _ S2 g1 g2 (by omega), hlow, this, ↓wDn, wUp0, wUp1, wUp2, Option.map_none, Int.reduceLE, Int.reduceLT, Int.reduceEq, Int.reduceNeg, Int.reduceToNat, Nat.reduceLeDiff, aresults, aresult, tupled, Bool.and_self, Bool.true_and, Bool.and_true, true_and, and_true, Option.bind_some, Option.bind_none, Option.getD_some, Option.getD_none, Option.map_some, List.getElem?_toArray, List.getElem?_cons_zero, List.getElem?_cons_succ, List.getElem?_nil, List.map_cons, List.map_nil, List.all_cons, List.all_nil, Nat.reduceLT, Nat.reduceEqDiff, Nat.reduceSub, Nat.reduceAdd, ↓reduceIte, if_true, if_false, Bool.false_eq_true, reduceCtorEq, Nat.le_refl, decide_true, decide_false, Bool.not_true, Bool.not_false, decide_eq_true_eq, decide_eq_false_iff_not, eq_self, Bool.false_and, Bool.and_false, Bool.not_eq_true', ite_self]
    · have c2z : ¬ (0 : Int) < (qs'.length : Int) := by omega
      have : underB ps qs' = false := by simp [underB, c2]
      simp only [len_slc und23, c1z, c2z, hlow, this, ↓wDn, wUp0, wUp1, wUp2, Option.map_none, Int.reduceLE, Int.reduceLT, Int.reduceEq, Int.reduceNeg, Int.reduceToNat, Nat.reduceLeDiff, aresults, aresult, tupled, Bool.and_self, Bool.true_and, Bool.and_true, true_and, and_true, Option.bind_some, Option.bind_none, Option.getD_some, Option.getD_none, Option.map_some, List.getElem?_toArray, List.getElem?_cons_zero, List.getElem?_cons_succ, List.getElem?_nil, List.map_cons, List.map_nil, List.all_cons, List.all_nil, Nat.reduceLT, Nat.reduceEqDiff, Nat.reduceSub, Nat.reduceAdd, ↓reduceIte, if_true, if_false, Bool.false_eq_true, reduceCtorEq, Nat.le_refl, decide_true, decide_false, Bool.not_true, Bool.not_false, decide_eq_true_eq, decide_eq_false_iff_not, eq_self, Bool.false_and, Bool.and_false, Bool.not_eq_true', ite_self]
  · have c1z : ¬ (qs'.length : Int) ≤ (ps.length : Int) := by omega
    have : underB ps qs' = false := by simp [underB, c1]
    simp only [len_slc und23, c1z, hlow, this, ↓wDn, wUp0, wUp1, wUp2, Option.map_none, Int.reduceLE, Int.reduceLT, Int.reduceEq, Int.reduceNeg, Int.reduceToNat, Nat.reduceLeDiff, aresults, aresult, tupled, Bool.and_self, Bool.true_and, Bool.and_true, true_and, and_true, Option.bind_some, Option.bind_none, Option.getD_some, Option.getD_none, Option.map_some, List.getElem?_toArray, List.getElem?_cons_zero, List.getElem?_cons_succ, List.getElem?_nil, List.map_cons, List.map_nil, List.all_cons, List.all_nil, Nat.reduceLT, Nat.reduceEqDiff, Nat.reduceSub, Nat.reduceAdd, ↓reduceIte, if_true, if_false, Bool.false_eq_true, reduceCtorEq, Nat.le_refl, decide_true, decide_false, Bool.not_true, Bool.not_false, decide_eq_true_eq, decide_eq_false_iff_not, eq_self, Bool.false_and, Bool.and_false, Bool.not_eq_true', ite_self]
end Go.Abs

namespace Go.Abs
open Go Go.Proofs Go.RowKit
set_option linter.unusedSimpArgs false
set_option maxRecDepth 100000
def bigF : Nat → Nat
  | 0 => 97 | 1 => 66 | 2 => 0xC9 | 3 => 0x3C3 | 4 => 0x3A3 | 5 => 0x416 | 6 => 95 | 7 => 122 | 8 => 49 | _ => 45
def smaF : Nat → Nat
  | 0 => 97 | 1 => 98 | 2 => 0xE9 | 3 => 0x3C3 | 4 => 0x3C3 | 5 => 0x436 | 6 => 95 | 7 => 122 | 8 => 49 | _ => 45
def tab (f : Nat → Nat) : List Value := (List.range 10).map fun k => .string (str (encR (f k)))
theorem bigBuild (S : St) : buildA E0 38 [(0, .string ⟨#[97]⟩), (1, .string ⟨#[66]⟩), (2, .string ⟨#[195, 137]⟩), (3, .string ⟨#[207, 131]⟩), (4, .string ⟨#[206, 163]⟩), (5, .string ⟨#[208, 150]⟩), (6, .string ⟨#[95]⟩), (7, .string ⟨#[122]⟩), (8, .string ⟨#[49]⟩), (9, .string ⟨#[45]⟩)] S = some (.value (.agg ⟨tab bigF⟩), S) := keepEq (by kernel_rfl)
theorem smaBuild (S : St) : buildA E0 38 [(0, .string ⟨#[97]⟩), (1, .string ⟨#[98]⟩), (2, .string ⟨#[195, 169]⟩), (3, .string ⟨#[207, 131]⟩), (4, .string ⟨#[207, 131]⟩), (5, .string ⟨#[208, 182]⟩), (6, .string ⟨#[95]⟩), (7, .string ⟨#[122]⟩), (8, .string ⟨#[49]⟩), (9, .string ⟨#[45]⟩)] S = some (.value (.agg ⟨tab smaF⟩), S) := keepEq (by kernel_rfl)
theorem alloc38 (S : St) : allocA E0 38 S = some (.value (.pointer (some ⟨S.n, 0, none⟩)), S.push (.own (List.replicate 10 (.string ⟨#[]⟩)) 38)) := keepEq (by kernel_rfl)
theorem sz38 : szOf E0 38 = some 10 := keepEq (by kernel_rfl)
theorem und38 : E0.P.underlying 38 = some (.array 10 9) := keepEq (by kernel_rfl)
theorem build23 (s : ByteArray) (S : St) : bsA E0 23 1 [(0, .string s)] S = some (.value (.slice (some ⟨S.n, 0, none⟩) 1 1), S.push (.own [.string s] 9)) := keepEq (by kernel_rfl)
theorem st38 (f : Nat → Nat) (S : St) (h : WF E0 S) : astore E0 (S.push (.own (List.replicate 10 (.string ⟨#[]⟩)) 38)) 38 (.pointer (some ⟨S.n, 0, none⟩)) (.agg ⟨tab f⟩) = some ((S.push (.own (List.replicate 10 (.string ⟨#[]⟩)) 38)).set S.n (.own (tab f) 38)) := by
  rw [store_own (get_pushN S _ h) sz38 (by rfl) (by rfl) (by decide)]
  rfl
end Go.Abs

namespace Go.Abs
open Go Go.Proofs Go.RowKit
set_option linter.unusedSimpArgs false
set_option maxRecDepth 100000
/-- Finished parts, and the one under way; letters by number. -/
structure Nm where
  ps : List (List Nat)
  cur : List Nat
def Nm.step (x : Nm) (i : Nat) (b : Nat) : Nm :=
  if x.cur = [] then ⟨x.ps, [b % 8]⟩
  else if 229 < b ∧ x.ps.length + 1 < 5 ∧ i < 19 then ⟨x.ps ++ [x.cur], []⟩
  else ⟨x.ps, x.cur ++ [b % 10]⟩
def Nm.go (l : List UInt8) : Nat → Nm → Nat → Nm
  | 0, x, _ => x
  | f + 1, x, i => if i < 20 ∧ (i < l.length ∨ x.cur = []) then Nm.go l f (x.step i (l.getD i 0).toNat) (i + 1) else x
def Nm.of (l : List UInt8) : Nm := Nm.go l 20 ⟨[], []⟩ 0
def Nm.runes (f : Nat → Nat) (x : Nm) : List Nat := (x.ps.flatMap fun p => p.map f ++ [46]) ++ x.cur.map f
def Nm.parts (x : Nm) : List (List UInt8) := (x.ps ++ [x.cur]).map fun p => bs (p.map smaF)
end Go.Abs

namespace Go.Abs
open Go Go.Proofs Go.RowKit
set_option linter.unusedSimpArgs false
set_option maxRecDepth 100000
/-- A slice of texts that grows: alone in its block, or behind an append. -/
def Row (S : St) (pb cap : Nat) (cs : List (List UInt8)) : Prop :=
  pb < S.n ∧ 0 < cs.length ∧ ((cs.length = 1 ∧ cap = 1 ∧ St.get E0 S pb = some (.own (scells cs) 9)) ∨ (cap = OPEN ∧ ∃ sh, sh < cs.length ∧ St.get E0 S pb = some (.opn (scells cs) 9 (some sh))))
theorem Row.cells {S : St} {pb cap : Nat} {cs} (h : Row S pb cap cs) : St.cells E0 S pb = some (scells cs) := by
  obtain ⟨_, _, ⟨_, _, h⟩ | ⟨_, sh, _, h⟩⟩ := h
  · exact cells_own h
  · exact cells_opn h
theorem scells_len (cs : List (List UInt8)) : (scells cs).length = cs.length := by simp [scells]
theorem splice_last (cs : List (List UInt8)) (t : List UInt8) (h : 0 < cs.length) : splice (scells cs) (cs.length - 1) [.string (str t)] = scells (cs.dropLast ++ [t]) := by
  obtain ⟨a, z, rfl⟩ : ∃ a z, cs = a ++ [z] := ⟨cs.dropLast, cs.getLast (List.ne_nil_of_length_pos h), (List.dropLast_concat_getLast _).symm⟩
  have e : (a ++ [z]).length - 1 = (scells a).length := by rw [scells_len]; simp
  have e2 : scells (a ++ [z]) = scells a ++ Value.string (str z) :: [] := by simp [scells]
  rw [e, e2, splice_at]
  simp [scells]
theorem Row.store {S : St} {pb cap : Nat} {cs} (h : Row S pb cap cs) (hS : WF E0 S) (hp : E0.base ≤ pb) (t : List UInt8) :
    ∃ S', astore E0 S 9 (.pointer (some ⟨pb, cs.length - 1, none⟩)) (.string (str t)) = some S' ∧ WF E0 S' ∧ S'.n = S.n ∧ S'.low = Nat.min S.low pb ∧ (∀ b, b ≠ pb → St.get E0 S' b = St.get E0 S b) ∧ Row S' pb cap (cs.dropLast ++ [t]) := by
  have hl : (cs.dropLast ++ [t]).length = cs.length := by have := h.2.1; simp; omega
  obtain ⟨h1, h2, ⟨h3, h4, hg⟩ | ⟨h4, sh, h3, hg⟩⟩ := h
  · refine ⟨S.set pb (.own (scells (cs.dropLast ++ [t])) 9), ?_, ?_, rfl, rfl, ?_, h1, by omega, .inl ⟨by omega, h4, ?_⟩⟩
    · rw [store_own hg sz9 rfl rfl (by rw [scells_len]; omega), ← splice_last cs t h2]
      rfl
    · rw [wf_set]; exact hS
    · intro b hb
      rw [get_setS _ _ _ _ hS hp h1, if_neg hb]
    · rw [get_setS _ _ _ _ hS hp h1, if_pos rfl]
  · refine ⟨S.set pb (.opn (scells (cs.dropLast ++ [t])) 9 (some sh)), ?_, ?_, rfl, rfl, ?_, h1, by omega, .inr ⟨h4, sh, by omega, ?_⟩⟩
    · rw [store_opn hg sz9 rfl rfl (by rw [scells_len]; omega) (by omega), ← splice_last cs t h2]
      rfl
    · rw [wf_set]; exact hS
    · intro b hb
      rw [get_setS _ _ _ _ hS hp h1, if_neg hb]
    · rw [get_setS _ _ _ _ hS hp h1, if_pos rfl]
theorem info9 : infoOk E0 9 1 16 = true := keepEq (by kernel_rfl)
theorem scells_one (cs : List (List UInt8)) : (scells cs).all (·.oneCell') = true := by
  unfold scells
  rw [List.all_map]
  exact List.all_eq_true.2 fun _ _ => rfl
theorem Row.append {S : St} {pb cap : Nat} {cs} (h : Row S pb cap cs) (hS : WF E0 S) (hp : E0.base ≤ pb) (hlen : cs.length < 2^20) (lo : Nat) (hlo : lo ≤ S.low) (hlp : lo ≤ pb) :
    ∃ S', appA E0 [23, 23] [.slice (some ⟨pb, 0, none⟩) cs.length cap, .slice (some ⟨S.n, 0, none⟩) 1 1] (S.push (.own [.string ⟨#[]⟩] 9)) = some (.value (.slice (some ⟨S.n + 1, 0, none⟩) (cs.length + 1) OPEN), S') ∧
      WF E0 S' ∧ S'.n = S.n + 2 ∧ lo ≤ S'.low ∧ (∀ b, b < S.n → b ≠ pb → St.get E0 S' b = St.get E0 S b) ∧ Row S' (S.n + 1) OPEN (cs ++ [[]]) := by
  obtain ⟨S3, hS3⟩ : ∃ S3, S.push (.own [.string ⟨#[]⟩] 9) = S3 := ⟨_, rfl⟩
  have hW3 : WF E0 S3 := by rw [← hS3, wf_push]; exact hS
  have hn3 : S3.n = S.n + 1 := by rw [← hS3]; rfl
  have hl3 : S3.low = S.low := by rw [← hS3]; rfl
  have hget3 : ∀ b, St.get E0 S3 b = if b = S.n then some (.own [.string ⟨#[]⟩] 9) else St.get E0 S b := fun b => by rw [← hS3, get_push _ _ _ hS]
  have hnew : acellsOf E0 S3 1 1 (.slice (some ⟨S.n, 0, none⟩) 1 1) = some [.string ⟨#[]⟩] := by
    rw [cells_slice (cells_own (by rw [hget3, if_pos rfl])) (by decide) (by decide) (by simp) (by decide)]
    rfl
  rw [hS3, ← hn3]
  have hce : scells (cs ++ [[]]) = scells cs ++ [.string ⟨#[]⟩] := by simp [scells]; rfl
  obtain ⟨h1, h2, ⟨h3, h4, hg⟩ | ⟨h4, sh, h3, hg⟩⟩ := h
  · subst h4
    have hg3 : St.get E0 S3 pb = some (.own (scells cs) 9) := by rw [hget3, if_neg (by omega)]; exact hg
    have hold : acellsOf E0 S3 1 cs.length (.slice (some ⟨pb, 0, none⟩) cs.length 1) = some (scells cs) := by
      rw [cells_slice (cells_own hg3) h2 (Nat.le_refl _) (by rw [scells_len]; omega) (by decide)]
      rw [List.drop_zero, List.take_of_length_le (by rw [scells_len]; omega)]
    have := app_copy (E := E0) (sT := 23) (xT := 23) (S := S3) und23 und23 rfl info9 (n := 1) (x := .slice (some ⟨S.n, 0, none⟩) 1 1) rfl hnew rfl (by decide) (by decide) (by omega) (by omega) (by decide) (by omega) hold
    refine ⟨_, this, ?_, by rw [n_push]; omega, by rw [low_push, hl3]; exact hlo, ?_, by rw [n_push]; omega, by simp, .inr ⟨rfl, 0, by simp, ?_⟩⟩
    · rw [wf_push]; exact hW3
    · intro b hb hne
      rw [get_push _ _ _ hW3, if_neg (by omega), hget3, if_neg (by omega)]
    · rw [get_push _ _ _ hW3, if_pos rfl, hce]
  · subst h4
    have hg3 : St.get E0 S3 pb = some (.opn (scells cs) 9 (some sh)) := by rw [hget3, if_neg (by omega)]; exact hg
    have := app_tip (E := E0) (sT := 23) (xT := 23) (k := 1) (by_ := 16) (b := pb) (len := cs.length) (sh := sh) (c := scells cs) (S := S3) und23 und23 rfl info9 (n := 1) (x := .slice (some ⟨S.n, 0, none⟩) 1 1) rfl hnew rfl (by decide) (by decide) (by omega) (by omega) hg3 (by rw [scells_len]; omega)
    have hW4 : WF E0 (S3.set pb (.opn (scells cs) 9 none)) := by rw [wf_set]; exact hW3
    refine ⟨_, this, ?_, by rw [n_push, n_set]; omega, by rw [low_push, low_set, hl3, le_nmin]; exact ⟨hlo, hlp⟩, ?_, by rw [n_push, n_set]; omega, by simp, .inr ⟨rfl, (scells cs).length, by rw [scells_len]; simp, ?_⟩⟩
    · rw [wf_push]; exact hW4
    · intro b hb hne
      rw [get_push _ _ _ hW4, if_neg (by rw [n_set]; omega), get_setS _ _ _ _ hW3 hp (by omega), if_neg hne, hget3, if_neg (by omega)]
    · rw [get_push _ _ _ hW4, if_pos (by rw [n_set]), hce]
end Go.Abs

namespace Go.Abs
open Go Go.Proofs Go.RowKit
set_option linter.unusedSimpArgs false
set_option maxRecDepth 100000
theorem ty22 : E0.P.underlying 22 = some (.slice 5) := keepEq (by kernel_rfl)
theorem rem10 (t x y) (n : Nat) (S) : binA E0 .rem t x y (.int .i64 n) (.int .i64 10) S = some (.value (.int .i64 (n % 10 : Nat)), S) := by
  rw [bin_rem _ _ _ _ _ _ _ (by decide)]
  rfl
theorem rem8 (t x y) (n : Nat) (S) : binA E0 .rem t x y (.int .i64 n) (.int .i64 8) S = some (.value (.int .i64 (n % 8 : Nat)), S) := by
  rw [bin_rem _ _ _ _ _ _ _ (by decide)]
  rfl
theorem ia22 (k : IntKind) (b len cap : Nat) (i : Nat) (h : i < len) : aindexAddr E0 22 (.slice (some ⟨b, 0, none⟩) len cap) (.int k i) = some (.pointer (some ⟨b, i, none⟩)) := by
  rw [idxAddr_slc ty22 sz5 k i (by omega) (by omega)]
  simp
theorem ld5 (S : St) (l : List UInt8) (b i : Nat) (hc : St.cells E0 S b = some (l.map fun x => .int .u8 x.toNat)) (h : i < l.length) : aload E0 S 5 (.pointer (some ⟨b, i, none⟩)) = some (.int .u8 (l.getD i 0).toNat) := by
  rw [load_cell hc ty5 rfl sz5]
  simp [h]
theorem cat (t x y) (a b : List UInt8) (h : a.length + b.length < 2^62) (S) : binA E0 .add t x y (.string (str a)) (.string (str b)) S = some (.value (.string (str (a ++ b))), S) := by
  rw [bin_s_add _ _ _ _ _ _ (by rw [str_size, str_size]; show ((a.length + b.length : Nat) : Int) ≤ 9223372036854775807; omega), str_append]
theorem ia38 (k : IntKind) (p i : Nat) (h : i < 10) : aindexAddr E0 38 (.pointer (some ⟨p, 0, none⟩)) (.int k i) = some (.pointer (some ⟨p, i, none⟩)) := by
  rw [idxAddr_arr und38 sz9 k i (by omega) (by omega)]
  simp
theorem ld38 (f : Nat → Nat) (S : St) (p i : Nat) (hg : St.get E0 S p = some (.own (tab f) 38)) (h : i < 10) (lw : Nat) : aload E0 ⟨S.n, S.h, lw⟩ 9 (.pointer (some ⟨p, i, none⟩)) = some (.string (str (encR (f i)))) := by
  rw [load_cell (S := ⟨S.n, S.h, lw⟩) (cells_own hg) ty9 rfl sz9]
  simp [tab, h]
theorem bs_len (rs : List Nat) : (bs rs).length ≤ 2 * rs.length := by
  induction rs with
  | nil => simp [bs]
  | cons r rs ih =>
    rw [bs_cons, List.length_append, List.length_cons, encR_len]
    split <;> omega
theorem acls_neq (p : Bool) (S S1 : St) (h : S.n ≤ S1.low) : acls p S S1 ≠ 2 := by
  have := acls_ne2 p S S1 h
  simpa using this
theorem rem10z (t x y) (S) : binA E0 .rem t x y (.int .i64 0) (.int .i64 10) S = some (.value (.int .i64 0), S) := rem10 t x y 0 S
theorem rem8z (t x y) (S) : binA E0 .rem t x y (.int .i64 0) (.int .i64 8) S = some (.value (.int .i64 0), S) := rem8 t x y 0 S
theorem ia38z (k : IntKind) (p : Nat) : aindexAddr E0 38 (.pointer (some ⟨p, 0, none⟩)) (.int k 0) = some (.pointer (some ⟨p, 0 % 8, none⟩)) := ia38 k p 0 (by decide)
theorem retV_npL (vs : List Value) (S K S1) (hp : pf (tupled vs) = false) : retV vs S K S1 ↔ K (tupled vs) ⟨S1.n, S1.h, Nat.min S.low S1.low⟩ := by
  unfold retV
  rw [if_neg (by simp [hp])]
/-- What `named` gives. -/
def GivesNm (S : St) (x : Nm) (K : Value → St → Prop) : Prop :=
  ∀ S' pb cap, WF E0 S' → S.n ≤ S'.n → Nat.min S.low S.n ≤ S'.low → (∀ b, b < S.n → St.get E0 S' b = St.get E0 S b) → S.n ≤ pb → Row S' pb cap x.parts →
    K (.tuple #[.string (str (bs (x.runes bigF))), .string (str (bs (x.runes smaF))), .slice (some ⟨pb, 0, none⟩) x.parts.length cap]) S'
/-- A slice of bytes, or none. -/
structure Bytes22 (S : St) (v : Value) (b : Nat) (l : List UInt8) : Prop where
  len : ∀ S', lenA E0 22 v S' = some (.value (.int .i64 l.length), S')
  idx : ∀ (k : IntKind) (i : Nat), i < l.length → aindexAddr E0 22 v (.int k i) = some (.pointer (some ⟨b, i, none⟩))
  cells : l ≠ [] → b < S.n ∧ St.cells E0 S b = some (l.map fun x => .int .u8 x.toNat)
theorem named_ok (l : List UInt8) (v : Value) (b : Nat) (S : St) (hS : WF E0 S) (hv : Bytes22 S v b l) (K : Value → St → Prop) (τ) (hK : GivesNm S (Nm.of l) K) :
    RL E0 4 [v] S K τ := by
  refine (w_body (memo0 _ _ (by decide)) (okf0 _) Tryz.func4 (c := _) rfl (by show 1 ≤ 97; decide) S K).2 ?_
  obtain ⟨S1, hS1⟩ : ∃ S1, ((⟨S.n, S.h, S.n⟩ : St).push (.own (List.replicate 10 (.string ⟨#[]⟩)) 38)).set S.n (.own (tab bigF) 38) = S1 := ⟨_, rfl⟩
  have h1 : WF E0 S1 := by rw [← hS1, wf_set, wf_push]; exact hS
  have n1 : S1.n = S.n + 1 := by rw [← hS1]; rfl
  have s1 := st38 bigF ⟨S.n, S.h, S.n⟩ hS
  simp only at s1
  rw [hS1] at s1
  obtain ⟨S2, hS2⟩ : ∃ S2, (S1.push (.own (List.replicate 10 (.string ⟨#[]⟩)) 38)).set S1.n (.own (tab smaF) 38) = S2 := ⟨_, rfl⟩
  have s2 := st38 smaF S1 h1
  rw [hS2, n1] at s2
  have n2 : S2.n = S.n + 2 := by rw [← hS2]; show S1.n + 1 = _; omega
  simp only [Tryz.f4, bigBuild, smaBuild, alloc38, s1, n1, s2, n2, build23, ↓wDn, wUp0, wUp1, wUp2, Option.map_none, Int.reduceLE, Int.reduceLT, Int.reduceEq, Int.reduceNeg, Int.reduceToNat, Nat.reduceLeDiff, aresults, aresult, tupled, Bool.and_self, Bool.true_and, Bool.and_true, true_and, and_true, Option.bind_some, Option.bind_none, Option.getD_some, Option.getD_none, Option.map_some, List.getElem?_toArray, List.getElem?_cons_zero, List.getElem?_cons_succ, List.getElem?_nil, List.map_cons, List.map_nil, List.all_cons, List.all_nil, Nat.reduceLT, Nat.reduceEqDiff, Nat.reduceSub, Nat.reduceAdd, ↓reduceIte, if_true, if_false, Bool.false_eq_true, reduceCtorEq, Nat.le_refl, decide_true, decide_false, Bool.not_true, Bool.not_false, decide_eq_true_eq, decide_eq_false_iff_not, eq_self, Bool.false_and, Bool.and_false, Bool.not_eq_true', ite_self]
  obtain ⟨S3, hS3⟩ : ∃ S3, S2.push (.own [.string ⟨#[]⟩] 9) = S3 := ⟨_, rfl⟩
  rw [hS3]
  refine w_loopF (fun (y : Nat × Nm) g S' => WF E0 S' ∧ S.n + 3 ≤ S'.n ∧ S.n ≤ S'.low ∧ (∀ b, b < S.n → St.get E0 S' b = St.get E0 S b) ∧ St.get E0 S' S.n = some (.own (tab bigF) 38) ∧ St.get E0 S' (S.n + 1) = some (.own (tab smaF) 38) ∧
      (∃ pb cap, S.n + 2 ≤ pb ∧ Row S' pb cap y.2.parts ∧ g 9 = .slice (some ⟨pb, 0, none⟩) y.2.parts.length cap) ∧
      g 0 = v ∧ g 5 = .pointer (some ⟨S.n, 0, none⟩) ∧ g 6 = .pointer (some ⟨S.n + 1, 0, none⟩) ∧ g 7 = .string (str (bs (y.2.runes bigF))) ∧ g 8 = .string (str (bs (y.2.runes smaF))) ∧ g 10 = .int .i64 y.1 ∧
      y.1 ≤ 20 ∧ (y.2.cur = [] → y.1 < 20) ∧ Nm.go l (20 - y.1) y.2 y.1 = Nm.of l ∧ y.2.ps.length ≤ 4 ∧ (y.2.runes bigF).length = y.1 ∧ (y.2.runes smaF).length = y.1) (fun y => 20 - y.1) (0, ⟨[], []⟩) ?init ?round
  case init =>
    have hF : WF E0 (⟨S.n, S.h, S.n⟩ : St) := hS
    have hb0 := wf_base hS
    have hFp : WF E0 ((⟨S.n, S.h, S.n⟩ : St).push (.own (List.replicate 10 (.string ⟨#[]⟩)) 38)) := (wf_push _ _).2 hF
    have get1 : ∀ b, St.get E0 S1 b = if b = S.n then some (.own (tab bigF) 38) else St.get E0 S b := fun b => by
      rw [← hS1, get_setS _ _ _ _ hFp hb0 (Nat.lt_succ_self _)]
      by_cases h : b = S.n
      · rw [if_pos h, if_pos h]
      · rw [if_neg h, if_neg h, get_push _ _ _ hF]
        exact if_neg h
    have hSp : WF E0 (S1.push (.own (List.replicate 10 (.string ⟨#[]⟩)) 38)) := (wf_push _ _).2 h1
    have get2 : ∀ b, St.get E0 S2 b = if b = S.n + 1 then some (.own (tab smaF) 38) else St.get E0 S1 b := fun b => by
      rw [← hS2, get_setS _ _ _ _ hSp (by omega) (Nat.lt_succ_self _), n1]
      by_cases h : b = S.n + 1
      · rw [if_pos h, if_pos h]
      · rw [if_neg h, if_neg h, get_push _ _ _ h1, n1, if_neg h]
    have h2 : WF E0 S2 := by rw [← hS2, wf_set, wf_push]; exact h1
    have get3 : ∀ b, St.get E0 S3 b = if b = S.n + 2 then some (.own [.string ⟨#[]⟩] 9) else St.get E0 S2 b := fun b => by
      rw [← hS3, get_push _ _ _ h2, n2]
    have l1 : S1.low = S.n := by rw [← hS1]; exact nmin_self _
    have l2 : S2.low = S.n := by rw [← hS2, low_set, low_push, l1, n1, nmin_add]
    have n3 : S3.n = S.n + 3 := by rw [← hS3, n_push, n2]
    refine ⟨?_, by omega, ?_, ?_, ?_, ?_, ⟨S.n + 2, 1, by omega, ⟨by omega, by simp [Nm.parts], .inl ⟨by simp [Nm.parts], rfl, ?_⟩⟩, ?_⟩, ?_, ?_, ?_, ?_, ?_, ?_, by simp, by simp, rfl, by simp, rfl, rfl⟩
    · rw [← hS3, wf_push]; exact h2
    · rw [← hS3, low_push, l2]; exact Nat.le_refl _
    · intro b hb
      rw [get3, if_neg (by omega), get2, if_neg (by omega), get1, if_neg (by omega)]
    · rw [get3, if_neg (by omega), get2, if_neg (by omega), get1, if_pos rfl]
    · rw [get3, if_neg (by omega), get2, if_pos rfl]
    · rw [get3, if_pos rfl]; rfl
    · simp only [↓wDn, wUp0, wUp1, wUp2, Option.map_none, Int.reduceLE, Int.reduceLT, Int.reduceEq, Int.reduceNeg, Int.reduceToNat, Nat.reduceLeDiff, aresults, aresult, tupled, Bool.and_self, Bool.true_and, Bool.and_true, true_and, and_true, Option.bind_some, Option.bind_none, Option.getD_some, Option.getD_none, Option.map_some, List.getElem?_toArray, List.getElem?_cons_zero, List.getElem?_cons_succ, List.getElem?_nil, List.map_cons, List.map_nil, List.all_cons, List.all_nil, Nat.reduceLT, Nat.reduceEqDiff, Nat.reduceSub, Nat.reduceAdd, ↓reduceIte, if_true, if_false, Bool.false_eq_true, reduceCtorEq, Nat.le_refl, decide_true, decide_false, Bool.not_true, Bool.not_false, decide_eq_true_eq, decide_eq_false_iff_not, eq_self, Bool.false_and, Bool.and_false, Bool.not_eq_true', ite_self]; rfl
    · simp only [↓wDn, wUp0, wUp1, wUp2, Option.map_none, Int.reduceLE, Int.reduceLT, Int.reduceEq, Int.reduceNeg, Int.reduceToNat, Nat.reduceLeDiff, aresults, aresult, tupled, Bool.and_self, Bool.true_and, Bool.and_true, true_and, and_true, Option.bind_some, Option.bind_none, Option.getD_some, Option.getD_none, Option.map_some, List.getElem?_toArray, List.getElem?_cons_zero, List.getElem?_cons_succ, List.getElem?_nil, List.map_cons, List.map_nil, List.all_cons, List.all_nil, Nat.reduceLT, Nat.reduceEqDiff, Nat.reduceSub, Nat.reduceAdd, ↓reduceIte, if_true, if_false, Bool.false_eq_true, reduceCtorEq, Nat.le_refl, decide_true, decide_false, Bool.not_true, Bool.not_false, decide_eq_true_eq, decide_eq_false_iff_not, eq_self, Bool.false_and, Bool.and_false, Bool.not_eq_true', ite_self]
    · simp only [↓wDn, wUp0, wUp1, wUp2, Option.map_none, Int.reduceLE, Int.reduceLT, Int.reduceEq, Int.reduceNeg, Int.reduceToNat, Nat.reduceLeDiff, aresults, aresult, tupled, Bool.and_self, Bool.true_and, Bool.and_true, true_and, and_true, Option.bind_some, Option.bind_none, Option.getD_some, Option.getD_none, Option.map_some, List.getElem?_toArray, List.getElem?_cons_zero, List.getElem?_cons_succ, List.getElem?_nil, List.map_cons, List.map_nil, List.all_cons, List.all_nil, Nat.reduceLT, Nat.reduceEqDiff, Nat.reduceSub, Nat.reduceAdd, ↓reduceIte, if_true, if_false, Bool.false_eq_true, reduceCtorEq, Nat.le_refl, decide_true, decide_false, Bool.not_true, Bool.not_false, decide_eq_true_eq, decide_eq_false_iff_not, eq_self, Bool.false_and, Bool.and_false, Bool.not_eq_true', ite_self]
    · simp only [↓wDn, wUp0, wUp1, wUp2, Option.map_none, Int.reduceLE, Int.reduceLT, Int.reduceEq, Int.reduceNeg, Int.reduceToNat, Nat.reduceLeDiff, aresults, aresult, tupled, Bool.and_self, Bool.true_and, Bool.and_true, true_and, and_true, Option.bind_some, Option.bind_none, Option.getD_some, Option.getD_none, Option.map_some, List.getElem?_toArray, List.getElem?_cons_zero, List.getElem?_cons_succ, List.getElem?_nil, List.map_cons, List.map_nil, List.all_cons, List.all_nil, Nat.reduceLT, Nat.reduceEqDiff, Nat.reduceSub, Nat.reduceAdd, ↓reduceIte, if_true, if_false, Bool.false_eq_true, reduceCtorEq, Nat.le_refl, decide_true, decide_false, Bool.not_true, Bool.not_false, decide_eq_true_eq, decide_eq_false_iff_not, eq_self, Bool.false_and, Bool.and_false, Bool.not_eq_true', ite_self]
    · simp only [↓wDn, wUp0, wUp1, wUp2, Option.map_none, Int.reduceLE, Int.reduceLT, Int.reduceEq, Int.reduceNeg, Int.reduceToNat, Nat.reduceLeDiff, aresults, aresult, tupled, Bool.and_self, Bool.true_and, Bool.and_true, true_and, and_true, Option.bind_some, Option.bind_none, Option.getD_some, Option.getD_none, Option.map_some, List.getElem?_toArray, List.getElem?_cons_zero, List.getElem?_cons_succ, List.getElem?_nil, List.map_cons, List.map_nil, List.all_cons, List.all_nil, Nat.reduceLT, Nat.reduceEqDiff, Nat.reduceSub, Nat.reduceAdd, ↓reduceIte, if_true, if_false, Bool.false_eq_true, reduceCtorEq, Nat.le_refl, decide_true, decide_false, Bool.not_true, Bool.not_false, decide_eq_true_eq, decide_eq_false_iff_not, eq_self, Bool.false_and, Bool.and_false, Bool.not_eq_true', ite_self]; rfl
    · simp only [↓wDn, wUp0, wUp1, wUp2, Option.map_none, Int.reduceLE, Int.reduceLT, Int.reduceEq, Int.reduceNeg, Int.reduceToNat, Nat.reduceLeDiff, aresults, aresult, tupled, Bool.and_self, Bool.true_and, Bool.and_true, true_and, and_true, Option.bind_some, Option.bind_none, Option.getD_some, Option.getD_none, Option.map_some, List.getElem?_toArray, List.getElem?_cons_zero, List.getElem?_cons_succ, List.getElem?_nil, List.map_cons, List.map_nil, List.all_cons, List.all_nil, Nat.reduceLT, Nat.reduceEqDiff, Nat.reduceSub, Nat.reduceAdd, ↓reduceIte, if_true, if_false, Bool.false_eq_true, reduceCtorEq, Nat.le_refl, decide_true, decide_false, Bool.not_true, Bool.not_false, decide_eq_true_eq, decide_eq_false_iff_not, eq_self, Bool.false_and, Bool.and_false, Bool.not_eq_true', ite_self]; rfl
    · simp only [Int.natCast_zero, ↓wDn, wUp0, wUp1, wUp2, Option.map_none, Int.reduceLE, Int.reduceLT, Int.reduceEq, Int.reduceNeg, Int.reduceToNat, Nat.reduceLeDiff, aresults, aresult, tupled, Bool.and_self, Bool.true_and, Bool.and_true, true_and, and_true, Option.bind_some, Option.bind_none, Option.getD_some, Option.getD_none, Option.map_some, List.getElem?_toArray, List.getElem?_cons_zero, List.getElem?_cons_succ, List.getElem?_nil, List.map_cons, List.map_nil, List.all_cons, List.all_nil, Nat.reduceLT, Nat.reduceEqDiff, Nat.reduceSub, Nat.reduceAdd, ↓reduceIte, if_true, if_false, Bool.false_eq_true, reduceCtorEq, Nat.le_refl, decide_true, decide_false, Bool.not_true, Bool.not_false, decide_eq_true_eq, decide_eq_false_iff_not, eq_self, Bool.false_and, Bool.and_false, Bool.not_eq_true', ite_self]
  case round =>
    rintro ⟨i, x⟩ g S' ⟨hW, hn, hlow, hold, hT1, hT2, ⟨pb, cap, hpb, hR, g9⟩, g0, g5, g6, g7, g8, g10, hi20, hcur, hgo, hps, hrl1, hrl2⟩
    simp only at hR g9 g7 g8 g10 hi20 hcur hgo hps hrl1 hrl2
    have hpl : x.parts.length = x.ps.length + 1 := by simp [Nm.parts]
    have hlast : ∀ h : x.ps.length < x.parts.length, x.parts[x.ps.length] = bs (x.cur.map smaF) := by intro h; simp [Nm.parts]
    have hld : ∀ lw, aload E0 ⟨S'.n, S'.h, lw⟩ 9 (.pointer (some ⟨pb, x.ps.length, none⟩)) = some (.string (str (bs (x.cur.map smaF)))) := fun lw => by
      rw [ld9 S' x.parts pb x.ps.length lw hR.cells (by omega), hlast (by omega)]
    have hld' : aload E0 S' 9 (.pointer (some ⟨pb, x.ps.length, none⟩)) = some (.string (str (bs (x.cur.map smaF)))) := hld S'.low
    have wl : IntKind.i64.wrap ((x.parts.length : Int) - 1) = (x.ps.length : Int) := by rw [wrap64 _ (by omega) (by omega)]; omega
    have hia := fun k => ia23 k pb x.parts.length cap x.ps.length (by omega)
    have fin : x = Nm.of l → retV [.string (str (bs (Nm.runes bigF x))), .string (str (bs (Nm.runes smaF x))), .slice (some ⟨pb, 0, none⟩) x.parts.length cap] S K S' := by
      intro hx
      rw [retV_npL _ _ _ _ rfl]
      rw [hx] at hR ⊢
      exact hK ⟨S'.n, S'.h, Nat.min S.low S'.low⟩ pb cap hW (by show S.n ≤ S'.n; omega) (by rw [le_nmin]; exact ⟨Nat.min_le_left _ _, Nat.le_trans (Nat.min_le_right _ _) hlow⟩) hold (by omega) hR
    by_cases C : i < 20 ∧ (i < l.length ∨ x.cur = [])
    · obtain ⟨c20, hor⟩ := C
      have c20z : (i : Int) < 20 := by omega
      obtain ⟨bb, hbb⟩ : ∃ bb, (l.getD i 0).toNat = bb := ⟨_, rfl⟩
      have hb256 : bb < 256 := hbb ▸ (l.getD i 0).toNat_lt
      have hcb : i < l.length → St.cells E0 S' b = some (l.map fun x => .int .u8 x.toNat) := fun cl => by
        obtain ⟨hb, hc⟩ := hv.cells (by intro h0; rw [h0] at cl; simp at cl)
        unfold St.cells at hc ⊢
        rw [hold b hb]; exact hc
      by_cases hcur0 : x.cur = []
      · by_cases cl : i < l.length
        · have clz : (i : Int) < (l.length : Int) := by omega
          have hl5 := ld5 S' l b i (hcb cl) cl
          rw [hbb] at hl5
          simp only [g0, g5, g6, g7, g8, g9, g10, c20z, clz, hv.len, len_slc und23, wl, hia, hld', strNil, hcur0, List.map_nil, hv.idx _ i cl, hl5, conv_int ty5 ty3, wrap64N bb (by omega), rem10, rem8, ↓wDn, wUp0, wUp1, wUp2, Option.map_none, Int.reduceLE, Int.reduceLT, Int.reduceEq, Int.reduceNeg, Int.reduceToNat, Nat.reduceLeDiff, aresults, aresult, tupled, Bool.and_self, Bool.true_and, Bool.and_true, true_and, and_true, Option.bind_some, Option.bind_none, Option.getD_some, Option.getD_none, Option.map_some, List.getElem?_toArray, List.getElem?_cons_zero, List.getElem?_cons_succ, List.getElem?_nil, List.map_cons, List.map_nil, List.all_cons, List.all_nil, Nat.reduceLT, Nat.reduceEqDiff, Nat.reduceSub, Nat.reduceAdd, ↓reduceIte, if_true, if_false, Bool.false_eq_true, reduceCtorEq, Nat.le_refl, decide_true, decide_false, Bool.not_true, Bool.not_false, decide_eq_true_eq, decide_eq_false_iff_not, eq_self, Bool.false_and, Bool.and_false, Bool.not_eq_true', ite_self]
          have hk : bb % 8 < 10 := by omega
          have hlenB : ∀ f, (Nm.runes f x).length = i → (bs (Nm.runes f x)).length + (encR (f (bb % 8))).length < 2^62 := by
            intro f hf
            have := bs_len (Nm.runes f x)
            rw [encR_len]
            split <;> omega
          obtain ⟨S5, st5, w5, n5, low5, get5, row5⟩ := Row.store (S := ⟨S'.n, S'.h, S'.n⟩) (pb := pb) (cap := cap) (cs := x.parts) hR hW (by have := wf_base hS; omega) (encR (smaF (bb % 8)))
          rw [show x.parts.length - 1 = x.ps.length by omega] at st5
          have hemp : (⟨#[]⟩ : ByteArray) = str [] := rfl
          have hcat0 := fun t x' y' S => cat t x' y' [] (encR (smaF (bb % 8))) (by rw [encR_len]; split <;> simp) S
          simp only [List.nil_append] at hcat0
          rw [hcur0, List.map_nil, bs_nil] at hld hld'
          simp only [g5, g6, ia38 _ S.n (bb % 8) hk, ia38 _ (S.n + 1) (bb % 8) hk, ld38 bigF S' S.n (bb % 8) hT1 hk, ld38 smaF S' (S.n + 1) (bb % 8) hT2 hk, cat _ _ _ _ _ (hlenB bigF hrl1), cat _ _ _ _ _ (hlenB smaF hrl2), g5, g6, g7, g8, g9, g10, len_slc und23, wl, hia, hld, hcat0, st5, ↓wDn, wUp0, wUp1, wUp2, Option.map_none, Int.reduceLE, Int.reduceLT, Int.reduceEq, Int.reduceNeg, Int.reduceToNat, Nat.reduceLeDiff, aresults, aresult, tupled, Bool.and_self, Bool.true_and, Bool.and_true, true_and, and_true, Option.bind_some, Option.bind_none, Option.getD_some, Option.getD_none, Option.map_some, List.getElem?_toArray, List.getElem?_cons_zero, List.getElem?_cons_succ, List.getElem?_nil, List.map_cons, List.map_nil, List.all_cons, List.all_nil, Nat.reduceLT, Nat.reduceEqDiff, Nat.reduceSub, Nat.reduceAdd, ↓reduceIte, if_true, if_false, Bool.false_eq_true, reduceCtorEq, Nat.le_refl, decide_true, decide_false, Bool.not_true, Bool.not_false, decide_eq_true_eq, decide_eq_false_iff_not, eq_self, Bool.false_and, Bool.and_false, Bool.not_eq_true', ite_self]
          refine ⟨aordered_one _ _ 11 ?_ (by kernel_rfl), ?_⟩
          · intro y hy hne
            simp only [List.zipIdx_cons, List.zipIdx_nil, List.mem_cons, List.not_mem_nil, or_false] at hy
            rcases hy with rfl | rfl | rfl | rfl | rfl | rfl | rfl | rfl | rfl | rfl | rfl | rfl
            all_goals first | exact acls_neq _ _ _ (Nat.le_refl _) | exact absurd rfl hne
          · have hstep : x.step i bb = ⟨x.ps, [bb % 8]⟩ := by unfold Nm.step; rw [if_pos hcur0]
            refine w_next (i + 1, x.step i bb) (by simp only; omega) ?_
            rw [hstep]
            have hn5 : S5.n = S'.n := n5
            have hrun : ∀ f, Nm.runes f ⟨x.ps, [bb % 8]⟩ = Nm.runes f x ++ [f (bb % 8)] := by intro f; simp [Nm.runes, hcur0]
            refine ⟨?_, by simp only [↓wDn, wUp0, wUp1, wUp2, Option.map_none, Int.reduceLE, Int.reduceLT, Int.reduceEq, Int.reduceNeg, Int.reduceToNat, Nat.reduceLeDiff, aresults, aresult, tupled, Bool.and_self, Bool.true_and, Bool.and_true, true_and, and_true, Option.bind_some, Option.bind_none, Option.getD_some, Option.getD_none, Option.map_some, List.getElem?_toArray, List.getElem?_cons_zero, List.getElem?_cons_succ, List.getElem?_nil, List.map_cons, List.map_nil, List.all_cons, List.all_nil, Nat.reduceLT, Nat.reduceEqDiff, Nat.reduceSub, Nat.reduceAdd, ↓reduceIte, if_true, if_false, Bool.false_eq_true, reduceCtorEq, Nat.le_refl, decide_true, decide_false, Bool.not_true, Bool.not_false, decide_eq_true_eq, decide_eq_false_iff_not, eq_self, Bool.false_and, Bool.and_false, Bool.not_eq_true', ite_self]; omega, ?_, ?_, ?_, ?_, ⟨pb, cap, hpb, ?_, ?_⟩, ?_, ?_, ?_, ?_, ?_, ?_, by simp only; omega, by simp, ?_, by simpa using hps, by rw [hrun]; simp [hrl1], by rw [hrun]; simp [hrl2]⟩
            · simp only [w5, ↓wDn, wUp0, wUp1, wUp2, Option.map_none, Int.reduceLE, Int.reduceLT, Int.reduceEq, Int.reduceNeg, Int.reduceToNat, Nat.reduceLeDiff, aresults, aresult, tupled, Bool.and_self, Bool.true_and, Bool.and_true, true_and, and_true, Option.bind_some, Option.bind_none, Option.getD_some, Option.getD_none, Option.map_some, List.getElem?_toArray, List.getElem?_cons_zero, List.getElem?_cons_succ, List.getElem?_nil, List.map_cons, List.map_nil, List.all_cons, List.all_nil, Nat.reduceLT, Nat.reduceEqDiff, Nat.reduceSub, Nat.reduceAdd, ↓reduceIte, if_true, if_false, Bool.false_eq_true, reduceCtorEq, Nat.le_refl, decide_true, decide_false, Bool.not_true, Bool.not_false, decide_eq_true_eq, decide_eq_false_iff_not, eq_self, Bool.false_and, Bool.and_false, Bool.not_eq_true', ite_self]
            · simp only [low5, hlow, hn, ↓wDn, wUp0, wUp1, wUp2, Option.map_none, Int.reduceLE, Int.reduceLT, Int.reduceEq, Int.reduceNeg, Int.reduceToNat, Nat.reduceLeDiff, aresults, aresult, tupled, Bool.and_self, Bool.true_and, Bool.and_true, true_and, and_true, Option.bind_some, Option.bind_none, Option.getD_some, Option.getD_none, Option.map_some, List.getElem?_toArray, List.getElem?_cons_zero, List.getElem?_cons_succ, List.getElem?_nil, List.map_cons, List.map_nil, List.all_cons, List.all_nil, Nat.reduceLT, Nat.reduceEqDiff, Nat.reduceSub, Nat.reduceAdd, ↓reduceIte, if_true, if_false, Bool.false_eq_true, reduceCtorEq, Nat.le_refl, decide_true, decide_false, Bool.not_true, Bool.not_false, decide_eq_true_eq, decide_eq_false_iff_not, eq_self, Bool.false_and, Bool.and_false, Bool.not_eq_true', ite_self]; omega
            · intro b' hb'
              rw [get_mk, get5 b' (by omega)]
              exact hold b' hb'
            · rw [get_mk, get5 _ (by omega)]
              exact hT1
            · rw [get_mk, get5 _ (by omega)]
              exact hT2
            · have hp2 : Nm.parts ⟨x.ps, [bb % 8]⟩ = x.parts.dropLast ++ [encR (smaF (bb % 8))] := by simp [Nm.parts, bs]
              rw [hp2]
              exact row5
            · have hp3 : (Nm.parts ⟨x.ps, [bb % 8]⟩).length = x.parts.length := by simp [Nm.parts]
              simp only [hp3, g9, ↓wDn, wUp0, wUp1, wUp2, Option.map_none, Int.reduceLE, Int.reduceLT, Int.reduceEq, Int.reduceNeg, Int.reduceToNat, Nat.reduceLeDiff, aresults, aresult, tupled, Bool.and_self, Bool.true_and, Bool.and_true, true_and, and_true, Option.bind_some, Option.bind_none, Option.getD_some, Option.getD_none, Option.map_some, List.getElem?_toArray, List.getElem?_cons_zero, List.getElem?_cons_succ, List.getElem?_nil, List.map_cons, List.map_nil, List.all_cons, List.all_nil, Nat.reduceLT, Nat.reduceEqDiff, Nat.reduceSub, Nat.reduceAdd, ↓reduceIte, if_true, if_false, Bool.false_eq_true, reduceCtorEq, Nat.le_refl, decide_true, decide_false, Bool.not_true, Bool.not_false, decide_eq_true_eq, decide_eq_false_iff_not, eq_self, Bool.false_and, Bool.and_false, Bool.not_eq_true', ite_self]
            · simp only [g0, ↓wDn, wUp0, wUp1, wUp2, Option.map_none, Int.reduceLE, Int.reduceLT, Int.reduceEq, Int.reduceNeg, Int.reduceToNat, Nat.reduceLeDiff, aresults, aresult, tupled, Bool.and_self, Bool.true_and, Bool.and_true, true_and, and_true, Option.bind_some, Option.bind_none, Option.getD_some, Option.getD_none, Option.map_some, List.getElem?_toArray, List.getElem?_cons_zero, List.getElem?_cons_succ, List.getElem?_nil, List.map_cons, List.map_nil, List.all_cons, List.all_nil, Nat.reduceLT, Nat.reduceEqDiff, Nat.reduceSub, Nat.reduceAdd, ↓reduceIte, if_true, if_false, Bool.false_eq_true, reduceCtorEq, Nat.le_refl, decide_true, decide_false, Bool.not_true, Bool.not_false, decide_eq_true_eq, decide_eq_false_iff_not, eq_self, Bool.false_and, Bool.and_false, Bool.not_eq_true', ite_self]
            · simp only [g5, ↓wDn, wUp0, wUp1, wUp2, Option.map_none, Int.reduceLE, Int.reduceLT, Int.reduceEq, Int.reduceNeg, Int.reduceToNat, Nat.reduceLeDiff, aresults, aresult, tupled, Bool.and_self, Bool.true_and, Bool.and_true, true_and, and_true, Option.bind_some, Option.bind_none, Option.getD_some, Option.getD_none, Option.map_some, List.getElem?_toArray, List.getElem?_cons_zero, List.getElem?_cons_succ, List.getElem?_nil, List.map_cons, List.map_nil, List.all_cons, List.all_nil, Nat.reduceLT, Nat.reduceEqDiff, Nat.reduceSub, Nat.reduceAdd, ↓reduceIte, if_true, if_false, Bool.false_eq_true, reduceCtorEq, Nat.le_refl, decide_true, decide_false, Bool.not_true, Bool.not_false, decide_eq_true_eq, decide_eq_false_iff_not, eq_self, Bool.false_and, Bool.and_false, Bool.not_eq_true', ite_self]
            · simp only [g6, ↓wDn, wUp0, wUp1, wUp2, Option.map_none, Int.reduceLE, Int.reduceLT, Int.reduceEq, Int.reduceNeg, Int.reduceToNat, Nat.reduceLeDiff, aresults, aresult, tupled, Bool.and_self, Bool.true_and, Bool.and_true, true_and, and_true, Option.bind_some, Option.bind_none, Option.getD_some, Option.getD_none, Option.map_some, List.getElem?_toArray, List.getElem?_cons_zero, List.getElem?_cons_succ, List.getElem?_nil, List.map_cons, List.map_nil, List.all_cons, List.all_nil, Nat.reduceLT, Nat.reduceEqDiff, Nat.reduceSub, Nat.reduceAdd, ↓reduceIte, if_true, if_false, Bool.false_eq_true, reduceCtorEq, Nat.le_refl, decide_true, decide_false, Bool.not_true, Bool.not_false, decide_eq_true_eq, decide_eq_false_iff_not, eq_self, Bool.false_and, Bool.and_false, Bool.not_eq_true', ite_self]
            · simp only [hrun, bs_append, bs_cons, bs_nil, List.append_nil, ↓wDn, wUp0, wUp1, wUp2, Option.map_none, Int.reduceLE, Int.reduceLT, Int.reduceEq, Int.reduceNeg, Int.reduceToNat, Nat.reduceLeDiff, aresults, aresult, tupled, Bool.and_self, Bool.true_and, Bool.and_true, true_and, and_true, Option.bind_some, Option.bind_none, Option.getD_some, Option.getD_none, Option.map_some, List.getElem?_toArray, List.getElem?_cons_zero, List.getElem?_cons_succ, List.getElem?_nil, List.map_cons, List.map_nil, List.all_cons, List.all_nil, Nat.reduceLT, Nat.reduceEqDiff, Nat.reduceSub, Nat.reduceAdd, ↓reduceIte, if_true, if_false, Bool.false_eq_true, reduceCtorEq, Nat.le_refl, decide_true, decide_false, Bool.not_true, Bool.not_false, decide_eq_true_eq, decide_eq_false_iff_not, eq_self, Bool.false_and, Bool.and_false, Bool.not_eq_true', ite_self]
            · simp only [hrun, bs_append, bs_cons, bs_nil, List.append_nil, ↓wDn, wUp0, wUp1, wUp2, Option.map_none, Int.reduceLE, Int.reduceLT, Int.reduceEq, Int.reduceNeg, Int.reduceToNat, Nat.reduceLeDiff, aresults, aresult, tupled, Bool.and_self, Bool.true_and, Bool.and_true, true_and, and_true, Option.bind_some, Option.bind_none, Option.getD_some, Option.getD_none, Option.map_some, List.getElem?_toArray, List.getElem?_cons_zero, List.getElem?_cons_succ, List.getElem?_nil, List.map_cons, List.map_nil, List.all_cons, List.all_nil, Nat.reduceLT, Nat.reduceEqDiff, Nat.reduceSub, Nat.reduceAdd, ↓reduceIte, if_true, if_false, Bool.false_eq_true, reduceCtorEq, Nat.le_refl, decide_true, decide_false, Bool.not_true, Bool.not_false, decide_eq_true_eq, decide_eq_false_iff_not, eq_self, Bool.false_and, Bool.and_false, Bool.not_eq_true', ite_self]
            · simp only [g10, wrap64 ((i : Int) + 1) (by omega) (by omega), ↓wDn, wUp0, wUp1, wUp2, Option.map_none, Int.reduceLE, Int.reduceLT, Int.reduceEq, Int.reduceNeg, Int.reduceToNat, Nat.reduceLeDiff, aresults, aresult, tupled, Bool.and_self, Bool.true_and, Bool.and_true, true_and, and_true, Option.bind_some, Option.bind_none, Option.getD_some, Option.getD_none, Option.map_some, List.getElem?_toArray, List.getElem?_cons_zero, List.getElem?_cons_succ, List.getElem?_nil, List.map_cons, List.map_nil, List.all_cons, List.all_nil, Nat.reduceLT, Nat.reduceEqDiff, Nat.reduceSub, Nat.reduceAdd, ↓reduceIte, if_true, if_false, Bool.false_eq_true, reduceCtorEq, Nat.le_refl, decide_true, decide_false, Bool.not_true, Bool.not_false, decide_eq_true_eq, decide_eq_false_iff_not, eq_self, Bool.false_and, Bool.and_false, Bool.not_eq_true', ite_self]; rfl
            · have : 20 - i = (20 - (i + 1)) + 1 := by omega
              rw [← hgo, this]
              conv => rhs; unfold Nm.go
              rw [if_pos ⟨c20, hor⟩, hbb, hstep]
        · have clz : ¬ (i : Int) < (l.length : Int) := by omega
          have hb0 : bb = 0 := by
            rw [← hbb]
            have : l[i]? = none := List.getElem?_eq_none (by omega)
            simp [List.getD, this]
          have iaz : ∀ (k : IntKind) (p : Nat), aindexAddr E0 38 (.pointer (some ⟨p, 0, none⟩)) (.int k 0) = some (.pointer (some ⟨p, bb % 8, none⟩)) := fun k p => by
            rw [hb0]; exact ia38z k p
          simp only [g0, g5, g6, g7, g8, g9, g10, c20z, clz, hv.len, len_slc und23, wl, hia, hld', strNil, hcur0, List.map_nil, rem10z, rem8z, ↓wDn, wUp0, wUp1, wUp2, Option.map_none, Int.reduceLE, Int.reduceLT, Int.reduceEq, Int.reduceNeg, Int.reduceToNat, Nat.reduceLeDiff, aresults, aresult, tupled, Bool.and_self, Bool.true_and, Bool.and_true, true_and, and_true, Option.bind_some, Option.bind_none, Option.getD_some, Option.getD_none, Option.map_some, List.getElem?_toArray, List.getElem?_cons_zero, List.getElem?_cons_succ, List.getElem?_nil, List.map_cons, List.map_nil, List.all_cons, List.all_nil, Nat.reduceLT, Nat.reduceEqDiff, Nat.reduceSub, Nat.reduceAdd, ↓reduceIte, if_true, if_false, Bool.false_eq_true, reduceCtorEq, Nat.le_refl, decide_true, decide_false, Bool.not_true, Bool.not_false, decide_eq_true_eq, decide_eq_false_iff_not, eq_self, Bool.false_and, Bool.and_false, Bool.not_eq_true', ite_self]
          have hk : bb % 8 < 10 := by omega
          have hlenB : ∀ f, (Nm.runes f x).length = i → (bs (Nm.runes f x)).length + (encR (f (bb % 8))).length < 2^62 := by
            intro f hf
            have := bs_len (Nm.runes f x)
            rw [encR_len]
            split <;> omega
          obtain ⟨S5, st5, w5, n5, low5, get5, row5⟩ := Row.store (S := ⟨S'.n, S'.h, S'.n⟩) (pb := pb) (cap := cap) (cs := x.parts) hR hW (by have := wf_base hS; omega) (encR (smaF (bb % 8)))
          rw [show x.parts.length - 1 = x.ps.length by omega] at st5
          have hemp : (⟨#[]⟩ : ByteArray) = str [] := rfl
          have hcat0 := fun t x' y' S => cat t x' y' [] (encR (smaF (bb % 8))) (by rw [encR_len]; split <;> simp) S
          simp only [List.nil_append] at hcat0
          rw [hcur0, List.map_nil, bs_nil] at hld hld'
          simp only [g5, g6, iaz _ S.n, iaz _ (S.n + 1), ia38 _ S.n (bb % 8) hk, ia38 _ (S.n + 1) (bb % 8) hk, ld38 bigF S' S.n (bb % 8) hT1 hk, ld38 smaF S' (S.n + 1) (bb % 8) hT2 hk, cat _ _ _ _ _ (hlenB bigF hrl1), cat _ _ _ _ _ (hlenB smaF hrl2), g5, g6, g7, g8, g9, g10, len_slc und23, wl, hia, hld, hcat0, st5, ↓wDn, wUp0, wUp1, wUp2, Option.map_none, Int.reduceLE, Int.reduceLT, Int.reduceEq, Int.reduceNeg, Int.reduceToNat, Nat.reduceLeDiff, aresults, aresult, tupled, Bool.and_self, Bool.true_and, Bool.and_true, true_and, and_true, Option.bind_some, Option.bind_none, Option.getD_some, Option.getD_none, Option.map_some, List.getElem?_toArray, List.getElem?_cons_zero, List.getElem?_cons_succ, List.getElem?_nil, List.map_cons, List.map_nil, List.all_cons, List.all_nil, Nat.reduceLT, Nat.reduceEqDiff, Nat.reduceSub, Nat.reduceAdd, ↓reduceIte, if_true, if_false, Bool.false_eq_true, reduceCtorEq, Nat.le_refl, decide_true, decide_false, Bool.not_true, Bool.not_false, decide_eq_true_eq, decide_eq_false_iff_not, eq_self, Bool.false_and, Bool.and_false, Bool.not_eq_true', ite_self]
          refine ⟨aordered_one _ _ 11 ?_ (by kernel_rfl), ?_⟩
          · intro y hy hne
            simp only [List.zipIdx_cons, List.zipIdx_nil, List.mem_cons, List.not_mem_nil, or_false] at hy
            rcases hy with rfl | rfl | rfl | rfl | rfl | rfl | rfl | rfl | rfl | rfl | rfl | rfl
            all_goals first | exact acls_neq _ _ _ (Nat.le_refl _) | exact absurd rfl hne
          · have hstep : x.step i bb = ⟨x.ps, [bb % 8]⟩ := by unfold Nm.step; rw [if_pos hcur0]
            refine w_next (i + 1, x.step i bb) (by simp only; omega) ?_
            rw [hstep]
            have hn5 : S5.n = S'.n := n5
            have hrun : ∀ f, Nm.runes f ⟨x.ps, [bb % 8]⟩ = Nm.runes f x ++ [f (bb % 8)] := by intro f; simp [Nm.runes, hcur0]
            refine ⟨?_, by simp only [↓wDn, wUp0, wUp1, wUp2, Option.map_none, Int.reduceLE, Int.reduceLT, Int.reduceEq, Int.reduceNeg, Int.reduceToNat, Nat.reduceLeDiff, aresults, aresult, tupled, Bool.and_self, Bool.true_and, Bool.and_true, true_and, and_true, Option.bind_some, Option.bind_none, Option.getD_some, Option.getD_none, Option.map_some, List.getElem?_toArray, List.getElem?_cons_zero, List.getElem?_cons_succ, List.getElem?_nil, List.map_cons, List.map_nil, List.all_cons, List.all_nil, Nat.reduceLT, Nat.reduceEqDiff, Nat.reduceSub, Nat.reduceAdd, ↓reduceIte, if_true, if_false, Bool.false_eq_true, reduceCtorEq, Nat.le_refl, decide_true, decide_false, Bool.not_true, Bool.not_false, decide_eq_true_eq, decide_eq_false_iff_not, eq_self, Bool.false_and, Bool.and_false, Bool.not_eq_true', ite_self]; omega, ?_, ?_, ?_, ?_, ⟨pb, cap, hpb, ?_, ?_⟩, ?_, ?_, ?_, ?_, ?_, ?_, by simp only; omega, by simp, ?_, by simpa using hps, by rw [hrun]; simp [hrl1], by rw [hrun]; simp [hrl2]⟩
            · simp only [w5, ↓wDn, wUp0, wUp1, wUp2, Option.map_none, Int.reduceLE, Int.reduceLT, Int.reduceEq, Int.reduceNeg, Int.reduceToNat, Nat.reduceLeDiff, aresults, aresult, tupled, Bool.and_self, Bool.true_and, Bool.and_true, true_and, and_true, Option.bind_some, Option.bind_none, Option.getD_some, Option.getD_none, Option.map_some, List.getElem?_toArray, List.getElem?_cons_zero, List.getElem?_cons_succ, List.getElem?_nil, List.map_cons, List.map_nil, List.all_cons, List.all_nil, Nat.reduceLT, Nat.reduceEqDiff, Nat.reduceSub, Nat.reduceAdd, ↓reduceIte, if_true, if_false, Bool.false_eq_true, reduceCtorEq, Nat.le_refl, decide_true, decide_false, Bool.not_true, Bool.not_false, decide_eq_true_eq, decide_eq_false_iff_not, eq_self, Bool.false_and, Bool.and_false, Bool.not_eq_true', ite_self]
            · simp only [low5, hlow, hn, ↓wDn, wUp0, wUp1, wUp2, Option.map_none, Int.reduceLE, Int.reduceLT, Int.reduceEq, Int.reduceNeg, Int.reduceToNat, Nat.reduceLeDiff, aresults, aresult, tupled, Bool.and_self, Bool.true_and, Bool.and_true, true_and, and_true, Option.bind_some, Option.bind_none, Option.getD_some, Option.getD_none, Option.map_some, List.getElem?_toArray, List.getElem?_cons_zero, List.getElem?_cons_succ, List.getElem?_nil, List.map_cons, List.map_nil, List.all_cons, List.all_nil, Nat.reduceLT, Nat.reduceEqDiff, Nat.reduceSub, Nat.reduceAdd, ↓reduceIte, if_true, if_false, Bool.false_eq_true, reduceCtorEq, Nat.le_refl, decide_true, decide_false, Bool.not_true, Bool.not_false, decide_eq_true_eq, decide_eq_false_iff_not, eq_self, Bool.false_and, Bool.and_false, Bool.not_eq_true', ite_self]; omega
            · intro b' hb'
              rw [get_mk, get5 b' (by omega)]
              exact hold b' hb'
            · rw [get_mk, get5 _ (by omega)]
              exact hT1
            · rw [get_mk, get5 _ (by omega)]
              exact hT2
            · have hp2 : Nm.parts ⟨x.ps, [bb % 8]⟩ = x.parts.dropLast ++ [encR (smaF (bb % 8))] := by simp [Nm.parts, bs]
              rw [hp2]
              exact row5
            · have hp3 : (Nm.parts ⟨x.ps, [bb % 8]⟩).length = x.parts.length := by simp [Nm.parts]
              simp only [hp3, g9, ↓wDn, wUp0, wUp1, wUp2, Option.map_none, Int.reduceLE, Int.reduceLT, Int.reduceEq, Int.reduceNeg, Int.reduceToNat, Nat.reduceLeDiff, aresults, aresult, tupled, Bool.and_self, Bool.true_and, Bool.and_true, true_and, and_true, Option.bind_some, Option.bind_none, Option.getD_some, Option.getD_none, Option.map_some, List.getElem?_toArray, List.getElem?_cons_zero, List.getElem?_cons_succ, List.getElem?_nil, List.map_cons, List.map_nil, List.all_cons, List.all_nil, Nat.reduceLT, Nat.reduceEqDiff, Nat.reduceSub, Nat.reduceAdd, ↓reduceIte, if_true, if_false, Bool.false_eq_true, reduceCtorEq, Nat.le_refl, decide_true, decide_false, Bool.not_true, Bool.not_false, decide_eq_true_eq, decide_eq_false_iff_not, eq_self, Bool.false_and, Bool.and_false, Bool.not_eq_true', ite_self]
            · simp only [g0, ↓wDn, wUp0, wUp1, wUp2, Option.map_none, Int.reduceLE, Int.reduceLT, Int.reduceEq, Int.reduceNeg, Int.reduceToNat, Nat.reduceLeDiff, aresults, aresult, tupled, Bool.and_self, Bool.true_and, Bool.and_true, true_and, and_true, Option.bind_some, Option.bind_none, Option.getD_some, Option.getD_none, Option.map_some, List.getElem?_toArray, List.getElem?_cons_zero, List.getElem?_cons_succ, List.getElem?_nil, List.map_cons, List.map_nil, List.all_cons, List.all_nil, Nat.reduceLT, Nat.reduceEqDiff, Nat.reduceSub, Nat.reduceAdd, ↓reduceIte, if_true, if_false, Bool.false_eq_true, reduceCtorEq, Nat.le_refl, decide_true, decide_false, Bool.not_true, Bool.not_false, decide_eq_true_eq, decide_eq_false_iff_not, eq_self, Bool.false_and, Bool.and_false, Bool.not_eq_true', ite_self]
            · simp only [g5, ↓wDn, wUp0, wUp1, wUp2, Option.map_none, Int.reduceLE, Int.reduceLT, Int.reduceEq, Int.reduceNeg, Int.reduceToNat, Nat.reduceLeDiff, aresults, aresult, tupled, Bool.and_self, Bool.true_and, Bool.and_true, true_and, and_true, Option.bind_some, Option.bind_none, Option.getD_some, Option.getD_none, Option.map_some, List.getElem?_toArray, List.getElem?_cons_zero, List.getElem?_cons_succ, List.getElem?_nil, List.map_cons, List.map_nil, List.all_cons, List.all_nil, Nat.reduceLT, Nat.reduceEqDiff, Nat.reduceSub, Nat.reduceAdd, ↓reduceIte, if_true, if_false, Bool.false_eq_true, reduceCtorEq, Nat.le_refl, decide_true, decide_false, Bool.not_true, Bool.not_false, decide_eq_true_eq, decide_eq_false_iff_not, eq_self, Bool.false_and, Bool.and_false, Bool.not_eq_true', ite_self]
            · simp only [g6, ↓wDn, wUp0, wUp1, wUp2, Option.map_none, Int.reduceLE, Int.reduceLT, Int.reduceEq, Int.reduceNeg, Int.reduceToNat, Nat.reduceLeDiff, aresults, aresult, tupled, Bool.and_self, Bool.true_and, Bool.and_true, true_and, and_true, Option.bind_some, Option.bind_none, Option.getD_some, Option.getD_none, Option.map_some, List.getElem?_toArray, List.getElem?_cons_zero, List.getElem?_cons_succ, List.getElem?_nil, List.map_cons, List.map_nil, List.all_cons, List.all_nil, Nat.reduceLT, Nat.reduceEqDiff, Nat.reduceSub, Nat.reduceAdd, ↓reduceIte, if_true, if_false, Bool.false_eq_true, reduceCtorEq, Nat.le_refl, decide_true, decide_false, Bool.not_true, Bool.not_false, decide_eq_true_eq, decide_eq_false_iff_not, eq_self, Bool.false_and, Bool.and_false, Bool.not_eq_true', ite_self]
            · simp only [hrun, bs_append, bs_cons, bs_nil, List.append_nil, ↓wDn, wUp0, wUp1, wUp2, Option.map_none, Int.reduceLE, Int.reduceLT, Int.reduceEq, Int.reduceNeg, Int.reduceToNat, Nat.reduceLeDiff, aresults, aresult, tupled, Bool.and_self, Bool.true_and, Bool.and_true, true_and, and_true, Option.bind_some, Option.bind_none, Option.getD_some, Option.getD_none, Option.map_some, List.getElem?_toArray, List.getElem?_cons_zero, List.getElem?_cons_succ, List.getElem?_nil, List.map_cons, List.map_nil, List.all_cons, List.all_nil, Nat.reduceLT, Nat.reduceEqDiff, Nat.reduceSub, Nat.reduceAdd, ↓reduceIte, if_true, if_false, Bool.false_eq_true, reduceCtorEq, Nat.le_refl, decide_true, decide_false, Bool.not_true, Bool.not_false, decide_eq_true_eq, decide_eq_false_iff_not, eq_self, Bool.false_and, Bool.and_false, Bool.not_eq_true', ite_self]
            · simp only [hrun, bs_append, bs_cons, bs_nil, List.append_nil, ↓wDn, wUp0, wUp1, wUp2, Option.map_none, Int.reduceLE, Int.reduceLT, Int.reduceEq, Int.reduceNeg, Int.reduceToNat, Nat.reduceLeDiff, aresults, aresult, tupled, Bool.and_self, Bool.true_and, Bool.and_true, true_and, and_true, Option.bind_some, Option.bind_none, Option.getD_some, Option.getD_none, Option.map_some, List.getElem?_toArray, List.getElem?_cons_zero, List.getElem?_cons_succ, List.getElem?_nil, List.map_cons, List.map_nil, List.all_cons, List.all_nil, Nat.reduceLT, Nat.reduceEqDiff, Nat.reduceSub, Nat.reduceAdd, ↓reduceIte, if_true, if_false, Bool.false_eq_true, reduceCtorEq, Nat.le_refl, decide_true, decide_false, Bool.not_true, Bool.not_false, decide_eq_true_eq, decide_eq_false_iff_not, eq_self, Bool.false_and, Bool.and_false, Bool.not_eq_true', ite_self]
            · simp only [g10, wrap64 ((i : Int) + 1) (by omega) (by omega), ↓wDn, wUp0, wUp1, wUp2, Option.map_none, Int.reduceLE, Int.reduceLT, Int.reduceEq, Int.reduceNeg, Int.reduceToNat, Nat.reduceLeDiff, aresults, aresult, tupled, Bool.and_self, Bool.true_and, Bool.and_true, true_and, and_true, Option.bind_some, Option.bind_none, Option.getD_some, Option.getD_none, Option.map_some, List.getElem?_toArray, List.getElem?_cons_zero, List.getElem?_cons_succ, List.getElem?_nil, List.map_cons, List.map_nil, List.all_cons, List.all_nil, Nat.reduceLT, Nat.reduceEqDiff, Nat.reduceSub, Nat.reduceAdd, ↓reduceIte, if_true, if_false, Bool.false_eq_true, reduceCtorEq, Nat.le_refl, decide_true, decide_false, Bool.not_true, Bool.not_false, decide_eq_true_eq, decide_eq_false_iff_not, eq_self, Bool.false_and, Bool.and_false, Bool.not_eq_true', ite_self]; rfl
            · have : 20 - i = (20 - (i + 1)) + 1 := by omega
              rw [← hgo, this]
              conv => rhs; unfold Nm.go
              rw [if_pos ⟨c20, hor⟩, hbb, hstep]
      · have cl : i < l.length := by rcases hor with h | h; exact h; exact absurd h hcur0
        have clz : (i : Int) < (l.length : Int) := by omega
        have hcm : ¬ x.cur.map smaF = [] := fun h => hcur0 (List.map_eq_nil_iff.1 h)
        by_cases d1 : 229 < bb
        · have d1z : (229 : Int) < (bb : Int) := by omega
          by_cases d2 : x.ps.length + 1 < 5
          · have d2z : (x.parts.length : Int) < 5 := by omega
            by_cases d3 : i < 19
            · have d3z : (i : Int) < 19 := by omega
              have hl5 := ld5 S' l b i (hcb cl) cl
              rw [hbb] at hl5
              obtain ⟨S5, ap5, w5, n5, low5, get5, row5⟩ := Row.append hR hW (by have := wf_base hS; omega) (by omega) S.n hlow (by omega)
              have hcd : ∀ f, (Nm.runes f x).length = i → ∀ t x' y' S, binA E0 .add t x' y' (.string (str (bs (Nm.runes f x)))) (.string ⟨#[46]⟩) S = some (.value (.string (str (bs (Nm.runes f x) ++ [46]))), S) := by
                intro f hf t x' y' S
                have := bs_len (Nm.runes f x)
                exact cat t x' y' (bs (Nm.runes f x)) [46] (by simp; omega) S
              simp only [g0, g5, g6, g7, g8, g9, g10, c20z, clz, hv.len, len_slc und23, wl, hia, hld', strNil, hcm, hv.idx _ i cl, hl5, conv_int ty5 ty3, wrap64N bb (by omega), rem10, d1z, d2z, d3z, hcd bigF hrl1, hcd smaF hrl2, build23, ap5, ↓wDn, wUp0, wUp1, wUp2, Option.map_none, Int.reduceLE, Int.reduceLT, Int.reduceEq, Int.reduceNeg, Int.reduceToNat, Nat.reduceLeDiff, aresults, aresult, tupled, Bool.and_self, Bool.true_and, Bool.and_true, true_and, and_true, Option.bind_some, Option.bind_none, Option.getD_some, Option.getD_none, Option.map_some, List.getElem?_toArray, List.getElem?_cons_zero, List.getElem?_cons_succ, List.getElem?_nil, List.map_cons, List.map_nil, List.all_cons, List.all_nil, Nat.reduceLT, Nat.reduceEqDiff, Nat.reduceSub, Nat.reduceAdd, ↓reduceIte, if_true, if_false, Bool.false_eq_true, reduceCtorEq, Nat.le_refl, decide_true, decide_false, Bool.not_true, Bool.not_false, decide_eq_true_eq, decide_eq_false_iff_not, eq_self, Bool.false_and, Bool.and_false, Bool.not_eq_true', ite_self]
              have hstep : x.step i bb = ⟨x.ps ++ [x.cur], []⟩ := by unfold Nm.step; rw [if_neg hcur0, if_pos ⟨d1, d2, d3⟩]
              refine w_next (i + 1, x.step i bb) (by simp only; omega) ?_
              rw [hstep]
              have hrun : ∀ f, Nm.runes f ⟨x.ps ++ [x.cur], []⟩ = Nm.runes f x ++ [46] := by intro f; simp [Nm.runes]
              have hb46 : bs [46] = [46] := by rfl
              have hp2 : Nm.parts ⟨x.ps ++ [x.cur], []⟩ = x.parts ++ [[]] := by simp [Nm.parts, bs]
              have hp3 : (Nm.parts ⟨x.ps ++ [x.cur], []⟩).length = x.parts.length + 1 := by rw [hp2]; simp
              refine ⟨w5, by omega, low5, ?_, ?_, ?_, ⟨S'.n + 1, OPEN, by omega, ?_, ?_⟩, ?_, ?_, ?_, ?_, ?_, ?_, by simp only; omega, by simp only; omega, ?_, by simp; omega, by rw [hrun]; simp [hrl1], by rw [hrun]; simp [hrl2]⟩
              · intro b' hb'
                rw [get5 b' (by omega) (by omega)]
                exact hold b' hb'
              · rw [get5 _ (by omega) (by omega)]
                exact hT1
              · rw [get5 _ (by omega) (by omega)]
                exact hT2
              · rw [hp2]; exact row5
              · simp only [hp3, ↓wDn, wUp0, wUp1, wUp2, Option.map_none, Int.reduceLE, Int.reduceLT, Int.reduceEq, Int.reduceNeg, Int.reduceToNat, Nat.reduceLeDiff, aresults, aresult, tupled, Bool.and_self, Bool.true_and, Bool.and_true, true_and, and_true, Option.bind_some, Option.bind_none, Option.getD_some, Option.getD_none, Option.map_some, List.getElem?_toArray, List.getElem?_cons_zero, List.getElem?_cons_succ, List.getElem?_nil, List.map_cons, List.map_nil, List.all_cons, List.all_nil, Nat.reduceLT, Nat.reduceEqDiff, Nat.reduceSub, Nat.reduceAdd, ↓reduceIte, if_true, if_false, Bool.false_eq_true, reduceCtorEq, Nat.le_refl, decide_true, decide_false, Bool.not_true, Bool.not_false, decide_eq_true_eq, decide_eq_false_iff_not, eq_self, Bool.false_and, Bool.and_false, Bool.not_eq_true', ite_self]
              · simp only [g0, ↓wDn, wUp0, wUp1, wUp2, Option.map_none, Int.reduceLE, Int.reduceLT, Int.reduceEq, Int.reduceNeg, Int.reduceToNat, Nat.reduceLeDiff, aresults, aresult, tupled, Bool.and_self, Bool.true_and, Bool.and_true, true_and, and_true, Option.bind_some, Option.bind_none, Option.getD_some, Option.getD_none, Option.map_some, List.getElem?_toArray, List.getElem?_cons_zero, List.getElem?_cons_succ, List.getElem?_nil, List.map_cons, List.map_nil, List.all_cons, List.all_nil, Nat.reduceLT, Nat.reduceEqDiff, Nat.reduceSub, Nat.reduceAdd, ↓reduceIte, if_true, if_false, Bool.false_eq_true, reduceCtorEq, Nat.le_refl, decide_true, decide_false, Bool.not_true, Bool.not_false, decide_eq_true_eq, decide_eq_false_iff_not, eq_self, Bool.false_and, Bool.and_false, Bool.not_eq_true', ite_self]
              · simp only [g5, ↓wDn, wUp0, wUp1, wUp2, Option.map_none, Int.reduceLE, Int.reduceLT, Int.reduceEq, Int.reduceNeg, Int.reduceToNat, Nat.reduceLeDiff, aresults, aresult, tupled, Bool.and_self, Bool.true_and, Bool.and_true, true_and, and_true, Option.bind_some, Option.bind_none, Option.getD_some, Option.getD_none, Option.map_some, List.getElem?_toArray, List.getElem?_cons_zero, List.getElem?_cons_succ, List.getElem?_nil, List.map_cons, List.map_nil, List.all_cons, List.all_nil, Nat.reduceLT, Nat.reduceEqDiff, Nat.reduceSub, Nat.reduceAdd, ↓reduceIte, if_true, if_false, Bool.false_eq_true, reduceCtorEq, Nat.le_refl, decide_true, decide_false, Bool.not_true, Bool.not_false, decide_eq_true_eq, decide_eq_false_iff_not, eq_self, Bool.false_and, Bool.and_false, Bool.not_eq_true', ite_self]
              · simp only [g6, ↓wDn, wUp0, wUp1, wUp2, Option.map_none, Int.reduceLE, Int.reduceLT, Int.reduceEq, Int.reduceNeg, Int.reduceToNat, Nat.reduceLeDiff, aresults, aresult, tupled, Bool.and_self, Bool.true_and, Bool.and_true, true_and, and_true, Option.bind_some, Option.bind_none, Option.getD_some, Option.getD_none, Option.map_some, List.getElem?_toArray, List.getElem?_cons_zero, List.getElem?_cons_succ, List.getElem?_nil, List.map_cons, List.map_nil, List.all_cons, List.all_nil, Nat.reduceLT, Nat.reduceEqDiff, Nat.reduceSub, Nat.reduceAdd, ↓reduceIte, if_true, if_false, Bool.false_eq_true, reduceCtorEq, Nat.le_refl, decide_true, decide_false, Bool.not_true, Bool.not_false, decide_eq_true_eq, decide_eq_false_iff_not, eq_self, Bool.false_and, Bool.and_false, Bool.not_eq_true', ite_self]
              · simp only [hrun, bs_append, hb46, ↓wDn, wUp0, wUp1, wUp2, Option.map_none, Int.reduceLE, Int.reduceLT, Int.reduceEq, Int.reduceNeg, Int.reduceToNat, Nat.reduceLeDiff, aresults, aresult, tupled, Bool.and_self, Bool.true_and, Bool.and_true, true_and, and_true, Option.bind_some, Option.bind_none, Option.getD_some, Option.getD_none, Option.map_some, List.getElem?_toArray, List.getElem?_cons_zero, List.getElem?_cons_succ, List.getElem?_nil, List.map_cons, List.map_nil, List.all_cons, List.all_nil, Nat.reduceLT, Nat.reduceEqDiff, Nat.reduceSub, Nat.reduceAdd, ↓reduceIte, if_true, if_false, Bool.false_eq_true, reduceCtorEq, Nat.le_refl, decide_true, decide_false, Bool.not_true, Bool.not_false, decide_eq_true_eq, decide_eq_false_iff_not, eq_self, Bool.false_and, Bool.and_false, Bool.not_eq_true', ite_self]
              · simp only [hrun, bs_append, hb46, ↓wDn, wUp0, wUp1, wUp2, Option.map_none, Int.reduceLE, Int.reduceLT, Int.reduceEq, Int.reduceNeg, Int.reduceToNat, Nat.reduceLeDiff, aresults, aresult, tupled, Bool.and_self, Bool.true_and, Bool.and_true, true_and, and_true, Option.bind_some, Option.bind_none, Option.getD_some, Option.getD_none, Option.map_some, List.getElem?_toArray, List.getElem?_cons_zero, List.getElem?_cons_succ, List.getElem?_nil, List.map_cons, List.map_nil, List.all_cons, List.all_nil, Nat.reduceLT, Nat.reduceEqDiff, Nat.reduceSub, Nat.reduceAdd, ↓reduceIte, if_true, if_false, Bool.false_eq_true, reduceCtorEq, Nat.le_refl, decide_true, decide_false, Bool.not_true, Bool.not_false, decide_eq_true_eq, decide_eq_false_iff_not, eq_self, Bool.false_and, Bool.and_false, Bool.not_eq_true', ite_self]
              · simp only [g10, wrap64 ((i : Int) + 1) (by omega) (by omega), ↓wDn, wUp0, wUp1, wUp2, Option.map_none, Int.reduceLE, Int.reduceLT, Int.reduceEq, Int.reduceNeg, Int.reduceToNat, Nat.reduceLeDiff, aresults, aresult, tupled, Bool.and_self, Bool.true_and, Bool.and_true, true_and, and_true, Option.bind_some, Option.bind_none, Option.getD_some, Option.getD_none, Option.map_some, List.getElem?_toArray, List.getElem?_cons_zero, List.getElem?_cons_succ, List.getElem?_nil, List.map_cons, List.map_nil, List.all_cons, List.all_nil, Nat.reduceLT, Nat.reduceEqDiff, Nat.reduceSub, Nat.reduceAdd, ↓reduceIte, if_true, if_false, Bool.false_eq_true, reduceCtorEq, Nat.le_refl, decide_true, decide_false, Bool.not_true, Bool.not_false, decide_eq_true_eq, decide_eq_false_iff_not, eq_self, Bool.false_and, Bool.and_false, Bool.not_eq_true', ite_self]; rfl
              · have : 20 - i = (20 - (i + 1)) + 1 := by omega
                rw [← hgo, this]
                conv => rhs; unfold Nm.go
                rw [if_pos ⟨c20, hor⟩, hbb, hstep]
            · have d3z : ¬ (i : Int) < 19 := by omega
              have hl5 := ld5 S' l b i (hcb cl) cl
              rw [hbb] at hl5
              simp only [g0, g5, g6, g7, g8, g9, g10, c20z, clz, hv.len, len_slc und23, wl, hia, hld', strNil, hcm, hv.idx _ i cl, hl5, conv_int ty5 ty3, wrap64N bb (by omega), rem10, d1z, d2z, d3z, ↓wDn, wUp0, wUp1, wUp2, Option.map_none, Int.reduceLE, Int.reduceLT, Int.reduceEq, Int.reduceNeg, Int.reduceToNat, Nat.reduceLeDiff, aresults, aresult, tupled, Bool.and_self, Bool.true_and, Bool.and_true, true_and, and_true, Option.bind_some, Option.bind_none, Option.getD_some, Option.getD_none, Option.map_some, List.getElem?_toArray, List.getElem?_cons_zero, List.getElem?_cons_succ, List.getElem?_nil, List.map_cons, List.map_nil, List.all_cons, List.all_nil, Nat.reduceLT, Nat.reduceEqDiff, Nat.reduceSub, Nat.reduceAdd, ↓reduceIte, if_true, if_false, Bool.false_eq_true, reduceCtorEq, Nat.le_refl, decide_true, decide_false, Bool.not_true, Bool.not_false, decide_eq_true_eq, decide_eq_false_iff_not, eq_self, Bool.false_and, Bool.and_false, Bool.not_eq_true', ite_self]
              have hk : bb % 10 < 10 := by omega
              have hlenB : ∀ f, (Nm.runes f x).length = i → (bs (Nm.runes f x)).length + (encR (f (bb % 10))).length < 2^62 := by
                intro f hf
                have := bs_len (Nm.runes f x)
                rw [encR_len]
                split <;> omega
              obtain ⟨S5, st5, w5, n5, low5, get5, row5⟩ := Row.store (S := ⟨S'.n, S'.h, S'.n⟩) (pb := pb) (cap := cap) (cs := x.parts) hR hW (by have := wf_base hS; omega) (bs (x.cur.map smaF) ++ encR (smaF (bb % 10)))
              rw [show x.parts.length - 1 = x.ps.length by omega] at st5
              have hcl : (bs (x.cur.map smaF)).length + (encR (smaF (bb % 10))).length < 2^62 := by
                have := bs_len (x.cur.map smaF)
                have h3 : (x.cur.map smaF).length ≤ i := by rw [← hrl2]; simp [Nm.runes]
                rw [encR_len]
                split <;> omega
              have hcat0 := fun t x' y' S => cat t x' y' (bs (x.cur.map smaF)) (encR (smaF (bb % 10))) hcl S
              simp only [g5, g6, ia38 _ S.n (bb % 10) hk, ia38 _ (S.n + 1) (bb % 10) hk, ld38 bigF S' S.n (bb % 10) hT1 hk, ld38 smaF S' (S.n + 1) (bb % 10) hT2 hk, cat _ _ _ _ _ (hlenB bigF hrl1), cat _ _ _ _ _ (hlenB smaF hrl2), g5, g6, g7, g8, g9, g10, len_slc und23, wl, hia, hld, hcat0, st5, ↓wDn, wUp0, wUp1, wUp2, Option.map_none, Int.reduceLE, Int.reduceLT, Int.reduceEq, Int.reduceNeg, Int.reduceToNat, Nat.reduceLeDiff, aresults, aresult, tupled, Bool.and_self, Bool.true_and, Bool.and_true, true_and, and_true, Option.bind_some, Option.bind_none, Option.getD_some, Option.getD_none, Option.map_some, List.getElem?_toArray, List.getElem?_cons_zero, List.getElem?_cons_succ, List.getElem?_nil, List.map_cons, List.map_nil, List.all_cons, List.all_nil, Nat.reduceLT, Nat.reduceEqDiff, Nat.reduceSub, Nat.reduceAdd, ↓reduceIte, if_true, if_false, Bool.false_eq_true, reduceCtorEq, Nat.le_refl, decide_true, decide_false, Bool.not_true, Bool.not_false, decide_eq_true_eq, decide_eq_false_iff_not, eq_self, Bool.false_and, Bool.and_false, Bool.not_eq_true', ite_self]
              refine ⟨aordered_one _ _ 11 ?_ (by kernel_rfl), ?_⟩
              · intro y hy hne
                simp only [List.zipIdx_cons, List.zipIdx_nil, List.mem_cons, List.not_mem_nil, or_false] at hy
                rcases hy with rfl | rfl | rfl | rfl | rfl | rfl | rfl | rfl | rfl | rfl | rfl | rfl
                all_goals first | exact acls_neq _ _ _ (Nat.le_refl _) | exact absurd rfl hne
              · have hstep : x.step i bb = ⟨x.ps, x.cur ++ [bb % 10]⟩ := by unfold Nm.step; rw [if_neg hcur0, if_neg (by omega)]
                refine w_next (i + 1, x.step i bb) (by simp only; omega) ?_
                rw [hstep]
                have hn5 : S5.n = S'.n := n5
                have hrun : ∀ f, Nm.runes f ⟨x.ps, x.cur ++ [bb % 10]⟩ = Nm.runes f x ++ [f (bb % 10)] := by intro f; simp [Nm.runes]
                refine ⟨?_, by simp only [↓wDn, wUp0, wUp1, wUp2, Option.map_none, Int.reduceLE, Int.reduceLT, Int.reduceEq, Int.reduceNeg, Int.reduceToNat, Nat.reduceLeDiff, aresults, aresult, tupled, Bool.and_self, Bool.true_and, Bool.and_true, true_and, and_true, Option.bind_some, Option.bind_none, Option.getD_some, Option.getD_none, Option.map_some, List.getElem?_toArray, List.getElem?_cons_zero, List.getElem?_cons_succ, List.getElem?_nil, List.map_cons, List.map_nil, List.all_cons, List.all_nil, Nat.reduceLT, Nat.reduceEqDiff, Nat.reduceSub, Nat.reduceAdd, ↓reduceIte, if_true, if_false, Bool.false_eq_true, reduceCtorEq, Nat.le_refl, decide_true, decide_false, Bool.not_true, Bool.not_false, decide_eq_true_eq, decide_eq_false_iff_not, eq_self, Bool.false_and, Bool.and_false, Bool.not_eq_true', ite_self]; omega, ?_, ?_, ?_, ?_, ⟨pb, cap, hpb, ?_, ?_⟩, ?_, ?_, ?_, ?_, ?_, ?_, by simp only; omega, by simp, ?_, by simpa using hps, by rw [hrun]; simp [hrl1], by rw [hrun]; simp [hrl2]⟩
                · simp only [w5, ↓wDn, wUp0, wUp1, wUp2, Option.map_none, Int.reduceLE, Int.reduceLT, Int.reduceEq, Int.reduceNeg, Int.reduceToNat, Nat.reduceLeDiff, aresults, aresult, tupled, Bool.and_self, Bool.true_and, Bool.and_true, true_and, and_true, Option.bind_some, Option.bind_none, Option.getD_some, Option.getD_none, Option.map_some, List.getElem?_toArray, List.getElem?_cons_zero, List.getElem?_cons_succ, List.getElem?_nil, List.map_cons, List.map_nil, List.all_cons, List.all_nil, Nat.reduceLT, Nat.reduceEqDiff, Nat.reduceSub, Nat.reduceAdd, ↓reduceIte, if_true, if_false, Bool.false_eq_true, reduceCtorEq, Nat.le_refl, decide_true, decide_false, Bool.not_true, Bool.not_false, decide_eq_true_eq, decide_eq_false_iff_not, eq_self, Bool.false_and, Bool.and_false, Bool.not_eq_true', ite_self]
                · simp only [low5, hlow, hn, ↓wDn, wUp0, wUp1, wUp2, Option.map_none, Int.reduceLE, Int.reduceLT, Int.reduceEq, Int.reduceNeg, Int.reduceToNat, Nat.reduceLeDiff, aresults, aresult, tupled, Bool.and_self, Bool.true_and, Bool.and_true, true_and, and_true, Option.bind_some, Option.bind_none, Option.getD_some, Option.getD_none, Option.map_some, List.getElem?_toArray, List.getElem?_cons_zero, List.getElem?_cons_succ, List.getElem?_nil, List.map_cons, List.map_nil, List.all_cons, List.all_nil, Nat.reduceLT, Nat.reduceEqDiff, Nat.reduceSub, Nat.reduceAdd, ↓reduceIte, if_true, if_false, Bool.false_eq_true, reduceCtorEq, Nat.le_refl, decide_true, decide_false, Bool.not_true, Bool.not_false, decide_eq_true_eq, decide_eq_false_iff_not, eq_self, Bool.false_and, Bool.and_false, Bool.not_eq_true', ite_self]; omega
                · intro b' hb'
                  rw [get_mk, get5 b' (by omega)]
                  exact hold b' hb'
                · rw [get_mk, get5 _ (by omega)]
                  exact hT1
                · rw [get_mk, get5 _ (by omega)]
                  exact hT2
                · have hp2 : Nm.parts ⟨x.ps, x.cur ++ [bb % 10]⟩ = x.parts.dropLast ++ [bs (x.cur.map smaF) ++ encR (smaF (bb % 10))] := by simp [Nm.parts, bs]
                  rw [hp2]
                  exact row5
                · have hp3 : (Nm.parts ⟨x.ps, x.cur ++ [bb % 10]⟩).length = x.parts.length := by simp [Nm.parts]
                  simp only [hp3, g9, ↓wDn, wUp0, wUp1, wUp2, Option.map_none, Int.reduceLE, Int.reduceLT, Int.reduceEq, Int.reduceNeg, Int.reduceToNat, Nat.reduceLeDiff, aresults, aresult, tupled, Bool.and_self, Bool.true_and, Bool.and_true, true_and, and_true, Option.bind_some, Option.bind_none, Option.getD_some, Option.getD_none, Option.map_some, List.getElem?_toArray, List.getElem?_cons_zero, List.getElem?_cons_succ, List.getElem?_nil, List.map_cons, List.map_nil, List.all_cons, List.all_nil, Nat.reduceLT, Nat.reduceEqDiff, Nat.reduceSub, Nat.reduceAdd, ↓reduceIte, if_true, if_false, Bool.false_eq_true, reduceCtorEq, Nat.le_refl, decide_true, decide_false, Bool.not_true, Bool.not_false, decide_eq_true_eq, decide_eq_false_iff_not, eq_self, Bool.false_and, Bool.and_false, Bool.not_eq_true', ite_self]
                · simp only [g0, ↓wDn, wUp0, wUp1, wUp2, Option.map_none, Int.reduceLE, Int.reduceLT, Int.reduceEq, Int.reduceNeg, Int.reduceToNat, Nat.reduceLeDiff, aresults, aresult, tupled, Bool.and_self, Bool.true_and, Bool.and_true, true_and, and_true, Option.bind_some, Option.bind_none, Option.getD_some, Option.getD_none, Option.map_some, List.getElem?_toArray, List.getElem?_cons_zero, List.getElem?_cons_succ, List.getElem?_nil, List.map_cons, List.map_nil, List.all_cons, List.all_nil, Nat.reduceLT, Nat.reduceEqDiff, Nat.reduceSub, Nat.reduceAdd, ↓reduceIte, if_true, if_false, Bool.false_eq_true, reduceCtorEq, Nat.le_refl, decide_true, decide_false, Bool.not_true, Bool.not_false, decide_eq_true_eq, decide_eq_false_iff_not, eq_self, Bool.false_and, Bool.and_false, Bool.not_eq_true', ite_self]
                · simp only [g5, ↓wDn, wUp0, wUp1, wUp2, Option.map_none, Int.reduceLE, Int.reduceLT, Int.reduceEq, Int.reduceNeg, Int.reduceToNat, Nat.reduceLeDiff, aresults, aresult, tupled, Bool.and_self, Bool.true_and, Bool.and_true, true_and, and_true, Option.bind_some, Option.bind_none, Option.getD_some, Option.getD_none, Option.map_some, List.getElem?_toArray, List.getElem?_cons_zero, List.getElem?_cons_succ, List.getElem?_nil, List.map_cons, List.map_nil, List.all_cons, List.all_nil, Nat.reduceLT, Nat.reduceEqDiff, Nat.reduceSub, Nat.reduceAdd, ↓reduceIte, if_true, if_false, Bool.false_eq_true, reduceCtorEq, Nat.le_refl, decide_true, decide_false, Bool.not_true, Bool.not_false, decide_eq_true_eq, decide_eq_false_iff_not, eq_self, Bool.false_and, Bool.and_false, Bool.not_eq_true', ite_self]
                · simp only [g6, ↓wDn, wUp0, wUp1, wUp2, Option.map_none, Int.reduceLE, Int.reduceLT, Int.reduceEq, Int.reduceNeg, Int.reduceToNat, Nat.reduceLeDiff, aresults, aresult, tupled, Bool.and_self, Bool.true_and, Bool.and_true, true_and, and_true, Option.bind_some, Option.bind_none, Option.getD_some, Option.getD_none, Option.map_some, List.getElem?_toArray, List.getElem?_cons_zero, List.getElem?_cons_succ, List.getElem?_nil, List.map_cons, List.map_nil, List.all_cons, List.all_nil, Nat.reduceLT, Nat.reduceEqDiff, Nat.reduceSub, Nat.reduceAdd, ↓reduceIte, if_true, if_false, Bool.false_eq_true, reduceCtorEq, Nat.le_refl, decide_true, decide_false, Bool.not_true, Bool.not_false, decide_eq_true_eq, decide_eq_false_iff_not, eq_self, Bool.false_and, Bool.and_false, Bool.not_eq_true', ite_self]
                · simp only [hrun, bs_append, bs_cons, bs_nil, List.append_nil, ↓wDn, wUp0, wUp1, wUp2, Option.map_none, Int.reduceLE, Int.reduceLT, Int.reduceEq, Int.reduceNeg, Int.reduceToNat, Nat.reduceLeDiff, aresults, aresult, tupled, Bool.and_self, Bool.true_and, Bool.and_true, true_and, and_true, Option.bind_some, Option.bind_none, Option.getD_some, Option.getD_none, Option.map_some, List.getElem?_toArray, List.getElem?_cons_zero, List.getElem?_cons_succ, List.getElem?_nil, List.map_cons, List.map_nil, List.all_cons, List.all_nil, Nat.reduceLT, Nat.reduceEqDiff, Nat.reduceSub, Nat.reduceAdd, ↓reduceIte, if_true, if_false, Bool.false_eq_true, reduceCtorEq, Nat.le_refl, decide_true, decide_false, Bool.not_true, Bool.not_false, decide_eq_true_eq, decide_eq_false_iff_not, eq_self, Bool.false_and, Bool.and_false, Bool.not_eq_true', ite_self]
                · simp only [hrun, bs_append, bs_cons, bs_nil, List.append_nil, ↓wDn, wUp0, wUp1, wUp2, Option.map_none, Int.reduceLE, Int.reduceLT, Int.reduceEq, Int.reduceNeg, Int.reduceToNat, Nat.reduceLeDiff, aresults, aresult, tupled, Bool.and_self, Bool.true_and, Bool.and_true, true_and, and_true, Option.bind_some, Option.bind_none, Option.getD_some, Option.getD_none, Option.map_some, List.getElem?_toArray, List.getElem?_cons_zero, List.getElem?_cons_succ, List.getElem?_nil, List.map_cons, List.map_nil, List.all_cons, List.all_nil, Nat.reduceLT, Nat.reduceEqDiff, Nat.reduceSub, Nat.reduceAdd, ↓reduceIte, if_true, if_false, Bool.false_eq_true, reduceCtorEq, Nat.le_refl, decide_true, decide_false, Bool.not_true, Bool.not_false, decide_eq_true_eq, decide_eq_false_iff_not, eq_self, Bool.false_and, Bool.and_false, Bool.not_eq_true', ite_self]
                · simp only [g10, wrap64 ((i : Int) + 1) (by omega) (by omega), ↓wDn, wUp0, wUp1, wUp2, Option.map_none, Int.reduceLE, Int.reduceLT, Int.reduceEq, Int.reduceNeg, Int.reduceToNat, Nat.reduceLeDiff, aresults, aresult, tupled, Bool.and_self, Bool.true_and, Bool.and_true, true_and, and_true, Option.bind_some, Option.bind_none, Option.getD_some, Option.getD_none, Option.map_some, List.getElem?_toArray, List.getElem?_cons_zero, List.getElem?_cons_succ, List.getElem?_nil, List.map_cons, List.map_nil, List.all_cons, List.all_nil, Nat.reduceLT, Nat.reduceEqDiff, Nat.reduceSub, Nat.reduceAdd, ↓reduceIte, if_true, if_false, Bool.false_eq_true, reduceCtorEq, Nat.le_refl, decide_true, decide_false, Bool.not_true, Bool.not_false, decide_eq_true_eq, decide_eq_false_iff_not, eq_self, Bool.false_and, Bool.and_false, Bool.not_eq_true', ite_self]; rfl
                · have : 20 - i = (20 - (i + 1)) + 1 := by omega
                  rw [← hgo, this]
                  conv => rhs; unfold Nm.go
                  rw [if_pos ⟨c20, hor⟩, hbb, hstep]
          · have d2z : ¬ (x.parts.length : Int) < 5 := by omega
            have hl5 := ld5 S' l b i (hcb cl) cl
            rw [hbb] at hl5
            simp only [g0, g5, g6, g7, g8, g9, g10, c20z, clz, hv.len, len_slc und23, wl, hia, hld', strNil, hcm, hv.idx _ i cl, hl5, conv_int ty5 ty3, wrap64N bb (by omega), rem10, d1z, d2z, ↓wDn, wUp0, wUp1, wUp2, Option.map_none, Int.reduceLE, Int.reduceLT, Int.reduceEq, Int.reduceNeg, Int.reduceToNat, Nat.reduceLeDiff, aresults, aresult, tupled, Bool.and_self, Bool.true_and, Bool.and_true, true_and, and_true, Option.bind_some, Option.bind_none, Option.getD_some, Option.getD_none, Option.map_some, List.getElem?_toArray, List.getElem?_cons_zero, List.getElem?_cons_succ, List.getElem?_nil, List.map_cons, List.map_nil, List.all_cons, List.all_nil, Nat.reduceLT, Nat.reduceEqDiff, Nat.reduceSub, Nat.reduceAdd, ↓reduceIte, if_true, if_false, Bool.false_eq_true, reduceCtorEq, Nat.le_refl, decide_true, decide_false, Bool.not_true, Bool.not_false, decide_eq_true_eq, decide_eq_false_iff_not, eq_self, Bool.false_and, Bool.and_false, Bool.not_eq_true', ite_self]
            have hk : bb % 10 < 10 := by omega
            have hlenB : ∀ f, (Nm.runes f x).length = i → (bs (Nm.runes f x)).length + (encR (f (bb % 10))).length < 2^62 := by
              intro f hf
              have := bs_len (Nm.runes f x)
              rw [encR_len]
              split <;> omega
            obtain ⟨S5, st5, w5, n5, low5, get5, row5⟩ := Row.store (S := ⟨S'.n, S'.h, S'.n⟩) (pb := pb) (cap := cap) (cs := x.parts) hR hW (by have := wf_base hS; omega) (bs (x.cur.map smaF) ++ encR (smaF (bb % 10)))
            rw [show x.parts.length - 1 = x.ps.length by omega] at st5
            have hcl : (bs (x.cur.map smaF)).length + (encR (smaF (bb % 10))).length < 2^62 := by
              have := bs_len (x.cur.map smaF)
              have h3 : (x.cur.map smaF).length ≤ i := by rw [← hrl2]; simp [Nm.runes]
              rw [encR_len]
              split <;> omega
            have hcat0 := fun t x' y' S => cat t x' y' (bs (x.cur.map smaF)) (encR (smaF (bb % 10))) hcl S
            simp only [g5, g6, ia38 _ S.n (bb % 10) hk, ia38 _ (S.n + 1) (bb % 10) hk, ld38 bigF S' S.n (bb % 10) hT1 hk, ld38 smaF S' (S.n + 1) (bb % 10) hT2 hk, cat _ _ _ _ _ (hlenB bigF hrl1), cat _ _ _ _ _ (hlenB smaF hrl2), g5, g6, g7, g8, g9, g10, len_slc und23, wl, hia, hld, hcat0, st5, ↓wDn, wUp0, wUp1, wUp2, Option.map_none, Int.reduceLE, Int.reduceLT, Int.reduceEq, Int.reduceNeg, Int.reduceToNat, Nat.reduceLeDiff, aresults, aresult, tupled, Bool.and_self, Bool.true_and, Bool.and_true, true_and, and_true, Option.bind_some, Option.bind_none, Option.getD_some, Option.getD_none, Option.map_some, List.getElem?_toArray, List.getElem?_cons_zero, List.getElem?_cons_succ, List.getElem?_nil, List.map_cons, List.map_nil, List.all_cons, List.all_nil, Nat.reduceLT, Nat.reduceEqDiff, Nat.reduceSub, Nat.reduceAdd, ↓reduceIte, if_true, if_false, Bool.false_eq_true, reduceCtorEq, Nat.le_refl, decide_true, decide_false, Bool.not_true, Bool.not_false, decide_eq_true_eq, decide_eq_false_iff_not, eq_self, Bool.false_and, Bool.and_false, Bool.not_eq_true', ite_self]
            refine ⟨aordered_one _ _ 11 ?_ (by kernel_rfl), ?_⟩
            · intro y hy hne
              simp only [List.zipIdx_cons, List.zipIdx_nil, List.mem_cons, List.not_mem_nil, or_false] at hy
              rcases hy with rfl | rfl | rfl | rfl | rfl | rfl | rfl | rfl | rfl | rfl | rfl | rfl
              all_goals first | exact acls_neq _ _ _ (Nat.le_refl _) | exact absurd rfl hne
            · have hstep : x.step i bb = ⟨x.ps, x.cur ++ [bb % 10]⟩ := by unfold Nm.step; rw [if_neg hcur0, if_neg (by omega)]
              refine w_next (i + 1, x.step i bb) (by simp only; omega) ?_
              rw [hstep]
              have hn5 : S5.n = S'.n := n5
              have hrun : ∀ f, Nm.runes f ⟨x.ps, x.cur ++ [bb % 10]⟩ = Nm.runes f x ++ [f (bb % 10)] := by intro f; simp [Nm.runes]
              refine ⟨?_, by simp only [↓wDn, wUp0, wUp1, wUp2, Option.map_none, Int.reduceLE, Int.reduceLT, Int.reduceEq, Int.reduceNeg, Int.reduceToNat, Nat.reduceLeDiff, aresults, aresult, tupled, Bool.and_self, Bool.true_and, Bool.and_true, true_and, and_true, Option.bind_some, Option.bind_none, Option.getD_some, Option.getD_none, Option.map_some, List.getElem?_toArray, List.getElem?_cons_zero, List.getElem?_cons_succ, List.getElem?_nil, List.map_cons, List.map_nil, List.all_cons, List.all_nil, Nat.reduceLT, Nat.reduceEqDiff, Nat.reduceSub, Nat.reduceAdd, ↓reduceIte, if_true, if_false, Bool.false_eq_true, reduceCtorEq, Nat.le_refl, decide_true, decide_false, Bool.not_true, Bool.not_false, decide_eq_true_eq, decide_eq_false_iff_not, eq_self, Bool.false_and, Bool.and_false, Bool.not_eq_true', ite_self]; omega, ?_, ?_, ?_, ?_, ⟨pb, cap, hpb, ?_, ?_⟩, ?_, ?_, ?_, ?_, ?_, ?_, by simp only; omega, by simp, ?_, by simpa using hps, by rw [hrun]; simp [hrl1], by rw [hrun]; simp [hrl2]⟩
              · simp only [w5, ↓wDn, wUp0, wUp1, wUp2, Option.map_none, Int.reduceLE, Int.reduceLT, Int.reduceEq, Int.reduceNeg, Int.reduceToNat, Nat.reduceLeDiff, aresults, aresult, tupled, Bool.and_self, Bool.true_and, Bool.and_true, true_and, and_true, Option.bind_some, Option.bind_none, Option.getD_some, Option.getD_none, Option.map_some, List.getElem?_toArray, List.getElem?_cons_zero, List.getElem?_cons_succ, List.getElem?_nil, List.map_cons, List.map_nil, List.all_cons, List.all_nil, Nat.reduceLT, Nat.reduceEqDiff, Nat.reduceSub, Nat.reduceAdd, ↓reduceIte, if_true, if_false, Bool.false_eq_true, reduceCtorEq, Nat.le_refl, decide_true, decide_false, Bool.not_true, Bool.not_false, decide_eq_true_eq, decide_eq_false_iff_not, eq_self, Bool.false_and, Bool.and_false, Bool.not_eq_true', ite_self]
              · simp only [low5, hlow, hn, ↓wDn, wUp0, wUp1, wUp2, Option.map_none, Int.reduceLE, Int.reduceLT, Int.reduceEq, Int.reduceNeg, Int.reduceToNat, Nat.reduceLeDiff, aresults, aresult, tupled, Bool.and_self, Bool.true_and, Bool.and_true, true_and, and_true, Option.bind_some, Option.bind_none, Option.getD_some, Option.getD_none, Option.map_some, List.getElem?_toArray, List.getElem?_cons_zero, List.getElem?_cons_succ, List.getElem?_nil, List.map_cons, List.map_nil, List.all_cons, List.all_nil, Nat.reduceLT, Nat.reduceEqDiff, Nat.reduceSub, Nat.reduceAdd, ↓reduceIte, if_true, if_false, Bool.false_eq_true, reduceCtorEq, Nat.le_refl, decide_true, decide_false, Bool.not_true, Bool.not_false, decide_eq_true_eq, decide_eq_false_iff_not, eq_self, Bool.false_and, Bool.and_false, Bool.not_eq_true', ite_self]; omega
              · intro b' hb'
                rw [get_mk, get5 b' (by omega)]
                exact hold b' hb'
              · rw [get_mk, get5 _ (by omega)]
                exact hT1
              · rw [get_mk, get5 _ (by omega)]
                exact hT2
              · have hp2 : Nm.parts ⟨x.ps, x.cur ++ [bb % 10]⟩ = x.parts.dropLast ++ [bs (x.cur.map smaF) ++ encR (smaF (bb % 10))] := by simp [Nm.parts, bs]
                rw [hp2]
                exact row5
              · have hp3 : (Nm.parts ⟨x.ps, x.cur ++ [bb % 10]⟩).length = x.parts.length := by simp [Nm.parts]
                simp only [hp3, g9, ↓wDn, wUp0, wUp1, wUp2, Option.map_none, Int.reduceLE, Int.reduceLT, Int.reduceEq, Int.reduceNeg, Int.reduceToNat, Nat.reduceLeDiff, aresults, aresult, tupled, Bool.and_self, Bool.true_and, Bool.and_true, true_and, and_true, Option.bind_some, Option.bind_none, Option.getD_some, Option.getD_none, Option.map_some, List.getElem?_toArray, List.getElem?_cons_zero, List.getElem?_cons_succ, List.getElem?_nil, List.map_cons, List.map_nil, List.all_cons, List.all_nil, Nat.reduceLT, Nat.reduceEqDiff, Nat.reduceSub, Nat.reduceAdd, ↓reduceIte, if_true, if_false, Bool.false_eq_true, reduceCtorEq, Nat.le_refl, decide_true, decide_false, Bool.not_true, Bool.not_false, decide_eq_true_eq, decide_eq_false_iff_not, eq_self, Bool.false_and, Bool.and_false, Bool.not_eq_true', ite_self]
              · simp only [g0, ↓wDn, wUp0, wUp1, wUp2, Option.map_none, Int.reduceLE, Int.reduceLT, Int.reduceEq, Int.reduceNeg, Int.reduceToNat, Nat.reduceLeDiff, aresults, aresult, tupled, Bool.and_self, Bool.true_and, Bool.and_true, true_and, and_true, Option.bind_some, Option.bind_none, Option.getD_some, Option.getD_none, Option.map_some, List.getElem?_toArray, List.getElem?_cons_zero, List.getElem?_cons_succ, List.getElem?_nil, List.map_cons, List.map_nil, List.all_cons, List.all_nil, Nat.reduceLT, Nat.reduceEqDiff, Nat.reduceSub, Nat.reduceAdd, ↓reduceIte, if_true, if_false, Bool.false_eq_true, reduceCtorEq, Nat.le_refl, decide_true, decide_false, Bool.not_true, Bool.not_false, decide_eq_true_eq, decide_eq_false_iff_not, eq_self, Bool.false_and, Bool.and_false, Bool.not_eq_true', ite_self]
              · simp only [g5, ↓wDn, wUp0, wUp1, wUp2, Option.map_none, Int.reduceLE, Int.reduceLT, Int.reduceEq, Int.reduceNeg, Int.reduceToNat, Nat.reduceLeDiff, aresults, aresult, tupled, Bool.and_self, Bool.true_and, Bool.and_true, true_and, and_true, Option.bind_some, Option.bind_none, Option.getD_some, Option.getD_none, Option.map_some, List.getElem?_toArray, List.getElem?_cons_zero, List.getElem?_cons_succ, List.getElem?_nil, List.map_cons, List.map_nil, List.all_cons, List.all_nil, Nat.reduceLT, Nat.reduceEqDiff, Nat.reduceSub, Nat.reduceAdd, ↓reduceIte, if_true, if_false, Bool.false_eq_true, reduceCtorEq, Nat.le_refl, decide_true, decide_false, Bool.not_true, Bool.not_false, decide_eq_true_eq, decide_eq_false_iff_not, eq_self, Bool.false_and, Bool.and_false, Bool.not_eq_true', ite_self]
              · simp only [g6, ↓wDn, wUp0, wUp1, wUp2, Option.map_none, Int.reduceLE, Int.reduceLT, Int.reduceEq, Int.reduceNeg, Int.reduceToNat, Nat.reduceLeDiff, aresults, aresult, tupled, Bool.and_self, Bool.true_and, Bool.and_true, true_and, and_true, Option.bind_some, Option.bind_none, Option.getD_some, Option.getD_none, Option.map_some, List.getElem?_toArray, List.getElem?_cons_zero, List.getElem?_cons_succ, List.getElem?_nil, List.map_cons, List.map_nil, List.all_cons, List.all_nil, Nat.reduceLT, Nat.reduceEqDiff, Nat.reduceSub, Nat.reduceAdd, ↓reduceIte, if_true, if_false, Bool.false_eq_true, reduceCtorEq, Nat.le_refl, decide_true, decide_false, Bool.not_true, Bool.not_false, decide_eq_true_eq, decide_eq_false_iff_not, eq_self, Bool.false_and, Bool.and_false, Bool.not_eq_true', ite_self]
              · simp only [hrun, bs_append, bs_cons, bs_nil, List.append_nil, ↓wDn, wUp0, wUp1, wUp2, Option.map_none, Int.reduceLE, Int.reduceLT, Int.reduceEq, Int.reduceNeg, Int.reduceToNat, Nat.reduceLeDiff, aresults, aresult, tupled, Bool.and_self, Bool.true_and, Bool.and_true, true_and, and_true, Option.bind_some, Option.bind_none, Option.getD_some, Option.getD_none, Option.map_some, List.getElem?_toArray, List.getElem?_cons_zero, List.getElem?_cons_succ, List.getElem?_nil, List.map_cons, List.map_nil, List.all_cons, List.all_nil, Nat.reduceLT, Nat.reduceEqDiff, Nat.reduceSub, Nat.reduceAdd, ↓reduceIte, if_true, if_false, Bool.false_eq_true, reduceCtorEq, Nat.le_refl, decide_true, decide_false, Bool.not_true, Bool.not_false, decide_eq_true_eq, decide_eq_false_iff_not, eq_self, Bool.false_and, Bool.and_false, Bool.not_eq_true', ite_self]
              · simp only [hrun, bs_append, bs_cons, bs_nil, List.append_nil, ↓wDn, wUp0, wUp1, wUp2, Option.map_none, Int.reduceLE, Int.reduceLT, Int.reduceEq, Int.reduceNeg, Int.reduceToNat, Nat.reduceLeDiff, aresults, aresult, tupled, Bool.and_self, Bool.true_and, Bool.and_true, true_and, and_true, Option.bind_some, Option.bind_none, Option.getD_some, Option.getD_none, Option.map_some, List.getElem?_toArray, List.getElem?_cons_zero, List.getElem?_cons_succ, List.getElem?_nil, List.map_cons, List.map_nil, List.all_cons, List.all_nil, Nat.reduceLT, Nat.reduceEqDiff, Nat.reduceSub, Nat.reduceAdd, ↓reduceIte, if_true, if_false, Bool.false_eq_true, reduceCtorEq, Nat.le_refl, decide_true, decide_false, Bool.not_true, Bool.not_false, decide_eq_true_eq, decide_eq_false_iff_not, eq_self, Bool.false_and, Bool.and_false, Bool.not_eq_true', ite_self]
              · simp only [g10, wrap64 ((i : Int) + 1) (by omega) (by omega), ↓wDn, wUp0, wUp1, wUp2, Option.map_none, Int.reduceLE, Int.reduceLT, Int.reduceEq, Int.reduceNeg, Int.reduceToNat, Nat.reduceLeDiff, aresults, aresult, tupled, Bool.and_self, Bool.true_and, Bool.and_true, true_and, and_true, Option.bind_some, Option.bind_none, Option.getD_some, Option.getD_none, Option.map_some, List.getElem?_toArray, List.getElem?_cons_zero, List.getElem?_cons_succ, List.getElem?_nil, List.map_cons, List.map_nil, List.all_cons, List.all_nil, Nat.reduceLT, Nat.reduceEqDiff, Nat.reduceSub, Nat.reduceAdd, ↓reduceIte, if_true, if_false, Bool.false_eq_true, reduceCtorEq, Nat.le_refl, decide_true, decide_false, Bool.not_true, Bool.not_false, decide_eq_true_eq, decide_eq_false_iff_not, eq_self, Bool.false_and, Bool.and_false, Bool.not_eq_true', ite_self]; rfl
              · have : 20 - i = (20 - (i + 1)) + 1 := by omega
                rw [← hgo, this]
                conv => rhs; unfold Nm.go
                rw [if_pos ⟨c20, hor⟩, hbb, hstep]
        · have d1z : ¬ (229 : Int) < (bb : Int) := by omega
          have hl5 := ld5 S' l b i (hcb cl) cl
          rw [hbb] at hl5
          simp only [g0, g5, g6, g7, g8, g9, g10, c20z, clz, hv.len, len_slc und23, wl, hia, hld', strNil, hcm, hv.idx _ i cl, hl5, conv_int ty5 ty3, wrap64N bb (by omega), rem10, d1z, ↓wDn, wUp0, wUp1, wUp2, Option.map_none, Int.reduceLE, Int.reduceLT, Int.reduceEq, Int.reduceNeg, Int.reduceToNat, Nat.reduceLeDiff, aresults, aresult, tupled, Bool.and_self, Bool.true_and, Bool.and_true, true_and, and_true, Option.bind_some, Option.bind_none, Option.getD_some, Option.getD_none, Option.map_some, List.getElem?_toArray, List.getElem?_cons_zero, List.getElem?_cons_succ, List.getElem?_nil, List.map_cons, List.map_nil, List.all_cons, List.all_nil, Nat.reduceLT, Nat.reduceEqDiff, Nat.reduceSub, Nat.reduceAdd, ↓reduceIte, if_true, if_false, Bool.false_eq_true, reduceCtorEq, Nat.le_refl, decide_true, decide_false, Bool.not_true, Bool.not_false, decide_eq_true_eq, decide_eq_false_iff_not, eq_self, Bool.false_and, Bool.and_false, Bool.not_eq_true', ite_self]
          have hk : bb % 10 < 10 := by omega
          have hlenB : ∀ f, (Nm.runes f x).length = i → (bs (Nm.runes f x)).length + (encR (f (bb % 10))).length < 2^62 := by
            intro f hf
            have := bs_len (Nm.runes f x)
            rw [encR_len]
            split <;> omega
          obtain ⟨S5, st5, w5, n5, low5, get5, row5⟩ := Row.store (S := ⟨S'.n, S'.h, S'.n⟩) (pb := pb) (cap := cap) (cs := x.parts) hR hW (by have := wf_base hS; omega) (bs (x.cur.map smaF) ++ encR (smaF (bb % 10)))
          rw [show x.parts.length - 1 = x.ps.length by omega] at st5
          have hcl : (bs (x.cur.map smaF)).length + (encR (smaF (bb % 10))).length < 2^62 := by
            have := bs_len (x.cur.map smaF)
            have h3 : (x.cur.map smaF).length ≤ i := by rw [← hrl2]; simp [Nm.runes]
            rw [encR_len]
            split <;> omega
          have hcat0 := fun t x' y' S => cat t x' y' (bs (x.cur.map smaF)) (encR (smaF (bb % 10))) hcl S
          simp only [g5, g6, ia38 _ S.n (bb % 10) hk, ia38 _ (S.n + 1) (bb % 10) hk, ld38 bigF S' S.n (bb % 10) hT1 hk, ld38 smaF S' (S.n + 1) (bb % 10) hT2 hk, cat _ _ _ _ _ (hlenB bigF hrl1), cat _ _ _ _ _ (hlenB smaF hrl2), g5, g6, g7, g8, g9, g10, len_slc und23, wl, hia, hld, hcat0, st5, ↓wDn, wUp0, wUp1, wUp2, Option.map_none, Int.reduceLE, Int.reduceLT, Int.reduceEq, Int.reduceNeg, Int.reduceToNat, Nat.reduceLeDiff, aresults, aresult, tupled, Bool.and_self, Bool.true_and, Bool.and_true, true_and, and_true, Option.bind_some, Option.bind_none, Option.getD_some, Option.getD_none, Option.map_some, List.getElem?_toArray, List.getElem?_cons_zero, List.getElem?_cons_succ, List.getElem?_nil, List.map_cons, List.map_nil, List.all_cons, List.all_nil, Nat.reduceLT, Nat.reduceEqDiff, Nat.reduceSub, Nat.reduceAdd, ↓reduceIte, if_true, if_false, Bool.false_eq_true, reduceCtorEq, Nat.le_refl, decide_true, decide_false, Bool.not_true, Bool.not_false, decide_eq_true_eq, decide_eq_false_iff_not, eq_self, Bool.false_and, Bool.and_false, Bool.not_eq_true', ite_self]
          refine ⟨aordered_one _ _ 11 ?_ (by kernel_rfl), ?_⟩
          · intro y hy hne
            simp only [List.zipIdx_cons, List.zipIdx_nil, List.mem_cons, List.not_mem_nil, or_false] at hy
            rcases hy with rfl | rfl | rfl | rfl | rfl | rfl | rfl | rfl | rfl | rfl | rfl | rfl
            all_goals first | exact acls_neq _ _ _ (Nat.le_refl _) | exact absurd rfl hne
          · have hstep : x.step i bb = ⟨x.ps, x.cur ++ [bb % 10]⟩ := by unfold Nm.step; rw [if_neg hcur0, if_neg (by omega)]
            refine w_next (i + 1, x.step i bb) (by simp only; omega) ?_
            rw [hstep]
            have hn5 : S5.n = S'.n := n5
            have hrun : ∀ f, Nm.runes f ⟨x.ps, x.cur ++ [bb % 10]⟩ = Nm.runes f x ++ [f (bb % 10)] := by intro f; simp [Nm.runes]
            refine ⟨?_, by simp only [↓wDn, wUp0, wUp1, wUp2, Option.map_none, Int.reduceLE, Int.reduceLT, Int.reduceEq, Int.reduceNeg, Int.reduceToNat, Nat.reduceLeDiff, aresults, aresult, tupled, Bool.and_self, Bool.true_and, Bool.and_true, true_and, and_true, Option.bind_some, Option.bind_none, Option.getD_some, Option.getD_none, Option.map_some, List.getElem?_toArray, List.getElem?_cons_zero, List.getElem?_cons_succ, List.getElem?_nil, List.map_cons, List.map_nil, List.all_cons, List.all_nil, Nat.reduceLT, Nat.reduceEqDiff, Nat.reduceSub, Nat.reduceAdd, ↓reduceIte, if_true, if_false, Bool.false_eq_true, reduceCtorEq, Nat.le_refl, decide_true, decide_false, Bool.not_true, Bool.not_false, decide_eq_true_eq, decide_eq_false_iff_not, eq_self, Bool.false_and, Bool.and_false, Bool.not_eq_true', ite_self]; omega, ?_, ?_, ?_, ?_, ⟨pb, cap, hpb, ?_, ?_⟩, ?_, ?_, ?_, ?_, ?_, ?_, by simp only; omega, by simp, ?_, by simpa using hps, by rw [hrun]; simp [hrl1], by rw [hrun]; simp [hrl2]⟩
            · simp only [w5, ↓wDn, wUp0, wUp1, wUp2, Option.map_none, Int.reduceLE, Int.reduceLT, Int.reduceEq, Int.reduceNeg, Int.reduceToNat, Nat.reduceLeDiff, aresults, aresult, tupled, Bool.and_self, Bool.true_and, Bool.and_true, true_and, and_true, Option.bind_some, Option.bind_none, Option.getD_some, Option.getD_none, Option.map_some, List.getElem?_toArray, List.getElem?_cons_zero, List.getElem?_cons_succ, List.getElem?_nil, List.map_cons, List.map_nil, List.all_cons, List.all_nil, Nat.reduceLT, Nat.reduceEqDiff, Nat.reduceSub, Nat.reduceAdd, ↓reduceIte, if_true, if_false, Bool.false_eq_true, reduceCtorEq, Nat.le_refl, decide_true, decide_false, Bool.not_true, Bool.not_false, decide_eq_true_eq, decide_eq_false_iff_not, eq_self, Bool.false_and, Bool.and_false, Bool.not_eq_true', ite_self]
            · simp only [low5, hlow, hn, ↓wDn, wUp0, wUp1, wUp2, Option.map_none, Int.reduceLE, Int.reduceLT, Int.reduceEq, Int.reduceNeg, Int.reduceToNat, Nat.reduceLeDiff, aresults, aresult, tupled, Bool.and_self, Bool.true_and, Bool.and_true, true_and, and_true, Option.bind_some, Option.bind_none, Option.getD_some, Option.getD_none, Option.map_some, List.getElem?_toArray, List.getElem?_cons_zero, List.getElem?_cons_succ, List.getElem?_nil, List.map_cons, List.map_nil, List.all_cons, List.all_nil, Nat.reduceLT, Nat.reduceEqDiff, Nat.reduceSub, Nat.reduceAdd, ↓reduceIte, if_true, if_false, Bool.false_eq_true, reduceCtorEq, Nat.le_refl, decide_true, decide_false, Bool.not_true, Bool.not_false, decide_eq_true_eq, decide_eq_false_iff_not, eq_self, Bool.false_and, Bool.and_false, Bool.not_eq_true', ite_self]; omega
            · intro b' hb'
              rw [get_mk, get5 b' (by omega)]
              exact hold b' hb'
            · rw [get_mk, get5 _ (by omega)]
              exact hT1
            · rw [get_mk, get5 _ (by omega)]
              exact hT2
            · have hp2 : Nm.parts ⟨x.ps, x.cur ++ [bb % 10]⟩ = x.parts.dropLast ++ [bs (x.cur.map smaF) ++ encR (smaF (bb % 10))] := by simp [Nm.parts, bs]
              rw [hp2]
              exact row5
            · have hp3 : (Nm.parts ⟨x.ps, x.cur ++ [bb % 10]⟩).length = x.parts.length := by simp [Nm.parts]
              simp only [hp3, g9, ↓wDn, wUp0, wUp1, wUp2, Option.map_none, Int.reduceLE, Int.reduceLT, Int.reduceEq, Int.reduceNeg, Int.reduceToNat, Nat.reduceLeDiff, aresults, aresult, tupled, Bool.and_self, Bool.true_and, Bool.and_true, true_and, and_true, Option.bind_some, Option.bind_none, Option.getD_some, Option.getD_none, Option.map_some, List.getElem?_toArray, List.getElem?_cons_zero, List.getElem?_cons_succ, List.getElem?_nil, List.map_cons, List.map_nil, List.all_cons, List.all_nil, Nat.reduceLT, Nat.reduceEqDiff, Nat.reduceSub, Nat.reduceAdd, ↓reduceIte, if_true, if_false, Bool.false_eq_true, reduceCtorEq, Nat.le_refl, decide_true, decide_false, Bool.not_true, Bool.not_false, decide_eq_true_eq, decide_eq_false_iff_not, eq_self, Bool.false_and, Bool.and_false, Bool.not_eq_true', ite_self]
            · simp only [g0, ↓wDn, wUp0, wUp1, wUp2, Option.map_none, Int.reduceLE, Int.reduceLT, Int.reduceEq, Int.reduceNeg, Int.reduceToNat, Nat.reduceLeDiff, aresults, aresult, tupled, Bool.and_self, Bool.true_and, Bool.and_true, true_and, and_true, Option.bind_some, Option.bind_none, Option.getD_some, Option.getD_none, Option.map_some, List.getElem?_toArray, List.getElem?_cons_zero, List.getElem?_cons_succ, List.getElem?_nil, List.map_cons, List.map_nil, List.all_cons, List.all_nil, Nat.reduceLT, Nat.reduceEqDiff, Nat.reduceSub, Nat.reduceAdd, ↓reduceIte, if_true, if_false, Bool.false_eq_true, reduceCtorEq, Nat.le_refl, decide_true, decide_false, Bool.not_true, Bool.not_false, decide_eq_true_eq, decide_eq_false_iff_not, eq_self, Bool.false_and, Bool.and_false, Bool.not_eq_true', ite_self]
            · simp only [g5, ↓wDn, wUp0, wUp1, wUp2, Option.map_none, Int.reduceLE, Int.reduceLT, Int.reduceEq, Int.reduceNeg, Int.reduceToNat, Nat.reduceLeDiff, aresults, aresult, tupled, Bool.and_self, Bool.true_and, Bool.and_true, true_and, and_true, Option.bind_some, Option.bind_none, Option.getD_some, Option.getD_none, Option.map_some, List.getElem?_toArray, List.getElem?_cons_zero, List.getElem?_cons_succ, List.getElem?_nil, List.map_cons, List.map_nil, List.all_cons, List.all_nil, Nat.reduceLT, Nat.reduceEqDiff, Nat.reduceSub, Nat.reduceAdd, ↓reduceIte, if_true, if_false, Bool.false_eq_true, reduceCtorEq, Nat.le_refl, decide_true, decide_false, Bool.not_true, Bool.not_false, decide_eq_true_eq, decide_eq_false_iff_not, eq_self, Bool.false_and, Bool.and_false, Bool.not_eq_true', ite_self]
            · simp only [g6, ↓wDn, wUp0, wUp1, wUp2, Option.map_none, Int.reduceLE, Int.reduceLT, Int.reduceEq, Int.reduceNeg, Int.reduceToNat, Nat.reduceLeDiff, aresults, aresult, tupled, Bool.and_self, Bool.true_and, Bool.and_true, true_and, and_true, Option.bind_some, Option.bind_none, Option.getD_some, Option.getD_none, Option.map_some, List.getElem?_toArray, List.getElem?_cons_zero, List.getElem?_cons_succ, List.getElem?_nil, List.map_cons, List.map_nil, List.all_cons, List.all_nil, Nat.reduceLT, Nat.reduceEqDiff, Nat.reduceSub, Nat.reduceAdd, ↓reduceIte, if_true, if_false, Bool.false_eq_true, reduceCtorEq, Nat.le_refl, decide_true, decide_false, Bool.not_true, Bool.not_false, decide_eq_true_eq, decide_eq_false_iff_not, eq_self, Bool.false_and, Bool.and_false, Bool.not_eq_true', ite_self]
            · simp only [hrun, bs_append, bs_cons, bs_nil, List.append_nil, ↓wDn, wUp0, wUp1, wUp2, Option.map_none, Int.reduceLE, Int.reduceLT, Int.reduceEq, Int.reduceNeg, Int.reduceToNat, Nat.reduceLeDiff, aresults, aresult, tupled, Bool.and_self, Bool.true_and, Bool.and_true, true_and, and_true, Option.bind_some, Option.bind_none, Option.getD_some, Option.getD_none, Option.map_some, List.getElem?_toArray, List.getElem?_cons_zero, List.getElem?_cons_succ, List.getElem?_nil, List.map_cons, List.map_nil, List.all_cons, List.all_nil, Nat.reduceLT, Nat.reduceEqDiff, Nat.reduceSub, Nat.reduceAdd, ↓reduceIte, if_true, if_false, Bool.false_eq_true, reduceCtorEq, Nat.le_refl, decide_true, decide_false, Bool.not_true, Bool.not_false, decide_eq_true_eq, decide_eq_false_iff_not, eq_self, Bool.false_and, Bool.and_false, Bool.not_eq_true', ite_self]
            · simp only [hrun, bs_append, bs_cons, bs_nil, List.append_nil, ↓wDn, wUp0, wUp1, wUp2, Option.map_none, Int.reduceLE, Int.reduceLT, Int.reduceEq, Int.reduceNeg, Int.reduceToNat, Nat.reduceLeDiff, aresults, aresult, tupled, Bool.and_self, Bool.true_and, Bool.and_true, true_and, and_true, Option.bind_some, Option.bind_none, Option.getD_some, Option.getD_none, Option.map_some, List.getElem?_toArray, List.getElem?_cons_zero, List.getElem?_cons_succ, List.getElem?_nil, List.map_cons, List.map_nil, List.all_cons, List.all_nil, Nat.reduceLT, Nat.reduceEqDiff, Nat.reduceSub, Nat.reduceAdd, ↓reduceIte, if_true, if_false, Bool.false_eq_true, reduceCtorEq, Nat.le_refl, decide_true, decide_false, Bool.not_true, Bool.not_false, decide_eq_true_eq, decide_eq_false_iff_not, eq_self, Bool.false_and, Bool.and_false, Bool.not_eq_true', ite_self]
            · simp only [g10, wrap64 ((i : Int) + 1) (by omega) (by omega), ↓wDn, wUp0, wUp1, wUp2, Option.map_none, Int.reduceLE, Int.reduceLT, Int.reduceEq, Int.reduceNeg, Int.reduceToNat, Nat.reduceLeDiff, aresults, aresult, tupled, Bool.and_self, Bool.true_and, Bool.and_true, true_and, and_true, Option.bind_some, Option.bind_none, Option.getD_some, Option.getD_none, Option.map_some, List.getElem?_toArray, List.getElem?_cons_zero, List.getElem?_cons_succ, List.getElem?_nil, List.map_cons, List.map_nil, List.all_cons, List.all_nil, Nat.reduceLT, Nat.reduceEqDiff, Nat.reduceSub, Nat.reduceAdd, ↓reduceIte, if_true, if_false, Bool.false_eq_true, reduceCtorEq, Nat.le_refl, decide_true, decide_false, Bool.not_true, Bool.not_false, decide_eq_true_eq, decide_eq_false_iff_not, eq_self, Bool.false_and, Bool.and_false, Bool.not_eq_true', ite_self]; rfl
            · have : 20 - i = (20 - (i + 1)) + 1 := by omega
              rw [← hgo, this]
              conv => rhs; unfold Nm.go
              rw [if_pos ⟨c20, hor⟩, hbb, hstep]
    · have hx : x = Nm.of l := by
        rw [← hgo]
        cases h : 20 - i with
        | zero => rfl
        | succ k =>
          unfold Nm.go
          rw [if_neg C]
      by_cases c20 : i < 20
      · have c20z : (i : Int) < 20 := by omega
        have cl : ¬ (i : Int) < (l.length : Int) := by omega
        have ccur : ¬ x.cur.map smaF = [] := by intro h; exact C ⟨c20, .inr (List.map_eq_nil_iff.1 h)⟩
        simp only [g0, g5, g6, g7, g8, g9, g10, c20z, cl, hv.len, len_slc und23, wl, hia, hld', strNil, ccur, ↓wDn, wUp0, wUp1, wUp2, Option.map_none, Int.reduceLE, Int.reduceLT, Int.reduceEq, Int.reduceNeg, Int.reduceToNat, Nat.reduceLeDiff, aresults, aresult, tupled, Bool.and_self, Bool.true_and, Bool.and_true, true_and, and_true, Option.bind_some, Option.bind_none, Option.getD_some, Option.getD_none, Option.map_some, List.getElem?_toArray, List.getElem?_cons_zero, List.getElem?_cons_succ, List.getElem?_nil, List.map_cons, List.map_nil, List.all_cons, List.all_nil, Nat.reduceLT, Nat.reduceEqDiff, Nat.reduceSub, Nat.reduceAdd, ↓reduceIte, if_true, if_false, Bool.false_eq_true, reduceCtorEq, Nat.le_refl, decide_true, decide_false, Bool.not_true, Bool.not_false, decide_eq_true_eq, decide_eq_false_iff_not, eq_self, Bool.false_and, Bool.and_false, Bool.not_eq_true', ite_self]
        exact fin hx
      · have c20z : ¬ (i : Int) < 20 := by omega
        simp only [g0, g5, g6, g7, g8, g9, g10, c20z, ↓wDn, wUp0, wUp1, wUp2, Option.map_none, Int.reduceLE, Int.reduceLT, Int.reduceEq, Int.reduceNeg, Int.reduceToNat, Nat.reduceLeDiff, aresults, aresult, tupled, Bool.and_self, Bool.true_and, Bool.and_true, true_and, and_true, Option.bind_some, Option.bind_none, Option.getD_some, Option.getD_none, Option.map_some, List.getElem?_toArray, List.getElem?_cons_zero, List.getElem?_cons_succ, List.getElem?_nil, List.map_cons, List.map_nil, List.all_cons, List.all_nil, Nat.reduceLT, Nat.reduceEqDiff, Nat.reduceSub, Nat.reduceAdd, ↓reduceIte, if_true, if_false, Bool.false_eq_true, reduceCtorEq, Nat.le_refl, decide_true, decide_false, Bool.not_true, Bool.not_false, decide_eq_true_eq, decide_eq_false_iff_not, eq_self, Bool.false_and, Bool.and_false, Bool.not_eq_true', ite_self]
        exact fin hx
end Go.Abs

namespace Go.Abs
open Go Go.Proofs Go.RowKit
set_option linter.unusedSimpArgs false
set_option maxRecDepth 100000
/-! What `named` makes, in plain lists. -/
def OkP (p : List Nat) : Prop := ∃ k r, p = k :: r ∧ k < 8 ∧ ∀ j ∈ r, j < 10
theorem big_first : ∀ k, k < 8 → fstep true (bigF k) = some false := by decide
theorem big_next : ∀ k, k < 10 → fstep false (bigF k) = some false := by decide
theorem big_small (k : Nat) : smallN (bigF k) = smaF k := by
  unfold bigF smaF
  split <;> decide
theorem small_point : smallN 46 = 46 := by decide
theorem big_lt (k : Nat) : bigF k < 2048 := by
  unfold bigF
  split <;> decide
theorem sma_lt (k : Nat) : smaF k < 2048 := by
  unfold smaF
  split <;> decide
theorem big_no (k : Nat) : (46 : UInt8) ∉ encR (bigF k) := by
  unfold bigF
  split <;> decide
theorem sma_no (k : Nat) : (46 : UInt8) ∉ encR (smaF k) := by
  unfold smaF
  split <;> decide
theorem frun_tail : ∀ r : List Nat, (∀ j ∈ r, j < 10) → frun false (r.map bigF) = some false
  | [], _ => rfl
  | k :: r, h => by
    rw [List.map_cons]
    unfold frun
    rw [big_next k (h k (by simp))]
    exact frun_tail r fun j hj => h j (by simp [hj])
theorem frun_part {p : List Nat} (h : OkP p) : frun true (p.map bigF) = some false := by
  obtain ⟨k, r, rfl, hk, hr⟩ := h
  rw [List.map_cons]
  unfold frun
  rw [big_first k hk]
  exact frun_tail r hr
theorem frun_ps : ∀ ps : List (List Nat), (∀ p ∈ ps, OkP p) → frun true (ps.flatMap fun p => p.map bigF ++ [46]) = some true
  | [], _ => rfl
  | p :: ps, h => by
    rw [List.flatMap_cons, frun_append, frun_append, frun_part (h p (by simp))]
    exact frun_ps ps fun q hq => h q (by simp [hq])
structure Nm.OK (x : Nm) : Prop where
  ps : ∀ p ∈ x.ps, OkP p
  cur : OkP x.cur
  len : x.ps.length ≤ 4
  many : (x.runes bigF).length ≤ 20
theorem runes_small (x : Nm) : (x.runes bigF).map smallN = x.runes smaF := by
  have h1 : smallN ∘ bigF = smaF := funext big_small
  unfold Nm.runes
  simp only [List.map_append, List.map_flatMap, List.map_map, List.map_cons, List.map_nil, small_point, h1]
theorem go_ok (l : List UInt8) : ∀ (f : Nat) (x : Nm) (i : Nat), f + i = 20 → (∀ p ∈ x.ps, OkP p) → (x.cur = [] ∨ OkP x.cur) → x.ps.length ≤ 4 → (x.cur = [] → i < 20) → (x.runes bigF).length = i → (Nm.go l f x i).OK
  | 0, x, i, hi, h1, h2, h3, h4, h5 => by
    have hc : x.cur ≠ [] := fun h => by have := h4 h; omega
    exact ⟨h1, h2.resolve_left hc, h3, by show (x.runes bigF).length ≤ 20; omega⟩
  | f + 1, x, i, hi, h1, h2, h3, h4, h5 => by
    unfold Nm.go
    split
    · obtain ⟨b, hb⟩ : ∃ b, (l.getD i 0).toNat = b := ⟨_, rfl⟩
      rw [hb]
      unfold Nm.step
      split
      · rename_i hc
        refine go_ok l f _ (i + 1) (by omega) h1 (.inr ⟨b % 8, [], rfl, by omega, by simp⟩) h3 (by simp) ?_
        simp only [Nm.runes, hc, List.map_nil, List.append_nil] at h5 ⊢
        rw [List.length_append, h5]
        rfl
      · rename_i hc
        have hp := h2.resolve_left hc
        split
        · rename_i hq
          refine go_ok l f _ (i + 1) (by omega) ?_ (.inl rfl) (by simp only [List.length_append, List.length_cons, List.length_nil]; omega) (fun _ => by omega) ?_
          · intro p hp2
            rcases List.mem_append.1 hp2 with h | h
            · exact h1 p h
            · rw [List.mem_singleton.1 h]; exact hp
          · simp only [Nm.runes, List.flatMap_append, List.flatMap_cons, List.flatMap_nil, List.append_nil, List.map_nil, List.length_append, List.length_cons, List.length_nil] at h5 ⊢
            omega
        · refine go_ok l f _ (i + 1) (by omega) h1 (.inr ?_) h3 (by simp) ?_
          · obtain ⟨k, r, hk, hk8, hr⟩ := hp
            refine ⟨k, r ++ [b % 10], by simp [hk], hk8, ?_⟩
            intro j hj
            rcases List.mem_append.1 hj with h | h
            · exact hr j h
            · rw [List.mem_singleton.1 h]; omega
          · simp only [Nm.runes, List.map_append, List.length_append, List.map_cons, List.map_nil, List.length_cons, List.length_nil] at h5 ⊢
            omega
    · rename_i hn
      have hc : x.cur ≠ [] := fun h => hn ⟨by omega, .inr h⟩
      exact ⟨h1, h2.resolve_left hc, h3, by omega⟩
theorem nm_ok (l : List UInt8) : (Nm.of l).OK := go_ok l 20 ⟨[], []⟩ 0 rfl (by simp) (.inl rfl) (by simp) (by simp) rfl

/-! Cut at points. -/
theorem split_at : ∀ (a l : List UInt8), (46 : UInt8) ∉ a → splitB (a ++ 46 :: l) = a :: splitB l
  | [], l, _ => by
    conv => lhs; unfold splitB
    exact if_pos rfl
  | c :: a, l, h => by
    have hc : c ≠ 46 := fun he => h (by simp [he])
    have ih := split_at a l (fun hm => h (by simp [hm]))
    rw [List.cons_append]
    conv => lhs; unfold splitB
    rw [if_neg hc, ih]
theorem split_no : ∀ (a : List UInt8), (46 : UInt8) ∉ a → splitB a = [a]
  | [], _ => rfl
  | c :: a, h => by
    have hc : c ≠ 46 := fun he => h (by simp [he])
    have ih := split_no a (fun hm => h (by simp [hm]))
    unfold splitB
    rw [if_neg hc, ih]
theorem no_point {f : Nat → Nat} (hf : ∀ k, (46 : UInt8) ∉ encR (f k)) (p : List Nat) : (46 : UInt8) ∉ bs (p.map f) := by
  intro h
  obtain ⟨r, hr, hm⟩ := List.mem_flatMap.1 h
  obtain ⟨k, _, rfl⟩ := List.mem_map.1 hr
  exact hf k hm
theorem bs_point : bs [46] = [46] := by decide
theorem split_runes {f : Nat → Nat} (hf : ∀ k, (46 : UInt8) ∉ encR (f k)) (cur : List Nat) : ∀ ps : List (List Nat),
    splitB (bs ((ps.flatMap fun p => p.map f ++ [46]) ++ cur.map f)) = (ps ++ [cur]).map fun p => bs (p.map f)
  | [] => by simpa using split_no _ (no_point hf cur)
  | p :: ps => by
    rw [List.flatMap_cons, List.append_assoc, List.append_assoc, bs_append, bs_append, bs_point]
    rw [List.singleton_append, split_at _ _ (no_point hf p), split_runes hf cur ps]
    rfl
/-- The parts, by the one letters or the other ones. -/
def Nm.partsF (f : Nat → Nat) (x : Nm) : List (List UInt8) := (x.ps ++ [x.cur]).map fun p => bs (p.map f)
theorem nm_split {f : Nat → Nat} (hf : ∀ k, (46 : UInt8) ∉ encR (f k)) (x : Nm) : splitB (bs (x.runes f)) = x.partsF f := split_runes hf x.cur x.ps
theorem nm_parts (x : Nm) : x.partsF smaF = x.parts := rfl
theorem nm_count {f : Nat → Nat} (hf : ∀ k, (46 : UInt8) ∉ encR (f k)) (x : Nm) : Lib.countByte (bs (x.runes f)) 46 = x.ps.length := by
  have h := split_len (bs (x.runes f))
  rw [nm_split hf x] at h
  simp [Nm.partsF] at h
  omega
theorem runes_lt {f : Nat → Nat} (hf : ∀ k, f k < 2048) (x : Nm) : ∀ r ∈ x.runes f, r < 2048 := by
  intro r hr
  unfold Nm.runes at hr
  rcases List.mem_append.1 hr with h | h
  · obtain ⟨p, _, h⟩ := List.mem_flatMap.1 h
    rcases List.mem_append.1 h with h | h
    · obtain ⟨k, _, rfl⟩ := List.mem_map.1 h; exact hf k
    · rw [List.mem_singleton.1 h]; decide
  · obtain ⟨k, _, rfl⟩ := List.mem_map.1 h; exact hf k
theorem nm_formed {x : Nm} (h : x.OK) : frun true (x.runes bigF) = some false := by
  unfold Nm.runes
  rw [frun_append, frun_ps x.ps h.ps, Option.bind_some]
  exact frun_part h.cur
theorem nm_check {x : Nm} (h : x.OK) : checkR (x.runes bigF) = 0 := by
  unfold checkR
  have h1 : formedR (x.runes bigF) = true := by unfold formedR; rw [nm_formed h]; rfl
  have h2 := nm_count big_no x
  have h3 := h.len
  have h4 := h.many
  rw [h1, if_neg (by simp), if_neg (by omega)]
theorem sma_first : ∀ k, k < 8 → fstep true (smaF k) = some false := by decide
theorem sma_next : ∀ k, k < 10 → fstep false (smaF k) = some false := by decide
theorem frunS_tail : ∀ r : List Nat, (∀ j ∈ r, j < 10) → frun false (r.map smaF) = some false
  | [], _ => rfl
  | k :: r, h => by
    rw [List.map_cons]
    unfold frun
    rw [sma_next k (h k (by simp))]
    exact frunS_tail r fun j hj => h j (by simp [hj])
theorem frunS_part {p : List Nat} (h : OkP p) : frun true (p.map smaF) = some false := by
  obtain ⟨k, r, rfl, hk, hr⟩ := h
  rw [List.map_cons]
  unfold frun
  rw [sma_first k hk]
  exact frunS_tail r hr
theorem frunS_ps : ∀ ps : List (List Nat), (∀ p ∈ ps, OkP p) → frun true (ps.flatMap fun p => p.map smaF ++ [46]) = some true
  | [], _ => rfl
  | p :: ps, h => by
    rw [List.flatMap_cons, frun_append, frun_append, frunS_part (h p (by simp))]
    exact frunS_ps ps fun q hq => h q (by simp [hq])
theorem sma_many (x : Nm) : (x.runes smaF).length = (x.runes bigF).length := by rw [← runes_small, List.length_map]
theorem nm_checkS {x : Nm} (h : x.OK) : checkR (x.runes smaF) = 0 := by
  unfold checkR
  have h1 : formedR (x.runes smaF) = true := by
    unfold formedR Nm.runes
    rw [frun_append, frunS_ps x.ps h.ps, Option.bind_some, frunS_part h.cur]; rfl
  have h2 := nm_count sma_no x
  have h3 := h.len
  have h4 := h.many
  have h5 := sma_many x
  rw [h1, if_neg (by simp), if_neg (by omega)]
theorem bad_one (x : Nm) : checkR (49 :: x.runes bigF) = 3 := by
  unfold checkR formedR
  have : frun true (49 :: x.runes bigF) = none := rfl
  rw [this]
  rfl
theorem bad_point {x : Nm} (h : x.OK) : checkR (x.runes bigF ++ [46]) = 3 := by
  unfold checkR formedR
  rw [frun_append, nm_formed h]
  rfl
theorem bad_points {x : Nm} (h : x.OK) : checkR (x.runes bigF ++ [46, 46, 97]) = 3 := by
  unfold checkR formedR
  rw [frun_append, nm_formed h]
  rfl
theorem bad_none : checkR [] = 3 := by decide
theorem bs_inj : ∀ (rs qs : List Nat), (∀ r ∈ rs, r < 2048) → (∀ r ∈ qs, r < 2048) → bs rs = bs qs → rs = qs
  | [], [], _, _, _ => rfl
  | [], q :: qs, _, _, h => by
    have h2 := congrArg List.length h
    rw [bs_cons, List.length_append] at h2
    have := encR_pos q
    rw [bs_nil, List.length_nil] at h2
    omega
  | r :: rs, [], _, _, h => by
    have h2 := congrArg List.length h
    rw [bs_cons, List.length_append] at h2
    have := encR_pos r
    rw [bs_nil, List.length_nil] at h2
    omega
  | r :: rs, q :: qs, hr, hq, h => by
    rw [bs_cons, bs_cons] at h
    have e := congrArg Lib.decodeL h
    rw [decodeL_rune r (hr r (by simp)), decodeL_rune q (hq q (by simp))] at e
    have e1 : r = q := (Prod.mk.inj e).1
    subst e1
    have h3 := List.append_cancel_left h
    rw [bs_inj rs qs (fun x hx => hr x (by simp [hx])) (fun x hx => hq x (by simp [hx])) h3]
theorem cmpI_zero (a b : Int) : cmpI a b = 0 ↔ a = b := by
  unfold cmpI
  split
  · constructor
    · intro h; exact absurd h (by decide)
    · intro h; omega
  · split
    · constructor
      · intro h; exact absurd h (by decide)
      · intro h; omega
    · constructor
      · intro _; omega
      · intro _; rfl
theorem cmpL_zero : ∀ l m : List Int, cmpL l m = 0 ↔ l = m
  | [], [] => by simp [cmpL]
  | [], _ :: _ => by simp [cmpL]
  | _ :: _, [] => by simp [cmpL]
  | a :: l, b :: m => by
    unfold cmpL
    by_cases h : cmpI a b = 0
    · rw [if_pos h, cmpL_zero l m, (cmpI_zero a b).1 h]
      simp
    · rw [if_neg h]
      constructor
      · intro h2; exact absurd h2 h
      · intro h2; exact absurd ((cmpI_zero a b).2 (List.cons.inj h2).1) h
theorem ints_inj {rs qs : List Nat} (h : ints rs = ints qs) : rs = qs := by
  unfold ints at h
  exact List.map_inj_right (fun a b h => Int.ofNat.inj h) |>.1 h
/-- Same, told by comparing. -/
theorem same_cmp (x y : Nm) : (str (bs (x.runes smaF)) = str (bs (y.runes smaF))) ↔ cmpL (ints (x.runes smaF)) (ints (y.runes smaF)) = 0 := by
  rw [str_inj, cmpL_zero]
  constructor
  · intro h; rw [bs_inj _ _ (runes_lt sma_lt x) (runes_lt sma_lt y) h]
  · intro h; rw [ints_inj h]
theorem whole_valid (x : Nm) : Lib.validD (bs (x.runes bigF) ++ [255]) = false := by
  rw [valid_bs _ (runes_lt big_lt x)]
  rfl
end Go.Abs

namespace Go.Abs
open Go Go.Proofs Go.RowKit
set_option linter.unusedSimpArgs false
set_option maxRecDepth 100000
/-- Parts with points behind each. -/
def preB (x : Nm) (i : Nat) : List UInt8 := bs ((x.ps.take i).flatMap fun p => p.map bigF ++ [46])
theorem pre_zero (x : Nm) : preB x 0 = [] := rfl
theorem pre_succ (x : Nm) (i : Nat) (h : i < x.ps.length) : preB x (i + 1) = preB x i ++ (bs (x.ps[i].map bigF) ++ [46]) := by
  unfold preB
  rw [List.take_add_one, List.getElem?_eq_getElem h]
  simp only [Option.toList_some, List.flatMap_append, List.flatMap_cons, List.flatMap_nil, List.append_nil, bs_append, bs_point]
theorem pre_all (x : Nm) : preB x x.ps.length ++ bs (x.cur.map bigF) = bs (x.runes bigF) := by
  unfold preB Nm.runes
  rw [List.take_length, bs_append]
theorem pre_len {x : Nm} (h : x.OK) (i : Nat) : (preB x i).length ≤ 40 := by
  have h1 := h.many
  have h2 := bs_len ((x.ps.take i).flatMap fun p => p.map bigF ++ [46])
  have h3 : ((x.ps.take i).flatMap fun p => p.map bigF ++ [46]).length ≤ (x.runes bigF).length := by
    unfold Nm.runes
    conv => rhs; rw [← List.take_append_drop i x.ps]
    simp only [List.flatMap_append, List.length_append]
    omega
  unfold preB
  omega
theorem sum_mem (l : List Nat) (n : Nat) (h : n ∈ l) : n ≤ l.sum := by
  induction l with
  | nil => simp at h
  | cons a l ih =>
    rw [List.sum_cons]
    rcases List.mem_cons.1 h with rfl | h
    · omega
    · have := ih h; omega
theorem part_len {x : Nm} (h : x.OK) (p : List Nat) (hp : p ∈ x.ps ++ [x.cur]) : p.length ≤ 20 := by
  have h1 := h.many
  unfold Nm.runes at h1
  simp only [List.length_append, List.length_map] at h1
  rcases List.mem_append.1 hp with h2 | h2
  · have : ((x.ps.flatMap fun p => p.map bigF ++ [46])).length = (x.ps.map fun p => p.length + 1).sum := by
      rw [List.length_flatMap]
      congr 1
      apply List.map_congr_left
      intro a _
      simp
    have h3 : p.length + 1 ≤ (x.ps.map fun p => p.length + 1).sum := sum_mem _ _ (List.mem_map.2 ⟨p, h2, rfl⟩)
    omega
  · rw [List.mem_singleton.1 h2]; omega
theorem partsF_len (f : Nat → Nat) (x : Nm) : (x.partsF f).length = x.ps.length + 1 := by simp [Nm.partsF]
theorem partsF_at (f : Nat → Nat) (x : Nm) (i : Nat) (h : i < (x.partsF f).length) : (x.partsF f)[i] = bs (((x.ps ++ [x.cur])[i]'(by simpa [Nm.partsF] using h)).map f) := by
  unfold Nm.partsF
  exact List.getElem_map _
theorem fold_part (p : List Nat) : (p.map bigF).map smallN = p.map smaF := by
  have h1 : smallN ∘ bigF = smaF := funext big_small
  rw [List.map_map, h1]
end Go.Abs
