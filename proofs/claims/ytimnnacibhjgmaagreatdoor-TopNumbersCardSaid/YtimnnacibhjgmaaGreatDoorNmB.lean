/-
  TopNumbers answers true for every list of pieces and every bytes behind, and leaves them as they were; conditions: the listed package variables hold what the program's text lays (tied by the card).
-/
import Derived.Test.YtimnnacibhjgmaaGreatDoorNmA
import Derived.Test.YtimnnacibhjgmaaGreatDoorSx

namespace Go.Abs
open Go Go.Proofs Go.RowKit
set_option linter.unusedSimpArgs false
set_option maxRecDepth 100000
/-- An item of a row. -/
structure It where
  k : Nat
  n : Int
  s : List UInt8
/-- What may be written. -/
def It.OK (x : It) : Prop := (x.k = 1 ∧ 0 ≤ x.n ∧ x.n < 2 ^ 62 ∧ x.s = []) ∨ (x.k = 2 ∧ -2305843009213693952 ≤ x.n ∧ x.n ≤ 2305843009213693951 ∧ x.s = []) ∨ (x.k = 3 ∧ (x.n = 0 ∨ x.n = 1) ∧ x.s = []) ∨ (x.k = 4 ∧ x.n = 0 ∧ x.s.length ≤ 100)
def It.cells (x : It) : List Value := [.int .i64 x.k, .int .i64 x.n, .string (str x.s)]
def It.val (x : It) : Value := .agg ⟨x.cells⟩
def It.enc (x : It) : List UInt8 := if x.k = 1 then Abs.enc x.n.toNat else if x.k = 2 then Abs.enc (foldZ x.n) else if x.k = 3 then [UInt8.ofNat x.n.toNat] else Abs.enc x.s.length ++ x.s
theorem enc1 (n s) : It.enc ⟨1, n, s⟩ = Abs.enc n.toNat := rfl
theorem enc2 (n s) : It.enc ⟨2, n, s⟩ = Abs.enc (foldZ n) := rfl
theorem enc3 (n s) : It.enc ⟨3, n, s⟩ = [UInt8.ofNat n.toNat] := rfl
theorem enc4 (n s) : It.enc ⟨4, n, s⟩ = Abs.enc s.length ++ s := rfl
theorem und74 : E0.P.underlying 74 = some (.slice 78) := keepEq (by kernel_rfl)
theorem sz78 : szOf E0 78 = some 3 := keepEq (by kernel_rfl)
theorem fa78_0 (b o : Nat) : afieldAddr E0 78 (.pointer (some ⟨b, o, none⟩)) 0 = some (.pointer (some ⟨b, o, none⟩)) := keepEq (by kernel_rfl)
theorem fa78_1 (b o : Nat) : afieldAddr E0 78 (.pointer (some ⟨b, o, none⟩)) 1 = some (.pointer (some ⟨b, o + 1, none⟩)) := keepEq (by kernel_rfl)
theorem fa78_2 (b o : Nat) : afieldAddr E0 78 (.pointer (some ⟨b, o, none⟩)) 2 = some (.pointer (some ⟨b, o + 2, none⟩)) := keepEq (by kernel_rfl)
noncomputable def agg78 : Bool := match E0.P.underlying 78 with | some d => aggD d | none => false
theorem und78 : ∃ d, E0.P.underlying 78 = some d ∧ aggD d = true := by
  have h : agg78 = true := by kernel_rfl
  unfold agg78 at h
  split at h
  · rename_i d hd; exact ⟨d, hd, h⟩
  · cases h
theorem ld78 {S : St} {b o : Nat} {c : List Value} (hc : St.cells E0 S b = some c) (h : o + 3 ≤ c.length) : aload E0 S 78 (.pointer (some ⟨b, o, none⟩)) = some (.agg ⟨(c.drop o).take 3⟩) := by
  obtain ⟨d, hd, ha⟩ := und78
  exact load_agg hc hd ha sz78 h
theorem ldI {S : St} {b o : Nat} {c : List Value} {v : Value} (hc : St.cells E0 S b = some c) (h : c[o]? = some v) : aload E0 S 3 (.pointer (some ⟨b, o, none⟩)) = some v := by
  rw [load_cell hc ty3 rfl sz3, h]
theorem ldT {S : St} {b o : Nat} {c : List Value} {v : Value} (hc : St.cells E0 S b = some c) (h : c[o]? = some v) : aload E0 S 9 (.pointer (some ⟨b, o, none⟩)) = some v := by
  rw [load_cell hc ty9 rfl sz9, h]
theorem bs73 (n : Int) (S : St) : bsA E0 73 1 [(0, .int .u8 n)] S = some (.value (.slice (some ⟨S.n, 0, none⟩) 1 1), S.push (.own [.int .u8 n] 5)) := keepEq (by kernel_rfl)
theorem one_ok (x : It) (hx : x.OK) (S : St) (hS : WF E0 S) (K : Value → St → Prop) (τ) : RL E0 60 [x.val] S K τ ↔ K (.tuple #[.string (str x.enc), .bool true]) S := by
  refine w_det ?_ K τ
  rw [w_body (memo0 _ _ (by decide)) (okf0 _) Tryz.func60 (c := _) rfl (by show 1 ≤ 72; decide)]
  simp only [Tryz.f60, aop_box, boxA_is, ↓wDn, wUp0, wUp1, wUp2, Option.map_none, Int.reduceLE, Int.reduceLT, Int.reduceEq, Int.reduceNeg, Int.reduceToNat, Nat.reduceLeDiff, aresults, aresult, tupled, Bool.and_self, Bool.true_and, Bool.and_true, true_and, and_true, Option.bind_some, Option.bind_none, Option.getD_some, Option.getD_none, Option.map_some, List.getElem?_toArray, List.getElem?_cons_zero, List.getElem?_cons_succ, List.getElem?_nil, List.map_cons, List.map_nil, List.all_cons, List.all_nil, Nat.reduceLT, Nat.reduceEqDiff, Nat.reduceSub, Nat.reduceAdd, ↓reduceIte, if_true, if_false, Bool.false_eq_true, reduceCtorEq, Nat.le_refl, decide_true, decide_false, Bool.not_true, Bool.not_false, decide_eq_true_eq, decide_eq_false_iff_not, eq_self, Bool.false_and, Bool.and_false, Bool.not_eq_true', ite_self]
  obtain ⟨S1, hS1⟩ : ∃ S1, St.push ⟨S.n, S.h, S.n⟩ (.own x.val.cells.toList 78) = S1 := ⟨_, rfl⟩
  have hW1 : WF E0 S1 := by rw [← hS1]; exact (wf_push _ _).2 hS
  have hg : St.get E0 S1 S.n = some (.own x.cells 78) := by rw [← hS1, get_push ⟨S.n, S.h, S.n⟩ _ _ hS, if_pos rfl]; rfl
  have hlow : S.n ≤ S1.low := by rw [← hS1]; exact Nat.le_refl _
  have hn1 : S.n ≤ S1.n := by rw [← hS1]; exact Nat.le_succ _
  rw [hS1]
  have l0 : ∀ lw, aload E0 ⟨S1.n, S1.h, lw⟩ 3 (.pointer (some ⟨S.n, 0, none⟩)) = some (.int .i64 x.k) := fun lw => ldI (S := ⟨S1.n, S1.h, lw⟩) (cells_own hg) rfl
  have l0' : aload E0 S1 3 (.pointer (some ⟨S.n, 0, none⟩)) = some (.int .i64 x.k) := l0 S1.low
  have l1 : ∀ lw, aload E0 ⟨S1.n, S1.h, lw⟩ 3 (.pointer (some ⟨S.n, 0 + 1, none⟩)) = some (.int .i64 x.n) := fun lw => ldI (S := ⟨S1.n, S1.h, lw⟩) (cells_own hg) rfl
  have l2 : ∀ lw, aload E0 ⟨S1.n, S1.h, lw⟩ 9 (.pointer (some ⟨S.n, 0 + 2, none⟩)) = some (.string (str x.s)) := fun lw => ldT (S := ⟨S1.n, S1.h, lw⟩) (cells_own hg) rfl
  obtain ⟨k, n, s⟩ := x
  rcases hx with ⟨hk, h0, h1, hs⟩ | ⟨hk, h0, h1, hs⟩ | ⟨hk, h0, hs⟩ | ⟨hk, h0, hs⟩
  · simp only at hk h0 h1 hs l0 l1 l2 l0'
    subst hk hs
    rw [enc1]
    obtain ⟨m, rfl⟩ : ∃ m : Nat, n = m := ⟨n.toNat, by omega⟩
    have z1 : (m : Int) ≤ 4611686018427387903 := by omega
    have z0 : (0 : Int) ≤ m := by omega
    have hne := fun S hS K τ => num_ok m (by omega) S hS K τ
    have c1 : ((1 : Nat) : Int) = 1 := rfl
    have W2 : ∀ lw, WF E0 ⟨S1.n, S1.h, lw⟩ := fun lw => hW1
    simp only [c1, l0', fa78_0, fa78_1, fa78_2, l0, l1, l2, hasBody91, hne, W2, hW1, z0, z1, strE, Int.toNat_natCast, ret2, hlow, hn1, ↓wDn, wUp0, wUp1, wUp2, Option.map_none, Int.reduceLE, Int.reduceLT, Int.reduceEq, Int.reduceNeg, Int.reduceToNat, Nat.reduceLeDiff, aresults, aresult, tupled, Bool.and_self, Bool.true_and, Bool.and_true, true_and, and_true, Option.bind_some, Option.bind_none, Option.getD_some, Option.getD_none, Option.map_some, List.getElem?_toArray, List.getElem?_cons_zero, List.getElem?_cons_succ, List.getElem?_nil, List.map_cons, List.map_nil, List.all_cons, List.all_nil, Nat.reduceLT, Nat.reduceEqDiff, Nat.reduceSub, Nat.reduceAdd, ↓reduceIte, if_true, if_false, Bool.false_eq_true, reduceCtorEq, Nat.le_refl, decide_true, decide_false, Bool.not_true, Bool.not_false, decide_eq_true_eq, decide_eq_false_iff_not, eq_self, Bool.false_and, Bool.and_false, Bool.not_eq_true', ite_self]
  · simp only at hk h0 h1 hs l0 l1 l2 l0'
    subst hk hs
    rw [enc2]
    have hne := fun S hS K τ => whole2_ok n h0 h1 S hS K τ
    have hd : decide (-2305843009213693952 ≤ n ∧ n ≤ 2305843009213693951) = true := decide_eq_true ⟨h0, h1⟩
    have c1 : ((2 : Nat) : Int) = 2 := rfl
    have W2 : ∀ lw, WF E0 ⟨S1.n, S1.h, lw⟩ := fun lw => hW1
    simp only [c1, l0', fa78_0, fa78_1, fa78_2, l0, l1, l2, hasBody92, hasBody93, whole_ok, hd, hne, W2, hW1, strE, ret2, hlow, hn1, ↓wDn, wUp0, wUp1, wUp2, Option.map_none, Int.reduceLE, Int.reduceLT, Int.reduceEq, Int.reduceNeg, Int.reduceToNat, Nat.reduceLeDiff, aresults, aresult, tupled, Bool.and_self, Bool.true_and, Bool.and_true, true_and, and_true, Option.bind_some, Option.bind_none, Option.getD_some, Option.getD_none, Option.map_some, List.getElem?_toArray, List.getElem?_cons_zero, List.getElem?_cons_succ, List.getElem?_nil, List.map_cons, List.map_nil, List.all_cons, List.all_nil, Nat.reduceLT, Nat.reduceEqDiff, Nat.reduceSub, Nat.reduceAdd, ↓reduceIte, if_true, if_false, Bool.false_eq_true, reduceCtorEq, Nat.le_refl, decide_true, decide_false, Bool.not_true, Bool.not_false, decide_eq_true_eq, decide_eq_false_iff_not, eq_self, Bool.false_and, Bool.and_false, Bool.not_eq_true', ite_self]
  · simp only at hk h0 hs l0 l1 l2 l0'
    subst hk hs
    rw [enc3]
    have c1 : ((3 : Nat) : Int) = 3 := rfl
    have W2 : ∀ lw, WF E0 ⟨S1.n, S1.h, lw⟩ := fun lw => hW1
    have a0 : IntKind.i64.wrap ((BitVec.ofInt IntKind.i64.bits 0 &&& BitVec.ofInt IntKind.i64.bits 1).toNat : Int) = 0 := by decide
    have a1 : IntKind.i64.wrap ((BitVec.ofInt IntKind.i64.bits 1 &&& BitVec.ofInt IntKind.i64.bits 1).toNat : Int) = 1 := by decide
    have b0 : IntKind.u8.wrap 0 = 0 := by decide
    have b1 : IntKind.u8.wrap 1 = 1 := by decide
    have hgn : S.n < S1.n := by rw [← hS1, n_push]; exact Nat.lt_succ_self _
    have G : ∀ (v : Int) lw, St.get E0 ⟨S1.n + 1, (St.push ⟨S1.n, S1.h, S1.n⟩ (.own [.int .u8 v] 5)).h, lw⟩ S.n = some (.own (It.cells ⟨3, n, []⟩) 78) := fun v lw =>
      (get_push ⟨S1.n, S1.h, S1.n⟩ _ _ hW1).trans (by rw [if_neg (by show S.n ≠ S1.n; omega)]; exact hg)
    have G2 : ∀ (v : Nat) lw, St.get E0 ⟨S1.n + 1, (St.push ⟨S1.n, S1.h, S1.n⟩ (.own [.int .u8 (v : Nat)] 5)).h, lw⟩ S1.n = some (.own (byC 1 fun _ => v) 5) := fun v lw =>
      (get_push ⟨S1.n, S1.h, S1.n⟩ _ _ hW1).trans (by rw [if_pos rfl]; rfl)
    have k1 : ∀ (v : Int) lw, aload E0 ⟨S1.n + 1, (St.push ⟨S1.n, S1.h, S1.n⟩ (.own [.int .u8 v] 5)).h, lw⟩ 3 (.pointer (some ⟨S.n, 0 + 1, none⟩)) = some (.int .i64 n) := fun v lw => ldI (cells_own (G v lw)) rfl
    have k2 : ∀ (v : Int) lw, aload E0 ⟨S1.n + 1, (St.push ⟨S1.n, S1.h, S1.n⟩ (.own [.int .u8 v] 5)).h, lw⟩ 9 (.pointer (some ⟨S.n, 0 + 2, none⟩)) = some (.string (str [])) := fun v lw => ldT (cells_own (G v lw)) rfl
    have hn2 : S.n ≤ S1.n + 1 := by omega
    rcases h0 with rfl | rfl
    · have c : ∀ lw, convA E0 73 9 (.slice (some ⟨S1.n, 0, none⟩) 1 1) ⟨S1.n + 1, (St.push ⟨S1.n, S1.h, S1.n⟩ (.own [.int .u8 0] 5)).h, lw⟩ = some (.value (.string (str [0])), ⟨S1.n + 1, (St.push ⟨S1.n, S1.h, S1.n⟩ (.own [.int .u8 0] 5)).h, lw⟩) := fun lw => cvB (cap := 1) (G2 0 lw)
      simp only [c1, l0', fa78_0, fa78_1, fa78_2, l0, l1, l2, a0, b0, bs73, conv_int ty3 ty5, strE, ret2, hlow, hn1, k1, k2, c, hn2, ↓wDn, wUp0, wUp1, wUp2, Option.map_none, Int.reduceLE, Int.reduceLT, Int.reduceEq, Int.reduceNeg, Int.reduceToNat, Nat.reduceLeDiff, aresults, aresult, tupled, Bool.and_self, Bool.true_and, Bool.and_true, true_and, and_true, Option.bind_some, Option.bind_none, Option.getD_some, Option.getD_none, Option.map_some, List.getElem?_toArray, List.getElem?_cons_zero, List.getElem?_cons_succ, List.getElem?_nil, List.map_cons, List.map_nil, List.all_cons, List.all_nil, Nat.reduceLT, Nat.reduceEqDiff, Nat.reduceSub, Nat.reduceAdd, ↓reduceIte, if_true, if_false, Bool.false_eq_true, reduceCtorEq, Nat.le_refl, decide_true, decide_false, Bool.not_true, Bool.not_false, decide_eq_true_eq, decide_eq_false_iff_not, eq_self, Bool.false_and, Bool.and_false, Bool.not_eq_true', ite_self]
      rfl
    · have c : ∀ lw, convA E0 73 9 (.slice (some ⟨S1.n, 0, none⟩) 1 1) ⟨S1.n + 1, (St.push ⟨S1.n, S1.h, S1.n⟩ (.own [.int .u8 1] 5)).h, lw⟩ = some (.value (.string (str [1])), ⟨S1.n + 1, (St.push ⟨S1.n, S1.h, S1.n⟩ (.own [.int .u8 1] 5)).h, lw⟩) := fun lw => cvB (cap := 1) (G2 1 lw)
      simp only [c1, l0', fa78_0, fa78_1, fa78_2, l0, l1, l2, a1, b1, bs73, conv_int ty3 ty5, strE, ret2, hlow, hn1, k1, k2, c, hn2, ↓wDn, wUp0, wUp1, wUp2, Option.map_none, Int.reduceLE, Int.reduceLT, Int.reduceEq, Int.reduceNeg, Int.reduceToNat, Nat.reduceLeDiff, aresults, aresult, tupled, Bool.and_self, Bool.true_and, Bool.and_true, true_and, and_true, Option.bind_some, Option.bind_none, Option.getD_some, Option.getD_none, Option.map_some, List.getElem?_toArray, List.getElem?_cons_zero, List.getElem?_cons_succ, List.getElem?_nil, List.map_cons, List.map_nil, List.all_cons, List.all_nil, Nat.reduceLT, Nat.reduceEqDiff, Nat.reduceSub, Nat.reduceAdd, ↓reduceIte, if_true, if_false, Bool.false_eq_true, reduceCtorEq, Nat.le_refl, decide_true, decide_false, Bool.not_true, Bool.not_false, decide_eq_true_eq, decide_eq_false_iff_not, eq_self, Bool.false_and, Bool.and_false, Bool.not_eq_true', ite_self]
      rfl
  · simp only at hk h0 hs l0 l1 l2 l0'
    subst hk h0
    rw [enc4]
    have c1 : ((4 : Nat) : Int) = 4 := rfl
    have W2 : ∀ lw, WF E0 ⟨S1.n, S1.h, lw⟩ := fun lw => hW1
    have hne := fun S hS K τ => text_ok s (by omega) S hS K τ
    have z1 : (s.length : Int) ≤ 65536 := by omega
    simp only [c1, l0', fa78_0, fa78_1, fa78_2, l0, l1, l2, hasBody94, hne, z1, lenS, W2, hW1, strE, ret2, hlow, hn1, ↓wDn, wUp0, wUp1, wUp2, Option.map_none, Int.reduceLE, Int.reduceLT, Int.reduceEq, Int.reduceNeg, Int.reduceToNat, Nat.reduceLeDiff, aresults, aresult, tupled, Bool.and_self, Bool.true_and, Bool.and_true, true_and, and_true, Option.bind_some, Option.bind_none, Option.getD_some, Option.getD_none, Option.map_some, List.getElem?_toArray, List.getElem?_cons_zero, List.getElem?_cons_succ, List.getElem?_nil, List.map_cons, List.map_nil, List.all_cons, List.all_nil, Nat.reduceLT, Nat.reduceEqDiff, Nat.reduceSub, Nat.reduceAdd, ↓reduceIte, if_true, if_false, Bool.false_eq_true, reduceCtorEq, Nat.le_refl, decide_true, decide_false, Bool.not_true, Bool.not_false, decide_eq_true_eq, decide_eq_false_iff_not, eq_self, Bool.false_and, Bool.and_false, Bool.not_eq_true', ite_self]
end Go.Abs

namespace Go.Abs
open Go Go.Proofs Go.RowKit
set_option linter.unusedSimpArgs false
set_option maxRecDepth 100000
/-- One block of one's own more. -/
structure At (t : TypeId) (S0 S1 : St) (c : List Value) : Prop where
  wf : WF E0 S1
  n : S1.n = S0.n + 1
  low : S0.n ≤ S1.low
  get : St.get E0 S1 S0.n = some (.own c t)
theorem At.push {t : TypeId} {S0 : St} (hS : WF E0 S0) (c : List Value) : At t S0 (St.push ⟨S0.n, S0.h, S0.n⟩ (.own c t)) c := by
  refine ⟨(wf_push _ _).2 hS, n_push _ _, Nat.le_refl _, ?_⟩
  rw [get_push ⟨S0.n, S0.h, S0.n⟩ _ _ hS, if_pos rfl]
theorem At.store {t : TypeId} {S0 S1 : St} {c : List Value} (h : At t S0 S1 c) (hS : WF E0 S0) {u : TypeId} {k f : Nat} {v : Value} (hi : szOf E0 u = some k) (h1 : v.cells.toList.length = k) (h2 : v.cells.toList.all (·.oneCell') = true) (h3 : f + k ≤ c.length) :
    ∃ S2, astore E0 S1 u (.pointer (some ⟨S0.n, f, none⟩)) v = some S2 ∧ At t S0 S2 (splice c f v.cells.toList) := by
  have hn := h.n
  refine ⟨_, store_own h.get hi h1 h2 h3, (wf_set _ _ _).2 h.wf, h.n, ?_, ?_⟩
  · rw [low_set, le_nmin]; exact ⟨h.low, Nat.le_refl _⟩
  · rw [get_setS _ _ _ _ h.wf (wf_base hS) (by omega), if_pos rfl]
theorem alloc78 (S : St) : allocA E0 78 S = some (.value (.pointer (some ⟨S.n, 0, none⟩)), S.push (.own [.int .i64 0, .int .i64 0, .string ⟨#[]⟩] 78)) := keepEq (by kernel_rfl)
/-- What is read of a kind. -/
def takeI (k : Nat) (l : List UInt8) : It × List UInt8 × Int :=
  if k = 4 then (⟨4, 0, (getT l).1⟩, (getT l).2.1, (getT l).2.2)
  else if k = 3 then (⟨3, (getF l).1, []⟩, (getF l).2.1, (getF l).2.2)
  else if k = 2 then (⟨2, unfZ (gets l).1, []⟩, (gets l).2.1, (gets l).2.2)
  else (⟨k, (gets l).1, []⟩, (gets l).2.1, (gets l).2.2)
theorem gets_lt (l : List UInt8) : (gets l).1 < 2 ^ 62 := by
  unfold gets
  have h3 := top4 (l.getD 0 0)
  obtain ⟨c, hc⟩ : ∃ c, (l.getD 0 0).toNat / 64 = c := ⟨_, rfl⟩
  rw [hc] at h3 ⊢
  have hs : 0 < 2 ^ c ∧ 2 ^ c ≤ 8 := by
    obtain rfl | rfl | rfl | rfl : c = 0 ∨ c = 1 ∨ c = 2 ∨ c = 3 := by omega
    all_goals decide
  have ha := acc_lt l (2 ^ c) hs.1
  have : 256 ^ (2 ^ c - 1) ≤ 256 ^ 7 := Nat.pow_le_pow_right (by decide) (by omega)
  repeat' split
  all_goals (try decide)
  show acc l (2 ^ c) < 2 ^ 62
  omega
theorem pfIt (x : It) : pf x.val = true := by simp [It.val, It.cells, pf, pfA, pfL]
theorem take_ok (k : Nat) (hk : 1 ≤ k ∧ k ≤ 4) (l : List UInt8) (hl : l.length < 2^60) (S : St) (hS : WF E0 S) (K : Value → St → Prop) (τ) :
    RL E0 63 [.string (str l), .int .i64 k] S K τ ↔ K (.tuple #[(takeI k l).1.val, .string (str (takeI k l).2.1), .int .i64 (takeI k l).2.2]) S := by
  refine w_det ?_ K τ
  rw [w_body (memo0 _ _ (by decide)) (okf0 _) Tryz.func63 (c := _) rfl (by show 2 ≤ 51; decide)]
  obtain ⟨S1, hS1⟩ : ∃ S1, St.push ⟨S.n, S.h, S.n⟩ (.own [.int .i64 0, .int .i64 0, .string ⟨#[]⟩] 78) = S1 := ⟨_, rfl⟩
  have h1 : At 78 S S1 [.int .i64 0, .int .i64 0, .string ⟨#[]⟩] := by rw [← hS1]; exact At.push hS _
  obtain ⟨S2, s2, h2⟩ := h1.store hS (u := 3) (f := 0) (v := .int .i64 k) sz3 rfl rfl (by simp)
  have c2 : splice [Value.int .i64 0, .int .i64 0, .string ⟨#[]⟩] 0 (Value.int .i64 k).cells.toList = [.int .i64 k, .int .i64 0, .string ⟨#[]⟩] := rfl
  rw [c2] at h2
  simp only [Tryz.f63, alloc78, hS1, fa78_0, s2, ↓wDn, wUp0, wUp1, wUp2, Option.map_none, Int.reduceLE, Int.reduceLT, Int.reduceEq, Int.reduceNeg, Int.reduceToNat, Nat.reduceLeDiff, aresults, aresult, tupled, Bool.and_self, Bool.true_and, Bool.and_true, true_and, and_true, Option.bind_some, Option.bind_none, Option.getD_some, Option.getD_none, Option.map_some, List.getElem?_toArray, List.getElem?_cons_zero, List.getElem?_cons_succ, List.getElem?_nil, List.map_cons, List.map_nil, List.all_cons, List.all_nil, Nat.reduceLT, Nat.reduceEqDiff, Nat.reduceSub, Nat.reduceAdd, ↓reduceIte, if_true, if_false, Bool.false_eq_true, reduceCtorEq, Nat.le_refl, decide_true, decide_false, Bool.not_true, Bool.not_false, decide_eq_true_eq, decide_eq_false_iff_not, eq_self, Bool.false_and, Bool.and_false, Bool.not_eq_true', ite_self]
  by_cases k4 : k = 4
  · have e : takeI k l = (⟨4, 0, (getT l).1⟩, (getT l).2.1, (getT l).2.2) := by unfold takeI; rw [if_pos k4]
    rw [e]
    subst k4
    have cc : ((4 : Nat) : Int) = 4 := rfl
    obtain ⟨S3, s3, h3⟩ := h2.store hS (u := 9) (f := 0 + 2) (v := .string (str (getT l).1)) sz9 rfl rfl (by simp)
    have c3 : splice [Value.int .i64 (4 : Nat), .int .i64 0, .string ⟨#[]⟩] (0 + 2) (Value.string (str (getT l).1)).cells.toList = (It.mk 4 0 (getT l).1).cells := rfl
    rw [c3] at h3
    have hl3 := ld78 (S := S3) (o := 0) (cells_own h3.get) (by simp [It.cells])
    obtain ⟨S4, s4, h4⟩ := h3.store hS (u := 78) (f := 0) (v := .agg ⟨((It.mk 4 0 (getT l).1).cells.drop 0).take 3⟩) sz78 rfl rfl (by simp [It.cells])
    have c4 : splice (It.mk 4 0 (getT l).1).cells 0 (Value.agg ⟨((It.mk 4 0 (getT l).1).cells.drop 0).take 3⟩).cells.toList = (It.mk 4 0 (getT l).1).cells := rfl
    rw [c4] at h4
    have hl4 := ld78 (S := S4) (o := 0) (cells_own h4.get) (by simp [It.cells])
    have e4 : Value.agg ⟨((It.mk 4 0 (getT l).1).cells.drop 0).take 3⟩ = (It.mk 4 0 (getT l).1).val := rfl
    rw [e4] at hl3 hl4 s4
    have hlow := h4.low
    have gt := fun S K τ => getT_ok l hl S K τ
    simp only [cc, hasBody96, gt, fa78_2, s3, hl3, s4, hl4, ret3, pfIt, hlow, ↓wDn, wUp0, wUp1, wUp2, Option.map_none, Int.reduceLE, Int.reduceLT, Int.reduceEq, Int.reduceNeg, Int.reduceToNat, Nat.reduceLeDiff, aresults, aresult, tupled, Bool.and_self, Bool.true_and, Bool.and_true, true_and, and_true, Option.bind_some, Option.bind_none, Option.getD_some, Option.getD_none, Option.map_some, List.getElem?_toArray, List.getElem?_cons_zero, List.getElem?_cons_succ, List.getElem?_nil, List.map_cons, List.map_nil, List.all_cons, List.all_nil, Nat.reduceLT, Nat.reduceEqDiff, Nat.reduceSub, Nat.reduceAdd, ↓reduceIte, if_true, if_false, Bool.false_eq_true, reduceCtorEq, Nat.le_refl, decide_true, decide_false, Bool.not_true, Bool.not_false, decide_eq_true_eq, decide_eq_false_iff_not, eq_self, Bool.false_and, Bool.and_false, Bool.not_eq_true', ite_self]
  by_cases k3 : k = 3
  · have e : takeI k l = (⟨3, (getF l).1, []⟩, (getF l).2.1, (getF l).2.2) := by unfold takeI; rw [if_neg k4, if_pos k3]
    rw [e]
    subst k3
    have cc : ((3 : Nat) : Int) = 3 := rfl
    obtain ⟨S3, s3, h3⟩ := h2.store hS (u := 3) (f := 0 + 1) (v := .int .i64 (getF l).1) sz3 rfl rfl (by simp)
    have c3 : splice [Value.int .i64 (3 : Nat), .int .i64 0, .string ⟨#[]⟩] (0 + 1) (Value.int .i64 (getF l).1).cells.toList = (It.mk 3 (getF l).1 []).cells := rfl
    rw [c3] at h3
    have hl3 := ld78 (S := S3) (o := 0) (cells_own h3.get) (by simp [It.cells])
    obtain ⟨S9, s9, h9⟩ := h3.store hS (u := 78) (f := 0) (v := .agg ⟨((It.mk 3 (getF l).1 []).cells.drop 0).take 3⟩) sz78 rfl rfl (by simp [It.cells])
    have c9 : splice (It.mk 3 (getF l).1 []).cells 0 (Value.agg ⟨((It.mk 3 (getF l).1 []).cells.drop 0).take 3⟩).cells.toList = (It.mk 3 (getF l).1 []).cells := rfl
    rw [c9] at h9
    have hl9 := ld78 (S := S9) (o := 0) (cells_own h9.get) (by simp [It.cells])
    have e9 : Value.agg ⟨((It.mk 3 (getF l).1 []).cells.drop 0).take 3⟩ = (It.mk 3 (getF l).1 []).val := rfl
    rw [e9] at hl3 hl9 s9
    have hlow := h9.low
    have gt := fun S K τ => getF_ok l hl S K τ
    simp only [cc, hasBody97, gt, fa78_1, s3, hl3, s9, hl9, ret3, pfIt, hlow, ↓wDn, wUp0, wUp1, wUp2, Option.map_none, Int.reduceLE, Int.reduceLT, Int.reduceEq, Int.reduceNeg, Int.reduceToNat, Nat.reduceLeDiff, aresults, aresult, tupled, Bool.and_self, Bool.true_and, Bool.and_true, true_and, and_true, Option.bind_some, Option.bind_none, Option.getD_some, Option.getD_none, Option.map_some, List.getElem?_toArray, List.getElem?_cons_zero, List.getElem?_cons_succ, List.getElem?_nil, List.map_cons, List.map_nil, List.all_cons, List.all_nil, Nat.reduceLT, Nat.reduceEqDiff, Nat.reduceSub, Nat.reduceAdd, ↓reduceIte, if_true, if_false, Bool.false_eq_true, reduceCtorEq, Nat.le_refl, decide_true, decide_false, Bool.not_true, Bool.not_false, decide_eq_true_eq, decide_eq_false_iff_not, eq_self, Bool.false_and, Bool.and_false, Bool.not_eq_true', ite_self]
  have gt := fun S K τ => get_ok l hl S K τ
  by_cases k2 : k = 2
  · have e : takeI k l = (⟨2, unfZ (gets l).1, []⟩, (gets l).2.1, (gets l).2.2) := by unfold takeI; rw [if_neg k4, if_neg k3, if_pos k2]
    rw [e]
    subst k2
    have cc : ((2 : Nat) : Int) = 2 := rfl
    obtain ⟨S3, s3, h3⟩ := h2.store hS (u := 3) (f := 0 + 1) (v := .int .i64 (gets l).1) sz3 rfl rfl (by simp)
    have c3 : splice [Value.int .i64 (2 : Nat), .int .i64 0, .string ⟨#[]⟩] (0 + 1) (Value.int .i64 (gets l).1).cells.toList = [.int .i64 (2 : Nat), .int .i64 (gets l).1, .string ⟨#[]⟩] := rfl
    rw [c3] at h3
    have hl3 := ldI (S := S3) (o := 0 + 1) (cells_own h3.get) rfl
    obtain ⟨S4, s4, h4⟩ := h3.store hS (u := 3) (f := 0 + 1) (v := .int .i64 (unfZ (gets l).1)) sz3 rfl rfl (by simp)
    have c4 : splice [Value.int .i64 (2 : Nat), .int .i64 (gets l).1, .string ⟨#[]⟩] (0 + 1) (Value.int .i64 (unfZ (gets l).1)).cells.toList = (It.mk 2 (unfZ (gets l).1) []).cells := rfl
    rw [c4] at h4
    have hl4 := ld78 (S := S4) (o := 0) (cells_own h4.get) (by simp [It.cells])
    obtain ⟨S9, s9, h9⟩ := h4.store hS (u := 78) (f := 0) (v := .agg ⟨((It.mk 2 (unfZ (gets l).1) []).cells.drop 0).take 3⟩) sz78 rfl rfl (by simp [It.cells])
    have c9 : splice (It.mk 2 (unfZ (gets l).1) []).cells 0 (Value.agg ⟨((It.mk 2 (unfZ (gets l).1) []).cells.drop 0).take 3⟩).cells.toList = (It.mk 2 (unfZ (gets l).1) []).cells := rfl
    rw [c9] at h9
    have hl9 := ld78 (S := S9) (o := 0) (cells_own h9.get) (by simp [It.cells])
    have e9 : Value.agg ⟨((It.mk 2 (unfZ (gets l).1) []).cells.drop 0).take 3⟩ = (It.mk 2 (unfZ (gets l).1) []).val := rfl
    rw [e9] at hl4 hl9 s9
    have hlow := h9.low
    have un := unfold_ok (gets l).1 (gets_lt l)
    simp only [cc, hasBody98, hasBody99, gt, fa78_1, s3, hl3, un, s4, hl4, s9, hl9, ret3, pfIt, hlow, ↓wDn, wUp0, wUp1, wUp2, Option.map_none, Int.reduceLE, Int.reduceLT, Int.reduceEq, Int.reduceNeg, Int.reduceToNat, Nat.reduceLeDiff, aresults, aresult, tupled, Bool.and_self, Bool.true_and, Bool.and_true, true_and, and_true, Option.bind_some, Option.bind_none, Option.getD_some, Option.getD_none, Option.map_some, List.getElem?_toArray, List.getElem?_cons_zero, List.getElem?_cons_succ, List.getElem?_nil, List.map_cons, List.map_nil, List.all_cons, List.all_nil, Nat.reduceLT, Nat.reduceEqDiff, Nat.reduceSub, Nat.reduceAdd, ↓reduceIte, if_true, if_false, Bool.false_eq_true, reduceCtorEq, Nat.le_refl, decide_true, decide_false, Bool.not_true, Bool.not_false, decide_eq_true_eq, decide_eq_false_iff_not, eq_self, Bool.false_and, Bool.and_false, Bool.not_eq_true', ite_self]
  · have k1 : k = 1 := by omega
    have e : takeI k l = (⟨k, (gets l).1, []⟩, (gets l).2.1, (gets l).2.2) := by unfold takeI; rw [if_neg k4, if_neg k3, if_neg k2]
    rw [e]
    subst k1
    have cc : ((1 : Nat) : Int) = 1 := rfl
    obtain ⟨S3, s3, h3⟩ := h2.store hS (u := 3) (f := 0 + 1) (v := .int .i64 (gets l).1) sz3 rfl rfl (by simp)
    have c3 : splice [Value.int .i64 (1 : Nat), .int .i64 0, .string ⟨#[]⟩] (0 + 1) (Value.int .i64 (gets l).1).cells.toList = (It.mk 1 (gets l).1 []).cells := rfl
    rw [c3] at h3
    have hl3 := ld78 (S := S3) (o := 0) (cells_own h3.get) (by simp [It.cells])
    obtain ⟨S9, s9, h9⟩ := h3.store hS (u := 78) (f := 0) (v := .agg ⟨((It.mk 1 (gets l).1 []).cells.drop 0).take 3⟩) sz78 rfl rfl (by simp [It.cells])
    have c9 : splice (It.mk 1 (gets l).1 []).cells 0 (Value.agg ⟨((It.mk 1 (gets l).1 []).cells.drop 0).take 3⟩).cells.toList = (It.mk 1 (gets l).1 []).cells := rfl
    rw [c9] at h9
    have hl9 := ld78 (S := S9) (o := 0) (cells_own h9.get) (by simp [It.cells])
    have e9 : Value.agg ⟨((It.mk 1 (gets l).1 []).cells.drop 0).take 3⟩ = (It.mk 1 (gets l).1 []).val := rfl
    rw [e9] at hl3 hl9 s9
    have hlow := h9.low
    simp only [cc, hasBody98, gt, fa78_1, s3, hl3, s9, hl9, ret3, pfIt, hlow, ↓wDn, wUp0, wUp1, wUp2, Option.map_none, Int.reduceLE, Int.reduceLT, Int.reduceEq, Int.reduceNeg, Int.reduceToNat, Nat.reduceLeDiff, aresults, aresult, tupled, Bool.and_self, Bool.true_and, Bool.and_true, true_and, and_true, Option.bind_some, Option.bind_none, Option.getD_some, Option.getD_none, Option.map_some, List.getElem?_toArray, List.getElem?_cons_zero, List.getElem?_cons_succ, List.getElem?_nil, List.map_cons, List.map_nil, List.all_cons, List.all_nil, Nat.reduceLT, Nat.reduceEqDiff, Nat.reduceSub, Nat.reduceAdd, ↓reduceIte, if_true, if_false, Bool.false_eq_true, reduceCtorEq, Nat.le_refl, decide_true, decide_false, Bool.not_true, Bool.not_false, decide_eq_true_eq, decide_eq_false_iff_not, eq_self, Bool.false_and, Bool.and_false, Bool.not_eq_true', ite_self]
end Go.Abs

namespace Go.Abs
open Go Go.Proofs Go.RowKit
set_option linter.unusedSimpArgs false
set_option maxRecDepth 100000
theorem retV_npL (vs : List Value) (S K S1) (hp : pf (tupled vs) = false) : retV vs S K S1 ↔ K (tupled vs) ⟨S1.n, S1.h, Nat.min S.low S1.low⟩ := by
  unfold retV
  rw [if_neg (fun h => by rw [hp] at h; simp at h)]
/-- A slice that is read: k cells to each of its n. -/
def SlAt (S : St) (k : Nat) (v : Value) (n : Nat) (cs : List Value) : Prop :=
  (v = .slice none 0 0 ∧ n = 0 ∧ cs = []) ∨ ∃ b cap, v = .slice (some ⟨b, 0, none⟩) n cap ∧ b < S.n ∧ 0 < n ∧ n * k = cs.length ∧ St.cells E0 S b = some cs
theorem SlAt.keep {S S' : St} {k n : Nat} {v : Value} {cs : List Value} (h : SlAt S k v n cs) (hn : S.n ≤ S'.n) (hg : ∀ b, b < S.n → vblk v = some b → St.get E0 S' b = St.get E0 S b) : SlAt S' k v n cs := by
  rcases h with h | ⟨b, cap, h1, h2, h3, h4, h5⟩
  · exact .inl h
  · refine .inr ⟨b, cap, h1, by omega, h3, h4, ?_⟩
    unfold St.cells at h5 ⊢
    rw [hg b h2 (by rw [h1]; rfl)]
    exact h5
theorem RowG.slAt {S : St} {e : TypeId} {k lo n : Nat} {v : Value} {cs : List Value} (h : RowG E0 S e k lo v n cs) : SlAt S k v n cs := by
  rcases h with h | ⟨b, sh, h1, h2, h3, h4, h5, h6, h7⟩
  · exact .inl h
  · exact .inr ⟨b, OPEN, h1, h3, h4, h5, cells_opn h7⟩
theorem SlAt.len {S : St} {k n : Nat} {v : Value} {cs : List Value} (h : SlAt S k v n cs) {t e : TypeId} (ht : E0.P.underlying t = some (.slice e)) (S1 : St) : lenA E0 t v S1 = some (.value (.int .i64 n), S1) := by
  rcases h with ⟨rfl, rfl, _⟩ | ⟨b, cap, rfl, _⟩
  · exact len_slc0 ht 0 0 S1
  · exact len_slc ht _ _ _ S1
/-- Its i-th one: where it lies. -/
theorem SlAt.at {S : St} {k n : Nat} {v : Value} {cs : List Value} (h : SlAt S k v n cs) {t e : TypeId} (ht : E0.P.underlying t = some (.slice e)) (hi : szOf E0 e = some k) {i : Nat} (hlt : i < n) :
    ∃ b, b < S.n ∧ vblk v = some b ∧ St.cells E0 S b = some cs ∧ n * k = cs.length ∧ ∀ kk, aindexAddr E0 t v (.int kk i) = some (.pointer (some ⟨b, i * k, none⟩)) := by
  rcases h with ⟨rfl, rfl, _⟩ | ⟨b, cap, rfl, h2, h3, h4, h5⟩
  · omega
  · refine ⟨b, h2, rfl, h5, h4, fun kk => ?_⟩
    rw [idxAddr_slc ht hi kk i (by omega) (by omega)]
    simp
def kC (ks : List Nat) : List Value := ks.map fun (k : Nat) => .int .i64 (k : Nat)
def iC (xs : List It) : List Value := xs.flatMap It.cells
theorem iC_append (a b : List It) : iC (a ++ b) = iC a ++ iC b := by simp [iC]
theorem iC_len (xs : List It) : (iC xs).length = xs.length * 3 := by
  induction xs with
  | nil => rfl
  | cons x xs ih =>
    have : iC (x :: xs) = x.cells ++ iC xs := rfl
    rw [this, List.length_append, ih, List.length_cons]
    show 3 + _ = _
    omega
theorem iC_get (xs : List It) (i : Nat) (h : i < xs.length) : ((iC xs).drop (i * 3)).take 3 = xs[i].cells := by
  induction xs generalizing i with
  | nil => simp at h
  | cons x xs ih =>
    have e : iC (x :: xs) = x.cells ++ iC xs := rfl
    have hl : x.cells.length = 3 := rfl
    rw [e]
    cases i with
    | zero => rw [Nat.zero_mul, List.drop_zero, ← hl, List.take_left]; rfl
    | succ i =>
      have : (i + 1) * 3 = x.cells.length + i * 3 := by rw [hl]; omega
      rw [this, List.drop_append, List.drop_of_length_le (by omega), List.nil_append, Nat.add_sub_cancel_left, ih i (by simpa using h)]
      rfl
theorem iC_one (xs : List It) : (iC xs).all (·.oneCell') = true := by
  rw [List.all_eq_true]
  intro v hv
  unfold iC at hv
  rw [List.mem_flatMap] at hv
  obtain ⟨x, _, hx⟩ := hv
  simp only [It.cells, List.mem_cons, List.not_mem_nil, or_false] at hx
  rcases hx with rfl | rfl | rfl <;> rfl
theorem kC_get (ks : List Nat) (i : Nat) (h : i < ks.length) : (kC ks)[i]? = some (.int .i64 (ks[i] : Nat)) := by simp [kC, h]
/-- What is read of a row. -/
def runI : List Nat → List UInt8 → List It → List It × List UInt8 × Int
  | [], l, a => (a, l, 0)
  | k :: ks, l, a => if (takeI k l).2.2 ≠ 0 then ([], [], (takeI k l).2.2) else runI ks (takeI k l).2.1 (a ++ [(takeI k l).1])
theorem takeI_len (k : Nat) (l : List UInt8) : (takeI k l).2.1.length ≤ l.length := by
  have h := gets_len l
  unfold takeI
  split
  · show (getT l).2.1.length ≤ _
    unfold getT
    repeat' split
    all_goals simp
    omega
  · split
    · show (getF l).2.1.length ≤ _
      unfold getF
      repeat' split
      all_goals simp
    · split <;> exact h
theorem info78 : infoOk E0 78 3 32 = true := keepEq (by kernel_rfl)
theorem bs74 (x : It) (S : St) : bsA E0 74 1 [(0, x.val)] S = some (.value (.slice (some ⟨S.n, 0, none⟩) 1 1), S.push (.own x.cells 78)) := keepEq (by kernel_rfl)
theorem hasBody63 : hasBody E0 63 = true := keepEq rfl
/-- An item more. -/
theorem itRow {S : St} {lo n : Nat} {v : Value} {xs : List It} (h : RowG E0 S 78 3 lo v n (iC xs)) (hW : WF E0 S) (hlo : E0.base ≤ lo) (hloS : lo ≤ S.n) (hn : n < 2 ^ 20) (x : It) :
    ∃ v' S', appA E0 [74, 74] [v, .slice (some ⟨S.n, 0, none⟩) 1 1] (S.push (.own x.cells 78)) = some (.value v', S') ∧ RowG E0 S' 78 3 lo v' (n + 1) (iC (xs ++ [x])) ∧ vblk v' = some (S.n + 1) ∧ WF E0 S' ∧ S'.n = S.n + 2 ∧ (∀ m, m ≤ lo → m ≤ S.low → m ≤ S'.low) ∧ (∀ b, b < S.n → vblk v ≠ some b → St.get E0 S' b = St.get E0 S b) ∧ (v = .slice none 0 0 → S'.low = S.low) := by
  obtain ⟨S3, hS3⟩ : ∃ S3, S.push (.own x.cells 78) = S3 := ⟨_, rfl⟩
  have hW3 : WF E0 S3 := by rw [← hS3]; exact (wf_push _ _).2 hW
  have hn3 : S3.n = S.n + 1 := by rw [← hS3]; rfl
  have hl3 : S3.low = S.low := by rw [← hS3]; rfl
  have hget3 : ∀ b, St.get E0 S3 b = if b = S.n then some (.own x.cells 78) else St.get E0 S b := fun b => by rw [← hS3, get_push _ _ _ hW]
  have hnew : acellsOf E0 S3 3 1 (.slice (some ⟨S.n, 0, none⟩) 1 1) = some x.cells := by
    rw [cells_slice (cells_own (by rw [hget3, if_pos rfl])) (by decide) (by decide) (by show 0 + 1 * 3 ≤ 3; decide) (by decide)]
    rfl
  have h3 : RowG E0 S3 78 3 lo v n (iC xs) := h.keep (by omega) fun b hb _ => by rw [hget3, if_neg (by omega)]
  rw [hS3]
  obtain ⟨v', S', a1, a2, a3, a4, a5, a6, a7, a8, a9⟩ := h3.append hW3 hlo (by omega) und74 und74 rfl info78 rfl (by decide) hnew rfl (by rfl) (by decide) (by omega) (by omega)
  refine ⟨v', S', a1, ?_, by rw [a3, hn3], a5, by omega, fun m h1 h2 => a7 m h1 (by omega), fun b hb hne => ?_, fun h => (a9 h).trans hl3⟩
  · rw [iC_append]
    have : iC [x] = x.cells := by simp [iC]
    rw [this]; exact a2
  · rw [a8 b (by omega) hne, hget3, if_neg (by omega)]

theorem takes_ok (ks : List Nat) (hks : ∀ k ∈ ks, 1 ≤ k ∧ k ≤ 4) (hkl : ks.length ≤ 4096) (l : List UInt8) (hl : l.length < 2^60) (S : St) (hS : WF E0 S) (v : Value) (hv : SlAt S 1 v ks.length (kC ks)) (K : Value → St → Prop) (τ)
    (hE : (runI ks l []).2.2 ≠ 0 → K (.tuple #[.slice none 0 0, .string (str []), .int .i64 (runI ks l []).2.2]) S)
    (hO : (runI ks l []).2.2 = 0 → ∀ S' v', WF E0 S' → S.n ≤ S'.n → Nat.min S.low S.n ≤ S'.low → (∀ b, b < S.n → St.get E0 S' b = St.get E0 S b) → RowG E0 S' 78 3 S.n v' ks.length (iC (runI ks l []).1) → K (.tuple #[v', .string (str (runI ks l []).2.1), .int .i64 0]) S') :
    RL E0 30 [.string (str l), v] S K τ := by
  refine (w_body (memo0 _ _ (by decide)) (okf0 _) Tryz.func30 (c := _) rfl (by show 2 ≤ 54; decide) S K).2 ?_
  have hlen := fun S1 => hv.len und49 S1
  have z1 : ¬ (4096 : Int) < (ks.length : Int) := by omega
  simp only [Tryz.f30, hlen, z1, ↓wDn, wUp0, wUp1, wUp2, Option.map_none, Int.reduceLE, Int.reduceLT, Int.reduceEq, Int.reduceNeg, Int.reduceToNat, Nat.reduceLeDiff, aresults, aresult, tupled, Bool.and_self, Bool.true_and, Bool.and_true, true_and, and_true, Option.bind_some, Option.bind_none, Option.getD_some, Option.getD_none, Option.map_some, List.getElem?_toArray, List.getElem?_cons_zero, List.getElem?_cons_succ, List.getElem?_nil, List.map_cons, List.map_nil, List.all_cons, List.all_nil, Nat.reduceLT, Nat.reduceEqDiff, Nat.reduceSub, Nat.reduceAdd, ↓reduceIte, if_true, if_false, Bool.false_eq_true, reduceCtorEq, Nat.le_refl, decide_true, decide_false, Bool.not_true, Bool.not_false, decide_eq_true_eq, decide_eq_false_iff_not, eq_self, Bool.false_and, Bool.and_false, Bool.not_eq_true', ite_self]
  refine w_loopE (fun (i : Nat) g S1 => S1 = ⟨S.n, S.h, S.n⟩ ∧ i ≤ ks.length ∧ g 0 = .string (str l) ∧ g 1 = v ∧ g 4 = .slice none 0 0 ∧ g 17 = v ∧ g 18 = .int .i64 ks.length ∧ g 19 = .int .i64 i) (fun i => ks.length - i) 0
    (fun g S1 => S1 = ⟨S.n, S.h, S.n⟩ ∧ g 0 = .string (str l) ∧ g 1 = v ∧ g 4 = .slice none 0 0) 0 ?init ?round ?rest
  case init =>
    refine ⟨rfl, by omega, ?_, ?_, ?_, ?_, ?_, ?_⟩ <;> simp only [Int.natCast_zero, ↓wDn, wUp0, wUp1, wUp2, Option.map_none, Int.reduceLE, Int.reduceLT, Int.reduceEq, Int.reduceNeg, Int.reduceToNat, Nat.reduceLeDiff, aresults, aresult, tupled, Bool.and_self, Bool.true_and, Bool.and_true, true_and, and_true, Option.bind_some, Option.bind_none, Option.getD_some, Option.getD_none, Option.map_some, List.getElem?_toArray, List.getElem?_cons_zero, List.getElem?_cons_succ, List.getElem?_nil, List.map_cons, List.map_nil, List.all_cons, List.all_nil, Nat.reduceLT, Nat.reduceEqDiff, Nat.reduceSub, Nat.reduceAdd, ↓reduceIte, if_true, if_false, Bool.false_eq_true, reduceCtorEq, Nat.le_refl, decide_true, decide_false, Bool.not_true, Bool.not_false, decide_eq_true_eq, decide_eq_false_iff_not, eq_self, Bool.false_and, Bool.and_false, Bool.not_eq_true', ite_self]
  case round =>
    rintro i g S1 ⟨rfl, hi, g0, g1, g4, g17, g18, g19⟩
    by_cases hlt : i < ks.length
    · have z2 : (i : Int) < (ks.length : Int) := by omega
      obtain ⟨b, hb1, hb2, hb3, hb4, hb5⟩ := hv.at und49 sz3 hlt
      have hld : aload E0 ⟨S.n, S.h, S.n⟩ 3 (.pointer (some ⟨b, i * 1, none⟩)) = some (.int .i64 (ks[i] : Nat)) := ldI (S := ⟨S.n, S.h, S.n⟩) hb3 (by rw [Nat.mul_one]; exact kC_get ks i hlt)
      obtain ⟨hk1, hk2⟩ := hks ks[i] (List.getElem_mem hlt)
      have z3 : ¬ ((ks[i] : Nat) : Int) < 1 := by omega
      have z4 : ¬ (4 : Int) < ((ks[i] : Nat) : Int) := by omega
      have e5 : IntKind.i64.wrap ((i : Int) + 1) = ((i + 1 : Nat) : Int) := by rw [wrap64] <;> omega
      simp only [g17, g18, g19, z2, hb5, hld, z3, z4, e5, ↓wDn, wUp0, wUp1, wUp2, Option.map_none, Int.reduceLE, Int.reduceLT, Int.reduceEq, Int.reduceNeg, Int.reduceToNat, Nat.reduceLeDiff, aresults, aresult, tupled, Bool.and_self, Bool.true_and, Bool.and_true, true_and, and_true, Option.bind_some, Option.bind_none, Option.getD_some, Option.getD_none, Option.map_some, List.getElem?_toArray, List.getElem?_cons_zero, List.getElem?_cons_succ, List.getElem?_nil, List.map_cons, List.map_nil, List.all_cons, List.all_nil, Nat.reduceLT, Nat.reduceEqDiff, Nat.reduceSub, Nat.reduceAdd, ↓reduceIte, if_true, if_false, Bool.false_eq_true, reduceCtorEq, Nat.le_refl, decide_true, decide_false, Bool.not_true, Bool.not_false, decide_eq_true_eq, decide_eq_false_iff_not, eq_self, Bool.false_and, Bool.and_false, Bool.not_eq_true', ite_self]
      refine w_next (i + 1) (by omega) ⟨rfl, by omega, ?_, ?_, ?_, ?_, ?_, ?_⟩ <;> simp only [g0, g1, g4, g17, g18, g19, ↓wDn, wUp0, wUp1, wUp2, Option.map_none, Int.reduceLE, Int.reduceLT, Int.reduceEq, Int.reduceNeg, Int.reduceToNat, Nat.reduceLeDiff, aresults, aresult, tupled, Bool.and_self, Bool.true_and, Bool.and_true, true_and, and_true, Option.bind_some, Option.bind_none, Option.getD_some, Option.getD_none, Option.map_some, List.getElem?_toArray, List.getElem?_cons_zero, List.getElem?_cons_succ, List.getElem?_nil, List.map_cons, List.map_nil, List.all_cons, List.all_nil, Nat.reduceLT, Nat.reduceEqDiff, Nat.reduceSub, Nat.reduceAdd, ↓reduceIte, if_true, if_false, Bool.false_eq_true, reduceCtorEq, Nat.le_refl, decide_true, decide_false, Bool.not_true, Bool.not_false, decide_eq_true_eq, decide_eq_false_iff_not, eq_self, Bool.false_and, Bool.and_false, Bool.not_eq_true', ite_self]
    · have z2 : ¬ (i : Int) < (ks.length : Int) := by omega
      simp only [g18, g19, z2, ↓wDn, wUp0, wUp1, wUp2, Option.map_none, Int.reduceLE, Int.reduceLT, Int.reduceEq, Int.reduceNeg, Int.reduceToNat, Nat.reduceLeDiff, aresults, aresult, tupled, Bool.and_self, Bool.true_and, Bool.and_true, true_and, and_true, Option.bind_some, Option.bind_none, Option.getD_some, Option.getD_none, Option.map_some, List.getElem?_toArray, List.getElem?_cons_zero, List.getElem?_cons_succ, List.getElem?_nil, List.map_cons, List.map_nil, List.all_cons, List.all_nil, Nat.reduceLT, Nat.reduceEqDiff, Nat.reduceSub, Nat.reduceAdd, ↓reduceIte, if_true, if_false, Bool.false_eq_true, reduceCtorEq, Nat.le_refl, decide_true, decide_false, Bool.not_true, Bool.not_false, decide_eq_true_eq, decide_eq_false_iff_not, eq_self, Bool.false_and, Bool.and_false, Bool.not_eq_true', ite_self]
      exact w_out ⟨rfl, by simp only [g0, ↓wDn, wUp0, wUp1, wUp2, Option.map_none, Int.reduceLE, Int.reduceLT, Int.reduceEq, Int.reduceNeg, Int.reduceToNat, Nat.reduceLeDiff, aresults, aresult, tupled, Bool.and_self, Bool.true_and, Bool.and_true, true_and, and_true, Option.bind_some, Option.bind_none, Option.getD_some, Option.getD_none, Option.map_some, List.getElem?_toArray, List.getElem?_cons_zero, List.getElem?_cons_succ, List.getElem?_nil, List.map_cons, List.map_nil, List.all_cons, List.all_nil, Nat.reduceLT, Nat.reduceEqDiff, Nat.reduceSub, Nat.reduceAdd, ↓reduceIte, if_true, if_false, Bool.false_eq_true, reduceCtorEq, Nat.le_refl, decide_true, decide_false, Bool.not_true, Bool.not_false, decide_eq_true_eq, decide_eq_false_iff_not, eq_self, Bool.false_and, Bool.and_false, Bool.not_eq_true', ite_self], by simp only [g1, ↓wDn, wUp0, wUp1, wUp2, Option.map_none, Int.reduceLE, Int.reduceLT, Int.reduceEq, Int.reduceNeg, Int.reduceToNat, Nat.reduceLeDiff, aresults, aresult, tupled, Bool.and_self, Bool.true_and, Bool.and_true, true_and, and_true, Option.bind_some, Option.bind_none, Option.getD_some, Option.getD_none, Option.map_some, List.getElem?_toArray, List.getElem?_cons_zero, List.getElem?_cons_succ, List.getElem?_nil, List.map_cons, List.map_nil, List.all_cons, List.all_nil, Nat.reduceLT, Nat.reduceEqDiff, Nat.reduceSub, Nat.reduceAdd, ↓reduceIte, if_true, if_false, Bool.false_eq_true, reduceCtorEq, Nat.le_refl, decide_true, decide_false, Bool.not_true, Bool.not_false, decide_eq_true_eq, decide_eq_false_iff_not, eq_self, Bool.false_and, Bool.and_false, Bool.not_eq_true', ite_self], by simp only [g4, ↓wDn, wUp0, wUp1, wUp2, Option.map_none, Int.reduceLE, Int.reduceLT, Int.reduceEq, Int.reduceNeg, Int.reduceToNat, Nat.reduceLeDiff, aresults, aresult, tupled, Bool.and_self, Bool.true_and, Bool.and_true, true_and, and_true, Option.bind_some, Option.bind_none, Option.getD_some, Option.getD_none, Option.map_some, List.getElem?_toArray, List.getElem?_cons_zero, List.getElem?_cons_succ, List.getElem?_nil, List.map_cons, List.map_nil, List.all_cons, List.all_nil, Nat.reduceLT, Nat.reduceEqDiff, Nat.reduceSub, Nat.reduceAdd, ↓reduceIte, if_true, if_false, Bool.false_eq_true, reduceCtorEq, Nat.le_refl, decide_true, decide_false, Bool.not_true, Bool.not_false, decide_eq_true_eq, decide_eq_false_iff_not, eq_self, Bool.false_and, Bool.and_false, Bool.not_eq_true', ite_self]⟩
  case rest =>
    rintro g S1 ⟨rfl, g0, g1, g4⟩
    simp only [g1, hlen, ↓wDn, wUp0, wUp1, wUp2, Option.map_none, Int.reduceLE, Int.reduceLT, Int.reduceEq, Int.reduceNeg, Int.reduceToNat, Nat.reduceLeDiff, aresults, aresult, tupled, Bool.and_self, Bool.true_and, Bool.and_true, true_and, and_true, Option.bind_some, Option.bind_none, Option.getD_some, Option.getD_none, Option.map_some, List.getElem?_toArray, List.getElem?_cons_zero, List.getElem?_cons_succ, List.getElem?_nil, List.map_cons, List.map_nil, List.all_cons, List.all_nil, Nat.reduceLT, Nat.reduceEqDiff, Nat.reduceSub, Nat.reduceAdd, ↓reduceIte, if_true, if_false, Bool.false_eq_true, reduceCtorEq, Nat.le_refl, decide_true, decide_false, Bool.not_true, Bool.not_false, decide_eq_true_eq, decide_eq_false_iff_not, eq_self, Bool.false_and, Bool.and_false, Bool.not_eq_true', ite_self]
    refine w_loopF (fun (z : Nat × List UInt8 × List It) g S1 => WF E0 S1 ∧ S.n ≤ S1.n ∧ S.n ≤ S1.low ∧ (∀ b, b < S.n → St.get E0 S1 b = St.get E0 S b) ∧ z.1 ≤ ks.length ∧ z.2.2.length = z.1 ∧ z.2.1.length < 2^60 ∧ runI (ks.drop z.1) z.2.1 z.2.2 = runI ks l [] ∧
      g 0 = .string (str z.2.1) ∧ g 30 = v ∧ g 31 = .int .i64 ks.length ∧ g 32 = .int .i64 z.1 ∧ RowG E0 S1 78 3 S.n (g 4) z.1 (iC z.2.2)) (fun z => ks.length - z.1) (0, l, []) ?init2 ?round2
    case init2 =>
      refine ⟨?_, ?_, ?_, ?_, by omega, rfl, hl, by rw [List.drop_zero], ?_, ?_, ?_, ?_, ?_⟩
      · simp only [hS, ↓wDn, wUp0, wUp1, wUp2, Option.map_none, Int.reduceLE, Int.reduceLT, Int.reduceEq, Int.reduceNeg, Int.reduceToNat, Nat.reduceLeDiff, aresults, aresult, tupled, Bool.and_self, Bool.true_and, Bool.and_true, true_and, and_true, Option.bind_some, Option.bind_none, Option.getD_some, Option.getD_none, Option.map_some, List.getElem?_toArray, List.getElem?_cons_zero, List.getElem?_cons_succ, List.getElem?_nil, List.map_cons, List.map_nil, List.all_cons, List.all_nil, Nat.reduceLT, Nat.reduceEqDiff, Nat.reduceSub, Nat.reduceAdd, ↓reduceIte, if_true, if_false, Bool.false_eq_true, reduceCtorEq, Nat.le_refl, decide_true, decide_false, Bool.not_true, Bool.not_false, decide_eq_true_eq, decide_eq_false_iff_not, eq_self, Bool.false_and, Bool.and_false, Bool.not_eq_true', ite_self]
      · simp only [↓wDn, wUp0, wUp1, wUp2, Option.map_none, Int.reduceLE, Int.reduceLT, Int.reduceEq, Int.reduceNeg, Int.reduceToNat, Nat.reduceLeDiff, aresults, aresult, tupled, Bool.and_self, Bool.true_and, Bool.and_true, true_and, and_true, Option.bind_some, Option.bind_none, Option.getD_some, Option.getD_none, Option.map_some, List.getElem?_toArray, List.getElem?_cons_zero, List.getElem?_cons_succ, List.getElem?_nil, List.map_cons, List.map_nil, List.all_cons, List.all_nil, Nat.reduceLT, Nat.reduceEqDiff, Nat.reduceSub, Nat.reduceAdd, ↓reduceIte, if_true, if_false, Bool.false_eq_true, reduceCtorEq, Nat.le_refl, decide_true, decide_false, Bool.not_true, Bool.not_false, decide_eq_true_eq, decide_eq_false_iff_not, eq_self, Bool.false_and, Bool.and_false, Bool.not_eq_true', ite_self]
      · simp only [↓wDn, wUp0, wUp1, wUp2, Option.map_none, Int.reduceLE, Int.reduceLT, Int.reduceEq, Int.reduceNeg, Int.reduceToNat, Nat.reduceLeDiff, aresults, aresult, tupled, Bool.and_self, Bool.true_and, Bool.and_true, true_and, and_true, Option.bind_some, Option.bind_none, Option.getD_some, Option.getD_none, Option.map_some, List.getElem?_toArray, List.getElem?_cons_zero, List.getElem?_cons_succ, List.getElem?_nil, List.map_cons, List.map_nil, List.all_cons, List.all_nil, Nat.reduceLT, Nat.reduceEqDiff, Nat.reduceSub, Nat.reduceAdd, ↓reduceIte, if_true, if_false, Bool.false_eq_true, reduceCtorEq, Nat.le_refl, decide_true, decide_false, Bool.not_true, Bool.not_false, decide_eq_true_eq, decide_eq_false_iff_not, eq_self, Bool.false_and, Bool.and_false, Bool.not_eq_true', ite_self]
      · intro b hb; rfl
      · simp only [g0, ↓wDn, wUp0, wUp1, wUp2, Option.map_none, Int.reduceLE, Int.reduceLT, Int.reduceEq, Int.reduceNeg, Int.reduceToNat, Nat.reduceLeDiff, aresults, aresult, tupled, Bool.and_self, Bool.true_and, Bool.and_true, true_and, and_true, Option.bind_some, Option.bind_none, Option.getD_some, Option.getD_none, Option.map_some, List.getElem?_toArray, List.getElem?_cons_zero, List.getElem?_cons_succ, List.getElem?_nil, List.map_cons, List.map_nil, List.all_cons, List.all_nil, Nat.reduceLT, Nat.reduceEqDiff, Nat.reduceSub, Nat.reduceAdd, ↓reduceIte, if_true, if_false, Bool.false_eq_true, reduceCtorEq, Nat.le_refl, decide_true, decide_false, Bool.not_true, Bool.not_false, decide_eq_true_eq, decide_eq_false_iff_not, eq_self, Bool.false_and, Bool.and_false, Bool.not_eq_true', ite_self]
      · simp only [g1, ↓wDn, wUp0, wUp1, wUp2, Option.map_none, Int.reduceLE, Int.reduceLT, Int.reduceEq, Int.reduceNeg, Int.reduceToNat, Nat.reduceLeDiff, aresults, aresult, tupled, Bool.and_self, Bool.true_and, Bool.and_true, true_and, and_true, Option.bind_some, Option.bind_none, Option.getD_some, Option.getD_none, Option.map_some, List.getElem?_toArray, List.getElem?_cons_zero, List.getElem?_cons_succ, List.getElem?_nil, List.map_cons, List.map_nil, List.all_cons, List.all_nil, Nat.reduceLT, Nat.reduceEqDiff, Nat.reduceSub, Nat.reduceAdd, ↓reduceIte, if_true, if_false, Bool.false_eq_true, reduceCtorEq, Nat.le_refl, decide_true, decide_false, Bool.not_true, Bool.not_false, decide_eq_true_eq, decide_eq_false_iff_not, eq_self, Bool.false_and, Bool.and_false, Bool.not_eq_true', ite_self]
      · simp only [↓wDn, wUp0, wUp1, wUp2, Option.map_none, Int.reduceLE, Int.reduceLT, Int.reduceEq, Int.reduceNeg, Int.reduceToNat, Nat.reduceLeDiff, aresults, aresult, tupled, Bool.and_self, Bool.true_and, Bool.and_true, true_and, and_true, Option.bind_some, Option.bind_none, Option.getD_some, Option.getD_none, Option.map_some, List.getElem?_toArray, List.getElem?_cons_zero, List.getElem?_cons_succ, List.getElem?_nil, List.map_cons, List.map_nil, List.all_cons, List.all_nil, Nat.reduceLT, Nat.reduceEqDiff, Nat.reduceSub, Nat.reduceAdd, ↓reduceIte, if_true, if_false, Bool.false_eq_true, reduceCtorEq, Nat.le_refl, decide_true, decide_false, Bool.not_true, Bool.not_false, decide_eq_true_eq, decide_eq_false_iff_not, eq_self, Bool.false_and, Bool.and_false, Bool.not_eq_true', ite_self]
      · simp only [Int.natCast_zero, ↓wDn, wUp0, wUp1, wUp2, Option.map_none, Int.reduceLE, Int.reduceLT, Int.reduceEq, Int.reduceNeg, Int.reduceToNat, Nat.reduceLeDiff, aresults, aresult, tupled, Bool.and_self, Bool.true_and, Bool.and_true, true_and, and_true, Option.bind_some, Option.bind_none, Option.getD_some, Option.getD_none, Option.map_some, List.getElem?_toArray, List.getElem?_cons_zero, List.getElem?_cons_succ, List.getElem?_nil, List.map_cons, List.map_nil, List.all_cons, List.all_nil, Nat.reduceLT, Nat.reduceEqDiff, Nat.reduceSub, Nat.reduceAdd, ↓reduceIte, if_true, if_false, Bool.false_eq_true, reduceCtorEq, Nat.le_refl, decide_true, decide_false, Bool.not_true, Bool.not_false, decide_eq_true_eq, decide_eq_false_iff_not, eq_self, Bool.false_and, Bool.and_false, Bool.not_eq_true', ite_self]
      · simp only [g4, ↓wDn, wUp0, wUp1, wUp2, Option.map_none, Int.reduceLE, Int.reduceLT, Int.reduceEq, Int.reduceNeg, Int.reduceToNat, Nat.reduceLeDiff, aresults, aresult, tupled, Bool.and_self, Bool.true_and, Bool.and_true, true_and, and_true, Option.bind_some, Option.bind_none, Option.getD_some, Option.getD_none, Option.map_some, List.getElem?_toArray, List.getElem?_cons_zero, List.getElem?_cons_succ, List.getElem?_nil, List.map_cons, List.map_nil, List.all_cons, List.all_nil, Nat.reduceLT, Nat.reduceEqDiff, Nat.reduceSub, Nat.reduceAdd, ↓reduceIte, if_true, if_false, Bool.false_eq_true, reduceCtorEq, Nat.le_refl, decide_true, decide_false, Bool.not_true, Bool.not_false, decide_eq_true_eq, decide_eq_false_iff_not, eq_self, Bool.false_and, Bool.and_false, Bool.not_eq_true', ite_self]
        exact RowG.nil ..
    case round2 =>
      rintro ⟨i, r, its⟩ g S1 ⟨hW, hn, hlow, hold, hi, hil, hr, hrun, g0, g30, g31, g32, hrow⟩
      simp only at hi hil hr hrun g0 g32 hrow
      by_cases hlt : i < ks.length
      · have z2 : (i : Int) < (ks.length : Int) := by omega
        obtain ⟨b, hb1, hb2, hb3, hb4, hb5⟩ := hv.at und49 sz3 hlt
        have hb3' : St.cells E0 S1 b = some (kC ks) := by
          unfold St.cells at hb3 ⊢
          rw [hold b hb1]; exact hb3
        have hld : aload E0 S1 3 (.pointer (some ⟨b, i * 1, none⟩)) = some (.int .i64 (ks[i] : Nat)) := ldI hb3' (by rw [Nat.mul_one]; exact kC_get ks i hlt)
        have hk := hks ks[i] (List.getElem_mem hlt)
        have htk := fun S hS K τ => take_ok ks[i] hk r hr S hS K τ
        have hdrop : ks.drop i = ks[i] :: ks.drop (i + 1) := List.drop_eq_getElem_cons hlt
        rw [hdrop, runI] at hrun
        have htl := takeI_len ks[i] r
        obtain ⟨x, hx⟩ : ∃ x, (takeI ks[i] r).1 = x := ⟨_, rfl⟩
        obtain ⟨r', hr'⟩ : ∃ r', (takeI ks[i] r).2.1 = r' := ⟨_, rfl⟩
        obtain ⟨e, he⟩ : ∃ e, (takeI ks[i] r).2.2 = e := ⟨_, rfl⟩
        rw [hx, hr', he] at hrun
        simp only [hx, hr', he] at htk
        rw [hr'] at htl
        have hst : astore E0 (S1.push (.own [.int .i64 0, .int .i64 0, .string ⟨#[]⟩] 78)) 78 (.pointer (some ⟨S1.n, 0, none⟩)) x.val = some ((S1.push (.own [.int .i64 0, .int .i64 0, .string ⟨#[]⟩] 78)).set S1.n (.own x.cells 78)) :=
          store_own (get_pushN S1 _ hW) sz78 rfl rfl (by simp)
        obtain ⟨S3, hS3⟩ : ∃ S3, (S1.push (.own [.int .i64 0, .int .i64 0, .string ⟨#[]⟩] 78)).set S1.n (.own x.cells 78) = S3 := ⟨_, rfl⟩
        have hWp : WF E0 (S1.push (.own [.int .i64 0, .int .i64 0, .string ⟨#[]⟩] 78)) := (wf_push _ _).2 hW
        have hW3 : WF E0 S3 := by rw [← hS3]; exact (wf_set _ _ _).2 hWp
        have hn3 : S3.n = S1.n + 1 := by rw [← hS3]; rfl
        have hl3 : S.n ≤ S3.low := by rw [← hS3, low_set, low_push, le_nmin]; exact ⟨hlow, hn⟩
        have hget3 : ∀ b, St.get E0 S3 b = if b = S1.n then some (.own x.cells 78) else St.get E0 S1 b := fun b => by
          rw [← hS3, get_setS _ _ _ _ hWp (wf_base hW) (by rw [n_push]; exact Nat.lt_succ_self _)]
          by_cases hb : b = S1.n
          · rw [if_pos hb, if_pos hb]
          · rw [if_neg hb, if_neg hb, get_push _ _ _ hW, if_neg hb]
        rw [hS3] at hst
        by_cases h0 : e = 0
        · rw [h0] at hrun htk
          rw [if_neg (by simp)] at hrun
          have hl0 : aload E0 S3 78 (.pointer (some ⟨S1.n, 0, none⟩)) = some x.val := by
            rw [ld78 (cells_own (by rw [hget3, if_pos rfl])) (by show 0 + 3 ≤ 3; decide)]
            rfl
          have hrow3 : RowG E0 S3 78 3 S.n (g 4) i (iC its) := hrow.keep (by omega) fun b hb _ => by rw [hget3, if_neg (by omega)]
          obtain ⟨v', S4, a1, a2, a3, a4, a5, a6, a7, a8⟩ := itRow hrow3 hW3 (wf_base hS) (by omega) (by omega) x
          have e5 : IntKind.i64.wrap ((i : Int) + 1) = ((i + 1 : Nat) : Int) := by rw [wrap64] <;> omega
          simp only [g0, g30, g31, g32, z2, hb5, hld, hasBody63, htk, hW, alloc78, hst, hl0, bs74, a1, e5, ↓wDn, wUp0, wUp1, wUp2, Option.map_none, Int.reduceLE, Int.reduceLT, Int.reduceEq, Int.reduceNeg, Int.reduceToNat, Nat.reduceLeDiff, aresults, aresult, tupled, Bool.and_self, Bool.true_and, Bool.and_true, true_and, and_true, Option.bind_some, Option.bind_none, Option.getD_some, Option.getD_none, Option.map_some, List.getElem?_toArray, List.getElem?_cons_zero, List.getElem?_cons_succ, List.getElem?_nil, List.map_cons, List.map_nil, List.all_cons, List.all_nil, Nat.reduceLT, Nat.reduceEqDiff, Nat.reduceSub, Nat.reduceAdd, ↓reduceIte, if_true, if_false, Bool.false_eq_true, reduceCtorEq, Nat.le_refl, decide_true, decide_false, Bool.not_true, Bool.not_false, decide_eq_true_eq, decide_eq_false_iff_not, eq_self, Bool.false_and, Bool.and_false, Bool.not_eq_true', ite_self]
          refine w_next (i + 1, r', its ++ [x]) (by simp only; omega) ⟨?_, ?_, ?_, ?_, by omega, by simp [hil], by show r'.length < 2^60; omega, hrun, ?_, ?_, ?_, ?_, ?_⟩
          · simp only [a4, ↓wDn, wUp0, wUp1, wUp2, Option.map_none, Int.reduceLE, Int.reduceLT, Int.reduceEq, Int.reduceNeg, Int.reduceToNat, Nat.reduceLeDiff, aresults, aresult, tupled, Bool.and_self, Bool.true_and, Bool.and_true, true_and, and_true, Option.bind_some, Option.bind_none, Option.getD_some, Option.getD_none, Option.map_some, List.getElem?_toArray, List.getElem?_cons_zero, List.getElem?_cons_succ, List.getElem?_nil, List.map_cons, List.map_nil, List.all_cons, List.all_nil, Nat.reduceLT, Nat.reduceEqDiff, Nat.reduceSub, Nat.reduceAdd, ↓reduceIte, if_true, if_false, Bool.false_eq_true, reduceCtorEq, Nat.le_refl, decide_true, decide_false, Bool.not_true, Bool.not_false, decide_eq_true_eq, decide_eq_false_iff_not, eq_self, Bool.false_and, Bool.and_false, Bool.not_eq_true', ite_self]
          · show S.n ≤ S4.n; omega
          · exact a6 _ (Nat.le_refl _) hl3
          · intro b' hb'
            rw [get_mk, a7 b' (by omega) (fun hv' => by have := (hrow.lt hv').2; omega), hget3, if_neg (by omega)]
            exact hold b' hb'
          · simp only [↓wDn, wUp0, wUp1, wUp2, Option.map_none, Int.reduceLE, Int.reduceLT, Int.reduceEq, Int.reduceNeg, Int.reduceToNat, Nat.reduceLeDiff, aresults, aresult, tupled, Bool.and_self, Bool.true_and, Bool.and_true, true_and, and_true, Option.bind_some, Option.bind_none, Option.getD_some, Option.getD_none, Option.map_some, List.getElem?_toArray, List.getElem?_cons_zero, List.getElem?_cons_succ, List.getElem?_nil, List.map_cons, List.map_nil, List.all_cons, List.all_nil, Nat.reduceLT, Nat.reduceEqDiff, Nat.reduceSub, Nat.reduceAdd, ↓reduceIte, if_true, if_false, Bool.false_eq_true, reduceCtorEq, Nat.le_refl, decide_true, decide_false, Bool.not_true, Bool.not_false, decide_eq_true_eq, decide_eq_false_iff_not, eq_self, Bool.false_and, Bool.and_false, Bool.not_eq_true', ite_self]
          · simp only [g30, ↓wDn, wUp0, wUp1, wUp2, Option.map_none, Int.reduceLE, Int.reduceLT, Int.reduceEq, Int.reduceNeg, Int.reduceToNat, Nat.reduceLeDiff, aresults, aresult, tupled, Bool.and_self, Bool.true_and, Bool.and_true, true_and, and_true, Option.bind_some, Option.bind_none, Option.getD_some, Option.getD_none, Option.map_some, List.getElem?_toArray, List.getElem?_cons_zero, List.getElem?_cons_succ, List.getElem?_nil, List.map_cons, List.map_nil, List.all_cons, List.all_nil, Nat.reduceLT, Nat.reduceEqDiff, Nat.reduceSub, Nat.reduceAdd, ↓reduceIte, if_true, if_false, Bool.false_eq_true, reduceCtorEq, Nat.le_refl, decide_true, decide_false, Bool.not_true, Bool.not_false, decide_eq_true_eq, decide_eq_false_iff_not, eq_self, Bool.false_and, Bool.and_false, Bool.not_eq_true', ite_self]
          · simp only [g31, ↓wDn, wUp0, wUp1, wUp2, Option.map_none, Int.reduceLE, Int.reduceLT, Int.reduceEq, Int.reduceNeg, Int.reduceToNat, Nat.reduceLeDiff, aresults, aresult, tupled, Bool.and_self, Bool.true_and, Bool.and_true, true_and, and_true, Option.bind_some, Option.bind_none, Option.getD_some, Option.getD_none, Option.map_some, List.getElem?_toArray, List.getElem?_cons_zero, List.getElem?_cons_succ, List.getElem?_nil, List.map_cons, List.map_nil, List.all_cons, List.all_nil, Nat.reduceLT, Nat.reduceEqDiff, Nat.reduceSub, Nat.reduceAdd, ↓reduceIte, if_true, if_false, Bool.false_eq_true, reduceCtorEq, Nat.le_refl, decide_true, decide_false, Bool.not_true, Bool.not_false, decide_eq_true_eq, decide_eq_false_iff_not, eq_self, Bool.false_and, Bool.and_false, Bool.not_eq_true', ite_self]
          · simp only [↓wDn, wUp0, wUp1, wUp2, Option.map_none, Int.reduceLE, Int.reduceLT, Int.reduceEq, Int.reduceNeg, Int.reduceToNat, Nat.reduceLeDiff, aresults, aresult, tupled, Bool.and_self, Bool.true_and, Bool.and_true, true_and, and_true, Option.bind_some, Option.bind_none, Option.getD_some, Option.getD_none, Option.map_some, List.getElem?_toArray, List.getElem?_cons_zero, List.getElem?_cons_succ, List.getElem?_nil, List.map_cons, List.map_nil, List.all_cons, List.all_nil, Nat.reduceLT, Nat.reduceEqDiff, Nat.reduceSub, Nat.reduceAdd, ↓reduceIte, if_true, if_false, Bool.false_eq_true, reduceCtorEq, Nat.le_refl, decide_true, decide_false, Bool.not_true, Bool.not_false, decide_eq_true_eq, decide_eq_false_iff_not, eq_self, Bool.false_and, Bool.and_false, Bool.not_eq_true', ite_self]
          · simp only [↓wDn, wUp0, wUp1, wUp2, Option.map_none, Int.reduceLE, Int.reduceLT, Int.reduceEq, Int.reduceNeg, Int.reduceToNat, Nat.reduceLeDiff, aresults, aresult, tupled, Bool.and_self, Bool.true_and, Bool.and_true, true_and, and_true, Option.bind_some, Option.bind_none, Option.getD_some, Option.getD_none, Option.map_some, List.getElem?_toArray, List.getElem?_cons_zero, List.getElem?_cons_succ, List.getElem?_nil, List.map_cons, List.map_nil, List.all_cons, List.all_nil, Nat.reduceLT, Nat.reduceEqDiff, Nat.reduceSub, Nat.reduceAdd, ↓reduceIte, if_true, if_false, Bool.false_eq_true, reduceCtorEq, Nat.le_refl, decide_true, decide_false, Bool.not_true, Bool.not_false, decide_eq_true_eq, decide_eq_false_iff_not, eq_self, Bool.false_and, Bool.and_false, Bool.not_eq_true', ite_self]
            exact a2
        · rw [if_pos h0] at hrun
          rw [← hrun] at hE
          have hfin := hE h0
          simp only [g0, g30, g31, g32, z2, hb5, hld, hasBody63, htk, hW, alloc78, hst, h0, ret3, hl3, ↓wDn, wUp0, wUp1, wUp2, Option.map_none, Int.reduceLE, Int.reduceLT, Int.reduceEq, Int.reduceNeg, Int.reduceToNat, Nat.reduceLeDiff, aresults, aresult, tupled, Bool.and_self, Bool.true_and, Bool.and_true, true_and, and_true, Option.bind_some, Option.bind_none, Option.getD_some, Option.getD_none, Option.map_some, List.getElem?_toArray, List.getElem?_cons_zero, List.getElem?_cons_succ, List.getElem?_nil, List.map_cons, List.map_nil, List.all_cons, List.all_nil, Nat.reduceLT, Nat.reduceEqDiff, Nat.reduceSub, Nat.reduceAdd, ↓reduceIte, if_true, if_false, Bool.false_eq_true, reduceCtorEq, Nat.le_refl, decide_true, decide_false, Bool.not_true, Bool.not_false, decide_eq_true_eq, decide_eq_false_iff_not, eq_self, Bool.false_and, Bool.and_false, Bool.not_eq_true', ite_self]
          exact hfin
      · have he : i = ks.length := by omega
        subst he
        have z2 : ¬ (ks.length : Int) < (ks.length : Int) := by omega
        rw [List.drop_length, runI] at hrun
        rw [← hrun] at hO
        simp only [g0, g31, g32, z2, ↓wDn, wUp0, wUp1, wUp2, Option.map_none, Int.reduceLE, Int.reduceLT, Int.reduceEq, Int.reduceNeg, Int.reduceToNat, Nat.reduceLeDiff, aresults, aresult, tupled, Bool.and_self, Bool.true_and, Bool.and_true, true_and, and_true, Option.bind_some, Option.bind_none, Option.getD_some, Option.getD_none, Option.map_some, List.getElem?_toArray, List.getElem?_cons_zero, List.getElem?_cons_succ, List.getElem?_nil, List.map_cons, List.map_nil, List.all_cons, List.all_nil, Nat.reduceLT, Nat.reduceEqDiff, Nat.reduceSub, Nat.reduceAdd, ↓reduceIte, if_true, if_false, Bool.false_eq_true, reduceCtorEq, Nat.le_refl, decide_true, decide_false, Bool.not_true, Bool.not_false, decide_eq_true_eq, decide_eq_false_iff_not, eq_self, Bool.false_and, Bool.and_false, Bool.not_eq_true', ite_self]
        have hO2 := hO rfl
        rcases hrow with ⟨hnil, hk0, hcs⟩ | hrow2
        · have hfin := hO2 S (.slice none 0 0) hS (Nat.le_refl _) (Nat.min_le_left _ _) (fun b _ => rfl) (.inl ⟨rfl, hk0, hcs⟩)
          rw [hnil]
          simp only [ret3, hlow, ↓wDn, wUp0, wUp1, wUp2, Option.map_none, Int.reduceLE, Int.reduceLT, Int.reduceEq, Int.reduceNeg, Int.reduceToNat, Nat.reduceLeDiff, aresults, aresult, tupled, Bool.and_self, Bool.true_and, Bool.and_true, true_and, and_true, Option.bind_some, Option.bind_none, Option.getD_some, Option.getD_none, Option.map_some, List.getElem?_toArray, List.getElem?_cons_zero, List.getElem?_cons_succ, List.getElem?_nil, List.map_cons, List.map_nil, List.all_cons, List.all_nil, Nat.reduceLT, Nat.reduceEqDiff, Nat.reduceSub, Nat.reduceAdd, ↓reduceIte, if_true, if_false, Bool.false_eq_true, reduceCtorEq, Nat.le_refl, decide_true, decide_false, Bool.not_true, Bool.not_false, decide_eq_true_eq, decide_eq_false_iff_not, eq_self, Bool.false_and, Bool.and_false, Bool.not_eq_true', ite_self]
          exact hfin
        · obtain ⟨b, sh, hvb, q⟩ := hrow2
          have hfin := hO2 ⟨S1.n, S1.h, Nat.min S.low S1.low⟩ (g 4) hW hn (by rw [le_nmin]; exact ⟨Nat.min_le_left _ _, Nat.le_trans (Nat.min_le_right _ _) hlow⟩) hold (.inr ⟨b, sh, hvb, q⟩)
          rw [retV_npL _ _ _ _ (by rw [hvb]; rfl)]
          exact hfin
end Go.Abs

namespace Go.Abs
open Go Go.Proofs Go.RowKit
set_option linter.unusedSimpArgs false
set_option maxRecDepth 100000
/-! strings.Builder -/
theorem und143 : E0.P.underlying 143 = some (.pointer 145) := keepEq (by kernel_rfl)
theorem sz145 : szOf E0 145 = some 2 := keepEq (by kernel_rfl)
theorem sz143 : szOf E0 143 = some 1 := keepEq (by kernel_rfl)
theorem sz73 : szOf E0 73 = some 1 := keepEq (by kernel_rfl)
theorem fa145_0 (b : Nat) : afieldAddr E0 145 (.pointer (some ⟨b, 0, none⟩)) 0 = some (.pointer (some ⟨b, 0, none⟩)) := keepEq (by kernel_rfl)
theorem fa145_1 (b : Nat) : afieldAddr E0 145 (.pointer (some ⟨b, 0, none⟩)) 1 = some (.pointer (some ⟨b, 1, none⟩)) := keepEq (by kernel_rfl)
theorem p_nil_nil (x y S) : binA E0 .eql 143 x y (.pointer none) (.pointer none) S = some (.value (.bool true), S) := keepEq (by kernel_rfl)
theorem p_some_nil (x y a S) : binA E0 .eql 143 x y (.pointer (some a)) (.pointer none) S = some (.value (.bool false), S) := bin_p_nil und143 .eql x y a S
theorem p_same (x y b o S) : binA E0 .neq 143 x y (.pointer (some ⟨b, o, none⟩)) (.pointer (some ⟨b, o, none⟩)) S = some (.value (.bool false), S) := bin_p_same und143 sz145 (by decide) .neq x y b o S
theorem hb145 : hasBody E0 145 = false := keepEq rfl
theorem id145 : E0.ident 145 = true := keepEq rfl
theorem hasBody95 : hasBody E0 95 = true := keepEq rfl
theorem hasBody61 : hasBody E0 61 = true := keepEq rfl
theorem hasBody62 : hasBody E0 62 = true := keepEq rfl
theorem cv143 {S : St} {b : Nat} {c : List Value} (hc : c.length = 2) (hg : St.get E0 S b = some (.own c 145)) : convA E0 143 228 (.pointer (some ⟨b, 0, none⟩)) S = some (.value (.pointer (some ⟨b, 0, none⟩)), S) :=
  conv_ptr hg (by rw [hc]; kernel_rfl) (by kernel_rfl)
theorem cv228 {S : St} {b : Nat} {c : List Value} (hc : c.length = 2) (hg : St.get E0 S b = some (.own c 145)) : convA E0 228 143 (.pointer (some ⟨b, 0, none⟩)) S = some (.value (.pointer (some ⟨b, 0, none⟩)), S) :=
  conv_ptr hg (by rw [hc]; kernel_rfl) (by kernel_rfl)
/-- A builder in its block, with what was written. -/
structure Bld (S : St) (b lo : Nat) (v : Value) (l : List UInt8) : Prop where
  wf : WF E0 S
  base : E0.base ≤ b
  lt : b < S.n
  blk : b < lo
  los : lo ≤ S.n
  get : ∃ p, (p = .pointer none ∨ p = .pointer (some ⟨b, 0, none⟩)) ∧ St.get E0 S b = some (.own [p, v] 145)
  row : RowG E0 S 5 1 lo v l.length (l.map fun x => .int .u8 x.toNat)
theorem retV_lowL (vs : List Value) (S K S1) (h : ¬ S.n ≤ S1.low) : retV vs S K S1 ↔ K (tupled vs) ⟨S1.n, S1.h, Nat.min S.low S1.low⟩ := by
  unfold retV
  rw [if_neg (fun hh => h hh.1)]
theorem copyCheck_ok (b lo : Nat) (v : Value) (l : List UInt8) (S : St) (h : Bld S b lo v l) (K : Value → St → Prop) (τ)
    (hK : ∀ S', Bld S' b lo v l → St.get E0 S' b = some (.own [.pointer (some ⟨b, 0, none⟩), v] 145) → S'.n = S.n → (∀ m, m ≤ b → m ≤ S.low → m ≤ S'.low) → (∀ b', b' ≠ b → St.get E0 S' b' = St.get E0 S b') → K (.tuple #[]) S') : RL E0 95 [.pointer (some ⟨b, 0, none⟩)] S K τ := by
  refine (w_body (memo0 _ _ (by decide)) (okf0 _) Tryz.func95 (c := _) rfl (by show 1 ≤ 20; decide) S K).2 ?_
  obtain ⟨p, hp, hg⟩ := h.get
  have hW := h.wf
  have hlt := h.lt
  have hbs := h.base
  have hl0 : aload E0 ⟨S.n, S.h, S.n⟩ 143 (.pointer (some ⟨b, 0, none⟩)) = some p := by
    rw [load_cell (S := ⟨S.n, S.h, S.n⟩) (cells_own hg) und143 rfl sz143]
    rfl
  rcases hp with rfl | rfl
  · have hst : astore E0 ⟨S.n, S.h, S.n⟩ 143 (.pointer (some ⟨b, 0, none⟩)) (.pointer (some ⟨b, 0, none⟩)) = some (St.set ⟨S.n, S.h, S.n⟩ b (.own [.pointer (some ⟨b, 0, none⟩), v] 145)) :=
      store_own (S := ⟨S.n, S.h, S.n⟩) hg sz143 rfl rfl (by simp)
    have hgs : ∀ b', St.get E0 (St.set ⟨S.n, S.h, S.n⟩ b (.own [.pointer (some ⟨b, 0, none⟩), v] 145)) b' = if b' = b then some (.own [.pointer (some ⟨b, 0, none⟩), v] 145) else St.get E0 S b' := fun b' => get_setS ⟨S.n, S.h, S.n⟩ _ _ _ hW hbs hlt
    simp only [Tryz.f95, aop_nilA, nilA_ptr, fa145_0, hl0, p_nil_nil, cv143 (S := ⟨S.n, S.h, S.n⟩) rfl hg, cv228 (S := ⟨S.n, S.h, S.n⟩) rfl hg, aop_ident _ _ _ _ _ _ _ _ _ _ hb145 id145, hst, ↓wDn, wUp0, wUp1, wUp2, Option.map_none, Int.reduceLE, Int.reduceLT, Int.reduceEq, Int.reduceNeg, Int.reduceToNat, Nat.reduceLeDiff, aresults, aresult, tupled, Bool.and_self, Bool.true_and, Bool.and_true, true_and, and_true, Option.bind_some, Option.bind_none, Option.getD_some, Option.getD_none, Option.map_some, List.getElem?_toArray, List.getElem?_cons_zero, List.getElem?_cons_succ, List.getElem?_nil, List.map_cons, List.map_nil, List.all_cons, List.all_nil, Nat.reduceLT, Nat.reduceEqDiff, Nat.reduceSub, Nat.reduceAdd, ↓reduceIte, if_true, if_false, Bool.false_eq_true, reduceCtorEq, Nat.le_refl, decide_true, decide_false, Bool.not_true, Bool.not_false, decide_eq_true_eq, decide_eq_false_iff_not, eq_self, Bool.false_and, Bool.and_false, Bool.not_eq_true', ite_self]
    rw [retV_lowL _ _ _ _ (by rw [low_set]; intro hc; rw [le_nmin] at hc; omega)]
    refine hK _ ⟨(wf_set ⟨S.n, S.h, S.n⟩ _ _).2 hW, hbs, hlt, h.blk, h.los, ⟨_, .inr rfl, (hgs b).trans (if_pos rfl)⟩, ?_⟩ ((hgs b).trans (if_pos rfl)) rfl ?_ (fun b' hb' => (hgs b').trans (if_neg hb'))
    · exact h.row.keep (Nat.le_refl _) fun b' hb' hv => (hgs b').trans (if_neg (fun he => by have := (h.row.lt hv).2; have := h.blk; omega))
    · intro m h1 h2
      show m ≤ Nat.min S.low (Nat.min S.n b)
      rw [le_nmin, le_nmin]
      exact ⟨h2, by omega, h1⟩
  · simp only [Tryz.f95, aop_nilA, nilA_ptr, fa145_0, hl0, p_some_nil, p_same, ↓wDn, wUp0, wUp1, wUp2, Option.map_none, Int.reduceLE, Int.reduceLT, Int.reduceEq, Int.reduceNeg, Int.reduceToNat, Nat.reduceLeDiff, aresults, aresult, tupled, Bool.and_self, Bool.true_and, Bool.and_true, true_and, and_true, Option.bind_some, Option.bind_none, Option.getD_some, Option.getD_none, Option.map_some, List.getElem?_toArray, List.getElem?_cons_zero, List.getElem?_cons_succ, List.getElem?_nil, List.map_cons, List.map_nil, List.all_cons, List.all_nil, Nat.reduceLT, Nat.reduceEqDiff, Nat.reduceSub, Nat.reduceAdd, ↓reduceIte, if_true, if_false, Bool.false_eq_true, reduceCtorEq, Nat.le_refl, decide_true, decide_false, Bool.not_true, Bool.not_false, decide_eq_true_eq, decide_eq_false_iff_not, eq_self, Bool.false_and, Bool.and_false, Bool.not_eq_true', ite_self]
    rw [retV_pure _ _ _ _ (Nat.le_refl _) rfl]
    exact hK S h hg rfl (fun m _ h2 => h2) (fun _ _ => rfl)
theorem bytes_one (l : List UInt8) : (l.map fun x => Value.int .u8 x.toNat).all (·.oneCell') = true := by
  rw [List.all_map]
  exact List.all_eq_true.2 fun _ _ => rfl
theorem info5 : infoOk E0 5 1 1 = true := keepEq (by kernel_rfl)
theorem wstr_ok (b lo : Nat) (v : Value) (l t : List UInt8) (ht : 0 < t.length) (hb : l.length + t.length < 2^30) (S : St) (h : Bld S b lo v l) (K : Value → St → Prop) (τ)
    (hK : ∀ S' v' r, Bld S' b lo v' (l ++ t) → S.n ≤ S'.n → (∀ m, m ≤ b → m ≤ S.low → m ≤ S'.low) → (∀ b', b' < S.n → b' < lo → b' ≠ b → St.get E0 S' b' = St.get E0 S b') → K r S') : RL E0 61 [.pointer (some ⟨b, 0, none⟩), .string (str t)] S K τ := by
  refine (w_body (memo0 _ _ (by decide)) (okf0 _) Tryz.func61 (c := _) rfl (by show 2 ≤ 19; decide) S K).2 ?_
  have h0 : Bld ⟨S.n, S.h, S.n⟩ b lo v l := ⟨h.wf, h.base, h.lt, h.blk, h.los, h.get, h.row⟩
  simp only [Tryz.f61, hasBody95, ↓wDn, wUp0, wUp1, wUp2, Option.map_none, Int.reduceLE, Int.reduceLT, Int.reduceEq, Int.reduceNeg, Int.reduceToNat, Nat.reduceLeDiff, aresults, aresult, tupled, Bool.and_self, Bool.true_and, Bool.and_true, true_and, and_true, Option.bind_some, Option.bind_none, Option.getD_some, Option.getD_none, Option.map_some, List.getElem?_toArray, List.getElem?_cons_zero, List.getElem?_cons_succ, List.getElem?_nil, List.map_cons, List.map_nil, List.all_cons, List.all_nil, Nat.reduceLT, Nat.reduceEqDiff, Nat.reduceSub, Nat.reduceAdd, ↓reduceIte, if_true, if_false, Bool.false_eq_true, reduceCtorEq, Nat.le_refl, decide_true, decide_false, Bool.not_true, Bool.not_false, decide_eq_true_eq, decide_eq_false_iff_not, eq_self, Bool.false_and, Bool.and_false, Bool.not_eq_true', ite_self]
  refine copyCheck_ok b lo v l _ h0 _ _ ?_
  intro S1 h1 hg1 hn1 hlow1 hold1
  have hl1 : aload E0 S1 73 (.pointer (some ⟨b, 1, none⟩)) = some v := by
    rw [load_cell (cells_own hg1) und73 rfl sz73]
    rfl
  have hnew : acellsOf E0 S1 1 t.length (.string (str t)) = some (t.map fun x => .int .u8 x.toNat) := by
    unfold acellsOf
    simp only
    rw [if_pos ⟨trivial, by rw [str_size]; exact Nat.le_refl _⟩, str_toList, List.take_length]
  have hal : alen (.string (str t)) = some t.length := by
    show some (str t).size = _
    rw [str_size]
  obtain ⟨v', S2, a1, a2, a3, a4, a5, a6, a7, a8, a9⟩ := h1.row.append h1.wf (by have := h.base; have := h.blk; omega) h1.los und73 ty9 rfl info5 hal ht hnew (by simp) (bytes_one t) (by decide) (by omega) (by omega)
  have hb1 : b < S1.n := h1.lt
  have hvb : vblk v ≠ some b := fun hv => by have := (h1.row.lt hv).2; have := h.blk; omega
  have hg2 : St.get E0 S2 b = some (.own [.pointer (some ⟨b, 0, none⟩), v] 145) := (a8 b hb1 hvb).trans hg1
  have hst : astore E0 S2 73 (.pointer (some ⟨b, 1, none⟩)) v' = some (S2.set b (.own [.pointer (some ⟨b, 0, none⟩), v'] 145)) := by
    have hvc : v'.cells.toList = [v'] := by rw [a4]; rfl
    rw [store_own hg2 sz73 (by rw [hvc]; rfl) (by rw [hvc, a4]; rfl) (by simp), hvc]
    rfl
  have hgs : ∀ b', St.get E0 (S2.set b (.own [.pointer (some ⟨b, 0, none⟩), v'] 145)) b' = if b' = b then some (.own [.pointer (some ⟨b, 0, none⟩), v'] 145) else St.get E0 S2 b' := fun b' => get_setS S2 _ _ _ a5 h.base (by omega)
  simp only [aop_nilA, nilA_ptr, fa145_1, hl1, a1, hst, lenS, ↓wDn, wUp0, wUp1, wUp2, Option.map_none, Int.reduceLE, Int.reduceLT, Int.reduceEq, Int.reduceNeg, Int.reduceToNat, Nat.reduceLeDiff, aresults, aresult, tupled, Bool.and_self, Bool.true_and, Bool.and_true, true_and, and_true, Option.bind_some, Option.bind_none, Option.getD_some, Option.getD_none, Option.map_some, List.getElem?_toArray, List.getElem?_cons_zero, List.getElem?_cons_succ, List.getElem?_nil, List.map_cons, List.map_nil, List.all_cons, List.all_nil, Nat.reduceLT, Nat.reduceEqDiff, Nat.reduceSub, Nat.reduceAdd, ↓reduceIte, if_true, if_false, Bool.false_eq_true, reduceCtorEq, Nat.le_refl, decide_true, decide_false, Bool.not_true, Bool.not_false, decide_eq_true_eq, decide_eq_false_iff_not, eq_self, Bool.false_and, Bool.and_false, Bool.not_eq_true', ite_self]
  rw [retV_lowL _ _ _ _ (by rw [low_set]; intro hc; rw [le_nmin] at hc; have := h.lt; omega)]
  have hbl := h.lt
  simp only at hn1 hlow1 hold1
  refine hK _ v' _ ⟨(wf_set S2 _ _).2 a5, h.base, by show b < S2.n; omega, h.blk, by show lo ≤ S2.n; have := h1.los; omega, ⟨_, .inr rfl, (hgs b).trans (if_pos rfl)⟩, ?_⟩ (by show S.n ≤ S2.n; omega) ?_ ?_
  · rw [List.length_append, List.map_append]
    exact a2.keep (Nat.le_refl _) fun b' hb' hv => (hgs b').trans (if_neg (fun he => by rw [a3] at hv; injection hv; omega))
  · intro m h1' h2
    show m ≤ Nat.min S.low (Nat.min S2.low b)
    rw [le_nmin, le_nmin]
    exact ⟨h2, a7 m (by have := h.blk; omega) (hlow1 m h1' (by omega)), h1'⟩
  · intro b' hb' hlo hne
    refine (hgs b').trans ?_
    rw [if_neg hne, a8 b' (by omega) (fun hv => by have := (h1.row.lt hv).2; omega)]
    exact hold1 b' hne
theorem usd_nil (S : St) : usdA E0 #[73] 194 (.slice none 0 0) S = some (.value (.pointer none), S) := keepEq (by kernel_rfl)
theorem ust_nil (S : St) : ustA E0 #[194, 3] 9 (.pointer none) (.int .i64 0) S = some (.value (.string ⟨#[]⟩), S) := keepEq (by kernel_rfl)
theorem und194 : E0.P.underlying 194 = some (.pointer 5) := keepEq (by kernel_rfl)
theorem ints_bytes (l : List UInt8) : intsOf .u8 (l.map fun x => .int .u8 x.toNat) = some (l.map fun x => (x.toNat : Int)) := by
  have : (l.map fun x => Value.int .u8 x.toNat) = (l.map fun x => (x.toNat : Int)).map (Value.int .u8) := by simp
  rw [this, ints_of_ints]
theorem bytes_ints (l : List UInt8) : bytesOfInts (l.map fun x => (x.toNat : Int)) = str l := by
  unfold bytesOfInts str
  rw [List.map_map]
  congr 2
  conv => rhs; rw [← List.map_id l]
  refine List.map_congr_left fun x _ => ?_
  simp
theorem bstr_ok (b lo : Nat) (v : Value) (l : List UInt8) (hl : l.length < 2^30) (S : St) (h : Bld S b lo v l) (K : Value → St → Prop) (τ)
    (hK : ∀ S', WF E0 S' → S'.n = S.n → (∀ m, m ≤ lo → m ≤ S.low → m ≤ S'.low) → (∀ b', b' < lo → St.get E0 S' b' = St.get E0 S b') → K (.string (str l)) S') : RL E0 62 [.pointer (some ⟨b, 0, none⟩)] S K τ := by
  refine (w_body (memo0 _ _ (by decide)) (okf0 _) Tryz.func62 (c := _) rfl (by show 1 ≤ 14; decide) S K).2 ?_
  obtain ⟨p, hp, hg⟩ := h.get
  have hld : ∀ lw, aload E0 ⟨S.n, S.h, lw⟩ 73 (.pointer (some ⟨b, 1, none⟩)) = some v := fun lw => by
    rw [load_cell (S := ⟨S.n, S.h, lw⟩) (cells_own hg) und73 rfl sz73]
    rfl
  have hrow := h.row
  have hW := h.wf
  have hlos := h.los
  rcases hrow with ⟨rfl, hl0, hcs⟩ | ⟨vb, sh, hv, q1, q2, q3, q4, q5, q6⟩
  · have hnil : l = [] := List.length_eq_zero_iff.1 hl0
    subst hnil
    simp only [Tryz.f62, aop_nilA, nilA_ptr, fa145_1, hld, aop_usd, aop_ust, usd_nil, len_slc0 und73, Int.natCast_zero, ust_nil, ↓wDn, wUp0, wUp1, wUp2, Option.map_none, Int.reduceLE, Int.reduceLT, Int.reduceEq, Int.reduceNeg, Int.reduceToNat, Nat.reduceLeDiff, aresults, aresult, tupled, Bool.and_self, Bool.true_and, Bool.and_true, true_and, and_true, Option.bind_some, Option.bind_none, Option.getD_some, Option.getD_none, Option.map_some, List.getElem?_toArray, List.getElem?_cons_zero, List.getElem?_cons_succ, List.getElem?_nil, List.map_cons, List.map_nil, List.all_cons, List.all_nil, Nat.reduceLT, Nat.reduceEqDiff, Nat.reduceSub, Nat.reduceAdd, ↓reduceIte, if_true, if_false, Bool.false_eq_true, reduceCtorEq, Nat.le_refl, decide_true, decide_false, Bool.not_true, Bool.not_false, decide_eq_true_eq, decide_eq_false_iff_not, eq_self, Bool.false_and, Bool.and_false, Bool.not_eq_true', ite_self]
    exact hK S hW rfl (fun m _ h2 => h2) (fun _ _ => rfl)
  · have hop : l.length ≤ OPEN := by have : (2:Nat)^30 ≤ OPEN := by decide
                                     omega
    have hust : ∀ lw, ustA E0 #[194, 3] 9 (.pointer (some ⟨vb, 0, none⟩)) (.int .i64 l.length) ⟨S.n, S.h, lw⟩ = some (.value (.string (str l)), St.set ⟨S.n, S.h, lw⟩ vb (.opn (l.map fun x => .int .u8 x.toNat) 5 none)) := fun lw => by
      rw [← bytes_ints l]
      exact ust_opn (S := ⟨S.n, S.h, lw⟩) und194 (by kernel_rfl) q6 q3 (by omega) (by simp) (by rw [List.take_of_length_le (by simp)]; exact ints_bytes l)
    have hgs : ∀ b', St.get E0 (St.set ⟨S.n, S.h, S.n⟩ vb (.opn (l.map fun x => .int .u8 x.toNat) 5 none)) b' = if b' = vb then some (.opn (l.map fun x => .int .u8 x.toNat) 5 none) else St.get E0 S b' := fun b' => get_setS ⟨S.n, S.h, S.n⟩ _ _ _ hW (by have := h.base; have := h.blk; omega) q2
    rw [hv] at hld
    simp only [Tryz.f62, aop_nilA, nilA_ptr, fa145_1, hld, aop_usd, aop_ust, usd_slc _ _ vb 0 l.length OPEN q3 hop (Nat.le_refl _), len_slc und73, hust, ↓wDn, wUp0, wUp1, wUp2, Option.map_none, Int.reduceLE, Int.reduceLT, Int.reduceEq, Int.reduceNeg, Int.reduceToNat, Nat.reduceLeDiff, aresults, aresult, tupled, Bool.and_self, Bool.true_and, Bool.and_true, true_and, and_true, Option.bind_some, Option.bind_none, Option.getD_some, Option.getD_none, Option.map_some, List.getElem?_toArray, List.getElem?_cons_zero, List.getElem?_cons_succ, List.getElem?_nil, List.map_cons, List.map_nil, List.all_cons, List.all_nil, Nat.reduceLT, Nat.reduceEqDiff, Nat.reduceSub, Nat.reduceAdd, ↓reduceIte, if_true, if_false, Bool.false_eq_true, reduceCtorEq, Nat.le_refl, decide_true, decide_false, Bool.not_true, Bool.not_false, decide_eq_true_eq, decide_eq_false_iff_not, eq_self, Bool.false_and, Bool.and_false, Bool.not_eq_true', ite_self]
    refine ⟨aordered_one _ _ 10 ?_ (by kernel_rfl), ?_⟩
    · intro y hy hne
      simp only [List.zipIdx_cons, List.zipIdx_nil, List.mem_cons, List.not_mem_nil, or_false] at hy
      rcases hy with rfl | rfl | rfl | rfl | rfl | rfl | rfl | rfl | rfl | rfl | rfl | rfl
      all_goals first | exact acls_ne2 _ _ _ _ _ _ _ (Nat.le_refl _) | exact absurd rfl hne
    · rw [retV_lowL _ _ _ _ (by simp only [n_set, low_set]; intro hc; rw [le_nmin, le_nmin, le_nmin] at hc; omega)]
      refine hK _ ((wf_set ⟨S.n, S.h, S.n⟩ _ _).2 hW) rfl ?_ fun b' hb' => (hgs b').trans (if_neg (by omega))
      intro m h1 h2
      simp only [n_set, low_set, le_nmin]
      omega
end Go.Abs

namespace Go.Abs
open Go Go.Proofs Go.RowKit
set_option linter.unusedSimpArgs false
set_option maxRecDepth 100000
def encs (xs : List It) : List UInt8 := xs.flatMap It.enc
theorem encs_nil : encs [] = [] := rfl
theorem encs_cons (x : It) (xs : List It) : encs (x :: xs) = x.enc ++ encs xs := by simp [encs]
theorem encs_append (a b : List It) : encs (a ++ b) = encs a ++ encs b := by simp [encs]
theorem encI_pos (x : It) : 0 < x.enc.length := by
  unfold It.enc
  repeat' split
  · exact enc_pos _
  · exact enc_pos _
  · exact Nat.succ_pos _
  · have := enc_pos x.s.length
    rw [List.length_append]; omega
theorem enc_le8 (n : Nat) : (enc n).length ≤ 8 := by
  rw [enc_len]
  obtain ⟨_, h, _⟩ := cls_pow (n := n) rfl
  exact h
theorem encI_le {x : It} (h : x.OK) : x.enc.length ≤ 108 := by
  have h1 := enc_le8 x.n.toNat
  have h2 := enc_le8 (foldZ x.n)
  have h3 := enc_le8 x.s.length
  unfold It.enc
  rcases h with ⟨hk, _⟩ | ⟨hk, _⟩ | ⟨hk, _⟩ | ⟨hk, _, hs⟩ <;> rw [hk] <;> simp <;> omega
theorem encs_le {xs : List It} (h : ∀ x ∈ xs, x.OK) : (encs xs).length ≤ 108 * xs.length := by
  induction xs with
  | nil => simp [encs]
  | cons x xs ih =>
    rw [encs_cons, List.length_append, List.length_cons]
    have := encI_le (h x (List.mem_cons_self ..))
    have := ih fun y hy => h y (List.mem_cons_of_mem _ hy)
    omega
theorem encs_take (xs : List It) (i : Nat) (h : i < xs.length) : encs (xs.take (i + 1)) = encs (xs.take i) ++ xs[i].enc := by
  rw [List.take_add_one, encs_append]
  simp [h, encs]
theorem encs_take_le (xs : List It) (i : Nat) : (encs (xs.take i)).length ≤ (encs xs).length := by
  have : encs xs = encs (xs.take i) ++ encs (xs.drop i) := by rw [← encs_append, List.take_append_drop]
  rw [this, List.length_append]
  omega
theorem alloc145 (S : St) : allocA E0 145 S = some (.value (.pointer (some ⟨S.n, 0, none⟩)), S.push (.own [.pointer none, .slice none 0 0] 145)) := keepEq (by kernel_rfl)
theorem hasBody60 : hasBody E0 60 = true := keepEq rfl
theorem put_ok (xs : List It) (hx : ∀ x ∈ xs, x.OK) (hl : xs.length ≤ 4096) (S : St) (hS : WF E0 S) (v : Value) (hv : SlAt S 3 v xs.length (iC xs)) (K : Value → St → Prop) (τ) :
    RL E0 29 [v] S K τ ↔ K (.tuple #[.string (str (encs xs)), .int .i64 0]) S := by
  refine w_det ?_ K τ
  rw [w_body (memo0 _ _ (by decide)) (okf0 _) Tryz.func29 (c := _) rfl (by show 1 ≤ 29; decide)]
  have hlen := fun S1 => hv.len und74 S1
  have z1 : ¬ (4096 : Int) < (xs.length : Int) := by omega
  have hb := encs_le hx
  simp only [Tryz.f29, hlen, z1, alloc145, ↓wDn, wUp0, wUp1, wUp2, Option.map_none, Int.reduceLE, Int.reduceLT, Int.reduceEq, Int.reduceNeg, Int.reduceToNat, Nat.reduceLeDiff, aresults, aresult, tupled, Bool.and_self, Bool.true_and, Bool.and_true, true_and, and_true, Option.bind_some, Option.bind_none, Option.getD_some, Option.getD_none, Option.map_some, List.getElem?_toArray, List.getElem?_cons_zero, List.getElem?_cons_succ, List.getElem?_nil, List.map_cons, List.map_nil, List.all_cons, List.all_nil, Nat.reduceLT, Nat.reduceEqDiff, Nat.reduceSub, Nat.reduceAdd, ↓reduceIte, if_true, if_false, Bool.false_eq_true, reduceCtorEq, Nat.le_refl, decide_true, decide_false, Bool.not_true, Bool.not_false, decide_eq_true_eq, decide_eq_false_iff_not, eq_self, Bool.false_and, Bool.and_false, Bool.not_eq_true', ite_self]
  refine w_loopE (fun (i : Nat) g S1 => Bld S1 S.n (S.n + 1) (match St.get E0 S1 S.n with | some (.own [_, w] _) => w | _ => .slice none 0 0) (encs (xs.take i)) ∧ S.n ≤ S1.low ∧ (∀ b, b < S.n → St.get E0 S1 b = St.get E0 S b) ∧ i ≤ xs.length ∧ g 4 = .pointer (some ⟨S.n, 0, none⟩) ∧ g 12 = v ∧ g 13 = .int .i64 xs.length ∧ g 14 = .int .i64 i) (fun i => xs.length - i) 0
    (fun g S1 => (∃ w, Bld S1 S.n (S.n + 1) w (encs xs)) ∧ S.n ≤ S1.low ∧ g 4 = .pointer (some ⟨S.n, 0, none⟩)) 0 ?init ?round ?rest
  case init =>
    have hg : St.get E0 (St.push ⟨S.n, S.h, S.n⟩ (.own [.pointer none, .slice none 0 0] 145)) S.n = some (.own [.pointer none, .slice none 0 0] 145) := by rw [get_push ⟨S.n, S.h, S.n⟩ _ _ hS, if_pos rfl]
    refine ⟨?_, Nat.le_refl _, fun b hb => ?_, by omega, ?_, ?_, ?_, ?_⟩
    · rw [hg, List.take_zero, encs_nil]
      exact ⟨(wf_push _ _).2 hS, wf_base hS, Nat.lt_succ_self _, Nat.lt_succ_self _, Nat.le_refl _, ⟨_, .inl rfl, hg⟩, RowG.nil ..⟩
    · rw [get_push ⟨S.n, S.h, S.n⟩ _ _ hS, if_neg (by show b ≠ S.n; omega)]; rfl
    all_goals simp only [Int.natCast_zero, ↓wDn, wUp0, wUp1, wUp2, Option.map_none, Int.reduceLE, Int.reduceLT, Int.reduceEq, Int.reduceNeg, Int.reduceToNat, Nat.reduceLeDiff, aresults, aresult, tupled, Bool.and_self, Bool.true_and, Bool.and_true, true_and, and_true, Option.bind_some, Option.bind_none, Option.getD_some, Option.getD_none, Option.map_some, List.getElem?_toArray, List.getElem?_cons_zero, List.getElem?_cons_succ, List.getElem?_nil, List.map_cons, List.map_nil, List.all_cons, List.all_nil, Nat.reduceLT, Nat.reduceEqDiff, Nat.reduceSub, Nat.reduceAdd, ↓reduceIte, if_true, if_false, Bool.false_eq_true, reduceCtorEq, Nat.le_refl, decide_true, decide_false, Bool.not_true, Bool.not_false, decide_eq_true_eq, decide_eq_false_iff_not, eq_self, Bool.false_and, Bool.and_false, Bool.not_eq_true', ite_self]
  case round =>
    rintro i g S1 ⟨hB, hlow, hold, hi, g4, g12, g13, g14⟩
    obtain ⟨w, hw⟩ : ∃ w, (match St.get E0 S1 S.n with | some (.own [_, w] _) => w | _ => .slice none 0 0) = w := ⟨_, rfl⟩
    rw [hw] at hB
    by_cases hlt : i < xs.length
    · have z2 : (i : Int) < (xs.length : Int) := by omega
      obtain ⟨b, hb1, hb2, hb3, hb4, hb5⟩ := hv.at und74 sz78 hlt
      have hb3' : St.cells E0 S1 b = some (iC xs) := by
        unfold St.cells at hb3 ⊢
        rw [hold b hb1]; exact hb3
      have hld : aload E0 S1 78 (.pointer (some ⟨b, i * 3, none⟩)) = some xs[i].val := by
        rw [ld78 hb3' (by rw [iC_len]; omega), iC_get xs i hlt]
        rfl
      obtain ⟨x, hxi⟩ : ∃ x, xs[i] = x := ⟨_, rfl⟩
      have hxO : x.OK := by rw [← hxi]; exact hx _ (List.getElem_mem hlt)
      have htk := encs_take xs i hlt
      rw [hxi] at hld htk
      have hW := hB.wf
      have hst : astore E0 (S1.push (.own [.int .i64 0, .int .i64 0, .string ⟨#[]⟩] 78)) 78 (.pointer (some ⟨S1.n, 0, none⟩)) x.val = some ((S1.push (.own [.int .i64 0, .int .i64 0, .string ⟨#[]⟩] 78)).set S1.n (.own x.cells 78)) :=
        store_own (get_pushN S1 _ hW) sz78 rfl rfl (by simp)
      obtain ⟨S3, hS3⟩ : ∃ S3, (S1.push (.own [.int .i64 0, .int .i64 0, .string ⟨#[]⟩] 78)).set S1.n (.own x.cells 78) = S3 := ⟨_, rfl⟩
      have hWp : WF E0 (S1.push (.own [.int .i64 0, .int .i64 0, .string ⟨#[]⟩] 78)) := (wf_push _ _).2 hW
      have hW3 : WF E0 S3 := by rw [← hS3]; exact (wf_set _ _ _).2 hWp
      have hn3 : S3.n = S1.n + 1 := by rw [← hS3]; rfl
      have hBlt := hB.lt
      have hl3 : S.n ≤ S3.low := by rw [← hS3, low_set, low_push, le_nmin]; exact ⟨hlow, by omega⟩
      have hget3 : ∀ b, St.get E0 S3 b = if b = S1.n then some (.own x.cells 78) else St.get E0 S1 b := fun b => by
        rw [← hS3, get_setS _ _ _ _ hWp (wf_base hW) (by rw [n_push]; exact Nat.lt_succ_self _)]
        by_cases hb : b = S1.n
        · rw [if_pos hb, if_pos hb]
        · rw [if_neg hb, if_neg hb, get_push _ _ _ hW, if_neg hb]
      rw [hS3] at hst
      have hl0 : aload E0 S3 78 (.pointer (some ⟨S1.n, 0, none⟩)) = some x.val := by
        rw [ld78 (cells_own (by rw [hget3, if_pos rfl])) (by show 0 + 3 ≤ 3; decide)]
        rfl
      have hone := fun S hS K τ => one_ok x hxO S hS K τ
      have hB3 : Bld S3 S.n (S.n + 1) w (encs (xs.take i)) := ⟨hW3, hB.base, by omega, hB.blk, by have := hB.los; omega, by
          obtain ⟨p, hp, hg⟩ := hB.get
          exact ⟨p, hp, by rw [hget3, if_neg (by omega)]; exact hg⟩, hB.row.keep (by omega) fun b' hb' _ => by rw [hget3, if_neg (by omega)]⟩
      simp only [g4, g12, g13, g14, z2, hb5, hld, alloc78, hst, hl0, hasBody60, hone, hW3, hasBody61, ↓wDn, wUp0, wUp1, wUp2, Option.map_none, Int.reduceLE, Int.reduceLT, Int.reduceEq, Int.reduceNeg, Int.reduceToNat, Nat.reduceLeDiff, aresults, aresult, tupled, Bool.and_self, Bool.true_and, Bool.and_true, true_and, and_true, Option.bind_some, Option.bind_none, Option.getD_some, Option.getD_none, Option.map_some, List.getElem?_toArray, List.getElem?_cons_zero, List.getElem?_cons_succ, List.getElem?_nil, List.map_cons, List.map_nil, List.all_cons, List.all_nil, Nat.reduceLT, Nat.reduceEqDiff, Nat.reduceSub, Nat.reduceAdd, ↓reduceIte, if_true, if_false, Bool.false_eq_true, reduceCtorEq, Nat.le_refl, decide_true, decide_false, Bool.not_true, Bool.not_false, decide_eq_true_eq, decide_eq_false_iff_not, eq_self, Bool.false_and, Bool.and_false, Bool.not_eq_true', ite_self]
      refine wstr_ok S.n (S.n + 1) w _ x.enc (encI_pos x) (by have := encs_take_le xs i; have := encI_le hxO; omega) S3 hB3 _ _ ?_
      intro S4 v4 r hB4 hn4 hlow4 hold4
      have e5 : IntKind.i64.wrap ((i : Int) + 1) = ((i + 1 : Nat) : Int) := by rw [wrap64] <;> omega
      simp only [g14, e5, ↓wDn, wUp0, wUp1, wUp2, Option.map_none, Int.reduceLE, Int.reduceLT, Int.reduceEq, Int.reduceNeg, Int.reduceToNat, Nat.reduceLeDiff, aresults, aresult, tupled, Bool.and_self, Bool.true_and, Bool.and_true, true_and, and_true, Option.bind_some, Option.bind_none, Option.getD_some, Option.getD_none, Option.map_some, List.getElem?_toArray, List.getElem?_cons_zero, List.getElem?_cons_succ, List.getElem?_nil, List.map_cons, List.map_nil, List.all_cons, List.all_nil, Nat.reduceLT, Nat.reduceEqDiff, Nat.reduceSub, Nat.reduceAdd, ↓reduceIte, if_true, if_false, Bool.false_eq_true, reduceCtorEq, Nat.le_refl, decide_true, decide_false, Bool.not_true, Bool.not_false, decide_eq_true_eq, decide_eq_false_iff_not, eq_self, Bool.false_and, Bool.and_false, Bool.not_eq_true', ite_self]
      refine w_next (i + 1) (by omega) ⟨?_, ?_, ?_, by omega, ?_, ?_, ?_, ?_⟩
      · obtain ⟨p, hp, hg⟩ := hB4.get
        rw [hg, htk]
        exact hB4
      · exact hlow4 _ (Nat.le_refl _) hl3
      · intro b' hb'
        rw [hold4 b' (by omega) (by omega) (by omega), hget3, if_neg (by omega)]
        exact hold b' hb'
      all_goals simp only [g4, g12, g13, ↓wDn, wUp0, wUp1, wUp2, Option.map_none, Int.reduceLE, Int.reduceLT, Int.reduceEq, Int.reduceNeg, Int.reduceToNat, Nat.reduceLeDiff, aresults, aresult, tupled, Bool.and_self, Bool.true_and, Bool.and_true, true_and, and_true, Option.bind_some, Option.bind_none, Option.getD_some, Option.getD_none, Option.map_some, List.getElem?_toArray, List.getElem?_cons_zero, List.getElem?_cons_succ, List.getElem?_nil, List.map_cons, List.map_nil, List.all_cons, List.all_nil, Nat.reduceLT, Nat.reduceEqDiff, Nat.reduceSub, Nat.reduceAdd, ↓reduceIte, if_true, if_false, Bool.false_eq_true, reduceCtorEq, Nat.le_refl, decide_true, decide_false, Bool.not_true, Bool.not_false, decide_eq_true_eq, decide_eq_false_iff_not, eq_self, Bool.false_and, Bool.and_false, Bool.not_eq_true', ite_self]
    · have he : i = xs.length := by omega
      have z2 : ¬ (i : Int) < (xs.length : Int) := by omega
      rw [he, List.take_length] at hB
      simp only [g13, g14, z2, ↓wDn, wUp0, wUp1, wUp2, Option.map_none, Int.reduceLE, Int.reduceLT, Int.reduceEq, Int.reduceNeg, Int.reduceToNat, Nat.reduceLeDiff, aresults, aresult, tupled, Bool.and_self, Bool.true_and, Bool.and_true, true_and, and_true, Option.bind_some, Option.bind_none, Option.getD_some, Option.getD_none, Option.map_some, List.getElem?_toArray, List.getElem?_cons_zero, List.getElem?_cons_succ, List.getElem?_nil, List.map_cons, List.map_nil, List.all_cons, List.all_nil, Nat.reduceLT, Nat.reduceEqDiff, Nat.reduceSub, Nat.reduceAdd, ↓reduceIte, if_true, if_false, Bool.false_eq_true, reduceCtorEq, Nat.le_refl, decide_true, decide_false, Bool.not_true, Bool.not_false, decide_eq_true_eq, decide_eq_false_iff_not, eq_self, Bool.false_and, Bool.and_false, Bool.not_eq_true', ite_self]
      exact w_out ⟨⟨w, hB⟩, hlow, by simp only [g4, ↓wDn, wUp0, wUp1, wUp2, Option.map_none, Int.reduceLE, Int.reduceLT, Int.reduceEq, Int.reduceNeg, Int.reduceToNat, Nat.reduceLeDiff, aresults, aresult, tupled, Bool.and_self, Bool.true_and, Bool.and_true, true_and, and_true, Option.bind_some, Option.bind_none, Option.getD_some, Option.getD_none, Option.map_some, List.getElem?_toArray, List.getElem?_cons_zero, List.getElem?_cons_succ, List.getElem?_nil, List.map_cons, List.map_nil, List.all_cons, List.all_nil, Nat.reduceLT, Nat.reduceEqDiff, Nat.reduceSub, Nat.reduceAdd, ↓reduceIte, if_true, if_false, Bool.false_eq_true, reduceCtorEq, Nat.le_refl, decide_true, decide_false, Bool.not_true, Bool.not_false, decide_eq_true_eq, decide_eq_false_iff_not, eq_self, Bool.false_and, Bool.and_false, Bool.not_eq_true', ite_self]⟩
  case rest =>
    rintro g S1 ⟨⟨w, hB⟩, hlow, g4⟩
    simp only [g4, hasBody62, ↓wDn, wUp0, wUp1, wUp2, Option.map_none, Int.reduceLE, Int.reduceLT, Int.reduceEq, Int.reduceNeg, Int.reduceToNat, Nat.reduceLeDiff, aresults, aresult, tupled, Bool.and_self, Bool.true_and, Bool.and_true, true_and, and_true, Option.bind_some, Option.bind_none, Option.getD_some, Option.getD_none, Option.map_some, List.getElem?_toArray, List.getElem?_cons_zero, List.getElem?_cons_succ, List.getElem?_nil, List.map_cons, List.map_nil, List.all_cons, List.all_nil, Nat.reduceLT, Nat.reduceEqDiff, Nat.reduceSub, Nat.reduceAdd, ↓reduceIte, if_true, if_false, Bool.false_eq_true, reduceCtorEq, Nat.le_refl, decide_true, decide_false, Bool.not_true, Bool.not_false, decide_eq_true_eq, decide_eq_false_iff_not, eq_self, Bool.false_and, Bool.and_false, Bool.not_eq_true', ite_self]
    refine bstr_ok S.n (S.n + 1) w _ (by omega) S1 hB _ _ ?_
    intro S2 hW2 hn2 hlow2 hold2
    have hl2 := hlow2 S.n (by omega) hlow
    simp only [ret2, hl2, ↓wDn, wUp0, wUp1, wUp2, Option.map_none, Int.reduceLE, Int.reduceLT, Int.reduceEq, Int.reduceNeg, Int.reduceToNat, Nat.reduceLeDiff, aresults, aresult, tupled, Bool.and_self, Bool.true_and, Bool.and_true, true_and, and_true, Option.bind_some, Option.bind_none, Option.getD_some, Option.getD_none, Option.map_some, List.getElem?_toArray, List.getElem?_cons_zero, List.getElem?_cons_succ, List.getElem?_nil, List.map_cons, List.map_nil, List.all_cons, List.all_nil, Nat.reduceLT, Nat.reduceEqDiff, Nat.reduceSub, Nat.reduceAdd, ↓reduceIte, if_true, if_false, Bool.false_eq_true, reduceCtorEq, Nat.le_refl, decide_true, decide_false, Bool.not_true, Bool.not_false, decide_eq_true_eq, decide_eq_false_iff_not, eq_self, Bool.false_and, Bool.and_false, Bool.not_eq_true', ite_self]
end Go.Abs

namespace Go.Abs
open Go Go.Proofs Go.RowKit
set_option linter.unusedSimpArgs false
set_option maxRecDepth 100000
/-! The plain law. -/
theorem takeI_enc {x : It} (h : x.OK) (r : List UInt8) : takeI x.k (x.enc ++ r) = (x, r, 0) := by
  obtain ⟨k, n, s⟩ := x
  rcases h with ⟨hk, h0, h1, hs⟩ | ⟨hk, h0, h1, hs⟩ | ⟨hk, h0, hs⟩ | ⟨hk, h0, hs⟩
  · simp only at hk h0 h1 hs
    subst hk hs
    obtain ⟨m, rfl⟩ : ∃ m : Nat, n = m := ⟨n.toNat, by omega⟩
    show (It.mk 1 ((gets (enc m ++ r)).1 : Int) [], (gets (enc m ++ r)).2.1, (gets (enc m ++ r)).2.2) = _
    rw [gets_enc (by omega)]
  · simp only at hk h0 h1 hs
    subst hk hs
    show (It.mk 2 (unfZ (gets (enc (foldZ n) ++ r)).1) [], (gets (enc (foldZ n) ++ r)).2.1, (gets (enc (foldZ n) ++ r)).2.2) = _
    rw [gets_enc (foldZ_lt h0 h1), unf_fold]
  · simp only at hk h0 hs
    subst hk hs
    rcases h0 with rfl | rfl <;> rfl
  · simp only at hk h0 hs
    subst hk h0
    show (It.mk 4 0 (getT ((enc s.length ++ s) ++ r)).1, (getT ((enc s.length ++ s) ++ r)).2.1, (getT ((enc s.length ++ s) ++ r)).2.2) = _
    have hg : gets ((enc s.length ++ s) ++ r) = (s.length, s ++ r, 0) := by rw [List.append_assoc, gets_enc (by omega)]
    have : getT ((enc s.length ++ s) ++ r) = (s, r, 0) := by
      unfold getT
      rw [hg]
      simp only
      rw [if_neg (by simp), if_neg (by omega), if_neg (by simp), List.take_left, List.drop_left]
    rw [this]
theorem takeI_cut {x : It} (h : x.OK) {l z : List UInt8} (hl : l ++ z = x.enc) (hz : z ≠ []) : (takeI x.k l).2.2 = 7 := by
  obtain ⟨k, n, s⟩ := x
  rcases h with ⟨hk, h0, h1, hs⟩ | ⟨hk, h0, h1, hs⟩ | ⟨hk, h0, hs⟩ | ⟨hk, h0, hs⟩
  · simp only at hk h0 h1 hs
    subst hk
    show (gets l).2.2 = 7
    rw [gets_cut (show n.toNat < 2 ^ 62 by omega) hl hz]
  · simp only at hk h0 h1 hs
    subst hk
    show (gets l).2.2 = 7
    rw [gets_cut (foldZ_lt h0 h1) hl hz]
  · simp only at hk h0 hs
    subst hk
    have h1 := congrArg List.length hl
    have h2 := List.length_pos_iff.2 hz
    rw [List.length_append] at h1
    have h3 : l.length = 0 := by
      have : (It.enc ⟨3, n, s⟩).length = 1 := rfl
      omega
    have : l = [] := List.length_eq_zero_iff.1 h3
    subst this
    rfl
  · simp only at hk h0 hs
    subst hk h0
    show (getT l).2.2 = 7
    have hl' : l ++ z = enc s.length ++ s := hl
    rcases List.append_eq_append_iff.1 hl' with ⟨a, h1, h2⟩ | ⟨c, h1, h2⟩
    · by_cases ha : a = []
      · subst ha
        rw [List.append_nil] at h1
        have hg : gets l = (s.length, [], 0) := by rw [← h1, ← List.append_nil (enc s.length), gets_enc (by omega)]
        have hpos := List.length_pos_iff.2 hz
        have hz2 : z = s := h2
        unfold getT
        rw [hg]
        simp only
        rw [if_neg (by simp), if_neg (by omega), if_pos (by rw [← hz2]; exact hpos)]
      · unfold getT
        rw [gets_cut (show s.length < 2 ^ 62 by omega) h1.symm ha]
        rfl
    · have hg : gets l = (s.length, c, 0) := by rw [h1, gets_enc (by omega)]
      have hpos := List.length_pos_iff.2 hz
      have h3 := congrArg List.length h2
      rw [List.length_append] at h3
      unfold getT
      rw [hg]
      simp only
      rw [if_neg (by simp), if_neg (by omega), if_pos (by omega)]
def kinds (xs : List It) : List Nat := xs.map It.k
theorem runI_enc {xs : List It} (h : ∀ x ∈ xs, x.OK) (r : List UInt8) : ∀ a, runI (kinds xs) (encs xs ++ r) a = (a ++ xs, r, 0) := by
  induction xs with
  | nil => intro a; simp [kinds, runI, encs]
  | cons x xs ih =>
    intro a
    show runI (x.k :: kinds xs) _ a = _
    rw [runI, encs_cons, List.append_assoc, takeI_enc (h x (List.mem_cons_self ..))]
    rw [if_neg (by simp), ih fun y hy => h y (List.mem_cons_of_mem _ hy)]
    simp
theorem runI_cut {xs : List It} (h : ∀ x ∈ xs, x.OK) : ∀ {l z : List UInt8} (a : List It), xs ≠ [] → l ++ z = encs xs → z.length = 1 → runI (kinds xs) l a = ([], [], 7) := by
  induction xs with
  | nil => intro l z a hne; exact absurd rfl hne
  | cons x xs ih =>
    intro l z a _ hl hz
    have hx := h x (List.mem_cons_self ..)
    have hzn : z ≠ [] := by intro he; rw [he] at hz; cases hz
    show runI (x.k :: kinds xs) l a = _
    rw [runI]
    by_cases hxs : xs = []
    · subst hxs
      have hl2 : l ++ z = x.enc := by rw [hl, encs_cons, encs_nil, List.append_nil]
      have := takeI_cut hx hl2 hzn
      rw [this, if_pos (by decide)]
    · rw [encs_cons] at hl
      have hpos : 0 < (encs xs).length := by
        cases xs with
        | nil => exact absurd rfl hxs
        | cons y ys => rw [encs_cons, List.length_append]; have := encI_pos y; omega
      rcases List.append_eq_append_iff.1 hl with ⟨b, h1, h2⟩ | ⟨b, h1, h2⟩
      · have h3 := congrArg List.length h2
        rw [List.length_append] at h3
        have hb : b = [] := List.length_eq_zero_iff.1 (by omega)
        subst hb
        rw [List.append_nil] at h1
        have hl' : l = x.enc ++ [] := by rw [h1, List.append_nil]
        rw [hl', takeI_enc hx, if_neg (by simp)]
        exact ih (fun y hy => h y (List.mem_cons_of_mem _ hy)) _ hxs (by simpa using h2) hz
      · rw [h1, takeI_enc hx, if_neg (by simp)]
        exact ih (fun y hy => h y (List.mem_cons_of_mem _ hy)) _ hxs h2.symm hz
theorem encs_pos {xs : List It} (h : xs ≠ []) : 0 < (encs xs).length := by
  cases xs with
  | nil => exact absurd rfl h
  | cons y ys => rw [encs_cons, List.length_append]; have := encI_pos y; omega
def rowE (ks : List Nat) (l : List UInt8) : Int := if (runI ks l []).2.2 ≠ 0 then (runI ks l []).2.2 else if (runI ks l []).2.1 ≠ [] then 2 else 0
theorem hasBody30 : hasBody E0 30 = true := keepEq rfl
theorem pf_tup2 (a b : Value) : pf (tupled [a, b]) = (pf a && pf b) := by simp [tupled, pf, pfA, pfL]
theorem row_ok (ks : List Nat) (hks : ∀ k ∈ ks, 1 ≤ k ∧ k ≤ 4) (hkl : ks.length ≤ 4096) (l : List UInt8) (hl : l.length < 2^60) (S : St) (hS : WF E0 S) (v : Value) (hv : SlAt S 1 v ks.length (kC ks)) (K : Value → St → Prop) (τ)
    (hK : ∀ S' v', WF E0 S' → S.n ≤ S'.n → Nat.min S.low S.n ≤ S'.low → (∀ b, b < S.n → St.get E0 S' b = St.get E0 S b) → K (.tuple #[v', .int .i64 (rowE ks l)]) S') :
    RL E0 31 [.string (str l), v] S K τ := by
  refine (w_body (memo0 _ _ (by decide)) (okf0 _) Tryz.func31 (c := _) rfl (by show 2 ≤ 24; decide) S K).2 ?_
  have hrow : rowE ks l = if (runI ks l []).2.2 ≠ 0 then (runI ks l []).2.2 else if (runI ks l []).2.1 ≠ [] then 2 else 0 := rfl
  simp only [Tryz.f31, hasBody30, ↓wDn, wUp0, wUp1, wUp2, Option.map_none, Int.reduceLE, Int.reduceLT, Int.reduceEq, Int.reduceNeg, Int.reduceToNat, Nat.reduceLeDiff, aresults, aresult, tupled, Bool.and_self, Bool.true_and, Bool.and_true, true_and, and_true, Option.bind_some, Option.bind_none, Option.getD_some, Option.getD_none, Option.map_some, List.getElem?_toArray, List.getElem?_cons_zero, List.getElem?_cons_succ, List.getElem?_nil, List.map_cons, List.map_nil, List.all_cons, List.all_nil, Nat.reduceLT, Nat.reduceEqDiff, Nat.reduceSub, Nat.reduceAdd, ↓reduceIte, if_true, if_false, Bool.false_eq_true, reduceCtorEq, Nat.le_refl, decide_true, decide_false, Bool.not_true, Bool.not_false, decide_eq_true_eq, decide_eq_false_iff_not, eq_self, Bool.false_and, Bool.and_false, Bool.not_eq_true', ite_self]
  have hv0 : SlAt ⟨S.n, S.h, S.n⟩ 1 v ks.length (kC ks) := hv
  refine takes_ok ks hks hkl l hl ⟨S.n, S.h, S.n⟩ hS v hv0 _ _ ?_ ?_
  · intro he
    rw [if_pos he] at hrow
    simp only [he, ret2, ↓wDn, wUp0, wUp1, wUp2, Option.map_none, Int.reduceLE, Int.reduceLT, Int.reduceEq, Int.reduceNeg, Int.reduceToNat, Nat.reduceLeDiff, aresults, aresult, tupled, Bool.and_self, Bool.true_and, Bool.and_true, true_and, and_true, Option.bind_some, Option.bind_none, Option.getD_some, Option.getD_none, Option.map_some, List.getElem?_toArray, List.getElem?_cons_zero, List.getElem?_cons_succ, List.getElem?_nil, List.map_cons, List.map_nil, List.all_cons, List.all_nil, Nat.reduceLT, Nat.reduceEqDiff, Nat.reduceSub, Nat.reduceAdd, ↓reduceIte, if_true, if_false, Bool.false_eq_true, reduceCtorEq, Nat.le_refl, decide_true, decide_false, Bool.not_true, Bool.not_false, decide_eq_true_eq, decide_eq_false_iff_not, eq_self, Bool.false_and, Bool.and_false, Bool.not_eq_true', ite_self]
    rw [← hrow]
    exact hK S _ hS (Nat.le_refl _) (Nat.min_le_left _ _) fun _ _ => rfl
  · intro he S1 v1 hW1 hn1 hl1 hold1 hr1
    simp only at hn1 hl1 hold1
    rw [nmin_self] at hl1
    rw [if_neg (by simpa using he)] at hrow
    by_cases hr : (runI ks l []).2.1 = []
    · rw [if_neg (by simpa using hr)] at hrow
      simp only [hr, strNilE, ↓wDn, wUp0, wUp1, wUp2, Option.map_none, Int.reduceLE, Int.reduceLT, Int.reduceEq, Int.reduceNeg, Int.reduceToNat, Nat.reduceLeDiff, aresults, aresult, tupled, Bool.and_self, Bool.true_and, Bool.and_true, true_and, and_true, Option.bind_some, Option.bind_none, Option.getD_some, Option.getD_none, Option.map_some, List.getElem?_toArray, List.getElem?_cons_zero, List.getElem?_cons_succ, List.getElem?_nil, List.map_cons, List.map_nil, List.all_cons, List.all_nil, Nat.reduceLT, Nat.reduceEqDiff, Nat.reduceSub, Nat.reduceAdd, ↓reduceIte, if_true, if_false, Bool.false_eq_true, reduceCtorEq, Nat.le_refl, decide_true, decide_false, Bool.not_true, Bool.not_false, decide_eq_true_eq, decide_eq_false_iff_not, eq_self, Bool.false_and, Bool.and_false, Bool.not_eq_true', ite_self]
      by_cases hpf : pf v1 = true
      · rw [retV_pure _ _ _ _ hl1 (by rw [pf_tup2, hpf]; rfl)]
        have := hK S v1 hS (Nat.le_refl _) (Nat.min_le_left _ _) fun _ _ => rfl
        rw [hrow] at this
        exact this
      · rw [retV_npL _ _ _ _ (by rw [pf_tup2, Bool.eq_false_iff.2 hpf]; rfl)]
        have := hK ⟨S1.n, S1.h, Nat.min S.low S1.low⟩ v1 hW1 hn1 (by rw [le_nmin]; exact ⟨Nat.min_le_left _ _, Nat.le_trans (Nat.min_le_right _ _) hl1⟩) hold1
        rw [hrow] at this
        exact this
    · rw [if_pos hr] at hrow
      simp only [strE, hr, ret2, hl1, ↓wDn, wUp0, wUp1, wUp2, Option.map_none, Int.reduceLE, Int.reduceLT, Int.reduceEq, Int.reduceNeg, Int.reduceToNat, Nat.reduceLeDiff, aresults, aresult, tupled, Bool.and_self, Bool.true_and, Bool.and_true, true_and, and_true, Option.bind_some, Option.bind_none, Option.getD_some, Option.getD_none, Option.map_some, List.getElem?_toArray, List.getElem?_cons_zero, List.getElem?_cons_succ, List.getElem?_nil, List.map_cons, List.map_nil, List.all_cons, List.all_nil, Nat.reduceLT, Nat.reduceEqDiff, Nat.reduceSub, Nat.reduceAdd, ↓reduceIte, if_true, if_false, Bool.false_eq_true, reduceCtorEq, Nat.le_refl, decide_true, decide_false, Bool.not_true, Bool.not_false, decide_eq_true_eq, decide_eq_false_iff_not, eq_self, Bool.false_and, Bool.and_false, Bool.not_eq_true', ite_self]
      rw [← hrow]
      exact hK S _ hS (Nat.le_refl _) (Nat.min_le_left _ _) fun _ _ => rfl
end Go.Abs

namespace Go.Abs
open Go Go.Proofs Go.RowKit
set_option linter.unusedSimpArgs false
set_option maxRecDepth 100000
/-- One that is written. -/
structure Pc where
  k : Nat
  n : Int
  s : List UInt8
def Pc.OK (p : Pc) : Prop := p.k < 256 ∧ -9223372036854775808 ≤ p.n ∧ p.n < 9223372036854775808
def Pc.it (p : Pc) : It :=
  if p.k % 4 = 0 then ⟨1, ((p.n % 2 ^ 62).toNat : Nat), []⟩ else if p.k % 4 = 1 then ⟨2, p.n.tmod 2305843009213693952, []⟩ else if p.k % 4 = 2 then ⟨3, ((p.n % 2 ^ 1).toNat : Nat), []⟩ else ⟨4, 0, p.s.take 100⟩
theorem Pc.it_k (p : Pc) : p.it.k = 1 + p.k % 4 := by
  have := Nat.mod_lt p.k (show 0 < 4 by decide)
  unfold Pc.it
  repeat' split
  all_goals simp only
  all_goals omega
theorem tmod_bounds (z : Int) : -2305843009213693952 < z.tmod 2305843009213693952 ∧ z.tmod 2305843009213693952 < 2305843009213693952 := by
  rcases Int.le_total 0 z with h | h
  · have h1 := Int.tmod_nonneg 2305843009213693952 h
    have h2 := Int.tmod_lt_of_pos z (show (0:Int) < 2305843009213693952 by decide)
    omega
  · have e : z.tmod 2305843009213693952 = -((-z).tmod 2305843009213693952) := by rw [Int.neg_tmod]; omega
    have h1 := Int.tmod_nonneg 2305843009213693952 (show 0 ≤ -z by omega)
    have h2 := Int.tmod_lt_of_pos (-z) (show (0:Int) < 2305843009213693952 by decide)
    omega
theorem Pc.it_ok (p : Pc) : p.it.OK := by
  unfold Pc.it
  split
  · exact .inl ⟨rfl, by simp only; omega, by simp only; omega, rfl⟩
  · split
    · have := tmod_bounds p.n
      exact .inr (.inl ⟨rfl, by simp only; omega, by simp only; omega, rfl⟩)
    · split
      · exact .inr (.inr (.inl ⟨rfl, by simp only; omega, rfl⟩))
      · exact .inr (.inr (.inr ⟨rfl, rfl, by simp only [List.length_take]; omega⟩))
/-- A slice of bytes that came in. -/
def ByAt (S : St) (v : Value) (l : List UInt8) : Prop :=
  (v = .slice none 0 0 ∧ l = []) ∨ (v = .slice (some ⟨0, 0, none⟩) 0 EMPT ∧ l = []) ∨
  ∃ b cap, v = .slice (some ⟨b, 0, none⟩) l.length cap ∧ b < S.n ∧ l.length ≤ cap ∧ cap < OPEN ∧ St.cells E0 S b = some (l.map fun x => .int .u8 x.toNat)
theorem ByAt.keep {S S' : St} {v : Value} {l : List UInt8} (h : ByAt S v l) (hn : S.n ≤ S'.n) (hg : ∀ b, b < S.n → St.get E0 S' b = St.get E0 S b) : ByAt S' v l := by
  rcases h with h | h | ⟨b, cap, h1, h2, h3, h4, h5⟩
  · exact .inl h
  · exact .inr (.inl h)
  · refine .inr (.inr ⟨b, cap, h1, by omega, h3, h4, ?_⟩)
    unfold St.cells at h5 ⊢
    rw [hg b h2]; exact h5
theorem conv73nil (S : St) : convA E0 73 9 (.slice none 0 0) S = some (.value (.string ⟨#[]⟩), S) := keepEq (by kernel_rfl)
theorem slice73nil (S : St) : sliceA E0 73 (.slice none 0 0) none (some (.int .i64 0)) none S = some (.value (.slice none 0 0), S) := keepEq (by kernel_rfl)
/-- Its first ones, as a text: the steps. -/
theorem ByAt.text {S : St} {v : Value} {l : List UInt8} (h : ByAt S v l) (m : Nat) :
    (∀ S1, lenA E0 73 v S1 = some (.value (.int .i64 l.length), S1)) ∧ ∃ w, (∀ S1, sliceA E0 73 v none (some (.int .i64 (if (m : Int) < (l.length : Int) then (m : Int) else (l.length : Int)))) none S1 = some (.value w, S1)) ∧ ∀ lw, convA E0 73 9 w ⟨S.n, S.h, lw⟩ = some (.value (.string (str (l.take m))), ⟨S.n, S.h, lw⟩) := by
  rcases h with ⟨rfl, rfl⟩ | ⟨rfl, rfl⟩ | ⟨b, cap, rfl, h2, h3, h4, h5⟩
  · refine ⟨fun S1 => len_slc0 und73 0 0 S1, .slice none 0 0, fun S1 => ?_, fun lw => ?_⟩
    · rw [if_neg (by simp)]; exact slice73nil S1
    · rw [List.take_nil]; exact conv73nil _
  · refine ⟨fun S1 => len_slc und73 _ _ _ S1, .slice (some ⟨0, 0, none⟩) 0 EMPT, fun S1 => ?_, fun lw => ?_⟩
    · rw [if_neg (by simp)]; exact slice_hiE und73 sz5 .i64 S1
    · rw [List.take_nil]; exact conv_bytes0 und73 ty5 ty9
  · refine ⟨fun S1 => len_slc und73 _ _ _ S1, .slice (some ⟨b, 0, none⟩) (l.take m).length cap, fun S1 => ?_, fun lw => ?_⟩
    · have e : (if (m : Int) < (l.length : Int) then (m : Int) else (l.length : Int)) = ((l.take m).length : Int) := by
        rw [List.length_take]
        split <;> omega
      rw [e]
      exact slice_hi und73 sz5 b _ cap .i64 _ (by rw [List.length_take]; omega) h4 S1
    · rw [← bytes_ints]
      refine conv_bytes und73 ty5 ty9 (S := ⟨S.n, S.h, lw⟩) h5 (by simp; omega) ?_
      rw [List.drop_zero, ← List.map_take, List.length_take]
      have : (l.take (min m l.length)) = l.take m := by rw [Nat.min_comm, ← List.take_take]; exact List.take_of_length_le (by rw [List.length_take]; omega)
      rw [this]
      exact ints_bytes _
end Go.Abs

namespace Go.Abs
open Go Go.Proofs Go.RowKit
set_option linter.unusedSimpArgs false
set_option maxRecDepth 100000
/-- A row with one more, out of a block of one's own. -/
theorem newRow {sT e : TypeId} {k by_ : Nat} (hs : E0.P.underlying sT = some (.slice e)) (hi : infoOk E0 e k by_ = true) (hk : 0 < k) {S : St} {lo n : Nat} {v : Value} {cs new : List Value} (h : RowG E0 S e k lo v n cs) (hW : WF E0 S) (hlo : E0.base ≤ lo) (hloS : lo ≤ S.n) (hn : (2 * (n + 1) + 2048) * by_ ≤ 2 ^ 47) (hn2 : n + 1 ≤ 2 ^ 62) (hnl : new.length = k) (hone : new.all (·.oneCell') = true) :
    ∃ v' S', appA E0 [sT, sT] [v, .slice (some ⟨S.n, 0, none⟩) 1 1] (S.push (.own new e)) = some (.value v', S') ∧ RowG E0 S' e k lo v' (n + 1) (cs ++ new) ∧ vblk v' = some (S.n + 1) ∧ WF E0 S' ∧ S'.n = S.n + 2 ∧ (∀ m, m ≤ lo → m ≤ S.low → m ≤ S'.low) ∧ (∀ b, b < S.n → vblk v ≠ some b → St.get E0 S' b = St.get E0 S b) ∧ (v = .slice none 0 0 → S'.low = S.low) := by
  obtain ⟨S3, hS3⟩ : ∃ S3, S.push (.own new e) = S3 := ⟨_, rfl⟩
  have hW3 : WF E0 S3 := by rw [← hS3]; exact (wf_push _ _).2 hW
  have hn3 : S3.n = S.n + 1 := by rw [← hS3]; rfl
  have hl3 : S3.low = S.low := by rw [← hS3]; rfl
  have hget3 : ∀ b, St.get E0 S3 b = if b = S.n then some (.own new e) else St.get E0 S b := fun b => by rw [← hS3, get_push _ _ _ hW]
  have hnew : acellsOf E0 S3 k 1 (.slice (some ⟨S.n, 0, none⟩) 1 1) = some new := by
    rw [cells_slice (cells_own (by rw [hget3, if_pos rfl])) (by decide) (by decide) (by rw [hnl]; omega) (by decide)]
    rw [List.drop_zero, List.take_of_length_le (by rw [hnl]; omega)]
  have h3 : RowG E0 S3 e k lo v n cs := h.keep (by omega) fun b hb _ => by rw [hget3, if_neg (by omega)]
  rw [hS3]
  obtain ⟨v', S', a1, a2, a3, a4, a5, a6, a7, a8, a9⟩ := h3.append hW3 hlo (by omega) hs hs rfl hi rfl (by decide) hnew (by rw [hnl]; omega) hone hk hn hn2
  refine ⟨v', S', a1, a2, by rw [a3, hn3], a5, by omega, fun m h1 h2 => a7 m h1 (by omega), fun b hb hne => ?_, fun h => (a9 h).trans hl3⟩
  rw [a8 b (by omega) hne, hget3, if_neg (by omega)]
theorem bs49 (n : Int) (S : St) : bsA E0 49 1 [(0, .int .i64 n)] S = some (.value (.slice (some ⟨S.n, 0, none⟩) 1 1), S.push (.own [.int .i64 n] 3)) := keepEq (by kernel_rfl)
theorem info3 : infoOk E0 3 1 8 = true := keepEq (by kernel_rfl)
theorem und72 : E0.P.underlying 72 = some (.slice 76) := keepEq (by kernel_rfl)
theorem sz76 : szOf E0 76 = some 3 := keepEq (by kernel_rfl)
theorem fa76_0 (b o : Nat) : afieldAddr E0 76 (.pointer (some ⟨b, o, none⟩)) 0 = some (.pointer (some ⟨b, o, none⟩)) := keepEq (by kernel_rfl)
theorem fa76_1 (b o : Nat) : afieldAddr E0 76 (.pointer (some ⟨b, o, none⟩)) 1 = some (.pointer (some ⟨b, o + 1, none⟩)) := keepEq (by kernel_rfl)
theorem fa76_2 (b o : Nat) : afieldAddr E0 76 (.pointer (some ⟨b, o, none⟩)) 2 = some (.pointer (some ⟨b, o + 2, none⟩)) := keepEq (by kernel_rfl)
theorem build78 (n : Int) (S : St) : buildA E0 78 [(0, .int .i64 n)] S = some (.value (.agg ⟨[.int .i64 n, .int .i64 0, .string ⟨#[]⟩]⟩), S) := keepEq (by kernel_rfl)
/-- Rows of what is written that came in. -/
def pC : List Pc → List Value → List Value
  | p :: ps, v :: vs => .int .u8 p.k :: .int .i64 p.n :: v :: pC ps vs
  | _, _ => []
theorem pC_len : ∀ (ps : List Pc) (vs : List Value), vs.length = ps.length → (pC ps vs).length = ps.length * 3
  | [], _, _ => by simp [pC]
  | p :: ps, [], h => by simp at h
  | p :: ps, v :: vs, h => by
    simp only [pC, List.length_cons]
    rw [pC_len ps vs (by simpa using h)]
    omega
theorem pC_get : ∀ (ps : List Pc) (vs : List Value) (h : vs.length = ps.length) (i : Nat) (hi : i < ps.length), (pC ps vs)[i * 3]? = some (.int .u8 (ps[i].k : Nat)) ∧ (pC ps vs)[i * 3 + 1]? = some (.int .i64 ps[i].n) ∧ (pC ps vs)[i * 3 + 2]? = some (vs[i]'(by omega))
  | [], _, _, i, hi => by simp at hi
  | p :: ps, [], h, _, _ => by simp at h
  | p :: ps, v :: vs, h, 0, hi => by simp [pC]
  | p :: ps, v :: vs, h, i + 1, hi => by
    have ih := pC_get ps vs (by simpa using h) i (by simpa using hi)
    have e : (i + 1) * 3 = i * 3 + 3 := by omega
    rw [e]
    simpa [pC] using ih
structure PcAt (S : St) (v : Value) (ps : List Pc) : Prop where
  ok : ∀ p ∈ ps, p.OK
  len : ∀ S1, lenA E0 72 v S1 = some (.value (.int .i64 ps.length), S1)
  at_ : ps ≠ [] → ∃ b cap vs, v = .slice (some ⟨b, 0, none⟩) ps.length cap ∧ b < S.n ∧ vs.length = ps.length ∧ St.cells E0 S b = some (pC ps vs) ∧ ∀ i (h : i < ps.length) (h2 : i < vs.length), ByAt S vs[i] ps[i].s
/-- A block of one's own more, as it is. -/
structure At2 (S1 S3 : St) (t : TypeId) (c : List Value) : Prop where
  wf : WF E0 S3
  n : S3.n = S1.n + 1
  low : ∀ m, m ≤ S1.low → m ≤ S1.n → m ≤ S3.low
  get : ∀ b, St.get E0 S3 b = if b = S1.n then some (.own c t) else St.get E0 S1 b
theorem At2.push {t : TypeId} {S1 : St} (hW : WF E0 S1) (c : List Value) : At2 S1 (S1.push (.own c t)) t c :=
  ⟨(wf_push _ _).2 hW, n_push _ _, fun m h _ => h, fun b => get_push _ _ _ hW⟩
theorem At2.store {t : TypeId} {S1 S3 : St} {c : List Value} (h : At2 S1 S3 t c) (hW : WF E0 S1) {u : TypeId} {k f : Nat} {v : Value} (hi : szOf E0 u = some k) (h1 : v.cells.toList.length = k) (h2 : v.cells.toList.all (·.oneCell') = true) (h3 : f + k ≤ c.length) :
    ∃ S4, astore E0 S3 u (.pointer (some ⟨S1.n, f, none⟩)) v = some S4 ∧ At2 S1 S4 t (splice c f v.cells.toList) := by
  have hn := h.n
  refine ⟨_, store_own (by rw [h.get, if_pos rfl]) hi h1 h2 h3, (wf_set _ _ _).2 h.wf, h.n, ?_, ?_⟩
  · intro m h4 h5
    rw [low_set, le_nmin]
    exact ⟨h.low m h4 h5, h5⟩
  · intro b
    rw [get_setS _ _ _ _ h.wf (wf_base hW) (by omega)]
    by_cases hb : b = S1.n
    · rw [if_pos hb, if_pos hb]
    · rw [if_neg hb, if_neg hb, h.get, if_neg hb]
theorem At2.cells {t : TypeId} {S1 S3 : St} {c : List Value} (h : At2 S1 S3 t c) (lw : Nat) : St.cells E0 ⟨S3.n, S3.h, lw⟩ S1.n = some c := cells_own ((h.get S1.n).trans (if_pos rfl))
theorem At2.relow {t : TypeId} {S1 S3 : St} {c : List Value} (h : At2 S1 S3 t c) : At2 S1 ⟨S3.n, S3.h, S3.n⟩ t c := ⟨h.wf, h.n, fun m _ h2 => by show m ≤ S3.n; have := h.n; omega, h.get⟩
theorem At2.lt {t : TypeId} {S1 S3 : St} {c : List Value} (h : At2 S1 S3 t c) : S1.n < S3.n := by have := h.n; omega
theorem At2.own {t : TypeId} {S1 S3 : St} {c : List Value} (h : At2 S1 S3 t c) : St.get E0 S3 S1.n = some (.own c t) := (h.get S1.n).trans (if_pos rfl)
theorem At2.old {t : TypeId} {S1 S3 : St} {c : List Value} (h : At2 S1 S3 t c) : ∀ b, b < S1.n → St.get E0 S3 b = St.get E0 S1 b := fun b hb => (h.get b).trans (if_neg (by omega))
theorem kC_append (a b : List Nat) : kC (a ++ b) = kC a ++ kC b := by simp [kC]
theorem kinds_append (a b : List It) : kinds (a ++ b) = kinds a ++ kinds b := by simp [kinds]
theorem map3 {α β : Type} {f : α → β} {l : List α} {a b c : β} (h : l.map f = [a, b, c]) : ∃ x y z, l = [x, y, z] ∧ f x = a ∧ f y = b ∧ f z = c := by
  match l, h with
  | [x, y, z], h => simp at h; exact ⟨x, y, z, rfl, h.1, h.2.1, h.2.2⟩
theorem fieldsAre78 : (E0.P.fieldsOf 78).toList.map (fun f => (f.name, f.type, f.offset)) = [("Kind", 3, 0), ("N", 3, 1), ("S", 9, 2)] := by kernel_rfl
theorem fields78 : ∃ f0 f1 f2, (E0.P.fieldsOf 78).toList = [f0, f1, f2] ∧ f0.name ≠ "_" ∧ f1.name ≠ "_" ∧ f2.name ≠ "_" ∧ f0.type = 3 ∧ f1.type = 3 ∧ f2.type = 9 ∧ f0.offset = 0 ∧ f1.offset = 1 ∧ f2.offset = 2 := by
  obtain ⟨x, y, z, h1, h2, h3, h4⟩ := map3 fieldsAre78
  simp only [Prod.mk.injEq] at h2 h3 h4
  exact ⟨x, y, z, h1, by rw [h2.1]; decide, by rw [h3.1]; decide, by rw [h4.1]; decide, h2.2.1, h3.2.1, h4.2.1, h2.2.2, h3.2.2, h4.2.2⟩
theorem fieldsOk78 : E0.P.underlying 78 = some (.struct (E0.P.fieldsOf 78)) := keepEq (by kernel_rfl)
theorem stood78 : E0.P.stoodInHeld 78 = false := keepEq (by kernel_rfl)
theorem part78 (x : It) : prun E0.P (part 3 ⟨x.cells⟩ 0) = some (.int .i64 x.k) ∧ prun E0.P (part 3 ⟨x.cells⟩ 1) = some (.int .i64 x.n) ∧ prun E0.P (part 9 ⟨x.cells⟩ 2) = some (.string (str x.s)) := ⟨by kernel_rfl, by kernel_rfl, by kernel_rfl⟩
theorem guard78 (x y : It) (a b : Operand) : prun E0.P (eqGuard .neq 78 a b x.val y.val) = some () := by kernel_rfl
theorem neq78 (x : It) (a b : Operand) (S : St) : binA E0 .neq 78 a b x.val x.val S = some (.value (.bool false), S) := by
  refine binA_of (by rw [pfIt]; rfl) (guard78 x x a b) ?_ rfl
  have h : binOp .neq 78 x.val x.val = (do pure (.bool (!(← Op.equal 78 x.val x.val)))) := rfl
  rw [h, prun_bind]
  have h2 : prun E0.P (Op.equal 78 x.val x.val) = some true := by
    show prun E0.P (Op.equalIn (9999 + 1) 78 (.agg ⟨x.cells⟩) (.agg ⟨x.cells⟩)) = _
    rw [prun_equalIn_struct 9999 78 _ _ fieldsOk78 stood78]
    obtain ⟨f0, f1, f2, hf, n0, n1, n2, t0, t1, t2, o0, o1, o2⟩ := fields78
    obtain ⟨p0, p1, p2⟩ := part78 x
    rw [hf]
    rw [eqFields_cons n0 (by rw [t0, o0]; exact p0) (by rw [t0, o0]; exact p0) (by rw [t0]; exact prun_equalIn_int 9998 3 .i64 .i64 _ _ ty3)]
    rw [eqFields_cons n1 (by rw [t1, o1]; exact p1) (by rw [t1, o1]; exact p1) (by rw [t1]; exact prun_equalIn_int 9998 3 .i64 .i64 _ _ ty3)]
    rw [eqFields_cons n2 (by rw [t2, o2]; exact p2) (by rw [t2, o2]; exact p2) (by rw [t2]; exact prun_equalIn_string 9998 9 _ _ ty9)]
    rw [eqFields_nil, beq_toListBytes]
    simp
  rw [h2]
  rfl
/-- Both rows with one more. -/
theorem r22 {S1 S4 : St} {x : It} (hW4 : WF E0 S4) (hn4 : S1.n < S4.n) (hgx : St.get E0 S4 S1.n = some (.own x.cells 78)) (hgo : ∀ b, b < S1.n → St.get E0 S4 b = St.get E0 S1 b) {lo n : Nat} {v w : Value} {xs : List It} (hv : RowG E0 S1 78 3 lo v n (iC xs)) (hw : RowG E0 S1 3 1 lo w n (kC (kinds xs))) (hne : ∀ b, vblk v = some b → vblk w ≠ some b) (hW1 : WF E0 S1) (hlo : E0.base ≤ lo) (hloS : lo ≤ S1.n) (hlow : lo ≤ S4.low) (hn : n < 2 ^ 20) :
    ∃ v' w' S5 S6, appA E0 [74, 74] [v, .slice (some ⟨S4.n, 0, none⟩) 1 1] ⟨S4.n + 1, (St.push ⟨S4.n, S4.h, S4.n⟩ (.own x.cells 78)).h, S4.n + 1⟩ = some (.value v', S5) ∧
      appA E0 [49, 49] [w, .slice (some ⟨S5.n, 0, none⟩) 1 1] ⟨S5.n + 1, (St.push ⟨S5.n, S5.h, S5.n⟩ (.own [.int .i64 x.k] 3)).h, S5.n + 1⟩ = some (.value w', S6) ∧
      (∀ lw, aload E0 ⟨S4.n, S4.h, lw⟩ 78 (.pointer (some ⟨S1.n, 0, none⟩)) = some x.val) ∧ (∀ lw, aload E0 ⟨S5.n, S5.h, lw⟩ 3 (.pointer (some ⟨S1.n, 0, none⟩)) = some (.int .i64 x.k)) ∧
      RowG E0 S6 78 3 lo v' (n + 1) (iC (xs ++ [x])) ∧ RowG E0 S6 3 1 lo w' (n + 1) (kC (kinds (xs ++ [x]))) ∧ (∀ b, vblk v' = some b → vblk w' ≠ some b) ∧ WF E0 S6 ∧ S4.n ≤ S5.n ∧ S5.n ≤ S6.n ∧ lo ≤ S5.low ∧ lo ≤ S6.low ∧ (∀ b, b < lo → St.get E0 S6 b = St.get E0 S1 b) ∧
      (∀ lw, RowG E0 ⟨S4.n + 1, (St.push ⟨S4.n, S4.h, S4.n⟩ (.own x.cells 78)).h, lw⟩ 78 3 lo v n (iC xs)) ∧ (∀ lw, RowG E0 ⟨S5.n + 1, (St.push ⟨S5.n, S5.h, S5.n⟩ (.own [.int .i64 x.k] 3)).h, lw⟩ 3 1 lo w n (kC (kinds xs))) ∧ (v = .slice none 0 0 → S5.low = S4.n + 1) ∧ (w = .slice none 0 0 → S6.low = S5.n + 1) := by
  have hv4 : RowG E0 S4 78 3 lo v n (iC xs) := hv.keep (by omega) fun b hb _ => hgo b hb
  have hw4 : RowG E0 S4 3 1 lo w n (kC (kinds xs)) := hw.keep (by omega) fun b hb _ => hgo b hb
  have hx1 : x.cells.length = 3 := rfl
  have hv4' : RowG E0 ⟨S4.n, S4.h, S4.n + 1⟩ 78 3 lo v n (iC xs) := hv4
  obtain ⟨v', S5, a1, a2, a3, a4, a5, a6, a7, a8⟩ := newRow und74 info78 (by decide) hv4' hW4 hlo (by show lo ≤ S4.n; omega) (by omega) (by omega) hx1 rfl
  simp only at a3 a5 a6 a7 a8
  have hw5 : RowG E0 S5 3 1 lo w n (kC (kinds xs)) := hw4.keep (by omega) fun b hb hwb => a7 b hb (fun hvb => hne b hvb hwb)
  have hw5' : RowG E0 ⟨S5.n, S5.h, S5.n + 1⟩ 3 1 lo w n (kC (kinds xs)) := hw5
  obtain ⟨w', S6, b1, b2, b3, b4, b5, b6, b7, b8⟩ := newRow (new := [.int .i64 (x.k : Nat)]) und49 info3 (by decide) hw5' a4 hlo (by show lo ≤ S5.n; omega) (by omega) (by omega) rfl rfl
  simp only at b3 b5 b6 b7 b8
  have hxb : St.get E0 S5 S1.n = some (.own x.cells 78) := by
    rw [a7 S1.n (by omega) (fun hvb => by have := (hv.lt hvb).1; omega)]
    exact hgx
  refine ⟨v', w', S5, S6, a1, b1, fun lw => ?_, fun lw => ?_, ?_, ?_, ?_, b4, by omega, by omega, a6 _ (Nat.le_refl _) (by omega), b6 _ (Nat.le_refl _) (by omega), fun b hb => ?_, fun lw => hv4.keep (Nat.le_succ _) (fun b hb _ => (get_push ⟨S4.n, S4.h, S4.n⟩ _ _ hW4).trans (if_neg (by show b ≠ S4.n; omega))), fun lw => hw5.keep (Nat.le_succ _) (fun b hb _ => (get_push ⟨S5.n, S5.h, S5.n⟩ _ _ a4).trans (if_neg (by show b ≠ S5.n; omega))), a8, b8⟩
  · rw [ld78 (S := ⟨S4.n, S4.h, lw⟩) (cells_own hgx) (by show 0 + 3 ≤ 3; decide)]
    rfl
  · exact ldI (S := ⟨S5.n, S5.h, lw⟩) (cells_own hxb) rfl
  · rw [iC_append]
    have e : iC [x] = x.cells := by simp [iC]
    rw [e]
    refine a2.keep (by omega) fun b hb hvb => b7 b hb fun hwb => ?_
    rw [a3] at hvb
    have := (hw5.lt hwb).1
    have h4 := (hw4.lt hwb).1
    injection hvb with hvb
    omega
  · rw [kinds_append, kC_append]
    exact b2
  · intro b hvb hwb
    rw [a3] at hvb
    rw [b3] at hwb
    injection hvb with hvb
    injection hwb with hwb
    omega
  · rw [b7 b (by omega) (fun hwb => by have := (hw5.lt hwb).2; omega), get_mk, a7 b (by omega) (fun hvb => by have := (hv4.lt hvb).2; omega), get_mk, hgo b (by omega)]
theorem acls_bs {n0 : Nat} {ops : Array Oper} {d u len j y ty pos after gd} {t : List Value} {v : Value} {S S1 : St} (hp : pf (aeval t y) = true) (hl : S.n ≤ S1.low) : aclsD E0 n0 ops ⟨d, .buildSlice u len #[(j, y)], ty, pos, after, gd⟩ t v S S1 ∈ [0, 4] :=
  acls_free (by simp [allPf, Op.operands, hp]) hl
theorem cellsOf78 : E0.P.cellsOf 78 = 3 := by kernel_rfl
theorem cellsOf3 : E0.P.cellsOf 3 = 1 := by kernel_rfl
end Go.Abs
