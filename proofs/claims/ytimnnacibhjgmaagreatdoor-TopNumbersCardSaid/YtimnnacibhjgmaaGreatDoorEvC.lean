/-
  TopNumbers answers true for every list of pieces and every bytes behind, and leaves them as they were; conditions: the listed package variables hold what the program's text lays (tied by the card).
-/
import Derived.Test.YtimnnacibhjgmaaGreatDoorEvB
import Derived.LoopN

namespace Go.Abs
open Go Go.RowKit

/-! ### which operations stand before which -/
def bitsOf (acc : Array Nat) (o : Oper) : Nat := o.after.foldl (fun s e => if Region.binds .any e then s ||| 2 ^ e.on ||| acc.getD e.on 0 else s) 0

theorem bitsOf_test {acc : Array Nat} {o : Oper} {i : Nat} (h : (bitsOf acc o).testBit i = true) : ∃ e ∈ o.after.toList, Region.binds .any e = true ∧ (e.on = i ∨ (acc.getD e.on 0).testBit i = true) := by
  unfold bitsOf at h
  rw [← Array.foldl_toList] at h
  have key : ∀ (l : List Edge) (s : Nat), ((l.foldl (fun s e => if Region.binds .any e then s ||| 2 ^ e.on ||| acc.getD e.on 0 else s) s).testBit i = true) → s.testBit i = true ∨ ∃ e ∈ l, Region.binds .any e = true ∧ (e.on = i ∨ (acc.getD e.on 0).testBit i = true) := by
    intro l
    induction l with
    | nil => intro s h; exact .inl h
    | cons e l ih =>
      intro s h
      simp only [List.foldl_cons] at h
      rcases ih _ h with h1 | ⟨e', h1, h2⟩
      · split at h1
        · rename_i hb
          simp only [Nat.testBit_or, Bool.or_eq_true] at h1
          rcases h1 with (h1 | h1) | h1
          · exact .inl h1
          · rw [Nat.testBit_two_pow] at h1
            exact .inr ⟨e, by simp, hb, .inl (by simpa using h1)⟩
          · exact .inr ⟨e, by simp, hb, .inr h1⟩
        · exact .inl h1
      · exact .inr ⟨e', by simp [h1], h2⟩
  rcases key _ _ h with h1 | h1
  · simp at h1
  · exact h1

theorem before_eq (ops : Array Oper) : Region.before ops = ops.toList.foldl (fun acc o => acc.push (bitsOf acc o)) #[] := by
  unfold Region.before bitsOf
  rw [← Array.foldl_toList]

theorem before_fold : ∀ (l : List Oper) (acc : Array Nat),
    (∀ k, k < acc.size → (l.foldl (fun acc o => acc.push (bitsOf acc o)) acc).getD k 0 = acc.getD k 0) ∧
    (∀ m o, l[m]? = some o → ∀ i, ((l.foldl (fun acc o => acc.push (bitsOf acc o)) acc).getD (acc.size + m) 0).testBit i = true →
      ∃ e ∈ o.after.toList, Region.binds .any e = true ∧ (e.on = i ∨ ((l.foldl (fun acc o => acc.push (bitsOf acc o)) acc).getD e.on 0).testBit i = true))
  | [], acc => ⟨fun _ _ => rfl, fun m o h => by simp at h⟩
  | o :: l, acc => by
    obtain ⟨h1, h2⟩ := before_fold l (acc.push (bitsOf acc o))
    simp only [List.foldl_cons]
    have hold : ∀ k, k < acc.size → (acc.push (bitsOf acc o)).getD k 0 = acc.getD k 0 := by
      intro k hk
      simp only [Array.getD_eq_getD_getElem?, Array.getElem?_push]
      rw [if_neg (by omega)]
    refine ⟨fun k hk => (h1 k (by simp; omega)).trans (hold k hk), ?_⟩
    intro m o' hm i hi
    cases m with
    | zero =>
      simp only [List.getElem?_cons_zero, Option.some.injEq] at hm
      subst hm
      rw [Nat.add_zero, h1 acc.size (by simp)] at hi
      have : (acc.push (bitsOf acc o)).getD acc.size 0 = bitsOf acc o := by
        simp [Array.getD_eq_getD_getElem?]
      rw [this] at hi
      obtain ⟨e, he, hb, h3⟩ := bitsOf_test hi
      refine ⟨e, he, hb, ?_⟩
      rcases h3 with h3 | h3
      · exact .inl h3
      · right
        by_cases hlt : e.on < acc.size
        · rw [h1 e.on (by simp; omega), hold e.on hlt]; exact h3
        · rw [Array.getD_eq_getD_getElem?, Array.getElem?_eq_none (by omega)] at h3
          simp at h3
    | succ m =>
      simp only [List.getElem?_cons_succ] at hm
      have := h2 m o' hm i (by
        rw [Array.size_push]
        rwa [show acc.size + 1 + m = acc.size + (m + 1) by omega])
      exact this

theorem before_test {ops : Array Oper} {j : Nat} {o : Oper} (ho : ops[j]? = some o) {i : Nat} (h : ((Region.before ops).getD j 0).testBit i = true) :
    ∃ e ∈ o.after.toList, Region.binds .any e = true ∧ (e.on = i ∨ ((Region.before ops).getD e.on 0).testBit i = true) := by
  rw [before_eq] at h ⊢
  refine (before_fold ops.toList #[]).2 j o (by rw [Array.getElem?_toList]; exact ho) i ?_
  simpa using h

structure RegOk (ops : Array Oper) : Prop where
  back : ∀ (j : Nat) (o : Oper), ops[j]? = some o → ∀ e ∈ o.after.toList, Region.binds .any e = true → e.on < j
  apart : ∀ (i j : Nat) (oi oj : Oper), ops[i]? = some oi → ops[j]? = some oj → ∀ d, oi.dst = some d → d ∈ namesOf ops oj → comparable (Region.before ops) i j = true

theorem regOk_of {ops : Array Oper} (h : regOk ops = true) : RegOk ops := by
  unfold regOk at h
  simp only [List.all_eq_true, List.mem_range] at h
  constructor
  · intro j o ho e he hb
    have hj : j < ops.size := (Array.getElem?_eq_some_iff.1 ho).1
    have := h j hj
    rw [ho] at this
    simp only [Bool.and_eq_true, List.all_eq_true] at this
    have := this.1 e he
    simpa [hb] using this
  · intro i j oi oj hi hj d hd hn
    have hj' : j < ops.size := (Array.getElem?_eq_some_iff.1 hj).1
    have hi' : i < ops.size := (Array.getElem?_eq_some_iff.1 hi).1
    have := h j hj'
    rw [hj] at this
    simp only [Bool.and_eq_true, List.all_eq_true, List.mem_range] at this
    have := this.2 i hi'
    rw [hi] at this
    simp only [hd, Bool.or_eq_true] at this
    rcases this with h1 | h1
    · exact h1
    · simp [hn] at h1

/-- Listed before: all that stands before what is listed is listed. -/
def Closed (ops : Array Oper) (L : Nat → Prop) : Prop := ∀ j, L j → ∀ i, ((Region.before ops).getD j 0).testBit i = true → L i

theorem Closed.ready {ops : Array Oper} {L : Nat → Prop} (h : Closed ops L) {j : Nat} {o : Oper} (ho : ops[j]? = some o) (hr : ∀ e ∈ o.after.toList, Region.binds .any e = true → L e.on) :
    ∀ i, ((Region.before ops).getD j 0).testBit i = true → L i := by
  intro i hi
  obtain ⟨e, he, hb, h1⟩ := before_test ho hi
  rcases h1 with h1 | h1
  · exact h1 ▸ hr e he hb
  · exact h e.on (hr e he hb) i h1

/-! ### a run in the order of the text -/
structure Trace (E : Env) (call : CallFn) (n0 : Nat) (ops : Array Oper) (cs : List Nat) (T : Nat → List Value) (Z : Nat → St) (V : Nat → Value) (Z1 : Nat → St) : Prop where
  step : ∀ (k : Nat) (o : Oper), ops[k]? = some o → aoper E call ops o (T k) ⟨(Z k).n, (Z k).h, (Z k).n⟩ = some (V k, Z1 k)
  nextT : ∀ (k : Nat) (o : Oper), ops[k]? = some o → T (k + 1) = aput (T k) o.dst (V k)
  nextS : ∀ (k : Nat) (o : Oper), ops[k]? = some o → Z (k + 1) = ⟨(Z1 k).n, (Z1 k).h, Nat.min (Z k).low (Z1 k).low⟩
  cls : ∀ (k : Nat) (o : Oper), ops[k]? = some o → cs[k]? = some (aclsD E n0 ops o (T k) (V k) (Z k) (Z1 k))

theorem trace_of {E : Env} {call : CallFn} {n0 : Nat} {ops : Array Oper} : ∀ (l : List Oper) (i : Nat) {t : List Value} {S : St} {cs : List Nat} {t' : List Value} {S' : St}, ops.toList.drop i = l → aopsD E call n0 ops l t S = some (cs, t', S') →
    ∃ (T : Nat → List Value) (Z : Nat → St) (V : Nat → Value) (Z1 : Nat → St), T i = t ∧ Z i = S ∧ T (i + l.length) = t' ∧ Z (i + l.length) = S' ∧ cs.length = l.length ∧
      ∀ (k : Nat) (o : Oper), i ≤ k → ops[k]? = some o → aoper E call ops o (T k) ⟨(Z k).n, (Z k).h, (Z k).n⟩ = some (V k, Z1 k) ∧ T (k + 1) = aput (T k) o.dst (V k) ∧
        Z (k + 1) = ⟨(Z1 k).n, (Z1 k).h, Nat.min (Z k).low (Z1 k).low⟩ ∧ cs[k - i]? = some (aclsD E n0 ops o (T k) (V k) (Z k) (Z1 k))
  | [], i, t, S, cs, t', S', hl, h => by
    simp only [aopsD, Option.some.injEq, Prod.mk.injEq] at h
    obtain ⟨rfl, rfl, rfl⟩ := h
    refine ⟨fun _ => t, fun _ => S, fun _ => undef, fun _ => S, rfl, rfl, rfl, rfl, rfl, ?_⟩
    intro k o hk ho
    rw [← Array.getElem?_toList] at ho
    have : (ops.toList.drop i)[k - i]? = some o := by rw [List.getElem?_drop]; rwa [show i + (k - i) = k by omega]
    rw [hl] at this
    simp at this
  | o :: l, i, t, S, cs, t', S', hl, h => by
    unfold aopsD at h
    split at h
    · rename_i v S1 h1
      split at h
      · rename_i cs2 t2 S2 h2
        simp only [Option.some.injEq, Prod.mk.injEq] at h
        obtain ⟨rfl, rfl, rfl⟩ := h
        have hl' : ops.toList.drop (i + 1) = l := by
          have := congrArg (List.drop 1) hl
          simpa [List.drop_drop, Nat.add_comm] using this
        have hi : ops[i]? = some o := by
          rw [← Array.getElem?_toList]
          have := congrArg (fun l => l[0]?) hl
          simpa [List.getElem?_drop] using this
        obtain ⟨T, Z, V, Z1, g1, g2, g3, g4, g5, g6⟩ := trace_of l (i + 1) hl' h2
        refine ⟨fun k => if k = i then t else T k, fun k => if k = i then S else Z k, fun k => if k = i then v else V k, fun k => if k = i then S1 else Z1 k, by simp, by simp, ?_, ?_, by simp [g5], ?_⟩
        · simp only [List.length_cons]
          rw [if_neg (by omega), ← g3]
          congr 1
          omega
        · simp only [List.length_cons]
          rw [if_neg (by omega), ← g4]
          congr 1
          omega
        · intro k o' hk ho'
          by_cases he : k = i
          · subst he
            rw [hi] at ho'
            cases ho'
            simp only [if_true, Nat.sub_self, List.getElem?_cons_zero]
            rw [if_neg (by omega), if_neg (by omega)]
            exact ⟨h1, g1, g2, trivial⟩
          · simp only [if_neg he]
            rw [if_neg (by omega), if_neg (by omega)]
            obtain ⟨m1, m2, m3, m4⟩ := g6 k o' (by omega) ho'
            refine ⟨m1, m2, m3, ?_⟩
            rw [show k - i = (k - (i + 1)) + 1 by omega, List.getElem?_cons_succ]
            exact m4
      · cases h
    · cases h

end Go.Abs

namespace Go.Abs
open Go Go.RowKit

def Phi.below (φ : Phi) (n : Nat) : Phi := fun b => if b < n then φ b else none

theorem Phi.below_some {φ : Phi} {n b : Nat} {l : Loc} : (φ.below n) b = some l ↔ b < n ∧ φ b = some l := by
  unfold Phi.below
  by_cases h : b < n <;> simp [h]

theorem Phi.below_mono {φ ψ : Phi} {n m : Nat} (h : ∀ b l, φ b = some l → ψ b = some l) (hn : n ≤ m) : ∀ b l, (φ.below n) b = some l → (ψ.below m) b = some l := by
  intro b l hb
  rw [Phi.below_some] at hb ⊢
  exact ⟨by omega, h b l hb.2⟩

theorem Phi.below_all {φ : Phi} {n : Nat} (h : ∀ b l, φ b = some l → b < n) : φ.below n = φ := by
  funext b
  unfold Phi.below
  split
  · rfl
  · rename_i hb
    cases hq : φ b with
    | none => rfl
    | some l => exact absurd (h b l hq) hb

section
variable {E : Env} {N0 : Nat} {φ : Phi} {S : St} {w : World}

theorem Sim.relow (h : Sim E N0 φ S w) (low : Nat) : Sim E N0 φ ⟨S.n, S.h, low⟩ w := ⟨h.n_eq, h.glob, h.gN0, h.gphi, h.N0le, h.blk, h.excl⟩

theorem Sim.lt (h : Sim E N0 φ S w) {b : Nat} {l : Loc} (hb : φ b = some l) : b < S.n := by
  obtain ⟨x, hx, _⟩ := h.blk b l hb
  exact St.get_lt h.n_eq hx

theorem Sim.blk_lt (h : Sim E N0 φ S w) {b : Nat} {l : Loc} (hb : φ b = some l) : l.blk < w.heap.size := by
  obtain ⟨x, hx, hx2⟩ := h.blk b l hb
  exact hx2.there

/-- The world has grown, what was there is as it was. -/
theorem Sim.world (h : Sim E N0 φ S w) {w' : World} (hs : w.heap.size ≤ w'.heap.size) (hold : ∀ B, B < w.heap.size → w'.heap[B]? = w.heap[B]?) : Sim E N0 φ S w' where
  n_eq := h.n_eq
  glob := ⟨fun g x hg => by
    obtain ⟨h1, c, e, fz, h2, h3, h4⟩ := h.glob.out g x hg
    exact ⟨h1, c, e, fz, h2, h3, (hold g (Array.getElem?_eq_some_iff.1 h4).1).trans h4⟩⟩
  gN0 := h.gN0
  gphi := h.gphi
  N0le := Nat.le_trans h.N0le hs
  blk := fun b l hb => by
    obtain ⟨x, hx, hx2⟩ := h.blk b l hb
    exact ⟨x, hx, hx2.mono (fun _ _ h => h) (hold _ hx2.there)⟩
  excl := h.excl

/-- Another heap of the evaluator that agrees on what is mapped. -/
theorem Sim.later (h : Sim E N0 φ S w) {S' : St} (hn : S'.n = E.base + S'.h.length) (hget : ∀ b l, φ b = some l → S'.get E b = S.get E b) : Sim E N0 φ S' w where
  n_eq := hn
  glob := h.glob
  gN0 := h.gN0
  gphi := h.gphi
  N0le := h.N0le
  blk := fun b l hb => by
    obtain ⟨x, hx, hx2⟩ := h.blk b l hb
    exact ⟨x, (hget b l hb).trans hx, hx2⟩
  excl := fun b b' l l' hb hb' hne hblk => by
    obtain ⟨c, e, t, c', e', t', g1, g2, g3⟩ := h.excl b b' l l' hb hb' hne hblk
    exact ⟨c, e, t, c', e', t', (hget b l hb).trans g1, (hget b' l' hb').trans g2, g3⟩

/-- The variables of the packages alone. -/
theorem Sim.globOnly (h : Sim E N0 φ S w) {S' : St} (hn : S'.n = E.base + S'.h.length) : Sim E N0 (φ.below E.base) S' w where
  n_eq := hn
  glob := h.glob
  gN0 := h.gN0
  gphi := fun g c e t hg => by
    rw [Phi.below_some]
    exact ⟨(h.glob.out g _ hg).1, h.gphi g c e t hg⟩
  N0le := h.N0le
  blk := fun b l hb => by
    rw [Phi.below_some] at hb
    obtain ⟨hlt, hb⟩ := hb
    obtain ⟨x, hx, hx2⟩ := h.blk b l hb
    have hgl : E.glob b = some x := by simpa [St.get, hlt] using hx
    refine ⟨x, by simp [St.get, hlt, hgl], ?_⟩
    obtain ⟨_, c, e, fz, rfl, hpf, _⟩ := h.glob.out b x hgl
    obtain ⟨k0, C, fz', k1, k2, k3, k4, k5⟩ := hx2
    refine ⟨k0, C, fz', k1, k2, k3, ?_, k5⟩
    have := VRL.eq_of_pfL k4 hpf
    rw [this]
    exact VRL.of_pfL _ _ hpf
  excl := fun b b' l l' hb hb' hne hblk => by
    rw [Phi.below_some] at hb hb'
    obtain ⟨c, e, t, c', e', t', g1, g2, g3⟩ := h.excl b b' l l' hb.2 hb'.2 hne hblk
    refine ⟨c, e, t, c', e', t', ?_, ?_, g3⟩
    · simpa [St.get, hb.1] using g1
    · simpa [St.get, hb'.1] using g2

/-- What was there, and what is new. -/
theorem Sim.merge {α β ψ : Phi} {S1 : St} {w' : World} (hA : Sim E N0 α S w) (hB : Sim E N0 β S1 w') (hold : ∀ B, B < w.heap.size → w'.heap[B]? = w.heap[B]?)
    (hα : ∀ b l, α b = some l → ψ b = some l) (hβ : ∀ b l, β b = some l → ψ b = some l)
    (hψ : ∀ b l, ψ b = some l → α b = some l ∨ (β b = some l ∧ w.heap.size ≤ l.blk ∧ S.get E b = S1.get E b)) : Sim E N0 ψ S w' where
  n_eq := hA.n_eq
  glob := hB.glob
  gN0 := hA.gN0
  gphi := fun g c e t hg => hα _ _ (hA.gphi g c e t hg)
  N0le := hB.N0le
  blk := fun b l hb => by
    rcases hψ b l hb with h1 | ⟨h1, h2, h3⟩
    · obtain ⟨x, hx, hx2⟩ := hA.blk b l h1
      exact ⟨x, hx, hx2.mono hα (hold _ hx2.there)⟩
    · obtain ⟨x, hx, hx2⟩ := hB.blk b l h1
      exact ⟨x, h3.trans hx, hx2.mono hβ rfl⟩
  excl := fun b b' l l' hb hb' hne hblk => by
    rcases hψ b l hb with h1 | ⟨h1, h2, h3⟩ <;> rcases hψ b' l' hb' with k1 | ⟨k1, k2, k3⟩
    · exact hA.excl b b' l l' h1 k1 hne hblk
    · have := hA.blk_lt h1; omega
    · have := hA.blk_lt k1; omega
    · obtain ⟨c, e, t, c', e', t', g1, g2, g3⟩ := hB.excl b b' l l' h1 k1 hne hblk
      exact ⟨c, e, t, c', e', t', h3.trans g1, k3.trans g2, g3⟩

end

/-! ### facts of the run in the order of the text -/
section
variable {E : Env} {call : CallFn} {n0 : Nat} {ops : Array Oper} {cs : List Nat} {T : Nat → List Value} {Z : Nat → St} {V : Nat → Value} {Z1 : Nat → St} {S S1 : St}

theorem op_at {k : Nat} (h : k < ops.size) : ∃ o, ops[k]? = some o := ⟨ops[k], by simp [h]⟩

theorem Trace.ks (hc : CallKeep E call) (ht : Trace E call n0 ops cs T Z V Z1) {k : Nat} (hk : k < ops.size) : KS E ⟨(Z k).n, (Z k).h, (Z k).n⟩ (Z1 k) := by
  obtain ⟨o, ho⟩ := op_at hk
  exact aoper_keep hc (ht.step k o ho)

theorem Trace.n_eq (hc : CallKeep E call) (ht : Trace E call n0 ops cs T Z V Z1) (h0 : (Z 0).n = E.base + (Z 0).h.length) : ∀ k, k ≤ ops.size → (Z k).n = E.base + (Z k).h.length
  | 0, _ => h0
  | k + 1, hk => by
    obtain ⟨o, ho⟩ := op_at (show k < ops.size by omega)
    rw [ht.nextS k o ho]
    exact (ht.ks hc (by omega)).n_eq (ht.n_eq hc h0 k (by omega))

theorem Trace.n_step (hc : CallKeep E call) (ht : Trace E call n0 ops cs T Z V Z1) {k : Nat} (hk : k < ops.size) : (Z k).n ≤ (Z (k + 1)).n := by
  obtain ⟨o, ho⟩ := op_at hk
  rw [ht.nextS k o ho]
  exact (ht.ks hc hk).n_le

theorem Trace.n_mono (hc : CallKeep E call) (ht : Trace E call n0 ops cs T Z V Z1) {j : Nat} : ∀ k, j ≤ k → k ≤ ops.size → (Z j).n ≤ (Z k).n
  | 0, h, _ => by have : j = 0 := by omega
                  subst this; exact Nat.le_refl _
  | k + 1, h, hk => by
    by_cases he : j = k + 1
    · subst he; exact Nat.le_refl _
    · exact Nat.le_trans (ht.n_mono hc k (by omega) (by omega)) (ht.n_step hc (by omega))

theorem Trace.low_mono (ht : Trace E call n0 ops cs T Z V Z1) {j : Nat} : ∀ k, j ≤ k → k ≤ ops.size → (Z k).low ≤ (Z j).low
  | 0, h, _ => by have : j = 0 := by omega
                  subst this; exact Nat.le_refl _
  | k + 1, h, hk => by
    by_cases he : j = k + 1
    · subst he; exact Nat.le_refl _
    · obtain ⟨o, ho⟩ := op_at (show k < ops.size by omega)
      refine Nat.le_trans ?_ (ht.low_mono k (by omega) (by omega))
      rw [ht.nextS k o ho]
      exact Nat.min_le_left _ _

theorem Trace.low_le1 (ht : Trace E call n0 ops cs T Z V Z1) {j : Nat} (hj : j < ops.size) : (Z ops.size).low ≤ (Z1 j).low := by
  obtain ⟨o, ho⟩ := op_at hj
  refine Nat.le_trans (ht.low_mono (j := j + 1) ops.size (by omega) (Nat.le_refl _)) ?_
  rw [ht.nextS j o ho]
  exact Nat.min_le_right _ _

theorem aclsD_quiet {o : Oper} {t : List Value} {v : Value} {S S1 : St} (h2 : aclsD E n0 ops o t v S S1 ≠ 2) (h3 : aclsD E n0 ops o t v S S1 ≠ 3) : S.n ≤ S1.low := by
  unfold aclsD at h2 h3
  split at h2
  · assumption
  · rename_i h
    rw [if_neg h] at h3
    split at h2
    · rename_i h4
      rw [if_pos h4] at h3
      exact absurd rfl h3
    · exact absurd rfl h2

theorem aclsD_zero {o : Oper} {t : List Value} {v : Value} {S S1 : St} (h : aclsD E n0 ops o t v S S1 = 0) : S.n ≤ S1.low ∧ ((allPf (aeval t) o = true ∧ pf v = true) ∨ astill E ops o t = true) ∧ S1.n = S.n := by
  unfold aclsD at h
  split at h
  · rename_i h1
    split at h
    · rename_i h2
      simp only [Bool.and_eq_true, Bool.or_eq_true, beq_iff_eq] at h2
      exact ⟨h1, h2.1, h2.2⟩
    · split at h
      · cases h
      · split at h <;> cases h
  · split at h <;> cases h

theorem aclsD_four {o : Oper} {t : List Value} {v : Value} {S S1 : St} (h : aclsD E n0 ops o t v S S1 = 4) : S.n ≤ S1.low ∧ allPf (aeval t) o = true := by
  unfold aclsD at h
  split at h
  · rename_i h1
    split at h
    · cases h
    · split at h
      · rename_i h2
        exact ⟨h1, h2⟩
      · split at h <;> cases h
  · split at h <;> cases h

theorem aclsD_five {o : Oper} {t : List Value} {v : Value} {S S1 : St} (h : aclsD E n0 ops o t v S S1 = 5) : S.n ≤ S1.low ∧ aread n0 o t v = true ∧ S1.n = S.n ∧ astill E ops o t = false := by
  unfold aclsD at h
  split at h
  · rename_i h1
    split at h
    · cases h
    · rename_i h0
      split at h
      · cases h
      · split at h
        · rename_i h2
          simp only [Bool.and_eq_true, beq_iff_eq] at h2
          refine ⟨h1, h2.1, h2.2, ?_⟩
          cases hs : astill E ops o t with
          | false => rfl
          | true => exact absurd (by simp [hs, h2.2]) h0
        · cases h
  · split at h <;> cases h

theorem aclsD_three {o : Oper} {t : List Value} {v : Value} {S S1 : St} (h : aclsD E n0 ops o t v S S1 = 3) : ¬ S.n ≤ S1.low ∧ atip E n0 o t S = true := by
  unfold aclsD at h
  split at h
  · split at h
    · cases h
    · split at h
      · cases h
      · split at h <;> cases h
  · rename_i h1
    split at h
    · rename_i h2
      exact ⟨h1, h2⟩
    · cases h

theorem Trace.quiet (ht : Trace E call n0 ops cs T Z V Z1) {k : Nat} (hk : k < ops.size) (h2 : cs[k]? ≠ some 2) (h3 : cs[k]? ≠ some 3) : (Z k).n ≤ (Z1 k).low := by
  obtain ⟨o, ho⟩ := op_at hk
  rw [ht.cls k o ho] at h2 h3
  exact aclsD_quiet (fun he => h2 (by rw [he])) (fun he => h3 (by rw [he]))

theorem Trace.get_step (hc : CallKeep E call) (ht : Trace E call n0 ops cs T Z V Z1) (h0 : (Z 0).n = E.base + (Z 0).h.length) {k : Nat} (hk : k < ops.size) (h : cs[k]? ≠ some 2 ∧ cs[k]? ≠ some 3) {b : Nat} (hb : b < (Z k).n) :
    (Z (k + 1)).get E b = (Z k).get E b := by
  obtain ⟨o, ho⟩ := op_at hk
  rw [ht.nextS k o ho]
  have := (ht.ks hc hk).keep (ht.n_eq hc h0 k (by omega)) b hb (Nat.lt_of_lt_of_le hb (ht.quiet hk h.1 h.2))
  exact this

theorem Trace.get_chain (hc : CallKeep E call) (ht : Trace E call n0 ops cs T Z V Z1) (h0 : (Z 0).n = E.base + (Z 0).h.length) {j : Nat} {b : Nat} (hb : b < (Z j).n) : ∀ k, j ≤ k → k ≤ ops.size → (∀ i, j ≤ i → i < k → cs[i]? ≠ some 2 ∧ cs[i]? ≠ some 3) →
    (Z k).get E b = (Z j).get E b
  | 0, h, _, _ => by have : j = 0 := by omega
                     subst this; rfl
  | k + 1, h, hk, hq => by
    by_cases he : j = k + 1
    · subst he; rfl
    · rw [ht.get_step hc h0 (by omega) (hq k (by omega) (by omega)) (Nat.lt_of_lt_of_le hb (ht.n_mono hc k (by omega) (by omega)))]
      exact ht.get_chain hc h0 hb k (by omega) (by omega) (fun i h1 h2 => hq i h1 (by omega))

theorem St.get_set_ne (S : St) (x : ABlk) {b b' : Nat} (hb : b < S.n) (hb' : b' < S.n) (h : b' ≠ b) : (S.set b x).get E b' = S.get E b' := by
  unfold St.get St.set
  split
  · rfl
  · show (S.h.set (S.n - 1 - b) x)[S.n - 1 - b']? = _
    rw [List.getElem?_set_ne (by omega)]

theorem St.get_set_eq (hn : S.n = E.base + S.h.length) (x : ABlk) {b : Nat} (hb : b < S.n) : (S.set b x).get E b = if b < E.base then S.get E b else some x := by
  by_cases h : b < E.base
  · rw [if_pos h]
    unfold St.get
    rw [if_pos h, if_pos h]
  · rw [if_neg h, St.get_set hn x (by omega) hb, if_pos rfl]

/-- What an append that is one at a row's end gives. -/
theorem append_tip_is {tys : List TypeId} {b off len : Nat} {x v : Value} {S S1 : St} (h : aappend E tys [.slice (some ⟨b, off, none⟩) len OPEN, x] S = some (v, S1)) (hq : ¬ S.low ≤ S1.low)
    (hend : (match S.get E b with | some (.opn cc e _) => off + len * E.P.cellsOf e == cc.length | _ => false) = true) :
    ∃ c e sh new, S.get E b = some (.opn c e (some sh)) ∧ S1 = (S.set b (.opn c e none)).push new := by
  unfold aappend at h
  split at h
  · rename_i sT xT s' x' harg
    simp only [List.cons.injEq, and_true] at harg
    obtain ⟨rfl, rfl⟩ := harg
    split at h
    · rename_i elem xd n hsT hxT hn'
      split at h
      · cases h
      · cases h
      · rename_i xd _ _ i hd' hi
        split at h
        · rename_i z new hz hnew
          split at h
          · simp only at h
            split at h
            · split at h
              · simp only [Option.some.injEq, Prod.mk.injEq] at h
                obtain ⟨_, rfl⟩ := h
                exact absurd (Nat.le_refl _) hq
              · cases h
            · split at h
              · rename_i hlt
                exact absurd hlt (by decide)
              · split at h
                · split at h
                  · split at h
                    · rename_i cc e sh hg
                      rw [hg] at hend
                      simp only [beq_iff_eq] at hend
                      split at h
                      · rename_i hc
                        simp only [Option.some.injEq, Prod.mk.injEq] at h
                        obtain ⟨_, rfl⟩ := h
                        obtain ⟨_, _, rfl⟩ := hc
                        have hm : cc.take (off + len * i.size) = cc := by
                          rw [← cellsOf_info hi, hend, List.take_length]
                        rw [hm]
                        exact ⟨cc, e, sh, _, hg, rfl⟩
                      · cases h
                    · cases h
                  · cases h
                · cases h
          · cases h
        · cases h
    · cases h
  · cases h

/-- What an append at a row's end does to what was there. -/
theorem tip_get {o : Oper} {t : List Value} {v : Value} (hn : S.n = E.base + S.h.length) (h : aoper E call ops o t ⟨S.n, S.h, S.n⟩ = some (v, S1)) (hq : ¬ S.n ≤ S1.low) (ht : atip E n0 o t S = true) :
    (∀ b', n0 ≤ b' → b' < S.n → S1.get E b' = S.get E b') ∧ (∀ b', b' < S.n → S1.cells E b' = S.cells E b') := by
  unfold aoper at h
  split at h
  · split at h
    · unfold atip at ht
      split at ht
      · rename_i cl hop
        split at ht
        · rename_i s x hcal hargs
          split at ht
          · rename_i b off len cap hs
            simp only [Bool.and_eq_true, decide_eq_true_eq, beq_iff_eq] at ht
            obtain ⟨⟨hb, rfl⟩, hend⟩ := ht
            have hap : aop E (aeval t) o ⟨S.n, S.h, S.n⟩ = (aappend E cl.argTypes.toList [aeval t s, aeval t x] ⟨S.n, S.h, S.n⟩).map fun r => (.value r.1, r.2) := by
              unfold aop
              rw [hop]
              simp only
              rw [hcal]
              simp only
              rw [hargs]
              rfl
            rw [hap, hs] at h
            split at h
            · rename_i v1 S2 heq
              simp only [Option.some.injEq, Prod.mk.injEq] at h
              obtain ⟨rfl, rfl⟩ := h
              simp only [Option.map_eq_some_iff, Prod.mk.injEq] at heq
              obtain ⟨⟨v2, S3⟩, heq, _, rfl⟩ := heq
              obtain ⟨c, e, sh, new, hg, rfl⟩ := append_tip_is heq hq hend
              have hg' : S.get E b = some (.opn c e (some sh)) := hg
              have hbn := St.get_lt hn hg'
              have hnS : (St.mk S.n S.h S.n).n = E.base + (St.mk S.n S.h S.n).h.length := hn
              have hset : ((⟨S.n, S.h, S.n⟩ : St).set b (.opn c e none)).n = E.base + ((⟨S.n, S.h, S.n⟩ : St).set b (.opn c e none)).h.length := by
                simp [St.set, hn]
              have h1 : ∀ b', b' < S.n → (((⟨S.n, S.h, S.n⟩ : St).set b (.opn c e none)).push new).get E b' = ((⟨S.n, S.h, S.n⟩ : St).set b (.opn c e none)).get E b' := fun b' hb' => St.get_push_old hset new hb'
              refine ⟨fun b' h2 h3 => ?_, fun b' h3 => ?_⟩
              · rw [h1 b' h3, St.get_set_ne ⟨S.n, S.h, S.n⟩ _ (b := b) hbn h3 (by omega)]
                rfl
              · unfold St.cells
                rw [h1 b' h3]
                by_cases he : b' = b
                · subst he
                  rw [St.get_set_eq hnS _ hbn]
                  by_cases hlt : b' < E.base
                  · rw [if_pos hlt]; rfl
                  · rw [if_neg hlt, hg']
                · rw [St.get_set_ne ⟨S.n, S.h, S.n⟩ _ (b := b) hbn h3 he]
                  rfl
            · rename_i S2 heq
              simp only [Option.map_eq_some_iff, Prod.mk.injEq] at heq
              obtain ⟨_, _, h5, _⟩ := heq
              cases h5
            · rename_i f args S2 heq
              simp only [Option.map_eq_some_iff, Prod.mk.injEq] at heq
              obtain ⟨_, _, h5, _⟩ := heq
              cases h5
            · cases h
          · cases ht
        · cases ht
      · cases ht
    · cases h
  · simp only [Option.some.injEq, Prod.mk.injEq] at h
    obtain ⟨_, rfl⟩ := h
    exact absurd (Nat.le_refl _) hq

/-- A row's growing leaves what came behind the region's beginning. -/
theorem Trace.get_step3 (hc : CallKeep E call) (ht : Trace E call n0 ops cs T Z V Z1) (h0 : (Z 0).n = E.base + (Z 0).h.length) {k : Nat} (hk : k < ops.size) (h : cs[k]? ≠ some 2) {b : Nat} (hn0 : n0 ≤ b) (hb : b < (Z k).n) :
    (Z (k + 1)).get E b = (Z k).get E b := by
  by_cases h3 : cs[k]? = some 3
  · obtain ⟨o, ho⟩ := op_at hk
    rw [ht.cls k o ho] at h3
    obtain ⟨g1, g2⟩ := aclsD_three (Option.some.inj h3)
    rw [ht.nextS k o ho]
    exact (tip_get (ht.n_eq hc h0 k (by omega)) (ht.step k o ho) g1 g2).1 b hn0 hb
  · exact ht.get_step hc h0 hk ⟨h, h3⟩ hb

theorem Trace.get_chain3 (hc : CallKeep E call) (ht : Trace E call n0 ops cs T Z V Z1) (h0 : (Z 0).n = E.base + (Z 0).h.length) {j : Nat} {b : Nat} (hn0 : n0 ≤ b) (hb : b < (Z j).n) : ∀ k, j ≤ k → k ≤ ops.size → (∀ i, j ≤ i → i < k → cs[i]? ≠ some 2) →
    (Z k).get E b = (Z j).get E b
  | 0, h, _, _ => by have : j = 0 := by omega
                     subst this; rfl
  | k + 1, h, hk, hq => by
    by_cases he : j = k + 1
    · subst he; rfl
    · rw [ht.get_step3 hc h0 (by omega) (hq k (by omega) (by omega)) hn0 (Nat.lt_of_lt_of_le hb (ht.n_mono hc k (by omega) (by omega)))]
      exact ht.get_chain3 hc h0 hn0 hb k (by omega) (by omega) (fun i h1 h2 => hq i h1 (by omega))

theorem Trace.cells_step (hc : CallKeep E call) (ht : Trace E call n0 ops cs T Z V Z1) (h0 : (Z 0).n = E.base + (Z 0).h.length) {k : Nat} (hk : k < ops.size) (h : cs[k]? ≠ some 2) {b : Nat} (hb : b < (Z k).n) :
    (Z (k + 1)).cells E b = (Z k).cells E b := by
  by_cases h3 : cs[k]? = some 3
  · obtain ⟨o, ho⟩ := op_at hk
    rw [ht.cls k o ho] at h3
    obtain ⟨g1, g2⟩ := aclsD_three (Option.some.inj h3)
    rw [ht.nextS k o ho]
    exact (tip_get (ht.n_eq hc h0 k (by omega)) (ht.step k o ho) g1 g2).2 b hb
  · unfold St.cells
    rw [ht.get_step hc h0 hk ⟨h, h3⟩ hb]

theorem Trace.cells_chain (hc : CallKeep E call) (ht : Trace E call n0 ops cs T Z V Z1) (h0 : (Z 0).n = E.base + (Z 0).h.length) {j : Nat} {b : Nat} (hb : b < (Z j).n) : ∀ k, j ≤ k → k ≤ ops.size → (∀ i, j ≤ i → i < k → cs[i]? ≠ some 2) →
    (Z k).cells E b = (Z j).cells E b
  | 0, h, _, _ => by have : j = 0 := by omega
                     subst this; rfl
  | k + 1, h, hk, hq => by
    by_cases he : j = k + 1
    · subst he; rfl
    · rw [ht.cells_step hc h0 (by omega) (hq k (by omega) (by omega)) (Nat.lt_of_lt_of_le hb (ht.n_mono hc k (by omega) (by omega)))]
      exact ht.cells_chain hc h0 hb k (by omega) (by omega) (fun i h1 h2 => hq i h1 (by omega))

/-- Who wrote a temporary last. -/
theorem Trace.last (ht : Trace E call n0 ops cs T Z V Z1) {d : Nat} (hd : d < (T 0).length) : ∀ j, j ≤ ops.size → (T j).length = (T 0).length ∧
    (((T j)[d]? = (T 0)[d]? ∧ ∀ k o, k < j → ops[k]? = some o → o.dst ≠ some d) ∨
      ∃ k o, k < j ∧ ops[k]? = some o ∧ o.dst = some d ∧ (T j)[d]? = some (V k) ∧ ∀ k' o', k < k' → k' < j → ops[k']? = some o' → o'.dst ≠ some d)
  | 0, _ => ⟨rfl, .inl ⟨rfl, fun k o h => by omega⟩⟩
  | j + 1, hj => by
    obtain ⟨o, ho⟩ := op_at (show j < ops.size by omega)
    obtain ⟨hl, ih⟩ := ht.last hd j (by omega)
    rw [ht.nextT j o ho]
    cases hdst : o.dst with
    | none =>
      refine ⟨hl, ?_⟩
      simp only [aput]
      rcases ih with ⟨h1, h2⟩ | ⟨k, o1, h1, h2, h3, h4, h5⟩
      · refine .inl ⟨h1, fun k o' hk ho' => ?_⟩
        by_cases he : k = j
        · subst he; rw [ho] at ho'; cases ho'; rw [hdst]; simp
        · exact h2 k o' (by omega) ho'
      · refine .inr ⟨k, o1, by omega, h2, h3, h4, fun k' o' hk hk' ho' => ?_⟩
        by_cases he : k' = j
        · subst he; rw [ho] at ho'; cases ho'; rw [hdst]; simp
        · exact h5 k' o' hk (by omega) ho'
    | some e =>
      simp only [aput]
      refine ⟨by simp [hl], ?_⟩
      by_cases hed : e = d
      · subst hed
        exact .inr ⟨j, o, by omega, ho, hdst, by rw [List.getElem?_set_self (by omega)], fun k' o' hk hk' => by omega⟩
      · rw [List.getElem?_set_ne hed]
        rcases ih with ⟨h1, h2⟩ | ⟨k, o1, h1, h2, h3, h4, h5⟩
        · refine .inl ⟨h1, fun k o' hk ho' => ?_⟩
          by_cases he : k = j
          · subst he; rw [ho] at ho'; cases ho'; rw [hdst]; simpa using hed
          · exact h2 k o' (by omega) ho'
        · refine .inr ⟨k, o1, by omega, h2, h3, h4, fun k' o' hk hk' ho' => ?_⟩
          by_cases he : k' = j
          · subst he; rw [ho] at ho'; cases ho'; rw [hdst]; simpa using hed
          · exact h5 k' o' hk (by omega) ho'

end
end Go.Abs

namespace Go.Abs
open Go Go.RowKit

/-! Operations that look at their operands alone; maps put together. -/
def Phi.isl (φ : Phi) (lo a b : Nat) : Phi := fun x => if x < lo ∨ (a ≤ x ∧ x < b) then φ x else none
theorem Phi.isl_some {φ : Phi} {lo a b x : Nat} {l : Loc} : (φ.isl lo a b) x = some l ↔ (x < lo ∨ (a ≤ x ∧ x < b)) ∧ φ x = some l := by
  unfold Phi.isl
  split
  · rename_i h; simp [h]
  · rename_i h; simp [h]

section
variable {E : Env} {N0 : Nat} {φ : Phi} {S : St} {w : World}

/-- What isn't touched stays. -/
theorem Sim.frame (h : Sim E N0 φ S w) {w' : World} (hs : w.heap.size ≤ w'.heap.size) (hb : ∀ b l, φ b = some l → w'.heap[l.blk]? = w.heap[l.blk]?) (hg : ∀ g x, E.glob g = some x → w'.heap[g]? = w.heap[g]?) : Sim E N0 φ S w' where
  n_eq := h.n_eq
  glob := ⟨fun g x hgx => by
    obtain ⟨h1, c, e, fz, h2, h3, h4⟩ := h.glob.out g x hgx
    exact ⟨h1, c, e, fz, h2, h3, (hg g x hgx).trans h4⟩⟩
  gN0 := h.gN0
  gphi := h.gphi
  N0le := Nat.le_trans h.N0le hs
  blk := fun b l hbl => by
    obtain ⟨x, hx, hx2⟩ := h.blk b l hbl
    exact ⟨x, hx, hx2.mono (fun _ _ h => h) (hb b l hbl)⟩
  excl := h.excl

/-- Maps that share no memory, put together. -/
theorem Sim.union {α ψ : Phi} (hA : Sim E N0 α S w) (hα : ∀ b l, α b = some l → ψ b = some l)
    (hψ : ∀ b l, ψ b = some l → α b = some l ∨ ∃ β S1, Sim E N0 β S1 w ∧ β b = some l ∧ (∀ b' l', β b' = some l' → ψ b' = some l') ∧ S.get E b = S1.get E b ∧
      (∀ b' l', ψ b' = some l' → b' ≠ b → l'.blk = l.blk → β b' = some l' ∧ S.get E b' = S1.get E b')) : Sim E N0 ψ S w where
  n_eq := hA.n_eq
  glob := hA.glob
  gN0 := hA.gN0
  gphi := fun g c e t hg => hα _ _ (hA.gphi g c e t hg)
  N0le := hA.N0le
  blk := fun b l hb => by
    rcases hψ b l hb with h1 | ⟨β, S1, hB, h1, h2, h3, _⟩
    · obtain ⟨x, hx, hx2⟩ := hA.blk b l h1
      exact ⟨x, hx, hx2.mono hα rfl⟩
    · obtain ⟨x, hx, hx2⟩ := hB.blk b l h1
      exact ⟨x, h3.trans hx, hx2.mono h2 rfl⟩
  excl := fun b b' l l' hb hb' hne hblk => by
    rcases hψ b l hb with h1 | ⟨β, S1, hB, h1, h2, h3, h4⟩
    · rcases hψ b' l' hb' with k1 | ⟨β, S1, hB, k1, k2, k3, k4⟩
      · exact hA.excl b b' l l' h1 k1 hne hblk
      · obtain ⟨g1, g2⟩ := k4 b l hb hne hblk
        obtain ⟨c, e, t, c', e', t', q1, q2, q3⟩ := hB.excl b b' l l' g1 k1 hne hblk
        exact ⟨c, e, t, c', e', t', g2.trans q1, k3.trans q2, q3⟩
    · obtain ⟨g1, g2⟩ := h4 b' l' hb' (Ne.symm hne) hblk.symm
      obtain ⟨c, e, t, c', e', t', q1, q2, q3⟩ := hB.excl b b' l l' h1 g1 hne hblk
      exact ⟨c, e, t, c', e', t', h3.trans q1, g2.trans q2, q3⟩

theorem aindep_aop {ρ : Operand → Value} {o : Oper} {v : Value} (h : aindep E ρ o = some v) (S : St) : aop E ρ o S = some (.value v, S) := by
  unfold aindep at h
  unfold aop
  split at h
  all_goals first | (cases h; done) | (rename_i ho; rw [ho])
  · cases h; rfl
  · cases h; rfl
  · simp only
    split at h
    · cases h; rfl
    · cases h
  · simp only
    split at h
    · cases h; rfl
    · cases h; rfl
    · cases h
  · simp only; rw [h]; rfl
  · simp only; rw [h]; rfl
  · simp only; rw [h]; rfl
  · simp only; rw [h]; rfl
  · simp only; rw [h]; rfl
  · simp only
    split at h
    · rename_i hc
      rw [hc]
      simp only
      split at h
      · cases h
      · rename_i hp
        rw [if_neg hp, h]; rfl
    · cases h

theorem aindep_good {ρ ρ' : Operand → Value} {o : Oper} {v : Value} (h : aindep E ρ o = some v) (hρ : ∀ x ∈ o.op.operands, VR φ (ρ x) (ρ' x)) (w : World) :
    ∃ v', (execOp ρ' o).run E.P w = .ok (.value v') w ∧ VR φ v v' := by
  have hv : ∀ {s : Sem Value}, (∃ v', s.run E.P w = .ok v' w ∧ VR φ v v') → ∃ v', (s >>= fun x => pure (Next.value x)).run E.P w = .ok (.value v') w ∧ VR φ v v' := by
    rintro s ⟨v', h1, h2⟩
    exact ⟨v', by simp [Sem.run_bind, h1], h2⟩
  unfold aindep at h
  split at h
  · rename_i x ho
    cases h
    exact ⟨ρ' x, by unfold execOp; rw [ho]; rfl, hρ x (by rw [ho]; simp [Op.operands])⟩
  · rename_i x ho
    cases h
    exact ⟨ρ' x, by unfold execOp; rw [ho]; rfl, hρ x (by rw [ho]; simp [Op.operands])⟩
  · rename_i c a b ho
    split at h
    · rename_i t ht
      cases h
      have hc := hρ c (by rw [ho]; simp [Op.operands])
      rw [ht] at hc
      have hc' := hc.bool_inv
      refine ⟨if t then ρ' a else ρ' b, by unfold execOp; rw [ho]; simp [hc', asBool], ?_⟩
      cases t
      · exact hρ b (by rw [ho]; simp [Op.operands])
      · exact hρ a (by rw [ho]; simp [Op.operands])
    · cases h
  · rename_i x ho
    have hx := hρ x (by rw [ho]; simp [Op.operands])
    split at h
    · rename_i a ha
      cases h
      rw [ha] at hx
      generalize hq : ρ' x = xv at hx
      have hx0 := hx
      cases hx with
      | ptr hl =>
      exact ⟨_, by unfold execOp; rw [ho]; simp [hq], hx0⟩
    · rename_i t v' ha
      cases h
      rw [ha] at hx
      generalize hq : ρ' x = xv at hx
      have hx0 := hx
      cases hx with
      | iface _ hl =>
      exact ⟨_, by unfold execOp; rw [ho]; simp [hq], hx0⟩
    · cases h
  · rename_i t x f ho
    unfold execOp; rw [ho]
    exact hv (afieldAddr_good (hρ x (by rw [ho]; simp [Op.operands])) h)
  · rename_i t x f ho
    unfold execOp; rw [ho]
    exact hv (afield_good (hρ x (by rw [ho]; simp [Op.operands])) h w)
  · rename_i t x i ho
    unfold execOp; rw [ho]
    exact hv (aindexAddr_good (hρ x (by rw [ho]; simp [Op.operands])) (hρ i (by rw [ho]; simp [Op.operands])) h)
  · rename_i t ix ho
    unfold execOp; rw [ho]
    exact hv (aextract_good (hρ t (by rw [ho]; simp [Op.operands])) h E.P w)
  · rename_i t x ho
    unfold execOp; rw [ho]
    exact hv (amakeInterface_good (hρ x (by rw [ho]; simp [Op.operands])) h w)
  · rename_i c ho
    split at h
    · rename_i hc
      split at h
      · cases h
      · have hargs : VRL φ (c.args.toList.map ρ) (c.args.toList.map ρ') := by
          refine VRL.ofmap fun x hx => hρ x ?_
          rw [ho]
          simp only [Op.operands, Call.operands, hc]
          simpa using hx
        have hbi : execOp ρ' o = builtin .len c.argTypes o.type (c.args.map fun | .const _ => true | _ => false) (c.args.map ρ') := by
          unfold execOp
          rw [ho]
          simp only [resolve, hc]
          rfl
        rw [hbi]
        have := alenOp_good (E := E) o.type hargs h w
        rw [map_toArray, Array.toArray_toList] at this
        exact hv ⟨v, this.1, this.2⟩
    · cases h
  · cases h
end
end Go.Abs

namespace Go.Abs
open Go Go.RowKit

/-- What holds when some operations of a region have been carried out: those that are listed. m: the first one that writes to what was there and isn't listed. -/
structure Inv (E : Env) (N0 : Nat) (ops : Array Oper) (cs : List Nat) (T : Nat → List Value) (Z : Nat → St) (V : Nat → Value) (φ0 : Phi) (w0 : World) (a0 : Act) (L : Nat → Prop) (m : Nat) (φ : Phi) (a : Act) (w : World) : Prop where
  dom : ∀ k, L k → k < ops.size
  closed : Closed ops L
  mle : m ≤ ops.size
  done : ∀ k, k < m → (cs[k]? = some 2 ∨ cs[k]? = some 3) → L k
  next : m < ops.size → (cs[m]? = some 2 ∨ cs[m]? = some 3) ∧ ¬ L m
  nonP : ∀ k, L k → cs[k]? ≠ some 0 → cs[k]? ≠ some 4 → cs[k]? ≠ some 5 → k < m
  own : ∀ b l, φ b = some l → b < (Z 0).n ∨ ∃ k, L k ∧ cs[k]? ≠ some 0 ∧ (Z k).n ≤ b ∧ b < (Z (k + 1)).n
  sim : ∀ j, j ≤ m → (∀ k, j ≤ k → k < m → cs[k]? ≠ some 2 ∧ cs[k]? ≠ some 3) → Sim E N0 (φ.below (Z j).n) (Z j) w
  isl : ∀ k, m ≤ k → L k → cs[k]? = some 4 → Sim E N0 (φ.isl E.base (Z k).n (Z (k + 1)).n) (Z (k + 1)) w
  sep : ∀ k, m ≤ k → L k → cs[k]? = some 4 → ∀ b l b' l', φ b = some l → φ b' = some l' → (Z k).n ≤ b → b < (Z (k + 1)).n → l'.blk = l.blk → (Z k).n ≤ b' ∧ b' < (Z (k + 1)).n
  ext : ∀ b l, φ0 b = some l → φ b = some l
  size : a.tmps.size = (T 0).length
  defers : a.defers = a0.defers
  tm0 : ∀ d, d < (T 0).length → (∀ k o, L k → ops[k]? = some o → o.dst ≠ some d) → VR φ0 (((T 0)[d]?).getD undef) (a.tmps[d]?.getD undef)
  tm : ∀ d, d < (T 0).length → ∀ k o, L k → ops[k]? = some o → o.dst = some d → (∀ k' o', L k' → ops[k']? = some o' → o'.dst = some d → k' ≤ k) → VR (φ.below (Z (k + 1)).n) (V k) (a.tmps[d]?.getD undef)
  new : ∀ b l, φ b = some l → φ0 b = some l ∨ ((Z 0).n ≤ b ∧ (w0.heap.size ≤ l.blk ∨ ∃ b0 l0, φ0 b0 = some l0 ∧ (Z ops.size).low ≤ b0 ∧ l0.blk = l.blk))
  below : Below N0 w0 w
  frame : ∀ B, B < w0.heap.size → (∀ b l, φ0 b = some l → (Z ops.size).low ≤ b → l.blk ≠ B) → w.heap[B]? = w0.heap[B]?

section
variable {E : Env} {N0 : Nat} {call : CallFn} {ops : Array Oper} {cs : List Nat} {T : Nat → List Value} {Z : Nat → St} {V : Nat → Value} {Z1 : Nat → St} {φ0 : Phi} {w0 : World} {a0 : Act} {L : Nat → Prop} {m : Nat} {φ : Phi} {a : Act} {w : World}

theorem comparable_lt {b : Array Nat} {i j : Nat} (h : comparable b i j = true) (hij : i < j) : (b.getD j 0).testBit i = true := by
  unfold comparable at h
  rwa [if_pos hij] at h

theorem comparable_gt {b : Array Nat} {i j : Nat} (h : comparable b i j = true) (hij : j < i) : (b.getD i 0).testBit j = true := by
  unfold comparable at h
  rwa [if_neg (by omega), if_pos hij] at h

theorem comparable_symm {b : Array Nat} {i j : Nat} (h : comparable b i j = true) : comparable b j i = true := by
  unfold comparable at h ⊢
  by_cases h1 : i < j
  · rw [if_pos h1] at h
    rw [if_neg (by omega), if_pos h1]; exact h
  · by_cases h2 : j < i
    · rw [if_neg h1, if_pos h2] at h
      rw [if_pos h2]; exact h
    · rw [if_neg h2, if_neg h1]

/-- What an operation that is ready reads is what it read in the order of the text. -/
theorem Inv.reads (hc : CallKeep E call) (ht : Trace E call (Z 0).n ops cs T Z V Z1) (hr : RegOk ops) (I : Inv E N0 ops cs T Z V φ0 w0 a0 L m φ a w) (h0 : ∀ b l, φ0 b = some l → b < (Z 0).n)
    {j : Nat} {o : Oper} (ho : ops[j]? = some o) (hj : ¬ L j) (hrdy : ∀ i, ((Region.before ops).getD j 0).testBit i = true → L i) {d : Nat} (hd : d ∈ namesOf ops o) :
    VR (φ.below (Z j).n) (((T j)[d]?).getD undef) (a.tmps[d]?.getD undef) := by
  have hjs : j < ops.size := (Array.getElem?_eq_some_iff.1 ho).1
  by_cases hdl : d < (T 0).length
  · obtain ⟨hl, h⟩ := ht.last hdl j (by omega)
    have hwL : ∀ k o', ops[k]? = some o' → o'.dst = some d → (L k ↔ k < j) := by
      intro k o' ho' hdst
      have hcmp := hr.apart k j o' o ho' ho d hdst hd
      constructor
      · intro hk
        rcases Nat.lt_trichotomy k j with h1 | h1 | h1
        · exact h1
        · subst h1; exact absurd hk hj
        · exact absurd (I.closed k hk j (comparable_gt hcmp h1)) hj
      · intro hk
        exact hrdy k (comparable_lt hcmp hk)
    rcases h with ⟨h1, h2⟩ | ⟨k, o', h1, h2, h3, h4, h5⟩
    · rw [h1]
      refine VR.mono ?_ (I.tm0 d hdl fun k o' hk ho' hdst => h2 k o' ((hwL k o' ho' hdst).1 hk) ho' hdst)
      intro b l hb
      rw [Phi.below_some]
      exact ⟨Nat.lt_of_lt_of_le (h0 b l hb) (ht.n_mono hc j (Nat.zero_le _) (by omega)), I.ext b l hb⟩
    · rw [h4]
      refine VR.mono (Phi.below_mono (fun _ _ h => h) (ht.n_mono hc j (by omega) (by omega))) (I.tm d hdl k o' ((hwL k o' h2 h3).2 h1) h2 h3 fun k' o'' hk' ho'' hdst => ?_)
      have := (hwL k' o'' ho'' hdst).1 hk'
      by_cases hle : k' ≤ k
      · exact hle
      · exact absurd hdst (h5 k' o'' (by omega) this ho'')
  · have e1 : (T j)[d]? = none := by
      rw [List.getElem?_eq_none_iff]
      by_cases hz : 0 < (T 0).length
      · have := (ht.last hz j (by omega)).1
        omega
      · have hlen : ∀ k, k ≤ ops.size → (T k).length = (T 0).length := by
          intro k
          induction k with
          | zero => intro _; rfl
          | succ k ih =>
            intro hk
            obtain ⟨o', ho'⟩ := op_at (show k < ops.size by omega)
            rw [ht.nextT k o' ho']
            cases o'.dst <;> simp [aput, ih (by omega)]
        have := hlen j (by omega)
        omega
    have e2 : a.tmps[d]? = none := by
      rw [Array.getElem?_eq_none_iff, I.size]
      omega
    rw [e1, e2]
    exact VR.undef

/-- The temporaries behind an operation. -/
theorem put_get (a : Act) (dst : Option Tmp) (v : Value) (d : Nat) : (a.put dst v).tmps[d]? = if dst = some d ∧ d < a.tmps.size then some v else a.tmps[d]? := by
  cases dst with
  | none => simp [Act.put]
  | some e =>
    simp only [Act.put, Option.some.injEq]
    by_cases h : e = d
    · subst h
      by_cases hl : e < a.tmps.size
      · simp [hl]
      · simp [hl]
    · rw [Array.getElem?_setIfInBounds_ne h, if_neg (by rintro ⟨h1, _⟩; exact h h1)]

theorem put_size (a : Act) (dst : Option Tmp) (v : Value) : (a.put dst v).tmps.size = a.tmps.size := by
  cases dst <;> simp [Act.put]

theorem Inv.tms (I : Inv E N0 ops cs T Z V φ0 w0 a0 L m φ a w) (hr : RegOk ops) {j : Nat} {o : Oper} (ho : ops[j]? = some o) (hj : ¬ L j)
    {ψ : Phi} {v' : Value} (hψ : ∀ b l, φ b = some l → ψ b = some l) (hv : VR (ψ.below (Z (j + 1)).n) (V j) v') :
    (∀ d, d < (T 0).length → (∀ k o', (L k ∨ k = j) → ops[k]? = some o' → o'.dst ≠ some d) → VR φ0 (((T 0)[d]?).getD undef) ((a.put o.dst v').tmps[d]?.getD undef)) ∧
    (∀ d, d < (T 0).length → ∀ k o', (L k ∨ k = j) → ops[k]? = some o' → o'.dst = some d → (∀ k' o'', (L k' ∨ k' = j) → ops[k']? = some o'' → o''.dst = some d → k' ≤ k) → VR (ψ.below (Z (k + 1)).n) (V k) ((a.put o.dst v').tmps[d]?.getD undef)) := by
  constructor
  · intro d hd h
    rw [put_get, if_neg (by rintro ⟨h1, _⟩; exact h j o (.inr rfl) ho h1)]
    exact I.tm0 d hd fun k o' hk ho' => h k o' (.inl hk) ho'
  · intro d hd k o' hk ho' hdst hmax
    rw [put_get]
    by_cases hjd : o.dst = some d
    · rw [if_pos ⟨hjd, by rw [I.size]; exact hd⟩]
      have hkj : k = j := by
        rcases hk with hk | hk
        · exfalso
          have h1 := hmax j o (.inr rfl) ho hjd
          have hcmp := hr.apart j k o o' ho ho' d hjd (by unfold namesOf; rw [hdst]; simp)
          rcases Nat.lt_or_ge j k with h2 | h2
          · exact hj (I.closed k hk j (comparable_lt hcmp h2))
          · have : j = k := by omega
            subst this
            exact hj hk
        · exact hk
      subst hkj
      exact hv
    · rw [if_neg (by rintro ⟨h1, _⟩; exact hjd h1)]
      rcases hk with hk | hk
      · exact VR.mono (Phi.below_mono hψ (Nat.le_refl _)) (I.tm d hd k o' hk ho' hdst fun k' o'' hk' => hmax k' o'' (.inl hk'))
      · subst hk
        rw [ho] at ho'
        cases ho'
        exact absurd hdst hjd

theorem aordered_spec (h : aordered ops cs = true) {i j : Nat} (hi : cs[i]? = some 2) {c : Nat} (hj : cs[j]? = some c) (hc : c ≠ 0) : comparable (Region.before ops) i j = true := by
  unfold aordered at h
  split at h
  · rename_i hall
    simp only [List.all_eq_true] at hall
    have := hall 2 (List.mem_of_getElem? hi)
    simp [okc] at this
  · simp only [List.all_eq_true] at h
    have h1 := h (2, i) (by rw [List.mk_mem_zipIdx_iff_getElem?]; exact hi)
    simp only [okc, bne_self_eq_false, Bool.false_and, Bool.false_or, List.all_eq_true] at h1
    have h2 := h1 (c, j) (by rw [List.mk_mem_zipIdx_iff_getElem?]; exact hj)
    simpa [hc] using h2

theorem aordered_spec3 (h : aordered ops cs = true) {i j : Nat} (hi : cs[i]? = some 3) {c : Nat} (hj : cs[j]? = some c) (hc : c ≠ 0) (h4 : c ≠ 4) (h5 : c ≠ 5) : comparable (Region.before ops) i j = true := by
  unfold aordered at h
  split at h
  · rename_i hall
    simp only [List.all_eq_true] at hall
    have := hall 3 (List.mem_of_getElem? hi)
    simp [okc] at this
  · simp only [List.all_eq_true] at h
    have h1 := h (3, i) (by rw [List.mk_mem_zipIdx_iff_getElem?]; exact hi)
    have e : okc 3 = false := rfl
    simp only [e, Bool.false_or, List.all_eq_true] at h1
    have h2 := h1 (c, j) (by rw [List.mk_mem_zipIdx_iff_getElem?]; exact hj)
    simpa [hc, h4, h5] using h2

theorem wr_spec (h : aordered ops cs = true) {i j : Nat} (hi : cs[i]? = some 2 ∨ cs[i]? = some 3) {c : Nat} (hj : cs[j]? = some c) (hc : c ≠ 0) (h4 : c ≠ 4) (h5 : c ≠ 5) : comparable (Region.before ops) i j = true := by
  rcases hi with hi | hi
  · exact aordered_spec h hi hj hc
  · exact aordered_spec3 h hi hj hc h4 h5

/-- Whatever is mapped lies in the heap. -/
theorem Inv.blk_lt (hc : CallKeep E call) (ht : Trace E call (Z 0).n ops cs T Z V Z1) (I : Inv E N0 ops cs T Z V φ0 w0 a0 L m φ a w) {b : Nat} {l : Loc} (hb : φ b = some l) : l.blk < w.heap.size := by
  have hsm : Sim E N0 (φ.below (Z m).n) (Z m) w := I.sim m (Nat.le_refl _) (fun k h1 h2 => by omega)
  by_cases hlt : b < (Z m).n
  · exact hsm.blk_lt (Phi.below_some.2 ⟨hlt, hb⟩)
  · rcases I.own b l hb with h1 | ⟨k, h1, h2, h3, h4⟩
    · have := ht.n_mono hc m (Nat.zero_le _) I.mle
      omega
    · have hks := I.dom k h1
      have hmk : m ≤ k := by
        rcases Nat.lt_or_ge k m with h | h
        · have := ht.n_mono hc (j := k + 1) m (by omega) I.mle
          omega
        · exact h
      by_cases h5 : cs[k]? = some 4
      · exact (I.isl k hmk h1 h5).blk_lt (Phi.isl_some.2 ⟨.inr ⟨h3, h4⟩, hb⟩)
      · by_cases h6 : cs[k]? = some 5
        · obtain ⟨o, ho⟩ := op_at hks
          rw [ht.cls k o ho] at h6
          have := (aclsD_five (Option.some.inj h6)).2.2.1
          rw [ht.nextS k o ho] at h4
          simp only at h4
          omega
        · have := I.nonP k h1 h2 h5 h6
          omega

/-- One operation more, that maps nothing new. -/
theorem Inv.more (hc : CallKeep E call) (ht : Trace E call (Z 0).n ops cs T Z V Z1) (hr : RegOk ops) (I : Inv E N0 ops cs T Z V φ0 w0 a0 L m φ a w)
    {j : Nat} {o : Oper} (ho : ops[j]? = some o) (hj : ¬ L j) (hclosed' : Closed ops (fun k => L k ∨ k = j)) (hcj : cs[j]? = some 0 ∨ cs[j]? = some 5) {v' : Value} {w' : World}
    (hv : VR (φ.below (Z (j + 1)).n) (V j) v') (hsz : w.heap.size ≤ w'.heap.size) (hold : ∀ B, B < w.heap.size → w'.heap[B]? = w.heap[B]?) (hb : Below N0 w w') :
    Inv E N0 ops cs T Z V φ0 w0 a0 (fun k => L k ∨ k = j) m φ (a.put o.dst v') w' := by
  have hjs : j < ops.size := (Array.getElem?_eq_some_iff.1 ho).1
  have hdom' : ∀ k, (L k ∨ k = j) → k < ops.size := by
    rintro k (hk | hk)
    · exact I.dom k hk
    · omega
  have hne : ∀ c, c ≠ 0 → c ≠ 5 → cs[j]? ≠ some c := by
    intro c h1 h2 h3
    rcases hcj with h | h <;> rw [h3] at h <;> simp at h <;> omega
  obtain ⟨t1, t2⟩ := I.tms hr ho hj (ψ := φ) (v' := v') (fun _ _ h => h) hv
  refine ⟨hdom', hclosed', I.mle, fun k h1 h2 => .inl (I.done k h1 h2), fun h => ⟨(I.next h).1, ?_⟩, ?_, ?_, fun j' h1 h2 => (I.sim j' h1 h2).world hsz hold, ?_, ?_, I.ext, by rw [put_size]; exact I.size, (put_defers _ _ _).trans I.defers, t1, t2, I.new, I.below.trans hb, ?_⟩
  · rintro (h1 | h1)
    · exact (I.next h).2 h1
    · subst h1
      rcases (I.next h).1 with h2 | h2
      · exact hne 2 (by decide) (by decide) h2
      · exact hne 3 (by decide) (by decide) h2
  · rintro k (h1 | h1) h2 h3 h4
    · exact I.nonP k h1 h2 h3 h4
    · subst h1
      rcases hcj with h | h
      · exact absurd h h2
      · exact absurd h h4
  · intro b l hb
    rcases I.own b l hb with h1 | ⟨k, h1, h2⟩
    · exact .inl h1
    · exact .inr ⟨k, .inl h1, h2⟩
  · rintro k h1 (h2 | h2) h3
    · exact (I.isl k h1 h2 h3).world hsz hold
    · subst h2
      exact absurd h3 (hne 4 (by decide) (by decide))
  · rintro k h1 (h2 | h2) h3
    · exact I.sep k h1 h2 h3
    · subst h2
      exact absurd h3 (hne 4 (by decide) (by decide))
  · intro B hB hf
    rw [hold B (Nat.lt_of_lt_of_le hB I.below.size)]
    exact I.frame B hB hf

/-- The next one that writes. -/
theorem next_writer (cs : List Nat) (n j : Nat) (hj : j < n) : ∃ m', j < m' ∧ m' ≤ n ∧ (∀ k, j < k → k < m' → cs[k]? ≠ some 2 ∧ cs[k]? ≠ some 3) ∧ (m' < n → cs[m']? = some 2 ∨ cs[m']? = some 3) := by
  have key : ∀ d, j + 1 + d ≤ n → (∀ k, j < k → k < j + 1 + d → cs[k]? ≠ some 2 ∧ cs[k]? ≠ some 3) ∨ ∃ m', j < m' ∧ m' ≤ n ∧ (∀ k, j < k → k < m' → cs[k]? ≠ some 2 ∧ cs[k]? ≠ some 3) ∧ (m' < n → cs[m']? = some 2 ∨ cs[m']? = some 3) := by
    intro d
    induction d with
    | zero => intro _; exact .inl fun k h1 h2 => by omega
    | succ d ih =>
      intro hd
      rcases ih (by omega) with h | h
      · by_cases h3 : cs[j + 1 + d]? = some 2 ∨ cs[j + 1 + d]? = some 3
        · exact .inr ⟨j + 1 + d, by omega, by omega, h, fun _ => h3⟩
        · refine .inl fun k h1 h2 => ?_
          by_cases he : k = j + 1 + d
          · subst he; exact ⟨fun h => h3 (.inl h), fun h => h3 (.inr h)⟩
          · exact h k h1 (by omega)
      · exact .inr h
  rcases key (n - (j + 1)) (by omega) with h | h
  · exact ⟨n, hj, Nat.le_refl _, fun k h1 h2 => h k h1 (by omega), fun h => by omega⟩
  · exact h

theorem Inv.step4 (hP : ProgOK E) (hcall : CallGood E N0 call) (hc : CallKeep E call) (ht : Trace E call (Z 0).n ops cs T Z V Z1) (hr : RegOk ops) (hord : aordered ops cs = true)
    (hz0 : (Z 0).n = E.base + (Z 0).h.length) (I : Inv E N0 ops cs T Z V φ0 w0 a0 L m φ a w) {j : Nat} {o : Oper} (ho : ops[j]? = some o) (hj : ¬ L j) (hrdy : ∀ i, ((Region.before ops).getD j 0).testBit i = true → L i)
    (hclosed' : Closed ops (fun k => L k ∨ k = j)) (hdom' : ∀ k, (L k ∨ k = j) → k < ops.size)
    (hreads : ∀ d, d ∈ namesOf ops o → VR (φ.below (Z j).n) (((T j)[d]?).getD undef) (a.tmps[d]?.getD undef)) (hopn : ∀ d, Operand.tmp d ∈ o.op.operands → d ∈ namesOf ops o)
    (hgn : ∀ g b, o.guard = some (g, b) → ∀ d, (ops[g]?).bind (·.dst) = some d → d ∈ namesOf ops o)
    (hrange : ∀ k, k < ops.size → k ≠ j → ∀ b, (Z k).n ≤ b → b < (Z (k + 1)).n → ¬ ((Z j).n ≤ b ∧ b < (Z (j + 1)).n)) (hfree : ∀ b l, (Z j).n ≤ b → b < (Z (j + 1)).n → φ b ≠ some l) (hP4 : cs[j]? = some 4)
    (hsg : Sim E N0 (φ.below E.base) ⟨(Z j).n, (Z j).h, (Z j).n⟩ w) (hpfops : allPf (aeval (T j)) o = true → ∀ d, Operand.tmp d ∈ o.op.operands → VR (φ.below E.base) (aeval (T j) (.tmp d)) (a.eval (.tmp d))) {K : Act → World → Prop} {Q : Exit → Act → World → Prop}
    (hK : ∀ m' φ' a' w', Inv E N0 ops cs T Z V φ0 w0 a0 (fun k => L k ∨ k = j) m' φ' a' w' → K a' w') : wpOp E.P ops Q j K a w := by
  have hjs : j < ops.size := (Array.getElem?_eq_some_iff.1 ho).1
  have hstep := ht.step j o ho
  have hcls := ht.cls j o ho
  have hnj : (Z (j + 1)).n = (Z1 j).n := by rw [ht.nextS j o ho]
  have hnle : (Z j).n ≤ (Z (j + 1)).n := ht.n_step hc hjs
  have hlow := ht.low_le1 hjs
  have heval : ∀ d, aeval (T j) (.tmp d) = ((T j)[d]?).getD undef := fun _ => rfl
  have heval' : ∀ d, a.eval (.tmp d) = a.tmps[d]?.getD undef := fun d => by simp [Act.eval, Array.getD_eq_getD_getElem?]
  have hzn := ht.n_eq hc hz0 j (by omega)
  have hsm : Sim E N0 (φ.below (Z m).n) (Z m) w := I.sim m (Nat.le_refl _) (fun k h1 h2 => by omega)
  have hz : aclsD E (Z 0).n ops o (T j) (V j) (Z j) (Z1 j) = 4 := by
    have := hP4
    rw [hcls] at this
    exact Option.some.inj this
  obtain ⟨p1, p2⟩ := aclsD_four hz
  have hbz : E.base ≤ (Z j).n := by rw [hzn]; omega
  refine aoper_good hP hcall hsg ho (hpfops p2) (fun g b hg d hd => ⟨_, hreads d (hgn g b hg d hd)⟩) hstep fun φ' w' v' k1 k2 => ?_
  have hold : ∀ B, B < w.heap.size → w'.heap[B]? = w.heap[B]? := by
    intro B hB
    refine k1.frame B hB fun b l hb hl => ?_
    rw [Phi.below_some] at hb
    omega
  have hall' : ∀ b l, φ' b = some l → b < (Z (j + 1)).n := by
    intro b l hb
    rw [hnj]
    exact k1.sim.lt hb
  have hbase : ∀ b l, φ' b = some l → b < (Z j).n → b < E.base ∧ φ b = some l := by
    intro b l hb h1
    rcases k1.new b l hb with h3 | ⟨h3, _⟩
    · exact Phi.below_some.1 h3
    · simp only at h3; omega
  have hnewblk : ∀ b l, φ' b = some l → (Z j).n ≤ b → w.heap.size ≤ l.blk := by
    intro b l hb h1
    rcases k1.new b l hb with h3 | ⟨_, h3 | ⟨b0, l0, h3, h4, h5⟩⟩
    · have := (Phi.below_some.1 h3).1
      omega
    · exact h3
    · have := (Phi.below_some.1 h3).1
      omega
  let ψ : Phi := fun b => if (Z j).n ≤ b ∧ b < (Z (j + 1)).n then φ' b else φ b
  have hψφ : ∀ b l, φ b = some l → ψ b = some l := by
    intro b l hb
    show (if _ then _ else _) = _
    rw [if_neg (fun h => hfree b l h.1 h.2 hb)]
    exact hb
  have hψn : ∀ b, ¬ ((Z j).n ≤ b ∧ b < (Z (j + 1)).n) → ψ b = φ b := by
    intro b h
    show (if _ then _ else _) = _
    rw [if_neg h]
  have hψj : ∀ b, (Z j).n ≤ b ∧ b < (Z (j + 1)).n → ψ b = φ' b := by
    intro b h
    show (if _ then _ else _) = _
    rw [if_pos h]
  have hψ : ∀ b l, ψ b = some l → φ b = some l ∨ (φ' b = some l ∧ (Z j).n ≤ b ∧ b < (Z (j + 1)).n) := by
    intro b l hb
    by_cases h : (Z j).n ≤ b ∧ b < (Z (j + 1)).n
    · rw [hψj b h] at hb
      exact .inr ⟨hb, h⟩
    · rw [hψn b h] at hb
      exact .inl hb
  have hψφ' : ∀ b l, φ' b = some l → ψ b = some l := by
    intro b l hb
    by_cases h : (Z j).n ≤ b
    · rw [hψj b ⟨h, hall' b l hb⟩]; exact hb
    · rw [hψn b (fun h' => h h'.1)]
      exact (hbase b l hb (by omega)).2
  obtain ⟨t1, t2⟩ := I.tms hr ho hj (ψ := ψ) (v' := v') hψφ (VR.mono (fun b l hb => Phi.below_some.2 ⟨hall' b l hb, hψφ' b l hb⟩) k2)
  have hno2 : ∀ k, j < k → k < m → cs[k]? ≠ some 2 := by
    intro k h1 h2 h3
    exact hj (I.closed k (I.done k h2 (.inl h3)) j (comparable_gt (aordered_spec hord h3 hP4 (by decide)) h1))
  have hjm : j ≠ m := by
    intro he
    have h1 := (I.next (he ▸ hjs)).1
    rw [← he, hP4] at h1
    rcases h1 with h1 | h1 <;> simp at h1
  refine hK m ψ _ _ ⟨hdom', hclosed', I.mle, fun k h1 h3 => .inl (I.done k h1 h3), fun h => ⟨(I.next h).1, ?_⟩, ?_, ?_, ?_, ?_, ?_, fun b l hb => hψφ b l (I.ext b l hb), by rw [put_size]; exact I.size, (put_defers _ _ _).trans I.defers, t1, t2, ?_, I.below.trans k1.below, ?_⟩
  · rintro (h1 | h1)
    · exact (I.next h).2 h1
    · exact hjm h1.symm
  · rintro k (h1 | h1) h2 h3 h4
    · exact I.nonP k h1 h2 h3 h4
    · subst h1
      exact absurd hP4 h3
  · intro b l hb
    rcases hψ b l hb with h1 | ⟨h1, h3, h4⟩
    · rcases I.own b l h1 with h5 | ⟨k, h5, h6⟩
      · exact .inl h5
      · exact .inr ⟨k, .inl h5, h6⟩
    · exact .inr ⟨j, .inr rfl, by rw [hP4]; decide, h3, h4⟩
  · intro j' h1 h3
    by_cases hjj : j' ≤ j
    · have e : ψ.below (Z j').n = φ.below (Z j').n := by
        funext b
        unfold Phi.below
        split
        · rename_i hb
          have := ht.n_mono hc (j := j') j hjj (by omega)
          exact hψn b (by omega)
        · rfl
      rw [e]
      exact (I.sim j' h1 h3).world k1.below.size hold
    · have hle := ht.n_mono hc (j := j + 1) j' (by omega) (Nat.le_trans h1 I.mle)
      have hm := I.mle
      refine (I.sim j' h1 h3).merge k1.sim hold (fun b l hb => ?_) (fun b l hb => ?_) (fun b l hb => ?_)
      · rw [Phi.below_some] at hb ⊢
        exact ⟨hb.1, hψφ b l hb.2⟩
      · rw [Phi.below_some]
        exact ⟨Nat.lt_of_lt_of_le (hall' b l hb) hle, hψφ' b l hb⟩
      · rw [Phi.below_some] at hb
        rcases hψ b l hb.2 with h4 | ⟨h4, h5, h6⟩
        · exact .inl (Phi.below_some.2 ⟨hb.1, h4⟩)
        · refine .inr ⟨h4, hnewblk b l h4 h5, ?_⟩
          rw [ht.get_chain3 hc hz0 (Nat.le_trans (ht.n_mono hc j (Nat.zero_le _) (by omega)) h5) h6 j' (by omega) (by omega) (fun i h7 h8 => hno2 i (by omega) (by omega)), ht.nextS j o ho]
          rfl
  · rintro k h1 h2 h3
    by_cases hkj : k = j
    · subst hkj
      have e : ψ.isl E.base (Z k).n (Z (k + 1)).n = φ' := by
        funext b
        apply Option.ext
        intro l
        rw [Phi.isl_some]
        constructor
        · rintro ⟨h4, h5⟩
          rcases hψ b l h5 with h6 | ⟨h6, _⟩
          · rcases h4 with h4 | h4
            · exact k1.ext b l (Phi.below_some.2 ⟨h4, h6⟩)
            · exact absurd h6 (hfree b l h4.1 h4.2)
          · exact h6
        · intro h5
          refine ⟨?_, hψφ' b l h5⟩
          by_cases h6 : b < (Z k).n
          · exact .inl (hbase b l h5 h6).1
          · exact .inr ⟨by omega, hall' b l h5⟩
      rw [e]
      refine k1.sim.later (ht.n_eq hc hz0 (k + 1) (by omega)) fun b l hb => ?_
      rw [ht.nextS k o ho]
      rfl
    · have hLk : L k := h2.resolve_right hkj
      have hks := I.dom k hLk
      have e : ψ.isl E.base (Z k).n (Z (k + 1)).n = φ.isl E.base (Z k).n (Z (k + 1)).n := by
        funext b
        unfold Phi.isl
        split
        · rename_i h4
          refine hψn b ?_
          rcases h4 with h4 | h4
          · omega
          · exact hrange k hks hkj b h4.1 h4.2
        · rfl
      rw [e]
      exact (I.isl k h1 hLk h3).world k1.below.size hold
  · rintro k h1 h2 h3 b l b' l' hb hb' h4 h5 h6
    by_cases hkj : k = j
    · subst hkj
      rw [hψj b ⟨h4, h5⟩] at hb
      have h7 := hnewblk b l hb h4
      rcases hψ b' l' hb' with h8 | ⟨_, h8⟩
      · have := I.blk_lt hc ht h8
        omega
      · exact h8
    · have hLk : L k := h2.resolve_right hkj
      have hks := I.dom k hLk
      rw [hψn b (hrange k hks hkj b h4 h5)] at hb
      rcases hψ b' l' hb' with h8 | ⟨h8, h9, _⟩
      · exact I.sep k h1 hLk h3 b l b' l' hb h8 h4 h5 h6
      · have h10 := I.blk_lt hc ht hb
        have h11 := hnewblk b' l' h8 h9
        omega
  · intro b l hb
    rcases hψ b l hb with h1 | ⟨h1, h3, h4⟩
    · exact I.new b l h1
    · exact .inr ⟨Nat.le_trans (ht.n_mono hc j (Nat.zero_le _) (by omega)) h3, .inl (Nat.le_trans I.below.size (hnewblk b l h1 h3))⟩
  · intro B hB hf
    rw [hold B (Nat.lt_of_lt_of_le hB I.below.size)]
    exact I.frame B hB hf

theorem Inv.step1 (hP : ProgOK E) (hcall : CallGood E N0 call) (hc : CallKeep E call) (ht : Trace E call (Z 0).n ops cs T Z V Z1) (hr : RegOk ops) (hord : aordered ops cs = true)
    (hz0 : (Z 0).n = E.base + (Z 0).h.length) (I : Inv E N0 ops cs T Z V φ0 w0 a0 L m φ a w) {j : Nat} {o : Oper} (ho : ops[j]? = some o) (hj : ¬ L j) (hrdy : ∀ i, ((Region.before ops).getD j 0).testBit i = true → L i)
    (hclosed' : Closed ops (fun k => L k ∨ k = j)) (hdom' : ∀ k, (L k ∨ k = j) → k < ops.size)
    (hreads : ∀ d, d ∈ namesOf ops o → VR (φ.below (Z j).n) (((T j)[d]?).getD undef) (a.tmps[d]?.getD undef)) (hopn : ∀ d, Operand.tmp d ∈ o.op.operands → d ∈ namesOf ops o)
    (hgn : ∀ g b, o.guard = some (g, b) → ∀ d, (ops[g]?).bind (·.dst) = some d → d ∈ namesOf ops o)
    (hrange : ∀ k, k < ops.size → k ≠ j → ∀ b, (Z k).n ≤ b → b < (Z (k + 1)).n → ¬ ((Z j).n ≤ b ∧ b < (Z (j + 1)).n)) (hfree : ∀ b l, (Z j).n ≤ b → b < (Z (j + 1)).n → φ b ≠ some l) {c : Nat} (hcj : cs[j]? = some c) (hc0 : c ≠ 0) (hc4 : c ≠ 4) (hc5 : c ≠ 5) (h2 : cs[j]? ≠ some 2) (h3 : cs[j]? ≠ some 3) {K : Act → World → Prop} {Q : Exit → Act → World → Prop}
    (hK : ∀ m' φ' a' w', Inv E N0 ops cs T Z V φ0 w0 a0 (fun k => L k ∨ k = j) m' φ' a' w' → K a' w') : wpOp E.P ops Q j K a w := by
  have hjs : j < ops.size := (Array.getElem?_eq_some_iff.1 ho).1
  have hstep := ht.step j o ho
  have hcls := ht.cls j o ho
  have hnj : (Z (j + 1)).n = (Z1 j).n := by rw [ht.nextS j o ho]
  have hnle : (Z j).n ≤ (Z (j + 1)).n := ht.n_step hc hjs
  have hlow := ht.low_le1 hjs
  have heval : ∀ d, aeval (T j) (.tmp d) = ((T j)[d]?).getD undef := fun _ => rfl
  have heval' : ∀ d, a.eval (.tmp d) = a.tmps[d]?.getD undef := fun d => by simp [Act.eval, Array.getD_eq_getD_getElem?]
  have hzn := ht.n_eq hc hz0 j (by omega)
  have hsm : Sim E N0 (φ.below (Z m).n) (Z m) w := I.sim m (Nat.le_refl _) (fun k h1 h2 => by omega)
  have hjm : j < m := by
    rcases Nat.lt_trichotomy j m with h | h | h
    · exact h
    · rcases (I.next (h ▸ hjs)).1 with h4 | h4
      · exact absurd (h ▸ h4) h2
      · exact absurd (h ▸ h4) h3
    · have hm := I.next (by omega)
      exact absurd (hrdy m (comparable_lt (wr_spec hord hm.1 hcj hc0 hc4 hc5) h)) hm.2
  have hnoN : ∀ k, j ≤ k → k < m → cs[k]? ≠ some 2 ∧ cs[k]? ≠ some 3 := by
    intro k h4 h5
    have key : ¬ (cs[k]? = some 2 ∨ cs[k]? = some 3) := by
      intro h6
      have hne : k ≠ j := by
        rintro rfl
        rcases h6 with h6 | h6
        · exact h2 h6
        · exact h3 h6
      exact hj (I.closed k (I.done k h5 h6) j (comparable_gt (wr_spec hord h6 hcj hc0 hc4 hc5) (by omega)))
    exact ⟨fun h => key (.inl h), fun h => key (.inr h)⟩
  have hq : (Z j).n ≤ (Z1 j).low := ht.quiet hjs h2 h3
  have hsj := I.sim j (by omega) hnoN
  refine aoper_good hP hcall (hsj.relow (Z j).n) ho (fun d hd => by rw [heval, heval']; exact hreads d (hopn d hd)) (fun g b hg d hd => ⟨_, hreads d (hgn g b hg d hd)⟩) hstep fun φ' w' v' k1 k2 => ?_
  have hold : ∀ B, B < w.heap.size → w'.heap[B]? = w.heap[B]? := by
    intro B hB
    refine k1.frame B hB fun b l hb hl => ?_
    rw [Phi.below_some] at hb
    omega
  have hall' : ∀ b l, φ' b = some l → b < (Z (j + 1)).n := by
    intro b l hb
    rw [hnj]
    exact k1.sim.lt hb
  have hnewblk : ∀ b l, φ' b = some l → (Z j).n ≤ b → w.heap.size ≤ l.blk := by
    intro b l hb h1
    rcases k1.new b l hb with h3 | ⟨_, h3 | ⟨b0, l0, h3, h4, h5⟩⟩
    · have := (Phi.below_some.1 h3).1
      omega
    · exact h3
    · have := (Phi.below_some.1 h3).1
      omega
  let ψ : Phi := fun b => if (Z j).n ≤ b ∧ b < (Z (j + 1)).n then φ' b else φ b
  have hψφ : ∀ b l, φ b = some l → ψ b = some l := by
    intro b l hb
    show (if _ then _ else _) = _
    rw [if_neg (fun h => hfree b l h.1 h.2 hb)]
    exact hb
  have hψn : ∀ b, ¬ ((Z j).n ≤ b ∧ b < (Z (j + 1)).n) → ψ b = φ b := by
    intro b h
    show (if _ then _ else _) = _
    rw [if_neg h]
  have hψj : ∀ b, (Z j).n ≤ b ∧ b < (Z (j + 1)).n → ψ b = φ' b := by
    intro b h
    show (if _ then _ else _) = _
    rw [if_pos h]
  have hψ : ∀ b l, ψ b = some l → φ b = some l ∨ (φ' b = some l ∧ (Z j).n ≤ b ∧ b < (Z (j + 1)).n) := by
    intro b l hb
    by_cases h : (Z j).n ≤ b ∧ b < (Z (j + 1)).n
    · rw [hψj b h] at hb
      exact .inr ⟨hb, h⟩
    · rw [hψn b h] at hb
      exact .inl hb
  have hψφ' : ∀ b l, φ' b = some l → ψ b = some l := by
    intro b l hb
    by_cases h : (Z j).n ≤ b
    · rw [hψj b ⟨h, hall' b l hb⟩]; exact hb
    · rw [hψn b (fun h' => h h'.1)]
      rcases k1.new b l hb with h1 | ⟨h1, _⟩
      · exact (Phi.below_some.1 h1).2
      · exact absurd h1 h
  obtain ⟨t1, t2⟩ := I.tms hr ho hj (ψ := ψ) (v' := v') hψφ (VR.mono (fun b l hb => Phi.below_some.2 ⟨hall' b l hb, hψφ' b l hb⟩) k2)
  refine hK m ψ _ _ ⟨hdom', hclosed', I.mle, fun k h1 h3 => .inl (I.done k h1 h3), fun h => ⟨(I.next h).1, ?_⟩, ?_, ?_, ?_, ?_, ?_, fun b l hb => hψφ b l (I.ext b l hb), by rw [put_size]; exact I.size, (put_defers _ _ _).trans I.defers, t1, t2, ?_, I.below.trans k1.below, ?_⟩
  · rintro (h1 | h1)
    · exact (I.next h).2 h1
    · omega
  · rintro k (h1 | h1) h3 h4 h5
    · exact I.nonP k h1 h3 h4 h5
    · omega
  · intro b l hb
    rcases hψ b l hb with h1 | ⟨h1, h3, h4⟩
    · rcases I.own b l h1 with h5 | ⟨k, h5, h6⟩
      · exact .inl h5
      · exact .inr ⟨k, .inl h5, h6⟩
    · exact .inr ⟨j, .inr rfl, by rw [hcj]; simpa using hc0, h3, h4⟩
  · intro j' h1 h3
    by_cases hjj : j' ≤ j
    · have e : ψ.below (Z j').n = φ.below (Z j').n := by
        funext b
        unfold Phi.below
        split
        · rename_i hb
          have := ht.n_mono hc (j := j') j hjj (by omega)
          exact hψn b (by omega)
        · rfl
      rw [e]
      exact (I.sim j' h1 h3).world k1.below.size hold
    · have hle := ht.n_mono hc (j := j + 1) j' (by omega) (Nat.le_trans h1 I.mle)
      have hm := I.mle
      refine (I.sim j' h1 h3).merge k1.sim hold (fun b l hb => ?_) (fun b l hb => ?_) (fun b l hb => ?_)
      · rw [Phi.below_some] at hb ⊢
        exact ⟨hb.1, hψφ b l hb.2⟩
      · rw [Phi.below_some]
        exact ⟨Nat.lt_of_lt_of_le (hall' b l hb) hle, hψφ' b l hb⟩
      · rw [Phi.below_some] at hb
        rcases hψ b l hb.2 with h4 | ⟨h4, h5, h6⟩
        · exact .inl (Phi.below_some.2 ⟨hb.1, h4⟩)
        · refine .inr ⟨h4, hnewblk b l h4 h5, ?_⟩
          rw [ht.get_chain hc hz0 h6 j' (by omega) (by omega) (fun i h7 h8 => hnoN i (by omega) (by omega)), ht.nextS j o ho]
          rfl
  · rintro k h1 h4 h5
    have hkj : k ≠ j := by omega
    have hLk : L k := h4.resolve_right hkj
    have hks := I.dom k hLk
    have hbz : E.base ≤ (Z j).n := by rw [hzn]; omega
    have e : ψ.isl E.base (Z k).n (Z (k + 1)).n = φ.isl E.base (Z k).n (Z (k + 1)).n := by
      funext b
      unfold Phi.isl
      split
      · rename_i h4
        refine hψn b ?_
        rcases h4 with h4 | h4
        · omega
        · exact hrange k hks hkj b h4.1 h4.2
      · rfl
    rw [e]
    exact (I.isl k h1 hLk h5).world k1.below.size hold
  · rintro k h1 h8 h9 b l b' l' hb hb' h4 h5 h6
    have hkj : k ≠ j := by omega
    have hLk : L k := h8.resolve_right hkj
    have hks := I.dom k hLk
    rw [hψn b (hrange k hks hkj b h4 h5)] at hb
    rcases hψ b' l' hb' with h8 | ⟨h8, h10, _⟩
    · exact I.sep k h1 hLk h9 b l b' l' hb h8 h4 h5 h6
    · have h10 := I.blk_lt hc ht hb
      have h11 := hnewblk b' l' h8 (by assumption)
      omega
  · intro b l hb
    rcases hψ b l hb with h1 | ⟨h1, h3, h4⟩
    · exact I.new b l h1
    · exact .inr ⟨Nat.le_trans (ht.n_mono hc j (Nat.zero_le _) (by omega)) h3, .inl (Nat.le_trans I.below.size (hnewblk b l h1 h3))⟩
  · intro B hB hf
    rw [hold B (Nat.lt_of_lt_of_le hB I.below.size)]
    exact I.frame B hB hf

theorem Inv.step2 (hP : ProgOK E) (hcall : CallGood E N0 call) (hc : CallKeep E call) (ht : Trace E call (Z 0).n ops cs T Z V Z1) (hr : RegOk ops) (hord : aordered ops cs = true)
    (hz0 : (Z 0).n = E.base + (Z 0).h.length) (I : Inv E N0 ops cs T Z V φ0 w0 a0 L m φ a w) {j : Nat} {o : Oper} (ho : ops[j]? = some o) (hj : ¬ L j) (hrdy : ∀ i, ((Region.before ops).getD j 0).testBit i = true → L i)
    (hclosed' : Closed ops (fun k => L k ∨ k = j)) (hdom' : ∀ k, (L k ∨ k = j) → k < ops.size)
    (hreads : ∀ d, d ∈ namesOf ops o → VR (φ.below (Z j).n) (((T j)[d]?).getD undef) (a.tmps[d]?.getD undef)) (hopn : ∀ d, Operand.tmp d ∈ o.op.operands → d ∈ namesOf ops o)
    (hgn : ∀ g b, o.guard = some (g, b) → ∀ d, (ops[g]?).bind (·.dst) = some d → d ∈ namesOf ops o)
    (hrange : ∀ k, k < ops.size → k ≠ j → ∀ b, (Z k).n ≤ b → b < (Z (k + 1)).n → ¬ ((Z j).n ≤ b ∧ b < (Z (j + 1)).n)) (hfree : ∀ b l, (Z j).n ≤ b → b < (Z (j + 1)).n → φ b ≠ some l) (h2 : cs[j]? = some 2) {K : Act → World → Prop} {Q : Exit → Act → World → Prop}
    (hK : ∀ m' φ' a' w', Inv E N0 ops cs T Z V φ0 w0 a0 (fun k => L k ∨ k = j) m' φ' a' w' → K a' w') : wpOp E.P ops Q j K a w := by
  have hjs : j < ops.size := (Array.getElem?_eq_some_iff.1 ho).1
  have hstep := ht.step j o ho
  have hcls := ht.cls j o ho
  have hnj : (Z (j + 1)).n = (Z1 j).n := by rw [ht.nextS j o ho]
  have hnle : (Z j).n ≤ (Z (j + 1)).n := ht.n_step hc hjs
  have hlow := ht.low_le1 hjs
  have heval : ∀ d, aeval (T j) (.tmp d) = ((T j)[d]?).getD undef := fun _ => rfl
  have heval' : ∀ d, a.eval (.tmp d) = a.tmps[d]?.getD undef := fun d => by simp [Act.eval, Array.getD_eq_getD_getElem?]
  have hzn := ht.n_eq hc hz0 j (by omega)
  have hsm : Sim E N0 (φ.below (Z m).n) (Z m) w := I.sim m (Nat.le_refl _) (fun k h1 h2 => by omega)
  have nonP2 : ∀ k, L k → cs[k]? ≠ some 0 → ∀ m', m' < ops.size → cs[m']? = some 2 → ¬ L m' → k < m' := by
    intro k h1 h3 m' h4 h5 h6
    rcases Nat.lt_trichotomy k m' with h | h | h
    · exact h
    · exact absurd (h ▸ h1) h6
    · obtain ⟨o', ho'⟩ := op_at (I.dom k h1)
      have hk := ht.cls k o' ho'
      exact absurd (I.closed k h1 m' (comparable_lt (aordered_spec hord h5 hk (fun he => h3 (by rw [hk, he]))) h)) h6
  have hjm' : j = m := by
    rcases Nat.lt_trichotomy j m with h1 | h1 | h1
    · exact absurd (I.done j h1 (.inl h2)) hj
    · exact h1
    · have hm := I.next (by omega)
      exact absurd (hrdy m (comparable_lt (by
        rcases hm.1 with h4 | h4
        · exact aordered_spec hord h4 h2 (by decide)
        · exact aordered_spec3 hord h4 h2 (by decide) (by decide) (by decide)) h1)) hm.2
  subst hjm'
  have hall : ∀ b l, φ b = some l → b < (Z j).n := by
    intro b l hb
    rcases I.own b l hb with h1 | ⟨k, h1, h3, h4, h5⟩
    · exact Nat.lt_of_lt_of_le h1 (ht.n_mono hc j (Nat.zero_le _) (by omega))
    · have := nonP2 k h1 h3 j hjs h2 hj
      exact Nat.lt_of_lt_of_le h5 (ht.n_mono hc j (by omega) (by omega))
  have hbl : φ.below (Z j).n = φ := Phi.below_all hall
  rw [hbl] at hsm
  refine aoper_good hP hcall (hsm.relow (Z j).n) ho (fun d hd => ?_) (fun g b hg d hd => ⟨_, hreads d (hgn g b hg d hd)⟩) hstep fun φ' w' v' k1 k2 => ?_
  · rw [heval, heval']
    have := hreads d (hopn d hd)
    rwa [hbl] at this
  · have hall' : ∀ b l, φ' b = some l → b < (Z (j + 1)).n := by
      intro b l hb
      rw [hnj]
      exact k1.sim.lt hb
    have hbl' : φ'.below (Z (j + 1)).n = φ' := Phi.below_all hall'
    obtain ⟨m', q1, q2, q3, q4⟩ := next_writer cs ops.size j hjs
    obtain ⟨t1, t2⟩ := I.tms hr ho hj (ψ := φ') (v' := v') k1.ext (by rw [hbl']; exact k2)
    have hnoisl : ∀ k, m' ≤ k → (L k ∨ k = j) → cs[k]? = some 4 → False := by
      rintro k h1 (h3 | h3) h4
      · have := nonP2 k h3 (by rw [h4]; decide) j hjs h2 hj
        omega
      · omega
    refine hK m' φ' _ _ ⟨hdom', hclosed', q2, ?_, ?_, ?_, ?_, ?_, fun k h1 h3 h4 => (hnoisl k h1 h3 h4).elim, fun k h1 h3 h4 => (hnoisl k h1 h3 h4).elim, fun b l hb => k1.ext b l (I.ext b l hb), by rw [put_size]; exact I.size, (put_defers _ _ _).trans I.defers, t1, t2, ?_, I.below.trans k1.below, ?_⟩
    · intro k h1 h3
      by_cases hk : k = j
      · exact .inr hk
      · by_cases hkj : k < j
        · exact .inl (I.done k hkj h3)
        · have := q3 k (by omega) h1
          rcases h3 with h3 | h3
          · exact absurd h3 this.1
          · exact absurd h3 this.2
    · intro h
      refine ⟨q4 h, ?_⟩
      rintro (h1 | h1)
      · have := nonP2 m' h1 (by rcases q4 h with h3 | h3 <;> rw [h3] <;> decide) j hjs h2 hj
        omega
      · omega
    · rintro k (h1 | h1) h3 h4 h5
      · have := I.nonP k h1 h3 h4 h5
        omega
      · omega
    · intro b l hb
      rcases k1.new b l hb with h1 | ⟨h1, _⟩
      · rcases I.own b l h1 with h3 | ⟨k, h3, h4⟩
        · exact .inl h3
        · exact .inr ⟨k, .inl h3, h4⟩
      · exact .inr ⟨j, .inr rfl, by rw [h2]; decide, h1, hall' b l hb⟩
    · intro j' h1 h3
      have hjj' : j < j' := by
        rcases Nat.lt_or_ge j j' with h4 | h4
        · exact h4
        · exact absurd h2 (h3 j h4 q1).1
      have e : φ'.below (Z j').n = φ' := Phi.below_all fun b l hb => Nat.lt_of_lt_of_le (hall' b l hb) (ht.n_mono hc j' (by omega) (by omega))
      rw [e]
      refine k1.sim.later (ht.n_eq hc hz0 j' (by omega)) fun b l hb => ?_
      rw [ht.get_chain hc hz0 (hall' b l hb) j' (by omega) (by omega) (fun i h4 h5 => q3 i (by omega) (by omega)), ht.nextS j o ho]
      rfl
    · intro b l hb
      rcases k1.new b l hb with h1 | ⟨h1, h3⟩
      · exact I.new b l h1
      · refine .inr ⟨Nat.le_trans (ht.n_mono hc j (Nat.zero_le _) (by omega)) h1, ?_⟩
        rcases h3 with h3 | ⟨b0, l0, h3, h4, h5⟩
        · exact .inl (Nat.le_trans I.below.size h3)
        · rcases I.new b0 l0 h3 with h6 | ⟨_, h6 | ⟨b1, l1, h6, h7, h8⟩⟩
          · exact .inr ⟨b0, l0, h6, Nat.le_trans hlow h4, h5⟩
          · exact .inl (by omega)
          · exact .inr ⟨b1, l1, h6, h7, h8.trans h5⟩
    · intro B hB hf
      rw [k1.frame B (Nat.lt_of_lt_of_le hB I.below.size) ?_]
      · exact I.frame B hB hf
      · intro b l hb hl
        rcases I.new b l hb with h1 | ⟨_, h1 | ⟨b0, l0, h1, h3, h4⟩⟩
        · exact hf b l h1 (Nat.le_trans hlow hl)
        · omega
        · exact h4 ▸ hf b0 l0 h1 h3

theorem Inv.step3 (hP : ProgOK E) (hcall : CallGood E N0 call) (hc : CallKeep E call) (ht : Trace E call (Z 0).n ops cs T Z V Z1) (hr : RegOk ops) (hord : aordered ops cs = true)
    (hz0 : (Z 0).n = E.base + (Z 0).h.length) (I : Inv E N0 ops cs T Z V φ0 w0 a0 L m φ a w) {j : Nat} {o : Oper} (ho : ops[j]? = some o) (hj : ¬ L j) (hrdy : ∀ i, ((Region.before ops).getD j 0).testBit i = true → L i)
    (hclosed' : Closed ops (fun k => L k ∨ k = j)) (hdom' : ∀ k, (L k ∨ k = j) → k < ops.size)
    (hreads : ∀ d, d ∈ namesOf ops o → VR (φ.below (Z j).n) (((T j)[d]?).getD undef) (a.tmps[d]?.getD undef)) (hopn : ∀ d, Operand.tmp d ∈ o.op.operands → d ∈ namesOf ops o)
    (hgn : ∀ g b, o.guard = some (g, b) → ∀ d, (ops[g]?).bind (·.dst) = some d → d ∈ namesOf ops o)
    (hrange : ∀ k, k < ops.size → k ≠ j → ∀ b, (Z k).n ≤ b → b < (Z (k + 1)).n → ¬ ((Z j).n ≤ b ∧ b < (Z (j + 1)).n)) (hfree : ∀ b l, (Z j).n ≤ b → b < (Z (j + 1)).n → φ b ≠ some l) (h2 : cs[j]? = some 3) {K : Act → World → Prop} {Q : Exit → Act → World → Prop}
    (hK : ∀ m' φ' a' w', Inv E N0 ops cs T Z V φ0 w0 a0 (fun k => L k ∨ k = j) m' φ' a' w' → K a' w') : wpOp E.P ops Q j K a w := by
  have hjs : j < ops.size := (Array.getElem?_eq_some_iff.1 ho).1
  have hstep := ht.step j o ho
  have hcls := ht.cls j o ho
  have hnj : (Z (j + 1)).n = (Z1 j).n := by rw [ht.nextS j o ho]
  have hnle : (Z j).n ≤ (Z (j + 1)).n := ht.n_step hc hjs
  have hlow := ht.low_le1 hjs
  have heval : ∀ d, aeval (T j) (.tmp d) = ((T j)[d]?).getD undef := fun _ => rfl
  have heval' : ∀ d, a.eval (.tmp d) = a.tmps[d]?.getD undef := fun d => by simp [Act.eval, Array.getD_eq_getD_getElem?]
  have hzn := ht.n_eq hc hz0 j (by omega)
  have hsm : Sim E N0 (φ.below (Z m).n) (Z m) w := I.sim m (Nat.le_refl _) (fun k h1 h2 => by omega)
  have hjm' : j = m := by
    rcases Nat.lt_trichotomy j m with h1 | h1 | h1
    · exact absurd (I.done j h1 (.inr h2)) hj
    · exact h1
    · have hm := I.next (by omega)
      exact absurd (hrdy m (comparable_lt (wr_spec hord hm.1 h2 (by decide) (by decide) (by decide)) h1)) hm.2
  subst hjm'
  refine aoper_good hP hcall (hsm.relow (Z j).n) ho (fun d hd => by rw [heval, heval']; exact hreads d (hopn d hd)) (fun g b hg d hd => ⟨_, hreads d (hgn g b hg d hd)⟩) hstep fun φ' w' v' k1 k2 => ?_
  have hall' : ∀ b l, φ' b = some l → b < (Z (j + 1)).n := by
    intro b l hb
    rw [hnj]
    exact k1.sim.lt hb
  have hnew' : ∀ b l, φ' b = some l → φ b = some l ∧ b < (Z j).n ∨ ((Z j).n ≤ b ∧ (w.heap.size ≤ l.blk ∨ ∃ b0 l0, φ b0 = some l0 ∧ b0 < (Z j).n ∧ (Z1 j).low ≤ b0 ∧ l0.blk = l.blk)) := by
    intro b l hb
    rcases k1.new b l hb with h1 | ⟨h1, h3 | ⟨b0, l0, h3, h4, h5⟩⟩
    · exact .inl ⟨(Phi.below_some.1 h1).2, (Phi.below_some.1 h1).1⟩
    · exact .inr ⟨h1, .inl h3⟩
    · exact .inr ⟨h1, .inr ⟨b0, l0, (Phi.below_some.1 h3).2, (Phi.below_some.1 h3).1, h4, h5⟩⟩
  let ψ : Phi := fun b => if b < (Z (j + 1)).n then φ' b else φ b
  have hψl : ∀ b, b < (Z (j + 1)).n → ψ b = φ' b := by
    intro b h
    show (if _ then _ else _) = _
    rw [if_pos h]
  have hψr : ∀ b, ¬ b < (Z (j + 1)).n → ψ b = φ b := by
    intro b h
    show (if _ then _ else _) = _
    rw [if_neg h]
  have hψφ : ∀ b l, φ b = some l → ψ b = some l := by
    intro b l hb
    by_cases h : b < (Z (j + 1)).n
    · rw [hψl b h]
      have : b < (Z j).n := by
        rcases Nat.lt_or_ge b (Z j).n with h1 | h1
        · exact h1
        · exact absurd hb (hfree b l h1 h)
      exact k1.ext b l (Phi.below_some.2 ⟨this, hb⟩)
    · rw [hψr b h]; exact hb
  have hψφ' : ∀ b l, φ' b = some l → ψ b = some l := by
    intro b l hb
    rw [hψl b (hall' b l hb)]; exact hb
  have hψ : ∀ b l, ψ b = some l → (φ' b = some l ∧ b < (Z (j + 1)).n) ∨ (φ b = some l ∧ (Z (j + 1)).n ≤ b) := by
    intro b l hb
    by_cases h : b < (Z (j + 1)).n
    · rw [hψl b h] at hb; exact .inl ⟨hb, h⟩
    · rw [hψr b h] at hb; exact .inr ⟨hb, by omega⟩
  obtain ⟨m', q1, q2, q3, q4⟩ := next_writer cs ops.size j hjs
  -- who is mapped behind it
  have hbehind : ∀ b l, φ b = some l → (Z (j + 1)).n ≤ b → ∃ k, j < k ∧ L k ∧ cs[k]? = some 4 ∧ (Z k).n ≤ b ∧ b < (Z (k + 1)).n := by
    intro b l hb h1
    rcases I.own b l hb with h3 | ⟨k, h3, h4, h5, h6⟩
    · have := ht.n_mono hc (j + 1) (Nat.zero_le _) (by omega)
      omega
    · have hks := I.dom k h3
      have hjk : j < k := by
        rcases Nat.lt_trichotomy j k with h | h | h
        · exact h
        · exact absurd (h ▸ h3) hj
        · have := ht.n_mono hc (j := k + 1) (j + 1) (by omega) (by omega)
          omega
      refine ⟨k, hjk, h3, ?_, h5, h6⟩
      by_cases h7 : cs[k]? = some 4
      · exact h7
      · by_cases h8 : cs[k]? = some 5
        · exfalso
          obtain ⟨o', ho'⟩ := op_at hks
          rw [ht.cls k o' ho'] at h8
          have := (aclsD_five (Option.some.inj h8)).2.2.1
          rw [ht.nextS k o' ho'] at h6
          simp only at h6
          omega
        · have := I.nonP k h3 h4 h7 h8
          omega
  have hgl : ∀ g x, E.glob g = some x → w'.heap[g]? = w.heap[g]? := fun g x hg => k1.below.block g (hsm.gN0 g x hg)
  have hkn : ∀ k, j < k → k < ops.size → (Z (j + 1)).n ≤ (Z k).n := fun k h1 h3 => ht.n_mono hc k (by omega) (by omega)
  -- the islands behind it, in the new world
  have hisl : ∀ k, j < k → L k → cs[k]? = some 4 → Sim E N0 (φ.isl E.base (Z k).n (Z (k + 1)).n) (Z (k + 1)) w' := by
    intro k h1 h3 h4
    have hS := I.isl k (by omega) h3 h4
    refine hS.frame k1.below.size (fun b l hb => ?_) hgl
    rw [Phi.isl_some] at hb
    rcases hb with ⟨h5 | h5, h6⟩
    · obtain ⟨x, hx, hx2⟩ := hS.blk b l (Phi.isl_some.2 ⟨.inl h5, h6⟩)
      have hgx : E.glob b = some x := by simpa [St.get, h5] using hx
      obtain ⟨_, c, e, fz, rfl, _⟩ := hS.glob.out b x hgx
      have h7 := (Phi.isl_some.1 (hS.gphi b c e none hgx)).2
      rw [h6] at h7
      cases h7
      exact hgl b _ hgx
    · refine k1.frame _ (I.blk_lt hc ht h6) fun b' l' hb' _ he => ?_
      rw [Phi.below_some] at hb'
      have := (I.sep k (by omega) h3 h4 b l b' l' h6 hb'.2 h5.1 h5.2 he).1
      have := hkn k h1 (I.dom k h3)
      omega
  have hsep : ∀ k, j < k → L k → cs[k]? = some 4 → ∀ b l b' l', ψ b = some l → ψ b' = some l' → (Z k).n ≤ b → b < (Z (k + 1)).n → l'.blk = l.blk → (Z k).n ≤ b' ∧ b' < (Z (k + 1)).n := by
    intro k h1 h3 h4 b l b' l' hb hb' h5 h6 h7
    have hge := hkn k h1 (I.dom k h3)
    rw [hψr b (by omega)] at hb
    rcases hψ b' l' hb' with ⟨h8, h9⟩ | ⟨h8, h9⟩
    · rcases hnew' b' l' h8 with ⟨h10, h11⟩ | ⟨h10, h11 | ⟨b0, l0, h11, h12, h13, h14⟩⟩
      · exact I.sep k (by omega) h3 h4 b l b' l' hb h10 h5 h6 h7
      · have := I.blk_lt hc ht hb
        omega
      · have := (I.sep k (by omega) h3 h4 b l b0 l0 hb h11 h5 h6 (h14.trans h7)).1
        omega
    · exact I.sep k (by omega) h3 h4 b l b' l' hb h8 h5 h6 h7
  obtain ⟨t1, t2⟩ := I.tms hr ho hj (ψ := ψ) (v' := v') hψφ (VR.mono (fun b l hb => Phi.below_some.2 ⟨hall' b l hb, hψφ' b l hb⟩) k2)
  have hbz : E.base ≤ (Z j).n := by rw [hzn]; omega
  have hψisl : ∀ k, j < k → k < ops.size → ψ.isl E.base (Z k).n (Z (k + 1)).n = φ.isl E.base (Z k).n (Z (k + 1)).n := by
    intro k h1 h3
    have hge := hkn k h1 h3
    funext b
    apply Option.ext
    intro l
    rw [Phi.isl_some, Phi.isl_some]
    constructor
    · rintro ⟨h4, h5⟩
      refine ⟨h4, ?_⟩
      rcases hψ b l h5 with ⟨h6, h7⟩ | ⟨h6, _⟩
      · rcases hnew' b l h6 with ⟨h8, _⟩ | ⟨h8, _⟩
        · exact h8
        · omega
      · exact h6
    · rintro ⟨h4, h5⟩
      exact ⟨h4, hψφ b l h5⟩
  refine hK m' ψ _ _ ⟨hdom', hclosed', q2, ?_, ?_, ?_, ?_, ?_, ?_, ?_, fun b l hb => hψφ b l (I.ext b l hb), by rw [put_size]; exact I.size, (put_defers _ _ _).trans I.defers, t1, t2, ?_, I.below.trans k1.below, ?_⟩
  · intro k h1 h3
    by_cases hk : k = j
    · exact .inr hk
    · by_cases hkj : k < j
      · exact .inl (I.done k hkj h3)
      · have := q3 k (by omega) h1
        rcases h3 with h3 | h3
        · exact absurd h3 this.1
        · exact absurd h3 this.2
  · intro h
    refine ⟨q4 h, ?_⟩
    rintro (h1 | h1)
    · have := I.nonP m' h1 (by rcases q4 h with h3 | h3 <;> rw [h3] <;> decide) (by rcases q4 h with h3 | h3 <;> rw [h3] <;> decide) (by rcases q4 h with h3 | h3 <;> rw [h3] <;> decide)
      omega
    · omega
  · rintro k (h1 | h1) h3 h4 h5
    · have := I.nonP k h1 h3 h4 h5
      omega
    · omega
  · intro b l hb
    rcases hψ b l hb with ⟨h1, h3⟩ | ⟨h1, h3⟩
    · rcases hnew' b l h1 with ⟨h4, _⟩ | ⟨h4, _⟩
      · rcases I.own b l h4 with h5 | ⟨k, h5, h6⟩
        · exact .inl h5
        · exact .inr ⟨k, .inl h5, h6⟩
      · exact .inr ⟨j, .inr rfl, by rw [h2]; decide, h4, h3⟩
    · rcases I.own b l h1 with h5 | ⟨k, h5, h6⟩
      · exact .inl h5
      · exact .inr ⟨k, .inl h5, h6⟩
  · intro j' h1 h3
    have hjj' : j < j' := by
      rcases Nat.lt_or_ge j j' with h4 | h4
      · exact h4
      · exact absurd h2 (h3 j h4 q1).2
    have hjs' : j' ≤ ops.size := by omega
    have hle := ht.n_mono hc (j := j + 1) j' (by omega) hjs'
    have hA : Sim E N0 φ' (Z j') w' := by
      refine k1.sim.later (ht.n_eq hc hz0 j' (by omega)) fun b l hb => ?_
      rw [ht.get_chain hc hz0 (hall' b l hb) j' (by omega) (by omega) (fun i h4 h5 => q3 i (by omega) (by omega)), ht.nextS j o ho]
      rfl
    refine hA.union (fun b l hb => Phi.below_some.2 ⟨Nat.lt_of_lt_of_le (hall' b l hb) hle, hψφ' b l hb⟩) fun b l hb => ?_
    obtain ⟨hb1, hb2⟩ := Phi.below_some.1 hb
    rcases hψ b l hb2 with ⟨h4, _⟩ | ⟨h4, h5⟩
    · exact .inl h4
    · right
      obtain ⟨k, r1, r2, r3, r4, r5⟩ := hbehind b l h4 h5
      have hks := I.dom k r2
      have hkj' : k + 1 ≤ j' := by
        rcases Nat.lt_or_ge k j' with h | h
        · exact h
        · have := ht.n_mono hc (j := j') k h (by omega)
          omega
      have hget : ∀ b', b' < (Z (k + 1)).n → (Z j').get E b' = (Z (k + 1)).get E b' := fun b' hb' =>
        ht.get_chain hc hz0 hb' j' hkj' hjs' (fun i h6 h7 => q3 i (by omega) (by omega))
      refine ⟨φ.isl E.base (Z k).n (Z (k + 1)).n, Z (k + 1), hisl k r1 r2 r3, Phi.isl_some.2 ⟨.inr ⟨r4, r5⟩, h4⟩, fun b' l' hb' => ?_, hget b r5, fun b' l' hb' hne heq => ?_⟩
      · obtain ⟨h6, h7⟩ := Phi.isl_some.1 hb'
        have hn1 := ht.n_mono hc (j := k + 1) j' hkj' hjs'
        have hn2 := ht.n_mono hc j' (Nat.zero_le _) hjs'
        refine Phi.below_some.2 ⟨?_, hψφ b' l' h7⟩
        rcases h6 with h6 | h6 <;> omega
      · obtain ⟨_, h7⟩ := Phi.below_some.1 hb'
        have h8 := hsep k r1 r2 r3 b l b' l' hb2 h7 r4 r5 heq
        rw [hψr b' (by have := hkn k r1 hks; omega)] at h7
        exact ⟨Phi.isl_some.2 ⟨.inr h8, h7⟩, hget b' h8.2⟩
  · rintro k h1 (h3 | h3) h4
    · rw [hψisl k (by omega) (I.dom k h3)]
      exact hisl k (by omega) h3 h4
    · omega
  · rintro k h1 (h3 | h3) h4
    · exact hsep k (by omega) h3 h4
    · omega
  · intro b l hb
    rcases hψ b l hb with ⟨h1, h3⟩ | ⟨h1, h3⟩
    · rcases hnew' b l h1 with ⟨h4, _⟩ | ⟨h4, h5⟩
      · exact I.new b l h4
      · refine .inr ⟨Nat.le_trans (ht.n_mono hc j (Nat.zero_le _) (by omega)) h4, ?_⟩
        rcases h5 with h5 | ⟨b0, l0, h5, _, h6, h7⟩
        · exact .inl (Nat.le_trans I.below.size h5)
        · rcases I.new b0 l0 h5 with h8 | ⟨_, h8 | ⟨b1, l1, h8, h9, h10⟩⟩
          · exact .inr ⟨b0, l0, h8, Nat.le_trans hlow h6, h7⟩
          · exact .inl (by omega)
          · exact .inr ⟨b1, l1, h8, h9, h10.trans h7⟩
    · exact I.new b l h1
  · intro B hB hf
    rw [k1.frame B (Nat.lt_of_lt_of_le hB I.below.size) ?_]
    · exact I.frame B hB hf
    · intro b l hb hl
      obtain ⟨_, hb⟩ := Phi.below_some.1 hb
      rcases I.new b l hb with h1 | ⟨_, h1 | ⟨b0, l0, h1, h3, h4⟩⟩
      · exact hf b l h1 (Nat.le_trans hlow hl)
      · omega
      · exact h4 ▸ hf b0 l0 h1 h3

/-- One operation more. -/
theorem Inv.step (hP : ProgOK E) (hcall : CallGood E N0 call) (hc : CallKeep E call) (ht : Trace E call (Z 0).n ops cs T Z V Z1) (hr : RegOk ops) (hord : aordered ops cs = true)
    (hz0 : (Z 0).n = E.base + (Z 0).h.length) (h0 : ∀ b l, φ0 b = some l → b < (Z 0).n) (I : Inv E N0 ops cs T Z V φ0 w0 a0 L m φ a w)
    {j : Nat} {o : Oper} (ho : ops[j]? = some o) (hj : ¬ L j) (hrdy : ∀ i, ((Region.before ops).getD j 0).testBit i = true → L i) {K : Act → World → Prop} {Q : Exit → Act → World → Prop}
    (hK : ∀ m' φ' a' w', Inv E N0 ops cs T Z V φ0 w0 a0 (fun k => L k ∨ k = j) m' φ' a' w' → K a' w') : wpOp E.P ops Q j K a w := by
  have hjs : j < ops.size := (Array.getElem?_eq_some_iff.1 ho).1
  have hreads := fun {d : Nat} (hd : d ∈ namesOf ops o) => I.reads hc ht hr h0 ho hj hrdy hd
  have hopn : ∀ d, Operand.tmp d ∈ o.op.operands → d ∈ namesOf ops o := by
    intro d hd
    unfold namesOf Oper.looksAt
    simp only [List.mem_append, List.mem_filterMap]
    exact .inr (.inl ⟨.tmp d, by simpa using hd, rfl⟩)
  have hgn : ∀ g b, o.guard = some (g, b) → ∀ d, (ops[g]?).bind (·.dst) = some d → d ∈ namesOf ops o := by
    intro g b hg d hd
    unfold namesOf Oper.looksAt
    simp only [List.mem_append, hg, hd, Option.toList_some, List.mem_singleton]
    exact .inr (.inr trivial)
  have hclosed' : Closed ops (fun k => L k ∨ k = j) := by
    intro k hk i hi
    rcases hk with hk | hk
    · exact .inl (I.closed k hk i hi)
    · subst hk; exact .inl (hrdy i hi)
  have hdom' : ∀ k, (L k ∨ k = j) → k < ops.size := by
    rintro k (hk | hk)
    · exact I.dom k hk
    · omega
  have hstep := ht.step j o ho
  have hcls := ht.cls j o ho
  have hnj : (Z (j + 1)).n = (Z1 j).n := by rw [ht.nextS j o ho]
  have hnle : (Z j).n ≤ (Z (j + 1)).n := ht.n_step hc hjs
  have hlow := ht.low_le1 hjs
  have heval : ∀ d, aeval (T j) (.tmp d) = ((T j)[d]?).getD undef := fun _ => rfl
  have heval' : ∀ d, a.eval (.tmp d) = a.tmps[d]?.getD undef := fun d => by simp [Act.eval, Array.getD_eq_getD_getElem?]
  have hzn := ht.n_eq hc hz0 j (by omega)
  -- the sims
  have hsm : Sim E N0 (φ.below (Z m).n) (Z m) w := I.sim m (Nat.le_refl _) (fun k h1 h2 => by omega)
  have hsg : Sim E N0 (φ.below E.base) ⟨(Z j).n, (Z j).h, (Z j).n⟩ w := by
    have := (hsm.globOnly (S' := ⟨(Z j).n, (Z j).h, (Z j).n⟩) hzn)
    have e : (φ.below (Z m).n).below E.base = φ.below E.base := by
      have hb : E.base ≤ (Z m).n := by rw [ht.n_eq hc hz0 m I.mle]; omega
      funext b
      unfold Phi.below
      split
      · rw [if_pos (by omega)]
      · rfl
    rw [e] at this
    exact this
  have hpfops : allPf (aeval (T j)) o = true → ∀ d, Operand.tmp d ∈ o.op.operands → VR (φ.below E.base) (aeval (T j) (.tmp d)) (a.eval (.tmp d)) := by
    intro p2 d hd
    have hv := hreads (hopn d hd)
    have hpf : pf (aeval (T j) (.tmp d)) = true := by
      unfold allPf at p2
      exact List.all_eq_true.1 p2 (.tmp d) (by simpa using hd)
    rw [heval']
    rw [heval] at hpf ⊢
    rw [VR.eq_of_pf hv hpf]
    exact VR.of_pf _ _ hpf
  have hrange : ∀ k, k < ops.size → k ≠ j → ∀ b, (Z k).n ≤ b → b < (Z (k + 1)).n → ¬ ((Z j).n ≤ b ∧ b < (Z (j + 1)).n) := by
    rintro k hk hne b h1 h2 ⟨h3, h4⟩
    rcases Nat.lt_or_ge k j with h | h
    · have := ht.n_mono hc (j := k + 1) j (by omega) (by omega)
      omega
    · have := ht.n_mono hc (j := j + 1) k (by omega) (by omega)
      omega
  -- nothing of this operation's was mapped
  have hfree : ∀ b l, (Z j).n ≤ b → b < (Z (j + 1)).n → φ b ≠ some l := by
    intro b l h1 h3 hb
    rcases I.own b l hb with h4 | ⟨k, h4, h5, h6, h7⟩
    · have := ht.n_mono hc j (Nat.zero_le _) (by omega)
      omega
    · exact hrange k (I.dom k h4) (fun he => hj (he ▸ h4)) b h6 h7 ⟨h1, h3⟩
  by_cases hP0 : cs[j]? = some 0
  · -- it did nothing to memory
    have hz : aclsD E (Z 0).n ops o (T j) (V j) (Z j) (Z1 j) = 0 := by
      rw [hcls] at hP0
      exact Option.some.inj hP0
    obtain ⟨p1, p2, p3⟩ := aclsD_zero hz
    rcases p2 with ⟨p2, p4⟩ | p2
    · refine aoper_good hP hcall hsg ho (hpfops p2) (fun g b hg d hd => ⟨_, hreads (hgn g b hg d hd)⟩) hstep fun φ' w' v' k1 k2 => ?_
      have hvv : v' = V j := VR.eq_of_pf k2 p4
      subst hvv
      have hold : ∀ B, B < w.heap.size → w'.heap[B]? = w.heap[B]? := by
        intro B hB
        refine k1.frame B hB fun b l hb hl => ?_
        rw [Phi.below_some] at hb
        have := hsg.lt (Phi.below_some.2 hb)
        simp only at this
        omega
      exact hK m φ _ _ (I.more hc ht hr ho hj hclosed' (.inl hP0) (VR.of_pf _ _ p4) k1.below.size hold k1.below)
    · -- it looks at its operands alone
      have hsame : (Z (j + 1)).n = (Z j).n := by rw [hnj, p3]
      unfold wpOp
      simp only [ho]
      have hw : Region.wanted o (yielded ops a.tmps) = Region.wanted o (ayielded ops (T j)) := wanted_eq fun g b hgu => yielded_eq g fun d hd => ⟨_, hreads (hgn g b hgu d hd)⟩
      rw [hw]
      unfold aoper at hstep
      split at hstep
      · rename_i hwa
        rw [if_pos hwa]
        left
        have hind : (aindep E (aeval (T j)) o).isSome = true := by
          unfold astill at p2
          rw [hwa] at p2
          simpa using p2
        obtain ⟨v, hv⟩ := Option.isSome_iff_exists.1 hind
        split at hstep
        · rename_i hok
          rw [aindep_aop hv] at hstep
          simp only [Option.some.injEq, Prod.mk.injEq] at hstep
          obtain ⟨hvj, _⟩ := hstep
          have hρ : ∀ x ∈ o.op.operands, VR (φ.below (Z j).n) (aeval (T j) x) (a.eval x) := by
            intro x hx
            cases x with
            | tmp d => rw [heval, heval']; exact hreads (hopn d hx)
            | const c =>
              unfold opOk at hok
              exact VR.of_pf _ _ (List.all_eq_true.1 hok (.const c) (by simpa using hx))
            | global g =>
              unfold opOk at hok
              have hg := List.all_eq_true.1 hok (.global g) (by simpa using hx)
              simp only [constOk] at hg
              obtain ⟨x, hx2⟩ := Option.isSome_iff_exists.1 hg
              obtain ⟨q1, c, e, fz, rfl, _⟩ := hsm.glob.out g x hx2
              have q2 := (Phi.below_some.1 (hsm.gphi g c e _ hx2)).2
              have hbz : E.base ≤ (Z j).n := by rw [hzn]; omega
              have := @VR.ptr (φ.below (Z j).n) g 0 ⟨g, 0, c.length, E.P.cellsOf e⟩ (Phi.below_some.2 ⟨by omega, q2⟩)
              exact this
            | func f => exact VR.of_pf _ _ rfl
          obtain ⟨v', r1, r2⟩ := aindep_good hv hρ w
          unfold Oper.wp
          rw [r1]
          refine hK m φ _ _ (I.more hc ht hr ho hj hclosed' (.inl hP0) ?_ (Nat.le_refl _) (fun _ _ => rfl) (Below.refl _ _))
          rw [← hvj, hsame]
          exact r2
        · cases hstep
      · rename_i hwa
        simp only [Option.some.injEq, Prod.mk.injEq] at hstep
        rw [if_neg hwa]
        refine hK m φ _ _ (I.more hc ht hr ho hj hclosed' (.inl hP0) ?_ (Nat.le_refl _) (fun _ _ => rfl) (Below.refl _ _))
        rw [← hstep.1]
        exact VR.undef
  · by_cases hP5 : cs[j]? = some 5
    · -- it reads something free
      have hz : aclsD E (Z 0).n ops o (T j) (V j) (Z j) (Z1 j) = 5 := by
        rw [hcls] at hP5
        exact Option.some.inj hP5
      obtain ⟨p1, p2, p3, p4⟩ := aclsD_five hz
      have hno : ∀ k, (j ≤ k ∧ k < m) ∨ (m ≤ k ∧ k < j) → cs[k]? ≠ some 2 := by
        rintro k (⟨h1, h2⟩ | ⟨h1, h2⟩) h3
        · have hcmp := aordered_spec hord h3 hP5 (by decide)
          have hne : k ≠ j := fun he => by rw [he, hP5] at h3; simp at h3
          exact hj (I.closed k (I.done k h2 (.inl h3)) j (comparable_gt hcmp (by omega)))
        · have hLk := hrdy k (comparable_lt (aordered_spec hord h3 hP5 (by decide)) h2)
          have := I.nonP k hLk (by rw [h3]; decide) (by rw [h3]; decide) (by rw [h3]; decide)
          omega
      unfold aread at p2
      split at p2
      · rename_i t0 x hop
        split at p2
        · rename_i b off hx
          simp only [Bool.and_eq_true, decide_eq_true_eq] at p2
          obtain ⟨hb0, hpv⟩ := p2
          have hcells : (Z m).cells E b = (Z j).cells E b := by
            rcases Nat.le_total j m with hjm | hjm
            · exact ht.cells_chain hc hz0 (Nat.lt_of_lt_of_le hb0 (ht.n_mono hc j (Nat.zero_le _) (by omega))) m hjm I.mle fun i h1 h2 => hno i (.inl ⟨h1, h2⟩)
            · exact (ht.cells_chain hc hz0 (Nat.lt_of_lt_of_le hb0 (ht.n_mono hc m (Nat.zero_le _) I.mle)) j hjm (by omega) fun i h1 h2 => hno i (.inr ⟨h1, h2⟩)).symm
          have hstep2 : aoper E call ops o (T j) ⟨(Z m).n, (Z m).h, (Z m).n⟩ = some (V j, ⟨(Z m).n, (Z m).h, (Z m).n⟩) := by
            unfold aoper at hstep ⊢
            split at hstep
            · rename_i hwa
              rw [if_pos hwa]
              split at hstep
              · rename_i hok
                rw [if_pos hok]
                have e1 : ∀ S : St, aop E (aeval (T j)) o S = val S (aload E S t0 (aeval (T j) x)) := fun S => by unfold aop; rw [hop]
                have e2 : aload E ⟨(Z m).n, (Z m).h, (Z m).n⟩ t0 (aeval (T j) x) = aload E ⟨(Z j).n, (Z j).h, (Z j).n⟩ t0 (aeval (T j) x) := by
                  rw [hx]
                  have e3 : St.cells E ⟨(Z m).n, (Z m).h, (Z m).n⟩ b = St.cells E ⟨(Z j).n, (Z j).h, (Z j).n⟩ b := hcells
                  unfold aload
                  simp only [e3]
                rw [e1] at hstep ⊢
                rw [e2]
                cases hq : aload E ⟨(Z j).n, (Z j).h, (Z j).n⟩ t0 (aeval (T j) x) with
                | none => rw [hq] at hstep; simp [val] at hstep
                | some u =>
                  rw [hq] at hstep
                  simp only [val, Option.map_some, Option.some.injEq, Prod.mk.injEq] at hstep ⊢
                  exact ⟨hstep.1, trivial⟩
              · cases hstep
            · rename_i hwa
              exfalso
              unfold astill at p4
              simp only [Bool.not_eq_true] at hwa
              rw [hwa] at p4
              simp at p4
          refine aoper_good hP hcall (hsm.relow (Z m).n) ho (fun d hd => ?_) (fun g b hg d hd => ⟨_, hreads (hgn g b hg d hd)⟩) hstep2 fun φ' w' v' k1 k2 => ?_
          · have hdx : x = .tmp d := by
              rw [hop] at hd
              simpa [Op.operands, eq_comm] using hd
            have hv := hreads (hopn d hd)
            rw [← heval, ← heval', ← hdx, hx] at hv
            rw [← hdx, hx]
            obtain ⟨l, q1, q2⟩ := hv.ptr_inv
            rw [q2]
            exact .ptr (Phi.below_some.2 ⟨Nat.lt_of_lt_of_le hb0 (ht.n_mono hc m (Nat.zero_le _) I.mle), (Phi.below_some.1 q1).2⟩)
          · have hvv : v' = V j := VR.eq_of_pf k2 hpv
            subst hvv
            have hold : ∀ B, B < w.heap.size → w'.heap[B]? = w.heap[B]? := by
              intro B hB
              refine k1.frame B hB fun b l hb hl => ?_
              have := hsm.lt hb
              simp only at hl
              omega
            exact hK m φ _ _ (I.more hc ht hr ho hj hclosed' (.inr hP5) (VR.of_pf _ _ hpv) k1.below.size hold k1.below)
        · cases p2
      · cases p2
    · by_cases hP4 : cs[j]? = some 4
      · exact I.step4 hP hcall hc ht hr hord hz0 ho hj hrdy hclosed' hdom' (fun d hd => hreads hd) hopn hgn hrange hfree hP4 hsg hpfops hK
      · have hcj : ∃ c, cs[j]? = some c ∧ c ≠ 0 ∧ c ≠ 4 ∧ c ≠ 5 := ⟨_, hcls, fun h => hP0 (by rw [hcls, h]), fun h => hP4 (by rw [hcls, h]), fun h => hP5 (by rw [hcls, h])⟩
        obtain ⟨c, hcj, hc0, hc4, hc5⟩ := hcj
        by_cases h2 : cs[j]? = some 2
        · exact I.step2 hP hcall hc ht hr hord hz0 ho hj hrdy hclosed' hdom' (fun d hd => hreads hd) hopn hgn hrange hfree h2 hK
        · by_cases h3 : cs[j]? = some 3
          · exact I.step3 hP hcall hc ht hr hord hz0 ho hj hrdy hclosed' hdom' (fun d hd => hreads hd) hopn hgn hrange hfree h3 hK
          · exact I.step1 hP hcall hc ht hr hord hz0 ho hj hrdy hclosed' hdom' (fun d hd => hreads hd) hopn hgn hrange hfree hcj hc0 hc4 hc5 h2 h3 hK

end
end Go.Abs

namespace Go.Abs
open Go Go.RowKit

section
variable {E : Env} {N0 : Nat} {call : CallFn} {ops : Array Oper} {cs : List Nat} {T : Nat → List Value} {Z : Nat → St} {V : Nat → Value} {Z1 : Nat → St} {φ0 : Phi} {w0 : World} {a0 : Act}

theorem Trace.len {n0 : Nat} (ht : Trace E call n0 ops cs T Z V Z1) : ∀ k, k ≤ ops.size → (T k).length = (T 0).length := by
  intro k
  induction k with
  | zero => intro _; rfl
  | succ k ih =>
    intro hk
    obtain ⟨o', ho'⟩ := op_at (show k < ops.size by omega)
    rw [ht.nextT k o' ho']
    cases o'.dst <;> simp [aput, ih (by omega)]

theorem ready_iff {listed : Array Bool} (hsz : listed.size = ops.size) {i : Nat} : i ∈ Region.ready .any ops listed ↔ ∃ o, ops[i]? = some o ∧ listed.getD i false = false ∧ ∀ e ∈ o.after.toList, Region.binds .any e = true → listed.getD e.on false = true := by
  unfold Region.ready
  simp only [List.mem_filter, List.mem_range, Bool.and_eq_true, Bool.not_eq_true']
  constructor
  · rintro ⟨h1, h2, h3⟩
    obtain ⟨o, ho⟩ := op_at h1
    refine ⟨o, ho, ?_, ?_⟩
    · have hi : i < listed.size := by omega
      simp [Array.getD, hi] at h2 ⊢
      exact h2
    · intro e he hb
      rw [ho] at h3
      simp only [Option.map_some, Option.getD_some] at h3
      rw [← Array.all_toList] at h3
      have := List.all_eq_true.1 h3 e he
      simpa [hb] using this
  · rintro ⟨o, ho, h2, h3⟩
    have h1 : i < ops.size := (Array.getElem?_eq_some_iff.1 ho).1
    have hi : i < listed.size := by omega
    refine ⟨h1, ?_, ?_⟩
    · simp [Array.getD, hi] at h2 ⊢
      exact h2
    · rw [ho]
      simp only [Option.map_some, Option.getD_some]
      rw [← Array.all_toList]
      refine List.all_eq_true.2 fun e he => ?_
      by_cases hb : Region.binds .any e = true
      · simp [hb, h3 e he hb]
      · simp [hb]

theorem all_listed (hr : RegOk ops) {listed : Array Bool} (hsz : listed.size = ops.size) (h : Region.ready .any ops listed = []) : ∀ i, i < ops.size → listed.getD i false = true := by
  intro i
  induction i using Nat.strongRecOn with
  | _ i ih =>
    intro hi
    cases hl : listed.getD i false with
    | true => rfl
    | false =>
      exfalso
      obtain ⟨o, ho⟩ := op_at hi
      have : i ∈ Region.ready .any ops listed := (ready_iff hsz).2 ⟨o, ho, hl, fun e he hb => ih e.on (hr.back i o ho e he hb) (Nat.lt_trans (hr.back i o ho e he hb) hi)⟩
      rw [h] at this
      simp at this

theorem Inv.finish (hc : CallKeep E call) (ht : Trace E call (Z 0).n ops cs T Z V Z1) (hz0 : (Z 0).n = E.base + (Z 0).h.length) (hks : KS E (Z 0) (Z ops.size)) {L : Nat → Prop} {m : Nat} {φ : Phi} {a : Act} {w : World}
    (I : Inv E N0 ops cs T Z V φ0 w0 a0 L m φ a w) (hall : ∀ k, k < ops.size → L k) :
    Step E N0 φ0 (Z 0) w0 φ (Z ops.size) w ∧ VRL φ (T ops.size) a.tmps.toList := by
  have hm : m = ops.size := by
    rcases Nat.lt_or_ge m ops.size with h | h
    · exact absurd (hall m h) (I.next h).2
    · have := I.mle; omega
  subst hm
  have hown : ∀ b l, φ b = some l → b < (Z ops.size).n := by
    intro b l hb
    rcases I.own b l hb with h1 | ⟨k, h1, h2, h3, h4⟩
    · exact Nat.lt_of_lt_of_le h1 (ht.n_mono hc _ (Nat.zero_le _) (Nat.le_refl _))
    · exact Nat.lt_of_lt_of_le h4 (ht.n_mono hc _ (by have := I.dom k h1; omega) (Nat.le_refl _))
  have hs := I.sim ops.size (Nat.le_refl _) (fun k h1 h2 => by omega)
  rw [Phi.below_all hown] at hs
  refine ⟨⟨hs, I.ext, I.new, hks.n_le, hks.low_le, I.below, I.frame, hks.keep hz0⟩, ?_⟩
  have hlen := ht.len ops.size (Nat.le_refl _)
  refine VRL.of_get (by rw [hlen]; have := I.size; simpa using this.symm) fun d v v' hv hv' => ?_
  have hd : d < (T 0).length := by
    have := (List.getElem?_eq_some_iff.1 hv).1
    omega
  rw [Array.getElem?_toList] at hv'
  obtain ⟨_, h⟩ := ht.last hd ops.size (Nat.le_refl _)
  rcases h with ⟨h1, h2⟩ | ⟨k, o, h1, h2, h3, h4, h5⟩
  · have := I.tm0 d hd fun k o hk ho => h2 k o (I.dom k hk) ho
    rw [← h1, hv, hv'] at this
    exact VR.mono I.ext this
  · have := I.tm d hd k o (hall k h1) h2 h3 fun k' o' hk' ho' hdst => by
      by_cases hle : k' ≤ k
      · exact hle
      · exact absurd hdst (h5 k' o' (by omega) (I.dom k' hk') ho')
    rw [hv] at h4
    cases h4
    rw [hv'] at this
    refine VR.mono (fun b l hb => (Phi.below_some.1 hb).2) this

theorem any_good (hP : ProgOK E) (hcall : CallGood E N0 call) (hc : CallKeep E call) (ht : Trace E call (Z 0).n ops cs T Z V Z1) (hr : RegOk ops) (hord : aordered ops cs = true)
    (hz0 : (Z 0).n = E.base + (Z 0).h.length) (hks : KS E (Z 0) (Z ops.size)) (h0 : ∀ b l, φ0 b = some l → b < (Z 0).n) {Q : Exit → Act → World → Prop}
    (hQ : ∀ φ a w, Step E N0 φ0 (Z 0) w0 φ (Z ops.size) w → VRL φ (T ops.size) a.tmps.toList → a.defers = a0.defers → Q .normal a w) :
    ∀ (fuel : Nat) (listed : Array Bool) (L : Nat → Prop) (m : Nat) (φ : Phi) (a : Act) (w : World), listed.size = ops.size → (∀ k, L k ↔ listed.getD k false = true) → ops.size ≤ listed.toList.count true + fuel →
      Inv E N0 ops cs T Z V φ0 w0 a0 L m φ a w → wpAny E.P .any ops Q fuel listed a w := by
  intro fuel
  induction fuel with
  | zero =>
    intro listed L m φ a w hsz hL hcnt I
    have hall : ∀ k, k < ops.size → L k := by
      intro k hk
      rw [hL]
      have hlen : listed.toList.count true = listed.toList.length := by
        have := List.count_le_length (a := true) (l := listed.toList)
        simp only [Array.length_toList] at this ⊢
        omega
      have := (List.count_eq_length.1 hlen) listed[k] (by simp)
      simp [Array.getD, show k < listed.size by omega, ← this]
    obtain ⟨h1, h2⟩ := I.finish hc ht hz0 hks hall
    refine ⟨?_, hQ φ a w h1 h2 I.defers⟩
    rw [List.eq_nil_iff_forall_not_mem]
    intro i hi
    obtain ⟨o, ho, h3, _⟩ := (ready_iff hsz).1 hi
    have := (hL i).1 (hall i (Array.getElem?_eq_some_iff.1 ho).1)
    rw [h3] at this
    cases this
  | succ fuel ih =>
    intro listed L m φ a w hsz hL hcnt I
    constructor
    · intro hnil
      have hall := all_listed hr hsz hnil
      obtain ⟨h1, h2⟩ := I.finish hc ht hz0 hks fun k hk => (hL k).2 (hall k hk)
      exact hQ φ a w h1 h2 I.defers
    · intro i hi
      obtain ⟨o, ho, h3, h4⟩ := (ready_iff hsz).1 hi
      have his : i < ops.size := (Array.getElem?_eq_some_iff.1 ho).1
      have hiL : ¬ L i := by rw [hL, h3]; simp
      refine I.step hP hcall hc ht hr hord hz0 h0 ho hiL (I.closed.ready ho fun e he hb => (hL _).2 (h4 e he hb)) fun m' φ' a' w' I' => ?_
      refine ih (listed.setIfInBounds i true) (fun k => L k ∨ k = i) m' φ' a' w' (by simpa using hsz) ?_ ?_ I'
      · intro k
        by_cases hk : k = i
        · subst hk
          simp [Array.getD, show k < listed.size by omega]
        · rw [hL k]
          have : (listed.setIfInBounds i true).getD k false = listed.getD k false := by
            simp only [Array.getD_eq_getD_getElem?]
            rw [Array.getElem?_setIfInBounds_ne (Ne.symm hk)]
          rw [this]
          simp [hk]
      · have hil : i < listed.toList.length := by simp; omega
        have hli : listed.toList[i] = false := by
          simp [Array.getD, show i < listed.size by omega] at h3
          simpa using h3
        have := List.count_set (a := true) (b := true) (l := listed.toList) (i := i) hil
        have e1 : (if (false == true) = true then 1 else 0) = 0 := rfl
        have e2 : (if (true == true) = true then 1 else 0) = 1 := rfl
        rw [hli, e1, e2] at this
        rw [Array.toList_setIfInBounds, this]
        omega

/-- A region whose order is open. -/
theorem aopsD_good (hP : ProgOK E) (hcall : CallGood E N0 call) (hc : CallKeep E call) (hr : regOk ops = true) {t t' : List Value} {S S' : St} (h : aopsD E call S.n ops ops.toList t S = some (cs, t', S')) (hord : aordered ops cs = true)
    {φ : Phi} {w : World} {a : Act} (hs : Sim E N0 φ S w) (htr : VRL φ t a.tmps.toList) {Q : Exit → Act → World → Prop}
    (hQ : ∀ φ' a' w', Step E N0 φ S w φ' S' w' → VRL φ' t' a'.tmps.toList → a'.defers = a.defers → Q .normal a' w') :
    wpAny E.P .any ops Q ops.size (Array.replicate ops.size false) a w := by
  obtain ⟨T, Z, V, Z1, g1, g2, g3, g4, g5, g6⟩ := trace_of ops.toList 0 (by simp) h
  simp only [Nat.zero_add, Array.length_toList] at g3 g4 g5
  have ht : Trace E call (Z 0).n ops cs T Z V Z1 := by
    rw [g2]
    exact ⟨fun k o ho => (g6 k o (Nat.zero_le _) ho).1, fun k o ho => (g6 k o (Nat.zero_le _) ho).2.1, fun k o ho => (g6 k o (Nat.zero_le _) ho).2.2.1, fun k o ho => (g6 k o (Nat.zero_le _) ho).2.2.2⟩
  have hks : KS E (Z 0) (Z ops.size) := by rw [g2, g4]; exact aopsD_keep hc h
  have hz0 : (Z 0).n = E.base + (Z 0).h.length := by rw [g2]; exact hs.n_eq
  have h0 : ∀ b l, φ b = some l → b < (Z 0).n := by rw [g2]; exact fun b l hb => hs.lt hb
  -- the first one that writes to what was there
  have hnext : ∃ m', m' ≤ ops.size ∧ (∀ k, k < m' → cs[k]? ≠ some 2 ∧ cs[k]? ≠ some 3) ∧ (m' < ops.size → cs[m']? = some 2 ∨ cs[m']? = some 3) := by
    have key : ∀ n, n ≤ ops.size → (∀ k, k < n → cs[k]? ≠ some 2 ∧ cs[k]? ≠ some 3) ∨ ∃ m', m' ≤ ops.size ∧ (∀ k, k < m' → cs[k]? ≠ some 2 ∧ cs[k]? ≠ some 3) ∧ (m' < ops.size → cs[m']? = some 2 ∨ cs[m']? = some 3) := by
      intro n
      induction n with
      | zero => intro _; exact .inl fun k h1 => by omega
      | succ n ih =>
        intro hn
        rcases ih (by omega) with h | h
        · by_cases h3 : cs[n]? = some 2 ∨ cs[n]? = some 3
          · exact .inr ⟨n, by omega, h, fun _ => h3⟩
          · refine .inl fun k h1 => ?_
            by_cases he : k = n
            · subst he; exact ⟨fun h => h3 (.inl h), fun h => h3 (.inr h)⟩
            · exact h k (by omega)
        · exact .inr h
    rcases key ops.size (Nat.le_refl _) with h | h
    · exact ⟨ops.size, Nat.le_refl _, h, fun h => by omega⟩
    · exact h
  obtain ⟨m, q1, q2, q3⟩ := hnext
  have I : Inv E N0 ops cs T Z V φ w a (fun _ => False) m φ a w := by
    refine ⟨fun _ h => h.elim, fun _ h => h.elim, q1, fun k h1 h2 => by rcases h2 with h2 | h2; exact absurd h2 (q2 k h1).1; exact absurd h2 (q2 k h1).2, fun h => ⟨q3 h, id⟩, fun _ h => h.elim, fun b l hb => .inl (h0 b l hb), ?_, fun _ _ h => h.elim, fun _ _ h => h.elim, fun _ _ h => h, ?_, rfl, ?_, fun _ _ _ _ h => h.elim, fun _ _ h => .inl h, Below.refl _ _, fun _ _ _ => rfl⟩
    · intro j h1 h2
      have e : φ.below (Z j).n = φ := Phi.below_all fun b l hb => Nat.lt_of_lt_of_le (h0 b l hb) (ht.n_mono hc j (Nat.zero_le _) (by omega))
      rw [e]
      refine hs.later (ht.n_eq hc hz0 j (by omega)) fun b l hb => ?_
      rw [ht.get_chain hc hz0 (h0 b l hb) j (Nat.zero_le _) (by omega) (fun i _ h4 => q2 i (by omega)), g2]
    · rw [g1]; have := htr.length; simpa using this.symm
    · intro d hd _
      rw [g1]
      have := TR_eval htr d
      simp only [aeval, Act.eval, Array.getD_eq_getD_getElem?] at this
      exact this
  refine any_good hP hcall hc ht (regOk_of hr) hord hz0 hks h0 (Q := Q) (fun φ' a' w' h1 h2 h3 => ?_) ops.size _ (fun _ => False) m φ a w (by simp) ?_ (by simp) I
  · rw [g2, g4] at h1
    rw [g3] at h2
    exact hQ φ' a' w' h1 h2 h3
  · intro k
    simp only [false_iff, Bool.not_eq_true]
    by_cases hk : k < ops.size
    · simp [Array.getD, hk]
    · simp [Array.getD, hk]

end
end Go.Abs

namespace Go.Abs
open Go Go.RowKit

/-- Functions whose regions are fit. -/
structure RegsOK (E : Env) : Prop where
  out : ∀ (f : Nat) (fn : Func) (c : Code), E.okf f = true → E.P.funcs[f]? = some fn → fn.body = some c → codeOk c = true

/-- What a call that touches no memory of others comes to. -/
def PureCall (E : Env) (f : FuncId) (args : List Value) (v : Value) : Prop :=
  ∀ w, GlobOK E w → Calls E.P f args.toArray w fun e w' => e = .returned v ∧ Below w.heap.size w w'

structure MemoOK (E : Env) : Prop where
  out : ∀ f args v, E.memo f args = some v → pfL args = true ∧ pf v = true ∧ PureCall E f args v

def EX : AExit → Exit → Prop
  | .normal, .normal => True
  | .exit i, .exit j => i = j
  | .ret, .ret => True
  | _, _ => False

def PostC (E : Env) (N0 : Nat) (φ : Phi) (S : St) (w : World) (ex : AExit) (t' : List Value) (S' : St) : Exit → Act → World → Prop :=
  fun e a' w' => EX ex e ∧ a'.defers = [] ∧ ∃ φ', Step E N0 φ S w φ' S' w' ∧ VRL φ' t' a'.tmps.toList

section
variable {E : Env} {N0 : Nat} {φ : Phi} {S : St} {w : World}

theorem Step.relow {φ' : Phi} {S1 : St} {w' : World} (h : Step E N0 φ ⟨S.n, S.h, S.n⟩ w φ' S1 w') : Step E N0 φ S w φ' ⟨S1.n, S1.h, Nat.min S.low S1.low⟩ w' where
  sim := h.sim.relow _
  ext := h.ext
  new := fun b l hb => by
    rcases h.new b l hb with h1 | ⟨h1, h2 | ⟨b0, l0, h2, h3, h4⟩⟩
    · exact .inl h1
    · exact .inr ⟨h1, .inl h2⟩
    · exact .inr ⟨h1, .inr ⟨b0, l0, h2, Nat.le_trans (Nat.min_le_right _ _) h3, h4⟩⟩
  n_le := h.n_le
  low_le := Nat.min_le_left _ _
  below := h.below
  frame := fun B hB hf => h.frame B hB fun b l hb hl => hf b l hb (Nat.le_trans (Nat.min_le_right _ _) hl)
  keep := fun b hb hl => h.keep b hb (Nat.lt_of_lt_of_le hl (Nat.min_le_right _ _))

/-- What a call made is dropped. -/
theorem Step.drop (hs : Sim E N0 φ S w) {φ' : Phi} {S1 : St} {w' : World} (h : Step E N0 φ ⟨S.n, S.h, S.n⟩ w φ' S1 w') (hl : S.n ≤ S1.low) : Step E N0 φ S w φ S w' := by
  have hold : ∀ B, B < w.heap.size → w'.heap[B]? = w.heap[B]? := by
    intro B hB
    refine h.frame B hB fun b l hb hlb => ?_
    have := hs.lt hb
    omega
  exact ⟨hs.world h.below.size hold, fun _ _ h => h, fun _ _ h => .inl h, Nat.le_refl _, Nat.le_refl _, h.below, fun B hB _ => hold B hB, fun _ _ _ => rfl⟩

def resRun (a : Array Value) : ResultVar → Sem Value
  | .tmp i => pure (a.getD i undef)
  | .cell b ty => do loadVar ty (← asAddr (a.getD b undef))

theorem aresult_good (hs : Sim E N0 φ S w) {t : List Value} {a : Array Value} (ht : VRL φ t a.toList) {r : ResultVar} {v : Value} (h : aresult E t S r = some v) :
    ∃ v', (resRun a r).run E.P w = .ok v' w ∧ VR φ v v' := by
  cases r with
  | tmp i =>
    simp only [aresult, Option.some.injEq] at h
    subst h
    refine ⟨a.getD i undef, rfl, ?_⟩
    have := TR_eval (a := ⟨a, []⟩) ht i
    simpa [aeval, Act.eval] using this
  | cell b ty =>
    simp only [aresult] at h
    have hv := TR_eval (a := ⟨a, []⟩) ht b
    simp only [aeval, Act.eval] at hv
    obtain ⟨v', h1, h2⟩ := aload_good hs hv h
    refine ⟨v', ?_, h2⟩
    have hp : ∃ x, a.getD b undef = .pointer (some x) := by
      unfold aload at h
      split at h
      · rename_i b' o' he
        rw [he] at hv
        obtain ⟨l, _, hl⟩ := hv.ptr_inv
        exact ⟨_, hl⟩
      · cases h
    obtain ⟨x, hx⟩ := hp
    simp only [resRun, hx, Instr.loadAt, Instr.sureAddr, asAddr] at h1 ⊢
    exact h1

theorem aresults_good (hs : Sim E N0 φ S w) {t : List Value} {a : Array Value} (ht : VRL φ t a.toList) : ∀ {rs : List ResultVar} {vs : List Value}, aresults E t S rs = some vs →
    ∃ vs', (rs.mapM (resRun a)).run E.P w = .ok vs' w ∧ VRL φ vs vs'
  | [], vs, h => by
    simp only [aresults, Option.some.injEq] at h
    subst h
    exact ⟨[], by simp, .nil⟩
  | r :: rs, vs, h => by
    unfold aresults at h
    split at h
    · rename_i v vs1 h1 h2
      simp only [Option.some.injEq] at h
      subst h
      obtain ⟨v', k1, k2⟩ := aresult_good hs ht h1
      obtain ⟨vs', k3, k4⟩ := aresults_good hs ht h2
      refine ⟨v' :: vs', ?_, .cons k2 k4⟩
      simp only [List.mapM_cons, Sem.run_bind, k1, Result.andThen_ok, k3, Sem.run_pure]
    · cases h

theorem results_good (hs : Sim E N0 φ S w) {t : List Value} {a : Array Value} (ht : VRL φ t a.toList) {fn : Func} {vs : List Value} (h : aresults E t S fn.results.toList = some vs) :
    ∃ v', (results fn a).run E.P w = .ok v' w ∧ VR φ (tupled vs) v' := by
  obtain ⟨vs', h1, h2⟩ := aresults_good hs ht h
  have hm : (fn.results.mapM (resRun a)).run E.P w = .ok vs'.toArray w := by
    rw [Array.mapM_eq_mapM_toList]
    simp only [Sem.run_map, h1, Result.andThen_ok]
  refine ⟨if h : vs'.toArray.size = 1 then vs'.toArray[0] else .tuple vs'.toArray, ?_, ?_⟩
  · have e : results fn a = (do let vs ← fn.results.mapM (resRun a); pure (if h : vs.size = 1 then vs[0] else .tuple vs)) := by
      unfold results
      congr 1
    rw [e]
    simp only [Sem.run_bind, hm, Result.andThen_ok, Sem.run_pure]
  · cases h2 with
    | nil => exact .tuple .nil
    | cons ha hb =>
      cases hb with
      | nil => exact ha
      | cons hb hc =>
        simp only [tupled]
        rw [dif_neg (by simp)]
        exact .tuple (.cons ha (.cons hb hc))

end

theorem rounds_mono {P : Program} {c : Code} {Q Q' : Exit → Act → World → Prop} (hq : ∀ e a w, Q e a w → Q' e a w) : ∀ (n : Nat) {a : Act} {w : World}, Code.rounds P c Q n a w → Code.rounds P c Q' n a w
  | 0, _, _, h => h
  | n + 1, a, w, h => by
    refine wp_mono h ?_
    intro e a1 w1 h1
    cases e with
    | normal => exact rounds_mono hq n h1
    | _ => exact hq _ _ _ h1

theorem sound (E : Env) (N0 : Nat) (hP : ProgOK E) (hR : RegsOK E) (hM : MemoOK E) : ∀ (n : Nat),
    (∀ c t S ex t' S', codeOk c = true → acode E n c t S = some (ex, t', S') → ∀ φ a w, Sim E N0 φ S w → VRL φ t a.tmps.toList → a.defers = [] → c.wp E.P (PostC E N0 φ S w ex t' S') a w) ∧
    (∀ b t S ex t' S', codeOk b = true → acode E n (.loop b) t S = some (ex, t', S') → ∀ φ a w, Sim E N0 φ S w → VRL φ t a.tmps.toList → a.defers = [] → Code.rounds E.P b (PostC E N0 φ S w ex t' S') n a w) ∧ CallGood E N0 (acall E n)
  | 0 => ⟨fun c t S ex t' S' _ h => by simp [acode] at h, fun b t S ex t' S' _ h => by simp [acode] at h, fun f args S v S' h => by simp [acall] at h⟩
  | n + 1 => by
    obtain ⟨ihc, ihl, ihf⟩ := sound E N0 hP hR hM n
    obtain ⟨kc, kf⟩ := keep_both E n
    have hloop : ∀ b t S ex t' S', codeOk b = true → acode E (n + 1) (.loop b) t S = some (ex, t', S') → ∀ φ a w, Sim E N0 φ S w → VRL φ t a.tmps.toList → a.defers = [] → Code.rounds E.P b (PostC E N0 φ S w ex t' S') (n + 1) a w := by
      intro b t S ex t' S' hok h φ a w hs ht hd
      show b.wp E.P (Exit.then (Code.rounds E.P b (PostC E N0 φ S w ex t' S') n) (PostC E N0 φ S w ex t' S')) a w
      simp only [acode] at h
      split at h
      · rename_i t1 S1 h1
        refine wp_mono (ihc _ _ _ _ _ _ hok h1 φ a w hs ht hd) ?_
        rintro e a1 w1 ⟨k1, k2, φ1, k3, k4⟩
        cases e with
        | normal =>
          refine rounds_mono ?_ n (ihl _ _ _ _ _ _ hok h φ1 a1 w1 k3.sim k4 k2)
          rintro e a2 w2 ⟨m1, m2, φ2, m3, m4⟩
          exact ⟨m1, m2, φ2, k3.trans m3, m4⟩
        | _ => exact k1.elim
      · rename_i hne
        refine wp_mono (ihc _ _ _ _ _ _ hok h φ a w hs ht hd) ?_
        rintro e a1 w1 ⟨k1, k2, φ1, k3, k4⟩
        cases e with
        | normal =>
          cases ex with
          | normal => exact absurd h (hne _ _)
          | _ => exact k1.elim
        | exit i => exact ⟨k1, k2, φ1, k3, k4⟩
        | ret => exact ⟨k1, k2, φ1, k3, k4⟩
        | goto l => cases ex <;> exact k1.elim
        | panic p => cases ex <;> exact k1.elim
        | outgrown => cases ex <;> exact k1.elim
    refine ⟨?_, hloop, ?_⟩
    · intro c t S ex t' S' hok h φ a w hs ht hd
      have h00 := h
      unfold acode at h
      split at h
      · simp only [Option.some.injEq, Prod.mk.injEq] at h; obtain ⟨rfl, rfl, rfl⟩ := h
        exact wp_skip ⟨trivial, hd, φ, Step.refl hs, ht⟩
      · simp only [Option.some.injEq, Prod.mk.injEq] at h; obtain ⟨rfl, rfl, rfl⟩ := h
        exact wp_label ⟨trivial, hd, φ, Step.refl hs, ht⟩
      · rename_i id ops draw
        split at h
        · rename_i hdraw
          subst hdraw
          split at h
          · rename_i cs t1 S1 h1
            split at h
            · rename_i hord
              simp only [Option.some.injEq, Prod.mk.injEq] at h; obtain ⟨rfl, rfl, rfl⟩ := h
              refine wp_region_any hP.mixed ?_
              have hreg : regOk ops = true := by simpa [codeOk] using hok
              refine aopsD_good hP ihf kf hreg h1 hord (φ := φ) (w := w.drew) hs.drew ht fun φ' a' w' k1 k2 k3 => ?_
              refine ⟨trivial, k3.trans hd, φ', ?_, k2⟩
              exact ⟨k1.sim, k1.ext, k1.new, k1.n_le, k1.low_le, ⟨k1.below.os, k1.below.tape, k1.below.output, k1.below.size, k1.below.block⟩, k1.frame, k1.keep⟩
            · cases h
          · cases h
        · rename_i hdraw
          have hdraw : draw = false := by simpa using hdraw
          subst hdraw
          split at h
          · rename_i t1 S1 h1
            simp only [Option.some.injEq, Prod.mk.injEq] at h; obtain ⟨rfl, rfl, rfl⟩ := h
            refine wp_region ?_
            have := aops_good hP ihf (ops := ops) (Q := PostC E N0 φ S w .normal t1 S1) ops.toList 0 (by simp) h1 hs ht fun φ' a' w' k1 k2 k3 => ⟨trivial, k3.trans hd, φ', k1, k2⟩
            rw [List.range_eq_range']
            simpa using this
          · cases h
      · rename_i x y
        simp only [codeOk, Bool.and_eq_true] at hok
        split at h
        · rename_i t1 S1 h1
          refine wp_seq (wp_mono (ihc _ _ _ _ _ _ hok.1 h1 φ a w hs ht hd) ?_)
          rintro e a1 w1 ⟨k1, k2, φ1, k3, k4⟩
          cases e with
          | normal =>
            refine wp_mono (ihc _ _ _ _ _ _ hok.2 h φ1 a1 w1 k3.sim k4 k2) ?_
            rintro e a2 w2 ⟨m1, m2, φ2, m3, m4⟩
            exact ⟨m1, m2, φ2, k3.trans m3, m4⟩
          | _ => exact k1.elim
        · rename_i hne
          refine wp_seq (wp_mono (ihc _ _ _ _ _ _ hok.1 h φ a w hs ht hd) ?_)
          rintro e a1 w1 ⟨k1, k2, φ1, k3, k4⟩
          cases e with
          | normal =>
            cases ex with
            | normal => exact absurd h (hne _ _)
            | _ => exact k1.elim
          | exit i => exact ⟨k1, k2, φ1, k3, k4⟩
          | ret => exact ⟨k1, k2, φ1, k3, k4⟩
          | goto l => cases ex <;> exact k1.elim
          | panic p => cases ex <;> exact k1.elim
          | outgrown => cases ex <;> exact k1.elim
      · rename_i cc x y
        simp only [codeOk, Bool.and_eq_true] at hok
        have hcond : ∀ b, aeval t cc = .bool b → a.eval cc = .bool b := by
          intro b hb
          cases cc with
          | tmp i =>
            have := TR_eval ht i
            rw [hb] at this
            exact this.bool_inv
          | const v => exact hb
          | global g => cases hb
          | func f => cases hb
        split at h
        · rename_i hb
          exact wp_cond_true (hcond _ hb) (ihc _ _ _ _ _ _ hok.1 h φ a w hs ht hd)
        · rename_i hb
          exact wp_cond_false (hcond _ hb) (ihc _ _ _ _ _ _ hok.2 h φ a w hs ht hd)
        · cases h
      · rename_i id b
        simp only [codeOk] at hok
        split at h
        · rename_i i t1 S1 h1
          refine wp_block (wp_mono (ihc _ _ _ _ _ _ hok h1 φ a w hs ht hd) ?_)
          rintro e a1 w1 ⟨k1, k2, φ1, k3, k4⟩
          cases e with
          | exit j =>
            have hij : i = j := k1
            subst hij
            simp only [Exit.inBlock]
            split at h
            · rename_i hid
              simp only [Option.some.injEq, Prod.mk.injEq] at h; obtain ⟨rfl, rfl, rfl⟩ := h
              rw [if_pos hid]
              exact ⟨trivial, k2, φ1, k3, k4⟩
            · rename_i hid
              simp only [Option.some.injEq, Prod.mk.injEq] at h; obtain ⟨rfl, rfl, rfl⟩ := h
              rw [if_neg hid]
              exact ⟨rfl, k2, φ1, k3, k4⟩
          | _ => exact k1.elim
        · rename_i hne
          refine wp_block (wp_mono (ihc _ _ _ _ _ _ hok h φ a w hs ht hd) ?_)
          rintro e a1 w1 ⟨k1, k2, φ1, k3, k4⟩
          cases e with
          | exit j =>
            cases ex with
            | exit i => exact absurd h (hne _ _ _)
            | _ => exact k1.elim
          | normal => exact ⟨k1, k2, φ1, k3, k4⟩
          | ret => exact ⟨k1, k2, φ1, k3, k4⟩
          | goto l => cases ex <;> exact k1.elim
          | panic p => cases ex <;> exact k1.elim
          | outgrown => cases ex <;> exact k1.elim
      · rename_i b
        have hokb : codeOk b = true := by simpa [codeOk] using hok
        exact wp_loop_rounds (n + 1) (hloop _ _ _ _ _ _ hokb h00 φ a w hs ht hd)
      · simp only [Option.some.injEq, Prod.mk.injEq] at h; obtain ⟨rfl, rfl, rfl⟩ := h
        exact wp_exit ⟨rfl, hd, φ, Step.refl hs, ht⟩
      · simp only [Option.some.injEq, Prod.mk.injEq] at h; obtain ⟨rfl, rfl, rfl⟩ := h
        exact wp_ret ⟨trivial, hd, φ, Step.refl hs, ht⟩
      · cases h
    · intro f args S v S' h φ w args' hs ha
      unfold acall at h
      split at h
      · rename_i v1 hm
        simp only [Option.some.injEq, Prod.mk.injEq] at h; obtain ⟨rfl, rfl⟩ := h
        obtain ⟨m1, m2, m3⟩ := hM.out f args v1 hm
        rw [VRL.eq_of_pfL ha m1]
        refine (m3 w hs.glob).mono ?_
        rintro e w' ⟨rfl, hb⟩
        have hold : ∀ B, B < w.heap.size → w'.heap[B]? = w.heap[B]? := hb.block
        exact ⟨φ, v1, rfl, ⟨hs.world hb.size hold, fun _ _ h => h, fun _ _ h => .inl h, Nat.le_refl _, Nat.le_refl _, hb.mono hs.N0le, fun B hB _ => hold B hB, fun _ _ _ => rfl⟩, VR.of_pf φ v1 m2⟩
      · split at h
        · rename_i fn hf
          split at hf
          · rename_i hokf
            split at h
            · rename_i c hb
              split at h
              · cases h
              · cases h
              · rename_i ex t S1 hne hrun
                split at h
                · rename_i vs hres
                  have hs0 := hs.relow S.n
                  have hlen : args.length = args'.length := ha.length
                  have hcode := ihc c _ _ _ _ _ (hR.out f fn c hokf hf hb) hrun φ ⟨args'.toArray ++ Array.replicate (fn.ntmps - args'.toArray.size) undef, []⟩ w hs0 ?_ rfl
                  · refine calls_of_wp hf hb (wp_mono hcode ?_)
                    rintro e a1 w1 ⟨k1, k2, φ1, k3, k4⟩
                    have hfin : a1.defers = [] ∧ ∃ v2, (results fn a1.tmps).run E.P w1 = .ok v2 w1 ∧ ∃ φ' v', Ending.returned v2 = .returned v' ∧ Step E N0 φ S w φ' S' w1 ∧ VR φ' v v' := by
                      obtain ⟨v2, r1, r2⟩ := results_good k3.sim k4 hres
                      refine ⟨k2, v2, r1, ?_⟩
                      simp only at h
                      split at h
                      · rename_i hpop
                        simp only [Option.some.injEq, Prod.mk.injEq] at h; obtain ⟨rfl, rfl⟩ := h
                        have := VR.eq_of_pf r2 hpop.2
                        exact ⟨φ, v2, rfl, k3.drop hs hpop.1, by rw [this]; exact VR.of_pf φ _ hpop.2⟩
                      · simp only [Option.some.injEq, Prod.mk.injEq] at h; obtain ⟨rfl, rfl⟩ := h
                        exact ⟨φ1, v2, rfl, k3.relow, r2⟩
                    cases e with
                    | normal => obtain ⟨q1, v2, q2, q3⟩ := hfin; exact ⟨q1, v2, q2, q3⟩
                    | ret => obtain ⟨q1, v2, q2, q3⟩ := hfin; exact ⟨q1, v2, q2, q3⟩
                    | exit i =>
                      cases ex with
                      | exit j => exact (hne _ rfl).elim
                      | _ => exact k1.elim
                    | goto l => cases ex <;> exact k1.elim
                    | panic p => cases ex <;> exact k1.elim
                    | outgrown => cases ex <;> exact k1.elim
                  · simp only [Array.toList_append, Array.toList_replicate, List.size_toArray, ← hlen]
                    refine ha.append ?_
                    refine VRL.of_get (by simp) fun i v v' hv hv' => ?_
                    rw [List.getElem?_replicate] at hv hv'
                    split at hv
                    · rename_i hlt
                      rw [if_pos hlt] at hv'
                      cases hv
                      cases hv'
                      exact VR.undef
                    · cases hv
                · cases h
            · cases h
          · cases hf
        · cases h

/-- The map of the packages' variables alone. -/
def phi0 (E : Env) : Phi := fun b =>
  match E.glob b with
  | some (.opn c e _) => some ⟨b, 0, c.length, E.P.cellsOf e⟩
  | _ => none

theorem sim0 {E : Env} {w : World} (hg : GlobOK E w) : Sim E w.heap.size (phi0 E) ⟨E.base, [], E.base⟩ w where
  n_eq := by simp
  glob := hg
  gN0 := fun g x h => by
    obtain ⟨_, c, e, fz, _, _, h4⟩ := hg.out g x h
    exact (Array.getElem?_eq_some_iff.1 h4).1
  gphi := fun g c e t h => by simp [phi0, h]
  N0le := Nat.le_refl _
  blk := fun b l hb => by
    unfold phi0 at hb
    split at hb
    · rename_i c e t hgl
      cases hb
      obtain ⟨h1, c', e', fz, h2, h3, h4⟩ := hg.out b _ hgl
      cases h2
      refine ⟨.opn c e none, by simp [St.get, h1, hgl], rfl, ⟨c⟩, fz, h4, rfl, by simp, ?_, fun sh h => by cases h⟩
      simpa using VRL.of_pfL _ _ h3
    · cases hb
  excl := fun b b' l l' hb hb' hne hblk => by
    unfold phi0 at hb hb'
    split at hb
    · split at hb'
      · cases hb
        cases hb'
        exact absurd hblk hne
      · cases hb'
    · cases hb

/-- A CLOSED CALL, REACHED BY THE EVALUATOR, COMES TO WHAT THE EVALUATOR SAYS: in whatever memory, on every tape. -/
theorem pure_call {E : Env} (hP : ProgOK E) (hR : RegsOK E) (hM : MemoOK E) (n : Nat) {f : FuncId} {args : List Value} {v : Value} (ha : pfL args = true) (hv : pf v = true)
    (h : ∃ S', acall E n f args ⟨E.base, [], E.base⟩ = some (v, S')) : PureCall E f args v := by
  intro w hg
  obtain ⟨S', h⟩ := h
  have := (sound E w.heap.size hP hR hM n).2.2 _ _ _ _ _ h (phi0 E) w args (sim0 hg) (VRL.of_pfL _ _ ha)
  refine this.mono ?_
  rintro e w' ⟨φ', v', rfl, k1, k2⟩
  exact ⟨by rw [VR.eq_of_pf k2 hv], k1.below⟩

end Go.Abs

namespace Go.Abs
open Go Go.RowKit

mutual
/-- Are two values without addresses the same? (It may say no.) -/
def eqV : Value → Value → Bool
  | .bool a, .bool b => a == b
  | .int k a, .int k' b => decide (k = k') && a == b
  | .string a, .string b => a.data.toList == b.data.toList
  | .slice none n c, .slice none n' c' => n == n' && c == c'
  | .pointer none, .pointer none => true
  | .nilIface, .nilIface => true
  | .nilFunc, .nilFunc => true
  | .agg a, .agg b => eqA a b
  | .tuple a, .tuple b => eqA a b
  | _, _ => false
def eqA : Array Value → Array Value → Bool
  | ⟨a⟩, ⟨b⟩ => eqL a b
def eqL : List Value → List Value → Bool
  | [], [] => true
  | v :: l, v' :: l' => eqV v v' && eqL l l'
  | _, _ => false
end

mutual
theorem eqV_eq : ∀ (v v' : Value), eqV v v' = true → v = v'
  | .agg ⟨a⟩, v', h => by
    cases v' with
    | agg b => obtain ⟨b⟩ := b; rw [eqL_eq a b (by simpa [eqV, eqA] using h)]
    | _ => simp [eqV] at h
  | .tuple ⟨a⟩, v', h => by
    cases v' with
    | tuple b => obtain ⟨b⟩ := b; rw [eqL_eq a b (by simpa [eqV, eqA] using h)]
    | _ => simp [eqV] at h
  | .bool a, v', h => by cases v' <;> simp [eqV] at h; rw [h]
  | .int k a, v', h => by cases v' <;> simp [eqV] at h; rw [h.1, h.2]
  | .string ⟨⟨a⟩⟩, v', h => by
    cases v' with
    | string b => obtain ⟨⟨b⟩⟩ := b; simp [eqV] at h; rw [h]
    | _ => simp [eqV] at h
  | .slice none n c, v', h => by
    cases v' with
    | slice b n' c' => cases b <;> simp [eqV] at h; rw [h.1, h.2]
    | _ => simp [eqV] at h
  | .slice (some _) _ _, v', h => by cases v' <;> simp [eqV] at h
  | .pointer none, v', h => by
    cases v' with
    | pointer b => cases b <;> simp [eqV] at h; rfl
    | _ => simp [eqV] at h
  | .pointer (some _), v', h => by cases v' <;> simp [eqV] at h
  | .nilIface, v', h => by cases v' <;> simp [eqV] at h; rfl
  | .nilFunc, v', h => by cases v' <;> simp [eqV] at h; rfl
  | .float _ _, v', h => by cases v' <;> simp [eqV] at h
  | .complex _ _ _, v', h => by cases v' <;> simp [eqV] at h
  | .map _, v', h => by cases v' <;> simp [eqV] at h
  | .chan _, v', h => by cases v' <;> simp [eqV] at h
  | .func _ _ _, v', h => by cases v' <;> simp [eqV] at h
  | .iface _ _, v', h => by cases v' <;> simp [eqV] at h
theorem eqL_eq : ∀ (l l' : List Value), eqL l l' = true → l = l'
  | [], [], _ => rfl
  | [], _ :: _, h => by simp [eqL] at h
  | _ :: _, [], h => by simp [eqL] at h
  | v :: l, v' :: l', h => by
    simp only [eqL, Bool.and_eq_true] at h
    rw [eqV_eq v v' h.1, eqL_eq l l' h.2]
end

abbrev Table := List (FuncId × List Value × Value)

def look : Table → FuncId → List Value → Option Value
  | [], _, _ => none
  | (g, as, v) :: r, f, args => if g == f && eqL as args then some v else look r f args

theorem look_mem : ∀ {t : Table} {f : FuncId} {args : List Value} {v : Value}, look t f args = some v → (f, args, v) ∈ t
  | [], _, _, _, h => by simp [look] at h
  | (g, as, u) :: r, f, args, v, h => by
    unfold look at h
    split at h
    · rename_i hc
      simp only [Bool.and_eq_true, beq_iff_eq] at hc
      have := eqL_eq _ _ hc.2
      simp only [Option.some.injEq] at h
      rw [hc.1, this, h]
      simp
    · simp [look_mem h]

/-- The evaluator's place: a program, and what is remembered. -/
structure Base where
  P : Program
  base : Nat
  glob : Nat → Option ABlk
  ident : FuncId → Bool
  okf : FuncId → Bool

def Base.env (B : Base) (t : Table) : Env := { P := B.P, base := B.base, glob := B.glob, ident := B.ident, memo := look t, okf := B.okf }

structure BaseOK (B : Base) : Prop where
  prog : ProgOK (B.env [])
  regs : RegsOK (B.env [])

/-- What is remembered is true. -/
def Known (B : Base) (t : Table) : Prop := ∀ x ∈ t, pfL x.2.1 = true ∧ pf x.2.2 = true ∧ PureCall (B.env []) x.1 x.2.1 x.2.2

theorem Known.nil (B : Base) : Known B [] := by intro x hx; simp at hx

theorem Known.memo {B : Base} {t : Table} (h : Known B t) : MemoOK (B.env t) where
  out := fun f args v hv => by
    obtain ⟨h1, h2, h3⟩ := h (f, args, v) (look_mem hv)
    exact ⟨h1, h2, fun w hg => h3 w ⟨hg.out⟩⟩

def comesTo (B : Base) (t : Table) (n : Nat) (f : FuncId) (args : List Value) (v : Value) : Bool :=
  match acall (B.env t) n f args ⟨B.base, [], B.base⟩ with
  | some (v', _) => eqV v' v
  | none => false

theorem PureCall.of {B : Base} (hB : BaseOK B) {t : Table} (h : Known B t) (n : Nat) {f : FuncId} {args : List Value} {v : Value} (ha : pfL args = true) (hv : pf v = true) (hc : comesTo B t n f args v = true) :
    PureCall (B.env []) f args v := by
  have hP : ProgOK (B.env t) := ⟨hB.prog.names, hB.prog.ident, hB.prog.mixed⟩
  have hR : RegsOK (B.env t) := ⟨hB.regs.out⟩
  suffices hh : PureCall (B.env t) f args v from fun w hg => hh w ⟨hg.out⟩
  refine pure_call (E := B.env t) hP hR h.memo n ha hv ?_
  unfold comesTo at hc
  split at hc
  · rename_i v' S' hr
    exact ⟨S', by rw [← eqV_eq _ _ hc]; exact hr⟩
  · cases hc

/-- One call more is remembered. -/
theorem Known.cons {B : Base} (hB : BaseOK B) {t : Table} (h : Known B t) (n : Nat) {f : FuncId} {args : List Value} {v : Value} (hc : (pfL args && pf v && comesTo B t n f args v) = true) : Known B ((f, args, v) :: t) := by
  simp only [Bool.and_eq_true] at hc
  intro x hx
  rcases List.mem_cons.1 hx with rfl | hx
  · exact ⟨hc.1.1, hc.1.2, PureCall.of hB h n hc.1.1 hc.1.2 hc.2⟩
  · exact h x hx

end Go.Abs
