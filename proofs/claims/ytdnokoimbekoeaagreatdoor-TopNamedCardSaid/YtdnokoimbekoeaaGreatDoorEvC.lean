/-
  TopNamed answers true for every two slices of bytes, and leaves them as they were; conditions: the listed package variables hold what the program's text lays (tied by the card).
-/
import Derived.Test.YtdnokoimbekoeaaGreatDoorEvB
import Derived.LoopN

namespace Go.Abs
open Go Go.RowKit

/-! ### which operations stand before which -/
def bitsOf (acc : Array Nat) (o : Oper) : Nat := o.after.foldl (fun s e => if Region.binds .any e then s ||| 2 ^ e.on ||| acc.getD e.on 0 else s) 0

theorem bitsOf_test {acc : Array Nat} {o : Oper} {i : Nat} (h : (bitsOf acc o).testBit i = true) : ∃ e ∈ o.after.toList, Region.binds .any e = true ∧ (e.on = i ∨ (acc.getD e.on 0).testBit i = true) := by
  unfold bitsOf at h
  rw [← Array.foldl_toList] at h
  have key : ∀ (l : List Edge) (s : Nat), ((l.foldl (fun s e => if Region.binds .any e then s ||| 2 ^ e.on ||| acc.getD e.on 0 else s) s).testBit i = true) → s.testBit i = true ∨ ∃ e ∈ l, Region.binds .any e = true ∧ (e.on = i ∨ (acc.getD e.on 0).testBit i = true) := by
    intro l
    induction l with
    | nil => intro s h; exact .inl h
    | cons e l ih =>
      intro s h
      simp only [List.foldl_cons] at h
      rcases ih _ h with h1 | ⟨e', h1, h2⟩
      · split at h1
        · rename_i hb
          simp only [Nat.testBit_or, Bool.or_eq_true] at h1
          rcases h1 with (h1 | h1) | h1
          · exact .inl h1
          · rw [Nat.testBit_two_pow] at h1
            exact .inr ⟨e, by simp, hb, .inl (by simpa using h1)⟩
          · exact .inr ⟨e, by simp, hb, .inr h1⟩
        · exact .inl h1
      · exact .inr ⟨e', by simp [h1], h2⟩
  rcases key _ _ h with h1 | h1
  · simp at h1
  · exact h1

theorem before_eq (ops : Array Oper) : Region.before ops = ops.toList.foldl (fun acc o => acc.push (bitsOf acc o)) #[] := by
  unfold Region.before bitsOf
  rw [← Array.foldl_toList]

theorem before_fold : ∀ (l : List Oper) (acc : Array Nat),
    (∀ k, k < acc.size → (l.foldl (fun acc o => acc.push (bitsOf acc o)) acc).getD k 0 = acc.getD k 0) ∧
    (∀ m o, l[m]? = some o → ∀ i, ((l.foldl (fun acc o => acc.push (bitsOf acc o)) acc).getD (acc.size + m) 0).testBit i = true →
      ∃ e ∈ o.after.toList, Region.binds .any e = true ∧ (e.on = i ∨ ((l.foldl (fun acc o => acc.push (bitsOf acc o)) acc).getD e.on 0).testBit i = true))
  | [], acc => ⟨fun _ _ => rfl, fun m o h => by simp at h⟩
  | o :: l, acc => by
    obtain ⟨h1, h2⟩ := before_fold l (acc.push (bitsOf acc o))
    simp only [List.foldl_cons]
    have hold : ∀ k, k < acc.size → (acc.push (bitsOf acc o)).getD k 0 = acc.getD k 0 := by
      intro k hk
      simp only [Array.getD_eq_getD_getElem?, Array.getElem?_push]
      rw [if_neg (by omega)]
    refine ⟨fun k hk => (h1 k (by simp; omega)).trans (hold k hk), ?_⟩
    intro m o' hm i hi
    cases m with
    | zero =>
      simp only [List.getElem?_cons_zero, Option.some.injEq] at hm
      subst hm
      rw [Nat.add_zero, h1 acc.size (by simp)] at hi
      have : (acc.push (bitsOf acc o)).getD acc.size 0 = bitsOf acc o := by
        simp [Array.getD_eq_getD_getElem?]
      rw [this] at hi
      obtain ⟨e, he, hb, h3⟩ := bitsOf_test hi
      refine ⟨e, he, hb, ?_⟩
      rcases h3 with h3 | h3
      · exact .inl h3
      · right
        by_cases hlt : e.on < acc.size
        · rw [h1 e.on (by simp; omega), hold e.on hlt]; exact h3
        · rw [Array.getD_eq_getD_getElem?, Array.getElem?_eq_none (by omega)] at h3
          simp at h3
    | succ m =>
      simp only [List.getElem?_cons_succ] at hm
      have := h2 m o' hm i (by
        rw [Array.size_push]
        rwa [show acc.size + 1 + m = acc.size + (m + 1) by omega])
      exact this

theorem before_test {ops : Array Oper} {j : Nat} {o : Oper} (ho : ops[j]? = some o) {i : Nat} (h : ((Region.before ops).getD j 0).testBit i = true) :
    ∃ e ∈ o.after.toList, Region.binds .any e = true ∧ (e.on = i ∨ ((Region.before ops).getD e.on 0).testBit i = true) := by
  rw [before_eq] at h ⊢
  refine (before_fold ops.toList #[]).2 j o (by rw [Array.getElem?_toList]; exact ho) i ?_
  simpa using h

structure RegOk (ops : Array Oper) : Prop where
  back : ∀ (j : Nat) (o : Oper), ops[j]? = some o → ∀ e ∈ o.after.toList, Region.binds .any e = true → e.on < j
  apart : ∀ (i j : Nat) (oi oj : Oper), ops[i]? = some oi → ops[j]? = some oj → ∀ d, oi.dst = some d → d ∈ namesOf ops oj → comparable (Region.before ops) i j = true

theorem regOk_of {ops : Array Oper} (h : regOk ops = true) : RegOk ops := by
  unfold regOk at h
  simp only [List.all_eq_true, List.mem_range] at h
  constructor
  · intro j o ho e he hb
    have hj : j < ops.size := (Array.getElem?_eq_some_iff.1 ho).1
    have := h j hj
    rw [ho] at this
    simp only [Bool.and_eq_true, List.all_eq_true] at this
    have := this.1 e he
    simpa [hb] using this
  · intro i j oi oj hi hj d hd hn
    have hj' : j < ops.size := (Array.getElem?_eq_some_iff.1 hj).1
    have hi' : i < ops.size := (Array.getElem?_eq_some_iff.1 hi).1
    have := h j hj'
    rw [hj] at this
    simp only [Bool.and_eq_true, List.all_eq_true, List.mem_range] at this
    have := this.2 i hi'
    rw [hi] at this
    simp only [hd, Bool.or_eq_true] at this
    rcases this with h1 | h1
    · exact h1
    · simp [hn] at h1

/-- Listed before: all that stands before what is listed is listed. -/
def Closed (ops : Array Oper) (L : Nat → Prop) : Prop := ∀ j, L j → ∀ i, ((Region.before ops).getD j 0).testBit i = true → L i

theorem Closed.ready {ops : Array Oper} {L : Nat → Prop} (h : Closed ops L) {j : Nat} {o : Oper} (ho : ops[j]? = some o) (hr : ∀ e ∈ o.after.toList, Region.binds .any e = true → L e.on) :
    ∀ i, ((Region.before ops).getD j 0).testBit i = true → L i := by
  intro i hi
  obtain ⟨e, he, hb, h1⟩ := before_test ho hi
  rcases h1 with h1 | h1
  · exact h1 ▸ hr e he hb
  · exact h e.on (hr e he hb) i h1

/-! ### a run in the order of the text -/
structure Trace (E : Env) (call : CallFn) (ops : Array Oper) (cs : List Nat) (T : Nat → List Value) (Z : Nat → St) (V : Nat → Value) (Z1 : Nat → St) : Prop where
  step : ∀ (k : Nat) (o : Oper), ops[k]? = some o → aoper E call ops o (T k) ⟨(Z k).n, (Z k).h, (Z k).n⟩ = some (V k, Z1 k)
  nextT : ∀ (k : Nat) (o : Oper), ops[k]? = some o → T (k + 1) = aput (T k) o.dst (V k)
  nextS : ∀ (k : Nat) (o : Oper), ops[k]? = some o → Z (k + 1) = ⟨(Z1 k).n, (Z1 k).h, Nat.min (Z k).low (Z1 k).low⟩
  cls : ∀ (k : Nat) (o : Oper), ops[k]? = some o → cs[k]? = some (acls (allPf (aeval (T k)) o && pf (V k)) (Z k) (Z1 k))

theorem trace_of {E : Env} {call : CallFn} {ops : Array Oper} : ∀ (l : List Oper) (i : Nat) {t : List Value} {S : St} {cs : List Nat} {t' : List Value} {S' : St}, ops.toList.drop i = l → aopsD E call ops l t S = some (cs, t', S') →
    ∃ (T : Nat → List Value) (Z : Nat → St) (V : Nat → Value) (Z1 : Nat → St), T i = t ∧ Z i = S ∧ T (i + l.length) = t' ∧ Z (i + l.length) = S' ∧ cs.length = l.length ∧
      ∀ (k : Nat) (o : Oper), i ≤ k → ops[k]? = some o → aoper E call ops o (T k) ⟨(Z k).n, (Z k).h, (Z k).n⟩ = some (V k, Z1 k) ∧ T (k + 1) = aput (T k) o.dst (V k) ∧
        Z (k + 1) = ⟨(Z1 k).n, (Z1 k).h, Nat.min (Z k).low (Z1 k).low⟩ ∧ cs[k - i]? = some (acls (allPf (aeval (T k)) o && pf (V k)) (Z k) (Z1 k))
  | [], i, t, S, cs, t', S', hl, h => by
    simp only [aopsD, Option.some.injEq, Prod.mk.injEq] at h
    obtain ⟨rfl, rfl, rfl⟩ := h
    refine ⟨fun _ => t, fun _ => S, fun _ => undef, fun _ => S, rfl, rfl, rfl, rfl, rfl, ?_⟩
    intro k o hk ho
    rw [← Array.getElem?_toList] at ho
    have : (ops.toList.drop i)[k - i]? = some o := by rw [List.getElem?_drop]; rwa [show i + (k - i) = k by omega]
    rw [hl] at this
    simp at this
  | o :: l, i, t, S, cs, t', S', hl, h => by
    unfold aopsD at h
    split at h
    · rename_i v S1 h1
      split at h
      · rename_i cs2 t2 S2 h2
        simp only [Option.some.injEq, Prod.mk.injEq] at h
        obtain ⟨rfl, rfl, rfl⟩ := h
        have hl' : ops.toList.drop (i + 1) = l := by
          have := congrArg (List.drop 1) hl
          simpa [List.drop_drop, Nat.add_comm] using this
        have hi : ops[i]? = some o := by
          rw [← Array.getElem?_toList]
          have := congrArg (fun l => l[0]?) hl
          simpa [List.getElem?_drop] using this
        obtain ⟨T, Z, V, Z1, g1, g2, g3, g4, g5, g6⟩ := trace_of l (i + 1) hl' h2
        refine ⟨fun k => if k = i then t else T k, fun k => if k = i then S else Z k, fun k => if k = i then v else V k, fun k => if k = i then S1 else Z1 k, by simp, by simp, ?_, ?_, by simp [g5], ?_⟩
        · simp only [List.length_cons]
          rw [if_neg (by omega), ← g3]
          congr 1
          omega
        · simp only [List.length_cons]
          rw [if_neg (by omega), ← g4]
          congr 1
          omega
        · intro k o' hk ho'
          by_cases he : k = i
          · subst he
            rw [hi] at ho'
            cases ho'
            simp only [if_true, Nat.sub_self, List.getElem?_cons_zero]
            rw [if_neg (by omega), if_neg (by omega)]
            exact ⟨h1, g1, g2, trivial⟩
          · simp only [if_neg he]
            rw [if_neg (by omega), if_neg (by omega)]
            obtain ⟨m1, m2, m3, m4⟩ := g6 k o' (by omega) ho'
            refine ⟨m1, m2, m3, ?_⟩
            rw [show k - i = (k - (i + 1)) + 1 by omega, List.getElem?_cons_succ]
            exact m4
      · cases h
    · cases h

end Go.Abs

namespace Go.Abs
open Go Go.RowKit

def Phi.below (φ : Phi) (n : Nat) : Phi := fun b => if b < n then φ b else none

theorem Phi.below_some {φ : Phi} {n b : Nat} {l : Loc} : (φ.below n) b = some l ↔ b < n ∧ φ b = some l := by
  unfold Phi.below
  by_cases h : b < n <;> simp [h]

theorem Phi.below_mono {φ ψ : Phi} {n m : Nat} (h : ∀ b l, φ b = some l → ψ b = some l) (hn : n ≤ m) : ∀ b l, (φ.below n) b = some l → (ψ.below m) b = some l := by
  intro b l hb
  rw [Phi.below_some] at hb ⊢
  exact ⟨by omega, h b l hb.2⟩

theorem Phi.below_all {φ : Phi} {n : Nat} (h : ∀ b l, φ b = some l → b < n) : φ.below n = φ := by
  funext b
  unfold Phi.below
  split
  · rfl
  · rename_i hb
    cases hq : φ b with
    | none => rfl
    | some l => exact absurd (h b l hq) hb

section
variable {E : Env} {N0 : Nat} {φ : Phi} {S : St} {w : World}

theorem Sim.relow (h : Sim E N0 φ S w) (low : Nat) : Sim E N0 φ ⟨S.n, S.h, low⟩ w := ⟨h.n_eq, h.glob, h.gN0, h.gphi, h.N0le, h.blk, h.excl⟩

theorem Sim.lt (h : Sim E N0 φ S w) {b : Nat} {l : Loc} (hb : φ b = some l) : b < S.n := by
  obtain ⟨x, hx, _⟩ := h.blk b l hb
  exact St.get_lt h.n_eq hx

theorem Sim.blk_lt (h : Sim E N0 φ S w) {b : Nat} {l : Loc} (hb : φ b = some l) : l.blk < w.heap.size := by
  obtain ⟨x, hx, hx2⟩ := h.blk b l hb
  exact hx2.there

/-- The world has grown, what was there is as it was. -/
theorem Sim.world (h : Sim E N0 φ S w) {w' : World} (hs : w.heap.size ≤ w'.heap.size) (hold : ∀ B, B < w.heap.size → w'.heap[B]? = w.heap[B]?) : Sim E N0 φ S w' where
  n_eq := h.n_eq
  glob := ⟨fun g x hg => by
    obtain ⟨h1, c, e, fz, h2, h3, h4⟩ := h.glob.out g x hg
    exact ⟨h1, c, e, fz, h2, h3, (hold g (Array.getElem?_eq_some_iff.1 h4).1).trans h4⟩⟩
  gN0 := h.gN0
  gphi := h.gphi
  N0le := Nat.le_trans h.N0le hs
  blk := fun b l hb => by
    obtain ⟨x, hx, hx2⟩ := h.blk b l hb
    exact ⟨x, hx, hx2.mono (fun _ _ h => h) (hold _ hx2.there)⟩
  excl := h.excl

/-- Another heap of the evaluator that agrees on what is mapped. -/
theorem Sim.later (h : Sim E N0 φ S w) {S' : St} (hn : S'.n = E.base + S'.h.length) (hget : ∀ b l, φ b = some l → S'.get E b = S.get E b) : Sim E N0 φ S' w where
  n_eq := hn
  glob := h.glob
  gN0 := h.gN0
  gphi := h.gphi
  N0le := h.N0le
  blk := fun b l hb => by
    obtain ⟨x, hx, hx2⟩ := h.blk b l hb
    exact ⟨x, (hget b l hb).trans hx, hx2⟩
  excl := fun b b' l l' hb hb' hne hblk => by
    obtain ⟨c, e, t, c', e', t', g1, g2, g3⟩ := h.excl b b' l l' hb hb' hne hblk
    exact ⟨c, e, t, c', e', t', (hget b l hb).trans g1, (hget b' l' hb').trans g2, g3⟩

/-- The variables of the packages alone. -/
theorem Sim.globOnly (h : Sim E N0 φ S w) {S' : St} (hn : S'.n = E.base + S'.h.length) : Sim E N0 (φ.below E.base) S' w where
  n_eq := hn
  glob := h.glob
  gN0 := h.gN0
  gphi := fun g c e t hg => by
    rw [Phi.below_some]
    exact ⟨(h.glob.out g _ hg).1, h.gphi g c e t hg⟩
  N0le := h.N0le
  blk := fun b l hb => by
    rw [Phi.below_some] at hb
    obtain ⟨hlt, hb⟩ := hb
    obtain ⟨x, hx, hx2⟩ := h.blk b l hb
    have hgl : E.glob b = some x := by simpa [St.get, hlt] using hx
    refine ⟨x, by simp [St.get, hlt, hgl], ?_⟩
    obtain ⟨_, c, e, fz, rfl, hpf, _⟩ := h.glob.out b x hgl
    obtain ⟨k0, C, fz', k1, k2, k3, k4, k5⟩ := hx2
    refine ⟨k0, C, fz', k1, k2, k3, ?_, k5⟩
    have := VRL.eq_of_pfL k4 hpf
    rw [this]
    exact VRL.of_pfL _ _ hpf
  excl := fun b b' l l' hb hb' hne hblk => by
    rw [Phi.below_some] at hb hb'
    obtain ⟨c, e, t, c', e', t', g1, g2, g3⟩ := h.excl b b' l l' hb.2 hb'.2 hne hblk
    refine ⟨c, e, t, c', e', t', ?_, ?_, g3⟩
    · simpa [St.get, hb.1] using g1
    · simpa [St.get, hb'.1] using g2

/-- What was there, and what is new. -/
theorem Sim.merge {α β ψ : Phi} {S1 : St} {w' : World} (hA : Sim E N0 α S w) (hB : Sim E N0 β S1 w') (hold : ∀ B, B < w.heap.size → w'.heap[B]? = w.heap[B]?)
    (hα : ∀ b l, α b = some l → ψ b = some l) (hβ : ∀ b l, β b = some l → ψ b = some l)
    (hψ : ∀ b l, ψ b = some l → α b = some l ∨ (β b = some l ∧ w.heap.size ≤ l.blk ∧ S.get E b = S1.get E b)) : Sim E N0 ψ S w' where
  n_eq := hA.n_eq
  glob := hB.glob
  gN0 := hA.gN0
  gphi := fun g c e t hg => hα _ _ (hA.gphi g c e t hg)
  N0le := hB.N0le
  blk := fun b l hb => by
    rcases hψ b l hb with h1 | ⟨h1, h2, h3⟩
    · obtain ⟨x, hx, hx2⟩ := hA.blk b l h1
      exact ⟨x, hx, hx2.mono hα (hold _ hx2.there)⟩
    · obtain ⟨x, hx, hx2⟩ := hB.blk b l h1
      exact ⟨x, h3.trans hx, hx2.mono hβ rfl⟩
  excl := fun b b' l l' hb hb' hne hblk => by
    rcases hψ b l hb with h1 | ⟨h1, h2, h3⟩ <;> rcases hψ b' l' hb' with k1 | ⟨k1, k2, k3⟩
    · exact hA.excl b b' l l' h1 k1 hne hblk
    · have := hA.blk_lt h1; omega
    · have := hA.blk_lt k1; omega
    · obtain ⟨c, e, t, c', e', t', g1, g2, g3⟩ := hB.excl b b' l l' h1 k1 hne hblk
      exact ⟨c, e, t, c', e', t', h3.trans g1, k3.trans g2, g3⟩

end

/-! ### facts of the run in the order of the text -/
section
variable {E : Env} {call : CallFn} {ops : Array Oper} {cs : List Nat} {T : Nat → List Value} {Z : Nat → St} {V : Nat → Value} {Z1 : Nat → St}

theorem op_at {k : Nat} (h : k < ops.size) : ∃ o, ops[k]? = some o := ⟨ops[k], by simp [h]⟩

theorem Trace.ks (hc : CallKeep E call) (ht : Trace E call ops cs T Z V Z1) {k : Nat} (hk : k < ops.size) : KS E ⟨(Z k).n, (Z k).h, (Z k).n⟩ (Z1 k) := by
  obtain ⟨o, ho⟩ := op_at hk
  exact aoper_keep hc (ht.step k o ho)

theorem Trace.n_eq (hc : CallKeep E call) (ht : Trace E call ops cs T Z V Z1) (h0 : (Z 0).n = E.base + (Z 0).h.length) : ∀ k, k ≤ ops.size → (Z k).n = E.base + (Z k).h.length
  | 0, _ => h0
  | k + 1, hk => by
    obtain ⟨o, ho⟩ := op_at (show k < ops.size by omega)
    rw [ht.nextS k o ho]
    exact (ht.ks hc (by omega)).n_eq (ht.n_eq hc h0 k (by omega))

theorem Trace.n_step (hc : CallKeep E call) (ht : Trace E call ops cs T Z V Z1) {k : Nat} (hk : k < ops.size) : (Z k).n ≤ (Z (k + 1)).n := by
  obtain ⟨o, ho⟩ := op_at hk
  rw [ht.nextS k o ho]
  exact (ht.ks hc hk).n_le

theorem Trace.n_mono (hc : CallKeep E call) (ht : Trace E call ops cs T Z V Z1) {j : Nat} : ∀ k, j ≤ k → k ≤ ops.size → (Z j).n ≤ (Z k).n
  | 0, h, _ => by have : j = 0 := by omega
                  subst this; exact Nat.le_refl _
  | k + 1, h, hk => by
    by_cases he : j = k + 1
    · subst he; exact Nat.le_refl _
    · exact Nat.le_trans (ht.n_mono hc k (by omega) (by omega)) (ht.n_step hc (by omega))

theorem Trace.low_mono (ht : Trace E call ops cs T Z V Z1) {j : Nat} : ∀ k, j ≤ k → k ≤ ops.size → (Z k).low ≤ (Z j).low
  | 0, h, _ => by have : j = 0 := by omega
                  subst this; exact Nat.le_refl _
  | k + 1, h, hk => by
    by_cases he : j = k + 1
    · subst he; exact Nat.le_refl _
    · obtain ⟨o, ho⟩ := op_at (show k < ops.size by omega)
      refine Nat.le_trans ?_ (ht.low_mono k (by omega) (by omega))
      rw [ht.nextS k o ho]
      exact Nat.min_le_left _ _

theorem Trace.low_le1 (ht : Trace E call ops cs T Z V Z1) {j : Nat} (hj : j < ops.size) : (Z ops.size).low ≤ (Z1 j).low := by
  obtain ⟨o, ho⟩ := op_at hj
  refine Nat.le_trans (ht.low_mono (j := j + 1) ops.size (by omega) (Nat.le_refl _)) ?_
  rw [ht.nextS j o ho]
  exact Nat.min_le_right _ _

theorem acls_two {p : Bool} {S S1 : St} (h : acls p S S1 ≠ 2) : S.n ≤ S1.low := by
  unfold acls at h
  split at h
  · assumption
  · exact absurd rfl h

theorem acls_zero {p : Bool} {S S1 : St} (h : acls p S S1 = 0) : S.n ≤ S1.low ∧ p = true ∧ S1.n = S.n := by
  unfold acls at h
  split at h
  · rename_i h1
    split at h
    · rename_i h2
      simp only [Bool.and_eq_true, beq_iff_eq] at h2
      exact ⟨h1, h2.1, h2.2⟩
    · cases h
  · cases h

theorem Trace.quiet (ht : Trace E call ops cs T Z V Z1) {k : Nat} (hk : k < ops.size) (h : cs[k]? ≠ some 2) : (Z k).n ≤ (Z1 k).low := by
  obtain ⟨o, ho⟩ := op_at hk
  rw [ht.cls k o ho] at h
  exact acls_two (fun he => h (by rw [he]))

theorem Trace.get_step (hc : CallKeep E call) (ht : Trace E call ops cs T Z V Z1) (h0 : (Z 0).n = E.base + (Z 0).h.length) {k : Nat} (hk : k < ops.size) (h : cs[k]? ≠ some 2) {b : Nat} (hb : b < (Z k).n) :
    (Z (k + 1)).get E b = (Z k).get E b := by
  obtain ⟨o, ho⟩ := op_at hk
  rw [ht.nextS k o ho]
  have := (ht.ks hc hk).keep (ht.n_eq hc h0 k (by omega)) b hb (Nat.lt_of_lt_of_le hb (ht.quiet hk h))
  exact this

theorem Trace.get_chain (hc : CallKeep E call) (ht : Trace E call ops cs T Z V Z1) (h0 : (Z 0).n = E.base + (Z 0).h.length) {j : Nat} {b : Nat} (hb : b < (Z j).n) : ∀ k, j ≤ k → k ≤ ops.size → (∀ i, j ≤ i → i < k → cs[i]? ≠ some 2) →
    (Z k).get E b = (Z j).get E b
  | 0, h, _, _ => by have : j = 0 := by omega
                     subst this; rfl
  | k + 1, h, hk, hq => by
    by_cases he : j = k + 1
    · subst he; rfl
    · rw [ht.get_step hc h0 (by omega) (hq k (by omega) (by omega)) (Nat.lt_of_lt_of_le hb (ht.n_mono hc k (by omega) (by omega)))]
      exact ht.get_chain hc h0 hb k (by omega) (by omega) (fun i h1 h2 => hq i h1 (by omega))

/-- Who wrote a temporary last. -/
theorem Trace.last (ht : Trace E call ops cs T Z V Z1) {d : Nat} (hd : d < (T 0).length) : ∀ j, j ≤ ops.size → (T j).length = (T 0).length ∧
    (((T j)[d]? = (T 0)[d]? ∧ ∀ k o, k < j → ops[k]? = some o → o.dst ≠ some d) ∨
      ∃ k o, k < j ∧ ops[k]? = some o ∧ o.dst = some d ∧ (T j)[d]? = some (V k) ∧ ∀ k' o', k < k' → k' < j → ops[k']? = some o' → o'.dst ≠ some d)
  | 0, _ => ⟨rfl, .inl ⟨rfl, fun k o h => by omega⟩⟩
  | j + 1, hj => by
    obtain ⟨o, ho⟩ := op_at (show j < ops.size by omega)
    obtain ⟨hl, ih⟩ := ht.last hd j (by omega)
    rw [ht.nextT j o ho]
    cases hdst : o.dst with
    | none =>
      refine ⟨hl, ?_⟩
      simp only [aput]
      rcases ih with ⟨h1, h2⟩ | ⟨k, o1, h1, h2, h3, h4, h5⟩
      · refine .inl ⟨h1, fun k o' hk ho' => ?_⟩
        by_cases he : k = j
        · subst he; rw [ho] at ho'; cases ho'; rw [hdst]; simp
        · exact h2 k o' (by omega) ho'
      · refine .inr ⟨k, o1, by omega, h2, h3, h4, fun k' o' hk hk' ho' => ?_⟩
        by_cases he : k' = j
        · subst he; rw [ho] at ho'; cases ho'; rw [hdst]; simp
        · exact h5 k' o' hk (by omega) ho'
    | some e =>
      simp only [aput]
      refine ⟨by simp [hl], ?_⟩
      by_cases hed : e = d
      · subst hed
        exact .inr ⟨j, o, by omega, ho, hdst, by rw [List.getElem?_set_self (by omega)], fun k' o' hk hk' => by omega⟩
      · rw [List.getElem?_set_ne hed]
        rcases ih with ⟨h1, h2⟩ | ⟨k, o1, h1, h2, h3, h4, h5⟩
        · refine .inl ⟨h1, fun k o' hk ho' => ?_⟩
          by_cases he : k = j
          · subst he; rw [ho] at ho'; cases ho'; rw [hdst]; simpa using hed
          · exact h2 k o' (by omega) ho'
        · refine .inr ⟨k, o1, by omega, h2, h3, h4, fun k' o' hk hk' ho' => ?_⟩
          by_cases he : k' = j
          · subst he; rw [ho] at ho'; cases ho'; rw [hdst]; simpa using hed
          · exact h5 k' o' hk (by omega) ho'

end
end Go.Abs

namespace Go.Abs
open Go Go.RowKit

/-- What holds when some operations of a region have been carried out: those that are listed. m: the first one that writes to what was there and isn't listed. -/
structure Inv (E : Env) (N0 : Nat) (ops : Array Oper) (cs : List Nat) (T : Nat → List Value) (Z : Nat → St) (V : Nat → Value) (φ0 : Phi) (w0 : World) (a0 : Act) (L : Nat → Prop) (m : Nat) (φ : Phi) (a : Act) (w : World) : Prop where
  dom : ∀ k, L k → k < ops.size
  closed : Closed ops L
  mle : m ≤ ops.size
  done : ∀ k, k < m → cs[k]? = some 2 → L k
  next : m < ops.size → cs[m]? = some 2 ∧ ¬ L m
  nonP : ∀ k, L k → cs[k]? ≠ some 0 → k < m
  own : ∀ b l, φ b = some l → b < (Z 0).n ∨ ∃ k, L k ∧ cs[k]? ≠ some 0 ∧ (Z k).n ≤ b ∧ b < (Z (k + 1)).n
  sim : ∀ j, j ≤ m → (∀ k, j ≤ k → k < m → cs[k]? ≠ some 2) → Sim E N0 (φ.below (Z j).n) (Z j) w
  ext : ∀ b l, φ0 b = some l → φ b = some l
  size : a.tmps.size = (T 0).length
  defers : a.defers = a0.defers
  tm0 : ∀ d, d < (T 0).length → (∀ k o, L k → ops[k]? = some o → o.dst ≠ some d) → VR φ0 (((T 0)[d]?).getD undef) (a.tmps[d]?.getD undef)
  tm : ∀ d, d < (T 0).length → ∀ k o, L k → ops[k]? = some o → o.dst = some d → (∀ k' o', L k' → ops[k']? = some o' → o'.dst = some d → k' ≤ k) → VR (φ.below (Z (k + 1)).n) (V k) (a.tmps[d]?.getD undef)
  new : ∀ b l, φ b = some l → φ0 b = some l ∨ ((Z 0).n ≤ b ∧ (w0.heap.size ≤ l.blk ∨ ∃ b0 l0, φ0 b0 = some l0 ∧ (Z ops.size).low ≤ b0 ∧ l0.blk = l.blk))
  below : Below N0 w0 w
  frame : ∀ B, B < w0.heap.size → (∀ b l, φ0 b = some l → (Z ops.size).low ≤ b → l.blk ≠ B) → w.heap[B]? = w0.heap[B]?

section
variable {E : Env} {N0 : Nat} {call : CallFn} {ops : Array Oper} {cs : List Nat} {T : Nat → List Value} {Z : Nat → St} {V : Nat → Value} {Z1 : Nat → St} {φ0 : Phi} {w0 : World} {a0 : Act} {L : Nat → Prop} {m : Nat} {φ : Phi} {a : Act} {w : World}

theorem comparable_lt {b : Array Nat} {i j : Nat} (h : comparable b i j = true) (hij : i < j) : (b.getD j 0).testBit i = true := by
  unfold comparable at h
  rwa [if_pos hij] at h

theorem comparable_gt {b : Array Nat} {i j : Nat} (h : comparable b i j = true) (hij : j < i) : (b.getD i 0).testBit j = true := by
  unfold comparable at h
  rwa [if_neg (by omega), if_pos hij] at h

theorem comparable_symm {b : Array Nat} {i j : Nat} (h : comparable b i j = true) : comparable b j i = true := by
  unfold comparable at h ⊢
  by_cases h1 : i < j
  · rw [if_pos h1] at h
    rw [if_neg (by omega), if_pos h1]; exact h
  · by_cases h2 : j < i
    · rw [if_neg h1, if_pos h2] at h
      rw [if_pos h2]; exact h
    · rw [if_neg h2, if_neg h1]

/-- What an operation that is ready reads is what it read in the order of the text. -/
theorem Inv.reads (hc : CallKeep E call) (ht : Trace E call ops cs T Z V Z1) (hr : RegOk ops) (I : Inv E N0 ops cs T Z V φ0 w0 a0 L m φ a w) (h0 : ∀ b l, φ0 b = some l → b < (Z 0).n)
    {j : Nat} {o : Oper} (ho : ops[j]? = some o) (hj : ¬ L j) (hrdy : ∀ i, ((Region.before ops).getD j 0).testBit i = true → L i) {d : Nat} (hd : d ∈ namesOf ops o) :
    VR (φ.below (Z j).n) (((T j)[d]?).getD undef) (a.tmps[d]?.getD undef) := by
  have hjs : j < ops.size := (Array.getElem?_eq_some_iff.1 ho).1
  by_cases hdl : d < (T 0).length
  · obtain ⟨hl, h⟩ := ht.last hdl j (by omega)
    have hwL : ∀ k o', ops[k]? = some o' → o'.dst = some d → (L k ↔ k < j) := by
      intro k o' ho' hdst
      have hcmp := hr.apart k j o' o ho' ho d hdst hd
      constructor
      · intro hk
        rcases Nat.lt_trichotomy k j with h1 | h1 | h1
        · exact h1
        · subst h1; exact absurd hk hj
        · exact absurd (I.closed k hk j (comparable_gt hcmp h1)) hj
      · intro hk
        exact hrdy k (comparable_lt hcmp hk)
    rcases h with ⟨h1, h2⟩ | ⟨k, o', h1, h2, h3, h4, h5⟩
    · rw [h1]
      refine VR.mono ?_ (I.tm0 d hdl fun k o' hk ho' hdst => h2 k o' ((hwL k o' ho' hdst).1 hk) ho' hdst)
      intro b l hb
      rw [Phi.below_some]
      exact ⟨Nat.lt_of_lt_of_le (h0 b l hb) (ht.n_mono hc j (Nat.zero_le _) (by omega)), I.ext b l hb⟩
    · rw [h4]
      refine VR.mono (Phi.below_mono (fun _ _ h => h) (ht.n_mono hc j (by omega) (by omega))) (I.tm d hdl k o' ((hwL k o' h2 h3).2 h1) h2 h3 fun k' o'' hk' ho'' hdst => ?_)
      have := (hwL k' o'' ho'' hdst).1 hk'
      by_cases hle : k' ≤ k
      · exact hle
      · exact absurd hdst (h5 k' o'' (by omega) this ho'')
  · have e1 : (T j)[d]? = none := by
      rw [List.getElem?_eq_none_iff]
      by_cases hz : 0 < (T 0).length
      · have := (ht.last hz j (by omega)).1
        omega
      · have hlen : ∀ k, k ≤ ops.size → (T k).length = (T 0).length := by
          intro k
          induction k with
          | zero => intro _; rfl
          | succ k ih =>
            intro hk
            obtain ⟨o', ho'⟩ := op_at (show k < ops.size by omega)
            rw [ht.nextT k o' ho']
            cases o'.dst <;> simp [aput, ih (by omega)]
        have := hlen j (by omega)
        omega
    have e2 : a.tmps[d]? = none := by
      rw [Array.getElem?_eq_none_iff, I.size]
      omega
    rw [e1, e2]
    exact VR.undef

/-- The temporaries behind an operation. -/
theorem put_get (a : Act) (dst : Option Tmp) (v : Value) (d : Nat) : (a.put dst v).tmps[d]? = if dst = some d ∧ d < a.tmps.size then some v else a.tmps[d]? := by
  cases dst with
  | none => simp [Act.put]
  | some e =>
    simp only [Act.put, Option.some.injEq]
    by_cases h : e = d
    · subst h
      by_cases hl : e < a.tmps.size
      · simp [hl]
      · simp [hl]
    · rw [Array.getElem?_setIfInBounds_ne h, if_neg (by rintro ⟨h1, _⟩; exact h h1)]

theorem put_size (a : Act) (dst : Option Tmp) (v : Value) : (a.put dst v).tmps.size = a.tmps.size := by
  cases dst <;> simp [Act.put]

theorem Inv.tms (I : Inv E N0 ops cs T Z V φ0 w0 a0 L m φ a w) (hr : RegOk ops) {j : Nat} {o : Oper} (ho : ops[j]? = some o) (hj : ¬ L j)
    {ψ : Phi} {v' : Value} (hψ : ∀ b l, φ b = some l → ψ b = some l) (hv : VR (ψ.below (Z (j + 1)).n) (V j) v') :
    (∀ d, d < (T 0).length → (∀ k o', (L k ∨ k = j) → ops[k]? = some o' → o'.dst ≠ some d) → VR φ0 (((T 0)[d]?).getD undef) ((a.put o.dst v').tmps[d]?.getD undef)) ∧
    (∀ d, d < (T 0).length → ∀ k o', (L k ∨ k = j) → ops[k]? = some o' → o'.dst = some d → (∀ k' o'', (L k' ∨ k' = j) → ops[k']? = some o'' → o''.dst = some d → k' ≤ k) → VR (ψ.below (Z (k + 1)).n) (V k) ((a.put o.dst v').tmps[d]?.getD undef)) := by
  constructor
  · intro d hd h
    rw [put_get, if_neg (by rintro ⟨h1, _⟩; exact h j o (.inr rfl) ho h1)]
    exact I.tm0 d hd fun k o' hk ho' => h k o' (.inl hk) ho'
  · intro d hd k o' hk ho' hdst hmax
    rw [put_get]
    by_cases hjd : o.dst = some d
    · rw [if_pos ⟨hjd, by rw [I.size]; exact hd⟩]
      have hkj : k = j := by
        rcases hk with hk | hk
        · exfalso
          have h1 := hmax j o (.inr rfl) ho hjd
          have hcmp := hr.apart j k o o' ho ho' d hjd (by unfold namesOf; rw [hdst]; simp)
          rcases Nat.lt_or_ge j k with h2 | h2
          · exact hj (I.closed k hk j (comparable_lt hcmp h2))
          · have : j = k := by omega
            subst this
            exact hj hk
        · exact hk
      subst hkj
      exact hv
    · rw [if_neg (by rintro ⟨h1, _⟩; exact hjd h1)]
      rcases hk with hk | hk
      · exact VR.mono (Phi.below_mono hψ (Nat.le_refl _)) (I.tm d hd k o' hk ho' hdst fun k' o'' hk' => hmax k' o'' (.inl hk'))
      · subst hk
        rw [ho] at ho'
        cases ho'
        exact absurd hdst hjd

theorem aordered_spec (h : aordered ops cs = true) {i j : Nat} (hi : cs[i]? = some 2) {c : Nat} (hj : cs[j]? = some c) (hc : c ≠ 0) : comparable (Region.before ops) i j = true := by
  unfold aordered at h
  split at h
  · rename_i hall
    simp only [List.all_eq_true] at hall
    have := hall 2 (List.mem_of_getElem? hi)
    simp at this
  · simp only [List.all_eq_true] at h
    have h1 := h (2, i) (by rw [List.mk_mem_zipIdx_iff_getElem?]; exact hi)
    simp only [bne_self_eq_false, Bool.false_or, List.all_eq_true] at h1
    have h2 := h1 (c, j) (by rw [List.mk_mem_zipIdx_iff_getElem?]; exact hj)
    simpa [hc] using h2

/-- One operation more. -/
theorem Inv.step (hP : ProgOK E) (hcall : CallGood E N0 call) (hc : CallKeep E call) (ht : Trace E call ops cs T Z V Z1) (hr : RegOk ops) (hord : aordered ops cs = true)
    (hz0 : (Z 0).n = E.base + (Z 0).h.length) (h0 : ∀ b l, φ0 b = some l → b < (Z 0).n) (I : Inv E N0 ops cs T Z V φ0 w0 a0 L m φ a w)
    {j : Nat} {o : Oper} (ho : ops[j]? = some o) (hj : ¬ L j) (hrdy : ∀ i, ((Region.before ops).getD j 0).testBit i = true → L i) {K : Act → World → Prop} {Q : Exit → Act → World → Prop}
    (hK : ∀ m' φ' a' w', Inv E N0 ops cs T Z V φ0 w0 a0 (fun k => L k ∨ k = j) m' φ' a' w' → K a' w') : wpOp E.P ops Q j K a w := by
  have hjs : j < ops.size := (Array.getElem?_eq_some_iff.1 ho).1
  have hreads := fun {d : Nat} (hd : d ∈ namesOf ops o) => I.reads hc ht hr h0 ho hj hrdy hd
  have hopn : ∀ d, Operand.tmp d ∈ o.op.operands → d ∈ namesOf ops o := by
    intro d hd
    unfold namesOf Oper.looksAt
    simp only [List.mem_append, List.mem_filterMap]
    exact .inr (.inl ⟨.tmp d, by simpa using hd, rfl⟩)
  have hgn : ∀ g b, o.guard = some (g, b) → ∀ d, (ops[g]?).bind (·.dst) = some d → d ∈ namesOf ops o := by
    intro g b hg d hd
    unfold namesOf Oper.looksAt
    simp only [List.mem_append, hg, hd, Option.toList_some, List.mem_singleton]
    exact .inr (.inr trivial)
  have hclosed' : Closed ops (fun k => L k ∨ k = j) := by
    intro k hk i hi
    rcases hk with hk | hk
    · exact .inl (I.closed k hk i hi)
    · subst hk; exact .inl (hrdy i hi)
  have hdom' : ∀ k, (L k ∨ k = j) → k < ops.size := by
    rintro k (hk | hk)
    · exact I.dom k hk
    · omega
  have hstep := ht.step j o ho
  have hcls := ht.cls j o ho
  have hnj : (Z (j + 1)).n = (Z1 j).n := by rw [ht.nextS j o ho]
  have hlow := ht.low_le1 hjs
  have heval : ∀ d, aeval (T j) (.tmp d) = ((T j)[d]?).getD undef := fun _ => rfl
  have heval' : ∀ d, a.eval (.tmp d) = a.tmps[d]?.getD undef := fun d => by simp [Act.eval, Array.getD_eq_getD_getElem?]
  have hzn := ht.n_eq hc hz0 j (by omega)
  -- the sims
  have hsm : Sim E N0 (φ.below (Z m).n) (Z m) w := I.sim m (Nat.le_refl _) (fun k h1 h2 => by omega)
  by_cases hP0 : cs[j]? = some 0
  · -- it did nothing to memory
    rw [hcls] at hP0
    obtain ⟨p1, p2, p3⟩ := acls_zero (Option.some.inj hP0)
    simp only [Bool.and_eq_true] at p2
    obtain ⟨p2, p4⟩ := p2
    have hsg : Sim E N0 (φ.below E.base) ⟨(Z j).n, (Z j).h, (Z j).n⟩ w := by
      have := (hsm.globOnly (S' := ⟨(Z j).n, (Z j).h, (Z j).n⟩) hzn)
      have e : (φ.below (Z m).n).below E.base = φ.below E.base := by
        have hb : E.base ≤ (Z m).n := by rw [ht.n_eq hc hz0 m I.mle]; omega
        funext b
        unfold Phi.below
        split
        · rw [if_pos (by omega)]
        · rfl
      rw [e] at this
      exact this
    refine aoper_good hP hcall hsg ho (fun d hd => ?_) (fun g b hg d hd => ⟨_, hreads (hgn g b hg d hd)⟩) hstep fun φ' w' v' k1 k2 => ?_
    · have hv := hreads (hopn d hd)
      have hpf : pf (aeval (T j) (.tmp d)) = true := by
        unfold allPf at p2
        exact List.all_eq_true.1 p2 (.tmp d) (by simpa using hd)
      rw [heval'] 
      rw [heval] at hpf ⊢
      rw [VR.eq_of_pf hv hpf]
      exact VR.of_pf _ _ hpf
    · have hvv : v' = V j := VR.eq_of_pf k2 p4
      subst hvv
      have hold : ∀ B, B < w.heap.size → w'.heap[B]? = w.heap[B]? := by
        intro B hB
        refine k1.frame B hB fun b l hb hl => ?_
        rw [Phi.below_some] at hb
        have := hsg.lt (Phi.below_some.2 hb)
        simp only at this
        omega
      obtain ⟨t1, t2⟩ := I.tms hr ho hj (ψ := φ) (v' := V j) (fun _ _ h => h) (VR.of_pf _ _ p4)
      refine hK m φ _ _ ⟨hdom', hclosed', I.mle, fun k h1 h2 => .inl (I.done k h1 h2), fun h => ⟨(I.next h).1, ?_⟩, ?_, ?_, fun j' h1 h2 => (I.sim j' h1 h2).world k1.below.size hold, I.ext, by rw [put_size]; exact I.size, (put_defers _ _ _).trans I.defers, t1, t2, I.new, I.below.trans k1.below, ?_⟩
      · rintro (h1 | h1)
        · exact (I.next h).2 h1
        · have := (I.next h).1
          rw [h1, hcls] at this
          rw [Option.some.inj hP0] at this
          cases this
      · rintro k (h1 | h1) h2
        · exact I.nonP k h1 h2
        · subst h1
          rw [hcls, hP0] at h2
          exact absurd rfl h2
      · intro b l hb
        rcases I.own b l hb with h1 | ⟨k, h1, h2⟩
        · exact .inl h1
        · exact .inr ⟨k, .inl h1, h2⟩
      · intro B hB hf
        rw [hold B (Nat.lt_of_lt_of_le hB I.below.size)]
        exact I.frame B hB hf
  · -- where it stands to those that write
    have hcj : ∃ c, cs[j]? = some c ∧ c ≠ 0 := ⟨_, hcls, fun h => hP0 (by rw [hcls, h])⟩
    obtain ⟨c, hcj, hc0⟩ := hcj
    have hjm : j ≤ m := by
      rcases Nat.lt_or_ge m j with h1 | h1
      · exfalso
        have hm := I.next (by omega)
        exact hm.2 (hrdy m (comparable_lt (aordered_spec hord hm.1 hcj hc0) h1))
      · exact h1
    have hquiet : ∀ k, j ≤ k → k < m → cs[k]? = some 2 → k = j := by
      intro k h1 h2 h3
      by_cases he : k = j
      · exact he
      · exfalso
        have hLk := I.done k h2 h3
        exact hj (I.closed k hLk j (comparable_gt (aordered_spec hord h3 hcj hc0) (by omega)))
    by_cases h2 : cs[j]? = some 2
    · -- it writes to what was there: then it is the next one
      have hjm' : j = m := by
        rcases Nat.lt_or_ge j m with h1 | h1
        · exact absurd (I.done j h1 h2) hj
        · omega
      subst hjm'
      have hall : ∀ b l, φ b = some l → b < (Z j).n := by
        intro b l hb
        rcases I.own b l hb with h1 | ⟨k, h1, h2, h3, h4⟩
        · exact Nat.lt_of_lt_of_le h1 (ht.n_mono hc j (Nat.zero_le _) (by omega))
        · have := I.nonP k h1 h2
          exact Nat.lt_of_lt_of_le h4 (ht.n_mono hc j (by omega) (by omega))
      have hbl : φ.below (Z j).n = φ := Phi.below_all hall
      rw [hbl] at hsm
      refine aoper_good hP hcall (hsm.relow (Z j).n) ho (fun d hd => ?_) (fun g b hg d hd => ⟨_, hreads (hgn g b hg d hd)⟩) hstep fun φ' w' v' k1 k2 => ?_
      · rw [heval, heval']
        have := hreads (hopn d hd)
        rwa [hbl] at this
      · have hall' : ∀ b l, φ' b = some l → b < (Z (j + 1)).n := by
          intro b l hb
          rw [hnj]
          exact k1.sim.lt hb
        have hbl' : φ'.below (Z (j + 1)).n = φ' := Phi.below_all hall'
        -- the next one that writes
        have hnext : ∃ m', j < m' ∧ m' ≤ ops.size ∧ (∀ k, j < k → k < m' → cs[k]? ≠ some 2) ∧ (m' < ops.size → cs[m']? = some 2) := by
          have key : ∀ n, j + 1 + n ≤ ops.size → (∀ k, j < k → k < j + 1 + n → cs[k]? ≠ some 2) ∨ ∃ m', j < m' ∧ m' ≤ ops.size ∧ (∀ k, j < k → k < m' → cs[k]? ≠ some 2) ∧ (m' < ops.size → cs[m']? = some 2) := by
            intro n
            induction n with
            | zero => intro _; exact .inl fun k h1 h2 => by omega
            | succ n ih =>
              intro hn
              rcases ih (by omega) with h | h
              · by_cases h3 : cs[j + 1 + n]? = some 2
                · exact .inr ⟨j + 1 + n, by omega, by omega, h, fun _ => h3⟩
                · refine .inl fun k h1 h2 => ?_
                  by_cases he : k = j + 1 + n
                  · subst he; exact h3
                  · exact h k h1 (by omega)
              · exact .inr h
          rcases key (ops.size - (j + 1)) (by omega) with h | h
          · exact ⟨ops.size, hjs, Nat.le_refl _, fun k h1 h2 => h k h1 (by omega), fun h => by omega⟩
          · exact h
        obtain ⟨m', q1, q2, q3, q4⟩ := hnext
        obtain ⟨t1, t2⟩ := I.tms hr ho hj (ψ := φ') (v' := v') k1.ext (by rw [hbl']; exact k2)
        refine hK m' φ' _ _ ⟨hdom', hclosed', q2, ?_, ?_, ?_, ?_, ?_, fun b l hb => k1.ext b l (I.ext b l hb), by rw [put_size]; exact I.size, (put_defers _ _ _).trans I.defers, t1, t2, ?_, I.below.trans k1.below, ?_⟩
        · intro k h1 h3
          by_cases hk : k = j
          · exact .inr hk
          · by_cases hkj : k < j
            · exact .inl (I.done k hkj h3)
            · exact absurd h3 (q3 k (by omega) h1)
        · intro h
          refine ⟨q4 h, ?_⟩
          rintro (h1 | h1)
          · have := I.nonP m' h1 (by rw [q4 h]; simp)
            omega
          · omega
        · rintro k (h1 | h1) h3
          · have := I.nonP k h1 h3
            omega
          · omega
        · intro b l hb
          rcases k1.new b l hb with h1 | ⟨h1, _⟩
          · rcases I.own b l h1 with h3 | ⟨k, h3, h4⟩
            · exact .inl h3
            · exact .inr ⟨k, .inl h3, h4⟩
          · exact .inr ⟨j, .inr rfl, by rw [h2]; simp, h1, hall' b l hb⟩
        · intro j' h1 h3
          have hjj' : j < j' := by
            rcases Nat.lt_or_ge j j' with h4 | h4
            · exact h4
            · exact absurd h2 (h3 j h4 q1)
          have e : φ'.below (Z j').n = φ' := Phi.below_all fun b l hb => Nat.lt_of_lt_of_le (hall' b l hb) (ht.n_mono hc j' (by omega) (by omega))
          rw [e]
          refine k1.sim.later (ht.n_eq hc hz0 j' (by omega)) fun b l hb => ?_
          rw [ht.get_chain hc hz0 (hall' b l hb) j' (by omega) (by omega) (fun i h4 h5 => q3 i (by omega) (by omega)), ht.nextS j o ho]
          rfl
        · intro b l hb
          rcases k1.new b l hb with h1 | ⟨h1, h3⟩
          · exact I.new b l h1
          · refine .inr ⟨Nat.le_trans (ht.n_mono hc j (Nat.zero_le _) (by omega)) h1, ?_⟩
            rcases h3 with h3 | ⟨b0, l0, h3, h4, h5⟩
            · exact .inl (Nat.le_trans I.below.size h3)
            · rcases I.new b0 l0 h3 with h6 | ⟨_, h6 | ⟨b1, l1, h6, h7, h8⟩⟩
              · exact .inr ⟨b0, l0, h6, Nat.le_trans hlow h4, h5⟩
              · exact .inl (by omega)
              · exact .inr ⟨b1, l1, h6, h7, h8.trans h5⟩
        · intro B hB hf
          rw [k1.frame B (Nat.lt_of_lt_of_le hB I.below.size) ?_]
          · exact I.frame B hB hf
          · intro b l hb hl
            rcases I.new b l hb with h1 | ⟨_, h1 | ⟨b0, l0, h1, h3, h4⟩⟩
            · exact hf b l h1 (Nat.le_trans hlow hl)
            · omega
            · exact h4 ▸ hf b0 l0 h1 h3
    · -- it makes something new alone
      have hjm' : j < m := by
        rcases Nat.lt_or_ge j m with h1 | h1
        · exact h1
        · have : j = m := by omega
          subst this
          exact absurd (I.next hjs).1 h2
      have hq : (Z j).n ≤ (Z1 j).low := ht.quiet hjs h2
      have hnoN : ∀ k, j ≤ k → k < m → cs[k]? ≠ some 2 := fun k h1 h3 h4 => by
        have := hquiet k h1 h3 h4
        subst this
        exact h2 h4
      have hsj := I.sim j hjm hnoN
      refine aoper_good hP hcall (hsj.relow (Z j).n) ho (fun d hd => by rw [heval, heval']; exact hreads (hopn d hd)) (fun g b hg d hd => ⟨_, hreads (hgn g b hg d hd)⟩) hstep fun φ' w' v' k1 k2 => ?_
      have hold : ∀ B, B < w.heap.size → w'.heap[B]? = w.heap[B]? := by
        intro B hB
        refine k1.frame B hB fun b l hb hl => ?_
        rw [Phi.below_some] at hb
        omega
      have hall' : ∀ b l, φ' b = some l → b < (Z (j + 1)).n := by
        intro b l hb
        rw [hnj]
        exact k1.sim.lt hb
      -- nothing of this operation's was mapped
      have hfree : ∀ b l, (Z j).n ≤ b → b < (Z (j + 1)).n → φ b ≠ some l := by
        intro b l h1 h3 hb
        rcases I.own b l hb with h4 | ⟨k, h4, h5, h6, h7⟩
        · have := ht.n_mono hc j (Nat.zero_le _) (by omega)
          omega
        · have hk := I.dom k h4
          rcases Nat.lt_trichotomy k j with h8 | h8 | h8
          · have := ht.n_mono hc (j := k + 1) j (by omega) (by omega)
            omega
          · subst h8; exact hj h4
          · have := ht.n_mono hc (j := j + 1) k (by omega) (by omega)
            omega
      let ψ : Phi := fun b => if (Z j).n ≤ b ∧ b < (Z (j + 1)).n then φ' b else φ b
      have hψφ : ∀ b l, φ b = some l → ψ b = some l := by
        intro b l hb
        show (if _ then _ else _) = _
        rw [if_neg (fun h => hfree b l h.1 h.2 hb)]
        exact hb
      have hψφ' : ∀ b l, φ' b = some l → ψ b = some l := by
        intro b l hb
        show (if _ then _ else _) = _
        by_cases h : (Z j).n ≤ b
        · rw [if_pos ⟨h, hall' b l hb⟩]; exact hb
        · rw [if_neg (fun h' => h h'.1)]
          rcases k1.new b l hb with h1 | ⟨h1, _⟩
          · exact (Phi.below_some.1 h1).2
          · exact absurd h1 h
      have hψ : ∀ b l, ψ b = some l → φ b = some l ∨ (φ' b = some l ∧ (Z j).n ≤ b ∧ b < (Z (j + 1)).n) := by
        intro b l hb
        by_cases h : (Z j).n ≤ b ∧ b < (Z (j + 1)).n
        · right
          have : ψ b = φ' b := by show (if _ then _ else _) = _; rw [if_pos h]
          exact ⟨this ▸ hb, h⟩
        · left
          have : ψ b = φ b := by show (if _ then _ else _) = _; rw [if_neg h]
          exact this ▸ hb
      have hnewblk : ∀ b l, φ' b = some l → (Z j).n ≤ b → w.heap.size ≤ l.blk := by
        intro b l hb h1
        rcases k1.new b l hb with h3 | ⟨_, h3 | ⟨b0, l0, h3, h4, h5⟩⟩
        · have := (Phi.below_some.1 h3).1
          omega
        · exact h3
        · have := (Phi.below_some.1 h3).1
          omega
      obtain ⟨t1, t2⟩ := I.tms hr ho hj (ψ := ψ) (v' := v') hψφ (VR.mono (fun b l hb => Phi.below_some.2 ⟨hall' b l hb, hψφ' b l hb⟩) k2)
      refine hK m ψ _ _ ⟨hdom', hclosed', I.mle, fun k h1 h3 => .inl (I.done k h1 h3), fun h => ⟨(I.next h).1, ?_⟩, ?_, ?_, ?_, fun b l hb => hψφ b l (I.ext b l hb), by rw [put_size]; exact I.size, (put_defers _ _ _).trans I.defers, t1, t2, ?_, I.below.trans k1.below, ?_⟩
      · rintro (h1 | h1)
        · exact (I.next h).2 h1
        · omega
      · rintro k (h1 | h1) h3
        · exact I.nonP k h1 h3
        · omega
      · intro b l hb
        rcases hψ b l hb with h1 | ⟨h1, h3, h4⟩
        · rcases I.own b l h1 with h5 | ⟨k, h5, h6⟩
          · exact .inl h5
          · exact .inr ⟨k, .inl h5, h6⟩
        · exact .inr ⟨j, .inr rfl, hP0, h3, h4⟩
      · intro j' h1 h3
        by_cases hjj : j' ≤ j
        · have e : ψ.below (Z j').n = φ.below (Z j').n := by
            funext b
            unfold Phi.below
            split
            · rename_i hb
              have := ht.n_mono hc (j := j') j hjj (by omega)
              show (if _ then _ else _) = _
              rw [if_neg (by omega)]
            · rfl
          rw [e]
          exact (I.sim j' h1 h3).world k1.below.size hold
        · have hle := ht.n_mono hc (j := j + 1) j' (by omega) (Nat.le_trans h1 I.mle)
          have hm := I.mle
          refine (I.sim j' h1 h3).merge k1.sim hold (fun b l hb => ?_) (fun b l hb => ?_) (fun b l hb => ?_)
          · rw [Phi.below_some] at hb ⊢
            exact ⟨hb.1, hψφ b l hb.2⟩
          · rw [Phi.below_some]
            exact ⟨Nat.lt_of_lt_of_le (hall' b l hb) hle, hψφ' b l hb⟩
          · rw [Phi.below_some] at hb
            rcases hψ b l hb.2 with h4 | ⟨h4, h5, h6⟩
            · exact .inl (Phi.below_some.2 ⟨hb.1, h4⟩)
            · refine .inr ⟨h4, hnewblk b l h4 h5, ?_⟩
              rw [ht.get_chain hc hz0 h6 j' (by omega) (by omega) (fun i h7 h8 => hnoN i (by omega) (by omega)), ht.nextS j o ho]
              rfl
      · intro b l hb
        rcases hψ b l hb with h1 | ⟨h1, h3, h4⟩
        · exact I.new b l h1
        · exact .inr ⟨Nat.le_trans (ht.n_mono hc j (Nat.zero_le _) (by omega)) h3, .inl (Nat.le_trans I.below.size (hnewblk b l h1 h3))⟩
      · intro B hB hf
        rw [hold B (Nat.lt_of_lt_of_le hB I.below.size)]
        exact I.frame B hB hf

end
end Go.Abs

namespace Go.Abs
open Go Go.RowKit

section
variable {E : Env} {N0 : Nat} {call : CallFn} {ops : Array Oper} {cs : List Nat} {T : Nat → List Value} {Z : Nat → St} {V : Nat → Value} {Z1 : Nat → St} {φ0 : Phi} {w0 : World} {a0 : Act}

theorem Trace.len (ht : Trace E call ops cs T Z V Z1) : ∀ k, k ≤ ops.size → (T k).length = (T 0).length := by
  intro k
  induction k with
  | zero => intro _; rfl
  | succ k ih =>
    intro hk
    obtain ⟨o', ho'⟩ := op_at (show k < ops.size by omega)
    rw [ht.nextT k o' ho']
    cases o'.dst <;> simp [aput, ih (by omega)]

theorem ready_iff {listed : Array Bool} (hsz : listed.size = ops.size) {i : Nat} : i ∈ Region.ready .any ops listed ↔ ∃ o, ops[i]? = some o ∧ listed.getD i false = false ∧ ∀ e ∈ o.after.toList, Region.binds .any e = true → listed.getD e.on false = true := by
  unfold Region.ready
  simp only [List.mem_filter, List.mem_range, Bool.and_eq_true, Bool.not_eq_true']
  constructor
  · rintro ⟨h1, h2, h3⟩
    obtain ⟨o, ho⟩ := op_at h1
    refine ⟨o, ho, ?_, ?_⟩
    · have hi : i < listed.size := by omega
      simp [Array.getD, hi] at h2 ⊢
      exact h2
    · intro e he hb
      rw [ho] at h3
      simp only [Option.map_some, Option.getD_some] at h3
      rw [← Array.all_toList] at h3
      have := List.all_eq_true.1 h3 e he
      simpa [hb] using this
  · rintro ⟨o, ho, h2, h3⟩
    have h1 : i < ops.size := (Array.getElem?_eq_some_iff.1 ho).1
    have hi : i < listed.size := by omega
    refine ⟨h1, ?_, ?_⟩
    · simp [Array.getD, hi] at h2 ⊢
      exact h2
    · rw [ho]
      simp only [Option.map_some, Option.getD_some]
      rw [← Array.all_toList]
      refine List.all_eq_true.2 fun e he => ?_
      by_cases hb : Region.binds .any e = true
      · simp [hb, h3 e he hb]
      · simp [hb]

theorem all_listed (hr : RegOk ops) {listed : Array Bool} (hsz : listed.size = ops.size) (h : Region.ready .any ops listed = []) : ∀ i, i < ops.size → listed.getD i false = true := by
  intro i
  induction i using Nat.strongRecOn with
  | _ i ih =>
    intro hi
    cases hl : listed.getD i false with
    | true => rfl
    | false =>
      exfalso
      obtain ⟨o, ho⟩ := op_at hi
      have : i ∈ Region.ready .any ops listed := (ready_iff hsz).2 ⟨o, ho, hl, fun e he hb => ih e.on (hr.back i o ho e he hb) (Nat.lt_trans (hr.back i o ho e he hb) hi)⟩
      rw [h] at this
      simp at this

theorem Inv.finish (hc : CallKeep E call) (ht : Trace E call ops cs T Z V Z1) (hz0 : (Z 0).n = E.base + (Z 0).h.length) (hks : KS E (Z 0) (Z ops.size)) {L : Nat → Prop} {m : Nat} {φ : Phi} {a : Act} {w : World}
    (I : Inv E N0 ops cs T Z V φ0 w0 a0 L m φ a w) (hall : ∀ k, k < ops.size → L k) :
    Step E N0 φ0 (Z 0) w0 φ (Z ops.size) w ∧ VRL φ (T ops.size) a.tmps.toList := by
  have hm : m = ops.size := by
    rcases Nat.lt_or_ge m ops.size with h | h
    · exact absurd (hall m h) (I.next h).2
    · have := I.mle; omega
  subst hm
  have hown : ∀ b l, φ b = some l → b < (Z ops.size).n := by
    intro b l hb
    rcases I.own b l hb with h1 | ⟨k, h1, h2, h3, h4⟩
    · exact Nat.lt_of_lt_of_le h1 (ht.n_mono hc _ (Nat.zero_le _) (Nat.le_refl _))
    · exact Nat.lt_of_lt_of_le h4 (ht.n_mono hc _ (by have := I.dom k h1; omega) (Nat.le_refl _))
  have hs := I.sim ops.size (Nat.le_refl _) (fun k h1 h2 => by omega)
  rw [Phi.below_all hown] at hs
  refine ⟨⟨hs, I.ext, I.new, hks.n_le, hks.low_le, I.below, I.frame, hks.keep hz0⟩, ?_⟩
  have hlen := ht.len ops.size (Nat.le_refl _)
  refine VRL.of_get (by rw [hlen]; have := I.size; simpa using this.symm) fun d v v' hv hv' => ?_
  have hd : d < (T 0).length := by
    have := (List.getElem?_eq_some_iff.1 hv).1
    omega
  rw [Array.getElem?_toList] at hv'
  obtain ⟨_, h⟩ := ht.last hd ops.size (Nat.le_refl _)
  rcases h with ⟨h1, h2⟩ | ⟨k, o, h1, h2, h3, h4, h5⟩
  · have := I.tm0 d hd fun k o hk ho => h2 k o (I.dom k hk) ho
    rw [← h1, hv, hv'] at this
    exact VR.mono I.ext this
  · have := I.tm d hd k o (hall k h1) h2 h3 fun k' o' hk' ho' hdst => by
      by_cases hle : k' ≤ k
      · exact hle
      · exact absurd hdst (h5 k' o' (by omega) (I.dom k' hk') ho')
    rw [hv] at h4
    cases h4
    rw [hv'] at this
    refine VR.mono (fun b l hb => (Phi.below_some.1 hb).2) this

theorem any_good (hP : ProgOK E) (hcall : CallGood E N0 call) (hc : CallKeep E call) (ht : Trace E call ops cs T Z V Z1) (hr : RegOk ops) (hord : aordered ops cs = true)
    (hz0 : (Z 0).n = E.base + (Z 0).h.length) (hks : KS E (Z 0) (Z ops.size)) (h0 : ∀ b l, φ0 b = some l → b < (Z 0).n) {Q : Exit → Act → World → Prop}
    (hQ : ∀ φ a w, Step E N0 φ0 (Z 0) w0 φ (Z ops.size) w → VRL φ (T ops.size) a.tmps.toList → a.defers = a0.defers → Q .normal a w) :
    ∀ (fuel : Nat) (listed : Array Bool) (L : Nat → Prop) (m : Nat) (φ : Phi) (a : Act) (w : World), listed.size = ops.size → (∀ k, L k ↔ listed.getD k false = true) → ops.size ≤ listed.toList.count true + fuel →
      Inv E N0 ops cs T Z V φ0 w0 a0 L m φ a w → wpAny E.P .any ops Q fuel listed a w := by
  intro fuel
  induction fuel with
  | zero =>
    intro listed L m φ a w hsz hL hcnt I
    have hall : ∀ k, k < ops.size → L k := by
      intro k hk
      rw [hL]
      have hlen : listed.toList.count true = listed.toList.length := by
        have := List.count_le_length (a := true) (l := listed.toList)
        simp only [Array.length_toList] at this ⊢
        omega
      have := (List.count_eq_length.1 hlen) listed[k] (by simp)
      simp [Array.getD, show k < listed.size by omega, ← this]
    obtain ⟨h1, h2⟩ := I.finish hc ht hz0 hks hall
    refine ⟨?_, hQ φ a w h1 h2 I.defers⟩
    rw [List.eq_nil_iff_forall_not_mem]
    intro i hi
    obtain ⟨o, ho, h3, _⟩ := (ready_iff hsz).1 hi
    have := (hL i).1 (hall i (Array.getElem?_eq_some_iff.1 ho).1)
    rw [h3] at this
    cases this
  | succ fuel ih =>
    intro listed L m φ a w hsz hL hcnt I
    constructor
    · intro hnil
      have hall := all_listed hr hsz hnil
      obtain ⟨h1, h2⟩ := I.finish hc ht hz0 hks fun k hk => (hL k).2 (hall k hk)
      exact hQ φ a w h1 h2 I.defers
    · intro i hi
      obtain ⟨o, ho, h3, h4⟩ := (ready_iff hsz).1 hi
      have his : i < ops.size := (Array.getElem?_eq_some_iff.1 ho).1
      have hiL : ¬ L i := by rw [hL, h3]; simp
      refine I.step hP hcall hc ht hr hord hz0 h0 ho hiL (I.closed.ready ho fun e he hb => (hL _).2 (h4 e he hb)) fun m' φ' a' w' I' => ?_
      refine ih (listed.setIfInBounds i true) (fun k => L k ∨ k = i) m' φ' a' w' (by simpa using hsz) ?_ ?_ I'
      · intro k
        by_cases hk : k = i
        · subst hk
          simp [Array.getD, show k < listed.size by omega]
        · rw [hL k]
          have : (listed.setIfInBounds i true).getD k false = listed.getD k false := by
            simp only [Array.getD_eq_getD_getElem?]
            rw [Array.getElem?_setIfInBounds_ne (Ne.symm hk)]
          rw [this]
          simp [hk]
      · have hil : i < listed.toList.length := by simp; omega
        have hli : listed.toList[i] = false := by
          simp [Array.getD, show i < listed.size by omega] at h3
          simpa using h3
        have := List.count_set (a := true) (b := true) (l := listed.toList) (i := i) hil
        have e1 : (if (false == true) = true then 1 else 0) = 0 := rfl
        have e2 : (if (true == true) = true then 1 else 0) = 1 := rfl
        rw [hli, e1, e2] at this
        rw [Array.toList_setIfInBounds, this]
        omega

/-- A region whose order is open. -/
theorem aopsD_good (hP : ProgOK E) (hcall : CallGood E N0 call) (hc : CallKeep E call) (hr : regOk ops = true) {t t' : List Value} {S S' : St} (h : aopsD E call ops ops.toList t S = some (cs, t', S')) (hord : aordered ops cs = true)
    {φ : Phi} {w : World} {a : Act} (hs : Sim E N0 φ S w) (htr : VRL φ t a.tmps.toList) {Q : Exit → Act → World → Prop}
    (hQ : ∀ φ' a' w', Step E N0 φ S w φ' S' w' → VRL φ' t' a'.tmps.toList → a'.defers = a.defers → Q .normal a' w') :
    wpAny E.P .any ops Q ops.size (Array.replicate ops.size false) a w := by
  obtain ⟨T, Z, V, Z1, g1, g2, g3, g4, g5, g6⟩ := trace_of ops.toList 0 (by simp) h
  simp only [Nat.zero_add, Array.length_toList] at g3 g4 g5
  have ht : Trace E call ops cs T Z V Z1 := ⟨fun k o ho => (g6 k o (Nat.zero_le _) ho).1, fun k o ho => (g6 k o (Nat.zero_le _) ho).2.1, fun k o ho => (g6 k o (Nat.zero_le _) ho).2.2.1, fun k o ho => (g6 k o (Nat.zero_le _) ho).2.2.2⟩
  have hks : KS E (Z 0) (Z ops.size) := by rw [g2, g4]; exact aopsD_keep hc h
  have hz0 : (Z 0).n = E.base + (Z 0).h.length := by rw [g2]; exact hs.n_eq
  have h0 : ∀ b l, φ b = some l → b < (Z 0).n := by rw [g2]; exact fun b l hb => hs.lt hb
  -- the first one that writes to what was there
  have hnext : ∃ m', m' ≤ ops.size ∧ (∀ k, k < m' → cs[k]? ≠ some 2) ∧ (m' < ops.size → cs[m']? = some 2) := by
    have key : ∀ n, n ≤ ops.size → (∀ k, k < n → cs[k]? ≠ some 2) ∨ ∃ m', m' ≤ ops.size ∧ (∀ k, k < m' → cs[k]? ≠ some 2) ∧ (m' < ops.size → cs[m']? = some 2) := by
      intro n
      induction n with
      | zero => intro _; exact .inl fun k h1 => by omega
      | succ n ih =>
        intro hn
        rcases ih (by omega) with h | h
        · by_cases h3 : cs[n]? = some 2
          · exact .inr ⟨n, by omega, h, fun _ => h3⟩
          · refine .inl fun k h1 => ?_
            by_cases he : k = n
            · subst he; exact h3
            · exact h k (by omega)
        · exact .inr h
    rcases key ops.size (Nat.le_refl _) with h | h
    · exact ⟨ops.size, Nat.le_refl _, h, fun h => by omega⟩
    · exact h
  obtain ⟨m, q1, q2, q3⟩ := hnext
  have I : Inv E N0 ops cs T Z V φ w a (fun _ => False) m φ a w := by
    refine ⟨fun _ h => h.elim, fun _ h => h.elim, q1, fun k h1 h2 => absurd h2 (q2 k h1), fun h => ⟨q3 h, id⟩, fun _ h => h.elim, fun b l hb => .inl (h0 b l hb), ?_, fun _ _ h => h, ?_, rfl, ?_, fun _ _ _ _ h => h.elim, fun _ _ h => .inl h, Below.refl _ _, fun _ _ _ => rfl⟩
    · intro j h1 h2
      have e : φ.below (Z j).n = φ := Phi.below_all fun b l hb => Nat.lt_of_lt_of_le (h0 b l hb) (ht.n_mono hc j (Nat.zero_le _) (by omega))
      rw [e]
      refine hs.later (ht.n_eq hc hz0 j (by omega)) fun b l hb => ?_
      rw [ht.get_chain hc hz0 (h0 b l hb) j (Nat.zero_le _) (by omega) (fun i _ h4 => q2 i (by omega)), g2]
    · rw [g1]; have := htr.length; simpa using this.symm
    · intro d hd _
      rw [g1]
      have := TR_eval htr d
      simp only [aeval, Act.eval, Array.getD_eq_getD_getElem?] at this
      exact this
  refine any_good hP hcall hc ht (regOk_of hr) hord hz0 hks h0 (Q := Q) (fun φ' a' w' h1 h2 h3 => ?_) ops.size _ (fun _ => False) m φ a w (by simp) ?_ (by simp) I
  · rw [g2, g4] at h1
    rw [g3] at h2
    exact hQ φ' a' w' h1 h2 h3
  · intro k
    simp only [false_iff, Bool.not_eq_true]
    by_cases hk : k < ops.size
    · simp [Array.getD, hk]
    · simp [Array.getD, hk]

end
end Go.Abs

namespace Go.Abs
open Go Go.RowKit

/-- Functions whose regions are fit. -/
structure RegsOK (E : Env) : Prop where
  out : ∀ (f : Nat) (fn : Func) (c : Code), E.okf f = true → E.P.funcs[f]? = some fn → fn.body = some c → codeOk c = true

/-- What a call that touches no memory of others comes to. -/
def PureCall (E : Env) (f : FuncId) (args : List Value) (v : Value) : Prop :=
  ∀ w, GlobOK E w → Calls E.P f args.toArray w fun e w' => e = .returned v ∧ Below w.heap.size w w'

structure MemoOK (E : Env) : Prop where
  out : ∀ f args v, E.memo f args = some v → pfL args = true ∧ pf v = true ∧ PureCall E f args v

def EX : AExit → Exit → Prop
  | .normal, .normal => True
  | .exit i, .exit j => i = j
  | .ret, .ret => True
  | _, _ => False

def PostC (E : Env) (N0 : Nat) (φ : Phi) (S : St) (w : World) (ex : AExit) (t' : List Value) (S' : St) : Exit → Act → World → Prop :=
  fun e a' w' => EX ex e ∧ a'.defers = [] ∧ ∃ φ', Step E N0 φ S w φ' S' w' ∧ VRL φ' t' a'.tmps.toList

section
variable {E : Env} {N0 : Nat} {φ : Phi} {S : St} {w : World}

theorem Step.relow {φ' : Phi} {S1 : St} {w' : World} (h : Step E N0 φ ⟨S.n, S.h, S.n⟩ w φ' S1 w') : Step E N0 φ S w φ' ⟨S1.n, S1.h, Nat.min S.low S1.low⟩ w' where
  sim := h.sim.relow _
  ext := h.ext
  new := fun b l hb => by
    rcases h.new b l hb with h1 | ⟨h1, h2 | ⟨b0, l0, h2, h3, h4⟩⟩
    · exact .inl h1
    · exact .inr ⟨h1, .inl h2⟩
    · exact .inr ⟨h1, .inr ⟨b0, l0, h2, Nat.le_trans (Nat.min_le_right _ _) h3, h4⟩⟩
  n_le := h.n_le
  low_le := Nat.min_le_left _ _
  below := h.below
  frame := fun B hB hf => h.frame B hB fun b l hb hl => hf b l hb (Nat.le_trans (Nat.min_le_right _ _) hl)
  keep := fun b hb hl => h.keep b hb (Nat.lt_of_lt_of_le hl (Nat.min_le_right _ _))

/-- What a call made is dropped. -/
theorem Step.drop (hs : Sim E N0 φ S w) {φ' : Phi} {S1 : St} {w' : World} (h : Step E N0 φ ⟨S.n, S.h, S.n⟩ w φ' S1 w') (hl : S.n ≤ S1.low) : Step E N0 φ S w φ S w' := by
  have hold : ∀ B, B < w.heap.size → w'.heap[B]? = w.heap[B]? := by
    intro B hB
    refine h.frame B hB fun b l hb hlb => ?_
    have := hs.lt hb
    omega
  exact ⟨hs.world h.below.size hold, fun _ _ h => h, fun _ _ h => .inl h, Nat.le_refl _, Nat.le_refl _, h.below, fun B hB _ => hold B hB, fun _ _ _ => rfl⟩

def resRun (a : Array Value) : ResultVar → Sem Value
  | .tmp i => pure (a.getD i undef)
  | .cell b ty => do loadVar ty (← asAddr (a.getD b undef))

theorem aresult_good (hs : Sim E N0 φ S w) {t : List Value} {a : Array Value} (ht : VRL φ t a.toList) {r : ResultVar} {v : Value} (h : aresult E t S r = some v) :
    ∃ v', (resRun a r).run E.P w = .ok v' w ∧ VR φ v v' := by
  cases r with
  | tmp i =>
    simp only [aresult, Option.some.injEq] at h
    subst h
    refine ⟨a.getD i undef, rfl, ?_⟩
    have := TR_eval (a := ⟨a, []⟩) ht i
    simpa [aeval, Act.eval] using this
  | cell b ty =>
    simp only [aresult] at h
    have hv := TR_eval (a := ⟨a, []⟩) ht b
    simp only [aeval, Act.eval] at hv
    obtain ⟨v', h1, h2⟩ := aload_good hs hv h
    refine ⟨v', ?_, h2⟩
    have hp : ∃ x, a.getD b undef = .pointer (some x) := by
      unfold aload at h
      split at h
      · rename_i b' o' he
        rw [he] at hv
        obtain ⟨l, _, hl⟩ := hv.ptr_inv
        exact ⟨_, hl⟩
      · cases h
    obtain ⟨x, hx⟩ := hp
    simp only [resRun, hx, Instr.loadAt, Instr.sureAddr, asAddr] at h1 ⊢
    exact h1

theorem aresults_good (hs : Sim E N0 φ S w) {t : List Value} {a : Array Value} (ht : VRL φ t a.toList) : ∀ {rs : List ResultVar} {vs : List Value}, aresults E t S rs = some vs →
    ∃ vs', (rs.mapM (resRun a)).run E.P w = .ok vs' w ∧ VRL φ vs vs'
  | [], vs, h => by
    simp only [aresults, Option.some.injEq] at h
    subst h
    exact ⟨[], by simp, .nil⟩
  | r :: rs, vs, h => by
    unfold aresults at h
    split at h
    · rename_i v vs1 h1 h2
      simp only [Option.some.injEq] at h
      subst h
      obtain ⟨v', k1, k2⟩ := aresult_good hs ht h1
      obtain ⟨vs', k3, k4⟩ := aresults_good hs ht h2
      refine ⟨v' :: vs', ?_, .cons k2 k4⟩
      simp only [List.mapM_cons, Sem.run_bind, k1, Result.andThen_ok, k3, Sem.run_pure]
    · cases h

theorem results_good (hs : Sim E N0 φ S w) {t : List Value} {a : Array Value} (ht : VRL φ t a.toList) {fn : Func} {vs : List Value} (h : aresults E t S fn.results.toList = some vs) :
    ∃ v', (results fn a).run E.P w = .ok v' w ∧ VR φ (tupled vs) v' := by
  obtain ⟨vs', h1, h2⟩ := aresults_good hs ht h
  have hm : (fn.results.mapM (resRun a)).run E.P w = .ok vs'.toArray w := by
    rw [Array.mapM_eq_mapM_toList]
    simp only [Sem.run_map, h1, Result.andThen_ok]
  refine ⟨if h : vs'.toArray.size = 1 then vs'.toArray[0] else .tuple vs'.toArray, ?_, ?_⟩
  · have e : results fn a = (do let vs ← fn.results.mapM (resRun a); pure (if h : vs.size = 1 then vs[0] else .tuple vs)) := by
      unfold results
      congr 1
    rw [e]
    simp only [Sem.run_bind, hm, Result.andThen_ok, Sem.run_pure]
  · cases h2 with
    | nil => exact .tuple .nil
    | cons ha hb =>
      cases hb with
      | nil => exact ha
      | cons hb hc =>
        simp only [tupled]
        rw [dif_neg (by simp)]
        exact .tuple (.cons ha (.cons hb hc))

end

theorem rounds_mono {P : Program} {c : Code} {Q Q' : Exit → Act → World → Prop} (hq : ∀ e a w, Q e a w → Q' e a w) : ∀ (n : Nat) {a : Act} {w : World}, Code.rounds P c Q n a w → Code.rounds P c Q' n a w
  | 0, _, _, h => h
  | n + 1, a, w, h => by
    refine wp_mono h ?_
    intro e a1 w1 h1
    cases e with
    | normal => exact rounds_mono hq n h1
    | _ => exact hq _ _ _ h1

theorem sound (E : Env) (N0 : Nat) (hP : ProgOK E) (hR : RegsOK E) (hM : MemoOK E) : ∀ (n : Nat),
    (∀ c t S ex t' S', codeOk c = true → acode E n c t S = some (ex, t', S') → ∀ φ a w, Sim E N0 φ S w → VRL φ t a.tmps.toList → a.defers = [] → c.wp E.P (PostC E N0 φ S w ex t' S') a w) ∧
    (∀ b t S ex t' S', codeOk b = true → acode E n (.loop b) t S = some (ex, t', S') → ∀ φ a w, Sim E N0 φ S w → VRL φ t a.tmps.toList → a.defers = [] → Code.rounds E.P b (PostC E N0 φ S w ex t' S') n a w) ∧ CallGood E N0 (acall E n)
  | 0 => ⟨fun c t S ex t' S' _ h => by simp [acode] at h, fun b t S ex t' S' _ h => by simp [acode] at h, fun f args S v S' h => by simp [acall] at h⟩
  | n + 1 => by
    obtain ⟨ihc, ihl, ihf⟩ := sound E N0 hP hR hM n
    obtain ⟨kc, kf⟩ := keep_both E n
    have hloop : ∀ b t S ex t' S', codeOk b = true → acode E (n + 1) (.loop b) t S = some (ex, t', S') → ∀ φ a w, Sim E N0 φ S w → VRL φ t a.tmps.toList → a.defers = [] → Code.rounds E.P b (PostC E N0 φ S w ex t' S') (n + 1) a w := by
      intro b t S ex t' S' hok h φ a w hs ht hd
      show b.wp E.P (Exit.then (Code.rounds E.P b (PostC E N0 φ S w ex t' S') n) (PostC E N0 φ S w ex t' S')) a w
      simp only [acode] at h
      split at h
      · rename_i t1 S1 h1
        refine wp_mono (ihc _ _ _ _ _ _ hok h1 φ a w hs ht hd) ?_
        rintro e a1 w1 ⟨k1, k2, φ1, k3, k4⟩
        cases e with
        | normal =>
          refine rounds_mono ?_ n (ihl _ _ _ _ _ _ hok h φ1 a1 w1 k3.sim k4 k2)
          rintro e a2 w2 ⟨m1, m2, φ2, m3, m4⟩
          exact ⟨m1, m2, φ2, k3.trans m3, m4⟩
        | _ => exact k1.elim
      · rename_i hne
        refine wp_mono (ihc _ _ _ _ _ _ hok h φ a w hs ht hd) ?_
        rintro e a1 w1 ⟨k1, k2, φ1, k3, k4⟩
        cases e with
        | normal =>
          cases ex with
          | normal => exact absurd h (hne _ _)
          | _ => exact k1.elim
        | exit i => exact ⟨k1, k2, φ1, k3, k4⟩
        | ret => exact ⟨k1, k2, φ1, k3, k4⟩
        | goto l => cases ex <;> exact k1.elim
        | panic p => cases ex <;> exact k1.elim
        | outgrown => cases ex <;> exact k1.elim
    refine ⟨?_, hloop, ?_⟩
    · intro c t S ex t' S' hok h φ a w hs ht hd
      have h00 := h
      unfold acode at h
      split at h
      · simp only [Option.some.injEq, Prod.mk.injEq] at h; obtain ⟨rfl, rfl, rfl⟩ := h
        exact wp_skip ⟨trivial, hd, φ, Step.refl hs, ht⟩
      · simp only [Option.some.injEq, Prod.mk.injEq] at h; obtain ⟨rfl, rfl, rfl⟩ := h
        exact wp_label ⟨trivial, hd, φ, Step.refl hs, ht⟩
      · rename_i id ops draw
        split at h
        · rename_i hdraw
          subst hdraw
          split at h
          · rename_i cs t1 S1 h1
            split at h
            · rename_i hord
              simp only [Option.some.injEq, Prod.mk.injEq] at h; obtain ⟨rfl, rfl, rfl⟩ := h
              refine wp_region_any hP.mixed ?_
              have hreg : regOk ops = true := by simpa [codeOk] using hok
              refine aopsD_good hP ihf kf hreg h1 hord (φ := φ) (w := w.drew) hs.drew ht fun φ' a' w' k1 k2 k3 => ?_
              refine ⟨trivial, k3.trans hd, φ', ?_, k2⟩
              exact ⟨k1.sim, k1.ext, k1.new, k1.n_le, k1.low_le, ⟨k1.below.os, k1.below.tape, k1.below.output, k1.below.size, k1.below.block⟩, k1.frame, k1.keep⟩
            · cases h
          · cases h
        · rename_i hdraw
          have hdraw : draw = false := by simpa using hdraw
          subst hdraw
          split at h
          · rename_i t1 S1 h1
            simp only [Option.some.injEq, Prod.mk.injEq] at h; obtain ⟨rfl, rfl, rfl⟩ := h
            refine wp_region ?_
            have := aops_good hP ihf (ops := ops) (Q := PostC E N0 φ S w .normal t1 S1) ops.toList 0 (by simp) h1 hs ht fun φ' a' w' k1 k2 k3 => ⟨trivial, k3.trans hd, φ', k1, k2⟩
            rw [List.range_eq_range']
            simpa using this
          · cases h
      · rename_i x y
        simp only [codeOk, Bool.and_eq_true] at hok
        split at h
        · rename_i t1 S1 h1
          refine wp_seq (wp_mono (ihc _ _ _ _ _ _ hok.1 h1 φ a w hs ht hd) ?_)
          rintro e a1 w1 ⟨k1, k2, φ1, k3, k4⟩
          cases e with
          | normal =>
            refine wp_mono (ihc _ _ _ _ _ _ hok.2 h φ1 a1 w1 k3.sim k4 k2) ?_
            rintro e a2 w2 ⟨m1, m2, φ2, m3, m4⟩
            exact ⟨m1, m2, φ2, k3.trans m3, m4⟩
          | _ => exact k1.elim
        · rename_i hne
          refine wp_seq (wp_mono (ihc _ _ _ _ _ _ hok.1 h φ a w hs ht hd) ?_)
          rintro e a1 w1 ⟨k1, k2, φ1, k3, k4⟩
          cases e with
          | normal =>
            cases ex with
            | normal => exact absurd h (hne _ _)
            | _ => exact k1.elim
          | exit i => exact ⟨k1, k2, φ1, k3, k4⟩
          | ret => exact ⟨k1, k2, φ1, k3, k4⟩
          | goto l => cases ex <;> exact k1.elim
          | panic p => cases ex <;> exact k1.elim
          | outgrown => cases ex <;> exact k1.elim
      · rename_i cc x y
        simp only [codeOk, Bool.and_eq_true] at hok
        have hcond : ∀ b, aeval t cc = .bool b → a.eval cc = .bool b := by
          intro b hb
          cases cc with
          | tmp i =>
            have := TR_eval ht i
            rw [hb] at this
            exact this.bool_inv
          | const v => exact hb
          | global g => cases hb
          | func f => cases hb
        split at h
        · rename_i hb
          exact wp_cond_true (hcond _ hb) (ihc _ _ _ _ _ _ hok.1 h φ a w hs ht hd)
        · rename_i hb
          exact wp_cond_false (hcond _ hb) (ihc _ _ _ _ _ _ hok.2 h φ a w hs ht hd)
        · cases h
      · rename_i id b
        simp only [codeOk] at hok
        split at h
        · rename_i i t1 S1 h1
          refine wp_block (wp_mono (ihc _ _ _ _ _ _ hok h1 φ a w hs ht hd) ?_)
          rintro e a1 w1 ⟨k1, k2, φ1, k3, k4⟩
          cases e with
          | exit j =>
            have hij : i = j := k1
            subst hij
            simp only [Exit.inBlock]
            split at h
            · rename_i hid
              simp only [Option.some.injEq, Prod.mk.injEq] at h; obtain ⟨rfl, rfl, rfl⟩ := h
              rw [if_pos hid]
              exact ⟨trivial, k2, φ1, k3, k4⟩
            · rename_i hid
              simp only [Option.some.injEq, Prod.mk.injEq] at h; obtain ⟨rfl, rfl, rfl⟩ := h
              rw [if_neg hid]
              exact ⟨rfl, k2, φ1, k3, k4⟩
          | _ => exact k1.elim
        · rename_i hne
          refine wp_block (wp_mono (ihc _ _ _ _ _ _ hok h φ a w hs ht hd) ?_)
          rintro e a1 w1 ⟨k1, k2, φ1, k3, k4⟩
          cases e with
          | exit j =>
            cases ex with
            | exit i => exact absurd h (hne _ _ _)
            | _ => exact k1.elim
          | normal => exact ⟨k1, k2, φ1, k3, k4⟩
          | ret => exact ⟨k1, k2, φ1, k3, k4⟩
          | goto l => cases ex <;> exact k1.elim
          | panic p => cases ex <;> exact k1.elim
          | outgrown => cases ex <;> exact k1.elim
      · rename_i b
        have hokb : codeOk b = true := by simpa [codeOk] using hok
        exact wp_loop_rounds (n + 1) (hloop _ _ _ _ _ _ hokb h00 φ a w hs ht hd)
      · simp only [Option.some.injEq, Prod.mk.injEq] at h; obtain ⟨rfl, rfl, rfl⟩ := h
        exact wp_exit ⟨rfl, hd, φ, Step.refl hs, ht⟩
      · simp only [Option.some.injEq, Prod.mk.injEq] at h; obtain ⟨rfl, rfl, rfl⟩ := h
        exact wp_ret ⟨trivial, hd, φ, Step.refl hs, ht⟩
      · cases h
    · intro f args S v S' h φ w args' hs ha
      unfold acall at h
      split at h
      · rename_i v1 hm
        simp only [Option.some.injEq, Prod.mk.injEq] at h; obtain ⟨rfl, rfl⟩ := h
        obtain ⟨m1, m2, m3⟩ := hM.out f args v1 hm
        rw [VRL.eq_of_pfL ha m1]
        refine (m3 w hs.glob).mono ?_
        rintro e w' ⟨rfl, hb⟩
        have hold : ∀ B, B < w.heap.size → w'.heap[B]? = w.heap[B]? := hb.block
        exact ⟨φ, v1, rfl, ⟨hs.world hb.size hold, fun _ _ h => h, fun _ _ h => .inl h, Nat.le_refl _, Nat.le_refl _, hb.mono hs.N0le, fun B hB _ => hold B hB, fun _ _ _ => rfl⟩, VR.of_pf φ v1 m2⟩
      · split at h
        · rename_i fn hf
          split at hf
          · rename_i hokf
            split at h
            · rename_i c hb
              split at h
              · cases h
              · cases h
              · rename_i ex t S1 hne hrun
                split at h
                · rename_i vs hres
                  have hs0 := hs.relow S.n
                  have hlen : args.length = args'.length := ha.length
                  have hcode := ihc c _ _ _ _ _ (hR.out f fn c hokf hf hb) hrun φ ⟨args'.toArray ++ Array.replicate (fn.ntmps - args'.toArray.size) undef, []⟩ w hs0 ?_ rfl
                  · refine calls_of_wp hf hb (wp_mono hcode ?_)
                    rintro e a1 w1 ⟨k1, k2, φ1, k3, k4⟩
                    have hfin : a1.defers = [] ∧ ∃ v2, (results fn a1.tmps).run E.P w1 = .ok v2 w1 ∧ ∃ φ' v', Ending.returned v2 = .returned v' ∧ Step E N0 φ S w φ' S' w1 ∧ VR φ' v v' := by
                      obtain ⟨v2, r1, r2⟩ := results_good k3.sim k4 hres
                      refine ⟨k2, v2, r1, ?_⟩
                      simp only at h
                      split at h
                      · rename_i hpop
                        simp only [Option.some.injEq, Prod.mk.injEq] at h; obtain ⟨rfl, rfl⟩ := h
                        have := VR.eq_of_pf r2 hpop.2
                        exact ⟨φ, v2, rfl, k3.drop hs hpop.1, by rw [this]; exact VR.of_pf φ _ hpop.2⟩
                      · simp only [Option.some.injEq, Prod.mk.injEq] at h; obtain ⟨rfl, rfl⟩ := h
                        exact ⟨φ1, v2, rfl, k3.relow, r2⟩
                    cases e with
                    | normal => obtain ⟨q1, v2, q2, q3⟩ := hfin; exact ⟨q1, v2, q2, q3⟩
                    | ret => obtain ⟨q1, v2, q2, q3⟩ := hfin; exact ⟨q1, v2, q2, q3⟩
                    | exit i =>
                      cases ex with
                      | exit j => exact (hne _ rfl).elim
                      | _ => exact k1.elim
                    | goto l => cases ex <;> exact k1.elim
                    | panic p => cases ex <;> exact k1.elim
                    | outgrown => cases ex <;> exact k1.elim
                  · simp only [Array.toList_append, Array.toList_replicate, List.size_toArray, ← hlen]
                    refine ha.append ?_
                    refine VRL.of_get (by simp) fun i v v' hv hv' => ?_
                    rw [List.getElem?_replicate] at hv hv'
                    split at hv
                    · rename_i hlt
                      rw [if_pos hlt] at hv'
                      cases hv
                      cases hv'
                      exact VR.undef
                    · cases hv
                · cases h
            · cases h
          · cases hf
        · cases h

/-- The map of the packages' variables alone. -/
def phi0 (E : Env) : Phi := fun b =>
  match E.glob b with
  | some (.opn c e _) => some ⟨b, 0, c.length, E.P.cellsOf e⟩
  | _ => none

theorem sim0 {E : Env} {w : World} (hg : GlobOK E w) : Sim E w.heap.size (phi0 E) ⟨E.base, [], E.base⟩ w where
  n_eq := by simp
  glob := hg
  gN0 := fun g x h => by
    obtain ⟨_, c, e, fz, _, _, h4⟩ := hg.out g x h
    exact (Array.getElem?_eq_some_iff.1 h4).1
  gphi := fun g c e t h => by simp [phi0, h]
  N0le := Nat.le_refl _
  blk := fun b l hb => by
    unfold phi0 at hb
    split at hb
    · rename_i c e t hgl
      cases hb
      obtain ⟨h1, c', e', fz, h2, h3, h4⟩ := hg.out b _ hgl
      cases h2
      refine ⟨.opn c e none, by simp [St.get, h1, hgl], rfl, ⟨c⟩, fz, h4, rfl, by simp, ?_, fun sh h => by cases h⟩
      simpa using VRL.of_pfL _ _ h3
    · cases hb
  excl := fun b b' l l' hb hb' hne hblk => by
    unfold phi0 at hb hb'
    split at hb
    · split at hb'
      · cases hb
        cases hb'
        exact absurd hblk hne
      · cases hb'
    · cases hb

/-- A CLOSED CALL, REACHED BY THE EVALUATOR, COMES TO WHAT THE EVALUATOR SAYS: in whatever memory, on every tape. -/
theorem pure_call {E : Env} (hP : ProgOK E) (hR : RegsOK E) (hM : MemoOK E) (n : Nat) {f : FuncId} {args : List Value} {v : Value} (ha : pfL args = true) (hv : pf v = true)
    (h : ∃ S', acall E n f args ⟨E.base, [], E.base⟩ = some (v, S')) : PureCall E f args v := by
  intro w hg
  obtain ⟨S', h⟩ := h
  have := (sound E w.heap.size hP hR hM n).2.2 _ _ _ _ _ h (phi0 E) w args (sim0 hg) (VRL.of_pfL _ _ ha)
  refine this.mono ?_
  rintro e w' ⟨φ', v', rfl, k1, k2⟩
  exact ⟨by rw [VR.eq_of_pf k2 hv], k1.below⟩

end Go.Abs

namespace Go.Abs
open Go Go.RowKit

mutual
/-- Are two values without addresses the same? (It may say no.) -/
def eqV : Value → Value → Bool
  | .bool a, .bool b => a == b
  | .int k a, .int k' b => decide (k = k') && a == b
  | .string a, .string b => a.data.toList == b.data.toList
  | .slice none n c, .slice none n' c' => n == n' && c == c'
  | .pointer none, .pointer none => true
  | .nilIface, .nilIface => true
  | .nilFunc, .nilFunc => true
  | .agg a, .agg b => eqA a b
  | .tuple a, .tuple b => eqA a b
  | _, _ => false
def eqA : Array Value → Array Value → Bool
  | ⟨a⟩, ⟨b⟩ => eqL a b
def eqL : List Value → List Value → Bool
  | [], [] => true
  | v :: l, v' :: l' => eqV v v' && eqL l l'
  | _, _ => false
end

mutual
theorem eqV_eq : ∀ (v v' : Value), eqV v v' = true → v = v'
  | .agg ⟨a⟩, v', h => by
    cases v' with
    | agg b => obtain ⟨b⟩ := b; rw [eqL_eq a b (by simpa [eqV, eqA] using h)]
    | _ => simp [eqV] at h
  | .tuple ⟨a⟩, v', h => by
    cases v' with
    | tuple b => obtain ⟨b⟩ := b; rw [eqL_eq a b (by simpa [eqV, eqA] using h)]
    | _ => simp [eqV] at h
  | .bool a, v', h => by cases v' <;> simp [eqV] at h; rw [h]
  | .int k a, v', h => by cases v' <;> simp [eqV] at h; rw [h.1, h.2]
  | .string ⟨⟨a⟩⟩, v', h => by
    cases v' with
    | string b => obtain ⟨⟨b⟩⟩ := b; simp [eqV] at h; rw [h]
    | _ => simp [eqV] at h
  | .slice none n c, v', h => by
    cases v' with
    | slice b n' c' => cases b <;> simp [eqV] at h; rw [h.1, h.2]
    | _ => simp [eqV] at h
  | .slice (some _) _ _, v', h => by cases v' <;> simp [eqV] at h
  | .pointer none, v', h => by
    cases v' with
    | pointer b => cases b <;> simp [eqV] at h; rfl
    | _ => simp [eqV] at h
  | .pointer (some _), v', h => by cases v' <;> simp [eqV] at h
  | .nilIface, v', h => by cases v' <;> simp [eqV] at h; rfl
  | .nilFunc, v', h => by cases v' <;> simp [eqV] at h; rfl
  | .float _ _, v', h => by cases v' <;> simp [eqV] at h
  | .complex _ _ _, v', h => by cases v' <;> simp [eqV] at h
  | .map _, v', h => by cases v' <;> simp [eqV] at h
  | .chan _, v', h => by cases v' <;> simp [eqV] at h
  | .func _ _ _, v', h => by cases v' <;> simp [eqV] at h
  | .iface _ _, v', h => by cases v' <;> simp [eqV] at h
theorem eqL_eq : ∀ (l l' : List Value), eqL l l' = true → l = l'
  | [], [], _ => rfl
  | [], _ :: _, h => by simp [eqL] at h
  | _ :: _, [], h => by simp [eqL] at h
  | v :: l, v' :: l', h => by
    simp only [eqL, Bool.and_eq_true] at h
    rw [eqV_eq v v' h.1, eqL_eq l l' h.2]
end

abbrev Table := List (FuncId × List Value × Value)

def look : Table → FuncId → List Value → Option Value
  | [], _, _ => none
  | (g, as, v) :: r, f, args => if g == f && eqL as args then some v else look r f args

theorem look_mem : ∀ {t : Table} {f : FuncId} {args : List Value} {v : Value}, look t f args = some v → (f, args, v) ∈ t
  | [], _, _, _, h => by simp [look] at h
  | (g, as, u) :: r, f, args, v, h => by
    unfold look at h
    split at h
    · rename_i hc
      simp only [Bool.and_eq_true, beq_iff_eq] at hc
      have := eqL_eq _ _ hc.2
      simp only [Option.some.injEq] at h
      rw [hc.1, this, h]
      simp
    · simp [look_mem h]

/-- The evaluator's place: a program, and what is remembered. -/
structure Base where
  P : Program
  base : Nat
  glob : Nat → Option ABlk
  ident : FuncId → Bool
  okf : FuncId → Bool

def Base.env (B : Base) (t : Table) : Env := { P := B.P, base := B.base, glob := B.glob, ident := B.ident, memo := look t, okf := B.okf }

structure BaseOK (B : Base) : Prop where
  prog : ProgOK (B.env [])
  regs : RegsOK (B.env [])

/-- What is remembered is true. -/
def Known (B : Base) (t : Table) : Prop := ∀ x ∈ t, pfL x.2.1 = true ∧ pf x.2.2 = true ∧ PureCall (B.env []) x.1 x.2.1 x.2.2

theorem Known.nil (B : Base) : Known B [] := by intro x hx; simp at hx

theorem Known.memo {B : Base} {t : Table} (h : Known B t) : MemoOK (B.env t) where
  out := fun f args v hv => by
    obtain ⟨h1, h2, h3⟩ := h (f, args, v) (look_mem hv)
    exact ⟨h1, h2, fun w hg => h3 w ⟨hg.out⟩⟩

def comesTo (B : Base) (t : Table) (n : Nat) (f : FuncId) (args : List Value) (v : Value) : Bool :=
  match acall (B.env t) n f args ⟨B.base, [], B.base⟩ with
  | some (v', _) => eqV v' v
  | none => false

theorem PureCall.of {B : Base} (hB : BaseOK B) {t : Table} (h : Known B t) (n : Nat) {f : FuncId} {args : List Value} {v : Value} (ha : pfL args = true) (hv : pf v = true) (hc : comesTo B t n f args v = true) :
    PureCall (B.env []) f args v := by
  have hP : ProgOK (B.env t) := ⟨hB.prog.names, hB.prog.ident, hB.prog.mixed⟩
  have hR : RegsOK (B.env t) := ⟨hB.regs.out⟩
  suffices hh : PureCall (B.env t) f args v from fun w hg => hh w ⟨hg.out⟩
  refine pure_call (E := B.env t) hP hR h.memo n ha hv ?_
  unfold comesTo at hc
  split at hc
  · rename_i v' S' hr
    exact ⟨S', by rw [← eqV_eq _ _ hc]; exact hr⟩
  · cases hc

/-- One call more is remembered. -/
theorem Known.cons {B : Base} (hB : BaseOK B) {t : Table} (h : Known B t) (n : Nat) {f : FuncId} {args : List Value} {v : Value} (hc : (pfL args && pf v && comesTo B t n f args v) = true) : Known B ((f, args, v) :: t) := by
  simp only [Bool.and_eq_true] at hc
  intro x hx
  rcases List.mem_cons.1 hx with rfl | hx
  · exact ⟨hc.1.1, hc.1.2, PureCall.of hB h n hc.1.1 hc.1.2 hc.2⟩
  · exact h x hx

end Go.Abs
