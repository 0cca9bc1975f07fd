/-
  TopNumbers answers true for every list of pieces and every bytes behind, and leaves them as they were; conditions: the listed package variables hold what the program's text lays (tied by the card).
-/
import Derived.Test.YtimnnacibhjgmaaGreatDoorEvC
import Derived.Lib.Strings
import Derived.Lib.Bytealg
import Derived.Laws.StructEq

namespace Go.Abs
open Go Go.RowKit

/-- Whatever the one tells, the other one tells too. -/
def CLe (c1 c2 : FuncId → List Value → St → Option (Value × St)) : Prop := ∀ f a S r, c1 f a S = some r → c2 f a S = some r

section
variable {E : Env} {c1 c2 : FuncId → List Value → St → Option (Value × St)}

theorem aoper_mono (h : CLe c1 c2) (ops : Array Oper) (o : Oper) (t : List Value) (S : St) (r : Value × St) (hr : aoper E c1 ops o t S = some r) : aoper E c2 ops o t S = some r := by
  unfold aoper at hr ⊢
  split at hr
  · split at hr
    · rename_i h1 h2
      rw [if_pos h1, if_pos h2]
      split at hr
      · exact hr
      · exact hr
      · exact h _ _ _ _ hr
      · cases hr
    · cases hr
  · rename_i h1
    rw [if_neg h1]
    exact hr

theorem aops_mono (h : CLe c1 c2) (ops : Array Oper) : ∀ (l : List Oper) (t : List Value) (S : St) (r), aops E c1 ops l t S = some r → aops E c2 ops l t S = some r
  | [], t, S, r, hr => hr
  | o :: l, t, S, r, hr => by
    unfold aops at hr ⊢
    split at hr
    · rename_i v S1 heq
      rw [aoper_mono h ops o t S _ heq]
      exact aops_mono h ops l _ _ _ hr
    · cases hr

theorem aopsD_mono (h : CLe c1 c2) (n0 : Nat) (ops : Array Oper) : ∀ (l : List Oper) (t : List Value) (S : St) (r), aopsD E c1 n0 ops l t S = some r → aopsD E c2 n0 ops l t S = some r
  | [], t, S, r, hr => hr
  | o :: l, t, S, r, hr => by
    unfold aopsD at hr ⊢
    split at hr
    · rename_i v S1 heq
      rw [aoper_mono h ops o t _ _ heq]
      split at hr
      · rename_i cs t2 S2 heq2
        simp only
        rw [aopsD_mono h n0 ops l _ _ _ heq2]
        exact hr
      · cases hr
    · cases hr

end

theorem mono_step (E : Env) : ∀ n, (∀ c t S r, acode E n c t S = some r → acode E (n + 1) c t S = some r) ∧ CLe (acall E n) (acall E (n + 1))
  | 0 => ⟨fun c t S r h => by simp [acode] at h, fun f a S r h => by simp [acall] at h⟩
  | n + 1 => by
    obtain ⟨ih1, ih2⟩ := mono_step E n
    refine ⟨fun c t S r h => ?_, fun f a S r h => ?_⟩
    · cases c with
      | skip => exact h
      | label _ => exact h
      | exit _ => exact h
      | ret => exact h
      | region id ops draw =>
        unfold acode at h ⊢
        simp only at h ⊢
        split at h
        · rename_i hd
          rw [if_pos hd]
          split at h
          · rename_i heq
            rw [aopsD_mono ih2 _ ops _ _ _ _ heq]
            exact h
          · cases h
        · rename_i hd
          rw [if_neg hd]
          split at h
          · rename_i heq
            rw [aops_mono ih2 ops _ _ _ _ heq]
            exact h
          · cases h
      | seq x y =>
        unfold acode at h ⊢
        simp only at h ⊢
        split at h
        · rename_i heq
          rw [ih1 _ _ _ _ heq]
          exact ih1 _ _ _ _ h
        · rename_i hx
          have := ih1 _ _ _ _ h
          rw [this]
          split
          · rename_i heq
            cases heq
            exact absurd h (hx _ _)
          · rfl
      | cond c x y =>
        unfold acode at h ⊢
        simp only at h ⊢
        split at h
        · exact ih1 _ _ _ _ h
        · exact ih1 _ _ _ _ h
        · cases h
      | block id b =>
        unfold acode at h ⊢
        simp only at h ⊢
        split at h
        · rename_i heq
          rw [ih1 _ _ _ _ heq]
          exact h
        · rename_i hx
          have := ih1 _ _ _ _ h
          rw [this]
          split
          · rename_i heq
            cases heq
            exact absurd h (hx _ _ _)
          · rfl
      | loop b =>
        unfold acode at h ⊢
        simp only at h ⊢
        split at h
        · rename_i heq
          rw [ih1 _ _ _ _ heq]
          exact ih1 _ _ _ _ h
        · rename_i hx
          have := ih1 _ _ _ _ h
          rw [this]
          split
          · rename_i heq
            cases heq
            exact absurd h (hx _ _)
          · rfl
      | _ => simp [acode] at h
    · unfold acall at h ⊢
      split at h
      · rename_i heq; exact h
      · rename_i heq
        simp only
        split at h
        · rename_i fn hfn
          split at h
          · rename_i c hc
            split at h
            · cases h
            · cases h
            · rename_i x t1 S1 hx heq2
              rw [ih1 _ _ _ _ heq2]
              cases x with
              | exit i => exact (hx i rfl).elim
              | normal => exact h
              | ret => exact h
          · cases h
        · cases h

theorem acode_mono {E : Env} {n m : Nat} (hnm : n ≤ m) {c t S r} (h : acode E n c t S = some r) : acode E m c t S = some r := by
  induction hnm with
  | refl => exact h
  | step _ ih => exact (mono_step E _).1 _ _ _ _ ih

theorem acall_mono {E : Env} {n m : Nat} (hnm : n ≤ m) : CLe (acall E n) (acall E m) := by
  induction hnm with
  | refl => exact fun _ _ _ _ h => h
  | step _ ih => exact fun _ _ _ _ h => (mono_step E _).2 _ _ _ _ (ih _ _ _ _ h)

end Go.Abs

namespace Go.Abs
open Go Go.RowKit

/-- A frame of N places. -/
def fr (N : Nat) (g : Nat → Value) : List Value := (List.range N).map g

def upd (g : Nat → Value) (d : Nat) (v : Value) : Nat → Value := fun i => if i = d then v else g i

def put (g : Nat → Value) (dst : Option Tmp) (v : Value) : Nat → Value :=
  match dst with
  | some d => upd g d v
  | none => g

theorem upd_same (g : Nat → Value) (d : Nat) (v : Value) : upd g d v d = v := by simp [upd]
theorem upd_ne (g : Nat → Value) {d i : Nat} (v : Value) (h : i ≠ d) : upd g d v i = g i := by simp [upd, h]
theorem upd_at (g : Nat → Value) (d : Nat) (v : Value) (i : Nat) : upd g d v i = if i = d then v else g i := rfl
theorem put_some (g : Nat → Value) (d : Nat) (v : Value) : put g (some d) v = upd g d v := rfl
theorem put_none (g : Nat → Value) (v : Value) : put g none v = g := rfl

theorem fr_get (N : Nat) (g : Nat → Value) {i : Nat} (h : i < N) : (fr N g)[i]? = some (g i) := by
  simp [fr, h]

theorem fr_set (N : Nat) (g : Nat → Value) (d : Nat) (v : Value) : (fr N g).set d v = fr N (upd g d v) := by
  apply List.ext_getElem?
  intro i
  by_cases hi : i < N
  · rw [fr_get _ _ hi]
    by_cases hd : i = d
    · subst hd
      simp [upd, fr, hi]
    · rw [List.getElem?_set_ne (by omega), fr_get _ _ hi]
      simp [upd, hd]
  · rw [List.getElem?_eq_none (by simp [fr]; omega), List.getElem?_eq_none (by simp [fr]; omega)]

theorem fr_put (N : Nat) (g : Nat → Value) (dst : Option Tmp) (v : Value) : aput (fr N g) dst v = fr N (put g dst v) := by
  cases dst with
  | none => rfl
  | some d => exact fr_set N g d v

theorem ev_tmp {N : Nat} (g : Nat → Value) {i : Nat} (h : i < N) : aeval (fr N g) (.tmp i) = g i := by
  simp [aeval, fr_get _ _ h]
theorem ev_const (t : List Value) (v : Value) : aeval t (.const v) = v := rfl
theorem ev_global (t : List Value) (b : Nat) : aeval t (.global b) = .pointer (some ⟨b, 0, none⟩) := rfl
theorem ev_func (t : List Value) (f : Nat) : aeval t (.func f) = .func (.func f) #[] #[] := rfl

def entry (args : List Value) (i : Nat) : Value := (args[i]?).getD undef

theorem entry_fr {N : Nat} (args : List Value) (h : args.length ≤ N) : args ++ List.replicate (N - args.length) undef = fr N (entry args) := by
  apply List.ext_getElem?
  intro i
  by_cases hi : i < N
  · rw [fr_get _ _ hi]
    by_cases ha : i < args.length
    · rw [List.getElem?_append_left ha]
      simp [entry, ha]
    · rw [List.getElem?_append_right (by omega), List.getElem?_replicate_of_lt (by omega)]
      simp [entry, ha]
  · rw [List.getElem?_eq_none (by simp; omega), List.getElem?_eq_none (by simp [fr]; omega)]

section
variable (E : Env)

def runC (c : Code) (t : List Value) (S : St) (Q : AExit → List Value → St → Prop) : Prop := ∃ n x t1 S1, acode E n c t S = some (x, t1, S1) ∧ Q x t1 S1
def runO (ops : Array Oper) (l : List Oper) (t : List Value) (S : St) (Q : List Value → St → Prop) : Prop := ∃ n t1 S1, aops E (acall E n) ops l t S = some (t1, S1) ∧ Q t1 S1
def runD (n0 : Nat) (ops : Array Oper) (l : List Oper) (t : List Value) (S : St) (Q : List Nat → List Value → St → Prop) : Prop := ∃ n cs t1 S1, aopsD E (acall E n) n0 ops l t S = some (cs, t1, S1) ∧ Q cs t1 S1
def opR (ops : Array Oper) (o : Oper) (t : List Value) (S : St) (K : Value → St → Prop) : Prop := ∃ n v S1, aoper E (acall E n) ops o t S = some (v, S1) ∧ K v S1
def callR (f : FuncId) (vs : List Value) (S : St) (K : Value → St → Prop) : Prop := ∃ n v S1, acall E n f vs S = some (v, S1) ∧ K v S1

/-- What comes of an operation's outcome. -/
def outR (r : Option (Next × St)) (K : Value → St → Prop) : Prop :=
  match r with
  | some (.value v, S) => K v S
  | some (.skip, S) => K undef S
  | some (.enter f args, S) => callR E f args.toList S K
  | _ => False

def seqK (y : Code) (Q : AExit → List Value → St → Prop) (x : AExit) (t : List Value) (S : St) : Prop :=
  match x with
  | .normal => runC E y t S Q
  | x => Q x t S

def blockK (id : Nat) (Q : AExit → List Value → St → Prop) (x : AExit) (t : List Value) (S : St) : Prop :=
  match x with
  | .exit i => if i = id then Q .normal t S else Q (.exit i) t S
  | x => Q x t S

def condR (v : Value) (A B : Prop) : Prop :=
  match v with
  | .bool b => if b = true then A else B
  | _ => False
end

variable {E : Env}

theorem runC_mono {c t S} {Q Q' : AExit → List Value → St → Prop} (h : runC E c t S Q) (hQ : ∀ x t S, Q x t S → Q' x t S) : runC E c t S Q' := by
  obtain ⟨n, x, t1, S1, h1, h2⟩ := h
  exact ⟨n, x, t1, S1, h1, hQ _ _ _ h2⟩

theorem callR_mono {f vs S} {Q Q' : Value → St → Prop} (h : callR E f vs S Q) (hQ : ∀ x S, Q x S → Q' x S) : callR E f vs S Q' := by
  obtain ⟨n, x, S1, h1, h2⟩ := h
  exact ⟨n, x, S1, h1, hQ _ _ h2⟩

theorem runC_skip (t S Q) : runC E .skip t S Q ↔ Q .normal t S := by
  constructor
  · rintro ⟨n, x, t1, S1, h, hq⟩
    cases n with
    | zero => simp [acode] at h
    | succ n => simp [acode] at h; obtain ⟨rfl, rfl, rfl⟩ := h; exact hq
  · intro h; exact ⟨1, _, _, _, by simp [acode], h⟩

theorem runC_label (i t S Q) : runC E (.label i) t S Q ↔ Q .normal t S := by
  constructor
  · rintro ⟨n, x, t1, S1, h, hq⟩
    cases n with
    | zero => simp [acode] at h
    | succ n => simp [acode] at h; obtain ⟨rfl, rfl, rfl⟩ := h; exact hq
  · intro h; exact ⟨1, _, _, _, by simp [acode], h⟩

theorem runC_exit (i t S Q) : runC E (.exit i) t S Q ↔ Q (.exit i) t S := by
  constructor
  · rintro ⟨n, x, t1, S1, h, hq⟩
    cases n with
    | zero => simp [acode] at h
    | succ n => simp [acode] at h; obtain ⟨rfl, rfl, rfl⟩ := h; exact hq
  · intro h; exact ⟨1, _, _, _, by simp [acode], h⟩

theorem runC_ret (t S Q) : runC E .ret t S Q ↔ Q .ret t S := by
  constructor
  · rintro ⟨n, x, t1, S1, h, hq⟩
    cases n with
    | zero => simp [acode] at h
    | succ n => simp [acode] at h; obtain ⟨rfl, rfl, rfl⟩ := h; exact hq
  · intro h; exact ⟨1, _, _, _, by simp [acode], h⟩

theorem runC_seq (x y t S Q) : runC E (.seq x y) t S Q ↔ runC E x t S (seqK E y Q) := by
  constructor
  · rintro ⟨n, e, t1, S1, h, hq⟩
    cases n with
    | zero => simp [acode] at h
    | succ n =>
      unfold acode at h
      simp only at h
      split at h
      · rename_i t2 S2 heq
        exact ⟨n, .normal, t2, S2, heq, n, e, t1, S1, h, hq⟩
      · rename_i hx
        refine ⟨n, e, t1, S1, h, ?_⟩
        cases e with
        | normal => exact absurd h (hx _ _)
        | exit i => exact hq
        | ret => exact hq
  · rintro ⟨n, e, t1, S1, h, hq⟩
    cases e with
    | normal =>
      obtain ⟨m, e2, t2, S2, h2, hq⟩ := hq
      refine ⟨max n m + 1, e2, t2, S2, ?_, hq⟩
      unfold acode
      simp only
      rw [acode_mono (Nat.le_max_left n m) h]
      exact acode_mono (Nat.le_max_right n m) h2
    | exit i => exact ⟨n + 1, .exit i, t1, S1, by unfold acode; simp only; rw [h], hq⟩
    | ret => exact ⟨n + 1, .ret, t1, S1, by unfold acode; simp only; rw [h], hq⟩

theorem runC_cond (c x y t S Q) : runC E (.cond c x y) t S Q ↔ condR (aeval t c) (runC E x t S Q) (runC E y t S Q) := by
  constructor
  · rintro ⟨n, e, t1, S1, h, hq⟩
    cases n with
    | zero => simp [acode] at h
    | succ n =>
      unfold acode at h
      simp only at h
      split at h
      · rename_i heq; rw [heq]; exact ⟨n, e, t1, S1, h, hq⟩
      · rename_i heq; rw [heq]; exact ⟨n, e, t1, S1, h, hq⟩
      · cases h
  · intro h
    unfold condR at h
    split at h
    · rename_i b heq
      split at h
      · rename_i hb
        obtain ⟨n, e, t1, S1, h, hq⟩ := h
        refine ⟨n + 1, e, t1, S1, ?_, hq⟩
        unfold acode; simp only; rw [heq, hb]; exact h
      · rename_i hb
        obtain ⟨n, e, t1, S1, h, hq⟩ := h
        refine ⟨n + 1, e, t1, S1, ?_, hq⟩
        have : b = false := by simpa using hb
        unfold acode; simp only; rw [heq, this]; exact h
    · cases h

theorem runC_block (id b t S Q) : runC E (.block id b) t S Q ↔ runC E b t S (blockK id Q) := by
  constructor
  · rintro ⟨n, e, t1, S1, h, hq⟩
    cases n with
    | zero => simp [acode] at h
    | succ n =>
      unfold acode at h
      simp only at h
      split at h
      · rename_i i t2 S2 heq
        refine ⟨n, .exit i, t2, S2, heq, ?_⟩
        unfold blockK
        simp only
        split at h <;> rename_i hi <;> simp only [Option.some.injEq, Prod.mk.injEq] at h <;> obtain ⟨rfl, rfl, rfl⟩ := h
        · rw [if_pos hi]; exact hq
        · rw [if_neg hi]; exact hq
      · rename_i hx
        refine ⟨n, e, t1, S1, h, ?_⟩
        cases e with
        | normal => exact hq
        | exit i => exact absurd h (hx _ _ _)
        | ret => exact hq
  · rintro ⟨n, e, t1, S1, h, hq⟩
    cases e with
    | normal => exact ⟨n + 1, .normal, t1, S1, by unfold acode; simp only; rw [h], hq⟩
    | ret => exact ⟨n + 1, .ret, t1, S1, by unfold acode; simp only; rw [h], hq⟩
    | exit i =>
      unfold blockK at hq
      simp only at hq
      split at hq
      · rename_i hi
        exact ⟨n + 1, .normal, t1, S1, by unfold acode; simp only; rw [h]; simp [hi], hq⟩
      · rename_i hi
        exact ⟨n + 1, .exit i, t1, S1, by unfold acode; simp only; rw [h]; simp [hi], hq⟩

theorem runC_loop (b t S Q) : runC E (.loop b) t S Q ↔ runC E b t S (seqK E (.loop b) Q) := by
  constructor
  · rintro ⟨n, e, t1, S1, h, hq⟩
    cases n with
    | zero => simp [acode] at h
    | succ n =>
      unfold acode at h
      simp only at h
      split at h
      · rename_i t2 S2 heq
        exact ⟨n, .normal, t2, S2, heq, n, e, t1, S1, h, hq⟩
      · rename_i hx
        refine ⟨n, e, t1, S1, h, ?_⟩
        cases e with
        | normal => exact absurd h (hx _ _)
        | exit i => exact hq
        | ret => exact hq
  · rintro ⟨n, e, t1, S1, h, hq⟩
    cases e with
    | normal =>
      obtain ⟨m, e2, t2, S2, h2, hq⟩ := hq
      refine ⟨max n m + 1, e2, t2, S2, ?_, hq⟩
      unfold acode
      simp only
      rw [acode_mono (Nat.le_max_left n m) h]
      exact acode_mono (Nat.le_max_right n m) h2
    | exit i => exact ⟨n + 1, .exit i, t1, S1, by unfold acode; simp only; rw [h], hq⟩
    | ret => exact ⟨n + 1, .ret, t1, S1, by unfold acode; simp only; rw [h], hq⟩

/-- A loop, by a measure that falls. -/
theorem runC_loop_inv {α : Type} (I : α → List Value → St → Prop) (m : α → Nat) {b : Code} {Q : AExit → List Value → St → Prop}
    (h : ∀ a t S, I a t S → runC E b t S fun x t1 S1 => match x with
      | .normal => ∃ a1, m a1 < m a ∧ I a1 t1 S1
      | x => Q x t1 S1) : ∀ a t S, I a t S → runC E (.loop b) t S Q := by
  intro a
  induction hk : m a using Nat.strongRecOn generalizing a with
  | _ k ih =>
    intro t S hI
    rw [runC_loop]
    refine runC_mono (h a t S hI) ?_
    intro x t1 S1 hx
    cases x with
    | normal =>
      obtain ⟨a1, hm, hI1⟩ := hx
      exact ih (m a1) (by omega) a1 rfl t1 S1 hI1
    | exit i => exact hx
    | ret => exact hx

theorem runC_region (id ops t S Q) : runC E (.region id ops false) t S Q ↔ runO E ops ops.toList t S (fun t1 S1 => Q .normal t1 S1) := by
  constructor
  · rintro ⟨n, e, t1, S1, h, hq⟩
    cases n with
    | zero => simp [acode] at h
    | succ n =>
      unfold acode at h
      simp only [Bool.false_eq_true, if_false] at h
      split at h
      · rename_i t2 S2 heq
        simp only [Option.some.injEq, Prod.mk.injEq] at h
        obtain ⟨rfl, rfl, rfl⟩ := h
        exact ⟨n, _, _, heq, hq⟩
      · cases h
  · rintro ⟨n, t1, S1, h, hq⟩
    refine ⟨n + 1, .normal, t1, S1, ?_, hq⟩
    unfold acode
    simp only [Bool.false_eq_true, if_false]
    rw [h]

theorem runC_regionD (id ops t S Q) : runC E (.region id ops true) t S Q ↔ runD E S.n ops ops.toList t S (fun cs t1 S1 => aordered ops cs = true ∧ Q .normal t1 S1) := by
  constructor
  · rintro ⟨n, e, t1, S1, h, hq⟩
    cases n with
    | zero => simp [acode] at h
    | succ n =>
      unfold acode at h
      simp only [if_true] at h
      split at h
      · rename_i cs t2 S2 heq
        split at h
        · rename_i ho
          simp only [Option.some.injEq, Prod.mk.injEq] at h
          obtain ⟨rfl, rfl, rfl⟩ := h
          exact ⟨n, _, _, _, heq, ho, hq⟩
        · cases h
      · cases h
  · rintro ⟨n, cs, t1, S1, h, ho, hq⟩
    refine ⟨n + 1, .normal, t1, S1, ?_, hq⟩
    unfold acode
    simp only [if_true]
    rw [h]
    simp only [ho, if_true]

theorem runO_nil (ops t S Q) : runO E ops [] t S Q ↔ Q t S := by
  constructor
  · rintro ⟨n, t1, S1, h, hq⟩
    simp only [aops, Option.some.injEq, Prod.mk.injEq] at h
    obtain ⟨rfl, rfl⟩ := h
    exact hq
  · intro h; exact ⟨0, t, S, rfl, h⟩

theorem runO_cons (ops o l N g S Q) : runO E ops (o :: l) (fr N g) S Q ↔ opR E ops o (fr N g) S (fun v S1 => runO E ops l (fr N (put g o.dst v)) S1 Q) := by
  constructor
  · rintro ⟨n, t1, S1, h, hq⟩
    unfold aops at h
    split at h
    · rename_i v S2 heq
      rw [fr_put] at h
      exact ⟨n, v, S2, heq, n, t1, S1, h, hq⟩
    · cases h
  · rintro ⟨n, v, S2, heq, m, t1, S1, h, hq⟩
    refine ⟨max n m, t1, S1, ?_, hq⟩
    unfold aops
    rw [aoper_mono (acall_mono (Nat.le_max_left n m)) _ _ _ _ _ heq]
    simp only
    rw [fr_put]
    exact aops_mono (acall_mono (Nat.le_max_right n m)) _ _ _ _ _ h

theorem runD_nil (n0 ops t S Q) : runD E n0 ops [] t S Q ↔ Q [] t S := by
  constructor
  · rintro ⟨n, cs, t1, S1, h, hq⟩
    simp only [aopsD, Option.some.injEq, Prod.mk.injEq] at h
    obtain ⟨rfl, rfl, rfl⟩ := h
    exact hq
  · intro h; exact ⟨0, [], t, S, rfl, h⟩

theorem runD_cons (n0 ops o l N g S Q) : runD E n0 ops (o :: l) (fr N g) S Q ↔
    opR E ops o (fr N g) ⟨S.n, S.h, S.n⟩ (fun v S1 => runD E n0 ops l (fr N (put g o.dst v)) ⟨S1.n, S1.h, Nat.min S.low S1.low⟩ (fun cs t S2 => Q (aclsD E n0 ops o (fr N g) v S S1 :: cs) t S2)) := by
  constructor
  · rintro ⟨n, cs, t1, S1, h, hq⟩
    unfold aopsD at h
    split at h
    · rename_i v S2 heq
      rw [fr_put] at h
      split at h
      · rename_i cs2 t2 S3 heq2
        simp only [Option.some.injEq, Prod.mk.injEq] at h
        obtain ⟨rfl, rfl, rfl⟩ := h
        exact ⟨n, v, S2, heq, n, _, _, _, heq2, hq⟩
      · cases h
    · cases h
  · rintro ⟨n, v, S2, heq, m, cs, t1, S1, h, hq⟩
    refine ⟨max n m, _, t1, S1, ?_, hq⟩
    unfold aopsD
    rw [aoper_mono (acall_mono (Nat.le_max_left n m)) _ _ _ _ _ heq]
    simp only
    rw [fr_put, aopsD_mono (acall_mono (Nat.le_max_right n m)) _ _ _ _ _ _ h]

theorem opR_plain (ops t S K d op ty pos after) : opR E ops ⟨d, op, ty, pos, after, none⟩ t S K ↔ (op.operands.toList.all (constOk E) = true ∧ outR E (aop E (aeval t) ⟨d, op, ty, pos, after, none⟩ S) K) := by
  constructor
  · rintro ⟨n, v, S1, h, hk⟩
    unfold aoper at h
    rw [if_pos (by rfl)] at h
    split at h
    · rename_i ho
      refine ⟨ho, ?_⟩
      split at h
      · rename_i heq; rw [heq]; simp only [Option.some.injEq, Prod.mk.injEq] at h; obtain ⟨rfl, rfl⟩ := h; exact hk
      · rename_i heq; rw [heq]; simp only [Option.some.injEq, Prod.mk.injEq] at h; obtain ⟨rfl, rfl⟩ := h; exact hk
      · rename_i heq; rw [heq]; exact ⟨n, v, S1, h, hk⟩
      · cases h
    · cases h
  · rintro ⟨ho, h⟩
    unfold outR at h
    split at h
    · rename_i v S1 heq
      exact ⟨0, v, S1, by unfold aoper; rw [if_pos (by rfl), if_pos (by exact ho), heq], h⟩
    · rename_i S1 heq
      exact ⟨0, undef, S1, by unfold aoper; rw [if_pos (by rfl), if_pos (by exact ho), heq], h⟩
    · rename_i f args S1 heq
      obtain ⟨n, v, S2, h1, h2⟩ := h
      exact ⟨n, v, S2, by unfold aoper; rw [if_pos (by rfl), if_pos (by exact ho), heq]; exact h1, h2⟩
    · cases h

/-- The bool that a guard looks at. -/
def guardR (v : Option Value) (want : Bool) (A B : Prop) : Prop :=
  match v with
  | some (.bool b) => if b = want then A else B
  | _ => B

theorem opR_guard (ops t S K d op ty pos after j want) : opR E ops ⟨d, op, ty, pos, after, some (j, want)⟩ t S K ↔
    guardR (((ops[j]?).bind (·.dst)).bind (t[·]?)) want (opR E ops ⟨d, op, ty, pos, after, none⟩ t S K) (K undef S) := by
  have hw : Region.wanted ⟨d, op, ty, pos, after, some (j, want)⟩ (ayielded ops t) = (ayielded ops t j == some want) := rfl
  unfold guardR
  split
  · rename_i b heq
    have hy : ayielded ops t j = some b := by unfold ayielded; rw [heq]
    split
    · rename_i hb
      subst hb
      constructor
      · rintro ⟨n, v, S1, h, hk⟩
        unfold aoper at h
        rw [if_pos (by rw [hw, hy]; simp)] at h
        exact ⟨n, v, S1, by unfold aoper; rw [if_pos (by rfl)]; exact h, hk⟩
      · rintro ⟨n, v, S1, h, hk⟩
        unfold aoper at h
        rw [if_pos (by rfl)] at h
        exact ⟨n, v, S1, by unfold aoper; rw [if_pos (by rw [hw, hy]; simp)]; exact h, hk⟩
    · rename_i hb
      constructor
      · rintro ⟨n, v, S1, h, hk⟩
        unfold aoper at h
        rw [if_neg (by rw [hw, hy]; simpa using hb)] at h
        simp only [Option.some.injEq, Prod.mk.injEq] at h
        obtain ⟨rfl, rfl⟩ := h
        exact hk
      · intro hk
        exact ⟨0, undef, S, by unfold aoper; rw [if_neg (by rw [hw, hy]; simpa using hb)], hk⟩
  · rename_i hx
    have hy : ayielded ops t j = none := by
      unfold ayielded
      split
      · rename_i b heq; exact absurd heq (hx b)
      · rfl
    constructor
    · rintro ⟨n, v, S1, h, hk⟩
      unfold aoper at h
      rw [if_neg (by rw [hw, hy]; simp)] at h
      simp only [Option.some.injEq, Prod.mk.injEq] at h
      obtain ⟨rfl, rfl⟩ := h
      exact hk
    · intro hk
      exact ⟨0, undef, S, by unfold aoper; rw [if_neg (by rw [hw, hy]; simp)], hk⟩

/-- What a call's body comes to. -/
def retR (E : Env) (results : List ResultVar) (S : St) (K : Value → St → Prop) (x : AExit) (t : List Value) (S1 : St) : Prop :=
  match x with
  | .exit _ => False
  | _ =>
    match aresults E t S1 results with
    | some vs => if S.n ≤ S1.low ∧ pf (tupled vs) = true then K (tupled vs) S else K (tupled vs) ⟨S1.n, S1.h, Nat.min S.low S1.low⟩
    | none => False

theorem callR_memo {f vs v} (h : E.memo f vs = some v) (S K) : callR E f vs S K ↔ K v S := by
  constructor
  · rintro ⟨n, v1, S1, h1, hk⟩
    cases n with
    | zero => simp [acall] at h1
    | succ n =>
      unfold acall at h1
      rw [h] at h1
      simp only [Option.some.injEq, Prod.mk.injEq] at h1
      obtain ⟨rfl, rfl⟩ := h1
      exact hk
  · intro hk
    exact ⟨1, v, S, by unfold acall; rw [h], hk⟩

theorem callR_body {f vs fn c} (hm : E.memo f vs = none) (ho : E.okf f = true) (hf : E.P.funcs[f]? = some fn) (hb : fn.body = some c) (hl : vs.length ≤ fn.ntmps) (S K) :
    callR E f vs S K ↔ runC E c (fr fn.ntmps (entry vs)) ⟨S.n, S.h, S.n⟩ (retR E fn.results.toList S K) := by
  constructor
  · rintro ⟨n, v1, S1, h1, hk⟩
    cases n with
    | zero => simp [acall] at h1
    | succ n =>
      unfold acall at h1
      rw [hm, ho, hf] at h1
      simp only [if_true] at h1
      rw [hb] at h1
      simp only at h1
      rw [entry_fr _ hl] at h1
      split at h1
      · cases h1
      · cases h1
      · rename_i x t S2 hx heq
        refine ⟨n, x, t, S2, heq, ?_⟩
        unfold retR
        split
        · rename_i i; exact (hx i rfl).elim
        · split at h1
          · rename_i vs2 hr
            split at h1 <;> rename_i hc <;> simp only [Option.some.injEq, Prod.mk.injEq] at h1 <;> obtain ⟨rfl, rfl⟩ := h1
            · rw [hr]; simp only; rw [if_pos hc]; exact hk
            · rw [hr]; simp only; rw [if_neg hc]; exact hk
          · cases h1
  · rintro ⟨n, x, t, S2, heq, hk⟩
    unfold retR at hk
    split at hk
    · cases hk
    · rename_i hx
      split at hk
      · rename_i vs2 hr
        have step : ∀ r, (if S.n ≤ S2.low ∧ pf (tupled vs2) = true then some (tupled vs2, S) else some (tupled vs2, (⟨S2.n, S2.h, Nat.min S.low S2.low⟩ : St))) = some r → acall E (n + 1) f vs S = some r := by
          intro r hr2
          unfold acall
          rw [hm, ho, hf]
          simp only [if_true]
          rw [hb]
          simp only
          rw [entry_fr _ hl, heq]
          cases x with
          | exit i => exact absurd rfl (hx i)
          | normal => simp only [hr]; exact hr2
          | ret => simp only [hr]; exact hr2
        split at hk
        · rename_i hc
          exact ⟨n + 1, _, _, step _ (by rw [if_pos hc]), hk⟩
        · rename_i hc
          exact ⟨n + 1, _, _, step _ (by rw [if_neg hc]), hk⟩
      · cases hk

end Go.Abs

namespace Go.Abs
open Go Go.RowKit

/-- A fact that simp takes as a rule with a proof. -/
theorem keepEq {α : Type} {a b : α} (h : a = b) : a = b := h

theorem bytes_ext {a b : ByteArray} (h : a.toList = b.toList) : a = b := by
  have h2 : a.data.toList = b.data.toList := by rw [← Lib.toList_data, ← Lib.toList_data, h]
  cases a; cases b
  simp only at h2
  congr 1
  exact Array.ext' h2

theorem prun_bind {P : Program} {α β : Type} (s : Sem α) (f : α → Sem β) : prun P (s >>= f) = (prun P s).bind fun a => prun P (f a) := by
  show prun P (s.bind f) = _
  induction s with
  | pure a => rfl
  | program k ih => exact ih P
  | mark m k ih => exact ih
  | choose q k ih =>
    simp only [Sem.bind, prun]
    split
    · exact ih 0
    · rfl
  | _ => rfl

theorem prun_under {P : Program} (t : TypeId) : prun P (underlying t) = P.underlying t := by
  unfold underlying
  rw [prun_bind]
  show prun P (match P.underlying t with | some d => (pure d : Sem TypeDesc) | none => stuck "no such type") = _
  cases P.underlying t <;> rfl

theorem prun_pure {P : Program} {α : Type} (a : α) : prun P (pure a : Sem α) = some a := rfl

def binA (E : Env) (op : BinOp) (t : TypeId) (x y : Operand) (a b : Value) (S : St) : Option (Next × St) :=
  if pf a && pf b then
    match prun E.P (eqGuard op t x y a b >>= fun _ => binOp op t a b) with
    | some v => if pf v then some (.value v, S) else none
    | none => none
  else aeqOp E op t a b S

section
variable {E : Env}

theorem aop_move (ρ d x ty pos after gd S) : aop E ρ ⟨d, .move x, ty, pos, after, gd⟩ S = some (.value (ρ x), S) := rfl
theorem aop_assign (ρ d x ty pos after gd S) : aop E ρ ⟨d, .assign x, ty, pos, after, gd⟩ S = some (.value (ρ x), S) := rfl

def pickA (c a b : Value) (S : St) : Option (Next × St) :=
  match c with
  | .bool t => some (.value (if t then a else b), S)
  | _ => none
theorem aop_pick (ρ d c a b ty pos after gd S) : aop E ρ ⟨d, .pick c a b, ty, pos, after, gd⟩ S = pickA (ρ c) (ρ a) (ρ b) S := by
  unfold aop pickA
  rfl
theorem pickA_true (a b S) : pickA (.bool true) a b S = some (.value a, S) := rfl
theorem pickA_false (a b S) : pickA (.bool false) a b S = some (.value b, S) := rfl
theorem pickA_bools (t a b S) : pickA (.bool t) (.bool a) (.bool b) S = some (.value (.bool (if t then a else b)), S) := by cases t <;> rfl

theorem aop_bin (ρ d op t x y yt ty pos after gd S) : aop E ρ ⟨d, .binOp op t x y yt, ty, pos, after, gd⟩ S = binA E op t x y (ρ x) (ρ y) S := by
  have hall : allPf ρ ⟨d, .binOp op t x y yt, ty, pos, after, gd⟩ = (pf (ρ x) && pf (ρ y)) := by
    simp [allPf, Op.operands]
  have hap : aop E ρ ⟨d, .binOp op t x y yt, ty, pos, after, gd⟩ S = if allPf ρ ⟨d, .binOp op t x y yt, ty, pos, after, gd⟩ then apure E ρ ⟨d, .binOp op t x y yt, ty, pos, after, gd⟩ S else aeqOp E op t (ρ x) (ρ y) S := rfl
  rw [hap, hall]
  unfold binA
  split
  · rename_i h
    unfold apure
    rw [hall, h]
    simp only [isSelect, Bool.not_false, Bool.and_true, if_true]
    show (match prun E.P (((eqGuard op t x y (ρ x) (ρ y)) >>= fun _ => binOp op t (ρ x) (ρ y)) >>= fun v => pure (Next.value v)) with | some nx => if pfNext nx then some (nx, S) else none | none => none) = _
    rw [prun_bind]
    cases prun E.P (eqGuard op t x y (ρ x) (ρ y) >>= fun _ => binOp op t (ρ x) (ρ y)) with
    | none => rfl
    | some v => by_cases hv : pf v = true <;> simp [prun_pure, pfNext, hv]
  · rfl

theorem binA_of {op t x y a b S v} (hp : (pf a && pf b) = true) (hg : prun E.P (eqGuard op t x y a b) = some ()) (hr : prun E.P (binOp op t a b) = some v) (hv : pf v = true) :
    binA E op t x y a b S = some (.value v, S) := by
  unfold binA
  rw [hp, if_pos rfl, prun_bind, hg]
  simp [hr, hv]

theorem guard_int {P : Program} (op t x y k a b) : prun P (eqGuard op t x y (.int k a) b) = some () := by cases op <;> first | rfl | (cases b <;> rfl)
theorem guard_str {P : Program} (op t x y a b) : prun P (eqGuard op t x y (.string a) b) = some () := by cases op <;> first | rfl | (cases b <;> rfl)
theorem guard_bool {P : Program} (op t x y a b) : prun P (eqGuard op t x y (.bool a) b) = some () := by cases op <;> first | rfl | (cases b <;> rfl)

theorem bin_add (t x y k a b S) : binA E .add t x y (.int k a) (.int k b) S = some (.value (.int k (k.wrap (a + b))), S) := binA_of rfl (guard_int ..) (by simp [binOp, Op.intArith]; rfl) rfl
theorem bin_sub (t x y k a b S) : binA E .sub t x y (.int k a) (.int k b) S = some (.value (.int k (k.wrap (a - b))), S) := binA_of rfl (guard_int ..) (by simp [binOp, Op.intArith]; rfl) rfl
theorem bin_mul (t x y k a b S) : binA E .mul t x y (.int k a) (.int k b) S = some (.value (.int k (k.wrap (a * b))), S) := binA_of rfl (guard_int ..) (by simp [binOp, Op.intArith]; rfl) rfl
theorem bin_quo (t x y k a b S) (hb : b ≠ 0) : binA E .quo t x y (.int k a) (.int k b) S = some (.value (.int k (k.wrap (a.tdiv b))), S) := binA_of rfl (guard_int ..) (by simp [binOp, Op.intDiv, hb]; rfl) rfl
theorem bin_rem (t x y k a b S) (hb : b ≠ 0) : binA E .rem t x y (.int k a) (.int k b) S = some (.value (.int k (a.tmod b)), S) := binA_of rfl (guard_int ..) (by simp [binOp, Op.intDiv, hb]; rfl) rfl
theorem bin_and (t x y k a b S) : binA E .and t x y (.int k a) (.int k b) S = some (.value (.int k (k.wrap (BitVec.ofInt k.bits a &&& BitVec.ofInt k.bits b).toNat)), S) := binA_of rfl (guard_int ..) (by simp [binOp, Op.intBits]; rfl) rfl
theorem bin_or (t x y k a b S) : binA E .or t x y (.int k a) (.int k b) S = some (.value (.int k (k.wrap (BitVec.ofInt k.bits a ||| BitVec.ofInt k.bits b).toNat)), S) := binA_of rfl (guard_int ..) (by simp [binOp, Op.intBits]; rfl) rfl
theorem bin_xor (t x y k a b S) : binA E .xor t x y (.int k a) (.int k b) S = some (.value (.int k (k.wrap (BitVec.ofInt k.bits a ^^^ BitVec.ofInt k.bits b).toNat)), S) := binA_of rfl (guard_int ..) (by simp [binOp, Op.intBits]; rfl) rfl
theorem bin_andNot (t x y k a b S) : binA E .andNot t x y (.int k a) (.int k b) S = some (.value (.int k (k.wrap (BitVec.ofInt k.bits a &&& ~~~ BitVec.ofInt k.bits b).toNat)), S) := binA_of rfl (guard_int ..) (by simp [binOp, Op.intBits]; rfl) rfl
theorem bin_eql (t x y k a b S) : binA E .eql t x y (.int k a) (.int k b) S = some (.value (.bool (decide (a = b))), S) := binA_of rfl (guard_int ..) (by simp [binOp, Op.intCmp]; rfl) rfl
theorem bin_neq (t x y k a b S) : binA E .neq t x y (.int k a) (.int k b) S = some (.value (.bool (!decide (a = b))), S) := binA_of rfl (guard_int ..) (by simp [binOp, Op.intCmp]; rfl) rfl
theorem bin_lss (t x y k a b S) : binA E .lss t x y (.int k a) (.int k b) S = some (.value (.bool (decide (a < b))), S) := binA_of rfl (guard_int ..) (by simp [binOp, Op.intCmp]; rfl) rfl
theorem bin_leq (t x y k a b S) : binA E .leq t x y (.int k a) (.int k b) S = some (.value (.bool (decide (a ≤ b))), S) := binA_of rfl (guard_int ..) (by simp [binOp, Op.intCmp]; rfl) rfl
theorem bin_gtr (t x y k a b S) : binA E .gtr t x y (.int k a) (.int k b) S = some (.value (.bool (decide (b < a))), S) := binA_of rfl (guard_int ..) (by simp [binOp, Op.intCmp]; rfl) rfl
theorem bin_geq (t x y k a b S) : binA E .geq t x y (.int k a) (.int k b) S = some (.value (.bool (decide (b ≤ a))), S) := binA_of rfl (guard_int ..) (by simp [binOp, Op.intCmp]; rfl) rfl
theorem bin_shl (t x y k k' a b S) (hb : 0 ≤ b) : binA E .shl t x y (.int k a) (.int k' b) S = some (.value (.int k (k.wrap (a * 2 ^ (min b.toNat k.bits)))), S) := binA_of rfl (guard_int ..) (by simp [binOp, Op.shift, Int.not_lt.2 hb]; rfl) rfl
theorem bin_shr (t x y k k' a b S) (hb : 0 ≤ b) : binA E .shr t x y (.int k a) (.int k' b) S = some (.value (.int k (a.fdiv (2 ^ (min b.toNat k.bits)))), S) := binA_of rfl (guard_int ..) (by simp [binOp, Op.shift, Int.not_lt.2 hb]; rfl) rfl

theorem bin_s_add (t x y a b S) (h : ((a.size + b.size : Nat) : Int) ≤ IntKind.i64.max) : binA E .add t x y (.string a) (.string b) S = some (.value (.string (a ++ b)), S) :=
  binA_of rfl (guard_str ..) (by simp only [binOp, Op.stringOp]; rw [if_neg (by omega)]; rfl) rfl
theorem str_eq (a b : ByteArray) : (a.toList == b.toList) = decide (a = b) := by
  by_cases h : a = b
  · subst h; simp
  · have : a.toList ≠ b.toList := fun h2 => h (bytes_ext h2)
    rw [decide_eq_false h]
    exact beq_eq_false_iff_ne.2 this

theorem bin_s_eql (t x y a b S) : binA E .eql t x y (.string a) (.string b) S = some (.value (.bool (decide (a = b))), S) :=
  binA_of rfl (guard_str ..) (by simp only [binOp, Op.stringOp, str_eq]; rfl) rfl
theorem bin_s_neq (t x y a b S) : binA E .neq t x y (.string a) (.string b) S = some (.value (.bool (!decide (a = b))), S) :=
  binA_of rfl (guard_str ..) (by simp only [binOp, Op.stringOp, str_eq]; rfl) rfl
theorem bin_s_lss (t x y a b S) : binA E .lss t x y (.string a) (.string b) S = some (.value (.bool (Op.bytesLess a.toList b.toList)), S) :=
  binA_of rfl (guard_str ..) (by simp [binOp, Op.stringOp]; rfl) rfl


def unA (E : Env) (op : UnOp) (a : Value) (S : St) : Option (Next × St) :=
  match prun E.P (Op.unary op a) with
  | some v => if pf a && pf v then some (.value v, S) else none
  | none => none
theorem aop_un (ρ d op t x ty pos after gd S) : aop E ρ ⟨d, .unOp op t x, ty, pos, after, gd⟩ S = unA E op (ρ x) S := by
  have hall : allPf ρ ⟨d, .unOp op t x, ty, pos, after, gd⟩ = pf (ρ x) := by simp [allPf, Op.operands]
  have hap : aop E ρ ⟨d, .unOp op t x, ty, pos, after, gd⟩ S = apure E ρ ⟨d, .unOp op t x, ty, pos, after, gd⟩ S := rfl
  rw [hap]
  unfold apure unA
  rw [hall]
  simp only [isSelect, Bool.not_false, Bool.and_true]
  show (if pf (ρ x) = true then match prun E.P ((Op.unary op (ρ x)) >>= fun v => pure (Next.value v)) with | some nx => if pfNext nx then some (nx, S) else none | none => none else none) = _
  rw [prun_bind]
  cases prun E.P (Op.unary op (ρ x)) with
  | none => simp
  | some v => by_cases hv : pf v = true <;> by_cases hx : pf (ρ x) = true <;> simp [prun_pure, pfNext, hv, hx]
theorem un_not (b S) : unA E .not (.bool b) S = some (.value (.bool !b), S) := rfl
theorem un_neg (k a S) : unA E .neg (.int k a) S = some (.value (.int k (k.wrap (0 - a))), S) := rfl

def convA (E : Env) (src dst : TypeId) (x : Value) (S : St) : Option (Next × St) :=
  match E.P.underlying dst, x with
  | some (.slice _), .string _ => aconvert E src dst x S
  | _, .pointer (some _) => aunsafePtr E src dst x S
  | _, _ => if pf x then
      match prun E.P (convert src dst x) with
      | some v => if pf v then some (.value v, S) else none
      | none => none
    else aconvert E src dst x S
theorem aop_conv (ρ d src dst x ty pos after gd S) : aop E ρ ⟨d, .convert src dst x, ty, pos, after, gd⟩ S = convA E src dst (ρ x) S := by
  have hall : allPf ρ ⟨d, .convert src dst x, ty, pos, after, gd⟩ = pf (ρ x) := by simp [allPf, Op.operands]
  have hap : aop E ρ ⟨d, .convert src dst x, ty, pos, after, gd⟩ S = (match E.P.underlying dst, ρ x with
    | some (.slice _), .string _ => aconvert E src dst (ρ x) S
    | _, .pointer (some _) => aunsafePtr E src dst (ρ x) S
    | _, _ => if allPf ρ ⟨d, .convert src dst x, ty, pos, after, gd⟩ then apure E ρ ⟨d, .convert src dst x, ty, pos, after, gd⟩ S else aconvert E src dst (ρ x) S) := rfl
  rw [hap]
  unfold convA
  split
  · rfl
  · rfl
  · rename_i h1 h2
    rw [hall]
    unfold apure
    rw [hall]
    simp only [isSelect, Bool.not_false, Bool.and_true]
    split
    · show (match prun E.P ((convert src dst (ρ x)) >>= fun v => pure (Next.value v)) with | some nx => if pfNext nx then some (nx, S) else none | none => none) = _
      rw [prun_bind]
      cases prun E.P (convert src dst (ρ x)) with
      | none => rfl
      | some v => by_cases hv : pf v = true <;> simp [prun_pure, pfNext, hv]
    · rfl
/-- An integer becomes one of another kind. -/
theorem conv_int {src dst k0 k} (hs : E.P.underlying src = some k0) (hd : E.P.underlying dst = some (.int k)) (k' n S) : convA E src dst (.int k' n) S = some (.value (.int k (k.wrap n)), S) := by
  have hr : prun E.P (convert src dst (.int k' n)) = some (.int k (k.wrap n)) := by
    unfold convert
    rw [prun_bind, prun_under, hs, Option.bind_some, prun_bind, prun_under, hd, Option.bind_some]
    cases k0 <;> rfl
  unfold convA
  rw [hd]
  simp [pf, hr]


def idxA (E : Env) (t : TypeId) (x i : Value) (S : St) : Option (Next × St) :=
  if pf x && pf i then
    match prun E.P (Instr.index t x i) with
    | some v => if pf v then some (.value v, S) else none
    | none => none
  else val S (aindex E t x i)
theorem aop_index (ρ d t x i ty pos after gd S) : aop E ρ ⟨d, .index t x i, ty, pos, after, gd⟩ S = idxA E t (ρ x) (ρ i) S := by
  have hall : allPf ρ ⟨d, .index t x i, ty, pos, after, gd⟩ = (pf (ρ x) && pf (ρ i)) := by simp [allPf, Op.operands]
  have hap : aop E ρ ⟨d, .index t x i, ty, pos, after, gd⟩ S = if allPf ρ ⟨d, .index t x i, ty, pos, after, gd⟩ then apure E ρ ⟨d, .index t x i, ty, pos, after, gd⟩ S else val S (aindex E t (ρ x) (ρ i)) := rfl
  rw [hap, hall]
  unfold idxA apure
  rw [hall]
  split
  · rename_i h
    rw [h]
    simp only [isSelect, Bool.not_false, Bool.and_true, if_true]
    show (match prun E.P ((Instr.index t (ρ x) (ρ i)) >>= fun v => pure (Next.value v)) with | some nx => if pfNext nx then some (nx, S) else none | none => none) = _
    rw [prun_bind]
    cases prun E.P (Instr.index t (ρ x) (ρ i)) with
    | none => rfl
    | some v => by_cases hv : pf v = true <;> simp [prun_pure, pfNext, hv]
  · rfl
theorem idx_str {t : TypeId} (ht : E.P.underlying t = some .string) (s : ByteArray) (k : IntKind) (i : Int) (h0 : 0 ≤ i) (h1 : i.toNat < s.size) (S : St) :
    idxA E t (.string s) (.int k i) S = some (.value (.int .u8 (s[i.toNat]'h1).toNat), S) := by
  have hr : prun E.P (Instr.index t (.string s) (.int k i)) = some (.int .u8 (s[i.toNat]'h1).toNat) := by
    unfold Instr.index
    show prun E.P ((underlying t) >>= _) = _
    rw [prun_bind, prun_under, ht, Option.bind_some]
    simp only [h0, if_true]
    rw [getElem?_pos s i.toNat h1]
    rfl
  unfold idxA
  rw [hr]
  simp [pf]

def sliceA (E : Env) (t : TypeId) (x : Value) (lo hi mx : Option Value) (S : St) : Option (Next × St) :=
  if pf x && ((lo.map pf).getD true && ((hi.map pf).getD true && (mx.map pf).getD true)) then
    match prun E.P (Instr.sliceAt t x lo hi mx) with
    | some v => if pf v then some (.value v, S) else none
    | none => none
  else val S (aslice E S t x lo hi mx)
theorem aop_slice (ρ d t x lo hi mx ty pos after gd S) : aop E ρ ⟨d, .slice t x lo hi mx, ty, pos, after, gd⟩ S = sliceA E t (ρ x) (lo.map ρ) (hi.map ρ) (mx.map ρ) S := by
  have hall : allPf ρ ⟨d, .slice t x lo hi mx, ty, pos, after, gd⟩ = (pf (ρ x) && (((lo.map ρ).map pf).getD true && (((hi.map ρ).map pf).getD true && ((mx.map ρ).map pf).getD true))) := by
    cases lo <;> cases hi <;> cases mx <;> simp [allPf, Op.operands, Bool.and_assoc]
  have hap : aop E ρ ⟨d, .slice t x lo hi mx, ty, pos, after, gd⟩ S = if allPf ρ ⟨d, .slice t x lo hi mx, ty, pos, after, gd⟩ then apure E ρ ⟨d, .slice t x lo hi mx, ty, pos, after, gd⟩ S else val S (aslice E S t (ρ x) (lo.map ρ) (hi.map ρ) (mx.map ρ)) := rfl
  rw [hap, hall]
  unfold sliceA apure
  rw [hall]
  split
  · rename_i h
    rw [h]
    simp only [isSelect, Bool.not_false, Bool.and_true, if_true]
    show (match prun E.P ((Instr.sliceAt t (ρ x) (lo.map ρ) (hi.map ρ) (mx.map ρ)) >>= fun v => pure (Next.value v)) with | some nx => if pfNext nx then some (nx, S) else none | none => none) = _
    rw [prun_bind]
    cases prun E.P (Instr.sliceAt t (ρ x) (lo.map ρ) (hi.map ρ) (mx.map ρ)) with
    | none => rfl
    | some v => by_cases hv : pf v = true <;> simp [prun_pure, pfNext, hv]
  · rfl

theorem aop_extract (ρ d t ix ty pos after gd S) : aop E ρ ⟨d, .extract t ix, ty, pos, after, gd⟩ S = val S (aextract (ρ t) ix) := rfl
theorem aop_next (ρ d it b ty pos after gd S) : aop E ρ ⟨d, .next it b, ty, pos, after, gd⟩ S = if b then anext E (ρ it) S else none := rfl
theorem aop_range (ρ d t x ty pos after gd S) : aop E ρ ⟨d, .range t x, ty, pos, after, gd⟩ S = (match ρ x, E.P.underlying t with
    | .string s, some .string => some (.value (ptrTo S.n), S.push (.iter s 0))
    | _, _ => none) := rfl
theorem aop_load (ρ d t a ty pos after gd S) : aop E ρ ⟨d, .load t a, ty, pos, after, gd⟩ S = val S (aload E S t (ρ a)) := rfl
theorem aop_store (ρ d t a x ty pos after gd S) : aop E ρ ⟨d, .store t a x, ty, pos, after, gd⟩ S = (astore E S t (ρ a) (ρ x)).map fun S' => (.skip, S') := rfl
theorem aop_indexAddr (ρ d t x i ty pos after gd S) : aop E ρ ⟨d, .indexAddr t x i, ty, pos, after, gd⟩ S = val S (aindexAddr E t (ρ x) (ρ i)) := rfl
theorem aop_fieldAddr (ρ d t x f ty pos after gd S) : aop E ρ ⟨d, .fieldAddr t x f, ty, pos, after, gd⟩ S = val S (afieldAddr E t (ρ x) f) := rfl
theorem aop_field (ρ d t x f ty pos after gd S) : aop E ρ ⟨d, .field t x f, ty, pos, after, gd⟩ S = val S (afield E t (ρ x) f) := rfl
theorem aop_alloc (ρ d elem ty pos after gd S) : aop E ρ ⟨d, .alloc elem, ty, pos, after, gd⟩ S = (match (E.P.info? elem).bind (·.zero) with
    | some z => if pf z then some (.value (ptrTo S.n), S.push (.own z.cells.toList elem)) else none
    | none => none) := rfl
theorem val_some (S v) : val S (some v) = some (.value v, S) := rfl

theorem call_fn (ρ : Operand → Value) (d f args tys ty pos after gd S) (hf : ρ (.func f) = .func (.func f) #[] #[]) (hb : hasBody E f = true) :
    aop E ρ ⟨d, .call ⟨.value (.func f), args, tys⟩, ty, pos, after, gd⟩ S = some (.enter f (args.toList.map ρ).toArray, S) := by
  unfold aop
  simp only
  rw [hf]
  unfold acallee
  simp [hb]
theorem outR_value (v S K) : outR E (some (.value v, S)) K ↔ K v S := Iff.rfl
theorem outR_skip (S K) : outR E (some (.skip, S)) K ↔ K undef S := Iff.rfl
theorem outR_enter (f args S K) : outR E (some (.enter f args, S)) K ↔ callR E f args.toList S K := Iff.rfl
theorem outR_none (K) : outR E none K ↔ False := Iff.rfl
theorem condR_bool (b A B) : condR (.bool b) A B ↔ (if b = true then A else B) := Iff.rfl
theorem guardR_bool (b want A B) : guardR (some (.bool b)) want A B ↔ (if b = want then A else B) := Iff.rfl


theorem outR_congr {r r' : Option (Next × St)} (K) (h : r = r') : outR E r K = outR E r' K := by rw [h]
theorem condR_congr {v v' : Value} (A B : Prop) (h : v = v') : condR v A B = condR v' A B := by rw [h]
theorem guardR_congr {v v' : Option Value} (w : Bool) (A B : Prop) (h : v = v') : guardR v w A B = guardR v' w A B := by rw [h]
theorem seqK_congr (y Q x t S) : seqK E y Q x t S = seqK E y Q x t S := rfl
theorem blockK_congr (i Q x t S) : blockK i Q x t S = blockK i Q x t S := rfl
theorem runC_congr (c t S Q) : runC E c t S Q = runC E c t S Q := rfl
theorem runO_congr (ops l t S Q) : runO E ops l t S Q = runO E ops l t S Q := rfl
theorem runD_congr (ops l t S Q) : runD E ops l t S Q = runD E ops l t S Q := rfl
theorem opR_congr (ops o t S K) : opR E ops o t S K = opR E ops o t S K := rfl
theorem callR_congr {vs vs' : List Value} (f S K) (h : vs = vs') : callR E f vs S K = callR E f vs' S K := by rw [h]
theorem retR_congr (rs S K x t S1) : retR E rs S K x t S1 = retR E rs S K x t S1 := rfl

theorem seqK_normal (y Q t S) : seqK E y Q .normal t S ↔ runC E y t S Q := Iff.rfl
theorem seqK_exit (y Q i t S) : seqK E y Q (.exit i) t S ↔ Q (.exit i) t S := Iff.rfl
theorem seqK_ret (y Q t S) : seqK E y Q .ret t S ↔ Q .ret t S := Iff.rfl
theorem blockK_normal (i Q t S) : blockK i Q .normal t S ↔ Q .normal t S := Iff.rfl
theorem blockK_ret (i Q t S) : blockK i Q .ret t S ↔ Q .ret t S := Iff.rfl
theorem blockK_exit (i Q j t S) : blockK i Q (.exit j) t S ↔ if j = i then Q .normal t S else Q (.exit j) t S := Iff.rfl
/-- The end of a call that wrote to nothing of others, and gives something free. -/
def retV (results : List Value) (S : St) (K : Value → St → Prop) (S1 : St) : Prop :=
  if S.n ≤ S1.low ∧ pf (tupled results) = true then K (tupled results) S else K (tupled results) ⟨S1.n, S1.h, Nat.min S.low S1.low⟩
theorem retR_ret (rs S K t S1) : retR E rs S K .ret t S1 ↔ (match aresults E t S1 rs with | some vs => retV vs S K S1 | none => False) := Iff.rfl
theorem retR_normal (rs S K t S1) : retR E rs S K .normal t S1 ↔ (match aresults E t S1 rs with | some vs => retV vs S K S1 | none => False) := Iff.rfl

def okOps (E : Env) (op : Op) : Bool := op.operands.toList.all (constOk E)
theorem opR_step (ops t S K d op ty pos after) : opR E ops ⟨d, op, ty, pos, after, none⟩ t S K ↔ (okOps E op = true ∧ outR E (aop E (aeval t) ⟨d, op, ty, pos, after, none⟩ S) K) := opR_plain ..
theorem okOps_move (x) : okOps E (.move x) = constOk E x := by simp [okOps, Op.operands]
theorem okOps_assign (x) : okOps E (.assign x) = constOk E x := by simp [okOps, Op.operands]
theorem okOps_pick (x y z) : okOps E (.pick x y z) = (constOk E x && (constOk E y && constOk E z)) := by simp [okOps, Op.operands]
theorem okOps_bin (op t x y yt) : okOps E (.binOp op t x y yt) = (constOk E x && constOk E y) := by simp [okOps, Op.operands]
theorem okOps_un (op t x) : okOps E (.unOp op t x) = constOk E x := by simp [okOps, Op.operands]
theorem okOps_conv (s t x) : okOps E (.convert s t x) = constOk E x := by simp [okOps, Op.operands]
theorem okOps_index (t x y) : okOps E (.index t x y) = (constOk E x && constOk E y) := by simp [okOps, Op.operands]
theorem okOps_extract (x i) : okOps E (.extract x i) = constOk E x := by simp [okOps, Op.operands]
theorem okOps_next (x i) : okOps E (.next x i) = constOk E x := by simp [okOps, Op.operands]
theorem okOps_range (x i) : okOps E (.range x i) = constOk E i := by simp [okOps, Op.operands]
theorem okOps_load (t x) : okOps E (.load t x) = constOk E x := by simp [okOps, Op.operands]
theorem okOps_store (t x y) : okOps E (.store t x y) = (constOk E x && constOk E y) := by simp [okOps, Op.operands]
theorem okOps_alloc (t) : okOps E (.alloc t) = true := by simp [okOps, Op.operands]
theorem ok_tmp (i) : constOk E (.tmp i) = true := rfl
theorem ok_const (v) : constOk E (.const v) = pf v := rfl
theorem ok_func (v) : constOk E (.func v) = true := rfl
theorem ok_global (g) : constOk E (.global g) = (E.glob g).isSome := rfl
theorem pf_bool (b) : pf (.bool b) = true := keepEq rfl
theorem pf_int (k n) : pf (.int k n) = true := keepEq rfl
theorem pf_string (s) : pf (.string s) = true := keepEq rfl
theorem pf_nilFunc : pf .nilFunc = true := keepEq rfl
theorem pf_nilIface : pf .nilIface = true := keepEq rfl
theorem retV_congr (vs : List Value) (S K S1) : retV vs S K S1 = retV vs S K S1 := rfl
theorem entry_at (vs : List Value) (i : Nat) : entry vs i = (vs[i]?).getD undef := rfl
theorem fr_at {N : Nat} (g : Nat → Value) {i : Nat} (h : i < N) : (fr N g)[i]? = some (g i) := fr_get N g h
theorem retV_pure (vs : List Value) (S K S1) (h : S.n ≤ S1.low) (hp : pf (tupled vs) = true) : retV vs S K S1 ↔ K (tupled vs) S := by
  unfold retV
  rw [if_pos ⟨h, hp⟩]
theorem okOps_callf (f args tys) : okOps E (.call ⟨.value (.func f), args, tys⟩) = args.toList.all (constOk E) := by
  simp [okOps, Op.operands, Call.operands, ok_func]
theorem aop_callf (t : List Value) (d f args tys ty pos after gd S) (hb : hasBody E f = true) :
    aop E (aeval t) ⟨d, .call ⟨.value (.func f), args, tys⟩, ty, pos, after, gd⟩ S = some (.enter f (args.toList.map (aeval t)).toArray, S) := call_fn _ _ _ _ _ _ _ _ _ _ rfl hb
theorem outR_call (f : FuncId) (l : List Value) (S K) : outR E (some (.enter f l.toArray, S)) K ↔ callR E f l S K := Iff.rfl
theorem retV_one (v : Value) (S K S1) (h : S.n ≤ S1.low) (hp : pf v = true) : retV [v] S K S1 ↔ K v S := retV_pure [v] S K S1 h hp
theorem iteP_congr {c c' A B A' B' : Prop} [Decidable c] [Decidable c'] (h : c = c') (h1 : c' → A = A') (h2 : ¬ c' → B = B') : (if c then A else B) = (if c' then A' else B') := by
  subst h
  split
  · rename_i hc; exact h1 hc
  · rename_i hc; exact h2 hc

/-- A call comes to one thing only. -/
theorem callR_det {f vs S v S'} (h : callR E f vs S (fun v1 S1 => v1 = v ∧ S1 = S')) (K : Value → St → Prop) : callR E f vs S K ↔ K v S' := by
  obtain ⟨n, v1, S1, h1, rfl, rfl⟩ := h
  constructor
  · rintro ⟨m, v2, S2, h2, hk⟩
    have e1 := acall_mono (Nat.le_max_left n m) _ _ _ _ h1
    have e2 := acall_mono (Nat.le_max_right n m) _ _ _ _ h2
    rw [e1] at e2
    cases e2
    exact hk
  · intro hk
    exact ⟨n, v1, S1, h1, hk⟩
end
end Go.Abs

namespace Go.Abs
open Go Go.RowKit

universe u
/-- A mark that hangs on a term: simp leaves alone what a later part's type speaks of. -/
structure Tok {α : Sort u} (a : α) : Type where

section
variable (E : Env)
def RC (c : Code) (t : List Value) (S : St) (Q : AExit → List Value → St → Prop) (_ : Tok (PProd.mk c (PProd.mk t Q))) : Prop := runC E c t S Q
def RO (ops : Array Oper) (l : List Oper) (t : List Value) (S : St) (Q : List Value → St → Prop) (_ : Tok (PProd.mk ops (PProd.mk l (PProd.mk t Q)))) : Prop := runO E ops l t S Q
def RD (n0 : Nat) (ops : Array Oper) (l : List Oper) (t : List Value) (S : St) (Q : List Nat → List Value → St → Prop) (_ : Tok (PProd.mk ops (PProd.mk l (PProd.mk t Q)))) : Prop := runD E n0 ops l t S Q
def RP (ops : Array Oper) (o : Oper) (t : List Value) (S : St) (K : Value → St → Prop) (_ : Tok (PProd.mk ops (PProd.mk o (PProd.mk t K)))) : Prop := opR E ops o t S K
def RT (r : Option (Next × St)) (K : Value → St → Prop) (_ : Tok K) : Prop := outR E r K
def RL (f : FuncId) (vs : List Value) (S : St) (K : Value → St → Prop) (_ : Tok K) : Prop := callR E f vs S K
def RK (v : Value) (A B : Prop) (_ : Tok (PProd.mk A B)) : Prop := condR v A B
def RG (v : Option Value) (w : Bool) (A B : Prop) (_ : Tok (PProd.mk A B)) : Prop := guardR v w A B
def SK (y : Code) (Q : AExit → List Value → St → Prop) (_ : Tok (PProd.mk y Q)) (x : AExit) (t : List Value) (S : St) : Prop := seqK E y Q x t S
def BK (id : Nat) (Q : AExit → List Value → St → Prop) (_ : Tok Q) (x : AExit) (t : List Value) (S : St) : Prop := blockK id Q x t S
end

variable {E : Env}

theorem w_seq (x y t S Q τ) : RC E (.seq x y) t S Q τ ↔ RC E x t S (SK E y Q ⟨⟩) ⟨⟩ := runC_seq ..
theorem w_region (id ops t S Q τ) : RC E (.region id ops false) t S Q τ ↔ RO E ops ops.toList t S (fun t1 S1 => Q .normal t1 S1) ⟨⟩ := runC_region ..
theorem w_regionD (id ops t S Q τ) : RC E (.region id ops true) t S Q τ ↔ RD E S.n ops ops.toList t S (fun cs t1 S1 => aordered ops cs = true ∧ Q .normal t1 S1) ⟨⟩ := runC_regionD ..
theorem w_cond (c x y t S Q τ) : RC E (.cond c x y) t S Q τ ↔ RK (aeval t c) (RC E x t S Q ⟨⟩) (RC E y t S Q ⟨⟩) ⟨⟩ := runC_cond ..
theorem w_block (id b t S Q τ) : RC E (.block id b) t S Q τ ↔ RC E b t S (BK id Q ⟨⟩) ⟨⟩ := runC_block ..
theorem w_ret (t S Q τ) : RC E .ret t S Q τ ↔ Q .ret t S := runC_ret ..
theorem w_exit (i t S Q τ) : RC E (.exit i) t S Q τ ↔ Q (.exit i) t S := runC_exit ..
theorem w_skip (t S Q τ) : RC E .skip t S Q τ ↔ Q .normal t S := runC_skip ..
theorem w_label (i t S Q τ) : RC E (.label i) t S Q τ ↔ Q .normal t S := runC_label ..
theorem w_cons (ops o l N g S Q τ) : RO E ops (o :: l) (fr N g) S Q τ ↔ RP E ops o (fr N g) S (fun v S1 => RO E ops l (fr N (put g o.dst v)) S1 Q ⟨⟩) ⟨⟩ := runO_cons ..
theorem w_nil (ops t S Q τ) : RO E ops [] t S Q τ ↔ Q t S := runO_nil ..
theorem w_consD (n0 ops o l N g S Q τ) : RD E n0 ops (o :: l) (fr N g) S Q τ ↔
    RP E ops o (fr N g) ⟨S.n, S.h, S.n⟩ (fun v S1 => RD E n0 ops l (fr N (put g o.dst v)) ⟨S1.n, S1.h, Nat.min S.low S1.low⟩ (fun cs t S2 => Q (aclsD E n0 ops o (fr N g) v S S1 :: cs) t S2) ⟨⟩) ⟨⟩ := runD_cons ..
theorem w_nilD (n0 ops t S Q τ) : RD E n0 ops [] t S Q τ ↔ Q [] t S := runD_nil ..
theorem w_op (ops t S K d op ty pos after τ) : RP E ops ⟨d, op, ty, pos, after, none⟩ t S K τ ↔ (okOps E op = true ∧ RT E (aop E (aeval t) ⟨d, op, ty, pos, after, none⟩ S) K ⟨⟩) := opR_step ..
theorem w_guard (ops t S K d op ty pos after j want τ) : RP E ops ⟨d, op, ty, pos, after, some (j, want)⟩ t S K τ ↔
    RG (((ops[j]?).bind (·.dst)).bind (t[·]?)) want (RP E ops ⟨d, op, ty, pos, after, none⟩ t S K ⟨⟩) (K undef S) ⟨⟩ := opR_guard ..
theorem w_value (v S K τ) : RT E (some (.value v, S)) K τ ↔ K v S := Iff.rfl
theorem w_skipO (S K τ) : RT E (some (.skip, S)) K τ ↔ K undef S := Iff.rfl
theorem w_call (f : FuncId) (l : List Value) (S K τ) : RT E (some (.enter f l.toArray, S)) K τ ↔ RL E f l S K ⟨⟩ := Iff.rfl
theorem w_true (A B τ) : RK (.bool true) A B τ ↔ A := by unfold RK condR; simp
theorem w_false (A B τ) : RK (.bool false) A B τ ↔ B := by unfold RK condR; simp
theorem w_split {b : Bool} {A B : Prop} {τ} (h1 : b = true → A) (h2 : b = false → B) : RK (.bool b) A B τ := by
  unfold RK condR
  cases b
  · simpa using h2 rfl
  · simpa using h1 rfl
theorem w_gsplit {b w : Bool} {A B : Prop} {τ} (h1 : b = w → A) (h2 : b = !w → B) : RG (some (.bool b)) w A B τ := by
  unfold RG guardR
  cases b <;> cases w <;> first | simpa using h1 rfl | simpa using h2 rfl
theorem w_gtt (A B τ) : RG (some (.bool true)) true A B τ ↔ A := by unfold RG guardR; simp
theorem w_gff (A B τ) : RG (some (.bool false)) false A B τ ↔ A := by unfold RG guardR; simp
theorem w_gundef (w A B τ) : RG (some undef) w A B τ ↔ B := Iff.rfl
theorem w_gtf (A B τ) : RG (some (.bool true)) false A B τ ↔ B := by unfold RG guardR; simp
theorem w_gft (A B τ) : RG (some (.bool false)) true A B τ ↔ B := by unfold RG guardR; simp
theorem w_knormal (y Q τ t S) : SK E y Q τ .normal t S ↔ RC E y t S Q ⟨⟩ := Iff.rfl
theorem w_kexit (y Q τ i t S) : SK E y Q τ (.exit i) t S ↔ Q (.exit i) t S := Iff.rfl
theorem w_kret (y Q τ t S) : SK E y Q τ .ret t S ↔ Q .ret t S := Iff.rfl
theorem w_bnormal (i Q τ t S) : BK i Q τ .normal t S ↔ Q .normal t S := Iff.rfl
theorem w_bret (i Q τ t S) : BK i Q τ .ret t S ↔ Q .ret t S := Iff.rfl
theorem w_bexit (i Q τ j t S) : BK i Q τ (.exit j) t S ↔ if j = i then Q .normal t S else Q (.exit j) t S := Iff.rfl
theorem w_body {f vs fn c} (hm : E.memo f vs = none) (ho : E.okf f = true) (hf : E.P.funcs[f]? = some fn) (hb : fn.body = some c) (hl : vs.length ≤ fn.ntmps) (S K) :
    callR E f vs S K ↔ RC E c (fr fn.ntmps (entry vs)) ⟨S.n, S.h, S.n⟩ (retR E fn.results.toList S K) ⟨⟩ := callR_body hm ho hf hb hl S K
theorem w_det {f vs S v S'} (h : callR E f vs S (fun v1 S1 => v1 = v ∧ S1 = S')) (K : Value → St → Prop) (τ) : RL E f vs S K τ ↔ K v S' := callR_det h K
theorem w_loop {α : Type} (I : α → List Value → St → Prop) (m : α → Nat) {b : Code} {Q : AExit → List Value → St → Prop}
    (h : ∀ a t S, I a t S → RC E b t S (fun x t1 S1 => match x with
      | .normal => ∃ a1, m a1 < m a ∧ I a1 t1 S1
      | x => Q x t1 S1) ⟨⟩) (a t S) (hI : I a t S) (τ) : RC E (.loop b) t S Q τ := runC_loop_inv I m h a t S hI


def lenA (E : Env) (t : TypeId) (x : Value) (S : St) : Option (Next × St) :=
  if pf x then
    match prun E.P (Builtin.len_ #[t] 0 #[x]) with
    | some v => if pf v then some (.value v, S) else none
    | none => none
  else val S (alenOp E [t] [x])
theorem aop_len (ρ d x t ty pos after gd S) : aop E ρ ⟨d, .call ⟨.builtin .len, #[x], #[t]⟩, ty, pos, after, gd⟩ S = lenA E t (ρ x) S := by
  have hall : allPf ρ ⟨d, .call ⟨.builtin .len, #[x], #[t]⟩, ty, pos, after, gd⟩ = pf (ρ x) := by simp [allPf, Op.operands, Call.operands]
  have hap : aop E ρ ⟨d, .call ⟨.builtin .len, #[x], #[t]⟩, ty, pos, after, gd⟩ S = if allPf ρ ⟨d, .call ⟨.builtin .len, #[x], #[t]⟩, ty, pos, after, gd⟩ then apure E ρ ⟨d, .call ⟨.builtin .len, #[x], #[t]⟩, ty, pos, after, gd⟩ S else val S (alenOp E [t] [ρ x]) := rfl
  rw [hap, hall]
  unfold lenA apure
  rw [hall]
  split
  · rename_i h
    rw [h]
    simp only [isSelect, Bool.not_false, Bool.and_true, if_true]
    have he : prun E.P (execOp ρ ⟨d, .call ⟨.builtin .len, #[x], #[t]⟩, ty, pos, after, gd⟩) = (prun E.P (Builtin.len_ #[t] 0 #[ρ x])).bind fun v => some (Next.value v) := by
      have h1 : execOp ρ ⟨d, .call ⟨.builtin .len, #[x], #[t]⟩, ty, pos, after, gd⟩ = (resolve ρ ⟨.builtin .len, #[x], #[t]⟩ ty >>= fun d => invoke d.target d.args) := rfl
      have h3 : (#[x] : Array Operand).map ρ = #[ρ x] := by simp
      rw [h1, prun_bind]
      show prun E.P (Builtin.len_ #[t] ty ((#[x] : Array Operand).map ρ) >>= fun v => pure (Next.value v)) = _
      rw [h3, prun_bind]
      rfl
    rw [he]
    cases prun E.P (Builtin.len_ #[t] 0 #[ρ x]) with
    | none => rfl
    | some v => by_cases hv : pf v = true <;> simp [prun_pure, pfNext, hv]
  · rfl
theorem len_str {t : TypeId} (ht : E.P.underlying t = some .string) (s : ByteArray) (S : St) : lenA E t (.string s) S = some (.value (.int .i64 s.size), S) := by
  have hr : prun E.P (Builtin.len_ #[t] 0 #[.string s]) = some (.int .i64 s.size) := by
    show prun E.P ((underlying t) >>= _) = _
    rw [prun_bind, prun_under, ht]
    rfl
  unfold lenA
  rw [hr]
  simp [pf]
theorem len_slc {t : TypeId} {e : TypeId} (ht : E.P.underlying t = some (.slice e)) (a n c) (S : St) : lenA E t (.slice (some a) n c) S = some (.value (.int .i64 n), S) := by
  unfold lenA
  simp only [pf, alenOp, ht, val, Bool.false_eq_true, if_false]
  rfl
theorem len_slc0 {t : TypeId} {e : TypeId} (ht : E.P.underlying t = some (.slice e)) (n c) (S : St) : lenA E t (.slice none n c) S = some (.value (.int .i64 n), S) := by
  have hr : prun E.P (Builtin.len_ #[t] 0 #[.slice none n c]) = some (.int .i64 n) := by
    show prun E.P ((underlying t) >>= _) = _
    rw [prun_bind, prun_under, ht]
    rfl
  unfold lenA
  rw [hr]
  simp [pf]
theorem okOps_builtin (b args tys) : okOps E (.call ⟨.builtin b, args, tys⟩) = args.toList.all (constOk E) := by
  simp [okOps, Op.operands, Call.operands]

/-- Behind a round: the invariant with a lesser measure; or out. -/
def NK {α : Type} (N : Nat) (I : α → (Nat → Value) → St → Prop) (m : α → Nat) (a : α) (Q : AExit → List Value → St → Prop) (_ : Tok (PProd.mk I (PProd.mk m Q))) (x : AExit) (t : List Value) (S : St) : Prop :=
  match x with
  | .normal => ∃ a1 g1, t = fr N g1 ∧ m a1 < m a ∧ I a1 g1 S
  | x => Q x t S
theorem w_next {α : Type} {N : Nat} {I : α → (Nat → Value) → St → Prop} {m : α → Nat} {a : α} {Q τ} {g S} (a1 : α) (hm : m a1 < m a) (hI : I a1 g S) : NK N I m a Q τ .normal (fr N g) S := ⟨a1, g, rfl, hm, hI⟩
theorem w_nexit {α : Type} {N : Nat} {I : α → (Nat → Value) → St → Prop} {m : α → Nat} {a : α} (Q τ i t S) : NK N I m a Q τ (.exit i) t S ↔ Q (.exit i) t S := Iff.rfl
theorem w_nret {α : Type} {N : Nat} {I : α → (Nat → Value) → St → Prop} {m : α → Nat} {a : α} (Q τ t S) : NK N I m a Q τ .ret t S ↔ Q .ret t S := Iff.rfl
/-- The loop at a frame. -/
theorem w_loopF {α : Type} {N : Nat} (I : α → (Nat → Value) → St → Prop) (m : α → Nat) {b : Code} {g : Nat → Value} {S : St} {Q : AExit → List Value → St → Prop} {τ} (a : α) (hI : I a g S)
    (h : ∀ a g S, I a g S → RC E b (fr N g) S (NK N I m a Q ⟨⟩) ⟨⟩) : RC E (.loop b) (fr N g) S Q τ := by
  refine w_loop (fun a t S => ∃ g, t = fr N g ∧ I a g S) m ?_ a _ _ ⟨g, rfl, hI⟩ τ
  rintro a t S ⟨g, rfl, hI⟩
  refine runC_mono (h a g S hI) ?_
  intro x t1 S1 hx
  cases x with
  | normal =>
    obtain ⟨a1, g1, h1, h2, h3⟩ := hx
    exact ⟨a1, h2, g1, h1, h3⟩
  | exit i => exact hx
  | ret => exact hx

theorem idx_strN {t : TypeId} (ht : E.P.underlying t = some .string) (s : ByteArray) (k : IntKind) (n : Nat) (h : n < s.size) (S : St) :
    idxA E t (.string s) (.int k n) S = some (.value (.int .u8 (s[n]'h).toNat), S) := by
  have := idx_str ht s k (n : Int) (by omega) (by simpa using h) S
  simpa using this
end Go.Abs

namespace Go.Abs
open Go Go.RowKit

def WF (E : Env) (S : St) : Prop := S.n = E.base + S.h.length

section
variable {E : Env}
theorem wf_mk (S : St) (l : Nat) : WF E ⟨S.n, S.h, l⟩ ↔ WF E S := Iff.rfl
theorem wf_push (S : St) (x : ABlk) : WF E (S.push x) ↔ WF E S := by
  unfold WF St.push
  simp only [List.length_cons]
  omega
theorem wf_set (S : St) (b : Nat) (x : ABlk) : WF E (S.set b x) ↔ WF E S := by
  unfold WF St.set
  simp
theorem get_mk (S : St) (l b : Nat) : St.get E ⟨S.n, S.h, l⟩ b = St.get E S b := rfl
theorem get_glob (S : St) (b : Nat) (h : b < E.base) : St.get E S b = E.glob b := by
  unfold St.get
  rw [if_pos h]
theorem get_push (S : St) (x : ABlk) (b : Nat) (h : WF E S) : St.get E (S.push x) b = if b = S.n then some x else St.get E S b := by
  split
  · rename_i hb
    subst hb
    exact St.get_push_new h x
  · rename_i hb
    by_cases h2 : b < S.n
    · exact St.get_push_old h x h2
    · have h3 : S.n < b := by omega
      have h4 : E.base ≤ S.n := by unfold WF at h; omega
      unfold St.get St.push
      rw [if_neg (by omega), if_neg (by simp only; omega), if_neg (by omega), if_neg (by omega)]
theorem get_pushN (S : St) (x : ABlk) (h : WF E S) : St.get E (S.push x) S.n = some x := St.get_push_new h x
theorem get_setS (S : St) (x : ABlk) (b b' : Nat) (h : WF E S) (h1 : E.base ≤ b) (h2 : b < S.n) : St.get E (S.set b x) b' = if b' = b then some x else St.get E S b' := St.get_set h x h1 h2 b'
theorem n_push (S : St) (x : ABlk) : (S.push x).n = S.n + 1 := keepEq rfl
theorem low_push (S : St) (x : ABlk) : (S.push x).low = S.low := keepEq rfl
theorem n_set (S : St) (b) (x : ABlk) : (S.set b x).n = S.n := keepEq rfl
theorem low_set (S : St) (b) (x : ABlk) : (S.set b x).low = Nat.min S.low b := keepEq rfl
theorem wf_base {S : St} (h : WF E S) : E.base ≤ S.n := by unfold WF at h; omega

theorem next_more {S : St} {b : Nat} {s : ByteArray} {pos : Nat} (hg : St.get E S b = some (.iter s pos)) (h : pos < s.size) :
    anext E (.pointer (some ⟨b, 0, none⟩)) S = some (.value (.tuple #[.bool true, .int .i64 pos, .int .i32 (Utf8.decode s pos).1]), S.set b (.iter s (pos + (Utf8.decode s pos).2))) := by
  unfold anext
  simp only
  rw [hg]
  simp only [h, if_true]
  rfl
theorem next_end {S : St} {b : Nat} {s : ByteArray} {pos : Nat} (hg : St.get E S b = some (.iter s pos)) (h : ¬ pos < s.size) :
    anext E (.pointer (some ⟨b, 0, none⟩)) S = some (.value (.tuple #[.bool false]), S) := by
  unfold anext
  simp only
  rw [hg]
  simp only [h, if_false]
theorem range_str {ρ : Operand → Value} {t : TypeId} (ht : E.P.underlying t = some .string) (s : ByteArray) (S : St) :
    (match (Value.string s), E.P.underlying t with | .string s, some .string => some (Next.value (ptrTo S.n), S.push (.iter s 0)) | _, _ => none) = some (Next.value (ptrTo S.n), S.push (.iter s 0)) := by
  rw [ht]
theorem ext0 (a : Array Value) (i : Nat) : aextract (.tuple a) i = a[i]? := rfl

def rangeA (E : Env) (t : TypeId) (x : Value) (S : St) : Option (Next × St) :=
  match x, E.P.underlying t with
  | .string s, some .string => some (.value (ptrTo S.n), S.push (.iter s 0))
  | _, _ => none
theorem aop_rangeA (ρ d t x ty pos after gd S) : aop E ρ ⟨d, .range t x, ty, pos, after, gd⟩ S = rangeA E t (ρ x) S := rfl
theorem rangeA_str {t : TypeId} (ht : E.P.underlying t = some .string) (s : ByteArray) (S : St) : rangeA E t (.string s) S = some (.value (.pointer (some ⟨S.n, 0, none⟩)), S.push (.iter s 0)) := by
  unfold rangeA
  rw [ht]
  rfl
def nextA (E : Env) (it : Value) (b : Bool) (S : St) : Option (Next × St) := if b then anext E it S else none
theorem aop_nextA (ρ d it b ty pos after gd S) : aop E ρ ⟨d, .next it b, ty, pos, after, gd⟩ S = nextA E (ρ it) b S := rfl
theorem nextA_true (it S) : nextA E it true S = anext E it S := rfl
theorem acls_ne2 (n0 ops o t v) (S S1 : St) (h : S.n ≤ S1.low) : okc (aclsD E n0 ops o t v S S1) = true := by
  unfold aclsD
  rw [if_pos h]
  split
  · rfl
  · split
    · rfl
    · split <;> rfl
theorem aordered_of (ops : Array Oper) (cs : List Nat) (h : (cs.all okc) = true) : aordered ops cs = true := by
  unfold aordered
  rw [if_pos h]
theorem nmin_self (a : Nat) : Nat.min a a = a := Nat.min_self a
theorem nmin_add (a k : Nat) : Nat.min a (a + k) = a := Nat.min_eq_left (Nat.le_add_right a k)
theorem bin_shlK (t x y k k' a b S) (hb : 0 ≤ b) (h2 : b.toNat ≤ k.bits) : binA E .shl t x y (.int k a) (.int k' b) S = some (.value (.int k (k.wrap (a * 2 ^ b.toNat))), S) := by
  rw [bin_shl t x y k k' a b S hb, Nat.min_eq_left h2]
theorem bin_shrK (t x y k k' a b S) (hb : 0 ≤ b) (h2 : b.toNat ≤ k.bits) : binA E .shr t x y (.int k a) (.int k' b) S = some (.value (.int k (a.fdiv (2 ^ b.toNat))), S) := by
  rw [bin_shr t x y k k' a b S hb, Nat.min_eq_left h2]
theorem nmin_nmin (a b : Nat) : Nat.min (Nat.min a b) b = Nat.min a b := Nat.min_eq_left (Nat.min_le_right a b)
theorem le_nmin (a b c : Nat) : a ≤ Nat.min b c ↔ a ≤ b ∧ a ≤ c := Nat.le_min
end
end Go.Abs

namespace Go.Abs
open Go Go.RowKit
section
variable {E : Env}

def szOf (E : Env) (t : TypeId) : Option Nat := (E.P.info? t).map (·.size)

theorem szOf_some {t : TypeId} {k : Nat} (h : szOf E t = some k) : ∃ i, E.P.info? t = some i ∧ i.size = k := by
  unfold szOf at h
  cases hi : E.P.info? t with
  | none => rw [hi] at h; cases h
  | some i => rw [hi] at h; exact ⟨i, rfl, by simpa using h⟩

theorem load_cell {S : St} {b o : Nat} {t : TypeId} {d : TypeDesc} {k : Nat} {c : List Value} (hc : St.cells E S b = some c) (hu : E.P.underlying t = some d) (hd : aggD d = false) (hi : szOf E t = some k) :
    aload E S t (.pointer (some ⟨b, o, none⟩)) = c[o]? := by
  obtain ⟨i, h1, _⟩ := szOf_some hi
  unfold aload
  simp only [hc, hu, h1, hd, Bool.false_eq_true, if_false]

theorem load_agg {S : St} {b o : Nat} {t : TypeId} {d : TypeDesc} {k : Nat} {c : List Value} (hc : St.cells E S b = some c) (hu : E.P.underlying t = some d) (hd : aggD d = true) (hi : szOf E t = some k) (h : o + k ≤ c.length) :
    aload E S t (.pointer (some ⟨b, o, none⟩)) = some (.agg ⟨(c.drop o).take k⟩) := by
  obtain ⟨i, h1, rfl⟩ := szOf_some hi
  unfold aload
  simp only [hc, hu, h1, hd, if_true, h]

theorem cells_own {S : St} {b : Nat} {c : List Value} {e : TypeId} (h : St.get E S b = some (.own c e)) : St.cells E S b = some c := by unfold St.cells; rw [h]
theorem cells_opn {S : St} {b : Nat} {c : List Value} {e : TypeId} {tip} (h : St.get E S b = some (.opn c e tip)) : St.cells E S b = some c := by unfold St.cells; rw [h]

theorem store_own {S : St} {b o : Nat} {t : TypeId} {k : Nat} {c : List Value} {e : TypeId} {v : Value} (hg : St.get E S b = some (.own c e)) (hi : szOf E t = some k) (h1 : v.cells.toList.length = k) (h2 : v.cells.toList.all (·.oneCell') = true) (h3 : o + k ≤ c.length) :
    astore E S t (.pointer (some ⟨b, o, none⟩)) v = some (S.set b (.own (splice c o v.cells.toList) e)) := by
  obtain ⟨i, h, rfl⟩ := szOf_some hi
  unfold astore
  simp only [hg, h]
  rw [if_pos ⟨h1, h2, by omega⟩]

theorem idxAddr_arr {t e : TypeId} {n k b o : Nat} (hu : E.P.underlying t = some (.array n e)) (hi : szOf E e = some k) (kk : IntKind) (i : Int) (h0 : 0 ≤ i) (h1 : i < n) :
    aindexAddr E t (.pointer (some ⟨b, o, none⟩)) (.int kk i) = some (.pointer (some ⟨b, o + i.toNat * k, none⟩)) := by
  obtain ⟨inf, h, rfl⟩ := szOf_some hi
  unfold aindexAddr
  simp only [hu, h]
  rw [if_pos ⟨h0, h1⟩]
  rfl
theorem idxAddr_slc {t e : TypeId} {k b o len cap : Nat} (hu : E.P.underlying t = some (.slice e)) (hi : szOf E e = some k) (kk : IntKind) (i : Int) (h0 : 0 ≤ i) (h1 : i < len) :
    aindexAddr E t (.slice (some ⟨b, o, none⟩) len cap) (.int kk i) = some (.pointer (some ⟨b, o + i.toNat * k, none⟩)) := by
  obtain ⟨inf, h, rfl⟩ := szOf_some hi
  unfold aindexAddr
  simp only [hu, h]
  rw [if_pos ⟨h0, h1⟩]
  rfl
theorem fieldAddr_at {t : TypeId} {fields : Array Field} {f k b o : Nat} {fd : Field} (hu : E.P.underlying t = some (.struct fields)) (hf : fields[f]? = some fd) (hi : szOf E fd.type = some k) (hk : k ≠ 0) :
    afieldAddr E t (.pointer (some ⟨b, o, none⟩)) f = some (.pointer (some ⟨b, o + fd.offset, none⟩)) := by
  obtain ⟨inf, h, rfl⟩ := szOf_some hi
  unfold afieldAddr
  simp only [hu, hf, h]
  rw [if_neg hk]
  rfl

def allocA (E : Env) (t : TypeId) (S : St) : Option (Next × St) :=
  match (E.P.info? t).bind (·.zero) with
  | some z => if pf z then some (.value (ptrTo S.n), S.push (.own z.cells.toList t)) else none
  | none => none
theorem aop_allocA (ρ d elem ty pos after gd S) : aop E ρ ⟨d, .alloc elem, ty, pos, after, gd⟩ S = allocA E elem S := rfl
theorem allocA_of {t : TypeId} {z : Value} (h : (E.P.info? t).bind (·.zero) = some z) (hz : pf z = true) (S : St) : allocA E t S = some (.value (.pointer (some ⟨S.n, 0, none⟩)), S.push (.own z.cells.toList t)) := by
  unfold allocA
  rw [h]
  simp only [hz, if_true]
  rfl

def storeR (r : Option St) : Option (Next × St) := r.map fun S' => (.skip, S')
theorem aop_storeR (ρ d t a x ty pos after gd S) : aop E ρ ⟨d, .store t a x, ty, pos, after, gd⟩ S = storeR (astore E S t (ρ a) (ρ x)) := rfl
theorem storeR_some (S : St) : storeR (some S) = some (.skip, S) := rfl

theorem prun_sliceBound {P : Program} (k : IntKind) (i : Int) (y : Nat) (code : BoundsCode) (h0 : 0 ≤ i) (h1 : i ≤ y) : prun P (Instr.sliceBound (.int k i) y code) = some i.toNat := by
  unfold Instr.sliceBound
  show prun P (if 0 ≤ i ∧ i ≤ y then pure i.toNat else boundsPanic k i y code) = _
  rw [if_pos ⟨h0, h1⟩]
  rfl
theorem prun_map {P : Program} {α β : Type} (f : α → β) (m : Sem α) : prun P (f <$> m) = (prun P m).map f := by
  have : f <$> m = m >>= fun a => pure (f a) := by simp
  rw [this, prun_bind]
  cases prun P m <;> rfl
theorem prun_bounds {P : Program} (len cap : Nat) (b : Bool) (lo hi : Option (IntKind × Int)) (l h : Nat) (hh : match hi with | none => h = len | some (_, j) => 0 ≤ j ∧ j ≤ cap ∧ h = j.toNat)
    (hl : match lo with | none => l = 0 | some (_, j) => 0 ≤ j ∧ j ≤ h ∧ l = j.toNat) : prun P (Instr.sliceBounds b len cap (lo.map fun x => .int x.1 x.2) (hi.map fun x => .int x.1 x.2) none) = some (l, h, cap) := by
  unfold Instr.sliceBounds
  cases hi with
  | none =>
    simp only at hh
    subst hh
    cases lo with
    | none => simp only at hl; subst hl; rfl
    | some y =>
      obtain ⟨k, j⟩ := y
      obtain ⟨h0, h1, rfl⟩ := hl
      simp [prun_map, prun_bind, prun_pure, prun_sliceBound k j _ _ h0 h1]
  | some x =>
    obtain ⟨k, j⟩ := x
    obtain ⟨g0, g1, rfl⟩ := hh
    cases lo with
    | none => simp only at hl; subst hl; simp [prun_map, prun_bind, prun_pure, prun_sliceBound k j _ _ g0 g1]
    | some y =>
      obtain ⟨k', j'⟩ := y
      obtain ⟨h0, h1, rfl⟩ := hl
      simp [prun_map, prun_bind, prun_pure, prun_sliceBound k j _ _ g0 g1, prun_sliceBound k' j' _ _ h0 h1]
/-- A slice of a string. -/
theorem slice_strG {t : TypeId} (ht : E.P.underlying t = some .string) (s : ByteArray) (lo hi : Option (IntKind × Int)) (l h : Nat) (hh : match hi with | none => h = s.size | some (_, j) => 0 ≤ j ∧ j ≤ s.size ∧ h = j.toNat)
    (hl : match lo with | none => l = 0 | some (_, j) => 0 ≤ j ∧ j ≤ h ∧ l = j.toNat) (S : St) :
    sliceA E t (.string s) (lo.map fun x => .int x.1 x.2) (hi.map fun x => .int x.1 x.2) none S = some (.value (.string (s.extract l h)), S) := by
  have hr : prun E.P (Instr.sliceAt t (.string s) (lo.map fun x => .int x.1 x.2) (hi.map fun x => .int x.1 x.2) none) = some (.string (s.extract l h)) := by
    unfold Instr.sliceAt
    rw [prun_bind, prun_under, ht, Option.bind_some]
    show prun E.P (underlying t >>= _) = _
    rw [prun_bind, prun_under, ht, Option.bind_some]
    show prun E.P (Instr.sliceBounds false s.size s.size _ _ none >>= fun x => match x with | (l, h, _) => pure (Value.string (s.extract l h))) = _
    rw [prun_bind, prun_bounds s.size s.size false lo hi l h hh hl]
    rfl
  have hp : (pf (.string s) && (((lo.map fun x => Value.int x.1 x.2).map pf).getD true && (((hi.map fun x => Value.int x.1 x.2).map pf).getD true && ((none : Option Value).map pf).getD true))) = true := by
    cases lo <;> cases hi <;> rfl
  unfold sliceA
  rw [hr, hp]
  simp [pf]
theorem slice_strLo {t : TypeId} (ht : E.P.underlying t = some .string) (s : ByteArray) (k : IntKind) (i : Int) (h0 : 0 ≤ i) (h1 : i ≤ s.size) (S : St) :
    sliceA E t (.string s) (some (.int k i)) none none S = some (.value (.string (s.extract i.toNat s.size)), S) :=
  slice_strG ht s (some (k, i)) none i.toNat s.size rfl ⟨h0, h1, rfl⟩ S
theorem slice_strHi {t : TypeId} (ht : E.P.underlying t = some .string) (s : ByteArray) (k : IntKind) (i : Int) (h0 : 0 ≤ i) (h1 : i ≤ s.size) (S : St) :
    sliceA E t (.string s) none (some (.int k i)) none S = some (.value (.string (s.extract 0 i.toNat)), S) :=
  slice_strG ht s none (some (k, i)) 0 i.toNat ⟨h0, h1, rfl⟩ rfl S
theorem slice_strLH {t : TypeId} (ht : E.P.underlying t = some .string) (s : ByteArray) (k k' : IntKind) (i j : Int) (h0 : 0 ≤ i) (h1 : i ≤ j) (h2 : j ≤ s.size) (S : St) :
    sliceA E t (.string s) (some (.int k i)) (some (.int k' j)) none S = some (.value (.string (s.extract i.toNat j.toNat)), S) :=
  slice_strG ht s (some (k, i)) (some (k', j)) i.toNat j.toNat ⟨by omega, h2, rfl⟩ ⟨h0, by omega, rfl⟩ S
theorem okOps_slice (t x lo hi mx) : okOps E (.slice t x lo hi mx) = (constOk E x && ((lo.map (constOk E)).getD true && ((hi.map (constOk E)).getD true && (mx.map (constOk E)).getD true))) := by
  cases lo <;> cases hi <;> cases mx <;> simp [okOps, Op.operands]
theorem okOps_indexAddr (t x y) : okOps E (.indexAddr t x y) = (constOk E x && constOk E y) := by simp [okOps, Op.operands]
theorem okOps_fieldAddr (t x f) : okOps E (.fieldAddr t x f) = constOk E x := by simp [okOps, Op.operands]
theorem okOps_field (t x f) : okOps E (.field t x f) = constOk E x := by simp [okOps, Op.operands]
theorem okOps_box (t x) : okOps E (.box t x) = constOk E x := by simp [okOps, Op.operands]
theorem okOps_nilCheck (x) : okOps E (.nilCheck x) = constOk E x := by simp [okOps, Op.operands]
theorem okOps_iface (t x) : okOps E (.makeInterface t x) = constOk E x := by simp [okOps, Op.operands]
theorem okOps_makeSlice (t x y) : okOps E (.makeSlice t x y) = (constOk E x && constOk E y) := by simp [okOps, Op.operands]
end
end Go.Abs

namespace Go.Abs
open Go Go.RowKit
section
variable {E : Env}

def extA (E : Env) (f : FuncId) (vs : List Value) (S : St) : Option (Next × St) :=
  if pfL vs then
    match prun E.P (callFunc f vs.toArray) with
    | some nx => if pfNext nx then some (nx, S) else none
    | none => none
  else none

theorem pfL_all (l : List Value) : pfL l = l.all pf := by
  induction l with
  | nil => rfl
  | cons v l ih => simp [pfL, ih]

theorem aop_ext (t : List Value) (d f args tys ty pos after gd S) (hb : hasBody E f = false) (hi : E.ident f = false) :
    aop E (aeval t) ⟨d, .call ⟨.value (.func f), args, tys⟩, ty, pos, after, gd⟩ S = extA E f (args.toList.map (aeval t)) S := by
  have hap : aop E (aeval t) ⟨d, .call ⟨.value (.func f), args, tys⟩, ty, pos, after, gd⟩ S = acallee E (aeval t) ⟨d, .call ⟨.value (.func f), args, tys⟩, ty, pos, after, gd⟩ (.func (.func f) #[] #[]) (args.toList.map (aeval t)) S := rfl
  rw [hap]
  unfold acallee
  simp only [hb, hi, Bool.false_eq_true, if_false]
  unfold apure extA
  have hall : allPf (aeval t) ⟨d, .call ⟨.value (.func f), args, tys⟩, ty, pos, after, gd⟩ = pfL (args.toList.map (aeval t)) := by
    rw [pfL_all, List.all_map]
    show ((#[Operand.func f] ++ args).toList.all fun x => pf (aeval t x)) = _
    simp [aeval, pf, pfA, pfL, Function.comp_def]
  have he : prun E.P (execOp (aeval t) ⟨d, .call ⟨.value (.func f), args, tys⟩, ty, pos, after, gd⟩) = prun E.P (callFunc f (args.toList.map (aeval t)).toArray) := by
    show prun E.P (resolve (aeval t) ⟨.value (.func f), args, tys⟩ ty >>= fun d => invoke d.target d.args) = _
    rw [prun_bind]
    show prun E.P (callFunc f (#[] ++ args.map (aeval t) ++ #[])) = _
    congr 2
    apply Array.ext'
    simp
  rw [hall, he]
  simp only [isSelect, Bool.not_false, Bool.and_true]
  rfl

theorem prun_count {P : Program} (s : ByteArray) (c : Int) : prun P (Extern.BytealgCount.count #[.string s, .int .u8 c]) = some (.int .i64 (Lib.countByte s.data.toList c.toNat.toUInt8)) := by
  show some (goInt (s.foldl (fun n x => if x == c.toNat.toUInt8 then n + 1 else n) ((0 : Nat) : Int))) = _
  rw [Lib.foldl_data, Lib.count_foldl]
  simp [goInt]
end
end Go.Abs

namespace Go.Abs
open Go Go.RowKit
section
variable {E : Env}

def bsA (E : Env) (t : TypeId) (len : Nat) (parts : List (Nat × Value)) (S : St) : Option (Next × St) := abuildSlice E t len parts S
theorem aop_bs (ρ d t len parts ty pos after gd S) : aop E ρ ⟨d, .buildSlice t len parts, ty, pos, after, gd⟩ S = bsA E t len (parts.toList.map fun p => (p.1, ρ p.2)) S := rfl
theorem okOps_bs (t len parts) : okOps E (.buildSlice t len parts) = parts.toList.all fun p => constOk E p.2 := by
  simp [okOps, Op.operands, Function.comp_def]
def appA (E : Env) (tys : List TypeId) (args : List Value) (S : St) : Option (Next × St) := (aappend E tys args S).map fun r => (.value r.1, r.2)
theorem aop_append (ρ d args tys ty pos after gd S) : aop E ρ ⟨d, .call ⟨.builtin .append, args, tys⟩, ty, pos, after, gd⟩ S = appA E tys.toList (args.toList.map ρ) S := rfl

/-- What append asks of the element's type. -/
def infoOk (E : Env) (e : TypeId) (k by_ : Nat) : Bool :=
  match E.P.info? e with
  | some i => i.size == k && i.bytes == by_ && (match i.zero with | some z => z.cells.size == i.size | none => false)
  | none => false

theorem infoOk_of {e : TypeId} {k b : Nat} (h : infoOk E e k b = true) : ∃ i z, E.P.info? e = some i ∧ i.size = k ∧ i.bytes = b ∧ i.zero = some z ∧ z.cells.size = i.size := by
  unfold infoOk at h
  split at h
  · rename_i i hi
    simp only [Bool.and_eq_true, beq_iff_eq] at h
    obtain ⟨⟨h1, h2⟩, h3⟩ := h
    split at h3
    · rename_i z hz
      exact ⟨i, z, hi, h1, h2, hz, by simpa using h3⟩
    · cases h3
  · cases h

def slcD : TypeDesc → Bool
  | .int _ => false
  | _ => true

theorem cells_slice {S : St} {b o k n len cap : Nat} {c : List Value} (hc : St.cells E S b = some c) (h0 : 0 < n) (h1 : n ≤ len) (h2 : o + n * k ≤ c.length) (h3 : cap ≤ OPEN) :
    acellsOf E S k n (.slice (some ⟨b, o, none⟩) len cap) = some ((c.drop o).take (n * k)) := by
  unfold acellsOf
  simp only
  rw [if_neg (by omega), if_neg (by omega)]
  simp only [hc]
  rw [if_pos ⟨h2, h3⟩]

theorem app_first {sT xT e : TypeId} {xd : TypeDesc} {k by_ n : Nat} {S : St} {x : Value} {new : List Value} (hs : E.P.underlying sT = some (.slice e)) (hx : E.P.underlying xT = some xd) (hd : slcD xd = true) (hi : infoOk E e k by_ = true)
    (hn : alen x = some n) (hnew : acellsOf E S k n x = some new) (hone : new.all (·.oneCell') = true) (hk : 0 < k) (h0 : 0 < n) (hb : (2 * n + 2048) * by_ ≤ 2 ^ 47) (hn2 : n ≤ 2 ^ 62) :
    appA E [sT, xT] [.slice none 0 0, x] S = some (.value (.slice (some ⟨S.n, 0, none⟩) n OPEN), S.push (.opn new e (some 0))) := by
  obtain ⟨i, z, h1, rfl, rfl, h4, h5⟩ := infoOk_of hi
  unfold appA aappend
  simp only [hs, hx, hn]
  cases xd with
  | int _ => cases hd
  | _ =>
    simp only [h1, h4, hnew]
    rw [if_pos ⟨h5, hk, hone⟩]
    rw [if_neg (by omega), if_pos ⟨hb, hn2⟩]
    rfl

theorem app_trunc {sT xT e : TypeId} {xd : TypeDesc} {k by_ n b o len sh : Nat} {S : St} {x : Value} {c new : List Value} (hs : E.P.underlying sT = some (.slice e)) (hx : E.P.underlying xT = some xd) (hd : slcD xd = true) (hi : infoOk E e k by_ = true)
    (hn : alen x = some n) (hnew : acellsOf E S k n x = some new) (hone : new.all (·.oneCell') = true) (hk : 0 < k) (h0 : 0 < n) (hb : (2 * (len + n) + 2048) * by_ ≤ 2 ^ 47) (hn2 : len + n ≤ 2 ^ 62)
    (hg : St.get E S b = some (.opn c e (some sh))) (hsh : sh ≤ o + len * k) (hc : o + len * k ≤ c.length) :
    appA E [sT, xT] [.slice (some ⟨b, o, none⟩) len OPEN, x] S = some (.value (.slice (some ⟨S.n, 0, none⟩) (len + n) OPEN), (S.set b (.opn (c.take (o + len * k)) e none)).push (.opn ((c.take (o + len * k)).drop o ++ new) e (some (len * k)))) := by
  obtain ⟨i, z, h1, rfl, rfl, h4, h5⟩ := infoOk_of hi
  unfold appA aappend
  simp only [hs, hx, hn]
  cases xd with
  | int _ => cases hd
  | _ =>
    simp only [h1, h4, hnew]
    rw [if_pos ⟨h5, hk, hone⟩]
    rw [if_neg (by omega), if_neg (by decide), if_pos trivial, if_pos ⟨hb, hn2⟩]
    simp only [hg]
    rw [if_pos ⟨hsh, hc, trivial⟩]
    rfl

theorem app_tip {sT xT e : TypeId} {xd : TypeDesc} {k by_ n b len sh : Nat} {S : St} {x : Value} {c new : List Value} (hs : E.P.underlying sT = some (.slice e)) (hx : E.P.underlying xT = some xd) (hd : slcD xd = true) (hi : infoOk E e k by_ = true)
    (hn : alen x = some n) (hnew : acellsOf E S k n x = some new) (hone : new.all (·.oneCell') = true) (hk : 0 < k) (h0 : 0 < n) (hb : (2 * (len + n) + 2048) * by_ ≤ 2 ^ 47) (hn2 : len + n ≤ 2 ^ 62)
    (hg : St.get E S b = some (.opn c e (some sh))) (hc : len * k = c.length) (hsh : sh ≤ c.length) :
    appA E [sT, xT] [.slice (some ⟨b, 0, none⟩) len OPEN, x] S = some (.value (.slice (some ⟨S.n, 0, none⟩) (len + n) OPEN), (S.set b (.opn c e none)).push (.opn (c ++ new) e (some c.length))) := by
  rw [app_trunc hs hx hd hi hn hnew hone hk h0 hb hn2 hg (by omega) (by omega)]
  rw [Nat.zero_add, hc, List.take_length, List.drop_zero]

theorem conv_runes {src dst e : TypeId} {b len cap : Nat} {S : St} {c : List Value} {ns : List Int} (hs : E.P.underlying src = some (.slice e)) (he : E.P.underlying e = some (.int .i32)) (hd : E.P.underlying dst = some .string)
    (hc : St.cells E S b = some c) (h0 : 0 < len) (h1 : len ≤ c.length) (hn : intsOf .i32 (c.take len) = some ns) :
    convA E src dst (.slice (some ⟨b, 0, none⟩) len cap) S = some (.value (.string (runesBytes ns)), S) := by
  unfold convA
  simp only [hd, pf, Bool.false_eq_true, if_false]
  unfold aconvert
  simp only [hs, hd, he, hc]
  rw [if_neg (by omega), if_pos ⟨by omega, h0⟩]
  simp only [List.drop_zero, hn]
theorem pf_sliceNil (n c) : pf (.slice none n c) = true := keepEq rfl
theorem pf_ptrNil : pf (.pointer none) = true := keepEq rfl
theorem wrapI32 (n : Int) (h0 : 0 ≤ n) (h1 : n < 2147483648) : IntKind.i32.wrap n = n := by
  unfold IntKind.wrap
  simp only [IntKind.bits, IntKind.signed, Bool.true_and]
  have e : n % (2 ^ 32 : Int) = n := Int.emod_eq_of_lt h0 (by omega)
  simp only [e]
  split
  · rename_i h
    simp at h
    omega
  · rfl
end
end Go.Abs

namespace Go.Abs
open Go Go.RowKit
section
variable {E : Env}
def minA (E : Env) (x y : Value) (S : St) : Option (Next × St) :=
  if pf x && pf y then
    match prun E.P (Builtin.min2 x y) with
    | some v => if pf v then some (.value v, S) else none
    | none => none
  else none
theorem aop_min (ρ d x y t u ty pos after gd S) : aop E ρ ⟨d, .call ⟨.builtin .min, #[x, y], #[t, u]⟩, ty, pos, after, gd⟩ S = minA E (ρ x) (ρ y) S := by
  have hall : allPf ρ ⟨d, .call ⟨.builtin .min, #[x, y], #[t, u]⟩, ty, pos, after, gd⟩ = (pf (ρ x) && pf (ρ y)) := by simp [allPf, Op.operands, Call.operands]
  have hap : aop E ρ ⟨d, .call ⟨.builtin .min, #[x, y], #[t, u]⟩, ty, pos, after, gd⟩ S = apure E ρ ⟨d, .call ⟨.builtin .min, #[x, y], #[t, u]⟩, ty, pos, after, gd⟩ S := rfl
  rw [hap]
  unfold minA apure
  rw [hall]
  simp only [isSelect, Bool.not_false, Bool.and_true]
  split
  · have he : prun E.P (execOp ρ ⟨d, .call ⟨.builtin .min, #[x, y], #[t, u]⟩, ty, pos, after, gd⟩) = (prun E.P (Builtin.min2 (ρ x) (ρ y))).bind fun v => some (Next.value v) := by
      have h1 : execOp ρ ⟨d, .call ⟨.builtin .min, #[x, y], #[t, u]⟩, ty, pos, after, gd⟩ = (resolve ρ ⟨.builtin .min, #[x, y], #[t, u]⟩ ty >>= fun d => invoke d.target d.args) := rfl
      have h3 : (#[x, y] : Array Operand).map ρ = #[ρ x, ρ y] := by simp
      rw [h1, prun_bind]
      show prun E.P (Builtin.min_ #[t, u] ty ((#[x, y] : Array Operand).map ρ) >>= fun v => pure (Next.value v)) = _
      rw [h3, prun_bind]
      show (prun E.P (Builtin.min2 (ρ x) (ρ y) >>= fun v => pure v)).bind _ = _
      rw [prun_bind]
      cases prun E.P (Builtin.min2 (ρ x) (ρ y)) <;> rfl
    rw [he]
    cases prun E.P (Builtin.min2 (ρ x) (ρ y)) with
    | none => rfl
    | some v => by_cases hv : pf v = true <;> simp [pfNext, hv]
  · rfl
theorem min_int (k k' : IntKind) (a b : Int) (S : St) : minA E (.int k a) (.int k' b) S = some (.value (.int k (if b < a then b else a)), S) := rfl

def mkA (E : Env) (t : TypeId) (l c : Value) (S : St) : Option (Next × St) := amakeSlice E t l c S
theorem aop_mk (ρ d t l c ty pos after gd S) : aop E ρ ⟨d, .makeSlice t l c, ty, pos, after, gd⟩ S = mkA E t (ρ l) (ρ c) S := rfl
theorem initCells_one (z : Value) (n : Nat) : (initCells #[z] n).toList = List.replicate n z := by
  unfold initCells
  rw [Array.toList_map, Array.toList_range]
  apply List.ext_getElem?
  intro i
  by_cases hi : i < n
  · simp [hi, Nat.mod_one]
  · rw [List.getElem?_eq_none (by simp; omega), List.getElem?_eq_none (by simp; omega)]
theorem mk_one {t e : TypeId} {by_ : Nat} {z : Value} (ht : E.P.underlying t = some (.slice e)) (hi : (E.P.info? e).map (fun i => (i.size, i.bytes, i.zero.map (·.cells))) = some (1, by_, some #[z])) (hp : pf z = true) (k k' : IntKind) (n : Nat) (h0 : 0 < n) (h1 : n < 2 ^ 31) (h2 : by_ * n ≤ 2 ^ 47) (S : St) :
    mkA E t (.int k n) (.int k' n) S = some (.value (.slice (some ⟨S.n, 0, none⟩) n n), S.push (.own (List.replicate n z) e)) := by
  unfold mkA amakeSlice
  simp only [ht]
  cases hI : E.P.info? e with
  | none => rw [hI] at hi; cases hi
  | some i =>
    rw [hI] at hi
    simp only [Option.map_some, Option.some.injEq, Prod.mk.injEq] at hi
    obtain ⟨e1, e2, e3⟩ := hi
    simp only
    rw [if_pos ⟨by omega, by omega, by omega, by rw [e2]; exact_mod_cast h2⟩, e1]
    rw [if_neg (by omega), e3]
    simp only [Int.toNat_natCast, Nat.mul_one]
    rw [if_pos (by simp [pfA, pfL, hp]), initCells_one]
theorem slice_hi {t e : TypeId} {k : Nat} (ht : E.P.underlying t = some (.slice e)) (hi : szOf E e = some k) (b len cap : Nat) (kk : IntKind) (h : Nat) (h1 : h ≤ cap) (h2 : cap < OPEN) (S : St) :
    sliceA E t (.slice (some ⟨b, 0, none⟩) len cap) none (some (.int kk h)) none S = some (.value (.slice (some ⟨b, 0, none⟩) h cap), S) := by
  obtain ⟨inf, h3, rfl⟩ := szOf_some hi
  unfold sliceA
  rw [if_neg (by simp [pf])]
  unfold aslice
  simp only [ht, bnd, h3]
  rw [if_pos (by omega)]
  simp only [Int.toNat_natCast]
  rw [if_neg (by omega), if_pos h2, if_pos ⟨by omega, h1⟩]
  simp only [Nat.sub_zero, Nat.zero_mul, addA, Nat.add_zero, ite_self]
  rfl
end
end Go.Abs

namespace Go.Abs
open Go Go.RowKit
section
variable {E : Env}
theorem store_opn {S : St} {b o : Nat} {t : TypeId} {k sh : Nat} {c : List Value} {e : TypeId} {v : Value} (hg : St.get E S b = some (.opn c e (some sh))) (hi : szOf E t = some k) (h1 : v.cells.toList.length = k) (h2 : v.cells.toList.all (·.oneCell') = true) (h3 : o + k ≤ c.length) (h4 : sh ≤ o) :
    astore E S t (.pointer (some ⟨b, o, none⟩)) v = some (S.set b (.opn (splice c o v.cells.toList) e (some sh))) := by
  obtain ⟨i, h, rfl⟩ := szOf_some hi
  unfold astore
  simp only [hg, h]
  rw [if_pos ⟨h1, h2, by omega, h4⟩]

/-- One operation alone wrote to what was there; it stands before or behind each other one. -/
theorem aordered_one (ops : Array Oper) (cs : List Nat) (k : Nat) (h1 : ∀ x ∈ cs.zipIdx, x.2 ≠ k → okc x.1 = true) (h2 : ((List.range cs.length).all fun j => comparable (Region.before ops) k j) = true) : aordered ops cs = true := by
  unfold aordered
  split
  · rfl
  · simp only
    apply List.all_eq_true.2
    intro x hx
    by_cases hk : x.2 = k
    · rw [hk, Bool.or_eq_true]
      right
      apply List.all_eq_true.2
      intro y hy
      rw [Bool.or_eq_true, Bool.or_eq_true]
      right
      have hy2 : y.2 < cs.length := by
        have := List.mem_zipIdx hy
        omega
      exact List.all_eq_true.1 h2 y.2 (List.mem_range.2 hy2)
    · rw [Bool.or_eq_true]
      left
      simpa using h1 x hx hk
end
end Go.Abs

namespace Go.Abs
open Go Go.RowKit
section
variable {E : Env}
def buildA (E : Env) (t : TypeId) (parts : List (Nat × Value)) (S : St) : Option (Next × St) := val S (abuild E t parts)
theorem aop_build (ρ d t parts ty pos after gd S) : aop E ρ ⟨d, .build t parts, ty, pos, after, gd⟩ S = buildA E t (parts.toList.map fun p => (p.1, ρ p.2)) S := rfl
theorem okOps_build (t parts) : okOps E (.build t parts) = parts.toList.all fun p => constOk E p.2 := by
  simp [okOps, Op.operands, Function.comp_def]
theorem buildA_of {t parts v} (h : abuild E t parts = some v) (S : St) : buildA E t parts S = some (.value v, S) := by
  unfold buildA
  rw [h]
  rfl
end
end Go.Abs

namespace Go.Abs
open Go Go.RowKit
section
variable {E : Env}
theorem app_copy {sT xT e : TypeId} {xd : TypeDesc} {k by_ n b len cap : Nat} {S : St} {x : Value} {old new : List Value} (hs : E.P.underlying sT = some (.slice e)) (hx : E.P.underlying xT = some xd) (hd : slcD xd = true) (hi : infoOk E e k by_ = true)
    (hn : alen x = some n) (hnew : acellsOf E S k n x = some new) (hone : new.all (·.oneCell') = true) (hk : 0 < k) (h0 : 0 < n) (hb : (2 * (len + n) + 2048) * by_ ≤ 2 ^ 47) (hn2 : len + n ≤ 2 ^ 62)
    (hcap : cap < OPEN) (hover : cap < len + n) (hold : acellsOf E S k len (.slice (some ⟨b, 0, none⟩) len cap) = some old) :
    appA E [sT, xT] [.slice (some ⟨b, 0, none⟩) len cap, x] S = some (.value (.slice (some ⟨S.n, 0, none⟩) (len + n) OPEN), S.push (.opn (old ++ new) e (some 0))) := by
  obtain ⟨i, z, h1, rfl, rfl, h4, h5⟩ := infoOk_of hi
  unfold appA aappend
  simp only [hs, hx, hn]
  cases xd with
  | int _ => cases hd
  | _ =>
    simp only [h1, h4, hnew]
    rw [if_pos ⟨h5, hk, hone⟩]
    rw [if_neg (by omega), if_pos hcap, if_neg (by omega), if_pos ⟨hb, hn2⟩]
    simp only [hold]
    rfl
end
end Go.Abs

namespace Go.Abs
open Go Go.RowKit
section
variable {E : Env}
/-- Out by exit i, with P. -/
def OutP (N i : Nat) (P : (Nat → Value) → St → Prop) (_ : Tok P) (x : AExit) (t : List Value) (S : St) : Prop :=
  match x with
  | .exit j => j = i ∧ ∃ g, t = fr N g ∧ P g S
  | _ => False
theorem w_out {N i : Nat} {P : (Nat → Value) → St → Prop} {τ} {g S} (h : P g S) : OutP N i P τ (.exit i) (fr N g) S := ⟨rfl, g, rfl, h⟩
/-- A loop that is left by one exit, cut from what follows. -/
theorem w_loopE {α : Type} {N : Nat} (I : α → (Nat → Value) → St → Prop) (m : α → Nat) (i : Nat) (P : (Nat → Value) → St → Prop) {b : Code} {g : Nat → Value} {S : St} {Q : AExit → List Value → St → Prop} {τ} (a : α) (hI : I a g S)
    (h : ∀ a g S, I a g S → RC E b (fr N g) S (NK N I m a (OutP N i P ⟨⟩) ⟨⟩) ⟨⟩) (hr : ∀ g S, P g S → Q (.exit i) (fr N g) S) : RC E (.loop b) (fr N g) S Q τ := by
  have := w_loopF (E := E) (Q := OutP N i P ⟨⟩) (τ := ⟨⟩) I m a hI h
  refine runC_mono this ?_
  intro x t S1 hx
  cases x with
  | normal => cases hx
  | ret => cases hx
  | exit j =>
    obtain ⟨rfl, g1, rfl, hp⟩ := hx
    exact hr g1 S1 hp
end
end Go.Abs

namespace Go.Abs
open Go Go.RowKit
set_option linter.defProp false
/-! The walk's rules, bound together. -/
def wDn :=
  And.intro @w_seq <|
  And.intro @w_region <|
  And.intro @w_regionD <|
  And.intro @w_cond <|
  And.intro @w_block <|
  And.intro @w_ret <|
  And.intro @w_exit <|
  And.intro @w_skip <|
  And.intro @w_label <|
  And.intro @w_cons <|
  And.intro @w_nil <|
  And.intro @w_consD <|
  And.intro @w_nilD <|
  And.intro @w_op <|
  And.intro @w_guard <|
  And.intro @w_knormal <|
  And.intro @w_kexit <|
  And.intro @w_kret <|
  And.intro @w_bnormal <|
  And.intro @w_bret <|
  And.intro @w_bexit <|
  And.intro @w_nexit <|
  And.intro @w_nret <|
  And.intro @retR_ret <|
  @retR_normal
def wUp0 :=
  And.intro @okOps_move <|
  And.intro @okOps_assign <|
  And.intro @okOps_pick <|
  And.intro @okOps_bin <|
  And.intro @okOps_un <|
  And.intro @okOps_conv <|
  And.intro @okOps_index <|
  And.intro @okOps_extract <|
  And.intro @okOps_next <|
  And.intro @okOps_range <|
  And.intro @okOps_load <|
  And.intro @okOps_store <|
  And.intro @okOps_alloc <|
  And.intro @okOps_callf <|
  And.intro @okOps_slice <|
  And.intro @okOps_indexAddr <|
  And.intro @okOps_fieldAddr <|
  And.intro @okOps_field <|
  And.intro @okOps_box <|
  And.intro @okOps_nilCheck <|
  And.intro @okOps_iface <|
  And.intro @okOps_makeSlice <|
  And.intro @ok_tmp <|
  And.intro @ok_const <|
  And.intro @ok_func <|
  And.intro @ok_global <|
  And.intro @pf_bool <|
  And.intro @pf_int <|
  And.intro @pf_string <|
  And.intro @pf_nilFunc <|
  And.intro @pf_nilIface <|
  And.intro @pf_sliceNil <|
  And.intro @pf_ptrNil <|
  And.intro @aop_assign <|
  And.intro @aop_move <|
  And.intro @aop_bin <|
  And.intro @aop_un <|
  And.intro @aop_pick <|
  And.intro @aop_conv <|
  And.intro @aop_index <|
  And.intro @aop_slice <|
  And.intro @aop_extract <|
  And.intro @acls_ne2 <|
  And.intro @aordered_of <|
  And.intro @nmin_self <|
  And.intro @nmin_add <|
  And.intro @nmin_nmin <|
  And.intro @le_nmin <|
  And.intro @bin_shlK <|
  And.intro @bin_shrK <|
  And.intro @aop_nextA <|
  And.intro @nextA_true <|
  And.intro @aop_rangeA <|
  And.intro @ext0 <|
  And.intro @wf_mk <|
  And.intro @wf_push <|
  And.intro @wf_set <|
  And.intro @get_mk <|
  And.intro @n_push <|
  @low_push
def wUp1 :=
  And.intro @n_set <|
  And.intro @low_set <|
  And.intro @aop_load <|
  And.intro @aop_storeR <|
  And.intro @storeR_some <|
  And.intro @aop_indexAddr <|
  And.intro @aop_fieldAddr <|
  And.intro @aop_field <|
  And.intro @aop_allocA <|
  And.intro @aop_callf <|
  And.intro @aop_len <|
  And.intro @okOps_builtin <|
  And.intro @aop_bs <|
  And.intro @okOps_bs <|
  And.intro @aop_append <|
  And.intro @aop_min <|
  And.intro @min_int <|
  And.intro @aop_mk <|
  And.intro @aop_build <|
  And.intro @okOps_build <|
  And.intro @val_some <|
  And.intro @ev_const <|
  And.intro @ev_tmp <|
  And.intro @ev_global <|
  And.intro @ev_func <|
  And.intro @w_value <|
  And.intro @w_skipO <|
  And.intro @w_call <|
  And.intro @w_true <|
  And.intro @w_false <|
  And.intro @w_gtt <|
  And.intro @w_gff <|
  And.intro @w_gtf <|
  And.intro @w_gft <|
  And.intro @w_gundef <|
  And.intro @put_some <|
  And.intro @put_none <|
  And.intro @upd_at <|
  And.intro @entry_at <|
  And.intro @pickA_true <|
  And.intro @pickA_false <|
  And.intro @pickA_bools <|
  And.intro @bin_add <|
  And.intro @bin_sub <|
  And.intro @bin_mul <|
  And.intro @bin_and <|
  And.intro @bin_or <|
  And.intro @bin_xor <|
  And.intro @bin_andNot <|
  And.intro @bin_eql <|
  And.intro @bin_neq <|
  And.intro @bin_lss <|
  And.intro @bin_leq <|
  And.intro @bin_gtr <|
  And.intro @bin_geq <|
  And.intro @bin_s_eql <|
  And.intro @bin_s_neq <|
  And.intro @bin_s_lss <|
  And.intro @un_not <|
  @un_neg
def wUp2 :=
  And.intro @fr_at <|
  @retV_one
end Go.Abs

namespace Go.Abs
open Go Go.RowKit

/-- Which classes may meet: A holds for each operation of a region those that it may be of. -/
def okA (ops : Array Oper) (A : List (List Nat)) : Bool :=
  let b := Region.before ops
  A.zipIdx.all fun x => x.1.all okc || A.zipIdx.all fun y => comparable b x.2 y.2 || x.1.all fun c => okc c || y.1.all fun d => d == 0 || (c == 3 && (d == 4 || d == 5))

inductive All2 {α β : Type} (R : α → β → Prop) : List α → List β → Prop
  | nil : All2 R [] []
  | cons {a b l m} : R a b → All2 R l m → All2 R (a :: l) (b :: m)

theorem forall2_get {α β : Type} {R : α → β → Prop} : ∀ {l : List α} {m : List β}, All2 R l m → ∀ {i : Nat} {a : α}, l[i]? = some a → ∃ b, m[i]? = some b ∧ R a b
  | [], _, _, i, a, h => by simp at h
  | x :: l, _, .cons h1 h2, 0, a, h => by simp at h; subst h; exact ⟨_, rfl, h1⟩
  | x :: l, _, .cons h1 h2, i + 1, a, h => by simpa using forall2_get h2 (by simpa using h)

theorem aordered_by {ops : Array Oper} {cs : List Nat} (A : List (List Nat)) (h : All2 (fun c a => c ∈ a) cs A) (hk : okA ops A = true) : aordered ops cs = true := by
  unfold aordered
  split
  · rfl
  · simp only [List.all_eq_true]
    rintro ⟨c, i⟩ hx
    rw [List.mk_mem_zipIdx_iff_getElem?] at hx
    obtain ⟨a, ha, hca⟩ := forall2_get h hx
    unfold okA at hk
    simp only [List.all_eq_true] at hk
    have h1 := hk (a, i) (by rw [List.mk_mem_zipIdx_iff_getElem?]; exact ha)
    rw [Bool.or_eq_true] at h1 ⊢
    rcases h1 with h1 | h1
    · exact .inl (List.all_eq_true.1 h1 c hca)
    · by_cases hok : okc c = true
      · exact .inl hok
      · right
        simp only [List.all_eq_true] at h1 ⊢
        rintro ⟨d, j⟩ hy
        rw [List.mk_mem_zipIdx_iff_getElem?] at hy
        obtain ⟨b, hb, hdb⟩ := forall2_get h hy
        have h2 := h1 (b, j) (by rw [List.mk_mem_zipIdx_iff_getElem?]; exact hb)
        rw [Bool.or_eq_true] at h2
        rw [Bool.or_eq_true]
        rcases h2 with h2 | h2
        · exact .inr h2
        · left
          have h3 := List.all_eq_true.1 h2 c hca
          rw [Bool.or_eq_true] at h3
          rcases h3 with h3 | h3
          · exact absurd h3 hok
          · have := List.all_eq_true.1 h3 d hdb
            simpa using this

section
variable {E : Env}

/-- Looks at its operands alone. -/
theorem acls_still {n0 : Nat} {ops : Array Oper} {o : Oper} {t : List Value} {v : Value} {S S1 : St} (h : astill E ops o t = true) (hl : S.n ≤ S1.low) (hn : S1.n = S.n) : aclsD E n0 ops o t v S S1 ∈ [0] := by
  unfold aclsD
  rw [if_pos hl, if_pos (by simp [h, hn])]
  simp

theorem acls_move {n0 : Nat} {ops : Array Oper} {d x ty pos after} {t : List Value} {v : Value} {S S1 : St} (hl : S.n ≤ S1.low) (hn : S1.n = S.n) : aclsD E n0 ops ⟨d, .move x, ty, pos, after, none⟩ t v S S1 ∈ [0] := acls_still rfl hl hn
theorem acls_assign {n0 : Nat} {ops : Array Oper} {d x ty pos after} {t : List Value} {v : Value} {S S1 : St} (hl : S.n ≤ S1.low) (hn : S1.n = S.n) : aclsD E n0 ops ⟨d, .assign x, ty, pos, after, none⟩ t v S S1 ∈ [0] := acls_still rfl hl hn
theorem acls_field {n0 : Nat} {ops : Array Oper} {d u x f ty pos after} {t : List Value} {v w : Value} {S S1 : St} (h : afieldAddr E u (aeval t x) f = some w) (hl : S.n ≤ S1.low) (hn : S1.n = S.n) : aclsD E n0 ops ⟨d, .fieldAddr u x f, ty, pos, after, none⟩ t v S S1 ∈ [0] :=
  acls_still (by unfold astill aindep; simp only [h, Option.isSome_some, Bool.or_true]) hl hn
theorem acls_index {n0 : Nat} {ops : Array Oper} {d u x i ty pos after} {t : List Value} {v w : Value} {S S1 : St} (h : aindexAddr E u (aeval t x) (aeval t i) = some w) (hl : S.n ≤ S1.low) (hn : S1.n = S.n) : aclsD E n0 ops ⟨d, .indexAddr u x i, ty, pos, after, none⟩ t v S S1 ∈ [0] :=
  acls_still (by unfold astill aindep; simp only [h, Option.isSome_some, Bool.or_true]) hl hn
/-- Quiet, out of free things. -/
theorem acls_free {n0 : Nat} {ops : Array Oper} {o : Oper} {t : List Value} {v : Value} {S S1 : St} (hp : allPf (aeval t) o = true) (hl : S.n ≤ S1.low) : aclsD E n0 ops o t v S S1 ∈ [0, 4] := by
  unfold aclsD
  rw [if_pos hl, hp]
  split <;> simp
/-- Reads something free that was there before. -/
theorem acls_read {n0 : Nat} {ops : Array Oper} {d u a ty pos after gd} {t : List Value} {v : Value} {S S1 : St} {b off : Nat} (h : aeval t a = .pointer (some ⟨b, off, none⟩)) (hb : b < n0) (hv : pf v = true) (hl : S.n ≤ S1.low) (hn : S1.n = S.n) :
    aclsD E n0 ops ⟨d, .load u a, ty, pos, after, gd⟩ t v S S1 ∈ [0, 4, 5] := by
  unfold aclsD
  rw [if_pos hl]
  split
  · simp
  · split
    · simp
    · rw [if_pos (by unfold aread; simp [h, hb, hv, hn])]
      simp
/-- Quiet. -/
theorem acls_quiet {n0 : Nat} {ops : Array Oper} {o : Oper} {t : List Value} {v : Value} {S S1 : St} (hl : S.n ≤ S1.low) : aclsD E n0 ops o t v S S1 ∈ [0, 1, 4, 5] := by
  unfold aclsD
  rw [if_pos hl]
  split
  · simp
  · split
    · simp
    · split <;> simp
theorem acls_any {n0 : Nat} {ops : Array Oper} {o : Oper} {t : List Value} {v : Value} {S S1 : St} : aclsD E n0 ops o t v S S1 ∈ [0, 1, 2, 3, 4, 5] := by
  unfold aclsD
  repeat' split
  all_goals simp

def boxA (E : Env) (t : TypeId) (x : Value) (S : St) : Option (Next × St) := some (.value (.pointer (some ⟨S.n, 0, none⟩)), S.push (.own x.cells.toList t))
theorem aop_box (ρ d t x ty pos after gd S) : aop E ρ ⟨d, .box t x, ty, pos, after, gd⟩ S = boxA E t (ρ x) S := rfl
theorem boxA_is (t x) (S : St) : boxA E t x S = some (.value (.pointer (some ⟨S.n, 0, none⟩)), S.push (.own x.cells.toList t)) := rfl
/-- A run of bytes becomes a text. -/
theorem conv_bytes {src dst e : TypeId} {b o len cap : Nat} {S : St} {c : List Value} {ns : List Int} (hs : E.P.underlying src = some (.slice e)) (he : E.P.underlying e = some (.int .u8)) (hd : E.P.underlying dst = some .string)
    (hc : St.cells E S b = some c) (h1 : o + len ≤ c.length) (hn : intsOf .u8 ((c.drop o).take len) = some ns) :
    convA E src dst (.slice (some ⟨b, o, none⟩) len cap) S = some (.value (.string (bytesOfInts ns)), S) := by
  unfold convA
  simp only [hd, pf, Bool.false_eq_true, if_false]
  unfold aconvert
  simp only [hs, hd, he, hc]
  by_cases h0 : len = 0
  · subst h0
    simp only [if_true]
    rw [List.take_zero] at hn
    simp only [intsOf, Option.some.injEq] at hn
    rw [← hn]
  · rw [if_neg h0, if_pos ⟨by omega, by omega⟩]
    simp only [hn]
theorem conv_bytes0 {src dst e : TypeId} {b o cap : Nat} {S : St} (hs : E.P.underlying src = some (.slice e)) (he : E.P.underlying e = some (.int .u8)) (hd : E.P.underlying dst = some .string) :
    convA E src dst (.slice (some ⟨b, o, none⟩) 0 cap) S = some (.value (.string ⟨#[]⟩), S) := by
  unfold convA
  simp only [hd, pf, Bool.false_eq_true, if_false]
  unfold aconvert
  simp only [hs, hd, he, if_true]
  rfl
theorem slice_hiE {t e : TypeId} {k : Nat} (ht : E.P.underlying t = some (.slice e)) (hi : szOf E e = some k) (kk : IntKind) (S : St) :
    sliceA E t (.slice (some ⟨0, 0, none⟩) 0 EMPT) none (some (.int kk 0)) none S = some (.value (.slice (some ⟨0, 0, none⟩) 0 EMPT), S) := by
  obtain ⟨inf, h3, rfl⟩ := szOf_some hi
  unfold sliceA
  rw [if_neg (by simp [pf])]
  unfold aslice
  simp only [ht, bnd, h3]
  rw [if_pos (by omega)]
  simp only [Int.toNat_zero]
  rw [if_neg (by decide), if_neg (by decide), if_pos ⟨trivial, trivial, trivial⟩]
  rfl

def vblk : Value → Option Nat
  | .slice (some p) _ _ => some p.block
  | _ => none

/-- A slice that grew from none by appending: v is it, n are there, cs are its cells. -/
def RowG (E : Env) (S : St) (e : TypeId) (k lo : Nat) (v : Value) (n : Nat) (cs : List Value) : Prop :=
  (v = .slice none 0 0 ∧ n = 0 ∧ cs = []) ∨ ∃ b sh, v = .slice (some ⟨b, 0, none⟩) n OPEN ∧ lo ≤ b ∧ b < S.n ∧ 0 < n ∧ n * k = cs.length ∧ sh ≤ cs.length ∧ St.get E S b = some (.opn cs e (some sh))

theorem RowG.nil (E : Env) (S : St) (e : TypeId) (k lo : Nat) : RowG E S e k lo (.slice none 0 0) 0 [] := .inl ⟨rfl, rfl, rfl⟩

theorem RowG.len {S : St} {e : TypeId} {k lo n : Nat} {v : Value} {cs : List Value} (h : RowG E S e k lo v n cs) : n * k = cs.length := by
  rcases h with ⟨_, rfl, rfl⟩ | ⟨b, sh, _, _, _, _, h, _⟩
  · simp
  · exact h

theorem RowG.lt {S : St} {e : TypeId} {k lo n : Nat} {v : Value} {cs : List Value} (h : RowG E S e k lo v n cs) {b : Nat} (hb : vblk v = some b) : b < S.n ∧ lo ≤ b := by
  rcases h with ⟨rfl, rfl, rfl⟩ | ⟨b', sh, rfl, h1, h2, _⟩
  · cases hb
  · simp only [vblk, Option.some.injEq] at hb
    subst hb
    exact ⟨h2, h1⟩

/-- As long as its block is as it was. -/
theorem RowG.keep {S S' : St} {e : TypeId} {k lo n : Nat} {v : Value} {cs : List Value} (h : RowG E S e k lo v n cs) (hn : S.n ≤ S'.n) (hg : ∀ b, b < S.n → vblk v = some b → St.get E S' b = St.get E S b) : RowG E S' e k lo v n cs := by
  rcases h with h | ⟨b, sh, h1, h2, h3, h4, h5, h6, h7⟩
  · exact .inl h
  · exact .inr ⟨b, sh, h1, h2, by omega, h4, h5, h6, (hg b h3 (by rw [h1]; rfl)).trans h7⟩

theorem RowG.append {S : St} {e sT xT : TypeId} {xd : TypeDesc} {k by_ lo n m : Nat} {v x : Value} {cs new : List Value} (h : RowG E S e k lo v n cs) (hW : WF E S) (hlo : E.base ≤ lo) (hloS : lo ≤ S.n) (hs : E.P.underlying sT = some (.slice e)) (hx : E.P.underlying xT = some xd) (hd : slcD xd = true) (hi : infoOk E e k by_ = true)
    (hn : alen x = some m) (hm0 : 0 < m) (hnew : acellsOf E S k m x = some new) (hnl : new.length = m * k) (hone : new.all (·.oneCell') = true) (hk : 0 < k) (hb : (2 * (n + m) + 2048) * by_ ≤ 2 ^ 47) (hn2 : n + m ≤ 2 ^ 62) :
    ∃ v' S', appA E [sT, xT] [v, x] S = some (.value v', S') ∧ RowG E S' e k lo v' (n + m) (cs ++ new) ∧ vblk v' = some S.n ∧ v' = .slice (some ⟨S.n, 0, none⟩) (n + m) OPEN ∧ WF E S' ∧ S'.n = S.n + 1 ∧ (∀ m, m ≤ lo → m ≤ S.low → m ≤ S'.low) ∧ (∀ b, b < S.n → vblk v ≠ some b → St.get E S' b = St.get E S b) ∧ (v = .slice none 0 0 → S'.low = S.low) := by
  rcases h with ⟨rfl, rfl, rfl⟩ | ⟨b, sh, rfl, h1, h2, h3, h4, h5, h6⟩
  · refine ⟨_, _, app_first hs hx hd hi hn hnew hone hk hm0 (by simpa using hb) (by omega), .inr ⟨S.n, 0, by rw [Nat.zero_add], ?_, by rw [n_push]; omega, by omega, by rw [List.nil_append, hnl, Nat.zero_add], by omega, ?_⟩, rfl, by rw [Nat.zero_add], (wf_push _ _).2 hW, n_push _ _, fun m h1 h2 => h2, fun b hb _ => ?_, fun _ => rfl⟩
    · exact hloS
    · rw [get_push _ _ _ hW, if_pos rfl]; rfl
    · rw [get_push _ _ _ hW, if_neg (by omega)]
  · have hW2 : WF E (S.set b (.opn cs e none)) := (wf_set _ _ _).2 hW
    refine ⟨_, _, app_tip hs hx hd hi hn hnew hone hk hm0 hb hn2 h6 h4 h5, .inr ⟨S.n, cs.length, rfl, by omega, by rw [n_push, n_set]; omega, by omega, ?_, by simp, ?_⟩, rfl, rfl, (wf_push _ _).2 hW2, by rw [n_push, n_set], fun m h1 h2 => ?_, fun b' hb' hne => ?_, fun h => by cases h⟩
    · rw [List.length_append, hnl, ← h4, Nat.add_mul]
    · rw [get_push _ _ _ hW2, if_pos (by rw [n_set])]
    · rw [low_push, low_set, le_nmin]; exact ⟨h2, by omega⟩
    · rw [get_push _ _ _ hW2, if_neg (by rw [n_set]; omega), get_setS _ _ _ _ hW (by omega) h2, if_neg (fun he => hne (by rw [he]; rfl))]

/-- Such an append isn't a writing that none may pass. -/
theorem acls_row {n0 : Nat} {ops : Array Oper} {d s x tys ty pos after gd} {t : List Value} {v : Value} {S S1 : St} {e : TypeId} {k lo n : Nat} {v0 : Value} {cs : List Value} (h : RowG E S e k lo v0 n cs) (hv : aeval t s = v0) (hc : E.P.cellsOf e = k) (hb : ∀ b, vblk v0 = some b → b < n0) (hq : v0 = .slice none 0 0 → S.n ≤ S1.low) :
    aclsD E n0 ops ⟨d, .call ⟨.builtin .append, #[s, x], tys⟩, ty, pos, after, gd⟩ t v S S1 ∈ [0, 1, 3, 4, 5] := by
  unfold aclsD
  split
  · split
    · simp
    · split
      · simp
      · split <;> simp
  · rename_i hl
    rw [if_pos]
    · simp
    · rcases h with ⟨rfl, rfl, rfl⟩ | ⟨b, sh, rfl, h1, h2, h3, h4, h5, h6⟩
      · exact absurd (hq rfl) hl
      · unfold atip
        simp only [hv, hb b rfl, decide_true, beq_self_eq_true, Bool.true_and, Bool.and_self, h6, Nat.zero_add, hc, h4]
end
end Go.Abs

namespace Go.Abs
open Go Go.RowKit
section
variable {E : Env}
def nilA (x : Value) (S : St) : Option (Next × St) :=
  match x with
  | .pointer (some a) => some (.value (.pointer (some a)), S)
  | .iface t v => some (.value (.iface t v), S)
  | _ => none
theorem aop_nilA (ρ d x ty pos after gd S) : aop E ρ ⟨d, .nilCheck x, ty, pos, after, gd⟩ S = nilA (ρ x) S := by
  show (match ρ x with
    | .pointer (some a) => some (Next.value (.pointer (some a)), S)
    | .iface t v => some (Next.value (.iface t v), S)
    | _ => none) = _
  unfold nilA
  rfl
theorem nilA_ptr (a) (S : St) : nilA (.pointer (some a)) S = some (.value (.pointer (some a)), S) := rfl
theorem aop_ident (t : List Value) (d f x tys ty pos after gd S) (hb : hasBody E f = false) (hi : E.ident f = true) :
    aop E (aeval t) ⟨d, .call ⟨.value (.func f), #[x], tys⟩, ty, pos, after, gd⟩ S = some (.value (aeval t x), S) := by
  have hap : aop E (aeval t) ⟨d, .call ⟨.value (.func f), #[x], tys⟩, ty, pos, after, gd⟩ S = acallee E (aeval t) ⟨d, .call ⟨.value (.func f), #[x], tys⟩, ty, pos, after, gd⟩ (.func (.func f) #[] #[]) ((#[x] : Array Operand).toList.map (aeval t)) S := rfl
  rw [hap]
  unfold acallee
  simp only [hb, hi, Bool.false_eq_true, if_false, if_true]
  rfl
def usdA (E : Env) (tys : Array TypeId) (ty : TypeId) (x : Value) (S : St) : Option (Next × St) :=
  if pf x then
    match prun E.P (Builtin.unsafeSliceData_ tys ty #[x]) with
    | some v => if pf v then some (.value v, S) else none
    | none => none
  else val S (asliceData [x])
theorem aop_usd (ρ d x tys ty pos after gd S) : aop E ρ ⟨d, .call ⟨.builtin .unsafeSliceData, #[x], tys⟩, ty, pos, after, gd⟩ S = usdA E tys ty (ρ x) S := by
  have hall : allPf ρ ⟨d, .call ⟨.builtin .unsafeSliceData, #[x], tys⟩, ty, pos, after, gd⟩ = pf (ρ x) := by simp [allPf, Op.operands, Call.operands]
  have hap : aop E ρ ⟨d, .call ⟨.builtin .unsafeSliceData, #[x], tys⟩, ty, pos, after, gd⟩ S = if allPf ρ ⟨d, .call ⟨.builtin .unsafeSliceData, #[x], tys⟩, ty, pos, after, gd⟩ then apure E ρ ⟨d, .call ⟨.builtin .unsafeSliceData, #[x], tys⟩, ty, pos, after, gd⟩ S else val S (asliceData [ρ x]) := rfl
  rw [hap, hall]
  unfold usdA
  split
  · rename_i h
    unfold apure
    rw [hall, h]
    simp only [isSelect, Bool.not_false, Bool.and_true, if_true]
    have he : prun E.P (execOp ρ ⟨d, .call ⟨.builtin .unsafeSliceData, #[x], tys⟩, ty, pos, after, gd⟩) = (prun E.P (Builtin.unsafeSliceData_ tys ty #[ρ x])).bind fun v => some (Next.value v) := by
      have h1 : execOp ρ ⟨d, .call ⟨.builtin .unsafeSliceData, #[x], tys⟩, ty, pos, after, gd⟩ = (resolve ρ ⟨.builtin .unsafeSliceData, #[x], tys⟩ ty >>= fun d => invoke d.target d.args) := rfl
      have h3 : (#[x] : Array Operand).map ρ = #[ρ x] := by simp
      rw [h1, prun_bind]
      show prun E.P (Builtin.unsafeSliceData_ tys ty ((#[x] : Array Operand).map ρ) >>= fun v => pure (Next.value v)) = _
      rw [h3, prun_bind]
      rfl
    rw [he]
    cases prun E.P (Builtin.unsafeSliceData_ tys ty #[ρ x]) with
    | none => rfl
    | some v => by_cases hv : pf v = true <;> simp [pfNext, hv]
  · rfl
def ustA (E : Env) (tys : Array TypeId) (ty : TypeId) (x y : Value) (S : St) : Option (Next × St) :=
  if pf x && pf y then
    match prun E.P (Builtin.unsafeString_ tys ty #[x, y]) with
    | some v => if pf v then some (.value v, S) else none
    | none => none
  else aunsafeString E tys.toList [x, y] S
theorem aop_ust (ρ d x y tys ty pos after gd S) : aop E ρ ⟨d, .call ⟨.builtin .unsafeString, #[x, y], tys⟩, ty, pos, after, gd⟩ S = ustA E tys ty (ρ x) (ρ y) S := by
  have hall : allPf ρ ⟨d, .call ⟨.builtin .unsafeString, #[x, y], tys⟩, ty, pos, after, gd⟩ = (pf (ρ x) && pf (ρ y)) := by simp [allPf, Op.operands, Call.operands]
  have hap : aop E ρ ⟨d, .call ⟨.builtin .unsafeString, #[x, y], tys⟩, ty, pos, after, gd⟩ S = if allPf ρ ⟨d, .call ⟨.builtin .unsafeString, #[x, y], tys⟩, ty, pos, after, gd⟩ then apure E ρ ⟨d, .call ⟨.builtin .unsafeString, #[x, y], tys⟩, ty, pos, after, gd⟩ S else aunsafeString E tys.toList [ρ x, ρ y] S := rfl
  rw [hap, hall]
  unfold ustA
  split
  · rename_i h
    unfold apure
    rw [hall, h]
    simp only [isSelect, Bool.not_false, Bool.and_true, if_true]
    have he : prun E.P (execOp ρ ⟨d, .call ⟨.builtin .unsafeString, #[x, y], tys⟩, ty, pos, after, gd⟩) = (prun E.P (Builtin.unsafeString_ tys ty #[ρ x, ρ y])).bind fun v => some (Next.value v) := by
      have h1 : execOp ρ ⟨d, .call ⟨.builtin .unsafeString, #[x, y], tys⟩, ty, pos, after, gd⟩ = (resolve ρ ⟨.builtin .unsafeString, #[x, y], tys⟩ ty >>= fun d => invoke d.target d.args) := rfl
      have h3 : (#[x, y] : Array Operand).map ρ = #[ρ x, ρ y] := by simp
      rw [h1, prun_bind]
      show prun E.P (Builtin.unsafeString_ tys ty ((#[x, y] : Array Operand).map ρ) >>= fun v => pure (Next.value v)) = _
      rw [h3, prun_bind]
      rfl
    rw [he]
    cases prun E.P (Builtin.unsafeString_ tys ty #[ρ x, ρ y]) with
    | none => rfl
    | some v => by_cases hv : pf v = true <;> simp [pfNext, hv]
  · rfl
theorem usd_slc (tys ty) (b o n c : Nat) (h0 : 0 < n) (h1 : n ≤ c) (h2 : c ≤ OPEN) (S : St) : usdA E tys ty (.slice (some ⟨b, o, none⟩) n c) S = some (.value (.pointer (some ⟨b, o, none⟩)), S) := by
  unfold usdA asliceData
  rw [if_neg (by simp [pf]), ]
  simp only
  rw [if_pos ⟨h0, h1, h2⟩]
  rfl
/-- A row of bytes turned into a text. -/
theorem ust_opn {pt u : TypeId} {tys : List TypeId} {ty : TypeId} {k : IntKind} {b sh n : Nat} {c : List Value} {ns : List Int} {S : St} (hp : E.P.underlying pt = some (.pointer u)) (hc : E.P.cellsOf u = 1) (hg : St.get E S b = some (.opn c u (some sh))) (h0 : 0 < n) (h1 : n < 2 ^ 62) (h2 : n ≤ c.length) (hn : intsOf .u8 (c.take n) = some ns) :
    ustA E ⟨pt :: tys⟩ ty (.pointer (some ⟨b, 0, none⟩)) (.int k n) S = some (.value (.string (bytesOfInts ns)), S.set b (.opn c u none)) := by
  unfold ustA aunsafeString
  rw [if_neg (by simp [pf])]
  simp only [hp, hg]
  rw [if_pos ⟨trivial, hc, by omega, by omega, by omega⟩]
  simp only [Int.toNat_natCast, List.drop_zero, hn]
/-- Pointers held against each other. -/
theorem bin_p_nil {t el : TypeId} (hu : E.P.underlying t = some (.pointer el)) (op x y a) (S : St) : binA E op t x y (.pointer (some a)) (.pointer none) S = (match op with | .eql => some (.value (.bool false), S) | .neq => some (.value (.bool true), S) | _ => none) := by
  have h : binA E op t x y (.pointer (some a)) (.pointer none) S = aeqOp E op t (.pointer (some a)) (.pointer none) S := by
    unfold binA
    rw [if_neg (by simp [pf])]
  rw [h]
  unfold aeqOp
  have h2 : aeq E t (.pointer (some a)) (.pointer none) = some false := by
    unfold aeq
    simp only [hu]
  rw [h2]
  cases op <;> rfl
theorem bin_p_same {t el : TypeId} {k : Nat} (hu : E.P.underlying t = some (.pointer el)) (hi : szOf E el = some k) (hk : k ≠ 0) (op x y b o) (S : St) : binA E op t x y (.pointer (some ⟨b, o, none⟩)) (.pointer (some ⟨b, o, none⟩)) S = (match op with | .eql => some (.value (.bool true), S) | .neq => some (.value (.bool false), S) | _ => none) := by
  obtain ⟨inf, h3, rfl⟩ := szOf_some hi
  have h : binA E op t x y (.pointer (some ⟨b, o, none⟩)) (.pointer (some ⟨b, o, none⟩)) S = aeqOp E op t (.pointer (some ⟨b, o, none⟩)) (.pointer (some ⟨b, o, none⟩)) S := by
    unfold binA
    rw [if_neg (by simp [pf])]
  rw [h]
  unfold aeqOp
  have h2 : aeq E t (.pointer (some ⟨b, o, none⟩)) (.pointer (some ⟨b, o, none⟩)) = some true := by
    unfold aeq
    simp only [hu, h3]
    rw [if_pos ⟨trivial, hk⟩]
    simp
  rw [h2]
  cases op <;> rfl
/-- To unsafe.Pointer and back. -/
theorem conv_ptr {src dst : TypeId} {b o : Nat} {c : List Value} {e : TypeId} {S : St} (hg : St.get E S b = some (.own c e)) (h : (match E.P.underlying src, E.P.underlying dst with
      | some (.pointer t), some .unsafePointer => decide (o < c.length) && ((E.P.info? t).map (·.size) != some 0) && (E.P.info? t).isSome
      | some .unsafePointer, some (.pointer u) => (E.P.info? u).isSome && ((E.P.info? u).map (·.size) != some 0) && liesAt E.P E.P.depth e (c.length / E.P.cellsOf e) o u 1
      | _, _ => false) = true) (hns : (match E.P.underlying dst with | some (.slice _) => false | _ => true) = true) :
    convA E src dst (.pointer (some ⟨b, o, none⟩)) S = some (.value (.pointer (some ⟨b, o, none⟩)), S) := by
  have h1 : convA E src dst (.pointer (some ⟨b, o, none⟩)) S = aunsafePtr E src dst (.pointer (some ⟨b, o, none⟩)) S := by
    unfold convA
    cases E.P.underlying dst with
    | none => rfl
    | some d => cases d <;> rfl
  rw [h1]
  unfold aunsafePtr
  simp only [hg]
  split at h
  · rename_i h2 h3
    simp only [h2, h3]
    simp only [Bool.and_eq_true, decide_eq_true_eq, bne_iff_ne, ne_eq] at h
    rw [if_pos ⟨h.1.1, h.1.2, h.2⟩]
  · rename_i h2 h3
    simp only [h2, h3]
    simp only [Bool.and_eq_true, decide_eq_true_eq, bne_iff_ne, ne_eq] at h
    rw [if_pos ⟨h.1.1, h.1.2, h.2⟩]
  · cases h
end
end Go.Abs

namespace Go.Abs
open Go Go.RowKit
theorem prun_program {P : Program} {α : Type} (f : Program → Sem α) : prun P (program >>= f) = prun P (f P) := by
  rw [prun_bind]; rfl
theorem prun_ite {P : Program} {α : Type} (c : Prop) [Decidable c] (a b : Sem α) : prun P (if c then a else b) = if c then prun P a else prun P b := by split <;> rfl
/-- Structs held against each other, field by field. -/
theorem prun_equalIn_struct {P : Program} (d : Nat) (t : TypeId) (xs ys : Array Value) (ht : P.underlying t = some (.struct (P.fieldsOf t))) (hp : P.stoodInHeld t = false) :
    prun P (Op.equalIn (d + 1) t (.agg xs) (.agg ys)) = prun P (Op.eqFields d xs ys (P.fieldsOf t).toList) := by
  simp only [Op.equalIn, prun_bind, prun_under, ht, Option.bind_some]
  rw [show prun P program = some P from rfl]
  simp only [Option.bind_some, hp, Bool.false_eq_true, if_false]
  rw [← Array.forIn_toList]
  generalize (P.fieldsOf t).toList = fs
  clear ht
  induction fs with
  | nil => simp [Op.eqFields, prun_pure, prun_bind]
  | cons f fs ih =>
    simp only [List.forIn_cons, Op.eqFields, prun_bind, prun_ite]
    split
    · cases prun P (part f.type xs f.offset) with
      | none => rfl
      | some a =>
        simp only [Option.bind_some]
        cases prun P (part f.type ys f.offset) with
        | none => rfl
        | some b =>
          simp only [Option.bind_some]
          cases prun P (Op.equalIn d f.type a b) with
          | none => rfl
          | some r =>
            cases r
            · simp only [Option.bind_some, Bool.not_false, if_true, prun_pure]
            · simp only [Option.bind_some, Bool.not_true, Bool.false_eq_true, if_false, prun_pure]
              simpa only [prun_bind] using ih
    · simp only [prun_pure, Option.bind_some]
      simpa only [prun_bind] using ih
theorem prun_equalIn_int {P : Program} (d : Nat) (t : TypeId) (k k' : IntKind) (a b : Int) (h : P.underlying t = some (.int k')) : prun P (Op.equalIn (d + 1) t (.int k a) (.int k b)) = some (a == b) := by
  simp only [Op.equalIn, prun_bind, prun_under, h, Option.bind_some, if_true, prun_pure]
theorem prun_equalIn_string {P : Program} (d : Nat) (t : TypeId) (a b : ByteArray) (h : P.underlying t = some .string) : prun P (Op.equalIn (d + 1) t (.string a) (.string b)) = some (a == b) := by
  simp only [Op.equalIn, prun_bind, prun_under, h, Option.bind_some, prun_pure]
theorem prun_equalIn_bool {P : Program} (d : Nat) (t : TypeId) (a b : Bool) (h : P.underlying t = some .bool) : prun P (Op.equalIn (d + 1) t (.bool a) (.bool b)) = some (a == b) := by
  simp only [Op.equalIn, prun_bind, prun_under, h, Option.bind_some, prun_pure]
theorem eqFields_cons {P : Program} {d : Nat} {xs ys : Array Value} {f : Field} {fs : List Field} {a b : Value} {r : Bool} (hn : f.name ≠ "_") (ha : prun P (part f.type xs f.offset) = some a) (hb : prun P (part f.type ys f.offset) = some b) (hr : prun P (Op.equalIn d f.type a b) = some r) :
    prun P (Op.eqFields d xs ys (f :: fs)) = if r then prun P (Op.eqFields d xs ys fs) else some false := by
  rw [Op.eqFields, if_pos hn]
  simp only [prun_bind, ha, hb, hr, Option.bind_some, prun_ite]
  cases r
  · simp [prun_pure]
  · simp
theorem eqFields_nil {P : Program} {d : Nat} {xs ys : Array Value} : prun P (Op.eqFields d xs ys []) = some true := rfl
end Go.Abs
