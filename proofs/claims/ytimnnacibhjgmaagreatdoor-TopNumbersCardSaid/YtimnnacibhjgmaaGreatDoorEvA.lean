/-
  TopNumbers answers true for every list of pieces and every bytes behind, and leaves them as they were; conditions: the listed package variables hold what the program's text lays (tied by the card).
-/
import Derived.Orders
import Derived.Below
import Derived.Laws.CopyRow
import Derived.Lib.FrozenHead
import Derived.Laws.Cover4
import Derived.Laws.BytesString
import Derived.Lib.ConvBytes
import Derived.Laws.AppendOwn

namespace Go.Abs
open Go Go.RowKit

/-- Where an abstract block lies. -/
structure Loc where
  blk : Nat
  shift : Nat
  total : Nat
  esz : Nat

abbrev Phi := Nat → Option Loc

def OPEN : Nat := 18446744073709551616
def EMPT : Nat := 18446744073709551617

/-- An abstract block: cells that are known whole and nobody else's; cells that are not written any more (behind them there may be room); a string's iterator. -/
inductive ABlk where
  | own (c : List Value) (e : TypeId)
  | opn (c : List Value) (e : TypeId) (tip : Option Nat)
  | iter (s : ByteArray) (pos : Nat)
  | map (es : List MapEntry) (clock : Nat)
  deriving Inhabited

structure Env where
  P : Program
  base : Nat
  glob : Nat → Option ABlk
  ident : FuncId → Bool
  memo : FuncId → List Value → Option Value
  okf : FuncId → Bool

structure St where
  n : Nat
  h : List ABlk
  low : Nat

def St.get (E : Env) (S : St) (b : Nat) : Option ABlk :=
  if b < E.base then E.glob b else if b < S.n then S.h[S.n - 1 - b]? else none
def St.push (S : St) (x : ABlk) : St := ⟨S.n + 1, x :: S.h, S.low⟩
def St.set (S : St) (b : Nat) (x : ABlk) : St := ⟨S.n, S.h.set (S.n - 1 - b) x, Nat.min S.low b⟩

def St.cells (E : Env) (S : St) (b : Nat) : Option (List Value) :=
  match S.get E b with
  | some (.own c _) => some c
  | some (.opn c _ _) => some c
  | _ => none

mutual
/-- No address in it. -/
def pf : Value → Bool
  | .bool _ | .int _ _ | .float _ _ | .complex _ _ _ | .string _ | .nilFunc | .nilIface => true
  | .pointer none | .slice none _ _ | .map none | .chan none => true
  | .pointer (some _) | .slice (some _) _ _ | .map (some _) | .chan (some _) => false
  | .func fn first captured => (match fn with | .yield _ => false | _ => true) && pfA first && pfA captured
  | .iface _ v => pf v
  | .agg cs => pfA cs
  | .tuple vs => pfA vs
def pfA : Array Value → Bool
  | ⟨l⟩ => pfL l
def pfL : List Value → Bool
  | [] => true
  | v :: l => pf v && pfL l
end

mutual
inductive VR (φ : Phi) : Value → Value → Prop
  | bool (b) : VR φ (.bool b) (.bool b)
  | int (k n) : VR φ (.int k n) (.int k n)
  | float (k n) : VR φ (.float k n) (.float k n)
  | complex (k n m) : VR φ (.complex k n m) (.complex k n m)
  | string (s) : VR φ (.string s) (.string s)
  | nilFunc : VR φ .nilFunc .nilFunc
  | nilIface : VR φ .nilIface .nilIface
  | pnil : VR φ (.pointer none) (.pointer none)
  | mnil : VR φ (.map none) (.map none)
  | mref {b l} (h : φ b = some l) : VR φ (.map (some b)) (.map (some l.blk))
  | cnil : VR φ (.chan none) (.chan none)
  | snil (n c) : VR φ (.slice none n c) (.slice none n c)
  | ptr {b o l} (h : φ b = some l) : VR φ (.pointer (some ⟨b, o, none⟩)) (.pointer (some ⟨l.blk, l.shift + o, none⟩))
  | slc {b o l n c} (h : φ b = some l) (hc : c < OPEN) : VR φ (.slice (some ⟨b, o, none⟩) n c) (.slice (some ⟨l.blk, l.shift + o, none⟩) n c)
  | slo {b o l n c} (h : φ b = some l) (hn : n ≤ c) (hc : l.shift + o + c * l.esz ≤ l.total) : VR φ (.slice (some ⟨b, o, none⟩) n OPEN) (.slice (some ⟨l.blk, l.shift + o, none⟩) n c)
  | sle {a c} : VR φ (.slice (some ⟨0, 0, none⟩) 0 EMPT) (.slice (some a) 0 c)
  | func {fn first captured first' captured'} (hy : ∀ l, fn ≠ .yield l) (h1 : VRL φ first.toList first'.toList) (h2 : VRL φ captured.toList captured'.toList) : VR φ (.func fn first captured) (.func fn first' captured')
  | iface (t) {v v'} (h : VR φ v v') : VR φ (.iface t v) (.iface t v')
  | agg {cs cs'} (h : VRL φ cs.toList cs'.toList) : VR φ (.agg cs) (.agg cs')
  | tuple {cs cs'} (h : VRL φ cs.toList cs'.toList) : VR φ (.tuple cs) (.tuple cs')
inductive VRL (φ : Phi) : List Value → List Value → Prop
  | nil : VRL φ [] []
  | cons {v v' l l'} (h : VR φ v v') (hl : VRL φ l l') : VRL φ (v :: l) (v' :: l')
end

theorem VRL.length {φ : Phi} : ∀ {l l' : List Value}, VRL φ l l' → l.length = l'.length
  | _, _, .nil => rfl
  | _, _, .cons _ hl => by simp [VRL.length hl]

theorem VRL.get {φ : Phi} : ∀ {l l' : List Value}, VRL φ l l' → ∀ {i : Nat} {v : Value}, l[i]? = some v → ∃ v', l'[i]? = some v' ∧ VR φ v v'
  | _, _, .nil, _, _, h => by simp at h
  | _, _, .cons h hl, 0, _, hi => by simp at hi; subst hi; exact ⟨_, by simp, h⟩
  | _, _, .cons h hl, i + 1, _, hi => by simp at hi; simpa using VRL.get hl hi

theorem VRL.of_get {φ : Phi} : ∀ {l l' : List Value}, l.length = l'.length → (∀ (i : Nat) (v v' : Value), l[i]? = some v → l'[i]? = some v' → VR φ v v') → VRL φ l l'
  | [], [], _, _ => .nil
  | [], _ :: _, h, _ => by simp at h
  | _ :: _, [], h, _ => by simp at h
  | v :: l, v' :: l', h, hh => .cons (hh 0 v v' (by simp) (by simp)) (VRL.of_get (by simpa using h) (fun i x x' hx hx' => hh (i + 1) x x' (by simpa using hx) (by simpa using hx')))

theorem VRL.append {φ : Phi} : ∀ {l l' m m' : List Value}, VRL φ l l' → VRL φ m m' → VRL φ (l ++ m) (l' ++ m')
  | _, _, _, _, .nil, h => h
  | _, _, _, _, .cons h hl, h' => .cons h (hl.append h')

theorem VRL.take {φ : Phi} : ∀ {l l' : List Value} (n : Nat), VRL φ l l' → VRL φ (l.take n) (l'.take n)
  | _, _, 0, _ => by simpa using VRL.nil
  | _, _, n + 1, .nil => by simpa using VRL.nil
  | _, _, n + 1, .cons h hl => by simpa using VRL.cons h (VRL.take n hl)

theorem VRL.drop {φ : Phi} : ∀ {l l' : List Value} (n : Nat), VRL φ l l' → VRL φ (l.drop n) (l'.drop n)
  | _, _, 0, h => by simpa using h
  | _, _, n + 1, .nil => by simpa using VRL.nil
  | _, _, n + 1, .cons h hl => by simpa using VRL.drop n hl

theorem VRL.set {φ : Phi} : ∀ {l l' : List Value} (n : Nat) {v v' : Value}, VRL φ l l' → VR φ v v' → VRL φ (l.set n v) (l'.set n v')
  | _, _, _, _, _, .nil, _ => by simpa using VRL.nil
  | _, _, 0, _, _, .cons _ hl, hv => by simpa using VRL.cons hv hl
  | _, _, n + 1, _, _, .cons h hl, hv => by simpa using VRL.cons h (VRL.set n hl hv)

mutual
theorem VR.mono {φ ψ : Phi} (hx : ∀ b l, φ b = some l → ψ b = some l) : ∀ {v v' : Value}, VR φ v v' → VR ψ v v'
  | _, _, .bool b => .bool b
  | _, _, .int k n => .int k n
  | _, _, .float k n => .float k n
  | _, _, .complex k n m => .complex k n m
  | _, _, .string s => .string s
  | _, _, .nilFunc => .nilFunc
  | _, _, .nilIface => .nilIface
  | _, _, .pnil => .pnil
  | _, _, .mnil => .mnil
  | _, _, .mref h => .mref (hx _ _ h)
  | _, _, .cnil => .cnil
  | _, _, .snil n c => .snil n c
  | _, _, .ptr h => .ptr (hx _ _ h)
  | _, _, .slc h hc => .slc (hx _ _ h) hc
  | _, _, .slo h hn hc => .slo (hx _ _ h) hn hc
  | _, _, .sle => .sle
  | _, _, .func hy h1 h2 => .func hy (VRL.mono hx h1) (VRL.mono hx h2)
  | _, _, .iface t h => .iface t (VR.mono hx h)
  | _, _, .agg h => .agg (VRL.mono hx h)
  | _, _, .tuple h => .tuple (VRL.mono hx h)
theorem VRL.mono {φ ψ : Phi} (hx : ∀ b l, φ b = some l → ψ b = some l) : ∀ {l l' : List Value}, VRL φ l l' → VRL ψ l l'
  | _, _, .nil => .nil
  | _, _, .cons h hl => .cons (VR.mono hx h) (VRL.mono hx hl)
end

mutual
theorem VR.of_pf (φ : Phi) : ∀ (v : Value), pf v = true → VR φ v v
  | .bool b, _ => .bool b
  | .int k n, _ => .int k n
  | .float k n, _ => .float k n
  | .complex k n m, _ => .complex k n m
  | .string s, _ => .string s
  | .nilFunc, _ => .nilFunc
  | .nilIface, _ => .nilIface
  | .pointer none, _ => .pnil
  | .pointer (some _), h => by simp [pf] at h
  | .slice none n c, _ => .snil n c
  | .slice (some _) _ _, h => by simp [pf] at h
  | .map none, _ => .mnil
  | .map (some _), h => by simp [pf] at h
  | .chan none, _ => .cnil
  | .chan (some _), h => by simp [pf] at h
  | .func fn ⟨first⟩ ⟨captured⟩, h => by
      simp only [pf, pfA, Bool.and_eq_true] at h
      refine .func ?_ (VRL.of_pfL φ first h.1.2) (VRL.of_pfL φ captured h.2)
      intro l hl; subst hl; simp at h
  | .iface t v, h => .iface t (VR.of_pf φ v (by simpa [pf] using h))
  | .agg ⟨cs⟩, h => .agg (VRL.of_pfL φ cs (by simpa [pf, pfA] using h))
  | .tuple ⟨cs⟩, h => .tuple (VRL.of_pfL φ cs (by simpa [pf, pfA] using h))
theorem VRL.of_pfL (φ : Phi) : ∀ (l : List Value), pfL l = true → VRL φ l l
  | [], _ => .nil
  | v :: l, h => by
      simp only [pfL, Bool.and_eq_true] at h
      exact .cons (VR.of_pf φ v h.1) (VRL.of_pfL φ l h.2)
end

mutual
theorem VR.eq_of_pf {φ : Phi} : ∀ {v v' : Value}, VR φ v v' → pf v = true → v' = v
  | _, _, .bool b, _ => rfl
  | _, _, .int k n, _ => rfl
  | _, _, .float k n, _ => rfl
  | _, _, .complex k n m, _ => rfl
  | _, _, .string s, _ => rfl
  | _, _, .nilFunc, _ => rfl
  | _, _, .nilIface, _ => rfl
  | _, _, .pnil, _ => rfl
  | _, _, .mnil, _ => rfl
  | _, _, .mref h, hp => by simp [pf] at hp
  | _, _, .cnil, _ => rfl
  | _, _, .snil n c, _ => rfl
  | _, _, .ptr h, hp => by simp [pf] at hp
  | _, _, .slc h hc, hp => by simp [pf] at hp
  | _, _, .slo h hn hc, hp => by simp [pf] at hp
  | _, _, .sle, hp => by simp [pf] at hp
  | _, _, @VR.func _ fn ⟨first⟩ ⟨captured⟩ ⟨first'⟩ ⟨captured'⟩ hy h1 h2, hp => by
      simp only [pf, pfA, Bool.and_eq_true] at hp
      have e1 := VRL.eq_of_pfL h1 hp.1.2
      have e2 := VRL.eq_of_pfL h2 hp.2
      simp only at e1 e2
      rw [e1, e2]
  | _, _, .iface t h, hp => by rw [VR.eq_of_pf h (by simpa [pf] using hp)]
  | _, _, @VR.agg _ ⟨cs⟩ ⟨cs'⟩ h, hp => by
      have e := VRL.eq_of_pfL h (by simpa [pf, pfA] using hp)
      simp only at e
      rw [e]
  | _, _, @VR.tuple _ ⟨cs⟩ ⟨cs'⟩ h, hp => by
      have e := VRL.eq_of_pfL h (by simpa [pf, pfA] using hp)
      simp only at e
      rw [e]
theorem VRL.eq_of_pfL {φ : Phi} : ∀ {l l' : List Value}, VRL φ l l' → pfL l = true → l' = l
  | _, _, .nil, _ => rfl
  | _, _, .cons h hl, hp => by
      simp only [pfL, Bool.and_eq_true] at hp
      rw [VR.eq_of_pf h hp.1, VRL.eq_of_pfL hl hp.2]
end

theorem VR.cells {φ : Phi} {v v' : Value} (h : VR φ v v') : VRL φ v.cells.toList v'.cells.toList := by
  cases h <;> simp only [Value.cells] <;> first
    | assumption
    | (refine .cons ?_ .nil; first | constructor | skip)
  all_goals first | assumption | (constructor <;> assumption)

theorem VR.oneCell {φ : Phi} {v v' : Value} (h : VR φ v v') : v.oneCell' = v'.oneCell' := by
  cases h <;> rfl

/-- A map's entries. -/
inductive MR (φ : Phi) : List MapEntry → List MapEntry → Prop
  | nil : MR φ [] []
  | cons {e e' : MapEntry} {l l' : List MapEntry} (hk : VR φ e.key e'.key) (hv : VR φ e.val e'.val) (hb : e.born = e'.born) (hl : MR φ l l') : MR φ (e :: l) (e' :: l')

theorem MR.mono {φ ψ : Phi} (hx : ∀ b l, φ b = some l → ψ b = some l) : ∀ {l l' : List MapEntry}, MR φ l l' → MR ψ l l'
  | _, _, .nil => .nil
  | _, _, .cons hk hv hb hl => .cons (VR.mono hx hk) (VR.mono hx hv) hb (MR.mono hx hl)

/-- No cell from lo on is frozen. -/
def Unfrozen (fz : Nat × Nat) (lo n : Nat) : Prop := ∀ i, lo ≤ i → i < n → ¬ (fz.1 ≤ i ∧ i < fz.2)

/-- One block, in the world. -/
def BR (P : Program) (N0 : Nat) (φ : Phi) (w : World) (l : Loc) : ABlk → Prop
  | .own c e => l.shift = 0 ∧ l.total = c.length ∧ N0 ≤ l.blk ∧ ∃ C : Array Value, w.heap[l.blk]? = some (.cells C e (0, 0)) ∧ VRL φ c C.toList
  | .opn c e tip => l.esz = P.cellsOf e ∧ ∃ (C : Array Value) (fz : Nat × Nat), w.heap[l.blk]? = some (.cells C e fz) ∧ C.size = l.total ∧ l.shift + c.length ≤ l.total ∧
      VRL φ c ((C.toList.drop l.shift).take c.length) ∧ (∀ sh, tip = some sh → sh ≤ c.length ∧ N0 ≤ l.blk ∧ Unfrozen fz (l.shift + sh) l.total)
  | .iter s pos => l.shift = 0 ∧ N0 ≤ l.blk ∧ w.heap[l.blk]? = some (.stringIter s pos)
  | .map es clock => N0 ≤ l.blk ∧ ∃ ms : Array MapEntry, w.heap[l.blk]? = some (.map ms clock) ∧ MR φ es ms.toList

theorem BR.mono {P : Program} {N0 : Nat} {φ ψ : Phi} (hx : ∀ b l, φ b = some l → ψ b = some l) {w w' : World} {l : Loc} (hw : w'.heap[l.blk]? = w.heap[l.blk]?) :
    ∀ {x : ABlk}, BR P N0 φ w l x → BR P N0 ψ w' l x
  | .own _ _, ⟨h1, h2, h3, C, h4, h5⟩ => ⟨h1, h2, h3, C, hw.trans h4, VRL.mono hx h5⟩
  | .opn _ _ _, ⟨h0, C, fz, h1, h2, h3, h4, h5⟩ => ⟨h0, C, fz, hw.trans h1, h2, h3, VRL.mono hx h4, h5⟩
  | .iter _ _, ⟨h1, h2, h3⟩ => ⟨h1, h2, hw.trans h3⟩
  | .map _ _, ⟨h1, ms, h2, h3⟩ => ⟨h1, ms, hw.trans h2, MR.mono hx h3⟩

theorem BR.there {P : Program} {N0 : Nat} {φ : Phi} {w : World} {l : Loc} : ∀ {x : ABlk}, BR P N0 φ w l x → l.blk < w.heap.size
  | .own _ _, ⟨_, _, _, _, h, _⟩ => (Array.getElem?_eq_some_iff.1 h).1
  | .opn _ _ _, ⟨_, _, _, h, _⟩ => (Array.getElem?_eq_some_iff.1 h).1
  | .iter _ _, ⟨_, _, h⟩ => (Array.getElem?_eq_some_iff.1 h).1
  | .map _ _, ⟨_, _, h, _⟩ => (Array.getElem?_eq_some_iff.1 h).1

structure GlobOK (E : Env) (w : World) : Prop where
  out : ∀ g x, E.glob g = some x → g < E.base ∧ ∃ c e fz, x = .opn c e none ∧ pfL c = true ∧ w.heap[g]? = some (.cells ⟨c⟩ e fz)

structure Sim (E : Env) (N0 : Nat) (φ : Phi) (S : St) (w : World) : Prop where
  n_eq : S.n = E.base + S.h.length
  glob : GlobOK E w
  gN0 : ∀ g x, E.glob g = some x → g < N0
  gphi : ∀ g c e t, E.glob g = some (.opn c e t) → φ g = some ⟨g, 0, c.length, E.P.cellsOf e⟩
  N0le : N0 ≤ w.heap.size
  blk : ∀ b l, φ b = some l → ∃ x, S.get E b = some x ∧ BR E.P N0 φ w l x
  excl : ∀ b b' l l', φ b = some l → φ b' = some l' → b ≠ b' → l.blk = l'.blk → ∃ c e t c' e' t', S.get E b = some (.opn c e t) ∧ S.get E b' = some (.opn c' e' t') ∧ (∀ sh, t = some sh → t' = none ∧ l'.shift + c'.length ≤ l.shift + sh)

structure Step (E : Env) (N0 : Nat) (φ : Phi) (S : St) (w : World) (φ' : Phi) (S' : St) (w' : World) : Prop where
  sim : Sim E N0 φ' S' w'
  ext : ∀ b l, φ b = some l → φ' b = some l
  new : ∀ b l, φ' b = some l → φ b = some l ∨ (S.n ≤ b ∧ (w.heap.size ≤ l.blk ∨ ∃ b0 l0, φ b0 = some l0 ∧ S'.low ≤ b0 ∧ l0.blk = l.blk))
  n_le : S.n ≤ S'.n
  low_le : S'.low ≤ S.low
  below : Below N0 w w'
  frame : ∀ B, B < w.heap.size → (∀ b l, φ b = some l → S'.low ≤ b → l.blk ≠ B) → w'.heap[B]? = w.heap[B]?
  keep : ∀ b, b < S.n → b < S'.low → S'.get E b = S.get E b

theorem Step.refl {E : Env} {N0 : Nat} {φ : Phi} {S : St} {w : World} (h : Sim E N0 φ S w) : Step E N0 φ S w φ S w :=
  ⟨h, fun _ _ h => h, fun _ _ h => .inl h, Nat.le_refl _, Nat.le_refl _, Below.refl _ _, fun _ _ _ => rfl, fun _ _ _ => rfl⟩

theorem Step.trans {E : Env} {N0 : Nat} {φ φ1 φ2 : Phi} {S S1 S2 : St} {w w1 w2 : World} (h : Step E N0 φ S w φ1 S1 w1) (k : Step E N0 φ1 S1 w1 φ2 S2 w2) : Step E N0 φ S w φ2 S2 w2 where
  sim := k.sim
  ext := fun b l hb => k.ext b l (h.ext b l hb)
  new := by
    intro b l hb
    rcases k.new b l hb with h1 | ⟨hn, h1⟩
    · rcases h.new b l h1 with h2 | ⟨hn, h2 | ⟨b0, l0, h2, h3, h4⟩⟩
      · exact .inl h2
      · exact .inr ⟨hn, .inl h2⟩
      · exact .inr ⟨hn, .inr ⟨b0, l0, h2, Nat.le_trans k.low_le h3, h4⟩⟩
    · refine .inr ⟨Nat.le_trans h.n_le hn, ?_⟩
      rcases h1 with h1 | ⟨b0, l0, h1, h2, h3⟩
      · exact .inl (Nat.le_trans h.below.size h1)
      · rcases h.new b0 l0 h1 with h4 | ⟨_, h4 | ⟨b1, l1, h4, h5, h6⟩⟩
        · exact .inr ⟨b0, l0, h4, h2, h3⟩
        · exact .inl (by omega)
        · exact .inr ⟨b1, l1, h4, Nat.le_trans k.low_le h5, h6.trans h3⟩
  n_le := Nat.le_trans h.n_le k.n_le
  low_le := Nat.le_trans k.low_le h.low_le
  below := h.below.trans k.below
  frame := by
    intro B hB hf
    rw [k.frame B (Nat.lt_of_lt_of_le hB h.below.size), h.frame B hB (fun b l hb hl => hf b l hb (Nat.le_trans k.low_le hl))]
    intro b l hb hl
    rcases h.new b l hb with h1 | ⟨_, h1 | ⟨b0, l0, h1, h2, h3⟩⟩
    · exact hf b l h1 hl
    · omega
    · exact h3 ▸ hf b0 l0 h1 (Nat.le_trans k.low_le h2)
  keep := fun b hb hl => (k.keep b (Nat.lt_of_lt_of_le hb h.n_le) hl).trans (h.keep b hb (Nat.lt_of_lt_of_le hl k.low_le))

/-! ### the heap of the evaluator -/
section
variable {E : Env} {S : St}
theorem St.get_push_old (hn : S.n = E.base + S.h.length) (x : ABlk) {b : Nat} (hb : b < S.n) : (S.push x).get E b = S.get E b := by
  unfold St.get St.push
  by_cases h1 : b < E.base
  · simp [h1]
  · simp only [h1, if_false, hb, if_true]
    rw [if_pos (by omega), show S.n + 1 - 1 - b = (S.n - 1 - b) + 1 by omega, List.getElem?_cons_succ]

theorem St.get_push_new (hn : S.n = E.base + S.h.length) (x : ABlk) : (S.push x).get E S.n = some x := by
  unfold St.get St.push
  rw [if_neg (by omega), if_pos (by simp)]
  simp

theorem St.get_lt {b : Nat} {x : ABlk} (hn : S.n = E.base + S.h.length) (h : S.get E b = some x) : b < S.n := by
  unfold St.get at h
  split at h
  · omega
  · split at h
    · assumption
    · cases h

theorem St.get_set (hn : S.n = E.base + S.h.length) (x : ABlk) {b : Nat} (h1 : E.base ≤ b) (h2 : b < S.n) (b' : Nat) :
    (S.set b x).get E b' = if b' = b then some x else S.get E b' := by
  unfold St.get St.set
  by_cases hb : b' < E.base
  · simp only [hb, if_true]
    rw [if_neg (by omega)]
  · simp only [hb, if_false]
    by_cases hn' : b' < S.n
    · simp only [hn', if_true]
      rw [List.getElem?_set]
      by_cases he : b' = b
      · subst he
        rw [if_pos rfl, if_pos rfl, if_pos (by omega)]
      · rw [if_neg (by omega), if_neg he]
    · simp only [hn', if_false]
      rw [if_neg (by omega)]

theorem St.set_n (b : Nat) (x : ABlk) : (S.set b x).n = S.n := rfl
theorem St.set_low (b : Nat) (x : ABlk) : (S.set b x).low = Nat.min S.low b := rfl
theorem St.set_len (b : Nat) (x : ABlk) : (S.set b x).h.length = S.h.length := by simp [St.set]
end

def Phi.put (φ : Phi) (b : Nat) (l : Loc) : Phi := fun k => if k = b then some l else φ k

/-- Something new. -/
theorem Sim.push {E : Env} {N0 : Nat} {φ : Phi} {S : St} {w w' : World} (h : Sim E N0 φ S w) (l : Loc) (x : ABlk) (hb : Below N0 w w')
    (hold : ∀ B, B < w.heap.size → w'.heap[B]? = w.heap[B]?) (hl : w.heap.size ≤ l.blk) (hx : BR E.P N0 (φ.put S.n l) w' l x) :
    Step E N0 φ S w (φ.put S.n l) (S.push x) w' := by
  have hext : ∀ b l', φ b = some l' → (φ.put S.n l) b = some l' := by
    intro b l' hb
    obtain ⟨y, hy, _⟩ := h.blk b l' hb
    have := St.get_lt h.n_eq hy
    unfold Phi.put
    rw [if_neg (by omega)]; exact hb
  have hput : ∀ b l', (φ.put S.n l) b = some l' → (b = S.n ∧ l' = l) ∨ (b ≠ S.n ∧ φ b = some l') := by
    intro b l' hb
    unfold Phi.put at hb
    split at hb
    · rename_i he; exact .inl ⟨he, (Option.some.inj hb).symm⟩
    · rename_i he; exact .inr ⟨he, hb⟩
  refine ⟨⟨?_, ?_, h.gN0, ?_, Nat.le_trans h.N0le hb.size, ?_, ?_⟩, hext, ?_, ?_, Nat.le_refl _, hb, fun B hB _ => hold B hB, ?_⟩
  · simp only [St.push, List.length_cons, h.n_eq]; omega
  · constructor
    intro g y hg
    obtain ⟨h1, c, e, fz, h2, h3, h4⟩ := h.glob.out g y hg
    exact ⟨h1, c, e, fz, h2, h3, (hold g (Array.getElem?_eq_some_iff.1 h4).1).trans h4⟩
  · intro g c e t hg
    exact hext _ _ (h.gphi g c e t hg)
  · intro b l' hb'
    rcases hput b l' hb' with ⟨rfl, rfl⟩ | ⟨hne, hb2⟩
    · exact ⟨x, St.get_push_new h.n_eq x, hx⟩
    · obtain ⟨y, hy, hy2⟩ := h.blk b l' hb2
      exact ⟨y, (St.get_push_old h.n_eq x (St.get_lt h.n_eq hy)).trans hy, hy2.mono hext (hold _ hy2.there)⟩
  · intro b b' l1 l2 h1 h2 hne hblk
    rcases hput b l1 h1 with ⟨e1, e2⟩ | ⟨_, k1⟩ <;> rcases hput b' l2 h2 with ⟨e3, e4⟩ | ⟨_, k2⟩
    · exact absurd (e1.trans e3.symm) hne
    · obtain ⟨y, hy, hy2⟩ := h.blk b' l2 k2
      have := hy2.there
      rw [e2] at hblk
      omega
    · obtain ⟨y, hy, hy2⟩ := h.blk b l1 k1
      have := hy2.there
      rw [e4] at hblk
      omega
    · obtain ⟨c, e, t, c', e', t', g1, g2, g3⟩ := h.excl b b' l1 l2 k1 k2 hne hblk
      exact ⟨c, e, t, c', e', t', (St.get_push_old h.n_eq x (St.get_lt h.n_eq g1)).trans g1, (St.get_push_old h.n_eq x (St.get_lt h.n_eq g2)).trans g2, g3⟩
  · intro b l' hb'
    rcases hput b l' hb' with ⟨rfl, rfl⟩ | ⟨_, h1⟩
    · exact .inr ⟨Nat.le_refl _, .inl hl⟩
    · exact .inl h1
  · simp [St.push]
  · intro b hb' _
    exact St.get_push_old h.n_eq x hb'

/-- A block that is nobody else's turns. -/
theorem Sim.turn {E : Env} {N0 : Nat} {φ : Phi} {S : St} {w w' : World} (h : Sim E N0 φ S w) {b : Nat} {l : Loc} (hφ : φ b = some l) {x x' : ABlk} (hx : S.get E b = some x)
    (hno : ∀ c e t, x ≠ .opn c e t) (hb : Below N0 w w') (hold : ∀ B, B ≠ l.blk → w'.heap[B]? = w.heap[B]?) (hx' : BR E.P N0 φ w' l x') :
    Step E N0 φ S w φ (S.set b x') w' := by
  have hbn := St.get_lt h.n_eq hx
  have hbase : E.base ≤ b := by
    rcases Nat.lt_or_ge b E.base with hlt | hge
    · exfalso
      have hg : E.glob b = some x := by simpa [St.get, hlt] using hx
      obtain ⟨_, c, e, fz, h2, _⟩ := h.glob.out b x hg
      exact hno _ _ _ h2
    · exact hge
  have halone : ∀ b' l', φ b' = some l' → b' ≠ b → l'.blk ≠ l.blk := by
    intro b' l' h1 hne he
    obtain ⟨c, e, t, c', e', t', g1, g2, _⟩ := h.excl b' b l' l h1 hφ hne he
    rw [hx] at g2
    exact hno _ _ _ (Option.some.inj g2)
  refine ⟨⟨?_, ?_, h.gN0, h.gphi, Nat.le_trans h.N0le hb.size, ?_, ?_⟩, fun _ _ h => h, fun _ _ h => .inl h, Nat.le_refl _, Nat.min_le_left _ _, hb, ?_, ?_⟩
  · simp [St.set, h.n_eq]
  · constructor
    intro g y hg
    obtain ⟨h1, c, e, fz, h2, h3, h4⟩ := h.glob.out g y hg
    subst h2
    refine ⟨h1, c, e, fz, rfl, h3, (hold g ?_).trans h4⟩
    have := halone g _ (h.gphi g c e none hg) (by omega)
    exact this
  · intro b' l' hb'
    rw [St.get_set h.n_eq x' hbase hbn]
    by_cases he : b' = b
    · subst he
      rw [hφ] at hb'
      cases hb'
      exact ⟨x', if_pos rfl, hx'⟩
    · rw [if_neg he]
      obtain ⟨y, hy, hy2⟩ := h.blk b' l' hb'
      exact ⟨y, hy, hy2.mono (fun _ _ h => h) (hold _ (halone b' l' hb' he))⟩
  · intro b1 b2 l1 l2 h1 h2 hne hblk
    have hn1 : b1 ≠ b := by
      rintro rfl
      rw [hφ] at h1; cases h1
      exact halone b2 l2 h2 (Ne.symm hne) hblk.symm
    have hn2 : b2 ≠ b := by
      rintro rfl
      rw [hφ] at h2; cases h2
      exact halone b1 l1 h1 hne hblk
    obtain ⟨c, e, t, c', e', t', g1, g2, g3⟩ := h.excl b1 b2 l1 l2 h1 h2 hne hblk
    exact ⟨c, e, t, c', e', t', by rw [St.get_set h.n_eq x' hbase hbn, if_neg hn1]; exact g1, by rw [St.get_set h.n_eq x' hbase hbn, if_neg hn2]; exact g2, g3⟩
  · intro B _ hf
    refine hold B (Ne.symm (hf b l hφ ?_))
    exact Nat.min_le_right _ _
  · intro b' _ hl
    rw [St.get_set h.n_eq x' hbase hbn]
    have : b' < b := Nat.lt_of_lt_of_le hl (Nat.min_le_right _ _)
    rw [if_neg (by omega)]

end Go.Abs

namespace Go.Abs
open Go Go.RowKit

def prun (P : Program) {α : Type} : Sem α → Option α
  | .pure a => some a
  | .program k => prun P (k P)
  | .mark _ k => prun P k
  | .choose q k => if q.forced then prun P (k 0) else none
  | _ => none

def aeval (t : List Value) : Operand → Value
  | .tmp i => (t[i]?).getD undef
  | .const v => v
  | .global g => .pointer (some ⟨g, 0, none⟩)
  | .func f => .func (.func f) #[] #[]

def aggD : TypeDesc → Bool
  | .struct _ | .array _ _ => true
  | _ => false

def ptrTo (b : Nat) : Value := .pointer (some ⟨b, 0, none⟩)

def aload (E : Env) (S : St) (t : TypeId) : Value → Option Value
  | .pointer (some ⟨b, o, none⟩) =>
    match S.cells E b, E.P.underlying t, E.P.info? t with
    | some c, some d, some i =>
      if aggD d then (if o + i.size ≤ c.length then some (.agg ⟨(c.drop o).take i.size⟩) else none) else c[o]?
    | _, _, _ => none
  | _ => none

def splice (c : List Value) (o : Nat) (xs : List Value) : List Value := c.take o ++ xs ++ c.drop (o + xs.length)

def astore (E : Env) (S : St) (t : TypeId) (p v : Value) : Option St :=
  match p with
  | .pointer (some ⟨b, o, none⟩) =>
    match S.get E b, E.P.info? t with
    | some (.own c e), some i =>
      let xs := v.cells.toList
      if xs.length = i.size ∧ xs.all (·.oneCell') = true ∧ o + xs.length ≤ c.length then some (S.set b (.own (splice c o xs) e)) else none
    | some (.opn c e (some sh)), some i =>
      let xs := v.cells.toList
      if xs.length = i.size ∧ xs.all (·.oneCell') = true ∧ o + xs.length ≤ c.length ∧ sh ≤ o then some (S.set b (.opn (splice c o xs) e (some sh))) else none
    | _, _ => none
  | _ => none

def allPf (ρ : Operand → Value) (o : Oper) : Bool := o.op.operands.toList.all fun x => pf (ρ x)

def pfNext : Next → Bool
  | .value v => pf v
  | .enter _ args => pfA args
  | _ => false

def isSelect : Op → Bool
  | .select _ _ => true
  | _ => false

def apure (E : Env) (ρ : Operand → Value) (o : Oper) (S : St) : Option (Next × St) :=
  if allPf ρ o && !isSelect o.op then
    match prun E.P (execOp ρ o) with
    | some nx => if pfNext nx then some (nx, S) else none
    | none => none
  else none

def initCells (zero : Array Value) (n : Nat) : Array Value := (Array.range n).map (zero[· % zero.size]!)

def abuildSlice (E : Env) (t : TypeId) (len : Nat) (parts : List (Nat × Value)) (S : St) : Option (Next × St) :=
  match E.P.underlying t with
  | some (.slice elem) =>
    match E.P.info? elem with
    | some i =>
      if len * i.size ≤ 2 ^ 24 ∧ len < OPEN then
        match (if len * i.size = 0 then some #[] else i.zero.map (·.cells)) with
        | some zero =>
          if pfA zero then
            match Instr.fill (fun k => some (k * i.size, i.size)) (initCells zero (len * i.size)) parts with
            | some cells => some (.value (.slice (some ⟨S.n, 0, none⟩) len len), S.push (.own cells.toList elem))
            | none => none
          else none
        | none => none
      else none
    | none => none
  | _ => none

def amakeSlice (E : Env) (t : TypeId) (l c : Value) (S : St) : Option (Next × St) :=
  match E.P.underlying t, l, c with
  | some (.slice elem), .int _ l, .int _ c =>
    match E.P.info? elem with
    | some i =>
      if 0 ≤ l ∧ l ≤ c ∧ c < 2 ^ 31 ∧ i.bytes * c ≤ 2 ^ 47 then
        let n := c.toNat * i.size
        match (if n = 0 then some #[] else i.zero.map (·.cells)) with
        | some zero =>
          if pfA zero then some (.value (.slice (some ⟨S.n, 0, none⟩) l.toNat c.toNat), S.push (.own (initCells zero n).toList elem)) else none
        | none => none
      else none
    | none => none
  | _, _, _ => none

def bnd (dflt : Nat) : Option Value → Option Nat
  | none => some dflt
  | some (.int _ n) => if 0 ≤ n then some n.toNat else none
  | some _ => none

def addA (b o k : Nat) : Addr := ⟨b, o + k, none⟩

def aesz (E : Env) (S : St) (b : Nat) : Option Nat :=
  match S.get E b with
  | some (.opn _ e _) => some (E.P.cellsOf e)
  | _ => none

def aslice (E : Env) (S : St) (t : TypeId) (x : Value) (lo hi mx : Option Value) : Option Value :=
  match E.P.underlying t, x with
  | some (.slice elem), .slice (some ⟨b, o, none⟩) len cap =>
    match bnd 0 lo, bnd len hi, E.P.info? elem with
    | some l, some h, some inf =>
      match mx with
      | some m0 =>
        match bnd 0 (some m0) with
        | some m =>
          if l ≤ h ∧ h ≤ m ∧ m < OPEN ∧ ((cap = OPEN ∧ m ≤ len) ∨ (cap < OPEN ∧ m ≤ cap)) ∧ hi.isSome = true then
            some (.slice (some (if m = l then ⟨b, o, none⟩ else addA b o (l * inf.size))) (h - l) (m - l))
          else none
        | none => none
      | none =>
        if cap = OPEN then
          (if l ≤ h ∧ h ≤ len ∧ aesz E S b = some inf.size then
            (if h = l ∧ l ≠ 0 then some (.slice (some ⟨0, 0, none⟩) 0 EMPT)
             else some (.slice (some (addA b o (l * inf.size))) (h - l) OPEN))
          else none)
        else if cap < OPEN then
          (if l ≤ h ∧ h ≤ cap then
            some (.slice (some (if cap = l then ⟨b, o, none⟩ else addA b o (l * inf.size))) (h - l) (cap - l))
          else none)
        else if cap = EMPT ∧ l = 0 ∧ h = 0 then some (.slice (some ⟨0, 0, none⟩) 0 EMPT)
        else none
    | _, _, _ => none
  | some (.pointer arr), .pointer (some ⟨b, o, none⟩) =>
    match E.P.underlying arr, mx with
    | some (.array n elem), none =>
      match bnd 0 lo, bnd n hi, E.P.info? elem with
      | some l, some h, some inf =>
        if l ≤ h ∧ h ≤ n ∧ n < OPEN then
          some (.slice (some (if n = l then ⟨b, o, none⟩ else addA b o (l * inf.size))) (h - l) (n - l))
        else none
      | _, _, _ => none
    | _, _ => none
  | some (.array n elem), .pointer (some ⟨b, o, none⟩) =>
    match mx with
    | none =>
      match bnd 0 lo, bnd n hi, E.P.info? elem with
      | some l, some h, some inf =>
        if l ≤ h ∧ h ≤ n ∧ n < OPEN then
          some (.slice (some (if n = l then ⟨b, o, none⟩ else addA b o (l * inf.size))) (h - l) (n - l))
        else none
      | _, _, _ => none
    | some _ => none
  | _, _ => none

def afieldAddr (E : Env) (t : TypeId) (x : Value) (f : Nat) : Option Value :=
  match E.P.underlying t, x with
  | some (.struct fields), .pointer (some ⟨b, o, none⟩) =>
    match fields[f]? with
    | some fd =>
      match E.P.info? fd.type with
      | some i => if i.size = 0 then none else some (.pointer (some (addA b o fd.offset)))
      | none => none
    | none => none
  | _, _ => none

def aindexAddr (E : Env) (t : TypeId) (x i : Value) : Option Value :=
  match E.P.underlying t, x, i with
  | some (.array len elem), .pointer (some ⟨b, o, none⟩), .int _ i =>
    match E.P.info? elem with
    | some inf => if 0 ≤ i ∧ i < len then some (.pointer (some (addA b o (i.toNat * inf.size)))) else none
    | none => none
  | some (.slice elem), .slice (some ⟨b, o, none⟩) len _, .int _ i =>
    match E.P.info? elem with
    | some inf => if 0 ≤ i ∧ i < len then some (.pointer (some (addA b o (i.toNat * inf.size)))) else none
    | none => none
  | _, _, _ => none

def anext (E : Env) (it : Value) (S : St) : Option (Next × St) :=
  match it with
  | .pointer (some ⟨b, 0, none⟩) =>
    match S.get E b with
    | some (.iter s pos) =>
      if pos < s.size then
        let d := Utf8.decode s pos
        some (.value (.tuple #[.bool true, goInt pos, .int .i32 d.1]), S.set b (.iter s (pos + d.2)))
      else some (.value (.tuple #[.bool false]), S)
    | _ => none
  | _ => none

def intsOf (k : IntKind) : List Value → Option (List Int)
  | [] => some []
  | .int k' n :: l => if k' = k then (intsOf k l).map (n :: ·) else none
  | _ => none

def bytesOfInts (ns : List Int) : ByteArray := ⟨⟨ns.map fun n => UInt8.ofNat n.toNat⟩⟩

def aconvert (E : Env) (src dst : TypeId) (x : Value) (S : St) : Option (Next × St) :=
  match E.P.underlying src, E.P.underlying dst, x with
  | some (.slice e), some .string, .slice (some ⟨b, o, none⟩) len _ =>
    if len = 0 then
      match E.P.underlying e with
      | some (.int .u8) => some (.value (.string (bytesOfInts [])), S)
      | _ => none
    else
    match E.P.underlying e, S.cells E b with
    | some (.int k), some c =>
      if o + len ≤ c.length ∧ 0 < len then
        match intsOf k ((c.drop o).take len) with
        | some ns =>
          match k with
          | .u8 => some (.value (.string (bytesOfInts ns)), S)
          | .i32 => some (.value (.string (runesBytes ns)), S)
          | _ => none
        | none => none
      else none
    | _, _ => none
  | some .string, some (.slice e), .string s =>
    match E.P.underlying e with
    | some (.int .u8) =>
      if E.P.cellsOf e = 1 then
        some (.value (.slice (some ⟨S.n, 0, none⟩) s.size OPEN), S.push (.opn (s.data.toList.map fun b => .int .u8 b.toNat) e (some 0)))
      else none
    | some (.int .i32) =>
      let rs := (Conv.runesFrom s s.size 0 #[]).toList
      if E.P.cellsOf e = 1 ∧ pfL rs = true then
        some (.value (.slice (some ⟨S.n, 0, none⟩) rs.length OPEN), S.push (.opn rs e (some 0)))
      else none
    | _ => none
  | _, _, _ => none

def acellsOf (E : Env) (S : St) (size n : Nat) : Value → Option (List Value)
  | .slice none 0 _ => some []
  | .slice (some ⟨b, o, none⟩) len cap =>
    if len < n then none else
    if n = 0 then some [] else
    match S.cells E b with
    | some c => if o + n * size ≤ c.length ∧ cap ≤ OPEN then some ((c.drop o).take (n * size)) else none
    | none => none
  | .string s => if size = 1 ∧ n ≤ s.size then some ((s.data.toList.take n).map fun b => .int .u8 b.toNat) else none
  | _ => none

def alen : Value → Option Nat
  | .slice _ n _ => some n
  | .string s => some s.size
  | _ => none

def aappend (E : Env) (tys : List TypeId) (args : List Value) (S : St) : Option (Value × St) :=
  match tys, args with
  | [sT, xT], [s, x] =>
    match E.P.underlying sT, E.P.underlying xT, alen x with
    | some (.slice elem), some xd, some n =>
      match xd, E.P.info? elem with
      | .int _, _ => none
      | _, none => none
      | _, some i =>
        match i.zero, acellsOf E S i.size n x with
        | some z, some new =>
          if z.cells.size = i.size ∧ 0 < i.size ∧ new.all (·.oneCell') = true then
            match s with
            | .slice none 0 0 =>
              if n = 0 then some (.slice none 0 0, S)
              else if (2 * n + 2048) * i.bytes ≤ 2 ^ 47 ∧ n ≤ 2 ^ 62 then
                some (.slice (some ⟨S.n, 0, none⟩) n OPEN, S.push (.opn new elem (some 0)))
              else none
            | .slice (some ⟨b, o, none⟩) len cap =>
              if n = 0 then (if len ≤ cap then some (.slice (some ⟨b, o, none⟩) len cap, S) else none)
              else if cap < OPEN then
                if len + n ≤ cap then
                  match S.get E b with
                  | some (.own c e) =>
                    if o + len * i.size + new.length ≤ c.length then
                      some (.slice (some ⟨b, o, none⟩) (len + n) cap, S.set b (.own (splice c (o + len * i.size) new) e))
                    else none
                  | _ => none
                else if (2 * (len + n) + 2048) * i.bytes ≤ 2 ^ 47 ∧ len + n ≤ 2 ^ 62 then
                  match acellsOf E S i.size len (.slice (some ⟨b, o, none⟩) len cap) with
                  | some old => some (.slice (some ⟨S.n, 0, none⟩) (len + n) OPEN, S.push (.opn (old ++ new) elem (some 0)))
                  | none => none
                else none
              else if cap = OPEN then
                if (2 * (len + n) + 2048) * i.bytes ≤ 2 ^ 47 ∧ len + n ≤ 2 ^ 62 then
                  match S.get E b with
                  | some (.opn c e (some sh)) =>
                    if sh ≤ o + len * i.size ∧ o + len * i.size ≤ c.length ∧ e = elem then
                      some (.slice (some ⟨S.n, 0, none⟩) (len + n) OPEN, (S.set b (.opn (c.take (o + len * i.size)) e none)).push (.opn ((c.take (o + len * i.size)).drop o ++ new) elem (some (len * i.size))))
                    else none
                  | _ => none
                else none
              else none
            | _ => none
          else none
        | _, _ => none
    | _, _, _ => none
  | _, _ => none

def asliceData : List Value → Option Value
  | [.slice (some ⟨b, o, none⟩) n c] => if 0 < n ∧ n ≤ c ∧ c ≤ OPEN then some (.pointer (some ⟨b, o, none⟩)) else none
  | _ => none

def aunsafeString (E : Env) (tys : List TypeId) (args : List Value) (S : St) : Option (Next × St) :=
  match tys, args with
  | pt :: _, [.pointer (some ⟨b, o, none⟩), .int _ n] =>
    match E.P.underlying pt, S.get E b with
    | some (.pointer u), some (.opn c e (some _)) =>
      if u = e ∧ E.P.cellsOf e = 1 ∧ 0 < n ∧ n < 2 ^ 62 ∧ o + n.toNat ≤ c.length then
        match intsOf .u8 ((c.drop o).take n.toNat) with
        | some ns => some (.value (.string (bytesOfInts ns)), S.set b (.opn c e none))
        | none => none
      else none
    | _, _ => none
  | _, _ => none

/-- A pointer into a block that is known whole, seen as unsafe.Pointer, and back. -/
def aunsafePtr (E : Env) (src dst : TypeId) (x : Value) (S : St) : Option (Next × St) :=
  match x with
  | .pointer (some ⟨b, o, none⟩) =>
    match S.get E b with
    | some (.own c e) =>
      match E.P.underlying src, E.P.underlying dst with
      | some (.pointer t), some .unsafePointer =>
        if o < c.length ∧ (E.P.info? t).map (·.size) ≠ some 0 ∧ (E.P.info? t).isSome then some (.value x, S) else none
      | some .unsafePointer, some (.pointer u) =>
        if (E.P.info? u).isSome ∧ (E.P.info? u).map (·.size) ≠ some 0 ∧ liesAt E.P E.P.depth e (c.length / E.P.cellsOf e) o u 1 = true then some (.value x, S) else none
      | _, _ => none
    | _ => none
  | _ => none

def aeq (E : Env) (t : TypeId) (x y : Value) : Option Bool :=
  match E.P.underlying t, x, y with
  | some (.slice _), .slice none _ _, .slice b _ _ => some b.isNone
  | some (.slice _), .slice (some _) _ _, .slice none _ _ => some false
  | some (.pointer _), .pointer none, .pointer b => some b.isNone
  | some (.pointer _), .pointer (some _), .pointer none => some false
  | some (.pointer el), .pointer (some ⟨b, o, none⟩), .pointer (some ⟨b', o', none⟩) =>
    match E.P.info? el with
    | some i => if b = b' ∧ i.size ≠ 0 then some (o == o') else none
    | none => none
  | some (.interface _), .nilIface, .iface _ _ => some false
  | some (.interface _), .iface _ _, .nilIface => some false
  | some (.func _ _ _), .nilFunc, .func _ _ _ => some false
  | some (.func _ _ _), .func _ _ _, .nilFunc => some false
  | _, _, _ => none

def aeqOp (E : Env) (op : BinOp) (t : TypeId) (x y : Value) (S : St) : Option (Next × St) :=
  match op, aeq E t x y with
  | .eql, some b => some (.value (.bool b), S)
  | .neq, some b => some (.value (.bool (!b)), S)
  | _, _ => none

def apart (E : Env) (t : TypeId) (cs : List Value) (off : Nat) : Option Value :=
  match E.P.underlying t, E.P.info? t with
  | some d, some i => if aggD d then some (.agg ⟨(cs.drop off).take i.size⟩) else cs[off]?
  | _, _ => none

def afield (E : Env) (t : TypeId) (x : Value) (f : Nat) : Option Value :=
  match E.P.underlying t, x with
  | some (.struct fields), .agg cs =>
    match fields[f]? with
    | some fd => apart E fd.type cs.toList fd.offset
    | none => none
  | _, _ => none

def aindex (E : Env) (t : TypeId) (x i : Value) : Option Value :=
  match E.P.underlying t, x, i with
  | some (.array len elem), .agg cs, .int _ i =>
    match E.P.info? elem with
    | some inf => if 0 ≤ i ∧ i < len then apart E elem cs.toList (i.toNat * inf.size) else none
    | none => none
  | _, _, _ => none

def aextract (t : Value) (ix : Nat) : Option Value :=
  match t with
  | .tuple vs => vs[ix]?
  | _ => none

def amakeInterface (E : Env) (t : TypeId) (x : Value) : Option Value :=
  match E.P.underlying t with
  | some (.interface _) => none
  | some _ => some (.iface t x)
  | none => none

/-- Of an interface value that is not nil; of what is no interface type. -/
def atypeAssert (E : Env) (x : Value) (asserted : TypeId) (commaOk : Bool) : Option Value :=
  match E.P.underlying asserted, x with
  | some (.interface _), _ => none
  | some _, .iface t v =>
    if t = asserted then some (if commaOk then .tuple #[v, .bool true] else v)
    else if commaOk then
      match (E.P.info? asserted).bind (·.zero) with
      | some z => if pf z then some (.tuple #[z, .bool false]) else none
      | none => none
    else none
  | _, _ => none

def abuild (E : Env) (t : TypeId) (parts : List (Nat × Value)) : Option Value :=
  match E.P.underlying t, (E.P.info? t).bind (·.zero) with
  | some (.struct fields), some z =>
    if pf z then
      match prun E.P (fields.mapM fun f => do pure (f.offset, ← sizeOf f.type)) with
      | some places => (Instr.fill (places[·]?) z.cells parts).map .agg
      | none => none
    else none
  | some (.array _ elem), some z =>
    if pf z then
      match E.P.info? elem with
      | some i => (Instr.fill (fun k => some (k * i.size, i.size)) z.cells parts).map .agg
      | none => none
    else none
  | _, _ => none

def alenOp (E : Env) (tys : List TypeId) (args : List Value) : Option Value :=
  match tys, args with
  | t :: _, [.slice _ n _] =>
    match E.P.underlying t with
    | some (.slice _) => some (goInt n)
    | _ => none
  | t :: _, [.pointer _] =>
    match E.P.underlying t with
    | some (.pointer arr) =>
      match E.P.underlying arr with
      | some (.array n _) => some (goInt n)
      | _ => none
    | _ => none
  | _, _ => none

def hasBody (E : Env) (f : FuncId) : Bool := ((E.P.funcs[f]?).bind (·.body)).isSome

def isPtrD : TypeDesc → Bool
  | .pointer _ => true
  | _ => false

def ainvoke (E : Env) (recv : Value) (name : String) (args : List Value) : Option Next :=
  match recv with
  | .iface t v =>
    match E.P.info? t, E.P.underlying t with
    | some i, some d =>
      match i.methods.find? (·.name == name) with
      | some m =>
        match m.func with
        | some (f, pr) =>
          if m.path.isEmpty = true ∧ isPtrD d = pr ∧ hasBody E f = true then some (.enter f (v :: args).toArray) else none
        | none => none
      | none => none
    | _, _ => none
  | _ => none

def acallee (E : Env) (ρ : Operand → Value) (o : Oper) (f : Value) (args : List Value) (S : St) : Option (Next × St) :=
  match f with
  | .func (.func fid) first captured =>
    if hasBody E fid then some (.enter fid (first.toList ++ args ++ captured.toList).toArray, S)
    else if E.ident fid then
      (match first.toList ++ args ++ captured.toList with
      | [v] => some (.value v, S)
      | _ => none)
    else apure E ρ o S
  | _ => none

/-- Keys that are held against each other at once. -/
def keyD : TypeDesc → Bool
  | .int _ | .string | .bool => true
  | _ => false

def amapOf (E : Env) (S : St) : Value → Option (List MapEntry)
  | .map none => some []
  | .map (some b) => match S.get E b with
    | some (.map es _) => some es
    | _ => none
  | _ => none

def afind (E : Env) (key : TypeId) (k : Value) (es : List MapEntry) : Option (Option (Nat × Value)) :=
  match E.P.underlying key with
  | some kd => if keyD kd then Instr.findNow kd k es 0 else none
  | none => none

def azero (E : Env) (t : TypeId) : Option Value :=
  match (E.P.info? t).bind (·.zero) with
  | some z => if pf z then some z else none
  | none => none

def alookup (E : Env) (t : TypeId) (x k : Value) (ok : Bool) (S : St) : Option Value :=
  match E.P.underlying t with
  | some (.map key elem) =>
    match amapOf E S x with
    | some es =>
      match afind E key k es with
      | some (some (_, v)) => some (if ok then .tuple #[v, .bool true] else v)
      | some none => (azero E elem).map fun z => if ok then .tuple #[z, .bool false] else z
      | none => none
    | none => none
  | _ => none

def amapUpdate (E : Env) (t : TypeId) (m k v : Value) (S : St) : Option St :=
  match E.P.underlying t, m with
  | some (.map key _), .map (some b) =>
    match S.get E b with
    | some (.map es clock) =>
      match afind E key k es with
      | some (some (i, _)) => some (S.set b (.map (es.modify i fun e => { e with key := k, val := v }) clock))
      | some none => some (S.set b (.map (es ++ [{ key := k, val := v, born := clock }]) (clock + 1)))
      | none => none
    | _ => none
  | _, _ => none

def amapEntry (E : Env) (t : TypeId) (m k : Value) (S : St) : Option (Value × St) :=
  match E.P.underlying t, m with
  | some (.map key elem), .map (some b) =>
    match S.get E b with
    | some (.map es clock) =>
      match afind E key k es with
      | some (some (i, v)) => some (.tuple #[v, goInt (((es[i]?).map (·.born)).getD 0)], S.set b (.map (es.modify i fun e => { e with key := k }) clock))
      | some none => (azero E elem).map fun z => (.tuple #[z, goInt clock], S.set b (.map (es ++ [{ key := k, val := z, born := clock }]) (clock + 1)))
      | none => none
    | _ => none
  | _, _ => none

def aentryStore (E : Env) (m s v : Value) (S : St) : Option St :=
  match m, s with
  | .map (some b), .int _ n =>
    match S.get E b with
    | some (.map es clock) =>
      match es.findIdx? (fun e => (e.born : Int) == n) with
      | some i => some (S.set b (.map (es.modify i fun e => { e with val := v }) clock))
      | none => none
    | _ => none
  | _, _ => none

def adelete (E : Env) (tys : List TypeId) (args : List Value) (S : St) : Option St :=
  match tys, args with
  | t :: _, [.map (some b), k] =>
    match E.P.underlying t, S.get E b with
    | some (.map key _), some (.map es clock) =>
      match afind E key k es with
      | some (some (i, _)) => some (S.set b (.map (es.eraseIdx i) clock))
      | some none => some (S.set b (.map es clock))
      | none => none
    | _, _ => none
  | _, _ => none

/-- Cells are written into a block, from a place on. -/
def aputCells (E : Env) (S : St) (b o : Nat) (xs : List Value) : Option St :=
  match S.get E b with
  | some (.own c e) => if xs.all (·.oneCell') = true ∧ o + xs.length ≤ c.length then some (S.set b (.own (splice c o xs) e)) else none
  | some (.opn c e (some sh)) => if xs.all (·.oneCell') = true ∧ o + xs.length ≤ c.length ∧ sh ≤ o then some (S.set b (.opn (splice c o xs) e (some sh))) else none
  | _ => none

def aclear (E : Env) (tys : List TypeId) (args : List Value) (S : St) : Option St :=
  match tys, args with
  | t :: _, [.slice none _ _] => if (E.P.underlying t).isSome then some S else none
  | t :: _, [.slice (some ⟨b, o, none⟩) n _] =>
    match E.P.underlying t with
    | some (.slice elem) =>
      if n = 0 then some S else
      match azero E elem with
      | some z => aputCells E S b o (Builtin.zeroCells z.cells n).toList
      | none => none
    | _ => none
  | _, _ => none

def acopy (E : Env) (tys : List TypeId) (args : List Value) (S : St) : Option (Value × St) :=
  match tys, args with
  | t :: _, [.slice (some ⟨b, o, none⟩) dn _, x] =>
    match E.P.underlying t, alen x with
    | some (.slice elem), some sn =>
      match E.P.info? elem with
      | some i =>
        if sn ≤ dn then
          match acellsOf E S i.size sn x with
          | some xs => if sn = 0 then some (goInt 0, S) else (aputCells E S b o xs).map fun S' => (goInt sn, S')
          | none => none
        else none
      | none => none
    | _, _ => none
  | _, _ => none

def val (S : St) (v : Option Value) : Option (Next × St) := v.map fun v => (.value v, S)

def aop (E : Env) (ρ : Operand → Value) (o : Oper) (S : St) : Option (Next × St) :=
  match o.op with
  | .move x => some (.value (ρ x), S)
  | .assign x => some (.value (ρ x), S)
  | .pick c a b => match ρ c with
    | .bool t => some (.value (if t then ρ a else ρ b), S)
    | _ => none
  | .alloc elem => match (E.P.info? elem).bind (·.zero) with
    | some z => if pf z then some (.value (ptrTo S.n), S.push (.own z.cells.toList elem)) else none
    | none => none
  | .box elem x => some (.value (ptrTo S.n), S.push (.own (ρ x).cells.toList elem))
  | .build t parts => val S (abuild E t (parts.toList.map fun p => (p.1, ρ p.2)))
  | .buildSlice t len parts => abuildSlice E t len (parts.toList.map fun p => (p.1, ρ p.2)) S
  | .load t a => val S (aload E S t (ρ a))
  | .store t a x => (astore E S t (ρ a) (ρ x)).map fun S' => (.skip, S')
  | .nilCheck x => match ρ x with
    | .pointer (some a) => some (.value (.pointer (some a)), S)
    | .iface t v => some (.value (.iface t v), S)
    | _ => none
  | .binOp op t x y _ => if allPf ρ o then apure E ρ o S else aeqOp E op t (ρ x) (ρ y) S
  | .makeInterface t x => val S (amakeInterface E t (ρ x))
  | .makeFunc fn first captured => match fn with
    | .yield _ => none
    | _ => some (.value (.func fn (first.map ρ) (captured.map ρ)), S)
  | .makeSlice t l c => amakeSlice E t (ρ l) (ρ c) S
  | .slice t x lo hi mx => if allPf ρ o then apure E ρ o S else val S (aslice E S t (ρ x) (lo.map ρ) (hi.map ρ) (mx.map ρ))
  | .fieldAddr t x f => val S (afieldAddr E t (ρ x) f)
  | .field t x f => val S (afield E t (ρ x) f)
  | .indexAddr t x i => val S (aindexAddr E t (ρ x) (ρ i))
  | .index t x i => if allPf ρ o then apure E ρ o S else val S (aindex E t (ρ x) (ρ i))
  | .range t x => match ρ x, E.P.underlying t with
    | .string s, some .string => some (.value (ptrTo S.n), S.push (.iter s 0))
    | _, _ => none
  | .next it isString => if isString then anext E (ρ it) S else none
  | .typeAssert x _ asserted ok => if allPf ρ o then apure E ρ o S else val S (atypeAssert E (ρ x) asserted ok)
  | .extract t ix => val S (aextract (ρ t) ix)
  | .convert src dst x =>
    match E.P.underlying dst, ρ x with
    | some (.slice _), .string _ => aconvert E src dst (ρ x) S
    | _, .pointer (some _) => aunsafePtr E src dst (ρ x) S
    | _, _ => if allPf ρ o then apure E ρ o S else aconvert E src dst (ρ x) S
  | .call c => match c.callee with
    | .builtin .append => (aappend E c.argTypes.toList (c.args.toList.map ρ) S).map fun r => (.value r.1, r.2)
    | .builtin .len => if allPf ρ o then apure E ρ o S else val S (alenOp E c.argTypes.toList (c.args.toList.map ρ))
    | .builtin .unsafeSliceData => if allPf ρ o then apure E ρ o S else val S (asliceData (c.args.toList.map ρ))
    | .builtin .unsafeString => if allPf ρ o then apure E ρ o S else aunsafeString E c.argTypes.toList (c.args.toList.map ρ) S
    | .builtin .clear => (aclear E c.argTypes.toList (c.args.toList.map ρ) S).map fun S' => (.value (.tuple #[]), S')
    | .builtin .copy => (acopy E c.argTypes.toList (c.args.toList.map ρ) S).map fun r => (.value r.1, r.2)
    | .builtin .delete => (adelete E c.argTypes.toList (c.args.toList.map ρ) S).map fun S' => (.value (.tuple #[]), S')
    | .builtin _ => apure E ρ o S
    | .value f => acallee E ρ o (ρ f) (c.args.toList.map ρ) S
    | .invoke r m => (ainvoke E (ρ r) m (c.args.toList.map ρ)).map fun nx => (nx, S)
  | .makeMap _ none => some (.value (.map (some S.n)), S.push (.map [] 0))
  | .lookup t m k ok => val S (alookup E t (ρ m) (ρ k) ok S)
  | .mapUpdate t m k x => (amapUpdate E t (ρ m) (ρ k) (ρ x) S).map fun S' => (.skip, S')
  | .insert t m k x => (amapUpdate E t (ρ m) (ρ k) (ρ x) S).map fun S' => (.skip, S')
  | .mapEntry t m k => (amapEntry E t (ρ m) (ρ k) S).map fun r => (.value r.1, r.2)
  | .entryStore _ m s x => (aentryStore E (ρ m) (ρ s) (ρ x) S).map fun S' => (.skip, S')
  | _ => apure E ρ o S

inductive AExit where
  | normal
  | exit (id : Nat)
  | ret

def ayielded (ops : Array Oper) (t : List Value) (j : Nat) : Option Bool :=
  match ((ops[j]?).bind (·.dst)).bind (t[·]?) with
  | some (.bool b) => some b
  | _ => none

def aput (t : List Value) (dst : Option Tmp) (v : Value) : List Value :=
  match dst with
  | some d => t.set d v
  | none => t

def constOk (E : Env) : Operand → Bool
  | .const v => pf v
  | .global g => (E.glob g).isSome
  | _ => true

def opOk (E : Env) (o : Oper) : Bool := o.op.operands.toList.all (constOk E)

def aoper (E : Env) (call : FuncId → List Value → St → Option (Value × St)) (ops : Array Oper) (o : Oper) (t : List Value) (S : St) : Option (Value × St) :=
  if Region.wanted o (ayielded ops t) then
    if opOk E o then
      match aop E (aeval t) o S with
      | some (.value v, S1) => some (v, S1)
      | some (.skip, S1) => some (undef, S1)
      | some (.enter f args, S1) => call f args.toList S1
      | _ => none
    else none
  else some (undef, S)

def aops (E : Env) (call : FuncId → List Value → St → Option (Value × St)) (ops : Array Oper) : List Oper → List Value → St → Option (List Value × St)
  | [], t, S => some (t, S)
  | o :: rest, t, S =>
    match aoper E call ops o t S with
    | some (v, S1) => aops E call ops rest (aput t o.dst v) S1
    | none => none

/-- What an operation gives that looks at its operands alone. -/
def aindep (E : Env) (ρ : Operand → Value) (o : Oper) : Option Value :=
  match o.op with
  | .move x => some (ρ x)
  | .assign x => some (ρ x)
  | .pick c a b => match ρ c with
    | .bool t => some (if t then ρ a else ρ b)
    | _ => none
  | .nilCheck x => match ρ x with
    | .pointer (some a) => some (.pointer (some a))
    | .iface t v => some (.iface t v)
    | _ => none
  | .fieldAddr t x f => afieldAddr E t (ρ x) f
  | .field t x f => afield E t (ρ x) f
  | .indexAddr t x i => aindexAddr E t (ρ x) (ρ i)
  | .extract t ix => aextract (ρ t) ix
  | .makeInterface t x => amakeInterface E t (ρ x)
  | .call c => match c.callee with
    | .builtin .len => if allPf ρ o then none else alenOp E c.argTypes.toList (c.args.toList.map ρ)
    | _ => none
  | _ => none

/-- Not asked for; or an operation that looks at its operands alone. -/
def astill (E : Env) (ops : Array Oper) (o : Oper) (t : List Value) : Bool := !(Region.wanted o (ayielded ops t)) || (aindep E (aeval t) o).isSome

/-- Something free, read out of what was there when the region began. -/
def aread (n0 : Nat) (o : Oper) (t : List Value) (v : Value) : Bool :=
  match o.op with
  | .load _ a => match aeval t a with
    | .pointer (some ⟨b, _, none⟩) => decide (b < n0) && pf v
    | _ => false
  | _ => false

/-- An append to a row that was there when the region began, at its very end. -/
def atip (E : Env) (n0 : Nat) (o : Oper) (t : List Value) (S : St) : Bool :=
  match o.op with
  | .call c => match c.callee, c.args.toList with
    | .builtin .append, [s, _] => match aeval t s with
      | .slice (some ⟨b, off, none⟩) len cap => decide (b < n0) && cap == OPEN && (match S.get E b with
        | some (.opn cc e _) => off + len * E.P.cellsOf e == cc.length
        | _ => false)
      | _ => false
    | _, _ => false
  | _ => false

/-- What an operation of a region did: nothing to memory (0), something new alone (1; out of nothing but free things: 4; it read something free: 5), something to what was there (2; it made a row grow: 3). -/
def aclsD (E : Env) (n0 : Nat) (ops : Array Oper) (o : Oper) (t : List Value) (v : Value) (S S1 : St) : Nat :=
  if S.n ≤ S1.low then
    (if ((allPf (aeval t) o && pf v) || astill E ops o t) && S1.n == S.n then 0 else if allPf (aeval t) o then 4 else if aread n0 o t v && S1.n == S.n then 5 else 1)
  else if atip E n0 o t S then 3 else 2

/-- A region whose order is open, in the order of the text; and what each operation did. -/
def aopsD (E : Env) (call : FuncId → List Value → St → Option (Value × St)) (n0 : Nat) (ops : Array Oper) : List Oper → List Value → St → Option (List Nat × List Value × St)
  | [], t, S => some ([], t, S)
  | o :: rest, t, S =>
    match aoper E call ops o t ⟨S.n, S.h, S.n⟩ with
    | some (v, S1) =>
      match aopsD E call n0 ops rest (aput t o.dst v) ⟨S1.n, S1.h, Nat.min S.low S1.low⟩ with
      | some (cs, t2, S2) => some (aclsD E n0 ops o t v S S1 :: cs, t2, S2)
      | none => none
    | none => none

def comparable (b : Array Nat) (i j : Nat) : Bool := if i < j then (b.getD j 0).testBit i else if j < i then (b.getD i 0).testBit j else true

def namesOf (ops : Array Oper) (o : Oper) : List Tmp := o.dst.toList ++ o.looksAt ops

/-- What is asked of a region whose order is open: edges go back; who writes a temporary stands before or behind whoever names it. -/
def regOk (ops : Array Oper) : Bool :=
  let b := Region.before ops
  (List.range ops.size).all fun j =>
    match ops[j]? with
    | none => false
    | some oj =>
      (oj.after.toList.all fun e => !Region.binds .any e || decide (e.on < j)) &&
      (List.range ops.size).all fun i =>
        match ops[i]? with
        | none => false
        | some oi => comparable b i j || (match oi.dst with | some d => !(namesOf ops oj).contains d | none => true)

def codeOk : Code → Bool
  | .region _ ops draw => !draw || regOk ops
  | .seq a b => codeOk a && codeOk b
  | .cond _ a b => codeOk a && codeOk b
  | .block _ b => codeOk b
  | .loop b => codeOk b
  | _ => true

def okc (c : Nat) : Bool := c != 2 && c != 3

/-- Whatever wrote to what was there stands before or behind each operation that did more than nothing; what made a row grow, before or behind each one but those that read or make what is free. -/
def aordered (ops : Array Oper) (cs : List Nat) : Bool :=
  if cs.all okc then true
  else
    let b := Region.before ops
    cs.zipIdx.all fun x => okc x.1 || cs.zipIdx.all fun y => y.1 == 0 || (x.1 == 3 && (y.1 == 4 || y.1 == 5)) || comparable b x.2 y.2

def aresult (E : Env) (t : List Value) (S : St) : ResultVar → Option Value
  | .tmp i => some ((t[i]?).getD undef)
  | .cell a ty => aload E S ty ((t[a]?).getD undef)

def aresults (E : Env) (t : List Value) (S : St) : List ResultVar → Option (List Value)
  | [] => some []
  | r :: rs => match aresult E t S r, aresults E t S rs with
    | some v, some vs => some (v :: vs)
    | _, _ => none

def tupled : List Value → Value
  | [v] => v
  | l => .tuple ⟨l⟩

mutual
def acode (E : Env) : Nat → Code → List Value → St → Option (AExit × List Value × St)
  | 0, _, _, _ => none
  | f + 1, c, t, S =>
    match c with
    | .skip | .label _ => some (.normal, t, S)
    | .region _ ops draw =>
      if draw then
        match aopsD E (acall E f) S.n ops ops.toList t S with
        | some (cs, t1, S1) => if aordered ops cs then some (.normal, t1, S1) else none
        | none => none
      else
        match aops E (acall E f) ops ops.toList t S with
        | some (t1, S1) => some (.normal, t1, S1)
        | none => none
    | .seq x y =>
      match acode E f x t S with
      | some (.normal, t1, S1) => acode E f y t1 S1
      | r => r
    | .cond c x y =>
      match aeval t c with
      | .bool true => acode E f x t S
      | .bool false => acode E f y t S
      | _ => none
    | .block id b =>
      match acode E f b t S with
      | some (.exit i, t1, S1) => if i = id then some (.normal, t1, S1) else some (.exit i, t1, S1)
      | r => r
    | .loop b =>
      match acode E f b t S with
      | some (.normal, t1, S1) => acode E f (.loop b) t1 S1
      | r => r
    | .exit id => some (.exit id, t, S)
    | .ret => some (.ret, t, S)
    | _ => none
def acall (E : Env) : Nat → FuncId → List Value → St → Option (Value × St)
  | 0, _, _, _ => none
  | f + 1, fid, args, S =>
    match E.memo fid args with
    | some v => some (v, S)
    | none =>
    match (if E.okf fid then E.P.funcs[fid]? else none) with
    | some fn =>
      match fn.body with
      | some c =>
        match acode E f c (args ++ List.replicate (fn.ntmps - args.length) undef) ⟨S.n, S.h, S.n⟩ with
        | some (.exit _, _, _) | none => none
        | some (_, t, S1) =>
          match aresults E t S1 fn.results.toList with
          | some vs =>
            let v := tupled vs
            if S.n ≤ S1.low ∧ pf v = true then some (v, S) else some (v, ⟨S1.n, S1.h, Nat.min S.low S1.low⟩)
          | none => none
      | none => none
    | none => none
end

end Go.Abs

namespace Go.Abs
open Go Go.RowKit

theorem prun_run {P : Program} {α : Type} {m : Sem α} : ∀ {a : α}, prun P m = some a → ∀ w, m.run P w = .ok a w := by
  induction m with
  | pure b => intro a h w; simp only [prun, Option.some.injEq] at h; subst h; rfl
  | program k ih => intro a h w; simp only [prun] at h; simpa [Sem.run] using ih _ h w
  | mark m k ih => intro a h w; simp only [prun] at h; simpa [Sem.run] using ih h w
  | choose q k ih =>
    intro a h w
    simp only [prun] at h
    split at h
    · rename_i hq; simpa [Sem.run, hq] using ih _ h w
    · cases h
  | _ => intro a h w; simp [prun] at h

def NR (φ : Phi) : Next → Next → Prop
  | .value v, .value v' => VR φ v v'
  | .skip, .skip => True
  | .enter f args, .enter f' args' => f = f' ∧ VRL φ args.toList args'.toList
  | _, _ => False

/-- What one operation of the evaluator is good for. -/
def Good (E : Env) (N0 : Nat) (φ : Phi) (S : St) (w : World) (m : Sem Next) (nx : Next) (S' : St) : Prop :=
  ∃ φ' w' nx', m.run E.P w = .ok nx' w' ∧ Step E N0 φ S w φ' S' w' ∧ NR φ' nx nx'

section
variable {E : Env} {N0 : Nat} {φ : Phi} {S : St} {w : World}

theorem Good.still (hs : Sim E N0 φ S w) {m : Sem Next} {nx nx' : Next} (hr : m.run E.P w = .ok nx' w) (hn : NR φ nx nx') : Good E N0 φ S w m nx S :=
  ⟨φ, w, nx', hr, Step.refl hs, hn⟩

theorem NR.of_pf {nx : Next} (h : pfNext nx = true) : NR φ nx nx := by
  cases nx <;> simp [pfNext] at h
  · exact VR.of_pf φ _ h
  · rename_i f args
    obtain ⟨l⟩ := args
    exact ⟨rfl, VRL.of_pfL φ l (by simpa [pfA] using h)⟩

theorem apure_good (hs : Sim E N0 φ S w) {ρ ρ' : Operand → Value} {o : Oper} (hρ : ∀ x ∈ o.op.operands, VR φ (ρ x) (ρ' x)) {nx : Next} {S' : St}
    (h : apure E ρ o S = some (nx, S')) : Good E N0 φ S w (execOp ρ' o) nx S' := by
  unfold apure at h
  split at h
  · rename_i hp
    simp only [Bool.and_eq_true, Bool.not_eq_true'] at hp
    have he : execOp ρ' o = execOp ρ o := by
      refine execOp_congr o ?_ fun x hx => ?_
      · intro cs b he
        rw [he] at hp
        simp [isSelect] at hp
      · have hpf : pf (ρ x) = true := by
          have := hp.1
          unfold allPf at this
          exact List.all_eq_true.1 this x (by simpa using hx)
        exact VR.eq_of_pf (hρ x hx) hpf
    split at h
    · rename_i nx1 hr
      split at h
      · rename_i hpf
        simp only [Option.some.injEq, Prod.mk.injEq] at h
        obtain ⟨rfl, rfl⟩ := h
        exact Good.still hs (by rw [he]; exact prun_run hr w) (NR.of_pf hpf)
      · cases h
    · cases h
  · cases h

/-- The cells of a block. -/
theorem Sim.cells (hs : Sim E N0 φ S w) {b : Nat} {l : Loc} (hφ : φ b = some l) {c : List Value} (hc : S.cells E b = some c) :
    ∃ C e fz, w.heap[l.blk]? = some (.cells C e fz) ∧ l.shift + c.length ≤ C.size ∧ VRL φ c ((C.toList.drop l.shift).take c.length) := by
  obtain ⟨x, hx, hb⟩ := hs.blk b l hφ
  unfold St.cells at hc
  rw [hx] at hc
  cases x with
  | own c1 e =>
    simp only [Option.some.injEq] at hc
    subst hc
    obtain ⟨h1, h2, h3, C, h4, h5⟩ := hb
    refine ⟨C, e, _, h4, ?_, ?_⟩
    · have := h5.length; simp at this; omega
    · have := h5.length
      have e2 : (C.toList.drop l.shift).take c1.length = C.toList := by rw [h1, List.drop_zero, this, List.take_length]
      rw [e2]
      exact h5
  | opn c1 e t =>
    simp only [Option.some.injEq] at hc
    subst hc
    obtain ⟨h1, C, fz, h2, h3, h4, h5, h6⟩ := hb
    exact ⟨C, e, fz, h2, by omega, h5⟩
  | iter s p => simp at hc
  | map es k => simp at hc

theorem cell_at {w : World} {B o : Nat} {C : Array Value} {e : TypeId} {fz : Nat × Nat} (h : w.heap[B]? = some (.cells C e fz)) {v : Value} (hv : C[o]? = some v) : w.cell? ⟨B, o, none⟩ = some v := by
  simp [World.cell?, h, hv]

theorem addr_add (B o k : Nat) : (⟨B, o, none⟩ : Addr).add k = ⟨B, o + k, none⟩ := by
  unfold Addr.add
  split <;> simp_all

/-- A row of cells that lies there, loaded. -/
theorem Sim.loadCells (hs : Sim E N0 φ S w) {b o n : Nat} {l : Loc} (hφ : φ b = some l) {c : List Value} (hc : S.cells E b = some c) (hn : o + n ≤ c.length) :
    ∃ xs : List Value, (loadCells ⟨l.blk, l.shift + o, none⟩ n).run E.P w = .ok xs.toArray w ∧ VRL φ ((c.drop o).take n) xs ∧ xs.length = n := by
  obtain ⟨C, e, fz, h1, h2, h3⟩ := hs.cells hφ hc
  have h4 := (h3.drop o).take n
  refine ⟨(List.drop o ((C.toList.drop l.shift).take c.length)).take n, ?_, h4, ?_⟩
  · have hlen : ((List.drop o ((C.toList.drop l.shift).take c.length)).take n).length = n := by
      have := h4.length
      rw [← this]
      simp
      omega
    have := run_loadCells_list (P := E.P) w ⟨l.blk, l.shift + o, none⟩ ((List.drop o ((C.toList.drop l.shift).take c.length)).take n) ?_
    · rw [hlen] at this; exact this
    · intro j v hj
      rw [addr_add]
      refine cell_at h1 ?_
      rw [List.getElem?_take] at hj
      split at hj
      · rw [List.getElem?_drop, List.getElem?_take] at hj
        split at hj
        · rw [List.getElem?_drop] at hj
          rw [← hj]
          simp [Nat.add_assoc]
        · cases hj
      · cases hj
  · rw [← h4.length]
    simp
    omega

theorem Sim.loadCell (hs : Sim E N0 φ S w) {b o : Nat} {l : Loc} (hφ : φ b = some l) {c : List Value} (hc : S.cells E b = some c) {v : Value} (hv : c[o]? = some v) :
    ∃ v', w.cell? ⟨l.blk, l.shift + o, none⟩ = some v' ∧ VR φ v v' := by
  obtain ⟨C, e, fz, h1, h2, h3⟩ := hs.cells hφ hc
  obtain ⟨v', h4, h5⟩ := h3.get hv
  refine ⟨v', cell_at h1 ?_, h5⟩
  rw [List.getElem?_take] at h4
  split at h4
  · rw [List.getElem?_drop] at h4
    simpa using h4
  · cases h4

theorem VR.ptr_inv {b o : Nat} {v : Value} (h : VR φ (.pointer (some ⟨b, o, none⟩)) v) : ∃ l, φ b = some l ∧ v = .pointer (some ⟨l.blk, l.shift + o, none⟩) := by
  cases h with
  | ptr h => exact ⟨_, h, rfl⟩

theorem run_isAgg {P : Program} {t : TypeId} {d : TypeDesc} (h : P.underlying t = some d) (w : World) : (isAgg t).run P w = .ok (aggD d) w := by
  unfold isAgg
  simp only [Sem.run_bind, run_underlying h, Result.andThen_ok]
  cases d <;> rfl

theorem run_sizeOf {P : Program} {t : TypeId} {i : TypeInfo} (h : P.info? t = some i) (w : World) : (sizeOf t).run P w = .ok i.size w := by
  simp [sizeOf, typeInfo, h]

theorem aload_good (hs : Sim E N0 φ S w) {t : TypeId} {p p' v : Value} (hp : VR φ p p') (h : aload E S t p = some v) :
    ∃ v', (Instr.loadAt t p').run E.P w = .ok v' w ∧ VR φ v v' := by
  unfold aload at h
  split at h
  · rename_i b o
    obtain ⟨l, hl, rfl⟩ := hp.ptr_inv
    split at h
    · rename_i c d i hc hd hi
      split at h
      · rename_i hagg
        split at h
        · rename_i hle
          simp only [Option.some.injEq] at h
          subst h
          obtain ⟨xs, h1, h2, h3⟩ := hs.loadCells hl hc hle
          refine ⟨.agg xs.toArray, ?_, .agg (by simpa using h2)⟩
          simp [Instr.loadAt, Instr.sureAddr, loadVar, run_isAgg hd, hagg, run_sizeOf hi, h1]
        · cases h
      · rename_i hagg
        obtain ⟨v', h1, h2⟩ := hs.loadCell hl hc h
        refine ⟨v', ?_, h2⟩
        simp only [Bool.not_eq_true] at hagg
        simp [Instr.loadAt, Instr.sureAddr, loadVar, run_isAgg hd, hagg, h1]
    · cases h
  · cases h

theorem below_setRow {N0 : Nat} {w : World} {g : Nat} (cs : Array Value) (h : N0 ≤ g) : Below N0 w (w.setRow g cs) :=
  ⟨rfl, rfl, rfl, by simp, fun k hk => setRow_other w g k cs (by omega)⟩

theorem run_store_fz (P : Program) (g o : Nat) (t : TypeId) (fz : Nat × Nat) : ∀ (vs : List Value) (i : Nat) (cur : Array Value) (w : World), w.heap[g]? = some (.cells cur t fz) →
    Unfrozen fz (o + i) (o + i + vs.length) → o + i + vs.length ≤ cur.size → (∀ v ∈ vs, v.oneCell' = true) →
    (storeCells ⟨g, o, none⟩ vs i).run P w = .ok () (w.setRow g (splice cur.toList (o + i) vs).toArray)
  | [], i, cur, w, hg, _, _, _ => by
    simp only [storeCells, splice, List.append_nil, List.length_nil, Nat.add_zero, List.take_append_drop, Array.toArray_toList]
    rw [setRow_self w g cur t fz hg]
    rfl
  | v :: rest, i, cur, w, hg, hfz, hl, h1 => by
    have hi : o + i < cur.size := by simp at hl; omega
    have hcell : w.cell? ⟨g, o + i, none⟩ = some cur[o + i] := by simp [World.cell?, hg, hi]
    have hfro : w.frozen? ⟨g, o + i, none⟩ = false := by
      have := hfz (o + i) (Nat.le_refl _) (by simp)
      obtain ⟨lo, hi'⟩ := fz
      simp only [World.frozen?, hg, Bool.and_eq_false_iff, decide_eq_false_iff_not]
      simp only at this
      omega
    have hst : (store ((⟨g, o, none⟩ : Addr).add i) v).run P w = .ok () (w.setRow g (cur.setIfInBounds (o + i) v)) := by
      rw [addr_add, run_store P w _ v _ (h1 v (by simp)), hcell]
      simp [hfro, setCell_eq_setRow w g (o + i) cur t fz v hg]
    have ih := run_store_fz P g o t fz rest (i + 1) (cur.setIfInBounds (o + i) v) (w.setRow g (cur.setIfInBounds (o + i) v)) (setRow_heap w g cur _ t _ hg)
      (fun j h2 h3 => hfz j (by omega) (by simp; omega)) (by simp at hl ⊢; omega) (fun x hx => h1 x (by simp [hx]))
    simp only [storeCells, Sem.run_bind, hst, Result.andThen_ok, ih, setRow_setRow]
    congr 3
    have e := list_seg_step cur.toList (o + i) v rest (by simp at hl ⊢; omega)
    simpa [splice, Array.toList_setIfInBounds, Nat.add_assoc] using e

theorem splice_length {c xs : List Value} {o : Nat} (h : o + xs.length ≤ c.length) : (splice c o xs).length = c.length := by
  simp [splice]; omega

theorem VRL.splice {c c' xs xs' : List Value} (o : Nat) (h : VRL φ c c') (hx : VRL φ xs xs') : VRL φ (splice c o xs) (splice c' o xs') := by
  unfold Abs.splice
  rw [← hx.length]
  exact ((h.take o).append hx).append (h.drop _)

theorem VRL.oneCells : ∀ {l l' : List Value}, VRL φ l l' → l.all (·.oneCell') = true → ∀ v ∈ l', v.oneCell' = true
  | _, _, .nil, _ => by simp
  | _, _, .cons h hl, ho => by
    simp only [List.all_cons, Bool.and_eq_true] at ho
    intro v hv
    rcases List.mem_cons.1 hv with rfl | hv
    · rw [← h.oneCell]; exact ho.1
    · exact VRL.oneCells hl ho.2 v hv

/-- Cells of a block of one's own, written. -/
theorem Sim.storeCells (hs : Sim E N0 φ S w) {b o : Nat} {l : Loc} (hφ : φ b = some l) {c : List Value} {e : TypeId} (hc : S.get E b = some (.own c e)) {xs xs' : List Value} (hx : VRL φ xs xs')
    (ho : xs.all (·.oneCell') = true) (hl : o + xs.length ≤ c.length) :
    ∃ w', (storeCells ⟨l.blk, l.shift + o, none⟩ xs').run E.P w = .ok () w' ∧ Step E N0 φ S w φ (S.set b (.own (splice c o xs) e)) w' := by
  obtain ⟨x, hx1, hb⟩ := hs.blk b l hφ
  rw [hc] at hx1
  cases hx1
  obtain ⟨h1, h2, h3, C, h4, h5⟩ := hb
  have hlen := h5.length
  have hxl := hx.length
  refine ⟨w.setRow l.blk (splice C.toList o xs').toArray, ?_, ?_⟩
  · rw [h1, Nat.zero_add]
    have := run_store_fz E.P l.blk o e (0, 0) xs' 0 C w h4 (fun i _ _ => by simp) (by simp at hlen; omega) (hx.oneCells ho)
    simpa using this
  · refine hs.turn hφ hc (fun _ _ _ => by simp) (below_setRow _ h3) (fun B hB => setRow_other _ _ _ _ hB) ?_
    refine ⟨h1, ?_, h3, (splice C.toList o xs').toArray, setRow_heap _ _ _ _ _ _ h4, ?_⟩
    · rw [splice_length hl]; exact h2
    · simpa using h5.splice o hx

theorem take_splice {c xs : List Value} {o n : Nat} (h : n ≤ o) (ho : o ≤ c.length) : (Abs.splice c o xs).take n = c.take n := by
  unfold Abs.splice
  rw [List.append_assoc, List.take_append_of_le_length (by simp; omega), List.take_take]
  congr 1
  omega

theorem drop_take_splice {c xs : List Value} {o s n : Nat} (h : s + n ≤ o) (ho : o ≤ c.length) : ((Abs.splice c o xs).drop s).take n = (c.drop s).take n := by
  have := take_splice (xs := xs) h ho
  have e : ∀ l : List Value, (l.drop s).take n = (l.take (s + n)).drop s := fun l => by rw [List.drop_take]; congr 1; omega
  rw [e, e, this]

theorem take_drop_splice {c xs : List Value} {o s n : Nat} (hn : o + xs.length ≤ n) (hc : s + o ≤ c.length) : ((Abs.splice c (s + o) xs).drop s).take n = Abs.splice ((c.drop s).take n) o xs := by
  have e1 : (Abs.splice c (s + o) xs).drop s = Abs.splice (c.drop s) o xs := by
    unfold Abs.splice
    rw [List.append_assoc, List.drop_append_of_le_length (by simp; omega), List.drop_take, List.drop_drop, List.append_assoc]
    congr 2
    · congr 1; omega
    · congr 1; omega
  rw [e1]
  have hd : o ≤ (c.drop s).length := by simp; omega
  generalize c.drop s = d at hd
  unfold Abs.splice
  rw [List.append_assoc, List.take_append, List.length_take, Nat.min_eq_left hd, List.take_append, List.take_of_length_le (l := xs) (by omega), List.take_take, List.take_take, List.drop_take, List.append_assoc, Nat.min_comm o n, Nat.sub_sub]

/-- Cells at the end of a row that grew, written: nobody else's. -/
theorem Sim.storeTip (hs : Sim E N0 φ S w) {b o : Nat} {l : Loc} (hφ : φ b = some l) {c : List Value} {e : TypeId} {sh : Nat} (hg : S.get E b = some (.opn c e (some sh))) {xs xs' : List Value} (hx : VRL φ xs xs')
    (h1 : xs.all (·.oneCell') = true) (hfit : o + xs.length ≤ c.length) (hsh : sh ≤ o) :
    ∃ w', (Go.storeCells ⟨l.blk, l.shift + o, none⟩ xs').run E.P w = .ok () w' ∧ Step E N0 φ S w φ (S.set b (.opn (Abs.splice c o xs) e (some sh))) w' := by
  obtain ⟨y, hy, hb⟩ := hs.blk b l hφ
  rw [hg] at hy
  cases hy
  obtain ⟨k0, C, fz, k1, k2, k3, k4, k5⟩ := hb
  obtain ⟨ksh, k5, k6⟩ := k5 sh rfl
  have hxl := hx.length
  have hC : C.toList.length = l.total := by simpa using k2
  have hbn := St.get_lt hs.n_eq hg
  have hbase : E.base ≤ b := by
    rcases Nat.lt_or_ge b E.base with hlt | hge
    · exfalso
      have hg' : E.glob b = some (.opn c e (some sh)) := by simpa [St.get, hlt] using hg
      obtain ⟨_, c', e', fz, h2, _⟩ := hs.glob.out b _ hg'
      simp at h2
    · exact hge
  have hget : ∀ b1, (S.set b (.opn (Abs.splice c o xs) e (some sh))).get E b1 = if b1 = b then some (.opn (Abs.splice c o xs) e (some sh)) else S.get E b1 := St.get_set hs.n_eq _ hbase hbn
  have hshare : ∀ b1 l1, φ b1 = some l1 → b1 ≠ b → l1.blk = l.blk → ∃ c1 e1, S.get E b1 = some (.opn c1 e1 none) ∧ l1.shift + c1.length ≤ l.shift + sh := by
    intro b1 l1 h hne hblk
    obtain ⟨c0, e0, t0, c1, e1, t1, g1, g2, g3⟩ := hs.excl b b1 l l1 hφ h (Ne.symm hne) hblk.symm
    rw [hg] at g1
    cases g1
    obtain ⟨rfl, g4⟩ := g3 sh rfl
    exact ⟨c1, e1, g2, g4⟩
  have hslen : (Abs.splice C.toList (l.shift + o) xs').length = l.total := by rw [splice_length (by omega)]; exact hC
  have hrow : (w.setRow l.blk (Abs.splice C.toList (l.shift + o) xs').toArray).heap[l.blk]? = some (.cells (Abs.splice C.toList (l.shift + o) xs').toArray e fz) := setRow_heap _ _ _ _ _ _ k1
  refine ⟨w.setRow l.blk (Abs.splice C.toList (l.shift + o) xs').toArray, ?_, ?_⟩
  · have := run_store_fz E.P l.blk (l.shift + o) e fz xs' 0 C w k1 (fun i g1 g2 => k6 i (by omega) (by omega)) (by omega) (hx.oneCells h1)
    simpa using this
  constructor
  · constructor
    · simp [St.set, hs.n_eq]
    · constructor
      intro g x hx
      obtain ⟨m1, c1, e1, f1, m2, m3, m4⟩ := hs.glob.out g x hx
      have := hs.gN0 g x hx
      exact ⟨m1, c1, e1, f1, m2, m3, (setRow_other _ _ _ _ (by omega)).trans m4⟩
    · exact hs.gN0
    · exact hs.gphi
    · simpa using hs.N0le
    · intro b1 l1 h
      by_cases he : b1 = b
      · subst he
        rw [hφ] at h
        cases h
        refine ⟨_, (hget b1).trans (if_pos rfl), k0, _, fz, hrow, by simpa using hslen, by rw [splice_length hfit]; exact k3, ?_, fun sh' h => by cases h; exact ⟨by rw [splice_length hfit]; exact ksh, k5, k6⟩⟩
        rw [List.toList_toArray, splice_length hfit, take_drop_splice (by omega) (by omega)]
        exact k4.splice o hx
      · obtain ⟨y, hy, hy2⟩ := hs.blk b1 l1 h
        refine ⟨y, (hget b1).trans ((if_neg he).trans hy), ?_⟩
        by_cases hblk : l1.blk = l.blk
        · obtain ⟨c1, e1, g1, g2⟩ := hshare b1 l1 h he hblk
          rw [hy] at g1
          cases g1
          obtain ⟨m0, C1, fz1, m1, m2, m3, m4, m5⟩ := hy2
          rw [hblk, k1] at m1
          cases m1
          refine ⟨m0, _, fz, by rw [hblk]; exact hrow, ?_, m3, ?_, fun sh' h => by cases h⟩
          · simp only [List.size_toArray, hslen]; omega
          · rw [List.toList_toArray, drop_take_splice (by omega) (by omega)]
            exact m4
        · exact hy2.mono (fun _ _ h => h) (setRow_other _ _ _ _ hblk)
    · intro b1 b2 l1 l2 m1 m2 hne hblk
      obtain ⟨c1, e1, t1, c2, e2, t2, g1, g2, g3⟩ := hs.excl b1 b2 l1 l2 m1 m2 hne hblk
      by_cases he1 : b1 = b
      · subst he1
        rw [hg] at g1
        cases g1
        exact ⟨_, _, _, _, _, _, (hget b1).trans (if_pos rfl), (hget b2).trans ((if_neg (Ne.symm hne)).trans g2), fun sh' h => g3 sh' h⟩
      · by_cases he2 : b2 = b
        · subst he2
          rw [hg] at g2
          cases g2
          refine ⟨_, _, _, _, _, _, (hget b1).trans ((if_neg he1).trans g1), (hget b2).trans (if_pos rfl), fun sh' h => ?_⟩
          have := (g3 sh' h).1
          cases this
        · exact ⟨_, _, _, _, _, _, (hget b1).trans ((if_neg he1).trans g1), (hget b2).trans ((if_neg he2).trans g2), g3⟩
  · exact fun _ _ h => h
  · exact fun _ _ h => .inl h
  · exact Nat.le_refl _
  · exact Nat.min_le_left _ _
  · exact below_setRow _ k5
  · intro B _ hf
    exact setRow_other _ _ _ _ (Ne.symm (hf b l hφ (Nat.min_le_right _ _)))
  · intro b1 _ hl
    have : b1 < b := Nat.lt_of_lt_of_le hl (Nat.min_le_right _ _)
    rw [hget b1, if_neg (by omega)]

theorem astore_good (hs : Sim E N0 φ S w) {t : TypeId} {p p' v v' : Value} (hp : VR φ p p') (hv : VR φ v v') {S' : St} (h : astore E S t p v = some S') :
    ∃ w', (Instr.storeAt t p' v').run E.P w = .ok () w' ∧ Step E N0 φ S w φ S' w' := by
  unfold astore at h
  split at h
  · rename_i b o
    obtain ⟨l, hl, rfl⟩ := hp.ptr_inv
    split at h
    · rename_i c e i hc hi
      simp only at h
      split at h
      · rename_i hcond
        simp only [Option.some.injEq] at h
        subst h
        obtain ⟨k1, k2, k3⟩ := hcond
        obtain ⟨w', g1, g2⟩ := hs.storeCells hl hc hv.cells k2 k3
        refine ⟨w', ?_, g2⟩
        have hsz : v'.cells.size = i.size := by rw [← k1, hv.cells.length]; simp
        simp [Instr.storeAt, Instr.sureAddr, storeVar, run_sizeOf hi, hsz, g1]
      · cases h
    · rename_i c e sh i hc hi
      simp only at h
      split at h
      · rename_i hcond
        simp only [Option.some.injEq] at h
        subst h
        obtain ⟨k1, k2, k3, k4⟩ := hcond
        obtain ⟨w', g1, g2⟩ := hs.storeTip hl hc hv.cells k2 k3 k4
        refine ⟨w', ?_, g2⟩
        have hsz : v'.cells.size = i.size := by rw [← k1, hv.cells.length]; simp
        simp [Instr.storeAt, Instr.sureAddr, storeVar, run_sizeOf hi, hsz, g1]
      · cases h
    · cases h
  · cases h

theorem below_alloc' {N0 : Nat} {w : World} (h : N0 ≤ w.heap.size) (o : Obj) : Below N0 w (w.alloc o) :=
  (Below.refl N0 w).alloc h o

theorem alloc_old {w : World} (o : Obj) (B : Nat) (h : B < w.heap.size) : (w.alloc o).heap[B]? = w.heap[B]? := by
  show (w.heap.push o)[B]? = _
  rw [Array.getElem?_push, if_neg (by omega)]

theorem alloc_new {w : World} (o : Obj) : (w.alloc o).heap[w.heap.size]? = some o := by
  show (w.heap.push o)[w.heap.size]? = _
  rw [Array.getElem?_push, if_pos rfl]

/-- A new block of one's own. -/
theorem Sim.newOwn (hs : Sim E N0 φ S w) {c c' : List Value} (e : TypeId) (hc : VRL φ c c') :
    Step E N0 φ S w (φ.put S.n ⟨w.heap.size, 0, c.length, 0⟩) (S.push (.own c e)) (w.alloc (.cells c'.toArray e)) ∧
      VR (φ.put S.n ⟨w.heap.size, 0, c.length, 0⟩) (ptrTo S.n) (.pointer (some ⟨w.heap.size, 0, none⟩)) := by
  have hext : ∀ b l', φ b = some l' → (φ.put S.n ⟨w.heap.size, 0, c.length, 0⟩) b = some l' := by
    intro b l' hb
    obtain ⟨y, hy, _⟩ := hs.blk b l' hb
    have := St.get_lt hs.n_eq hy
    unfold Phi.put
    rw [if_neg (by omega)]; exact hb
  refine ⟨hs.push _ _ (below_alloc' hs.N0le _) (fun B hB => alloc_old _ _ hB) (Nat.le_refl _) ?_, ?_⟩
  · exact ⟨rfl, rfl, hs.N0le, c'.toArray, alloc_new _, VRL.mono hext (by simpa using hc)⟩
  · exact @VR.ptr (φ.put S.n ⟨w.heap.size, 0, c.length, 0⟩) S.n 0 ⟨w.heap.size, 0, c.length, 0⟩ (by simp [Phi.put])

theorem run_newVar (P : Program) (t : TypeId) (v : Value) (w : World) : (newVar t v).run P w = .ok ⟨w.heap.size, 0, none⟩ (w.alloc (.cells v.cells t)) := by
  simp [newVar, newRow]

theorem alloc_good (hs : Sim E N0 φ S w) {elem : TypeId} {z : Value} (hz : (E.P.info? elem).bind (·.zero) = some z) (hp : pf z = true) (heap : Value) :
    ∃ φ' w', (Instr.alloc elem true heap).run E.P w = .ok (.pointer (some ⟨w.heap.size, 0, none⟩)) w' ∧ Step E N0 φ S w φ' (S.push (.own z.cells.toList elem)) w' ∧ VR φ' (ptrTo S.n) (.pointer (some ⟨w.heap.size, 0, none⟩)) := by
  cases hi : E.P.info? elem with
  | none => simp [hi] at hz
  | some i =>
    have hz' : i.zero = some z := by simpa [hi] using hz
    obtain ⟨h1, h2⟩ := hs.newOwn elem (VR.of_pf φ z hp).cells
    refine ⟨_, _, ?_, h1, h2⟩
    simp [Instr.alloc, zeroValue, typeInfo, hi, hz', run_newVar]

theorem box_good (hs : Sim E N0 φ S w) (elem : TypeId) {v v' : Value} (hv : VR φ v v') :
    ∃ φ' w', (Instr.box elem v').run E.P w = .ok (.pointer (some ⟨w.heap.size, 0, none⟩)) w' ∧ Step E N0 φ S w φ' (S.push (.own v.cells.toList elem)) w' ∧ VR φ' (ptrTo S.n) (.pointer (some ⟨w.heap.size, 0, none⟩)) := by
  obtain ⟨h1, h2⟩ := hs.newOwn elem hv.cells
  exact ⟨_, _, by simp [Instr.box, run_newVar], h1, h2⟩

end
end Go.Abs

namespace Go.Abs
open Go Go.RowKit

def OptVR (φ : Phi) : Option Value → Option Value → Prop
  | none, none => True
  | some v, some v' => VR φ v v'
  | _, _ => False

section
variable {E : Env} {N0 : Nat} {φ : Phi} {S : St} {w : World}

theorem VR.int_inv {k : IntKind} {n : Int} {v : Value} (h : VR φ (.int k n) v) : v = .int k n := by cases h; rfl
theorem VR.bool_inv {b : Bool} {v : Value} (h : VR φ (.bool b) v) : v = .bool b := by cases h; rfl
theorem VR.string_inv {s : ByteArray} {v : Value} (h : VR φ (.string s) v) : v = .string s := by cases h; rfl

theorem bnd_inv {d n : Nat} {x x' : Option Value} (hx : OptVR φ x x') (h : bnd d x = some n) : (x' = none ∧ n = d) ∨ (∃ k i, x' = some (.int k i) ∧ 0 ≤ i ∧ n = i.toNat) := by
  cases x with
  | none =>
    cases x' with
    | none => simp only [bnd, Option.some.injEq] at h; exact .inl ⟨rfl, h.symm⟩
    | some _ => exact hx.elim
  | some v =>
    cases x' with
    | none => exact hx.elim
    | some v' =>
      unfold bnd at h
      split at h
      · rename_i he; cases he
      · rename_i k i he
        cases he
        split at h
        · rename_i hi
          simp only [Option.some.injEq] at h
          refine .inr ⟨k, i, ?_, hi, h.symm⟩
          rw [VR.int_inv hx]
        · cases h
      · cases h

theorem run_sliceBound (P : Program) (w : World) {k : IntKind} {i : Int} {y : Nat} (code : BoundsCode) (h0 : 0 ≤ i) (h : i.toNat ≤ y) :
    (Instr.sliceBound (.int k i) y code).run P w = .ok i.toNat w := by
  have : i ≤ y := by omega
  simp [Instr.sliceBound, asIntOf, h0, this]

theorem run_sliceBounds (P : Program) (w : World) (isS : Bool) (len cap : Nat) {lo hi lo' hi' : Option Value} (hlo : OptVR φ lo lo') (hhi : OptVR φ hi hi') {l h : Nat}
    (h1 : bnd 0 lo = some l) (h2 : bnd len hi = some h) (hl : l ≤ h) (hc : h ≤ cap) :
    (Instr.sliceBounds isS len cap lo' hi' none).run P w = .ok (l, h, cap) w := by
  rcases bnd_inv hhi h2 with ⟨rfl, rfl⟩ | ⟨k, i, rfl, hi0, rfl⟩ <;> rcases bnd_inv hlo h1 with ⟨rfl, rfl⟩ | ⟨k', i', rfl, hi0', rfl⟩
  · simp [Instr.sliceBounds]
  · simp [Instr.sliceBounds, run_sliceBound P w _ hi0' hl]
  · simp [Instr.sliceBounds, run_sliceBound P w _ hi0 hc]
  · simp [Instr.sliceBounds, run_sliceBound P w _ hi0 hc, run_sliceBound P w _ hi0' hl]

theorem run_sliceBounds3 (P : Program) (w : World) (isS : Bool) (len cap : Nat) {lo hi mx lo' hi' mx' : Option Value} (hlo : OptVR φ lo lo') (hhi : OptVR φ hi hi') (hmx : OptVR φ mx mx') {l h m : Nat}
    (h1 : bnd 0 lo = some l) (h2 : bnd len hi = some h) (h3 : bnd 0 mx = some m) (hs : hi.isSome = true) (hm : mx.isSome = true) (hl : l ≤ h) (hc : h ≤ m) (hcm : m ≤ cap) :
    (Instr.sliceBounds isS len cap lo' hi' mx').run P w = .ok (l, h, m) w := by
  have e1 : ∃ v, hi' = some v := by cases hi <;> cases hi' <;> simp_all [OptVR]
  have e2 : ∃ v, mx' = some v := by cases mx <;> cases mx' <;> simp_all [OptVR]
  obtain ⟨v1, rfl⟩ := e1
  obtain ⟨v2, rfl⟩ := e2
  rcases bnd_inv hhi h2 with ⟨he, _⟩ | ⟨k, i, he, hi0, rfl⟩
  · cases he
  rcases bnd_inv hmx h3 with ⟨he', _⟩ | ⟨k2, i2, he', hi2, rfl⟩
  · cases he'
  cases he
  cases he'
  rcases bnd_inv hlo h1 with ⟨rfl, rfl⟩ | ⟨k', i', rfl, hi0', rfl⟩
  · simp [Instr.sliceBounds, run_sliceBound P w _ hi2 hcm, run_sliceBound P w _ hi0 hc]
  · simp [Instr.sliceBounds, run_sliceBound P w _ hi2 hcm, run_sliceBound P w _ hi0 hc, run_sliceBound P w _ hi0' hl]

theorem cellsOf_info {P : Program} {t : TypeId} {i : TypeInfo} (h : P.info? t = some i) : P.cellsOf t = i.size := by simp [Program.cellsOf, h]

theorem run_sizeOf' {P : Program} {t : TypeId} (h : (P.info? t).isSome) (w : World) : (sizeOf t).run P w = .ok (P.cellsOf t) w := by
  obtain ⟨i, hi⟩ := Option.isSome_iff_exists.1 h
  rw [cellsOf_info hi, run_sizeOf hi]

theorem addr_if (B o k : Nat) (c : Prop) [Decidable c] : (if c then (⟨B, o, none⟩ : Addr) else (⟨B, o, none⟩ : Addr).add k) = ⟨B, if c then o else o + k, none⟩ := by
  rw [addr_add]; split <;> rfl

theorem aslice_good (hs : Sim E N0 φ S w) {t : TypeId} {x x' : Value} {lo hi mx lo' hi' mx' : Option Value} (hx : VR φ x x') (hlo : OptVR φ lo lo') (hhi : OptVR φ hi hi') (hmx : OptVR φ mx mx')
    {v : Value} (h : aslice E S t x lo hi mx = some v) : ∃ v', (Instr.sliceAt t x' lo' hi' mx').run E.P w = .ok v' w ∧ VR φ v v' := by
  unfold aslice at h
  split at h
  · -- a slice
    rename_i elem b o len cap hu
    split at h
    · rename_i l hh inf h1 h2 hi3
      have hsz : (sizeOf elem).run E.P w = .ok inf.size w := run_sizeOf hi3 w
      split at h
      · -- with a third bound
        rename_i m0
        split at h
        · rename_i m h3
          split at h
          · rename_i hc
            obtain ⟨c1, c2, c3, c4, c6⟩ := hc
            simp only [Option.some.injEq] at h
            subst h
            have key : ∀ (B k cap' : Nat), m ≤ cap' → (Instr.sliceAt t (.slice (some ⟨B, k, none⟩) len cap') lo' hi' mx').run E.P w = .ok (.slice (some ⟨B, if m = l then k else k + l * inf.size, none⟩) (hh - l) (m - l)) w := by
              intro B k cap' hm
              simp only [Instr.sliceAt, Instr.slice, Sem.run_bind, run_underlying hu, Result.andThen_ok, run_sliceBounds3 E.P w true len cap' hlo hhi hmx h1 h2 h3 c6 rfl c1 c2 hm, hsz, Sem.run_pure, Option.map_some, addr_add]
              split <;> rfl
            cases hx with
            | @slc b o l0 n c hb hc =>
              refine ⟨_, key _ _ _ (by omega), ?_⟩
              by_cases hml : m = l
              · simp only [hml, if_true]; exact .slc hb (by omega)
              · simp only [hml, if_false, addA, Nat.add_assoc]; exact .slc hb (by omega)
            | @slo b o l0 n c hb hn hc =>
              have hmlen : m ≤ len := by omega
              refine ⟨_, key _ _ _ (by omega), ?_⟩
              by_cases hml : m = l
              · simp only [hml, if_true]; exact .slc hb (by omega)
              · simp only [hml, if_false, addA, Nat.add_assoc]; exact .slc hb (by omega)
            | sle => unfold OPEN EMPT at c4; omega
          · cases h
        · cases h
      · -- without
        have em : mx' = none := by cases mx' <;> simp_all [OptVR]
        subst em
        have key : ∀ (B k cap' : Nat), l ≤ hh → hh ≤ cap' → (Instr.sliceAt t (.slice (some ⟨B, k, none⟩) len cap') lo' hi' none).run E.P w = .ok (.slice (some ⟨B, if cap' = l then k else k + l * inf.size, none⟩) (hh - l) (cap' - l)) w := by
          intro B k cap' hl hm
          simp only [Instr.sliceAt, Instr.slice, Sem.run_bind, run_underlying hu, Result.andThen_ok, run_sliceBounds E.P w true len cap' hlo hhi h1 h2 hl hm, hsz, Sem.run_pure, Option.map_some, addr_add]
          split <;> rfl
        split at h
        · rename_i hcap
          subst hcap
          split at h
          · rename_i hle
            cases hx with
            | slc hb hc => omega
            | @slo b o l0 n c hb hn hc =>
              split at h
              · rename_i he
                simp only [Option.some.injEq] at h
                subst h
                refine ⟨_, key _ _ _ hle.1 (by omega), ?_⟩
                rw [he.1, Nat.sub_self]
                exact .sle
              · rename_i he
                simp only [Option.some.injEq] at h
                subst h
                refine ⟨_, key _ _ _ hle.1 (by omega), ?_⟩
                by_cases hcl : c = l
                · have hl0 : l = 0 := by omega
                  subst hl0
                  subst hcl
                  simp only [if_true, addA, Nat.zero_mul, Nat.add_zero, Nat.sub_zero]
                  exact .slo hb (by omega) (by omega)
                · simp only [hcl, if_false, addA, Nat.add_assoc]
                  refine .slo hb (by omega) ?_
                  have hesz : l0.esz = inf.size := by
                    obtain ⟨y, hy, hy2⟩ := hs.blk _ _ hb
                    have h3 := hle.2.2
                    unfold aesz at h3
                    rw [hy] at h3
                    cases y with
                    | opn c1 e1 t1 => exact hy2.1.trans (Option.some.inj h3)
                    | own _ _ => simp at h3
                    | iter _ _ => simp at h3
                    | map _ _ => simp at h3
                  rw [hesz] at hc ⊢
                  have : c * inf.size = l * inf.size + (c - l) * inf.size := by rw [← Nat.add_mul]; congr 1; omega
                  omega
          · cases h
        · split at h
          · rename_i hcap hcap2
            split at h
            · rename_i hle
              simp only [Option.some.injEq] at h
              subst h
              cases hx with
              | @slc b o l0 n c hb hc =>
                refine ⟨_, key _ _ _ hle.1 hle.2, ?_⟩
                by_cases hml : cap = l
                · simp only [hml, if_true]; exact .slc hb (by omega)
                · simp only [hml, if_false, addA, Nat.add_assoc]; exact .slc hb (by omega)
              | slo hb hn hc => exact absurd rfl hcap
              | sle => unfold OPEN EMPT at hcap2; omega
            · cases h
          · split at h
            · rename_i hcap hcap2 hE
              obtain ⟨hE1, hE2, hE3⟩ := hE
              simp only [Option.some.injEq] at h
              subst h
              cases hx with
              | slc hb hc => unfold OPEN at hc; unfold EMPT at hE1; omega
              | slo hb hn hc => exact absurd rfl hcap
              | sle =>
                rename_i a c
                refine ⟨.slice (some a) 0 c, ?_, .sle⟩
                subst hE2
                subst hE3
                have e : a.add 0 = a := by cases a; rfl
                simp only [Instr.sliceAt, Instr.slice, Sem.run_bind, run_underlying hu, Result.andThen_ok, run_sliceBounds E.P w true 0 c hlo hhi h1 h2 (Nat.le_refl _) (Nat.zero_le _), hsz, Sem.run_pure, Option.map_some, Nat.zero_mul, Nat.sub_zero, e, ite_self]
            · cases h
    · cases h
  · -- a pointer to an array
    rename_i arr b o hu
    obtain ⟨l0, hl0, rfl⟩ := hx.ptr_inv
    split at h
    · rename_i n elem ha
      have em : mx' = none := by cases mx' <;> simp_all [OptVR]
      subst em
      split at h
      · rename_i l hh inf h1 h2 hi3
        have hsz : (sizeOf elem).run E.P w = .ok inf.size w := run_sizeOf hi3 w
        split at h
        · rename_i hc
          obtain ⟨c1, c2, c3⟩ := hc
          simp only [Option.some.injEq] at h
          subst h
          refine ⟨.slice (some ⟨l0.blk, if n = l then l0.shift + o else l0.shift + o + l * inf.size, none⟩) (hh - l) (n - l), ?_, ?_⟩
          · simp only [Instr.sliceAt, Instr.slice, Sem.run_bind, run_underlying hu, run_underlying ha, Result.andThen_ok, asAddr, run_sliceBounds E.P w false n n hlo hhi h1 h2 c1 c2, hsz, Sem.run_pure, addr_add]
            split <;> rfl
          · by_cases hml : n = l
            · simp only [hml, if_true]; exact .slc hl0 (by omega)
            · simp only [hml, if_false, addA, Nat.add_assoc]; exact .slc hl0 (by omega)
        · cases h
      · cases h
    · cases h
  · rename_i n elem b o hu
    obtain ⟨l0, hl0, rfl⟩ := hx.ptr_inv
    split at h
    · have em : mx' = none := by cases mx' <;> simp_all [OptVR]
      subst em
      split at h
      · rename_i l hh inf h1 h2 hi3
        have hsz : (sizeOf elem).run E.P w = .ok inf.size w := run_sizeOf hi3 w
        split at h
        · rename_i hc
          obtain ⟨c1, c2, c3⟩ := hc
          simp only [Option.some.injEq] at h
          subst h
          refine ⟨.slice (some ⟨l0.blk, if n = l then l0.shift + o else l0.shift + o + l * inf.size, none⟩) (hh - l) (n - l), ?_, ?_⟩
          · simp only [Instr.sliceAt, Sem.run_bind, run_underlying hu, Result.andThen_ok, Instr.sureAddr, run_sliceBounds E.P w false n n hlo hhi h1 h2 c1 c2, hsz, Sem.run_pure, addr_add]
            split <;> rfl
          · by_cases hml : n = l
            · simp only [hml, if_true]; exact .slc hl0 (by omega)
            · simp only [hml, if_false, addA, Nat.add_assoc]; exact .slc hl0 (by omega)
        · cases h
      · cases h
    · cases h
  · cases h

end
end Go.Abs

namespace Go.Abs
open Go Go.RowKit

section
variable {E : Env} {N0 : Nat} {φ : Phi} {S : St} {w : World}

theorem afieldAddr_good {t : TypeId} {x x' v : Value} {f : Nat} (hx : VR φ x x') (h : afieldAddr E t x f = some v) :
    ∃ v', (Instr.fieldAt t x' f).run E.P w = .ok v' w ∧ VR φ v v' := by
  unfold afieldAddr at h
  split at h
  · rename_i fields b o hu
    obtain ⟨l, hl, rfl⟩ := hx.ptr_inv
    split at h
    · rename_i fd hf
      split at h
      · rename_i i hi
        split at h
        · cases h
        · rename_i hz
          simp only [Option.some.injEq] at h
          subst h
          refine ⟨.pointer (some ⟨l.blk, l.shift + o + fd.offset, none⟩), ?_, ?_⟩
          · simp [Instr.fieldAt, run_underlying hu, hf, Instr.sureAddr, fieldPlace, run_sizeOf hi, hz, addr_add]
          · simp only [addA, Nat.add_assoc]; exact .ptr hl
      · cases h
    · cases h
  · cases h

theorem aindexAddr_good {t : TypeId} {x x' i i' v : Value} (hx : VR φ x x') (hi : VR φ i i') (h : aindexAddr E t x i = some v) :
    ∃ v', (Instr.indexAt t x' i').run E.P w = .ok v' w ∧ VR φ v v' := by
  unfold aindexAddr at h
  split at h
  · rename_i len elem b o k n hu
    obtain ⟨l, hl, rfl⟩ := hx.ptr_inv
    cases hi.int_inv
    split at h
    · rename_i inf hinf
      split at h
      · rename_i hb
        simp only [Option.some.injEq] at h
        subst h
        refine ⟨.pointer (some ⟨l.blk, l.shift + o + n.toNat * inf.size, none⟩), ?_, ?_⟩
        · simp [Instr.indexAt, asIntOf, run_underlying hu, Instr.sureAddr, hb, run_sizeOf hinf, addr_add]
        · simp only [addA, Nat.add_assoc]; exact .ptr hl
      · cases h
    · cases h
  · rename_i elem b o len cap k n hu
    cases hi.int_inv
    split at h
    · rename_i inf hinf
      split at h
      · rename_i hb
        simp only [Option.some.injEq] at h
        subst h
        have key : ∀ (B q cap' : Nat), (Instr.indexAt t (.slice (some ⟨B, q, none⟩) len cap') (.int k n)).run E.P w = .ok (.pointer (some ⟨B, q + n.toNat * inf.size, none⟩)) w := by
          intro B q cap'
          simp [Instr.indexAt, asIntOf, run_underlying hu, hb, run_sizeOf hinf, addr_add]
        cases hx with
        | slc hl hc => exact ⟨_, key _ _ _, by simp only [addA, Nat.add_assoc]; exact .ptr hl⟩
        | slo hl hn hc => exact ⟨_, key _ _ _, by simp only [addA, Nat.add_assoc]; exact .ptr hl⟩
        | sle => omega
      · cases h
    · cases h
  · cases h

theorem run_getObj (P : Program) (w : World) (r : Nat) {o : Obj} (h : w.heap[r]? = some o) (hc : ∀ c e f, o ≠ .cells c e f) : (getObj r).run P w = .ok o w := by
  unfold getObj
  simp only [Sem.run, h]

theorem run_setObj (P : Program) (w : World) (r : Nat) {o : Obj} (h : w.heap[r]? = some o) (hc : ∀ c e f, o ≠ .cells c e f) (o' : Obj) :
    (setObj r o').run P w = .ok () { w with heap := w.heap.setIfInBounds r o' } := by
  unfold setObj
  simp only [Sem.run, h]

theorem below_setIn {N0 : Nat} {w : World} {g : Nat} (o : Obj) (h : N0 ≤ g) : Below N0 w { w with heap := w.heap.setIfInBounds g o } :=
  ⟨rfl, rfl, rfl, by simp, fun k hk => by
    show (w.heap.setIfInBounds g o)[k]? = _
    rw [Array.getElem?_setIfInBounds_ne (by omega)]⟩

theorem anext_good (hs : Sim E N0 φ S w) {it it' : Value} (hi : VR φ it it') (ty : TypeId) {nx : Next} {S' : St} (h : anext E it S = some (nx, S')) :
    ∃ w' v v', (Instr.next it' true ty).run E.P w = .ok v' w' ∧ Step E N0 φ S w φ S' w' ∧ nx = .value v ∧ VR φ v v' := by
  unfold anext at h
  split at h
  · rename_i b
    obtain ⟨l, hl, rfl⟩ := hi.ptr_inv
    split at h
    · rename_i s pos hg
      obtain ⟨x, hx, hb⟩ := hs.blk b l hl
      rw [hg] at hx
      cases hx
      obtain ⟨h1, h2, h3⟩ := hb
      have hob : ∀ c e f, Obj.stringIter s pos ≠ .cells c e f := by intros; simp
      have eo := run_getObj E.P w l.blk h3 hob
      rw [h1]
      split at h
      · rename_i hlt
        simp only [Option.some.injEq, Prod.mk.injEq] at h
        obtain ⟨rfl, rfl⟩ := h
        refine ⟨{ w with heap := w.heap.setIfInBounds l.blk (.stringIter s (pos + (Utf8.decode s pos).2)) }, _, .tuple #[.bool true, goInt pos, .int .i32 (Utf8.decode s pos).1], ?_, ?_, rfl, ?_⟩
        · simp [Instr.next, eo, hlt, run_setObj E.P w l.blk h3 hob]
        · refine hs.turn hl hg (fun _ _ _ => by simp) (below_setIn _ h2) (fun B hB => ?_) ⟨h1, h2, ?_⟩
          · show (w.heap.setIfInBounds _ _)[B]? = _
            rw [Array.getElem?_setIfInBounds_ne (Ne.symm hB)]
          · show (w.heap.setIfInBounds _ _)[l.blk]? = _
            rw [Array.getElem?_setIfInBounds_self, if_pos (Array.getElem?_eq_some_iff.1 h3).1]
        · exact VR.of_pf φ _ rfl
      · rename_i hlt
        simp only [Option.some.injEq, Prod.mk.injEq] at h
        obtain ⟨rfl, rfl⟩ := h
        exact ⟨w, _, .tuple #[.bool false], by simp [Instr.next, eo, hlt], Step.refl hs, rfl, VR.of_pf φ _ rfl⟩
    · cases h
  · cases h

theorem range_good (hs : Sim E N0 φ S w) {t : TypeId} (s : ByteArray) (hu : E.P.underlying t = some .string) :
    ∃ φ' w', (Instr.range t (.string s)).run E.P w = .ok (.pointer (some ⟨w.heap.size, 0, none⟩)) w' ∧ Step E N0 φ S w φ' (S.push (.iter s 0)) w' ∧ VR φ' (ptrTo S.n) (.pointer (some ⟨w.heap.size, 0, none⟩)) := by
  refine ⟨φ.put S.n ⟨w.heap.size, 0, 0, 0⟩, w.alloc (.stringIter s 0), by simp [Instr.range, run_underlying hu], ?_, ?_⟩
  · exact hs.push _ _ (below_alloc' hs.N0le _) (fun B hB => alloc_old _ _ hB) (Nat.le_refl _) ⟨rfl, hs.N0le, alloc_new _⟩
  · exact @VR.ptr (φ.put S.n ⟨w.heap.size, 0, 0, 0⟩) S.n 0 ⟨w.heap.size, 0, 0, 0⟩ (by simp [Phi.put])

/-! ### composite values -/
theorem VRL.fold (off : Nat) : ∀ {vs vs' : List (Value × Nat)} {cs cs' : Array Value}, (∀ i : Nat, ∀ x x' : Value × Nat, vs[i]? = some x → vs'[i]? = some x' → x.2 = x'.2 ∧ VR φ x.1 x'.1) → vs.length = vs'.length →
    VRL φ cs.toList cs'.toList → VRL φ (vs.foldl (fun cs (c, j) => cs.setIfInBounds (off + j) c) cs).toList (vs'.foldl (fun cs (c, j) => cs.setIfInBounds (off + j) c) cs').toList
  | [], [], _, _, _, _, h => h
  | [], _ :: _, _, _, _, hl, _ => by simp at hl
  | _ :: _, [], _, _, _, hl, _ => by simp at hl
  | x :: vs, x' :: vs', cs, cs', hv, hl, h => by
    obtain ⟨e, hx⟩ := hv 0 x x' (by simp) (by simp)
    simp only [List.foldl_cons]
    refine VRL.fold off (fun i y y' hy hy' => hv (i + 1) y y' (by simpa using hy) (by simpa using hy')) (by simpa using hl) ?_
    rw [e]
    simpa using h.set (off + x'.2) hx

theorem VRL.zip {l l' : List Value} (h : VRL φ l l') : ∀ i : Nat, ∀ x x' : Value × Nat, l.zipIdx[i]? = some x → l'.zipIdx[i]? = some x' → x.2 = x'.2 ∧ VR φ x.1 x'.1 := by
  intro i x x' hx hx'
  simp only [List.getElem?_zipIdx, Option.map_eq_some_iff] at hx hx'
  obtain ⟨a, ha, rfl⟩ := hx
  obtain ⟨a', ha', rfl⟩ := hx'
  obtain ⟨b, hb, hv⟩ := h.get ha
  rw [ha'] at hb
  cases hb
  exact ⟨rfl, hv⟩

def PartsR (φ : Phi) (ps ps' : List (Nat × Value)) : Prop := ps.length = ps'.length ∧ ∀ i : Nat, ∀ x x' : Nat × Value, ps[i]? = some x → ps'[i]? = some x' → x.1 = x'.1 ∧ VR φ x.2 x'.2

theorem fill_good {place : Nat → Option (Nat × Nat)} : ∀ {ps ps' : List (Nat × Value)} {cs cs' r : Array Value}, PartsR φ ps ps' → VRL φ cs.toList cs'.toList → Instr.fill place cs ps = some r →
    ∃ r', Instr.fill place cs' ps' = some r' ∧ VRL φ r.toList r'.toList
  | [], ps', cs, cs', r, hp, hc, h => by
    have : ps' = [] := by have := hp.1; simpa using this.symm
    subst this
    simp only [Instr.fill, Option.some.injEq] at h
    subst h
    exact ⟨cs', rfl, hc⟩
  | (k, v) :: ps, ps', cs, cs', r, hp, hc, h => by
    cases ps' with
    | nil => have := hp.1; simp at this
    | cons y ps' =>
      obtain ⟨k', v'⟩ := y
      obtain ⟨e, hv⟩ := hp.2 0 (k, v) (k', v') (by simp) (by simp)
      simp only at e hv
      subst e
      have hcells := hv.cells
      have hsz : v.cells.size = v'.cells.size := by simpa using hcells.length
      have hcs : cs.size = cs'.size := by simpa using hc.length
      simp only [Instr.fill] at h ⊢
      split at h
      · cases h
      · rename_i off size hpl
        rw [← hsz, ← hcs]
        split at h
        · cases h
        · rename_i hcond
          rw [if_neg hcond]
          refine fill_good ⟨by have := hp.1; simpa using this, fun i x x' hx hx' => hp.2 (i + 1) x x' (by simpa using hx) (by simpa using hx')⟩ ?_ h
          rw [← Array.foldl_toList, ← Array.foldl_toList, Array.toList_zipIdx, Array.toList_zipIdx]
          exact VRL.fold off hcells.zip (by simpa using hsz) hc

end
end Go.Abs

namespace Go.Abs
open Go Go.RowKit

section
variable {E : Env} {N0 : Nat} {φ : Phi} {S : St} {w : World}

theorem pfL_iff : ∀ {l : List Value}, pfL l = true ↔ ∀ v ∈ l, pf v = true
  | [] => by simp [pfL]
  | v :: l => by simp [pfL, pfL_iff (l := l)]

theorem pfA_iff {a : Array Value} : pfA a = true ↔ ∀ v ∈ a.toList, pf v = true := by
  obtain ⟨l⟩ := a
  simp [pfA, pfL_iff]

theorem pf_init {zero : Array Value} (h : pfA zero = true) (n : Nat) : pfL (initCells zero n).toList = true := by
  rw [pfL_iff]
  intro v hv
  unfold initCells at hv
  simp only [Array.toList_map, List.mem_map] at hv
  obtain ⟨i, _, rfl⟩ := hv
  rw [getElem!_def]
  split
  · rename_i e he
    exact pfA_iff.1 h _ (by simpa using Array.mem_of_getElem? he)
  · rfl

theorem Phi.put_self (φ : Phi) (b : Nat) (l : Loc) : (φ.put b l) b = some l := by simp [Phi.put]

theorem pf_cells {z : Value} (h : pf z = true) : pfA z.cells = true := by
  cases z <;> simp_all [Value.cells, pf, pfA, pfL]

theorem abuildSlice_good (hs : Sim E N0 φ S w) {t : TypeId} {len : Nat} {ps ps' : List (Nat × Value)} (hp : PartsR φ ps ps') {nx : Next} {S' : St} (h : abuildSlice E t len ps S = some (nx, S')) :
    ∃ φ' w' v v', (Instr.buildSlice t len ps'.toArray).run E.P w = .ok v' w' ∧ Step E N0 φ S w φ' S' w' ∧ nx = .value v ∧ VR φ' v v' := by
  unfold abuildSlice at h
  split at h
  · rename_i elem hu
    split at h
    · rename_i i hi
      split at h
      · rename_i hle
        split at h
        · rename_i zero hz
          split at h
          · rename_i hpz
            split at h
            · rename_i cells hf
              simp only [Option.some.injEq, Prod.mk.injEq] at h
              obtain ⟨rfl, rfl⟩ := h
              obtain ⟨cells', hf', hc'⟩ := fill_good hp (VRL.of_pfL φ _ (pf_init hpz (len * i.size))) hf
              obtain ⟨h1, h2⟩ := hs.newOwn elem hc'
              refine ⟨_, _, _, .slice (some ⟨w.heap.size, 0, none⟩) len len, ?_, h1, rfl, ?_⟩
              · unfold initCells at hf'
                simp only [Instr.buildSlice, Sem.run_bind, run_underlying hu, Result.andThen_ok, run_sizeOf hi]
                rw [if_neg (by omega)]
                split at hz
                · rename_i h0
                  simp only [Option.some.injEq] at hz
                  subst hz
                  simp [h0] at hf' ⊢
                  simp [hf', newRow]
                · rename_i h0
                  cases hzz : i.zero with
                  | none => simp [hzz] at hz
                  | some z =>
                    simp only [hzz, Option.map_some, Option.some.injEq] at hz
                    subst hz
                    simp [h0, zeroValue, typeInfo, hi, hzz, hf', newRow]
              · exact @VR.slc _ S.n 0 ⟨w.heap.size, 0, cells.toList.length, 0⟩ len len (Phi.put_self _ _ _) hle.2
            · cases h
          · cases h
        · cases h
      · cases h
    · cases h
  · cases h

end
end Go.Abs

namespace Go.Abs
open Go Go.RowKit

theorem growBy_le (n : Nat) : ∀ (r c : Nat), c ≤ n + (n + 768) / 4 → Builtin.growBy n r c ≤ n + (n + 768) / 4
  | 0, c, h => h
  | r + 1, c, h => by
    unfold Builtin.growBy
    split
    · exact h
    · exact growBy_le n r _ (by omega)

theorem nextslicecap_le {need old : Nat} (h : old < need) : Builtin.nextslicecap need old ≤ 2 * need + 2048 := by
  unfold Builtin.nextslicecap
  split
  · omega
  · split
    · omega
    · have := growBy_le need 4 old (by omega)
      omega

theorem run_lenOf {P : Program} {x : Value} {n : Nat} (h : alen x = some n) (w : World) : (Builtin.lenOf x).run P w = .ok n w := by
  cases x <;> simp [alen] at h
  · subst h; rfl
  · subst h; rfl

theorem run_append_new {P : Program} (w : World) {sT xT ty elem : TypeId} {i : TypeInfo} {z : Value} {d : TypeDesc} (hs : P.underlying sT = some (.slice elem)) (hx : P.underlying xT = some d) (hd : ∀ k, d ≠ .int k)
    (hi : P.info? elem = some i) (hz : i.zero = some z) {base : Option Addr} {sLen sCap n : Nat} {x : Value} {old new : Array Value} (hn : alen x = some n) (hgrow : sCap < sLen + n)
    (hsmall : (2 * (sLen + n) + 2048) * i.bytes ≤ 2 ^ 47) (h62 : sLen + n ≤ 2 ^ 62)
    (hold : (Builtin.firstCells i.size sLen (.slice base sLen sCap)).run P w.drew = .ok old w.drew) (hnew : (Builtin.firstCells i.size n x).run P w.drew = .ok new w.drew) :
    (Builtin.append_ #[sT, xT] ty #[.slice base sLen sCap, x]).run P w =
      .ok (.slice (some ⟨w.heap.size, 0, none⟩) (sLen + n) (grownCap w (sLen + n) sCap elem)) (w.drew.alloc (.cells (old ++ new ++ Builtin.zeroCells z.cells (grownCap w (sLen + n) sCap elem - (sLen + n))) elem)) := by
  have hg' : ¬ (sLen + n ≤ sCap) := by omega
  have h63' : ¬ (9223372036854775807 < ((sLen : Int) + (n : Int))) := by omega
  have h48' : ¬ (281474976710656 < Builtin.nextslicecap (sLen + n) sCap * i.bytes) := by
    have e1 := nextslicecap_le hgrow
    have e2 : Builtin.nextslicecap (sLen + n) sCap * i.bytes ≤ (2 * (sLen + n) + 2048) * i.bytes := Nat.mul_le_mul_right _ e1
    omega
  have hl : (Builtin.lenOf x).run P w = .ok n w := run_lenOf hn w
  have e0 : (#[sT, xT] : Array TypeId)[0]? = some sT := rfl
  have e1 : (#[sT, xT] : Array TypeId)[1]? = some xT := rfl
  have e2 : (#[Value.slice base sLen sCap, x] : Array Value)[0]? = some (Value.slice base sLen sCap) := rfl
  have e3 : (#[Value.slice base sLen sCap, x] : Array Value)[1]? = some x := rfl
  unfold Builtin.append_
  rw [e0, e1, e2, e3]
  have ht : ∀ w : World, (typeInfo elem).run P w = .ok i w := fun w => by simp [typeInfo, hi]
  have hzv : ∀ w : World, (zeroValue elem).run P w = .ok z w := fun w => by simp [zeroValue, typeInfo, hi, hz]
  have h2 : ¬ (((sLen + n : Nat) : Int) > IntKind.i64.max ∧ ((false = true) ∨ i.bytes = 0)) := by
    have : IntKind.i64.max = 9223372036854775807 := by decide
    rw [this]; omega
  have h3 : ¬ Builtin.nextslicecap (sLen + n) sCap * i.bytes > 2 ^ 48 := by omega
  have hch : (choose (.appendCap (sLen + n) sCap elem)).run P w = .ok (grownCap w (sLen + n) sCap elem) w.drew := by
    simp [Question.forced, grownCap]
  simp only [Sem.run_bind, run_underlying hs, run_underlying hx, Result.andThen_ok, run_sizeOf hi, Sem.run_pure]
  rw [if_neg (by decide)]
  simp only [Sem.run_bind, hl, Result.andThen_ok]
  rw [if_neg hg']
  simp only [Sem.run_bind, ht, Result.andThen_ok]
  rw [if_neg h2]
  simp only [Sem.run_bind, ht, Result.andThen_ok]
  rw [if_neg h3]
  simp only [Sem.run_bind, ht, Result.andThen_ok, hch, run_askRoom, hold, Bool.not_false, if_true, hnew, hzv, newRow, run_newObj, Sem.run_pure, World.alloc_eq, World.size_drew]

theorem run_append_room' {P : Program} (w : World) {sT xT ty elem : TypeId} {i : TypeInfo} {d : TypeDesc} (hs : P.underlying sT = some (.slice elem)) (hx : P.underlying xT = some d) (hd : ∀ k, d ≠ .int k)
    (hi : P.info? elem = some i) {a : Addr} {sLen sCap n : Nat} {x : Value} {new : Array Value} (hn : alen x = some n) (hroom : sLen + n ≤ sCap)
    (hnew : (Builtin.firstCells i.size n x).run P w = .ok new w) {w' : World} (hst : (storeCells (a.add (sLen * i.size)) new.toList).run P w = .ok () w') :
    (Builtin.append_ #[sT, xT] ty #[.slice (some a) sLen sCap, x]).run P w = .ok (.slice (some a) (sLen + n) sCap) w' := by
  have hl : (Builtin.lenOf x).run P w = .ok n w := run_lenOf hn w
  have e0 : (#[sT, xT] : Array TypeId)[0]? = some sT := rfl
  have e1 : (#[sT, xT] : Array TypeId)[1]? = some xT := rfl
  have e2 : (#[Value.slice (some a) sLen sCap, x] : Array Value)[0]? = some (Value.slice (some a) sLen sCap) := rfl
  have e3 : (#[Value.slice (some a) sLen sCap, x] : Array Value)[1]? = some x := rfl
  unfold Builtin.append_
  rw [e0, e1, e2, e3]
  simp only [Sem.run_bind, run_underlying hs, run_underlying hx, Result.andThen_ok, run_sizeOf hi, Sem.run_pure]
  rw [if_neg (by decide)]
  simp only [Sem.run_bind, hl, Result.andThen_ok]
  rw [if_pos hroom]
  simp only [Sem.run_bind, Bool.not_false, if_true, hnew, Result.andThen_ok, hst, Sem.run_pure]

theorem run_append_none {P : Program} (w : World) {sT xT ty elem : TypeId} {i : TypeInfo} {d : TypeDesc} (hs : P.underlying sT = some (.slice elem)) (hx : P.underlying xT = some d) (hd : ∀ k, d ≠ .int k)
    (hi : P.info? elem = some i) {x : Value} {new : Array Value} (hn : alen x = some 0) (hnew : (Builtin.firstCells i.size 0 x).run P w = .ok new w) :
    (Builtin.append_ #[sT, xT] ty #[.slice none 0 0, x]).run P w = .ok (.slice none 0 0) w := by
  have hl : (Builtin.lenOf x).run P w = .ok 0 w := run_lenOf hn w
  have e0 : (#[sT, xT] : Array TypeId)[0]? = some sT := rfl
  have e1 : (#[sT, xT] : Array TypeId)[1]? = some xT := rfl
  have e2 : (#[Value.slice none 0 0, x] : Array Value)[0]? = some (Value.slice none 0 0) := rfl
  have e3 : (#[Value.slice none 0 0, x] : Array Value)[1]? = some x := rfl
  unfold Builtin.append_
  rw [e0, e1, e2, e3]
  simp only [Sem.run_bind, run_underlying hs, run_underlying hx, Result.andThen_ok, run_sizeOf hi, Sem.run_pure]
  rw [if_neg (by decide)]
  simp only [Sem.run_bind, hl, Result.andThen_ok]
  rw [if_pos (by omega)]
  simp only [Sem.run_bind, Bool.not_false, if_true, hnew, Result.andThen_ok, Sem.run_pure]

section
variable {E : Env} {N0 : Nat} {φ : Phi} {S : St} {w : World}

theorem Sim.drew (h : Sim E N0 φ S w) : Sim E N0 φ S w.drew := ⟨h.n_eq, ⟨h.glob.out⟩, h.gN0, h.gphi, h.N0le, h.blk, h.excl⟩

/-- A new block whose cells are not written any more; behind them there may be room. -/
theorem Sim.newOpn (hs : Sim E N0 φ S w) {c : List Value} (e : TypeId) {w' : World} {C : Array Value} {fz : Nat × Nat} (hb : Below N0 w w') (hold : ∀ B, B < w.heap.size → w'.heap[B]? = w.heap[B]?)
    (hnew : w'.heap[w.heap.size]? = some (.cells C e fz)) (hC : VRL φ c (C.toList.take c.length)) (hl : c.length ≤ C.size) (hfz : Unfrozen fz 0 C.size) {sh : Nat} (hsh : sh ≤ c.length) :
    Step E N0 φ S w (φ.put S.n ⟨w.heap.size, 0, C.size, E.P.cellsOf e⟩) (S.push (.opn c e (some sh))) w' := by
  have hext : ∀ b l', φ b = some l' → (φ.put S.n ⟨w.heap.size, 0, C.size, E.P.cellsOf e⟩) b = some l' := by
    intro b l' hb
    obtain ⟨y, hy, _⟩ := hs.blk b l' hb
    have := St.get_lt hs.n_eq hy
    unfold Phi.put
    rw [if_neg (by omega)]; exact hb
  refine hs.push _ _ hb hold (Nat.le_refl _) ⟨rfl, C, fz, hnew, rfl, by simpa using hl, ?_, fun sh' hsh' => by cases hsh'; exact ⟨hsh, hs.N0le, fun i h1 h2 => hfz i (by omega) (by simpa using h2)⟩⟩
  simpa using VRL.mono hext hC

theorem Sim.owned_ge (hs : Sim E N0 φ S w) {b : Nat} {c : List Value} {e : TypeId} {sh : Nat} (hg : S.get E b = some (.opn c e (some sh))) : E.base ≤ b := by
  rcases Nat.lt_or_ge b E.base with hlt | hge
  · exfalso
    have hg' : E.glob b = some (.opn c e (some sh)) := by simpa [St.get, hlt] using hg
    obtain ⟨_, c', e', fz, h2, _⟩ := hs.glob.out b _ hg'
    simp at h2
  · exact hge

/-- A row that grows in place. -/
theorem Sim.growTip (hs : Sim E N0 φ S w) {b o : Nat} {l : Loc} (hφ : φ b = some l) {c : List Value} {e : TypeId} {sh : Nat} (hg : S.get E b = some (.opn c e (some sh))) (ho : o ≤ c.length) {xs xs' : List Value} (hx : VRL φ xs xs')
    (h1 : xs.all (·.oneCell') = true) (hfit : l.shift + c.length + xs.length ≤ l.total) :
    ∃ w', (Go.storeCells ⟨l.blk, l.shift + c.length, none⟩ xs').run E.P w = .ok () w' ∧
      Step E N0 φ S w (φ.put S.n ⟨l.blk, l.shift + o, l.total, l.esz⟩) ((S.set b (.opn c e none)).push (.opn (c.drop o ++ xs) e (some (c.length - o)))) w' := by
  obtain ⟨y, hy, hb⟩ := hs.blk b l hφ
  rw [hg] at hy
  cases hy
  obtain ⟨k0, C, fz, k1, k2, k3, k4, k5⟩ := hb
  obtain ⟨ksh, k5, k6⟩ := k5 sh rfl
  have hxl := hx.length
  have hbase := hs.owned_ge hg
  have hbn := St.get_lt hs.n_eq hg
  have hC : C.toList.length = l.total := by simpa using k2
  have hgn : (S.set b (.opn c e none)).n = E.base + (S.set b (.opn c e none)).h.length := by simp [St.set, hs.n_eq]
  have hext : ∀ b1 l1, φ b1 = some l1 → b1 < S.n := fun b1 l1 h => by
    obtain ⟨y, hy, _⟩ := hs.blk b1 l1 h
    exact St.get_lt hs.n_eq hy
  have hput : ∀ b1 l1, (φ.put S.n ⟨l.blk, l.shift + o, l.total, l.esz⟩) b1 = some l1 → (b1 = S.n ∧ l1 = ⟨l.blk, l.shift + o, l.total, l.esz⟩) ∨ (b1 ≠ S.n ∧ φ b1 = some l1) := by
    intro b1 l1 h
    unfold Phi.put at h
    split at h
    · rename_i he; exact .inl ⟨he, (Option.some.inj h).symm⟩
    · rename_i he; exact .inr ⟨he, h⟩
  have hext' : ∀ b1 l1, φ b1 = some l1 → (φ.put S.n ⟨l.blk, l.shift + o, l.total, l.esz⟩) b1 = some l1 := by
    intro b1 l1 h
    have := hext b1 l1 h
    unfold Phi.put
    rw [if_neg (by omega)]; exact h
  have hget : ∀ b1, b1 < S.n → ((S.set b (.opn c e none)).push (.opn (c.drop o ++ xs) e (some (c.length - o)))).get E b1 = if b1 = b then some (.opn c e none) else S.get E b1 := by
    intro b1 h
    rw [St.get_push_old hgn _ (by simpa [St.set] using h), St.get_set hs.n_eq _ hbase hbn]
  have hnewget : ((S.set b (.opn c e none)).push (.opn (c.drop o ++ xs) e (some (c.length - o)))).get E S.n = some (.opn (c.drop o ++ xs) e (some (c.length - o))) := St.get_push_new hgn _
  -- all that share the block end before
  have hshare : ∀ b1 l1, φ b1 = some l1 → b1 ≠ b → l1.blk = l.blk → ∃ c1 e1, S.get E b1 = some (.opn c1 e1 none) ∧ l1.shift + c1.length ≤ l.shift + c.length := by
    intro b1 l1 h hne hblk
    obtain ⟨c0, e0, t0, c1, e1, t1, g1, g2, g3⟩ := hs.excl b b1 l l1 hφ h (Ne.symm hne) hblk.symm
    rw [hg] at g1
    cases g1
    obtain ⟨rfl, g4⟩ := g3 sh rfl
    exact ⟨c1, e1, g2, by omega⟩
  refine ⟨w.setRow l.blk (splice C.toList (l.shift + c.length) xs').toArray, ?_, ?_⟩
  · have := run_store_fz E.P l.blk (l.shift + c.length) e fz xs' 0 C w k1 (fun i g1 g2 => k6 i (by omega) (by omega)) (by omega) (hx.oneCells h1)
    simpa using this
  have hrow : (w.setRow l.blk (splice C.toList (l.shift + c.length) xs').toArray).heap[l.blk]? = some (.cells (splice C.toList (l.shift + c.length) xs').toArray e fz) := setRow_heap _ _ _ _ _ _ k1
  have hslen : (splice C.toList (l.shift + c.length) xs').length = l.total := by rw [splice_length (by omega)]; exact hC
  constructor
  · constructor
    · simp [St.push, St.set, hs.n_eq]; omega
    · constructor
      intro g x hx
      obtain ⟨m1, c1, e1, f1, m2, m3, m4⟩ := hs.glob.out g x hx
      have := hs.gN0 g x hx
      exact ⟨m1, c1, e1, f1, m2, m3, (setRow_other _ _ _ _ (by omega)).trans m4⟩
    · exact hs.gN0
    · intro g c1 e1 t1 h
      exact hext' _ _ (hs.gphi g c1 e1 t1 h)
    · simpa using hs.N0le
    · intro b1 l1 h
      rcases hput b1 l1 h with ⟨rfl, rfl⟩ | ⟨hne, h⟩
      · refine ⟨_, hnewget, k0, _, fz, hrow, by simpa using hslen, ?_, ?_, fun sh' hsh' => by
          cases hsh'
          refine ⟨by simp, k5, fun i g1 g2 => k6 i (by simp at g1; omega) g2⟩⟩
        · simp; omega
        · have e1 : ((splice C.toList (l.shift + c.length) xs').drop (l.shift + o)).take (c.drop o ++ xs).length = ((C.toList.drop l.shift).take c.length).drop o ++ xs' := by
            unfold splice
            rw [List.append_assoc, List.drop_append_of_le_length (by simp; omega), ← List.append_assoc, List.take_append_of_le_length (by simp; omega)]
            rw [List.take_of_length_le (by simp; omega)]
            congr 1
            rw [List.drop_take, List.drop_take, List.drop_drop]
            congr 1
            omega
          rw [List.toList_toArray, e1]
          exact VRL.mono hext' ((k4.drop o).append hx)
      · by_cases he : b1 = b
        · subst he
          rw [hφ] at h
          cases h
          refine ⟨_, (hget b1 hbn).trans (if_pos rfl), k0, _, fz, hrow, by simpa using hslen, k3, ?_, fun sh' h => by cases h⟩
          rw [List.toList_toArray, drop_take_splice (Nat.le_refl _) (by omega)]
          exact VRL.mono hext' k4
        · obtain ⟨y, hy, hy2⟩ := hs.blk b1 l1 h
          refine ⟨y, (hget b1 (hext b1 l1 h)).trans ((if_neg he).trans hy), ?_⟩
          by_cases hblk : l1.blk = l.blk
          · obtain ⟨c1, e1, g1, g2⟩ := hshare b1 l1 h he hblk
            rw [hy] at g1
            cases g1
            obtain ⟨m0, C1, fz1, m1, m2, m3, m4, m5⟩ := hy2
            rw [hblk, k1] at m1
            cases m1
            refine ⟨m0, _, fz, by rw [hblk]; exact hrow, ?_, m3, ?_, fun sh' h => by cases h⟩
            · simp only [List.size_toArray, hslen]; omega
            · rw [List.toList_toArray, drop_take_splice (by omega) (by omega)]
              exact VRL.mono hext' m4
          · exact hy2.mono hext' (setRow_other _ _ _ _ hblk)
    · intro b1 b2 l1 l2 h1 h2 hne hblk
      rcases hput b1 l1 h1 with ⟨e1, e2⟩ | ⟨n1, m1⟩ <;> rcases hput b2 l2 h2 with ⟨e3, e4⟩ | ⟨n2, m2⟩
      · exact absurd (e1.trans e3.symm) hne
      · subst e1 e2
        by_cases he : b2 = b
        · subst he
          rw [hφ] at m2
          cases m2
          exact ⟨_, _, _, _, _, _, hnewget, (hget b2 hbn).trans (if_pos rfl), fun sh' h => by cases h; exact ⟨rfl, by simp; omega⟩⟩
        · obtain ⟨c1, e1, g1, g2⟩ := hshare b2 l2 m2 he hblk.symm
          exact ⟨_, _, _, _, _, _, hnewget, (hget b2 (hext b2 l2 m2)).trans ((if_neg he).trans g1), fun sh' h => by cases h; exact ⟨rfl, by simp; omega⟩⟩
      · subst e3 e4
        by_cases he : b1 = b
        · subst he
          exact ⟨_, _, _, _, _, _, (hget b1 hbn).trans (if_pos rfl), hnewget, fun sh' h => by cases h⟩
        · obtain ⟨c1, e1, g1, g2⟩ := hshare b1 l1 m1 he hblk
          exact ⟨_, _, _, _, _, _, (hget b1 (hext b1 l1 m1)).trans ((if_neg he).trans g1), hnewget, fun sh' h => by cases h⟩
      · obtain ⟨c1, e1, t1, c2, e2, t2, g1, g2, g3⟩ := hs.excl b1 b2 l1 l2 m1 m2 hne hblk
        by_cases he1 : b1 = b
        · subst he1
          rw [hg] at g1
          cases g1
          exact ⟨_, _, _, _, _, _, (hget b1 hbn).trans (if_pos rfl), (hget b2 (hext b2 l2 m2)).trans ((if_neg (Ne.symm hne)).trans g2), fun sh' h => by cases h⟩
        · by_cases he2 : b2 = b
          · subst he2
            rw [hg] at g2
            cases g2
            refine ⟨_, _, _, _, _, _, (hget b1 (hext b1 l1 m1)).trans ((if_neg he1).trans g1), (hget b2 hbn).trans (if_pos rfl), fun sh' h => ?_⟩
            have := (g3 sh' h).1
            cases this
          · exact ⟨_, _, _, _, _, _, (hget b1 (hext b1 l1 m1)).trans ((if_neg he1).trans g1), (hget b2 (hext b2 l2 m2)).trans ((if_neg he2).trans g2), g3⟩
  · exact hext'
  · intro b1 l1 h
    rcases hput b1 l1 h with ⟨rfl, rfl⟩ | ⟨_, h⟩
    · exact .inr ⟨Nat.le_refl _, .inr ⟨b, l, hφ, Nat.min_le_right _ _, rfl⟩⟩
    · exact .inl h
  · simp [St.push, St.set]
  · exact Nat.min_le_left _ _
  · exact below_setRow _ k5
  · intro B _ hf
    exact setRow_other _ _ _ _ (Ne.symm (hf b l hφ (Nat.min_le_right _ _)))
  · intro b1 h hl
    have : b1 < b := Nat.lt_of_lt_of_le hl (Nat.min_le_right _ _)
    rw [hget b1 h, if_neg (by omega)]

end
end Go.Abs

namespace Go.Abs
open Go Go.RowKit

section
variable {E : Env} {N0 : Nat} {φ : Phi} {S : St} {w : World}

theorem VR.alen {x x' : Value} (h : VR φ x x') : alen x = alen x' := by cases h <;> rfl

theorem extract_zero (s : ByteArray) (n : Nat) : (s.extract 0 n).data.toList = s.data.toList.take n := by
  simp [ByteArray.data_extract, List.extract_eq_take_drop]

theorem acells_good (hs : Sim E N0 φ S w) {x x' : Value} (hx : VR φ x x') {size n : Nat} {new : List Value} (h : acellsOf E S size n x = some new) (hn : alen x = some n) :
    ∃ new', (Builtin.firstCells size n x').run E.P w = .ok new' w ∧ VRL φ new new'.toList ∧ new.length = n * size := by
  unfold acellsOf at h
  split at h
  · simp only [Option.some.injEq] at h
    subst h
    simp only [alen, Option.some.injEq] at hn
    subst hn
    cases hx
    exact ⟨#[], by simp [Builtin.firstCells], .nil, by simp⟩
  · rename_i b o len cap
    simp only [alen, Option.some.injEq] at hn
    subst hn
    split at h
    · omega
    split at h
    · rename_i h0
      subst h0
      simp only [Option.some.injEq] at h
      subst h
      refine ⟨#[], ?_, .nil, by simp⟩
      cases hx <;> simp [Builtin.firstCells, Go.loadCells, Go.loadCellsFrom]
    · rename_i h0
      split at h
      · rename_i c hc
        split at h
        · rename_i hcond
          simp only [Option.some.injEq] at h
          subst h
          have hlen : (List.take (len * size) (List.drop o c)).length = len * size := by simp; omega
          cases hx with
          | slc hb hc1 =>
            obtain ⟨xs, h1, h2, h3⟩ := hs.loadCells hb hc hcond.1
            exact ⟨xs.toArray, by simpa [Builtin.firstCells] using h1, by simpa using h2, hlen⟩
          | slo hb hn1 hc1 =>
            obtain ⟨xs, h1, h2, h3⟩ := hs.loadCells hb hc hcond.1
            exact ⟨xs.toArray, by simpa [Builtin.firstCells] using h1, by simpa using h2, hlen⟩
          | sle => exact absurd rfl h0
        · cases h
      · cases h
  · rename_i s
    cases hx
    simp only [alen, Option.some.injEq] at hn
    subst hn
    split at h
    · rename_i hcond
      simp only [Option.some.injEq] at h
      subst h
      refine ⟨(s.extract 0 s.size).data.map fun b => .int .u8 b.toNat, by simp [Builtin.firstCells], ?_, ?_⟩
      · rw [Array.toList_map, extract_zero]
        refine VRL.of_pfL φ _ (pfL_iff.2 ?_)
        intro v hv
        simp only [List.mem_map] at hv
        obtain ⟨_, _, rfl⟩ := hv
        rfl
      · simp [hcond.1]
    · cases h
  · cases h

theorem acells_drew (hs : Sim E N0 φ S w) {x x' : Value} (hx : VR φ x x') {size n : Nat} {new : List Value} (h : acellsOf E S size n x = some new) (hn : alen x = some n) :
    ∃ new', (Builtin.firstCells size n x').run E.P w.drew = .ok new' w.drew ∧ VRL φ new new'.toList ∧ new.length = n * size := acells_good hs.drew hx h hn

theorem zeroCells_size (z : Array Value) (n : Nat) : (Builtin.zeroCells z n).size = n * z.size := by simp [Builtin.zeroCells]

theorem below_drew_alloc {N0 : Nat} {w : World} (h : N0 ≤ w.heap.size) (o : Obj) : Below N0 w (w.drew.alloc o) :=
  ((Below.refl N0 w).drew).alloc h o

/-- The tip of a row is given up; the world as it is but for the frozen range. -/
theorem Sim.shade (hs : Sim E N0 φ S w) {b : Nat} {l : Loc} (hφ : φ b = some l) {c : List Value} {e : TypeId} {sh : Nat} (hg : S.get E b = some (.opn c e (some sh))) {w' : World} (hb : Below N0 w w')
    (hold : ∀ B, B ≠ l.blk → w'.heap[B]? = w.heap[B]?) (hsame : ∀ C fz, w.heap[l.blk]? = some (.cells C e fz) → ∃ fz', w'.heap[l.blk]? = some (.cells C e fz')) :
    Step E N0 φ S w φ (S.set b (.opn c e none)) w' := by
  obtain ⟨y, hy, hb1⟩ := hs.blk b l hφ
  rw [hg] at hy
  cases hy
  obtain ⟨k0, C, fz, k1, k2, k3, k4, k5⟩ := hb1
  obtain ⟨_, k5, _⟩ := k5 sh rfl
  have hbase := hs.owned_ge hg
  have hbn := St.get_lt hs.n_eq hg
  obtain ⟨fz', hrow⟩ := hsame C fz k1
  have hget : ∀ b1, (S.set b (.opn c e none)).get E b1 = if b1 = b then some (.opn c e none) else S.get E b1 := St.get_set hs.n_eq _ hbase hbn
  have hshare : ∀ b1 l1, φ b1 = some l1 → b1 ≠ b → l1.blk = l.blk → ∃ c1 e1, S.get E b1 = some (.opn c1 e1 none) := by
    intro b1 l1 h hne hblk
    obtain ⟨c0, e0, t0, c1, e1, t1, g1, g2, g3⟩ := hs.excl b b1 l l1 hφ h (Ne.symm hne) hblk.symm
    rw [hg] at g1
    cases g1
    obtain ⟨rfl, g4⟩ := g3 sh rfl
    exact ⟨c1, e1, g2⟩
  constructor
  · constructor
    · simp [St.set, hs.n_eq]
    · constructor
      intro g x hx
      obtain ⟨m1, c1, e1, f1, m2, m3, m4⟩ := hs.glob.out g x hx
      have := hs.gN0 g x hx
      exact ⟨m1, c1, e1, f1, m2, m3, (hold _ (by omega)).trans m4⟩
    · exact hs.gN0
    · exact hs.gphi
    · exact Nat.le_trans hs.N0le hb.size
    · intro b1 l1 h
      by_cases he : b1 = b
      · subst he
        rw [hφ] at h
        cases h
        exact ⟨_, (hget b1).trans (if_pos rfl), k0, C, fz', hrow, k2, k3, k4, fun sh' h => by cases h⟩
      · obtain ⟨y, hy, hy2⟩ := hs.blk b1 l1 h
        refine ⟨y, (hget b1).trans ((if_neg he).trans hy), ?_⟩
        by_cases hblk : l1.blk = l.blk
        · obtain ⟨c1, e1, g1⟩ := hshare b1 l1 h he hblk
          rw [hy] at g1
          cases g1
          obtain ⟨m0, C1, fz1, m1, m2, m3, m4, m5⟩ := hy2
          rw [hblk, k1] at m1
          cases m1
          exact ⟨m0, C, fz', by rw [hblk]; exact hrow, m2, m3, m4, fun sh' h => by cases h⟩
        · exact hy2.mono (fun _ _ h => h) (hold _ hblk)
    · intro b1 b2 l1 l2 m1 m2 hne hblk
      obtain ⟨c1, e1, t1, c2, e2, t2, g1, g2, g3⟩ := hs.excl b1 b2 l1 l2 m1 m2 hne hblk
      by_cases he1 : b1 = b
      · subst he1
        rw [hg] at g1
        cases g1
        exact ⟨_, _, _, _, _, _, (hget b1).trans (if_pos rfl), (hget b2).trans ((if_neg (Ne.symm hne)).trans g2), fun sh' h => by cases h⟩
      · by_cases he2 : b2 = b
        · subst he2
          rw [hg] at g2
          cases g2
          refine ⟨_, _, _, _, _, _, (hget b1).trans ((if_neg he1).trans g1), (hget b2).trans (if_pos rfl), fun sh' h => ?_⟩
          have := (g3 sh' h).1
          cases this
        · exact ⟨_, _, _, _, _, _, (hget b1).trans ((if_neg he1).trans g1), (hget b2).trans ((if_neg he2).trans g2), g3⟩
  · exact fun _ _ h => h
  · exact fun _ _ h => .inl h
  · exact Nat.le_refl _
  · exact Nat.min_le_left _ _
  · exact hb
  · intro B _ hf
    exact hold B (Ne.symm (hf b l hφ (Nat.min_le_right _ _)))
  · intro b1 h hl
    have : b1 < b := Nat.lt_of_lt_of_le hl (Nat.min_le_right _ _)
    rw [hget b1, if_neg (by omega)]

/-- What an append that makes a new row is good for. -/
theorem grow_good (hs : Sim E N0 φ S w) {sT xT ty elem : TypeId} {i : TypeInfo} {z : Value} {d : TypeDesc} (hsT : E.P.underlying sT = some (.slice elem)) (hxT : E.P.underlying xT = some d) (hd : ∀ k, d ≠ .int k)
    (hi : E.P.info? elem = some i) (hz : i.zero = some z) (hzs : z.cells.size = i.size) {base : Option Addr} {len cap n : Nat} {x' : Value} {old new : List Value} (hn : alen x' = some n) (hgrow : cap < len + n)
    (hsmall : (2 * (len + n) + 2048) * i.bytes ≤ 2 ^ 47) (h62 : len + n ≤ 2 ^ 62)
    (hold : ∃ old', (Builtin.firstCells i.size len (.slice base len cap)).run E.P w.drew = .ok old' w.drew ∧ VRL φ old old'.toList ∧ old.length = len * i.size)
    (hnew : ∃ new', (Builtin.firstCells i.size n x').run E.P w.drew = .ok new' w.drew ∧ VRL φ new new'.toList ∧ new.length = n * i.size) {sh : Nat} (hsh : sh ≤ old.length) :
    ∃ φ' w' v', (Builtin.append_ #[sT, xT] ty #[.slice base len cap, x']).run E.P w = .ok v' w' ∧ Step E N0 φ S w φ' (S.push (.opn (old ++ new) elem (some sh))) w' ∧ VR φ' (.slice (some ⟨S.n, 0, none⟩) (len + n) OPEN) v' := by
  obtain ⟨old', o1, o2, o3⟩ := hold
  obtain ⟨new', n1, n2, n3⟩ := hnew
  have hrun := run_append_new (ty := ty) w hsT hxT hd hi hz hn hgrow hsmall h62 o1 n1
  have hge := grownCap_ge w (len + n) cap elem
  have hol := o2.length
  have hnl := n2.length
  simp only [Array.length_toList] at hol hnl
  have hsize : (old' ++ new' ++ Builtin.zeroCells z.cells (grownCap w (len + n) cap elem - (len + n))).size = grownCap w (len + n) cap elem * i.size := by
    simp only [Array.size_append, zeroCells_size, hzs, ← hol, ← hnl, o3, n3, ← Nat.add_mul]
    congr 1
    omega
  refine ⟨_, _, _, hrun, hs.newOpn elem (C := old' ++ new' ++ Builtin.zeroCells z.cells (grownCap w (len + n) cap elem - (len + n))) (fz := (0, 0)) (below_drew_alloc hs.N0le _) (fun B hB => alloc_old (w := w.drew) _ _ hB) (alloc_new (w := w.drew) _) ?_ ?_ (fun i _ _ => by simp) (by simp; omega), ?_⟩
  · have : (old' ++ new' ++ Builtin.zeroCells z.cells (grownCap w (len + n) cap elem - (len + n))).toList.take (old ++ new).length = old'.toList ++ new'.toList := by
      simp only [Array.toList_append]
      rw [List.take_append_of_le_length (by simp; omega), List.take_of_length_le (by simp; omega)]
    rw [this]
    exact o2.append n2
  · rw [hsize]
    simp only [List.length_append, o3, n3, ← Nat.add_mul]
    exact Nat.mul_le_mul_right _ hge
  · have hc : E.P.cellsOf elem = i.size := cellsOf_info hi
    refine @VR.slo (φ.put S.n ⟨w.heap.size, 0, _, E.P.cellsOf elem⟩) S.n 0 ⟨w.heap.size, 0, _, E.P.cellsOf elem⟩ (len + n) _ (Phi.put_self _ _ _) hge ?_
    simp only [Nat.zero_add]
    rw [hc, hsize]
    exact Nat.le_refl _

end
end Go.Abs
