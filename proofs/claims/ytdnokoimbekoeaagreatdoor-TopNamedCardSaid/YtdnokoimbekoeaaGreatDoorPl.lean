/-
  TopNamed answers true for every two slices of bytes, and leaves them as they were; conditions: the listed package variables hold what the program's text lays (tied by the card).
-/
import Derived.Lib.DecodeN
import Derived.Test.YtdnokoimbekoeaaGreatDoorEvC
import Derived.Lib.ValidAsc
import Derived.Lib.ValidLaws
import Derived.Lib.Bytealg

namespace Go.Abs
open Go

def str (l : List UInt8) : ByteArray := ⟨⟨l⟩⟩

/-- A rune below 2048, as bytes. -/
def encR (r : Nat) : List UInt8 := if r < 128 then [UInt8.ofNat r] else [UInt8.ofNat (192 + r / 64), UInt8.ofNat (128 + r % 64)]

def bs (rs : List Nat) : List UInt8 := rs.flatMap encR

theorem str_size (l : List UInt8) : (str l).size = l.length := by simp [str, ByteArray.size]

theorem str_eta (s : ByteArray) : str s.data.toList = s := by cases s; simp [str]

theorem str_get (l : List UInt8) (i : Nat) (h : i < l.length) : (str l).get! i = l[i] := by
  show (str l).data[i]! = _
  rw [getElem!_pos (str l).data i (by simpa [str] using h)]
  simp [str]

theorem encR_len (r : Nat) : (encR r).length = if r < 128 then 1 else 2 := by
  unfold encR
  split <;> rfl

theorem encR_pos (r : Nat) : 0 < (encR r).length := by
  rw [encR_len]
  split <;> omega

theorem u8 (n : Nat) (h : n < 256) : (UInt8.ofNat n).toNat = n := by
  simp [UInt8.toNat_ofNat', Nat.mod_eq_of_lt h]

theorem decode_str (pre post : List UInt8) (r : Nat) (hr : r < 2048) : Utf8.decode (str (pre ++ (encR r ++ post))) pre.length = (r, (encR r).length) := by
  rw [Lib.decode_at, str_size, encR_len]
  by_cases h : r < 128
  · have e : encR r = [UInt8.ofNat r] := by unfold encR; rw [if_pos h]
    have g0 : (str (pre ++ (encR r ++ post))).get! pre.length = UInt8.ofNat r := by
      rw [str_get _ _ (by simp [e])]
      simp [e]
    rw [g0, u8 r (by omega)]
    unfold Lib.decodeN
    rw [if_pos h, if_pos h]
  · have e : encR r = [UInt8.ofNat (192 + r / 64), UInt8.ofNat (128 + r % 64)] := by unfold encR; rw [if_neg h]
    have g0 : (str (pre ++ (encR r ++ post))).get! pre.length = UInt8.ofNat (192 + r / 64) := by
      rw [str_get _ _ (by simp [e])]
      simp [e]
    have g1 : (str (pre ++ (encR r ++ post))).get! (pre.length + 1) = UInt8.ofNat (128 + r % 64) := by
      rw [str_get _ _ (by simp [e])]
      simp [e]
    have hl : (pre ++ (encR r ++ post)).length - pre.length = 2 + post.length := by simp [e]; omega
    rw [g0, g1, u8 _ (by omega), u8 _ (by omega), hl]
    unfold Lib.decodeN
    rw [if_neg (by omega), if_pos (by omega), if_pos (by omega), if_neg h]
    congr 1
    omega

theorem bs_append (a b : List Nat) : bs (a ++ b) = bs a ++ bs b := by simp [bs]
theorem bs_cons (r : Nat) (b : List Nat) : bs (r :: b) = encR r ++ bs b := by simp [bs]
theorem bs_nil : bs [] = [] := rfl

theorem bs_split (rs : List Nat) (k : Nat) (h : k < rs.length) : bs rs = bs (rs.take k) ++ (encR rs[k] ++ bs (rs.drop (k + 1))) := by
  conv => lhs; rw [← List.take_append_drop k rs, List.drop_eq_getElem_cons h]
  rw [bs_append, bs_cons]

theorem bs_take_succ (rs : List Nat) (k : Nat) (h : k < rs.length) : bs (rs.take (k + 1)) = bs (rs.take k) ++ encR rs[k] := by
  rw [List.take_add_one, bs_append, List.getElem?_eq_getElem h]
  simp [bs]

/-- Where the k-th rune begins. -/
def at_ (rs : List Nat) (k : Nat) : Nat := (bs (rs.take k)).length

theorem at_succ (rs : List Nat) (k : Nat) (h : k < rs.length) : at_ rs (k + 1) = at_ rs k + (encR rs[k]).length := by
  unfold at_
  rw [bs_take_succ rs k h, List.length_append]

theorem at_zero (rs : List Nat) : at_ rs 0 = 0 := rfl
theorem at_all (rs : List Nat) : at_ rs rs.length = (bs rs).length := by unfold at_; rw [List.take_length]

theorem at_lt (rs : List Nat) (k : Nat) (h : k < rs.length) : at_ rs k < (bs rs).length := by
  unfold at_
  rw [bs_split rs k h]
  have := encR_pos rs[k]
  simp only [List.length_append]
  omega

theorem decode_at_rune (rs : List Nat) (hr : ∀ r ∈ rs, r < 2048) (k : Nat) (h : k < rs.length) (post : List UInt8) :
    Utf8.decode (str (bs rs ++ post)) (at_ rs k) = (rs[k], (encR rs[k]).length) := by
  unfold at_
  rw [bs_split rs k h, List.append_assoc, List.append_assoc]
  exact decode_str _ _ _ (hr _ (List.getElem_mem h))

end Go.Abs

namespace Go.Abs
open Go

theorem wrapU64 (n : Nat) (h : n < 2 ^ 64) : IntKind.u64.wrap (n : Int) = n := by
  unfold IntKind.wrap
  simp only [IntKind.bits, IntKind.signed, Bool.false_and, Bool.false_eq_true, if_false]
  omega

theorem ofInt64 (n : Nat) (h : n < 2 ^ 64) : (BitVec.ofInt 64 (n : Int)).toNat = n := by
  simp only [BitVec.toNat_ofInt]
  omega

theorem or64 (a b : Nat) (ha : a < 2 ^ 64) (hb : b < 2 ^ 64) : IntKind.u64.wrap ((BitVec.ofInt IntKind.u64.bits (a : Int) ||| BitVec.ofInt IntKind.u64.bits (b : Int)).toNat : Int) = ((a ||| b : Nat) : Int) := by
  show IntKind.u64.wrap ((BitVec.ofInt 64 (a : Int) ||| BitVec.ofInt 64 (b : Int)).toNat : Int) = _
  rw [BitVec.toNat_or, ofInt64 a ha, ofInt64 b hb, wrapU64 _ (Nat.or_lt_two_pow ha hb)]

theorem and64 (a b : Nat) (ha : a < 2 ^ 64) (hb : b < 2 ^ 64) : IntKind.u64.wrap ((BitVec.ofInt IntKind.u64.bits (a : Int) &&& BitVec.ofInt IntKind.u64.bits (b : Int)).toNat : Int) = ((a &&& b : Nat) : Int) := by
  show IntKind.u64.wrap ((BitVec.ofInt 64 (a : Int) &&& BitVec.ofInt 64 (b : Int)).toNat : Int) = _
  rw [BitVec.toNat_and, ofInt64 a ha, ofInt64 b hb, wrapU64 _ (Nat.lt_of_le_of_lt Nat.and_le_left ha)]

theorem orShl (a b k : Nat) (ha : a < 2 ^ k) (hb : b < 256) (hk : k ≤ 56) :
    IntKind.u64.wrap ((BitVec.ofInt IntKind.u64.bits (a : Int) ||| BitVec.ofInt IntKind.u64.bits (IntKind.u64.wrap ((b : Int) * 2 ^ k))).toNat : Int) = ((a + b * 2 ^ k : Nat) : Int) := by
  have h64 : (2 : Nat) ^ 64 = 256 * 2 ^ 56 := by decide
  have hp : (2 : Nat) ^ k ≤ 2 ^ 56 := Nat.pow_le_pow_right (by decide) hk
  have hb2 : b * 2 ^ k < 2 ^ 64 := by
    calc b * 2 ^ k ≤ 255 * 2 ^ k := Nat.mul_le_mul_right _ (by omega)
      _ ≤ 255 * 2 ^ 56 := Nat.mul_le_mul_left _ hp
      _ < 2 ^ 64 := by decide
  have e : ((b : Int) * 2 ^ k) = ((b * 2 ^ k : Nat) : Int) := by push_cast; rfl
  rw [e, wrapU64 _ hb2, or64 _ _ (by omega) hb2]
  congr 1
  rw [Nat.or_comm, Nat.mul_comm b, ← Nat.two_pow_add_eq_or_of_lt ha]
  omega
end Go.Abs

namespace Go.Abs
open Go

theorem decodeL_rune (r : Nat) (hr : r < 2048) (post : List UInt8) : Lib.decodeL (encR r ++ post) = (r, (encR r).length) := by
  have h := decode_str [] post r hr
  rw [List.nil_append] at h
  exact h

theorem encR_ne (r : Nat) (post : List UInt8) : encR r ++ post ≠ [] := by
  have := encR_pos r
  intro h
  have h2 : (encR r ++ post).length = 0 := by rw [h]; rfl
  rw [List.length_append] at h2
  omega

theorem valid_rune (r : Nat) (hr : r < 2048) (post : List UInt8) : Lib.validD (encR r ++ post) = Lib.validD post := by
  rw [Lib.validD_step _ (encR_ne r post), decodeL_rune r hr post]
  simp only
  rw [if_neg (by omega), List.drop_left]

theorem valid_bs (rs : List Nat) (hr : ∀ r ∈ rs, r < 2048) (post : List UInt8) : Lib.validD (bs rs ++ post) = Lib.validD post := by
  induction rs with
  | nil => rfl
  | cons r rs ih =>
    rw [bs_cons, List.append_assoc, valid_rune r (hr r (by simp)), ih (fun x hx => hr x (by simp [hx]))]

theorem valid_all (rs : List Nat) (hr : ∀ r ∈ rs, r < 2048) : Lib.validD (bs rs) = true := by
  have := valid_bs rs hr []
  rw [List.append_nil] at this
  rw [this]
  rfl
end Go.Abs

namespace Go.Abs
open Go Go.RowKit

theorem encode_r (r : Nat) (hr : r < 2048) : Utf8.encode (r : Int) = str (encR r) := by
  have hv : Utf8.valid (r : Int) = true := by
    unfold Utf8.valid
    rw [Bool.or_eq_true]
    left
    rw [Bool.and_eq_true]
    exact ⟨decide_eq_true (by omega), decide_eq_true (by omega)⟩
  unfold Utf8.encode encR
  simp only [hv, if_true, Int.toNat_natCast]
  by_cases h : r < 128
  · rw [if_pos h, if_pos h]; rfl
  · rw [if_neg h, if_pos (by omega), if_neg h]; rfl

theorem str_append (a b : List UInt8) : str (a ++ b) = str a ++ str b := by
  apply ByteArray.ext
  simp [str]

theorem fold_bs (rs : List Nat) (hr : ∀ r ∈ rs, r < 2048) : ∀ acc : List UInt8, (rs.map fun (r : Nat) => (r : Int)).foldl (fun r n => r ++ Utf8.encode n) (str acc) = str (acc ++ bs rs) := by
  induction rs with
  | nil => intro acc; simp [bs]
  | cons r rs ih =>
    intro acc
    rw [List.map_cons, List.foldl_cons, encode_r r (hr r (by simp)), ← str_append, ih (fun x hx => hr x (by simp [hx])), bs_cons, List.append_assoc]

theorem runesBytes_bs (rs : List Nat) (hr : ∀ r ∈ rs, r < 2048) : runesBytes (rs.map fun (r : Nat) => (r : Int)) = str (bs rs) := by
  have h := fold_bs rs hr []
  exact h

theorem intsOf_map (ns : List Int) : intsOf .i32 (ns.map (Value.int .i32)) = some ns := by
  induction ns with
  | nil => rfl
  | cons n ns ih => simp [intsOf, ih]
end Go.Abs

namespace Go.Abs
open Go

/-- A text cut at its points. -/
def splitB : List UInt8 → List (List UInt8)
  | [] => [[]]
  | c :: l => if c = 46 then [] :: splitB l else
    match splitB l with
    | p :: ps => (c :: p) :: ps
    | [] => [[c]]

theorem split_zero : ∀ l : List UInt8, Lib.countByte l 46 = 0 → splitB l = [l]
  | [], _ => rfl
  | c :: l, h => by
    unfold Lib.countByte at h
    rw [List.count_cons] at h
    have hc : c ≠ 46 := by
      intro he
      subst he
      simp at h
    have h2 : Lib.countByte l 46 = 0 := by unfold Lib.countByte; omega
    unfold splitB
    rw [if_neg hc, split_zero l h2]

theorem idx_split : ∀ l : List UInt8, 0 < Lib.countByte l 46 → ∃ m : Nat, Lib.indexByte l 46 = m ∧ m < l.length ∧ splitB l = l.take m :: splitB (l.drop (m + 1)) ∧ Lib.countByte (l.drop (m + 1)) 46 + 1 = Lib.countByte l 46
  | [], h => by simp [Lib.countByte] at h
  | c :: l, h => by
    by_cases hc : c = 46
    · subst hc
      refine ⟨0, rfl, by simp, by simp [splitB], ?_⟩
      simp [Lib.countByte]
    · have hcnt : Lib.countByte (c :: l) 46 = Lib.countByte l 46 := by
        unfold Lib.countByte
        rw [List.count_cons]
        simp [hc]
      rw [hcnt] at h
      obtain ⟨m, h1, h2, h3, h4⟩ := idx_split l h
      refine ⟨m + 1, ?_, by simp; omega, ?_, ?_⟩
      · unfold Lib.indexByte
        rw [h1]
        have e1 : ((c == 46) = true) = False := by simp [hc]
        have e2 : (((m : Int) == -1) = true) = False := by simp
        simp only [e1, e2, if_false]
        push_cast
        rfl
      · conv => lhs; unfold splitB
        rw [if_neg hc, h3]
        simp
      · rw [hcnt, ← h4]
        simp

theorem split_len : ∀ l : List UInt8, (splitB l).length = Lib.countByte l 46 + 1
  | [] => rfl
  | c :: l => by
    have ih := split_len l
    unfold splitB
    by_cases hc : c = 46
    · subst hc
      rw [if_pos rfl, List.length_cons, ih]
      simp [Lib.countByte]
    · rw [if_neg hc]
      have hcnt : Lib.countByte (c :: l) 46 = Lib.countByte l 46 := by
        unfold Lib.countByte
        rw [List.count_cons]
        simp [hc]
      rw [hcnt, ← ih]
      cases h : splitB l with
      | nil => rw [h] at ih; simp at ih
      | cons p ps => rfl
theorem count_le (l : List UInt8) : Lib.countByte l 46 ≤ l.length := List.count_le_length
end Go.Abs
