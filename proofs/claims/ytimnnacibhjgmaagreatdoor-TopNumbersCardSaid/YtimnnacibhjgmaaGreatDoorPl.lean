/-
  TopNumbers answers true for every list of pieces and every bytes behind, and leaves them as they were; conditions: the listed package variables hold what the program's text lays (tied by the card).
-/
import Derived.Lib.DecodeN
import Derived.Test.YtimnnacibhjgmaaGreatDoorEvC
import Derived.Lib.ValidAsc

namespace Go.Abs
open Go

def str (l : List UInt8) : ByteArray := ⟨⟨l⟩⟩

/-- A rune below 2048, as bytes. -/
def encR (r : Nat) : List UInt8 := if r < 128 then [UInt8.ofNat r] else [UInt8.ofNat (192 + r / 64), UInt8.ofNat (128 + r % 64)]

def bs (rs : List Nat) : List UInt8 := rs.flatMap encR

theorem str_size (l : List UInt8) : (str l).size = l.length := by simp [str, ByteArray.size]

theorem str_eta (s : ByteArray) : str s.data.toList = s := by cases s; simp [str]

theorem str_get (l : List UInt8) (i : Nat) (h : i < l.length) : (str l).get! i = l[i] := by
  show (str l).data[i]! = _
  rw [getElem!_pos (str l).data i (by simpa [str] using h)]
  simp [str]

theorem encR_len (r : Nat) : (encR r).length = if r < 128 then 1 else 2 := by
  unfold encR
  split <;> rfl

theorem encR_pos (r : Nat) : 0 < (encR r).length := by
  rw [encR_len]
  split <;> omega

theorem u8 (n : Nat) (h : n < 256) : (UInt8.ofNat n).toNat = n := by
  simp [UInt8.toNat_ofNat', Nat.mod_eq_of_lt h]

theorem decode_str (pre post : List UInt8) (r : Nat) (hr : r < 2048) : Utf8.decode (str (pre ++ (encR r ++ post))) pre.length = (r, (encR r).length) := by
  rw [Lib.decode_at, str_size, encR_len]
  by_cases h : r < 128
  · have e : encR r = [UInt8.ofNat r] := by unfold encR; rw [if_pos h]
    have g0 : (str (pre ++ (encR r ++ post))).get! pre.length = UInt8.ofNat r := by
      rw [str_get _ _ (by simp [e])]
      simp [e]
    rw [g0, u8 r (by omega)]
    unfold Lib.decodeN
    rw [if_pos h, if_pos h]
  · have e : encR r = [UInt8.ofNat (192 + r / 64), UInt8.ofNat (128 + r % 64)] := by unfold encR; rw [if_neg h]
    have g0 : (str (pre ++ (encR r ++ post))).get! pre.length = UInt8.ofNat (192 + r / 64) := by
      rw [str_get _ _ (by simp [e])]
      simp [e]
    have g1 : (str (pre ++ (encR r ++ post))).get! (pre.length + 1) = UInt8.ofNat (128 + r % 64) := by
      rw [str_get _ _ (by simp [e])]
      simp [e]
    have hl : (pre ++ (encR r ++ post)).length - pre.length = 2 + post.length := by simp [e]; omega
    rw [g0, g1, u8 _ (by omega), u8 _ (by omega), hl]
    unfold Lib.decodeN
    rw [if_neg (by omega), if_pos (by omega), if_pos (by omega), if_neg h]
    congr 1
    omega

theorem bs_append (a b : List Nat) : bs (a ++ b) = bs a ++ bs b := by simp [bs]
theorem bs_cons (r : Nat) (b : List Nat) : bs (r :: b) = encR r ++ bs b := by simp [bs]
theorem bs_nil : bs [] = [] := rfl

theorem bs_split (rs : List Nat) (k : Nat) (h : k < rs.length) : bs rs = bs (rs.take k) ++ (encR rs[k] ++ bs (rs.drop (k + 1))) := by
  conv => lhs; rw [← List.take_append_drop k rs, List.drop_eq_getElem_cons h]
  rw [bs_append, bs_cons]

theorem bs_take_succ (rs : List Nat) (k : Nat) (h : k < rs.length) : bs (rs.take (k + 1)) = bs (rs.take k) ++ encR rs[k] := by
  rw [List.take_add_one, bs_append, List.getElem?_eq_getElem h]
  simp [bs]

/-- Where the k-th rune begins. -/
def at_ (rs : List Nat) (k : Nat) : Nat := (bs (rs.take k)).length

theorem at_succ (rs : List Nat) (k : Nat) (h : k < rs.length) : at_ rs (k + 1) = at_ rs k + (encR rs[k]).length := by
  unfold at_
  rw [bs_take_succ rs k h, List.length_append]

theorem at_zero (rs : List Nat) : at_ rs 0 = 0 := rfl
theorem at_all (rs : List Nat) : at_ rs rs.length = (bs rs).length := by unfold at_; rw [List.take_length]

theorem at_lt (rs : List Nat) (k : Nat) (h : k < rs.length) : at_ rs k < (bs rs).length := by
  unfold at_
  rw [bs_split rs k h]
  have := encR_pos rs[k]
  simp only [List.length_append]
  omega

theorem decode_at_rune (rs : List Nat) (hr : ∀ r ∈ rs, r < 2048) (k : Nat) (h : k < rs.length) (post : List UInt8) :
    Utf8.decode (str (bs rs ++ post)) (at_ rs k) = (rs[k], (encR rs[k]).length) := by
  unfold at_
  rw [bs_split rs k h, List.append_assoc, List.append_assoc]
  exact decode_str _ _ _ (hr _ (List.getElem_mem h))

end Go.Abs

namespace Go.Abs
open Go

theorem wrapU64 (n : Nat) (h : n < 2 ^ 64) : IntKind.u64.wrap (n : Int) = n := by
  unfold IntKind.wrap
  simp only [IntKind.bits, IntKind.signed, Bool.false_and, Bool.false_eq_true, if_false]
  omega

theorem ofInt64 (n : Nat) (h : n < 2 ^ 64) : (BitVec.ofInt 64 (n : Int)).toNat = n := by
  simp only [BitVec.toNat_ofInt]
  omega

theorem or64 (a b : Nat) (ha : a < 2 ^ 64) (hb : b < 2 ^ 64) : IntKind.u64.wrap ((BitVec.ofInt IntKind.u64.bits (a : Int) ||| BitVec.ofInt IntKind.u64.bits (b : Int)).toNat : Int) = ((a ||| b : Nat) : Int) := by
  show IntKind.u64.wrap ((BitVec.ofInt 64 (a : Int) ||| BitVec.ofInt 64 (b : Int)).toNat : Int) = _
  rw [BitVec.toNat_or, ofInt64 a ha, ofInt64 b hb, wrapU64 _ (Nat.or_lt_two_pow ha hb)]

theorem and64 (a b : Nat) (ha : a < 2 ^ 64) (hb : b < 2 ^ 64) : IntKind.u64.wrap ((BitVec.ofInt IntKind.u64.bits (a : Int) &&& BitVec.ofInt IntKind.u64.bits (b : Int)).toNat : Int) = ((a &&& b : Nat) : Int) := by
  show IntKind.u64.wrap ((BitVec.ofInt 64 (a : Int) &&& BitVec.ofInt 64 (b : Int)).toNat : Int) = _
  rw [BitVec.toNat_and, ofInt64 a ha, ofInt64 b hb, wrapU64 _ (Nat.lt_of_le_of_lt Nat.and_le_left ha)]

theorem orShl (a b k : Nat) (ha : a < 2 ^ k) (hb : b < 256) (hk : k ≤ 56) :
    IntKind.u64.wrap ((BitVec.ofInt IntKind.u64.bits (a : Int) ||| BitVec.ofInt IntKind.u64.bits (IntKind.u64.wrap ((b : Int) * 2 ^ k))).toNat : Int) = ((a + b * 2 ^ k : Nat) : Int) := by
  have h64 : (2 : Nat) ^ 64 = 256 * 2 ^ 56 := by decide
  have hp : (2 : Nat) ^ k ≤ 2 ^ 56 := Nat.pow_le_pow_right (by decide) hk
  have hb2 : b * 2 ^ k < 2 ^ 64 := by
    calc b * 2 ^ k ≤ 255 * 2 ^ k := Nat.mul_le_mul_right _ (by omega)
      _ ≤ 255 * 2 ^ 56 := Nat.mul_le_mul_left _ hp
      _ < 2 ^ 64 := by decide
  have e : ((b : Int) * 2 ^ k) = ((b * 2 ^ k : Nat) : Int) := by push_cast; rfl
  rw [e, wrapU64 _ hb2, or64 _ _ (by omega) hb2]
  congr 1
  rw [Nat.or_comm, Nat.mul_comm b, ← Nat.two_pow_add_eq_or_of_lt ha]
  omega
end Go.Abs

namespace Go.Abs
open Go
/-! Numbers as bytes: the plain theory. -/
def cls (n : Nat) : Nat := if n < 64 then 0 else if n < 16384 then 1 else if n < 1073741824 then 2 else 3
def dig (n s i : Nat) : Nat := n / 256 ^ (s - 1 - i) % 256
def encB (n i : Nat) : Nat := if i = 0 then dig n (2 ^ cls n) 0 + 64 * cls n else dig n (2 ^ cls n) i
def enc (n : Nat) : List UInt8 := (List.range (2 ^ cls n)).map fun i => UInt8.ofNat (encB n i)

theorem cls_le (n : Nat) : cls n ≤ 3 := by unfold cls; repeat' split
                                           all_goals omega
theorem cls_cases (n : Nat) : cls n = 0 ∨ cls n = 1 ∨ cls n = 2 ∨ cls n = 3 := by have := cls_le n; omega
theorem enc_len (n : Nat) : (enc n).length = 2 ^ cls n := by simp [enc]
theorem two_pos (c : Nat) : 0 < 2 ^ c := Nat.two_pow_pos c
theorem enc_pos (n : Nat) : 0 < (enc n).length := by rw [enc_len]; exact two_pos _
theorem top_small {n : Nat} (h : n < 2 ^ 62) : n < 64 * 256 ^ (2 ^ cls n - 1) := by
  unfold cls
  repeat' split
  all_goals simp only [Nat.reducePow, Nat.reduceSub, Nat.reduceMul]
  all_goals omega
theorem dig_lt (n s i : Nat) : dig n s i < 256 := Nat.mod_lt _ (by decide)
theorem dig0 {n : Nat} (h : n < 2 ^ 62) : dig n (2 ^ cls n) 0 = n / 256 ^ (2 ^ cls n - 1) ∧ dig n (2 ^ cls n) 0 < 64 := by
  have h1 : n / 256 ^ (2 ^ cls n - 1) < 64 := by
    rw [Nat.div_lt_iff_lt_mul (Nat.pow_pos (by decide))]
    exact top_small h
  unfold dig
  rw [Nat.sub_zero, Nat.mod_eq_of_lt (by omega)]
  exact ⟨rfl, h1⟩
theorem encB_lt {n : Nat} (h : n < 2 ^ 62) (i : Nat) : encB n i < 256 := by
  unfold encB
  split
  · have := (dig0 h).2; have := cls_le n; omega
  · exact dig_lt ..
theorem enc_get {n : Nat} (h : n < 2 ^ 62) (i : Nat) (hi : i < 2 ^ cls n) (r : List UInt8) : ((enc n ++ r).getD i 0).toNat = encB n i := by
  have h1 : (enc n ++ r)[i]? = some (UInt8.ofNat (encB n i)) := by
    rw [List.getElem?_append_left (by rw [enc_len]; exact hi)]
    simp [enc, hi]
  rw [List.getD_eq_getElem?_getD, h1]
  exact u8 _ (encB_lt h i)

/-- What the first k bytes say; the first one's two great bits are its class. -/
def acc (l : List UInt8) : Nat → Nat
  | 0 => 0
  | k + 1 => if k = 0 then (l.getD 0 0).toNat % 64 else acc l k * 256 + (l.getD k 0).toNat

theorem acc_one (l : List UInt8) : acc l 1 = (l.getD 0 0).toNat % 64 := by
  rw [acc, if_pos rfl]
theorem acc_next (l : List UInt8) (k : Nat) (h : k ≠ 0) : acc l (k + 1) = acc l k * 256 + (l.getD k 0).toNat := by
  rw [acc, if_neg h]
theorem acc_lt (l : List UInt8) : ∀ k, 0 < k → acc l k < 64 * 256 ^ (k - 1)
  | 0, h => by omega
  | 1, _ => by
    rw [acc_one]; exact Nat.mod_lt _ (by decide)
  | k + 2, _ => by
    have ih := acc_lt l (k + 1) (by omega)
    have hb := (l.getD (k + 1) 0).toNat_lt
    rw [acc_next _ _ (by omega)]
    simp only [Nat.add_sub_cancel] at ih ⊢
    have e : 256 ^ (k + 2 - 1) = 256 ^ k * 256 := by rw [show k + 2 - 1 = k + 1 by omega, Nat.pow_succ]
    rw [e]
    have : acc l (k + 1) + 1 ≤ 64 * 256 ^ k := ih
    have := Nat.mul_le_mul_right 256 this
    omega

/-- A number, what stands behind it, and the error. -/
def gets (l : List UInt8) : Nat × List UInt8 × Int :=
  if l = [] then (0, [], 7)
  else if l.length < 2 ^ ((l.getD 0 0).toNat / 64) then (0, [], 7)
  else if 2 ^ cls (acc l (2 ^ ((l.getD 0 0).toNat / 64))) = 2 ^ ((l.getD 0 0).toNat / 64) then (acc l (2 ^ ((l.getD 0 0).toNat / 64)), l.drop (2 ^ ((l.getD 0 0).toNat / 64)), 0)
  else (0, [], 3)

theorem first_cls {n : Nat} (h : n < 2 ^ 62) (r : List UInt8) : ((enc n ++ r).getD 0 0).toNat / 64 = cls n := by
  rw [enc_get h 0 (two_pos _)]
  unfold encB
  rw [if_pos rfl]
  have := (dig0 h).2
  omega

theorem acc_enc {n : Nat} (h : n < 2 ^ 62) (r : List UInt8) : ∀ k, 0 < k → k ≤ 2 ^ cls n → acc (enc n ++ r) k = n / 256 ^ (2 ^ cls n - k)
  | 0, h0, _ => by omega
  | 1, _, _ => by
    rw [acc_one, enc_get h 0 (two_pos _)]
    unfold encB
    rw [if_pos rfl, ← (dig0 h).1]
    have := (dig0 h).2
    omega
  | k + 2, _, hk => by
    have ih := acc_enc h r (k + 1) (by omega) (by omega)
    rw [acc_next _ _ (by omega), ih, enc_get h (k + 1) (by omega)]
    unfold encB
    rw [if_neg (by omega)]
    unfold dig
    have e : 2 ^ cls n - 1 - (k + 1) = 2 ^ cls n - (k + 2) := by omega
    have e2 : 256 ^ (2 ^ cls n - (k + 1)) = 256 ^ (2 ^ cls n - (k + 2)) * 256 := by
      rw [← Nat.pow_succ]; congr 1; omega
    rw [e, e2, ← Nat.div_div_eq_div_mul]
    omega

theorem acc_all {n : Nat} (h : n < 2 ^ 62) (r : List UInt8) : acc (enc n ++ r) (2 ^ cls n) = n := by
  rw [acc_enc h r _ (two_pos _) (Nat.le_refl _), Nat.sub_self]
  simp

theorem gets_enc {n : Nat} (h : n < 2 ^ 62) (r : List UInt8) : gets (enc n ++ r) = (n, r, 0) := by
  unfold gets
  rw [if_neg (by intro he; have h1 := congrArg List.length he; have h2 := enc_pos n; rw [List.length_append] at h1; simp only [List.length_nil] at h1; omega), first_cls h, if_neg (by rw [List.length_append, enc_len]; omega), acc_all h, if_pos rfl, ← enc_len n, List.drop_left]

/-- One that was cut is too short. -/
theorem gets_cut {n : Nat} (h : n < 2 ^ 62) {l z : List UInt8} (hl : l ++ z = enc n) (hz : z ≠ []) : gets l = (0, [], 7) := by
  unfold gets
  by_cases hl0 : l = []
  · rw [if_pos hl0]
  · rw [if_neg hl0]
    have h1 : (l.getD 0 0) = ((enc n ++ []).getD 0 0) := by
      rw [List.append_nil, ← hl]
      cases l with
      | nil => exact absurd rfl hl0
      | cons a l => rfl
    rw [h1, first_cls h, if_pos]
    have h2 := congrArg List.length hl
    rw [List.length_append, enc_len] at h2
    have := List.length_pos_iff.2 hz
    omega
end Go.Abs
