/-
  TopNumbers answers true for every list of pieces and every bytes behind, and leaves them as they were; conditions: the listed package variables hold what the program's text lays (tied by the card).
-/
import Derived.Test.YtimnnacibhjgmaaGreatDoorEvC
import Derived.Test.YtimnnacibhjgmaaGreatDoorProg
import GoSem.PinnedTables
import Derived.KernelRfl

namespace Go.Abs
open Go Go.RowKit Go.Proofs

def cFirst : List Value := Go.Pinned.utf8FirstZ.map fun (n : Nat) => Value.int .u8 n
def cAccept : List Value := ([128, 191, 160, 191, 128, 159, 144, 191, 128, 143, 0, 0, 0, 0, 0, 0, 0, 0, 0, 0, 0, 0, 0, 0, 0, 0, 0, 0, 0, 0, 0, 0] : List Int).map (Value.int .u8)
def cPow : List Value := ([1, 10, 100, 1000, 10000, 100000, 1000000, 10000000, 100000000, 1000000000, 10000000000, 100000000000, 1000000000000, 10000000000000, 100000000000000, 1000000000000000, 10000000000000000, 100000000000000000, 1000000000000000000, 10000000000000000000] : List Int).map (Value.int .u64)
def gl : Nat → Option ABlk
  | 0 => some (.opn cFirst 231 none)
  | 1 => some (.opn cAccept 234 none)
  | 3 => some (.opn cPow 292 none)
  | _ => none
noncomputable def B : Base := { P := Tryz.prog, base := 8, glob := gl, ident := fun f => f == 145, okf := fun _ => true }

theorem names_ok : Tryz.prog.funcs.toList.all (fun fn => fn.body.isNone || fn.name != "runtime.NumGoroutine") = true := by kernel_rfl
theorem regs_ok : Tryz.prog.funcs.toList.all (fun fn => match fn.body with | some c => codeOk c | none => true) = true := by kernel_rfl

theorem regs_of (f : Nat) (fn : Func) (c : Code) (hf : Tryz.prog.funcs[f]? = some fn) (hb : fn.body = some c) : codeOk c = true := by
  rw [← Array.getElem?_toList] at hf
  have h := List.all_eq_true.1 regs_ok fn (List.mem_of_getElem? hf)
  simpa [hb] using h

theorem names_of (f : Nat) (fn : Func) (hf : Tryz.prog.funcs[f]? = some fn) (hb : fn.body.isSome = true) : fn.name ≠ "runtime.NumGoroutine" := by
  intro hn
  rw [← Array.getElem?_toList] at hf
  have h := List.all_eq_true.1 names_ok fn (List.mem_of_getElem? hf)
  have hf' : fn.body.isNone = false := by cases hq : fn.body <;> simp [hq] at hb ⊢
  simp [hf', hn] at h

theorem identI (v : Value) (w : World) : (callFunc 145 #[v]).run Tryz.prog w = .ok (.value v) w := by kernel_rfl

theorem baseOK : BaseOK B where
  prog := {
    names := fun f fn hf hb hn => names_of f fn hf (by simpa using hb) hn
    ident := fun f hf v w => by
      have hI : f = 145 := by simpa [B, Base.env] using hf
      subst hI
      exact identI v w
    mixed := by kernel_rfl }
  regs := ⟨fun f fn c _ hf hb => regs_of f fn c hf hb⟩

def t0 : Table := []
theorem k0 : Known B t0 := Known.nil B
end Go.Abs

namespace Go.Abs
open Go Go.RowKit Go.Proofs
def t1 : Table := (72, [.string ⟨#[78, 101, 119, 115]⟩], .bool true) :: t0
theorem k1 : Known B t1 := k0.cons baseOK 300 (by kernel_rfl)
def t2 : Table := (43, [.string ⟨#[97]⟩], .int .i64 0) :: t1
theorem k2 : Known B t2 := k1.cons baseOK 300 (by kernel_rfl)
def t3 : Table := (120, [.agg #[.string ⟨#[97]⟩, .int .i64 1, .bool false]], .bool true) :: t2
theorem k3 : Known B t3 := k2.cons baseOK 300 (by kernel_rfl)
def t4 : Table := (111, [.string ⟨#[97, 32, 62, 32, 51, 32, 97, 110, 100, 32, 104, 97, 115, 32, 65]⟩], .bool true) :: t3
theorem k4 : Known B t4 := k3.cons baseOK 300 (by kernel_rfl)
def t5 : Table := (204, [.string ⟨#[97, 32, 62, 32, 51, 32, 97, 110, 100, 32, 104, 97, 115, 32, 65]⟩], .tuple #[.agg #[.int .i64 0, .int .i64 0, .string ⟨#[]⟩], .string ⟨#[]⟩, .int .i64 3]) :: t4
theorem k5 : Known B t5 := k4.cons baseOK 300 (by kernel_rfl)
def t6 : Table := (185, [.int .i32 32], .bool false) :: t5
theorem k6 : Known B t6 := k5.cons baseOK 300 (by kernel_rfl)
def t7 : Table := (155, [.string ⟨#[97, 32, 62, 32, 51, 32, 97, 110, 100, 32, 104, 97, 115, 32, 65]⟩], .int .i64 1) :: t6
theorem k7 : Known B t7 := k6.cons baseOK 300 (by kernel_rfl)
def t8 : Table := (124, [.string ⟨#[97, 32, 62, 32, 51, 32, 97, 110, 100, 32, 104, 97, 115, 32, 65]⟩], .tuple #[.agg #[.int .i64 1, .int .i64 0, .string ⟨#[97]⟩, .int .i64 0, .int .i64 0, .string ⟨#[]⟩], .int .i64 1, .int .i64 0]) :: t7
theorem k8 : Known B t8 := k7.cons baseOK 300 (by kernel_rfl)
def t9 : Table := (204, [.string ⟨#[62, 32, 51, 32, 97, 110, 100, 32, 104, 97, 115, 32, 65]⟩], .tuple #[.agg #[.int .i64 0, .int .i64 0, .string ⟨#[]⟩], .string ⟨#[]⟩, .int .i64 3]) :: t8
theorem k9 : Known B t9 := k8.cons baseOK 300 (by kernel_rfl)
def t10 : Table := (155, [.string ⟨#[62, 32, 51, 32, 97, 110, 100, 32, 104, 97, 115, 32, 65]⟩], .int .i64 0) :: t9
theorem k10 : Known B t10 := k9.cons baseOK 300 (by kernel_rfl)
def t11 : Table := (156, [.string ⟨#[62, 32, 51, 32, 97, 110, 100, 32, 104, 97, 115, 32, 65]⟩], .int .i64 1) :: t10
theorem k11 : Known B t11 := k10.cons baseOK 300 (by kernel_rfl)
def t12 : Table := (124, [.string ⟨#[62, 32, 51, 32, 97, 110, 100, 32, 104, 97, 115, 32, 65]⟩], .tuple #[.agg #[.int .i64 3, .int .i64 0, .string ⟨#[62]⟩, .int .i64 0, .int .i64 0, .string ⟨#[]⟩], .int .i64 1, .int .i64 0]) :: t11
theorem k12 : Known B t12 := k11.cons baseOK 300 (by kernel_rfl)
def t13 : Table := (203, [.string ⟨#[51, 32, 97, 110, 100, 32, 104, 97, 115, 32, 65]⟩], .tuple #[.agg #[.int .i64 1, .int .i64 3, .string ⟨#[]⟩], .string ⟨#[32, 97, 110, 100, 32, 104, 97, 115, 32, 65]⟩, .int .i64 0]) :: t12
theorem k13 : Known B t13 := k12.cons baseOK 300 (by kernel_rfl)
def t14 : Table := (154, [.string ⟨#[51, 32, 97, 110, 100, 32, 104, 97, 115, 32, 65]⟩], .tuple #[.agg #[.int .i64 1, .int .i64 3, .string ⟨#[]⟩], .int .i64 1, .int .i64 0]) :: t13
theorem k14 : Known B t14 := k13.cons baseOK 300 (by kernel_rfl)
def t15 : Table := (204, [.string ⟨#[97, 110, 100, 32, 104, 97, 115, 32, 65]⟩], .tuple #[.agg #[.int .i64 0, .int .i64 0, .string ⟨#[]⟩], .string ⟨#[]⟩, .int .i64 3]) :: t14
theorem k15 : Known B t15 := k14.cons baseOK 300 (by kernel_rfl)
def t16 : Table := (155, [.string ⟨#[97, 110, 100, 32, 104, 97, 115, 32, 65]⟩], .int .i64 3) :: t15
theorem k16 : Known B t16 := k15.cons baseOK 300 (by kernel_rfl)
def t17 : Table := (124, [.string ⟨#[97, 110, 100, 32, 104, 97, 115, 32, 65]⟩], .tuple #[.agg #[.int .i64 1, .int .i64 0, .string ⟨#[97, 110, 100]⟩, .int .i64 0, .int .i64 0, .string ⟨#[]⟩], .int .i64 3, .int .i64 0]) :: t16
theorem k17 : Known B t17 := k16.cons baseOK 300 (by kernel_rfl)
def t18 : Table := (204, [.string ⟨#[104, 97, 115, 32, 65]⟩], .tuple #[.agg #[.int .i64 0, .int .i64 0, .string ⟨#[]⟩], .string ⟨#[]⟩, .int .i64 3]) :: t17
theorem k18 : Known B t18 := k17.cons baseOK 300 (by kernel_rfl)
def t19 : Table := (155, [.string ⟨#[104, 97, 115, 32, 65]⟩], .int .i64 3) :: t18
theorem k19 : Known B t19 := k18.cons baseOK 300 (by kernel_rfl)
def t20 : Table := (124, [.string ⟨#[104, 97, 115, 32, 65]⟩], .tuple #[.agg #[.int .i64 1, .int .i64 0, .string ⟨#[104, 97, 115]⟩, .int .i64 0, .int .i64 0, .string ⟨#[]⟩], .int .i64 3, .int .i64 0]) :: t19
theorem k20 : Known B t20 := k19.cons baseOK 300 (by kernel_rfl)
def t21 : Table := (204, [.string ⟨#[65]⟩], .tuple #[.agg #[.int .i64 0, .int .i64 0, .string ⟨#[]⟩], .string ⟨#[]⟩, .int .i64 3]) :: t20
theorem k21 : Known B t21 := k20.cons baseOK 300 (by kernel_rfl)
def t22 : Table := (124, [.string ⟨#[65]⟩], .tuple #[.agg #[.int .i64 1, .int .i64 0, .string ⟨#[65]⟩, .int .i64 0, .int .i64 0, .string ⟨#[]⟩], .int .i64 1, .int .i64 0]) :: t21
theorem k22 : Known B t22 := k21.cons baseOK 300 (by kernel_rfl)
def t23 : Table := (150, [.string ⟨#[97]⟩], .string ⟨#[97]⟩) :: t22
theorem k23 : Known B t23 := k22.cons baseOK 300 (by kernel_rfl)
def t24 : Table := (150, [.string ⟨#[97, 110, 121]⟩], .string ⟨#[97, 110, 121]⟩) :: t23
theorem k24 : Known B t24 := k23.cons baseOK 300 (by kernel_rfl)
def t25 : Table := (150, [.string ⟨#[104, 97, 115]⟩], .string ⟨#[104, 97, 115]⟩) :: t24
theorem k25 : Known B t25 := k24.cons baseOK 300 (by kernel_rfl)
def t26 : Table := (150, [.string ⟨#[97, 110, 100]⟩], .string ⟨#[97, 110, 100]⟩) :: t25
theorem k26 : Known B t26 := k25.cons baseOK 300 (by kernel_rfl)
def t27 : Table := (150, [.string ⟨#[105, 110]⟩], .string ⟨#[105, 110]⟩) :: t26
theorem k27 : Known B t27 := k26.cons baseOK 300 (by kernel_rfl)
def t28 : Table := (111, [.string ⟨#[112, 114, 101, 102, 105, 120]⟩], .bool true) :: t27
theorem k28 : Known B t28 := k27.cons baseOK 300 (by kernel_rfl)
def t29 : Table := (150, [.string ⟨#[112, 114, 101, 102, 105, 120]⟩], .string ⟨#[112, 114, 101, 102, 105, 120]⟩) :: t28
theorem k29 : Known B t29 := k28.cons baseOK 300 (by kernel_rfl)
def t30 : Table := (150, [.string ⟨#[116, 114, 117, 101]⟩], .string ⟨#[116, 114, 117, 101]⟩) :: t29
theorem k30 : Known B t30 := k29.cons baseOK 300 (by kernel_rfl)
def t31 : Table := (111, [.string ⟨#[102, 97, 108, 115, 101]⟩], .bool true) :: t30
theorem k31 : Known B t31 := k30.cons baseOK 300 (by kernel_rfl)
def t32 : Table := (150, [.string ⟨#[102, 97, 108, 115, 101]⟩], .string ⟨#[102, 97, 108, 115, 101]⟩) :: t31
theorem k32 : Known B t32 := k31.cons baseOK 300 (by kernel_rfl)
def t33 : Table := (186, [.string ⟨#[97]⟩], .bool false) :: t32
theorem k33 : Known B t33 := k32.cons baseOK 300 (by kernel_rfl)
def t34 : Table := (186, [.string ⟨#[65]⟩], .bool false) :: t33
theorem k34 : Known B t34 := k33.cons baseOK 300 (by kernel_rfl)
def t35 : Table := (43, [.string ⟨#[65]⟩], .int .i64 0) :: t34
theorem k35 : Known B t35 := k34.cons baseOK 300 (by kernel_rfl)
def t36 : Table := (130, [.agg #[.string ⟨#[65]⟩, .int .i64 1, .slice none 0 0]], .bool true) :: t35
theorem k36 : Known B t36 := k35.cons baseOK 300 (by kernel_rfl)
def t37 : Table := (169, [.agg #[.int .i64 1, .int .i64 4, .string ⟨#[]⟩], .agg #[.int .i64 1, .int .i64 3, .string ⟨#[]⟩]], .int .i64 1) :: t36
theorem k37 : Known B t37 := k36.cons baseOK 300 (by kernel_rfl)
def t38 : Table := (88, [.agg #[.int .i64 1, .int .i64 1, .int .i64 1]], .string ⟨#[49, 46, 49, 46, 49]⟩) :: t37
theorem k38 : Known B t38 := k37.cons baseOK 300 (by kernel_rfl)
def t39 : Table := (15, [], .bool true) :: t38
theorem k39 : Known B t39 := k38.cons baseOK 300 (by kernel_rfl)
def tAll : Table := t39
theorem kAll : Known B tAll := k39
end Go.Abs
