/-
  TopNumbers answers true for every list of pieces and every bytes behind, and leaves them as they were; conditions: the listed package variables hold what the program's text lays (tied by the card).
-/
import Derived.Test.YtimnnacibhjgmaaGreatDoorEvA

namespace Go.Abs
open Go Go.RowKit

section
variable {E : Env} {N0 : Nat} {φ : Phi} {S : St} {w : World}

theorem run_store_nil (P : Program) (a : Addr) (w : World) : (storeCells a [] 0).run P w = .ok () w := rfl

/-- Cells at a row's end are forgotten. -/
theorem Sim.trunc (hs : Sim E N0 φ S w) {b : Nat} {l : Loc} (hφ : φ b = some l) {c : List Value} {e : TypeId} {sh m : Nat} (hg : S.get E b = some (.opn c e (some sh))) (h1 : sh ≤ m) (h2 : m ≤ c.length) :
    Step E N0 φ S w φ (S.set b (.opn (c.take m) e (some sh))) w := by
  obtain ⟨y, hy, hb1⟩ := hs.blk b l hφ
  rw [hg] at hy
  cases hy
  obtain ⟨k0, C, fz, k1, k2, k3, k4, k5⟩ := hb1
  obtain ⟨j1, j2, j3⟩ := k5 sh rfl
  have hbase := hs.owned_ge hg
  have hbn := St.get_lt hs.n_eq hg
  have hlen : (c.take m).length = m := by rw [List.length_take]; omega
  have hget : ∀ b1, (S.set b (.opn (c.take m) e (some sh))).get E b1 = if b1 = b then some (.opn (c.take m) e (some sh)) else S.get E b1 := St.get_set hs.n_eq _ hbase hbn
  have hnew : BR E.P N0 φ w l (.opn (c.take m) e (some sh)) := by
    refine ⟨k0, C, fz, k1, k2, by omega, ?_, fun sh' h => ?_⟩
    · have := k4.take m
      rw [List.take_take] at this
      rw [hlen]
      rw [Nat.min_eq_left h2] at this
      exact this
    · cases h
      exact ⟨by omega, j2, j3⟩
  refine ⟨⟨?_, hs.glob, hs.gN0, hs.gphi, hs.N0le, ?_, ?_⟩, fun _ _ h => h, fun _ _ h => .inl h, Nat.le_refl _, Nat.min_le_left _ _, Below.refl _ _, fun _ _ _ => rfl, ?_⟩
  · simp [St.set, hs.n_eq]
  · intro b1 l1 h
    rw [hget]
    by_cases he : b1 = b
    · subst he
      rw [hφ] at h
      cases h
      exact ⟨_, if_pos rfl, hnew⟩
    · obtain ⟨y, hy, hy2⟩ := hs.blk b1 l1 h
      exact ⟨y, (if_neg he).trans hy, hy2⟩
  · intro b1 b2 l1 l2 m1 m2 hne hblk
    obtain ⟨c1, e1, t1, c2, e2, t2, g1, g2, g3⟩ := hs.excl b1 b2 l1 l2 m1 m2 hne hblk
    by_cases he1 : b1 = b
    · subst he1
      rw [hg] at g1
      cases g1
      exact ⟨_, _, _, _, _, _, (hget b1).trans (if_pos rfl), (hget b2).trans ((if_neg (Ne.symm hne)).trans g2), g3⟩
    · by_cases he2 : b2 = b
      · subst he2
        rw [hg] at g2
        cases g2
        refine ⟨_, _, _, _, _, _, (hget b1).trans ((if_neg he1).trans g1), (hget b2).trans (if_pos rfl), fun sh' h => ?_⟩
        have := (g3 sh' h).1
        cases this
      · exact ⟨_, _, _, _, _, _, (hget b1).trans ((if_neg he1).trans g1), (hget b2).trans ((if_neg he2).trans g2), g3⟩
  · intro b1 h hl
    have : b1 < b := Nat.lt_of_lt_of_le hl (Nat.min_le_right _ _)
    rw [hget b1, if_neg (by omega)]

theorem St.set_set (S : St) (b : Nat) (x y : ABlk) : (S.set b x).set b y = S.set b y := by
  unfold St.set
  simp only [List.set_set]
  congr 1
  exact Nat.min_eq_left (Nat.min_le_right _ _)

theorem append_tip_good (hs : Sim E N0 φ S w) (ty : TypeId) {sT xT elem : TypeId} {xd : TypeDesc} {i : TypeInfo} {z : Value} {x' : Value} {n len b o sh : Nat} {c new : List Value} {l : Loc} {cap' : Nat}
    (hsT : E.P.underlying sT = some (.slice elem)) (hxT : E.P.underlying xT = some xd) (hd : ∀ k, xd ≠ .int k) (hi : E.P.info? elem = some i) (hz : i.zero = some z) (hzs : z.cells.size = i.size)
    (hn' : alen x' = some n) (h0 : ¬ n = 0) (hone : new.all (·.oneCell') = true) (hcs : E.P.cellsOf elem = i.size)
    (hnewg : ∃ new', (Builtin.firstCells i.size n x').run E.P w = .ok new' w ∧ VRL φ new new'.toList ∧ new.length = n * i.size)
    (hnewd : ∃ new', (Builtin.firstCells i.size n x').run E.P w.drew = .ok new' w.drew ∧ VRL φ new new'.toList ∧ new.length = n * i.size)
    (hsm : (2 * (len + n) + 2048) * i.bytes ≤ 2 ^ 47 ∧ len + n ≤ 2 ^ 62) (hg : S.get E b = some (.opn c elem (some sh))) (hend : o + len * i.size = c.length)
    (hb : φ b = some l) (hn1 : len ≤ cap') (hc : l.shift + o + cap' * l.esz ≤ l.total) :
    ∃ φ' w' v', (Builtin.append_ #[sT, xT] ty #[.slice (some ⟨l.blk, l.shift + o, none⟩) len cap', x']).run E.P w = .ok v' w' ∧
      Step E N0 φ S w φ' ((S.set b (.opn c elem none)).push (.opn (c.drop o ++ new) elem (some (c.length - o)))) w' ∧ VR φ' (.slice (some ⟨S.n, 0, none⟩) (len + n) OPEN) v' := by
  have hesz : l.esz = i.size := by
    obtain ⟨y, hy, hy2⟩ := hs.blk _ _ hb
    rw [hg] at hy
    cases hy
    exact hy2.1.trans hcs
  by_cases hroom : len + n ≤ cap'
  · obtain ⟨new', g1, g2, g3⟩ := hnewg
    have hfit : l.shift + c.length + new.length ≤ l.total := by
      rw [g3, ← hend]
      rw [hesz] at hc
      have : (len + n) * i.size ≤ cap' * i.size := Nat.mul_le_mul_right _ hroom
      rw [Nat.add_mul] at this
      omega
    obtain ⟨w', k1, k2⟩ := hs.growTip (o := o) hb hg (by omega) g2 hone hfit
    refine ⟨_, w', _, run_append_room' w hsT hxT hd hi hn' hroom g1 ?_, k2, ?_⟩
    · rw [addr_add, Nat.add_assoc, hend]
      exact k1
    · refine @VR.slo (φ.put S.n ⟨l.blk, l.shift + o, l.total, l.esz⟩) S.n 0 ⟨l.blk, l.shift + o, l.total, l.esz⟩ (len + n) cap' (Phi.put_self _ _ _) hroom ?_
      simpa using hc
  · have hst := hs.shade hb hg (Below.refl N0 w) (fun _ _ => rfl) (fun C fz h => ⟨fz, h⟩)
    have hold : ∃ old', (Builtin.firstCells i.size len (.slice (some ⟨l.blk, l.shift + o, none⟩) len cap')).run E.P w.drew = .ok old' w.drew ∧ VRL φ (c.drop o) old'.toList ∧ (c.drop o).length = len * i.size := by
      have hcell : S.cells E b = some c := by unfold St.cells; rw [hg]
      obtain ⟨xs, h1, h2, h3⟩ := hs.drew.loadCells (o := o) (n := len * i.size) hb hcell (by omega)
      rw [List.take_of_length_le (by simp; omega)] at h2
      exact ⟨xs.toArray, by simpa [Builtin.firstCells] using h1, by simpa using h2, by simp; omega⟩
    obtain ⟨φ', w', v', k1, k2, k3⟩ := grow_good (ty := ty) hst.sim hsT hxT hd hi hz hzs hn' (by omega) hsm.1 hsm.2 hold hnewd (sh := c.length - o) (by simp)
    exact ⟨φ', w', v', k1, hst.trans k2, k3⟩

theorem aappend_good (hs : Sim E N0 φ S w) (ty : TypeId) {tys : List TypeId} {args args' : List Value} (ha : VRL φ args args') {v : Value} {S' : St} (h : aappend E tys args S = some (v, S')) :
    ∃ φ' w' v', (Builtin.append_ tys.toArray ty args'.toArray).run E.P w = .ok v' w' ∧ Step E N0 φ S w φ' S' w' ∧ VR φ' v v' := by
  unfold aappend at h
  split at h
  · rename_i sT xT s x
    cases ha with
    | cons hS hx =>
    cases hx with
    | cons hx hnil =>
    cases hnil
    rename_i s' x'
    split at h
    · rename_i elem xd n hsT hxT hn
      have hn' : alen x' = some n := hx.alen ▸ hn
      split at h
      · cases h
      · cases h
      · rename_i xd _ _ i hd' hi
        have hd : ∀ k, xd ≠ .int k := fun k he => hd' k he
        split at h
        · rename_i z new hz hnew
          split at h
          · rename_i hcond
            obtain ⟨hzs, hpos, hone⟩ := hcond
            have hnewg := acells_good hs hx hnew hn
            have hnewd := acells_drew hs hx hnew hn
            have hcs : E.P.cellsOf elem = i.size := cellsOf_info hi
            split at h
            · -- a nil slice
              cases hS
              split at h
              · rename_i h0
                subst h0
                simp only [Option.some.injEq, Prod.mk.injEq] at h
                obtain ⟨rfl, rfl⟩ := h
                obtain ⟨new', g1, g2, g3⟩ := hnewg
                exact ⟨φ, w, _, run_append_none w hsT hxT hd hi hn' g1, Step.refl hs, .snil _ _⟩
              · split at h
                · rename_i h0 hsm
                  simp only [Option.some.injEq, Prod.mk.injEq] at h
                  obtain ⟨rfl, rfl⟩ := h
                  have := grow_good (ty := ty) hs hsT hxT hd hi hz hzs (base := none) (len := 0) (cap := 0) (old := []) hn' (by omega) (by simpa using hsm.1) (by simpa using hsm.2) ⟨#[], by simp [Builtin.firstCells], .nil, by simp⟩ hnewd (Nat.zero_le _)
                  simpa using this
                · cases h
            · rename_i b o len cap
              split at h
              · -- nothing to append
                rename_i h0
                subst h0
                split at h
                · rename_i hlc
                  simp only [Option.some.injEq, Prod.mk.injEq] at h
                  obtain ⟨rfl, rfl⟩ := h
                  obtain ⟨new', g1, g2, g3⟩ := hnewg
                  have hnil : new' = #[] := by
                    have := g2.length
                    apply Array.eq_empty_of_size_eq_zero
                    simp at this
                    omega
                  subst hnil
                  have key : ∀ a cap', len ≤ cap' → (Builtin.append_ #[sT, xT] ty #[.slice (some a) len cap', x']).run E.P w = .ok (.slice (some a) (len + 0) cap') w := fun a cap' hle =>
                    run_append_room' w hsT hxT hd hi hn' (by omega) g1 (run_store_nil E.P _ w)
                  cases hS with
                  | slc hb hc => exact ⟨φ, w, _, key _ _ hlc, Step.refl hs, .slc hb hc⟩
                  | slo hb hn1 hc => exact ⟨φ, w, _, key _ _ hn1, Step.refl hs, .slo hb hn1 hc⟩
                  | sle => exact ⟨φ, w, _, key _ _ (Nat.zero_le _), Step.refl hs, .sle⟩
                · cases h
              · rename_i h0
                split at h
                · rename_i hcap
                  cases hS with
                  | slo hb hn1 hc => omega
                  | sle => unfold OPEN EMPT at hcap; omega
                  | @slc b o l n1 c1 hb hc =>
                  split at h
                  · -- there is room
                    rename_i hroom
                    split at h
                    · rename_i c e sh hg
                      split at h
                      · rename_i hfit
                        simp only [Option.some.injEq, Prod.mk.injEq] at h
                        obtain ⟨rfl, rfl⟩ := h
                        obtain ⟨new', g1, g2, g3⟩ := hnewg
                        obtain ⟨w', k1, k2⟩ := hs.storeCells hb hg g2 hone hfit
                        refine ⟨φ, w', _, run_append_room' w hsT hxT hd hi hn' hroom g1 ?_, k2, .slc hb hcap⟩
                        rw [addr_add, Nat.add_assoc]
                        exact k1
                      · cases h
                    · cases h
                  · split at h
                    · rename_i hno hsm
                      split at h
                      · rename_i old hold
                        simp only [Option.some.injEq, Prod.mk.injEq] at h
                        obtain ⟨rfl, rfl⟩ := h
                        exact grow_good (ty := ty) hs hsT hxT hd hi hz hzs hn' (by omega) hsm.1 hsm.2 (acells_drew hs (.slc hb hc) hold rfl) hnewd (Nat.zero_le _)
                      · cases h
                    · cases h
                · split at h
                  · rename_i hcap
                    subst hcap
                    split at h
                    · rename_i hsm
                      split at h
                      · rename_i c e sh hg
                        split at h
                        · rename_i hend
                          obtain ⟨hsh, hmc, rfl⟩ := hend
                          simp only [Option.some.injEq, Prod.mk.injEq] at h
                          obtain ⟨rfl, rfl⟩ := h
                          cases hS with
                          | slc hb hc => omega
                          | @slo b o l n1 cap' hb hn1 hc =>
                          have hT := hs.trunc hb hg hsh hmc
                          have hg1 : (S.set b (.opn (c.take (o + len * i.size)) e (some sh))).get E b = some (.opn (c.take (o + len * i.size)) e (some sh)) := by
                            rw [St.get_set hs.n_eq _ (hs.owned_ge hg) (St.get_lt hs.n_eq hg), if_pos rfl]
                          have hlen : (c.take (o + len * i.size)).length = o + len * i.size := by rw [List.length_take]; omega
                          obtain ⟨φ', w', v', k1, k2, k3⟩ := append_tip_good hT.sim ty hsT hxT hd hi hz hzs hn' h0 hone hcs hnewg hnewd hsm hg1 hlen.symm hb hn1 hc
                          rw [St.set_set, hlen] at k2
                          rw [show o + len * i.size - o = len * i.size by omega] at k2
                          exact ⟨φ', w', v', k1, hT.trans k2, k3⟩
                        · cases h
                      · cases h
                    · cases h
                  · cases h
            · cases h
          · cases h
        · cases h
    · cases h
  · cases h

end
end Go.Abs

namespace Go.Abs
open Go Go.RowKit

structure ProgOK (E : Env) : Prop where
  names : ∀ (f : Nat) (fn : Func), E.P.funcs[f]? = some fn → fn.body.isSome = true → fn.name ≠ "runtime.NumGoroutine"
  ident : ∀ f, E.ident f = true → ∀ v w, (callFunc f #[v]).run E.P w = .ok (.value v) w
  mixed : E.P.follows .mixedOrders = true

section
variable {E : Env} {N0 : Nat} {φ : Phi} {S : St} {w : World}

theorem wrap_i64_small (n : Int) (h0 : 0 ≤ n) (h1 : n < 9223372036854775808) : IntKind.i64.wrap n = n := by
  unfold IntKind.wrap
  simp only [IntKind.bits, IntKind.signed, Bool.true_and]
  have e : n % (2 ^ 64 : Int) = n := Int.emod_eq_of_lt h0 (by omega)
  simp only [e]
  split
  · rename_i h
    simp only [decide_eq_true_eq] at h
    omega
  · rfl

theorem amakeSlice_good (hs : Sim E N0 φ S w) {t : TypeId} {l l' c c' : Value} (hl : VR φ l l') (hc : VR φ c c') {nx : Next} {S' : St} (h : amakeSlice E t l c S = some (nx, S')) :
    ∃ φ' w' v v', (Instr.makeSlice t l' c').run E.P w = .ok v' w' ∧ Step E N0 φ S w φ' S' w' ∧ nx = .value v ∧ VR φ' v v' := by
  unfold amakeSlice at h
  split at h
  · rename_i elem kl nl kc nc hu
    cases hl.int_inv
    cases hc.int_inv
    split at h
    · rename_i i hi
      split at h
      · rename_i hcond
        obtain ⟨h0, hlc, hc31, hby⟩ := hcond
        simp only at h
        split at h
        · rename_i zero hz
          split at h
          · rename_i hpz
            simp only [Option.some.injEq, Prod.mk.injEq] at h
            obtain ⟨rfl, rfl⟩ := h
            obtain ⟨h1, h2⟩ := hs.newOwn elem (VRL.of_pfL φ _ (pf_init hpz (nc.toNat * i.size)))
            rw [Array.toArray_toList] at h1
            refine ⟨_, _, _, .slice (some ⟨w.heap.size, 0, none⟩) nl.toNat nc.toNat, ?_, h1, rfl, ?_⟩
            · have w1 : IntKind.i64.wrap nl = nl := wrap_i64_small nl (by omega) (by omega)
              have w2 : IntKind.i64.wrap nc = nc := wrap_i64_small nc (by omega) (by omega)
              have t1 : ¬ (nc < 0) := by omega
              have t2 : ¬ (nl < 0) := by omega
              have t3 : ¬ (nl > nc) := by omega
              have t4 : ¬ ((i.bytes : Int) * nc > 2 ^ 48) := by omega
              have ht : (typeInfo elem).run E.P w = .ok i w := by simp [typeInfo, hi]
              unfold Instr.makeSlice
              simp only [Sem.run_bind, run_underlying hu, Result.andThen_ok, asInt, asIntOf, Sem.run_pure, ht, w1, w2]
              have hbig : ((((decide (nc < 0) || decide ((i.bytes : Int) * nc > 2 ^ 48)) || decide (nl < 0)) || decide (nl > nc)) = true) = False := by
                simp only [eq_iff_iff, iff_false, Bool.not_eq_true]
                simp only [t1, t2, t3, t4, decide_false, Bool.or_false]
              rw [if_neg (by rw [hbig]; exact id)]
              simp only [Sem.run_bind, run_askRoom, Result.andThen_ok, run_sizeOf hi]
              unfold initCells
              split at hz
              · rename_i hn0
                simp only [Option.some.injEq] at hz
                subst hz
                rw [if_pos hn0]
                simp [newRow]
              · rename_i hn0
                rw [if_neg hn0]
                cases hzz : i.zero with
                | none => simp [hzz] at hz
                | some z =>
                  simp only [hzz, Option.map_some, Option.some.injEq] at hz
                  subst hz
                  simp [zeroValue, typeInfo, hi, hzz, newRow]
            · exact @VR.slc _ S.n 0 ⟨w.heap.size, 0, (initCells zero (nc.toNat * i.size)).toList.length, 0⟩ nl.toNat nc.toNat (Phi.put_self _ _ _) (by unfold OPEN; omega)
          · cases h
        · cases h
      · cases h
    · cases h
  · cases h

theorem intsOf_eq {k : IntKind} : ∀ {l : List Value} {ns : List Int}, intsOf k l = some ns → l = ns.map (.int k)
  | [], ns, h => by simp only [intsOf, Option.some.injEq] at h; subst h; rfl
  | v :: l, ns, h => by
    unfold intsOf at h
    split at h
    · rename_i he; cases he
    · rename_i k' n l' he
      cases he
      split at h
      · rename_i hk
        subst hk
        simp only [Option.map_eq_some_iff] at h
        obtain ⟨m, hm, rfl⟩ := h
        rw [intsOf_eq hm]
        rfl
      · cases h
    · cases h

theorem pfL_ints (k : IntKind) (ns : List Int) : pfL (ns.map (Value.int k)) = true := by
  rw [pfL_iff]
  intro v hv
  simp only [List.mem_map] at hv
  obtain ⟨_, _, rfl⟩ := hv
  rfl

theorem bytesOfInts_fold : ∀ (ns : List Int) (s : ByteArray), ns.foldl (fun r n => r.push (UInt8.ofNat n.toNat)) s = ⟨⟨s.data.toList ++ ns.map fun n => UInt8.ofNat n.toNat⟩⟩
  | [], s => by simp
  | n :: ns, s => by
    rw [List.foldl_cons, bytesOfInts_fold ns]
    simp [ByteArray.push]

theorem bytesOfInts_eq (ns : List Int) : ns.foldl (fun r n => r.push (UInt8.ofNat n.toNat)) ByteArray.empty = bytesOfInts ns := by
  rw [bytesOfInts_fold]
  rfl

theorem aconvert_good (hs : Sim E N0 φ S w) {src dst : TypeId} {x x' : Value} (hx : VR φ x x') {nx : Next} {S' : St} (h : aconvert E src dst x S = some (nx, S')) :
    ∃ φ' w' v v', (convert src dst x').run E.P w = .ok v' w' ∧ Step E N0 φ S w φ' S' w' ∧ nx = .value v ∧ VR φ' v v' := by
  unfold aconvert at h
  split at h
  · rename_i e b o len cap hs1 hd1
    by_cases hz : len = 0
    · rw [if_pos hz] at h
      subst hz
      split at h
      · rename_i he
        simp only [Option.some.injEq, Prod.mk.injEq] at h
        obtain ⟨rfl, rfl⟩ := h
        have key2 : ∃ a cap', x' = .slice (some a) 0 cap' := by
          cases hx with
          | slc hb hc1 => exact ⟨_, _, rfl⟩
          | slo hb hn1 hc1 => exact ⟨_, _, rfl⟩
          | sle => exact ⟨_, _, rfl⟩
        obtain ⟨a, cap', rfl⟩ := key2
        have hload : (loadCells a 0).run E.P w = .ok ((([] : List Int).map (Value.int .u8)).toArray) w := rfl
        refine ⟨φ, w, _, _, ?_, Step.refl hs, rfl, .string _⟩
        rw [run_convert_bytes_string w src dst e _ _ _ hs1 he hd1, run_bytesToString w a 0 cap' [] hload, bytesOfInts_eq]
      · cases h
    rw [if_neg hz] at h
    split at h
    · rename_i k c he hc
      split at h
      · rename_i hcond
        split at h
        · rename_i ns hns
          have hl := intsOf_eq hns
          have key : ∀ a cap', VR φ (.slice (some ⟨b, o, none⟩) len cap) (.slice (some a) len cap') → (loadCells a len).run E.P w = .ok (ns.map (Value.int k)).toArray w := by
            intro a cap' hv
            cases hv with
            | slc hb hc1 =>
              obtain ⟨xs, h1, h2, h3⟩ := hs.loadCells hb hc hcond.1
              rw [hl] at h2
              rw [VRL.eq_of_pfL h2 (pfL_ints k ns)] at h1
              exact h1
            | slo hb hn1 hc1 =>
              obtain ⟨xs, h1, h2, h3⟩ := hs.loadCells hb hc hcond.1
              rw [hl] at h2
              rw [VRL.eq_of_pfL h2 (pfL_ints k ns)] at h1
              exact h1
            | sle => omega
          have key2 : ∃ a cap', x' = .slice (some a) len cap' ∧ (loadCells a len).run E.P w = .ok (ns.map (Value.int k)).toArray w := by
            have hx2 := hx
            cases hx with
            | slc hb hc1 => exact ⟨_, _, rfl, key _ _ hx2⟩
            | slo hb hn1 hc1 => exact ⟨_, _, rfl, key _ _ hx2⟩
            | sle => exact ⟨_, _, rfl, key _ _ hx2⟩
          obtain ⟨a, cap', rfl, hload⟩ := key2
          split at h
          · simp only [Option.some.injEq, Prod.mk.injEq] at h
            obtain ⟨rfl, rfl⟩ := h
            refine ⟨φ, w, _, _, ?_, Step.refl hs, rfl, .string _⟩
            rw [run_convert_bytes_string w src dst e _ _ _ hs1 he hd1, run_bytesToString w a len cap' ns hload, bytesOfInts_eq]
          · simp only [Option.some.injEq, Prod.mk.injEq] at h
            obtain ⟨rfl, rfl⟩ := h
            refine ⟨φ, w, _, _, ?_, Step.refl hs, rfl, .string _⟩
            rw [run_convert_runes_string w src dst e _ _ _ hs1 he hd1, run_runesToString w a len cap' ns hload]
          · cases h
        · cases h
      · cases h
    · cases h
  · rename_i e s hs1 hd1
    cases hx
    split at h
    · rename_i he
      split at h
      · rename_i hsz
        simp only [Option.some.injEq, Prod.mk.injEq] at h
        obtain ⟨rfl, rfl⟩ := h
        have hge := grownCap_ge w s.size 0 e
        have hCs : (Lib.bytesCells w e s).size = grownCap w s.size 0 e := by
          simp only [Lib.bytesCells, Array.size_append, Array.size_map, Array.size_replicate]
          have : s.data.size = s.size := rfl
          omega
        have hb : Below N0 w (Lib.bytesWorld w e s) := ⟨rfl, rfl, rfl, by rw [Lib.bytesWorld_size]; omega, fun k hk => Lib.bytesWorld_at_old w e s k (Nat.lt_of_lt_of_le hk hs.N0le)⟩
        refine ⟨_, _, _, _, Lib.run_convert_string_bytes w src dst e s hs1 hd1 he, hs.newOpn e hb (fun B hB => Lib.bytesWorld_at_old w e s B hB) (Lib.bytesWorld_at_new w e s) ?_ ?_ ?_ (Nat.zero_le _), rfl, ?_⟩
        · have : (Lib.bytesCells w e s).toList.take (s.data.toList.map fun b => Value.int .u8 b.toNat).length = s.data.toList.map fun b => Value.int .u8 b.toNat := by
            simp only [Lib.bytesCells, Array.toList_append, Array.toList_map]
            rw [List.take_append_of_le_length (by simp), List.take_of_length_le (by simp)]
          rw [this]
          refine VRL.of_pfL φ _ (pfL_iff.2 ?_)
          intro v hv
          simp only [List.mem_map] at hv
          obtain ⟨_, _, rfl⟩ := hv
          rfl
        · rw [hCs]; simpa using hge
        · intro i g1 g2; omega
        · refine @VR.slo _ S.n 0 ⟨w.heap.size, 0, (Lib.bytesCells w e s).size, E.P.cellsOf e⟩ s.size _ (Phi.put_self _ _ _) hge ?_
          simp [hCs, hsz]
      · cases h
    · rename_i he
      simp only at h
      split at h
      · rename_i hsz
        simp only [Option.some.injEq, Prod.mk.injEq] at h
        obtain ⟨rfl, rfl⟩ := h
        obtain ⟨hsz, hpf⟩ := hsz
        have hge := grownCap_ge w (Conv.runesFrom s s.size 0 #[]).size 0 e
        have hrun : (convert src dst (.string s)).run E.P w = .ok (.slice (some ⟨w.heap.size, 0, none⟩) (Conv.runesFrom s s.size 0 #[]).size (grownCap w (Conv.runesFrom s s.size 0 #[]).size 0 e))
            (w.drew.alloc (.cells (Conv.runesFrom s s.size 0 #[] ++ Array.replicate (grownCap w (Conv.runesFrom s s.size 0 #[]).size 0 e - (Conv.runesFrom s s.size 0 #[]).size) (.int .i32 0)) e)) := by
          simp [convert, run_underlying hs1, run_underlying hd1, run_underlying he, Conv.stringToRunes, newRow, Question.forced, grownCap, Result.andThen]
        have hCs : (Conv.runesFrom s s.size 0 #[] ++ Array.replicate (grownCap w (Conv.runesFrom s s.size 0 #[]).size 0 e - (Conv.runesFrom s s.size 0 #[]).size) (Value.int .i32 0)).size = grownCap w (Conv.runesFrom s s.size 0 #[]).size 0 e := by
          simp only [Array.size_append, Array.size_replicate]
          omega
        refine ⟨_, _, _, _, hrun, hs.newOpn e (fz := (0, 0)) (below_drew_alloc hs.N0le _) (fun B hB => alloc_old (w := w.drew) _ _ hB) (alloc_new (w := w.drew) _) ?_ ?_ (fun i _ _ => by simp) (Nat.zero_le _), rfl, ?_⟩
        · have : (Conv.runesFrom s s.size 0 #[] ++ Array.replicate (grownCap w (Conv.runesFrom s s.size 0 #[]).size 0 e - (Conv.runesFrom s s.size 0 #[]).size) (Value.int .i32 0)).toList.take (Conv.runesFrom s s.size 0 #[]).toList.length = (Conv.runesFrom s s.size 0 #[]).toList := by
            simp only [Array.toList_append]
            rw [List.take_append_of_le_length (by simp), List.take_of_length_le (by simp)]
          rw [this]
          exact VRL.of_pfL φ _ hpf
        · rw [hCs]; simpa using hge
        · refine @VR.slo _ S.n 0 ⟨w.heap.size, 0, _, E.P.cellsOf e⟩ _ _ (Phi.put_self _ _ _) (by simpa using hge) ?_
          simp only [Nat.zero_add]
          rw [hCs, hsz, Nat.mul_one]
          exact Nat.le_refl _
      · cases h
    · cases h
  · cases h

end
end Go.Abs

namespace Go.Abs
open Go Go.RowKit

section
variable {E : Env} {N0 : Nat} {φ : Phi} {S : St} {w : World}

theorem VR.opt_isNone {b b' : Option Addr} {n n' c c' : Nat} (h : VR φ (.slice b n c) (.slice b' n' c')) : b.isNone = b'.isNone := by cases h <;> rfl

theorem aeq_good {t : TypeId} {x y x' y' : Value} {b : Bool} (hx : VR φ x x') (hy : VR φ y y') (h : aeq E t x y = some b) (w : World) :
    (Op.equal t x' y').run E.P w = .ok b w := by
  unfold aeq at h
  unfold Op.equal Op.maxDepth Op.equalIn
  split at h
  · rename_i e n c b0 n0 c0 hu
    simp only [Option.some.injEq] at h
    subst h
    cases hx
    cases hy <;> simp [run_underlying hu]
  · rename_i e a n c n0 c0 hu
    simp only [Option.some.injEq] at h
    subst h
    cases hy
    cases hx <;> simp [run_underlying hu]
  · rename_i e b0 hu
    simp only [Option.some.injEq] at h
    subst h
    cases hx
    cases hy <;> simp [run_underlying hu]
  · rename_i e a hu
    simp only [Option.some.injEq] at h
    subst h
    cases hy
    cases hx; simp [run_underlying hu]
  · rename_i el b1 o1 b2 o2 hu
    split at h
    · rename_i i hi
      split at h
      · rename_i hc
        obtain ⟨rfl, hz⟩ := hc
        simp only [Option.some.injEq] at h
        subst h
        obtain ⟨l, hl, rfl⟩ := hx.ptr_inv
        obtain ⟨l2, hl2, rfl⟩ := hy.ptr_inv
        rw [hl] at hl2
        cases hl2
        simp [run_underlying hu, run_sizeOf hi, hz, sameAddr]
        rw [Bool.eq_iff_iff, beq_iff_eq, beq_iff_eq]
        simp
      · cases h
    · cases h
  · rename_i m t1 v1 hu
    simp only [Option.some.injEq] at h
    subst h
    cases hx
    cases hy
    simp [run_underlying hu]
  · rename_i m t1 v1 hu
    simp only [Option.some.injEq] at h
    subst h
    cases hx
    cases hy
    simp [run_underlying hu]
  · rename_i p1 p2 p3 f1 f2 f3 hu
    simp only [Option.some.injEq] at h
    subst h
    cases hx
    cases hy
    simp [run_underlying hu]
  · rename_i p1 p2 p3 f1 f2 f3 hu
    simp only [Option.some.injEq] at h
    subst h
    cases hx
    cases hy
    simp [run_underlying hu]
  · cases h

theorem aeq_form {t : TypeId} {x y x' y' : Value} {b : Bool} (hx : VR φ x x') (hy : VR φ y y') (h : aeq E t x y = some b) :
    (∀ cs ds, ¬ (x' = .agg cs ∧ y' = .agg ds)) ∧ ¬ (x' = .nilIface ∧ y' = .nilIface) ∧ (∀ k n, x' ≠ .int k n) ∧ (∀ s, x' ≠ .string s) ∧ (∀ k n, x' ≠ .float k n) ∧ (∀ k n m, x' ≠ .complex k n m) := by
  unfold aeq at h
  split at h <;> first | (cases h; done) | (cases hx <;> cases hy <;> simp)

theorem run_eqGuard_skip (P : Program) (op : BinOp) (t : TypeId) (x y : Operand) (a b : Value) (w : World) (h1 : ∀ cs ds, ¬ (a = .agg cs ∧ b = .agg ds)) (h2 : ¬ (a = .nilIface ∧ b = .nilIface)) :
    (eqGuard op t x y a b).run P w = .ok () w := by
  unfold eqGuard
  cases a <;> cases b <;> simp at h1 h2 <;> (split <;> simp_all)

theorem run_binOp_eq (P : Program) (t : TypeId) (a b : Value) (w : World) (h : (∀ k n, a ≠ .int k n) ∧ (∀ s, a ≠ .string s) ∧ (∀ k n, a ≠ .float k n) ∧ (∀ k n m, a ≠ .complex k n m)) {r : Bool} (hr : (Op.equal t a b).run P w = .ok r w) :
    (binOp .eql t a b).run P w = .ok (.bool r) w ∧ (binOp .neq t a b).run P w = .ok (.bool (!r)) w := by
  cases a <;> simp at h <;> simp [binOp, hr]

end
end Go.Abs

namespace Go.Abs
open Go Go.RowKit

section
variable {E : Env} {N0 : Nat} {φ : Phi} {S : St} {w : World}

theorem extract_list (cs : Array Value) (a b : Nat) : (cs.extract a b).toList = (cs.toList.drop a).take (b - a) := by
  simp [List.extract_eq_take_drop]

theorem apart_good {t : TypeId} {cs cs' : Array Value} {off : Nat} {v : Value} (hc : VRL φ cs.toList cs'.toList) (h : apart E t cs.toList off = some v) (w : World) :
    ∃ v', (part t cs' off).run E.P w = .ok v' w ∧ VR φ v v' := by
  unfold apart at h
  split at h
  · rename_i d i hd hi
    split at h
    · rename_i hagg
      simp only [Option.some.injEq] at h
      subst h
      refine ⟨.agg (cs'.extract off (off + i.size)), by simp [part, run_isAgg hd, hagg, run_sizeOf hi], .agg ?_⟩
      rw [extract_list, Nat.add_sub_cancel_left]
      exact (hc.drop off).take i.size
    · rename_i hagg
      obtain ⟨v', h1, h2⟩ := hc.get h
      refine ⟨v', ?_, h2⟩
      simp only [Bool.not_eq_true] at hagg
      rw [Array.getElem?_toList] at h1
      simp [part, run_isAgg hd, hagg, h1]
  · cases h

theorem afield_good {t : TypeId} {x x' v : Value} {f : Nat} (hx : VR φ x x') (h : afield E t x f = some v) (w : World) :
    ∃ v', (Instr.field t x' f).run E.P w = .ok v' w ∧ VR φ v v' := by
  unfold afield at h
  split at h
  · rename_i fields cs hu
    cases hx with
    | agg hc =>
      split at h
      · rename_i fd hf
        obtain ⟨v', h1, h2⟩ := apart_good hc h w
        exact ⟨v', by simp [Instr.field, run_underlying hu, hf, asAgg, h1], h2⟩
      · cases h
  · cases h

theorem aindex_good {t : TypeId} {x x' i i' v : Value} (hx : VR φ x x') (hi : VR φ i i') (h : aindex E t x i = some v) (w : World) :
    ∃ v', (Instr.index t x' i').run E.P w = .ok v' w ∧ VR φ v v' := by
  unfold aindex at h
  split at h
  · rename_i len elem cs k n hu
    cases hi.int_inv
    cases hx with
    | agg hc =>
      split at h
      · rename_i inf hinf
        split at h
        · rename_i hb
          obtain ⟨v', h1, h2⟩ := apart_good hc h w
          exact ⟨v', by simp [Instr.index, asIntOf, run_underlying hu, hb, run_sizeOf hinf, h1], h2⟩
        · cases h
      · cases h
  · cases h

theorem aextract_good {x x' v : Value} {ix : Nat} (hx : VR φ x x') (h : aextract x ix = some v) (P : Program) (w : World) :
    ∃ v', (Instr.extract x' ix).run P w = .ok v' w ∧ VR φ v v' := by
  unfold aextract at h
  split at h
  · rename_i vs
    cases hx with
    | tuple hc =>
      rw [← Array.getElem?_toList] at h
      obtain ⟨v', h1, h2⟩ := hc.get h
      rw [Array.getElem?_toList] at h1
      exact ⟨v', by simp [Instr.extract, h1], h2⟩
  · cases h

theorem amakeInterface_good {t : TypeId} {x x' v : Value} (hx : VR φ x x') (h : amakeInterface E t x = some v) (w : World) :
    ∃ v', (Instr.makeInterface t x').run E.P w = .ok v' w ∧ VR φ v v' := by
  unfold amakeInterface at h
  split at h
  · cases h
  · rename_i d hd hu
    simp only [Option.some.injEq] at h
    subst h
    refine ⟨.iface t x', ?_, .iface t hx⟩
    unfold Instr.makeInterface
    simp only [Sem.run_bind, run_underlying hu, Result.andThen_ok]
    cases d <;> first | rfl | exact absurd rfl (hd _)
  · cases h

theorem atypeAssert_good {x x' v : Value} {xt asserted : TypeId} {ok : Bool} (hx : VR φ x x') (h : atypeAssert E x asserted ok = some v) (w : World) :
    ∃ v', (Instr.typeAssert x' xt asserted ok).run E.P w = .ok v' w ∧ VR φ v v' := by
  unfold atypeAssert at h
  split at h
  · cases h
  · rename_i d t y hd hu
    cases hx with
    | @iface _ _ y' hy =>
      have key1 : t = asserted → (Instr.typeAssert (.iface t y') xt asserted ok).run E.P w = .ok (if ok then .tuple #[y', .bool true] else y') w := by
        intro ht
        unfold Instr.typeAssert
        simp only [Sem.run_bind, run_underlying hu, Result.andThen_ok]
        cases d with
        | interface ms => exact absurd rfl (hd _)
        | _ =>
          simp only [if_pos ht]
          cases ok <;> rfl
      have key2 : ∀ z, t ≠ asserted → ok = true → (zeroValue asserted).run E.P w = .ok z w → (Instr.typeAssert (.iface t y') xt asserted ok).run E.P w = .ok (.tuple #[z, .bool false]) w := by
        intro z ht hok hz
        subst hok
        unfold Instr.typeAssert
        simp only [Sem.run_bind, run_underlying hu, Result.andThen_ok]
        cases d with
        | interface ms => exact absurd rfl (hd _)
        | _ => simp [ht, hz]
      split at h
      · rename_i ht
        simp only [Option.some.injEq] at h
        subst h
        refine ⟨if ok then .tuple #[y', .bool true] else y', key1 ht, ?_⟩
        cases ok
        · exact hy
        · exact .tuple (.cons hy (.cons (.bool _) .nil))
      · rename_i ht
        split at h
        · rename_i hok
          split at h
          · rename_i z hz
            split at h
            · rename_i hpz
              simp only [Option.some.injEq] at h
              subst h
              refine ⟨.tuple #[z, .bool false], key2 z ht hok ?_, .tuple (.cons (VR.of_pf φ z hpz) (.cons (.bool _) .nil))⟩
              cases hi : E.P.info? asserted with
              | none => simp [hi] at hz
              | some i =>
                have hz' : i.zero = some z := by simpa [hi] using hz
                simp [zeroValue, typeInfo, hi, hz']
            · cases h
          · cases h
        · cases h
  · cases h

theorem abuild_good {t : TypeId} {ps ps' : List (Nat × Value)} {v : Value} (hp : PartsR φ ps ps') (h : abuild E t ps = some v) (w : World) :
    ∃ v', (Instr.build t ps'.toArray).run E.P w = .ok v' w ∧ VR φ v v' := by
  have hzv : ∀ z, (E.P.info? t).bind (·.zero) = some z → (zeroValue t).run E.P w = .ok z w := by
    intro z hz
    cases hi : E.P.info? t with
    | none => simp [hi] at hz
    | some i =>
      have hz' : i.zero = some z := by simpa [hi] using hz
      simp [zeroValue, typeInfo, hi, hz']
  unfold abuild at h
  split at h
  · rename_i fields z hu hz
    split at h
    · rename_i hpz
      split at h
      · rename_i places hpl
        simp only [Option.map_eq_some_iff] at h
        obtain ⟨r, hr, rfl⟩ := h
        obtain ⟨r', hr', hrr⟩ := fill_good hp (VR.of_pf φ z hpz).cells hr
        refine ⟨.agg r', ?_, .agg hrr⟩
        unfold Instr.build
        simp only [Sem.run_bind, hzv z hz, Result.andThen_ok, run_underlying hu, prun_run hpl w, hr', Sem.run_pure]
      · cases h
    · cases h
  · rename_i n elem z hu hz
    split at h
    · rename_i hpz
      split at h
      · rename_i i hi
        simp only [Option.map_eq_some_iff] at h
        obtain ⟨r, hr, rfl⟩ := h
        obtain ⟨r', hr', hrr⟩ := fill_good hp (VR.of_pf φ z hpz).cells hr
        refine ⟨.agg r', ?_, .agg hrr⟩
        unfold Instr.build
        simp only [Sem.run_bind, hzv z hz, Result.andThen_ok, run_underlying hu, run_sizeOf hi, hr', Sem.run_pure]
      · cases h
    · cases h
  · cases h

theorem alenOp_good (ty : TypeId) {tys : List TypeId} {args args' : List Value} {v : Value} (ha : VRL φ args args') (h : alenOp E tys args = some v) (w : World) :
    (Builtin.len_ tys.toArray ty args'.toArray).run E.P w = .ok v w ∧ VR φ v v := by
  unfold alenOp at h
  split at h
  · rename_i t ts b n c
    cases ha with
    | cons hx hnil =>
    cases hnil
    split at h
    · rename_i e hu
      simp only [Option.some.injEq] at h
      subst h
      refine ⟨?_, .int _ _⟩
      cases hx <;> simp [Builtin.len_, run_underlying hu]
    · cases h
  · rename_i t ts p
    cases ha with
    | cons hx hnil =>
    cases hnil
    split at h
    · rename_i arr hu
      split at h
      · rename_i n e hu2
        simp only [Option.some.injEq] at h
        subst h
        refine ⟨?_, .int _ _⟩
        cases hx <;> simp [Builtin.len_, run_underlying hu, run_underlying hu2]
      · cases h
    · cases h
  · cases h

theorem hasBody_inv {f : FuncId} (h : hasBody E f = true) : ∃ fn c, E.P.funcs[f]? = some fn ∧ fn.body = some c := by
  unfold hasBody at h
  cases hf : E.P.funcs[f]? with
  | none => simp [hf] at h
  | some fn =>
    cases hb : fn.body with
    | none => simp [hf, hb] at h
    | some c => exact ⟨fn, c, rfl, hb⟩

theorem run_callFunc (hP : ProgOK E) {f : FuncId} (h : hasBody E f = true) (args : Array Value) (w : World) : (callFunc f args).run E.P w = .ok (.enter f args) w := by
  obtain ⟨fn, c, hf, hb⟩ := hasBody_inv h
  have hn := hP.names f fn hf (by simp [hb])
  simp [callFunc, hf, hb, hn]

theorem ainvoke_good (hP : ProgOK E) {r r' : Value} {name : String} {args args' : List Value} {nx : Next} (hr : VR φ r r') (ha : VRL φ args args') (h : ainvoke E r name args = some nx) (w : World) :
    ∃ nx', (callMethod r' name args'.toArray).run E.P w = .ok nx' w ∧ NR φ nx nx' := by
  unfold ainvoke at h
  split at h
  · rename_i t v
    cases hr with
    | @iface _ _ v' hv =>
    split at h
    · rename_i i d hi hu
      split at h
      · rename_i m hm
        split at h
        · rename_i f pr hf
          split at h
          · rename_i hc
            obtain ⟨hpath, hd, hb⟩ := hc
            simp only [Option.some.injEq] at h
            subst h
            have hp : m.path.toList = [] := by simpa using hpath
            have hm' : (method (E.P.types.size + Made.depth) t v' name).run E.P w = .ok (f, v') w := by
              have : E.P.types.size + Made.depth = (E.P.types.size + 99) + 1 := rfl
              rw [this]
              unfold method
              have ht : (typeInfo t).run E.P w = .ok i w := by simp [typeInfo, hi]
              simp only [Sem.run_bind, ht, Result.andThen_ok, hm, hp, follow, Sem.run_pure, hf]
              unfold receiverAt
              simp only [Sem.run_bind, run_underlying hu, Result.andThen_ok]
              cases d <;> cases pr <;> simp [isPtrD] at hd <;> simp [Place.get]
            refine ⟨.enter f (#[v'] ++ args'.toArray), ?_, rfl, ?_⟩
            · simp only [callMethod, Sem.run_bind, run_program, Result.andThen_ok, hm', run_callFunc hP hb]
            · simpa using VRL.cons hv ha
          · cases h
        · cases h
      · cases h
    · cases h
  · cases h

end
end Go.Abs

namespace Go.Abs
open Go Go.RowKit

section
variable {E : Env} {N0 : Nat} {φ : Phi} {S : St} {w : World}

theorem sliceData_eq (tys : Array TypeId) (ty : TypeId) (a : Addr) (n c : Nat) : Builtin.unsafeSliceData_ tys ty #[.slice (some a) n c] = (do
    if c ≠ 0 then pure (.pointer (some a))
    else if (← viewAt a.block).isSome then pure (.pointer (some a))
    else pure (.pointer (some ⟨← newObj (.view a (← elemOf ty)), 0, none⟩))) := rfl

theorem unsafeString_eq (tys : Array TypeId) (ty : TypeId) (a : Addr) (k : IntKind) (n : Int) : Builtin.unsafeString_ tys ty #[.pointer (some a), .int k n] = (do
    let n ← asInt (.int k n)
    let some pt := tys[0]? | stuck "unsafe.String: no argument types"
    if n < 0 then runtimePanic (.error "unsafe.String: len out of range")
    if n > IntKind.i64.max then unsupported (.unsafePointer "String: a length above the largest int")
    if n = 0 then pure (.string .empty)
    else if ← variablesAt a (← elemOf pt) n.toNat then do
      let s ← loadBytes a .empty n.toNat
      freeze a n.toNat
      pure (.string s)
    else unsupported (.unsafePointer "String: not so many bytes at ptr")) := rfl

theorem asliceData_good (tys : Array TypeId) (ty : TypeId) {args args' : List Value} {v : Value} (ha : VRL φ args args') (h : asliceData args = some v) :
    ∃ v', (Builtin.unsafeSliceData_ tys ty args'.toArray).run E.P w = .ok v' w ∧ VR φ v v' := by
  unfold asliceData at h
  split at h
  · rename_i b o n c
    cases ha with
    | cons hx hnil =>
    cases hnil
    split at h
    · rename_i hc
      simp only [Option.some.injEq] at h
      subst h
      have key : ∀ a cap', cap' ≠ 0 → (Builtin.unsafeSliceData_ tys ty #[.slice (some a) n cap']).run E.P w = .ok (.pointer (some a)) w := by
        intro a cap' h0
        rw [sliceData_eq, if_pos h0]
        rfl
      cases hx with
      | slc hb hc1 => exact ⟨_, key _ _ (by omega), .ptr hb⟩
      | slo hb hn hc1 => exact ⟨_, key _ _ (by omega), .ptr hb⟩
      | sle => omega
    · cases h
  · cases h

theorem liesAt_self (P : Program) (e : TypeId) (count off n : Nat) (hc : P.cellsOf e = 1) (h : off + n ≤ count) : liesAt P P.depth e count off e n = true := by
  have hd : ∃ d, P.depth = d + 1 := ⟨P.depth - 1, by unfold Program.depth; omega⟩
  obtain ⟨d, hd⟩ := hd
  have hs : sameLayout P P.depth e e = true := by
    rw [hd]
    unfold sameLayout
    simp
  rw [hd]
  unfold liesAt
  rw [Bool.or_eq_true]
  left
  rw [hd]
  unfold rowAt
  rw [← hd]
  simp [hc, hs, h, Nat.mod_one]

theorem run_loadBytes (P : Program) (w : World) (B : Nat) : ∀ (ns : List Int) (o : Nat) (acc : ByteArray), (∀ j n, ns[j]? = some n → w.cell? ⟨B, o + j, none⟩ = some (.int .u8 n)) →
    (loadBytes ⟨B, o, none⟩ acc ns.length).run P w = .ok ⟨⟨acc.data.toList ++ ns.map fun n => UInt8.ofNat n.toNat⟩⟩ w
  | [], o, acc, _ => by simp [loadBytes]
  | n :: ns, o, acc, h => by
    have h0 := h 0 n (by simp)
    have ih := run_loadBytes P w B ns (o + 1) (acc.push n.toNat.toUInt8) (fun j m hj => by have := h (j + 1) m (by simpa using hj); rwa [show o + 1 + j = o + (j + 1) by omega])
    simp only [List.length_cons, loadBytes, Sem.run_bind, run_load]
    simp only [Nat.add_zero] at h0
    rw [h0]
    simp only [Result.andThen_ok, addr_add, ih]
    simp [ByteArray.push]

theorem freeze_other (w : World) (a : Addr) (n B : Nat) (h : B ≠ a.block) : (w.freeze a n).heap[B]? = w.heap[B]? := by
  unfold World.freeze
  split
  · rfl
  · simp only [Array.getElem?_modify]
    rw [if_neg (Ne.symm h)]

theorem freeze_same (w : World) (a : Addr) (n : Nat) {C : Array Value} {e : TypeId} {fz : Nat × Nat} (h : w.heap[a.block]? = some (.cells C e fz)) : ∃ fz', (w.freeze a n).heap[a.block]? = some (.cells C e fz') := by
  unfold World.freeze
  split
  · exact ⟨fz, h⟩
  · simp only [Array.getElem?_modify, if_true, h, Option.map_some]
    exact ⟨_, rfl⟩

theorem freeze_size (w : World) (a : Addr) (n : Nat) : (w.freeze a n).heap.size = w.heap.size := by
  unfold World.freeze
  split <;> simp

theorem freeze_meta (w : World) (a : Addr) (n : Nat) : (w.freeze a n).os = w.os ∧ (w.freeze a n).tape = w.tape ∧ (w.freeze a n).output = w.output := by
  unfold World.freeze
  split <;> exact ⟨rfl, rfl, rfl⟩

theorem aunsafeString_good (hs : Sim E N0 φ S w) (ty : TypeId) {tys : List TypeId} {args args' : List Value} {nx : Next} {S' : St} (ha : VRL φ args args') (h : aunsafeString E tys args S = some (nx, S')) :
    ∃ φ' w' v v', (Builtin.unsafeString_ tys.toArray ty args'.toArray).run E.P w = .ok v' w' ∧ Step E N0 φ S w φ' S' w' ∧ nx = .value v ∧ VR φ' v v' := by
  unfold aunsafeString at h
  split at h
  · rename_i pt ts b o k n
    cases ha with
    | cons hx hr =>
    cases hr with
    | cons hy hnil =>
    cases hnil
    cases hy.int_inv
    obtain ⟨l, hl, rfl⟩ := hx.ptr_inv
    split at h
    · rename_i u c e sh hu hg
      split at h
      · rename_i hc
        obtain ⟨rfl, hc1, h0, h62, hle⟩ := hc
        split at h
        · rename_i ns hns
          simp only [Option.some.injEq, Prod.mk.injEq] at h
          obtain ⟨rfl, rfl⟩ := h
          have hcell : S.cells E b = some c := by unfold St.cells; rw [hg]
          obtain ⟨C, e1, fz, g1, g2, g3⟩ := hs.cells hl hcell
          have heq := intsOf_eq hns
          obtain ⟨y, hy, hb⟩ := hs.blk b l hl
          rw [hg] at hy
          cases hy
          obtain ⟨k0, C', fz', k1, k2, k3, k4, k5⟩ := hb
          obtain ⟨_, k5, k6⟩ := k5 _ rfl
          rw [g1] at k1
          cases k1
          have hcells : ∀ j m, ns[j]? = some m → w.cell? ⟨l.blk, l.shift + o + j, none⟩ = some (.int .u8 m) := by
            intro j m hj
            have : (List.take n.toNat (List.drop o c))[j]? = some (.int .u8 m) := by rw [heq]; simp [hj]
            rw [List.getElem?_take] at this
            split at this
            · rw [List.getElem?_drop] at this
              obtain ⟨v', q1, q2⟩ := hs.loadCell hl hcell this
              rw [VR.int_inv q2] at q1
              rw [Nat.add_assoc]
              exact q1
            · cases this
          have hlen : ns.length = n.toNat := by
            have := congrArg List.length heq
            simp at this
            omega
          have hload := run_loadBytes E.P w l.blk ns (l.shift + o) .empty hcells
          rw [hlen] at hload
          have hshape : w.shape? l.blk = some (u, C.size) := by simp [World.shape?, g1]
          have hva : (variablesAt ⟨l.blk, l.shift + o, none⟩ u n.toNat).run E.P w = .ok true w := by
            unfold variablesAt
            simp only [Sem.run_bind, run_program, Result.andThen_ok, run_shape, hshape]
            rw [liesAt_self E.P u _ _ _ hc1 (by rw [hc1, Nat.div_one]; omega)]
            rfl
          have hel : (elemOf pt).run E.P w = .ok u w := by
            unfold elemOf
            simp only [Sem.run_bind, run_underlying hu, Result.andThen_ok]
            rfl
          obtain ⟨m1, m2, m3⟩ := freeze_meta w ⟨l.blk, l.shift + o, none⟩ n.toNat
          have hbel : Below N0 w (w.freeze ⟨l.blk, l.shift + o, none⟩ n.toNat) :=
            ⟨m1, m2, m3, by rw [freeze_size]; exact Nat.le_refl _, fun k hk => freeze_other _ _ _ _ (by show k ≠ l.blk; omega)⟩
          have hst := hs.shade hl hg hbel (fun B hB => freeze_other _ _ _ _ hB) (fun C fz h => freeze_same w ⟨l.blk, l.shift + o, none⟩ n.toNat h)
          refine ⟨φ, _, _, .string (bytesOfInts ns), ?_, hst, rfl, .string _⟩
          have hn1 : ¬ n < 0 := by omega
          have hn2 : ¬ n > IntKind.i64.max := by
            have : IntKind.i64.max = 9223372036854775807 := by decide
            rw [this]; omega
          have hn3 : ¬ n = 0 := by omega
          have e1 : (pt :: ts).toArray[0]? = some pt := by simp
          show (Builtin.unsafeString_ (pt :: ts).toArray ty #[.pointer (some ⟨l.blk, l.shift + o, none⟩), .int k n]).run E.P w = _
          rw [unsafeString_eq]
          simp only [Sem.run_bind, asInt, asIntOf, Sem.run_pure, Result.andThen_ok, e1]
          rw [if_neg hn1]
          rw [if_neg hn2]
          rw [if_neg hn3]
          simp only [Sem.run_bind, hel, Result.andThen_ok, hva, if_true, hload, run_freeze, Sem.run_pure]
          rfl
        · cases h
      · cases h
    · cases h
  · cases h

theorem aunsafePtr_good (hs : Sim E N0 φ S w) {src dst : TypeId} {x x' : Value} (hx : VR φ x x') {nx : Next} {S' : St} (h : aunsafePtr E src dst x S = some (nx, S')) :
    ∃ v v', (convert src dst x').run E.P w = .ok v' w ∧ S' = S ∧ nx = .value v ∧ VR φ v v' := by
  unfold aunsafePtr at h
  split at h
  · rename_i b o
    have hx0 := hx
    obtain ⟨l, hl, rfl⟩ := hx.ptr_inv
    split at h
    · rename_i c e hg
      obtain ⟨y, hy, hb⟩ := hs.blk b l hl
      rw [hg] at hy
      cases hy
      obtain ⟨h1, h2, h3, C, h4, h5⟩ := hb
      have hlen := h5.length
      simp only [Array.length_toList] at hlen
      have hshape : w.shape? l.blk = some (e, C.size) := by simp [World.shape?, h4]
      have hseen : (Conv.seenAt ⟨l.blk, l.shift + o, none⟩).run E.P w = .ok ⟨l.blk, l.shift + o, none⟩ w := by
        unfold Conv.seenAt viewAt
        simp [hshape]
      split at h
      · rename_i t hu1 hu2
        split at h
        · rename_i hc
          simp only [Option.some.injEq, Prod.mk.injEq] at h
          obtain ⟨rfl, rfl⟩ := h
          obtain ⟨i, hi⟩ := Option.isSome_iff_exists.1 hc.2.2
          have hz : ¬ i.size = 0 := by
            have := hc.2.1
            rw [hi] at this
            simpa using this
          refine ⟨_, _, ?_, rfl, rfl, hx0⟩
          have hcells : (cellsIn l.blk).run E.P w = .ok (some C.size) w := by
            unfold cellsIn
            simp [hshape]
          have hno : ¬ (C.size ≤ l.shift + o) := by omega
          simp [convert, run_underlying hu1, run_underlying hu2, Conv.unsafePointer, hseen, hcells, run_sizeOf hi, hz, hno]
        · cases h
      · rename_i u hu1 hu2
        split at h
        · rename_i hc
          simp only [Option.some.injEq, Prod.mk.injEq] at h
          obtain ⟨rfl, rfl⟩ := h
          obtain ⟨i, hi⟩ := Option.isSome_iff_exists.1 hc.1
          have hz : ¬ i.size = 0 := by
            have := hc.2.1
            rw [hi] at this
            simpa using this
          refine ⟨_, _, ?_, rfl, rfl, hx0⟩
          have hva : (variablesAt ⟨l.blk, l.shift + o, none⟩ u 1).run E.P w = .ok true w := by
            unfold variablesAt
            simp only [Sem.run_bind, run_program, Result.andThen_ok, run_shape, hshape]
            rw [h1, Nat.zero_add, ← hlen, hc.2.2]
            rfl
          simp [convert, run_underlying hu1, run_underlying hu2, Conv.unsafePointer, hseen, run_sizeOf hi, hz, hva]
        · cases h
      · cases h
    · cases h
  · cases h

end
end Go.Abs

namespace Go.Abs
open Go Go.RowKit

/-! Maps whose keys are integers, strings or bools. -/
section
variable {E : Env} {N0 : Nat} {φ : Phi} {S : St} {w : World}

theorem MR.get {φ : Phi} : ∀ {l l' : List MapEntry}, MR φ l l' → ∀ {i : Nat} {e : MapEntry}, l[i]? = some e → ∃ e', l'[i]? = some e' ∧ VR φ e.key e'.key ∧ VR φ e.val e'.val ∧ e.born = e'.born
  | _, _, .nil, _, _, h => by simp at h
  | _, _, .cons hk hv hb hl, 0, _, hi => by simp at hi; subst hi; exact ⟨_, by simp, hk, hv, hb⟩
  | _, _, .cons hk hv hb hl, i + 1, _, hi => by simp at hi; simpa using MR.get hl hi

theorem MR.modify {φ : Phi} {f g : MapEntry → MapEntry} (hfg : ∀ e e', VR φ e.key e'.key → VR φ e.val e'.val → e.born = e'.born → VR φ (f e).key (g e').key ∧ VR φ (f e).val (g e').val ∧ (f e).born = (g e').born) :
    ∀ {l l' : List MapEntry}, MR φ l l' → ∀ i, MR φ (l.modify i f) (l'.modify i g)
  | _, _, .nil, i => by simpa using MR.nil
  | _, _, .cons hk hv hb hl, 0 => by
    obtain ⟨h1, h2, h3⟩ := hfg _ _ hk hv hb
    simpa using MR.cons h1 h2 h3 hl
  | _, _, .cons hk hv hb hl, i + 1 => by simpa using MR.cons hk hv hb (MR.modify hfg hl i)

theorem MR.append {φ : Phi} : ∀ {l l' m m' : List MapEntry}, MR φ l l' → MR φ m m' → MR φ (l ++ m) (l' ++ m')
  | _, _, _, _, .nil, h => h
  | _, _, _, _, .cons hk hv hb hl, h => .cons hk hv hb (MR.append hl h)

theorem MR.erase {φ : Phi} : ∀ {l l' : List MapEntry}, MR φ l l' → ∀ i, MR φ (l.eraseIdx i) (l'.eraseIdx i)
  | _, _, .nil, i => by simpa using MR.nil
  | _, _, .cons hk hv hb hl, 0 => by simpa using hl
  | _, _, .cons hk hv hb hl, i + 1 => by simpa using MR.cons hk hv hb (MR.erase hl i)

theorem MR.findIdx {φ : Phi} (n : Int) : ∀ {l l' : List MapEntry}, MR φ l l' → l.findIdx? (fun e => (e.born : Int) == n) = l'.findIdx? (fun e => (e.born : Int) == n)
  | _, _, .nil => rfl
  | _, _, .cons hk hv hb hl => by
    rw [List.findIdx?_cons, List.findIdx?_cons, hb, MR.findIdx n hl]

theorem sameNow_eq {kd : TypeDesc} {k k' e e' : Value} {b : Bool} (h : Instr.sameNow kd k e = some b) (hk : VR φ k k') (he : VR φ e e') : k' = k ∧ e' = e := by
  unfold Instr.sameNow at h
  split at h
  · exact ⟨hk.int_inv, he.int_inv⟩
  · exact ⟨hk.string_inv, he.string_inv⟩
  · exact ⟨hk.bool_inv, he.bool_inv⟩
  · cases h

theorem findNow_good {kd : TypeDesc} {k k' : Value} (hk : VR φ k k') : ∀ {es es' : List MapEntry} {i : Nat} {r}, MR φ es es' → Instr.findNow kd k es i = some r →
    (r = none ∧ Instr.findNow kd k' es' i = some none) ∨ ∃ j v v', r = some (i + j, v) ∧ Instr.findNow kd k' es' i = some (some (i + j, v')) ∧ VR φ v v' ∧ ∃ e', es'[j]? = some e' ∧ Instr.sameNow kd k' e'.key = some true
  | _, _, i, r, .nil, h => by
    simp only [Instr.findNow, Option.some.injEq] at h
    subst h
    exact .inl ⟨rfl, rfl⟩
  | _, _, i, r, @MR.cons _ e e' l l' hke hv hb hl, h => by
    unfold Instr.findNow at h
    split at h
    · rename_i hs
      obtain ⟨h1, h2⟩ := sameNow_eq hs hk hke
      simp only [Option.some.injEq] at h
      subst h
      refine .inr ⟨0, e.val, e'.val, rfl, ?_, hv, e', by simp, by rw [h1, h2]; exact hs⟩
      unfold Instr.findNow
      rw [h1, h2, hs]
      rfl
    · rename_i hs
      obtain ⟨h1, h2⟩ := sameNow_eq hs hk hke
      have hstep : Instr.findNow kd k' (e' :: l') i = Instr.findNow kd k' l' (i + 1) := by
        conv => lhs; unfold Instr.findNow
        rw [h1, h2, hs]
      rcases findNow_good hk hl h with ⟨rfl, h3⟩ | ⟨j, v, v', rfl, h3, h4, e2, h5, h6⟩
      · exact .inl ⟨rfl, hstep.trans h3⟩
      · refine .inr ⟨j + 1, v, v', by rw [Nat.add_assoc, Nat.add_comm 1], ?_, h4, e2, by simpa using h5, h6⟩
        rw [hstep, h3, Nat.add_assoc, Nat.add_comm 1]
    · cases h

theorem run_checkKey {P : Program} {t : TypeId} {kd : TypeDesc} (ht : P.underlying t = some kd) (hd : keyD kd = true) (b : Bool) (v : Value) (w : World) : (Instr.checkKey b 10000 t v).run P w = .ok () w := by
  show (Instr.checkKey b (9999 + 1) t v).run P w = _
  unfold Instr.checkKey
  simp only [Sem.run_bind, run_underlying ht, Result.andThen_ok]
  cases kd <;> first | (cases hd; done) | rfl

theorem run_findKey {P : Program} {t : TypeId} {kd : TypeDesc} (ht : P.underlying t = some kd) {k : Value} {es : List MapEntry} {r} (h : Instr.findNow kd k es 0 = some r) (w : World) : (Instr.findKey t k es).run P w = .ok r w := by
  unfold Instr.findKey
  simp only [Sem.run_bind, run_underlying ht, Result.andThen_ok, h]
  rfl

/-- A key's place, on both sides. -/
theorem afind_good {key : TypeId} {k k' : Value} (hk : VR φ k k') {es es' : List MapEntry} {r} (hm : MR φ es es') (h : afind E key k es = some r) :
    ∃ kd, E.P.underlying key = some kd ∧ keyD kd = true ∧ ((r = none ∧ Instr.findNow kd k' es' 0 = some none) ∨ ∃ j v v', r = some (j, v) ∧ Instr.findNow kd k' es' 0 = some (some (j, v')) ∧ VR φ v v' ∧ ∃ e', es'[j]? = some e' ∧ Instr.sameNow kd k' e'.key = some true) := by
  unfold afind at h
  split at h
  · rename_i kd hu
    split at h
    · rename_i hd
      refine ⟨kd, hu, hd, ?_⟩
      rcases findNow_good hk hm h with h1 | ⟨j, v, v', h1, h2, h3, h4⟩
      · exact .inl h1
      · rw [Nat.zero_add] at h1 h2
        exact .inr ⟨j, v, v', h1, h2, h3, h4⟩
    · cases h
  · cases h

theorem bb_eq (a b : ByteArray) : (a == b) = decide (a = b) := by
  obtain ⟨a⟩ := a
  obtain ⟨b⟩ := b
  show ByteArray.beq _ _ = _
  unfold ByteArray.beq
  by_cases h : a = b
  · subst h; simp
  · simp [h]

theorem sameBits_of {kd : TypeDesc} {a b : Value} (h : Instr.sameNow kd a b = some true) : Instr.sameBits 10000 b a = true := by
  unfold Instr.sameNow at h
  split at h
  · split at h
    · rename_i hk
      subst hk
      simp only [Option.some.injEq, beq_iff_eq] at h
      subst h
      simp [Instr.sameBits]
    · cases h
  · simp only [Option.some.injEq, bb_eq, decide_eq_true_eq] at h
    subst h
    simp [Instr.sameBits, bb_eq]
  · simp only [Option.some.injEq, beq_iff_eq] at h
    subst h
    simp [Instr.sameBits]
  · cases h

theorem run_keyThatStays {P : Program} {kd : TypeDesc} {old new : Value} (h : Instr.sameNow kd new old = some true) (w : World) : (Instr.keyThatStays old new).run P w = .ok new w := by
  unfold Instr.keyThatStays
  rw [sameBits_of h]
  rfl

theorem azero_good {t : TypeId} {z : Value} (h : azero E t = some z) (w : World) : (zeroValue t).run E.P w = .ok z w ∧ pf z = true := by
  unfold azero at h
  split at h
  · rename_i z' hz
    split at h
    · rename_i hp
      simp only [Option.some.injEq] at h
      subst h
      refine ⟨?_, hp⟩
      cases hi : E.P.info? t with
      | none => simp [hi] at hz
      | some i =>
        have hz' : i.zero = some z' := by simpa [hi] using hz
        simp [zeroValue, typeInfo, hi, hz']
    · cases h
  · cases h

/-- A map's block. -/
theorem map_block (hs : Sim E N0 φ S w) {b : Nat} {m' : Value} (hm : VR φ (.map (some b)) m') {es : List MapEntry} {clock : Nat} (hg : S.get E b = some (.map es clock)) :
    ∃ l ms, m' = .map (some l.blk) ∧ φ b = some l ∧ N0 ≤ l.blk ∧ w.heap[l.blk]? = some (.map ms clock) ∧ MR φ es ms.toList ∧ (getObj l.blk).run E.P w = .ok (.map ms clock) w ∧
      ∀ ms' es' clock', MR φ es' ms'.toList → (setObj l.blk (.map ms' clock')).run E.P w = .ok () { w with heap := w.heap.setIfInBounds l.blk (.map ms' clock') } ∧
        Step E N0 φ S w φ (S.set b (.map es' clock')) { w with heap := w.heap.setIfInBounds l.blk (.map ms' clock') } := by
  cases hm with
  | mref hl =>
    rename_i l
    obtain ⟨x, hx, hb⟩ := hs.blk b l hl
    rw [hg] at hx
    cases hx
    obtain ⟨h2, ms, h3, h4⟩ := hb
    have hob : ∀ c e f, Obj.map ms clock ≠ .cells c e f := by intros; simp
    refine ⟨l, ms, rfl, hl, h2, h3, h4, run_getObj E.P w l.blk h3 hob, fun ms' es' clock' hm' => ⟨run_setObj E.P w l.blk h3 hob _, ?_⟩⟩
    refine hs.turn hl hg (fun _ _ _ => by simp) (below_setIn _ h2) (fun B hB => ?_) ⟨h2, ms', ?_, hm'⟩
    · show (w.heap.setIfInBounds _ _)[B]? = _
      rw [Array.getElem?_setIfInBounds_ne (Ne.symm hB)]
    · show (w.heap.setIfInBounds _ _)[l.blk]? = _
      rw [Array.getElem?_setIfInBounds_self, if_pos (Array.getElem?_eq_some_iff.1 h3).1]

theorem run_lookup {P : Program} {t key elem : TypeId} (ht : P.underlying t = some (.map key elem)) {kd : TypeDesc} (hk : P.underlying key = some kd) (hd : keyD kd = true) {x k : Value} {ok : Bool} {es : List MapEntry} {w : World}
    (hx : x = .map none ∧ es = [] ∨ ∃ r ms clock, x = .map (some r) ∧ (getObj r).run P w = .ok (.map ms clock) w ∧ ms.toList = es) {r} (hf : Instr.findNow kd k es 0 = some r)
    {v : Value} {b : Bool} (hv : (∃ i, r = some (i, v) ∧ b = true) ∨ (r = none ∧ (zeroValue elem).run P w = .ok v w ∧ b = false)) :
    (Instr.lookup t x k ok).run P w = .ok (if ok then .tuple #[v, .bool b] else v) w := by
  unfold Instr.lookup
  simp only [Sem.run_bind, run_underlying ht, Result.andThen_ok]
  rcases hx with ⟨rfl, rfl⟩ | ⟨r0, ms, clock, rfl, h1, rfl⟩
  · simp only [Sem.run_pure, Result.andThen_ok, Sem.run_bind, run_checkKey hk hd, run_findKey hk hf]
    rcases hv with ⟨i, rfl, rfl⟩ | ⟨rfl, hz, rfl⟩
    · simp
    · simp [hz]
  · rcases hv with ⟨i, rfl, rfl⟩ | ⟨rfl, hz, rfl⟩
    · simp [Sem.run_bind, h1, run_checkKey hk hd, run_findKey hk hf]
    · simp [Sem.run_bind, h1, run_checkKey hk hd, run_findKey hk hf, hz]

theorem alookup_good (hs : Sim E N0 φ S w) {t : TypeId} {x x' k k' : Value} {ok : Bool} {v : Value} (hx : VR φ x x') (hk : VR φ k k') (h : alookup E t x k ok S = some v) :
    ∃ v', (Instr.lookup t x' k' ok).run E.P w = .ok v' w ∧ VR φ v v' := by
  unfold alookup at h
  split at h
  · rename_i key elem ht
    split at h
    · rename_i es hes
      obtain ⟨es', hm, hx2⟩ : ∃ es', MR φ es es' ∧ (x' = .map none ∧ es' = [] ∨ ∃ r ms clock, x' = .map (some r) ∧ (getObj r).run E.P w = .ok (.map ms clock) w ∧ ms.toList = es') := by
        unfold amapOf at hes
        split at hes
        · cases hes
          cases hx
          exact ⟨[], .nil, .inl ⟨rfl, rfl⟩⟩
        · rename_i b
          split at hes
          · rename_i es2 clock hg
            cases hes
            obtain ⟨l, ms, rfl, _, _, _, h4, h5, _⟩ := map_block hs hx hg
            exact ⟨ms.toList, h4, .inr ⟨l.blk, ms, clock, rfl, h5, rfl⟩⟩
          · cases hes
        · cases hes
      split at h
      · rename_i i v0 hf
        obtain ⟨kd, hu, hd, hor⟩ := afind_good hk hm hf
        rcases hor with ⟨h1, _⟩ | ⟨j, v1, v1', h1, h2, h3, _⟩
        · cases h1
        · simp only [Option.some.injEq, Prod.mk.injEq] at h1
          obtain ⟨rfl, rfl⟩ := h1
          simp only [Option.some.injEq] at h
          subst h
          refine ⟨_, run_lookup ht hu hd hx2 h2 (.inl ⟨_, rfl, rfl⟩), ?_⟩
          cases ok
          · exact h3
          · exact .tuple (.cons h3 (.cons (.bool _) .nil))
      · rename_i hf
        obtain ⟨kd, hu, hd, hor⟩ := afind_good hk hm hf
        rcases hor with ⟨_, h2⟩ | ⟨j, v1, v1', h1, _⟩
        · simp only [Option.map_eq_some_iff] at h
          obtain ⟨z, hz, rfl⟩ := h
          obtain ⟨hz1, hz2⟩ := azero_good hz w
          refine ⟨_, run_lookup ht hu hd hx2 h2 (.inr ⟨rfl, hz1, rfl⟩), ?_⟩
          cases ok
          · exact VR.of_pf φ z hz2
          · exact .tuple (.cons (VR.of_pf φ z hz2) (.cons (.bool _) .nil))
        · cases h1
      · cases h
    · cases h
  · cases h

theorem run_mapUpdate_old {P : Program} {t key elem : TypeId} (ht : P.underlying t = some (.map key elem)) {kd : TypeDesc} (hk : P.underlying key = some kd) (hd : keyD kd = true) {r : Nat} {k x : Value} {ms : Array MapEntry} {clock : Nat} {w w' : World}
    (hg : (getObj r).run P w = .ok (.map ms clock) w) {i : Nat} {v : Value} (hf : Instr.findNow kd k ms.toList 0 = some (some (i, v))) {e : MapEntry} (he : ms.toList[i]? = some e) (hsm : Instr.sameNow kd k e.key = some true)
    (hset : (setObj r (.map (ms.modify i fun e => { e with key := k, val := x }) clock)).run P w = .ok () w') : (Instr.mapUpdate t (.map (some r)) k x).run P w = .ok () w' := by
  unfold Instr.mapUpdate
  have he' : ms[i]? = some e := by rw [← Array.getElem?_toList]; exact he
  simp only [Sem.run_bind, run_underlying ht, Result.andThen_ok, hg, run_checkKey hk hd, run_findKey hk hf, he', Option.map_some, Option.getD_some, run_keyThatStays hsm, hset]

theorem run_mapUpdate_new {P : Program} {t key elem : TypeId} (ht : P.underlying t = some (.map key elem)) {kd : TypeDesc} (hk : P.underlying key = some kd) (hd : keyD kd = true) {r : Nat} {k x : Value} {ms : Array MapEntry} {clock : Nat} {w w' : World}
    (hg : (getObj r).run P w = .ok (.map ms clock) w) (hf : Instr.findNow kd k ms.toList 0 = some none)
    (hset : (setObj r (.map (ms.push { key := k, val := x, born := clock }) (clock + 1))).run P w = .ok () w') : (Instr.mapUpdate t (.map (some r)) k x).run P w = .ok () w' := by
  unfold Instr.mapUpdate
  simp only [Sem.run_bind, run_underlying ht, Result.andThen_ok, hg, run_checkKey hk hd, run_findKey hk hf, hset]

theorem amapUpdate_good (hs : Sim E N0 φ S w) {t : TypeId} {m m' k k' x x' : Value} {S' : St} (hm : VR φ m m') (hk : VR φ k k') (hx : VR φ x x') (h : amapUpdate E t m k x S = some S') :
    ∃ w', (Instr.mapUpdate t m' k' x').run E.P w = .ok () w' ∧ Step E N0 φ S w φ S' w' := by
  unfold amapUpdate at h
  split at h
  · rename_i key elem b ht
    split at h
    · rename_i es clock hg
      obtain ⟨l, ms, rfl, hl, _, _, hmr, hget, hset⟩ := map_block hs hm hg
      split at h
      · rename_i i v0 hf
        obtain ⟨kd, hu, hd, hor⟩ := afind_good hk hmr hf
        rcases hor with ⟨h1, _⟩ | ⟨j, v1, v1', h1, h2, h3, e', h4, h5⟩
        · cases h1
        · simp only [Option.some.injEq, Prod.mk.injEq] at h1
          obtain ⟨rfl, rfl⟩ := h1
          simp only [Option.some.injEq] at h
          subst h
          obtain ⟨s1, s2⟩ := hset (ms.modify i fun e => { e with key := k', val := x' }) (es.modify i fun e => { e with key := k, val := x }) clock (by
            rw [Array.toList_modify]
            exact MR.modify (f := fun e => { e with key := k, val := x }) (g := fun e => { e with key := k', val := x' }) (fun _ _ _ _ hb => ⟨hk, hx, hb⟩) hmr i)
          exact ⟨_, run_mapUpdate_old ht hu hd hget h2 h4 h5 s1, s2⟩
      · rename_i hf
        obtain ⟨kd, hu, hd, hor⟩ := afind_good hk hmr hf
        rcases hor with ⟨_, h2⟩ | ⟨j, v1, v1', h1, _⟩
        · simp only [Option.some.injEq] at h
          subst h
          obtain ⟨s1, s2⟩ := hset (ms.push { key := k', val := x', born := clock }) (es ++ [{ key := k, val := x, born := clock }]) (clock + 1) (by
            rw [Array.toList_push]
            exact hmr.append (.cons hk hx rfl .nil))
          exact ⟨_, run_mapUpdate_new ht hu hd hget h2 s1, s2⟩
        · cases h1
      · cases h
    · cases h
  · cases h

theorem run_mapEntry_old {P : Program} {t key elem : TypeId} (ht : P.underlying t = some (.map key elem)) {kd : TypeDesc} (hk : P.underlying key = some kd) (hd : keyD kd = true) {r : Nat} {k : Value} {ms : Array MapEntry} {clock : Nat} {w w' : World}
    (hg : (getObj r).run P w = .ok (.map ms clock) w) {i : Nat} {v : Value} (hf : Instr.findNow kd k ms.toList 0 = some (some (i, v))) {e : MapEntry} (he : ms.toList[i]? = some e) (hsm : Instr.sameNow kd k e.key = some true)
    (hset : (setObj r (.map (ms.modify i fun e => { e with key := k }) clock)).run P w = .ok () w') : (Instr.mapEntry t (.map (some r)) k).run P w = .ok (.tuple #[v, goInt e.born]) w' := by
  unfold Instr.mapEntry
  have he' : ms[i]? = some e := by rw [← Array.getElem?_toList]; exact he
  simp only [Sem.run_bind, run_underlying ht, Result.andThen_ok, hg, run_checkKey hk hd, run_findKey hk hf, he', Option.map_some, Option.getD_some, run_keyThatStays hsm, hset, Sem.run_pure]

theorem run_mapEntry_new {P : Program} {t key elem : TypeId} (ht : P.underlying t = some (.map key elem)) {kd : TypeDesc} (hk : P.underlying key = some kd) (hd : keyD kd = true) {r : Nat} {k z : Value} {ms : Array MapEntry} {clock : Nat} {w w' : World}
    (hg : (getObj r).run P w = .ok (.map ms clock) w) (hf : Instr.findNow kd k ms.toList 0 = some none) (hz : (zeroValue elem).run P w = .ok z w)
    (hset : (setObj r (.map (ms.push { key := k, val := z, born := clock }) (clock + 1))).run P w = .ok () w') : (Instr.mapEntry t (.map (some r)) k).run P w = .ok (.tuple #[z, goInt clock]) w' := by
  unfold Instr.mapEntry
  simp only [Sem.run_bind, run_underlying ht, Result.andThen_ok, hg, run_checkKey hk hd, run_findKey hk hf, hz, hset, Sem.run_pure]

theorem amapEntry_good (hs : Sim E N0 φ S w) {t : TypeId} {m m' k k' : Value} {v : Value} {S' : St} (hm : VR φ m m') (hk : VR φ k k') (h : amapEntry E t m k S = some (v, S')) :
    ∃ φ' w' v', (Instr.mapEntry t m' k').run E.P w = .ok v' w' ∧ Step E N0 φ S w φ' S' w' ∧ VR φ' v v' := by
  unfold amapEntry at h
  split at h
  · rename_i key elem b ht
    split at h
    · rename_i es clock hg
      obtain ⟨l, ms, rfl, hl, _, _, hmr, hget, hset⟩ := map_block hs hm hg
      split at h
      · rename_i i v0 hf
        obtain ⟨kd, hu, hd, hor⟩ := afind_good hk hmr hf
        rcases hor with ⟨h1, _⟩ | ⟨j, v1, v1', h1, h2, h3, e', h4, h5⟩
        · cases h1
        · simp only [Option.some.injEq, Prod.mk.injEq] at h1
          obtain ⟨rfl, rfl⟩ := h1
          simp only [Option.some.injEq, Prod.mk.injEq] at h
          obtain ⟨rfl, rfl⟩ := h
          obtain ⟨s1, s2⟩ := hset (ms.modify i fun e => { e with key := k' }) (es.modify i fun e => { e with key := k }) clock (by
            rw [Array.toList_modify]
            exact MR.modify (f := fun e => { e with key := k }) (g := fun e => { e with key := k' }) (fun _ _ _ hv hb => ⟨hk, hv, hb⟩) hmr i)
          have hborn : ((es[i]?).map (fun x => (x.born : Int))).getD 0 = (e'.born : Int) := by
            cases hq : es[i]? with
            | none =>
              exfalso
              have hlen : ∀ {l l' : List MapEntry}, MR φ l l' → l.length = l'.length := by
                intro l l' h
                induction h with
                | nil => rfl
                | cons _ _ _ _ ih => simp [ih]
              have h6 := hlen hmr
              have h7 := (List.getElem?_eq_some_iff.1 h4).1
              have h8 := List.getElem?_eq_none_iff.1 hq
              omega
            | some e0 =>
              obtain ⟨e2, h6, _, _, h7⟩ := hmr.get hq
              rw [h4] at h6
              cases h6
              simp [h7]
          rw [hborn]
          exact ⟨φ, _, _, run_mapEntry_old ht hu hd hget h2 h4 h5 s1, s2, .tuple (.cons h3 (.cons (.int _ _) .nil))⟩
      · rename_i hf
        obtain ⟨kd, hu, hd, hor⟩ := afind_good hk hmr hf
        rcases hor with ⟨_, h2⟩ | ⟨j, v1, v1', h1, _⟩
        · simp only [Option.map_eq_some_iff, Prod.mk.injEq] at h
          obtain ⟨z, hz, rfl, rfl⟩ := h
          obtain ⟨hz1, hz2⟩ := azero_good hz w
          obtain ⟨s1, s2⟩ := hset (ms.push { key := k', val := z, born := clock }) (es ++ [{ key := k, val := z, born := clock }]) (clock + 1) (by
            rw [Array.toList_push]
            exact hmr.append (.cons hk (VR.of_pf φ z hz2) rfl .nil))
          exact ⟨φ, _, _, run_mapEntry_new ht hu hd hget h2 hz1 s1, s2, .tuple (.cons (VR.of_pf φ z hz2) (.cons (.int _ _) .nil))⟩
        · cases h1
      · cases h
    · cases h
  · cases h

theorem aentryStore_good (hs : Sim E N0 φ S w) {t : TypeId} {m m' s s' x x' : Value} {S' : St} (hm : VR φ m m') (hst : VR φ s s') (hx : VR φ x x') (h : aentryStore E m s x S = some S') :
    ∃ w', (Instr.entryStore t m' s' x').run E.P w = .ok () w' ∧ Step E N0 φ S w φ S' w' := by
  unfold aentryStore at h
  split at h
  · rename_i b kn n
    split at h
    · rename_i es clock hg
      obtain ⟨l, ms, rfl, hl, _, _, hmr, hget, hset⟩ := map_block hs hm hg
      have hsi := hst.int_inv
      subst hsi
      split at h
      · rename_i i hi
        simp only [Option.some.injEq] at h
        subst h
        obtain ⟨s1, s2⟩ := hset (ms.modify i fun e => { e with val := x' }) (es.modify i fun e => { e with val := x }) clock (by
          rw [Array.toList_modify]
          exact MR.modify (f := fun e => { e with val := x }) (g := fun e => { e with val := x' }) (fun _ _ hk _ hb => ⟨hk, hx, hb⟩) hmr i)
        refine ⟨_, ?_, s2⟩
        have hi2 : ms.findIdx? (fun e => (e.born : Int) == n) = some i := by
          have h9 := List.findIdx?_toArray (p := fun e : MapEntry => (e.born : Int) == n) (l := ms.toList)
          rw [Array.toArray_toList] at h9
          rw [h9, ← hmr.findIdx n]; exact hi
        unfold Instr.entryStore
        simp only [Sem.run_bind, hget, Result.andThen_ok, asInt, asIntOf, Sem.run_pure, Sem.run_map, hi2, s1]
      · cases h
    · cases h
  · cases h

theorem amakeMap_good (hs : Sim E N0 φ S w) (t : TypeId) : ∃ φ' w', (Instr.makeMap t none).run E.P w = .ok (.map (some w.heap.size)) w' ∧ Step E N0 φ S w φ' (S.push (.map [] 0)) w' ∧ VR φ' (.map (some S.n)) (.map (some w.heap.size)) := by
  refine ⟨φ.put S.n ⟨w.heap.size, 0, 0, 0⟩, w.alloc (.map #[] 0), rfl, ?_, ?_⟩
  · exact hs.push _ _ (below_alloc' hs.N0le _) (fun B hB => alloc_old _ _ hB) (Nat.le_refl _) ⟨hs.N0le, #[], alloc_new _, .nil⟩
  · exact @VR.mref (φ.put S.n ⟨w.heap.size, 0, 0, 0⟩) S.n ⟨w.heap.size, 0, 0, 0⟩ (by simp [Phi.put])

theorem adelete_good (hs : Sim E N0 φ S w) (ty : TypeId) {tys : List TypeId} {args args' : List Value} {S' : St} (ha : VRL φ args args') (h : adelete E tys args S = some S') :
    ∃ w', (Builtin.delete_ tys.toArray ty args'.toArray).run E.P w = .ok (.tuple #[]) w' ∧ Step E N0 φ S w φ S' w' := by
  unfold adelete at h
  split at h
  · rename_i t rest b k
    cases ha with
    | cons hm hr =>
    cases hr with
    | cons hk hr2 =>
    cases hr2
    split at h
    · rename_i key elem es clock ht hg
      obtain ⟨l, ms, rfl, hl, _, _, hmr, hget, hset⟩ := map_block hs hm hg
      split at h
      · rename_i i v0 hf
        obtain ⟨kd, hu, hd, hor⟩ := afind_good hk hmr hf
        rcases hor with ⟨h1, _⟩ | ⟨j, v1, v1', h1, h2, h3, e', h4, h5⟩
        · cases h1
        · simp only [Option.some.injEq, Prod.mk.injEq] at h1
          obtain ⟨rfl, rfl⟩ := h1
          simp only [Option.some.injEq] at h
          subst h
          obtain ⟨s1, s2⟩ := hset (ms.eraseIdxIfInBounds i) (es.eraseIdx i) clock (by
            rw [Array.toList_eraseIdxIfInBounds]
            exact hmr.erase i)
          refine ⟨_, ?_, s2⟩
          unfold Builtin.delete_
          simp only [List.getElem?_toArray, List.getElem?_cons_zero, List.getElem?_cons_succ, Sem.run_bind, run_underlying ht, Result.andThen_ok, hget, run_checkKey hu hd, run_findKey hu h2, s1, Sem.run_pure]
      · rename_i hf
        obtain ⟨kd, hu, hd, hor⟩ := afind_good hk hmr hf
        rcases hor with ⟨_, h2⟩ | ⟨j, v1, v1', h1, _⟩
        · simp only [Option.some.injEq] at h
          subst h
          obtain ⟨s1, s2⟩ := hset ms es clock hmr
          refine ⟨_, ?_, s2⟩
          unfold Builtin.delete_
          simp only [List.getElem?_toArray, List.getElem?_cons_zero, List.getElem?_cons_succ, Sem.run_bind, run_underlying ht, Result.andThen_ok, hget, run_checkKey hu hd, run_findKey hu h2, s1, Sem.run_pure]
        · cases h1
      · cases h
    · cases h
  · cases h
end
end Go.Abs

namespace Go.Abs
open Go Go.RowKit

/-! clear and copy, of slices. -/
section
variable {E : Env} {N0 : Nat} {φ : Phi} {S : St} {w : World}

theorem aputCells_good (hs : Sim E N0 φ S w) {b o : Nat} {l : Loc} (hb : φ b = some l) {xs xs' : List Value} (hx : VRL φ xs xs') {S' : St} (h : aputCells E S b o xs = some S') :
    ∃ w', (storeCells ⟨l.blk, l.shift + o, none⟩ xs').run E.P w = .ok () w' ∧ Step E N0 φ S w φ S' w' := by
  unfold aputCells at h
  split at h
  · rename_i c e hg
    split at h
    · rename_i hc
      simp only [Option.some.injEq] at h
      subst h
      exact hs.storeCells hb hg hx hc.1 hc.2
    · cases h
  · rename_i c e sh hg
    split at h
    · rename_i hc
      simp only [Option.some.injEq] at h
      subst h
      exact hs.storeTip hb hg hx hc.1 hc.2.1 hc.2.2
    · cases h
  · cases h

theorem pf_zeroCells {z : Value} (h : pf z = true) (n : Nat) : pfL (Builtin.zeroCells z.cells n).toList = true := by
  rw [pfL_iff]
  intro v hv
  unfold Builtin.zeroCells at hv
  rw [Array.toList_map] at hv
  obtain ⟨i, hi, rfl⟩ := List.mem_map.1 hv
  have hz := pf_cells h
  rw [pfA_iff] at hz
  have hi2 : i < n * z.cells.size := by simpa using hi
  have hpos : 0 < z.cells.size := by
    rcases Nat.eq_zero_or_pos z.cells.size with h0 | h0
    · rw [h0] at hi2; omega
    · exact h0
  have hlt : i % z.cells.size < z.cells.size := Nat.mod_lt _ hpos
  rw [getElem!_pos z.cells _ hlt]
  exact hz _ (by simp)

theorem aclear_good (hs : Sim E N0 φ S w) (ty : TypeId) {tys : List TypeId} {args args' : List Value} {S' : St} (ha : VRL φ args args') (h : aclear E tys args S = some S') :
    ∃ w', (Builtin.clear_ tys.toArray ty args'.toArray).run E.P w = .ok (.tuple #[]) w' ∧ Step E N0 φ S w φ S' w' := by
  unfold aclear at h
  split at h
  · rename_i t rest n c
    cases ha with
    | cons hm hr =>
    cases hr
    cases hm
    split at h
    · rename_i hu
      simp only [Option.some.injEq] at h
      subst h
      cases hq : E.P.underlying t with
      | none => rw [hq] at hu; cases hu
      | some d =>
        refine ⟨w, ?_, Step.refl hs⟩
        unfold Builtin.clear_
        simp only [List.getElem?_toArray, List.getElem?_cons_zero, Sem.run_bind, run_underlying hq, Result.andThen_ok, Sem.run_pure]
    · cases h
  · rename_i t rest b o n c
    cases ha with
    | cons hm hr =>
    cases hr
    split at h
    · rename_i elem hu
      split at h
      · rename_i h0
        subst h0
        simp only [Option.some.injEq] at h
        subst h
        refine ⟨w, ?_, Step.refl hs⟩
        cases hm <;>
        · unfold Builtin.clear_
          simp only [List.getElem?_toArray, List.getElem?_cons_zero, Sem.run_bind, run_underlying hu, Result.andThen_ok, Sem.run_pure]
      · rename_i h0
        split at h
        · rename_i z hz
          obtain ⟨hz1, hz2⟩ := azero_good hz w
          have key : ∀ (l : Loc) c', φ b = some l → ∃ w', (Builtin.clear_ (t :: rest).toArray ty [Value.slice (some ⟨l.blk, l.shift + o, none⟩) n c'].toArray).run E.P w = .ok (.tuple #[]) w' ∧ Step E N0 φ S w φ S' w' := by
            intro l c' hl
            obtain ⟨w', k1, k2⟩ := aputCells_good hs hl (VRL.of_pfL φ _ (pf_zeroCells hz2 n)) h
            refine ⟨w', ?_, k2⟩
            obtain ⟨m, rfl⟩ : ∃ m, n = m + 1 := ⟨n - 1, by omega⟩
            unfold Builtin.clear_
            simp only [List.getElem?_toArray, List.getElem?_cons_zero, Sem.run_bind, run_underlying hu, Result.andThen_ok, hz1, k1, Sem.run_pure]
          cases hm with
          | slc hb hc => exact key _ _ hb
          | slo hb hn hc => exact key _ _ hb
          | sle => omega
        · cases h
    · cases h
  · cases h

theorem acopy_good (hs : Sim E N0 φ S w) (ty : TypeId) {tys : List TypeId} {args args' : List Value} {v : Value} {S' : St} (ha : VRL φ args args') (h : acopy E tys args S = some (v, S')) :
    ∃ w' v', (Builtin.copy_ tys.toArray ty args'.toArray).run E.P w = .ok v' w' ∧ Step E N0 φ S w φ S' w' ∧ VR φ v v' := by
  unfold acopy at h
  split at h
  · rename_i t rest b o dn c x
    cases ha with
    | cons hm hr =>
    cases hr with
    | cons hx hr2 =>
    cases hr2
    rename_i x'
    split at h
    · rename_i elem sn hu hn
      have hn' : alen x' = some sn := hx.alen ▸ hn
      split at h
      · rename_i i hi
        split at h
        · rename_i hle
          split at h
          · rename_i xs hxs
            obtain ⟨new', g1, g2, g3⟩ := acells_good hs hx hxs hn
            have hmin : Nat.min sn dn = sn := Nat.min_eq_left hle
            split at h
            · rename_i h0
              subst h0
              simp only [Option.some.injEq, Prod.mk.injEq] at h
              obtain ⟨rfl, rfl⟩ := h
              have hnil : new' = #[] := by
                have := g2.length
                apply Array.eq_empty_of_size_eq_zero
                simp at this
                omega
              subst hnil
              refine ⟨w, goInt 0, ?_, Step.refl hs, .int _ _⟩
              cases hm <;>
              · unfold Builtin.copy_
                simp only [List.getElem?_toArray, List.getElem?_cons_zero, List.getElem?_cons_succ, Sem.run_bind, run_underlying hu, Result.andThen_ok, run_lenOf hn', hmin, run_sizeOf hi, g1, run_store_nil, Sem.run_pure]
                rfl
            · rename_i h0
              simp only [Option.map_eq_some_iff, Prod.mk.injEq] at h
              obtain ⟨S1, h, rfl, rfl⟩ := h
              have key : ∀ (l : Loc) c', φ b = some l → ∃ w' v', (Builtin.copy_ (t :: rest).toArray ty [Value.slice (some ⟨l.blk, l.shift + o, none⟩) dn c', x'].toArray).run E.P w = .ok v' w' ∧ Step E N0 φ S w φ S1 w' ∧ VR φ (goInt sn) v' := by
                intro l c' hl
                obtain ⟨w', k1, k2⟩ := aputCells_good hs hl g2 h
                refine ⟨w', goInt sn, ?_, k2, .int _ _⟩
                unfold Builtin.copy_
                simp only [List.getElem?_toArray, List.getElem?_cons_zero, List.getElem?_cons_succ, Sem.run_bind, run_underlying hu, Result.andThen_ok, run_lenOf hn', hmin, run_sizeOf hi, g1, k1, Sem.run_pure]
              cases hm with
              | slc hb hc => exact key _ _ hb
              | slo hb hn hc => exact key _ _ hb
              | sle => omega
          · cases h
        · cases h
      · cases h
    · cases h
  · cases h
end
end Go.Abs

namespace Go.Abs
open Go Go.RowKit

section
variable {E : Env} {N0 : Nat} {φ : Phi} {S : St} {w : World}

theorem Good.ofv {s : Sem Value} {v : Value} {S' : St} (h : ∃ φ' w' v', s.run E.P w = .ok v' w' ∧ Step E N0 φ S w φ' S' w' ∧ VR φ' v v') :
    Good E N0 φ S w (do pure (Next.value (← s))) (.value v) S' := by
  obtain ⟨φ', w', v', h1, h2, h3⟩ := h
  exact ⟨φ', w', .value v', by simp [h1], h2, h3⟩

theorem Good.ofv4 {s : Sem Value} {nx : Next} {S' : St} (h : ∃ φ' w' v v', s.run E.P w = .ok v' w' ∧ Step E N0 φ S w φ' S' w' ∧ nx = .value v ∧ VR φ' v v') :
    Good E N0 φ S w (do pure (Next.value (← s))) nx S' := by
  obtain ⟨φ', w', v, v', h1, h2, rfl, h3⟩ := h
  exact ⟨φ', w', .value v', by simp [h1], h2, h3⟩

theorem Good.ofval (hs : Sim E N0 φ S w) {s : Sem Value} {r : Option Value} {nx : Next} {S' : St} (hv : val S r = some (nx, S')) (h : ∀ v, r = some v → ∃ v', s.run E.P w = .ok v' w ∧ VR φ v v') :
    Good E N0 φ S w (do pure (Next.value (← s))) nx S' := by
  unfold val at hv
  simp only [Option.map_eq_some_iff, Prod.mk.injEq] at hv
  obtain ⟨v, hr, rfl, rfl⟩ := hv
  obtain ⟨v', h1, h2⟩ := h v hr
  exact Good.still hs (nx' := .value v') (by simp [h1]) h2

theorem VRL.ofmap {ρ ρ' : Operand → Value} : ∀ {l : List Operand}, (∀ x ∈ l, VR φ (ρ x) (ρ' x)) → VRL φ (l.map ρ) (l.map ρ')
  | [], _ => .nil
  | x :: l, h => .cons (h x (by simp)) (VRL.ofmap fun y hy => h y (by simp [hy]))

theorem map_toArray (a : Array Operand) (ρ : Operand → Value) : (a.toList.map ρ).toArray = a.map ρ := by
  apply Array.ext'
  simp

theorem PartsR.ofmap {ρ ρ' : Operand → Value} {ps : Array (Nat × Operand)} (h : ∀ x ∈ (ps.toList.map (·.2)).toArray, VR φ (ρ x) (ρ' x)) :
    PartsR φ (ps.toList.map fun p => (p.1, ρ p.2)) (ps.toList.map fun p => (p.1, ρ' p.2)) := by
  refine ⟨by simp, ?_⟩
  intro i x x' hx hx'
  simp only [List.getElem?_map, Option.map_eq_some_iff] at hx hx'
  obtain ⟨p, hp, rfl⟩ := hx
  obtain ⟨p', hp', rfl⟩ := hx'
  rw [hp] at hp'
  cases hp'
  refine ⟨rfl, h p.2 ?_⟩
  simp only [List.mem_toArray, List.mem_map]
  exact ⟨p, List.mem_of_getElem? hp, rfl⟩

theorem parts_toArray (ps : Array (Nat × Operand)) (ρ : Operand → Value) : (ps.toList.map fun p => (p.1, ρ p.2)).toArray = ps.map fun (i, x) => (i, ρ x) := by
  apply Array.ext'
  simp

theorem OptVR.ofmap {ρ ρ' : Operand → Value} {x : Option Operand} (h : ∀ y ∈ x.toArray, VR φ (ρ y) (ρ' y)) : OptVR φ (x.map ρ) (x.map ρ') := by
  cases x with
  | none => trivial
  | some y => exact h y (by simp)

theorem acallee_good (hP : ProgOK E) (hs : Sim E N0 φ S w) {ρ ρ' : Operand → Value} {o : Oper} (hρ : ∀ x ∈ o.op.operands, VR φ (ρ x) (ρ' x)) {f : Operand} {c : Call} (ho : o.op = .call c) (hc : c.callee = .value f)
    {nx : Next} {S' : St} (h : acallee E ρ o (ρ f) (c.args.toList.map ρ) S = some (nx, S')) : Good E N0 φ S w (execOp ρ' o) nx S' := by
  have hops : ∀ x, x = f ∨ x ∈ c.args → VR φ (ρ x) (ρ' x) := by
    intro x hx
    refine hρ x ?_
    rw [ho]
    simp only [Op.operands, Call.operands, hc]
    simpa using hx
  have hargs : VRL φ (c.args.toList.map ρ) (c.args.toList.map ρ') := VRL.ofmap fun x hx => hops x (.inr (by simpa using hx))
  have hf := hops f (.inl rfl)
  have hex : execOp ρ' o = (do let d ← Deferred.ofValue (ρ' f) (c.args.map ρ'); invoke d.target d.args) := by
    unfold execOp
    rw [ho]
    simp only [resolve, hc]
  unfold acallee at h
  split at h
  · rename_i fid first captured he
    rw [he] at hf
    generalize hq : ρ' f = fv at hf hex
    cases hf with
    | func hy h1 h2 =>
    rename_i first' captured'
    split at h
    · rename_i hb
      simp only [Option.some.injEq, Prod.mk.injEq] at h
      obtain ⟨rfl, rfl⟩ := h
      refine Good.still hs (nx' := .enter fid (first' ++ c.args.map ρ' ++ captured')) ?_ ⟨rfl, ?_⟩
      · rw [hex]
        simp only [Deferred.ofValue, Sem.run_bind, Sem.run_pure, Result.andThen_ok, invoke, run_callFunc hP hb]
      · simpa using (h1.append hargs).append h2
    · split at h
      · rename_i hid
        split at h
        · rename_i v hv
          simp only [Option.some.injEq, Prod.mk.injEq] at h
          obtain ⟨rfl, rfl⟩ := h
          have hall := (h1.append hargs).append h2
          rw [hv] at hall
          generalize hq2 : first'.toList ++ c.args.toList.map ρ' ++ captured'.toList = l2 at hall
          cases hall with
          | cons hvv hn =>
          cases hn
          rename_i v'
          refine Good.still hs (nx' := .value v') ?_ hvv
          rw [hex]
          simp only [Deferred.ofValue, Sem.run_bind, Sem.run_pure, Result.andThen_ok, invoke]
          have : first' ++ c.args.map ρ' ++ captured' = #[v'] := by
            apply Array.ext'
            simpa using hq2
          rw [this]
          exact hP.ident fid hid v' w
        · cases h
      · exact apure_good hs hρ h
  · cases h

theorem aop_good (hP : ProgOK E) (hs : Sim E N0 φ S w) {ρ ρ' : Operand → Value} {o : Oper} (hρ : ∀ x ∈ o.op.operands, VR φ (ρ x) (ρ' x)) {nx : Next} {S' : St}
    (h : aop E ρ o S = some (nx, S')) : Good E N0 φ S w (execOp ρ' o) nx S' := by
  unfold aop at h
  split at h
  · rename_i x ho
    simp only [Option.some.injEq, Prod.mk.injEq] at h
    obtain ⟨rfl, rfl⟩ := h
    refine Good.still hs (nx' := .value (ρ' x)) ?_ (hρ x (by rw [ho]; simp [Op.operands]))
    unfold execOp; rw [ho]; rfl
  · rename_i x ho
    simp only [Option.some.injEq, Prod.mk.injEq] at h
    obtain ⟨rfl, rfl⟩ := h
    refine Good.still hs (nx' := .value (ρ' x)) ?_ (hρ x (by rw [ho]; simp [Op.operands]))
    unfold execOp; rw [ho]; rfl
  · rename_i c a b ho
    split at h
    · rename_i t ht
      simp only [Option.some.injEq, Prod.mk.injEq] at h
      obtain ⟨rfl, rfl⟩ := h
      have hc := hρ c (by rw [ho]; simp [Op.operands])
      rw [ht] at hc
      have hc' := hc.bool_inv
      refine Good.still hs (nx' := .value (if t then ρ' a else ρ' b)) ?_ ?_
      · unfold execOp; rw [ho]; simp [hc', asBool]
      · cases t
        · exact hρ b (by rw [ho]; simp [Op.operands])
        · exact hρ a (by rw [ho]; simp [Op.operands])
    · cases h
  · rename_i elem ho
    split at h
    · rename_i z hz
      split at h
      · rename_i hpz
        simp only [Option.some.injEq, Prod.mk.injEq] at h
        obtain ⟨rfl, rfl⟩ := h
        obtain ⟨φ', w', h1, h2, h3⟩ := alloc_good hs hz hpz (.tuple #[])
        unfold execOp; rw [ho]
        exact Good.ofv ⟨φ', w', _, h1, h2, h3⟩
      · cases h
    · cases h
  · rename_i elem x ho
    simp only [Option.some.injEq, Prod.mk.injEq] at h
    obtain ⟨rfl, rfl⟩ := h
    obtain ⟨φ', w', h1, h2, h3⟩ := box_good hs elem (hρ x (by rw [ho]; simp [Op.operands]))
    unfold execOp; rw [ho]
    exact Good.ofv ⟨φ', w', _, h1, h2, h3⟩
  · rename_i t parts ho
    unfold execOp; rw [ho]
    refine Good.ofval hs h fun v hv => ?_
    have := abuild_good (PartsR.ofmap (ρ := ρ) (ρ' := ρ') (φ := φ) fun x hx => hρ x (by rw [ho]; exact hx)) hv w
    rw [parts_toArray] at this
    exact this
  · rename_i t len parts ho
    unfold execOp; rw [ho]
    refine Good.ofv4 ?_
    have := abuildSlice_good hs (PartsR.ofmap (ρ := ρ) (ρ' := ρ') (φ := φ) fun x hx => hρ x (by rw [ho]; exact hx)) h
    rw [parts_toArray] at this
    exact this
  · rename_i t a ho
    unfold execOp; rw [ho]
    exact Good.ofval hs h fun v hv => aload_good hs (hρ a (by rw [ho]; simp [Op.operands])) hv
  · rename_i t a x ho
    simp only [Option.map_eq_some_iff, Prod.mk.injEq] at h
    obtain ⟨S1, h, rfl, rfl⟩ := h
    obtain ⟨w', h1, h2⟩ := astore_good hs (hρ a (by rw [ho]; simp [Op.operands])) (hρ x (by rw [ho]; simp [Op.operands])) h
    refine ⟨φ, w', .skip, ?_, h2, trivial⟩
    unfold execOp; rw [ho]
    simp [h1]
  · rename_i x ho
    have hx := hρ x (by rw [ho]; simp [Op.operands])
    split at h
    · rename_i a ha
      simp only [Option.some.injEq, Prod.mk.injEq] at h
      obtain ⟨rfl, rfl⟩ := h
      rw [ha] at hx
      generalize hq : ρ' x = xv at hx
      have hx0 := hx
      cases hx with
      | ptr hl =>
      refine Good.still hs (nx' := .value _) ?_ hx0
      unfold execOp; rw [ho]; simp [hq]
    · rename_i t v hv
      simp only [Option.some.injEq, Prod.mk.injEq] at h
      obtain ⟨rfl, rfl⟩ := h
      rw [hv] at hx
      generalize hq : ρ' x = xv at hx
      have hx0 := hx
      cases hx with
      | iface _ hl =>
      refine Good.still hs (nx' := .value _) ?_ hx0
      unfold execOp; rw [ho]; simp [hq]
    · cases h
  · rename_i op t x y yt ho
    split at h
    · exact apure_good hs hρ h
    · have hx := hρ x (by rw [ho]; simp [Op.operands])
      have hy := hρ y (by rw [ho]; simp [Op.operands])
      unfold aeqOp at h
      unfold execOp; rw [ho]
      split at h
      · rename_i b hb
        simp only [Option.some.injEq, Prod.mk.injEq] at h
        obtain ⟨rfl, rfl⟩ := h
        obtain ⟨f1, f2, f3⟩ := aeq_form hx hy hb
        refine Good.ofv ⟨φ, w, .bool b, ?_, Step.refl hs, .bool _⟩
        simp only [Sem.run_bind, run_eqGuard_skip E.P .eql t x y _ _ w f1 f2, Result.andThen_ok, (run_binOp_eq E.P t _ _ w f3 (aeq_good hx hy hb w)).1]
      · rename_i b hb
        simp only [Option.some.injEq, Prod.mk.injEq] at h
        obtain ⟨rfl, rfl⟩ := h
        obtain ⟨f1, f2, f3⟩ := aeq_form hx hy hb
        refine Good.ofv ⟨φ, w, .bool (!b), ?_, Step.refl hs, .bool _⟩
        simp only [Sem.run_bind, run_eqGuard_skip E.P .neq t x y _ _ w f1 f2, Result.andThen_ok, (run_binOp_eq E.P t _ _ w f3 (aeq_good hx hy hb w)).2]
      · cases h
  · rename_i t x ho
    unfold execOp; rw [ho]
    exact Good.ofval hs h fun v hv => amakeInterface_good (hρ x (by rw [ho]; simp [Op.operands])) hv w
  · rename_i fn first captured ho
    split at h
    · cases h
    · rename_i hny
      simp only [Option.some.injEq, Prod.mk.injEq] at h
      obtain ⟨rfl, rfl⟩ := h
      unfold execOp; rw [ho]
      refine Good.ofv ⟨φ, w, .func fn (first.map ρ') (captured.map ρ'), rfl, Step.refl hs, .func (fun l hl => hny l hl) ?_ ?_⟩
      · rw [Array.toList_map, Array.toList_map]
        exact VRL.ofmap fun x hx => hρ x (by rw [ho]; simp [Op.operands]; exact .inl (by simpa using hx))
      · rw [Array.toList_map, Array.toList_map]
        exact VRL.ofmap fun x hx => hρ x (by rw [ho]; simp [Op.operands]; exact .inr (by simpa using hx))
  · rename_i t l c ho
    unfold execOp; rw [ho]
    exact Good.ofv4 (amakeSlice_good hs (hρ l (by rw [ho]; simp [Op.operands])) (hρ c (by rw [ho]; simp [Op.operands])) h)
  · rename_i t x lo hi mx ho
    split at h
    · exact apure_good hs hρ h
    · unfold execOp; rw [ho]
      refine Good.ofval hs h fun v hv => aslice_good hs (hρ x ?_) (OptVR.ofmap fun y hy => hρ y ?_) (OptVR.ofmap fun y hy => hρ y ?_) (OptVR.ofmap fun y hy => hρ y ?_) hv
      all_goals (rw [ho]; simp only [Op.operands, Array.mem_append])
      · simp
      · exact .inl (.inl (.inr hy))
      · exact .inl (.inr hy)
      · exact .inr hy
  · rename_i t x f ho
    unfold execOp; rw [ho]
    exact Good.ofval hs h fun v hv => afieldAddr_good (hρ x (by rw [ho]; simp [Op.operands])) hv
  · rename_i t x f ho
    unfold execOp; rw [ho]
    exact Good.ofval hs h fun v hv => afield_good (hρ x (by rw [ho]; simp [Op.operands])) hv w
  · rename_i t x i ho
    unfold execOp; rw [ho]
    exact Good.ofval hs h fun v hv => aindexAddr_good (hρ x (by rw [ho]; simp [Op.operands])) (hρ i (by rw [ho]; simp [Op.operands])) hv
  · rename_i t x i ho
    split at h
    · exact apure_good hs hρ h
    · unfold execOp; rw [ho]
      exact Good.ofval hs h fun v hv => aindex_good (hρ x (by rw [ho]; simp [Op.operands])) (hρ i (by rw [ho]; simp [Op.operands])) hv w
  · rename_i t x ho
    split at h
    · rename_i s hx hu
      simp only [Option.some.injEq, Prod.mk.injEq] at h
      obtain ⟨rfl, rfl⟩ := h
      have hx' := hρ x (by rw [ho]; simp [Op.operands])
      rw [hx] at hx'
      have hx2 := hx'.string_inv
      obtain ⟨φ', w', h1, h2, h3⟩ := range_good hs s hu
      unfold execOp; rw [ho]
      exact Good.ofv ⟨φ', w', _, by rw [hx2]; exact h1, h2, h3⟩
    · cases h
  · rename_i it isS ho
    split at h
    · rename_i hisS
      subst hisS
      obtain ⟨w', v, v', h1, h2, rfl, h3⟩ := anext_good hs (hρ it (by rw [ho]; simp [Op.operands])) o.type h
      unfold execOp; rw [ho]
      exact Good.ofv ⟨φ, w', v', h1, h2, h3⟩
    · cases h
  · rename_i x xt asserted ok ho
    split at h
    · exact apure_good hs hρ h
    · unfold execOp; rw [ho]
      exact Good.ofval hs h fun v hv => atypeAssert_good (hρ x (by rw [ho]; simp [Op.operands])) hv w
  · rename_i t ix ho
    unfold execOp; rw [ho]
    exact Good.ofval hs h fun v hv => aextract_good (hρ t (by rw [ho]; simp [Op.operands])) hv E.P w
  · rename_i src dst x ho
    have hx := hρ x (by rw [ho]; simp [Op.operands])
    split at h
    · unfold execOp; rw [ho]
      exact Good.ofv4 (aconvert_good hs hx h)
    · unfold execOp; rw [ho]
      obtain ⟨v, v', h1, rfl, rfl, h2⟩ := aunsafePtr_good hs hx h
      exact Good.ofv ⟨φ, w, v', h1, Step.refl hs, h2⟩
    · split at h
      · exact apure_good hs hρ h
      · unfold execOp; rw [ho]
        exact Good.ofv4 (aconvert_good hs hx h)
  · rename_i c ho
    have hargs : ∀ b, c.callee = .builtin b → VRL φ (c.args.toList.map ρ) (c.args.toList.map ρ') := by
      intro b hb
      refine VRL.ofmap fun x hx => hρ x ?_
      rw [ho]
      simp only [Op.operands, Call.operands, hb]
      simpa using hx
    have hbi : ∀ b, c.callee = .builtin b → execOp ρ' o = builtin b c.argTypes o.type (c.args.map fun | .const _ => true | _ => false) (c.args.map ρ') := by
      intro b hb
      unfold execOp
      rw [ho]
      simp only [resolve, hb]
      rfl
    split at h
    · rename_i hc
      simp only [Option.map_eq_some_iff, Prod.mk.injEq] at h
      obtain ⟨⟨v, S1⟩, h, rfl, rfl⟩ := h
      have := aappend_good hs o.type (hargs _ hc) h
      rw [map_toArray, Array.toArray_toList] at this
      rw [hbi _ hc]
      exact Good.ofv this
    · rename_i hc
      split at h
      · exact apure_good hs hρ h
      · rw [hbi _ hc]
        refine Good.ofval hs h fun v hv => ?_
        have := alenOp_good (E := E) o.type (hargs _ hc) hv w
        rw [map_toArray, Array.toArray_toList] at this
        exact ⟨v, this.1, this.2⟩
    · rename_i hc
      split at h
      · exact apure_good hs hρ h
      · rw [hbi _ hc]
        refine Good.ofval hs h fun v hv => ?_
        have := asliceData_good (E := E) (w := w) c.argTypes o.type (hargs _ hc) hv
        rw [map_toArray] at this
        exact this
    · rename_i hc
      split at h
      · exact apure_good hs hρ h
      · rw [hbi _ hc]
        have := aunsafeString_good hs o.type (hargs _ hc) h
        rw [map_toArray, Array.toArray_toList] at this
        exact Good.ofv4 this
    · rename_i hc
      simp only [Option.map_eq_some_iff, Prod.mk.injEq] at h
      obtain ⟨S1, h, rfl, rfl⟩ := h
      rw [hbi _ hc]
      obtain ⟨w', h1, h2⟩ := aclear_good hs o.type (hargs _ hc) h
      rw [map_toArray, Array.toArray_toList] at h1
      exact Good.ofv ⟨φ, w', _, h1, h2, .tuple .nil⟩
    · rename_i hc
      simp only [Option.map_eq_some_iff, Prod.mk.injEq] at h
      obtain ⟨⟨v, S1⟩, h, rfl, rfl⟩ := h
      rw [hbi _ hc]
      obtain ⟨w', v', h1, h2, h3⟩ := acopy_good hs o.type (hargs _ hc) h
      rw [map_toArray, Array.toArray_toList] at h1
      exact Good.ofv ⟨φ, w', v', h1, h2, h3⟩
    · rename_i hc
      simp only [Option.map_eq_some_iff, Prod.mk.injEq] at h
      obtain ⟨S1, h, rfl, rfl⟩ := h
      rw [hbi _ hc]
      obtain ⟨w', h1, h2⟩ := adelete_good hs o.type (hargs _ hc) h
      rw [map_toArray, Array.toArray_toList] at h1
      exact Good.ofv ⟨φ, w', _, h1, h2, .tuple .nil⟩
    · exact apure_good hs hρ h
    · rename_i f hc
      exact acallee_good hP hs hρ ho hc h
    · rename_i r m hc
      simp only [Option.map_eq_some_iff, Prod.mk.injEq] at h
      obtain ⟨nx1, h, rfl, rfl⟩ := h
      have hops : ∀ x, x = r ∨ x ∈ c.args → VR φ (ρ x) (ρ' x) := by
        intro x hx
        refine hρ x ?_
        rw [ho]
        simp only [Op.operands, Call.operands, hc]
        simpa using hx
      obtain ⟨nx', h1, h2⟩ := ainvoke_good hP (hops r (.inl rfl)) (VRL.ofmap fun x hx => hops x (.inr (by simpa using hx))) h w
      refine Good.still hs (nx' := nx') ?_ h2
      have hex : execOp ρ' o = invoke (.fn (.method m) #[]) (#[ρ' r] ++ c.args.map ρ') := by
        unfold execOp
        rw [ho]
        simp only [resolve, hc]
        rfl
      rw [hex]
      unfold invoke
      have e0 : (#[ρ' r] ++ c.args.map ρ')[0]? = some (ρ' r) := by rw [← Array.getElem?_toList, Array.toList_append]; rfl
      have e1 : (#[ρ' r] ++ c.args.map ρ').extract 1 (#[ρ' r] ++ c.args.map ρ').size = (c.args.toList.map ρ').toArray := by
        apply Array.ext'
        simp
        exact List.take_of_length_le (by simp)
      simp only [e0, e1]
      exact h1
  · rename_i t ho
    simp only [Option.some.injEq, Prod.mk.injEq] at h
    obtain ⟨rfl, rfl⟩ := h
    obtain ⟨φ', w', h1, h2, h3⟩ := amakeMap_good hs t
    unfold execOp; rw [ho]
    exact Good.ofv ⟨φ', w', _, h1, h2, h3⟩
  · rename_i t m k ok ho
    unfold execOp; rw [ho]
    exact Good.ofval hs h fun v hv => alookup_good hs (hρ m (by rw [ho]; simp [Op.operands])) (hρ k (by rw [ho]; simp [Op.operands])) hv
  · rename_i t m k x ho
    simp only [Option.map_eq_some_iff, Prod.mk.injEq] at h
    obtain ⟨S1, h, rfl, rfl⟩ := h
    obtain ⟨w', h1, h2⟩ := amapUpdate_good hs (hρ m (by rw [ho]; simp [Op.operands])) (hρ k (by rw [ho]; simp [Op.operands])) (hρ x (by rw [ho]; simp [Op.operands])) h
    refine ⟨φ, w', .skip, ?_, h2, trivial⟩
    unfold execOp; rw [ho]
    simp [h1]
  · rename_i t m k x ho
    simp only [Option.map_eq_some_iff, Prod.mk.injEq] at h
    obtain ⟨S1, h, rfl, rfl⟩ := h
    obtain ⟨w', h1, h2⟩ := amapUpdate_good hs (hρ m (by rw [ho]; simp [Op.operands])) (hρ k (by rw [ho]; simp [Op.operands])) (hρ x (by rw [ho]; simp [Op.operands])) h
    refine ⟨φ, w', .skip, ?_, h2, trivial⟩
    unfold execOp; rw [ho]
    simp [h1]
  · rename_i t m k ho
    simp only [Option.map_eq_some_iff, Prod.mk.injEq] at h
    obtain ⟨⟨v, S1⟩, h, rfl, rfl⟩ := h
    obtain ⟨φ', w', v', h1, h2, h3⟩ := amapEntry_good hs (hρ m (by rw [ho]; simp [Op.operands])) (hρ k (by rw [ho]; simp [Op.operands])) h
    unfold execOp; rw [ho]
    exact Good.ofv ⟨φ', w', v', h1, h2, h3⟩
  · rename_i t m s x ho
    simp only [Option.map_eq_some_iff, Prod.mk.injEq] at h
    obtain ⟨S1, h, rfl, rfl⟩ := h
    obtain ⟨w', h1, h2⟩ := aentryStore_good (t := t) hs (hρ m (by rw [ho]; simp [Op.operands])) (hρ s (by rw [ho]; simp [Op.operands])) (hρ x (by rw [ho]; simp [Op.operands])) h
    refine ⟨φ, w', .skip, ?_, h2, trivial⟩
    unfold execOp; rw [ho]
    simp [h1]
  · exact apure_good hs hρ h

end
end Go.Abs

namespace Go.Abs
open Go Go.RowKit

/-- What a step of the evaluator leaves of its heap. -/
structure KS (E : Env) (S S' : St) : Prop where
  n_eq : S.n = E.base + S.h.length → S'.n = E.base + S'.h.length
  n_le : S.n ≤ S'.n
  low_le : S'.low ≤ S.low
  keep : S.n = E.base + S.h.length → ∀ b, b < S.n → b < S'.low → S'.get E b = S.get E b

section
variable {E : Env} {S S1 S2 : St}
theorem KS.refl : KS E S S := ⟨id, Nat.le_refl _, Nat.le_refl _, fun _ _ _ _ => rfl⟩
theorem KS.trans (h : KS E S S1) (k : KS E S1 S2) : KS E S S2 :=
  ⟨fun e => k.n_eq (h.n_eq e), Nat.le_trans h.n_le k.n_le, Nat.le_trans k.low_le h.low_le, fun e b hb hl =>
    (k.keep (h.n_eq e) b (Nat.lt_of_lt_of_le hb h.n_le) hl).trans (h.keep e b hb (Nat.lt_of_lt_of_le hl k.low_le))⟩
theorem KS.push (x : ABlk) : KS E S (S.push x) :=
  ⟨fun e => by simp [St.push, e]; omega, by simp [St.push], Nat.le_refl _, fun e b hb _ => St.get_push_old e x hb⟩
theorem St.get_set_other (e : S.n = E.base + S.h.length) {y : ABlk} (x : ABlk) {b b' : Nat} (hg : S.get E b = some y) (h : b' < b) : (S.set b x).get E b' = S.get E b' := by
  have hb := St.get_lt e hg
  unfold St.get St.set
  split
  · rfl
  · simp only
    split
    · rename_i h1
      rw [List.getElem?_set_ne (by omega)]
    · rfl
theorem KS.set {b : Nat} {y : ABlk} (hg : S.get E b = some y) (x : ABlk) : KS E S (S.set b x) :=
  ⟨fun e => by simp [St.set, e], Nat.le_refl _, Nat.min_le_left _ _, fun e b' _ hl => St.get_set_other e x hg (Nat.lt_of_lt_of_le hl (Nat.min_le_right _ _))⟩
theorem KS.setPush {b : Nat} {z : ABlk} (hg : S.get E b = some z) (x y : ABlk) : KS E S ((S.set b x).push y) := (KS.set hg x).trans (KS.push y)

theorem val_keep {r : Option Value} {nx : Next} {S' : St} (h : val S r = some (nx, S')) : KS E S S' := by
  unfold val at h
  simp only [Option.map_eq_some_iff, Prod.mk.injEq] at h
  obtain ⟨v, _, _, rfl⟩ := h
  exact .refl

theorem apure_keep {ρ : Operand → Value} {o : Oper} {nx : Next} {S' : St} (h : apure E ρ o S = some (nx, S')) : KS E S S' := by
  unfold apure at h
  split at h
  · split at h
    · split at h
      · simp only [Option.some.injEq, Prod.mk.injEq] at h
        obtain ⟨_, rfl⟩ := h
        exact .refl
      · cases h
    · cases h
  · cases h

theorem abuildSlice_keep {t : TypeId} {len : Nat} {ps : List (Nat × Value)} {nx : Next} {S' : St} (h : abuildSlice E t len ps S = some (nx, S')) : KS E S S' := by
  unfold abuildSlice at h
  repeat' (split at h)
  all_goals first
    | (cases h; done)
    | (simp only [Option.some.injEq, Prod.mk.injEq] at h; obtain ⟨_, rfl⟩ := h; first | exact .refl | exact .push _ | exact .set (by assumption) _ | exact .setPush (by assumption) _ _)

theorem amakeSlice_keep {t : TypeId} {l c : Value} {nx : Next} {S' : St} (h : amakeSlice E t l c S = some (nx, S')) : KS E S S' := by
  unfold amakeSlice at h
  simp only at h
  repeat' (split at h)
  all_goals first
    | (cases h; done)
    | (simp only [Option.some.injEq, Prod.mk.injEq] at h; obtain ⟨_, rfl⟩ := h; first | exact .refl | exact .push _ | exact .set (by assumption) _ | exact .setPush (by assumption) _ _)

theorem anext_keep {it : Value} {nx : Next} {S' : St} (h : anext E it S = some (nx, S')) : KS E S S' := by
  unfold anext at h
  repeat' (split at h)
  all_goals first
    | (cases h; done)
    | (simp only [Option.some.injEq, Prod.mk.injEq] at h; obtain ⟨_, rfl⟩ := h; first | exact .refl | exact .push _ | exact .set (by assumption) _ | exact .setPush (by assumption) _ _)

theorem astore_keep {t : TypeId} {p v : Value} {S' : St} (h : astore E S t p v = some S') : KS E S S' := by
  unfold astore at h
  simp only at h
  repeat' (split at h)
  all_goals first
    | (cases h; done)
    | (simp only [Option.some.injEq] at h; subst h; first | exact .refl | exact .push _ | exact .set (by assumption) _ | exact .setPush (by assumption) _ _)

theorem aconvert_keep {src dst : TypeId} {x : Value} {nx : Next} {S' : St} (h : aconvert E src dst x S = some (nx, S')) : KS E S S' := by
  unfold aconvert at h
  simp only at h
  repeat' (split at h)
  all_goals first
    | (cases h; done)
    | (simp only [Option.some.injEq, Prod.mk.injEq] at h; obtain ⟨_, rfl⟩ := h; first | exact .refl | exact .push _ | exact .set (by assumption) _ | exact .setPush (by assumption) _ _)

theorem aunsafePtr_keep {src dst : TypeId} {x : Value} {nx : Next} {S' : St} (h : aunsafePtr E src dst x S = some (nx, S')) : KS E S S' := by
  unfold aunsafePtr at h
  repeat' (split at h)
  all_goals first
    | (cases h; done)
    | (simp only [Option.some.injEq, Prod.mk.injEq] at h; obtain ⟨_, rfl⟩ := h; first | exact .refl | exact .push _ | exact .set (by assumption) _ | exact .setPush (by assumption) _ _)

theorem aunsafeString_keep {tys : List TypeId} {args : List Value} {nx : Next} {S' : St} (h : aunsafeString E tys args S = some (nx, S')) : KS E S S' := by
  unfold aunsafeString at h
  repeat' (split at h)
  all_goals first
    | (cases h; done)
    | (simp only [Option.some.injEq, Prod.mk.injEq] at h; obtain ⟨_, rfl⟩ := h; first | exact .refl | exact .push _ | exact .set (by assumption) _ | exact .setPush (by assumption) _ _)

theorem aappend_keep {tys : List TypeId} {args : List Value} {v : Value} {S' : St} (h : aappend E tys args S = some (v, S')) : KS E S S' := by
  unfold aappend at h
  repeat' (split at h)
  all_goals first
    | (cases h; done)
    | (simp only [Option.some.injEq, Prod.mk.injEq] at h; obtain ⟨_, rfl⟩ := h; first | exact .refl | exact .push _ | exact .set (by assumption) _ | exact .setPush (by assumption) _ _)

theorem aeqOp_keep {op : BinOp} {t : TypeId} {x y : Value} {nx : Next} {S' : St} (h : aeqOp E op t x y S = some (nx, S')) : KS E S S' := by
  unfold aeqOp at h
  repeat' (split at h)
  all_goals first
    | (cases h; done)
    | (simp only [Option.some.injEq, Prod.mk.injEq] at h; obtain ⟨_, rfl⟩ := h; exact .refl)

theorem acallee_keep {ρ : Operand → Value} {o : Oper} {f : Value} {args : List Value} {nx : Next} {S' : St} (h : acallee E ρ o f args S = some (nx, S')) : KS E S S' := by
  unfold acallee at h
  split at h
  · split at h
    · simp only [Option.some.injEq, Prod.mk.injEq] at h; obtain ⟨_, rfl⟩ := h; exact .refl
    · split at h
      · split at h
        · simp only [Option.some.injEq, Prod.mk.injEq] at h; obtain ⟨_, rfl⟩ := h; exact .refl
        · cases h
      · exact apure_keep h
  · cases h

theorem amapUpdate_keep {t : TypeId} {m k v : Value} {S' : St} (h : amapUpdate E t m k v S = some S') : KS E S S' := by
  unfold amapUpdate at h
  repeat' (split at h)
  all_goals first
    | (cases h; done)
    | (simp only [Option.some.injEq] at h; obtain rfl := h; exact .set (by assumption) _)
theorem aentryStore_keep {m k v : Value} {S' : St} (h : aentryStore E m k v S = some S') : KS E S S' := by
  unfold aentryStore at h
  repeat' (split at h)
  all_goals first
    | (cases h; done)
    | (simp only [Option.some.injEq] at h; obtain rfl := h; exact .set (by assumption) _)
theorem adelete_keep {tys : List TypeId} {args : List Value} {S' : St} (h : adelete E tys args S = some S') : KS E S S' := by
  unfold adelete at h
  repeat' (split at h)
  all_goals first
    | (cases h; done)
    | (simp only [Option.some.injEq] at h; obtain rfl := h; exact .set (by assumption) _)
theorem amapEntry_keep {t : TypeId} {m k : Value} {v : Value} {S' : St} (h : amapEntry E t m k S = some (v, S')) : KS E S S' := by
  unfold amapEntry at h
  repeat' (split at h)
  all_goals first
    | (cases h; done)
    | (simp only [Option.some.injEq, Prod.mk.injEq] at h; obtain ⟨_, rfl⟩ := h; exact .set (by assumption) _)
    | (simp only [Option.map_eq_some_iff, Prod.mk.injEq] at h; obtain ⟨_, _, _, rfl⟩ := h; exact .set (by assumption) _)
theorem aputCells_keep {b o : Nat} {xs : List Value} {S' : St} (h : aputCells E S b o xs = some S') : KS E S S' := by
  unfold aputCells at h
  repeat' (split at h)
  all_goals first
    | (cases h; done)
    | (simp only [Option.some.injEq] at h; obtain rfl := h; exact .set (by assumption) _)
theorem aclear_keep {tys : List TypeId} {args : List Value} {S' : St} (h : aclear E tys args S = some S') : KS E S S' := by
  unfold aclear at h
  repeat' (split at h)
  all_goals first
    | (cases h; done)
    | exact aputCells_keep h
    | (simp only [Option.some.injEq] at h; obtain rfl := h; exact .refl)
theorem acopy_keep {tys : List TypeId} {args : List Value} {v : Value} {S' : St} (h : acopy E tys args S = some (v, S')) : KS E S S' := by
  unfold acopy at h
  repeat' (split at h)
  all_goals first
    | (cases h; done)
    | (simp only [Option.some.injEq, Prod.mk.injEq] at h; obtain ⟨_, rfl⟩ := h; exact .refl)
    | (simp only [Option.map_eq_some_iff, Prod.mk.injEq] at h; obtain ⟨_, h, _, rfl⟩ := h; exact aputCells_keep h)
theorem aop_keep {ρ : Operand → Value} {o : Oper} {nx : Next} {S' : St} (h : aop E ρ o S = some (nx, S')) : KS E S S' := by
  unfold aop at h
  repeat' (split at h)
  all_goals first
    | (cases h; done)
    | exact apure_keep h
    | exact val_keep h
    | exact abuildSlice_keep h
    | exact amakeSlice_keep h
    | exact anext_keep h
    | exact aconvert_keep h
    | exact aunsafePtr_keep h
    | exact aunsafeString_keep h
    | exact aeqOp_keep h
    | exact acallee_keep h
    | (simp only [Option.some.injEq, Prod.mk.injEq] at h; obtain ⟨_, rfl⟩ := h; first | exact .refl | exact .push _ | exact .set (by assumption) _ | exact .setPush (by assumption) _ _)
    | (simp only [Option.map_eq_some_iff, Prod.mk.injEq] at h; obtain ⟨_, h, _, rfl⟩ := h; first | exact astore_keep h | exact aappend_keep h | exact amapUpdate_keep h | exact aentryStore_keep h | exact adelete_keep h | exact aclear_keep h | exact acopy_keep h | exact amapEntry_keep h | exact .refl)

end
end Go.Abs

namespace Go.Abs
open Go Go.RowKit

abbrev CallFn := FuncId → List Value → St → Option (Value × St)

def CallKeep (E : Env) (call : CallFn) : Prop := ∀ f args S v S', call f args S = some (v, S') → KS E S S'

theorem KS.relow {E : Env} {S S1 : St} (h : KS E ⟨S.n, S.h, S.n⟩ S1) : KS E S ⟨S1.n, S1.h, Nat.min S.low S1.low⟩ :=
  ⟨h.n_eq, h.n_le, Nat.min_le_left _ _, fun e b hb hl => h.keep e b hb (Nat.lt_of_lt_of_le hl (Nat.min_le_right _ _))⟩

section
variable {E : Env} {call : CallFn} {ops : Array Oper}

theorem aoper_keep (hc : CallKeep E call) {o : Oper} {t : List Value} {S S' : St} {v : Value} (h : aoper E call ops o t S = some (v, S')) : KS E S S' := by
  unfold aoper at h
  split at h
  · split at h
    · split at h
      · rename_i v1 S1 ha
        simp only [Option.some.injEq, Prod.mk.injEq] at h
        obtain ⟨_, rfl⟩ := h
        exact aop_keep ha
      · rename_i S1 ha
        simp only [Option.some.injEq, Prod.mk.injEq] at h
        obtain ⟨_, rfl⟩ := h
        exact aop_keep ha
      · rename_i f args S1 ha
        exact (aop_keep ha).trans (hc _ _ _ _ _ h)
      · cases h
    · cases h
  · simp only [Option.some.injEq, Prod.mk.injEq] at h
    obtain ⟨_, rfl⟩ := h
    exact .refl

theorem aops_keep (hc : CallKeep E call) : ∀ {l : List Oper} {t : List Value} {S : St} {t' : List Value} {S' : St}, aops E call ops l t S = some (t', S') → KS E S S'
  | [], t, S, t', S', h => by
    simp only [aops, Option.some.injEq, Prod.mk.injEq] at h
    obtain ⟨_, rfl⟩ := h
    exact .refl
  | o :: l, t, S, t', S', h => by
    unfold aops at h
    split at h
    · rename_i v S1 h1
      exact (aoper_keep hc h1).trans (aops_keep hc h)
    · cases h

theorem aopsD_keep (hc : CallKeep E call) {n0 : Nat} : ∀ {l : List Oper} {t : List Value} {S : St} {cs : List Nat} {t' : List Value} {S' : St}, aopsD E call n0 ops l t S = some (cs, t', S') → KS E S S'
  | [], t, S, cs, t', S', h => by
    simp only [aopsD, Option.some.injEq, Prod.mk.injEq] at h
    obtain ⟨_, _, rfl⟩ := h
    exact .refl
  | o :: l, t, S, cs, t', S', h => by
    unfold aopsD at h
    split at h
    · rename_i v S1 h1
      split at h
      · rename_i cs2 t2 S2 h2
        simp only [Option.some.injEq, Prod.mk.injEq] at h
        obtain ⟨_, _, rfl⟩ := h
        exact (KS.relow (aoper_keep hc h1)).trans (aopsD_keep hc h2)
      · cases h
    · cases h
end

theorem keep_both (E : Env) : ∀ (n : Nat), (∀ c t S ex t' S', acode E n c t S = some (ex, t', S') → KS E S S') ∧ CallKeep E (acall E n)
  | 0 => ⟨fun c t S ex t' S' h => by simp [acode] at h, fun f args S v S' h => by simp [acall] at h⟩
  | n + 1 => by
    obtain ⟨ihc, ihf⟩ := keep_both E n
    constructor
    · intro c t S ex t' S' h
      unfold acode at h
      split at h
      · simp only [Option.some.injEq, Prod.mk.injEq] at h; obtain ⟨_, _, rfl⟩ := h; exact .refl
      · simp only [Option.some.injEq, Prod.mk.injEq] at h; obtain ⟨_, _, rfl⟩ := h; exact .refl
      · split at h
        · split at h
          · rename_i h1
            split at h
            · simp only [Option.some.injEq, Prod.mk.injEq] at h; obtain ⟨_, _, rfl⟩ := h; exact aopsD_keep ihf h1
            · cases h
          · cases h
        · split at h
          · rename_i h1
            simp only [Option.some.injEq, Prod.mk.injEq] at h; obtain ⟨_, _, rfl⟩ := h; exact aops_keep ihf h1
          · cases h
      · split at h
        · rename_i h1
          exact (ihc _ _ _ _ _ _ h1).trans (ihc _ _ _ _ _ _ h)
        · exact ihc _ _ _ _ _ _ h
      · split at h
        · exact ihc _ _ _ _ _ _ h
        · exact ihc _ _ _ _ _ _ h
        · cases h
      · split at h
        · rename_i h1
          split at h
          · simp only [Option.some.injEq, Prod.mk.injEq] at h; obtain ⟨_, _, rfl⟩ := h; exact ihc _ _ _ _ _ _ h1
          · simp only [Option.some.injEq, Prod.mk.injEq] at h; obtain ⟨_, _, rfl⟩ := h; exact ihc _ _ _ _ _ _ h1
        · exact ihc _ _ _ _ _ _ h
      · split at h
        · rename_i h1
          exact (ihc _ _ _ _ _ _ h1).trans (ihc _ _ _ _ _ _ h)
        · exact ihc _ _ _ _ _ _ h
      · simp only [Option.some.injEq, Prod.mk.injEq] at h; obtain ⟨_, _, rfl⟩ := h; exact .refl
      · simp only [Option.some.injEq, Prod.mk.injEq] at h; obtain ⟨_, _, rfl⟩ := h; exact .refl
      · cases h
    · intro f args S v S' h
      unfold acall at h
      split at h
      · simp only [Option.some.injEq, Prod.mk.injEq] at h; obtain ⟨_, rfl⟩ := h; exact .refl
      · split at h
        · split at h
          · split at h
            · cases h
            · cases h
            · rename_i ex t S1 _ h1
              split at h
              · simp only at h
                split at h
                · simp only [Option.some.injEq, Prod.mk.injEq] at h; obtain ⟨_, rfl⟩ := h; exact .refl
                · simp only [Option.some.injEq, Prod.mk.injEq] at h; obtain ⟨_, rfl⟩ := h; exact KS.relow (ihc _ _ _ _ _ _ h1)
              · cases h
          · cases h
        · cases h

/-! ### the temporaries -/
section
variable {E : Env} {N0 : Nat} {φ : Phi} {S : St} {w : World}

theorem VR.undef : VR φ undef undef := .tuple .nil

theorem TR_eval {t : List Value} {a : Act} (h : VRL φ t a.tmps.toList) (i : Tmp) : VR φ (aeval t (.tmp i)) (a.eval (.tmp i)) := by
  simp only [aeval, Act.eval, Array.getD_eq_getD_getElem?]
  cases ht : t[i]? with
  | none =>
    have : a.tmps[i]? = none := by
      rw [← Array.getElem?_toList]
      rw [List.getElem?_eq_none_iff] at ht ⊢
      rw [← h.length]; exact ht
    rw [this]
    exact VR.undef
  | some v =>
    obtain ⟨v', h1, h2⟩ := h.get ht
    rw [Array.getElem?_toList] at h1
    rw [h1]
    exact h2

theorem eval_good (hs : Sim E N0 φ S w) {t : List Value} {a : Act} {x : Operand} (hx : ∀ i, x = .tmp i → VR φ (aeval t (.tmp i)) (a.eval (.tmp i)))
    (hok : constOk E x = true) : VR φ (aeval t x) (a.eval x) := by
  cases x with
  | tmp i => exact hx i rfl
  | const v => exact VR.of_pf φ v hok
  | func f => exact .func (fun l hl => by cases hl) .nil .nil
  | global g =>
    obtain ⟨y, hy⟩ := Option.isSome_iff_exists.1 hok
    obtain ⟨_, c, e, fz, rfl, _⟩ := hs.glob.out g y hy
    have := hs.gphi g c e none hy
    exact @VR.ptr φ g 0 _ this

theorem VR.bool_iff {v v' : Value} (h : VR φ v v') (b : Bool) : v = .bool b ↔ v' = .bool b := by
  cases h <;> simp

theorem yielded_eq {ops : Array Oper} {t : List Value} {tmps : Array Value} (j : Nat) (h : ∀ d, ((ops[j]?).bind (·.dst)) = some d → ∃ φ, VR φ ((t[d]?).getD Go.undef) (tmps[d]?.getD Go.undef)) :
    yielded ops tmps j = ayielded ops t j := by
  unfold yielded ayielded
  cases hd : (ops[j]?).bind (·.dst) with
  | none => rfl
  | some d =>
    obtain ⟨φ, this⟩ := h d hd
    simp only [Option.bind_some]
    cases ht : t[d]? with
    | none =>
      cases ht' : tmps[d]? with
      | none => rfl
      | some v' =>
        simp only [ht, ht', Option.getD_none, Option.getD_some] at this
        generalize hu : Go.undef = u at this
        cases this <;> simp [Go.undef] at hu <;> simp
    | some v =>
      cases ht' : tmps[d]? with
      | none =>
        simp only [ht, ht', Option.getD_none, Option.getD_some] at this
        generalize hu : Go.undef = u at this
        cases this <;> simp [Go.undef] at hu <;> simp
      | some v' =>
        simp only [ht, ht', Option.getD_some] at this
        cases this <;> simp

theorem wanted_eq {o : Oper} {y y' : Nat → Option Bool} (h : ∀ j b, o.guard = some (j, b) → y j = y' j) : Region.wanted o y = Region.wanted o y' := by
  unfold Region.wanted
  cases hg : o.guard with
  | none => rfl
  | some x =>
    obtain ⟨j, b⟩ := x
    simp only [h j b hg]

def CallGood (E : Env) (N0 : Nat) (call : CallFn) : Prop := ∀ f args S v S', call f args S = some (v, S') → ∀ φ w args', Sim E N0 φ S w → VRL φ args args' →
  Calls E.P f args'.toArray w fun e w' => ∃ φ' v', e = .returned v' ∧ Step E N0 φ S w φ' S' w' ∧ VR φ' v v'

/-- One operation of a region. -/
theorem aoper_good (hP : ProgOK E) {call : CallFn} (hcall : CallGood E N0 call) (hs : Sim E N0 φ S w) {ops : Array Oper} {o : Oper} {i : Nat} (hi : ops[i]? = some o) {t : List Value} {a : Act}
    (hops : ∀ j, .tmp j ∈ o.op.operands → VR φ (aeval t (.tmp j)) (a.eval (.tmp j)))
    (hg : ∀ j b, o.guard = some (j, b) → ∀ d, ((ops[j]?).bind (·.dst)) = some d → ∃ φ, VR φ ((t[d]?).getD Go.undef) (a.tmps[d]?.getD Go.undef))
    {v : Value} {S' : St} (h : aoper E call ops o t S = some (v, S')) {K : Act → World → Prop} {Q : Exit → Act → World → Prop}
    (hK : ∀ φ' w' v', Step E N0 φ S w φ' S' w' → VR φ' v v' → K (a.put o.dst v') w') : wpOp E.P ops Q i K a w := by
  unfold wpOp
  simp only [hi]
  have hw : Region.wanted o (yielded ops a.tmps) = Region.wanted o (ayielded ops t) := wanted_eq fun j b hgu => yielded_eq j (hg j b hgu)
  rw [hw]
  unfold aoper at h
  split at h
  · rename_i hwa
    rw [if_pos hwa]
    left
    split at h
    · rename_i hok
      have hρ : ∀ x ∈ o.op.operands, VR φ (aeval t x) (a.eval x) := by
        intro x hx
        refine eval_good hs (fun j hj => ?_) ?_
        · subst hj; exact hops j hx
        · unfold opOk at hok
          exact List.all_eq_true.1 hok x (by simpa using hx)
      unfold Oper.wp
      split at h
      · rename_i v1 S1 ha
        simp only [Option.some.injEq, Prod.mk.injEq] at h
        obtain ⟨rfl, rfl⟩ := h
        obtain ⟨φ', w', nx', h1, h2, h3⟩ := aop_good hP hs hρ ha
        rw [h1]
        cases nx' with
        | value v' => exact hK φ' w' v' h2 h3
        | _ => exact h3.elim
      · rename_i S1 ha
        simp only [Option.some.injEq, Prod.mk.injEq] at h
        obtain ⟨rfl, rfl⟩ := h
        obtain ⟨φ', w', nx', h1, h2, h3⟩ := aop_good hP hs hρ ha
        rw [h1]
        cases nx' with
        | skip => exact hK φ' w' _ h2 VR.undef
        | _ => exact h3.elim
      · rename_i f args S1 ha
        obtain ⟨φ', w', nx', h1, h2, h3⟩ := aop_good hP hs hρ ha
        rw [h1]
        cases nx' with
        | enter f' args' =>
          obtain ⟨rfl, h4⟩ := h3
          have := hcall _ _ _ _ _ h φ' w' _ h2.sim h4
          rw [Array.toArray_toList] at this
          refine this.mono ?_
          rintro e w'' ⟨φ'', v', rfl, k1, k2⟩
          exact hK φ'' w'' v' (h2.trans k1) k2
        | _ => exact h3.elim
      · cases h
    · cases h
  · rename_i hwa
    simp only [Option.some.injEq, Prod.mk.injEq] at h
    obtain ⟨rfl, rfl⟩ := h
    rw [if_neg hwa]
    exact hK φ w _ (Step.refl hs) VR.undef

theorem TR_put {t : List Value} {a : Act} (h : VRL φ t a.tmps.toList) (dst : Option Tmp) {v v' : Value} (hv : VR φ v v') : VRL φ (aput t dst v) (a.put dst v').tmps.toList := by
  cases dst with
  | none => exact h
  | some d =>
    simp only [aput, Act.put, Array.toList_setIfInBounds]
    exact h.set d hv

theorem put_defers (a : Act) (dst : Option Tmp) (v : Value) : (a.put dst v).defers = a.defers := by cases dst <;> rfl

/-- The operations of a region, in the order of the text. -/
theorem aops_good (hP : ProgOK E) {call : CallFn} (hcall : CallGood E N0 call) {ops : Array Oper} {Q : Exit → Act → World → Prop} : ∀ (l : List Oper) (i : Nat) {t : List Value} {S : St} {φ : Phi} {w : World} {a : Act} {t' : List Value} {S' : St},
    ops.toList.drop i = l → aops E call ops l t S = some (t', S') → Sim E N0 φ S w → VRL φ t a.tmps.toList →
    (∀ φ' a' w', Step E N0 φ S w φ' S' w' → VRL φ' t' a'.tmps.toList → a'.defers = a.defers → Q .normal a' w') → wpOps E.P ops Q (List.range' i l.length) a w
  | [], i, t, S, φ, w, a, t', S', hl, h, hs, ht, hQ => by
    simp only [aops, Option.some.injEq, Prod.mk.injEq] at h
    obtain ⟨rfl, rfl⟩ := h
    exact hQ φ a w (Step.refl hs) ht rfl
  | o :: l, i, t, S, φ, w, a, t', S', hl, h, hs, ht, hQ => by
    unfold aops at h
    split at h
    · rename_i v S1 h1
      have hi : ops[i]? = some o := by
        rw [← Array.getElem?_toList]
        have := congrArg (fun l => l[0]?) hl
        simpa [List.getElem?_drop] using this
      have hl' : ops.toList.drop (i + 1) = l := by
        have := congrArg (List.drop 1) hl
        simpa [List.drop_drop, Nat.add_comm] using this
      rw [List.length_cons, List.range'_succ, wpOps_cons]
      refine aoper_good hP hcall hs hi (fun j _ => TR_eval ht j) (fun j b _ d _ => ?_) h1 fun φ' w' v' k1 k2 => ?_
      · have := TR_eval ht d
        simp only [aeval, Act.eval, Array.getD_eq_getD_getElem?] at this
        exact ⟨φ, this⟩
      · refine aops_good hP hcall l (i + 1) hl' h k1.sim (TR_put (VRL.mono k1.ext ht) o.dst k2) fun φ'' a' w'' m1 m2 m3 => ?_
        exact hQ φ'' a' w'' (k1.trans m1) m2 (m3.trans (put_defers _ _ _))
    · cases h

end
end Go.Abs
