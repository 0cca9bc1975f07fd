/-
  TopNumbers answers true for every list of pieces and every bytes behind, and leaves them as they were; conditions: the listed package variables hold what the program's text lays (tied by the card).
-/
import Derived.Test.YtimnnacibhjgmaaGreatDoorSx
import Derived.ProofKit
import Derived.OpenShut
import Derived.LaidMore
import Derived.Lay
import Derived.SevenTiedAt
import Derived.Stop.Joined

namespace Go.Abs
open Go Go.RowKit Go.ChangeShapes Go.WideShapes Go.ChangeAt

/-! From the evaluator to a given row. -/

/-- All that is there is read alone. -/
def AllOpn (E : Env) (S : St) : Prop := ∀ b x, S.get E b = some x → ∃ c e, x = .opn c e none

section
variable {E : Env} {N0 : Nat} {φ : Phi} {S : St} {w : World}

theorem AllOpn.base {w : World} (hg : GlobOK E w) : AllOpn E ⟨E.base, [], E.base⟩ := by
  intro b x h
  unfold St.get at h
  split at h
  · obtain ⟨_, c, e, fz, h2, _⟩ := hg.out b x h
    exact ⟨c, e, h2⟩
  · simp at h

theorem AllOpn.push (hn : S.n = E.base + S.h.length) (h : AllOpn E S) (c : List Value) (e : TypeId) : AllOpn E (S.push (.opn c e none)) := by
  intro b x hx
  rw [get_push S _ b hn] at hx
  split at hx
  · exact ⟨c, e, (Option.some.inj hx).symm⟩
  · exact h b x hx

/-- A block of the caller's is read from now on. -/
theorem Sim.adopt (h : Sim E N0 φ S w) (ha : AllOpn E S) (l : Loc) (c : List Value) (e : TypeId) (hx : BR E.P N0 (φ.put S.n l) w l (.opn c e none)) :
    Sim E N0 (φ.put S.n l) (S.push (.opn c e none)) w := by
  have hext : ∀ b l', φ b = some l' → (φ.put S.n l) b = some l' := by
    intro b l' hb
    obtain ⟨y, hy, _⟩ := h.blk b l' hb
    have := St.get_lt h.n_eq hy
    unfold Phi.put
    rw [if_neg (by omega)]; exact hb
  have hput : ∀ b l', (φ.put S.n l) b = some l' → (b = S.n ∧ l' = l) ∨ (b ≠ S.n ∧ φ b = some l') := by
    intro b l' hb
    unfold Phi.put at hb
    split at hb
    · rename_i he; exact .inl ⟨he, (Option.some.inj hb).symm⟩
    · rename_i he; exact .inr ⟨he, hb⟩
  have hall := ha.push h.n_eq c e
  refine ⟨?_, h.glob, h.gN0, ?_, h.N0le, ?_, ?_⟩
  · simp only [St.push, List.length_cons, h.n_eq]; omega
  · intro g c e t hg
    exact hext _ _ (h.gphi g c e t hg)
  · intro b l' hb'
    rcases hput b l' hb' with ⟨rfl, rfl⟩ | ⟨hne, hb2⟩
    · exact ⟨_, St.get_push_new h.n_eq _, hx⟩
    · obtain ⟨y, hy, hy2⟩ := h.blk b l' hb2
      exact ⟨y, (St.get_push_old h.n_eq _ (St.get_lt h.n_eq hy)).trans hy, hy2.mono hext rfl⟩
  · intro b b' l1 l2 h1 h2 hne _
    have there : ∀ k lk, (φ.put S.n l) k = some lk → ∃ x, (S.push (.opn c e none)).get E k = some x := by
      intro k lk hk
      rcases hput k lk hk with ⟨rfl, _⟩ | ⟨_, hk2⟩
      · exact ⟨_, St.get_push_new h.n_eq _⟩
      · obtain ⟨y, hy, _⟩ := h.blk k lk hk2
        exact ⟨y, (St.get_push_old h.n_eq _ (St.get_lt h.n_eq hy)).trans hy⟩
    obtain ⟨x1, hx1⟩ := there b l1 h1
    obtain ⟨x2, hx2⟩ := there b' l2 h2
    obtain ⟨c1, e1, rfl⟩ := hall b x1 hx1
    obtain ⟨c2, e2, rfl⟩ := hall b' x2 hx2
    exact ⟨c1, e1, none, c2, e2, none, hx1, hx2, fun sh hs => by cases hs⟩

/-- What a slice of integers is to the evaluator. -/
def IntsAt (E : Env) (S : St) (v : Value) (k : IntKind) (zs : List Int) : Prop :=
  (v = .slice none 0 0 ∧ zs = []) ∨ (v = .slice (some ⟨0, 0, none⟩) 0 EMPT ∧ zs = []) ∨
  ∃ b cap, v = .slice (some ⟨b, 0, none⟩) zs.length cap ∧ b < S.n ∧ cap < OPEN ∧ St.cells E S b = some (zs.map (Value.int k))

theorem pfL_intsK (k : IntKind) (l : List Int) : pfL (l.map (Value.int k)) = true := by
  rw [pfL_all, List.all_map]
  exact List.all_eq_true.2 fun _ _ => rfl

/-- A slice of integers that came in is read from now on. -/
theorem adopt_ints (h : Sim E N0 φ S w) (ha : AllOpn E S) {H : Type} {enc : TypeId × Value → H} {held : Bool} {t e : TypeId} {k : IntKind} {a0 : Option Addr} {len cap : Nat} {d : DataW H} {ps : List MemPlace}
    (ht : E.P.underlying t = some (.slice e)) (he : E.P.underlying e = some (.int k)) (hc : E.P.cellsOf e = 1) (hd : DataW.Trod enc E.P w 0 (fun _ => true) held t (.slice a0 len cap) d ps) :
    ∃ S' φ' v zs, Sim E N0 φ' S' w ∧ AllOpn E S' ∧ S.n ≤ S'.n ∧ (∀ b, b < S.n → S'.get E b = S.get E b) ∧ (∀ b l, φ b = some l → φ' b = some l) ∧ VR φ' v (.slice a0 len cap) ∧ IntsAt E S' v k zs ∧
      zs.length ≤ maxLen ∧ (∀ n ∈ zs, (Lit.int k n).wf = true) ∧ WF E S' := by
  obtain ⟨fuel, hf⟩ := hd
  rcases open_ints ht he hc hf with ⟨hcs, _⟩ | ⟨a, len', cap', zs, hcs, _, hl, hm, hz, _, hcell, hwz⟩
  · simp [Value.cells] at hcs
    obtain ⟨rfl, rfl, rfl⟩ := hcs
    exact ⟨S, φ, _, [], h, ha, Nat.le_refl _, fun _ _ => rfl, fun _ _ h => h, .snil 0 0, .inl ⟨rfl, rfl⟩, by simp, by simp, h.n_eq⟩
  · simp [Value.cells] at hcs
    obtain ⟨rfl, rfl, rfl⟩ := hcs
    simp only [if_true] at hz
    by_cases h0 : len = 0
    · subst h0
      exact ⟨S, φ, _, [], h, ha, Nat.le_refl _, fun _ _ => rfl, fun _ _ h => h, .sle, .inr (.inl ⟨rfl, rfl⟩), by simp, by simp, h.n_eq⟩
    · have hlz : len ≤ zs.length := by omega
      have c0 := hcell 0 (by omega)
      have ea : a.add 0 = a := by unfold Addr.add; rw [if_pos rfl]
      rw [ea] at c0
      obtain ⟨C, ee, fz, hb, hsp⟩ : ∃ C ee fz, w.heap[a.block]? = some (.cells C ee fz) ∧ a.spot = none := by
        unfold World.cell? at c0
        split at c0
        · rename_i C ee fz hb
          refine ⟨C, ee, fz, hb, ?_⟩
          split at c0
          · cases c0
          · rename_i hs; simpa using hs
        · cases c0
      have hat : ∀ i, i < zs.length → C[a.off + i]? = some (.int k (zs.getD i 0)) := by
        intro i hi
        have := hcell i hi
        unfold World.cell? at this
        have e1 : (a.add i).block = a.block := by unfold Addr.add; split <;> rfl
        have e2 : (a.add i).off = a.off + i := by unfold Addr.add; split <;> simp_all
        have e3 : (a.add i).spot = none := by unfold Addr.add; split <;> simp [hsp]
        rw [e1, hb] at this
        simp only [e3, e2] at this
        simpa using this
      have hend : a.off + zs.length ≤ C.size := by
        have := (Array.getElem?_eq_some_iff.1 (hat (zs.length - 1) (by omega))).1
        omega
      have hcs2 : (C.toList.drop a.off).take (zs.take len).length = (zs.take len).map (Value.int k) := by
        apply List.ext_getElem?
        intro i
        by_cases hi : i < len
        · have := hat i (by omega)
          rw [List.getElem?_take, if_pos (by rw [List.length_take]; omega), List.getElem?_drop, List.getElem?_map, List.getElem?_take, if_pos hi]
          rw [Array.getElem?_toList, this]
          simp [List.getD, List.getElem?_eq_getElem (show i < zs.length by omega)]
        · rw [List.getElem?_eq_none (by simp; omega), List.getElem?_eq_none (by simp; omega)]
      have hadopt := h.adopt ha ⟨a.block, a.off, C.size, E.P.cellsOf ee⟩ ((zs.take len).map (Value.int k)) ee
        ⟨rfl, C, fz, hb, rfl, by simp only [List.length_map, List.length_take]; omega, by
          rw [List.length_map, hcs2]
          exact VRL.of_pfL _ _ (pfL_intsK k _), fun sh hs => by cases hs⟩
      have hmax : cap < OPEN := by
        have : maxLen < OPEN := by decide
        omega
      refine ⟨_, _, .slice (some ⟨S.n, 0, none⟩) len cap, zs.take len, hadopt, ha.push h.n_eq _ _, Nat.le_succ _, fun b hb => St.get_push_old h.n_eq _ hb, ?_, ?_, .inr (.inr ⟨S.n, cap, ?_, Nat.lt_succ_self _, hmax, ?_⟩), by rw [List.length_take]; omega, fun n hn => hwz n (List.mem_of_mem_take hn), ?_⟩
      · intro b l hb'
        have := h.lt hb'
        unfold Phi.put
        rw [if_neg (by omega)]; exact hb'
      · have hput : (φ.put S.n ⟨a.block, a.off, C.size, E.P.cellsOf ee⟩) S.n = some ⟨a.block, a.off, C.size, E.P.cellsOf ee⟩ := if_pos rfl
        have := @VR.slc (φ.put S.n ⟨a.block, a.off, C.size, E.P.cellsOf ee⟩) S.n 0 ⟨a.block, a.off, C.size, E.P.cellsOf ee⟩ len cap hput hmax
        simp only [Nat.add_zero] at this
        have ea2 : (⟨a.block, a.off, none⟩ : Addr) = a := by cases a; simp_all
        rw [ea2] at this
        exact this
      · rw [List.length_take, Nat.min_eq_left hlz]
      · exact cells_opn (St.get_push_new h.n_eq _)
      · exact hadopt.n_eq

theorem IntsAt.mono {S' : St} {v : Value} {k : IntKind} {zs : List Int} (h : IntsAt E S v k zs) (hn : S.n ≤ S'.n) (hg : ∀ b, b < S.n → S'.get E b = S.get E b) : IntsAt E S' v k zs := by
  rcases h with h | h | ⟨b, cap, h1, h2, h3, h4⟩
  · exact .inl h
  · exact .inr (.inl h)
  · refine .inr (.inr ⟨b, cap, h1, by omega, h3, ?_⟩)
    unfold St.cells at h4 ⊢
    rw [hg b h2]; exact h4

/-- A CALL THAT COMES TO TRUE. -/
theorem call_true (hP : ProgOK E) (hR : RegsOK E) (hM : MemoOK E) {f : FuncId} {vs args : List Value} (hs : Sim E w.heap.size φ S w) (hv : VRL φ vs args)
    (hrun : callR E f vs S fun v _ => v = .bool true) : Calls E.P f args.toArray w fun e w' => e = .returned (.bool true) ∧ Below w.heap.size w w' := by
  obtain ⟨n, v, S', hr, rfl⟩ := hrun
  refine ((sound E w.heap.size hP hR hM n).2.2 _ _ _ _ _ hr φ w args hs hv).mono ?_
  rintro e w' ⟨φ', v', rfl, hst, hvr⟩
  cases hvr
  exact ⟨rfl, hst.below⟩
end

/-! The listed tables. -/
section
variable {P : Program} {w : World}
theorem var_block {n : String} {g : Nat} {cs : Array Value} {zero : Array Value} {t : TypeId} (hs : w.ShapedOpen P) (hg : P.globalNamed n = some g) (hlt : g < P.globals.size) (h0 : ((begin P (fun _ _ => 0) default).world.heap[g]?).bind Obj.row? = some (zero, t)) (h : w.var? P n = some cs) :
    w.heap[g]? = some (.cells cs t) := by
  obtain ⟨cs', h1, _, _⟩ := hs.1 g zero t hlt h0
  unfold World.var? at h
  rw [hg, Option.bind_some, h1] at h
  simp only [Option.some.injEq] at h
  rw [← h]; exact h1
variable {H : Type} {enc : TypeId × Value → H} {base : Nat} {sp : Nat → Bool} {held : Bool}
/-- An array of integers, read as these, has these cells. -/
theorem cells_of_ints {t e : TypeId} {n fuel : Nat} {k : IntKind} {cs : List Value} {zs : List Int} {p : List MemPlace} (ht : P.underlying t = some (.array n e)) (he : P.underlying e = some (.int k)) (hc : P.cellsOf e = 1) (hct : P.cellsOf t = n)
    (h : DataW.trod enc P w base sp held fuel t cs = some (.agg (zs.map fun z => .lit (.int k z)), p)) : cs = zs.map (Value.int k) := by
  obtain ⟨xs, m, _, ex, hl, hn, hel⟩ := DataW.trod_array ht h
  have e3 : (xs.map (·.1)) = zs.map fun z => .lit (.int k z) := (DataW.agg.inj (Prod.mk.inj ex).1).symm
  have hzl : zs.length = n := by
    have := congrArg List.length e3
    rw [List.length_map, List.length_map] at this
    omega
  rw [hct] at hl
  apply List.ext_getElem?
  intro i
  by_cases hi : i < n
  · have hE := hel i hi
    rw [hc, Nat.mul_one, List.getElem?_eq_getElem (by omega)] at hE
    obtain ⟨z, e1, e2, _⟩ := DataW.trod_int he hE
    have e4 : (xs.map (·.1))[i]? = (zs.map fun z => (DataW.lit (.int k z) : DataW H))[i]? := by rw [e3]
    rw [List.getElem?_map, List.getElem?_map, List.getElem?_eq_getElem (by omega : i < xs.length), List.getElem?_eq_getElem (by omega : i < zs.length), e2] at e4
    simp only [Option.map_some, Option.some.injEq, DataW.lit.injEq, Lit.int.injEq, true_and] at e4
    have h0 : ((cs.drop i).take 1)[0]? = some (.int k z) := by rw [e1]; rfl
    rw [List.getElem?_map, List.getElem?_eq_getElem (by omega : i < zs.length), ← e4]
    simpa using h0
  · rw [List.getElem?_eq_none (by omega), List.getElem?_eq_none (by simp; omega)]
/-- An array of pairs of integers. -/
theorem cells_of_pairs {t e i0 : TypeId} {n fuel : Nat} {k : IntKind} {f0 f1 : Field} {cs : List Value} {zs : List (Int × Int)} {p : List MemPlace} (ht : P.underlying t = some (.array n e)) (he : P.underlying e = some (.struct #[f0, f1])) (hi0 : P.underlying i0 = some (.int k))
    (g0 : f0.type = i0) (g1 : f1.type = i0) (o0 : f0.offset = 0) (o1 : f1.offset = 1) (hci : P.cellsOf i0 = 1) (hc : P.cellsOf e = 2) (hct : P.cellsOf t = 2 * n)
    (h : DataW.trod enc P w base sp held fuel t cs = some (.agg (zs.map fun z => .agg [.lit (.int k z.1), .lit (.int k z.2)]), p)) : cs = zs.flatMap fun z => [.int k z.1, .int k z.2] := by
  obtain ⟨xs, m, _, ex, hl, hn, hel⟩ := DataW.trod_array ht h
  have e3 : (xs.map (·.1)) = zs.map fun z => .agg [.lit (.int k z.1), .lit (.int k z.2)] := (DataW.agg.inj (Prod.mk.inj ex).1).symm
  have hzl : zs.length = n := by
    have := congrArg List.length e3
    rw [List.length_map, List.length_map] at this
    omega
  rw [hct] at hl
  have each : ∀ i (h : i < zs.length), (cs.drop (i * 2)).take 2 = [.int k zs[i].1, .int k zs[i].2] := by
    intro i hi
    have hE := hel i (by omega)
    rw [hc, List.getElem?_eq_getElem (by omega)] at hE
    obtain ⟨y0, y1, m2, q1, q2, q3, q4⟩ := trod_struct2 he hE
    rw [g0, o0, hci] at q3
    rw [g1, o1, hci] at q4
    obtain ⟨z0, r1, r2, _⟩ := DataW.trod_int hi0 q3
    obtain ⟨z1, r3, r4, _⟩ := DataW.trod_int hi0 q4
    have e4 : (xs.map (·.1))[i]? = (zs.map fun z => (DataW.agg [.lit (.int k z.1), .lit (.int k z.2)] : DataW H))[i]? := by rw [e3]
    rw [List.getElem?_map, List.getElem?_map, List.getElem?_eq_getElem (by omega : i < xs.length), List.getElem?_eq_getElem hi, q1] at e4
    simp only [Option.map_some, Option.some.injEq, DataW.agg.injEq, List.cons.injEq, r2, r4, DataW.lit.injEq, Lit.int.injEq, true_and, and_true] at e4
    rw [← e4.1, ← e4.2]
    rw [hc] at q2
    obtain ⟨a, b, hab⟩ : ∃ a b, (cs.drop (i * 2)).take 2 = [a, b] := by
      match hq : (cs.drop (i * 2)).take 2, q2 with
      | [a, b], _ => exact ⟨a, b, rfl⟩
    rw [hab] at r1 r3 ⊢
    simp at r1 r3
    rw [r1, r3]
  have hgen : ∀ (zs : List (Int × Int)) (cs : List Value), cs.length = 2 * zs.length → (∀ i (h : i < zs.length), (cs.drop (i * 2)).take 2 = [.int k zs[i].1, .int k zs[i].2]) → cs = zs.flatMap fun z => [.int k z.1, .int k z.2] := by
    intro zs
    induction zs with
    | nil => intro cs h _; simpa using h
    | cons z zs ih =>
      intro cs h each
      match cs, h with
      | a :: b :: cs, h =>
        have e0 := each 0 (by simp)
        simp at e0
        obtain ⟨rfl, rfl⟩ := e0
        rw [List.flatMap_cons]
        have := ih cs (by simp at h; omega) (fun i hi => by
          have := each (i + 1) (by simp; omega)
          rw [Nat.succ_mul] at this
          simpa using this)
        rw [← this]
        rfl
      | [], h => simp at h
      | [_], h => simp at h; omega
  exact hgen zs cs (by omega) each
end

/-! The wrap: the row's condition and the world's shape, both. -/
theorem wrap_both {H : Type} {enc : TypeId × Value → H} {a : Assume} {C : Checked} {os : Os} {f : FuncId} {fn : Func} {s : ChangeSpec} {conds : List PathCond} {apart fresh handsOn again : Bool} {X : World → Array Value → Prop}
    (hX : ∀ (w w' : World) (args : Array Value), w.heap = w'.heap → X w args → X w' args)
    (own : ownKnob C.prog.godebug = none) (started : os.Started) (noInit : C.prog.inits.idxOf? f = none) (hfn : C.prog.funcs[f]? = some fn)
    (witness : ∃ (w : World) (tape : Tape) (i : Input), w.os = os ∧ (w.forCall tape i).Shaped C.prog ∧ i.vars = [] ∧ Input.okWide C.prog (w.forCall tape i) .any w.heap.size f i ∧
      ((s.pre enc C.prog fn conds apart (w.forCall tape i).memory i.args ∧ X (w.forCall tape i).memory i.args) ∧ sizedMet enc C.prog fn (OpenSpec.ofChange s) apart (w.forCall tape i).memory i.args) ∧ a.holds C.prog (lone (Frame.enter C.prog f i.args .normal) [] (w.forCall tape i)))
    (contract : ∀ (W : World) (base : Nat) (args : Array Value) (ds gs : List (DataW H)) (before : List MemPlace),
      (∀ (j : Nat) t v, fn.params[j]? = some t → args[j]? = some v → Value.okWide C.prog W .any base t v) →
      DataW.Whole enc C.prog fn.params.toList s.vars apart W args.toList ds gs before →
      conds.all (PathCond.test C.prog ⟨fn.params.toList, ds, s.plain.varTypes C.prog, gs⟩) = true →
      (DataW.weightsEach C.prog (fn.params.toList ++ s.plain.varTypes C.prog) (ds ++ gs)).all (· ≤ reachBytes) = true → X W args → W.ShapedOpen C.prog →
      Calls C.prog f args W fun e W' => ∃ v, e = .returned v ∧ s.post enc C.prog fn apart fresh handsOn again W args v W') :
    ReturnsInHanded a C os f .any (fun w args => (s.pre enc C.prog fn conds apart w args ∧ X w args) ∧ sizedMet enc C.prog fn (OpenSpec.ofChange s) apart w args) (s.post enc C.prog fn apart fresh handsOn again) := by
  refine returnsInHanded_of_calls own started noInit witness ?_
  intro w tape i _ hsh _ hok hpre _
  obtain ⟨_, _, _, fn', hfn', _, _, _, _, hval⟩ := hok
  have e : fn' = fn := Option.some.inj (hfn'.symm.trans hfn)
  subst e
  obtain ⟨⟨⟨ds, gs, before, hw, hc⟩, hx⟩, hz⟩ := hpre
  have hw' := DataW.Whole.of_heap (w' := w.forCall tape i) (by rfl) hw
  refine (contract (w.forCall tape i) w.heap.size i.args ds gs before hval hw' hc (hz.weights hw) (hX _ _ _ (by rfl) hx) hsh).mono fun e W' ⟨v, he, hp⟩ => ?_
  subst he
  exact ChangeSpec.post_blind hp

/-- Below the heap's old size nothing has turned: the arguments read as they did. -/
theorem Below.trodAll {H : Type} {enc : TypeId × Value → H} {P : Program} (hl : laidOutB P = true) {W W' : World} (hb : Below W.heap.size W W') :
    ∀ {ts : List TypeId} {vs : List Value} {ds : List (DataW H)} {ps : List MemPlace}, (ts.all fun t => P.readableRec t && decide (t < P.types.size)) = true → (∀ x ∈ ps, x.block < W.heap.size) →
      DataW.TrodAll enc P W 0 (fun _ => true) true ts vs ds ps → DataW.TrodAll enc P W' 0 (fun b => decide (b < W.heap.size)) true ts vs ds ps
  | [], vs, ds, ps, _, _, h => by
    obtain ⟨rfl, rfl, rfl⟩ := trodAll_nil h
    exact trodAll_mk0
  | t :: ts, vs, ds, ps, hr, hlt, h => by
    obtain ⟨v, vs', d, ds', p, q, rfl, rfl, rfl, h1, h2⟩ := trodAll_cons h
    simp only [List.all_cons, Bool.and_eq_true, decide_eq_true_eq] at hr
    exact ⟨p, q, Go.RowKit.Below.trod hl hr.1.1 hr.1.2 h1 hb (fun x hx => hlt x (List.mem_append_left _ hx)), Below.trodAll hl hb hr.2 (fun x hx => hlt x (List.mem_append_right _ hx)) h2, rfl⟩

/-- The law's row, from a call that comes to true and leaves what was there. -/
theorem post_true {H : Type} {enc : TypeId × Value → H} {P : Program} {fn : Func} {s : ChangeSpec} {fresh handsOn : Bool} {W W' : World} {args : Array Value} {ds : List (DataW H)} {before : List MemPlace} {tb : TypeId}
    (hl : laidOutB P = true) (hr : (fn.params.toList.all fun t => P.readableRec t && decide (t < P.types.size)) = true) (hv : s.vars = []) (hres : fn.resultTypes = #[tb]) (htb : P.underlying tb = some .bool)
    (hfn : (s.fn H ds).results = [.lit (.bool true)] ∧ (s.fn H ds).args = ds ∧ (s.fn H ds).vars = [])
    (hW : DataW.Whole enc P fn.params.toList s.vars false W args.toList ds [] before) (hb : Below W.heap.size W W') :
    s.post enc P fn false fresh handsOn false W args (.bool true) W' := by
  have hlt : ∀ x ∈ before, x.block < W.heap.size := fun x hx => by simpa using hW.lt x hx
  have hW' := hW
  obtain ⟨p, q, hA, hV, rfl, _, _⟩ := hW'
  rw [hv] at hV
  obtain ⟨_, rfl⟩ := trodVars_none hV
  rw [List.append_nil] at hlt
  refine ⟨ds, [], p ++ [], [], p, [], hW, ?_, ?_, ?_, hb.frame _, fun h => by cases h⟩
  · rw [List.append_nil, hfn.1, hres]
    exact trodAll_mk1 (shut_bool htb true)
  · rw [List.append_nil, hfn.2.1]
    exact Below.trodAll hl hb hr hlt hA
  · rw [List.append_nil, hfn.2.2, hv]
    rfl
end Go.Abs

namespace Go.Abs
open Go Go.RowKit Go.ChangeShapes Go.WideShapes Go.ChangeAt
/-! What comes in, opened type by type. -/

/-- Values of type t can be opened: as what R says. -/
structure Ad (E : Env) (t : TypeId) {α : Type} (R : St → List Value → α → Prop) : Prop where
  mono : ∀ {S S' vs y}, R S vs y → S.n ≤ S'.n → (∀ b, b < S.n → S'.get E b = S.get E b) → R S' vs y
  opens : ∀ {N0 φ S w} {H : Type} {enc : TypeId × Value → H} {held fuel cs x}, Sim E N0 φ S w → AllOpn E S → DataW.trod enc E.P w 0 (fun _ => true) held fuel t cs = some x →
    ∃ S' φ' vs y, Sim E N0 φ' S' w ∧ AllOpn E S' ∧ S.n ≤ S'.n ∧ (∀ b, b < S.n → S'.get E b = S.get E b) ∧ (∀ b l, φ b = some l → φ' b = some l) ∧ VRL φ' vs cs ∧ R S' vs y

def RInt (k : IntKind) (_ : St) (vs : List Value) (n : Int) : Prop := vs = [.int k n] ∧ (Lit.int k n).wf = true

theorem adInt {E : Env} {t : TypeId} {k : IntKind} (ht : E.P.underlying t = some (.int k)) : Ad E t (RInt k) where
  mono := fun h _ _ => h
  opens := by
    intro N0 φ S w H enc held fuel cs x hs ha hx
    obtain ⟨n, rfl, _, hw⟩ := DataW.trod_int ht hx
    exact ⟨S, φ, [.int k n], n, hs, ha, Nat.le_refl _, fun _ _ => rfl, fun _ _ h => h, .cons (VR.of_pf _ _ rfl) .nil, rfl, hw⟩

/-- A slice of what can be opened. -/
def RSlc (E : Env) {α : Type} (R : St → List Value → α → Prop) (S : St) (vs : List Value) (ys : List α) : Prop :=
  ∃ v, vs = [v] ∧ ys.length ≤ maxLen ∧ ((v = .slice none 0 0 ∧ ys = []) ∨ (v = .slice (some ⟨0, 0, none⟩) 0 EMPT ∧ ys = []) ∨
    ∃ (b cap : Nat) (cvs : List (List Value)), v = .slice (some ⟨b, 0, none⟩) ys.length cap ∧ b < S.n ∧ 0 < ys.length ∧ ys.length ≤ cap ∧ cap < OPEN ∧ St.cells E S b = some cvs.flatten ∧ cvs.length = ys.length ∧ ∀ (i : Nat) (cv : List Value) (y : α), cvs[i]? = some cv → ys[i]? = some y → R S cv y)

theorem addr_block (a : Addr) (i : Nat) : (a.add i).block = a.block := by unfold Addr.add; split <;> rfl
theorem addr_off (a : Addr) (i : Nat) : (a.add i).off = a.off + i := by unfold Addr.add; split <;> simp_all
theorem addr_spot {a : Addr} (h : a.spot = none) (i : Nat) : (a.add i).spot = none := by unfold Addr.add; split <;> simp [h]
theorem addr_addAdd (a : Addr) (i j : Nat) (h : a.spot = none) : (a.add i).add j = a.add (i + j) := by
  have h1 := addr_block (a.add i) j
  have h2 := addr_off (a.add i) j
  have h3 := addr_spot (addr_spot h i) j
  have k1 := addr_block a i
  have k2 := addr_off a i
  have l1 := addr_block a (i + j)
  have l2 := addr_off a (i + j)
  have l3 := addr_spot h (i + j)
  cases hx : (a.add i).add j
  cases hy : a.add (i + j)
  rw [hx] at h1 h2 h3
  rw [hy] at l1 l2 l3
  simp only at h1 h2 h3 l1 l2 l3
  rw [h1, h2, h3, l1, l2, l3, k1, k2, Nat.add_assoc]

theorem VRL_append {φ : Phi} : ∀ {a a' b b' : List Value}, VRL φ a a' → VRL φ b b' → VRL φ (a ++ b) (a' ++ b')
  | _, _, _, _, .nil, h => h
  | _, _, _, _, .cons h hl, h2 => .cons h (VRL_append hl h2)

theorem adSlc {E : Env} {t e : TypeId} {α : Type} {R : St → List Value → α → Prop} (ht : E.P.underlying t = some (.slice e)) (hk : 0 < E.P.cellsOf e) (h : Ad E e R) : Ad E t (RSlc E R) where
  mono := by
    rintro S S' vs ys ⟨v, rfl, hm, h1⟩ hn hg
    refine ⟨v, rfl, hm, ?_⟩
    rcases h1 with h1 | h1 | ⟨b, cap, cvs, q1, q2, q3, q4, q5, q6, q7, q8⟩
    · exact .inl h1
    · exact .inr (.inl h1)
    · refine .inr (.inr ⟨b, cap, cvs, q1, by omega, q3, q4, q5, ?_, q7, fun i cv y hc hy => h.mono (q8 i cv y hc hy) hn hg⟩)
      unfold St.cells at q6 ⊢
      rw [hg b q2]; exact q6
  opens := by
    intro N0 φ S w H enc held fuel cs x hs ha hx
    rcases DataW.trod_slice ht hx with ⟨rfl, _⟩ | ⟨a, len, cap, elems, rest, n, _, rfl, _, _, hl, hm, hlen, hel, _, _⟩
    · exact ⟨S, φ, [.slice none 0 0], [], hs, ha, Nat.le_refl _, fun _ _ => rfl, fun _ _ h => h, .cons (.snil 0 0) .nil, _, rfl, Nat.zero_le _, .inl ⟨rfl, rfl⟩⟩
    · by_cases h0 : len = 0
      · subst h0
        exact ⟨S, φ, [.slice (some ⟨0, 0, none⟩) 0 EMPT], [], hs, ha, Nat.le_refl _, fun _ _ => rfl, fun _ _ h => h, .cons .sle .nil, _, rfl, Nat.zero_le _, .inr (.inl ⟨rfl, rfl⟩)⟩
      · have each : ∀ i, i < len → ∃ cs' y, w.cells? 0 (a.add (i * E.P.cellsOf e)) (E.P.cellsOf e) = some cs' ∧ DataW.trod enc E.P w 0 (fun _ => true) held n e cs' = some y := by
          intro i hi
          have h1 := hel i hi
          rw [List.getElem?_eq_getElem (by omega)] at h1
          rw [Option.bind_eq_some_iff] at h1
          obtain ⟨cs', h2, h3⟩ := h1
          exact ⟨cs', _, h2, h3⟩
        obtain ⟨c0, y0, hc0, _⟩ := each 0 (by omega)
        obtain ⟨_, hcl, hcc⟩ := World.cells?_some hc0
        have hat0 := hcc 0 hk
        have hblk : ∃ C ee fz, w.heap[a.block]? = some (.cells C ee fz) ∧ a.spot = none := by
          rw [List.getElem?_eq_getElem (by omega)] at hat0
          unfold World.cell? at hat0
          rw [addr_block, addr_block] at hat0
          split at hat0
          · rename_i C ee fz hb
            refine ⟨C, ee, fz, hb, ?_⟩
            split at hat0
            · cases hat0
            · rename_i hsp
              cases hsa : a.spot with
              | none => rfl
              | some s =>
                exfalso
                apply hsp
                unfold Addr.add
                repeat' split
                all_goals simp_all
          · cases hat0
        obtain ⟨C, ee, fz, hb, hsp⟩ := hblk
        -- one behind the other
        have key : ∀ m, m ≤ len → ∃ (S' : St) (φ' : Phi) (cvs : List (List Value)) (ys : List α), Sim E N0 φ' S' w ∧ AllOpn E S' ∧ S.n ≤ S'.n ∧ (∀ b, b < S.n → S'.get E b = S.get E b) ∧ (∀ b l, φ b = some l → φ' b = some l) ∧
            cvs.length = m ∧ ys.length = m ∧ (∀ (i : Nat) (cv : List Value) (y : α), cvs[i]? = some cv → ys[i]? = some y → R S' cv y) ∧ VRL φ' cvs.flatten ((C.toList.drop a.off).take (m * E.P.cellsOf e)) ∧ a.off + m * E.P.cellsOf e ≤ C.size ∧ cvs.flatten.length = m * E.P.cellsOf e := by
          intro m
          induction m with
          | zero =>
            intro _
            refine ⟨S, φ, [], [], hs, ha, Nat.le_refl _, fun _ _ => rfl, fun _ _ h => h, rfl, rfl, fun i cv y hc => by simp at hc, ?_, ?_, by simp⟩
            · simp only [List.flatten_nil, Nat.zero_mul, List.take_zero]; exact .nil
            · rw [Nat.zero_mul]
              rw [List.getElem?_eq_getElem (by omega)] at hat0
              unfold World.cell? at hat0
              rw [addr_block, addr_block, hb] at hat0
              simp only [addr_off, addr_spot (addr_spot hsp _), Option.isSome_none, Bool.false_eq_true, if_false] at hat0
              have := (Array.getElem?_eq_some_iff.1 hat0).1
              omega
          | succ m ih =>
            intro hm1
            obtain ⟨S1, φ1, cvs, ys, a1, a2, a3, a4, a5, a6, a7, a8, a9, a10, a11⟩ := ih (by omega)
            obtain ⟨cs', y', hcs, hty⟩ := each m (by omega)
            obtain ⟨_, hl', hc'⟩ := World.cells?_some hcs
            have hcell : ∀ j, j < E.P.cellsOf e → C[a.off + m * E.P.cellsOf e + j]? = cs'[j]? := by
              intro j hj
              have h1 := hc' j hj
              rw [addr_addAdd _ _ _ hsp] at h1
              unfold World.cell? at h1
              rw [addr_block, hb] at h1
              simp only [addr_off, addr_spot hsp, Option.isSome_none, Bool.false_eq_true, if_false] at h1
              rw [← h1, Nat.add_assoc]
            obtain ⟨S2, φ2, cv, y, b1, b2, b3, b4, b5, b6, b7⟩ := h.opens a1 a2 hty
            have hsz : a.off + (m + 1) * E.P.cellsOf e ≤ C.size := by
              have h1 := hcell (E.P.cellsOf e - 1) (by omega)
              rw [List.getElem?_eq_getElem (by omega)] at h1
              have := (Array.getElem?_eq_some_iff.1 h1).1
              rw [Nat.add_mul, Nat.one_mul]
              omega
            have hcvl : cv.length = E.P.cellsOf e := by rw [b6.length, hl']
            refine ⟨S2, φ2, cvs ++ [cv], ys ++ [y], b1, b2, by omega, fun b hb => by rw [b4 b (by omega), a4 b hb], fun b l hb => b5 b l (a5 b l hb), by simp [a6], by simp [a7], ?_, ?_, hsz, ?_⟩
            · intro i cv' y'' hcv hy
              by_cases hi : i < m
              · rw [List.getElem?_append_left (by omega)] at hcv hy
                exact h.mono (a8 i cv' y'' hcv hy) b3 b4
              · have him : i = m := by
                  have := (List.getElem?_eq_some_iff.1 hcv).1
                  simp at this; omega
                subst him
                rw [List.getElem?_append_right (by omega), a6, Nat.sub_self] at hcv
                rw [List.getElem?_append_right (by omega), a7, Nat.sub_self] at hy
                simp only [List.getElem?_cons_zero, Option.some.injEq] at hcv hy
                subst hcv
                subst hy
                exact b7
            · have e1 : (C.toList.drop a.off).take ((m + 1) * E.P.cellsOf e) = (C.toList.drop a.off).take (m * E.P.cellsOf e) ++ cs' := by
                rw [Nat.add_mul, Nat.one_mul, List.take_add]
                congr 1
                apply List.ext_getElem?
                intro j
                by_cases hj : j < E.P.cellsOf e
                · rw [List.getElem?_take, if_pos hj, List.getElem?_drop, List.getElem?_drop, Array.getElem?_toList, ← hcell j hj, Nat.add_assoc]
                · rw [List.getElem?_eq_none (by rw [List.length_take]; omega), List.getElem?_eq_none (by omega)]
              rw [List.flatten_append, e1]
              refine VRL_append (VRL.mono b5 a9) ?_
              simp only [List.flatten_cons, List.flatten_nil, List.append_nil]
              exact b6
            · rw [List.flatten_append, List.length_append, a11, Nat.add_mul]
              simp [hcvl]
        obtain ⟨S1, φ1, cvs, ys, a1, a2, a3, a4, a5, a6, a7, a8, a9, a10, a11⟩ := key len (Nat.le_refl _)
        have hadopt := a1.adopt a2 ⟨a.block, a.off, C.size, E.P.cellsOf ee⟩ cvs.flatten ee ⟨rfl, C, fz, hb, rfl, by rw [a11]; exact a10, by
          rw [a11]
          refine VRL.mono ?_ a9
          intro b l hb'
          have := a1.lt hb'
          unfold Phi.put
          rw [if_neg (by omega)]; exact hb', fun sh hs => by cases hs⟩
        have hmax : cap < OPEN := by
          have : maxLen < OPEN := by decide
          omega
        have hext : ∀ b l, φ1 b = some l → (φ1.put S1.n ⟨a.block, a.off, C.size, E.P.cellsOf ee⟩) b = some l := by
          intro b l hb'
          have := a1.lt hb'
          unfold Phi.put
          rw [if_neg (by omega)]; exact hb'
        have hgo : ∀ b, b < S1.n → (S1.push (.opn cvs.flatten ee none)).get E b = S1.get E b := fun b hb => St.get_push_old a1.n_eq _ hb
        refine ⟨_, _, [.slice (some ⟨S1.n, 0, none⟩) len cap], ys, hadopt, a2.push a1.n_eq _ _, Nat.le_trans a3 (Nat.le_succ _), fun b hb => by rw [hgo b (by omega), a4 b hb], fun b l hb => hext b l (a5 b l hb), .cons ?_ .nil, _, rfl, by omega, .inr (.inr ⟨S1.n, cap, cvs, ?_, Nat.lt_succ_self _, by omega, by omega, hmax, cells_opn (St.get_push_new a1.n_eq _), by omega, fun i cv y hc hy => h.mono (a8 i cv y hc hy) (Nat.le_succ _) hgo⟩)⟩
        · have hput : (φ1.put S1.n ⟨a.block, a.off, C.size, E.P.cellsOf ee⟩) S1.n = some ⟨a.block, a.off, C.size, E.P.cellsOf ee⟩ := if_pos rfl
          have := @VR.slc (φ1.put S1.n ⟨a.block, a.off, C.size, E.P.cellsOf ee⟩) S1.n 0 ⟨a.block, a.off, C.size, E.P.cellsOf ee⟩ len cap hput hmax
          simp only [Nat.add_zero] at this
          have ea2 : (⟨a.block, a.off, none⟩ : Addr) = a := by cases a; simp_all
          rw [ea2] at this
          exact this
        · rw [a7]

/-- Three fields. -/
def RS3 {α β γ : Type} (R0 : St → List Value → α → Prop) (R1 : St → List Value → β → Prop) (R2 : St → List Value → γ → Prop) (S : St) (vs : List Value) (y : α × β × γ) : Prop :=
  ∃ a b c, vs = a ++ (b ++ c) ∧ R0 S a y.1 ∧ R1 S b y.2.1 ∧ R2 S c y.2.2
theorem adS3 {E : Env} {t : TypeId} {fs : Array Field} {f0 f1 f2 : Field} {k0 k1 k2 : Nat} {α β γ : Type} {R0 : St → List Value → α → Prop} {R1 : St → List Value → β → Prop} {R2 : St → List Value → γ → Prop}
    (hu : E.P.underlying t = some (.struct fs)) (hz : fs.size = 3) (g0 : fs[0]? = some f0) (g1 : fs[1]? = some f1) (g2 : fs[2]? = some f2) (o0 : f0.offset = 0) (o1 : f1.offset = k0) (o2 : f2.offset = k0 + k1)
    (c0 : E.P.cellsOf f0.type = k0) (c1 : E.P.cellsOf f1.type = k1) (c2 : E.P.cellsOf f2.type = k2) (ct : E.P.cellsOf t = k0 + k1 + k2) (h0 : Ad E f0.type R0) (h1 : Ad E f1.type R1) (h2 : Ad E f2.type R2) : Ad E t (RS3 R0 R1 R2) where
  mono := by
    rintro S S' vs y ⟨a, b, c, rfl, q0, q1, q2⟩ hn hg
    exact ⟨a, b, c, rfl, h0.mono q0 hn hg, h1.mono q1 hn hg, h2.mono q2 hn hg⟩
  opens := by
    intro N0 φ S w H enc held fuel cs x hs ha hx
    obtain ⟨xs, n, _, _, hl, hxl, hf⟩ := DataW.trod_struct hu hx
    have e0 := hf 0 f0 g0
    have e1 := hf 1 f1 g1
    have e2 := hf 2 f2 g2
    rw [List.getElem?_eq_getElem (by omega), o0, c0, List.drop_zero] at e0
    rw [List.getElem?_eq_getElem (by omega), o1, c1] at e1
    rw [List.getElem?_eq_getElem (by omega), o2, c2] at e2
    obtain ⟨S1, φ1, v0, y0, a1, a2, a3, a4, a5, a6, a7⟩ := h0.opens hs ha e0
    obtain ⟨S2, φ2, v1, y1, b1, b2, b3, b4, b5, b6, b7⟩ := h1.opens a1 a2 e1
    obtain ⟨S3, φ3, v2, y2, d1, d2, d3, d4, d5, d6, d7⟩ := h2.opens b1 b2 e2
    have hcs : cs = cs.take k0 ++ ((cs.drop k0).take k1 ++ (cs.drop (k0 + k1)).take k2) := by
      rw [ct] at hl
      have p2 : (cs.drop (k0 + k1)).take k2 = cs.drop (k0 + k1) := List.take_of_length_le (by rw [List.length_drop]; omega)
      rw [p2, ← List.drop_drop, List.take_append_drop, List.take_append_drop]
    refine ⟨S3, φ3, v0 ++ (v1 ++ v2), (y0, y1, y2), d1, d2, by omega, fun b hb => by rw [d4 b (by omega), b4 b (by omega), a4 b hb], fun b l hb => d5 b l (b5 b l (a5 b l hb)), ?_, v0, v1, v2, rfl, ?_, ?_, d7⟩
    · rw [hcs]
      exact VRL_append (VRL.mono (fun b l hb => d5 b l (b5 b l hb)) a6) (VRL_append (VRL.mono d5 b6) d6)
    · exact h0.mono a7 (by omega) fun b hb => by rw [d4 b (by omega), b4 b hb]
    · exact h1.mono b7 d3 d4
end Go.Abs
