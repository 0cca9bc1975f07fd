/-
  TopNumbers answers true for every list of pieces and every bytes behind, and leaves them as they were; conditions: the listed package variables hold what the program's text lays (tied by the card).
-/
import Derived.Test.YtimnnacibhjgmaaGreatDoorWr
import Derived.Test.YtimnnacibhjgmaaGreatDoorNmC
import Derived.Test.YtimnnacibhjgmaaGreatDoorTab
import Derived.Test.YtimnnacibhjgmaaGreatDoorRows
import Derived.Test.YtimnnacibhjgmaaGreatDoorCards
import Derived.Test.YtimnnacibhjgmaaGreatDoorTie

namespace Go.Abs
open Go Go.Proofs Go.RowKit Go.ChangeShapes Go.WideShapes Go.ChangeAt
open Go.Proofs.YtimnnacibhjgmaaGreatDoor
set_option maxRecDepth 100000
theorem kfine : Known B tfine := by
  intro x hx
  refine kAll x ?_
  rw [List.mem_singleton.1 hx]
  exact List.mem_cons_self ..
theorem progOK0 : ProgOK E0 := ⟨baseOK.prog.names, baseOK.prog.ident, baseOK.prog.mixed⟩
theorem regsOK0 : RegsOK E0 := ⟨baseOK.regs.out⟩
theorem memoOK0 : MemoOK E0 := kfine.memo
theorem laidOut0 : laidOutB Tryz.prog = true := by kernel_rfl
theorem own0 : ownKnob Tryz.prog.godebug = none := by kernel_rfl

noncomputable def rowT (g : Nat) : Option TypeId := (((begin Tryz.prog (fun _ _ => 0) default).world.heap[g]?).bind Obj.row?).map (·.2)
theorem row0 : rowT 0 = some 231 := by kernel_rfl
theorem row1 : rowT 1 = some 234 := by kernel_rfl
theorem row3 : rowT 3 = some 292 := by kernel_rfl
theorem block_of {W : World} {n : String} {g t : Nat} {cs : Array Value} (hs : W.ShapedOpen Tryz.prog) (hg : Tryz.prog.globalNamed n = some g) (hlt : g < Tryz.prog.globals.size) (h0 : rowT g = some t) (h : W.var? Tryz.prog n = some cs) : W.heap[g]? = some (.cells cs t) := by
  unfold rowT at h0
  cases hr : ((begin Tryz.prog (fun _ _ => 0) default).world.heap[g]?).bind Obj.row? with
  | none => rw [hr] at h0; cases h0
  | some x =>
    obtain ⟨zero, t'⟩ := x
    rw [hr] at h0
    cases h0
    exact var_block hs hg hlt hr h
theorem nGlobals : Tryz.prog.globals.size = 8 := by kernel_rfl
def zPow : List Int := [1, 10, 100, 1000, 10000, 100000, 1000000, 10000000, 100000000, 1000000000, 10000000000, 100000000000, 1000000000000, 10000000000000, 100000000000000, 1000000000000000, 10000000000000000, 100000000000000000, 1000000000000000000, 10000000000000000000]
def zAcc : List (Int × Int) := [(128, 191), (160, 191), (128, 159), (144, 191), (128, 143), (0, 0), (0, 0), (0, 0), (0, 0), (0, 0), (0, 0), (0, 0), (0, 0), (0, 0), (0, 0), (0, 0)]
def zFirst : List Int := Go.Pinned.utf8FirstZ.map fun (n : Nat) => (n : Int)
theorem dPow : Rows.laid_internal_strconv_uint64pow10 (H := Unit) = .agg (zPow.map fun z => .lit (.int .u64 z)) := rfl
theorem dAcc : Rows.laid_unicode_utf8_acceptRanges (H := Unit) = .agg (zAcc.map fun z => .agg [.lit (.int .u8 z.1), .lit (.int .u8 z.2)]) := rfl
theorem dFirst : Rows.laid_unicode_utf8_first = .agg (zFirst.map fun z => .lit (.int .u8 z)) := by
  show DataW.agg _ = _
  unfold zFirst
  rw [List.map_map]
  rfl
theorem cPow_is : cPow = zPow.map (Value.int .u64) := rfl
theorem cAcc_is : cAccept = zAcc.flatMap fun z => [.int .u8 z.1, .int .u8 z.2] := rfl
theorem cFirst_is : cFirst = zFirst.map (Value.int .u8) := by
  unfold cFirst zFirst
  rw [List.map_map]
  rfl
theorem glob_of {W : World} (hL : laidMetH Tryz.prog Rows.topNumbersRow.laid W) (hs : W.ShapedOpen Tryz.prog) : GlobOK E0 W := by
  rw [MakeChecks.laidMetH_plain _ _ _ (by kernel_rfl)] at hL
  obtain ⟨ps, ⟨_, _, _, _, _, _, _, _, _, _, ⟨_, _, _, _, _, _, _, _, _, _, ⟨g3, t3, c3, f3, p3, q3, hg3, ht3, hv3, hd3, ⟨g1, t1, c1, f1, p1, q1, hg1, ht1, hv1, hd1, ⟨_, _, _, _, _, _, _, _, _, _, ⟨_, _, _, _, _, _, _, _, _, _, ⟨g0, t0, c0, f0, p0, q0, hg0, ht0, hv0, hd0, _, _⟩, _⟩, _⟩, _⟩, _⟩, _⟩, _⟩, _, _⟩ := hL
  obtain rfl := Option.some.inj ((show Tryz.prog.globalNamed "unicode/utf8.first" = some 0 by kernel_rfl).symm.trans hg0)
  obtain rfl := Option.some.inj ((show Tryz.prog.globalNamed "unicode/utf8.acceptRanges" = some 1 by kernel_rfl).symm.trans hg1)
  obtain rfl := Option.some.inj ((show Tryz.prog.globalNamed "internal/strconv.uint64pow10" = some 3 by kernel_rfl).symm.trans hg3)
  obtain rfl := Option.some.inj ((show (Tryz.prog.globals[0]?).map (·.type) = some 231 by kernel_rfl).symm.trans ht0)
  obtain rfl := Option.some.inj ((show (Tryz.prog.globals[1]?).map (·.type) = some 234 by kernel_rfl).symm.trans ht1)
  obtain rfl := Option.some.inj ((show (Tryz.prog.globals[3]?).map (·.type) = some 292 by kernel_rfl).symm.trans ht3)
  have b0 := block_of hs hg0 (by rw [nGlobals]; decide) row0 hv0
  have b1 := block_of hs hg1 (by rw [nGlobals]; decide) row1 hv1
  have b3 := block_of hs hg3 (by rw [nGlobals]; decide) row3 hv3
  rw [dFirst] at hd0
  rw [dAcc] at hd1
  rw [dPow] at hd3
  have e0 := cells_of_ints (show Tryz.prog.underlying 231 = some (.array 256 5) by kernel_rfl) (show Tryz.prog.underlying 5 = some (.int .u8) by kernel_rfl) (by kernel_rfl) (by kernel_rfl) hd0
  have e3 := cells_of_ints (show Tryz.prog.underlying 292 = some (.array 20 254) by kernel_rfl) (show Tryz.prog.underlying 254 = some (.int .u64) by kernel_rfl) (by kernel_rfl) (by kernel_rfl) hd3
  have e1 := cells_of_pairs (show Tryz.prog.underlying 234 = some (.array 16 233) by kernel_rfl) Tryz.underlying233 (show Tryz.prog.underlying 5 = some (.int .u8) by kernel_rfl) rfl rfl rfl rfl (by kernel_rfl) (by kernel_rfl) (by kernel_rfl) hd1
  rw [← cFirst_is] at e0
  rw [← cPow_is] at e3
  rw [← cAcc_is] at e1
  constructor
  intro g x hx
  have hx' : gl g = some x := hx
  unfold gl at hx'
  split at hx'
  · cases hx'
    exact ⟨by show 0 < 8; decide, cFirst, 231, _, rfl, by kernel_rfl, by rw [b0, ← e0]⟩
  · cases hx'
    exact ⟨by show 1 < 8; decide, cAccept, 234, _, rfl, by kernel_rfl, by rw [b1, ← e1]⟩
  · cases hx'
    exact ⟨by show 3 < 8; decide, cPow, 292, _, rfl, by kernel_rfl, by rw [b3, ← e3]⟩
  · cases hx'

theorem byInts {S : St} {vs : List Value} {zs : List Int} (h : RSlc E0 (RInt .u8) S vs zs) : ∃ v, vs = [v] ∧ ByAt S v (zs.map fun z => UInt8.ofNat z.toNat) := by
  obtain ⟨v, rfl, _, h⟩ := h
  refine ⟨v, rfl, ?_⟩
  rcases h with ⟨rfl, rfl⟩ | ⟨rfl, rfl⟩ | ⟨b, cap, cvs, rfl, h1, h0, h2, h3, h4, h5, h6⟩
  · exact .inl ⟨rfl, rfl⟩
  · exact .inr (.inl ⟨rfl, rfl⟩)
  · refine .inr (.inr ⟨b, cap, by rw [List.length_map], h1, by rw [List.length_map]; exact h2, h3, ?_⟩)
    rw [h4]
    congr 1
    have key : ∀ (cvs : List (List Value)) (zs : List Int), cvs.length = zs.length → (∀ (i : Nat) (cv : List Value) (y : Int), cvs[i]? = some cv → zs[i]? = some y → RInt .u8 S cv y) → cvs.flatten = (zs.map fun z => UInt8.ofNat z.toNat).map fun x => .int .u8 x.toNat := by
      intro cvs
      induction cvs with
      | nil => intro zs hl _; cases zs with
        | nil => rfl
        | cons z zs => simp at hl
      | cons cv cvs ih =>
        intro zs hl hh
        cases zs with
        | nil => simp at hl
        | cons z zs =>
          obtain ⟨e, hw⟩ := hh 0 cv z rfl rfl
          simp only [Lit.wf, Bool.and_eq_true, decide_eq_true_eq] at hw
          have h1 : 0 ≤ z := hw.1
          have h2 : z ≤ 255 := hw.2
          have := ih zs (by simpa using hl) fun i c y hc hy => hh (i + 1) c y (by simpa using hc) (by simpa using hy)
          rw [List.flatten_cons, this, e]
          simp only [List.map_cons, List.cons_append, List.nil_append]
          have hz : ((UInt8.ofNat z.toNat).toNat : Int) = z := by rw [u8 _ (by omega)]; omega
          rw [hz]
    exact key cvs zs h5 h6
noncomputable abbrev RPc := RS3 (RInt .u8) (RInt .i64) (RSlc E0 (RInt .u8))
def pcOf (y : Int × Int × List Int) : Pc := ⟨y.1.toNat, y.2.1, y.2.2.map fun z => UInt8.ofNat z.toNat⟩
theorem ad73 : Ad E0 73 (RSlc E0 (RInt .u8)) := adSlc und73 (by rw [show E0.P.cellsOf 5 = 1 by kernel_rfl]; decide) (adInt ty5)
theorem f76 : ∃ fs f0 f1 f2, E0.P.underlying 76 = some (.struct fs) ∧ fs.size = 3 ∧ fs[0]? = some f0 ∧ fs[1]? = some f1 ∧ fs[2]? = some f2 ∧ f0.offset = 0 ∧ f1.offset = 1 ∧ f2.offset = 2 ∧ f0.type = 5 ∧ f1.type = 3 ∧ f2.type = 73 := by
  have h : (E0.P.fieldsOf 76).toList.map (fun f => (f.type, f.offset)) = [(5, 0), (3, 1), (73, 2)] := by kernel_rfl
  obtain ⟨x, y, z, h1, h2, h3, h4⟩ := map3 h
  simp only [Prod.mk.injEq] at h2 h3 h4
  refine ⟨E0.P.fieldsOf 76, x, y, z, keepEq (by kernel_rfl), ?_, ?_, ?_, ?_, h2.2, h3.2, h4.2, h2.1, h3.1, h4.1⟩
  · rw [← Array.length_toList, h1]; rfl
  · rw [← Array.getElem?_toList, h1]; rfl
  · rw [← Array.getElem?_toList, h1]; rfl
  · rw [← Array.getElem?_toList, h1]; rfl
theorem ad76 : Ad E0 76 RPc := by
  obtain ⟨fs, f0, f1, f2, hu, hz, g0, g1, g2, o0, o1, o2, t0, t1, t2⟩ := f76
  exact adS3 (k0 := 1) (k1 := 1) (k2 := 1) hu hz g0 g1 g2 o0 o1 o2 (by rw [t0]; kernel_rfl) (by rw [t1]; kernel_rfl) (by rw [t2]; kernel_rfl) (by kernel_rfl) (by rw [t0]; exact adInt ty5) (by rw [t1]; exact adInt ty3) (by rw [t2]; exact ad73)
theorem ad72 : Ad E0 72 (RSlc E0 RPc) := adSlc und72 (by rw [show E0.P.cellsOf 76 = 3 by kernel_rfl]; decide) ad76
theorem pcInts {S : St} {vs : List Value} {ys : List (Int × Int × List Int)} (h : RSlc E0 RPc S vs ys) : ∃ v, vs = [v] ∧ ∃ ps, PcAt S v ps := by
  obtain ⟨v, rfl, hm, h⟩ := h
  refine ⟨v, rfl, ?_⟩
  rcases h with ⟨rfl, rfl⟩ | ⟨rfl, rfl⟩ | ⟨b, cap, cvs, rfl, h1, h0, h2, h3, h4, h5, h6⟩
  · exact ⟨[], by simp, fun S1 => len_slc0 und72 0 0 S1, fun h => absurd rfl h⟩
  · exact ⟨[], by simp, fun S1 => len_slc und72 _ 0 _ S1, fun h => absurd rfl h⟩
  · have key : ∀ (cvs : List (List Value)) (ys : List (Int × Int × List Int)), cvs.length = ys.length → (∀ (i : Nat) (cv : List Value) (y : Int × Int × List Int), cvs[i]? = some cv → ys[i]? = some y → RPc S cv y) →
        (∀ p ∈ ys.map pcOf, p.OK) ∧ ∃ sv : List Value, sv.length = (ys.map pcOf).length ∧ cvs.flatten = pC (ys.map pcOf) sv ∧ ∀ i (h : i < (ys.map pcOf).length) (h2 : i < sv.length), ByAt S sv[i] (ys.map pcOf)[i].s := by
      intro cvs
      induction cvs with
      | nil => intro ys hl _; cases ys with
        | nil => exact ⟨by simp, [], rfl, rfl, fun i h => by simp at h⟩
        | cons z zs => simp at hl
      | cons cv cvs ih =>
        intro ys hl hh
        cases ys with
        | nil => simp at hl
        | cons y ys =>
          obtain ⟨a, b', c, e, ⟨ea, hwa⟩, ⟨eb, hwb⟩, ec⟩ := hh 0 cv y rfl rfl
          obtain ⟨sv, hsv, hby⟩ := byInts ec
          obtain ⟨i1, svs, i2, i3, i4⟩ := ih ys (by simpa using hl) fun i c y hc hy => hh (i + 1) c y (by simpa using hc) (by simpa using hy)
          simp only [Lit.wf, Bool.and_eq_true, decide_eq_true_eq] at hwa hwb
          have h1 : 0 ≤ y.1 := hwa.1
          have h2 : y.1 ≤ 255 := hwa.2
          have h3 : -9223372036854775808 ≤ y.2.1 := hwb.1
          have h4 : y.2.1 ≤ 9223372036854775807 := hwb.2
          refine ⟨?_, sv :: svs, by simp [i2], ?_, ?_⟩
          · intro p hp
            rcases List.mem_cons.1 hp with rfl | hp
            · exact ⟨by show y.1.toNat < 256; omega, h3, by show y.2.1 < _; omega⟩
            · exact i1 p hp
          · rw [List.flatten_cons, i3, e, ea, eb, hsv]
            simp only [List.map_cons, pC, List.cons_append, List.nil_append]
            have hz : ((pcOf y).k : Int) = y.1 := by show ((y.1.toNat : Nat) : Int) = _; omega
            rw [hz]
            rfl
          · intro i h h2'
            cases i with
            | zero => exact hby
            | succ i => exact i4 i (by simpa using h) (by simpa using h2')
    obtain ⟨k1, sv, k2, k3, k4⟩ := key cvs ys h5 h6
    refine ⟨ys.map pcOf, k1, fun S1 => by rw [List.length_map]; exact len_slc und72 _ _ _ S1, fun _ => ⟨b, cap, sv, by rw [List.length_map], h1, k2, by rw [h4, k3], k4⟩⟩
theorem calls_true {W : World} (hg : GlobOK E0 W) {H : Type} {enc : TypeId × Value → H} {a0 a1 : Option Addr} {l0 c0 l1 c1 : Nat} {d0 d1 : DataW H} {p0 p1 : List MemPlace}
    (h0 : DataW.Trod enc Tryz.prog W 0 (fun _ => true) true 72 (.slice a0 l0 c0) d0 p0) (h1 : DataW.Trod enc Tryz.prog W 0 (fun _ => true) true 73 (.slice a1 l1 c1) d1 p1) :
    Calls Tryz.prog 5 #[.slice a0 l0 c0, .slice a1 l1 c1] W fun e W' => e = .returned (.bool true) ∧ Below W.heap.size W W' := by
  obtain ⟨f0, h0⟩ := h0
  obtain ⟨f1, h1⟩ := h1
  obtain ⟨S1, φ1, vs1, y1, s1, o1, n1, g1, x1, r1, i1⟩ := ad72.opens (sim0 hg) (AllOpn.base hg) h0
  obtain ⟨S2, φ2, vs2, y2, s2, o2, n2, g2, x2, r2, i2⟩ := ad73.opens s1 o1 h1
  obtain ⟨v1, rfl, ps, hp⟩ := pcInts (ad72.mono i1 n2 g2)
  obtain ⟨v2, rfl, hb⟩ := byInts i2
  have r1' : VRL φ2 [v1] [.slice a0 l0 c0] := VRL.mono x2 r1
  have r2' : VRL φ2 [v2] [.slice a1 l1 c1] := r2
  exact call_true (args := [.slice a0 l0 c0, .slice a1 l1 c1]) progOK0 regsOK0 memoOK0 s2 (VRL_append r1' r2') (top_ok ps _ v1 v2 S2 s2.n_eq hp hb _ ⟨⟩ rfl)

theorem lifted (os : Os) (started : os.Started) (H : Type) (enc : TypeId × Value → H) :
    ReturnsInHanded {} Tryz.checked os 5 .any (fun w args => (Rows.topNumbersSpec.pre enc Tryz.prog Tryz.f5 Rows.topNumbersRow.domain false w args ∧ laidMetH Tryz.prog Rows.topNumbersRow.laid w) ∧ sizedMet enc Tryz.prog Tryz.f5 (OpenSpec.ofChange Rows.topNumbersSpec) false w args)
      (Rows.topNumbersSpec.post enc Tryz.prog Tryz.f5 false true false false) := by
  refine wrap_both (C := Tryz.checked) (X := fun w _ => laidMetH Tryz.prog Rows.topNumbersRow.laid w) (fun _ _ _ hh h => h.of_heap hh) own0 started (by kernel_rfl) Tryz.func5
    (ChangeSpec.witness_shaped (enc := enc) (C := Tryz.checked) (os := os) (X := fun w _ => laidMetH Tryz.prog Rows.topNumbersRow.laid w) false (World.laidAll Tryz.prog os Rows.topNumbersRow.laid) #[.slice none 0 0, .slice none 0 0] 8 (World.laidAll_os _ _ _)
      (World.shaped_of_ZipB (by kernel_rfl) (by kernel_rfl)) (by kernel_rfl) (by kernel_rfl) (by kernel_rfl)
      (by rw [MakeChecks.laidMetH_plain _ _ _ (by kernel_rfl)]; exact laidMet_laidAll _ (by kernel_rfl) (by kernel_rfl))) ?_
  intro W base args ds gs before hval0 hW _ _ hL hsh
  have hval : ∀ (j : Nat) t v, Tryz.f5.params[j]? = some t → args[j]? = some v → Value.okWide Tryz.prog W .any base t v := hval0
  have hW' := hW
  obtain ⟨p, q, hA0, hV, rfl, _, _⟩ := hW'
  have hA : DataW.TrodAll enc Tryz.prog W 0 (fun _ => true) true Tryz.f5.params.toList args.toList ds p := hA0
  rw [Tryz.params5] at hA hval
  obtain ⟨v0, v1, d0, d1, p0, p1, rfl, rfl, rfl, h0, h1⟩ := trodAll_two hA
  obtain ⟨rfl, rfl⟩ := trodVars_none hV
  obtain ⟨a0, l0, c0, rfl⟩ := okWide_slice (show Tryz.prog.underlying 72 = some (.slice 76) by kernel_rfl) (hval 0 72 v0 rfl rfl)
  obtain ⟨a1, l1, c1, rfl⟩ := okWide_slice (show Tryz.prog.underlying 73 = some (.slice 5) by kernel_rfl) (hval 1 73 v1 rfl rfl)
  refine (calls_true (glob_of hL hsh) h0 h1).mono fun e W' ⟨he, hb⟩ => ?_
  subst he
  exact ⟨_, rfl, post_true laidOut0 (by kernel_rfl) rfl (by kernel_rfl) (show Tryz.prog.underlying 4 = some .bool by kernel_rfl) ⟨rfl, rfl, rfl⟩ hW hb⟩

end Go.Abs
namespace Go.Proofs.YtimnnacibhjgmaaGreatDoor
open Go
theorem topNumbers_holds : Rows.TopNumbersSaid :=
  OpenClaim.holds_of_wide 5 Tryz.f5 rfl rfl rfl rfl rfl rfl rfl ⟨rfl, rfl, rfl, rfl, rfl⟩ rfl rfl rfl rfl rfl (by kernel_rfl) Tryz.func5 (by kernel_rfl)
    (of_decide_eq_true (by kernel_rfl)) (by unfold Func.isWrapper; first | (rw [if_pos (by decide +kernel)]; kernel_rfl) | (rw [if_neg (by decide +kernel)]; exact ⟨rfl, rfl⟩))
    (fun os started H enc _ => Go.Abs.lifted os started H enc)
theorem topNumbers_card : Rows.TopNumbersCardSaid :=
  Claim7.holds_tied_plain_at .later [] [.data, .data, .data, .data, .sentinel, .sentinel, .pinned] true (true, "39eabbb66c9f7be576697a8f12f9ba966155965c4a5a01df824d9bf6b8ea5421") true
    topNumbers_holds (fun _ h => by cases h) (by kernel_rfl) (fun _ h => by cases h) topNumbers_row_tie rfl ⟨rfl, rfl⟩ (by kernel_rfl) rfl
    (fun f fn hf hfn => by
      obtain rfl : f = 5 := Option.some.inj ((show Tryz.prog.funcNamed "caduceus/caduceustop.TopNumbers" = some 5 by kernel_rfl).symm.trans hf) |>.symm
      obtain rfl : fn = Tryz.f5 := (Option.some.inj (Tryz.func5.symm.trans hfn)).symm
      exact ⟨by kernel_rfl, fun j t ht => by
        rw [Tryz.params5] at ht
        have hm : t ∈ [72, 73] := by simpa using Array.mem_of_getElem? ht
        have hall : ([72, 73].all fun u => !Tryz.prog.wantsStandIn u) = true := by kernel_rfl
        exact (show Tryz.prog.wantsStandIn t = false by simpa using List.all_eq_true.1 hall t hm)⟩)
    (by kernel_rfl)
end Go.Proofs.YtimnnacibhjgmaaGreatDoor
