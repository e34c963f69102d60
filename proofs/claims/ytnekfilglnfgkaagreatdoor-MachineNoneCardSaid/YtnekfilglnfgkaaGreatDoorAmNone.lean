/- PROVED: for every input the law MachineNone of this program returns true, and its argument reads behind the call as it read before (the row and the tied card). CONDITIONS: the row lists seven package-level variables with what they hold when the call begins, and the card ties that to the text of the pruned copy; what the row itself prints narrows it (laid, recurses, unfollowed). The proof runs the call once for all counts from 1 up and once for all others in a machine that is proved to agree with the model. -/
import Derived.Test.YtnekfilglnfgkaaGreatDoorCards
import Derived.Test.YtnekfilglnfgkaaGreatDoorTie
import Derived.Test.YtnekfilglnfgkaaGreatDoorAmRunP
import Derived.Test.YtnekfilglnfgkaaGreatDoorAmRunM
import Derived.Test.YtnekfilglnfgkaaGreatDoorAmFactN
import Derived.Test.YtnekfilglnfgkaaGreatDoorAmGoesN
import Derived.Test.YtnekfilglnfgkaaGreatDoorAmStart
import Derived.WalkKit
import Derived.ProofKit
import Derived.OpenShut
import Derived.Deep.DeepHandedRow
import Derived.Lib.LaidTab
import Derived.Lay
import Derived.LaidMore
import Derived.Eval
import Derived.Stop.LaidErr
set_option autoImplicit false
set_option linter.unusedVariables false
namespace Go.Proofs.YtnekfilglnfgkaaGreatDoor.machineNone
open Go.ChangeShapes Go.WideShapes Go.ChangeAt Go.RowKit Go.AM

theorem own : ownKnob Tryz.prog.godebug = none := by kernel_rfl
theorem gTab : Tryz.prog.globalNamed "strings.asciiSpace" = some 0 := by kernel_rfl
theorem gTabType : (Tryz.prog.globals[0]?).map (·.type) = some 312 := by kernel_rfl
theorem under312 : Tryz.prog.underlying 312 = some (.array 256 5) := by kernel_rfl
theorem under5 : Tryz.prog.underlying 5 = some (.int .u8) := by kernel_rfl
theorem cells5 : Tryz.prog.cellsOf 5 = 1 := by kernel_rfl
theorem cells312 : Tryz.prog.cellsOf 312 = 256 := by kernel_rfl
theorem size : Tryz.prog.globals.size = 10 := by kernel_rfl
theorem asciiZ_len : asciiZ.length = 256 := by kernel_rfl
/-- the table of the spaces, out of the row's list -/
theorem table {W : World} (h : laidMetH Tryz.prog Rows.machineNoneRow.laid W) : Lib.TabIs Tryz.prog W "strings.asciiSpace" .u8 asciiZ ∧ ∃ c t, W.heap[0]? = some (.cells c t (0, 0)) := by
  rw [MakeChecks.laidMetH_plain _ _ _ (by kernel_rfl)] at h
  have h1 : laidMet Tryz.prog [("strings.asciiSpace", Rows.laid_strings_asciiSpace), ("unicode/utf8.first", Rows.laid_unicode_utf8_first)] W := (show laidMet Tryz.prog [("math/bits.deBruijn32tab", Rows.laid_math_bits_deBruijn32tab), ("math/bits.deBruijn64tab", Rows.laid_math_bits_deBruijn64tab), ("internal/strconv.uint64pow10", Rows.laid_internal_strconv_uint64pow10), ("unicode/utf8.acceptRanges", Rows.laid_unicode_utf8_acceptRanges), ("unicode.White_Space", Rows.laid_unicode_White_Space), ("strings.asciiSpace", Rows.laid_strings_asciiSpace), ("unicode/utf8.first", Rows.laid_unicode_utf8_first)] W from h).tail.tail.tail.tail.tail
  have e : (Rows.laid_strings_asciiSpace : DataW Unit) = Lib.tabData .u8 asciiZ := by kernel_rfl
  rw [e] at h1
  have hT : Lib.TabIs Tryz.prog W "strings.asciiSpace" .u8 asciiZ := Lib.tabIs_of_head gTab gTabType under312 under5 cells5 cells312 h1
  refine ⟨hT, ?_⟩
  obtain ⟨ps, ⟨g, t, cs, fuel, p, q, hg, ht, hv, hd, _, hps⟩, _, hz⟩ := h1
  obtain rfl := Option.some.inj (gTab.symm.trans hg)
  have hcs : cs.size = 256 := by
    have := Option.some.inj (hv.symm.trans hT)
    rw [this]; simpa using asciiZ_len
  refine (hz 0 0 ?_).1
  rw [hps]
  exact List.mem_append_left _ (List.mem_append_left _ (MemPlace.mem_row.2 ⟨0, by omega, by simp⟩))
theorem cellsAt {W : World} (h : laidMetH Tryz.prog Rows.machineNoneRow.laid W) : ∃ (c : Array Value) (t : TypeId), W.heap[0]? = some (.cells c t (0, 0)) ∧ 256 ≤ c.size ∧ ∀ (i : Nat) (n : Int), asciiZ[i]? = some n → c[i]? = some (Value.int .u8 n) := by
  obtain ⟨h1, c, t, h2⟩ := table h
  have key : ∀ (i : Nat) (n : Int), asciiZ[i]? = some n → c[i]? = some (Value.int .u8 n) := by
    intro i n hn
    have hi : i < asciiZ.length := (List.getElem?_eq_some_iff.1 hn).1
    have h3 := h1.cell gTab i hi
    simp only [World.cell?, h2] at h3
    simpa [List.getD, hn] using h3
  refine ⟨c, t, h2, ?_, key⟩
  have h4 : asciiZ[255]? = some 0 := by kernel_rfl
  have := key 255 0 h4
  have := (Array.getElem?_eq_some_iff.1 this).1
  omega
theorem heqs : ∀ t ∈ eqsN, eqType Tryz.prog t = true ∧ Tryz.prog.eqGuardType Tryz.prog.depth t = false := by
  have h : true = (eqsN.all fun t => eqType Tryz.prog t && !Tryz.prog.eqGuardType Tryz.prog.depth t) := by kernel_rfl
  intro t ht
  simpa using List.all_eq_true.1 h.symm t ht
theorem flds : true = fieldsB Tryz.prog := by kernel_rfl
theorem names : true = namesB Tryz.prog := by kernel_rfl
theorem long {W : World} (h : W.ShapedOpen Tryz.prog) : Tryz.prog.globals.size ≤ W.heap.size := by
  have h9 : true = (((begin Tryz.prog (fun _ _ => 0) default).world.heap[9]?).bind Obj.row?).isSome := by kernel_rfl
  obtain ⟨⟨zero, t⟩, hz⟩ := Option.isSome_iff_exists.1 h9.symm
  obtain ⟨cs, hc, _⟩ := h.1 9 zero t (by rw [size]; omega) hz
  have := (Array.getElem?_eq_some_iff.1 hc).1
  rw [size]; omega
/-- THE WALK: the abstract machine's run holds of every call. -/
theorem walk {lo hi a0 : Int} (hr : true = runN lo hi) (h1 : lo ≤ a0) (h2 : a0 ≤ hi) {W : World} (hS : W.ShapedOpen Tryz.prog) (hL : laidMetH Tryz.prog Rows.machineNoneRow.laid W) :
    Calls Tryz.prog 4 #[.int .i64 a0] W fun e w' => e = .returned (.bool true) ∧ Below W.heap.size W w' := by
  obtain ⟨b, hb, l, h⟩ := makeB_inv hr.symm (by kernel_rfl)
  rw [putT_eq] at h
  obtain ⟨c, ct, h3, h4, h5⟩ := cellsAt hL
  refine (callK_calls (w := W) heqs (fieldsB_ok flds.symm) (namesB_ok names.symm) Tryz.checked.mixed h (e := env0 W Tryz.prog.globals.size) (fun N hN => start_WR hN (long hS) ?_) (.cons _ _ _ _ (.ivl _ _ _ _ h1 h2) .nil)).mono fun en w' ⟨e', v, x, H', N', he, hv, hw, hk⟩ => ?_
  · intro q o ho
    rw [Tr.get_put] at ho
    split at ho
    · rename_i hq
      obtain rfl := Option.some.inj ho
      subst hq
      refine ⟨0, b, 256, rfl, by rw [size]; omega, rfl, c, ct, h3, h4, fun i v hi hv => ?_⟩
      have h6 := hb i v hi hv
      obtain ⟨n, h7, rfl⟩ : ∃ n, asciiZ[i]? = some n ∧ V.int .u8 n = v := by
        simpa [asciiT] using h6
      exact ⟨_, h5 i n h7, fun e => .int _ _, rfl⟩
    · rw [Tr.get_nil] at ho; cases ho
  · obtain ⟨t, rfl, ht⟩ := V.onBool_inv (show V.onBool (fun b => b) v = true from hk)
    cases hv
    subst ht
    exact ⟨he, hw.below⟩
set_option maxRecDepth 100000 in
theorem contract (H : Type) (enc : TypeId × Value → H) (W : World) (base : Nat) (args : Array Value) (ds gs : List (DataW H)) (before : List MemPlace)
    (hval : ∀ (j : Nat) t v, Tryz.f4.params[j]? = some t → args[j]? = some v → Value.okWide Tryz.prog W .any base t v)
    (hW : DataW.Whole enc Tryz.prog Tryz.f4.params.toList Rows.machineNoneSpec.vars false W args.toList ds gs before) (hL : laidMetH Tryz.prog Rows.machineNoneRow.laid W) (hS : W.ShapedOpen Tryz.prog) :
    Calls Tryz.prog 4 args W fun e W' => ∃ v, e = .returned v ∧ Rows.machineNoneSpec.post enc Tryz.prog Tryz.f4 false true false false W args v W' := by
  have hW' := hW
  obtain ⟨p, q, hA0, hV, rfl, hfz, hnd⟩ := hW
  have hA : DataW.TrodAll enc Tryz.prog W 0 (fun _ => true) true Tryz.f4.params.toList args.toList ds p := hA0
  rw [Tryz.params4] at hA hval
  obtain ⟨v0, vs0, d0, ds0, p0, q0, hargs, rfl, rfl, h0, r0⟩ := trodAll_cons hA
  obtain ⟨rfl, rfl, rfl⟩ := trodAll_nil r0
  obtain rfl : args = #[v0] := by cases args; simp_all
  obtain ⟨rfl, rfl⟩ := trodVars_none hV
  obtain ⟨a0, rfl, rfl, rfl, w0⟩ := open_int Tryz.underlying3 (hval 0 3 v0 rfl rfl) h0
  clear hA0
  simp only [List.append_nil] at hW'
  have w1 : (-9223372036854775808 ≤ a0) ∧ a0 ≤ 9223372036854775807 := by
    have e1 : IntKind.i64.min = -9223372036854775808 := by decide
    have e2 : IntKind.i64.max = 9223372036854775807 := by decide
    simpa [Lit.wf, e1, e2] using w0
  have fin : Calls Tryz.prog 4 #[.int .i64 a0] W fun e w' => e = .returned (.bool true) ∧ Below W.heap.size W w' := by
    rcases Classical.em (0 < a0) with h | h
    · exact walk run_pos (show (1 : Int) ≤ a0 by omega) (show a0 ≤ (9223372036854775807 : Int) by omega) hS hL
    · exact walk run_neg (show (-9223372036854775808 : Int) ≤ a0 by omega) (show a0 ≤ (0 : Int) by omega) hS hL
  refine fin.mono fun e W' ⟨he, hg⟩ => ?_
  subst he
  exact ⟨_, rfl, ⟨_, _, _, [], _, [], hW', trodAll_cons_mk (shut_bool Tryz.underlying4 _) trodAll_mk0, trodAll_cons_mk (shut_int Tryz.underlying3 w0) trodAll_mk0, rfl, hg.frame _, fun h => by cases h⟩⟩
theorem reads (os : Os) {H : Type} (enc : TypeId × Value → H) : ∃ places, DataW.whole enc Tryz.prog ((World.laidAll Tryz.prog os Rows.machineNoneRow.laid).forCall (fun _ _ => 0) ⟨#[], #[.int .i64 0], []⟩).memory Tryz.f4.params.toList Rows.machineNoneSpec.vars false #[Value.int .i64 0].toList 8 = some ([.lit (.int .i64 0)], [], places) :=
  ⟨[], by kernel_rfl⟩
set_option maxRecDepth 100000 in
theorem lifted (os : Os) (started : os.Started) (H : Type) (enc : TypeId × Value → H) (F : Stop.Interp) :
    ReturnsInHanded {} Tryz.checked os 4 .any ((OpenSpec.ofChange Rows.machineNoneSpec).preRow enc Tryz.prog Tryz.f4 Rows.machineNoneRow.domain false Rows.machineNoneRow.laid) (((OpenSpec.ofChange Rows.machineNoneSpec).at F).post enc Tryz.prog Tryz.f4 false true false false) := by
  obtain ⟨places, hx⟩ := reads os enc
  refine returnsInHanded_of_row (C := Tryz.checked) (s := OpenSpec.ofChange Rows.machineNoneSpec) own started (by kernel_rfl) Tryz.func4
    ⟨World.laidAll Tryz.prog os Rows.machineNoneRow.laid, fun _ _ => 0, ⟨#[], #[.int .i64 0], []⟩, World.laidAll_os _ _ _, World.shaped_of_ZipB (by kernel_rfl) (by kernel_rfl),
      rfl, (Input.okWide_of_okWideB (P := Tryz.prog) (w := (World.laidAll Tryz.prog os Rows.machineNoneRow.laid).forCall (fun _ _ => 0) ⟨#[], #[.int .i64 0], []⟩) (f := 4) (by kernel_rfl)).2,
      OpenSpec.preRow_of_cond 8 hx (by kernel_rfl) (fun k hk => by cases hk) (by kernel_rfl) (laidMet_laidAll _ (by kernel_rfl) (by kernel_rfl)), by
      simp only [Assume.holds]
      exact ⟨by simp, by simp, fun _ => Modest.zero, by simp, by simp⟩⟩ ?_
  intro W base args ds gs before hval hW _ _ _ hL hS _
  exact contract H enc W base args ds gs before hval hW hL hS
theorem said : Rows.MachineNoneSaid :=
  OpenClaim.holds_of_cond 4 Tryz.f4 rfl rfl rfl rfl rfl rfl rfl ⟨rfl, rfl, rfl, rfl, rfl⟩ rfl rfl rfl rfl rfl (by kernel_rfl) Tryz.func4 facts
    (of_decide_eq_true (by kernel_rfl)) (by unfold Func.isWrapper; first | (rw [if_pos (by decide +kernel)]; kernel_rfl) | (rw [if_neg (by decide +kernel)]; exact ⟨rfl, rfl⟩))
    (fun os started H enc _ F => by rw [OpenClaim.pre_eq_preRow]; exact lifted os started H enc F)
theorem plain (f : FuncId) (fn : Func) (hf : Tryz.pinned.checked.prog.funcNamed "chaperon/chaperonlaw27.MachineNone" = some f) (hfn : Tryz.pinned.checked.prog.funcs[f]? = some fn) :
    true = Tryz.pinned.checked.prog.looks [] ∧ ∀ (j : Nat) t, fn.params[j]? = some t → Tryz.pinned.checked.prog.wantsStandIn t = false := by
  obtain rfl : f = 4 := Option.some.inj ((show Tryz.prog.funcNamed "chaperon/chaperonlaw27.MachineNone" = some 4 by kernel_rfl).symm.trans hf) |>.symm
  obtain rfl : fn = Tryz.f4 := (Option.some.inj (Tryz.func4.symm.trans hfn)).symm
  refine ⟨by kernel_rfl, fun j t ht => ?_⟩
  rw [Tryz.params4] at ht
  obtain rfl : t = 3 := by simpa using Array.mem_of_getElem? ht
  exact (show Tryz.prog.wantsStandIn 3 = false by kernel_rfl)
/-- ████ THE CARD ████ -/
theorem card : Rows.MachineNoneCardSaid :=
  Claim7.holds_tied_plain_at .later [] _ _ _ _ said (fun _ h => by cases h) (by kernel_rfl) (fun _ h => by cases h) machineNone_row_tie rfl ⟨rfl, rfl⟩ (by kernel_rfl) rfl plain goes
#print axioms card
end Go.Proofs.YtnekfilglnfgkaaGreatDoor.machineNone
