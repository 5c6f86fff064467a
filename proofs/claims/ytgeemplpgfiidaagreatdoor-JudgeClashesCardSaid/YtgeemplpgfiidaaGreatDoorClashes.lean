/- For every input the law massiflaw18.JudgeClashes returns true and leaves its arguments as they were; the conditions: the tables of bits and of hash that the row lists hold what the program's text lays (the card ties them). -/
import Derived.Test.YtgeemplpgfiidaaGreatDoorLk
import Derived.Test.YtgeemplpgfiidaaGreatDoorLl
import Derived.Test.YtgeemplpgfiidaaGreatDoorRows
import Derived.Test.YtgeemplpgfiidaaGreatDoorCards
import Derived.Test.YtgeemplpgfiidaaGreatDoorTie
import Derived.Stop.Joined
import Derived.SevenTiedAt
namespace Go.Proofs.YtgeemplpgfiidaaGreatDoor
open Go Go.ChangeShapes Go.WideShapes Go.ChangeAt Go.RowKit Go.Proofs.YtgeemplpgfiidaaGreatDoor.Mv

theorem own : ownKnob Tryz.prog.godebug = none := by kernel_rfl
theorem laidOut : laidOutB Tryz.prog = true := by kernel_rfl
theorem gBr : Tryz.prog.globalNamed "math/bits.deBruijn64tab" = some 3 := by kernel_rfl
theorem gK : Tryz.prog.globalNamed "massif/hash.k" = some 2 := by kernel_rfl
theorem gFirst : Tryz.prog.globalNamed "massif/hash.first" = some 0 := by kernel_rfl
def laid3 : List (String × DataW Unit) := [("math/bits.deBruijn64tab", Rows.laid_math_bits_deBruijn64tab), ("massif/hash.k", Rows.laid_massif_hash_k), ("massif/hash.first", Rows.laid_massif_hash_first)]
theorem door_met (os : Os) (args : Array Value) : laidMetH Tryz.prog laid3 ((World.doorLaid Tryz.prog 400 os).forCall (fun _ _ => 0) ⟨#[], args, []⟩).memory :=
  laidMetH_of_parts3 (fuel := 8) (laidMet_of_run' 8 (by kernel_rfl) (by kernel_rfl)) (by kernel_rfl) (by kernel_rfl)
theorem tBr : (Tryz.prog.globals[3]?).map (·.type) = some 237 := by kernel_rfl
theorem tK : (Tryz.prog.globals[2]?).map (·.type) = some 273 := by kernel_rfl
theorem tFirst : (Tryz.prog.globals[0]?).map (·.type) = some 24 := by kernel_rfl
theorem glob_of_laid {W : World} (h : laidMetH Tryz.prog laid3 W) : Glob W := by
  rw [MakeChecks.laidMetH_plain _ _ _ (by kernel_rfl)] at h
  obtain ⟨ps, ⟨g0, t0, cs0, f0, p0, q0, hg0, ht0, hv0, hd0, ⟨g1, t1, cs1, f1, p1, q1, hg1, ht1, hv1, hd1, ⟨g2, t2, cs2, f2, p2, q2, hg2, ht2, hv2, hd2, _, _⟩, _⟩, _⟩, _, _⟩ := h
  obtain rfl := Option.some.inj (gBr.symm.trans hg0)
  obtain rfl := Option.some.inj (gK.symm.trans hg1)
  obtain rfl := Option.some.inj (gFirst.symm.trans hg2)
  obtain rfl := Option.some.inj (tBr.symm.trans ht0)
  obtain rfl := Option.some.inj (tK.symm.trans ht1)
  obtain rfl := Option.some.inj (tFirst.symm.trans ht2)
  have e0 := laid_array (l := brL.map fun n : Nat => (n : Int)) (kd := .u8) Tryz.underlying237 Tryz.underlying5 (by kernel_rfl) (by kernel_rfl) hd0
  have e1 := laid_array (l := kL.map fun n : Nat => (n : Int)) (kd := .u32) Tryz.underlying273 Tryz.underlying270 (by kernel_rfl) (by kernel_rfl) hd1
  have e2 := laid_array (l := firstL.map fun n : UInt8 => (n.toNat : Int)) (kd := .u8) Tryz.underlying24 Tryz.underlying5 (by kernel_rfl) (by kernel_rfl) hd2
  have cells : ∀ {g : Nat} {name : String} {cs : Array Value} {l : List Value}, Tryz.prog.globalNamed name = some g → W.var? Tryz.prog name = some cs → cs.toList = l → CellsAt W g 0 l := fun {g name cs l} hg hv he j u hu => by
    rw [Nat.zero_add]
    have := World.var?_cell hg hv j
    subst he
    rw [this]
    simpa using hu
  have c0 := cells hg0 hv0 e0
  have c1 := cells hg1 hv1 e1
  have c2 := cells hg2 hv2 e2
  refine ⟨⟨?_, ?_, ?_⟩, ?_⟩
  · rw [List.map_map] at c2; exact c2
  · rw [List.map_map] at c1; exact c1
  · exact block_lt (c0 0 (.int .u8 0) rfl)
  · rw [List.map_map] at c0; exact c0

theorem trodAll_eight {H : Type} {enc : TypeId × Value → H} {P : Program} {w : World} {base : Nat} {spare : Nat → Bool} {held : Bool} {t0 t1 t2 t3 t4 t5 t6 t7 : TypeId} {args : Array Value} {ds : List (DataW H)} {ps : List MemPlace} (h : DataW.TrodAll enc P w base spare held [t0, t1, t2, t3, t4, t5, t6, t7] args.toList ds ps) :
    ∃ v0 v1 v2 v3 v4 v5 v6 v7 d0 d1 d2 d3 d4 d5 d6 d7 p6 p7, args = #[v0, v1, v2, v3, v4, v5, v6, v7] ∧ ds = [d0, d1, d2, d3, d4, d5, d6, d7] ∧ DataW.Trod enc P w base spare held t6 v6 d6 p6 ∧ DataW.Trod enc P w base spare held t7 v7 d7 p7 := by
  obtain ⟨v0, a0, d0, b0, _, _, h0, rfl, rfl, _, h⟩ := trodAll_cons h
  obtain ⟨v1, a1, d1, b1, _, _, rfl, rfl, rfl, _, h⟩ := trodAll_cons h
  obtain ⟨v2, a2, d2, b2, _, _, rfl, rfl, rfl, _, h⟩ := trodAll_cons h
  obtain ⟨v3, a3, d3, b3, _, _, rfl, rfl, rfl, _, h⟩ := trodAll_cons h
  obtain ⟨v4, a4, d4, b4, _, _, rfl, rfl, rfl, _, h⟩ := trodAll_cons h
  obtain ⟨v5, a5, d5, b5, _, _, rfl, rfl, rfl, _, h⟩ := trodAll_cons h
  obtain ⟨v6, a6, d6, b6, p6, _, rfl, rfl, rfl, h6, h⟩ := trodAll_cons h
  obtain ⟨v7, a7, d7, b7, p7, _, rfl, rfl, rfl, h7, h⟩ := trodAll_cons h
  obtain ⟨rfl, rfl, rfl⟩ := trodAll_nil h
  exact ⟨v0, v1, v2, v3, v4, v5, v6, v7, d0, d1, d2, d3, d4, d5, d6, d7, p6, p7, by cases args; simp_all, rfl, h6, h7⟩

set_option maxRecDepth 100000 in
theorem judgeClashes_lifted (os : Os) (started : os.Started) (H : Type) (enc : TypeId × Value → H) :
    ReturnsInHanded {} Tryz.checked os 3 .any (fun w args => (Rows.judgeClashesSpec.pre enc Tryz.prog Tryz.f3 [] false w args ∧ laidMetH Tryz.prog laid3 w) ∧ sizedMet enc Tryz.prog Tryz.f3 (OpenSpec.ofChange Rows.judgeClashesSpec) false w args)
      (Rows.judgeClashesSpec.post enc Tryz.prog Tryz.f3 false true false false) := by
  refine returnsInHanded_of_change_and (C := Tryz.checked) (X := fun w _ => laidMetH Tryz.prog laid3 w) (fun _ _ _ hh h => h.of_heap hh) own started (by kernel_rfl) Tryz.func3
    (ChangeSpec.witness_shaped (enc := enc) (C := Tryz.checked) (os := os) (X := fun w _ => laidMetH Tryz.prog laid3 w) false (World.doorLaid Tryz.prog 400 os) #[.int .i64 0, .int .u64 0, .agg (Array.replicate 32 (.int .u8 0)), .agg (Array.replicate 32 (.int .u8 0)), .int .u64 0, .agg (Array.replicate 32 (.int .u8 0)), .slice none 0 0, .slice none 0 0] 8 rfl (World.shaped_of_RefB (by kernel_rfl) (by kernel_rfl)) (by kernel_rfl) (by kernel_rfl) (by kernel_rfl) (door_met os _)) ?_
  intro W base args ds gs before hval0 hW _ _ hL _
  have hval : ∀ (j : Nat) t v, (Tryz.f3).params[j]? = some t → args[j]? = some v → Value.okWide Tryz.prog W .any base t v := hval0
  have hA0 := hW
  obtain ⟨p, q, hA, hV, _, hfz, hnd⟩ := hA0
  have hA : DataW.TrodAll enc Tryz.prog W 0 (fun _ => true) true (Tryz.f3).params.toList args.toList ds p := hA
  rw [Tryz.params3] at hA hval
  obtain ⟨v0, v1, v2, v3, v4, v5, v6, v7, d0, d1, d2, d3, d4, d5, d6, d7, p6, p7, rfl, rfl, h6, h7⟩ := trodAll_eight hA
  obtain ⟨wd, rfl, _, _⟩ := okInt Tryz.underlying3 (hval 0 _ v0 rfl rfl)
  obtain ⟨m, rfl, hm⟩ := okU64 Tryz.underlying22 (hval 1 _ v1 rfl rfl)
  obtain ⟨a, rfl⟩ := okHash Tryz.underlying24 Tryz.underlying5 (by kernel_rfl) (by kernel_rfl) (hval 2 _ v2 rfl rfl)
  obtain ⟨b, rfl⟩ := okHash Tryz.underlying24 Tryz.underlying5 (by kernel_rfl) (by kernel_rfl) (hval 3 _ v3 rfl rfl)
  obtain ⟨n, rfl, hn⟩ := okU64 Tryz.underlying22 (hval 4 _ v4 rfl rfl)
  obtain ⟨r, rfl⟩ := okHash Tryz.underlying24 Tryz.underlying5 (by kernel_rfl) (by kernel_rfl) (hval 5 _ v5 rfl rfl)
  obtain ⟨lp, hp⟩ := okBytes Tryz.underlying25 Tryz.underlying5 (by kernel_rfl) (hval 6 _ v6 rfl rfl) h6
  obtain ⟨lq, hq⟩ := okBytes Tryz.underlying25 Tryz.underlying5 (by kernel_rfl) (hval 7 _ v7 rfl rfl) h7
  refine (judgeClashes_ok fork_law wd m a b n r v6 v7 lp lq hm hn W (glob_of_laid hL) hp hq).out.mono fun e W' he => ?_
  cases e with
  | returned v =>
    obtain ⟨rfl, hE⟩ := he
    refine ⟨_, rfl, post_ext laidOut (by kernel_rfl) rfl hW hE (fun _ _ _ => ?_) rfl rfl⟩
    exact trodAll_mk1 (shut_bool Tryz.underlying4 _)
  | panicked c => exact he.elim
  | outgrown => exact he.elim

theorem judgeClashes_holds : Rows.JudgeClashesSaid :=
  OpenClaim.holds_of_wide 3 Tryz.f3 rfl rfl rfl rfl rfl rfl rfl ⟨rfl, rfl, rfl, rfl, rfl⟩ rfl rfl rfl rfl rfl (by kernel_rfl) Tryz.func3 (by kernel_rfl)
    (of_decide_eq_true (by kernel_rfl)) (by unfold Func.isWrapper; first | (rw [if_pos (by decide +kernel)]; kernel_rfl) | (rw [if_neg (by decide +kernel)]; exact ⟨rfl, rfl⟩))
    (fun os started H enc _ => judgeClashes_lifted os started H enc)

theorem judgeClashes_card : Rows.JudgeClashesCardSaid :=
  Claim7.holds_tied_plain_at .later [] [.data, .data, .data] true (true, "7e7a165f8813bb6c4341c5db730f772f6778757668117258147f54f2bb6195e5") false
    judgeClashes_holds (fun _ h => by cases h) (by kernel_rfl) (fun _ h => by cases h) judgeClashes_row_tie rfl ⟨rfl, rfl⟩ (by kernel_rfl) rfl
    (fun f fn hf hfn => by
      obtain rfl : f = 3 := Option.some.inj ((show Tryz.prog.funcNamed "massif/massiflaw18.JudgeClashes" = some 3 by kernel_rfl).symm.trans hf) |>.symm
      obtain rfl : fn = Tryz.f3 := (Option.some.inj (Tryz.func3.symm.trans hfn)).symm
      exact ⟨by kernel_rfl, fun j t ht => by
        rw [Tryz.params3] at ht
        have hm : t ∈ [3, 22, 24, 24, 22, 24, 25, 25] := by simpa using Array.mem_of_getElem? ht
        have hall : ([3, 22, 24, 24, 22, 24, 25, 25].all fun u => !Tryz.prog.wantsStandIn u) = true := by kernel_rfl
        exact (show Tryz.prog.wantsStandIn t = false by simpa using List.all_eq_true.1 hall t hm)⟩)
    (by kernel_rfl)
#print axioms judgeClashes_card
end Go.Proofs.YtgeemplpgfiidaaGreatDoor
