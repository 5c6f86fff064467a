/- Ranges over functions: what an iterator is asked, and the rule for the statement. No program in sight. -/
import Derived.Test.YtgeemplpgfiidaaGreatDoorLc
import Derived.Test.YtgeemplpgfiidaaGreatDoorLh
import Derived.Lib.BytesEntry
import Derived.Laws.Externs
namespace Go.Proofs.YtgeemplpgfiidaaGreatDoor.Mv
open Go Go.RowKit

def isSys : Obj → Bool
  | .cells .. => false
  | .map .. => false
  | _ => true
def SysAt (w : World) (k : Nat) : Prop := ∃ o, w.heap[k]? = some o ∧ isSys o = true
/-- What is no cells and no map stands, and so do the blocks of K. -/
structure Keep (K : Nat → Prop) (w w' : World) : Prop where
  size : w.heap.size ≤ w'.heap.size
  sys : ∀ (k : Nat) (o : Obj), w.heap[k]? = some o → isSys o = true → w'.heap[k]? = some o
  kept : ∀ k : Nat, K k → k < w.heap.size → w'.heap[k]? = w.heap[k]?
section
variable {K : Nat → Prop} {w w' w'' : World}
theorem Keep.refl (K : Nat → Prop) (w : World) : Keep K w w := ⟨Nat.le_refl _, fun _ _ h _ => h, fun _ _ _ => rfl⟩
theorem Keep.trans (h : Keep K w w') (k : Keep K w' w'') : Keep K w w'' :=
  ⟨Nat.le_trans h.size k.size, fun i o hi ho => k.sys i o (h.sys i o hi ho) ho, fun i hi hl => (k.kept i hi (Nat.lt_of_lt_of_le hl h.size)).trans (h.kept i hi hl)⟩
theorem Keep.ext (h : Ext w w') : Keep K w w' := ⟨h.size, fun k o hk _ => (h.block k (Array.getElem?_eq_some_iff.1 hk).1).trans hk, fun k _ hl => h.block k hl⟩
theorem Keep.upd {g : Nat} (h : Upd g w w') (hs : ¬ SysAt w g) (hK : ¬ K g) : Keep K w w' :=
  ⟨h.size, fun k o hk ho => (h.block k (Array.getElem?_eq_some_iff.1 hk).1 (fun e => hs (e ▸ ⟨o, hk, ho⟩))).trans hk, fun k hk hl => h.block k hl (fun e => hK (e ▸ hk))⟩
theorem Keep.grown {α : Type} {C : Cod α} {e base : Nat} {v : Value} {l : List α} (hg : Grow C e base w v l) (h : w.grownBy w' v.ownBlock) (hK : ∀ b, inBlock v b → ¬ K b) : Keep K w w' := by
  refine ⟨h.size, fun k o hk ho => ?_, fun k hk hl => ?_⟩
  · refine (h.block k (Array.getElem?_eq_some_iff.1 hk).1 ?_).trans hk
    intro he
    obtain ⟨_, ⟨rfl, _⟩ | ⟨g, cap, cur, rfl, _, hgg, _⟩⟩ := hg
    · cases he
    · simp [Value.ownBlock] at he
      subst he
      rw [hgg] at hk
      cases hk
      cases ho
  · refine h.block k hl ?_
    intro he
    obtain ⟨_, ⟨rfl, _⟩ | ⟨g, cap, cur, rfl, _, hgg, _⟩⟩ := hg
    · cases he
    · simp [Value.ownBlock] at he
      subst he
      exact hK _ ⟨_, _, _, rfl⟩ hk
theorem Own.noSys {b : Nat} {cs : List Value} (h : Own w b cs) : ¬ SysAt w b := by
  rintro ⟨o, ho, hs⟩
  obtain ⟨t, h⟩ := h
  rw [h] at ho
  cases ho
  cases hs
theorem MapAt.noSys {α : Type} {val : α → Value} {b : Nat} {l : List (α × Value)} (h : MapAt val w b l) : ¬ SysAt w b := by
  rintro ⟨o, ho, hs⟩
  obtain ⟨es, clock, h, _⟩ := h
  rw [h] at ho
  cases ho
  cases hs
theorem Grow.noSys {α : Type} {C : Cod α} {e base b : Nat} {v : Value} {l : List α} (h : Grow C e base w v l) (hb : inBlock v b) : ¬ SysAt w b := by
  rintro ⟨o, ho, hs⟩
  obtain ⟨_, _, _, rfl⟩ := hb
  obtain ⟨_, ⟨h, _⟩ | ⟨g, cap, cur, h, _, hgg, _⟩⟩ := h
  · cases h
  · cases h
    rw [hgg] at ho
    cases ho
    cases hs
end

abbrev yieldV (l : Nat) : Value := .func (.yield l) #[] #[]
/-- An iterator: it hands on xs, of which S holds, one after another; a round keeps the blocks of K. -/
structure IterOk (P : Program) (gf : FuncId) (lb : List Value) {α : Type} (enc : α → List Value) (K : Nat → Prop) (N : Nat) (S : List α → Prop) (w : World) : Prop where
  out : ∀ (l : Nat) (J : List α → World → Prop),
    (∀ pre X Y, J pre X → Ext X Y → J pre Y) →
    (∀ pre it X Y, J pre X → w.heap.size ≤ it → (∃ a b c d, X.heap[it]? = some (.mapIter a b c d)) → Upd it X Y → J pre Y) →
    (∀ pre x X (k : Value → World → Prop) (Xp : List PanicEntry → World → Prop), J pre X → pre.length < N → (∀ Y, J (pre ++ [x]) Y → Keep K X Y → k (.bool true) Y) → YieldP P l (enc x) X k Xp) →
    J [] w → Does P gf (yieldV l :: lb) w (fun _ w' => ∃ xs, S xs ∧ J xs w')

def zipE : List Nat → List Value → Env → Env
  | [], _, E => E
  | _, [], E => E
  | p :: ps, v :: vs, E => zipE ps vs ((p, v) :: E)
theorem zipE_ag {n : Nat} : ∀ (ps : List Nat) (vs : List Value) (E : Env) (tmps : Array Value), (ps.all fun p => Nat.blt p n) = true → Ag n E { tmps := tmps, defers := [] } →
    Ag n (zipE ps vs E) { tmps := (ps.zip vs).foldl (fun t (p, v) => t.setIfInBounds p v) tmps, defers := [] }
  | [], vs, E, tmps, _, h => by simpa [zipE] using h
  | p :: ps, [], E, tmps, _, h => by simpa [zipE] using h
  | p :: ps, v :: vs, E, tmps, hp, h => by
    simp only [List.all_cons, Bool.and_eq_true] at hp
    have hput := h.put (d := some p) (v := v) (k := fun E' => E' = (p, v) :: E) (by simp [putE, hp.1])
    obtain ⟨E', hA, rfl⟩ := hput
    have := zipE_ag ps vs ((p, v) :: E) (tmps.setIfInBounds p v) hp.2 hA
    simpa [zipE] using this

theorem putObj_upd {w : World} {l : Nat} (o : Obj) : Upd l w (w.putObj l o) :=
  ⟨rfl, rfl, rfl, by simp, fun k _ hn => World.putObj_heap_other hn⟩

section
variable {P : Program} {T : Tys}

theorem range_only (hT : TyOk P T) {n : Nat} {g : Operand} {ps : Array Tmp} {asg bd : Code} {Q : Exit → Env → World → Prop} {E : Env} {w : World} {gf : FuncId} {lb : List Value} {α : Type} {enc : α → List Value} {K : Nat → Prop} {N : Nat} {S : List α → Prop}
    (hg : opd E g fun v => v = .func (.func gf) #[] lb.toArray) (hcan : Callable P gf) (hit : ∀ w₂, Ext w w₂ → w.heap.size + 2 = w₂.heap.size → IterOk P gf lb enc K N S w₂) (hK : ∀ k, K k → k < w.heap.size)
    (hps : ∀ x, (enc x).length = ps.size) (hpn : (ps.toList.all fun p => Nat.blt p n) = true) (hok : (okR asg && okR bd) = true) (hm : marksOf E = [])
    (V : Env) (hV : Holds E V) (I : List α → World → Prop) (h0 : ∀ w₂, Ext w w₂ → w.heap.size + 2 = w₂.heap.size → I [] w₂)
    (hI1 : ∀ pre X Y, I pre X → Ext X Y → I pre Y) (hI2 : ∀ pre it X Y, I pre X → w.heap.size ≤ it → SysAt X it → Upd it X Y → I pre Y)
    (round : ∀ pre x X, I pre X → pre.length < N → w.heap.size + 2 ≤ X.heap.size → vcCode P T n asg (fun e E1 X1 => match e with
      | .normal => Keep K X X1 ∧ ∀ l X2, w.heap.size ≤ l → SysAt X1 l → Upd l X1 X2 → SysAt X2 l → vcCode P T n bd (fun e _ X3 => match e with
        | .normal => I (pre ++ [x]) X3 ∧ Keep K X2 X3
        | _ => False) E1 X2
      | _ => False) (zipE ps.toList (enc x) V) X)
    (done : ∀ D xs Y, S xs → I xs Y → w.heap.size ≤ D → Y.heap[D]? = some (.deferred (some [])) → Q .normal ((1000000, .int .i64 (D : Nat)) :: E) Y) :
    CodeP P n (.rangeFunc g ps asg bd) Q E w := by
  refine ⟨fun a hA => (wpIn_wide (n := 0)).1 (wpIn_rangeFunc (F := Fence.wide) ?_)⟩
  intro fn _
  have hev : a.eval g = .func (.func gf) #[] lb.toArray := opd_eval hA.agR hg
  let r : Loop := { state := .ready, pending := none, fn, tmps := a.tmps, params := ps, assign := asg, body := bd, defers := w.heap.size }
  let w₂ : World := (w.alloc (.deferred (some []))).alloc (.loop r)
  have hE2 : Ext w w₂ := (ext_alloc w _).trans (ext_alloc _ _)
  have hs2 : w.heap.size + 2 = w₂.heap.size := by simp [w₂]
  have hl2 : w₂.heap[w.heap.size + 1]? = some (.loop r) := by
    have := World.alloc_heap_new (w.alloc (.deferred (some []))) (.loop r)
    simpa [w₂] using this
  have hD2 : w₂.heap[w.heap.size]? = some (.deferred (some [])) := by
    have h1 := World.alloc_heap_new w (.deferred (some []))
    have h2 := (ext_alloc (w.alloc (.deferred (some []))) (.loop r)).block w.heap.size (by simp)
    exact h2.trans h1
  refine ⟨w.heap.size + 1, [{ target := .collected w.heap.size, args := #[] }], w₂, { target := .fn (.func gf) lb.toArray, args := #[yieldV (w.heap.size + 1)] }, w₂, gf, #[yieldV (w.heap.size + 1)] ++ lb.toArray, w₂, run_enterLoop_outer _ _ _ _ _, ?_, fun _ _ => trivial, ?_, fun h => by simp [Fence.wide] at h, ?_⟩
  · have hc : a.eval (.const (yieldV (w.heap.size + 1))) = yieldV (w.heap.size + 1) := rfl
    simp only [resolve, rangeCall, List.map_toArray, List.map_cons, List.map_nil, hc, hev]
    simp [Deferred.ofValue]
  · simp [invoke, callFunc_run hcan]
  refine callsIn_wide.2 ?_
  obtain ⟨hit⟩ := hit w₂ hE2 hs2
  have hok2 : okR asg = true ∧ okR bd = true := by simpa using hok
  have hsmall := hA.small
  have hD := hit (w.heap.size + 1) (fun xs X => I xs X ∧ X.heap[w.heap.size + 1]? = some (.loop r) ∧ X.heap[w.heap.size]? = some (.deferred (some [])) ∧ w.heap.size + 2 ≤ X.heap.size) ?_ ?_ ?_ ⟨h0 w₂ hE2 hs2, hl2, hD2, by omega⟩
  · refine Calls.mono (R := Ret _ _) (by simpa using hD.out) ?_
    intro e w₃ he
    cases e with
    | returned v =>
      obtain ⟨xs, hS, hI, hl, hDD, hsz⟩ := he
      refine ⟨none, w₃.putObj (w.heap.size + 1) (.loop { r with state := .exhausted }), run_endLoop hl (by simp [r]), ?_⟩
      have hU := putObj_upd (w := w₃) (l := w.heap.size + 1) (.loop { r with state := .exhausted })
      refine ⟨(1000000, .int .i64 (w.heap.size : Nat)) :: E, ⟨hA.size, hA.small, ?_, ?_⟩, fun _ _ => rfl, ?_⟩
      · simp [marksOf, hA.defers, markD]
      · intro i v hi hv
        refine hA.get i v hi ?_
        simp only [Env.get] at hv
        have : Nat.beq 1000000 i = false := by
          cases hq : Nat.beq 1000000 i
          · rfl
          · have := Nat.eq_of_beq_eq_true hq; omega
        rw [this] at hv
        exact hv
      · exact done w.heap.size xs _ hS (hI2 xs (w.heap.size + 1) w₃ _ hI (by omega) ⟨_, hl, rfl⟩ hU) (Nat.le_refl _) ((hU.block w.heap.size (by omega) (by omega)).trans hDD)
    | panicked c => exact he.elim
    | outgrown => exact he.elim
  · rintro pre X Y ⟨hI, hl, hDD, hsz⟩ hXY
    have := hXY.size
    exact ⟨hI1 pre X Y hI hXY, (hXY.block _ (by omega)).trans hl, (hXY.block _ (by omega)).trans hDD, by omega⟩
  · rintro pre it X Y ⟨hI, hl, hDD, hsz⟩ hitl ⟨a', b', c', d', hobj⟩ hU
    have hs := hU.size
    have h1 : w.heap.size + 1 ≠ it := fun e => by rw [e, hobj] at hl; cases hl
    have h2 : w.heap.size ≠ it := fun e => by rw [e, hobj] at hDD; cases hDD
    exact ⟨hI2 pre it X Y hI (by omega) ⟨_, hobj, rfl⟩ hU, (hU.block _ (by omega) h1).trans hl, (hU.block _ (by omega) h2).trans hDD, by omega⟩
  · rintro pre x X k Xp ⟨hI, hl, hDD, hsz⟩ hNN hk
    refine ⟨fn, _, asg, bd, run_yield hl (by simp [r, hps]), ?_⟩
    refine roundIn_of_wpIn (F := Fence.wide) trivial ?_
    have hAV : Ag n V { tmps := a.tmps, defers := [] } := by
      have h1 := hA.weaken (holds_get hV) (holds_marks hV)
      refine ⟨h1.size, h1.small, ?_, h1.get⟩
      rw [holds_marks hV, hm]
    have hAz := zipE_ag ps.toList (enc x) V a.tmps hpn hAV
    have hfold : (ps.zip (enc x).toArray).foldl (fun tmps (t, a) => tmps.setIfInBounds t a) a.tmps = (ps.toList.zip (enc x)).foldl (fun t (p, v) => t.setIfInBounds p v) a.tmps := by
      rw [← Array.foldl_toList]
      simp
    have hround := round pre x X hI hNN hsz
    refine wpIn_mono (vcCode_okIn hT (ro := some (w.heap.size + 1)) (m := 0) asg _ _ X _ (.inr hok2.1) (fun _ h => h) (Same.refl _ _) hround (by have h3 := hAz; rw [← hfold] at h3; exact h3)) ?_
    intro e a1 X1 hl1
    cases e with
    | normal =>
      obtain ⟨E1, hA1, _, hKX1, hbody⟩ := hl1
      have hlX1 := hKX1.sys _ _ hl rfl
      have hDX1 := hKX1.sys _ _ hDD rfl
      refine ⟨X1.putObj (w.heap.size + 1) (.loop { r with state := .busy }), run_beginRound hlX1 rfl, ?_⟩
      have hU2 := putObj_upd (w := X1) (l := w.heap.size + 1) (.loop { r with state := .busy })
      have hltX1 : w.heap.size + 1 < X1.heap.size := (Array.getElem?_eq_some_iff.1 hlX1).1
      have hlX2 : (X1.putObj (w.heap.size + 1) (.loop { r with state := .busy })).heap[w.heap.size + 1]? = some (.loop { r with state := .busy }) := World.putObj_heap_same hltX1
      have hDX2 := (hU2.block w.heap.size (by omega) (by omega)).trans hDX1
      have hb := hbody (w.heap.size + 1) _ (by omega) ⟨_, hlX1, rfl⟩ hU2 ⟨_, hlX2, rfl⟩
      refine wpIn_mono (vcCode_okIn hT (ro := some (w.heap.size + 1)) (m := 0) bd _ E1 _ a1 (.inr hok2.2) (fun _ h => h) (Same.refl _ _) hb hA1) ?_
      intro e a3 X3 hl3
      cases e with
      | normal =>
        obtain ⟨E3, _, _, hI3, hK3⟩ := hl3
        have hlX3 := hK3.sys _ _ hlX2 rfl
        have hDX3 := hK3.sys _ _ hDX2 rfl
        have hltX3 : w.heap.size + 1 < X3.heap.size := (Array.getElem?_eq_some_iff.1 hlX3).1
        refine ⟨.bool true, X3.putObj (w.heap.size + 1) (.loop r), ?_, ?_⟩
        · have := run_endRound (P := P) none hlX3
          simpa [r] using this
        · have hU4 := putObj_upd (w := X3) (l := w.heap.size + 1) (.loop r)
          have hs1 := hKX1.size
          have hs3 := hK3.size
          have hsz2 := hU2.size
          have hlY : (X3.putObj (w.heap.size + 1) (.loop r)).heap[w.heap.size + 1]? = some (.loop r) := World.putObj_heap_same hltX3
          refine hk _ ⟨hI2 _ (w.heap.size + 1) X3 _ hI3 (by omega) ⟨_, hlX3, rfl⟩ hU4, hlY, (hU4.block _ (by omega) (by omega)).trans hDX3, by have := hU4.size; omega⟩ ?_
          refine ⟨by have := hU4.size; omega, fun i o hi ho => ?_, fun i hi hil => ?_⟩
          · by_cases he : i = w.heap.size + 1
            · subst he
              rw [hl] at hi
              cases hi
              exact hlY
            · have h1 := hKX1.sys i o hi ho
              have h2 := (hU2.block i (Array.getElem?_eq_some_iff.1 h1).1 he).trans h1
              have h3 := hK3.sys i o h2 ho
              exact (hU4.block i (Array.getElem?_eq_some_iff.1 h3).1 he).trans h3
          · have hlt := hK i hi
            have h1 := hKX1.kept i hi hil
            have h2 := hU2.block i (by omega) (by omega)
            have h3 := hK3.kept i hi (by omega)
            have h4 := hU4.block i (by omega) (by omega)
            rw [h4, h3, h2, h1]
      | panic c => obtain ⟨_, _, h⟩ := hl3; exact h.elim
      | outgrown => obtain ⟨_, _, _, h⟩ := hl3; exact h.elim
      | ret => obtain ⟨_, _, _, h⟩ := hl3; exact h.elim
      | exit id => obtain ⟨_, _, _, h⟩ := hl3; exact h.elim
      | goto t => obtain ⟨_, _, _, h⟩ := hl3; exact h.elim
    | panic c => obtain ⟨_, _, h⟩ := hl1; exact h.elim
    | outgrown => obtain ⟨_, _, _, h⟩ := hl1; exact h.elim
    | ret => obtain ⟨_, _, _, h⟩ := hl1; exact h.elim
    | exit id => obtain ⟨_, _, _, h⟩ := hl1; exact h.elim
    | goto t => obtain ⟨_, _, _, h⟩ := hl1; exact h.elim
end
end Go.Proofs.YtgeemplpgfiidaaGreatDoor.Mv
/- maps.Keys as an iterator, and what Collect makes of it: the parts that are alike for all types. No program in sight. -/
namespace Go.Proofs.YtgeemplpgfiidaaGreatDoor.Mv
open Go Go.RowKit
theorem perm_erase {α : Type} : ∀ (l : List α) (i : Nat) (h : i < l.length), (l[i] :: l.eraseIdx i).Perm l
  | a :: r, 0, _ => List.Perm.refl _
  | a :: r, i + 1, h => by
    have ih := perm_erase r i (by simpa using h)
    simp only [List.getElem_cons_succ, List.eraseIdx_cons_succ]
    exact (List.Perm.swap _ _ _).trans (ih.cons a)
/-- The keys of a map, in whatever order. -/
def KeysOf {α : Type} (l : List (α × Value)) (xs : List α) : Prop := xs.Perm (l.map (·.1))
theorem IterAt.kept {α : Type} {val : α → Value} {K : Nat → Prop} {w w' : World} {it b : Nat} {l rest : List (α × Value)} (h : IterAt val w it b l rest) (e : Keep K w w') (hb : K b) : IterAt val w' it b l rest := by
  obtain ⟨h1, h2, _⟩ := h.lt
  obtain ⟨es, clock, since, c0, seen, g1, g2, g⟩ := h.out
  exact ⟨es, clock, since, c0, seen, (e.kept b hb h2).trans g1, e.sys it _ g2 rfl, g⟩
theorem IterAt.isIter {α : Type} {val : α → Value} {w : World} {it b : Nat} {l rest : List (α × Value)} (h : IterAt val w it b l rest) : ∃ a b c d, w.heap[it]? = some (.mapIter a b c d) := by
  obtain ⟨es, clock, since, c0, seen, g1, g2, g⟩ := h.out
  exact ⟨_, _, _, _, g2⟩
end Go.Proofs.YtgeemplpgfiidaaGreatDoor.Mv
/- judge: heads and links, their keys, collected. Printed by genJd1.py. -/
namespace Go.Proofs.YtgeemplpgfiidaaGreatDoor.Mv
open Go Go.RowKit Go.Proofs

structure Head where
  n : Nat
  h : H
  deriving DecidableEq
def Head.cells (x : Head) : List Value := u64V x.n :: H.cells x.h
theorem Head.len (x : Head) : (Head.cells x).length = 33 := by simp [Head.cells, H.len]
theorem Head.one (x : Head) : ∀ u ∈ Head.cells x, u.oneCell' = true := by
  intro u hu
  rcases List.mem_cons.1 hu with rfl | hu
  · rfl
  · exact bytes_one _ u hu
def Head.val (x : Head) : Value := .agg (Head.cells x).toArray
def codHead : Cod Head := { cells := Head.cells, size := 33, pos := by decide, len := Head.len, one := Head.one }
def zeroHead : Head := ⟨0, zeroH⟩
structure Link where
  a : Head
  b : Head
  deriving DecidableEq
def Link.cells (x : Link) : List Value := Head.cells x.a ++ Head.cells x.b
theorem Link.len (x : Link) : (Link.cells x).length = 66 := by simp [Link.cells, Head.len]
theorem Link.one (x : Link) : ∀ u ∈ Link.cells x, u.oneCell' = true := by
  intro u hu
  rcases List.mem_append.1 hu with hu | hu
  · exact Head.one _ u hu
  · exact Head.one _ u hu
def Link.val (x : Link) : Value := .agg (Link.cells x).toArray
def codLink : Cod Link := { cells := Link.cells, size := 66, pos := by decide, len := Link.len, one := Link.one }
def zeroLink : Link := ⟨zeroHead, zeroHead⟩

theorem tfHead : TyF Tryz.prog 29 true 33 := ⟨Tryz.isAgg29, Tryz.sizeOf29⟩
theorem tfLink : TyF Tryz.prog 90 true 66 := ⟨Tryz.isAgg90, Tryz.sizeOf90⟩
theorem tfHeadS : TyF Tryz.prog 50 false 1 := ⟨Tryz.isAgg50, Tryz.sizeOf50⟩
theorem tfLinkS : TyF Tryz.prog 93 false 1 := ⟨Tryz.isAgg93, Tryz.sizeOf93⟩
theorem tfHeadMap : TyF Tryz.prog 79 false 1 := ⟨Tryz.isAgg79, Tryz.sizeOf79⟩
theorem tfLinkMap : TyF Tryz.prog 80 false 1 := ⟨Tryz.isAgg80, Tryz.sizeOf80⟩
theorem elHead : ElF Tryz.prog 50 29 codHead 40 := ⟨Tryz.underlying50, ⟨Tryz.t29, Head.val zeroHead, by kernel_rfl, by kernel_rfl, by kernel_rfl, by kernel_rfl, by kernel_rfl⟩⟩
theorem elLink : ElF Tryz.prog 93 90 codLink 80 := ⟨Tryz.underlying93, ⟨Tryz.t90, Link.val zeroLink, by kernel_rfl, by kernel_rfl, by kernel_rfl, by kernel_rfl, by kernel_rfl⟩⟩
theorem eqHead : EqT Tryz.prog 29 3 Head.val := EqT.pair (t0 := 22) (t1 := 24) (p0 := Head.n) (p1 := Head.h) (cs := Head.cells) Tryz.underlying29 Tryz.stoodInHeld29 ⟨by decide, by decide⟩ ⟨rfl, rfl⟩ (fun _ => rfl)
  (fun c w => run_part_one tfU64 rfl) (fun c w => by
    have := run_part_agg (w := w) (pre := [u64V c.n]) (mid := H.cells c.h) (post := []) tfHash (H.len _)
    simpa [Head.cells, H.val] using this) (fun c d => by cases c; cases d; simp) (EqT.int Tryz.underlying22) eqHash
theorem eqLink : EqT Tryz.prog 90 4 Link.val := EqT.pair (t0 := 29) (t1 := 29) (p0 := Link.a) (p1 := Link.b) (cs := Link.cells) Tryz.underlying90 Tryz.stoodInHeld90 ⟨by decide, by decide⟩ ⟨rfl, rfl⟩ (fun _ => rfl)
  (fun c w => by
    have := run_part_agg (w := w) (pre := []) (mid := Head.cells c.a) (post := Head.cells c.b) tfHead (Head.len _)
    simpa [Link.cells, Head.val] using this) (fun c w => by
    have := run_part_agg (w := w) (pre := Head.cells c.a) (mid := Head.cells c.b) (post := []) tfHead (Head.len _)
    simpa [Link.cells, Head.len, Head.val] using this) (fun c d => by cases c; cases d; simp) eqHead eqHead
theorem bits_head (n : Nat) (x : Head) : ∀ v ∈ Head.cells x, Instr.sameBits n v v = true := fun v hv => by
  rcases List.mem_cons.1 hv with rfl | hv
  · exact bits_int _ _ _
  · obtain ⟨b, _, rfl⟩ := List.mem_map.1 hv
    exact bits_int _ _ _
theorem keyHead : KeyT Tryz.prog 29 Head.val := KeyT.wide eqHead (by omega) (by rw [Tryz.underlying29]) (fun s => bits_agg 9999 _ (bits_head _ s))
theorem keyLink : KeyT Tryz.prog 90 Link.val := KeyT.wide eqLink (by omega) (by rw [Tryz.underlying90]) (fun s => bits_agg 9999 _ fun v hv => by
  rcases List.mem_append.1 hv with hv | hv <;> exact bits_head _ _ v hv)

theorem HeadKeys_iter (b1 bm : Nat) (l : List (Head × Value)) (K : Nat → Prop) (hK : K bm) (w : World) (hO : w.cell? ⟨b1, 0, none⟩ = some (.map (some bm))) (hM : MapAt Head.val w bm l) :
    IterOk Tryz.prog 113 [pt b1] (fun a => [Head.val a]) K l.length (KeysOf l) w := by
  refine ⟨fun ly J hJ1 hJ2 hY hJ0 => ?_⟩
  (refine DoesX.of_vc tyOk Tryz.func113 rfl ⟨rfl, rfl⟩ rfl ?_; (conv => whnf))
  refine GetP.ld tfHeadMap (v := .map (some bm)) hO ?_
  (conv => whnf)
  refine RunP.range Tryz.underlying79 hM ?_
  intro it w1 hit hI hE1
  have hs1 := hE1.size
  (conv => whnf)
  refine loop_only2 tyOk (fun (_ : List Head) (_ : List (Head × Value)) => [(0, yieldV ly), (5, .pointer (some ⟨it, 0, none⟩))]) (fun pre rest w' => IterAt Head.val w' it bm l rest ∧ J pre w' ∧ (pre ++ rest.map (·.1)).Perm (l.map (·.1))) (fun _ rest => rest.length) [] l
    (by repeat (first | exact trivial | refine ⟨rfl, ?_⟩)) ⟨hI, hJ1 _ _ _ hJ0 hE1, List.Perm.refl _⟩ ?_
  clear hI
  rintro pre rest w2 ⟨hI, hJ, hp⟩
  (conv => whnf)
  refine RunP.next hI (fun h => ?_) (fun i hi w3 hI3 hC3 hU3 => ?_)
  · subst h
    (conv => whnf)
    exact ⟨pre, by simpa [KeysOf] using hp, hJ⟩
  · have hJ3 := hJ2 _ it _ _ hJ hit hI.isIter hU3
    (conv => whnf)
    refine RunP.entry hC3 ?_
    (conv => whnf)
    refine RunP.new (z := Head.val zeroHead) Tryz.zeroValue29 ?_
    intro b3 w4 hb3 hO4 hE4
    (conv => whnf)
    refine DoP.sts0 tfHead hO4 (Head.len _) (Head.len zeroHead) (Head.one _) ?_
    intro w5 hO5 hU5
    have hE5 : Ext w3 w5 := hE4.upd hU5 hb3
    (conv => whnf)
    refine GetP.lds tfHead (Head.len _) hO5.cells ?_
    (conv => whnf)
    refine hY pre (rest[i]).1 w5 _ _ (hJ1 _ _ _ hJ3 hE5) (by have := hp.length_eq; simp at this; omega) ?_
    intro w6 hJ6 hK6
    (conv => whnf)
    refine ⟨pre ++ [(rest[i]).1], rest.eraseIdx i, (by repeat (first | exact trivial | refine ⟨rfl, ?_⟩)), ⟨(hI3.ext hE5).kept hK6 hK, hJ6, ?_⟩, ?_⟩
    · have h1 := perm_erase rest i hi
      have h2 := (h1.map (·.1))
      rw [List.map_cons] at h2
      rw [List.append_assoc]
      exact ((List.Perm.append_left pre h2)).trans hp
    · rw [List.length_eraseIdx_of_lt hi]
      omega

theorem HeadAppendSeq_ok (gf : FuncId) (lb : List Value) (K : Nat → Prop) (N : Nat) (S : List Head → Prop) (w : World) (hN : N ≤ 1048576) (hcan : Callable Tryz.prog gf) (hK : ∀ k, K k → k < w.heap.size) (hit : ∀ w₂, Ext w w₂ → IterOk Tryz.prog gf lb (fun a => [Head.val a]) K N S w₂) :
    Does Tryz.prog 153 [.slice none 0 0, .func (.func gf) #[] lb.toArray] w (fun r w' => ∃ xs, S xs ∧ Grow codHead 29 w.heap.size w' r xs ∧ Ext w w') := by
  (refine DoesX.of_vc tyOk Tryz.func153 rfl ⟨rfl, rfl⟩ rfl ?_; (conv => whnf))
  refine RunP.box ?_
  intro b2 w1 hb2 hO2 hE1
  have hs1 := hE1.size
  have hO2 : Own w1 b2 [.slice none 0 0] := hO2
  have hlt2 := hO2.lt
  (conv => whnf)
  refine range_only tyOk (gf := gf) (lb := lb) (enc := fun a => [Head.val a]) (K := K) (N := N) (S := S) (by rfl) hcan (fun w₂ h _ => hit w₂ (hE1.trans h)) (fun k hk => by have := hK k hk; omega) (fun _ => rfl) (by rfl) (by rfl) (by rfl)
    [(2, pt b2)] (by repeat (first | exact trivial | refine ⟨rfl, ?_⟩))
    (fun pre X => ∃ v, Own X b2 [v] ∧ Grow codHead 29 w1.heap.size X v pre ∧ Ext w X) ?_ ?_ ?_ ?_ ?_
  · intro w₂ hE2 _
    exact ⟨_, hO2.ext hE2, Grow.nil _ _ _ _, hE1.trans hE2⟩
  · rintro pre X Y ⟨v, h1, h2, h3⟩ hXY
    exact ⟨v, h1.ext hXY, h2.ext hXY, h3.trans hXY⟩
  · rintro pre i X Y ⟨v, h1, h2, h3⟩ hi hsys hU
    exact ⟨v, h1.upd hU (fun e => h1.noSys (e ▸ hsys)), h2.upd hU (fun hb => h2.noSys hb hsys), h3.upd hU (by omega)⟩
  · rintro pre x X ⟨v, h1, h2, h3⟩ hpre hsz
    have hs := h3.size
    (conv => whnf)
    refine RunP.new (z := Head.val zeroHead) Tryz.zeroValue29 ?_
    intro b5 X1 hb5 hO5 hE5
    have hs5 := hE5.size
    (conv => whnf)
    refine DoP.sts0 tfHead hO5 (Head.len x) (Head.len zeroHead) (Head.one x) ?_
    intro X2 hO5 hU5
    have hs6 := hU5.size
    have hE6 : Ext X X2 := hE5.upd hU5 hb5
    (conv => whnf)
    refine ⟨Keep.ext hE6, ?_⟩
    intro ly X3 hl hsys hUl hsys3
    have hs7 := hUl.size
    have g1 := (h1.ext hE6).upd hUl (fun e => (h1.ext hE6).noSys (e ▸ hsys))
    have g2 := (h2.ext hE6).upd hUl (fun hb => (h2.ext hE6).noSys hb hsys)
    have g3 : Ext w X3 := (h3.trans hE6).upd hUl (by omega)
    have g5 := hO5.upd hUl (fun e => hO5.noSys (e ▸ hsys))
    (conv => whnf)
    refine GetP.ld tfHeadS (v := v) (by rw [g1.cell]; rfl) ?_
    (conv => whnf)
    refine GetP.lds tfHead (Head.len x) g5.cells ?_
    (conv => whnf)
    refine RunP.slice1 (C := codHead) (a := x) Tryz.runUnderlying50 Tryz.sizeOf29 Tryz.zeroValue29 (Head.len zeroHead) rfl (by decide) ?_
    intro b10 X4 hb10 hO10 hE10 hq10
    have hs10 := hE10.size
    (conv => whnf)
    refine RunP.append elHead (g2.ext hE10) hq10 (by simp only [maxLen, List.length_cons, List.length_nil]; omega) (by simp only [List.length_cons, List.length_nil]; omega) (by omega) ?_
    intro v' X5 hG5 hgr
    have hB5 := (g2.ext hE10).grown_below hgr (by omega)
    have hs11 := hgr.size
    have g1' : Own X5 b2 [v] := (g1.ext hE10).below hB5 hlt2
    (conv => whnf)
    refine DoP.st tfHeadS rfl g1' (by simp) hG5.one ?_
    intro X6 hO6 hU6
    (conv => whnf)
    refine ⟨⟨v', hO6, hG5.upd hU6 (hG5.inB (.inr hlt2)), ?_⟩, ?_⟩
    · exact Ext.upd (Below.trans (g3.trans hE10) (Below.mono hB5 (by omega))) hU6 hb2
    · refine ((Keep.ext hE10).trans (Keep.grown (g2.ext hE10) hgr (fun b hb hk => ?_))).trans (Keep.upd hU6 g1'.noSys (fun hk => ?_))
      · have := hK b hk
        have := ((g2.ext hE10).block hb).1
        omega
      · have := hK b2 hk
        omega
  · rintro D xs Y hS ⟨v, h1, h2, h3⟩ hD hDD
    (conv => whnf)
    refine GetP.ld tfHeadS (v := v) (by rw [h1.cell]; rfl) ?_
    (conv => whnf)
    refine ReqP.mk hDD ?_
    (conv => whnf)
    have hU := putObj_upd (w := Y) (l := D) (.deferred none)
    have hsy : SysAt Y D := ⟨_, hDD, rfl⟩
    exact ⟨xs, hS, (h2.upd hU (fun hb => h2.noSys hb hsy)).mono (by omega), h3.upd hU (by omega)⟩

theorem HeadCollect_ok (gf : FuncId) (lb : List Value) (K : Nat → Prop) (N : Nat) (S : List Head → Prop) (w : World) (hN : N ≤ 1048576) (hcan : Callable Tryz.prog gf) (hK : ∀ k, K k → k < w.heap.size) (hit : ∀ w₂, Ext w w₂ → IterOk Tryz.prog gf lb (fun a => [Head.val a]) K N S w₂) :
    Does Tryz.prog 111 [.func (.func gf) #[] lb.toArray] w (fun r w' => ∃ xs, S xs ∧ Grow codHead 29 w.heap.size w' r xs ∧ Ext w w') := by
  (refine DoesX.of_vc tyOk Tryz.func111 rfl ⟨rfl, rfl⟩ rfl ?_; (conv => whnf))
  refine CallP.does (HeadAppendSeq_ok gf lb K N S w hN hcan hK hit) ?_
  rintro r w1 ⟨xs, hS, hG, hE⟩
  (conv => whnf)
  exact ⟨xs, hS, hG, hE⟩

theorem LinkKeys_iter (b1 bm : Nat) (l : List (Link × Value)) (K : Nat → Prop) (hK : K bm) (w : World) (hO : w.cell? ⟨b1, 0, none⟩ = some (.map (some bm))) (hM : MapAt Link.val w bm l) :
    IterOk Tryz.prog 93 [pt b1] (fun a => [Link.val a]) K l.length (KeysOf l) w := by
  refine ⟨fun ly J hJ1 hJ2 hY hJ0 => ?_⟩
  (refine DoesX.of_vc tyOk Tryz.func93 rfl ⟨rfl, rfl⟩ rfl ?_; (conv => whnf))
  refine GetP.ld tfLinkMap (v := .map (some bm)) hO ?_
  (conv => whnf)
  refine RunP.range Tryz.underlying80 hM ?_
  intro it w1 hit hI hE1
  have hs1 := hE1.size
  (conv => whnf)
  refine loop_only2 tyOk (fun (_ : List Link) (_ : List (Link × Value)) => [(0, yieldV ly), (5, .pointer (some ⟨it, 0, none⟩))]) (fun pre rest w' => IterAt Link.val w' it bm l rest ∧ J pre w' ∧ (pre ++ rest.map (·.1)).Perm (l.map (·.1))) (fun _ rest => rest.length) [] l
    (by repeat (first | exact trivial | refine ⟨rfl, ?_⟩)) ⟨hI, hJ1 _ _ _ hJ0 hE1, List.Perm.refl _⟩ ?_
  clear hI
  rintro pre rest w2 ⟨hI, hJ, hp⟩
  (conv => whnf)
  refine RunP.next hI (fun h => ?_) (fun i hi w3 hI3 hC3 hU3 => ?_)
  · subst h
    (conv => whnf)
    exact ⟨pre, by simpa [KeysOf] using hp, hJ⟩
  · have hJ3 := hJ2 _ it _ _ hJ hit hI.isIter hU3
    (conv => whnf)
    refine RunP.entry hC3 ?_
    (conv => whnf)
    refine RunP.new (z := Link.val zeroLink) Tryz.zeroValue90 ?_
    intro b3 w4 hb3 hO4 hE4
    (conv => whnf)
    refine DoP.sts0 tfLink hO4 (Link.len _) (Link.len zeroLink) (Link.one _) ?_
    intro w5 hO5 hU5
    have hE5 : Ext w3 w5 := hE4.upd hU5 hb3
    (conv => whnf)
    refine GetP.lds tfLink (Link.len _) hO5.cells ?_
    (conv => whnf)
    refine hY pre (rest[i]).1 w5 _ _ (hJ1 _ _ _ hJ3 hE5) (by have := hp.length_eq; simp at this; omega) ?_
    intro w6 hJ6 hK6
    (conv => whnf)
    refine ⟨pre ++ [(rest[i]).1], rest.eraseIdx i, (by repeat (first | exact trivial | refine ⟨rfl, ?_⟩)), ⟨(hI3.ext hE5).kept hK6 hK, hJ6, ?_⟩, ?_⟩
    · have h1 := perm_erase rest i hi
      have h2 := (h1.map (·.1))
      rw [List.map_cons] at h2
      rw [List.append_assoc]
      exact ((List.Perm.append_left pre h2)).trans hp
    · rw [List.length_eraseIdx_of_lt hi]
      omega

theorem LinkAppendSeq_ok (gf : FuncId) (lb : List Value) (K : Nat → Prop) (N : Nat) (S : List Link → Prop) (w : World) (hN : N ≤ 1048576) (hcan : Callable Tryz.prog gf) (hK : ∀ k, K k → k < w.heap.size) (hit : ∀ w₂, Ext w w₂ → IterOk Tryz.prog gf lb (fun a => [Link.val a]) K N S w₂) :
    Does Tryz.prog 136 [.slice none 0 0, .func (.func gf) #[] lb.toArray] w (fun r w' => ∃ xs, S xs ∧ Grow codLink 90 w.heap.size w' r xs ∧ Ext w w') := by
  (refine DoesX.of_vc tyOk Tryz.func136 rfl ⟨rfl, rfl⟩ rfl ?_; (conv => whnf))
  refine RunP.box ?_
  intro b2 w1 hb2 hO2 hE1
  have hs1 := hE1.size
  have hO2 : Own w1 b2 [.slice none 0 0] := hO2
  have hlt2 := hO2.lt
  (conv => whnf)
  refine range_only tyOk (gf := gf) (lb := lb) (enc := fun a => [Link.val a]) (K := K) (N := N) (S := S) (by rfl) hcan (fun w₂ h _ => hit w₂ (hE1.trans h)) (fun k hk => by have := hK k hk; omega) (fun _ => rfl) (by rfl) (by rfl) (by rfl)
    [(2, pt b2)] (by repeat (first | exact trivial | refine ⟨rfl, ?_⟩))
    (fun pre X => ∃ v, Own X b2 [v] ∧ Grow codLink 90 w1.heap.size X v pre ∧ Ext w X) ?_ ?_ ?_ ?_ ?_
  · intro w₂ hE2 _
    exact ⟨_, hO2.ext hE2, Grow.nil _ _ _ _, hE1.trans hE2⟩
  · rintro pre X Y ⟨v, h1, h2, h3⟩ hXY
    exact ⟨v, h1.ext hXY, h2.ext hXY, h3.trans hXY⟩
  · rintro pre i X Y ⟨v, h1, h2, h3⟩ hi hsys hU
    exact ⟨v, h1.upd hU (fun e => h1.noSys (e ▸ hsys)), h2.upd hU (fun hb => h2.noSys hb hsys), h3.upd hU (by omega)⟩
  · rintro pre x X ⟨v, h1, h2, h3⟩ hpre hsz
    have hs := h3.size
    (conv => whnf)
    refine RunP.new (z := Link.val zeroLink) Tryz.zeroValue90 ?_
    intro b5 X1 hb5 hO5 hE5
    have hs5 := hE5.size
    (conv => whnf)
    refine DoP.sts0 tfLink hO5 (Link.len x) (Link.len zeroLink) (Link.one x) ?_
    intro X2 hO5 hU5
    have hs6 := hU5.size
    have hE6 : Ext X X2 := hE5.upd hU5 hb5
    (conv => whnf)
    refine ⟨Keep.ext hE6, ?_⟩
    intro ly X3 hl hsys hUl hsys3
    have hs7 := hUl.size
    have g1 := (h1.ext hE6).upd hUl (fun e => (h1.ext hE6).noSys (e ▸ hsys))
    have g2 := (h2.ext hE6).upd hUl (fun hb => (h2.ext hE6).noSys hb hsys)
    have g3 : Ext w X3 := (h3.trans hE6).upd hUl (by omega)
    have g5 := hO5.upd hUl (fun e => hO5.noSys (e ▸ hsys))
    (conv => whnf)
    refine GetP.ld tfLinkS (v := v) (by rw [g1.cell]; rfl) ?_
    (conv => whnf)
    refine GetP.lds tfLink (Link.len x) g5.cells ?_
    (conv => whnf)
    refine RunP.slice1 (C := codLink) (a := x) Tryz.runUnderlying93 Tryz.sizeOf90 Tryz.zeroValue90 (Link.len zeroLink) rfl (by decide) ?_
    intro b10 X4 hb10 hO10 hE10 hq10
    have hs10 := hE10.size
    (conv => whnf)
    refine RunP.append elLink (g2.ext hE10) hq10 (by simp only [maxLen, List.length_cons, List.length_nil]; omega) (by simp only [List.length_cons, List.length_nil]; omega) (by omega) ?_
    intro v' X5 hG5 hgr
    have hB5 := (g2.ext hE10).grown_below hgr (by omega)
    have hs11 := hgr.size
    have g1' : Own X5 b2 [v] := (g1.ext hE10).below hB5 hlt2
    (conv => whnf)
    refine DoP.st tfLinkS rfl g1' (by simp) hG5.one ?_
    intro X6 hO6 hU6
    (conv => whnf)
    refine ⟨⟨v', hO6, hG5.upd hU6 (hG5.inB (.inr hlt2)), ?_⟩, ?_⟩
    · exact Ext.upd (Below.trans (g3.trans hE10) (Below.mono hB5 (by omega))) hU6 hb2
    · refine ((Keep.ext hE10).trans (Keep.grown (g2.ext hE10) hgr (fun b hb hk => ?_))).trans (Keep.upd hU6 g1'.noSys (fun hk => ?_))
      · have := hK b hk
        have := ((g2.ext hE10).block hb).1
        omega
      · have := hK b2 hk
        omega
  · rintro D xs Y hS ⟨v, h1, h2, h3⟩ hD hDD
    (conv => whnf)
    refine GetP.ld tfLinkS (v := v) (by rw [h1.cell]; rfl) ?_
    (conv => whnf)
    refine ReqP.mk hDD ?_
    (conv => whnf)
    have hU := putObj_upd (w := Y) (l := D) (.deferred none)
    have hsy : SysAt Y D := ⟨_, hDD, rfl⟩
    exact ⟨xs, hS, (h2.upd hU (fun hb => h2.noSys hb hsy)).mono (by omega), h3.upd hU (by omega)⟩

theorem LinkCollect_ok (gf : FuncId) (lb : List Value) (K : Nat → Prop) (N : Nat) (S : List Link → Prop) (w : World) (hN : N ≤ 1048576) (hcan : Callable Tryz.prog gf) (hK : ∀ k, K k → k < w.heap.size) (hit : ∀ w₂, Ext w w₂ → IterOk Tryz.prog gf lb (fun a => [Link.val a]) K N S w₂) :
    Does Tryz.prog 91 [.func (.func gf) #[] lb.toArray] w (fun r w' => ∃ xs, S xs ∧ Grow codLink 90 w.heap.size w' r xs ∧ Ext w w') := by
  (refine DoesX.of_vc tyOk Tryz.func91 rfl ⟨rfl, rfl⟩ rfl ?_; (conv => whnf))
  refine CallP.does (LinkAppendSeq_ok gf lb K N S w hN hcan hK hit) ?_
  rintro r w1 ⟨xs, hS, hG, hE⟩
  (conv => whnf)
  exact ⟨xs, hS, hG, hE⟩
end Go.Proofs.YtgeemplpgfiidaaGreatDoor.Mv
/- judge: how heads and links rise: cmp.Compare, bytes.Compare, cmp.Or, order. -/
namespace Go.Proofs.YtgeemplpgfiidaaGreatDoor.Mv
open Go Go.RowKit Go.Proofs

theorem isNaN_ok (x : Nat) (w : World) : Does Tryz.prog 139 [.int .u64 x] w (fun r w' => r = .bool false ∧ w' = w) := by
  (refine DoesX.of_vc tyOk Tryz.func139 rfl ⟨rfl, rfl⟩ rfl ?_; (conv => whnf))
  refine CmpP.no (by simp) ?_
  (conv => whnf)
  exact ⟨rfl, rfl⟩

def cmpN (x y : Nat) : Int := if x < y then -1 else if y < x then 1 else 0
theorem compareN_ok (x y : Nat) (w : World) : Does Tryz.prog 94 [.int .u64 x, .int .u64 y] w (fun r w' => r = .int .i64 (cmpN x y) ∧ w' = w) := by
  (refine DoesX.of_vc tyOk Tryz.func94 rfl ⟨rfl, rfl⟩ rfl ?_; (conv => whnf))
  refine CallP.does (isNaN_ok x w) ?_
  rintro r w ⟨rfl, rfl⟩
  (conv => whnf)
  refine CallP.does (isNaN_ok y w) ?_
  rintro r w ⟨rfl, rfl⟩
  (conv => whnf)
  refine CmpP.split (fun h => ?_) (fun h => ?_)
  · have h : x < y := by simp at h; omega
    (conv => whnf)
    exact ⟨by rw [cmpN, if_pos h], rfl⟩
  · have h : ¬ x < y := by simp at h; omega
    (conv => whnf)
    refine CmpP.split (fun h' => ?_) (fun h' => ?_)
    · have h' : y < x := by simp at h'; omega
      (conv => whnf)
      exact ⟨by rw [cmpN, if_neg h, if_pos h'], rfl⟩
    · have h' : ¬ y < x := by simp at h'; omega
      (conv => whnf)
      exact ⟨by rw [cmpN, if_neg h, if_neg h'], rfl⟩

theorem byteInts_eq (l : List UInt8) : Lib.bytesOf (l.map fun b => (b.toNat : Int)) = l := by
  unfold Lib.bytesOf
  rw [List.map_map]
  conv => rhs; rw [← List.map_id l]
  apply List.map_congr_left
  intro b _
  simp
theorem run_bytesOf {P : Program} {w : World} {v : Value} {l : List UInt8} (hv : Seq codByte w v l) : (Extern.Bytes.bytesOf v).run P w = .ok ⟨l.toArray⟩ w := by
  rcases hv with ⟨rfl, rfl⟩ | ⟨b, o, cap, rfl, hc, hb, h⟩
  · rfl
  · have := Lib.run_loadBytesX (P := P) w (l.map fun b => (b.toNat : Int)) ⟨b, o, none⟩ .empty (fun j x hj => by
      rw [Addr.add_lit]
      refine h j _ ?_
      rw [codByte_all, List.getElem?_map]
      rw [List.getElem?_map] at hj
      cases hl : l[j]? with
      | none => rw [hl] at hj; cases hj
      | some c => rw [hl] at hj; cases hj; rfl)
    rw [List.length_map, byteInts_eq] at this
    rw [Extern.Bytes.bytesOf, this]
    simp [ByteArray.empty, ByteArray.emptyWithCapacity]
    rfl
theorem externC {v u : Value} {l m : List UInt8} {w : World} {k : Value → World → Prop} {X : List PanicEntry → World → Prop} (hv : Seq codByte w v l) (hu : Seq codByte w u m) (hk : k (.int .i64 (Lib.compareBytes l m)) w) :
    CallP Tryz.prog 140 [v, u] w k X := by
  refine ⟨?_⟩
  have hr : (Extern.BytealgCompare.compare #[v, u]).run Tryz.prog w = .ok (.int .i64 (Lib.compareBytes l m)) w := by
    change Sem.run _ (do pure (goInt (Extern.BytealgCompare.cmp (← Extern.Bytes.bytesOf v) (← Extern.Bytes.bytesOf u)))) w = _
    simp only [Sem.run_bind, run_bytesOf hv, run_bytesOf hu, Result.andThen_ok, Sem.run_pure]
    rw [Lib.cmp_eq]
    rfl
  rw [run_callFunc_extern Tryz.func140 (by kernel_rfl) (by kernel_rfl) (by kernel_rfl) (e := Extern.BytealgCompare.compare) (by kernel_rfl), hr]
  exact hk
theorem compareB_ok (v u : Value) (l m : List UInt8) (w : World) (hv : Seq codByte w v l) (hu : Seq codByte w u m) : Does Tryz.prog 95 [v, u] w (fun r w' => r = .int .i64 (Lib.compareBytes l m) ∧ w' = w) := by
  (refine DoesX.of_vc tyOk Tryz.func95 rfl ⟨rfl, rfl⟩ rfl ?_; (conv => whnf))
  refine externC hv hu ?_
  (conv => whnf)
  exact ⟨rfl, rfl⟩

def orF (a b : Int) : Int := if a ≠ 0 then a else b
theorem or_ok (v : Value) (a b : Int) (w : World) (hv : Seq codInt w v [a, b]) : Does Tryz.prog 45 [v] w (fun r w' => r = .int .i64 (orF a b) ∧ Ext w w') := by
  (refine DoesX.of_vc tyOk Tryz.func45 rfl ⟨rfl, rfl⟩ rfl ?_; (conv => whnf))
  refine GetP.lenS Tryz.runUnderlying169 hv ?_
  (conv => whnf)
  refine loop_only tyOk (σ := Nat) (fun i => [(3, .int .i64 0), (6, v), (7, .int .i64 2), (8, .int .i64 i)]) (fun i w' => w' = w ∧ i ≤ 2 ∧ (0 < i → a = 0) ∧ (1 < i → b = 0)) (fun i => 2 - i) 0 (by repeat (first | exact trivial | refine ⟨rfl, ?_⟩)) ⟨rfl, by omega, by omega, by omega⟩ ?_
  rintro i w ⟨rfl, hi, ha, hb⟩
  (conv => whnf)
  refine CmpP.split (fun h => ?_) (fun h => ?_)
  · have h : i < 2 := by simp at h; omega
    (conv => whnf)
    refine GetP.idxS Tryz.runUnderlying169 Tryz.sizeOf3 hv (by omega) (by simp; omega) ?_
    intro b' o' hc
    (conv => whnf)
    refine GetP.ld tfInt (v := .int .i64 (([a, b])[i]'(by simpa using h))) (by simpa [codInt, intV] using hc 0 _ (by simp [codInt, intV])) ?_
    (conv => whnf)
    have hi2 : i = 0 ∨ i = 1 := by omega
    refine CmpP.split (fun h' => ?_) (fun h' => ?_)
    · (conv => whnf)
      rcases hi2 with rfl | rfl
      · simp at h'
        exact ⟨by simp [orF, h'], Ext.refl _⟩
      · simp at h'
        have := ha (by omega)
        exact ⟨by simp [orF, this], Ext.refl _⟩
    · (conv => whnf)
      (refine NumP.fit (by first | decide | (simp only [kmin]; omega)) (by first | decide | (simp only [kmax]; omega)) ?_; (conv => whnf))
      rcases hi2 with rfl | rfl
      · simp at h'
        exact ⟨1, (by repeat (first | exact trivial | refine ⟨rfl, ?_⟩)), ⟨rfl, by omega, fun _ => h', by omega⟩, by omega⟩
      · simp at h'
        have := ha (by omega)
        exact ⟨2, (by repeat (first | exact trivial | refine ⟨rfl, ?_⟩)), ⟨rfl, by omega, fun _ => this, fun _ => h'⟩, by omega⟩
  · have h : i = 2 := by simp at h; omega
    subst h
    (conv => whnf)
    have h1 := ha (by omega)
    have h2 := hb (by omega)
    exact ⟨by simp [orF, h1, h2], Ext.refl _⟩

/-! ### The order in plain Lean -/
def kB : List UInt8 → Nat
  | [] => 0
  | a :: r => a.toNat * 256 ^ r.length + kB r
theorem kB_lt : ∀ l : List UInt8, kB l < 256 ^ l.length
  | [] => by simp [kB]
  | a :: r => by
    have h1 := kB_lt r
    have h2 : a.toNat < 256 := a.toNat_lt
    simp only [kB, List.length_cons]
    rw [Nat.pow_succ, Nat.mul_comm (256 ^ r.length)]
    have : a.toNat * 256 ^ r.length ≤ 255 * 256 ^ r.length := Nat.mul_le_mul_right _ (by omega)
    omega
theorem compareB_k : ∀ (l m : List UInt8), l.length = m.length → (Lib.compareBytes l m < 0 ↔ kB l < kB m) ∧ (Lib.compareBytes l m = 0 ↔ l = m) ∧ (kB l = kB m ↔ l = m)
  | [], [], _ => by simp [Lib.compareBytes, kB]
  | [], _ :: _, h => by simp at h
  | _ :: _, [], h => by simp at h
  | a :: r, b :: s, h => by
    have hl : r.length = s.length := by simpa using h
    obtain ⟨h1, h2, h3⟩ := compareB_k r s hl
    have hr := kB_lt r
    have hs := kB_lt s
    simp only [Lib.compareBytes, kB]
    rw [hl] at hr ⊢
    have key : ∀ x y : Nat, x < y → x * 256 ^ s.length + 256 ^ s.length ≤ y * 256 ^ s.length := fun x y h => by
      rw [← Nat.succ_mul]; exact Nat.mul_le_mul_right _ h
    by_cases hab : a < b
    · have h' : a.toNat < b.toNat := UInt8.lt_iff_toNat_lt.1 hab
      have hne : a ≠ b := fun e => by subst e; omega
      have := key _ _ h'
      simp only [hab, if_true]
      simp [hne]
      omega
    · by_cases hba : b < a
      · have h' : b.toNat < a.toNat := UInt8.lt_iff_toNat_lt.1 hba
        have hne : a ≠ b := fun e => by subst e; omega
        have := key _ _ h'
        simp only [hab, hba, if_true, if_false]
        simp [hne]
        omega
      · have e : a = b := by
          have h1 : ¬ a.toNat < b.toNat := fun h => hab (UInt8.lt_iff_toNat_lt.2 h)
          have h2 : ¬ b.toNat < a.toNat := fun h => hba (UInt8.lt_iff_toNat_lt.2 h)
          exact UInt8.toNat_inj.1 (by omega)
        subst e
        simp only [hab, if_false]
        refine ⟨by rw [h1]; omega, by rw [h2]; simp, by rw [show (a :: r = a :: s) = (r = s) by simp, ← h3]; omega⟩
def orderF (x y : Head) : Int := orF (cmpN x.n y.n) (Lib.compareBytes x.h.1 y.h.1)
theorem cmpN_k (x y : Nat) : (cmpN x y < 0 ↔ x < y) ∧ (cmpN x y = 0 ↔ x = y) := by
  unfold cmpN
  split
  · omega
  · split <;> omega
theorem order_k (x y : Head) : (orderF x y < 0 ↔ x.n < y.n ∨ x.n = y.n ∧ kB x.h.1 < kB y.h.1) ∧ (orderF x y = 0 ↔ x = y) := by
  obtain ⟨h1, h2⟩ := cmpN_k x.n y.n
  obtain ⟨h3, h4, h5⟩ := compareB_k x.h.1 y.h.1 (by rw [x.h.2, y.h.2])
  have hx : (x = y) ↔ x.n = y.n ∧ x.h.1 = y.h.1 := by
    cases x; cases y; simp [Subtype.ext_iff]
  unfold orderF orF
  by_cases h0 : cmpN x.n y.n = 0
  · rw [if_neg (by simpa using h0)]
    have := h2.1 h0
    rw [h3, h4, hx]
    simp [this]
  · rw [if_pos h0, hx]
    have h6 : x.n ≠ y.n := fun h => h0 (h2.2 h)
    simp [h6, h0, h1]
def linkF (x y : Link) : Int := orF (orderF x.b y.b) (orderF x.a y.a)

theorem tfInts : TyF Tryz.prog 169 false 1 := ⟨Tryz.isAgg169, Tryz.sizeOf169⟩
theorem GetP.arrO {P : Program} {S : World → Prop} {t n e b o : Nat} {k : Value → Prop} (hu : ∀ w, (underlying t).run P w = .ok (.array n e) w) {sz : Nat} (hs : ∀ w, (sizeOf e).run P w = .ok sz w)
    (hk : k (.slice (some ⟨b, o, none⟩) n n)) : GetP P S (Instr.sliceAt t (.pointer (some ⟨b, o, none⟩)) none none none) k :=
  ⟨.slice (some ⟨b, o, none⟩) n n, fun w _ => by simp [Instr.sliceAt, hu, Instr.sureAddr, Instr.sliceBounds, hs, Addr.add], hk⟩
theorem seqH {w : World} {b : Nat} {x : Head} (h : Own w b (Head.cells x)) : Seq codByte w (.slice (some ⟨b, 1, none⟩) 32 32) x.h.1 := by
  refine .inr ⟨b, 1, 32, by rw [x.h.2], by rw [x.h.2]; exact Nat.le_refl _, h.lt, ?_⟩
  have := CellsAt.mid (pre := [u64V x.n]) (mid := H.cells x.h) (post := []) (w := w) (b := b) (o := 0) (by simpa [Head.cells] using h.cells)
  rw [codByte_all]
  exact this

theorem order_ok (x y : Head) (w : World) : Does Tryz.prog 46 [Head.val x, Head.val y] w (fun r w' => r = .int .i64 (orderF x y) ∧ Ext w w') := by
  (refine DoesX.of_vc tyOk Tryz.func46 rfl ⟨rfl, rfl⟩ rfl ?_; (conv => whnf))
  refine RunP.box ?_
  intro b2 w1 hb2 hO2 hE1
  have hO2 : Own w1 b2 (Head.cells x) := by simpa [Head.val, Value.cells] using hO2
  (conv => whnf)
  refine RunP.box ?_
  intro b3 w2 hb3 hO3 hE2
  have hO3 : Own w2 b3 (Head.cells y) := by simpa [Head.val, Value.cells] using hO3
  have hO2 := hO2.ext hE2
  have hE2 := hE1.trans hE2
  (conv => whnf)
  refine draw_ext tyOk mixed (.q 0 (.q 1 (.q 2 (.q 3 (.q 5 (.q 6 (.q 7 (.q 8 (.e [(4, .e [(9, .e [(10, .e [(11, .q 12 (.done))])])])]))))))))) (by kernel_rfl) ?_
  intro w3 hE3 hs3
  have hO2 := hO2.ext hE3
  have hO3 := hO3.ext hE3
  have hE3 := hE2.trans hE3
  (conv => whnf)
  refine GetP.ldS tfU64 (v := .int .u64 x.n) (fun w' hw' => by rw [(hO2.ext hw').cell]; rfl) ?_
  (conv => whnf)
  refine GetP.ldS tfU64 (v := .int .u64 y.n) (fun w' hw' => by rw [(hO3.ext hw').cell]; rfl) ?_
  (conv => whnf)
  refine GetP.arrO Tryz.runUnderlying24 Tryz.sizeOf5 ?_
  (conv => whnf)
  refine GetP.arrO Tryz.runUnderlying24 Tryz.sizeOf5 ?_
  (conv => whnf)
  refine CallP.does (compareN_ok x.n y.n w3) ?_
  rintro r w4 ⟨rfl, rfl⟩
  (conv => whnf)
  (refine BarP.no ?_)
  refine ReqP.mk (Ext.refl _) ?_
  (conv => whnf)
  refine CallP.does (compareB_ok _ _ x.h.1 y.h.1 w4 (seqH hO2) (seqH hO3)) ?_
  rintro r w4 ⟨rfl, rfl⟩
  (conv => whnf)
  (refine BarP.no ?_)
  refine ReqP.mk (Ext.refl _) ?_
  (conv => whnf)
  refine RunP.slice (C := codInt) (l := [cmpN x.n y.n, Lib.compareBytes x.h.1 y.h.1]) (vals := [intV (cmpN x.n y.n), intV (Lib.compareBytes x.h.1 y.h.1)]) Tryz.runUnderlying169 Tryz.sizeOf3 Tryz.zeroValue3 rfl rfl rfl (by simp [codInt]) ?_
  intro b15 w5 hb15 hO15 hE5 hq5 _
  (conv => whnf)
  (refine BarP.no ?_)
  refine ReqP.mk hE5 ?_
  (conv => whnf)
  refine CallP.does (or_ok _ _ _ w5 hq5) ?_
  rintro r w6 ⟨rfl, hE6⟩
  (conv => whnf)
  (refine BarP.no ?_)
  refine ReqP.mk (hE5.trans hE6) ?_
  (conv => whnf)
  exact ⟨rfl, hE3.trans (hE5.trans hE6)⟩

theorem Own.pre {w : World} {b : Nat} {pre post : List Value} (h : Own w b (pre ++ post)) : CellsAt w b 0 pre := CellsAt.take h.cells
theorem Own.post {w : World} {b : Nat} {pre post : List Value} (h : Own w b (pre ++ post)) : CellsAt w b (0 + pre.length) post := CellsAt.mid (post := []) (by simpa using h.cells)

theorem linkOrder_ok (x y : Link) (w : World) : Does Tryz.prog 44 [Link.val x, Link.val y] w (fun r w' => r = .int .i64 (linkF x y) ∧ Ext w w') := by
  (refine DoesX.of_vc tyOk Tryz.func44 rfl ⟨rfl, rfl⟩ rfl ?_; (conv => whnf))
  refine RunP.box ?_
  intro b2 w1 hb2 hO2 hE1
  have hO2 : Own w1 b2 (Head.cells x.a ++ Head.cells x.b) := by simpa [Link.val, Link.cells, Value.cells] using hO2
  (conv => whnf)
  refine RunP.box ?_
  intro b3 w2 hb3 hO3 hE2
  have hO3 : Own w2 b3 (Head.cells y.a ++ Head.cells y.b) := by simpa [Link.val, Link.cells, Value.cells] using hO3
  have hO2 := hO2.ext hE2
  have hE2 := hE1.trans hE2
  (conv => whnf)
  refine draw_ext tyOk mixed (.q 0 (.q 1 (.q 2 (.q 3 (.q 5 (.q 6 (.q 7 (.q 8 (.e [(4, .e [(9, .e [(10, .e [(11, .q 12 (.done))])])])]))))))))) (by kernel_rfl) ?_
  intro w3 hE3 hs3
  have hO2 := hO2.ext hE3
  have hO3 := hO3.ext hE3
  have hE3 := hE2.trans hE3
  (conv => whnf)
  refine GetP.ldsS tfHead (Head.len x.b) (fun w' hw' => by have := (hO2.ext hw').post; rw [Head.len] at this; exact this) ?_
  (conv => whnf)
  refine GetP.ldsS tfHead (Head.len y.b) (fun w' hw' => by have := (hO3.ext hw').post; rw [Head.len] at this; exact this) ?_
  (conv => whnf)
  refine GetP.ldsS tfHead (Head.len x.a) (fun w' hw' => (hO2.ext hw').pre) ?_
  (conv => whnf)
  refine GetP.ldsS tfHead (Head.len y.a) (fun w' hw' => (hO3.ext hw').pre) ?_
  (conv => whnf)
  refine CallP.does (order_ok x.b y.b w3) ?_
  rintro r w4 ⟨rfl, hE4⟩
  (conv => whnf)
  (refine BarP.no ?_)
  refine ReqP.mk hE4 ?_
  (conv => whnf)
  refine CallP.does (order_ok x.a y.a w4) ?_
  rintro r w5 ⟨rfl, hE5⟩
  have hE5 := hE4.trans hE5
  (conv => whnf)
  (refine BarP.no ?_)
  refine ReqP.mk hE5 ?_
  (conv => whnf)
  refine RunP.slice (C := codInt) (l := [orderF x.b y.b, orderF x.a y.a]) (vals := [intV (orderF x.b y.b), intV (orderF x.a y.a)]) Tryz.runUnderlying169 Tryz.sizeOf3 Tryz.zeroValue3 rfl rfl rfl (by simp [codInt]) ?_
  intro b15 w6 hb15 hO15 hE6 hq6 _
  have hE6 := hE5.trans hE6
  (conv => whnf)
  (refine BarP.no ?_)
  refine ReqP.mk hE6 ?_
  (conv => whnf)
  refine CallP.does (or_ok _ _ _ w6 hq6) ?_
  rintro r w7 ⟨rfl, hE7⟩
  have hE7 := hE6.trans hE7
  (conv => whnf)
  (refine BarP.no ?_)
  refine ReqP.mk hE7 ?_
  (conv => whnf)
  exact ⟨rfl, hE3.trans hE7⟩
end Go.Proofs.YtgeemplpgfiidaaGreatDoor.Mv
/- judge: lists of heads and of links sorted. Printed by genJd3.py. -/
namespace Go.Proofs.YtgeemplpgfiidaaGreatDoor.Mv
open Go Go.RowKit Go.Proofs

structure OrdF {α : Type} (F : α → α → Int) : Prop where
  asymm : ∀ a b, F a b < 0 → ¬ F b a < 0
  neg : ∀ a b c, ¬ F b a < 0 → ¬ F c b < 0 → ¬ F c a < 0
/-- Sorted: none goes ahead of an earlier one. -/
def SortedF {α : Type} (F : α → α → Int) (l : List α) : Prop := l.Pairwise fun a b => ¬ F b a < 0
section
variable {α : Type} {F : α → α → Int}
theorem sorted_step (hF : OrdF F) {A B : List α} {x : α} (h : SortedF F (A ++ B)) (hB : ∀ b ∈ B, F x b < 0) (hA : ∀ y, A.getLast? = some y → ¬ F x y < 0) : SortedF F (A ++ x :: B) := by
  unfold SortedF at h ⊢
  rw [List.pairwise_append] at h ⊢
  obtain ⟨h1, h2, h3⟩ := h
  refine ⟨h1, List.pairwise_cons.2 ⟨fun b hb => hF.asymm _ _ (hB b hb), h2⟩, fun a ha b hb => ?_⟩
  rcases List.mem_cons.1 hb with rfl | hb
  · rcases List.eq_nil_or_concat A with rfl | ⟨A', y, rfl⟩
    · cases ha
    · have hy := hA y (by simp)
      rcases List.mem_append.1 (by simpa using ha : a ∈ A' ++ [y]) with ha | ha
      · have h4 : ¬ F y a < 0 := by
          rw [List.concat_eq_append, List.pairwise_append] at h1
          exact h1.2.2 a ha y (by simp)
        exact hF.neg a y _ h4 hy
      · have : a = y := by simpa using ha
        subst this
        exact hy
  · exact h3 a ha b hb
theorem set_mid (A B : List α) (x y : α) : (A ++ x :: B).set A.length y = A ++ y :: B := by
  rw [List.set_append_right _ _ (Nat.le_refl _)]
  simp
end

theorem bitsLen_ok (x : Nat) (hx : x < 18446744073709551616) (w : World) : Does Tryz.prog 138 [.int .u64 x] w (fun r w' => r = .int .i64 (len x) ∧ w' = w) := by
  (refine DoesX.of_vc tyOk Tryz.func138 rfl ⟨rfl, rfl⟩ rfl ?_; (conv => whnf))
  refine CallP.does (len64_ok x hx w) ?_
  rintro r w1 ⟨rfl, rfl⟩
  (conv => whnf)
  exact ⟨rfl, rfl⟩

theorem HeadIns_ok (F : Head → Head → Int) (hF : OrdF F) (cf : FuncId) (hcmp : ∀ x y w, Does Tryz.prog cf [Head.val x, Head.val y] w (fun r w' => r = .int .i64 (F x y) ∧ Ext w w')) (base : Nat) (v : Value) (l : List Head) (w : World) (hn : l.length < 1048576) (hG : Grow codHead 29 base w v l) (hb : base ≤ w.heap.size) :
    Does Tryz.prog 184 [v, .int .i64 0, .int .i64 l.length, .func (.func cf) #[] #[]] w (fun _ w' => ∃ l', l'.Perm l ∧ SortedF F l' ∧ Grow codHead 29 base w' v l' ∧ Below base w w') := by
  obtain ⟨sn, sc, hvb⟩ : ∃ sn sc, v = .slice none sn sc ∧ l = [] ∨ ∃ g, v = .slice (some ⟨g, 0, none⟩) sn sc ∧ base ≤ g := by
    obtain ⟨_, ⟨rfl, h0⟩ | ⟨g, cap, cur, rfl, hgb, _⟩⟩ := hG
    · exact ⟨0, 0, .inl ⟨rfl, List.eq_nil_of_length_eq_zero h0⟩⟩
    · exact ⟨_, _, .inr ⟨g, rfl, hgb⟩⟩
  (refine DoesX.of_vc tyOk Tryz.func184 rfl ⟨rfl, rfl⟩ rfl ?_; (conv => whnf))
  (refine NumP.fit (by first | decide | (simp only [kmin]; omega)) (by first | decide | (simp only [kmax]; omega)) ?_; (conv => whnf))
  refine loop_only2 tyOk (fun (i : Nat) (_ : List Head) => [(0, v), (1, .int .i64 0), (2, .int .i64 l.length), (3, .func (.func cf) #[] #[]), (8, .int .i64 i)])
    (fun i L w' => L.Perm l ∧ SortedF F (L.take i) ∧ 1 ≤ i ∧ (i ≤ l.length ∨ l.length = 0) ∧ Grow codHead 29 base w' v L ∧ Below base w w') (fun i _ => l.length + 1 - i) 1 l
    (by repeat (first | exact trivial | refine ⟨rfl, ?_⟩)) ⟨.refl _, by cases l <;> simp [SortedF], Nat.le_refl _, by omega, hG, Below.refl _ _⟩ ?_
  rintro i L w1 ⟨hp, hs, hi1, hi, hG1, hE1⟩
  have hs1 := hE1.size
  have hlen := hp.length_eq
  (conv => whnf)
  refine CmpP.split (fun h => ?_) (fun h => ?_)
  rotate_left
  · have h : ¬ i < l.length := by simp at h; omega
    (conv => whnf)
    refine ⟨L, hp, ?_, hG1, hE1⟩
    rw [List.take_of_length_le (by omega)] at hs
    exact hs
  have h : i < l.length := by simp at h; omega
  rcases hvb with ⟨_, rfl⟩ | ⟨g, rfl, hgb⟩
  · simp at h
  have hx : i < L.length := by omega
  (conv => whnf)
  refine loop_only2 tyOk (fun (j : Nat) (_ : List Head) => [(0, .slice (some ⟨g, 0, none⟩) sn sc), (1, .int .i64 0), (2, .int .i64 l.length), (3, .func (.func cf) #[] #[]), (8, .int .i64 i), (9, .int .i64 j)])
    (fun j L' w' => (∃ A B R, A.length = j ∧ A.length + B.length = i ∧ L' = A ++ L[i] :: (B ++ R) ∧ SortedF F (A ++ B) ∧ ∀ b ∈ B, F L[i] b < 0) ∧ L'.Perm l ∧ Grow codHead 29 base w' (.slice (some ⟨g, 0, none⟩) sn sc) L' ∧ Below base w w') (fun j _ => j) i L
    (by repeat (first | exact trivial | refine ⟨rfl, ?_⟩)) ⟨⟨L.take i, [], L.drop (i + 1), by simp; omega, by simp; omega, by simp, by simpa using hs, by simp⟩, hp, hG1, hE1⟩ ?_
  rintro j L2 w2 ⟨⟨A, B, R, hA, hAB, rfl, hAs, hB⟩, hp2, hG2, hE2⟩
  have hs2 := hE2.size
  have hlen2 := hp2.length_eq
  simp only [List.length_append, List.length_cons] at hlen2
  (conv => whnf)
  refine draw_with tyOk mixed (.q 0 (.q 1 (.q 2 (.q 3 (.q 4 (.q 5 (.q 6 (.q 7 (.q 8 (.q 9 (.q 10 (.q 11 (.q 12 (.q 13 (.e [(14, .q 15 (.q 16 (.done)))]))))))))))))))) (by kernel_rfl) (fun w' => Ext w2 w') (fun _ h => h) ?_
  intro w3 hE3 hs3
  (conv => whnf)
  refine CmpP.split (fun h => ?_) (fun h => ?_)
  rotate_left
  · -- j = 0
    have h0 : j = 0 := by simp at h; omega
    subst h0
    have hA0 : A = [] := List.eq_nil_of_length_eq_zero hA
    subst hA0
    (conv => whnf)
    (refine BarP.no ?_)
    refine ReqP.mk hE3 ?_
    (conv => whnf)
    (refine NumP.fit (by first | decide | (simp only [kmin]; omega)) (by first | decide | (simp only [kmax]; omega)) ?_; (conv => whnf))
    refine ⟨i + 1, L[i] :: (B ++ R), (by repeat (first | exact trivial | refine ⟨rfl, ?_⟩)), ⟨by simpa using hp2, ?_, by omega, by omega, by simpa using hG2.ext hE3, below_ext hE2 hE3 (by omega)⟩, by omega⟩
    have := sorted_step hF (A := []) (x := L[i]) hAs hB (by simp)
    simp only [List.nil_append, List.length_nil, Nat.zero_add] at this hAB
    have e : List.take (i + 1) (L[i] :: (B ++ R)) = L[i] :: B := by rw [List.take_succ_cons, List.take_append_of_le_length (by omega), List.take_of_length_le (by omega)]
    rw [e]
    exact this
  have hj : 0 < j := by simp at h; omega
  obtain ⟨A', y, rfl⟩ : ∃ A' y, A = A' ++ [y] := by
    rcases List.eq_nil_or_concat A with rfl | ⟨A', y, rfl⟩
    · simp at hA; omega
    · exact ⟨A', y, by simp⟩
  have hA' : A'.length + 1 = j := by simpa using hA
  have hLe : (A' ++ [y]) ++ L[i] :: (B ++ R) = A' ++ y :: (L[i] :: (B ++ R)) := by simp
  rw [hLe] at hp2 hG2
  have hlt : ((A' ++ y :: (L[i] :: (B ++ R))).length) = l.length := hp2.length_eq
  have hsn : sn = l.length := by
    have := hG2.seq
    rcases this with ⟨h, _⟩ | ⟨b', o', cap', h, _⟩
    · cases h
    · cases h; exact hlt
  have gj1 : (A' ++ y :: (L[i] :: (B ++ R)))[j - 1]? = some y := by
    rw [List.getElem?_append_right (by omega), show j - 1 - A'.length = 0 by omega]; rfl
  have gj : (A' ++ y :: (L[i] :: (B ++ R)))[j]? = some L[i] := by
    rw [List.getElem?_append_right (by omega), show j - A'.length = 1 by omega]; rfl
  have cellsAt : ∀ (w' : World) (q : Nat) (z : Head), Grow codHead 29 base w' (.slice (some ⟨g, 0, none⟩) sn sc) (A' ++ y :: (L[i] :: (B ++ R))) → (A' ++ y :: (L[i] :: (B ++ R)))[q]? = some z → CellsAt w' g (0 + q * 33) (Head.cells z) := by
    intro w' q z hg hq
    have hql := (List.getElem?_eq_some_iff.1 hq).1
    have hqe := (List.getElem?_eq_some_iff.1 hq).2
    rcases hg.seq with ⟨h, _⟩ | ⟨b', o', cap', h, _, _, hc⟩
    · cases h
    · cases h
      rw [codHead.split hql, hqe] at hc
      have := hc.mid
      rw [codHead.all_len, List.length_take, Nat.min_eq_left (Nat.le_of_lt hql)] at this
      exact this
  (conv => whnf)
  refine GetP.idxO (i := j) Tryz.runUnderlying50 Tryz.sizeOf29 (by omega) ?_
  (conv => whnf)
  refine GetP.ldsS tfHead (Head.len L[i]) (fun w' hw' => cellsAt w' j L[i] (hG2.ext hw') gj) ?_
  (conv => whnf)
  (refine NumP.fit (by first | decide | (simp only [kmin]; omega)) (by first | decide | (simp only [kmax]; omega)) ?_; (conv => whnf))
  have hcast : ((j : Int) - 1) = ((j - 1 : Nat) : Int) := by omega
  rw [hcast]
  (conv => whnf)
  refine GetP.idxO (i := j - 1) Tryz.runUnderlying50 Tryz.sizeOf29 (by omega) ?_
  (conv => whnf)
  refine GetP.ldsS tfHead (Head.len y) (fun w' hw' => cellsAt w' (j - 1) y (hG2.ext hw') gj1) ?_
  (conv => whnf)
  refine CallP.does (hcmp L[i] y w3) ?_
  rintro r w4 ⟨rfl, hE4⟩
  have hE4 := hE3.trans hE4
  have hs4 := hE4.size
  (conv => whnf)
  (refine BarP.no ?_)
  refine ReqP.mk hE4 ?_
  (conv => whnf)
  refine CmpP.split (fun h => ?_) (fun h => ?_)
  · have hlt' : F L[i] y < 0 := by simpa using h
    have hG4 := hG2.ext hE4
    have hE24 : Below base w w4 := below_ext hE2 hE4 (by omega)
    (conv => whnf)
    refine draw_with tyOk mixed (.q 0 (.q 1 (.q 2 (.q 3 (.q 4 (.q 5 (.q 6 (.q 7 (.q 8 (.q 9 (.q 10 (.q 11 (.q 12 (.q 13 (.q 14 (.e [(15, .q 16 (.e [(17, .done)]))])))))))))))))))) (by kernel_rfl) (fun w' => Ext w4 w') (fun _ h => h) ?_
    intro w5 hE5 hs5
    have hG5 := hG4.ext hE5
    have hE25 : Below base w w5 := below_ext hE24 hE5 (by omega)
    (conv => whnf)
    (refine NumP.fit (by first | decide | (simp only [kmin]; omega)) (by first | decide | (simp only [kmax]; omega)) ?_; (conv => whnf))
    (refine NumP.fit (by first | decide | (simp only [kmin]; omega)) (by first | decide | (simp only [kmax]; omega)) ?_; (conv => whnf))
    rw [hcast]
    (conv => whnf)
    refine GetP.idxO (i := j - 1) Tryz.runUnderlying50 Tryz.sizeOf29 (by omega) ?_
    (conv => whnf)
    refine GetP.ldsS tfHead (Head.len y) (fun w' hw' => cellsAt w' (j - 1) y (hG4.ext hw') gj1) ?_
    (conv => whnf)
    refine GetP.idxO (i := j) Tryz.runUnderlying50 Tryz.sizeOf29 (by omega) ?_
    (conv => whnf)
    refine GetP.ldsS tfHead (Head.len L[i]) (fun w' hw' => cellsAt w' j L[i] (hG4.ext hw') gj) ?_
    (conv => whnf)
    refine GetP.idxO (i := j) Tryz.runUnderlying50 Tryz.sizeOf29 (by omega) ?_
    (conv => whnf)
    refine DoP.stG (C := codHead) (a := y) (i := j) tfHead hG5 (by omega) rfl ?_
    intro w6 hG6 hU6
    have hs6 := hU6.size
    (conv => whnf)
    (refine BarP.yes (by decide +kernel) ?_; (conv => whnf))
    refine GetP.idxO (i := j - 1) Tryz.runUnderlying50 Tryz.sizeOf29 (by omega) ?_
    (conv => whnf)
    refine DoP.stG (C := codHead) (a := L[i]) (i := j - 1) tfHead hG6 (by rw [List.length_set]; omega) rfl ?_
    intro w7 hG7 hU7
    (conv => whnf)
    (refine BarP.yes (by decide +kernel) ?_; (conv => whnf))
    (refine NumP.fit (by first | decide | (simp only [kmin]; omega)) (by first | decide | (simp only [kmax]; omega)) ?_; (conv => whnf))
    rw [hcast]
    have hset : ((A' ++ y :: (L[i] :: (B ++ R))).set j y).set (j - 1) L[i] = A' ++ L[i] :: ((y :: B) ++ R) := by
      have e1 : (A' ++ y :: (L[i] :: (B ++ R))).set j y = A' ++ y :: (y :: (B ++ R)) := by
        have := set_mid (A' ++ [y]) (B ++ R) L[i] y
        simpa [hA'] using this
      rw [e1]
      have := set_mid A' (y :: (B ++ R)) y L[i]
      rw [show A'.length = j - 1 by omega] at this
      simpa using this
    rw [hset] at hG7
    refine ⟨j - 1, _, (by repeat (first | exact trivial | refine ⟨rfl, ?_⟩)), ⟨⟨A', y :: B, R, by omega, by simp at hAB ⊢; omega, rfl, by simpa using hAs, ?_⟩, ?_, hG7, below_upd (below_upd hE25 hU6 hgb (by omega)) hU7 hgb (by omega)⟩, by omega⟩
    · intro b hb
      rcases List.mem_cons.1 hb with rfl | hb
      · exact hlt'
      · exact hB b hb
    · refine List.Perm.trans ?_ hp2
      refine List.Perm.append_left A' ?_
      exact List.Perm.swap _ _ _
  · have hlt' : ¬ F L[i] y < 0 := by simpa using h
    (conv => whnf)
    (refine NumP.fit (by first | decide | (simp only [kmin]; omega)) (by first | decide | (simp only [kmax]; omega)) ?_; (conv => whnf))
    refine ⟨i + 1, _, (by repeat (first | exact trivial | refine ⟨rfl, ?_⟩)), ⟨hp2, ?_, by omega, by omega, hG2.ext hE4, below_ext hE2 hE4 (by omega)⟩, by omega⟩
    have := sorted_step hF (x := L[i]) hAs hB (by intro z hz; simp at hz; subst hz; exact hlt')
    have e : List.take (i + 1) (A' ++ y :: (L[i] :: (B ++ R))) = (A' ++ [y]) ++ L[i] :: B := by
      have hab : A'.length + 1 + B.length = i := by simpa using hAB
      rw [show A' ++ y :: (L[i] :: (B ++ R)) = ((A' ++ [y]) ++ L[i] :: B) ++ R by simp]
      rw [List.take_append_of_le_length (by simp; omega), List.take_of_length_le (by simp; omega)]
    rw [e]
    exact this

theorem HeadSort_ok (F : Head → Head → Int) (hF : OrdF F) (cf : FuncId) (hcmp : ∀ x y w, Does Tryz.prog cf [Head.val x, Head.val y] w (fun r w' => r = .int .i64 (F x y) ∧ Ext w w')) (base : Nat) (v : Value) (l : List Head) (w : World) (hn : l.length ≤ 12) (hG : Grow codHead 29 base w v l) (hb : base ≤ w.heap.size) :
    Does Tryz.prog 112 [v, .func (.func cf) #[] #[]] w (fun _ w' => ∃ l', l'.Perm l ∧ SortedF F l' ∧ Grow codHead 29 base w' v l' ∧ Below base w w') := by
  (refine DoesX.of_vc tyOk Tryz.func112 rfl ⟨rfl, rfl⟩ rfl ?_; (conv => whnf))
  refine GetP.lenS Tryz.runUnderlying50 hG.seq ?_
  (conv => whnf)
  (refine NumP.fit (by first | decide | (simp only [kmin]; omega)) (by first | decide | (simp only [kmax]; omega)) ?_; (conv => whnf))
  refine CallP.does (bitsLen_ok l.length (by omega) w) ?_
  rintro r w1 ⟨rfl, rfl⟩
  (conv => whnf)
  refine CallP.does (R := fun _ w' => ∃ l', l'.Perm l ∧ SortedF F l' ∧ Grow codHead 29 base w' v l' ∧ Below base w1 w') ?_ ?_
  · (refine DoesX.of_vc tyOk Tryz.func154 rfl ⟨rfl, rfl⟩ rfl ?_; (conv => whnf))
    refine loop_only tyOk (σ := Unit) (fun _ => [(0, v), (1, .int .i64 0), (2, .int .i64 l.length), (4, .func (.func cf) #[] #[])]) (fun _ w' => w' = w1) (fun _ => 0) () (by repeat (first | exact trivial | refine ⟨rfl, ?_⟩)) rfl ?_
    rintro _ w1 rfl
    (conv => whnf)
    (refine NumP.fit (by first | decide | (simp only [kmin]; omega)) (by first | decide | (simp only [kmax]; omega)) ?_; (conv => whnf))
    refine CmpP.yes (by simp; omega) ?_
    (conv => whnf)
    refine CallP.does (HeadIns_ok F hF cf hcmp base v l w1 (by omega) hG hb) ?_
    rintro r w2 h2
    (conv => whnf)
    exact h2
  · rintro r w2 h2
    (conv => whnf)
    exact h2

theorem LinkIns_ok (F : Link → Link → Int) (hF : OrdF F) (cf : FuncId) (hcmp : ∀ x y w, Does Tryz.prog cf [Link.val x, Link.val y] w (fun r w' => r = .int .i64 (F x y) ∧ Ext w w')) (base : Nat) (v : Value) (l : List Link) (w : World) (hn : l.length < 1048576) (hG : Grow codLink 90 base w v l) (hb : base ≤ w.heap.size) :
    Does Tryz.prog 170 [v, .int .i64 0, .int .i64 l.length, .func (.func cf) #[] #[]] w (fun _ w' => ∃ l', l'.Perm l ∧ SortedF F l' ∧ Grow codLink 90 base w' v l' ∧ Below base w w') := by
  obtain ⟨sn, sc, hvb⟩ : ∃ sn sc, v = .slice none sn sc ∧ l = [] ∨ ∃ g, v = .slice (some ⟨g, 0, none⟩) sn sc ∧ base ≤ g := by
    obtain ⟨_, ⟨rfl, h0⟩ | ⟨g, cap, cur, rfl, hgb, _⟩⟩ := hG
    · exact ⟨0, 0, .inl ⟨rfl, List.eq_nil_of_length_eq_zero h0⟩⟩
    · exact ⟨_, _, .inr ⟨g, rfl, hgb⟩⟩
  (refine DoesX.of_vc tyOk Tryz.func170 rfl ⟨rfl, rfl⟩ rfl ?_; (conv => whnf))
  (refine NumP.fit (by first | decide | (simp only [kmin]; omega)) (by first | decide | (simp only [kmax]; omega)) ?_; (conv => whnf))
  refine loop_only2 tyOk (fun (i : Nat) (_ : List Link) => [(0, v), (1, .int .i64 0), (2, .int .i64 l.length), (3, .func (.func cf) #[] #[]), (8, .int .i64 i)])
    (fun i L w' => L.Perm l ∧ SortedF F (L.take i) ∧ 1 ≤ i ∧ (i ≤ l.length ∨ l.length = 0) ∧ Grow codLink 90 base w' v L ∧ Below base w w') (fun i _ => l.length + 1 - i) 1 l
    (by repeat (first | exact trivial | refine ⟨rfl, ?_⟩)) ⟨.refl _, by cases l <;> simp [SortedF], Nat.le_refl _, by omega, hG, Below.refl _ _⟩ ?_
  rintro i L w1 ⟨hp, hs, hi1, hi, hG1, hE1⟩
  have hs1 := hE1.size
  have hlen := hp.length_eq
  (conv => whnf)
  refine CmpP.split (fun h => ?_) (fun h => ?_)
  rotate_left
  · have h : ¬ i < l.length := by simp at h; omega
    (conv => whnf)
    refine ⟨L, hp, ?_, hG1, hE1⟩
    rw [List.take_of_length_le (by omega)] at hs
    exact hs
  have h : i < l.length := by simp at h; omega
  rcases hvb with ⟨_, rfl⟩ | ⟨g, rfl, hgb⟩
  · simp at h
  have hx : i < L.length := by omega
  (conv => whnf)
  refine loop_only2 tyOk (fun (j : Nat) (_ : List Link) => [(0, .slice (some ⟨g, 0, none⟩) sn sc), (1, .int .i64 0), (2, .int .i64 l.length), (3, .func (.func cf) #[] #[]), (8, .int .i64 i), (9, .int .i64 j)])
    (fun j L' w' => (∃ A B R, A.length = j ∧ A.length + B.length = i ∧ L' = A ++ L[i] :: (B ++ R) ∧ SortedF F (A ++ B) ∧ ∀ b ∈ B, F L[i] b < 0) ∧ L'.Perm l ∧ Grow codLink 90 base w' (.slice (some ⟨g, 0, none⟩) sn sc) L' ∧ Below base w w') (fun j _ => j) i L
    (by repeat (first | exact trivial | refine ⟨rfl, ?_⟩)) ⟨⟨L.take i, [], L.drop (i + 1), by simp; omega, by simp; omega, by simp, by simpa using hs, by simp⟩, hp, hG1, hE1⟩ ?_
  rintro j L2 w2 ⟨⟨A, B, R, hA, hAB, rfl, hAs, hB⟩, hp2, hG2, hE2⟩
  have hs2 := hE2.size
  have hlen2 := hp2.length_eq
  simp only [List.length_append, List.length_cons] at hlen2
  (conv => whnf)
  refine draw_with tyOk mixed (.q 0 (.q 1 (.q 2 (.q 3 (.q 4 (.q 5 (.q 6 (.q 7 (.q 8 (.q 9 (.q 10 (.q 11 (.q 12 (.q 13 (.e [(14, .q 15 (.q 16 (.done)))]))))))))))))))) (by kernel_rfl) (fun w' => Ext w2 w') (fun _ h => h) ?_
  intro w3 hE3 hs3
  (conv => whnf)
  refine CmpP.split (fun h => ?_) (fun h => ?_)
  rotate_left
  · -- j = 0
    have h0 : j = 0 := by simp at h; omega
    subst h0
    have hA0 : A = [] := List.eq_nil_of_length_eq_zero hA
    subst hA0
    (conv => whnf)
    (refine BarP.no ?_)
    refine ReqP.mk hE3 ?_
    (conv => whnf)
    (refine NumP.fit (by first | decide | (simp only [kmin]; omega)) (by first | decide | (simp only [kmax]; omega)) ?_; (conv => whnf))
    refine ⟨i + 1, L[i] :: (B ++ R), (by repeat (first | exact trivial | refine ⟨rfl, ?_⟩)), ⟨by simpa using hp2, ?_, by omega, by omega, by simpa using hG2.ext hE3, below_ext hE2 hE3 (by omega)⟩, by omega⟩
    have := sorted_step hF (A := []) (x := L[i]) hAs hB (by simp)
    simp only [List.nil_append, List.length_nil, Nat.zero_add] at this hAB
    have e : List.take (i + 1) (L[i] :: (B ++ R)) = L[i] :: B := by rw [List.take_succ_cons, List.take_append_of_le_length (by omega), List.take_of_length_le (by omega)]
    rw [e]
    exact this
  have hj : 0 < j := by simp at h; omega
  obtain ⟨A', y, rfl⟩ : ∃ A' y, A = A' ++ [y] := by
    rcases List.eq_nil_or_concat A with rfl | ⟨A', y, rfl⟩
    · simp at hA; omega
    · exact ⟨A', y, by simp⟩
  have hA' : A'.length + 1 = j := by simpa using hA
  have hLe : (A' ++ [y]) ++ L[i] :: (B ++ R) = A' ++ y :: (L[i] :: (B ++ R)) := by simp
  rw [hLe] at hp2 hG2
  have hlt : ((A' ++ y :: (L[i] :: (B ++ R))).length) = l.length := hp2.length_eq
  have hsn : sn = l.length := by
    have := hG2.seq
    rcases this with ⟨h, _⟩ | ⟨b', o', cap', h, _⟩
    · cases h
    · cases h; exact hlt
  have gj1 : (A' ++ y :: (L[i] :: (B ++ R)))[j - 1]? = some y := by
    rw [List.getElem?_append_right (by omega), show j - 1 - A'.length = 0 by omega]; rfl
  have gj : (A' ++ y :: (L[i] :: (B ++ R)))[j]? = some L[i] := by
    rw [List.getElem?_append_right (by omega), show j - A'.length = 1 by omega]; rfl
  have cellsAt : ∀ (w' : World) (q : Nat) (z : Link), Grow codLink 90 base w' (.slice (some ⟨g, 0, none⟩) sn sc) (A' ++ y :: (L[i] :: (B ++ R))) → (A' ++ y :: (L[i] :: (B ++ R)))[q]? = some z → CellsAt w' g (0 + q * 66) (Link.cells z) := by
    intro w' q z hg hq
    have hql := (List.getElem?_eq_some_iff.1 hq).1
    have hqe := (List.getElem?_eq_some_iff.1 hq).2
    rcases hg.seq with ⟨h, _⟩ | ⟨b', o', cap', h, _, _, hc⟩
    · cases h
    · cases h
      rw [codLink.split hql, hqe] at hc
      have := hc.mid
      rw [codLink.all_len, List.length_take, Nat.min_eq_left (Nat.le_of_lt hql)] at this
      exact this
  (conv => whnf)
  refine GetP.idxO (i := j) Tryz.runUnderlying93 Tryz.sizeOf90 (by omega) ?_
  (conv => whnf)
  refine GetP.ldsS tfLink (Link.len L[i]) (fun w' hw' => cellsAt w' j L[i] (hG2.ext hw') gj) ?_
  (conv => whnf)
  (refine NumP.fit (by first | decide | (simp only [kmin]; omega)) (by first | decide | (simp only [kmax]; omega)) ?_; (conv => whnf))
  have hcast : ((j : Int) - 1) = ((j - 1 : Nat) : Int) := by omega
  rw [hcast]
  (conv => whnf)
  refine GetP.idxO (i := j - 1) Tryz.runUnderlying93 Tryz.sizeOf90 (by omega) ?_
  (conv => whnf)
  refine GetP.ldsS tfLink (Link.len y) (fun w' hw' => cellsAt w' (j - 1) y (hG2.ext hw') gj1) ?_
  (conv => whnf)
  refine CallP.does (hcmp L[i] y w3) ?_
  rintro r w4 ⟨rfl, hE4⟩
  have hE4 := hE3.trans hE4
  have hs4 := hE4.size
  (conv => whnf)
  (refine BarP.no ?_)
  refine ReqP.mk hE4 ?_
  (conv => whnf)
  refine CmpP.split (fun h => ?_) (fun h => ?_)
  · have hlt' : F L[i] y < 0 := by simpa using h
    have hG4 := hG2.ext hE4
    have hE24 : Below base w w4 := below_ext hE2 hE4 (by omega)
    (conv => whnf)
    refine draw_with tyOk mixed (.q 0 (.q 1 (.q 2 (.q 3 (.q 4 (.q 5 (.q 6 (.q 7 (.q 8 (.q 9 (.q 10 (.q 11 (.q 12 (.q 13 (.q 14 (.e [(15, .q 16 (.e [(17, .done)]))])))))))))))))))) (by kernel_rfl) (fun w' => Ext w4 w') (fun _ h => h) ?_
    intro w5 hE5 hs5
    have hG5 := hG4.ext hE5
    have hE25 : Below base w w5 := below_ext hE24 hE5 (by omega)
    (conv => whnf)
    (refine NumP.fit (by first | decide | (simp only [kmin]; omega)) (by first | decide | (simp only [kmax]; omega)) ?_; (conv => whnf))
    (refine NumP.fit (by first | decide | (simp only [kmin]; omega)) (by first | decide | (simp only [kmax]; omega)) ?_; (conv => whnf))
    rw [hcast]
    (conv => whnf)
    refine GetP.idxO (i := j - 1) Tryz.runUnderlying93 Tryz.sizeOf90 (by omega) ?_
    (conv => whnf)
    refine GetP.ldsS tfLink (Link.len y) (fun w' hw' => cellsAt w' (j - 1) y (hG4.ext hw') gj1) ?_
    (conv => whnf)
    refine GetP.idxO (i := j) Tryz.runUnderlying93 Tryz.sizeOf90 (by omega) ?_
    (conv => whnf)
    refine GetP.ldsS tfLink (Link.len L[i]) (fun w' hw' => cellsAt w' j L[i] (hG4.ext hw') gj) ?_
    (conv => whnf)
    refine GetP.idxO (i := j) Tryz.runUnderlying93 Tryz.sizeOf90 (by omega) ?_
    (conv => whnf)
    refine DoP.stG (C := codLink) (a := y) (i := j) tfLink hG5 (by omega) rfl ?_
    intro w6 hG6 hU6
    have hs6 := hU6.size
    (conv => whnf)
    (refine BarP.yes (by decide +kernel) ?_; (conv => whnf))
    refine GetP.idxO (i := j - 1) Tryz.runUnderlying93 Tryz.sizeOf90 (by omega) ?_
    (conv => whnf)
    refine DoP.stG (C := codLink) (a := L[i]) (i := j - 1) tfLink hG6 (by rw [List.length_set]; omega) rfl ?_
    intro w7 hG7 hU7
    (conv => whnf)
    (refine BarP.yes (by decide +kernel) ?_; (conv => whnf))
    (refine NumP.fit (by first | decide | (simp only [kmin]; omega)) (by first | decide | (simp only [kmax]; omega)) ?_; (conv => whnf))
    rw [hcast]
    have hset : ((A' ++ y :: (L[i] :: (B ++ R))).set j y).set (j - 1) L[i] = A' ++ L[i] :: ((y :: B) ++ R) := by
      have e1 : (A' ++ y :: (L[i] :: (B ++ R))).set j y = A' ++ y :: (y :: (B ++ R)) := by
        have := set_mid (A' ++ [y]) (B ++ R) L[i] y
        simpa [hA'] using this
      rw [e1]
      have := set_mid A' (y :: (B ++ R)) y L[i]
      rw [show A'.length = j - 1 by omega] at this
      simpa using this
    rw [hset] at hG7
    refine ⟨j - 1, _, (by repeat (first | exact trivial | refine ⟨rfl, ?_⟩)), ⟨⟨A', y :: B, R, by omega, by simp at hAB ⊢; omega, rfl, by simpa using hAs, ?_⟩, ?_, hG7, below_upd (below_upd hE25 hU6 hgb (by omega)) hU7 hgb (by omega)⟩, by omega⟩
    · intro b hb
      rcases List.mem_cons.1 hb with rfl | hb
      · exact hlt'
      · exact hB b hb
    · refine List.Perm.trans ?_ hp2
      refine List.Perm.append_left A' ?_
      exact List.Perm.swap _ _ _
  · have hlt' : ¬ F L[i] y < 0 := by simpa using h
    (conv => whnf)
    (refine NumP.fit (by first | decide | (simp only [kmin]; omega)) (by first | decide | (simp only [kmax]; omega)) ?_; (conv => whnf))
    refine ⟨i + 1, _, (by repeat (first | exact trivial | refine ⟨rfl, ?_⟩)), ⟨hp2, ?_, by omega, by omega, hG2.ext hE4, below_ext hE2 hE4 (by omega)⟩, by omega⟩
    have := sorted_step hF (x := L[i]) hAs hB (by intro z hz; simp at hz; subst hz; exact hlt')
    have e : List.take (i + 1) (A' ++ y :: (L[i] :: (B ++ R))) = (A' ++ [y]) ++ L[i] :: B := by
      have hab : A'.length + 1 + B.length = i := by simpa using hAB
      rw [show A' ++ y :: (L[i] :: (B ++ R)) = ((A' ++ [y]) ++ L[i] :: B) ++ R by simp]
      rw [List.take_append_of_le_length (by simp; omega), List.take_of_length_le (by simp; omega)]
    rw [e]
    exact this

theorem LinkSort_ok (F : Link → Link → Int) (hF : OrdF F) (cf : FuncId) (hcmp : ∀ x y w, Does Tryz.prog cf [Link.val x, Link.val y] w (fun r w' => r = .int .i64 (F x y) ∧ Ext w w')) (base : Nat) (v : Value) (l : List Link) (w : World) (hn : l.length ≤ 12) (hG : Grow codLink 90 base w v l) (hb : base ≤ w.heap.size) :
    Does Tryz.prog 92 [v, .func (.func cf) #[] #[]] w (fun _ w' => ∃ l', l'.Perm l ∧ SortedF F l' ∧ Grow codLink 90 base w' v l' ∧ Below base w w') := by
  (refine DoesX.of_vc tyOk Tryz.func92 rfl ⟨rfl, rfl⟩ rfl ?_; (conv => whnf))
  refine GetP.lenS Tryz.runUnderlying93 hG.seq ?_
  (conv => whnf)
  (refine NumP.fit (by first | decide | (simp only [kmin]; omega)) (by first | decide | (simp only [kmax]; omega)) ?_; (conv => whnf))
  refine CallP.does (bitsLen_ok l.length (by omega) w) ?_
  rintro r w1 ⟨rfl, rfl⟩
  (conv => whnf)
  refine CallP.does (R := fun _ w' => ∃ l', l'.Perm l ∧ SortedF F l' ∧ Grow codLink 90 base w' v l' ∧ Below base w1 w') ?_ ?_
  · (refine DoesX.of_vc tyOk Tryz.func137 rfl ⟨rfl, rfl⟩ rfl ?_; (conv => whnf))
    refine loop_only tyOk (σ := Unit) (fun _ => [(0, v), (1, .int .i64 0), (2, .int .i64 l.length), (4, .func (.func cf) #[] #[])]) (fun _ w' => w' = w1) (fun _ => 0) () (by repeat (first | exact trivial | refine ⟨rfl, ?_⟩)) rfl ?_
    rintro _ w1 rfl
    (conv => whnf)
    (refine NumP.fit (by first | decide | (simp only [kmin]; omega)) (by first | decide | (simp only [kmax]; omega)) ?_; (conv => whnf))
    refine CmpP.yes (by simp; omega) ?_
    (conv => whnf)
    refine CallP.does (LinkIns_ok F hF cf hcmp base v l w1 (by omega) hG hb) ?_
    rintro r w2 h2
    (conv => whnf)
    exact h2
  · rintro r w2 h2
    (conv => whnf)
    exact h2
end Go.Proofs.YtgeemplpgfiidaaGreatDoor.Mv
