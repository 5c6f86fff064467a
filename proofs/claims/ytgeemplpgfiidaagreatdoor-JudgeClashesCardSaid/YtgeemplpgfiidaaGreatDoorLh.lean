/- clash: the book of texts: bytes.Equal, NewBook, Add, Found, unlike, Holds. -/
import Derived.Test.YtgeemplpgfiidaaGreatDoorLg
import Derived.Test.YtgeemplpgfiidaaGreatDoorLc
namespace Go.Proofs.YtgeemplpgfiidaaGreatDoor.Mv
open Go Go.RowKit Go.Proofs

theorem equal_ok (v u : Value) (l m : List UInt8) (w : World) (hv : Seq codByte w v l) (hu : Seq codByte w u m) :
    Does Tryz.prog 48 [v, u] w (fun r w' => w' = w ∧ r = .bool (decide (l = m))) := by
  obtain ⟨a1, n1, c1, rfl⟩ := seq_form hv
  obtain ⟨a2, n2, c2, rfl⟩ := seq_form hu
  (refine DoesX.of_vc tyOk Tryz.func48 rfl ⟨rfl, rfl⟩ rfl ?_; (conv => whnf))
  refine GetP.bytesStr Tryz.underlying25 Tryz.underlying5 Tryz.underlying9 hv ?_
  (conv => whnf)
  refine GetP.bytesStr Tryz.underlying25 Tryz.underlying5 Tryz.underlying9 hu ?_
  (conv => whnf)
  refine CmpP.of (decide (l = m)) (by rw [strOf_toList, strOf_toList, Bool.eq_iff_iff]; simp) ?_
  (conv => whnf)
  exact ⟨rfl, rfl⟩

structure BookS where
  texts : List (H × List UInt8)
  found : Option (List UInt8 × List UInt8)
def addB (wd : Int) (S : BookS) (t : List UInt8) : BookS :=
  match getA (hsum wd t) S.texts with
  | none => { S with texts := setA (hsum wd t) t S.texts }
  | some old => if S.found = none ∧ old ≠ t then { S with found := some (old, t) } else S

/-- A text that lies in memory, in no block of A. -/
structure TextAt (w : World) (A : Nat → Prop) (v : Value) (t : List UInt8) : Prop where
  seq : Seq codByte w v t
  off : ∀ x, inBlock v x → ¬ A x
  len : t.length ≤ 1000
def TextsAt (w : World) (A : Nat → Prop) : List (H × Value) → List (H × List UInt8) → Prop
  | [], [] => True
  | p :: r, q :: s => p.1 = q.1 ∧ TextAt w A p.2 q.2 ∧ TextsAt w A r s
  | _, _ => False
def FoundAt (w : World) (A : Nat → Prop) (fp : Option Addr) (f : Option (List UInt8 × List UInt8)) : Prop :=
  (fp = none ∧ f = none) ∨ ∃ bf va vb x y, fp = some ⟨bf, 0, none⟩ ∧ f = some (x, y) ∧ ¬ A bf ∧ Own w bf [va, vb] ∧ TextAt w A va x ∧ TextAt w A vb y
/-- A book; what it has lies in no block of A, but for B and bm. -/
structure BookAt (wd : Int) (w : World) (B bm : Nat) (A : Nat → Prop) (S : BookS) : Prop where
  out : ∃ (vals : List (H × Value)) (fp : Option Addr), Own w B [.int .i64 wd, .map (some bm), .pointer fp] ∧ MapAt H.val w bm vals ∧ B ≠ bm ∧ TextsAt w A vals S.texts ∧ FoundAt w A fp S.found
  inA : A B ∧ A bm
  lt : ∀ x, A x → x < w.heap.size

section
variable {w w' : World} {B bm : Nat} {A A' : Nat → Prop}
/-- What is not in A stands. -/
def Kept (A : Nat → Prop) (w w' : World) : Prop := w.heap.size ≤ w'.heap.size ∧ ∀ k, k < w.heap.size → ¬ A k → w'.heap[k]? = w.heap[k]?
theorem Kept.of_upd2 (e : Upd2 B bm w w') (h : A B ∧ A bm) : Kept A w w' := ⟨e.size, fun k hk hn => e.block k hk (fun e => hn (e ▸ h.1)) (fun e => hn (e ▸ h.2))⟩
theorem Kept.of_ext (e : Ext w w') : Kept A w w' := ⟨e.size, fun k hk _ => e.block k hk⟩
theorem Kept.of_upd {g : Nat} (e : Upd g w w') (h : A g) : Kept A w w' := ⟨e.size, fun k hk hn => e.block k hk (fun e => hn (e ▸ h))⟩
theorem TextAt.kept {v : Value} {t : List UInt8} (h : TextAt w A v t) (e : Kept A w w') : TextAt w' A v t := by
  refine ⟨?_, h.off, h.len⟩
  rcases h.seq with h0 | ⟨c, o, cap, hv, hc, hb, hcells⟩
  · exact .inl h0
  · have hn := h.off c (by rw [hv]; exact ⟨_, _, _, rfl⟩)
    exact .inr ⟨c, o, cap, hv, hc, Nat.lt_of_lt_of_le hb e.1, fun j u hu => (World.cell?_of_block (e.2 c hb hn)).trans (hcells j u hu)⟩
theorem TextsAt.kept (e : Kept A w w') : ∀ {r : List (H × Value)} {s : List (H × List UInt8)}, TextsAt w A r s → TextsAt w' A r s
  | [], [], _ => trivial
  | _ :: _, _ :: _, h => ⟨h.1, h.2.1.kept e, TextsAt.kept e h.2.2⟩
  | [], _ :: _, h => h.elim
  | _ :: _, [], h => h.elim
theorem FoundAt.kept {fp : Option Addr} {f : Option (List UInt8 × List UInt8)} (e : Kept A w w') (h : FoundAt w A fp f) : FoundAt w' A fp f := by
  rcases h with h | ⟨bf, va, vb, x, y, h1, h2, h3, h5, h6, h7⟩
  · exact .inl h
  · have hl := h5.lt
    obtain ⟨t, ht⟩ := h5
    exact .inr ⟨bf, va, vb, x, y, h1, h2, h3, ⟨t, (e.2 bf hl h3).trans ht⟩, h6.kept e, h7.kept e⟩
theorem BookAt.ltB {wd : Int} {S : BookS} (h : BookAt wd w B bm A S) : B < w.heap.size ∧ bm < w.heap.size ∧ B ≠ bm := by
  obtain ⟨vals, fp, h1, h2, h3, h4, h5⟩ := h.out
  exact ⟨h1.lt, h2.lt, h3⟩
theorem BookAt.ext {wd : Int} {S : BookS} (h : BookAt wd w B bm A S) (e : Ext w w') : BookAt wd w' B bm A S := by
  obtain ⟨vals, fp, h1, h2, h3, h4, h5⟩ := h.out
  exact ⟨⟨vals, fp, h1.ext e, h2.ext e, h3, h4.kept (.of_ext e), h5.kept (.of_ext e)⟩, h.inA, fun x hx => Nat.lt_of_lt_of_le (h.lt x hx) e.size⟩
theorem BookAt.upd {wd : Int} {S : BookS} {g : Nat} (h : BookAt wd w B bm A S) (e : Upd g w w') (hg : A g) (h1 : g ≠ B) (h2 : g ≠ bm) : BookAt wd w' B bm A S := by
  obtain ⟨vals, fp, g1, g2, g3, g4, g5⟩ := h.out
  exact ⟨⟨vals, fp, g1.upd e (Ne.symm h1), g2.upd e (Ne.symm h2), g3, g4.kept (.of_upd e hg), g5.kept (.of_upd e hg)⟩, h.inA, fun x hx => Nat.lt_of_lt_of_le (h.lt x hx) e.size⟩
theorem TextAt.weaken {v : Value} {t : List UInt8} (h : TextAt w A v t) (hA : ∀ x, x < w.heap.size → A' x → A x) : TextAt w A' v t := ⟨h.seq, fun x hx hn => h.off x hx (hA x (h.seq.lt hx) hn), h.len⟩
theorem TextsAt.weaken (hA : ∀ x, x < w.heap.size → A' x → A x) : ∀ {r : List (H × Value)} {s : List (H × List UInt8)}, TextsAt w A r s → TextsAt w A' r s
  | [], [], _ => trivial
  | _ :: _, _ :: _, h => ⟨h.1, h.2.1.weaken hA, TextsAt.weaken hA h.2.2⟩
  | [], _ :: _, h => h.elim
  | _ :: _, [], h => h.elim
theorem FoundAt.weaken {fp : Option Addr} {f : Option (List UInt8 × List UInt8)} (hA : ∀ x, x < w.heap.size → A' x → A x) (h : FoundAt w A fp f) : FoundAt w A' fp f := by
  rcases h with h | ⟨bf, va, vb, x, y, h1, h2, h3, h5, h6, h7⟩
  · exact .inl h
  · exact .inr ⟨bf, va, vb, x, y, h1, h2, fun hn => h3 (hA bf h5.lt hn), h5, h6.weaken hA, h7.weaken hA⟩
/-- Less is kept apart. -/
theorem BookAt.less {wd : Int} {S : BookS} (h : BookAt wd w B bm A S) (hA : ∀ x, A' x → A x) (hi : A' B ∧ A' bm) : BookAt wd w B bm A' S := by
  obtain ⟨vals, fp, g1, g2, g3, g4, g5⟩ := h.out
  exact ⟨⟨vals, fp, g1, g2, g3, g4.weaken (fun x _ => hA x), g5.weaken (fun x _ => hA x)⟩, hi, fun x hx => h.lt x (hA x hx)⟩
/-- New blocks are kept apart too. -/
theorem BookAt.more {wd : Int} {S : BookS} (h : BookAt wd w B bm A S) (e : Ext w w') : BookAt wd w' B bm (fun x => A x ∨ (w.heap.size ≤ x ∧ x < w'.heap.size)) S := by
  obtain ⟨vals, fp, g1, g2, g3, g4, g5⟩ := h.out
  have hA : ∀ x, x < w.heap.size → (A x ∨ (w.heap.size ≤ x ∧ x < w'.heap.size)) → A x := fun x hx hn => hn.elim id (fun h => by omega)
  exact ⟨⟨vals, fp, g1.ext e, g2.ext e, g3, (g4.weaken hA).kept (.of_ext e), (g5.weaken hA).kept (.of_ext e)⟩, ⟨.inl h.inA.1, .inl h.inA.2⟩, fun x hx => hx.elim (fun h' => Nat.lt_of_lt_of_le (h.lt x h') e.size) (fun h => h.2)⟩
theorem TextsAt.get {h : H} : ∀ {r : List (H × Value)} {s : List (H × List UInt8)}, TextsAt w A r s → (getA h r = none ∧ getA h s = none) ∨ ∃ v t, getA h r = some v ∧ getA h s = some t ∧ TextAt w A v t
  | [], [], _ => .inl ⟨rfl, rfl⟩
  | p :: r, q :: s, H => by
    simp only [getA, H.1]
    by_cases hq : h = q.1
    · rw [if_pos hq, if_pos hq]; exact .inr ⟨_, _, rfl, rfl, H.2.1⟩
    · rw [if_neg hq, if_neg hq]; exact TextsAt.get H.2.2
  | [], _ :: _, h => h.elim
  | _ :: _, [], h => h.elim
theorem TextsAt.set {h : H} {v : Value} {t : List UInt8} (ht : TextAt w A v t) : ∀ {r : List (H × Value)} {s : List (H × List UInt8)}, TextsAt w A r s → TextsAt w A (setA h v r) (setA h t s)
  | [], [], _ => ⟨rfl, ht, trivial⟩
  | p :: r, q :: s, H => by
    simp only [setA, H.1]
    by_cases hq : h = q.1
    · rw [if_pos hq, if_pos hq]; exact ⟨rfl, ht, H.2.2⟩
    · rw [if_neg hq, if_neg hq]; exact ⟨H.1, H.2.1, TextsAt.set ht H.2.2⟩
  | [], _ :: _, h => h.elim
  | _ :: _, [], h => h.elim
end

theorem tfBookMap : TyF Tryz.prog 231 false 1 := ⟨Tryz.isAgg231, Tryz.sizeOf231⟩
theorem tfClashP : TyF Tryz.prog 232 false 1 := ⟨Tryz.isAgg232, Tryz.sizeOf232⟩
theorem tfClash : TyF Tryz.prog 35 true 2 := ⟨Tryz.isAgg35, Tryz.sizeOf35⟩

theorem newBook_ok (wd : Int) (w : World) : Does Tryz.prog 96 [.int .i64 wd] w (fun r w' => ∃ B bm, r = pt B ∧ w.heap.size ≤ bm ∧ w.heap.size ≤ B ∧ B < w'.heap.size ∧ bm < w'.heap.size ∧ (∀ A : Nat → Prop, A B → A bm → (∀ x, A x → x < w'.heap.size) → BookAt wd w' B bm A ⟨[], none⟩) ∧ Ext w w') := by
  (refine DoesX.of_vc tyOk Tryz.func96 rfl ⟨rfl, rfl⟩ rfl ?_; (conv => whnf))
  refine RunP.makeMap (val := H.val) ?_
  intro bm w1 hbm hM hE1
  have hs1 := hE1.size
  (conv => whnf)
  refine GetP.build (cells := #[.int .i64 wd, .map (some bm), .pointer none]) (by kernel_rfl) ?_
  (conv => whnf)
  refine RunP.box ?_
  intro B w2 hB hO hE2
  have hO : Own w2 B [.int .i64 wd, .map (some bm), .pointer none] := hO
  (conv => whnf)
  have := hM.lt
  exact ⟨B, bm, rfl, hbm, by omega, hO.lt, by have := hE2.size; omega, fun A h1 h2 h3 => ⟨⟨[], none, hO, hM.ext hE2, by omega, trivial, .inl ⟨rfl, rfl⟩⟩, ⟨h1, h2⟩, h3⟩, hE1.trans hE2⟩

theorem ptr_eq {P : Program} {S : World → Prop} {t e : Nat} {x y : Operand} {a : Option Addr} {k : Bool → Prop} (hu : ∀ w, (underlying t).run P w = .ok (.pointer e) w) (hk : k a.isNone) :
    EqP P S .eql t x y (.pointer a) (.pointer none) k := by
  refine ⟨a.isNone, fun w _ => ⟨?_, ?_⟩, hk⟩
  · simp [eqGuard]
  · have he : (Op.equalIn 10000 t (.pointer a) (.pointer none)).run P w = .ok a.isNone w := by
      rw [show (10000 : Nat) = 9999 + 1 from rfl, Op.equalIn]
      simp only [Sem.run_bind, hu, Result.andThen_ok]
      cases a <;> simp
    simp only [binOp]
    simp only [Op.equal, Op.maxDepth, Sem.run_bind, he, Result.andThen_ok, Sem.run_pure]

theorem add_ok (wd : Int) (B bm : Nat) (A : Nat → Prop) (S : BookS) (v : Value) (t : List UInt8) (w : World) (hg : GlobH w) (hb3 : 3 < B ∧ 3 < bm) (hB : BookAt wd w B bm A S) (ht : TextAt w A v t) :
    Does Tryz.prog 210 [pt B, v] w (fun r w' => r = H.val (hsum wd t) ∧ BookAt wd w' B bm A (addB wd S t) ∧ Upd2 B bm w w') := by
  obtain ⟨vals, fp, hO, hM, hne, hT, hF⟩ := hB.out
  have hBl := hO.lt
  have hml := hM.lt
  have htl := ht.len
  obtain ⟨ta, tn, tc, hvf⟩ := seq_form ht.seq
  (refine DoesX.of_vc tyOk Tryz.func210 rfl ⟨rfl, rfl⟩ rfl ?_; (conv => whnf))
  refine RunP.new (z := H.val zeroH) Tryz.zeroValue24 ?_
  intro b4 w1 hb4 hO4 hE1
  have hO4 : Own w1 b4 (H.cells zeroH) := hO4
  have hs1 := hE1.size
  (conv => whnf)
  refine GetP.ld tfInt (v := .int .i64 wd) (by rw [(hO.ext hE1).cell]; rfl) ?_
  (conv => whnf)
  refine RunP.slice1 (C := codSV) (a := ⟨v, seq_one ht.seq⟩) Tryz.runUnderlying176 Tryz.sizeOf25 Tryz.zeroValue25 rfl (by show v.cells.toList = [v]; rw [hvf]; rfl) (by decide) ?_
  intro b13 w2 hb13 hO13 hE2 hq13
  have hs2 := hE2.size
  have hE2' := hE1.trans hE2
  (conv => whnf)
  have hp : Parts w2 [⟨v, seq_one ht.seq⟩] [t] := by
    refine ⟨rfl, fun i u l hu hl => ?_⟩
    match i, hu, hl with
    | 0, hu, hl => cases hu; cases hl; exact ht.seq.ext hE2'
    | _ + 1, hu, hl => cases hu
  refine CallP.does (sum_ok wd _ _ _ w2 (hg.ext hE2') hq13 hp (by simp; omega) (by simp)) ?_
  rintro r w3 ⟨rfl, hE3⟩
  rw [show ([t] : List (List UInt8)).flatten = t by simp]
  generalize hh : hsum wd t = h
  have hs3 := hE3.size
  (conv => whnf)
  refine RunP.new (z := H.val zeroH) Tryz.zeroValue24 ?_
  intro b5 w4 hb5 hO5 hE4
  have hO5 : Own w4 b5 (H.cells zeroH) := hO5
  have hs4 := hE4.size
  have h45 : b4 < b5 := by have := hO4.lt; omega
  (conv => whnf)
  refine DoP.sts0 tfHash hO5 (H.len h) (H.len _) (bytes_one _) ?_
  intro w5 hO5 hU5
  have hs5 := hU5.size
  have hE5 : Ext w w5 := ((hE2'.trans hE3).trans hE4).upd hU5 (by omega)
  have hO4 := (((hO4.ext hE2).ext hE3).ext hE4).upd hU5 (by omega)
  (conv => whnf)
  refine draw_still tyOk mixed (.q 0 (.q 1 (.q 2 (.q 3 (.q 4 (.q 5 (.q 6 (.q 7 (.q 8 (.q 9 (.q 10 (.done)))))))))))) (by kernel_rfl) ?_
  intro w6 hB6 hs6
  have hE6 := hE5.trans hB6
  have hO5 := hO5.ext hB6
  have hO4 := hO4.ext hB6
  have hO6 := hO.ext hE6
  have hM6 := hM.ext hE6
  have hT6 : TextsAt w6 A vals S.texts := hT.kept (.of_ext hE6)
  have hF6 : FoundAt w6 A fp S.found := hF.kept (.of_ext hE6)
  have ht6 := ht.kept (.of_ext hE6)
  clear hO13 hq13 hp hE1 hE2 hE3 hE4 hU5 hB6 hE5 hE2'
  (conv => whnf)
  refine GetP.ld tfBookMap (v := .map (some bm)) (by rw [hO6.cell]; rfl) ?_
  (conv => whnf)
  refine GetP.lds tfHash (H.len h) hO5.cells ?_
  (conv => whnf)
  refine GetP.lookup (l := vals) (z := .slice none 0 0) keyHash Tryz.underlying231 Tryz.zeroValue25 (fun w' hw' => by subst hw'; exact hM6) h ?_
  rcases hT6.get (h := h) with ⟨hg1, hg2⟩ | ⟨ov, ot, hg1, hg2, hot⟩
  · simp only [hg1, Option.getD_none, Option.isSome_none, if_true]
    (conv => whnf)
    refine draw_still tyOk mixed (.q 0 (.q 1 (.q 2 (.q 3 (.q 4 (.q 5 (.e [(6, .done)]))))))) (by kernel_rfl) ?_
    intro w7 hB7 hs7
    (conv => whnf)
    refine GetP.ld tfBookMap (v := .map (some bm)) (by rw [(hO6.ext hB7).cell]; rfl) ?_
    (conv => whnf)
    refine GetP.lds tfHash (H.len h) (hO5.ext hB7).cells ?_
    (conv => whnf)
    refine DoP.mapUpdate keyHash Tryz.underlying231 (hM6.ext hB7) h ?_
    intro w8 hM8 hU8
    (conv => whnf)
    (refine BarP.yes (by decide +kernel) ?_; (conv => whnf))
    (conv => whnf)
    have h8 : Upd2 B bm w w8 := (Upd2.of_ext (hE6.trans hB7)).trans (.right hU8)
    refine GetP.lds tfHash (H.len h) ((hO5.ext hB7).upd hU8 (by omega)).cells ?_
    (conv => whnf)
    refine DoP.sts0 tfHash ((hO4.ext hB7).upd hU8 (by omega)) (H.len h) (H.len _) (bytes_one _) ?_
    intro w9 hO9 hU9
    (conv => whnf)
    refine GetP.ress tfHash (H.len h) hO9.cells ?_
    (conv => whnf)
    have h9 : Upd2 B bm w w9 := h8.upd hU9 (by omega)
    refine ⟨rfl, ⟨⟨setA h v vals, fp, hO.ext (hE6.trans hB7) |>.upd hU8 (by omega) |>.upd hU9 (by omega), hM8.upd hU9 (by omega), hne, ?_, ?_⟩, hB.inA, fun x hx => Nat.lt_of_lt_of_le (hB.lt x hx) h9.size⟩, h9⟩
    · rw [addB, hh, hg2]
      exact (TextsAt.set ht hT).kept (.of_upd2 h9 hB.inA)
    · rw [addB, hh, hg2]
      exact hF.kept (.of_upd2 h9 hB.inA)
  · simp only [hg1, Option.getD_some, Option.isSome_some, if_true]
    have hotw : TextAt w A ov ot := by
      rcases hT.get (h := h) with ⟨e1, e2⟩ | ⟨ov', ot', e1, e2, e3⟩
      · rw [hg1] at e1; cases e1
      · rw [hg1] at e1; rw [hg2] at e2; cases e1; cases e2; exact e3
    (conv => whnf)
    refine GetP.ld tfClashP (v := .pointer fp) (by rw [hO6.cell]; rfl) ?_
    (conv => whnf)
    refine ptr_eq Tryz.runUnderlying232 ?_
    have stay : ∀ w9, Upd2 B bm w w9 → Own w9 B [.int .i64 wd, .map (some bm), .pointer fp] → MapAt H.val w9 bm vals → ¬ (S.found = none ∧ ot ≠ t) → H.val h = H.val h ∧ BookAt wd w9 B bm A (addB wd S t) ∧ Upd2 B bm w w9 := by
      intro w9 h9 e1 e2 hno
      refine ⟨rfl, ⟨⟨vals, fp, e1, e2, hne, ?_, ?_⟩, hB.inA, fun x hx => Nat.lt_of_lt_of_le (hB.lt x hx) h9.size⟩, h9⟩
      · rw [addB, hh, hg2]
        simp only [if_neg hno]
        exact hT.kept (.of_upd2 h9 hB.inA)
      · rw [addB, hh, hg2]
        simp only [if_neg hno]
        exact hF.kept (.of_upd2 h9 hB.inA)
    have h8 : Upd2 B bm w w6 := .of_ext hE6
    rcases hF with ⟨rfl, hSf⟩ | ⟨bf, va, vb, x, y, rfl, hSf, hbf⟩
    · refine CmpP.yes rfl ?_
      (conv => whnf)
      refine CallP.does (equal_ok ov v ot t w6 hot.seq ht6.seq) ?_
      rintro r w6 ⟨rfl, rfl⟩
      by_cases hd : ot = t
      · simp only [hd, decide_true]
        (conv => whnf)
        refine GetP.lds tfHash (H.len h) hO5.cells ?_
        (conv => whnf)
        refine DoP.sts0 tfHash hO4 (H.len h) (H.len _) (bytes_one _) ?_
        intro w9 hO9 hU9
        (conv => whnf)
        refine GetP.ress tfHash (H.len h) hO9.cells ?_
        (conv => whnf)
        have h9 : Upd2 B bm w w9 := h8.upd hU9 (by omega)
        exact stay w9 h9 ((hO6.upd hU9 (by omega))) (hM6.upd hU9 (by omega)) (fun hx => hx.2 hd)
      · simp only [hd, decide_false]
        (conv => whnf)
        obtain ⟨oa, on, oc, hovf⟩ := seq_form hot.seq
        refine GetP.build (cells := #[ov, v]) (by rw [hovf, hvf]; kernel_rfl) ?_
        (conv => whnf)
        refine RunP.box ?_
        intro bf w7 hbf hOf hE7
        have hs7 := hE7.size
        have hOf : Own w7 bf [ov, v] := hOf
        (conv => whnf)
        refine DoP.st tfClashP rfl (hO6.ext hE7) (by simp) rfl ?_
        intro w8 hO8 hU8
        have hs8 := hU8.size
        have hO8 : Own w8 B [.int .i64 wd, .map (some bm), pt bf] := hO8
        have hOf := hOf.upd hU8 (by omega)
        have h8 : Upd2 B bm w w8 := (h8.trans (.of_ext hE7)).trans (.left hU8)
        have hO5 := (hO5.ext hE7).upd hU8 (by omega)
        have hb4l := hO4.lt
        have hO4 := (hO4.ext hE7).upd hU8 (by omega)
        have hM8 := (hM6.ext hE7).upd hU8 (by omega)
        (conv => whnf)
        refine GetP.lds tfHash (H.len h) hO5.cells ?_
        (conv => whnf)
        refine DoP.sts0 tfHash hO4 (H.len h) (H.len _) (bytes_one _) ?_
        intro w9 hO9 hU9
        (conv => whnf)
        refine GetP.ress tfHash (H.len h) hO9.cells ?_
        (conv => whnf)
        have h9 : Upd2 B bm w w9 := h8.upd hU9 (by omega)
        refine ⟨rfl, ⟨⟨vals, some ⟨bf, 0, none⟩, hO8.upd hU9 (by omega), hM8.upd hU9 (by omega), hne, ?_, ?_⟩, hB.inA, fun x hx => Nat.lt_of_lt_of_le (hB.lt x hx) h9.size⟩, h9⟩
        · rw [addB, hh, hg2]
          simp only [if_pos (show S.found = none ∧ ot ≠ t from ⟨hSf, hd⟩)]
          exact hT.kept (.of_upd2 h9 hB.inA)
        · rw [addB, hh, hg2]
          simp only [if_pos (show S.found = none ∧ ot ≠ t from ⟨hSf, hd⟩)]
          exact .inr ⟨bf, ov, v, ot, t, rfl, rfl, fun hn => by have := hB.lt bf hn; omega, hOf.upd hU9 (by omega), hotw.kept (.of_upd2 h9 hB.inA), ht.kept (.of_upd2 h9 hB.inA)⟩
    · refine CmpP.no rfl ?_
      (conv => whnf)
      refine GetP.lds tfHash (H.len h) hO5.cells ?_
      (conv => whnf)
      refine DoP.sts0 tfHash hO4 (H.len h) (H.len _) (bytes_one _) ?_
      intro w9 hO9 hU9
      (conv => whnf)
      refine GetP.ress tfHash (H.len h) hO9.cells ?_
      (conv => whnf)
      have h9 : Upd2 B bm w w9 := h8.upd hU9 (by omega)
      exact stay w9 h9 ((hO6.upd hU9 (by omega))) (hM6.upd hU9 (by omega)) (fun hx => by rw [hSf] at hx; cases hx.1)
end Go.Proofs.YtgeemplpgfiidaaGreatDoor.Mv
/- clash: Found, unlike, Holds, the book's Bag and over. -/
namespace Go.Proofs.YtgeemplpgfiidaaGreatDoor.Mv
open Go Go.RowKit Go.Proofs

theorem CellsAt.two {w : World} {b : Nat} {x y : Value} (h : Own w b [x, y]) : CellsAt w b 0 [x, y] := h.cells

/-- Where what was found lies. -/
def FoundIs (w : World) (fp : Option Addr) (f : Option (List UInt8 × List UInt8)) (va vb : Value) : Prop :=
  (fp = none ∧ f = none ∧ va = .slice none 0 0 ∧ vb = .slice none 0 0) ∨ ∃ bf x y, fp = some ⟨bf, 0, none⟩ ∧ f = some (x, y) ∧ Own w bf [va, vb] ∧ Seq codByte w va x ∧ Seq codByte w vb y
theorem FoundAt.is {w : World} {A : Nat → Prop} {fp : Option Addr} {f : Option (List UInt8 × List UInt8)} (h : FoundAt w A fp f) : ∃ va vb, FoundIs w fp f va vb ∧ (∀ x, inBlock va x → ¬ A x) ∧ (∀ x, inBlock vb x → ¬ A x) := by
  rcases h with ⟨h1, h2⟩ | ⟨bf, va, vb, x, y, h1, h2, h3, h5, h6, h7⟩
  · exact ⟨_, _, .inl ⟨h1, h2, rfl, rfl⟩, (by rintro x ⟨_, _, _, h⟩; cases h), (by rintro x ⟨_, _, _, h⟩; cases h)⟩
  · exact ⟨va, vb, .inr ⟨bf, x, y, h1, h2, h5, h6.seq, h7.seq⟩, h6.off, h7.off⟩
theorem FoundIs.ext {w w' : World} {fp : Option Addr} {f : Option (List UInt8 × List UInt8)} {va vb : Value} (h : FoundIs w fp f va vb) (e : Ext w w') : FoundIs w' fp f va vb := by
  rcases h with h | ⟨bf, x, y, h1, h2, h3, h4, h5⟩
  · exact .inl h
  · exact .inr ⟨bf, x, y, h1, h2, h3.ext e, h4.ext e, h5.ext e⟩
theorem FoundIs.seq {w : World} {fp : Option Addr} {f : Option (List UInt8 × List UInt8)} {va vb : Value} (h : FoundIs w fp f va vb) :
    Seq codByte w va ((f.map (·.1)).getD []) ∧ Seq codByte w vb ((f.map (·.2)).getD []) ∧ va.oneCell' = true ∧ vb.oneCell' = true := by
  rcases h with ⟨_, rfl, rfl, rfl⟩ | ⟨bf, x, y, h1, rfl, h3, h4, h5⟩
  · exact ⟨Seq.nil _ _, Seq.nil _ _, rfl, rfl⟩
  · exact ⟨h4, h5, seq_one h4, seq_one h5⟩

theorem found_ok (wd : Int) (B bm : Nat) (fp : Option Addr) (f : Option (List UInt8 × List UInt8)) (va vb : Value) (w : World) (hO : Own w B [.int .i64 wd, .map (some bm), .pointer fp]) (hF : FoundIs w fp f va vb) :
    Does Tryz.prog 141 [pt B] w (fun r w' => r = .tuple #[.agg #[va, vb], .bool f.isSome] ∧ Ext w w') := by
  have ho : ∀ u ∈ [va, vb], u.oneCell' = true := by
    obtain ⟨_, _, h1, h2⟩ := hF.seq
    intro u hu
    simp at hu
    rcases hu with rfl | rfl <;> assumption
  (refine DoesX.of_vc tyOk Tryz.func141 rfl ⟨rfl, rfl⟩ rfl ?_; (conv => whnf))
  refine RunP.new (z := .agg #[.slice none 0 0, .slice none 0 0]) Tryz.zeroValue35 ?_
  intro b2 w1 hb2 hO2 hE1
  have hO2 : Own w1 b2 [.slice none 0 0, .slice none 0 0] := hO2
  (conv => whnf)
  refine GetP.ld tfClashP (v := .pointer fp) (by rw [(hO.ext hE1).cell]; rfl) ?_
  (conv => whnf)
  refine ptr_eq Tryz.runUnderlying232 ?_
  rcases hF with ⟨rfl, rfl, rfl, rfl⟩ | ⟨bf, x, y, rfl, rfl, h3, h4, h5⟩
  · refine CmpP.yes rfl ?_
    (conv => whnf)
    refine GetP.build (cells := #[.slice none 0 0, .slice none 0 0]) (by kernel_rfl) ?_
    (conv => whnf)
    refine DoP.sts0 tfClash (vs := [.slice none 0 0, .slice none 0 0]) hO2 rfl rfl ho ?_
    intro w2 hO2 hU2
    (conv => whnf)
    refine GetP.ress tfClash rfl hO2.cells ?_
    (conv => whnf)
    exact ⟨rfl, hE1.upd hU2 hb2⟩
  · refine CmpP.no rfl ?_
    (conv => whnf)
    refine GetP.ld tfClashP (v := pt bf) (by rw [(hO.ext hE1).cell]; rfl) ?_
    (conv => whnf)
    refine GetP.lds tfClash (cs := [va, vb]) rfl (h3.ext hE1).cells ?_
    (conv => whnf)
    refine DoP.sts0 tfClash (vs := [va, vb]) hO2 rfl rfl ho ?_
    intro w2 hO2 hU2
    (conv => whnf)
    refine GetP.ress tfClash rfl hO2.cells ?_
    (conv => whnf)
    exact ⟨rfl, hE1.upd hU2 hb2⟩

theorem unlike_ok (wd : Int) (B bm : Nat) (A : Nat → Prop) (S : BookS) (is : Bool) (w : World) (hB : BookAt wd w B bm A S) :
    Does Tryz.prog 97 [pt B, .bool is] w (fun r w' => ∃ va vb, r = .tuple #[.agg #[va, vb], .bool (is && S.found.isSome)] ∧ va.oneCell' = true ∧ vb.oneCell' = true ∧
      ((is && S.found.isSome) = true → Seq codByte w va ((S.found.map (·.1)).getD []) ∧ Seq codByte w vb ((S.found.map (·.2)).getD []) ∧ (∀ x, inBlock va x → ¬ A x) ∧ (∀ x, inBlock vb x → ¬ A x)) ∧ Ext w w') := by
  obtain ⟨vals, fp, hO, hM, hne, hT, hF⟩ := hB.out
  obtain ⟨va, vb, hF, ho1, ho2⟩ := hF.is
  obtain ⟨h3, h4, h1, h2⟩ := hF.seq
  (refine DoesX.of_vc tyOk Tryz.func97 rfl ⟨rfl, rfl⟩ rfl ?_; (conv => whnf))
  refine RunP.new (z := .agg #[.slice none 0 0, .slice none 0 0]) Tryz.zeroValue35 ?_
  intro b4 w1 hb4 hO4 hE1
  have hO4 : Own w1 b4 [.slice none 0 0, .slice none 0 0] := hO4
  have hs1 := hE1.size
  (conv => whnf)
  cases is with
  | false =>
    (conv => whnf)
    refine GetP.build (cells := #[.slice none 0 0, .slice none 0 0]) (by kernel_rfl) ?_
    (conv => whnf)
    refine DoP.sts0 tfClash (vs := [.slice none 0 0, .slice none 0 0]) hO4 rfl rfl (by intro u hu; simp at hu; rw [hu]; rfl) ?_
    intro w2 hO2 hU2
    (conv => whnf)
    refine GetP.ress tfClash rfl hO2.cells ?_
    (conv => whnf)
    exact ⟨.slice none 0 0, .slice none 0 0, rfl, rfl, rfl, (by simp), hE1.upd hU2 hb4⟩
  | true =>
    (conv => whnf)
    refine CallP.does (found_ok wd B bm fp S.found va vb w1 (hO.ext hE1) (hF.ext hE1)) ?_
    rintro r w2 ⟨rfl, hE2⟩
    (conv => whnf)
    refine DoP.sts0 tfClash (vs := [va, vb]) (hO4.ext hE2) rfl rfl (by intro u hu; simp at hu; rcases hu with rfl | rfl <;> assumption) ?_
    intro w3 hO3 hU3
    have hE3 : Ext w w3 := (hE1.trans hE2).upd hU3 hb4
    (conv => whnf)
    refine GetP.ress tfClash rfl hO3.cells ?_
    (conv => whnf)
    exact ⟨va, vb, rfl, h1, h2, fun _ => ⟨h3, h4, ho1, ho2⟩, hE3⟩

theorem holds_ok (wd : Int) (va vb : Value) (x y : List UInt8) (w : World) (hg : GlobH w) (hx : Seq codByte w va x) (hy : Seq codByte w vb y) (hxl : x.length ≤ 1000) (hyl : y.length ≤ 1000) (hne : x ≠ y) (heq : hsum wd x = hsum wd y) :
    Does Tryz.prog 12 [.int .i64 wd, .agg #[va, vb]] w (fun r w' => r = .bool true ∧ Ext w w') := by
  obtain ⟨a1, n1, c1, hva⟩ := seq_form hx
  obtain ⟨a2, n2, c2, hvb⟩ := seq_form hy
  (refine DoesX.of_vc tyOk Tryz.func12 rfl ⟨rfl, rfl⟩ rfl ?_; (conv => whnf))
  refine RunP.box ?_
  intro b3 w1 hb3 hO3 hE1
  have hO3 : Own w1 b3 [va, vb] := hO3
  have hs1 := hE1.size
  (conv => whnf)
  refine draw_ext tyOk mixed (.q 0 (.q 1 (.q 2 (.q 3 (.e [(4, .q 5 (.q 6 (.q 7 (.q 8 (.q 9 (.q 12 (.q 13 (.q 14 (.e [(10, .e [(11, .e [(15, .e [(16, .q 17 (.q 18 (.q 19 (.done))))])]), (15, .e [(11, .e [(16, .q 17 (.q 18 (.q 19 (.done))))])])]), (15, .e [(10, .e [(11, .e [(16, .q 17 (.q 18 (.q 19 (.done))))])])])])))))))))]))))) (by kernel_rfl) ?_
  intro w2 hE2 hs2
  have hO3 := hO3.ext hE2
  have hE2 := hE1.trans hE2
  have hx := hx.ext hE2
  have hy := hy.ext hE2
  (conv => whnf)
  refine GetP.ldS tfBytes (v := va) (fun w' hw' => by rw [(hO3.ext hw').cell]; rfl) ?_
  (conv => whnf)
  refine GetP.ldS tfBytes (v := vb) (fun w' hw' => by rw [(hO3.ext hw').cell]; rfl) ?_
  (conv => whnf)
  refine CallP.does (equal_ok va vb x y w2 hx hy) ?_
  rintro r w2 ⟨rfl, rfl⟩
  rw [decide_eq_false hne]
  (conv => whnf)
  (refine BarP.no ?_)
  refine ReqP.mk (Ext.refl _) ?_
  (conv => whnf)
  refine GetP.ldS tfBytes (v := va) (fun w' hw' => by rw [(hO3.ext hw').cell]; rfl) ?_
  (conv => whnf)
  refine GetP.ldS tfBytes (v := vb) (fun w' hw' => by rw [(hO3.ext hw').cell]; rfl) ?_
  (conv => whnf)
  refine And.intro ?_ ?_
  · (conv => whnf)
    refine RunP.slice1 (C := codSV) (a := ⟨va, seq_one hx⟩) Tryz.runUnderlying176 Tryz.sizeOf25 Tryz.zeroValue25 rfl (by show va.cells.toList = [va]; rw [hva]; rfl) (by decide) ?_
    intro b10 w3 hb10 hO10 hEw3 hq10
    have hsw3 := hEw3.size
    (conv => whnf)
    (refine BarP.no ?_)
    refine ReqP.mk hEw3 ?_
    (conv => whnf)
    refine And.intro ?_ ?_
    · (conv => whnf)
      refine CallP.does (sum_ok wd _ [⟨va, seq_one hx⟩] [x] w3 (hg.ext (hE2.trans hEw3)) hq10 ⟨rfl, fun i u l hu hl => by
        match i, hu, hl with
        | 0, hu, hl => cases hu; cases hl; exact hx.ext hEw3
        | _ + 1, hu, hl => cases hu⟩ (by simp; omega) (by simp)) ?_
      rintro r w4 ⟨rfl, hEw4⟩
      rw [show ([x] : List (List UInt8)).flatten = x by simp]
      (conv => whnf)
      (refine BarP.no ?_)
      refine ReqP.mk (hEw3.trans hEw4) ?_
      (conv => whnf)
      refine RunP.slice1 (C := codSV) (a := ⟨vb, seq_one hy⟩) Tryz.runUnderlying176 Tryz.sizeOf25 Tryz.zeroValue25 rfl (by show vb.cells.toList = [vb]; rw [hvb]; rfl) (by decide) ?_
      intro b15 w5 hb15 hO15 hEw5 hq15
      have hsw5 := hEw5.size
      (conv => whnf)
      (refine BarP.no ?_)
      refine ReqP.mk ((hEw3.trans hEw4).trans hEw5) ?_
      (conv => whnf)
      refine CallP.does (sum_ok wd _ [⟨vb, seq_one hy⟩] [y] w5 (hg.ext (hE2.trans ((hEw3.trans hEw4).trans hEw5))) hq15 ⟨rfl, fun i u l hu hl => by
        match i, hu, hl with
        | 0, hu, hl => cases hu; cases hl; exact hy.ext ((hEw3.trans hEw4).trans hEw5)
        | _ + 1, hu, hl => cases hu⟩ (by simp; omega) (by simp)) ?_
      rintro r w6 ⟨rfl, hEw6⟩
      rw [show ([y] : List (List UInt8)).flatten = y by simp]
      (conv => whnf)
      (refine BarP.no ?_)
      refine ReqP.mk (((hEw3.trans hEw4).trans hEw5).trans hEw6) ?_
      (conv => whnf)
      refine EqP.eql (val := H.val) (cs := H.cells) eqHash (by omega) Tryz.eqGuardType24 (fun _ => rfl) (hsum wd x) (hsum wd y) ?_
      rw [decide_eq_true heq]
      refine CmpP.yes rfl ?_
      (conv => whnf)
      exact ⟨rfl, hE2.trans (((hEw3.trans hEw4).trans hEw5).trans hEw6)⟩
    · (conv => whnf)
      refine RunP.slice1 (C := codSV) (a := ⟨vb, seq_one hy⟩) Tryz.runUnderlying176 Tryz.sizeOf25 Tryz.zeroValue25 rfl (by show vb.cells.toList = [vb]; rw [hvb]; rfl) (by decide) ?_
      intro b15 w4 hb15 hO15 hEw4 hq15
      have hsw4 := hEw4.size
      (conv => whnf)
      (refine BarP.no ?_)
      refine ReqP.mk (hEw3.trans hEw4) ?_
      (conv => whnf)
      refine CallP.does (sum_ok wd _ [⟨va, seq_one hx⟩] [x] w4 (hg.ext (hE2.trans (hEw3.trans hEw4))) (hq10.ext hEw4) ⟨rfl, fun i u l hu hl => by
        match i, hu, hl with
        | 0, hu, hl => cases hu; cases hl; exact hx.ext (hEw3.trans hEw4)
        | _ + 1, hu, hl => cases hu⟩ (by simp; omega) (by simp)) ?_
      rintro r w5 ⟨rfl, hEw5⟩
      rw [show ([x] : List (List UInt8)).flatten = x by simp]
      (conv => whnf)
      (refine BarP.no ?_)
      refine ReqP.mk ((hEw3.trans hEw4).trans hEw5) ?_
      (conv => whnf)
      refine CallP.does (sum_ok wd _ [⟨vb, seq_one hy⟩] [y] w5 (hg.ext (hE2.trans ((hEw3.trans hEw4).trans hEw5))) (hq15.ext hEw5) ⟨rfl, fun i u l hu hl => by
        match i, hu, hl with
        | 0, hu, hl => cases hu; cases hl; exact hy.ext ((hEw3.trans hEw4).trans hEw5)
        | _ + 1, hu, hl => cases hu⟩ (by simp; omega) (by simp)) ?_
      rintro r w6 ⟨rfl, hEw6⟩
      rw [show ([y] : List (List UInt8)).flatten = y by simp]
      (conv => whnf)
      (refine BarP.no ?_)
      refine ReqP.mk (((hEw3.trans hEw4).trans hEw5).trans hEw6) ?_
      (conv => whnf)
      refine EqP.eql (val := H.val) (cs := H.cells) eqHash (by omega) Tryz.eqGuardType24 (fun _ => rfl) (hsum wd x) (hsum wd y) ?_
      rw [decide_eq_true heq]
      refine CmpP.yes rfl ?_
      (conv => whnf)
      exact ⟨rfl, hE2.trans (((hEw3.trans hEw4).trans hEw5).trans hEw6)⟩
  · (conv => whnf)
    refine RunP.slice1 (C := codSV) (a := ⟨vb, seq_one hy⟩) Tryz.runUnderlying176 Tryz.sizeOf25 Tryz.zeroValue25 rfl (by show vb.cells.toList = [vb]; rw [hvb]; rfl) (by decide) ?_
    intro b15 w3 hb15 hO15 hEw3 hq15
    have hsw3 := hEw3.size
    (conv => whnf)
    (refine BarP.no ?_)
    refine ReqP.mk hEw3 ?_
    (conv => whnf)
    refine RunP.slice1 (C := codSV) (a := ⟨va, seq_one hx⟩) Tryz.runUnderlying176 Tryz.sizeOf25 Tryz.zeroValue25 rfl (by show va.cells.toList = [va]; rw [hva]; rfl) (by decide) ?_
    intro b10 w4 hb10 hO10 hEw4 hq10
    have hsw4 := hEw4.size
    (conv => whnf)
    (refine BarP.no ?_)
    refine ReqP.mk (hEw3.trans hEw4) ?_
    (conv => whnf)
    refine CallP.does (sum_ok wd _ [⟨va, seq_one hx⟩] [x] w4 (hg.ext (hE2.trans (hEw3.trans hEw4))) hq10 ⟨rfl, fun i u l hu hl => by
      match i, hu, hl with
      | 0, hu, hl => cases hu; cases hl; exact hx.ext (hEw3.trans hEw4)
      | _ + 1, hu, hl => cases hu⟩ (by simp; omega) (by simp)) ?_
    rintro r w5 ⟨rfl, hEw5⟩
    rw [show ([x] : List (List UInt8)).flatten = x by simp]
    (conv => whnf)
    (refine BarP.no ?_)
    refine ReqP.mk ((hEw3.trans hEw4).trans hEw5) ?_
    (conv => whnf)
    refine CallP.does (sum_ok wd _ [⟨vb, seq_one hy⟩] [y] w5 (hg.ext (hE2.trans ((hEw3.trans hEw4).trans hEw5))) ((hq15.ext hEw4).ext hEw5) ⟨rfl, fun i u l hu hl => by
      match i, hu, hl with
      | 0, hu, hl => cases hu; cases hl; exact hy.ext ((hEw3.trans hEw4).trans hEw5)
      | _ + 1, hu, hl => cases hu⟩ (by simp; omega) (by simp)) ?_
    rintro r w6 ⟨rfl, hEw6⟩
    rw [show ([y] : List (List UInt8)).flatten = y by simp]
    (conv => whnf)
    (refine BarP.no ?_)
    refine ReqP.mk (((hEw3.trans hEw4).trans hEw5).trans hEw6) ?_
    (conv => whnf)
    refine EqP.eql (val := H.val) (cs := H.cells) eqHash (by omega) Tryz.eqGuardType24 (fun _ => rfl) (hsum wd x) (hsum wd y) ?_
    rw [decide_eq_true heq]
    refine CmpP.yes rfl ?_
    (conv => whnf)
    exact ⟨rfl, hE2.trans (((hEw3.trans hEw4).trans hEw5).trans hEw6)⟩
end Go.Proofs.YtgeemplpgfiidaaGreatDoor.Mv
/- clash: the book's Bag and over. -/
namespace Go.Proofs.YtgeemplpgfiidaaGreatDoor.Mv
open Go Go.RowKit Go.Proofs

def addsB (wd : Int) (S : BookS) (ts : List (List UInt8)) : BookS := ts.foldl (addB wd) S
theorem addsB_append (wd : Int) (S : BookS) (a b : List (List UInt8)) : addsB wd S (a ++ b) = addsB wd (addsB wd S a) b := by simp [addsB, List.foldl_append]
def foldTs (wd : Int) : List H → List (List UInt8)
  | [] => []
  | [_] => []
  | a :: b :: r => foldTs wd (b :: r) ++ [foldT a (foldP wd (b :: r))]
def bagTs (wd : Int) (n : Nat) (l : List H) : List (List UInt8) := foldTs wd l ++ [rootT n (foldP wd l)]

theorem foldT_len (a b : H) : (foldT a b).length = 65 := by simp [foldT, a.2, b.2]
theorem nodeT_len (a b : H) : (nodeT a b).length = 65 := by simp [nodeT, a.2, b.2]
theorem rootT_len (n : Nat) (b : H) : (rootT n b).length = 41 := by simp [rootT, b.2, bigL_len]

theorem GlobH.upd2 {a b : Nat} {w w' : World} (h : GlobH w) (e : Upd2 a b w w') (ha : 3 < a) (hb : 3 < b) : GlobH w' := h.below (e.below (B := 4) (by omega) (by omega) (by have := h.lt; omega)) (by omega)
theorem Glob.upd2 {a b : Nat} {w w' : World} (h : Glob w) (e : Upd2 a b w w') (ha : 3 < a) (hb : 3 < b) : Glob w' := h.below (e.below (B := 4) (by omega) (by omega) (by have := h.lt; omega)) (by omega)

theorem bagB_ok (wd : Int) (B bm : Nat) (A : Nat → Prop) (S : BookS) (n : Nat) (v : Value) (l : List H) (w : World) (hg : GlobH w) (hb3 : 3 < B ∧ 3 < bm) (hB : BookAt wd w B bm A S) (hn : n < 18446744073709551616) (hv : Seq codHash w v l)
    (hoff : ∀ x, inBlock v x → x ≠ B ∧ x ≠ bm) (hl : l.length < 1048576) :
    Does Tryz.prog 180 [pt B, .int .u64 n, v] w (fun _ w' => BookAt wd w' B bm A (addsB wd S (bagTs wd n l)) ∧ Upd2 B bm w w') := by
  obtain ⟨hBl, hml, hne⟩ := hB.ltB
  (refine DoesX.of_vc tyOk Tryz.func180 rfl ⟨rfl, rfl⟩ rfl ?_; (conv => whnf))
  refine RunP.new (z := H.val zeroH) Tryz.zeroValue24 ?_
  intro b6 w1 hb6 hO6 hE1
  have hs1 := hE1.size
  have hO6 : Own w1 b6 (H.cells zeroH) := hO6
  obtain ⟨A', hB1, hA6, hAA⟩ : ∃ A', BookAt wd w1 B bm A' S ∧ A' b6 ∧ (∀ x, A x → A' x) := ⟨_, hB.more hE1, .inr ⟨hb6, hO6.lt⟩, fun x hx => .inl hx⟩
  (conv => whnf)
  refine GetP.lenS Tryz.runUnderlying44 (hv.ext hE1) ?_
  (conv => whnf)
  refine NumP.to ((l.length : Int) - 1) (by rw [wrap_i64]; omega) ?_
  (conv => whnf)
  refine loop_only2 tyOk (fun (i : Nat) (_ : H) => [(0, pt B), (1, .int .u64 n), (2, v), (6, pt b6), (7, .int .i64 ((i : Int) - 1))]) (fun i a w' => Own w' b6 (H.cells a) ∧ Upd2 B bm w w' ∧ b6 < w'.heap.size ∧ a = foldP wd (l.drop i) ∧ BookAt wd w' B bm A' (addsB wd S (foldTs wd (l.drop i))) ∧ i ≤ l.length) (fun i _ => i) l.length zeroH
    (by repeat (first | exact trivial | refine ⟨rfl, ?_⟩)) ⟨hO6, .of_ext hE1, hO6.lt, by rw [List.drop_length]; rfl, by rw [List.drop_length]; exact hB1, Nat.le_refl _⟩ ?_
  rintro i a w3 ⟨hO3, hU3, hb63, ha, hB3, hi⟩
  have hs3 := hU3.size
  have hg3 : GlobH w3 := hg.upd2 hU3 hb3.1 hb3.2
  (conv => whnf)
  cases i with
  | zero =>
    refine CmpP.no (by decide) ?_
    (conv => whnf)
    refine GetP.lds tfHash (H.len a) hO3.cells ?_
    (conv => whnf)
    refine CallP.does (rootText_ok n a hn w3) ?_
    rintro u w4 ⟨hG4, hE4⟩
    have hs4 := hE4.size
    (conv => whnf)
    refine CallP.does (add_ok wd B bm A' _ u (rootT n a) w4 (hg3.ext hE4) hb3 (hB3.ext hE4) ⟨hG4.seq, fun x hx hn => by have := (hG4.block hx).1; have := hB3.lt x hn; omega, by rw [rootT_len]; omega⟩) ?_
    rintro r w5 ⟨rfl, hB5, hU5⟩
    (conv => whnf)
    refine ⟨?_, (hU3.trans (.of_ext hE4)).trans hU5⟩
    rw [List.drop_zero] at hB5 ha
    rw [bagTs, addsB_append, ← ha]
    exact hB5.less hAA hB.inA
  | succ i =>
    refine CmpP.yes (by simp) ?_
    (conv => whnf)
    refine GetP.lenS Tryz.runUnderlying44 (hv.upd2 hU3 hoff) ?_
    (conv => whnf)
    refine NumP.to ((l.length : Int) - 1) (by rw [wrap_i64]; omega) ?_
    (conv => whnf)
    have hil : i < l.length := by omega
    have hd : l.drop i = l[i] :: l.drop (i + 1) := List.drop_eq_getElem_cons hil
    refine CmpP.split (fun h => ?_) (fun h => ?_)
    · have hlast : i + 1 = l.length := by simp only [beq_iff_eq] at h; omega
      (conv => whnf)
      refine GetP.idxS Tryz.runUnderlying44 Tryz.sizeOf24 (hv.upd2 hU3 hoff) (by omega) (by omega) ?_
      intro eb eo hc
      have hc : CellsAt w3 eb eo (H.cells l[i]) := by
        have : ((((i + 1 : Nat) : Int) - 1).toNat) = i := by omega
        simp only [this] at hc
        exact hc
      (conv => whnf)
      refine GetP.lds tfHash (H.len _) hc ?_
      (conv => whnf)
      refine DoP.sts0 tfHash hO3 (H.len _) (H.len _) (bytes_one _) ?_
      intro w5 hO5 hU5
      (conv => whnf)
      refine NumP.to ((i : Int) - 1) (by rw [wrap_i64]; omega) ?_
      (conv => whnf)
      refine ⟨i, l[i], (by repeat (first | exact trivial | refine ⟨rfl, ?_⟩)), ⟨hO5, hU3.upd hU5 (by omega), hO5.lt, ?_, ?_, by omega⟩, by omega⟩
      · rw [hd, hlast, List.drop_length]
        rfl
      · rw [hlast, List.drop_length] at hB3
        rw [hd, hlast, List.drop_length]
        exact hB3.upd hU5 hA6 (by omega) (by omega)
    · have hnl : i + 1 < l.length := by simp only [beq_eq_false_iff_ne, ne_eq] at h; omega
      (conv => whnf)
      refine draw_with tyOk mixed (.q 0 (.q 1 (.q 2 (.q 3 (.q 4 (.q 5 (.e [(6, .e [(7, .e [(8, .done)])])]))))))) (by kernel_rfl) (fun w' => Upd2 B bm w3 w') (fun w' hx => .of_ext hx) ?_
      intro w4 hE4 hs4
      (conv => whnf)
      refine GetP.idxSB Tryz.runUnderlying44 Tryz.sizeOf24 (hv.upd2 hU3 hoff) (by omega) (by omega) ?_
      intro eb eo hc heb
      have hc : CellsAt w3 eb eo (H.cells l[i]) := by
        have : ((((i + 1 : Nat) : Int) - 1).toNat) = i := by omega
        simp only [this] at hc
        exact hc
      (conv => whnf)
      refine GetP.ldsS tfHash (H.len _) (fun w' hw' => hc.upd2 hw' (hoff eb heb).1 (hoff eb heb).2) ?_
      (conv => whnf)
      refine GetP.ldsS tfHash (H.len a) (fun w' hw' => (hO3.upd2 hw' (by omega) (by omega)).cells) ?_
      (conv => whnf)
      refine CallP.does (foldText_ok l[i] a w4) ?_
      rintro u w5 ⟨hG5, hE5⟩
      have hs5 := hE5.size
      have hE5 : Ext w3 w5 := Ext.trans hE4 hE5
      (conv => whnf)
      (refine BarP.no ?_)
      refine ReqP.mk (.of_ext hE5) ?_
      (conv => whnf)
      refine CallP.does (add_ok wd B bm A' _ u (foldT l[i] a) w5 (hg3.ext hE5) hb3 (hB3.ext hE5) ⟨hG5.seq, fun x hx hn => by have := (hG5.block hx).1; have := hB3.lt x hn; omega, by rw [foldT_len]; omega⟩) ?_
      rintro r w6 ⟨rfl, hB6, hU6⟩
      have hs6 := hU6.size
      have hU6 : Upd2 B bm w3 w6 := (Upd2.of_ext hE5).trans hU6
      (conv => whnf)
      (refine BarP.no ?_)
      refine ReqP.mk hU6 ?_
      (conv => whnf)
      refine DoP.sts0 tfHash (hO3.upd2 hU6 (by omega) (by omega)) (H.len _) (H.len _) (bytes_one _) ?_
      intro w7 hO7 hU7
      (conv => whnf)
      (refine BarP.yes (by decide +kernel) ?_; (conv => whnf))
      (conv => whnf)
      refine NumP.to ((i : Int) - 1) (by rw [wrap_i64]; omega) ?_
      (conv => whnf)
      refine ⟨i, foldH wd l[i] a, (by repeat (first | exact trivial | refine ⟨rfl, ?_⟩)), ⟨hO7, (hU3.trans hU6).upd hU7 (by omega), hO7.lt, ?_, ?_, by omega⟩, by omega⟩
      · rw [hd, ha, List.drop_eq_getElem_cons hnl]
        rfl
      · have : foldTs wd (l.drop i) = foldTs wd (l.drop (i + 1)) ++ [foldT l[i] a] := by
          rw [hd, ha, List.drop_eq_getElem_cons hnl]
          rfl
        rw [this, addsB_append]
        exact hB6.upd hU7 hA6 (by omega) (by omega)

/-! over -/
def overN (wd : Int) (K : Kn) : Nat → Spot → List (List UInt8)
  | 0, _ => []
  | n + 1, s => match getA s K with
    | some _ => []
    | none => overN wd K n (lft s) ++ overN wd K n (rgt s) ++ [nodeT (valS wd K (lft s)) (valS wd K (rgt s))]
def overTs (wd : Int) (K : Kn) (s : Spot) : List (List UInt8) := overN wd K s.h s
theorem overTs_known {wd : Int} {K : Kn} {s : Spot} {x : H} (h : getA s K = some x) : overTs wd K s = [] := by
  unfold overTs
  cases s.h <;> simp [overN, h]
theorem overTs_kids {wd : Int} {K : Kn} {s : Spot} (h : getA s K = none) (h0 : 0 < s.h) : overTs wd K s = overTs wd K (lft s) ++ overTs wd K (rgt s) ++ [nodeT (valS wd K (lft s)) (valS wd K (rgt s))] := by
  unfold overTs
  obtain ⟨n, hn⟩ : ∃ n, s.h = n + 1 := ⟨s.h - 1, by omega⟩
  rw [hn, overN, h]
  have h1 : (lft s).h = n := by simp [lft, hn]
  have h2 : (rgt s).h = n := by simp [rgt, hn]
  rw [h1, h2]

def OverOk (wd : Int) (K : Kn) (B bm bk : Nat) (s : Spot) : Prop := ∀ (A : Nat → Prop) (S : BookS) (w : World), GlobH w → 3 < B ∧ 3 < bm → bk ≠ B ∧ bk ≠ bm → BookAt wd w B bm A S → KnAt w bk K →
    Does Tryz.prog 179 [pt B, .map (some bk), Spot.val s] w (fun r w' => r = H.val (valS wd K s) ∧ BookAt wd w' B bm A (addsB wd S (overTs wd K s)) ∧ Upd2 B bm w w')

theorem KnAt.upd2 {a b : Nat} {w w' : World} {c : Nat} {l : Kn} (h : KnAt w c l) (e : Upd2 a b w w') (ha : c ≠ a) (hb : c ≠ b) : KnAt w' c l := MapAt.upd2 h e ha hb

theorem over_step (wd : Int) (K : Kn) (B bm bk : Nat) (s : Spot) (hg : s.Good) (hk : getA s K = none → 0 < s.h ∧ OverOk wd K B bm bk (lft s) ∧ OverOk wd K B bm bk (rgt s)) : OverOk wd K B bm bk s := by
  intro A S w hG hb3 hbk hB hK
  have hh := hg.h
  have hi := hg.i
  have hkl := hK.lt
  obtain ⟨hBl, hml, hne⟩ := hB.ltB
  (refine DoesX.of_vc tyOk Tryz.func179 rfl ⟨rfl, rfl⟩ rfl ?_; (conv => whnf))
  refine RunP.box ?_
  intro b5 w1 hb5 hO5 hE1
  have hs1 := hE1.size
  have hO5 : Own w1 b5 (Spot.cells s) := hO5
  (conv => whnf)
  refine RunP.new (z := H.val zeroH) Tryz.zeroValue24 ?_
  intro b6 w2 hb6 hO6 hE2
  have hs2 := hE2.size
  have hO6 : Own w2 b6 (H.cells zeroH) := hO6
  have h56 : b5 < b6 := by have := hO5.lt; omega
  have hO5 := hO5.ext hE2
  have hE2 := hE1.trans hE2
  (conv => whnf)
  refine GetP.lds tfSpot (cs := Spot.cells s) rfl hO5.cells ?_
  (conv => whnf)
  refine GetP.lookup (l := ents K) (z := H.val zeroH) keySpot Tryz.underlying160 Tryz.zeroValue24 (fun w' hw' => by subst hw'; exact hK.ext hE2) s ?_
  rw [show getA s (ents K) = (getA s K).map H.val from getA_map H.val s K]
  cases hq : getA s K with
  | some x =>
    have hx := valS_known (wd := wd) hq
    have ht := overTs_known (wd := wd) hq
    simp only [Option.map_some, Option.getD_some, Option.isSome_some, if_true]
    (conv => whnf)
    refine RunP.new (z := H.val zeroH) Tryz.zeroValue24 ?_
    intro b7 w3 hb7 hO7 hE3
    have hs3 := hE3.size
    (conv => whnf)
    refine DoP.sts0 tfHash hO7 (H.len x) (H.len zeroH) (bytes_one _) ?_
    intro w4 hO7 hU4
    (conv => whnf)
    refine GetP.lds tfHash (H.len x) hO7.cells ?_
    (conv => whnf)
    have h67 : b6 < b7 := by have := hO6.lt; omega
    refine DoP.sts0 tfHash ((hO6.ext hE3).upd hU4 (by omega)) (H.len x) (H.len _) (bytes_one _) ?_
    intro w5 hO6 hU5
    (conv => whnf)
    refine GetP.ress tfHash (H.len x) hO6.cells ?_
    (conv => whnf)
    have hE5 : Ext w w5 := ((hE2.trans hE3).upd hU4 (by omega)).upd hU5 (by omega)
    rw [ht, hx]
    exact ⟨rfl, hB.ext hE5, .of_ext hE5⟩
  | none =>
    obtain ⟨h0, hl, hr⟩ := hk hq
    have hv := valS_kids (wd := wd) hq h0
    have ht := overTs_kids (wd := wd) hq h0
    simp only [Option.map_none, Option.getD_none, Option.isSome_none, if_true]
    (conv => whnf)
    refine RunP.new (z := H.val zeroH) Tryz.zeroValue24 ?_
    intro b7 w3 hb7 hO7 hE3
    have hs3 := hE3.size
    have h67 : b6 < b7 := by have := hO6.lt; omega
    (conv => whnf)
    refine DoP.sts0 tfHash hO7 (H.len zeroH) (H.len zeroH) (bytes_one _) ?_
    intro w5 hO7 hU4
    have hs5 := hU4.size
    have hE5 : Ext w w5 := (hE2.trans hE3).upd hU4 (by omega)
    have hO5 := (hO5.ext hE3).upd hU4 (by omega)
    have hO6 := (hO6.ext hE3).upd hU4 (by omega)
    have hb6l := hO6.lt
    obtain ⟨A', hB5, hA6, hAA⟩ : ∃ A', BookAt wd w5 B bm A' S ∧ A' b6 ∧ (∀ x, A x → A' x) := ⟨_, hB.more hE5, .inr ⟨by omega, hb6l⟩, fun x hx => .inl hx⟩
    (conv => whnf)
    refine GetP.ld tfU8 (v := .int .u8 s.h) (by rw [hO5.cell]; rfl) ?_
    (conv => whnf)
    refine NumP.to ((s.h - 1 : Nat) : Int) (by rw [wrap_u8]; omega) ?_
    (conv => whnf)
    refine GetP.ld tfU64 (v := .int .u64 s.i) (by rw [hO5.cell]; rfl) ?_
    (conv => whnf)
    refine NumP.to ((2 * s.i : Nat) : Int) (by rw [wrap_u64]; omega) ?_
    (conv => whnf)
    refine GetP.build (cells := (Spot.cells (lft s)).toArray) (by kernel_rfl) ?_
    (conv => whnf)
    refine CallP.does (hl A' S w5 (hG.ext hE5) hb3 hbk hB5 (hK.ext hE5)) ?_
    rintro r w6 ⟨rfl, hB6, hU6⟩
    have hs6 := hU6.size
    have hO5 := hO5.upd2 hU6 (by omega) (by omega)
    have hO6 := hO6.upd2 hU6 (by omega) (by omega)
    have hU06 : Upd2 B bm w w6 := (Upd2.of_ext hE5).trans hU6
    (conv => whnf)
    refine RunP.new (z := H.val zeroH) Tryz.zeroValue24 ?_
    intro b9 w7 hb9 hO9 hE7
    have hs7 := hE7.size
    (conv => whnf)
    refine DoP.sts0 tfHash hO9 (H.len (valS wd K (lft s))) (H.len zeroH) (bytes_one _) ?_
    intro w8 hO9 hU8
    have hs8 := hU8.size
    have hE8 : Ext w6 w8 := hE7.upd hU8 (by omega)
    have hO5 := hO5.ext hE8
    have hO6 := hO6.ext hE8
    have hB8 := hB6.ext hE8
    have hU08 : Upd2 B bm w w8 := hU06.trans (.of_ext hE8)
    (conv => whnf)
    refine GetP.ld tfU8 (v := .int .u8 s.h) (by rw [hO5.cell]; rfl) ?_
    (conv => whnf)
    refine NumP.to ((s.h - 1 : Nat) : Int) (by rw [wrap_u8]; omega) ?_
    (conv => whnf)
    refine GetP.ld tfU64 (v := .int .u64 s.i) (by rw [hO5.cell]; rfl) ?_
    (conv => whnf)
    refine NumP.to ((2 * s.i : Nat) : Int) (by rw [wrap_u64]; omega) ?_
    (conv => whnf)
    refine NumP.to ((2 * s.i + 1 : Nat) : Int) (by rw [wrap_u64]; omega) ?_
    (conv => whnf)
    refine GetP.build (cells := (Spot.cells (rgt s)).toArray) (by kernel_rfl) ?_
    (conv => whnf)
    refine CallP.does (hr A' _ w8 (hG.upd2 hU08 hb3.1 hb3.2) hb3 hbk hB8 (hK.upd2 hU08 hbk.1 hbk.2)) ?_
    rintro r w9 ⟨rfl, hB9, hU9⟩
    have hs9 := hU9.size
    have hO6 := hO6.upd2 hU9 (by omega) (by omega)
    have hO9 := hO9.upd2 hU9 (by omega) (by omega)
    have hU09 : Upd2 B bm w w9 := hU08.trans hU9
    have hb9l := hO9.lt
    (conv => whnf)
    refine RunP.new (z := H.val zeroH) Tryz.zeroValue24 ?_
    intro b10 w10 hb10 hO10 hE10
    have hs10 := hE10.size
    (conv => whnf)
    refine DoP.sts0 tfHash hO10 (H.len (valS wd K (rgt s))) (H.len zeroH) (bytes_one _) ?_
    intro w11 hO10 hU11
    have hs11 := hU11.size
    have hE11 : Ext w9 w11 := hE10.upd hU11 (by omega)
    have hO6 := hO6.ext hE11
    have hO9 := hO9.ext hE11
    have hB11 := hB9.ext hE11
    have hU011 : Upd2 B bm w w11 := hU09.trans (.of_ext hE11)
    (conv => whnf)
    refine GetP.lds tfHash (H.len _) hO9.cells ?_
    (conv => whnf)
    refine GetP.lds tfHash (H.len _) hO10.cells ?_
    (conv => whnf)
    refine CallP.does (nodeText_ok (valS wd K (lft s)) (valS wd K (rgt s)) w11) ?_
    rintro u w12 ⟨hG12, hE12⟩
    have hs12 := hE12.size
    have hO6 := hO6.ext hE12
    have hU012 : Upd2 B bm w w12 := hU011.trans (.of_ext hE12)
    (conv => whnf)
    refine CallP.does (add_ok wd B bm A' _ u (nodeT (valS wd K (lft s)) (valS wd K (rgt s))) w12 (hG.upd2 hU012 hb3.1 hb3.2) hb3 (hB11.ext hE12) ⟨hG12.seq, fun x hx hn => by have := (hG12.block hx).1; have := hB11.lt x hn; omega, by rw [nodeT_len]; omega⟩) ?_
    rintro r w13 ⟨rfl, hB13, hU13⟩
    have hs13 := hU13.size
    have hO6 := hO6.upd2 hU13 (by omega) (by omega)
    have hvv : hsum wd (nodeT (valS wd K (lft s)) (valS wd K (rgt s))) = valS wd K s := hv.symm
    rw [hvv]
    (conv => whnf)
    refine DoP.sts0 tfHash hO6 (H.len (valS wd K s)) (H.len _) (bytes_one _) ?_
    intro w14 hO6 hU14
    (conv => whnf)
    refine GetP.ress tfHash (H.len _) hO6.cells ?_
    (conv => whnf)
    refine ⟨rfl, ?_, (hU012.trans hU13).upd hU14 (by omega)⟩
    rw [ht, addsB_append, addsB_append]
    exact (hB13.upd hU14 hA6 (by omega) (by omega)).less hAA hB.inA

theorem overB_ok (wd : Int) (K : Kn) (B bm bk : Nat) {s : Spot} (hc : Cov K s) (hg : s.Good) : OverOk wd K B bm bk s := by
  induction hc with
  | known h => exact over_step wd K B bm bk _ hg (fun hn => by rw [hn] at h; cases h)
  | kids h0 _ _ ihl ihr => exact over_step wd K B bm bk _ hg (fun _ => ⟨h0, ihl (lft_good hg h0), ihr (rgt_good hg h0)⟩)
end Go.Proofs.YtgeemplpgfiidaaGreatDoor.Mv
/- clash: the book's reach and prefix, Fork. -/
namespace Go.Proofs.YtgeemplpgfiidaaGreatDoor.Mv
open Go Go.RowKit Go.Proofs

theorem DoP.knUpd2 {w : World} {b : Nat} {l : Kn} {s : Spot} {x : H} {k : Value → World → Prop} (hK : KnAt w b l) (hk : ∀ w', KnAt w' b (setA s x l) → Upd b w w' → k undef w') :
    DoP Tryz.prog w (Instr.mapUpdate 160 (.map (some b)) (Spot.val s) (H.val x)) k := by
  refine DoP.mapUpdate keySpot Tryz.underlying160 hK s ?_
  intro w' hK' hU
  refine hk w' ?_ hU
  unfold KnAt ents
  rw [← setA_map H.val s x l]
  exact hK'

def reachTs (wd : Int) (m n : Nat) (l : List H) : List (List UInt8) :=
  (mergeF (spotsF m n)).flatMap (overTs wd (kF (spotsF m n) l)) ++ bagTs wd m (reachX m l) ++ bagTs wd n (reachY wd m n l)

theorem reachB_ok (wd : Int) (B bm : Nat) (A : Nat → Prop) (S : BookS) (m n : Nat) (v : Value) (l : List H) (hm : m < 18446744073709551616) (hn : n < 18446744073709551616) (hl : l.length < 1048576) (w : World) (hg : Glob w) (hb3 : 3 < B ∧ 3 < bm)
    (hB : BookAt wd w B bm A S) (hv : Seq codHash w v l) (hoff : ∀ x, inBlock v x → x ≠ B ∧ x ≠ bm) (h0 : encE m n l.length = 0) :
    Does Tryz.prog 142 [pt B, prefV m n v] w (fun _ w' => BookAt wd w' B bm A (addsB wd S (reachTs wd m n l)) ∧ Upd2 B bm w w') := by
  have hw3 := hg.lt
  obtain ⟨hBl, hml, hne⟩ := hB.ltB
  obtain ⟨hmn, hn62, hlen⟩ := encE_zero h0
  obtain ⟨hpl, hsl, hp0⟩ := spots_len m n hmn hn62
  have hsg := spots_good hmn hn62
  have hsm := span_le 0 m (by omega)
  have hsn := span_le m n hn62
  (refine DoesX.of_vc tyOk Tryz.func142 rfl ⟨rfl, rfl⟩ rfl ?_; (conv => whnf))
  refine RunP.box ?_
  intro b3 w1 hb3' hO3 hE1
  have hs1 := hE1.size
  have hO3 : Own w1 b3 (prefC m n v) := hO3
  (conv => whnf)
  refine draw_ext tyOk mixed (.q 0 (.q 1 (.q 3 (.q 4 (.q 5 (.q 6 (.e [(2, .e [(7, .e [(8, .q 9 (.done))])])]))))))) (by kernel_rfl) ?_
  intro w2 hE2 hs2
  have hO3 := hO3.ext hE2
  have hE2 := hE1.trans hE2
  (conv => whnf)
  refine GetP.ldS tfU64 (v := .int .u64 m) (fun w' hw' => by rw [(hO3.ext hw').cell]; rfl) ?_
  (conv => whnf)
  refine GetP.ldS tfU64 (v := .int .u64 m) (fun w' hw' => by rw [(hO3.ext hw').cell]; rfl) ?_
  (conv => whnf)
  refine GetP.ldS tfU64 (v := .int .u64 n) (fun w' hw' => by rw [(hO3.ext hw').cell]; rfl) ?_
  (conv => whnf)
  refine CallP.does (span_ok 0 m (by omega) (by omega) w2 (hg.ext hE2)) ?_
  rintro va w3 ⟨hGa, hB3⟩
  have hs3 := hB3.size
  (conv => whnf)
  (refine BarP.no ?_)
  refine ReqP.mk hB3 ?_
  (conv => whnf)
  refine CallP.does (span_ok m n (by omega) (by omega) w3 ((hg.ext hE2).ext hB3)) ?_
  rintro vb w4 ⟨hGb, hB4⟩
  have hs4 := hB4.size
  (conv => whnf)
  (refine BarP.no ?_)
  refine ReqP.mk (Ext.trans hB3 hB4) ?_
  (conv => whnf)
  refine RunP.append elSpot (hGa.ext hB4) hGb.seq (by simp only [maxLen]; omega) (by omega) (by omega) ?_
  intro vs w5 hGs hgr5
  have hB5 := (hGa.ext hB4).grown_below hgr5 (by omega)
  have hs5 := hgr5.size
  have hE5 : Ext w2 w5 := Below.trans (Ext.trans hB3 hB4) hB5
  (conv => whnf)
  (refine BarP.no ?_)
  refine ReqP.mk hE5 ?_
  have hGs : Grow codSpot 159 w2.heap.size w5 vs (spotsF m n) := hGs
  have hO3 := hO3.ext hE5
  have hE5 : Ext w w5 := Ext.trans hE2 hE5
  (conv => whnf)
  refine RunP.makeMap (val := Spot.val) ?_
  intro bk w7 hbk hM hE7
  have hs7 := hE7.size
  have hb35 := hO3.lt
  have hO3 := hO3.ext hE7
  have hvs5 : ∀ x, inBlock vs x → x < w5.heap.size ∧ w.heap.size ≤ x := fun x h => ⟨(hGs.block h).2, by have := (hGs.block h).1; omega⟩
  have hGs := hGs.ext hE7
  have hE7 := hE5.trans hE7
  have hkl := hM.lt
  obtain ⟨A', hB7, hAk, hAA⟩ : ∃ A', BookAt wd w7 B bm A' S ∧ A' bk ∧ (∀ x, A x → A' x) := ⟨_, hB.more hE7, .inr ⟨by omega, hkl⟩, fun x hx => .inl hx⟩
  (conv => whnf)
  refine GetP.lenS Tryz.runUnderlying155 hGs.seq ?_
  (conv => whnf)
  refine loop_only tyOk (σ := Nat) (fun i => [(0, pt B), (3, pt b3), (4, vs), (5, .map (some bk)), (25, vs), (26, .int .i64 (spotsF m n).length), (27, .int .i64 i)])
    (fun i w' => KnAt w' bk (kF ((spotsF m n).take i) (l.take i)) ∧ Own w' b3 (prefC m n v) ∧ Seq codSpot w' vs (spotsF m n) ∧ Ext w w' ∧ w7.heap.size ≤ w'.heap.size ∧ BookAt wd w' B bm A' S ∧ i ≤ (spotsF m n).length) (fun i => (spotsF m n).length - i) 0
    (by repeat (first | exact trivial | refine ⟨rfl, ?_⟩)) ⟨hM, hO3, hGs.seq, hE7, Nat.le_refl _, hB7, by omega⟩ ?_
  have hb3m : b3 < bk := by omega
  have hvsb : ¬ inBlock vs bk := fun h => by have := (hvs5 bk h).1; omega
  have hvb : ∀ x, inBlock v x → x < w.heap.size := fun x h => hv.lt h
  clear hM hO3 hGs hB7
  rintro i w8 ⟨hK, hO3, hSs, hE8, h78, hB8, hi⟩
  have hs8 := hE8.size
  (conv => whnf)
  refine CmpP.split (fun h => ?_) (fun h => ?_)
  · have hlt : i < (spotsF m n).length := by simp only [decide_eq_true_eq] at h; omega
    have hltl : i < l.length := by omega
    (conv => whnf)
    refine GetP.idxS Tryz.runUnderlying155 Tryz.sizeOf159 hSs (by omega) (by simpa using hlt) ?_
    intro eb eo hc
    (conv => whnf)
    refine GetP.lds tfSpot (cs := Spot.cells (spotsF m n)[i]) rfl hc ?_
    (conv => whnf)
    refine RunP.new (z := Spot.val ⟨0, 0⟩) Tryz.zeroValue159 ?_
    intro b13 w9 hb13 hO13 hE9
    have hs9 := hE9.size
    (conv => whnf)
    refine DoP.sts0 tfSpot hO13 rfl rfl (codSpot.one (spotsF m n)[i]) ?_
    intro w10 hO13 hU10
    have hs10 := hU10.size
    have hE10 : Ext w8 w10 := hE9.upd hU10 (by omega)
    (conv => whnf)
    refine draw_still tyOk mixed (.q 0 (.q 1 (.q 2 (.q 3 (.q 4 (.q 5 (.q 6 (.e [(7, .done)])))))))) (by kernel_rfl) ?_
    intro w11 hB11 hs11
    have hE11 := hE10.trans hB11
    (conv => whnf)
    refine GetP.lds tfSpot (cs := Spot.cells (spotsF m n)[i]) rfl (hO13.ext hB11).cells ?_
    (conv => whnf)
    refine GetP.ld tfHashes (v := v) (by rw [(hO3.ext hE11).cell]; rfl) ?_
    (conv => whnf)
    refine GetP.idxS Tryz.runUnderlying44 Tryz.sizeOf24 (hv.ext (hE8.trans hE11)) (by omega) (by simpa using hltl) ?_
    intro eb2 eo2 hc2
    (conv => whnf)
    refine GetP.lds tfHash (cs := H.cells l[i]) (H.len _) hc2 ?_
    (conv => whnf)
    refine DoP.knUpd2 (hK.ext hE11) ?_
    intro w12 hK12 hU12
    have hs12 := hU12.size
    (conv => whnf)
    (refine BarP.yes (by decide +kernel) ?_; (conv => whnf))
    (conv => whnf)
    refine NumP.to ((i + 1 : Nat) : Int) (by rw [wrap_i64]; omega) ?_
    (conv => whnf)
    refine ⟨i + 1, (by repeat (first | exact trivial | refine ⟨rfl, ?_⟩)), ⟨?_, (hO3.ext hE11).upd hU12 (by omega), (hSs.ext hE11).upd hU12 hvsb, (hE8.trans hE11).upd hU12 (by omega), by omega, (hB8.ext hE11).upd hU12 hAk (by omega) (by omega), by omega⟩, by omega⟩
    rw [kF_take hlt hltl]
    exact hK12
  have hge : i = (spotsF m n).length := by simp only [decide_eq_false_iff_not] at h; omega
  subst hge
  rw [List.take_length, ← hlen, List.take_length] at hK
  have hcov := cov_merge (s := spotsF m n) (l := l) hlen.symm
  have hmg : ∀ x ∈ mergeF (spotsF m n), x.Good := merge_good [] _ (by simp) hsg
  have hml' : (mergeF (spotsF m n)).length ≤ (spotsF m n).length := mergeF_len _
  (conv => whnf)
  refine CallP.does (merge_ok vs (spotsF m n) w8 hSs hsg (by omega) (spots_over hmn hn62)) ?_
  rintro r w9 ⟨vm, rfl, hGm, hE9⟩
  have hs9 := hE9.size
  have hK := hK.ext hE9
  have hO3 := hO3.ext hE9
  have hB9 := hB8.ext hE9
  have hE9 := hE8.trans hE9
  (conv => whnf)
  refine GetP.lenS Tryz.runUnderlying155 hGm.seq ?_
  (conv => whnf)
  have hvm : ∀ x, inBlock vm x → x ≠ B ∧ x ≠ bm := fun x h => by have := (hGm.block h).1; omega
  refine loop_only tyOk (σ := Nat) (fun i => [(0, pt B), (3, pt b3), (5, .map (some bk)), (45, vm), (46, .int .i64 (mergeF (spotsF m n)).length), (47, .int .i64 i)])
    (fun i w' => KnAt w' bk (kF (spotsF m n) l) ∧ Own w' b3 (prefC m n v) ∧ Seq codSpot w' vm (mergeF (spotsF m n)) ∧ Upd2 B bm w w' ∧ w9.heap.size ≤ w'.heap.size ∧ BookAt wd w' B bm A' (addsB wd S (((mergeF (spotsF m n)).take i).flatMap (overTs wd (kF (spotsF m n) l)))) ∧ i ≤ (mergeF (spotsF m n)).length) (fun i => (mergeF (spotsF m n)).length - i) 0
    (by repeat (first | exact trivial | refine ⟨rfl, ?_⟩)) ⟨hK, hO3, hGm.seq, .of_ext hE9, Nat.le_refl _, hB9, by omega⟩ ?_
  clear hK hO3 hGm hB9 hSs hB8
  rintro i w10 ⟨hK, hO3, hSm, hU, h910, hB10, hi⟩
  have hs10 := hU.size
  (conv => whnf)
  refine CmpP.split (fun h => ?_) (fun h => ?_)
  · have hlt : i < (mergeF (spotsF m n)).length := by simp only [decide_eq_true_eq] at h; omega
    have hgi := hmg _ (List.getElem_mem hlt)
    have hci := hcov _ (List.getElem_mem hlt)
    generalize hsi : (mergeF (spotsF m n))[i] = s at hgi hci
    (conv => whnf)
    refine GetP.idxS Tryz.runUnderlying155 Tryz.sizeOf159 hSm (by omega) (by simpa using hlt) ?_
    intro eb eo hc
    have hc : CellsAt w10 eb eo (Spot.cells s) := by
      simp only [Int.toNat_natCast, hsi] at hc
      exact hc
    (conv => whnf)
    refine GetP.lds tfSpot (cs := Spot.cells s) rfl hc ?_
    (conv => whnf)
    refine RunP.new (z := Spot.val ⟨0, 0⟩) Tryz.zeroValue159 ?_
    intro b18 w11 hb18 hO18 hE11
    have hs11 := hE11.size
    (conv => whnf)
    refine DoP.sts0 tfSpot hO18 rfl rfl (codSpot.one s) ?_
    intro w12 hO18 hU12
    have hs12 := hU12.size
    have hE12 : Ext w10 w12 := hE11.upd hU12 (by omega)
    (conv => whnf)
    refine GetP.lds tfSpot (cs := Spot.cells s) rfl hO18.cells ?_
    (conv => whnf)
    refine CallP.does (overB_ok wd (kF (spotsF m n) l) B bm bk hci hgi A' _ w12 ((hg.upd2 hU hb3.1 hb3.2).ext hE12).toGlobH hb3 ⟨by omega, by omega⟩ (hB10.ext hE12) (hK.ext hE12)) ?_
    rintro r w13 ⟨rfl, hB13, hU13⟩
    have hs13 := hU13.size
    (conv => whnf)
    refine NumP.to ((i + 1 : Nat) : Int) (by rw [wrap_i64]; omega) ?_
    (conv => whnf)
    refine ⟨i + 1, (by repeat (first | exact trivial | refine ⟨rfl, ?_⟩)), ⟨(hK.ext hE12).upd2 hU13 (by omega) (by omega), (hO3.ext hE12).upd2 hU13 (by omega) (by omega), (hSm.ext hE12).upd2 hU13 hvm, (hU.trans (.of_ext hE12)).trans hU13, by omega, ?_, by omega⟩, by omega⟩
    rw [List.take_succ_eq_append_getElem hlt, hsi, List.flatMap_append, List.flatMap_singleton, addsB_append]
    exact hB13
  have hge : i = (mergeF (spotsF m n)).length := by simp only [decide_eq_false_iff_not] at h; omega
  subst hge
  rw [List.take_length] at hB10
  (conv => whnf)
  refine draw_ext tyOk mixed (.q 0 (.q 1 (.q 2 (.q 3 (.q 4 (.e [(5, .q 6 (.q 7 (.q 8 (.q 9 (.q 10 (.q 11 (.q 12 (.done))))))))])))))) (by kernel_rfl) ?_
  intro w11 hE11 hs11
  have hO3 := hO3.ext hE11
  have hB11 := hB10.ext hE11
  have hU11 := hU.trans (.of_ext hE11)
  have hg11 := hg.upd2 hU11 hb3.1 hb3.2
  obtain ⟨vals, fp, hOB, _⟩ := hB11.out
  (conv => whnf)
  refine GetP.ldS tfInt (v := .int .i64 wd) (fun w' hw' => by rw [(hOB.ext hw').cell]; rfl) ?_
  (conv => whnf)
  refine GetP.ldsS tfPrefix (cs := prefC m n v) rfl (fun w' hw' => (hO3.ext hw').cells) ?_
  (conv => whnf)
  refine CallP.does (reach_ok wd m n v l hm hn hl w11 hg11 (hv.upd2 hU11 hoff)) ?_
  rintro r w12 ⟨x, y, rfl, hX, hY, hE12, hxb, hyb⟩
  have hs12 := hE12.size
  rw [h0, if_pos rfl] at hX hY
  have hO3 := hO3.ext hE12
  have hB12 := hB11.ext hE12
  have hU12 := hU11.trans (.of_ext hE12)
  (conv => whnf)
  (refine BarP.no ?_)
  refine ReqP.mk hE12 ?_
  (conv => whnf)
  refine GetP.ld tfU64 (v := .int .u64 m) (by rw [hO3.cell]; rfl) ?_
  (conv => whnf)
  have hxoff : ∀ b, inBlock x b → b ≠ B ∧ b ≠ bm := fun b hb => by have := hxb b hb; omega
  have hyoff : ∀ b, inBlock y b → b ≠ B ∧ b ≠ bm := fun b hb => by have := hyb b hb; omega
  refine CallP.does (bagB_ok wd B bm A' _ m x (reachX m l) w12 (hg.upd2 hU12 hb3.1 hb3.2).toGlobH hb3 hB12 hm hX hxoff (by simp [reachX]; omega)) ?_
  rintro r w13 ⟨hB13, hU13⟩
  have hO3 := hO3.upd2 hU13 (by omega) (by omega)
  have hU13' := hU12.trans hU13
  (conv => whnf)
  refine GetP.ld tfU64 (v := .int .u64 n) (by rw [hO3.cell]; rfl) ?_
  (conv => whnf)
  refine CallP.does (bagB_ok wd B bm A' _ n y (reachY wd m n l) w13 (hg.upd2 hU13' hb3.1 hb3.2).toGlobH hb3 hB13 hn (hY.upd2 hU13 hyoff) hyoff (by simp [reachY]; omega)) ?_
  rintro r w14 ⟨hB14, hU14⟩
  (conv => whnf)
  refine ⟨?_, hU13'.trans hU14⟩
  rw [reachTs, addsB_append, addsB_append]
  exact hB14.less hAA hB.inA
end Go.Proofs.YtgeemplpgfiidaaGreatDoor.Mv
/- clash: the book's prefix, Fork. -/
namespace Go.Proofs.YtgeemplpgfiidaaGreatDoor.Mv
open Go Go.RowKit Go.Proofs

theorem decE_enc {l : List UInt8} (h : decE l = 0) : encE (decM l) (decN l) (decL l).length = 0 := by
  have h4 : decE4 l = 0 := by
    by_cases h4 : decE4 l = 0
    · exact h4
    · rw [decE, if_pos h4] at h; omega
  have h5 : decE5 l = 0 := by rw [decE, if_neg (by omega)] at h; exact h
  have hm : decM l = (decA l).1 := by rw [decM, if_neg (by omega)]
  have hn : decN l = (decB l).1 := by rw [decN, if_neg (by omega)]
  have hl : decL l = hashesOf (decPl l).1.length (decB l).2.1 := by
    rw [decL, if_neg (by omega), nodesR, if_neg (by unfold decE5 at h5; omega)]
  have hp : (decPl l).2 = 0 := by
    unfold decE4 failF at h4
    split at h4
    · exact h4
    · rename_i h'
      rcases Nat.eq_zero_or_pos (decPl l).2 with h0 | h0
      · exact h0
      · exact absurd ⟨h4, by simp; omega⟩ h'
  rw [hm, hn, hl, hashesOf_len, encE]
  have hp' : (placesF (decA l).1 (decB l).1).2 = 0 := hp
  rw [if_neg (by omega), if_neg]
  exact fun h => h rfl

theorem prefixE_zero {wd : Int} {m : Nat} {a : H} {n : Nat} {r : H} {l : List UInt8} (h : prefixE wd m a n r l = 0) :
    decE l = 0 ∧ decM l = m ∧ decN l = n ∧ encE m n (decL l).length = 0 ∧ isF wd m (reachX m (decL l)) a = true ∧ isF wd n (reachY wd m n (decL l)) r = true := by
  unfold prefixE at h
  split at h
  · omega
  · rename_i h0
    have h0 : decE l = 0 := by omega
    split at h
    · omega
    · rename_i h1
      have hm : decM l = m := by omega
      have hn : decN l = n := by omega
      have he := decE_enc h0
      rw [hm, hn] at he
      split at h
      · rename_i h2
        unfold outX outY at h2
        rw [if_pos he, if_pos he] at h2
        exact ⟨h0, hm, hn, he, h2.1, h2.2⟩
      · omega

theorem prefixB_ok (wd : Int) (B bm : Nat) (A : Nat → Prop) (S : BookS) (m : Nat) (a : H) (n : Nat) (r : H) (v : Value) (l : List UInt8) (hm : m < 18446744073709551616) (hn : n < 18446744073709551616) (hl : l.length < 1048576) (w : World) (hg : Glob w) (hb3 : 3 < B ∧ 3 < bm)
    (hB : BookAt wd w B bm A S) (hv : Seq codByte w v l) (hoff : ∀ x, inBlock v x → x ≠ B ∧ x ≠ bm) :
    Does Tryz.prog 98 [pt B, .int .u64 m, H.val a, .int .u64 n, H.val r, v] w (fun x w' => x = .bool (decide (prefixE wd m a n r l = 0)) ∧ BookAt wd w' B bm A (if prefixE wd m a n r l = 0 then addsB wd S (reachTs wd m n (decL l)) else S) ∧ Upd2 B bm w w') := by
  obtain ⟨hBl, hml, hne⟩ := hB.ltB
  (refine DoesX.of_vc tyOk Tryz.func98 rfl ⟨rfl, rfl⟩ rfl ?_; (conv => whnf))
  refine RunP.box ?_
  intro b8 w1 hb8 hO8 hE1
  have hO8 : Own w1 b8 (H.cells a) := by simpa [H.val, Value.cells] using hO8
  (conv => whnf)
  refine RunP.box ?_
  intro b10 w2 hb10 hO10 hE2
  have hO10 : Own w2 b10 (H.cells r) := by simpa [H.val, Value.cells] using hO10
  have hO8 := hO8.ext hE2
  have hE2 := hE1.trans hE2
  have hs2 := hE2.size
  (conv => whnf)
  refine draw_ext tyOk mixed (.q 0 (.q 1 (.q 2 (.q 3 (.q 4 (.q 5 (.q 6 (.q 7 (.q 8 (.e [(9, .q 10 (.done))])))))))))) (by kernel_rfl) ?_
  intro w3 hE3 hs3
  have hO8 := hO8.ext hE3
  have hO10 := hO10.ext hE3
  have hE3 := hE2.trans hE3
  have hB3 := hB.ext hE3
  obtain ⟨vals, fp, hOB, _⟩ := hB3.out
  (conv => whnf)
  refine GetP.ldS tfInt (v := .int .i64 wd) (fun w' hw' => by rw [(hOB.ext hw').cell]; rfl) ?_
  (conv => whnf)
  refine GetP.ldsS tfHash (H.len a) (fun w' hw' => (hO8.ext hw').cells) ?_
  (conv => whnf)
  refine GetP.ldsS tfHash (H.len r) (fun w' hw' => (hO10.ext hw').cells) ?_
  (conv => whnf)
  refine CallP.does (prefix_ok wd m a n r v l hm hn w3 (hg.ext hE3) (hv.ext hE3) hl) ?_
  rintro x w4 ⟨rfl, hE4⟩
  have hs4 := hE4.size
  have hB4 := hB3.ext hE4
  (conv => whnf)
  (refine BarP.no ?_)
  refine ReqP.mk hE4 ?_
  have hE4 := hE3.trans hE4
  (conv => whnf)
  refine CmpP.split (fun h => ?_) (fun h => ?_)
  · have hne : ¬ prefixE wd m a n r l = 0 := by intro h0; simp [h0] at h
    (conv => whnf)
    rw [if_neg hne]
    exact ⟨by simp [hne], hB4, .of_ext hE4⟩
  have h0 : prefixE wd m a n r l = 0 := by
    simp only [bne_eq_false_iff_eq] at h
    omega
  obtain ⟨hd0, hdm, hdn, henc, _, _⟩ := prefixE_zero h0
  have hdl := decL_len l
  (conv => whnf)
  refine CallP.does (decodePrefix_ok v l w4 (hg.ext hE4) (hv.ext hE4) hl) ?_
  rintro x w5 ⟨u, rfl, hGu, hE5⟩
  have hs5 := hE5.size
  have hB5 := hB4.ext hE5
  have hE5 := hE4.trans hE5
  rw [hdm, hdn]
  (conv => whnf)
  refine RunP.new (z := prefV 0 0 (.slice none 0 0)) Tryz.zeroValue55 ?_
  intro b13 w6 hb13 hO13 hE6
  have hs6 := hE6.size
  have hO13 : Own w6 b13 (prefC 0 0 (.slice none 0 0)) := hO13
  (conv => whnf)
  refine DoP.sts0 tfPrefix (vs := prefC m n u) hO13 rfl rfl (by intro x hx; simp [prefC] at hx; rcases hx with rfl | rfl | rfl <;> first | rfl | exact hGu.one) ?_
  intro w7 hO13 hU7
  have hE7 : Ext w5 w7 := hE6.upd hU7 (by omega)
  have hB7 := hB5.ext hE7
  have hS7 := hGu.seq.ext hE7
  have huo : ∀ x, inBlock u x → x ≠ B ∧ x ≠ bm := fun x hx => by have := (hGu.block hx).1; omega
  (conv => whnf)
  refine GetP.lds tfPrefix (cs := prefC m n u) rfl hO13.cells ?_
  (conv => whnf)
  refine CallP.does (reachB_ok wd B bm A S m n u (decL l) hm hn (by omega) w7 (hg.ext (hE5.trans hE7)) hb3 hB7 hS7 huo henc) ?_
  rintro x w8 ⟨hB8, hU8⟩
  (conv => whnf)
  rw [if_pos h0]
  exact ⟨by simp [h0], hB8, (Upd2.of_ext (hE5.trans hE7)).trans hU8⟩

def forkS (wd : Int) (m n : Nat) (p q : List UInt8) : BookS := addsB wd (addsB wd ⟨[], none⟩ (reachTs wd m n (decL p))) (reachTs wd m n (decL q))
def forkIs (wd : Int) (m : Nat) (a b : H) (n : Nat) (r : H) (p q : List UInt8) : Bool := decide (a ≠ b) && (decide (prefixE wd m a n r p = 0) && decide (prefixE wd m b n r q = 0))
def forkB (wd : Int) (m : Nat) (a b : H) (n : Nat) (r : H) (p q : List UInt8) : Bool := forkIs wd m a b n r p q && (forkS wd m n p q).found.isSome

theorem fork_ok (wd : Int) (m : Nat) (a b : H) (n : Nat) (r : H) (v u : Value) (p q : List UInt8) (hm : m < 18446744073709551616) (hn : n < 18446744073709551616) (hpl : p.length < 1048576) (hql : q.length < 1048576) (w : World) (hg : Glob w)
    (hv : Seq codByte w v p) (hu : Seq codByte w u q) :
    Does Tryz.prog 47 [.int .i64 wd, .int .u64 m, H.val a, H.val b, .int .u64 n, H.val r, v, u] w (fun x w' => ∃ va vb, x = .tuple #[.agg #[va, vb], .bool (forkB wd m a b n r p q)] ∧ va.oneCell' = true ∧ vb.oneCell' = true ∧
      (forkB wd m a b n r p q = true → Seq codByte w' va (((forkS wd m n p q).found.map (·.1)).getD []) ∧ Seq codByte w' vb (((forkS wd m n p q).found.map (·.2)).getD []) ∧ (∀ x, inBlock va x → w.heap.size ≤ x) ∧ ∀ x, inBlock vb x → w.heap.size ≤ x) ∧ Ext w w') := by
  have hw3 := hg.lt
  (refine DoesX.of_vc tyOk Tryz.func47 rfl ⟨rfl, rfl⟩ rfl ?_; (conv => whnf))
  refine RunP.box ?_
  intro b10 w1 hb10 hO10 hE1
  have hO10 : Own w1 b10 (H.cells a) := by simpa [H.val, Value.cells] using hO10
  (conv => whnf)
  refine RunP.box ?_
  intro b11 w2 hb11 hO11 hE2
  have hO11 : Own w2 b11 (H.cells b) := by simpa [H.val, Value.cells] using hO11
  have hO10 := hO10.ext hE2
  have hE2 := hE1.trans hE2
  have hs2 := hE2.size
  (conv => whnf)
  refine RunP.box ?_
  intro b13 w3 hb13 hO13 hE3
  have hO13 : Own w3 b13 (H.cells r) := by simpa [H.val, Value.cells] using hO13
  have hO10 := hO10.ext hE3
  have hO11 := hO11.ext hE3
  have hE3 := hE2.trans hE3
  have hs3 := hE3.size
  (conv => whnf)
  refine RunP.new (z := .agg #[.slice none 0 0, .slice none 0 0]) Tryz.zeroValue35 ?_
  intro b16 w4 hb16 hO16 hE4
  have hO16 : Own w4 b16 [.slice none 0 0, .slice none 0 0] := hO16
  have hO10 := hO10.ext hE4
  have hO11 := hO11.ext hE4
  have hO13 := hO13.ext hE4
  have hE4 := hE3.trans hE4
  have hs4 := hE4.size
  have l10 := hO10.lt
  have l11 := hO11.lt
  have l13 := hO13.lt
  have l16 := hO16.lt
  (conv => whnf)
  refine CallP.does (newBook_ok wd w4) ?_
  rintro x w5 ⟨B, bm, rfl, hbm, hB, hBl, hml, hB5, hE5⟩
  have hO10 := hO10.ext hE5
  have hO11 := hO11.ext hE5
  have hO13 := hO13.ext hE5
  have hO16 := hO16.ext hE5
  have hE45 := hE5
  have hE5 := hE4.trans hE5
  have hs5 := hE5.size
  have hvo : ∀ x, inBlock v x → x ≠ B ∧ x ≠ bm := fun x hx => by have := hv.lt hx; omega
  have huo : ∀ x, inBlock u x → x ≠ B ∧ x ≠ bm := fun x hx => by have := hu.lt hx; omega
  have hb3 : 3 < B ∧ 3 < bm := by omega
  (conv => whnf)
  refine GetP.lds tfHash (H.len a) hO10.cells ?_
  (conv => whnf)
  refine GetP.lds tfHash (H.len b) hO11.cells ?_
  (conv => whnf)
  refine EqP.neq (val := H.val) (cs := H.cells) eqHash (by omega) Tryz.eqGuardType24 (fun _ => rfl) a b ?_
  obtain ⟨A, hAB, hAm, hA16, hAl, hAn⟩ : ∃ A : Nat → Prop, A B ∧ A bm ∧ A b16 ∧ (∀ x, A x → x < w5.heap.size) ∧ ∀ x, ¬ A x → w.heap.size ≤ x := ⟨fun x => x < w5.heap.size, by omega, by omega, by omega, fun x hx => hx, fun x hx => by omega⟩
  have hB5 := hB5 A hAB hAm hAl
  have low : ∀ {w6 : World}, Upd2 B bm w5 w6 → Ext w w6 := fun h => Below.trans hE5 (h.below (by omega) (by omega) (by omega))
  have hg5 := hg.ext hE5
  by_cases hab : a = b
  · have hfB : forkB wd m a b n r p q = false := by simp [forkB, forkIs, hab]
    refine CmpP.of false (by simp [hab]) ?_
    (conv => whnf)
    refine CallP.does (unlike_ok wd B bm A ⟨[], none⟩ false w5 hB5) ?_
    rintro x w8 ⟨va, vb, rfl, g1, g2, g3, hE8⟩
    have hs8 := hE8.size
    (conv => whnf)
    refine DoP.sts0 tfClash (vs := [va, vb]) ((hO16.upd2 (Upd2.refl B bm w5) (by omega) (by omega)).ext hE8) rfl rfl (by intro u hu; simp at hu; rcases hu with rfl | rfl <;> assumption) ?_
    intro w9 hO9 hU9
    (conv => whnf)
    refine GetP.ress tfClash rfl hO9.cells ?_
    (conv => whnf)
    refine ⟨va, vb, by rw [hfB]; rfl, g1, g2, (fun h => by rw [hfB] at h; cases h), ((low (Upd2.refl B bm w5)).trans hE8).upd hU9 (by omega)⟩
  · refine CmpP.of true (by simp [hab]) ?_
    (conv => whnf)
    refine GetP.lds tfHash (H.len a) hO10.cells ?_
    (conv => whnf)
    refine GetP.lds tfHash (H.len r) hO13.cells ?_
    (conv => whnf)
    refine CallP.does (prefixB_ok wd B bm A ⟨[], none⟩ m a n r v p hm hn hpl w5 hg5 hb3 hB5 (hv.ext hE5) hvo) ?_
    rintro x w6 ⟨rfl, hB6, hU6⟩
    have hs6 := hU6.size
    by_cases h1 : prefixE wd m a n r p = 0
    · rw [if_pos h1] at hB6
      rw [decide_eq_true h1]
      (conv => whnf)
      refine GetP.lds tfHash (H.len b) (hO11.upd2 hU6 (by omega) (by omega)).cells ?_
      (conv => whnf)
      refine GetP.lds tfHash (H.len r) (hO13.upd2 hU6 (by omega) (by omega)).cells ?_
      (conv => whnf)
      refine CallP.does (prefixB_ok wd B bm A _ m b n r u q hm hn hql w6 (hg5.upd2 hU6 hb3.1 hb3.2) hb3 hB6 (hu.ext (low hU6)) huo) ?_
      rintro x w7 ⟨rfl, hB7, hU7⟩
      have hU67 := hU6.trans hU7
      have hs7 := hU67.size
      by_cases h2 : prefixE wd m b n r q = 0
      · rw [if_pos h2] at hB7
        rw [decide_eq_true h2]
        have hIs : forkIs wd m a b n r p q = true := by simp [forkIs, hab, h1, h2]
        have hfB : forkB wd m a b n r p q = (true && (forkS wd m n p q).found.isSome) := by rw [forkB, hIs]
        have hB7 : BookAt wd w7 B bm A (forkS wd m n p q) := hB7
        (conv => whnf)
        refine CallP.does (unlike_ok wd B bm A (forkS wd m n p q) true w7 hB7) ?_
        rintro x w8 ⟨va, vb, rfl, g1, g2, g3, hE8⟩
        have hs8 := hE8.size
        (conv => whnf)
        refine DoP.sts0 tfClash (vs := [va, vb]) ((hO16.upd2 hU67 (by omega) (by omega)).ext hE8) rfl rfl (by intro u hu; simp at hu; rcases hu with rfl | rfl <;> assumption) ?_
        intro w9 hO9 hU9
        (conv => whnf)
        refine GetP.ress tfClash rfl hO9.cells ?_
        (conv => whnf)
        refine ⟨va, vb, by rw [hfB], g1, g2, fun h => ?_, ((low hU67).trans hE8).upd hU9 (by omega)⟩
        rw [hfB] at h
        obtain ⟨e1, e2, e3, e4⟩ := g3 h
        exact ⟨(e1.ext hE8).upd hU9 (fun hx => e3 _ hx hA16), (e2.ext hE8).upd hU9 (fun hx => e4 _ hx hA16), fun x hx => hAn x (e3 x hx), fun x hx => hAn x (e4 x hx)⟩
      · rw [if_neg h2] at hB7
        rw [decide_eq_false h2]
        have hfB : forkB wd m a b n r p q = false := by simp [forkB, forkIs, h2]
        (conv => whnf)
        refine CallP.does (unlike_ok wd B bm A _ false w7 hB7) ?_
        rintro x w8 ⟨va, vb, rfl, g1, g2, g3, hE8⟩
        have hs8 := hE8.size
        (conv => whnf)
        refine DoP.sts0 tfClash (vs := [va, vb]) ((hO16.upd2 hU67 (by omega) (by omega)).ext hE8) rfl rfl (by intro u hu; simp at hu; rcases hu with rfl | rfl <;> assumption) ?_
        intro w9 hO9 hU9
        (conv => whnf)
        refine GetP.ress tfClash rfl hO9.cells ?_
        (conv => whnf)
        refine ⟨va, vb, by rw [hfB]; rfl, g1, g2, (fun h => by rw [hfB] at h; cases h), ((low hU67).trans hE8).upd hU9 (by omega)⟩
    · rw [if_neg h1] at hB6
      rw [decide_eq_false h1]
      have hfB : forkB wd m a b n r p q = false := by simp [forkB, forkIs, h1]
      (conv => whnf)
      refine CallP.does (unlike_ok wd B bm A _ false w6 hB6) ?_
      rintro x w8 ⟨va, vb, rfl, g1, g2, g3, hE8⟩
      have hs8 := hE8.size
      (conv => whnf)
      refine DoP.sts0 tfClash (vs := [va, vb]) ((hO16.upd2 hU6 (by omega) (by omega)).ext hE8) rfl rfl (by intro u hu; simp at hu; rcases hu with rfl | rfl <;> assumption) ?_
      intro w9 hO9 hU9
      (conv => whnf)
      refine GetP.ress tfClash rfl hO9.cells ?_
      (conv => whnf)
      refine ⟨va, vb, by rw [hfB]; rfl, g1, g2, (fun h => by rw [hfB] at h; cases h), ((low hU6).trans hE8).upd hU9 (by omega)⟩
end Go.Proofs.YtgeemplpgfiidaaGreatDoor.Mv
