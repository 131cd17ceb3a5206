/- do: a step is done. -/
import Derived.Test.YtlnelokpaccanaaDiskI
import Derived.WalkSmall
import Derived.WalkHide
import Derived.Deep.RegionHeldLaw
namespace Go.Proofs.Ytlnelokpaccanaa
open Go Go.RowKit Go.Tr
attribute [local go_sem] Oper.semAt_some
attribute [local go_sem ↓] hide_app
set_option linter.unusedVariables false

def applyAll (us : List U) (L : Files) : Files := us.foldl (fun L u => u.apply L) L
/-- Each byte's file has room for it. -/
def Fits (us : List U) (L : Files) : Prop := ∀ k n c, us[k]? = some (.byte n c) → ((mget beqB n (applyAll (us.take k) L)).getD ⟨#[]⟩).size < 9223372036854775807
def stepN (D : DS) (us : List U) : List U := us.take (burnN D us.length).toNat
def doD (D : DS) (us : List U) : DS := { burnD D us.length with steps := D.steps ++ [stepN D us], seen := applyAll (stepN D us) D.seen }

theorem DRep.grow {w : World} {b : Nat} {D : DS} {fp : List Nat} {bx bx' : Nat → Prop} {s m : Nat} {sv fa : Value} {fl : List Nat} (h : DRep w b D fp bx s m sv fa fl) (hb : ∀ i, bx i → bx' i) (hoff : ∀ i ∈ fp, ¬ bx' i) (hl : ∀ i, bx' i → i < w.heap.size) :
    DRep w b D fp bx' s m sv fa fl where
  blk := h.blk
  syn := h.syn
  seen := h.seen
  ne := h.ne
  steps := h.steps.mono hb
  fuse := h.fuse
  fp_eq := h.fp_eq
  off := hoff
  bxl := hl
/-- What 'do' leaves. -/
def DoPost (w : World) (b : Nat) (D : DS) (fp : List Nat) (bx : Nat → Prop) (us : List U) (e : Ending) (w' : World) : Prop :=
  e = .returned (.int .i64 (if (doD D us).down then 70 else 0)) ∧ ∃ fp' bx', Disk w' b (doD D us) fp' bx' ∧ Frm (fun i => i ∈ fp) w w' ∧ (∀ i ∈ fp', i ∈ fp ∨ w.heap.size ≤ i) ∧ ∀ i, bx' i → bx i ∨ w.heap.size ≤ i

theorem info70 : (Try.prog.info? 70).map (fun i => (i.zero, i.size, i.bytes)) = some (some (.agg #[.int .i64 0, .nilFunc]), 2, 16) := by kernel_rfl

set_option maxRecDepth 100000 in
set_option maxHeartbeats 4000000 in
theorem do_call {w : World} {b : Nat} {D : DS} {fp : List Nat} {bx : Nat → Prop} {s m : Nat} {sv fa : Value} {fl : List Nat} (h : DRep w b D fp bx s m sv fa fl) {gf : FuncId} {lb : Array Value} {us : List U}
    (hE : Each bx w (.func (.func gf) #[] lb) us) (hpl : burnN D us.length < us.length → Plain bx w (.func (.func gf) #[] lb) us) (hlen : us.length ≤ 4611686018427387904) (hst : D.steps.length ≤ 1000000000) (hfit : Fits (stepN D us) D.seen) :
    Calls Try.prog 35 #[ptr b, .agg #[.int .i64 us.length, .func (.func gf) #[] lb]] w (DoPost w b D fp bx us) := by
  obtain ⟨n, hn⟩ : ∃ n : Nat, burnN D us.length = n := ⟨(burnN D us.length).toNat, by
    have : 0 ≤ burnN D us.length := by
      unfold burnN
      have hz := h.fuse
      cases hfz : D.fuse with
      | none => simp
      | some k => rw [hfz] at hz; obtain ⟨f, _, _, _, k0, _⟩ := hz; simp; omega
    omega⟩
  have hnle : n ≤ us.length := by
    have : burnN D us.length ≤ us.length := by
      unfold burnN
      cases D.fuse with
      | none => simp
      | some k => simp; omega
    omega
  obtain ⟨w0, hw0⟩ : ∃ w0, (w.alloc (.cells #[ptr b] 23)).alloc (.cells #[.int .i64 us.length, .func (.func gf) #[] lb] 70) = w0 := ⟨_, rfl⟩
  have f0 : Frm Nil w w0 := by rw [← hw0]; exact ((Frm.refl _ w).alloc _).alloc _
  have s0 : w0.heap.size = w.heap.size + 2 := by rw [← hw0]; simp
  have hA0 : Box1 w0 w.heap.size 23 (ptr b) := by rw [← hw0]; exact (Below.heap_alloc _ _ _ (by simp)).trans (World.alloc_heap_new w _)
  have hS0 : w0.heap[w.heap.size + 1]? = some (.cells #[.int .i64 us.length, .func (.func gf) #[] lb] 70 (0, 0)) := by
    rw [← hw0]; have := World.alloc_heap_new (w.alloc (.cells #[ptr b] 23)) (.cells #[.int .i64 us.length, .func (.func gf) #[] lb] 70); rwa [World.size_alloc] at this
  have hb := Lib.hid (burn_disk (h.frm f0 (fun _ _ h => h) (fun _ _ h => h)) us.length (by omega) (by omega))
  have cA := hA0.cell
  have cS0 := cell_of_row _ _ 0 _ _ _ hS0
  have cS1 := cell_of_row _ _ 1 _ _ _ hS0
  refine (callsIn_wide (n := 9)).1 (callsIn_of_wp_marks Try.func35 rfl trivial (wpIn_wide.2 ?_))
  simp only [Try.ntmps35, List.size_toArray, List.length_cons, List.length_nil, Nat.reduceAdd, Nat.reduceSub, Array.replicate_succ, Array.replicate_zero, List.push_toArray, List.append_toArray, List.nil_append, List.cons_append]
  refine wp_hide (fun _ _ => ?_)
  have hfl : ∀ i, i ∈ fl → i < w.heap.size := fun i hi => h.lt i (by rw [h.fp_eq]; simp [hi])
  have hbl : b < w.heap.size := h.lt b (by rw [h.fp_eq]; simp)
  have nA : ¬ (w.heap.size = b ∨ w.heap.size ∈ fl) := fun hx => by
    rcases hx with hx | hx
    · omega
    · have := hfl _ hx; omega
  have nS : ¬ (w.heap.size + 1 = b ∨ w.heap.size + 1 ∈ fl) := fun hx => by
    rcases hx with hx | hx
    · omega
    · have := hfl _ hx; omega
  have NA := Lib.hid nA; clear nA
  have NS := Lib.hid nS; clear nS
  have HN := Lib.hid hn; clear hn
  have HF0 := Lib.hid f0; clear f0
  have HFL := Lib.hid hfl; clear hfl
  have HFit := Lib.hid hfit; clear hfit
  have HPl := Lib.hid hpl; clear hpl
  have HEE := Lib.hid hE; clear hE
  have hD1D : burnD D us.length = burnD D us.length := rfl
  by_cases hlt : n < us.length
  · have t1 : decide ((n : Int) < (us.length : Int)) = true := by simp; omega
    repeat' (first | (go_at_call 36; refine hb.out.mono ?_; rintro e w1 ⟨rfl, hD1, hF1⟩; have hA1 := hA0.frm hF1 NA.out; have hS1 := hF1.obj hS0 NS.out; have dA := hA1.cell; have dS0 := cell_of_row _ _ 0 _ _ _ hS1; have dS1 := cell_of_row _ _ 1 _ _ _ hS1; rw [HN.out]; clear cA cS0 cS1) | (go_at_call 52; refine (first_call' _ _ _ us.length n _ rfl).mono ?_; rintro e w2 ⟨rfl, hF2, hs2, hn2⟩; have hS2 := hF2.objN hS1; have gS0 := cell_of_row _ _ 0 _ _ _ hS2; have gS1 := cell_of_row _ _ 1 _ _ _ hS2; have gz0 := frozen_of_row _ _ 0 _ _ hS2; have gz1 := frozen_of_row _ _ 1 _ _ hS2) | go_values | go_skip | go_guarded | go_step | go_upon | dsimp only)
    obtain ⟨W4, hW4⟩ : ∃ W4, (w2.setCell ⟨w.heap.size + 1, 0, none⟩ (.int .i64 n)).setCell ⟨w.heap.size + 1, 1, none⟩ (.func (.func 58) #[] #[ptr w1.heap.size, ptr (w1.heap.size + 1)]) = W4 := ⟨_, rfl⟩
    rw [hW4]
    have hF24 : Frm (One (w.heap.size + 1)) w2 W4 := by rw [← hW4]; exact (frm_set _ _ _ _).tr (frm_set _ _ _ _)
    have hw01 : w.heap.size + 2 ≤ w1.heap.size := by have := hF1.size; omega
    have hw12 := hF2.size
    have hfpl : ∀ i ∈ fp, i < w.heap.size := h.lt
    have hbx0 : ∀ i, bx i → i < w.heap.size := h.bxl
    obtain ⟨us4, hus4⟩ : ∃ us4, stepN D us = us4 := ⟨_, rfl⟩
    have hus4' : us4 = us.take n := by rw [← hus4]; unfold stepN; rw [HN.out]; simp
    have hlen4 : us4.length = n := by rw [hus4']; simp; omega
    have hoff1 : ∀ i, bx i → ¬ (i = b ∨ i ∈ fl) := fun i hi hx => h.off i (by rcases hx with rfl | hx <;> rw [h.fp_eq] <;> simp_all) hi
    obtain ⟨ev4, us4, gf4, lb4, bx4, hev4, hS4, hD4, hE4, hF4, hbx4, hus4⟩ : ∃ ev4 us4 gf4 lb4 bx4, ev4 = Value.func (.func gf4) #[] lb4 ∧ W4.heap[w.heap.size + 1]? = some (.cells #[.int .i64 (us4 : List U).length, ev4] 70 (0, 0)) ∧ DRep W4 b (burnD D us.length) fp bx4 s m sv fa fl ∧
        Each bx4 W4 ev4 us4 ∧ Frm (fun i => i ∈ fp) w W4 ∧ (∀ i, bx4 i → bx i ∨ w.heap.size ≤ i) ∧ us4 = stepN D us := by
      refine ⟨_, us4, 58, #[ptr w1.heap.size, ptr (w1.heap.size + 1)], fun i => bx i ∨ i = w1.heap.size ∨ i = w1.heap.size + 1, rfl, ?_, ?_, .inr ⟨w1.heap.size, w1.heap.size + 1, _, _, us, n, .inr (.inl rfl), .inr (.inr rfl), hF24.obj hs2 (fun e => by have e' : w1.heap.size = w.heap.size + 1 := e; omega), hn2.frm hF24 (fun e => by have e' : w1.heap.size + 1 = w.heap.size + 1 := e; omega), ?_, by omega, by omega, rfl, hus4'⟩, ?_, ?_, hus4.symm⟩
      · rw [hlen4, ← hW4]
        exact heap_set _ (heap_set _ hS2)
      · refine ((hD1.frm hF2 (fun _ _ h => h) (fun _ _ h => h)).frm hF24 (fun i hi e => by
          have e' : i = w.heap.size + 1 := e
          have := hfpl i hi
          omega) (fun i hi e => by
          have e' : i = w.heap.size + 1 := e
          have := hbx0 i hi
          omega)).grow (fun i hi => .inl hi) (fun i hi hx => ?_) (fun i hx => ?_)
        · have := hfpl i hi
          rcases hx with hx | hx | hx
          · exact h.off i hi hx
          · omega
          · omega
        · have h4 := hF24.size
          have h2 := hn2.lt
          rcases hx with hx | hx | hx
          · have := hbx0 i hx; omega
          · omega
          · omega
      · refine ((((HPl.out (by rw [HN.out]; exact Int.ofNat_lt.2 hlt)).frm HF0.out (fun _ _ h => h)).frm hF1 hoff1).frm hF2 (fun _ _ h => h)).frm hF24 (fun i hi e => ?_) |>.mono (fun i hi => .inl hi)
        have e' : i = w.heap.size + 1 := e
        have := hbx0 i hi
        omega
      · refine ((HF0.out.nil.trans hF1 (fun i _ hx => by
          rcases hx with rfl | hx
          · rw [h.fp_eq]; simp
          · rw [h.fp_eq]; simp [hx])).trn hF2).trans hF24 (fun i hi e => ?_)
        have e' : i = w.heap.size + 1 := e
        omega
      · rintro i (hi | rfl | rfl)
        · exact .inl hi
        · exact .inr (by omega)
        · exact .inr (by omega)
    have hA4 : Box1 W4 w.heap.size 23 (ptr b) := (hA1.frm hF2 (fun h => h)).frm hF24 (fun e => by have e' : w.heap.size = w.heap.size + 1 := e; omega)
    clear dA dS0 dS1 gS0 gS1 gz0 gz1
    have dA := hA4.cell
    clear hS1 hS2 hD1 hF1 hF2 hF24 hs2 hn2 hlen4 hus4' hW4 hA1 hw01 hw12 hfpl hbx0 hoff1
    subst hev4
    have HU4 := Lib.hid hus4; clear hus4
    have hc4 := cells6 hD4.blk
    have k0 := hc4.h0; have k1 := hc4.h1; have k2 := hc4.h2; have k3 := hc4.h3; have k4 := hc4.h4; have k5 := hc4.h5
    have z3 := frozen_of_row _ _ 3 _ _ hD4.blk
    have e0 := cell_of_row _ _ 0 _ _ _ hS4
    have e1 := cell_of_row _ _ 1 _ _ _ hS4
    obtain ⟨xs, hown, hxs⟩ := hD4.steps
    have HX := Lib.hid hxs; clear hxs
    have hsl : (burnD D us.length).steps = D.steps := by unfold burnD; cases D.fuse <;> rfl
    rw [hsl] at hown
    have HSL := Lib.hid hsl; clear hsl
    obtain ⟨i0, hi, hz0, hz1, hz2⟩ := info_parts info70
    have hown' := (hown.alloc (.cells #[.int .i64 (us4.length : Int), .func (.func gf4) #[] lb4] 70))
    have hnews : ∀ j u, [Value.int .i64 (us4.length : Int), .func (.func gf4) #[] lb4][j]? = some u → (W4.alloc (.cells #[.int .i64 (us4.length : Int), .func (.func gf4) #[] lb4] 70)).cell? ((⟨W4.heap.size, 0, none⟩ : Addr).add j) = some u := cell_two_new _ _ _ _
    have hgb : ∀ g, sv.ownBlock = some g → g < w.heap.size ∧ g ≠ b := fun g hg => ⟨h.lt g (by rw [h.fp_eq, hg]; simp), by
      rintro rfl
      rcases hown.2 with ⟨h1, _⟩ | ⟨g', cap, cur, h1, _, h2, _⟩
      · rw [h1] at hg; cases hg
      · rw [h1] at hg
        injection hg with hg
        subst hg
        rw [hD4.blk] at h2
        cases h2⟩
    have hW4s : w.heap.size + 2 ≤ W4.heap.size := by have := lt_of_obj hS4; omega
    have hkeep : ∀ W5, (W4.alloc (.cells #[.int .i64 (us4.length : Int), .func (.func gf4) #[] lb4] 70)).drew.grownBy W5 sv.ownBlock →
        W5.cell? ⟨w.heap.size, 0, none⟩ = some (ptr b) ∧ W5.cell? ⟨b, 3, none⟩ = some sv ∧ W5.cell? ⟨w.heap.size + 1, 0, none⟩ = some (.int .i64 us4.length) ∧ W5.cell? ⟨w.heap.size + 1, 1, none⟩ = some (.func (.func gf4) #[] lb4) ∧ W5.frozen? ⟨b, 3, none⟩ = false := fun W5 hg => by
      have hcell : ∀ i o v, w.heap.size + 2 ≤ W4.heap.size → W4.cell? ⟨i, o, none⟩ = some v → sv.ownBlock ≠ some i → W5.cell? ⟨i, o, none⟩ = some v := fun i o v hsz hc hne => by
        have hlt := World.block_lt_of_cell? _ _ hc
        have h1 : (W4.alloc (.cells #[.int .i64 (us4.length : Int), .func (.func gf4) #[] lb4] 70)).drew.cell? ⟨i, o, none⟩ = some v := (World.cell?_alloc_lt W4 _ ⟨i, o, none⟩ hlt).trans hc
        exact hg.cell h1 (fun e => hne e.symm)
      exact ⟨hcell _ _ _ hW4s dA (fun e => by have := (hgb _ e).1; omega), hcell _ _ _ hW4s k3 (fun e => (hgb _ e).2 rfl), hcell _ _ _ hW4s e0 (fun e => by have := (hgb _ e).1; omega), hcell _ _ _ hW4s e1 (fun e => by have := (hgb _ e).1; omega), (World.frozen?_of_block (w := (W4.alloc (.cells #[.int .i64 (us4.length : Int), .func (.func gf4) #[] lb4] 70)).drew) (a := ⟨b, 3, none⟩) (hg.block b (by simp; omega) (fun e => (hgb _ e.symm).2 rfl))).trans ((World.frozen?_of_block (w := W4) (a := ⟨b, 3, none⟩) (Below.heap_alloc W4 _ b (by omega))).trans z3)⟩
    have HK := Lib.hid hkeep; clear hkeep
    have l1 : b < W4.heap.size := by omega
    have l2 : w.heap.size < W4.heap.size := by omega
    have l3 : w.heap.size + 1 < W4.heap.size := by omega
    have HG := Lib.hid hgb; clear hgb
    refine Code.wp_mono (Q := fun e a' w' => match e with
      | .normal => ∃ (g cap : Nat) (W5 : World), w' = W5.setCell ⟨b, 3, none⟩ (.slice (some ⟨g, 0, none⟩) (D.steps.length + 1) cap) ∧ W5.ownsRow 0 70 2 (.slice (some ⟨g, 0, none⟩) (D.steps.length + 1) cap) (D.steps.length + 1) (xs ++ [.int .i64 us4.length, .func (.func gf4) #[] lb4]) ∧
          Frm (fun i => sv.ownBlock = some i) W4 W5 ∧ (sv.ownBlock = some g ∨ W4.heap.size ≤ g) ∧ ∃ y5 y6 y7 y8 y9 y10 y11 y12 y13 y14 y15 y16 y17 y18 y19 y20 y21 y22 y23 y24 y25 y26 y27 y28 y29 y30 y31 y32 y33 y34 y35 y36 y37 y38 y39 y40 : Value, a' = { tmps := #[ptr b, .agg #[.int .i64 us.length, .func (.func gf) #[] lb], ptr w.heap.size, ptr (w.heap.size + 1), .int .i64 0, y5, y6, y7, y8, y9, y10, y11, y12, y13, y14, y15, y16, y17, y18, y19, y20, y21, y22, y23, y24, y25, y26, y27, y28, y29, y30, y31, y32, y33, y34, y35, y36, y37, y38, y39, y40], defers := [] }
      | _ => False) (fun e a' w' hq => ?_) ?_
    case refine_2 =>
      obtain ⟨g, cap, W5, happ, hown5, hgrow, hat, hlt5⟩ := run_append_lies (P := Try.prog) (w := (W4.alloc (.cells #[.int .i64 (us4.length : Int), .func (.func gf4) #[] lb4] 70)).drew) 44 44 0 70 i0 (.agg #[.int .i64 0, .nilFunc]) 2 16 Try.underlying44 hi hz0 hz1 hz2 rfl (by decide) sv D.steps.length xs hown' ⟨W4.heap.size, 0, none⟩ 1 1 [.int .i64 us4.length, .func (.func gf4) #[] lb4] rfl hnews (by simp [Value.oneCell']) (by omega) (by unfold maxLen; omega) (by omega) (Nat.zero_le _) (W4.heap.size + 1) (by simp)
      obtain ⟨q1, q2, q3, q4, q5⟩ := HK.out _ hgrow
      have HO5 := Lib.hid hown5; clear hown5
      have HGr := Lib.hid hgrow; clear hgrow
      clear hi hz0 hz1 hz2
      rw [hide_app] at happ
      have HZ := Lib.hid (And.intro hat hlt5); clear hat hlt5
      clear hD4 hE4 hF4 hbx4 HU4 HG HX HSL hown hown' hnews hS4 hA4 hc4 k0 k1 k2 k4 k5 hW4s h hS0 hA0 hb hbl hlen hst hlt t1 hnle HN HFit HPl HEE HFL NA NS HF0 s0 hw0
      go_region
      refine ⟨g, cap, W5, rfl, HO5.out, ?_, ?_, _, _, _, _, _, _, _, _, _, _, _, _, _, _, _, _, _, _, _, _, _, _, _, _, _, _, _, _, _, _, _, _, _, _, _, _, rfl⟩
      · have hg := HGr.out
        exact ⟨hg.os, hg.tape, hg.output, by have := hg.size; simp at this; omega, fun i hi hn => (hg.block i (by simp; omega) (fun e => hn e.symm)).trans (Below.heap_alloc W4 _ i hi)⟩
      · exact HZ.out.1.imp id (fun e => by omega)
    case refine_1 =>
      cases e with
      | normal =>
        obtain ⟨g, cap, W5, rfl, hown5, hF5, hat, y5, y6, y7, y8, y9, y10, y11, y12, y13, y14, y15, y16, y17, y18, y19, y20, y21, y22, y23, y24, y25, y26, y27, y28, y29, y30, y31, y32, y33, y34, y35, y36, y37, y38, y39, y40, rfl⟩ := hq
        have hown4 := hown
        have hE5 : Each bx4 W5 (.func (.func gf4) #[] lb4) us4 := hE4.frm hF5 (fun i hi e => by
          have e' : sv.ownBlock = some i := e
          exact hD4.off i (by rw [hD4.fp_eq, e']; simp) hi)
        have hst5 : Steps bx4 W5 (.slice (some ⟨g, 0, none⟩) (D.steps.length + 1) cap) (D.steps ++ [us4]) := by
          refine ⟨xs ++ [.int .i64 us4.length, .func (.func gf4) #[] lb4], by rw [List.length_append, List.length_singleton]; exact hown5, fun i us' hi => ?_⟩
          have hxl : xs.length = D.steps.length * 2 := hown4.1
          by_cases hlt' : i < D.steps.length
          · rw [List.getElem?_append_left hlt'] at hi
            obtain ⟨h3, v, h4, h5⟩ := HX.out i us' (by rw [HSL.out]; exact hi)
            refine ⟨by rw [List.getElem?_append_left (by omega)]; exact h3, v, by rw [List.getElem?_append_left (by omega)]; exact h4, h5.frm hF5 (fun j hj e => by
              have e' : sv.ownBlock = some j := e
              exact hD4.off j (by rw [hD4.fp_eq, e']; simp) hj)⟩
          · rw [List.getElem?_append_right (by omega)] at hi
            have hi0 : i - D.steps.length = 0 := by
              have := (List.getElem?_eq_some_iff.1 hi).1
              simp at this; omega
            rw [hi0] at hi
            simp at hi
            subst hi
            refine ⟨by rw [List.getElem?_append_right (by omega), show 2 * i - xs.length = 0 by omega]; rfl, .func (.func gf4) #[] lb4, by rw [List.getElem?_append_right (by omega), show 2 * i + 1 - xs.length = 1 by omega]; rfl, hE5⟩
        have hD6 := hD4.setSteps hF5 hst5 (fun g' hg' => by
          have e' : g = g' := by simpa [Value.ownBlock] using hg'
          subst e'
          exact hat)
        obtain ⟨W6, hW6⟩ : ∃ W6, W5.setCell ⟨b, 3, none⟩ (.slice (some ⟨g, 0, none⟩) (D.steps.length + 1) cap) = W6 := ⟨_, rfl⟩
        rw [hW6] at hD6 ⊢
        have f56 : Frm (One b) W5 W6 := by rw [← hW6]; exact frm_set _ _ _ _
        have hE6 : Each bx4 W6 (.func (.func gf4) #[] lb4) us4 := hE5.frm f56 (fun i hi e => by
          have e' : i = b := e
          subst e'
          exact hD4.off i (by rw [hD4.fp_eq]; simp) hi)
        have hA6 : Box1 W6 w.heap.size 23 (ptr b) := (hA4.frm hF5 (fun e => by have := (HG.out _ e).1; omega)).frm f56 (fun e => by have e' : w.heap.size = b := e; omega)
        have hS6 : W6.heap[w.heap.size + 1]? = some (.cells #[.int .i64 us4.length, .func (.func gf4) #[] lb4] 70 (0, 0)) := f56.obj (hF5.obj hS4 (fun e => by have := (HG.out _ e).1; omega)) (fun e => by have e' : w.heap.size + 1 = b := e; omega)
        have hF6 : Frm (fun i => i ∈ fp) w W6 := (hF4.trans hF5 (fun i hi e => by
          have e' : sv.ownBlock = some i := e
          rw [h.fp_eq, e']; simp)).trans f56 (fun i hi e => by
          have e' : i = b := e
          subst e'
          rw [h.fp_eq]; simp)
        clear hW6 f56 hown5 hst5 hE5 hF5 hE4 hA4 hS4 hD4 hown4 hown hown' hnews hc4 k0 k1 k2 k3 k4 k5 z3 e0 e1 hi hz0 hz1 hz2
        have e1 := cell_of_row _ _ 1 _ _ _ hS6
        have hc6 := cells6 hD6.blk
        have j2 := hc6.h2
        have j5 := hc6.h5
        have cA6 := hA6.cell
        clear dA
        repeat' (first | go_values | go_skip | go_guarded | go_step | go_upon | dsimp only)
        have hl6 : ∀ i, bx4 i → i < W6.heap.size := hD6.bxl
        have hm6 : m < W6.heap.size := hD6.seen.lt
        have hmb : ∀ i, bx4 i → i ≠ m := fun i hi e => by
          subst e
          exact hD6.off i (by simp) hi
        have hmc : ∀ {i c t}, W6.heap[i]? = some (.cells c t (0, 0)) → ¬ One m i := by
          intro i c t h1 e
          have e' : i = m := e
          subst e'
          obtain ⟨es, cl, h2, _⟩ := hD6.seen
          rw [h1] at h2
          cases h2
        have hmA := hmc hA6
        have hmB := hmc hD6.blk
        have hseen0 : (burnD D us.length).seen = D.seen := by unfold burnD; cases D.fuse <;> rfl
        have hfitU : Fits us4 (burnD D us.length).seen := by rw [HU4.out, hseen0]; exact HFit.out
        have hdown : (doD D us).down = (burnD D us.length).down := rfl
        have HFU := Lib.hid hfitU; clear hfitU hseen0
        have HDn := Lib.hid hdown; clear hdown
        refine (wpIn_wide (n := 9)).1 ?_
        refine range_outer (gf := gf4) (lb := lb4) (by rfl) (each_iter hE6 (S := Nil) (fun _ _ h => h) hl6 (Nat.le_refl _)).1 (S := One m) (N := us4.length) (ok := okU bx4 W6.heap.size us4)
          (fun i e => by have e' : i = m := e; omega)
          (fun W1 hfW hsW => (each_iter (hE6.frm hfW (fun _ _ h => h)) (fun i hi hx => by
            have := hl6 i hi
            rcases hx with hx | rfl | rfl
            · exact hmb i hi hx
            · omega
            · omega) (fun i hi => by have := hl6 i hi; omega) (by omega)).2)
          (fun k W => MapV W m Value.string (encF (applyAll (us4.take k) (burnD D us.length).seen)) ∧ Frm (One m) W6 W)
          (fun _ _ _ => False) ?hI ?hIx ?h0 ?hps (fun k xs W a1 W1 => W1 = W ∧ ∃ v, xs = #[v] ∧ a1 = { tmps := #[ptr b, .agg #[.int .i64 us.length, .func (.func gf) #[] lb], ptr w.heap.size, ptr (w.heap.size + 1), .int .i64 0, y5, v, y7, y8, y9, y10, y11, y12, y13, y14, y15, y16, y17, y18, y19, y20, y21, y22, y23, y24, y25, y26, y27, .pointer (some ⟨w.heap.size + 1, 1, none⟩), .func (.func gf4) #[] lb4, v, y31, y32, y33, y34, y35, y36, y37, y38, y39, y40], defers := [] }) ?assign ?body ?done ?stop
        case hI => exact Abid.and (Abid.mapV hm6 _ _) (Abid.frmOf W6 (Nat.le_refl _))
        case hIx => exact fun c k W W' h _ _ _ _ _ => h
        case h0 => exact ⟨hD6.seen, Frm.refl _ _⟩
        case hps =>
          rintro k W xs' ⟨v, u, rfl, _⟩
          rfl
        case assign =>
          rintro l' k W xs' hk ⟨hmk, hfk⟩ hfw ⟨v, u, rfl, hu, hr⟩
          obtain ⟨gf', lb', rfl⟩ := hr.func
          clear hr hmk
          repeat' (first | go_values | gi_big_skip | (with_reducible refine And.intro (fun f _ => wideFn f) ?_) | (with_reducible refine And.intro (fun f _ => wideFnR _ f) ?_) | (with_reducible refine And.intro (wideFnR _ _) ?_) | (with_reducible refine And.intro (wideFn _) ?_) | gi_guarded | gi_step | gi_upon | dsimp only)
          exact ⟨Frm.refl _ _, trivial, _, rfl, rfl⟩
        case body =>
          rintro l' k W xs' a1 W1 W2 hk ⟨hmk, hfk⟩ hfw ⟨v, u, rfl, hu, hr⟩ hfa ⟨rfl, v', hv', rfl⟩ hl' hl'' hf2 ⟨r0, hr0⟩ _
          simp only [Array.mk.injEq, List.cons.injEq, and_true] at hv'
          subst hv'
          have hne : ∀ i, i < W6.heap.size → ¬ One l' i := fun i hi e => by have e' : i = l' := e; omega
          have hf62 : Frm (One m) W6 W2 := hfk.trans hf2 (fun i hi e => (hne i hi e).elim)
          have hA2 := hA6.frm hf62 hmA
          have cA2 := hA2.cell
          have hb2 := hf62.obj hD6.blk hmB
          have j2' := cell_of_row _ _ 2 _ _ _ hb2
          have hm2 : MapV W2 m Value.string (encF (applyAll (us4.take k) (burnD D us.length).seen)) := hmk.frm hf2 (hne m hm6)
          have hr2 := hr.far hf2 (fun i e => by
            have e' : i = l' := e
            subst e'
            exact ⟨_, hr0, rfl⟩)
          obtain ⟨gf', lb', hv, eg, hcall⟩ := unit_call hr2 hm2 (fun n c e => HFU.out k n c (by rw [hu, e]))
          subst hv
          have hcall' := Lib.hid hcall; clear hcall
          have hnext : applyAll (us4.take (k + 1)) (burnD D us.length).seen = u.apply (applyAll (us4.take k) (burnD D us.length).seen) := by
            unfold applyAll
            rw [List.take_add_one, hu]
            simp
          have HNx := Lib.hid hnext; clear hnext
          clear hr hr2 hm2 hmk hb2 hu
          repeat' (first | (refine (CallsIn.inRound l' (callsIn_wide.2 hcall'.out)).mono ?_; rintro e W3 ⟨rfl, hm3, hf3⟩) | go_values | gi_big_skip | (with_reducible refine And.intro (fun f _ => wideFn f) ?_) | (with_reducible refine And.intro (fun f _ => wideFnR _ f) ?_) | (with_reducible refine And.intro (wideFnR _ _) ?_) | (with_reducible refine And.intro (wideFn _) ?_) | gi_guarded | gi_step | gi_upon | dsimp only)
          exact ⟨hf3, by rw [HNx.out]; exact hm3, hf62.tr hf3⟩
        case done =>
          rintro Dd W hDd hfw ⟨hmk, hfk⟩ hdef
          rw [List.take_length] at hmk
          have hD7 := hD6.setSeen hfk hmk
          have hA7 := hA6.frm hfk hmA
          have c7 := cells6 hD7.blk
          have p5 := c7.h5
          have cA7 := hA7.cell
          have hDn' := HDn.out
          have hend : ∀ (a : Act), DoPost w b D fp bx us (.returned (.int .i64 (if (doD D us).down then 70 else 0))) (W.putObj Dd (.deferred none)) := fun _ => by
            have hDd' : W6.heap.size ≤ Dd := hDd
            have hf8 : Frm (One Dd) W (W.putObj Dd (.deferred none)) := frm_put _ _ _
            have hD8 := hD7.frm hf8 (fun i hi e => by
              have e' : i = Dd := e
              have := hD6.lt i hi
              omega) (fun i hi e => by
              have e' : i = Dd := e
              have := hl6 i hi
              omega)
            have hDeq : ({ ({ burnD D us.length with steps := D.steps ++ [us4] } : DS) with seen := applyAll us4 (burnD D us.length).seen } : DS) = doD D us := by
              have hss : (burnD D us.length).seen = D.seen := by unfold burnD; cases D.fuse <;> rfl
              have hu4 := HU4.out
              unfold doD
              rw [hss, ← hu4]
            rw [hDeq] at hD8
            have hw6 := hF6.size
            refine ⟨rfl, _, bx4, ⟨_, _, _, _, _, hD8⟩, (hF6.trans hfk (fun i hi e => by
              have e' : i = m := e
              rw [h.fp_eq, e']; simp)).trans hf8 (fun i hi e => by
              have e' : i = Dd := e
              omega), fun i hi => ?_, hbx4⟩
            simp only [List.mem_cons, List.mem_append, Option.mem_toList] at hi
            rcases hi with rfl | rfl | rfl | hi | hi
            · exact .inl (by rw [h.fp_eq]; simp)
            · exact .inl (by rw [h.fp_eq]; simp)
            · exact .inl (by rw [h.fp_eq]; simp)
            · have hi' : g = i := by simpa [Value.ownBlock] using hi
              subst hi'
              rcases hat with h1 | h1
              · exact .inl (by rw [h.fp_eq, h1]; simp)
              · exact .inr (by omega)
            · exact .inl (by rw [h.fp_eq]; simp [hi])
          by_cases hdn : (burnD D us.length).down = true
          · rw [hdn] at p5 hDn'
            rw [hDn'] at hend
            repeat' (first | go_values | go_skip | go_guarded | go_step | go_upon | dsimp only)
            refine ⟨by simp, .inl ⟨_, _, rfl, run_takeDeferred hdef, ?_⟩⟩
            refine ⟨_, results_tmp rfl _ _ _, ?_⟩
            exact hend { tmps := #[], defers := [] }
          · rw [Bool.not_eq_true] at hdn
            rw [hdn] at p5 hDn'
            rw [hDn'] at hend
            repeat' (first | go_values | go_skip | go_guarded | go_step | go_upon | dsimp only)
            refine ⟨by simp, .inl ⟨_, _, rfl, run_takeDeferred hdef, ?_⟩⟩
            refine ⟨_, results_tmp rfl _ _ _, ?_⟩
            exact hend { tmps := #[], defers := [] }
        case stop =>
          rintro Dd c k W hDd hk0 hkN hfw hx hdef
          exact hx.elim
      | _ => exact hq.elim
  · have t1 : decide ((n : Int) < (us.length : Int)) = false := by simp; omega
    repeat' (first | (go_at_call 36; refine hb.out.mono ?_; rintro e W4 ⟨rfl, hD1, hF1⟩; have hA4 := hA0.frm hF1 NA.out; have hS1 := hF1.obj hS0 NS.out; have dA := hA4.cell; have dS0 := cell_of_row _ _ 0 _ _ _ hS1; have dS1 := cell_of_row _ _ 1 _ _ _ hS1; rw [HN.out]; clear cA cS0 cS1) | go_values | go_skip | go_guarded | go_step | go_upon | dsimp only)
    obtain rfl : n = us.length := by omega
    have hus : stepN D us = us := by unfold stepN; rw [HN.out]; simp
    obtain ⟨ev4, us4, gf4, lb4, bx4, hev4, hS4, hD4, hE4, hF4, hbx4, hus4⟩ : ∃ ev4 us4 gf4 lb4 bx4, ev4 = Value.func (.func gf4) #[] lb4 ∧ W4.heap[w.heap.size + 1]? = some (.cells #[.int .i64 (us4 : List U).length, ev4] 70 (0, 0)) ∧ DRep W4 b (burnD D us.length) fp bx4 s m sv fa fl ∧
        Each bx4 W4 ev4 us4 ∧ Frm (fun i => i ∈ fp) w W4 ∧ (∀ i, bx4 i → bx i ∨ w.heap.size ≤ i) ∧ us4 = stepN D us :=
      ⟨_, us, gf, lb, bx, rfl, hS1, hD1, ((HEE.out.frm HF0.out (fun _ _ h => h)).frm hF1 (fun i hi hx => by
        rcases hx with rfl | hx
        · exact h.off i (by rw [h.fp_eq]; simp) hi
        · exact h.off i (by rw [h.fp_eq]; simp [hx]) hi)), (HF0.out.nil.trans hF1 (fun i _ hx => by
        rcases hx with rfl | hx
        · rw [h.fp_eq]; simp
        · rw [h.fp_eq]; simp [hx])), fun i hi => .inl hi, hus.symm⟩
    clear hS1 dS0 dS1 hD1 hF1 hus
    subst hev4
    have HU4 := Lib.hid hus4; clear hus4
    have hc4 := cells6 hD4.blk
    have k0 := hc4.h0; have k1 := hc4.h1; have k2 := hc4.h2; have k3 := hc4.h3; have k4 := hc4.h4; have k5 := hc4.h5
    have z3 := frozen_of_row _ _ 3 _ _ hD4.blk
    have e0 := cell_of_row _ _ 0 _ _ _ hS4
    have e1 := cell_of_row _ _ 1 _ _ _ hS4
    obtain ⟨xs, hown, hxs⟩ := hD4.steps
    have HX := Lib.hid hxs; clear hxs
    have hsl : (burnD D us.length).steps = D.steps := by unfold burnD; cases D.fuse <;> rfl
    rw [hsl] at hown
    have HSL := Lib.hid hsl; clear hsl
    obtain ⟨i0, hi, hz0, hz1, hz2⟩ := info_parts info70
    have hown' := (hown.alloc (.cells #[.int .i64 (us4.length : Int), .func (.func gf4) #[] lb4] 70))
    have hnews : ∀ j u, [Value.int .i64 (us4.length : Int), .func (.func gf4) #[] lb4][j]? = some u → (W4.alloc (.cells #[.int .i64 (us4.length : Int), .func (.func gf4) #[] lb4] 70)).cell? ((⟨W4.heap.size, 0, none⟩ : Addr).add j) = some u := cell_two_new _ _ _ _
    have hgb : ∀ g, sv.ownBlock = some g → g < w.heap.size ∧ g ≠ b := fun g hg => ⟨h.lt g (by rw [h.fp_eq, hg]; simp), by
      rintro rfl
      rcases hown.2 with ⟨h1, _⟩ | ⟨g', cap, cur, h1, _, h2, _⟩
      · rw [h1] at hg; cases hg
      · rw [h1] at hg
        injection hg with hg
        subst hg
        rw [hD4.blk] at h2
        cases h2⟩
    have hW4s : w.heap.size + 2 ≤ W4.heap.size := by have := lt_of_obj hS4; omega
    have hkeep : ∀ W5, (W4.alloc (.cells #[.int .i64 (us4.length : Int), .func (.func gf4) #[] lb4] 70)).drew.grownBy W5 sv.ownBlock →
        W5.cell? ⟨w.heap.size, 0, none⟩ = some (ptr b) ∧ W5.cell? ⟨b, 3, none⟩ = some sv ∧ W5.cell? ⟨w.heap.size + 1, 0, none⟩ = some (.int .i64 us4.length) ∧ W5.cell? ⟨w.heap.size + 1, 1, none⟩ = some (.func (.func gf4) #[] lb4) ∧ W5.frozen? ⟨b, 3, none⟩ = false := fun W5 hg => by
      have hcell : ∀ i o v, w.heap.size + 2 ≤ W4.heap.size → W4.cell? ⟨i, o, none⟩ = some v → sv.ownBlock ≠ some i → W5.cell? ⟨i, o, none⟩ = some v := fun i o v hsz hc hne => by
        have hlt := World.block_lt_of_cell? _ _ hc
        have h1 : (W4.alloc (.cells #[.int .i64 (us4.length : Int), .func (.func gf4) #[] lb4] 70)).drew.cell? ⟨i, o, none⟩ = some v := (World.cell?_alloc_lt W4 _ ⟨i, o, none⟩ hlt).trans hc
        exact hg.cell h1 (fun e => hne e.symm)
      exact ⟨hcell _ _ _ hW4s dA (fun e => by have := (hgb _ e).1; omega), hcell _ _ _ hW4s k3 (fun e => (hgb _ e).2 rfl), hcell _ _ _ hW4s e0 (fun e => by have := (hgb _ e).1; omega), hcell _ _ _ hW4s e1 (fun e => by have := (hgb _ e).1; omega), (World.frozen?_of_block (w := (W4.alloc (.cells #[.int .i64 (us4.length : Int), .func (.func gf4) #[] lb4] 70)).drew) (a := ⟨b, 3, none⟩) (hg.block b (by simp; omega) (fun e => (hgb _ e.symm).2 rfl))).trans ((World.frozen?_of_block (w := W4) (a := ⟨b, 3, none⟩) (Below.heap_alloc W4 _ b (by omega))).trans z3)⟩
    have HK := Lib.hid hkeep; clear hkeep
    have l1 : b < W4.heap.size := by omega
    have l2 : w.heap.size < W4.heap.size := by omega
    have l3 : w.heap.size + 1 < W4.heap.size := by omega
    have HG := Lib.hid hgb; clear hgb
    refine Code.wp_mono (Q := fun e a' w' => match e with
      | .normal => ∃ (g cap : Nat) (W5 : World), w' = W5.setCell ⟨b, 3, none⟩ (.slice (some ⟨g, 0, none⟩) (D.steps.length + 1) cap) ∧ W5.ownsRow 0 70 2 (.slice (some ⟨g, 0, none⟩) (D.steps.length + 1) cap) (D.steps.length + 1) (xs ++ [.int .i64 us4.length, .func (.func gf4) #[] lb4]) ∧
          Frm (fun i => sv.ownBlock = some i) W4 W5 ∧ (sv.ownBlock = some g ∨ W4.heap.size ≤ g) ∧ ∃ y5 y6 y7 y8 y9 y10 y11 y12 y13 y14 y15 y16 y17 y18 y19 y20 y21 y22 y23 y24 y25 y26 y27 y28 y29 y30 y31 y32 y33 y34 y35 y36 y37 y38 y39 y40 : Value, a' = { tmps := #[ptr b, .agg #[.int .i64 us.length, .func (.func gf) #[] lb], ptr w.heap.size, ptr (w.heap.size + 1), .int .i64 0, y5, y6, y7, y8, y9, y10, y11, y12, y13, y14, y15, y16, y17, y18, y19, y20, y21, y22, y23, y24, y25, y26, y27, y28, y29, y30, y31, y32, y33, y34, y35, y36, y37, y38, y39, y40], defers := [] }
      | _ => False) (fun e a' w' hq => ?_) ?_
    case refine_2 =>
      obtain ⟨g, cap, W5, happ, hown5, hgrow, hat, hlt5⟩ := run_append_lies (P := Try.prog) (w := (W4.alloc (.cells #[.int .i64 (us4.length : Int), .func (.func gf4) #[] lb4] 70)).drew) 44 44 0 70 i0 (.agg #[.int .i64 0, .nilFunc]) 2 16 Try.underlying44 hi hz0 hz1 hz2 rfl (by decide) sv D.steps.length xs hown' ⟨W4.heap.size, 0, none⟩ 1 1 [.int .i64 us4.length, .func (.func gf4) #[] lb4] rfl hnews (by simp [Value.oneCell']) (by omega) (by unfold maxLen; omega) (by omega) (Nat.zero_le _) (W4.heap.size + 1) (by simp)
      obtain ⟨q1, q2, q3, q4, q5⟩ := HK.out _ hgrow
      have HO5 := Lib.hid hown5; clear hown5
      have HGr := Lib.hid hgrow; clear hgrow
      clear hi hz0 hz1 hz2
      rw [hide_app] at happ
      have HZ := Lib.hid (And.intro hat hlt5); clear hat hlt5
      clear hD4 hE4 hF4 hbx4 HU4 HG HX HSL hown hown' hnews hS4 hA4 hc4 k0 k1 k2 k4 k5 hW4s h hS0 hA0 hb hbl hlen hst hlt t1 hnle HN HFit HPl HEE HFL NA NS HF0 s0 hw0
      go_region
      refine ⟨g, cap, W5, rfl, HO5.out, ?_, ?_, _, _, _, _, _, _, _, _, _, _, _, _, _, _, _, _, _, _, _, _, _, _, _, _, _, _, _, _, _, _, _, _, _, _, _, _, rfl⟩
      · have hg := HGr.out
        exact ⟨hg.os, hg.tape, hg.output, by have := hg.size; simp at this; omega, fun i hi hn => (hg.block i (by simp; omega) (fun e => hn e.symm)).trans (Below.heap_alloc W4 _ i hi)⟩
      · exact HZ.out.1.imp id (fun e => by omega)
    case refine_1 =>
      cases e with
      | normal =>
        obtain ⟨g, cap, W5, rfl, hown5, hF5, hat, y5, y6, y7, y8, y9, y10, y11, y12, y13, y14, y15, y16, y17, y18, y19, y20, y21, y22, y23, y24, y25, y26, y27, y28, y29, y30, y31, y32, y33, y34, y35, y36, y37, y38, y39, y40, rfl⟩ := hq
        have hown4 := hown
        have hE5 : Each bx4 W5 (.func (.func gf4) #[] lb4) us4 := hE4.frm hF5 (fun i hi e => by
          have e' : sv.ownBlock = some i := e
          exact hD4.off i (by rw [hD4.fp_eq, e']; simp) hi)
        have hst5 : Steps bx4 W5 (.slice (some ⟨g, 0, none⟩) (D.steps.length + 1) cap) (D.steps ++ [us4]) := by
          refine ⟨xs ++ [.int .i64 us4.length, .func (.func gf4) #[] lb4], by rw [List.length_append, List.length_singleton]; exact hown5, fun i us' hi => ?_⟩
          have hxl : xs.length = D.steps.length * 2 := hown4.1
          by_cases hlt' : i < D.steps.length
          · rw [List.getElem?_append_left hlt'] at hi
            obtain ⟨h3, v, h4, h5⟩ := HX.out i us' (by rw [HSL.out]; exact hi)
            refine ⟨by rw [List.getElem?_append_left (by omega)]; exact h3, v, by rw [List.getElem?_append_left (by omega)]; exact h4, h5.frm hF5 (fun j hj e => by
              have e' : sv.ownBlock = some j := e
              exact hD4.off j (by rw [hD4.fp_eq, e']; simp) hj)⟩
          · rw [List.getElem?_append_right (by omega)] at hi
            have hi0 : i - D.steps.length = 0 := by
              have := (List.getElem?_eq_some_iff.1 hi).1
              simp at this; omega
            rw [hi0] at hi
            simp at hi
            subst hi
            refine ⟨by rw [List.getElem?_append_right (by omega), show 2 * i - xs.length = 0 by omega]; rfl, .func (.func gf4) #[] lb4, by rw [List.getElem?_append_right (by omega), show 2 * i + 1 - xs.length = 1 by omega]; rfl, hE5⟩
        have hD6 := hD4.setSteps hF5 hst5 (fun g' hg' => by
          have e' : g = g' := by simpa [Value.ownBlock] using hg'
          subst e'
          exact hat)
        obtain ⟨W6, hW6⟩ : ∃ W6, W5.setCell ⟨b, 3, none⟩ (.slice (some ⟨g, 0, none⟩) (D.steps.length + 1) cap) = W6 := ⟨_, rfl⟩
        rw [hW6] at hD6 ⊢
        have f56 : Frm (One b) W5 W6 := by rw [← hW6]; exact frm_set _ _ _ _
        have hE6 : Each bx4 W6 (.func (.func gf4) #[] lb4) us4 := hE5.frm f56 (fun i hi e => by
          have e' : i = b := e
          subst e'
          exact hD4.off i (by rw [hD4.fp_eq]; simp) hi)
        have hA6 : Box1 W6 w.heap.size 23 (ptr b) := (hA4.frm hF5 (fun e => by have := (HG.out _ e).1; omega)).frm f56 (fun e => by have e' : w.heap.size = b := e; omega)
        have hS6 : W6.heap[w.heap.size + 1]? = some (.cells #[.int .i64 us4.length, .func (.func gf4) #[] lb4] 70 (0, 0)) := f56.obj (hF5.obj hS4 (fun e => by have := (HG.out _ e).1; omega)) (fun e => by have e' : w.heap.size + 1 = b := e; omega)
        have hF6 : Frm (fun i => i ∈ fp) w W6 := (hF4.trans hF5 (fun i hi e => by
          have e' : sv.ownBlock = some i := e
          rw [h.fp_eq, e']; simp)).trans f56 (fun i hi e => by
          have e' : i = b := e
          subst e'
          rw [h.fp_eq]; simp)
        clear hW6 f56 hown5 hst5 hE5 hF5 hE4 hA4 hS4 hD4 hown4 hown hown' hnews hc4 k0 k1 k2 k3 k4 k5 z3 e0 e1 hi hz0 hz1 hz2
        have e1 := cell_of_row _ _ 1 _ _ _ hS6
        have hc6 := cells6 hD6.blk
        have j2 := hc6.h2
        have j5 := hc6.h5
        have cA6 := hA6.cell
        clear dA
        repeat' (first | go_values | go_skip | go_guarded | go_step | go_upon | dsimp only)
        have hl6 : ∀ i, bx4 i → i < W6.heap.size := hD6.bxl
        have hm6 : m < W6.heap.size := hD6.seen.lt
        have hmb : ∀ i, bx4 i → i ≠ m := fun i hi e => by
          subst e
          exact hD6.off i (by simp) hi
        have hmc : ∀ {i c t}, W6.heap[i]? = some (.cells c t (0, 0)) → ¬ One m i := by
          intro i c t h1 e
          have e' : i = m := e
          subst e'
          obtain ⟨es, cl, h2, _⟩ := hD6.seen
          rw [h1] at h2
          cases h2
        have hmA := hmc hA6
        have hmB := hmc hD6.blk
        have hseen0 : (burnD D us.length).seen = D.seen := by unfold burnD; cases D.fuse <;> rfl
        have hfitU : Fits us4 (burnD D us.length).seen := by rw [HU4.out, hseen0]; exact HFit.out
        have hdown : (doD D us).down = (burnD D us.length).down := rfl
        have HFU := Lib.hid hfitU; clear hfitU hseen0
        have HDn := Lib.hid hdown; clear hdown
        refine (wpIn_wide (n := 9)).1 ?_
        refine range_outer (gf := gf4) (lb := lb4) (by rfl) (each_iter hE6 (S := Nil) (fun _ _ h => h) hl6 (Nat.le_refl _)).1 (S := One m) (N := us4.length) (ok := okU bx4 W6.heap.size us4)
          (fun i e => by have e' : i = m := e; omega)
          (fun W1 hfW hsW => (each_iter (hE6.frm hfW (fun _ _ h => h)) (fun i hi hx => by
            have := hl6 i hi
            rcases hx with hx | rfl | rfl
            · exact hmb i hi hx
            · omega
            · omega) (fun i hi => by have := hl6 i hi; omega) (by omega)).2)
          (fun k W => MapV W m Value.string (encF (applyAll (us4.take k) (burnD D us.length).seen)) ∧ Frm (One m) W6 W)
          (fun _ _ _ => False) ?hI ?hIx ?h0 ?hps (fun k xs W a1 W1 => W1 = W ∧ ∃ v, xs = #[v] ∧ a1 = { tmps := #[ptr b, .agg #[.int .i64 us.length, .func (.func gf) #[] lb], ptr w.heap.size, ptr (w.heap.size + 1), .int .i64 0, y5, v, y7, y8, y9, y10, y11, y12, y13, y14, y15, y16, y17, y18, y19, y20, y21, y22, y23, y24, y25, y26, y27, .pointer (some ⟨w.heap.size + 1, 1, none⟩), .func (.func gf4) #[] lb4, v, y31, y32, y33, y34, y35, y36, y37, y38, y39, y40], defers := [] }) ?assign ?body ?done ?stop
        case hI => exact Abid.and (Abid.mapV hm6 _ _) (Abid.frmOf W6 (Nat.le_refl _))
        case hIx => exact fun c k W W' h _ _ _ _ _ => h
        case h0 => exact ⟨hD6.seen, Frm.refl _ _⟩
        case hps =>
          rintro k W xs' ⟨v, u, rfl, _⟩
          rfl
        case assign =>
          rintro l' k W xs' hk ⟨hmk, hfk⟩ hfw ⟨v, u, rfl, hu, hr⟩
          obtain ⟨gf', lb', rfl⟩ := hr.func
          clear hr hmk
          repeat' (first | go_values | gi_big_skip | (with_reducible refine And.intro (fun f _ => wideFn f) ?_) | (with_reducible refine And.intro (fun f _ => wideFnR _ f) ?_) | (with_reducible refine And.intro (wideFnR _ _) ?_) | (with_reducible refine And.intro (wideFn _) ?_) | gi_guarded | gi_step | gi_upon | dsimp only)
          exact ⟨Frm.refl _ _, trivial, _, rfl, rfl⟩
        case body =>
          rintro l' k W xs' a1 W1 W2 hk ⟨hmk, hfk⟩ hfw ⟨v, u, rfl, hu, hr⟩ hfa ⟨rfl, v', hv', rfl⟩ hl' hl'' hf2 ⟨r0, hr0⟩ _
          simp only [Array.mk.injEq, List.cons.injEq, and_true] at hv'
          subst hv'
          have hne : ∀ i, i < W6.heap.size → ¬ One l' i := fun i hi e => by have e' : i = l' := e; omega
          have hf62 : Frm (One m) W6 W2 := hfk.trans hf2 (fun i hi e => (hne i hi e).elim)
          have hA2 := hA6.frm hf62 hmA
          have cA2 := hA2.cell
          have hb2 := hf62.obj hD6.blk hmB
          have j2' := cell_of_row _ _ 2 _ _ _ hb2
          have hm2 : MapV W2 m Value.string (encF (applyAll (us4.take k) (burnD D us.length).seen)) := hmk.frm hf2 (hne m hm6)
          have hr2 := hr.far hf2 (fun i e => by
            have e' : i = l' := e
            subst e'
            exact ⟨_, hr0, rfl⟩)
          obtain ⟨gf', lb', hv, eg, hcall⟩ := unit_call hr2 hm2 (fun n c e => HFU.out k n c (by rw [hu, e]))
          subst hv
          have hcall' := Lib.hid hcall; clear hcall
          have hnext : applyAll (us4.take (k + 1)) (burnD D us.length).seen = u.apply (applyAll (us4.take k) (burnD D us.length).seen) := by
            unfold applyAll
            rw [List.take_add_one, hu]
            simp
          have HNx := Lib.hid hnext; clear hnext
          clear hr hr2 hm2 hmk hb2 hu
          repeat' (first | (refine (CallsIn.inRound l' (callsIn_wide.2 hcall'.out)).mono ?_; rintro e W3 ⟨rfl, hm3, hf3⟩) | go_values | gi_big_skip | (with_reducible refine And.intro (fun f _ => wideFn f) ?_) | (with_reducible refine And.intro (fun f _ => wideFnR _ f) ?_) | (with_reducible refine And.intro (wideFnR _ _) ?_) | (with_reducible refine And.intro (wideFn _) ?_) | gi_guarded | gi_step | gi_upon | dsimp only)
          exact ⟨hf3, by rw [HNx.out]; exact hm3, hf62.tr hf3⟩
        case done =>
          rintro Dd W hDd hfw ⟨hmk, hfk⟩ hdef
          rw [List.take_length] at hmk
          have hD7 := hD6.setSeen hfk hmk
          have hA7 := hA6.frm hfk hmA
          have c7 := cells6 hD7.blk
          have p5 := c7.h5
          have cA7 := hA7.cell
          have hDn' := HDn.out
          have hend : ∀ (a : Act), DoPost w b D fp bx us (.returned (.int .i64 (if (doD D us).down then 70 else 0))) (W.putObj Dd (.deferred none)) := fun _ => by
            have hDd' : W6.heap.size ≤ Dd := hDd
            have hf8 : Frm (One Dd) W (W.putObj Dd (.deferred none)) := frm_put _ _ _
            have hD8 := hD7.frm hf8 (fun i hi e => by
              have e' : i = Dd := e
              have := hD6.lt i hi
              omega) (fun i hi e => by
              have e' : i = Dd := e
              have := hl6 i hi
              omega)
            have hDeq : ({ ({ burnD D us.length with steps := D.steps ++ [us4] } : DS) with seen := applyAll us4 (burnD D us.length).seen } : DS) = doD D us := by
              have hss : (burnD D us.length).seen = D.seen := by unfold burnD; cases D.fuse <;> rfl
              have hu4 := HU4.out
              unfold doD
              rw [hss, ← hu4]
            rw [hDeq] at hD8
            have hw6 := hF6.size
            refine ⟨rfl, _, bx4, ⟨_, _, _, _, _, hD8⟩, (hF6.trans hfk (fun i hi e => by
              have e' : i = m := e
              rw [h.fp_eq, e']; simp)).trans hf8 (fun i hi e => by
              have e' : i = Dd := e
              omega), fun i hi => ?_, hbx4⟩
            simp only [List.mem_cons, List.mem_append, Option.mem_toList] at hi
            rcases hi with rfl | rfl | rfl | hi | hi
            · exact .inl (by rw [h.fp_eq]; simp)
            · exact .inl (by rw [h.fp_eq]; simp)
            · exact .inl (by rw [h.fp_eq]; simp)
            · have hi' : g = i := by simpa [Value.ownBlock] using hi
              subst hi'
              rcases hat with h1 | h1
              · exact .inl (by rw [h.fp_eq, h1]; simp)
              · exact .inr (by omega)
            · exact .inl (by rw [h.fp_eq]; simp [hi])
          by_cases hdn : (burnD D us.length).down = true
          · rw [hdn] at p5 hDn'
            rw [hDn'] at hend
            repeat' (first | go_values | go_skip | go_guarded | go_step | go_upon | dsimp only)
            refine ⟨by simp, .inl ⟨_, _, rfl, run_takeDeferred hdef, ?_⟩⟩
            refine ⟨_, results_tmp rfl _ _ _, ?_⟩
            exact hend { tmps := #[], defers := [] }
          · rw [Bool.not_eq_true] at hdn
            rw [hdn] at p5 hDn'
            rw [hDn'] at hend
            repeat' (first | go_values | go_skip | go_guarded | go_step | go_upon | dsimp only)
            refine ⟨by simp, .inl ⟨_, _, rfl, run_takeDeferred hdef, ?_⟩⟩
            refine ⟨_, results_tmp rfl _ _ _, ?_⟩
            exact hend { tmps := #[], defers := [] }
        case stop =>
          rintro Dd c k W hDd hk0 hkN hfw hx hdef
          exact hx.elim
      | _ => exact hq.elim
end Go.Proofs.Ytlnelokpaccanaa
