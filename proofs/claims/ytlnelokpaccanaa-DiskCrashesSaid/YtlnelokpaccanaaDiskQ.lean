/- Crash. -/
import Derived.Test.YtlnelokpaccanaaDiskP
namespace Go.Proofs.Ytlnelokpaccanaa
open Go Go.RowKit Go.Tr
attribute [local go_sem] Oper.semAt_some
set_option linter.unusedVariables false

def crashX (D : DS) (k : Int) : Files := applyAll (D.steps.flatten.take k.toNat) D.syn
def crashD (D : DS) (k : Int) : DS := if k < 0 then D else { D with syn := crashX D k, seen := crashX D k, steps := [], fuse := none, down := false }
def crashE (k : Int) : Int := if k < 0 then 2 else 0
/-- Behind the loop: the disk's three cells are set. -/
theorem DRep.reset {W : World} {b : Nat} {D : DS} {fp : List Nat} {bx : Nat → Prop} {s m : Nat} {sv fa : Value} {fl : List Nat} (h : DRep W b D fp bx s m sv fa fl) {mc : Nat} {X : Files} (hm : MapV W mc Value.string (encF X)) (hmb : ¬ bx mc) (hms : mc ≠ s) :
    DRep (((W.setCell ⟨b, 2, none⟩ (.map (some mc))).setCell ⟨b, 4, none⟩ (.pointer none)).setCell ⟨b, 5, none⟩ (.bool false)) b { D with seen := X, fuse := none, down := false } (b :: s :: mc :: (sv.ownBlock.toList ++ [])) bx s mc sv (.pointer none) [] := by
  have f : Frm (One b) W (((W.setCell ⟨b, 2, none⟩ (.map (some mc))).setCell ⟨b, 4, none⟩ (.pointer none)).setCell ⟨b, 5, none⟩ (.bool false)) := ((frm_set _ _ _ _).tr (frm_set _ _ _ _)).tr (frm_set _ _ _ _)
  obtain ⟨n1, n2, n3, n4, n5⟩ := h.off_b
  have hmcb : ¬ One b mc := fun e => by
    have e' : mc = b := e
    subst e'
    obtain ⟨es, cl, h2, _⟩ := hm
    rw [h.blk] at h2
    cases h2
  refine ⟨?_, h.syn.frm f n1, hm.frm f hmcb, fun e => hms e.symm, h.steps.frm f n3 n5, ⟨rfl, rfl⟩, rfl, ?_, ?_⟩
  · have := heap_set (.bool false) (i := 5) (heap_set (.pointer none) (i := 4) (heap_set (.map (some mc)) (i := 2) h.blk))
    simpa using this
  · intro i hi hx
    simp only [List.mem_cons, List.mem_append, Option.mem_toList, List.not_mem_nil, or_false] at hi
    rcases hi with rfl | rfl | rfl | hi
    · exact h.off i (by rw [h.fp_eq]; simp) hx
    · exact h.off i (by rw [h.fp_eq]; simp) hx
    · exact hmb hx
    · exact h.off i (by rw [h.fp_eq, hi]; simp) hx
  · intro i hx
    have := h.bxl i hx
    have := f.size
    omega
theorem unitsfn_call (b : Nat) (W : World) : Calls Try.prog 29 #[ptr b] W fun e w' => e = .returned (.func (.func 51) #[] #[ptr W.heap.size]) ∧ w' = W.alloc (.cells #[ptr b] 23) := by
  go_enter Try.func29, Try.ntmps29
  repeat' (first | go_values | go_skip | go_guarded | go_step | go_upon | dsimp only)
  go_ret
  exact ⟨rfl, rfl⟩
set_option maxRecDepth 100000 in
set_option maxHeartbeats 4000000 in
theorem crash_call {w : World} {b : Nat} {D : DS} {fp : List Nat} {bx : Nat → Prop} (h : Disk w b D fp bx) (k : Int) (hk : k ≤ 9223372036854775807) (hst : D.steps.length ≤ 1000000000) (hfit : Fits D.steps.flatten D.syn) :
    Calls Try.prog 8 #[ptr b, .int .i64 k] w (OpPost w b fp bx (crashD D k) (.int .i64 (crashE k))) := by
  obtain ⟨s, m, sv, fa, fl, h⟩ := h
  have hE : crashE k = if k < 0 then 2 else 0 := rfl
  have hDD : crashD D k = if k < 0 then D else { D with syn := crashX D k, seen := crashX D k, steps := [], fuse := none, down := false } := rfl
  have HE := Lib.hid hE; clear hE
  have HD := Lib.hid hDD; clear hDD
  obtain ⟨w0, hw0⟩ : ∃ w0, w.alloc (.cells #[.int .i64 k] 3) = w0 := ⟨_, rfl⟩
  have f0 : Frm Nil w w0 := by rw [← hw0]; exact (Frm.refl _ w).alloc _
  have hB0 : Box1 w0 w.heap.size 3 (.int .i64 k) := by rw [← hw0]; exact World.alloc_heap_new w _
  have h0 := h.frm f0 (fun _ _ h => h) (fun _ _ h => h)
  have c6 := cells6 h0.blk
  have k1 := c6.h1
  have k2 := c6.h2
  have cB := hB0.cell
  clear c6
  have H := Lib.hid h; clear h
  have H0 := Lib.hid h0; clear h0
  have F0 := Lib.hid f0; clear f0
  have HFit := Lib.hid hfit; clear hfit
  refine (callsIn_wide (n := 9)).1 (callsIn_of_wp_marks Try.func8 rfl trivial (wpIn_wide.2 ?_))
  simp only [Try.ntmps8, List.size_toArray, List.length_cons, List.length_nil, Nat.reduceAdd, Nat.reduceSub, Array.replicate_succ, Array.replicate_zero, List.push_toArray, List.append_toArray, List.nil_append, List.cons_append]
  refine wp_hide (fun _ _ => ?_)
  by_cases hkn : k < 0
  · have t1 : decide (k < 0) = true := by simpa using hkn
    rw [if_pos hkn] at HE HD
    repeat' (first | (go_at_call 27; refine (none_no _ m _ k2).mono ?_; rintro e w' ⟨rfl, rfl⟩) | go_values | go_skip | go_guarded | go_step | go_upon | dsimp only)
    refine ⟨_, results_tmp rfl _ _ _, ?_⟩
    rw [HE.out, HD.out]
    exact OpPost.same ⟨s, m, sv, fa, fl, H0.out⟩ F0.out.nil _
  · have t1 : decide (k < 0) = false := by simpa using hkn
    rw [if_neg hkn] at HE HD
    repeat' (first | (go_at_call 27; refine (none_no _ m _ k2).mono ?_; rintro e w' ⟨rfl, rfl⟩) | (go_at_call 28; refine (clone_call H0.out.syn).mono ?_; rintro e w2 ⟨rfl, ⟨o, hw2⟩, hM2⟩) | (go_at_call 29; refine (unitsfn_call b _).mono ?_; rintro e w3 ⟨rfl, hw3⟩) | go_values | go_skip | go_guarded | go_step | go_upon | dsimp only)
    have f3 : Frm Nil w0 w3 := by rw [hw3]; exact (((Frm.refl _ _).alloc _).alloc _).alloc _
    have s3 : w0.heap.size + 2 < w3.heap.size := by rw [hw3]; simp
    have m3 : MapV w3 w0.heap.size Value.string (encF D.syn) := by
      rw [hw3, ← hw2]
      exact hM2.frm (S := Nil) (((Frm.refl _ _).alloc _).alloc _) (fun h => h)
    have t3 : Box1 w3 (w0.heap.size + 1) 43 (.map (some w0.heap.size)) := by
      rw [hw3]
      have := World.alloc_heap_new (w0.alloc o) (.cells #[.map (some w0.heap.size)] 43)
      rw [World.size_alloc] at this
      exact (Below.heap_alloc _ _ _ (by simp)).trans this
    have u3 : Box1 w3 (w0.heap.size + 2) 23 (ptr b) := by
      rw [hw3]
      have := World.alloc_heap_new ((w0.alloc o).alloc (.cells #[.map (some w0.heap.size)] 43)) (.cells #[ptr b] 23)
      rw [World.size_alloc, World.size_alloc] at this
      exact this
    clear hw3 hw2 hM2
    have hD3 := H0.out.frm f3 (fun _ _ h => h) (fun _ _ h => h)
    have b3 := hB0.frm f3 (fun h => h)
    have hsw : w.heap.size < w0.heap.size := by rw [← hw0]; simp
    have hltw := H.out.lt
    have hbxw := H.out.bxl
    rw [show ((w0.alloc o).alloc (Obj.cells #[Value.map (some w0.heap.size)] 43)).heap.size = w0.heap.size + 2 by simp]
    have hc3 := (cells6 hD3.blk).h3
    have hfz : ∀ i, (i = w0.heap.size ∨ i = w.heap.size) → i < w3.heap.size := fun i hi => by omega
    have hgo : ∀ g, sv.ownBlock = some g → g < w.heap.size := fun g hg => hltw g (by rw [H.out.fp_eq, hg]; simp)
    have hki : ∀ j : Nat, j < D.steps.flatten.length → True := fun _ _ => trivial
    have HG := Lib.hid hgo; clear hgo hki
    have HL := Lib.hid hltw; clear hltw
    have HB := Lib.hid hbxw; clear hbxw
    have HD3 := Lib.hid hD3; clear hD3
    clear k1 k2 cB hB0 hw0
    refine (wpIn_wide (n := 9)).1 ?_
    refine range_outer (gf := 51) (lb := #[ptr (w0.heap.size + 2)]) (by rfl) (enters_of Try.func51 (by kernel_rfl) rfl) (S := fun i => i = w0.heap.size ∨ i = w.heap.size) (N := D.steps.flatten.length) (ok := okU bx w3.heap.size D.steps.flatten)
      hfz
      (fun W1 hfW hsW => (units_iter (bx := bx) (u3.frm hfW (fun h => h)) (hfW.cellN hc3) (HD3.out.steps.frm hfW (fun _ _ h => h) (fun _ _ h => h)) (fun g hg hx => by
        have := HG.out g hg
        rcases hx with (hx | hx) | hx | hx <;> omega) (fun i hi hx => by
        have := HB.out i hi
        rcases hx with (hx | hx) | hx | hx <;> omega) (fun i hi => by have := HB.out i hi; omega)).mono (fun _ _ _ h => okU_mono (by omega) h))
      (fun j W => (j : Int) ≤ k ∧ MapV W w0.heap.size Value.string (encF (applyAll (D.steps.flatten.take j) D.syn)) ∧ Box1 W w.heap.size 3 (.int .i64 (k - j)) ∧ Frm (fun i => i = w0.heap.size ∨ i = w.heap.size) w3 W)
      (fun c j W => (c = .exit 1 ∧ (j : Int) = k + 1) ∧ MapV W w0.heap.size Value.string (encF (applyAll (D.steps.flatten.take (j - 1)) D.syn)) ∧ Frm (fun i => i = w0.heap.size ∨ i = w.heap.size) w3 W)
      ?hI ?hIx ?h0 ?hps (fun j xs W a1 W1 => W1 = W ∧ ∃ v, xs = #[v] ∧ a1 = { tmps := #[ptr b, .int .i64 k, undef, ptr w.heap.size, .int .i64 0, ptr (w0.heap.size + 1), v, .bool false, ptr b, .bool false, .bool false, .int .i64 k, .bool false, ptr b, .pointer (some ⟨b, 0, none⟩), .pointer (some ⟨b, 1, none⟩), .map (some s), .map (some w0.heap.size), ptr b, .func (.func 51) #[] #[ptr (w0.heap.size + 2)], v, undef, undef, undef, undef, undef, undef, undef, undef, undef, undef, undef, undef, undef, undef, undef, undef, undef, undef, undef], defers := [] }) ?assign ?body ?done ?stop
    case hI => exact Abid.and (Abid.pure _ _) (Abid.and (Abid.mapV (by omega) _ _) (Abid.and (Abid.objOf (by omega) _) (Abid.frmOf w3 (Nat.le_refl _))))
    case hIx => exact fun c => Abid.and (Abid.pure _ _) (Abid.and (Abid.mapV (by omega) _ _) (Abid.frmOf w3 (Nat.le_refl _)))
    case h0 => exact ⟨by simp; omega, by simpa [applyAll] using m3, by simpa using b3, Frm.refl _ _⟩
    case hps =>
      rintro k W xs' ⟨v, u, rfl, _⟩
      rfl
    case assign =>
      rintro l' j W xs' hj ⟨hjk, hmj, hbj, hfj⟩ hfw ⟨v, u, rfl, hu, hr⟩
      obtain ⟨gf', lb', rfl⟩ := hr.func
      clear hr hmj hbj
      repeat' (first | go_values | gi_big_skip | (with_reducible refine And.intro (fun f _ => wideFn f) ?_) | (with_reducible refine And.intro (fun f _ => wideFnR _ f) ?_) | (with_reducible refine And.intro (wideFnR _ _) ?_) | (with_reducible refine And.intro (wideFn _) ?_) | gi_guarded | gi_step | gi_upon | dsimp only)
      exact ⟨Frm.refl _ _, trivial, _, rfl, rfl⟩
    case body =>
      rintro l' j W xs' a1 W1 W2 hj ⟨hjk, hmj, hbj, hfj⟩ hfw ⟨v, u, rfl, hu, hr⟩ hfa ⟨rfl, v', hv', rfl⟩ hl' hl'' hf2 ⟨r0, hr0⟩ _
      simp only [Array.mk.injEq, List.cons.injEq, and_true] at hv'
      subst hv'
      have hne : ∀ i, i < w3.heap.size → ¬ One l' i := fun i hi e => by have e' : i = l' := e; omega
      have hf32 : Frm (fun i => i = w0.heap.size ∨ i = w.heap.size) w3 W2 := hfj.trans hf2 (fun i hi e => (hne i hi e).elim)
      have hb2 := hbj.frm hf2 (hne _ (by omega))
      have hm2 : MapV W2 w0.heap.size Value.string (encF (applyAll (D.steps.flatten.take j) D.syn)) := hmj.frm hf2 (hne _ (by omega))
      have ht2 := t3.frm hf32 (fun e => by rcases e with e | e <;> omega)
      have hr2 := hr.far hf2 (fun i e => by
        have e' : i = l' := e
        subst e'
        exact ⟨_, hr0, rfl⟩)
      have cK := hb2.cell
      have zK := hb2.frozen
      have cT := ht2.cell
      by_cases hz : k - j = 0
      · have e1 : ((k - (j : Int)) == 0) = true := by simpa using hz
        obtain ⟨gf', lb', rfl⟩ := hr.func
        have HM := Lib.hid hm2
        clear hr hr2 hm2 hmj hbj hb2 ht2
        repeat' (first | go_values | gi_big_skip | (with_reducible refine And.intro (fun f _ => wideFn f) ?_) | (with_reducible refine And.intro (fun f _ => wideFnR _ f) ?_) | (with_reducible refine And.intro (wideFnR _ _) ?_) | (with_reducible refine And.intro (wideFn _) ?_) | gi_guarded | gi_step | gi_upon | dsimp only)
        exact ⟨Frm.refl _ _, ⟨rfl, by omega⟩, by simpa using HM.out, hf32⟩
      · have e1 : ((k - (j : Int)) == 0) = false := by simpa using hz
        obtain ⟨gf', lb', hv, eg, hcall⟩ := unit_call hr2 hm2 (fun n c e => HFit.out j n c (by rw [hu, e]))
        subst hv
        have hcall' := Lib.hid hcall; clear hcall
        have hnext : applyAll (D.steps.flatten.take (j + 1)) D.syn = u.apply (applyAll (D.steps.flatten.take j) D.syn) := by
          unfold applyAll
          rw [List.take_add_one, hu]
          simp
        have HNx := Lib.hid hnext; clear hnext
        have HB2 := Lib.hid hb2
        clear hr hr2 hm2 hmj hbj ht2 hu hb2
        repeat' (first | (refine (CallsIn.inRound l' (callsIn_wide.2 hcall'.out)).mono ?_; rintro e W3 ⟨rfl, hm3, hf3⟩; have hb3 := HB2.out.frm hf3 (fun e => by { have e' : w.heap.size = w0.heap.size := e; omega }); have cK3 := hb3.cell; have zK3 := hb3.frozen) | go_values | gi_big_skip | (with_reducible refine And.intro (fun f _ => wideFn f) ?_) | (with_reducible refine And.intro (fun f _ => wideFnR _ f) ?_) | (with_reducible refine And.intro (wideFnR _ _) ?_) | (with_reducible refine And.intro (wideFn _) ?_) | gi_guarded | gi_step | gi_upon | dsimp only)
        have fs : Frm (One w.heap.size) W3 (W3.setCell ⟨w.heap.size, 0, none⟩ (.int .i64 (k - j - 1))) := frm_set _ _ _ _
        have f23 : Frm (fun i => i = w0.heap.size ∨ i = w.heap.size) W2 (W3.setCell ⟨w.heap.size, 0, none⟩ (.int .i64 (k - j - 1))) := (hf3.mono (fun _ _ h => .inl h)).trans fs (fun _ _ h => .inr h)
        refine ⟨f23, by omega, ?_, ?_, hf32.tr f23⟩
        · rw [HNx.out]
          exact hm3.frm fs (fun e => by have e' : w0.heap.size = w.heap.size := e; omega)
        · rw [show k - ((j + 1 : Nat) : Int) = k - j - 1 by omega]
          exact heap_setCell_same _ _ _ _ _ _ hb3
    case done =>
      rintro Dd W hDd hfw ⟨hjk, hmj, hbj, hfj⟩ hdef
      have hX : MapV W w0.heap.size Value.string (encF (crashX D k)) := by
        unfold crashX
        rw [List.take_length] at hmj
        rw [List.take_of_length_le (by omega)]
        exact hmj
      clear hmj hbj hjk
      have hw3 := f3.size
      have hDW := HD3.out.frm hfj (fun i hi e => by have := HL.out i hi; rcases e with e | e <;> omega) (fun i hi e => by have := HB.out i hi; rcases e with e | e <;> omega)
      have hsl : s < w.heap.size := HL.out s (by rw [HD3.out.fp_eq]; simp)
      have hR := hDW.reset hX (fun hx => by have := HB.out _ hx; omega) (by omega)
      have ht2 := t3.frm hfj (fun e => by rcases e with e | e <;> omega)
      have cT := ht2.cell
      have z2 := frozen_of_row _ _ 2 _ _ hDW.blk
      have z4 := frozen_of_row _ _ 4 _ _ hDW.blk
      have z5 := frozen_of_row _ _ 5 _ _ hDW.blk
      have c6 := cells6 hDW.blk
      have q2 := c6.h2
      have q4 := c6.h4
      have q5 := c6.h5
      obtain ⟨W6, hW6⟩ : ∃ W6, ((W.setCell ⟨b, 2, none⟩ (.map (some w0.heap.size))).setCell ⟨b, 4, none⟩ (.pointer none)).setCell ⟨b, 5, none⟩ (.bool false) = W6 := ⟨_, rfl⟩
      have f6 : Frm (One b) W W6 := by rw [← hW6]; exact ((frm_set _ _ _ _).tr (frm_set _ _ _ _)).tr (frm_set _ _ _ _)
      rw [hW6] at hR
      have HR := Lib.hid hR; clear hR
      have HDW := Lib.hid hDW; clear hDW
      have HDef := Lib.hid hdef; clear hdef
      have HFJ := Lib.hid hfj; clear hfj
      clear hX ht2 c6 m3 t3 b3 u3 hc3
      repeat' (first | (go_at_call 13; refine (sync_call ⟨_, _, _, _, _, HR.out⟩).mono ?_; rintro e w7 ⟨rfl, fp7, bx7, hd7, hF7, h71, h72⟩) | go_values | go_skip | go_guarded | go_step | go_upon | dsimp only)
      have hbl : b < w.heap.size := HL.out b (by rw [HD3.out.fp_eq]; simp)
      have hfp6 : ∀ i ∈ (b :: s :: w0.heap.size :: (sv.ownBlock.toList ++ [])), i < w3.heap.size ∧ (i ∈ fp ∨ w.heap.size ≤ i) := fun i hi => by
        simp only [List.mem_cons, List.mem_append, Option.mem_toList, List.not_mem_nil, or_false] at hi
        rcases hi with rfl | rfl | rfl | hi
        · exact ⟨by omega, .inl (by rw [HD3.out.fp_eq]; simp)⟩
        · exact ⟨by omega, .inl (by rw [HD3.out.fp_eq]; simp)⟩
        · exact ⟨by omega, .inr (by omega)⟩
        · have := HG.out i hi
          exact ⟨by omega, .inl (by rw [HD3.out.fp_eq, hi]; simp)⟩
      have hdef7 : w7.heap[Dd]? = some (.deferred (some [])) := hF7.obj (f6.obj HDef.out (fun e => by have e' : Dd = b := e; omega)) (fun hx => by have := (hfp6 _ hx).1; omega)
      refine ⟨by simp, .inl ⟨_, _, rfl, run_takeDeferred hdef7, ?_⟩⟩
      refine ⟨_, results_tmp rfl _ _ _, ?_⟩
      have hsE : syncE { D with seen := crashX D k, fuse := none, down := false } = 0 := by simp [syncE, burnN]
      have hsD : syncD { D with seen := crashX D k, fuse := none, down := false } = { D with syn := crashX D k, seen := crashX D k, steps := [], fuse := none, down := false } := by simp [syncD, burnN, burnD]
      rw [HE.out, HD.out]
      rw [hsD] at hd7
      have f8 : Frm (One Dd) w7 (w7.putObj Dd (.deferred none)) := frm_put _ _ _
      have sW := HFJ.out.size
      have s6 := f6.size
      have s7 := hF7.size
      have hDl : Dd < W.heap.size := lt_of_obj HDef.out
      have hfp7 : ∀ i ∈ fp7, i ≠ Dd := fun i hi e => by
        subst e
        obtain ⟨s7', m7', sv7', fa7', fl7', hd7'⟩ := hd7
        rcases h71 _ hi with h | h
        · have := (hfp6 _ h).1; omega
        · omega
      have hbx7 : ∀ i, bx7 i → i ≠ Dd := fun i hi e => by
        subst e
        rcases h72 _ hi with h | h
        · have := HB.out _ h; omega
        · omega
      refine ⟨by dsimp only [Array.getD]; first | rfl | (congr 2), fp7, bx7, hd7.frm f8 hfp7 hbx7, ?_, fun i hi => ?_, fun i hi => ?_⟩
      · exact ((((F0.out.nil (S := fun i => i ∈ fp)).trans f3 (fun _ _ h => h.elim)).trans HFJ.out (fun i hi e => by rcases e with e | e <;> omega)).trans f6 (fun i hi e => by have e' : i = b := e; rw [e', HD3.out.fp_eq]; simp)).trans hF7 (fun i hi e => by
          rcases (hfp6 i e).2 with h | h
          · exact h
          · omega) |>.trans f8 (fun i hi e => by have e' : i = Dd := e; omega)
      · rcases h71 i hi with h | h
        · exact (hfp6 i h).2
        · exact .inr (by omega)
      · rcases h72 i hi with h | h
        · exact .inl h
        · exact .inr (by omega)
    case stop =>
      rintro Dd c j W hDd hj0 hjN hfw ⟨⟨rfl, hjk⟩, hmj, hfj⟩ hdef
      have hX : MapV W w0.heap.size Value.string (encF (crashX D k)) := by
        unfold crashX
        rw [show k.toNat = j - 1 by omega]
        exact hmj
      clear hmj hjk
      refine (wpIn_wide (n := 9)).2 ?_
      have hw3 := f3.size
      have hDW := HD3.out.frm hfj (fun i hi e => by have := HL.out i hi; rcases e with e | e <;> omega) (fun i hi e => by have := HB.out i hi; rcases e with e | e <;> omega)
      have hsl : s < w.heap.size := HL.out s (by rw [HD3.out.fp_eq]; simp)
      have hR := hDW.reset hX (fun hx => by have := HB.out _ hx; omega) (by omega)
      have ht2 := t3.frm hfj (fun e => by rcases e with e | e <;> omega)
      have cT := ht2.cell
      have z2 := frozen_of_row _ _ 2 _ _ hDW.blk
      have z4 := frozen_of_row _ _ 4 _ _ hDW.blk
      have z5 := frozen_of_row _ _ 5 _ _ hDW.blk
      have c6 := cells6 hDW.blk
      have q2 := c6.h2
      have q4 := c6.h4
      have q5 := c6.h5
      obtain ⟨W6, hW6⟩ : ∃ W6, ((W.setCell ⟨b, 2, none⟩ (.map (some w0.heap.size))).setCell ⟨b, 4, none⟩ (.pointer none)).setCell ⟨b, 5, none⟩ (.bool false) = W6 := ⟨_, rfl⟩
      have f6 : Frm (One b) W W6 := by rw [← hW6]; exact ((frm_set _ _ _ _).tr (frm_set _ _ _ _)).tr (frm_set _ _ _ _)
      rw [hW6] at hR
      have HR := Lib.hid hR; clear hR
      have HDW := Lib.hid hDW; clear hDW
      have HDef := Lib.hid hdef; clear hdef
      have HFJ := Lib.hid hfj; clear hfj
      clear hX ht2 c6 m3 t3 b3 u3 hc3
      repeat' (first | (go_at_call 13; refine (sync_call ⟨_, _, _, _, _, HR.out⟩).mono ?_; rintro e w7 ⟨rfl, fp7, bx7, hd7, hF7, h71, h72⟩) | go_values | go_skip | go_guarded | go_step | go_upon | dsimp only)
      have hbl : b < w.heap.size := HL.out b (by rw [HD3.out.fp_eq]; simp)
      have hfp6 : ∀ i ∈ (b :: s :: w0.heap.size :: (sv.ownBlock.toList ++ [])), i < w3.heap.size ∧ (i ∈ fp ∨ w.heap.size ≤ i) := fun i hi => by
        simp only [List.mem_cons, List.mem_append, Option.mem_toList, List.not_mem_nil, or_false] at hi
        rcases hi with rfl | rfl | rfl | hi
        · exact ⟨by omega, .inl (by rw [HD3.out.fp_eq]; simp)⟩
        · exact ⟨by omega, .inl (by rw [HD3.out.fp_eq]; simp)⟩
        · exact ⟨by omega, .inr (by omega)⟩
        · have := HG.out i hi
          exact ⟨by omega, .inl (by rw [HD3.out.fp_eq, hi]; simp)⟩
      have hdef7 : w7.heap[Dd]? = some (.deferred (some [])) := hF7.obj (f6.obj HDef.out (fun e => by have e' : Dd = b := e; omega)) (fun hx => by have := (hfp6 _ hx).1; omega)
      refine ⟨by simp, .inl ⟨_, _, rfl, run_takeDeferred hdef7, ?_⟩⟩
      refine ⟨_, results_tmp rfl _ _ _, ?_⟩
      have hsE : syncE { D with seen := crashX D k, fuse := none, down := false } = 0 := by simp [syncE, burnN]
      have hsD : syncD { D with seen := crashX D k, fuse := none, down := false } = { D with syn := crashX D k, seen := crashX D k, steps := [], fuse := none, down := false } := by simp [syncD, burnN, burnD]
      rw [HE.out, HD.out]
      rw [hsD] at hd7
      have f8 : Frm (One Dd) w7 (w7.putObj Dd (.deferred none)) := frm_put _ _ _
      have sW := HFJ.out.size
      have s6 := f6.size
      have s7 := hF7.size
      have hDl : Dd < W.heap.size := lt_of_obj HDef.out
      have hfp7 : ∀ i ∈ fp7, i ≠ Dd := fun i hi e => by
        subst e
        obtain ⟨s7', m7', sv7', fa7', fl7', hd7'⟩ := hd7
        rcases h71 _ hi with h | h
        · have := (hfp6 _ h).1; omega
        · omega
      have hbx7 : ∀ i, bx7 i → i ≠ Dd := fun i hi e => by
        subst e
        rcases h72 _ hi with h | h
        · have := HB.out _ h; omega
        · omega
      refine ⟨by dsimp only [Array.getD]; first | rfl | (congr 2), fp7, bx7, hd7.frm f8 hfp7 hbx7, ?_, fun i hi => ?_, fun i hi => ?_⟩
      · exact ((((F0.out.nil (S := fun i => i ∈ fp)).trans f3 (fun _ _ h => h.elim)).trans HFJ.out (fun i hi e => by rcases e with e | e <;> omega)).trans f6 (fun i hi e => by have e' : i = b := e; rw [e', HD3.out.fp_eq]; simp)).trans hF7 (fun i hi e => by
          rcases (hfp6 i e).2 with h | h
          · exact h
          · omega) |>.trans f8 (fun i hi e => by have e' : i = Dd := e; omega)
      · rcases h71 i hi with h | h
        · exact (hfp6 i h).2
        · exact .inr (by omega)
      · rcases h72 i hi with h | h
        · exact .inl h
        · exact .inr (by omega)
end Go.Proofs.Ytlnelokpaccanaa
