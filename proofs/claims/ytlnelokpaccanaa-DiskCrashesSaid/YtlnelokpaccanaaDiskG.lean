/- All steps' units: the iterator that units() makes. -/
import Derived.Test.YtlnelokpaccanaaDiskF
import Derived.Laws.EntriesVeiled
namespace Go.Proofs.Ytlnelokpaccanaa
open Go Go.RowKit Go.Tr
attribute [local go_sem] Oper.semAt_some
set_option linter.unusedVariables false

def offs (st : List (List U)) (k : Nat) : Nat := ((st.take k).flatten).length
theorem offs_succ (st : List (List U)) (k : Nat) (us : List U) (h : st[k]? = some us) : offs st (k + 1) = offs st k + us.length := by
  unfold offs
  rw [List.take_add_one, h]
  simp
theorem offs_all (st : List (List U)) : offs st st.length = st.flatten.length := by simp [offs]
theorem offs_le (st : List (List U)) (k : Nat) (us : List U) (h : st[k]? = some us) : offs st k + us.length ≤ st.flatten.length := by
  rw [← offs_succ st k us h]
  unfold offs
  have h2 : st.flatten.length = ((st.take (k + 1)).flatten ++ (st.drop (k + 1)).flatten).length := by rw [← List.flatten_append, List.take_append_drop]
  rw [List.length_append] at h2
  omega
theorem flat_at (st : List (List U)) (k j : Nat) (us : List U) (u : U) (h : st[k]? = some us) (hu : us[j]? = some u) : st.flatten[offs st k + j]? = some u := by
  have hk := (List.getElem?_eq_some_iff.1 h).1
  have hs : st = st.take k ++ us :: st.drop (k + 1) := by
    have h1 := List.take_append_drop k st
    have h2 : st.drop k = us :: st.drop (k + 1) := by
      rw [List.drop_eq_getElem_cons hk]
      congr 1
      exact (List.getElem?_eq_some_iff.1 h).2
    rw [h2] at h1
    exact h1.symm
  have hf : st.flatten = (st.take k).flatten ++ (us ++ (st.drop (k + 1)).flatten) := by
    conv => lhs; rw [hs]
    simp
  rw [hf, List.getElem?_append_right (by simp [offs])]
  have hj := (List.getElem?_eq_some_iff.1 hu).1
  rw [show offs st k + j - (st.take k).flatten.length = j by simp [offs]]
  rw [List.getElem?_append_left hj, hu]

set_option maxRecDepth 100000 in
set_option maxHeartbeats 2000000 in
theorem units_iter {bx S : Nat → Prop} {w : World} {bd b : Nat} {sv : Value} {st : List (List U)} (b1 : Box1 w bd 23 (ptr b)) (c3 : w.cell? ⟨b, 3, none⟩ = some sv) (hst : Steps bx w sv st)
    (hgS : ∀ g, sv.ownBlock = some g → ¬ S g) (hbS : ∀ i, bx i → ¬ S i) (hbl : ∀ i, bx i → i < w.heap.size) :
    IterC Try.prog 51 #[ptr bd] w S st.flatten.length (okU bx w.heap.size st.flatten) := by
  intro l J Jx hS hJ hJx hY h0
  obtain ⟨xs, hown, hxs⟩ := hst
  have hform : ∃ A n, ∃ cap : Nat, sv = .slice A n cap ∧ n = st.length := by
    rcases hown.2 with ⟨rfl, hx⟩ | ⟨g, cap, cur, rfl, _⟩
    · exact ⟨_, _, _, rfl, by have := hown.1; rw [hx] at this; simp at this; omega⟩
    · exact ⟨_, _, _, rfl, rfl⟩
  obtain ⟨A, n, cap, rfl, rfl⟩ := hform
  refine callsIn_of_wp_marks Try.func51 rfl trivial ?_
  simp only [Try.ntmps51, List.size_toArray, List.length_cons, List.length_nil, Nat.reduceAdd, Nat.reduceSub, Array.replicate_succ, Array.replicate_zero, List.push_toArray, List.append_toArray, List.nil_append, List.cons_append]
  have c1 := b1.cell
  have hl1 : bd < w.heap.size := b1.lt
  have hl2 : b < w.heap.size := World.block_lt_of_cell? _ _ c3
  have HY := Lib.hid hY; clear hY
  have HJ := Lib.hid hJ; clear hJ
  have HJx := Lib.hid hJx; clear hJx
  have HS := Lib.hid hS; clear hS
  have HB := Lib.hid hbS; clear hbS
  have HL := Lib.hid hbl; clear hbl
  have HG := Lib.hid hgS; clear hgS
  have HX := Lib.hid hxs; clear hxs
  have HO := Lib.hid hown; clear hown
  repeat' (first | go_values | gi_big_skip | (with_reducible refine And.intro (fun f _ => wideFn f) ?_) | (with_reducible refine And.intro (fun f _ => wideFnR _ f) ?_) | (with_reducible refine And.intro (wideFnR _ _) ?_) | (with_reducible refine And.intro (wideFn _) ?_) | gi_guarded | gi_step | gi_upon | dsimp only)
  obtain ⟨w1, hw1⟩ : ∃ w1, w.alloc (.cells #[.func (.yield l) #[] #[]] 73) = w1 := ⟨_, rfl⟩
  rw [hw1]
  have hf1 : Frm Nil w w1 := by rw [← hw1]; exact (Frm.refl _ w).alloc _
  have hA : Box1 w1 w.heap.size 73 (.func (.yield l) #[] #[]) := by rw [← hw1]; exact World.alloc_heap_new w _
  have hj1 : J 0 w1 := HJ.out.frm h0 hf1 (Nat.le_refl _) (fun _ _ h => h)
  clear hw1
  refine wpIn_loop (fun a W => ∃ (k : Nat) (ds : List Deferred) (u4 u5 u12 u13 u14 u15 u16 u17 u18 u19 u20 u21 u22 : Value), k ≤ st.length ∧
      a = { tmps := #[.func (.yield l) #[] #[], ptr bd, ptr w.heap.size, undef, u4, u5, ptr b, ptr b, .pointer (some ⟨b, 3, none⟩), .slice A st.length cap, .int .i64 st.length, .int .i64 k, u12, u13, u14, u15, u16, u17, u18, u19, u20, u21, u22], defers := ds } ∧
      J (offs st k) W ∧ Frm S w W ∧ Box1 W w.heap.size 73 (.func (.yield l) #[] #[]) ∧ Marks w.heap.size W.heap.size W ds)
    (fun a _ => st.length - (intOf (a.tmps.getD 11 undef)).toNat) ⟨0, [], _, _, _, _, _, _, _, _, _, _, _, _, _, Nat.zero_le _, rfl, hj1, hf1.nil, hA, Marks.nil _ _ _⟩ ?_
  rintro a W ⟨k, ds, u4, u5, u12, u13, u14, u15, u16, u17, u18, u19, u20, u21, u22, hk, rfl, hj, hf, hB, hM⟩
  by_cases hlt : k < st.length
  · obtain ⟨us, hus⟩ : ∃ us, st[k]? = some us := ⟨_, List.getElem?_eq_getElem hlt⟩
    obtain ⟨hx0, v, hx1, hE⟩ := HX.out k us hus
    obtain ⟨gf, lb, rfl⟩ := hE.func
    obtain ⟨g, cap', hAg⟩ : ∃ g cap', (Value.slice A st.length cap) = .slice (some ⟨g, 0, none⟩) st.length cap' := by
      rcases HO.out.2 with ⟨h, _⟩ | ⟨g, cap', cur, h, _⟩
      · injection h with h1 h2 h3; omega
      · exact ⟨g, cap', h⟩
    have hk63 : (k : Int) + 1 ≤ 9223372036854775807 := by
      rcases HO.out.2 with ⟨h, _⟩ | ⟨g', cap'', cur, h, _, _, hn, hm, _⟩
      · rw [hAg] at h; injection h with h1 h2 h3; cases h1
      · unfold maxLen at hm; omega
    injection hAg with hA1 hA2 hA3
    subst hA1
    subst hA3
    have hown := HO.out
    have hgS : ¬ S g := HG.out g rfl
    have hgl : g < w.heap.size := by
      have := hown.lt g rfl
      exact this.2
    have d0 : w.cell? ⟨g, 2 * k, none⟩ = some (.int .i64 us.length) := by rw [hown.cellAt (2 * k) (by omega)]; exact hx0
    have d1 : w.cell? ⟨g, 2 * k + 1, none⟩ = some (.func (.func gf) #[] lb) := by rw [hown.cellAt (2 * k + 1) (by omega)]; exact hx1
    have e0 : W.cell? ⟨g, k * 2, none⟩ = some (.int .i64 us.length) := by rw [Nat.mul_comm]; exact (hf.cell (p := ⟨g, 2 * k, none⟩) hgl hgS).trans d0
    have e1 : W.cell? ⟨g, k * 2 + 1, none⟩ = some (.func (.func gf) #[] lb) := by rw [Nat.mul_comm]; exact (hf.cell (p := ⟨g, 2 * k + 1, none⟩) hgl hgS).trans d1
    have hEW := hE.frm hf HB.out
    have HEW := Lib.hid hEW; clear hEW hE d0 d1 hx0 hx1 hown
    have HU := Lib.hid hus; clear hus
    have HM := Lib.hid hM; clear hM
    repeat' (first | go_values | gi_big_skip | (with_reducible refine And.intro (fun f _ => wideFn f) ?_) | (with_reducible refine And.intro (fun f _ => wideFnR _ f) ?_) | (with_reducible refine And.intro (wideFnR _ _) ?_) | (with_reducible refine And.intro (wideFn _) ?_) | gi_guarded | gi_step | gi_upon | dsimp only)
    obtain ⟨Wk, hWk⟩ : ∃ Wk, W.alloc (.cells #[.int .i64 us.length, .func (.func gf) #[] lb] 70) = Wk := ⟨_, rfl⟩
    rw [hWk]
    have hfk : Frm Nil W Wk := by rw [← hWk]; exact (Frm.refl _ W).alloc _
    have hsk : Wk.heap.size = W.heap.size + 1 := by rw [← hWk]; simp
    clear hWk
    have hfw := hf.size
    have hwk : Frm S w Wk := hf.trn hfk
    have hBk := hB.frm hfk (fun h => h)
    have hjk : J (offs st k) Wk := HJ.out.frm hj hfk hfw (fun _ _ h => h)
    have hMk : Marks w.heap.size W.heap.size Wk ds := HM.out.of (Nat.le_refl _) (fun i _ h2 _ => hfk.block i h2 (fun h => h))
    have hEk : Each bx Wk (.func (.func gf) #[] lb) us := HEW.out.frm hfk (fun _ _ h => h)
    have hSlt : ∀ i, S i → i < Wk.heap.size := fun i hi => by have := HS.out i hi; omega
    have hBl : ∀ i, bx i → i < Wk.heap.size := fun i hi => by have := HL.out i hi; omega
    have hle := offs_le st k us HU.out
    refine range_outer (gf := gf) (lb := lb) (by rfl) (each_iter hEk HB.out hBl (Nat.le_refl _)).1 (S := S) (N := us.length) (ok := okU bx w.heap.size us) hSlt
      (fun W1 hfW hsW => (each_iter (hEk.frm hfW (fun _ _ h => h)) (fun i hi hx => by
        have := hBl i hi
        rcases hx with hx | rfl | rfl
        · exact HB.out i hi hx
        · omega
        · omega) (fun i hi => by have := hBl i hi; omega) (by omega)).2)
      (fun j W' => J (offs st k + j) W' ∧ (Box1 W' w.heap.size 73 (.func (.yield l) #[] #[]) ∧ Frm S w W') ∧ Marks w.heap.size W.heap.size W' ds)
      (fun c j W' => (c = .ret ∧ Jx (offs st k + j) W') ∧ Frm S w W' ∧ Marks w.heap.size W.heap.size W' ds)
      ?hI ?hIx ?h0 ?hps (fun j xs W' a1 W1 => W1 = W' ∧ ∃ v, xs = #[v] ∧ a1 = { tmps := #[.func (.yield l) #[] #[], ptr bd, ptr w.heap.size, undef, ptr W.heap.size, v, ptr b, ptr b, .pointer (some ⟨b, 3, none⟩), .slice (some ⟨g, 0, none⟩) st.length cap,
        .int .i64 st.length, .int .i64 k, .bool true, .pointer (some ⟨g, k * 2, none⟩), .agg #[.int .i64 us.length, .func (.func gf) #[] lb], .pointer (some ⟨W.heap.size, 1, none⟩), .func (.func gf) #[] lb, v, u18, u19, u20, u21, u22], defers := [] }) ?assign ?body ?done ?stop
    case hI =>
      refine Abid.and (fun j W1 W2 h e1 e2 e3 e4 e5 => HJ.out.mono (B' := Wk.heap.size) (by omega) _ W1 W2 h e1 e2 e3 e4 e5) (Abid.and (Abid.and (Abid.objOf (by omega) (fun _ => .cells #[.func (.yield l) #[] #[]] 73 (0, 0))) (Abid.frmOf w (by omega))) ?_)
      exact fun j W1 W2 h e1 e2 e3 e4 e5 => Marks.of h (Nat.le_refl _) (fun i _ h2 _ => e5 i (by omega))
    case hIx =>
      intro c
      refine Abid.and (fun j W1 W2 h e1 e2 e3 e4 e5 => ⟨h.1, HJx.out.mono (B' := Wk.heap.size) (by omega) _ W1 W2 h.2 e1 e2 e3 e4 e5⟩) (Abid.and (Abid.frmOf w (by omega)) ?_)
      exact fun j W1 W2 h e1 e2 e3 e4 e5 => Marks.of h (Nat.le_refl _) (fun i _ h2 _ => e5 i (by omega))
    case h0 => exact ⟨hjk, ⟨hBk, hwk⟩, hMk⟩
    case hps =>
      rintro j W' xs ⟨v, u, rfl, _⟩
      rfl
    case assign =>
      rintro l' j W' xs hj' ⟨hjj, ⟨hb1, hf'⟩, hm'⟩ hfw' ⟨v, u, rfl, hu, hr⟩
      obtain ⟨gf', lb', rfl⟩ := hr.func
      clear hm'
      repeat' (first | go_values | gi_big_skip | (with_reducible refine And.intro (fun f _ => wideFn f) ?_) | (with_reducible refine And.intro (fun f _ => wideFnR _ f) ?_) | (with_reducible refine And.intro (wideFnR _ _) ?_) | (with_reducible refine And.intro (wideFn _) ?_) | gi_guarded | gi_step | gi_upon | dsimp only)
      exact ⟨Frm.refl _ _, trivial, _, rfl, rfl⟩
    case body =>
      rintro l' j W' xs a1 W1 W2 hj' ⟨hjj, ⟨hb1, hf'⟩, hm'⟩ hfw' ⟨v, u, rfl, hu, hr⟩ hfa ⟨rfl, v', hv', rfl⟩ hl' hl'' hf2 ⟨r0, hr0⟩ _
      simp only [Array.mk.injEq, List.cons.injEq, and_true] at hv'
      subst hv'
      have hne : ∀ i, i < Wk.heap.size → ¬ One l' i := fun i hi e => by have e' : i = l' := e; omega
      have hWs := hf'.size
      have hb2 := hb1.frm hf2 (hne _ (by omega))
      have hj2 : J (offs st k + j) W2 := HJ.out.frm hjj hf2 (by omega) (fun i hi => hne i (by omega))
      have hf2w : Frm S w W2 := hf'.trans hf2 (fun i hi e => (hne i (by omega) e).elim)
      have hm2 : Marks w.heap.size W.heap.size W2 ds := hm'.of (Nat.le_refl _) (fun i _ h2 h3 => hf2.block i (lt_of_obj h3) (hne i (by omega)))
      have hr2 : URep (fun i => bx i ∨ w.heap.size ≤ i) W2 v u := hr.far hf2 (fun i e => by
        have e' : i = l' := e
        subst e'
        exact ⟨_, hr0, rfl⟩)
      obtain ⟨fn, tmps, assign, body, hy, hR⟩ := HY.out (offs st k + j) W2 #[v] (by omega) hj2 hf2w ⟨v, u, rfl, flat_at st k j us u HU.out hu, hr2⟩
      have cB := hb2.cell
      have HM2 := Lib.hid hm2; clear hm2 hm' hMk
      obtain ⟨gf', lb', rfl⟩ := hr.func
      clear hr hr2
      repeat' (first | (refine (roundIn_wide hR).mono ?_; clear hR; rintro e W3 (⟨rfl, hJ3, hF3⟩ | ⟨rfl, hJx3, hF3⟩)) | go_values | gi_big_skip | (with_reducible refine And.intro (fun f _ => wideFn f) ?_) | (with_reducible refine And.intro (fun f _ => wideFnR _ f) ?_) | (with_reducible refine And.intro (wideFnR _ _) ?_) | (with_reducible refine And.intro (wideFn _) ?_) | gi_guarded | gi_step | gi_upon | dsimp only)
      · exact ⟨hF3, hJ3, ⟨hb2.frm hF3 (fun h => by have := HS.out _ h; omega), hf2w.tr hF3⟩, HM2.out.frm (Nat.le_refl _) hF3 (fun i hi => HS.out i hi)⟩
      · exact ⟨hF3, ⟨rfl, hJx3⟩, hf2w.tr hF3, HM2.out.frm (Nat.le_refl _) hF3 (fun i hi => HS.out i hi)⟩
    case done =>
      rintro D W' hD hfw' ⟨hjj, ⟨hb1, hf'⟩, hm'⟩ hdef
      have hsz := hfw'.size
      have hm2 : Marks w.heap.size W'.heap.size W' ({ target := .collected D, args := #[] } :: ds) := hm'.cons (by omega) (by omega) (lt_of_obj hdef) hdef
      have HM2 := Lib.hid hm2; clear hm2 hm' hMk hdef
      repeat' (first | go_values | gi_big_skip | (with_reducible refine And.intro (fun f _ => wideFn f) ?_) | (with_reducible refine And.intro (fun f _ => wideFnR _ f) ?_) | (with_reducible refine And.intro (wideFnR _ _) ?_) | (with_reducible refine And.intro (wideFn _) ?_) | gi_guarded | gi_step | gi_upon | dsimp only)
      refine ⟨⟨k + 1, _, _, _, _, _, _, _, _, _, _, _, _, _, _, by omega, rfl, ?_, hf', hb1, HM2.out⟩, ?_⟩
      · rw [offs_succ st k us HU.out]; exact hjj
      · simp [intOf]; omega
    case stop =>
      rintro D c j W' hD hj0 hjN hfw' ⟨⟨rfl, hjx⟩, hf', hm'⟩ hdef
      have hsz := hfw'.size
      have hm2 : Marks w.heap.size W'.heap.size W' ({ target := .collected D, args := #[] } :: ds) := hm'.cons (by omega) (by omega) (lt_of_obj hdef) hdef
      have HM2 := Lib.hid hm2; clear hm2 hm' hMk hdef
      repeat' (first | go_values | gi_big_skip | (with_reducible refine And.intro (fun f _ => wideFn f) ?_) | (with_reducible refine And.intro (fun f _ => wideFnR _ f) ?_) | (with_reducible refine And.intro (wideFnR _ _) ?_) | (with_reducible refine And.intro (wideFn _) ?_) | gi_guarded | gi_step | gi_upon | dsimp only)
      refine leaves_marks rfl _ _ HM2.out (fun W2 hf2 => ⟨⟨_, rfl⟩, hf'.trans hf2 (fun i hi hx => by omega), .inr ⟨offs st k + j, by omega, by omega, ?_⟩⟩)
      exact HJx.out.frm hjx hf2 hf'.size (fun i hi hx => by omega)
  · obtain rfl : k = st.length := by omega
    have HM := Lib.hid hM; clear hM
    repeat' (first | go_values | gi_big_skip | (with_reducible refine And.intro (fun f _ => wideFn f) ?_) | (with_reducible refine And.intro (fun f _ => wideFnR _ f) ?_) | (with_reducible refine And.intro (wideFnR _ _) ?_) | (with_reducible refine And.intro (wideFn _) ?_) | gi_guarded | gi_step | gi_upon | dsimp only)
    refine leaves_marks rfl ds _ HM.out (fun W' hf' => ⟨⟨_, rfl⟩, hf.trans hf' (fun i hi hx => by omega), .inl ?_⟩)
    rw [← offs_all]
    exact HJ.out.frm hj hf' hf.size (fun i hi hx => by omega)
end Go.Proofs.Ytlnelokpaccanaa
