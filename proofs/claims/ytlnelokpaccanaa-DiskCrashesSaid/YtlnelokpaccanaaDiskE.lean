/- The first units of a step's. -/
import Derived.Test.YtlnelokpaccanaaDiskD
namespace Go.Proofs.Ytlnelokpaccanaa
open Go Go.RowKit Go.Tr
attribute [local go_sem] Oper.semAt_some
set_option linter.unusedVariables false

set_option maxRecDepth 100000 in
set_option maxHeartbeats 2000000 in
theorem first_iter {bx S : Nat → Prop} {w : World} {s n : Nat} {z : Value} {ev : Value} {us : List U} {cnt : Nat} (h1 : bx s) (h2 : bx n) (b1 : w.heap[s]? = some (.cells #[z, ev] 70 (0, 0))) (b2 : Box1 w n 3 (.int .i64 cnt))
    (hp : Plain bx w ev us) (hcnt : cnt ≤ 9223372036854775806) (hle : cnt ≤ us.length) (hbS : ∀ i, bx i → ¬ S i) (hbl : ∀ i, bx i → i < w.heap.size) :
    IterC Try.prog 58 #[ptr s, ptr n] w S (us.take cnt).length (okU bx w.heap.size (us.take cnt)) := by
  intro l J Jx hS hJ hJx hY h0
  have hN : (us.take cnt).length = cnt := by simp; omega
  rw [hN] at hY ⊢
  obtain ⟨gf, lb, hev, eg, _⟩ := plain_iter hp hbS
  have hsize := hbl s h1
  have hsizen := hbl n h2
  refine callsIn_of_wp_marks Try.func58 rfl trivial ?_
  simp only [Try.ntmps58, List.size_toArray, List.length_cons, List.length_nil, Nat.reduceAdd, Nat.reduceSub, Array.replicate_succ, Array.replicate_zero, List.push_toArray, List.append_toArray, List.nil_append, List.cons_append]
  have c1 : w.cell? ⟨s, 1, none⟩ = some (.func (.func gf) #[] lb) := by rw [← hev]; exact cell_of_row _ _ _ _ _ _ b1
  have c2 := b2.cell
  have HY := Lib.hid hY; clear hY
  have HJ := Lib.hid hJ; clear hJ
  have HJx := Lib.hid hJx; clear hJx
  have HS := Lib.hid hS; clear hS
  have HB := Lib.hid hbS; clear hbS
  have HL := Lib.hid hbl; clear hbl
  have HN := Lib.hid hN; clear hN
  have HP := Lib.hid hp; clear hp
  have HE := Lib.hid hev; clear hev
  repeat' (first | go_values | gi_big_skip | (with_reducible refine And.intro (fun f _ => wideFn f) ?_) | (with_reducible refine And.intro (fun f _ => wideFnR _ f) ?_) | (with_reducible refine And.intro (wideFnR _ _) ?_) | (with_reducible refine And.intro (wideFn _) ?_) | gi_guarded | gi_step | gi_upon | dsimp only)
  obtain ⟨w1, hw1⟩ : ∃ w1, (w.alloc (.cells #[.func (.yield l) #[] #[]] 73)).alloc (.cells #[.int .i64 0] 3) = w1 := ⟨_, rfl⟩
  rw [hw1]
  have hf1 : Frm Nil w w1 := by rw [← hw1]; exact ((Frm.refl _ w).alloc _).alloc _
  have hs1 : w1.heap.size = w.heap.size + 2 := by rw [← hw1]; simp
  have hA : Box1 w1 w.heap.size 73 (.func (.yield l) #[] #[]) := by rw [← hw1]; exact (Below.heap_alloc _ _ _ (by simp)).trans (World.alloc_heap_new w _)
  have hK : Box1 w1 (w.heap.size + 1) 3 (.int .i64 0) := by
    rw [← hw1]; have := World.alloc_heap_new (w.alloc (.cells #[.func (.yield l) #[] #[]] 73)) (.cells #[.int .i64 0] 3); rwa [World.size_alloc] at this
  clear hw1
  have HP1 : Plain bx w1 (.func (.func gf) #[] lb) us := by rw [← HE.out]; exact HP.out.frm hf1 (fun _ _ h => h)
  have hc2 := b2.frm hf1 (fun h => h)
  refine range_outer (gf := gf) (lb := lb) (by rfl) eg (S := fun i => S i ∨ i = w.heap.size + 1) (N := us.length) (ok := okU bx w.heap.size us)
    (fun i hi => by rcases hi with hi | rfl
                    · have := HS.out i hi; omega
                    · omega)
    (fun W1 hfW hsW => plain_iter' (HP1.frm hfW (fun _ _ h => h)) (fun i hi hx => by
      have := HL.out i hi
      rcases hx with (hx | rfl) | rfl | rfl
      · exact HB.out i hi hx
      · omega
      · omega
      · omega) (by have := hfW.size; omega))
    (fun k W => (J k W ∧ k ≤ cnt) ∧ (Box1 W w.heap.size 73 (.func (.yield l) #[] #[]) ∧ Box1 W (w.heap.size + 1) 3 (.int .i64 k)) ∧ Frm S w W)
    (fun c k W => (c = .ret ∧ ((k = cnt + 1 ∧ J cnt W) ∨ (0 < k ∧ k ≤ cnt ∧ Jx k W))) ∧ Frm S w W)
    ?hI ?hIx ?h0 ?hps (fun k xs W a1 W1 => W1 = W ∧ ∃ v, xs = #[v] ∧ a1 = { tmps := #[.func (.yield l) #[] #[], ptr s, ptr n, ptr w.heap.size, ptr (w.heap.size + 1), v, .pointer (some ⟨s, 1, none⟩), .func (.func gf) #[] lb, v, undef, undef, undef, undef, undef, undef, undef, undef, undef, undef, undef], defers := [] }) ?assign ?body ?done ?stop
  case hI =>
    refine Abid.and ((HJ.out.mono (by omega)).and (Abid.pure _ _)) (Abid.and (Abid.and (Abid.objOf (by omega) (fun _ => .cells #[.func (.yield l) #[] #[]] 73 (0, 0))) (Abid.objOf (by omega) (fun k => .cells #[.int .i64 k] 3 (0, 0)))) (Abid.frmOf w (by omega)))
  case hIx =>
    intro c k W W' h e1 e2 e3 e4 e5
    obtain ⟨⟨hc, h⟩, hf⟩ := h
    refine ⟨⟨hc, ?_⟩, Abid.frmOf (S := S) w (by omega) k W W' hf e1 e2 e3 e4 e5⟩
    rcases h with ⟨hk, h⟩ | ⟨hk, hk', h⟩
    · exact .inl ⟨hk, HJ.out.mono (by omega) _ W W' h e1 e2 e3 e4 e5⟩
    · exact .inr ⟨hk, hk', HJx.out.mono (by omega) _ W W' h e1 e2 e3 e4 e5⟩
  case h0 => exact ⟨⟨HJ.out.frm h0 hf1 (Nat.le_refl _) (fun _ _ h => h), Nat.zero_le _⟩, ⟨hA, hK⟩, hf1.nil⟩
  case hps =>
    rintro k W xs ⟨v, u, rfl, _⟩
    rfl
  case assign =>
    rintro l' k W xs hk ⟨⟨hj, hk'⟩, ⟨hb1, hb2⟩, hf⟩ hfw ⟨v, u, rfl, hu, hr⟩
    obtain ⟨gf', lb', rfl⟩ := hr.func
    repeat' (first | go_values | gi_big_skip | (with_reducible refine And.intro (fun f _ => wideFn f) ?_) | (with_reducible refine And.intro (fun f _ => wideFnR _ f) ?_) | (with_reducible refine And.intro (wideFnR _ _) ?_) | (with_reducible refine And.intro (wideFn _) ?_) | gi_guarded | gi_step | gi_upon | dsimp only)
    exact ⟨Frm.refl _ _, trivial, _, rfl, rfl⟩
  case body =>
    rintro l' k W xs a1 W1 W2 hk ⟨⟨hj, hk'⟩, ⟨hb1, hb2⟩, hf⟩ hfw ⟨v, u, rfl, hu, hr⟩ hfa ⟨rfl, v', hv', rfl⟩ hl' hl'' hf2 ⟨r0, hr0⟩ _
    simp only [Array.mk.injEq, List.cons.injEq, and_true] at hv'
    subst hv'
    have hWs := hf.size
    have hne : ∀ i, i < w1.heap.size → ¬ One l' i := fun i hi e => by have e' : i = l' := e; omega
    have hA2 := hb1.frm hf2 (hne _ (by omega))
    have hK2 := hb2.frm hf2 (hne _ (by omega))
    have hn2 := (b2.frm hf (HB.out n h2)).frm hf2 (hne _ (by omega))
    have hj2 : J k W2 := HJ.out.frm hj hf2 (by omega) (fun i hi => hne i (by omega))
    have hfw2 : Frm S w W2 := hf.trans hf2 (fun i hi e => (hne i (by omega) e).elim)
    have cA := hA2.cell
    have cK := hK2.cell
    have zK := hK2.frozen
    have cN := hn2.cell
    have hr2 : URep (fun i => bx i ∨ w.heap.size ≤ i) W2 v u := hr.far hf2 (fun i e => by
      have e' : i = l' := e
      subst e'
      exact ⟨_, hr0, rfl⟩)
    by_cases hkc : k = cnt
    · subst hkc
      have e1 : ((k : Int) == (k : Int)) = true := by simp
      obtain ⟨gf', lb', rfl⟩ := hr.func
      clear hr hr2
      repeat' (first | go_values | gi_big_skip | (with_reducible refine And.intro (fun f _ => wideFn f) ?_) | (with_reducible refine And.intro (fun f _ => wideFnR _ f) ?_) | (with_reducible refine And.intro (wideFnR _ _) ?_) | (with_reducible refine And.intro (wideFn _) ?_) | gi_guarded | gi_step | gi_upon | dsimp only)
      exact ⟨Frm.refl _ _, ⟨rfl, .inl ⟨rfl, hj2⟩⟩, hfw2⟩
    · have hlt : k < cnt := by omega
      have e1 : ((k : Int) == (cnt : Int)) = false := by simp; omega
      obtain ⟨fn, tmps, assign, body, hy, hR⟩ := HY.out k W2 #[v] hlt hj2 hfw2 ⟨v, u, rfl, by rw [List.getElem?_take, if_pos hlt]; exact hu, hr2⟩
      obtain ⟨gf', lb', rfl⟩ := hr.func
      clear hr hr2
      repeat' (first | (refine (roundIn_wide hR).mono ?_; clear hR; rintro e W3 (⟨rfl, hJ3, hF3⟩ | ⟨rfl, hJx3, hF3⟩) <;> have hK3 := hK2.frm hF3 (fun h => by have := HS.out _ h; omega) <;> have hA3 := hA2.frm hF3 (fun h => by have := HS.out _ h; omega) <;> have cK3 := hK3.cell <;> have zK3 := hK3.frozen) | go_values | gi_big_skip | (with_reducible refine And.intro (fun f _ => wideFn f) ?_) | (with_reducible refine And.intro (fun f _ => wideFnR _ f) ?_) | (with_reducible refine And.intro (wideFnR _ _) ?_) | (with_reducible refine And.intro (wideFn _) ?_) | gi_guarded | gi_step | gi_upon | dsimp only)
      · have fs := (Frm.refl (fun i => S i ∨ i = w.heap.size + 1) W3).setCell (p := ⟨w.heap.size + 1, 0, none⟩) (.inr (.inr rfl)) (.int .i64 (k + 1))
        have fs' : Frm (One (w.heap.size + 1)) W3 (W3.setCell ⟨w.heap.size + 1, 0, none⟩ (.int .i64 (k + 1))) := frm_set _ _ _ _
        have hW3 := (hfw2.tr hF3).size
        refine ⟨(hF3.mono (fun _ _ h => .inl h)).tr fs, ⟨HJ.out.frm hJ3 fs' hW3 (fun i hi e => by have e' : i = w.heap.size + 1 := e; omega), by omega⟩, ⟨hA3.frm fs' (fun e => by have e' : w.heap.size = w.heap.size + 1 := e; omega), ?_⟩, (hfw2.tr hF3).setCell (.inl (by simp)) _⟩
        exact heap_setCell_same _ _ _ _ _ _ hK3
      · exact ⟨hF3.mono (fun _ _ h => .inl h), ⟨rfl, .inr ⟨by omega, by omega, hJx3⟩⟩, hfw2.tr hF3⟩
  case done =>
    rintro D W hD hfw ⟨⟨hj, hk⟩, _, hf⟩ hdef
    have hsz := hf.size
    have hn : us.length = cnt := by omega
    have hput : Frm S w (W.putObj D (.deferred none)) := hf.putObj (.inl (by omega)) _
    have hjp : J cnt (W.putObj D (.deferred none)) := by rw [← hn]; exact HJ.out.put _ hj hsz (by omega)
    have HF := Lib.hid (And.intro hput hjp); clear hput hjp
    have ht := Lib.hid (run_takeDeferred (P := Try.prog) hdef)
    clear hn hdef
    repeat' (first | go_values | gi_big_skip | (with_reducible refine And.intro (fun f _ => wideFn f) ?_) | (with_reducible refine And.intro (fun f _ => wideFnR _ f) ?_) | (with_reducible refine And.intro (wideFnR _ _) ?_) | (with_reducible refine And.intro (wideFn _) ?_) | gi_guarded | gi_step | gi_upon | dsimp only)
    refine ⟨by simp, .inl ⟨_, _, rfl, ht.out, ?_⟩⟩
    exact ⟨_, results_none rfl _ _ _, ⟨_, rfl⟩, HF.out.1, .inl HF.out.2⟩
  case stop =>
    rintro D c k W hD hk0 hkN hfw ⟨⟨rfl, h⟩, hf⟩ hdef
    have hsz := hf.size
    have hput : Frm S w (W.putObj D (.deferred none)) := hf.putObj (.inl (by omega)) _
    have hjp : J cnt (W.putObj D (.deferred none)) ∨ ∃ k, 0 < k ∧ k ≤ cnt ∧ Jx k (W.putObj D (.deferred none)) := by
      rcases h with ⟨_, h⟩ | ⟨h1', h2', h⟩
      · exact .inl (HJ.out.put _ h hsz (by omega))
      · exact .inr ⟨k, h1', h2', HJx.out.put _ h hsz (by omega)⟩
    have HF := Lib.hid (And.intro hput hjp); clear hput hjp
    have ht := Lib.hid (run_takeDeferred (P := Try.prog) hdef)
    clear hdef h
    repeat' (first | go_values | gi_big_skip | (with_reducible refine And.intro (fun f _ => wideFn f) ?_) | (with_reducible refine And.intro (fun f _ => wideFnR _ f) ?_) | (with_reducible refine And.intro (wideFnR _ _) ?_) | (with_reducible refine And.intro (wideFn _) ?_) | gi_guarded | gi_step | gi_upon | dsimp only)
    refine ⟨by simp, .inl ⟨_, _, rfl, ht.out, ?_⟩⟩
    exact ⟨_, results_none rfl _ _ _, ⟨_, rfl⟩, HF.out.1, HF.out.2⟩
end Go.Proofs.Ytlnelokpaccanaa
