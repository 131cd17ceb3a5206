/- All steps' units. -/
import Derived.Test.YtlnelokpaccanaaDiskE
import Derived.Laws.OwnMore
namespace Go.Proofs.Ytlnelokpaccanaa
open Go Go.RowKit Go.Tr
attribute [local go_sem] Oper.semAt_some
set_option linter.unusedVariables false

/-- The function value v goes over the units us. -/
def Each (bx : Nat → Prop) (w : World) (v : Value) (us : List U) : Prop :=
  Plain bx w v us ∨
  ∃ s n z ev us', ∃ cnt : Nat, bx s ∧ bx n ∧ w.heap[s]? = some (.cells #[z, ev] 70 (0, 0)) ∧ Box1 w n 3 (.int .i64 cnt) ∧ Plain bx w ev us' ∧ cnt ≤ 9223372036854775806 ∧ cnt ≤ us'.length ∧ v = .func (.func 58) #[] #[ptr s, ptr n] ∧ us = us'.take cnt
theorem Each.frm {bx : Nat → Prop} {w w' : World} {v : Value} {us : List U} (h : Each bx w v us) {S : Nat → Prop} (hf : Frm S w w') (hs : ∀ i, bx i → ¬ S i) : Each bx w' v us := by
  rcases h with h | ⟨s, n, z, ev, us', cnt, h1, h2, h3, h4, h5, r⟩
  · exact .inl (h.frm hf hs)
  · exact .inr ⟨s, n, z, ev, us', cnt, h1, h2, hf.obj h3 (hs _ h1), h4.frm hf (hs _ h2), h5.frm hf hs, r⟩
theorem Each.mono {bx bx' : Nat → Prop} {w : World} {v : Value} {us : List U} (h : Each bx w v us) (hs : ∀ i, bx i → bx' i) : Each bx' w v us := by
  rcases h with h | ⟨s, n, z, ev, us', cnt, h1, h2, h3, h4, h5, r⟩
  · exact .inl (h.mono hs)
  · exact .inr ⟨s, n, z, ev, us', cnt, hs _ h1, hs _ h2, h3, h4, h5.mono hs, r⟩
theorem Each.func {bx : Nat → Prop} {w : World} {v : Value} {us : List U} (h : Each bx w v us) : ∃ gf lb, v = .func (.func gf) #[] lb := by
  rcases h with (⟨ia, a, s, is, nm, str, _, _, _, _, _, _, _, rfl, _⟩ | ⟨q, uv, u, _, _, _, rfl, _⟩) | ⟨s, n, z, ev, us', cnt, _, _, _, _, _, _, _, rfl, _⟩ <;> exact ⟨_, _, rfl⟩
theorem each_iter {bx S : Nat → Prop} {w : World} {us : List U} {gf : FuncId} {lb : Array Value} (h : Each bx w (.func (.func gf) #[] lb) us) (hbS : ∀ i, bx i → ¬ S i) (hbl : ∀ i, bx i → i < w.heap.size) {B : Nat} (hB : B ≤ w.heap.size) :
    (∀ args w, (callFunc gf args).run Try.prog w = .ok (.enter gf args) w) ∧ IterC Try.prog gf lb w S us.length (okU bx B us) := by
  rcases h with h | ⟨s, n, z, ev, us', cnt, h1, h2, h3, h4, h5, h6, h7, he, rfl⟩
  · obtain ⟨gf', lb', he, eg, _⟩ := plain_iter h hbS
    injection he with e1 e2 e3
    injection e1 with e1
    subst e1
    exact ⟨eg, plain_iter' h hbS hB⟩
  · injection he with e1 e2 e3
    injection e1 with e1
    subst e1
    subst e3
    exact ⟨enters_of Try.func58 (by kernel_rfl) rfl, (first_iter h1 h2 h3 h4 h5 h6 h7 hbS hbl).mono (fun _ _ _ h => okU_mono hB h)⟩

/-- The slice sv holds steps: each its number of units, and a function value that goes over them. -/
def Steps (bx : Nat → Prop) (w : World) (sv : Value) (st : List (List U)) : Prop :=
  ∃ xs : List Value, w.ownsRow 0 70 2 sv st.length xs ∧ ∀ i us, st[i]? = some us → xs[2 * i]? = some (.int .i64 us.length) ∧ ∃ v, xs[2 * i + 1]? = some v ∧ Each bx w v us

/-- What deferred calls a function with ranges over functions has: marks of blocks that hold none. -/
def Marks (B T : Nat) (W : World) (ds : List Deferred) : Prop := (ds.map (·.target)).Pairwise (fun a b => ∀ D, a = .collected D → b ≠ .collected D) ∧
  ∀ d ∈ ds, ∃ D, d = { target := .collected D, args := #[] } ∧ B ≤ D ∧ D < T ∧ W.heap[D]? = some (.deferred (some []))
theorem Marks.nil (B T : Nat) (W : World) : Marks B T W [] := ⟨by simp, by simp⟩
theorem Marks.of {B T T' : Nat} {W W' : World} {ds : List Deferred} (h : Marks B T W ds) (hT : T ≤ T') (hf : ∀ i, B ≤ i → i < T → W.heap[i]? = some (.deferred (some [])) → W'.heap[i]? = W.heap[i]?) : Marks B T' W' ds :=
  ⟨h.1, fun d hd => by obtain ⟨D, h1, h2, h3, h4⟩ := h.2 d hd; exact ⟨D, h1, h2, by omega, (hf D h2 h3 h4).trans h4⟩⟩
theorem Marks.frm {B T T' : Nat} {S : Nat → Prop} {W W' : World} {ds : List Deferred} (h : Marks B T W ds) (hT : T ≤ T') (hf : Frm S W W') (hs : ∀ i, S i → i < B) : Marks B T' W' ds :=
  h.of hT (fun i h1 _ h3 => (hf.obj h3 (fun hx => by have := hs i hx; omega)).trans h3.symm)
theorem Marks.cons {B T T' D : Nat} {W : World} {ds : List Deferred} (h : Marks B T W ds) (hD : B ≤ D) (hT : T ≤ D) (hT' : D < T') (hd : W.heap[D]? = some (.deferred (some []))) : Marks B T' W ({ target := .collected D, args := #[] } :: ds) := by
  refine ⟨?_, ?_⟩
  · simp only [List.map_cons, List.pairwise_cons]
    refine ⟨fun t ht E hE => ?_, h.1⟩
    injection hE with hE
    subst hE
    obtain ⟨d, hd', rfl⟩ := List.mem_map.1 ht
    obtain ⟨D', rfl, _, h3, _⟩ := h.2 d hd'
    intro e
    injection e with e
    omega
  · intro d hm
    rcases List.mem_cons.1 hm with rfl | hm
    · exact ⟨D, rfl, hD, hT', hd⟩
    · obtain ⟨D', h1, h2, h3, h4⟩ := h.2 d hm
      exact ⟨D', h1, h2, by omega, h4⟩
theorem leaves_marks {fn : Func} {tmps : Array Value} {R : Ending → World → Prop} (hres : fn.results = #[]) {B T : Nat} : ∀ (ds : List Deferred) (W : World), Marks B T W ds →
    (∀ W', Frm (fun i => B ≤ i) W W' → R (.returned (.tuple #[])) W') → LeavesInM Fence.wide 9 Try.prog fn tmps R ds .returning W
  | [], W, _, hR => ⟨_, results_none hres _ _ _, hR W (Frm.refl _ _)⟩
  | d :: ds, W, hm, hR => by
    obtain ⟨D, rfl, hD, hT, hd⟩ := hm.2 d (by simp)
    refine ⟨by simp, .inl ⟨D, _, rfl, run_takeDeferred hd, ?_⟩⟩
    have hf : Frm (fun i => B ≤ i) W (W.putObj D (.deferred none)) := (Frm.refl (fun i => B ≤ i) W).putObj (.inr hD) _
    refine leaves_marks hres (T := T) ds _ ⟨?_, ?_⟩ (fun W' hf' => hR W' (hf.tr hf'))
    · have := hm.1
      simp only [List.map_cons, List.pairwise_cons] at this
      exact this.2
    · intro d' hd'
      obtain ⟨D', h1, h2, h3, h4⟩ := hm.2 d' (List.mem_cons_of_mem _ hd')
      refine ⟨D', h1, h2, h3, (World.putObj_heap_other ?_).trans h4⟩
      rintro rfl
      have := hm.1
      simp only [List.map_cons, List.pairwise_cons] at this
      exact this.1 d'.target (List.mem_map_of_mem hd') D' rfl (by rw [h1])
end Go.Proofs.Ytlnelokpaccanaa
