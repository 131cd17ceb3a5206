/- A range over a function, of whatever program: the iterator by its contract ('IterC'), the loop by one law, at an outermost loop and within a round. -/
import Derived.Test.YtlnelokpaccanaaBase
import Derived.RangeFuncNested
namespace Go.Tr
open Go Go.RowKit
set_option linter.unusedVariables false

theorem wideFn (f : FuncId) : Fence.wide.fn f := trivial
theorem wideFnR (l : Nat) (f : FuncId) : (Fence.wide.inRound l).fn f := trivial

/-- What J says hangs on blocks below B alone. -/
def Abid (B : Nat) (J : Nat → World → Prop) : Prop :=
  ∀ k W W', J k W → W'.os = W.os → W'.tape = W.tape → W'.output = W.output → W.heap.size ≤ W'.heap.size → (∀ i, i < B → W'.heap[i]? = W.heap[i]?) → J k W'

theorem Abid.frm {B : Nat} {J : Nat → World → Prop} (h : Abid B J) {S : Nat → Prop} {k : Nat} {W W' : World} (hj : J k W) (hf : Frm S W W') (hB : B ≤ W.heap.size) (hs : ∀ i, i < B → ¬ S i) : J k W' :=
  h k W W' hj hf.os hf.tape hf.output hf.size (fun i hi => hf.block i (by omega) (hs i hi))
theorem Abid.put {B : Nat} {J : Nat → World → Prop} (h : Abid B J) {k r : Nat} {W : World} (o : Obj) (hj : J k W) (hB : B ≤ W.heap.size) (hr : B ≤ r) : J k (W.putObj r o) :=
  h.frm hj (frm_put W r o) hB (fun i hi hx => by have : i = r := hx; omega)
theorem Abid.and {B : Nat} {J J' : Nat → World → Prop} (h : Abid B J) (h' : Abid B J') : Abid B (fun k W => J k W ∧ J' k W) :=
  fun k W W' ⟨a, b⟩ h1 h2 h3 h4 h5 => ⟨h k W W' a h1 h2 h3 h4 h5, h' k W W' b h1 h2 h3 h4 h5⟩
theorem Abid.pure (B : Nat) (p : Nat → Prop) : Abid B (fun k _ => p k) := fun _ _ _ h _ _ _ _ _ => h
theorem Abid.ex {α : Type} {B : Nat} {J : α → Nat → World → Prop} (h : ∀ x, Abid B (J x)) : Abid B (fun k W => ∃ x, J x k W) :=
  fun k W W' ⟨x, hx⟩ h1 h2 h3 h4 h5 => ⟨x, h x k W W' hx h1 h2 h3 h4 h5⟩
theorem Abid.frmOf {B : Nat} {S : Nat → Prop} (w : World) (hB : w.heap.size ≤ B) : Abid B (fun _ W => Frm S w W) :=
  fun k W W' h h1 h2 h3 h4 h5 => ⟨h1.trans h.os, h2.trans h.tape, h3.trans h.output, Nat.le_trans h.size h4, fun i hi hn => (h5 i (by omega)).trans (h.block i hi hn)⟩
theorem Abid.objOf {B b : Nat} (hb : b < B) (o : Nat → Obj) : Abid B (fun k W => W.heap[b]? = some (o k)) :=
  fun k W W' h _ _ _ _ h5 => (h5 b hb).trans h
theorem Abid.mono {B B' : Nat} {J : Nat → World → Prop} (h : Abid B J) (hB : B ≤ B') : Abid B' J := fun k W W' hj h1 h2 h3 h4 h5 => h k W W' hj h1 h2 h3 h4 (fun i hi => h5 i (by omega))
theorem Abid.mapV {κ : Type} {B b : Nat} (hb : b < B) (enc : κ → Value) (L : Nat → List (κ × Value)) : Abid B (fun k W => MapV W b enc (L k)) :=
  fun k W W' h _ _ _ _ h5 => h.of_block (h5 b hb)

theorem roundIn_wide {n m : Nat} {P : Program} {l : Nat} {f : FuncId} {tmps : Array Value} {assign body : Code} {w : World} {R : Ending → World → Prop}
    (h : RoundIn Fence.wide n P l f tmps assign body w R) : RoundIn Fence.wide m P l f tmps assign body w R := ⟨h.1, fun c cs _ => h.2 c cs (room_wide _)⟩
theorem callsIn_wide' {n m : Nat} {P : Program} {f : FuncId} {args : Array Value} {w : World} {R : Ending → World → Prop}
    (h : CallsIn Fence.wide n P f args w R) : CallsIn Fence.wide m P f args w R := callsIn_wide.2 (callsIn_wide.1 h)

/-- The iterator gf, holding lb: called in w it hands out N things, the k-th as 'ok k' says; the rounds may change the blocks of S. -/
def IterC (P : Program) (gf : FuncId) (lb : Array Value) (w : World) (S : Nat → Prop) (N : Nat) (ok : Nat → World → Array Value → Prop) : Prop :=
  ∀ (l : Nat) (J Jx : Nat → World → Prop), (∀ i, S i → i < w.heap.size) → Abid w.heap.size J → Abid w.heap.size Jx →
    (∀ k W xs, k < N → J k W → Frm S w W → ok k W xs → YieldAt Fence.wide 9 P l xs W fun e W' =>
      (e = .returned (.bool true) ∧ J (k + 1) W' ∧ Frm S W W') ∨ (e = .returned (.bool false) ∧ Jx (k + 1) W' ∧ Frm S W W')) →
    J 0 w →
    CallsIn Fence.wide 9 P gf (#[.func (.yield l) #[] #[]] ++ lb) w fun e W' => (∃ v, e = .returned v) ∧ Frm S w W' ∧ (J N W' ∨ ∃ k, 0 < k ∧ k ≤ N ∧ Jx k W')

theorem IterC.mono {P : Program} {gf : FuncId} {lb : Array Value} {w : World} {S : Nat → Prop} {N : Nat} {ok ok' : Nat → World → Array Value → Prop}
    (h : IterC P gf lb w S N ok) (ho : ∀ k W xs, ok k W xs → ok' k W xs) : IterC P gf lb w S N ok' :=
  fun l J Jx hS hJ hJx hY h0 => h l J Jx hS hJ hJx (fun k W xs hk hj hf hok => hY k W xs hk hj hf (ho k W xs hok)) h0

/-- How a round's body may be left. -/
def rpost (S : Nat → Prop) (I : Nat → World → Prop) (Ix : Code → Nat → World → Prop) (k : Nat) (W : World) : Exit → Act → World → Prop
  | .normal, _, W' => Frm S W W' ∧ I (k + 1) W'
  | .ret, _, W' => Frm S W W' ∧ Ix .ret (k + 1) W'
  | .exit id, _, W' => Frm S W W' ∧ Ix (.exit id) (k + 1) W'
  | .goto t, _, W' => Frm S W W' ∧ Ix (.goto t) (k + 1) W'
  | .panic _, _, _ => False
  | .outgrown, _, _ => False

theorem frm_old {S : Nat → Prop} {w W1 W : World} {T : Nat → Prop} (h1 : Frm Nil w W1) (h2 : Frm T W1 W) (hT : ∀ i, i < w.heap.size → T i → S i) : Frm S w W := (h1.nil (S := S)).trans h2 hT

section
variable {P : Program} {w : World} {n : Nat}

/-- **THE LAW AT AN OUTERMOST LOOP.** -/
theorem range_outer {g : Operand} {ps : Array Tmp} {assign body : Code} {Q : Exit → Act → World → Prop} {a : Act}
    {gf : FuncId} {lb : Array Value} (hg : a.eval g = .func (.func gf) #[] lb) (eg : ∀ args w, (callFunc gf args).run P w = .ok (.enter gf args) w)
    {S : Nat → Prop} {N : Nat} {ok : Nat → World → Array Value → Prop} (hS : ∀ i, S i → i < w.heap.size)
    (hit : ∀ W1, Frm Nil w W1 → W1.heap.size = w.heap.size + 2 → IterC P gf lb W1 (fun i => S i ∨ i = w.heap.size ∨ i = w.heap.size + 1) N ok)
    (I : Nat → World → Prop) (Ix : Code → Nat → World → Prop) (hI : Abid w.heap.size I) (hIx : ∀ c, Abid w.heap.size (Ix c)) (h0 : I 0 w)
    (hps : ∀ k W xs, ok k W xs → xs.size = ps.size)
    (A : Nat → Array Value → World → Act → World → Prop)
    (hassign : ∀ l k W xs, k < N → I k W → Frm S w W → ok k W xs →
      assign.wpIn (Fence.wide.inRound l) 9 P (Exit.then (fun a1 W1 => Frm Nil W W1 ∧ A k xs W a1 W1) (fun _ _ _ => False)) { tmps := (ps.zip xs).foldl (fun t (p, v) => t.setIfInBounds p v) a.tmps, defers := [] } W)
    (hbody : ∀ l k W xs a1 W1 W2, k < N → I k W → Frm S w W → ok k W xs → Frm Nil W W1 → A k xs W a1 W1 → w.heap.size < l → l < W.heap.size → Frm (One l) W1 W2 → (∃ r, W1.heap[l]? = some (.loop r)) → (∃ r, W2.heap[l]? = some (.loop r)) →
      body.wpIn (Fence.wide.inRound l) 9 P (rpost S I Ix k W2) a1 W2)
    (hdone : ∀ D W, w.heap.size ≤ D → Frm S w W → I N W → W.heap[D]? = some (.deferred (some [])) → Q .normal { a with defers := { target := .collected D, args := #[] } :: a.defers } W)
    (hstop : ∀ D c k W, w.heap.size ≤ D → 0 < k → k ≤ N → Frm S w W → Ix c k W → W.heap[D]? = some (.deferred (some [])) → c.wpIn Fence.wide n P Q { a with defers := { target := .collected D, args := #[] } :: a.defers } W) :
    (Code.rangeFunc g ps assign body).wpIn Fence.wide n P Q a w := by
  refine wpIn_rangeFunc ?_
  intro fn hfn
  obtain ⟨rec, hrec⟩ : ∃ rec : LoopState → Option Code → Loop, rec = fun st pe => { state := st, pending := pe, fn, tmps := a.tmps, params := ps, assign, body, defers := w.heap.size } := ⟨_, rfl⟩
  obtain ⟨W1, hW1⟩ : ∃ W1, (w.alloc (.deferred (some []))).alloc (.loop (rec .ready none)) = W1 := ⟨_, rfl⟩
  have hs1 : W1.heap.size = w.heap.size + 2 := by rw [← hW1]; simp
  have hL1 : W1.heap[w.heap.size + 1]? = some (.loop (rec .ready none)) := by
    rw [← hW1]; have := World.alloc_heap_new (w.alloc (.deferred (some []))) (.loop (rec .ready none)); rwa [World.size_alloc] at this
  have hK1 : W1.heap[w.heap.size]? = some (.deferred (some [])) := by
    rw [← hW1]; exact (Below.heap_alloc _ _ _ (by simp)).trans (World.alloc_heap_new w _)
  have hf1 : Frm Nil w W1 := by rw [← hW1]; exact ((Frm.refl _ w).alloc _).alloc _
  have hI1 : I 0 W1 := hI.frm h0 hf1 (Nat.le_refl _) (fun _ _ x => x)
  refine ⟨w.heap.size + 1, [{ target := .collected w.heap.size, args := #[] }], W1, { target := .fn (.func gf) lb, args := #[.func (.yield (w.heap.size + 1)) #[] #[]] }, W1, gf,
    #[.func (.yield (w.heap.size + 1)) #[] #[]] ++ lb, W1, ?_, ?_, ?_, ?_, (fun h => by simp [Fence.wide] at h), ?_⟩
  · rw [← hW1, hrec]; exact run_enterLoop_outer _ _ _ _ _
  · simp only [resolve, hg]
    simp [go_sem]
  · intro f' hf'; trivial
  · simp [invoke, go_sem, eg]
  · refine callsIn_wide' ((hit W1 hf1 hs1 (w.heap.size + 1)
      (fun k W => I k W ∧ W.heap[w.heap.size + 1]? = some (.loop (rec .ready none)) ∧ W.heap[w.heap.size]? = some (.deferred (some [])))
      (fun k W => ∃ c, Ix c k W ∧ W.heap[w.heap.size + 1]? = some (.loop (rec .done (some c))) ∧ W.heap[w.heap.size]? = some (.deferred (some [])))
      (fun i hi => by rcases hi with hi | rfl | rfl
                      · have := hS i hi; omega
                      · omega
                      · omega)
      ((hI.mono (by omega)).and ((Abid.objOf (by omega) (fun _ => .loop (rec .ready none))).and (Abid.objOf (by omega) (fun _ => .deferred (some [])))))
      (Abid.ex fun c => ((hIx c).mono (by omega)).and ((Abid.objOf (by omega) (fun _ => .loop (rec .done (some c)))).and (Abid.objOf (by omega) (fun _ => .deferred (some [])))))
      ?_ ⟨hI1, hL1, hK1⟩).mono ?_)
    · rintro k W xs hk ⟨hi, hl, hK⟩ hfW hok
      have hfw : Frm S w W := frm_old hf1 hfW (fun i hi hx => by rcases hx with hx | rfl | rfl
                                                                 · exact hx
                                                                 · omega
                                                                 · omega)
      have hsz : w.heap.size + 2 ≤ W.heap.size := by have := hfW.size; omega
      have hy := run_yield (P := P) (args := xs) hl (by rw [hrec]; exact hps k W xs hok)
      rw [hrec] at hy
      refine ⟨fn, _, assign, body, hy, ?_⟩
      have hRI := roundIn_of_wpIn (F := Fence.wide) (n := 9) (l := w.heap.size + 1) (f := fn) (P := P) (body := body) (R := fun e W' =>
        (e = .returned (.bool true) ∧ (I (k + 1) W' ∧ W'.heap[w.heap.size + 1]? = some (.loop (rec .ready none)) ∧ W'.heap[w.heap.size]? = some (.deferred (some []))) ∧ Frm (fun i => S i ∨ i = w.heap.size ∨ i = w.heap.size + 1) W W') ∨
        (e = .returned (.bool false) ∧ (∃ c, Ix c (k + 1) W' ∧ W'.heap[w.heap.size + 1]? = some (.loop (rec .done (some c))) ∧ W'.heap[w.heap.size]? = some (.deferred (some []))) ∧ Frm (fun i => S i ∨ i = w.heap.size ∨ i = w.heap.size + 1) W W'))
        hfn (wpIn_mono (hassign (w.heap.size + 1) k W xs hk hi hfw hok) ?_)
      · exact hRI
      rintro e a1 Wa hE
      cases e with
      | normal =>
        obtain ⟨hfa, hA⟩ := hE
        have hla := hfa.objN hl
        have hKa := hfa.objN hK
        have hltA : w.heap.size + 1 < Wa.heap.size := lt_of_obj hla
        refine ⟨_, run_beginRound hla (by rw [hrec]), ?_⟩
        have hl2 : (Wa.putObj (w.heap.size + 1) (.loop { rec .ready none with state := .busy })).heap[w.heap.size + 1]? = some (.loop { rec .ready none with state := .busy }) := World.putObj_heap_same hltA
        have hK2 : (Wa.putObj (w.heap.size + 1) (.loop { rec .ready none with state := .busy })).heap[w.heap.size]? = some (.deferred (some [])) := (World.putObj_heap_other (by omega)).trans hKa
        have hf2 : Frm (One (w.heap.size + 1)) Wa (Wa.putObj (w.heap.size + 1) (.loop { rec .ready none with state := .busy })) := frm_put _ _ _
        have hWf : Frm (fun i => S i ∨ i = w.heap.size ∨ i = w.heap.size + 1) W (Wa.putObj (w.heap.size + 1) (.loop { rec .ready none with state := .busy })) :=
          (hfa.nil (S := fun i => S i ∨ i = w.heap.size ∨ i = w.heap.size + 1)).trans hf2 (fun i _ hx => .inr (.inr hx))
        have hnS : ∀ i, w.heap.size ≤ i → ¬ S i := fun i hi hx => by have := hS i hx; omega
        refine wpIn_mono (hbody (w.heap.size + 1) k W xs a1 Wa _ hk hi hfw hok hfa hA (by omega) (by omega) hf2 ⟨_, hla⟩ ⟨_, hl2⟩) ?_
        have fin : ∀ (jump : Option Code) (W3 : World), Frm S (Wa.putObj (w.heap.size + 1) (.loop { rec .ready none with state := .busy })) W3 →
            (Instr.endRound (w.heap.size + 1) jump).run P W3 = .ok (.bool jump.isNone) (W3.putObj (w.heap.size + 1) (.loop (rec (if jump.isNone then .ready else .done) jump))) ∧
            (W3.putObj (w.heap.size + 1) (.loop (rec (if jump.isNone then .ready else .done) jump))).heap[w.heap.size + 1]? = some (.loop (rec (if jump.isNone then .ready else .done) jump)) ∧
            (W3.putObj (w.heap.size + 1) (.loop (rec (if jump.isNone then .ready else .done) jump))).heap[w.heap.size]? = some (.deferred (some [])) ∧
            Frm (fun i => S i ∨ i = w.heap.size ∨ i = w.heap.size + 1) W (W3.putObj (w.heap.size + 1) (.loop (rec (if jump.isNone then .ready else .done) jump))) := fun jump W3 h3 => by
          have hl3 := h3.obj hl2 (hnS _ (by omega))
          have hK3 := h3.obj hK2 (hnS _ (by omega))
          have := run_endRound (P := P) jump hl3
          rw [hrec] at this ⊢
          exact ⟨this, World.putObj_heap_same (lt_of_obj hl3), (World.putObj_heap_other (by omega)).trans hK3, (hWf.trans h3 (fun i _ hx => .inl hx)).putObj (.inr (.inr (.inr rfl))) _⟩
        rintro e a3 W3 hp
        cases e with
        | normal =>
          obtain ⟨h3, hi3⟩ := hp
          obtain ⟨hr, hl4, hK4, hf4⟩ := fin none W3 h3
          have hz3 : w.heap.size ≤ W3.heap.size := Nat.le_trans (by simp; omega) h3.size
          exact ⟨_, _, hr, .inl ⟨rfl, ⟨hI.put _ hi3 hz3 (by omega), hl4, hK4⟩, hf4⟩⟩
        | ret =>
          obtain ⟨h3, hi3⟩ := hp
          obtain ⟨hr, hl4, hK4, hf4⟩ := fin (some .ret) W3 h3
          have hz3 : w.heap.size ≤ W3.heap.size := Nat.le_trans (by simp; omega) h3.size
          exact ⟨_, _, hr, .inr ⟨rfl, ⟨.ret, (hIx _).put _ hi3 hz3 (by omega), hl4, hK4⟩, hf4⟩⟩
        | exit id =>
          obtain ⟨h3, hi3⟩ := hp
          obtain ⟨hr, hl4, hK4, hf4⟩ := fin (some (.exit id)) W3 h3
          have hz3 : w.heap.size ≤ W3.heap.size := Nat.le_trans (by simp; omega) h3.size
          exact ⟨_, _, hr, .inr ⟨rfl, ⟨.exit id, (hIx _).put _ hi3 hz3 (by omega), hl4, hK4⟩, hf4⟩⟩
        | goto t =>
          obtain ⟨h3, hi3⟩ := hp
          obtain ⟨hr, hl4, hK4, hf4⟩ := fin (some (.goto t)) W3 h3
          have hz3 : w.heap.size ≤ W3.heap.size := Nat.le_trans (by simp; omega) h3.size
          exact ⟨_, _, hr, .inr ⟨rfl, ⟨.goto t, (hIx _).put _ hi3 hz3 (by omega), hl4, hK4⟩, hf4⟩⟩
        | panic ch => exact hp.elim
        | outgrown => exact hp.elim
      | exit id => exact hE.elim
      | goto t => exact hE.elim
      | ret => exact hE.elim
      | panic ch => exact hE.elim
      | outgrown => exact hE.elim
    · rintro e W2 ⟨⟨v, rfl⟩, hf2, hend⟩
      have hfw : Frm S w W2 := frm_old hf1 hf2 (fun i hi hx => by rcases hx with hx | rfl | rfl
                                                                  · exact hx
                                                                  · omega
                                                                  · omega)
      have hle : w.heap.size ≤ W2.heap.size := hfw.size
      have hput : ∀ o, Frm S w (W2.putObj (w.heap.size + 1) o) := fun o => hfw.putObj (.inl (by omega)) o
      rcases hend with ⟨hi, hl, hk⟩ | ⟨k, hk0, hkN, c, hi, hl, hk⟩
      · exact ⟨none, _, by have := run_endLoop (P := P) hl (by rw [hrec]; simp); rw [hrec] at this; exact this, hdone _ _ (Nat.le_refl _) (hput _) (hI.put _ hi hle (by omega)) ((World.putObj_heap_other (by omega)).trans hk)⟩
      · exact ⟨some c, _, by have := run_endLoop (P := P) hl (by rw [hrec]; simp); rw [hrec] at this; exact this, hstop _ c k _ (Nat.le_refl _) hk0 hkN (hput _) ((hIx c).put _ hi hle (by omega)) ((World.putObj_heap_other (by omega)).trans hk)⟩

/-- **THE LAW WITHIN A ROUND OF ANOTHER LOOP.** -/
theorem range_inner {l0 : Nat} {r0 : Loop} (hr0 : w.heap[l0]? = some (.loop r0)) {g : Operand} {ps : Array Tmp} {assign body : Code} {Q : Exit → Act → World → Prop} {a : Act}
    {gf : FuncId} {lb : Array Value} (hg : a.eval g = .func (.func gf) #[] lb) (eg : ∀ args w, (callFunc gf args).run P w = .ok (.enter gf args) w)
    {S : Nat → Prop} {N : Nat} {ok : Nat → World → Array Value → Prop} (hS : ∀ i, S i → i < w.heap.size)
    (hit : ∀ W1, Frm Nil w W1 → W1.heap.size = w.heap.size + 1 → IterC P gf lb W1 (fun i => S i ∨ i = w.heap.size) N ok)
    (I : Nat → World → Prop) (Ix : Code → Nat → World → Prop) (hI : Abid w.heap.size I) (hIx : ∀ c, Abid w.heap.size (Ix c)) (h0 : I 0 w)
    (hps : ∀ k W xs, ok k W xs → xs.size = ps.size)
    (A : Nat → Array Value → World → Act → World → Prop)
    (hassign : ∀ l k W xs, k < N → I k W → Frm S w W → ok k W xs →
      assign.wpIn (Fence.wide.inRound l) 9 P (Exit.then (fun a1 W1 => Frm Nil W W1 ∧ A k xs W a1 W1) (fun _ _ _ => False)) { tmps := (ps.zip xs).foldl (fun t (p, v) => t.setIfInBounds p v) a.tmps, defers := [] } W)
    (hbody : ∀ l k W xs a1 W1 W2, k < N → I k W → Frm S w W → ok k W xs → Frm Nil W W1 → A k xs W a1 W1 → w.heap.size ≤ l → l < W.heap.size → Frm (One l) W1 W2 → (∃ r, W1.heap[l]? = some (.loop r)) → (∃ r, W2.heap[l]? = some (.loop r)) →
      body.wpIn (Fence.wide.inRound l) 9 P (rpost S I Ix k W2) a1 W2)
    (hdone : ∀ W, Frm S w W → I N W → Q .normal a W)
    (hstop : ∀ c k W, 0 < k → k ≤ N → Frm S w W → Ix c k W → c.wpIn (Fence.wide.inRound l0) n P Q a W) :
    (Code.rangeFunc g ps assign body).wpIn (Fence.wide.inRound l0) n P Q a w := by
  refine wpIn_rangeFunc ?_
  intro fn hfn
  obtain ⟨rec, hrec⟩ : ∃ rec : LoopState → Option Code → Loop, rec = fun st pe => { state := st, pending := pe, fn, tmps := a.tmps, params := ps, assign, body, defers := r0.defers } := ⟨_, rfl⟩
  obtain ⟨W1, hW1⟩ : ∃ W1, w.alloc (.loop (rec .ready none)) = W1 := ⟨_, rfl⟩
  have hs1 : W1.heap.size = w.heap.size + 1 := by rw [← hW1]; simp
  have hL1 : W1.heap[w.heap.size]? = some (.loop (rec .ready none)) := by
    rw [← hW1]; exact World.alloc_heap_new w (.loop (rec .ready none))
  have hf1 : Frm Nil w W1 := by rw [← hW1]; exact (Frm.refl _ w).alloc _
  have hI1 : I 0 W1 := hI.frm h0 hf1 (Nat.le_refl _) (fun _ _ x => x)
  refine ⟨w.heap.size, [], W1, { target := .fn (.func gf) lb, args := #[.func (.yield (w.heap.size)) #[] #[]] }, W1, gf,
    #[.func (.yield (w.heap.size)) #[] #[]] ++ lb, W1, ?_, ?_, ?_, ?_, (fun h => by simp [Fence.wide] at h), ?_⟩
  · rw [← hW1, hrec]; exact run_enterLoop_inner hr0 _ _ _ _ _
  · simp only [resolve, hg]
    simp [go_sem]
  · intro f' hf'; trivial
  · simp [invoke, go_sem, eg]
  · refine CallsIn.inRound l0 (callsIn_wide' ((hit W1 hf1 hs1 (w.heap.size)
      (fun k W => I k W ∧ W.heap[w.heap.size]? = some (.loop (rec .ready none)))
      (fun k W => ∃ c, Ix c k W ∧ W.heap[w.heap.size]? = some (.loop (rec .done (some c))))
      (fun i hi => by rcases hi with hi | rfl
                      · have := hS i hi; omega
                      · omega)
      ((hI.mono (by omega)).and (Abid.objOf (by omega) (fun _ => .loop (rec .ready none))))
      (Abid.ex fun c => ((hIx c).mono (by omega)).and (Abid.objOf (by omega) (fun _ => .loop (rec .done (some c)))))
      ?_ ⟨hI1, hL1⟩).mono ?_))
    · rintro k W xs hk ⟨hi, hl⟩ hfW hok
      have hfw : Frm S w W := frm_old hf1 hfW (fun i hi hx => by rcases hx with hx | rfl
                                                                 · exact hx
                                                                 · omega)
      have hsz : w.heap.size + 1 ≤ W.heap.size := by have := hfW.size; omega
      have hy := run_yield (P := P) (args := xs) hl (by rw [hrec]; exact hps k W xs hok)
      rw [hrec] at hy
      refine ⟨fn, _, assign, body, hy, ?_⟩
      have hRI := roundIn_of_wpIn (F := Fence.wide) (n := 9) (l := w.heap.size) (f := fn) (P := P) (body := body) (R := fun e W' =>
        (e = .returned (.bool true) ∧ (I (k + 1) W' ∧ W'.heap[w.heap.size]? = some (.loop (rec .ready none))) ∧ Frm (fun i => S i ∨ i = w.heap.size) W W') ∨
        (e = .returned (.bool false) ∧ (∃ c, Ix c (k + 1) W' ∧ W'.heap[w.heap.size]? = some (.loop (rec .done (some c)))) ∧ Frm (fun i => S i ∨ i = w.heap.size) W W'))
        hfn (wpIn_mono (hassign (w.heap.size) k W xs hk hi hfw hok) ?_)
      · exact hRI
      rintro e a1 Wa hE
      cases e with
      | normal =>
        obtain ⟨hfa, hA⟩ := hE
        have hla := hfa.objN hl
        have hltA : w.heap.size < Wa.heap.size := lt_of_obj hla
        refine ⟨_, run_beginRound hla (by rw [hrec]), ?_⟩
        have hl2 : (Wa.putObj (w.heap.size) (.loop { rec .ready none with state := .busy })).heap[w.heap.size]? = some (.loop { rec .ready none with state := .busy }) := World.putObj_heap_same hltA
        have hf2 : Frm (One (w.heap.size)) Wa (Wa.putObj (w.heap.size) (.loop { rec .ready none with state := .busy })) := frm_put _ _ _
        have hWf : Frm (fun i => S i ∨ i = w.heap.size) W (Wa.putObj (w.heap.size) (.loop { rec .ready none with state := .busy })) :=
          (hfa.nil (S := fun i => S i ∨ i = w.heap.size)).trans hf2 (fun i _ hx => .inr hx)
        have hnS : ∀ i, w.heap.size ≤ i → ¬ S i := fun i hi hx => by have := hS i hx; omega
        refine wpIn_mono (hbody (w.heap.size) k W xs a1 Wa _ hk hi hfw hok hfa hA (by omega) (by omega) hf2 ⟨_, hla⟩ ⟨_, hl2⟩) ?_
        have fin : ∀ (jump : Option Code) (W3 : World), Frm S (Wa.putObj (w.heap.size) (.loop { rec .ready none with state := .busy })) W3 →
            (Instr.endRound (w.heap.size) jump).run P W3 = .ok (.bool jump.isNone) (W3.putObj (w.heap.size) (.loop (rec (if jump.isNone then .ready else .done) jump))) ∧
            (W3.putObj (w.heap.size) (.loop (rec (if jump.isNone then .ready else .done) jump))).heap[w.heap.size]? = some (.loop (rec (if jump.isNone then .ready else .done) jump)) ∧
            Frm (fun i => S i ∨ i = w.heap.size) W (W3.putObj (w.heap.size) (.loop (rec (if jump.isNone then .ready else .done) jump))) := fun jump W3 h3 => by
          have hl3 := h3.obj hl2 (hnS _ (by omega))
          have := run_endRound (P := P) jump hl3
          rw [hrec] at this ⊢
          exact ⟨this, World.putObj_heap_same (lt_of_obj hl3), (hWf.trans h3 (fun i _ hx => .inl hx)).putObj (.inr (.inr rfl)) _⟩
        rintro e a3 W3 hp
        cases e with
        | normal =>
          obtain ⟨h3, hi3⟩ := hp
          obtain ⟨hr, hl4, hf4⟩ := fin none W3 h3
          have hz3 : w.heap.size ≤ W3.heap.size := Nat.le_trans (by simp; omega) h3.size
          exact ⟨_, _, hr, .inl ⟨rfl, ⟨hI.put _ hi3 hz3 (by omega), hl4⟩, hf4⟩⟩
        | ret =>
          obtain ⟨h3, hi3⟩ := hp
          obtain ⟨hr, hl4, hf4⟩ := fin (some .ret) W3 h3
          have hz3 : w.heap.size ≤ W3.heap.size := Nat.le_trans (by simp; omega) h3.size
          exact ⟨_, _, hr, .inr ⟨rfl, ⟨.ret, (hIx _).put _ hi3 hz3 (by omega), hl4⟩, hf4⟩⟩
        | exit id =>
          obtain ⟨h3, hi3⟩ := hp
          obtain ⟨hr, hl4, hf4⟩ := fin (some (.exit id)) W3 h3
          have hz3 : w.heap.size ≤ W3.heap.size := Nat.le_trans (by simp; omega) h3.size
          exact ⟨_, _, hr, .inr ⟨rfl, ⟨.exit id, (hIx _).put _ hi3 hz3 (by omega), hl4⟩, hf4⟩⟩
        | goto t =>
          obtain ⟨h3, hi3⟩ := hp
          obtain ⟨hr, hl4, hf4⟩ := fin (some (.goto t)) W3 h3
          have hz3 : w.heap.size ≤ W3.heap.size := Nat.le_trans (by simp; omega) h3.size
          exact ⟨_, _, hr, .inr ⟨rfl, ⟨.goto t, (hIx _).put _ hi3 hz3 (by omega), hl4⟩, hf4⟩⟩
        | panic ch => exact hp.elim
        | outgrown => exact hp.elim
      | exit id => exact hE.elim
      | goto t => exact hE.elim
      | ret => exact hE.elim
      | panic ch => exact hE.elim
      | outgrown => exact hE.elim
    · rintro e W2 ⟨⟨v, rfl⟩, hf2, hend⟩
      have hfw : Frm S w W2 := frm_old hf1 hf2 (fun i hi hx => by rcases hx with hx | rfl
                                                                  · exact hx
                                                                  · omega)
      have hle : w.heap.size ≤ W2.heap.size := hfw.size
      have hput : ∀ o, Frm S w (W2.putObj (w.heap.size) o) := fun o => hfw.putObj (.inl (by omega)) o
      rcases hend with ⟨hi, hl⟩ | ⟨k, hk0, hkN, c, hi, hl⟩
      · exact ⟨none, _, by have := run_endLoop (P := P) hl (by rw [hrec]; simp); rw [hrec] at this; exact this, hdone _ (hput _) (hI.put _ hi hle (by omega))⟩
      · exact ⟨some c, _, by have := run_endLoop (P := P) hl (by rw [hrec]; simp); rw [hrec] at this; exact this, hstop c k _ hk0 hkN (hput _) ((hIx c).put _ hi hle (by omega))⟩
end
end Go.Tr
