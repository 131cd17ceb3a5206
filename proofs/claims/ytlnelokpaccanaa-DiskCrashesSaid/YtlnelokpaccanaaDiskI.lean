/- burn and do. -/
import Derived.Test.YtlnelokpaccanaaDiskH
import Derived.Deep.AppendLies
import Derived.Deep.RegionLaw
import Derived.Laws.EntriesVeiled
namespace Go.Proofs.Ytlnelokpaccanaa
open Go Go.RowKit Go.Tr
attribute [local go_sem] Oper.semAt_some
set_option linter.unusedVariables false

def burnN (D : DS) (u : Int) : Int := match D.fuse with | none => u | some k => min u k
def burnD (D : DS) (u : Int) : DS := match D.fuse with | none => D | some k => { D with fuse := some (k - min u k), down := decide (min u k < u) }

theorem heap_set {w : World} {g i : Nat} {cs : Array Value} {t : TypeId} (v : Value) (hg : w.heap[g]? = some (.cells cs t (0, 0))) : (w.setCell ⟨g, i, none⟩ v).heap[g]? = some (.cells (cs.setIfInBounds i v) t (0, 0)) := heap_setCell_same _ _ _ _ _ _ hg

/-- A disk whose cell of the flag 'down' turns. -/
theorem DRep.setDown {w : World} {b : Nat} {D : DS} {fp : List Nat} {bx : Nat → Prop} {s m : Nat} {sv fa : Value} {fl : List Nat} (h : DRep w b D fp bx s m sv fa fl) (d : Bool) :
    DRep (w.setCell ⟨b, 5, none⟩ (.bool d)) b { D with down := d } fp bx s m sv fa fl := by
  have hb : ∀ i, i ≠ b → ¬ One b i := fun i h => h
  have hf := frm_set w b 5 (.bool d)
  have ne1 : ∀ {i es c}, w.heap[i]? = some (.map es c) → i ≠ b := by
    rintro i es c h1 rfl
    rw [h.blk] at h1
    cases h1
  have ne2 : ∀ {i c t}, w.heap[i]? = some (.cells c t (0, 0)) → t ≠ 47 → i ≠ b := by
    rintro i c t h1 ht rfl
    rw [h.blk] at h1
    cases h1
    exact ht rfl
  have hbx : ∀ i, bx i → ¬ One b i := fun i hi e => by
    have e' : i = b := e
    subst e'
    exact h.off i (by rw [h.fp_eq]; simp) hi
  constructor
  · exact heap_set _ h.blk
  · exact h.syn.frm hf (by obtain ⟨es, c, h1, _⟩ := h.syn; exact ne1 h1)
  · exact h.seen.frm hf (by obtain ⟨es, c, h1, _⟩ := h.seen; exact ne1 h1)
  · exact h.ne
  · refine h.steps.frm hf (fun g hg => ?_) hbx
    obtain ⟨xs, ho, _⟩ := h.steps
    rcases ho.2 with ⟨h1, _⟩ | ⟨g', cap, cur, h1, _, h2, _⟩
    · rw [h1] at hg; cases hg
    · rw [h1] at hg
      injection hg with hg
      subst hg
      exact ne2 h2 (by decide)
  · refine h.fuse.frm hf (fun i hi => ?_)
    have hz := h.fuse
    cases hfz : D.fuse with
    | none => rw [hfz] at hz; rw [hz.2] at hi; simp at hi
    | some k =>
      rw [hfz] at hz
      obtain ⟨f, _, hb', hl, _⟩ := hz
      rw [hl] at hi
      simp at hi
      subst hi
      exact ne2 hb' (by decide)
  · exact h.fp_eq
  · exact h.off
  · exact fun i hi => by have := h.bxl i hi; simpa using this

/-- A disk whose fuse turns. -/
theorem DRep.setFuse {w : World} {b f : Nat} {D : DS} {k k' : Int} {fp : List Nat} {bx : Nat → Prop} {s m : Nat} {sv : Value} (h : DRep w b D fp bx s m sv (ptr f) [f]) (hk : D.fuse = some k) (h0 : 0 ≤ k') (h1 : k' ≤ 9223372036854775807) :
    DRep (w.setCell ⟨f, 0, none⟩ (.int .i64 k')) b { D with fuse := some k' } fp bx s m sv (ptr f) [f] := by
  have hz := h.fuse
  rw [hk] at hz
  obtain ⟨f', e1, hbf, _, _⟩ := hz
  have e2 : f = f' := by simpa [ptr] using e1
  subst e2
  have hf := frm_set w f 0 (.int .i64 k')
  have ne1 : ∀ {i es c}, w.heap[i]? = some (.map es c) → i ≠ f := by
    rintro i es c h1 rfl
    rw [show w.heap[i]? = _ from hbf] at h1
    cases h1
  have ne2 : ∀ {i c t}, w.heap[i]? = some (.cells c t (0, 0)) → t ≠ 3 → i ≠ f := by
    rintro i c t h1 ht rfl
    rw [show w.heap[i]? = _ from hbf] at h1
    cases h1
    exact ht rfl
  have hbx : ∀ i, bx i → ¬ One f i := fun i hi e => by
    have e' : i = f := e
    subst e'
    exact h.off i (by rw [h.fp_eq]; simp) hi
  constructor
  · exact hf.obj h.blk (ne2 h.blk (by decide))
  · exact h.syn.frm hf (by obtain ⟨es, c, h1, _⟩ := h.syn; exact ne1 h1)
  · exact h.seen.frm hf (by obtain ⟨es, c, h1, _⟩ := h.seen; exact ne1 h1)
  · exact h.ne
  · refine h.steps.frm hf (fun g hg => ?_) hbx
    obtain ⟨xs, ho, _⟩ := h.steps
    rcases ho.2 with ⟨h1, _⟩ | ⟨g', cap, cur, h1, _, h2, _⟩
    · rw [h1] at hg; cases hg
    · rw [h1] at hg
      injection hg with hg
      subst hg
      exact ne2 h2 (by decide)
  · exact ⟨f, rfl, heap_set _ hbf, rfl, h0, h1⟩
  · exact h.fp_eq
  · exact h.off
  · exact fun i hi => by have := h.bxl i hi; simpa using this

theorem burn_disk {w : World} {b : Nat} {D : DS} {fp : List Nat} {bx : Nat → Prop} {s m : Nat} {sv fa : Value} {fl : List Nat} (h : DRep w b D fp bx s m sv fa fl) (u : Int) (hu0 : 0 ≤ u) (hu1 : u ≤ 9223372036854775807) :
    Calls Try.prog 36 #[ptr b, .int .i64 u] w fun e w' => e = .returned (.int .i64 (burnN D u)) ∧ DRep w' b (burnD D u) fp bx s m sv fa fl ∧ Frm (fun i => i = b ∨ i ∈ fl) w w' := by
  have hz := h.fuse
  have hc := cells6 h.blk
  cases hfz : D.fuse with
  | none =>
    rw [hfz] at hz
    obtain ⟨rfl, rfl⟩ := hz
    refine (burn_none b u w hc.h4).mono ?_
    rintro e w' ⟨rfl, rfl⟩
    exact ⟨by simp [burnN, hfz], by simpa [burnD, hfz] using h, Frm.refl _ _⟩
  | some k =>
    rw [hfz] at hz
    obtain ⟨f, rfl, hbf, rfl, k0, k1⟩ := hz
    have hne : b ≠ f := by
      rintro rfl
      have := h.blk
      rw [show w.heap[b]? = _ from hbf] at this
      cases this
    refine (burn_some b f u k w hc.h4 D.down hc.h5 (frozen_of_row _ _ _ _ _ h.blk) hbf.cell hbf.frozen hne k0 k1 hu0 hu1).mono ?_
    rintro e w' ⟨rfl, rfl⟩
    refine ⟨by simp [burnN, hfz], ?_, ?_⟩
    · have := (h.setFuse (k' := k - min u k) hfz (by omega) (by omega)).setDown (decide (min u k < u))
      simpa [burnD, hfz] using this
    · exact ((Frm.refl (fun i => i = b ∨ i ∈ [f]) w).setCell (p := ⟨f, 0, none⟩) (.inr (by simp)) _).setCell (p := ⟨b, 5, none⟩) (.inr (by simp)) _
/-- Another map content, where nothing else has turned. -/
theorem DRep.setSeen {w w' : World} {b : Nat} {D : DS} {fp : List Nat} {bx : Nat → Prop} {s m : Nat} {sv fa : Value} {fl : List Nat} (h : DRep w b D fp bx s m sv fa fl) (hf : Frm (One m) w w') {L : Files} (hm : MapV w' m Value.string (encF L)) :
    DRep w' b { D with seen := L } fp bx s m sv fa fl := by
  have hmm : ∃ es c, w.heap[m]? = some (.map es c) := by obtain ⟨es, c, h1, _⟩ := h.seen; exact ⟨es, c, h1⟩
  obtain ⟨es, c, hm0⟩ := hmm
  have ne2 : ∀ {i c t}, w.heap[i]? = some (.cells c t (0, 0)) → ¬ One m i := by
    intro i c t h1 e
    have e' : i = m := e
    subst e'
    rw [hm0] at h1
    cases h1
  have hbx : ∀ i, bx i → ¬ One m i := fun i hi e => by
    have e' : i = m := e
    subst e'
    exact h.off i (by rw [h.fp_eq]; simp) hi
  constructor
  · exact hf.obj h.blk (ne2 h.blk)
  · exact h.syn.frm hf (fun e => h.ne e)
  · exact hm
  · exact h.ne
  · refine h.steps.frm hf (fun g hg => ?_) hbx
    obtain ⟨xs, ho, _⟩ := h.steps
    rcases ho.2 with ⟨h1, _⟩ | ⟨g', cap, cur, h1, _, h2, _⟩
    · rw [h1] at hg; cases hg
    · rw [h1] at hg
      injection hg with hg
      subst hg
      exact ne2 h2
  · refine h.fuse.frm hf (fun i hi => ?_)
    have hz := h.fuse
    cases hfz : D.fuse with
    | none => rw [hfz] at hz; rw [hz.2] at hi; simp at hi
    | some k =>
      rw [hfz] at hz
      obtain ⟨f, _, hb', hl, _⟩ := hz
      rw [hl] at hi
      simp at hi
      subst hi
      exact ne2 hb'
  · exact h.fp_eq
  · exact h.off
  · exact fun i hi => by have := h.bxl i hi; have := hf.size; omega

/-- Other steps: their array has turned, or is new, and the disk's cell is set. -/
theorem DRep.setSteps {w w5 : World} {b : Nat} {D : DS} {fp : List Nat} {bx : Nat → Prop} {s m : Nat} {sv fa : Value} {fl : List Nat} (h : DRep w b D fp bx s m sv fa fl) (hf : Frm (fun i => sv.ownBlock = some i) w w5)
    {st : List (List U)} {sv' : Value} (hst : Steps bx w5 sv' st) (hsv : ∀ g, sv'.ownBlock = some g → (sv.ownBlock = some g ∨ w.heap.size ≤ g)) :
    DRep (w5.setCell ⟨b, 3, none⟩ sv') b { D with steps := st } (b :: s :: m :: (sv'.ownBlock.toList ++ fl)) bx s m sv' fa fl := by
  have hgk : ∀ g, sv.ownBlock = some g → ∃ cur, w.heap[g]? = some (.cells cur 70 (0, 0)) := fun g hg => by
    obtain ⟨xs, ho, _⟩ := h.steps
    rcases ho.2 with ⟨h1, _⟩ | ⟨g', cap, cur, h1, _, h2, _⟩
    · rw [h1] at hg; cases hg
    · rw [h1] at hg
      injection hg with hg
      subst hg
      exact ⟨cur, h2⟩
  have hno : ∀ {i : Nat} {o : Obj}, w.heap[i]? = some o → (∀ cur, o ≠ .cells cur 70 (0, 0)) → ¬ sv.ownBlock = some i := fun {i o} ho hn e => by
    obtain ⟨cur, hc⟩ := hgk i e
    rw [ho] at hc
    injection hc with hc
    exact hn cur hc
  have hb5 : w5.heap[b]? = some (.cells #[.int .i64 D.room, .map (some s), .map (some m), sv, fa, .bool D.down] 47 (0, 0)) := hf.obj h.blk (hno h.blk (by intro cur e; cases e))
  have fb := frm_set w5 b 3 sv'
  have hmap : ∀ {i es c}, w.heap[i]? = some (.map es c) → ¬ sv.ownBlock = some i ∧ ¬ One b i := fun {i es c} hi => ⟨hno hi (by intro cur e; cases e), fun e => by
    have e' : i = b := e
    subst e'
    rw [h.blk] at hi
    cases hi⟩
  have hfz : ∀ i ∈ fl, ¬ sv.ownBlock = some i ∧ ¬ One b i := fun i hi => by
    have hz := h.fuse
    cases hfz : D.fuse with
    | none => rw [hfz] at hz; rw [hz.2] at hi; simp at hi
    | some k =>
      rw [hfz] at hz
      obtain ⟨f, _, hb', hl, _⟩ := hz
      rw [hl] at hi
      simp at hi
      subst hi
      refine ⟨hno hb' (by intro cur e; cases e), fun e => ?_⟩
      have e' : i = b := e
      subst e'
      have := h.blk
      rw [show w.heap[i]? = _ from hb'] at this
      cases this
  have hbx : ∀ i, bx i → ¬ One b i := fun i hi e => by
    have e' : i = b := e
    subst e'
    exact h.off i (by rw [h.fp_eq]; simp) hi
  constructor
  · exact heap_set _ hb5
  · obtain ⟨es, c, h1, _⟩ := h.syn
    exact (h.syn.frm hf (hmap h1).1).frm fb (hmap h1).2
  · obtain ⟨es, c, h1, _⟩ := h.seen
    exact (h.seen.frm hf (hmap h1).1).frm fb (hmap h1).2
  · exact h.ne
  · refine hst.frm fb (fun g hg e => ?_) hbx
    have e' : g = b := e
    subst e'
    obtain ⟨xs, ho, _⟩ := hst
    rcases ho.2 with ⟨h1, _⟩ | ⟨g', cap, cur, h1, _, h2, _⟩
    · rw [h1] at hg; cases hg
    · rw [h1] at hg
      injection hg with hg
      subst hg
      rw [hb5] at h2
      cases h2
  · exact (h.fuse.frm hf (fun i hi => (hfz i hi).1)).frm fb (fun i hi => (hfz i hi).2)
  · rfl
  · intro i hi
    simp only [List.mem_cons, List.mem_append, Option.mem_toList] at hi
    rcases hi with rfl | rfl | rfl | hi | hi
    · exact h.off _ (by rw [h.fp_eq]; simp)
    · exact h.off _ (by rw [h.fp_eq]; simp)
    · exact h.off _ (by rw [h.fp_eq]; simp)
    · rcases hsv i hi with h1 | h1
      · exact h.off _ (by rw [h.fp_eq, h1]; simp)
      · exact fun hb => by have := h.bxl i hb; omega
    · exact h.off _ (by rw [h.fp_eq]; simp [hi])
  · exact fun i hi => by have := h.bxl i hi; have := hf.size; simp; omega
end Go.Proofs.Ytlnelokpaccanaa
