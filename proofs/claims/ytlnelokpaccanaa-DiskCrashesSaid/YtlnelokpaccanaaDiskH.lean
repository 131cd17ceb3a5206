/- The disk as it lies in memory; once, first. -/
import Derived.Test.YtlnelokpaccanaaDiskG
namespace Go.Proofs.Ytlnelokpaccanaa
open Go Go.RowKit Go.Tr
set_option linter.unusedVariables false

structure DS where
  room : Int
  syn : Files
  seen : Files
  steps : List (List U)
  fuse : Option Int
  down : Bool

/-- The fuse's box. -/
def FuseR (w : World) : Value → Option Int → List Nat → Prop
  | fa, none, l => fa = .pointer none ∧ l = []
  | fa, some k, l => ∃ f, fa = ptr f ∧ Box1 w f 3 (.int .i64 k) ∧ l = [f] ∧ 0 ≤ k ∧ k ≤ 9223372036854775807

theorem FuseR.frm {S : Nat → Prop} {w w' : World} {fa : Value} {fz : Option Int} {l : List Nat} (h : FuseR w fa fz l) (hf : Frm S w w') (hs : ∀ i ∈ l, ¬ S i) : FuseR w' fa fz l := by
  cases fz with
  | none => exact h
  | some k =>
    obtain ⟨f, h1, h2, h3, h4⟩ := h
    exact ⟨f, h1, h2.frm hf (hs f (by rw [h3]; simp)), h3, h4⟩

theorem own_frm {S : Nat → Prop} {w w' : World} {base : Nat} {e : TypeId} {size : Nat} {v : Value} {n : Nat} {xs : List Value} (h : w.ownsRow base e size v n xs) (hf : Frm S w w') (hs : ∀ g, v.ownBlock = some g → ¬ S g) : w'.ownsRow base e size v n xs := by
  refine ⟨h.1, ?_⟩
  rcases h.2 with h2 | ⟨g, cap, cur, rfl, hb, hg, r⟩
  · exact .inl h2
  · exact .inr ⟨g, cap, cur, rfl, hb, hf.obj hg (hs g rfl), r⟩
theorem Steps.frm {bx S : Nat → Prop} {w w' : World} {sv : Value} {st : List (List U)} (h : Steps bx w sv st) (hf : Frm S w w') (hs : ∀ g, sv.ownBlock = some g → ¬ S g) (hb : ∀ i, bx i → ¬ S i) : Steps bx w' sv st := by
  obtain ⟨xs, h1, h2⟩ := h
  refine ⟨xs, own_frm h1 hf hs, fun i us hi => ?_⟩
  obtain ⟨h3, v, h4, h5⟩ := h2 i us hi
  exact ⟨h3, v, h4, h5.frm hf hb⟩
theorem Steps.mono {bx bx' : Nat → Prop} {w : World} {sv : Value} {st : List (List U)} (h : Steps bx w sv st) (hb : ∀ i, bx i → bx' i) : Steps bx' w sv st := by
  obtain ⟨xs, h1, h2⟩ := h
  refine ⟨xs, h1, fun i us hi => ?_⟩
  obtain ⟨h3, v, h4, h5⟩ := h2 i us hi
  exact ⟨h3, v, h4, h5.mono hb⟩
theorem Steps.nil (bx : Nat → Prop) (w : World) : Steps bx w (.slice none 0 0) [] := ⟨[], World.ownsRow_nil _ _ _ _, by simp⟩

/-- The blocks of a disk that may turn: its own, the two maps', the steps' array, the fuse. -/
structure DRep (w : World) (b : Nat) (D : DS) (fp : List Nat) (bx : Nat → Prop) (s m : Nat) (sv fa : Value) (fl : List Nat) : Prop where
  blk : w.heap[b]? = some (.cells #[.int .i64 D.room, .map (some s), .map (some m), sv, fa, .bool D.down] 47 (0, 0))
  syn : MapV w s Value.string (encF D.syn)
  seen : MapV w m Value.string (encF D.seen)
  ne : s ≠ m
  steps : Steps bx w sv D.steps
  fuse : FuseR w fa D.fuse fl
  fp_eq : fp = b :: s :: m :: (sv.ownBlock.toList ++ fl)
  off : ∀ i ∈ fp, ¬ bx i
  bxl : ∀ i, bx i → i < w.heap.size

/-- Block b is a disk that is D. -/
def Disk (w : World) (b : Nat) (D : DS) (fp : List Nat) (bx : Nat → Prop) : Prop := ∃ s m sv fa fl, DRep w b D fp bx s m sv fa fl

theorem DRep.frm {S : Nat → Prop} {w w' : World} {b : Nat} {D : DS} {fp : List Nat} {bx : Nat → Prop} {s m : Nat} {sv fa : Value} {fl : List Nat} (h : DRep w b D fp bx s m sv fa fl) (hf : Frm S w w') (hs : ∀ i ∈ fp, ¬ S i) (hb : ∀ i, bx i → ¬ S i) :
    DRep w' b D fp bx s m sv fa fl where
  blk := hf.obj h.blk (hs b (by rw [h.fp_eq]; simp))
  syn := h.syn.frm hf (hs s (by rw [h.fp_eq]; simp))
  seen := h.seen.frm hf (hs m (by rw [h.fp_eq]; simp))
  ne := h.ne
  steps := h.steps.frm hf (fun g hg => hs g (by rw [h.fp_eq, hg]; simp)) hb
  fuse := h.fuse.frm hf (fun i hi => hs i (by rw [h.fp_eq]; simp [hi]))
  fp_eq := h.fp_eq
  off := h.off
  bxl := fun i hi => by have := h.bxl i hi; have := hf.size; omega
theorem Disk.frm {S : Nat → Prop} {w w' : World} {b : Nat} {D : DS} {fp : List Nat} {bx : Nat → Prop} (h : Disk w b D fp bx) (hf : Frm S w w') (hs : ∀ i ∈ fp, ¬ S i) (hb : ∀ i, bx i → ¬ S i) : Disk w' b D fp bx := by
  obtain ⟨s, m, sv, fa, fl, h⟩ := h
  exact ⟨s, m, sv, fa, fl, h.frm hf hs hb⟩
theorem DRep.lt {w : World} {b : Nat} {D : DS} {fp : List Nat} {bx : Nat → Prop} {s m : Nat} {sv fa : Value} {fl : List Nat} (h : DRep w b D fp bx s m sv fa fl) : ∀ i ∈ fp, i < w.heap.size := by
  intro i hi
  rw [h.fp_eq] at hi
  simp only [List.mem_cons, List.mem_append, Option.mem_toList] at hi
  rcases hi with rfl | rfl | rfl | hi | hi
  · exact lt_of_obj h.blk
  · exact h.syn.lt
  · exact h.seen.lt
  · obtain ⟨xs, ho, _⟩ := h.steps
    exact (ho.lt i hi).2
  · have hz := h.fuse
    cases hfz : D.fuse with
    | none => rw [hfz] at hz; rw [hz.2] at hi; simp at hi
    | some k =>
      rw [hfz] at hz
      obtain ⟨f, _, hb, hl, _⟩ := hz
      rw [hl] at hi
      simp at hi
      subst hi
      exact hb.lt

theorem once_call (uv : Value) (gf : FuncId) (lb : Array Value) (w : World) (huv : uv = .func (.func gf) #[] lb) :
    Calls Try.prog 38 #[uv] w fun e w' => e = .returned (.agg #[.int .i64 1, .func (.func 53) #[] #[ptr w.heap.size]]) ∧
      w' = (w.alloc (.cells #[uv] 67)).alloc (.cells #[.int .i64 1, .func (.func 53) #[] #[ptr w.heap.size]] 70) := by
  subst huv
  go_enter Try.func38, Try.ntmps38
  repeat' (first | go_values | go_skip | go_guarded | go_step | go_upon | dsimp only)
  exact bodyPost_ret (v := .agg #[.int .i64 1, .func (.func 53) #[] #[ptr w.heap.size]]) (by simp [results, Try.results38, go_sem]) rfl ⟨rfl, rfl⟩

theorem first_call (uz ev : Value) (gf : FuncId) (lb : Array Value) (z n : Int) (w : World) (huz : uz = .int .i64 z) (hev : ev = .func (.func gf) #[] lb) :
    Calls Try.prog 52 #[.agg #[uz, ev], .int .i64 n] w fun e w' => e = .returned (.agg #[.int .i64 n, .func (.func 58) #[] #[ptr w.heap.size, ptr (w.heap.size + 1)]]) ∧
      w' = ((w.alloc (.cells #[uz, ev] 70)).alloc (.cells #[.int .i64 n] 3)).alloc (.cells #[.int .i64 n, .func (.func 58) #[] #[ptr w.heap.size, ptr (w.heap.size + 1)]] 70) := by
  subst huz hev
  go_enter Try.func52, Try.ntmps52
  repeat' (first | go_values | go_skip | go_guarded | go_step | go_upon | dsimp only)
  exact bodyPost_ret (v := .agg #[.int .i64 n, .func (.func 58) #[] #[ptr w.heap.size, ptr (w.heap.size + 1)]]) (by simp [results, Try.results52, go_sem]) rfl ⟨rfl, rfl⟩
theorem first_call' (ev : Value) (gf : FuncId) (lb : Array Value) (z n : Int) (w : World) (hev : ev = .func (.func gf) #[] lb) :
    Calls Try.prog 52 #[.agg #[.int .i64 z, ev], .int .i64 n] w fun e w' => e = .returned (.agg #[.int .i64 n, .func (.func 58) #[] #[ptr w.heap.size, ptr (w.heap.size + 1)]]) ∧
      Frm Nil w w' ∧ w'.heap[w.heap.size]? = some (.cells #[.int .i64 z, ev] 70 (0, 0)) ∧ Box1 w' (w.heap.size + 1) 3 (.int .i64 n) := by
  refine (first_call _ ev gf lb z n w rfl hev).mono ?_
  rintro e w' ⟨rfl, rfl⟩
  refine ⟨rfl, (((Frm.refl _ w).alloc _).alloc _).alloc _, ?_, ?_⟩
  · exact (Below.heap_alloc _ _ _ (by simp; omega)).trans ((Below.heap_alloc _ _ _ (by simp)).trans (World.alloc_heap_new w _))
  · have h1 := World.alloc_heap_new (w.alloc (.cells #[.int .i64 z, ev] 70)) (.cells #[.int .i64 n] 3)
    rw [World.size_alloc] at h1
    exact (Below.heap_alloc _ _ _ (by simp)).trans h1
end Go.Proofs.Ytlnelokpaccanaa
