/- Remove and Rename. -/
import Derived.Test.YtlnelokpaccanaaDiskK
import Derived.Deep.RegionHeld2
namespace Go.Proofs.Ytlnelokpaccanaa
open Go Go.RowKit Go.Tr
attribute [local go_sem] Oper.semAt_some
set_option linter.unusedVariables false

theorem once_call' (uv : Value) (gf : FuncId) (lb : Array Value) (w : World) (huv : uv = .func (.func gf) #[] lb) :
    Calls Try.prog 38 #[uv] w fun e w' => e = .returned (.agg #[.int .i64 1, .func (.func 53) #[] #[ptr w.heap.size]]) ∧ Frm Nil w w' ∧ Box1 w' w.heap.size 67 uv := by
  refine (once_call uv gf lb w huv).mono ?_
  rintro e w' ⟨rfl, rfl⟩
  exact ⟨rfl, ((Frm.refl _ w).alloc _).alloc _, (Below.heap_alloc _ _ _ (by simp)).trans (World.alloc_heap_new w _)⟩
def doE (D : DS) (us : List U) : Int := if (doD D us).down then 70 else 0
theorem burnN_le (D : DS) (u : Nat) : (burnN D u).toNat ≤ u := by
  unfold burnN
  cases D.fuse with
  | none => simp
  | some k => simp; omega
theorem do_more {w W : World} {b : Nat} {D : DS} {fp : List Nat} {bx : Nat → Prop} {s m : Nat} {sv fa : Value} {fl : List Nat} (h : DRep w b D fp bx s m sv fa fl) (hf : Frm Nil w W) {gf : FuncId} {lb : Array Value} {us : List U}
    (hE : Plain (fun i => bx i ∨ (w.heap.size ≤ i ∧ i < W.heap.size)) W (.func (.func gf) #[] lb) us) (hlen : us.length ≤ 4611686018427387904) (hst : D.steps.length ≤ 1000000000) (hfit : Fits (stepN D us) D.seen) (z : Int) (hz : z = us.length) :
    Calls Try.prog 35 #[ptr b, .agg #[.int .i64 z, .func (.func gf) #[] lb]] W (OpPost w b fp bx (doD D us) (.int .i64 (doE D us))) := by
  subst hz
  have hsz := hf.size
  refine (do_call ((h.frm hf (fun _ _ h => h) (fun _ _ h => h)).grow (bx' := fun i => bx i ∨ (w.heap.size ≤ i ∧ i < W.heap.size)) (fun i hi => .inl hi) (fun i hi hx => ?_) (fun i hx => ?_)) (.inl hE) (fun _ => hE) hlen hst hfit).mono ?_
  · rcases hx with hx | hx
    · exact h.off i hi hx
    · have := h.lt i hi; omega
  · rcases hx with hx | hx
    · have := h.bxl i hx; omega
    · omega
  · rintro e w' ⟨rfl, fp', bx', hd, hF, h1, h2⟩
    refine ⟨rfl, fp', bx', hd, hf.nil.trans hF (fun _ _ h => h), fun i hi => ?_, fun i hi => ?_⟩
    · rcases h1 i hi with h | h
      · exact .inl h
      · exact .inr (by omega)
    · rcases h2 i hi with (h | h) | h
      · exact .inl h
      · exact .inr h.1
      · exact .inr (by omega)
theorem fits_one {D : DS} {u : U} (hu : ∀ n c, u ≠ .byte n c) (L : Files) : Fits (stepN D [u]) L := by
  intro k n c hk
  unfold stepN at hk
  have := List.mem_of_getElem? hk
  have := List.mem_of_mem_take this
  simp at this
  exact absurd this.symm (hu n c)

theorem up_one {w0 W : World} {b : Nat} {D : DS} {fp : List Nat} {bx : Nat → Prop} {s m : Nat} {sv fa : Value} {fl : List Nat} (h : DRep w0 b D fp bx s m sv fa fl) (nm : ByteArray) (t : TypeId) {X : Prop} (hX : X ∧ Frm Nil w0 (W.alloc (.cells #[.string nm] t)).drew) :
    Calls Try.prog 31 #[ptr b, .slice (some ⟨W.heap.size, 0, none⟩) 1 1] (W.alloc (.cells #[.string nm] t)).drew fun e w' => e = .returned (.int .i64 (upE [nm] D.down)) ∧ Frm Nil w0 w' := by
  have hf' := hX.2
  have c6 := cells6 (hf'.objN h.blk)
  refine (up_all b m D.down _ c6.h2 c6.h5 W.heap.size 1 [nm] (some ⟨W.heap.size, 0, none⟩) (fun i hi => ?_) (by simp)).mono ?_
  · have : i = 0 := by simp at hi; omega
    subst this
    exact ⟨rfl, Box1.cell (Box1.new W t (.string nm))⟩
  · rintro e w' ⟨rfl, rfl⟩
    exact ⟨rfl, hf'⟩
theorem there_one {w0 W : World} {b : Nat} {D : DS} {fp : List Nat} {bx : Nat → Prop} {s m : Nat} {sv fa : Value} {fl : List Nat} (h : DRep w0 b D fp bx s m sv fa fl) (nm : ByteArray) (e0 : Int) {X : Prop} (hX : X ∧ Frm Nil w0 W) :
    Calls Try.prog 37 #[ptr b, .string nm, .int .i64 e0] W fun e w' => e = .returned (.int .i64 (thereE nm D.seen e0)) ∧ Frm Nil w0 w' := by
  have hf := hX.2
  have h' := h.frm hf (fun _ _ h => h) (fun _ _ h => h)
  refine (there_all b m W (cells6 h'.blk).h2 D.seen h'.seen nm e0).mono ?_
  rintro e w' ⟨rfl, hf2⟩
  exact ⟨rfl, hf.trn hf2⟩
theorem plain_once {B : Nat → Prop} {W : World} {q : Nat} {uv : Value} {u : U} (hq : B q) (bq : Box1 W q 67 uv) (hu : URep B W uv u) : Plain B W (.func (.func 53) #[] #[ptr q]) [u] := .inr ⟨q, uv, u, hq, bq, hu, rfl, rfl⟩
/-- Remove. -/
def removeE (D : DS) (nm : ByteArray) : Int := thereE nm D.seen (upE [nm] D.down)
def removeD (D : DS) (nm : ByteArray) : DS := if removeE D nm = 0 then doD D [.remove nm] else D
def removeR (D : DS) (nm : ByteArray) : Int := if removeE D nm = 0 then doE D [.remove nm] else removeE D nm
set_option maxHeartbeats 1000000 in
theorem opRemove {w : World} {b : Nat} {D : DS} {fp : List Nat} {bx : Nat → Prop} (h : Disk w b D fp bx) (nm : ByteArray) (hst : D.steps.length ≤ 1000000000) :
    Calls Try.prog 19 #[ptr b, .string nm] w (OpPost w b fp bx (removeD D nm) (.int .i64 (removeR D nm))) := by
  obtain ⟨s, m, sv, fa, fl, h⟩ := h
  have hE : removeR D nm = if removeE D nm = 0 then doE D [.remove nm] else removeE D nm := rfl
  have hDD : removeD D nm = if removeE D nm = 0 then doD D [.remove nm] else D := rfl
  have HE := Lib.hid hE; clear hE
  have HD := Lib.hid hDD; clear hDD
  obtain ⟨w0, hw0⟩ : ∃ w0, w.alloc (.cells #[.string nm] 9) = w0 := ⟨_, rfl⟩
  have f0 : Frm Nil w w0 := by rw [← hw0]; exact (Frm.refl _ w).alloc _
  have hB0 : Box1 w0 w.heap.size 9 (.string nm) := by rw [← hw0]; exact World.alloc_heap_new w _
  have h0 := h.frm f0 (fun _ _ h => h) (fun _ _ h => h)
  have c6 := cells6 h0.blk
  have k2 := c6.h2
  have k5 := c6.h5
  have cB := hB0.cell
  clear c6
  have F0 := Lib.hid f0; clear f0
  have B0 := Lib.hid hB0; clear hB0
  have H := Lib.hid h; clear h
  have H0 := Lib.hid h0; clear h0
  have hST := Lib.hid hst; clear hst
  obtain ⟨r, hr⟩ : ∃ r, removeE D nm = r := ⟨_, rfl⟩
  rw [hr] at HE HD
  have HR := Lib.hid hr; clear hr
  go_enter Try.func19, Try.ntmps19
  repeat' (first | go_values | go_skip | go_guarded | go_step | go_upon | dsimp only)
  go_region_held2 (fun w' => w'.cell? ⟨w.heap.size, 0, none⟩ = some (.string nm) ∧ Frm Nil w0 w')
    ((refine (fun hf => And.intro (Frm.cellN hf cB) hf : Frm Nil w0 _ → _) ?_; first | assumption | exact (Frm.refl Nil w0).drew | exact Frm.alloc (And.right ‹_›) _))
    ((first
      | (go_at_call 31; refine (up_one H0.out nm _ (by assumption)).mono ?_; rintro e w' ⟨rfl, hfu⟩)
      | (go_at_call 37; refine (there_one H0.out nm _ (by assumption)).mono ?_; rintro e w' ⟨rfl, hft⟩)))
  rw [show thereE nm D.seen (upE [nm] D.down) = r from HR.out]
  have hBW : Box1 w' w.heap.size 9 (.string nm) := B0.out.frm hft (fun h => h)
  have cBW := hBW.cell
  have hfW : Frm Nil w w' := F0.out.trn hft
  have hsz : w.heap.size < w'.heap.size := hBW.lt
  by_cases h0 : r = 0
  · subst h0
    simp only [if_true] at HE HD
    repeat' (first | (go_at_call 38; refine (once_call' _ 43 _ _ rfl).mono ?_; rintro e w3 ⟨rfl, hf3, hb3⟩; have hf13 := hfW.trn hf3; have hBW3 := hBW.frm hf3 (fun h => h); have hq3 := hb3.lt; have hpl3 := plain_once (B := fun i => bx i ∨ (w.heap.size ≤ i ∧ i < w3.heap.size)) (u := .remove nm) (Or.inr ⟨Nat.le_of_lt hsz, hq3⟩) hb3 ⟨w.heap.size, Or.inr ⟨Nat.le_refl _, hBW3.lt⟩, rfl, hBW3⟩) | (go_at_call 35; refine (do_more H.out hf13 hpl3 (by simp) hST.out (fits_one (by simp) _) 1 (by simp)).mono ?_; rintro e w4 ⟨rfl, hP⟩) | go_values | go_skip | go_guarded | go_step | go_upon | dsimp only)
    go_ret
    rw [HE.out, HD.out]
    exact ⟨rfl, hP⟩
  · have hb0 : (r == 0) = false := by simpa using h0
    have hb1 : (r != 0) = true := by simpa using h0
    rw [if_neg h0] at HE HD
    repeat' (first | go_values | go_skip | go_guarded | go_step | go_upon | dsimp only)
    go_ret
    rw [HE.out, HD.out]
    exact OpPost.same ⟨s, m, sv, fa, fl, H.out.frm hfW (fun _ _ h => h) (fun _ _ h => h)⟩ hfW.nil _
theorem up_two {w0 W : World} {b : Nat} {D : DS} {fp : List Nat} {bx : Nat → Prop} {s m : Nat} {sv fa : Value} {fl : List Nat} (h : DRep w0 b D fp bx s m sv fa fl) (nm n2 : ByteArray) (t : TypeId) {X Y : Prop} (hX : X ∧ Y ∧ Frm Nil w0 (W.alloc (.cells #[.string nm, .string n2] t)).drew) :
    Calls Try.prog 31 #[ptr b, .slice (some ⟨W.heap.size, 0, none⟩) 2 2] (W.alloc (.cells #[.string nm, .string n2] t)).drew fun e w' => e = .returned (.int .i64 (upE [nm, n2] D.down)) ∧ Frm Nil w0 w' := by
  have hf' := hX.2.2
  have c6 := cells6 (hf'.objN h.blk)
  refine (up_all b m D.down _ c6.h2 c6.h5 W.heap.size 2 [nm, n2] (some ⟨W.heap.size, 0, none⟩) (fun i hi => ?_) (by simp)).mono ?_
  · have hw : (W.alloc (.cells #[.string nm, .string n2] t)).drew.heap[W.heap.size]? = some (.cells #[.string nm, .string n2] t (0, 0)) := World.alloc_heap_new W _
    have hi' : i = 0 ∨ i = 1 := by simp at hi; omega
    rcases hi' with rfl | rfl
    · exact ⟨rfl, cell_of_row _ _ 0 _ _ _ hw⟩
    · exact ⟨rfl, cell_of_row _ _ 1 _ _ _ hw⟩
  · rintro e w' ⟨rfl, rfl⟩
    exact ⟨rfl, hf'⟩
theorem there_two {w0 W : World} {b : Nat} {D : DS} {fp : List Nat} {bx : Nat → Prop} {s m : Nat} {sv fa : Value} {fl : List Nat} (h : DRep w0 b D fp bx s m sv fa fl) (nm : ByteArray) (e0 : Int) {X Y : Prop} (hX : X ∧ Y ∧ Frm Nil w0 W) :
    Calls Try.prog 37 #[ptr b, .string nm, .int .i64 e0] W fun e w' => e = .returned (.int .i64 (thereE nm D.seen e0)) ∧ Frm Nil w0 w' := by
  have hf := hX.2.2
  have h' := h.frm hf (fun _ _ h => h) (fun _ _ h => h)
  refine (there_all b m W (cells6 h'.blk).h2 D.seen h'.seen nm e0).mono ?_
  rintro e w' ⟨rfl, hf2⟩
  exact ⟨rfl, hf.trn hf2⟩
/-- Rename. -/
def renameE (D : DS) (nm n2 : ByteArray) : Int := thereE nm D.seen (upE [nm, n2] D.down)
def renameD (D : DS) (nm n2 : ByteArray) : DS := if renameE D nm n2 = 0 then doD D [.rename nm n2] else D
def renameR (D : DS) (nm n2 : ByteArray) : Int := if renameE D nm n2 = 0 then doE D [.rename nm n2] else renameE D nm n2
set_option maxHeartbeats 1000000 in
theorem opRename {w : World} {b : Nat} {D : DS} {fp : List Nat} {bx : Nat → Prop} (h : Disk w b D fp bx) (nm n2 : ByteArray) (hst : D.steps.length ≤ 1000000000) :
    Calls Try.prog 14 #[ptr b, .string nm, .string n2] w (OpPost w b fp bx (renameD D nm n2) (.int .i64 (renameR D nm n2))) := by
  obtain ⟨s, m, sv, fa, fl, h⟩ := h
  have hE : renameR D nm n2 = if renameE D nm n2 = 0 then doE D [.rename nm n2] else renameE D nm n2 := rfl
  have hDD : renameD D nm n2 = if renameE D nm n2 = 0 then doD D [.rename nm n2] else D := rfl
  have HE := Lib.hid hE; clear hE
  have HD := Lib.hid hDD; clear hDD
  obtain ⟨w0, hw0⟩ : ∃ w0, (w.alloc (.cells #[.string nm] 9)).alloc (.cells #[.string n2] 9) = w0 := ⟨_, rfl⟩
  have f0 : Frm Nil w w0 := by rw [← hw0]; exact ((Frm.refl _ w).alloc _).alloc _
  have hB0 : Box1 w0 w.heap.size 9 (.string nm) := by rw [← hw0]; exact (Below.heap_alloc _ _ _ (by simp)).trans (World.alloc_heap_new w _)
  have hC0 : Box1 w0 (w.heap.size + 1) 9 (.string n2) := by rw [← hw0]; have := World.alloc_heap_new (w.alloc (.cells #[.string nm] 9)) (.cells #[.string n2] 9); rwa [World.size_alloc] at this
  have h0 := h.frm f0 (fun _ _ h => h) (fun _ _ h => h)
  have c6 := cells6 h0.blk
  have k2 := c6.h2
  have k5 := c6.h5
  have cB := hB0.cell
  have cC := hC0.cell
  clear c6
  have F0 := Lib.hid f0; clear f0
  have B0 := Lib.hid hB0; clear hB0
  have C0 := Lib.hid hC0; clear hC0
  have H := Lib.hid h; clear h
  have H0 := Lib.hid h0; clear h0
  have hST := Lib.hid hst; clear hst
  obtain ⟨r, hr⟩ : ∃ r, renameE D nm n2 = r := ⟨_, rfl⟩
  rw [hr] at HE HD
  have HR := Lib.hid hr; clear hr
  go_enter Try.func14, Try.ntmps14
  repeat' (first | go_values | go_skip | go_guarded | go_step | go_upon | dsimp only)
  go_region_held2 (fun w' => w'.cell? ⟨w.heap.size, 0, none⟩ = some (.string nm) ∧ w'.cell? ⟨w.heap.size + 1, 0, none⟩ = some (.string n2) ∧ Frm Nil w0 w')
    ((refine (fun hf => And.intro (Frm.cellN hf cB) (And.intro (Frm.cellN hf cC) hf) : Frm Nil w0 _ → _) ?_; first | assumption | exact (Frm.refl Nil w0).drew | exact Frm.alloc (And.right (And.right ‹_›)) _))
    ((first
      | (go_at_call 31; refine (up_two H0.out nm n2 _ (by assumption)).mono ?_; rintro e w' ⟨rfl, hfu⟩)
      | (go_at_call 37; refine (there_two H0.out nm _ (by assumption)).mono ?_; rintro e w' ⟨rfl, hft⟩)))
  rw [show thereE nm D.seen (upE [nm, n2] D.down) = r from HR.out]
  have hBW : Box1 w' w.heap.size 9 (.string nm) := B0.out.frm hft (fun h => h)
  have hCW : Box1 w' (w.heap.size + 1) 9 (.string n2) := C0.out.frm hft (fun h => h)
  have cBW := hBW.cell
  have cCW := hCW.cell
  have hfW : Frm Nil w w' := F0.out.trn hft
  have hsz : w.heap.size + 1 < w'.heap.size := hCW.lt
  by_cases h0 : r = 0
  · subst h0
    simp only [if_true] at HE HD
    repeat' (first | (go_at_call 38; refine (once_call' _ 39 _ _ rfl).mono ?_; rintro e w3 ⟨rfl, hf3, hb3⟩; have hf13 := hfW.trn hf3; have hBW3 := hBW.frm hf3 (fun h => h); have hCW3 := hCW.frm hf3 (fun h => h); have hq3 := hb3.lt; have hpl3 := plain_once (B := fun i => bx i ∨ (w.heap.size ≤ i ∧ i < w3.heap.size)) (u := .rename nm n2) (Or.inr ⟨Nat.le_trans (Nat.le_succ _) (Nat.le_of_lt hsz), hq3⟩) hb3 ⟨w.heap.size, w.heap.size + 1, Or.inr ⟨Nat.le_refl _, hBW3.lt⟩, Or.inr ⟨Nat.le_succ _, hCW3.lt⟩, rfl, hBW3, hCW3⟩) | (go_at_call 35; refine (do_more H.out hf13 hpl3 (by simp) hST.out (fits_one (by simp) _) 1 (by simp)).mono ?_; rintro e w4 ⟨rfl, hP⟩) | go_values | go_skip | go_guarded | go_step | go_upon | dsimp only)
    go_ret
    rw [HE.out, HD.out]
    exact ⟨rfl, hP⟩
  · have hb0 : (r == 0) = false := by simpa using h0
    have hb1 : (r != 0) = true := by simpa using h0
    rw [if_neg h0] at HE HD
    repeat' (first | go_values | go_skip | go_guarded | go_step | go_upon | dsimp only)
    go_ret
    rw [HE.out, HD.out]
    exact OpPost.same ⟨s, m, sv, fa, fl, H.out.frm hfW (fun _ _ h => h) (fun _ _ h => h)⟩ hfW.nil _
end Go.Proofs.Ytlnelokpaccanaa
