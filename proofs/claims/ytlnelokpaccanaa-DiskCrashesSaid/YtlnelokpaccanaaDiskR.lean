/- The document's disk, told at the zero one alone (its answers are not looked at). -/
import Derived.Test.YtlnelokpaccanaaDiskB
import Derived.Deep.RegionHeld2
import Derived.Laws.EntriesVeiled
import Derived.Lib.SliceRun
import Derived.OwnWalk
import Derived.Laws.ResultCell
import Derived.Laws.Rows
import Derived.Deep.AppendLies
namespace Go.Proofs.Ytlnelokpaccanaa
open Go Go.RowKit Go.Tr
attribute [local go_sem] Oper.semAt_some
set_option linter.unusedVariables false

abbrev zq : Value := .agg #[.int .i64 0, .slice none 0 0, .slice none 0 0, .bool false, .int .i64 0, .bool false]
/-- Some disk of the document's, and some answer; no old block has turned. -/
def QPost (w : World) (e : Ending) (w' : World) : Prop :=
  (∃ (r : Int) (A1 : Option Addr) (n1 c1 : Nat) (A2 : Option Addr) (n2 c2 : Nat) (h : Bool) (k : Int) (d : Bool) (f : Int), e = .returned (.tuple #[.agg #[.int .i64 r, .slice A1 n1 c1, .slice A2 n2 c2, .bool h, .int .i64 k, .bool d], .int .i64 f])) ∧ Frm Nil w w'

theorem rname_call (s : ByteArray) (w : World) : Calls Try.prog 44 #[.string s] w fun e w' => e = .returned (.bool (nameOk s)) ∧ w = w' := by
  cases hok : nameOk s with
  | true =>
    obtain ⟨h1, h3⟩ := nameOk_yes hok
    have t1 : decide ((1 : Int) ≤ (s.size : Int)) = true := by simp; omega
    have t2 : decide ((s.size : Int) ≤ (32 : Int)) = true := by simp; omega
    clear hok
    go_enter Try.func44, Try.ntmps44
    repeat' (first | go_values | go_skip | go_guarded | go_step | go_upon | dsimp only)
    go_ret
    exact ⟨rfl, rfl⟩
  | false =>
    rcases nameOk_no hok with h0 | h0
    · have t1 : decide ((1 : Int) ≤ (s.size : Int)) = false := by simp; omega
      clear hok
      go_enter Try.func44, Try.ntmps44
      repeat' (first | go_values | go_skip | go_guarded | go_step | go_upon | dsimp only)
      go_ret
      exact ⟨rfl, rfl⟩
    · have t1 : decide ((1 : Int) ≤ (s.size : Int)) = true := by simp; omega
      have t2 : decide ((s.size : Int) ≤ (32 : Int)) = false := by simp; omega
      clear hok
      go_enter Try.func44, Try.ntmps44
      repeat' (first | go_values | go_skip | go_guarded | go_step | go_upon | dsimp only)
      go_ret
      exact ⟨rfl, rfl⟩

theorem rall_call (k : Int) (w : World) : Calls Try.prog 49 #[zq, .int .i64 k] w fun e w' => e = .returned (.slice none 0 0) ∧ Frm Nil w w' := by
  go_enter Try.func49, Try.ntmps49
  repeat' (first | go_values | go_skip | go_guarded | go_step | go_upon | dsimp only)
  go_loopw [5, 6] (fun x i W => x = .slice none 0 0 ∧ i = .int .i64 0 ∧ Frm Nil w W ∧ W.cell? ⟨w.heap.size, 2, none⟩ = some (.slice none 0 0)) (fun _ _ _ => 0)
  case atStart => exact ⟨rfl, rfl, (Frm.refl _ w).alloc _, cell_of_row _ _ 2 _ _ _ (World.alloc_heap_new w _)⟩
  case round =>
    obtain ⟨rfl, rfl, hf, hc⟩ := hrel
    repeat' (first | go_values | go_skip | go_guarded | go_step | go_upon | dsimp only)
    go_ret
    exact ⟨rfl, hf⟩
theorem rseen_call (w : World) : Calls Try.prog 47 #[zq] w fun e w' => e = .returned (.slice none 0 0) ∧ Frm Nil w w' := by
  go_enter Try.func47, Try.ntmps47
  repeat' (first | (go_at_call 49; refine (rall_call _ _).mono ?_; rintro e w' ⟨rfl, hf⟩) | go_values | go_skip | go_guarded | go_step | go_upon | dsimp only)
  go_ret
  exact ⟨rfl, ((Frm.refl Nil w).alloc _).trn hf⟩
theorem rused_call (w : World) : Calls Try.prog 45 #[zq] w fun e w' => e = .returned (.int .i64 0) ∧ Frm Nil w w' := by
  go_enter Try.func45, Try.ntmps45
  repeat' (first | (go_at_call 47; refine (rseen_call _).mono ?_; rintro e w1 ⟨rfl, hf⟩) | go_values | go_skip | go_guarded | go_step | go_upon | dsimp only)
  go_loopw [4, 5] (fun x i W => x = .int .i64 0 ∧ i = .int .i64 0 ∧ W = w1) (fun _ _ _ => 0)
  case atStart => exact ⟨rfl, rfl, rfl⟩
  case round =>
    obtain ⟨rfl, rfl, rfl⟩ := hrel
    repeat' (first | go_values | go_skip | go_guarded | go_step | go_upon | dsimp only)
    go_ret
    exact ⟨rfl, ((Frm.refl Nil w).alloc _).trn hf⟩
theorem rfind_call (s : ByteArray) (w : World) : Calls Try.prog 46 #[.slice none 0 0, .string s] w fun e w' => e = .returned (.int .i64 (-1)) ∧ w = w' := by
  go_enter Try.func46, Try.ntmps46
  repeat' (first | go_values | go_skip | go_guarded | go_step | go_upon | dsimp only)
  go_loopw [5] (fun i W => i = .int .i64 0 ∧ W = w) (fun _ _ => 0)
  case atStart => exact ⟨rfl, rfl⟩
  case round =>
    obtain ⟨rfl, rfl⟩ := hrel
    repeat' (first | go_values | go_skip | go_guarded | go_step | go_upon | dsimp only)
    go_ret
    exact ⟨rfl, rfl⟩
abbrev zo : Obj := .cells #[.int .i64 0, .slice none 0 0, .slice none 0 0, .bool false, .int .i64 0, .bool false] 32
theorem two_zq {w w1 : World} (hf : Frm Nil ((w.alloc zo).alloc zo) w1) : (w1.heap[w.heap.size]? = some zo ∧ w1.heap[w.heap.size + 1]? = some zo) ∧ Frm Nil w w1 := by
  refine ⟨⟨hf.objN ?_, hf.objN ?_⟩, (((Frm.refl Nil w).alloc zo).alloc zo).trn hf⟩
  · exact (Below.heap_alloc _ _ _ (by simp)).trans (World.alloc_heap_new w _)
  · have := World.alloc_heap_new (w.alloc zo) zo
    rwa [World.size_alloc] at this
structure ZCells (w : World) (b : Nat) : Prop where
  h0 : w.cell? ⟨b, 0, none⟩ = some (.int .i64 0)
  h1 : w.cell? ⟨b, 1, none⟩ = some (.slice none 0 0)
  h2 : w.cell? ⟨b, 2, none⟩ = some (.slice none 0 0)
  h3 : w.cell? ⟨b, 3, none⟩ = some (.bool false)
  h4 : w.cell? ⟨b, 4, none⟩ = some (.int .i64 0)
  h5 : w.cell? ⟨b, 5, none⟩ = some (.bool false)
  z : ∀ o, w.frozen? ⟨b, o, none⟩ = false
theorem zcells {w : World} {b : Nat} (h : w.heap[b]? = some zo) : ZCells w b :=
  ⟨cell_of_row _ _ _ _ _ _ h, cell_of_row _ _ _ _ _ _ h, cell_of_row _ _ _ _ _ _ h, cell_of_row _ _ _ _ _ _ h, cell_of_row _ _ _ _ _ _ h, cell_of_row _ _ _ _ _ _ h, fun o => frozen_of_row _ _ o _ _ h⟩
theorem heap_set' {w : World} {g i : Nat} {cs : Array Value} {t : TypeId} (v : Value) (hg : w.heap[g]? = some (.cells cs t (0, 0))) : (w.setCell ⟨g, i, none⟩ v).heap[g]? = some (.cells (cs.setIfInBounds i v) t (0, 0)) := heap_setCell_same _ _ _ _ _ _ hg
theorem zq_read {w0 w : World} {fn : Func} {a : Act} {p u : Tmp} (h : fn.results = #[.cell p 32, .tmp u]) (hd : a.defers = []) {g : Nat} {f r k : Int} {A1 A2 : Option Addr} {n1 c1 n2 c2 : Nat} {hs d : Bool}
    (hp : a.tmps.getD p undef = ptr g) (hu : a.tmps.getD u undef = .int .i64 f) (h6 : w.heap[g]? = some (.cells #[.int .i64 r, .slice A1 n1 c1, .slice A2 n2 c2, .bool hs, .int .i64 k, .bool d] 32 (0, 0))) (hf : Frm Nil w0 w) :
    bodyPost Try.prog fn (QPost w0) .ret a w := by
  have hp' : a.tmps[p]?.getD undef = .pointer (some ⟨g, 0, none⟩) := by simpa using hp
  have hu' : a.tmps[u]?.getD undef = .int .i64 f := by simpa using hu
  refine ⟨hd, .tuple #[.agg #[.int .i64 r, .slice A1 n1 c1, .slice A2 n2 c2, .bool hs, .int .i64 k, .bool d], .int .i64 f], ?_, ⟨_, _, _, _, _, _, _, _, _, _, _, rfl⟩, hf⟩
  rw [results_cell_tmp h]
  have hl := run_loadVar_row (P := Try.prog) _ g 32 32 _ _ _ h6 Try.underlying32 rfl (by kernel_rfl)
  simp only [Array.getD_eq_getD_getElem?, hp', hu', asAddr, Sem.run_pure, Result.andThen_ok, hl]
/-- The end of each, behind a call: the six cells of the answer are stored, and the answer is read. -/
theorem zq_end {w0 w : World} {fn : Func} {a : Act} {p u : Tmp} (h : fn.results = #[.cell p 32, .tmp u]) (hd : a.defers = []) {g : Nat} {a0 a1 a2 a3 a4 a5 : Value} {f r k : Int} {A1 A2 : Option Addr} {n1 c1 n2 c2 : Nat} {hs d : Bool}
    (hp : a.tmps.getD p undef = ptr g) (hu : a.tmps.getD u undef = .int .i64 f) (hg : w.heap[g]? = some (.cells #[a0, a1, a2, a3, a4, a5] 32 (0, 0))) (hf : Frm Nil w0 w) (hg0 : w0.heap.size ≤ g) :
    bodyPost Try.prog fn (QPost w0) .ret a ((((((w.setCell ⟨g, 0, none⟩ (.int .i64 r)).setCell ⟨g, 1, none⟩ (.slice A1 n1 c1)).setCell ⟨g, 2, none⟩ (.slice A2 n2 c2)).setCell ⟨g, 3, none⟩ (.bool hs)).setCell ⟨g, 4, none⟩ (.int .i64 k)).setCell ⟨g, 5, none⟩ (.bool d)) := by
  have h6 := heap_set' (i := 5) (.bool d) (heap_set' (i := 4) (.int .i64 k) (heap_set' (i := 3) (.bool hs) (heap_set' (i := 2) (.slice A2 n2 c2) (heap_set' (i := 1) (.slice A1 n1 c1) (heap_set' (i := 0) (.int .i64 r) hg)))))
  have hset : ∀ (W : World) o v, Frm Nil w0 W → Frm Nil w0 (W.setCell ⟨g, o, none⟩ v) := fun W o v hW => hW.setCell (.inl hg0) v
  refine zq_read h hd hp hu (by simpa using h6) (hset _ _ _ (hset _ _ _ (hset _ _ _ (hset _ _ _ (hset _ _ _ (hset _ _ _ hf))))))
theorem Frm.undrew {S : Nat → Prop} {w w' : World} (h : Frm S w.drew w') : Frm S w w' := ⟨h.os, h.tape, h.output, h.size, h.block⟩
theorem cell_of_row' {w : World} {g i : Nat} {cs : Array Value} {t : TypeId} (h : w.heap[g]? = some (.cells cs t (0, 0))) : w.cell? ⟨g, i, none⟩ = cs[i]? := by
  simp [World.cell?, h]
theorem two_new (w : World) (o o' : Obj) : ((w.alloc o).alloc o').heap[w.heap.size + 1]? = some o' := by
  have := World.alloc_heap_new (w.alloc o) o'
  rwa [World.size_alloc] at this
set_option maxHeartbeats 1000000 in
theorem rsync_call (w : World) : Calls Try.prog 24 #[zq] w (QPost w) := by
  go_enter Try.func24, Try.ntmps24
  repeat' (first | (go_at_call 47; refine (rseen_call _).mono ?_; rintro e w1 ⟨rfl, hf⟩; obtain ⟨⟨b1, b2⟩, hfw⟩ := two_zq hf; obtain ⟨c0, c1, c2, c3, c4, c5, cz⟩ := zcells b1; obtain ⟨d0, d1, d2, d3, d4, d5, dz⟩ := zcells b2; clear hf; have y1 := cz 1; have y2 := cz 2; have x0 := dz 0; have x1 := dz 1; have x2 := dz 2; have x3 := dz 3; have x4 := dz 4; have x5 := dz 5) | go_values | go_skip | go_guarded | go_step | go_upon | dsimp only)
  refine zq_end rfl rfl rfl (by rfl) (hg := ((frm_set w1 w.heap.size 1 _).tr (frm_set _ w.heap.size 2 _)).obj b2 (fun e => by have e' : w.heap.size + 1 = w.heap.size := e; omega)) ?_ (by omega)
  exact (hfw.setCell (.inl (Nat.le_refl _)) _).setCell (.inl (Nat.le_refl _)) _
set_option maxHeartbeats 1000000 in
theorem rfuse_call (k : Int) (w : World) : Calls Try.prog 25 #[zq, .int .i64 k] w (QPost w) := by
  by_cases hk : k < 0
  · have t : decide (k < 0) = true := by simpa using hk
    go_enter Try.func25, Try.ntmps25
    repeat' (first | go_values | go_skip | go_guarded | go_step | go_upon | dsimp only)
    exact zq_read rfl rfl rfl (by rfl) (two_new w _ _) (by repeat' (first | assumption | exact Frm.refl _ _ | refine Frm.alloc ?_ _ | refine Frm.setCell ?_ (.inl (by simp)) _ | refine Frm.drew ?_))
  · have t : decide (k < 0) = false := by simpa using hk
    go_enter Try.func25, Try.ntmps25
    repeat' (first | go_values | go_skip | go_guarded | go_step | go_upon | dsimp only)
    exact zq_read rfl rfl rfl (by rfl) (two_new w _ _) (by repeat' (first | assumption | exact Frm.refl _ _ | refine Frm.alloc ?_ _ | refine Frm.setCell ?_ (.inl (by simp)) _ | refine Frm.drew ?_))
theorem zset {w W : World} {A B C : Prop} (h : A ∧ B ∧ C ∧ W.heap[w.heap.size]? = some zo ∧ W.heap[w.heap.size + 1]? = some zo ∧ Frm Nil w W) :
    ((((((W.setCell ⟨w.heap.size + 1, 0, none⟩ (.int .i64 0)).setCell ⟨w.heap.size + 1, 1, none⟩ (.slice none 0 0)).setCell ⟨w.heap.size + 1, 2, none⟩ (.slice none 0 0)).setCell ⟨w.heap.size + 1, 3, none⟩ (.bool false)).setCell ⟨w.heap.size + 1, 4, none⟩ (.int .i64 0)).setCell ⟨w.heap.size + 1, 5, none⟩ (.bool false)).heap[w.heap.size]? = some zo ∧
    ((((((W.setCell ⟨w.heap.size + 1, 0, none⟩ (.int .i64 0)).setCell ⟨w.heap.size + 1, 1, none⟩ (.slice none 0 0)).setCell ⟨w.heap.size + 1, 2, none⟩ (.slice none 0 0)).setCell ⟨w.heap.size + 1, 3, none⟩ (.bool false)).setCell ⟨w.heap.size + 1, 4, none⟩ (.int .i64 0)).setCell ⟨w.heap.size + 1, 5, none⟩ (.bool false)).heap[w.heap.size + 1]? = some zo ∧
    Frm Nil w ((((((W.setCell ⟨w.heap.size + 1, 0, none⟩ (.int .i64 0)).setCell ⟨w.heap.size + 1, 1, none⟩ (.slice none 0 0)).setCell ⟨w.heap.size + 1, 2, none⟩ (.slice none 0 0)).setCell ⟨w.heap.size + 1, 3, none⟩ (.bool false)).setCell ⟨w.heap.size + 1, 4, none⟩ (.int .i64 0)).setCell ⟨w.heap.size + 1, 5, none⟩ (.bool false)) := by
  obtain ⟨_, _, _, b1, b2, hf⟩ := h
  have hset : ∀ (W : World) o v, Frm Nil w W → Frm Nil w (W.setCell ⟨w.heap.size + 1, o, none⟩ v) := fun W o v hW => hW.setCell (.inl (Nat.le_succ _)) v
  have hone : ∀ (W : World) o v, W.heap[w.heap.size]? = some zo → (W.setCell ⟨w.heap.size + 1, o, none⟩ v).heap[w.heap.size]? = some zo := fun W o v h => (frm_set W (w.heap.size + 1) o v).obj h (fun e => by have e' : w.heap.size = w.heap.size + 1 := e; omega)
  refine ⟨hone _ _ _ (hone _ _ _ (hone _ _ _ (hone _ _ _ (hone _ _ _ (hone _ _ _ b1))))), ?_, hset _ _ _ (hset _ _ _ (hset _ _ _ (hset _ _ _ (hset _ _ _ (hset _ _ _ hf)))))⟩
  have h6 := heap_set' (i := 5) (.bool false) (heap_set' (i := 4) (.int .i64 0) (heap_set' (i := 3) (.bool false) (heap_set' (i := 2) (.slice none 0 0) (heap_set' (i := 1) (.slice none 0 0) (heap_set' (i := 0) (.int .i64 0) b2)))))
  simpa using h6
theorem zkeep {w W w1 : World} {A B C : Prop} (h : A ∧ B ∧ C ∧ W.heap[w.heap.size]? = some zo ∧ W.heap[w.heap.size + 1]? = some zo ∧ Frm Nil w W) (hf : Frm Nil W w1) : w1.heap[w.heap.size]? = some zo ∧ w1.heap[w.heap.size + 1]? = some zo ∧ Frm Nil w w1 := by
  obtain ⟨_, _, _, b1, b2, hfw⟩ := h
  exact ⟨hf.objN b1, hf.objN b2, hfw.trn hf⟩
set_option maxHeartbeats 1000000 in
theorem rcrash_call (k : Int) (w : World) : Calls Try.prog 26 #[zq, .int .i64 k] w (QPost w) := by
  by_cases hk : k < 0
  · have t : decide (k < 0) = true := by simpa using hk
    go_enter Try.func26, Try.ntmps26
    repeat' (first | go_values | go_skip | go_guarded | go_step | go_upon | dsimp only)
    exact zq_read rfl rfl rfl (by rfl) (two_new w _ _) (by repeat' (first | assumption | exact Frm.refl _ _ | refine Frm.alloc ?_ _ | refine Frm.setCell ?_ (.inl (by simp)) _ | refine Frm.drew ?_))
  · have t : decide (k < 0) = false := by simpa using hk
    go_enter Try.func26, Try.ntmps26
    repeat' (first | go_values | go_skip | go_guarded | go_step | go_upon | dsimp only)
    have hk : ∀ W, W.heap[w.heap.size]? = some zo ∧ W.heap[w.heap.size + 1]? = some zo ∧ Frm Nil w W → (W.cell? ⟨w.heap.size, 0, none⟩ = some (.int .i64 0) ∧ W.cell? ⟨w.heap.size, 1, none⟩ = some (.slice none 0 0) ∧ W.cell? ⟨w.heap.size, 2, none⟩ = some (.slice none 0 0) ∧ W.cell? ⟨w.heap.size, 3, none⟩ = some (.bool false) ∧ W.cell? ⟨w.heap.size, 4, none⟩ = some (.int .i64 0) ∧ W.cell? ⟨w.heap.size, 5, none⟩ = some (.bool false)) ∧ (W.cell? ⟨w.heap.size + 1, 0, none⟩ = some (.int .i64 0) ∧ W.cell? ⟨w.heap.size + 1, 1, none⟩ = some (.slice none 0 0) ∧ W.cell? ⟨w.heap.size + 1, 2, none⟩ = some (.slice none 0 0) ∧ W.cell? ⟨w.heap.size + 1, 3, none⟩ = some (.bool false) ∧ W.cell? ⟨w.heap.size + 1, 4, none⟩ = some (.int .i64 0) ∧ W.cell? ⟨w.heap.size + 1, 5, none⟩ = some (.bool false)) ∧ (W.frozen? ⟨w.heap.size + 1, 0, none⟩ = false ∧ W.frozen? ⟨w.heap.size + 1, 1, none⟩ = false ∧ W.frozen? ⟨w.heap.size + 1, 2, none⟩ = false ∧ W.frozen? ⟨w.heap.size + 1, 3, none⟩ = false ∧ W.frozen? ⟨w.heap.size + 1, 4, none⟩ = false ∧ W.frozen? ⟨w.heap.size + 1, 5, none⟩ = false) ∧ W.heap[w.heap.size]? = some zo ∧ W.heap[w.heap.size + 1]? = some zo ∧ Frm Nil w W := fun W hW => by
      obtain ⟨b1, b2, hf⟩ := hW
      obtain ⟨c0, c1, c2, c3, c4, c5, cz⟩ := zcells b1
      obtain ⟨d0, d1, d2, d3, d4, d5, dz⟩ := zcells b2
      exact ⟨⟨c0, c1, c2, c3, c4, c5⟩, ⟨d0, d1, d2, d3, d4, d5⟩, ⟨dz 0, dz 1, dz 2, dz 3, dz 4, dz 5⟩, b1, b2, hf⟩
    have HK := Lib.hid hk; clear hk
    have h0 : ((w.alloc zo).alloc zo).drew.heap[w.heap.size]? = some zo ∧ ((w.alloc zo).alloc zo).drew.heap[w.heap.size + 1]? = some zo ∧ Frm Nil w ((w.alloc zo).alloc zo).drew := ⟨(Below.heap_alloc _ _ _ (by simp)).trans (World.alloc_heap_new w _), two_new w _ _, (((Frm.refl Nil w).alloc zo).alloc zo).drew⟩
    have H0 := Lib.hid h0; clear h0
    go_region_held2 (fun W => (W.cell? ⟨w.heap.size, 0, none⟩ = some (.int .i64 0) ∧ W.cell? ⟨w.heap.size, 1, none⟩ = some (.slice none 0 0) ∧ W.cell? ⟨w.heap.size, 2, none⟩ = some (.slice none 0 0) ∧ W.cell? ⟨w.heap.size, 3, none⟩ = some (.bool false) ∧ W.cell? ⟨w.heap.size, 4, none⟩ = some (.int .i64 0) ∧ W.cell? ⟨w.heap.size, 5, none⟩ = some (.bool false)) ∧ (W.cell? ⟨w.heap.size + 1, 0, none⟩ = some (.int .i64 0) ∧ W.cell? ⟨w.heap.size + 1, 1, none⟩ = some (.slice none 0 0) ∧ W.cell? ⟨w.heap.size + 1, 2, none⟩ = some (.slice none 0 0) ∧ W.cell? ⟨w.heap.size + 1, 3, none⟩ = some (.bool false) ∧ W.cell? ⟨w.heap.size + 1, 4, none⟩ = some (.int .i64 0) ∧ W.cell? ⟨w.heap.size + 1, 5, none⟩ = some (.bool false)) ∧ (W.frozen? ⟨w.heap.size + 1, 0, none⟩ = false ∧ W.frozen? ⟨w.heap.size + 1, 1, none⟩ = false ∧ W.frozen? ⟨w.heap.size + 1, 2, none⟩ = false ∧ W.frozen? ⟨w.heap.size + 1, 3, none⟩ = false ∧ W.frozen? ⟨w.heap.size + 1, 4, none⟩ = false ∧ W.frozen? ⟨w.heap.size + 1, 5, none⟩ = false) ∧ W.heap[w.heap.size]? = some zo ∧ W.heap[w.heap.size + 1]? = some zo ∧ Frm Nil w W)
      ((refine HK.out _ ?_; first | with_reducible exact H0.out | with_reducible assumption | with_reducible exact zset (by with_reducible assumption)))
      ((go_at_call 49; refine (rall_call _ _).mono ?_; rintro e w1 ⟨rfl, hf⟩; have hw1 := zkeep (by with_reducible assumption) hf))
    rename_i hh
    repeat' (first | go_values | go_skip | go_guarded | go_step | go_upon | dsimp only)
    exact zq_read rfl rfl rfl (by rfl) hh.2.2.2.2.1 hh.2.2.2.2.2
set_option maxHeartbeats 1000000 in
theorem rremove_call (nm : ByteArray) (w : World) : Calls Try.prog 22 #[zq, .string nm] w (QPost w) := by
  cases hok : nameOk nm with
  | false =>
    have hn := rname_call nm
    rw [hok] at hn
    have HN := Lib.hid hn; clear hn hok
    go_enter Try.func22, Try.ntmps22
    repeat' (first | (go_at_call 44; refine (HN.out _).mono ?_; rintro e w' ⟨rfl, rfl⟩) | go_values | go_skip | go_guarded | go_step | go_upon | dsimp only)
    exact zq_read rfl rfl rfl (by rfl) (two_new w _ _) (by repeat' (first | assumption | exact Frm.refl _ _ | refine Frm.alloc ?_ _ | refine Frm.setCell ?_ (.inl (by simp)) _ | refine Frm.drew ?_))
  | true =>
    have hn := rname_call nm
    rw [hok] at hn
    have HN := Lib.hid hn; clear hn hok
    go_enter Try.func22, Try.ntmps22
    repeat' (first | (go_at_call 44; refine (HN.out _).mono ?_; rintro e w' ⟨rfl, rfl⟩) | (go_at_call 47; refine (rseen_call _).mono ?_; rintro e w1 ⟨rfl, hf⟩; obtain ⟨⟨b1, b2⟩, hfw⟩ := two_zq hf; obtain ⟨c0, c1, c2, c3, c4, c5, cz⟩ := zcells b1; obtain ⟨d0, d1, d2, d3, d4, d5, dz⟩ := zcells b2; clear hf; have x0 := dz 0; have x1 := dz 1; have x2 := dz 2; have x3 := dz 3; have x4 := dz 4; have x5 := dz 5) | (go_at_call 46; refine (rfind_call _ _).mono ?_; rintro e w' ⟨rfl, rfl⟩) | go_values | go_skip | go_guarded | go_step | go_upon | dsimp only)
    exact zq_end rfl rfl rfl (by rfl) b2 hfw (Nat.le_succ _)
set_option maxHeartbeats 1000000 in
theorem rrename_call (nm n2 : ByteArray) (w : World) : Calls Try.prog 23 #[zq, .string nm, .string n2] w (QPost w) := by
  cases hok : nameOk nm with
  | false =>
    go_enter Try.func23, Try.ntmps23
    repeat' (first | (go_at_call 44; refine (rname_call _ _).mono ?_; rintro e w' ⟨rfl, rfl⟩; rw [hok]) | go_values | go_skip | go_guarded | go_step | go_upon | dsimp only)
    exact zq_read rfl rfl rfl (by rfl) (two_new w _ _) (by repeat' (first | assumption | exact Frm.refl _ _ | refine Frm.alloc ?_ _ | refine Frm.setCell ?_ (.inl (by simp)) _ | refine Frm.drew ?_))
  | true =>
    cases hok2 : nameOk n2 with
    | false =>
      go_enter Try.func23, Try.ntmps23
      repeat' (first | (go_at_call 44; refine (rname_call _ _).mono ?_; rintro e w' ⟨rfl, rfl⟩; first | rw [hok] | rw [hok2]) | go_values | go_skip | go_guarded | go_step | go_upon | dsimp only)
      exact zq_read rfl rfl rfl (by rfl) (two_new w _ _) (by repeat' (first | assumption | exact Frm.refl _ _ | refine Frm.alloc ?_ _ | refine Frm.setCell ?_ (.inl (by simp)) _ | refine Frm.drew ?_))
    | true =>
      go_enter Try.func23, Try.ntmps23
      repeat' (first | (go_at_call 44; refine (rname_call _ _).mono ?_; rintro e w' ⟨rfl, rfl⟩; first | rw [hok] | rw [hok2]) | (go_at_call 47; refine (rseen_call _).mono ?_; rintro e w1 ⟨rfl, hf⟩; obtain ⟨⟨b1, b2⟩, hfw⟩ := two_zq hf; obtain ⟨c0, c1, c2, c3, c4, c5, cz⟩ := zcells b1; obtain ⟨d0, d1, d2, d3, d4, d5, dz⟩ := zcells b2; clear hf; have x0 := dz 0; have x1 := dz 1; have x2 := dz 2; have x3 := dz 3; have x4 := dz 4; have x5 := dz 5) | (go_at_call 46; refine (rfind_call _ _).mono ?_; rintro e w' ⟨rfl, rfl⟩) | go_values | go_skip | go_guarded | go_step | go_upon | dsimp only)
      exact zq_end rfl rfl rfl (by rfl) b2 hfw (Nat.le_succ _)
theorem info87 : (Try.prog.info? 87).map (fun i => (i.zero, i.size, i.bytes)) = some (some (.agg #[.int .i64 0, .string ⟨#[]⟩, .string ⟨#[]⟩, .int .u8 0]), 4, 48) := by kernel_rfl
theorem run_app_unit {W : World} {dst : Value} {n : Nat} {xs : List Value} (hown : W.ownsRow 0 87 4 dst n xs) (hn : n ≤ 10) {g c : Nat} {us : List Value} (hl : us.length = 4) (hnews : ∀ j u, us[j]? = some u → W.cell? (Addr.add ⟨g, 0, none⟩ j) = some u) (hone : ∀ u ∈ us, u.oneCell' = true) :
    ∃ g' cap w', (Builtin.append_ #[30, 30] 30 #[dst, .slice (some ⟨g, 0, none⟩) 1 c]).run Try.prog W = .ok (.slice (some ⟨g', 0, none⟩) (n + 1) cap) w' ∧ w'.ownsRow 0 87 4 (.slice (some ⟨g', 0, none⟩) (n + 1) cap) (n + 1) (xs ++ us) ∧ W.grownBy w' dst.ownBlock ∧ (dst.ownBlock = some g' ∨ g' = W.heap.size) := by
  obtain ⟨i0, hi, hz0, hz1, hz2⟩ := info_parts info87
  obtain ⟨g', cap, w', h1, h2, h3, h4, _⟩ := run_append_lies (P := Try.prog) (w := W) 30 30 0 87 i0 (.agg #[.int .i64 0, .string ⟨#[]⟩, .string ⟨#[]⟩, .int .u8 0]) 4 48 Try.underlying30 hi hz0 hz1 hz2 rfl (by decide) dst n xs hown ⟨g, 0, none⟩ 1 c us (by omega) hnews hone (by omega) (by unfold maxLen; omega) (by omega) (Nat.zero_le _) W.heap.size rfl
  exact ⟨g', cap, w', h1, h2, h3, h4⟩
theorem run_app_none {W : World} {a : Nat} : (Builtin.append_ #[30, 30] 30 #[.slice (some ⟨a, 0, none⟩) 0 0, .slice none 0 0]).run Try.prog W = .ok (.slice (some ⟨a, 0, none⟩) 0 0) W := by
  simp [Builtin.append_, run_underlying Try.underlying30, go_sem]
attribute [local go_sem ↓] hide_app
set_option maxHeartbeats 1000000 in
theorem rmore_call (g c : Nat) (us : List Value) (w : World) (hl : us.length = 4) (hnews : ∀ j u, us[j]? = some u → w.cell? (Addr.add ⟨g, 0, none⟩ j) = some u) (hone : ∀ u ∈ us, u.oneCell' = true) : Calls Try.prog 48 #[zq, .slice (some ⟨g, 0, none⟩) 1 c] w (QPost w) := by
  have f0 : Frm Nil w ((w.alloc zo).alloc zo) := ((Frm.refl Nil w).alloc _).alloc _
  have s0 : ((w.alloc zo).alloc zo).heap.size = w.heap.size + 1 + 1 := by simp
  have b1 : ((w.alloc zo).alloc zo).heap[w.heap.size]? = some zo := (Below.heap_alloc _ _ _ (by simp)).trans (World.alloc_heap_new w _)
  have b2 : ((w.alloc zo).alloc zo).heap[w.heap.size + 1]? = some zo := two_new w _ _
  have hown := World.ownsRow_made (base := 0) (size := 4) (e := 87) ((w.alloc zo).alloc zo) #[] 0 (Nat.zero_le _) (Nat.zero_le _) rfl
  have ha1 := run_app_none (W := ((w.alloc zo).alloc zo).alloc (.cells #[] 87)) (a := w.heap.size + 1 + 1)
  rw [s0] at hown
  obtain ⟨g', cap, w2, ha2, hown2, hgr, hg'⟩ := run_app_unit hown (by omega) (c := c) (g := g) hl (fun j u h => (((f0.alloc (.cells #[] 87)).cellN (hnews j u h)))) hone
  rw [hide_app] at ha1 ha2
  simp only [Nat.zero_add] at ha2
  have hfr : Frm Nil w w2 ∧ w2.heap[w.heap.size]? = some zo ∧ w2.heap[w.heap.size + 1]? = some zo := by
    have h1 := hgr.block w.heap.size (by simp; omega) (by simp [Value.ownBlock]; omega)
    have h2 := hgr.block (w.heap.size + 1) (by simp) (by simp [Value.ownBlock])
    refine ⟨⟨hgr.os, hgr.tape, hgr.output, by have := hgr.size; simp at this; omega, fun i hi _ => (hgr.block i (by simp; omega) (by simp [Value.ownBlock]; omega)).trans ((f0.alloc (.cells #[] 87)).block i hi (fun h => h))⟩, h1.trans ?_, h2.trans ?_⟩
    · exact (Below.heap_alloc _ _ _ (by simp; omega)).trans b1
    · exact (Below.heap_alloc _ _ _ (by simp)).trans b2
  obtain ⟨hfw, c1, c2⟩ := hfr
  obtain ⟨y0, y1, y2, y3, y4, y5, yz⟩ := zcells c1
  obtain ⟨x0, x1, x2, x3, x4, x5, xz⟩ := zcells c2
  have yz2 := yz 2
  have z0 := xz 0; have z1 := xz 1; have z2 := xz 2; have z3 := xz 3; have z4 := xz 4; have z5 := xz 5
  clear hown hown2 hgr hg' hnews hone f0 s0 b1 b2 yz xz
  have C1 := Lib.hid c1; clear c1
  have C2 := Lib.hid c2; clear c2
  go_enter Try.func48, Try.ntmps48
  repeat' (first | go_values | go_skip | go_guarded | go_step | go_upon | dsimp only)
  exact zq_end rfl rfl rfl (by rfl) ((frm_set w2 w.heap.size 2 _).obj C2.out (fun e => by have e' : w.heap.size + 1 = w.heap.size := e; omega)) (hfw.setCell (.inl (Nat.le_refl _)) _) (Nat.le_succ _)
theorem grown_nil {W W' : World} (h : W.grownBy W' (Value.slice none 0 0).ownBlock) : Frm Nil W W' := ⟨h.os, h.tape, h.output, h.size, fun i hi _ => h.block i hi (by simp [Value.ownBlock])⟩
theorem zkeep2 {w W w1 : World} {A : Prop} (h : A ∧ W.heap[w.heap.size]? = some zo ∧ W.heap[w.heap.size + 1]? = some zo ∧ Frm Nil w W) (hf : Frm Nil W w1) : w1.heap[w.heap.size]? = some zo ∧ w1.heap[w.heap.size + 1]? = some zo ∧ Frm Nil w w1 := by
  obtain ⟨_, b1, b2, hfw⟩ := h
  exact ⟨hf.objN b1, hf.objN b2, hfw.trn hf⟩
theorem unit_cells (W : World) (nm : ByteArray) : ∀ j u, [Value.int .i64 0, .string nm, .string ⟨#[]⟩, .int .u8 0][j]? = some u → (W.alloc (.cells #[.int .i64 0, .string nm, .string ⟨#[]⟩, .int .u8 0] 87)).cell? (Addr.add ⟨W.heap.size, 0, none⟩ j) = some u := fun j u h => by
  rw [Addr.add_lit, Nat.zero_add, cell_of_row' (World.alloc_heap_new W _)]
  simpa using h
theorem app_first (W : World) (nm : ByteArray) : ∃ g cap w', (appSem #[30, 30] 30 #[.slice none 0 0, .slice (some ⟨W.heap.size, 0, none⟩) 1 1]).run Try.prog (W.alloc (.cells #[.int .i64 0, .string nm, .string ⟨#[]⟩, .int .u8 0] 87)) = .ok (.slice (some ⟨g, 0, none⟩) 1 cap) w' ∧ Frm Nil W w' ∧
    (∀ j u, [Value.int .i64 0, .string nm, .string ⟨#[]⟩, .int .u8 0][j]? = some u → w'.cell? (Addr.add ⟨g, 0, none⟩ j) = some u) ∧ ∀ u ∈ [Value.int .i64 0, .string nm, .string ⟨#[]⟩, .int .u8 0], u.oneCell' = true := by
  have hone : ∀ u ∈ [Value.int .i64 0, .string nm, .string ⟨#[]⟩, .int .u8 0], u.oneCell' = true := by simp [Value.oneCell']
  obtain ⟨g, cap, w', ha, hown, hgr, hg⟩ := run_app_unit (W := W.alloc (.cells #[.int .i64 0, .string nm, .string ⟨#[]⟩, .int .u8 0] 87)) (World.ownsRow_nil _ _ _ _) (by omega) (c := 1) (g := W.heap.size) rfl (unit_cells W nm) hone
  rw [hide_app] at ha
  refine ⟨g, cap, w', ha, ((Frm.refl Nil W).alloc _).trn (grown_nil hgr), fun j u hj => ?_, hone⟩
  have hj4 : j < 4 := (List.getElem?_eq_some_iff.1 hj).1
  rw [Addr.add_lit, Nat.zero_add, hown.cellAt j (by omega)]
  simpa using hj
set_option maxHeartbeats 2000000 in
theorem rappend_call (nm str : ByteArray) (w : World) (hz : str.size ≤ 2000000000) : Calls Try.prog 21 #[zq, .string nm, .string str] w (QPost w) := by
  cases hok : nameOk nm with
  | false =>
    go_enter Try.func21, Try.ntmps21
    repeat' (first | (go_at_call 44; refine (rname_call _ _).mono ?_; rintro e w' ⟨rfl, rfl⟩; rw [hok]) | go_values | go_skip | go_guarded | go_step | go_upon | dsimp only)
    exact zq_read rfl rfl rfl (by rfl) (two_new w _ _) (by repeat' (first | assumption | exact Frm.refl _ _ | refine Frm.alloc ?_ _ | refine Frm.setCell ?_ (.inl (by simp)) _ | refine Frm.drew ?_))
  | true =>
    have hk : ∀ W, W.heap[w.heap.size]? = some zo ∧ W.heap[w.heap.size + 1]? = some zo ∧ Frm Nil w W → (W.cell? ⟨w.heap.size, 0, none⟩ = some (.int .i64 0) ∧ W.cell? ⟨w.heap.size, 1, none⟩ = some (.slice none 0 0) ∧ W.cell? ⟨w.heap.size, 2, none⟩ = some (.slice none 0 0) ∧ W.cell? ⟨w.heap.size, 3, none⟩ = some (.bool false) ∧ W.cell? ⟨w.heap.size, 4, none⟩ = some (.int .i64 0) ∧ W.cell? ⟨w.heap.size, 5, none⟩ = some (.bool false)) ∧ W.heap[w.heap.size]? = some zo ∧ W.heap[w.heap.size + 1]? = some zo ∧ Frm Nil w W := fun W hW => by
      obtain ⟨b1, b2, hf⟩ := hW
      obtain ⟨c0, c1, c2, c3, c4, c5, cz⟩ := zcells b1
      exact ⟨⟨c0, c1, c2, c3, c4, c5⟩, b1, b2, hf⟩
    have HK := Lib.hid hk; clear hk
    have h0 : ((w.alloc zo).alloc zo).drew.heap[w.heap.size]? = some zo ∧ ((w.alloc zo).alloc zo).drew.heap[w.heap.size + 1]? = some zo ∧ Frm Nil w ((w.alloc zo).alloc zo).drew := ⟨(Below.heap_alloc _ _ _ (by simp)).trans (World.alloc_heap_new w _), two_new w _ _, (((Frm.refl Nil w).alloc zo).alloc zo).drew⟩
    have H0 := Lib.hid h0; clear h0
    have t1 : wrap64 (0 + (str.size : Int)) = str.size := by simp only [wrap64]; omega
    have t2 : wrap64 ((str.size : Int)) = str.size := by simp only [wrap64]; omega
    have t3 : IntKind.i64.wrap ((str.size : Int)) = str.size := by simp only [IntKind.wrap_i64]; omega
    clear hz
    go_enter Try.func21, Try.ntmps21
    repeat' (first | (go_at_call 44; refine (rname_call _ _).mono ?_; rintro e w' ⟨rfl, rfl⟩; rw [hok]) | go_values | go_skip | go_guarded | go_step | go_upon | dsimp only)
    by_cases hs : str.size = 0
    · obtain rfl : str = ⟨#[]⟩ := by
        obtain ⟨⟨l⟩⟩ := str
        cases l with
        | nil => rfl
        | cons a l => simp [ByteArray.size] at hs
      clear t1 t2 t3 hs
      go_region_held2 (fun W => (W.cell? ⟨w.heap.size, 0, none⟩ = some (.int .i64 0) ∧ W.cell? ⟨w.heap.size, 1, none⟩ = some (.slice none 0 0) ∧ W.cell? ⟨w.heap.size, 2, none⟩ = some (.slice none 0 0) ∧ W.cell? ⟨w.heap.size, 3, none⟩ = some (.bool false) ∧ W.cell? ⟨w.heap.size, 4, none⟩ = some (.int .i64 0) ∧ W.cell? ⟨w.heap.size, 5, none⟩ = some (.bool false)) ∧ W.heap[w.heap.size]? = some zo ∧ W.heap[w.heap.size + 1]? = some zo ∧ Frm Nil w W)
        ((refine HK.out _ ?_; first | with_reducible exact H0.out | with_reducible assumption))
        ((go_at_call 45; refine (rused_call _).mono ?_; rintro e w1 ⟨rfl, hf⟩; have hw1 := zkeep2 (by with_reducible assumption) hf; have hcc := (HK.out _ hw1).1))
      rename_i hh
      obtain ⟨q1, q2, q3⟩ := hh.2
      obtain ⟨y0, y1, y2, y3, y4, y5, yz⟩ := zcells q1
      have hone : ∀ u ∈ [Value.int .i64 0, .string nm, .string ⟨#[]⟩, .int .u8 0], u.oneCell' = true := by simp [Value.oneCell']
      have HOne := Lib.hid hone; clear hone
      clear hcc hf hw1 hh yz
      repeat' (first | (go_at_call 47; refine (rseen_call _).mono ?_; rintro e w2 ⟨rfl, hf2⟩; obtain ⟨g', cap, w3, ha, hF3, hO3, hU3⟩ := app_first w2 nm; have HOwn := Lib.hid (And.intro hO3 hU3); clear hO3 hU3; have HF3 := Lib.hid hF3; clear hF3) | (go_at_call 46; refine (rfind_call _ _).mono ?_; rintro e w' ⟨rfl, rfl⟩) | go_values | go_skip | go_guarded | go_step | go_upon | dsimp only)
      have hf13 : Frm Nil w1 w3 := hf2.trn HF3.out
      have hf03 := q3.trn hf13
      obtain ⟨v0, v1, v2, v3, v4, v5, _⟩ := zcells (hf13.objN q1)
      have r2 := hf13.objN q2
      have R2 := Lib.hid r2; clear r2
      clear y0 y1 y2 y3 y4 y5 ha hf2 HF3 q1 q2
      refine wp_loop_once ?_
      repeat' (first | (go_at_call 48; refine (rmore_call _ _ _ _ rfl HOwn.out.1 HOwn.out.2).mono ?_; rintro e w4 ⟨⟨r, A1, n1, c1, A2, n2, c2, h', k', d', f', rfl⟩, hf4⟩; obtain ⟨x0, x1, x2, x3, x4, x5, xz⟩ := zcells (hf4.objN R2.out); have z0 := xz 0; have z1 := xz 1; have z2 := xz 2; have z3 := xz 3; have z4 := xz 4; have z5 := xz 5; clear xz) | go_values | go_skip | go_guarded | go_step | go_upon | dsimp only)
      exact zq_end rfl rfl rfl (by rfl) (hf4.objN R2.out) (hf03.trn hf4) (Nat.le_succ _)
    · have t4 : decide ((0 : Int) < (str.size : Int)) = true := by simp; omega
      go_region_held2 (fun W => (W.cell? ⟨w.heap.size, 0, none⟩ = some (.int .i64 0) ∧ W.cell? ⟨w.heap.size, 1, none⟩ = some (.slice none 0 0) ∧ W.cell? ⟨w.heap.size, 2, none⟩ = some (.slice none 0 0) ∧ W.cell? ⟨w.heap.size, 3, none⟩ = some (.bool false) ∧ W.cell? ⟨w.heap.size, 4, none⟩ = some (.int .i64 0) ∧ W.cell? ⟨w.heap.size, 5, none⟩ = some (.bool false)) ∧ W.heap[w.heap.size]? = some zo ∧ W.heap[w.heap.size + 1]? = some zo ∧ Frm Nil w W)
        ((refine HK.out _ ?_; first | with_reducible exact H0.out | with_reducible assumption))
        ((go_at_call 45; refine (rused_call _).mono ?_; rintro e w1 ⟨rfl, hf⟩; have hw1 := zkeep2 (by with_reducible assumption) hf))
      rename_i hh
      obtain ⟨q1, q2, q3⟩ := hh.2
      obtain ⟨y0, y1, y2, y3, y4, y5, yz⟩ := zcells q1
      obtain ⟨x0, x1, x2, x3, x4, x5, xz⟩ := zcells q2
      have z0 := xz 0; have z1 := xz 1; have z2 := xz 2; have z3 := xz 3; have z4 := xz 4; have z5 := xz 5
      clear hf hw1 hh yz xz
      repeat' (first | go_values | go_skip | go_guarded | go_step | go_upon | dsimp only)
      exact zq_end rfl rfl rfl (by rfl) q2 q3 (Nat.le_succ _)
end Go.Proofs.Ytlnelokpaccanaa
