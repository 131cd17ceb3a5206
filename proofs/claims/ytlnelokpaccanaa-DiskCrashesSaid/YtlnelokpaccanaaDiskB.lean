/- The closures of a disk's units. -/
import Derived.Test.YtlnelokpaccanaaDiskA
import Derived.StillTailTactics
import Derived.Deep.QuietTactic
import Derived.BigQuiet
import Derived.Shelf.Abstract
namespace Go.Proofs.Ytlnelokpaccanaa
open Go Go.RowKit Go.Tr
set_option linter.unusedVariables false

def Box1 (w : World) (i : Nat) (t : TypeId) (v : Value) : Prop := w.heap[i]? = some (.cells #[v] t (0, 0))
theorem Box1.cell {w : World} {i : Nat} {t : TypeId} {v : Value} (h : Box1 w i t v) : w.cell? ⟨i, 0, none⟩ = some v := cell_of_row _ _ _ _ _ _ h
theorem Box1.frozen {w : World} {i : Nat} {t : TypeId} {v : Value} (h : Box1 w i t v) : w.frozen? ⟨i, 0, none⟩ = false := frozen_of_row _ _ _ _ _ h
theorem Box1.lt {w : World} {i : Nat} {t : TypeId} {v : Value} (h : Box1 w i t v) : i < w.heap.size := lt_of_obj h
theorem Box1.frm {S : Nat → Prop} {w w' : World} {i : Nat} {t : TypeId} {v : Value} (h : Box1 w i t v) (hf : Frm S w w') (hs : ¬ S i) : Box1 w' i t v := hf.obj h hs
theorem Box1.new (w : World) (t : TypeId) (v : Value) : Box1 (w.alloc (.cells #[v] t)) w.heap.size t v := World.alloc_heap_new w _

abbrev ptr (b : Nat) : Value := .pointer (some ⟨b, 0, none⟩)

/-- The function value v does the unit u; the boxes that it holds are among bx. -/
def URep (bx : Nat → Prop) (w : World) (v : Value) : U → Prop
  | .create n => ∃ a, bx a ∧ v = .func (.func 33) #[] #[ptr a] ∧ Box1 w a 9 (.string n)
  | .byte n c => ∃ a s i str, ∃ k : Nat, bx a ∧ bx s ∧ bx i ∧ v = .func (.func 34) #[] #[ptr a, ptr s, ptr i] ∧ Box1 w a 9 (.string n) ∧ Box1 w s 9 (.string str) ∧ Box1 w i 3 (.int .i64 k) ∧
      k < str.size ∧ str.size ≤ 9223372036854775807 ∧ c = str.extract k (k + 1)
  | .remove n => ∃ a, bx a ∧ v = .func (.func 43) #[] #[ptr a] ∧ Box1 w a 9 (.string n)
  | .rename x y => ∃ a b, bx a ∧ bx b ∧ v = .func (.func 39) #[] #[ptr a, ptr b] ∧ Box1 w a 9 (.string x) ∧ Box1 w b 9 (.string y)

theorem URep.frm {bx : Nat → Prop} {w w' : World} {v : Value} {u : U} (h : URep bx w v u) {S : Nat → Prop} (hf : Frm S w w') (hs : ∀ i, bx i → ¬ S i) : URep bx w' v u := by
  cases u with
  | create n => obtain ⟨a, h1, h2, h3⟩ := h; exact ⟨a, h1, h2, h3.frm hf (hs a h1)⟩
  | byte n c => obtain ⟨a, s, i, str, k, h1, h2, h3, h4, h5, h6, h7, r⟩ := h; exact ⟨a, s, i, str, k, h1, h2, h3, h4, h5.frm hf (hs a h1), h6.frm hf (hs s h2), h7.frm hf (hs i h3), r⟩
  | remove n => obtain ⟨a, h1, h2, h3⟩ := h; exact ⟨a, h1, h2, h3.frm hf (hs a h1)⟩
  | rename x y => obtain ⟨a, b, h1, h2, h3, h4, h5⟩ := h; exact ⟨a, b, h1, h2, h3, h4.frm hf (hs a h1), h5.frm hf (hs b h2)⟩
theorem URep.mono {bx bx' : Nat → Prop} {w : World} {v : Value} {u : U} (h : URep bx w v u) (hs : ∀ i, bx i → bx' i) : URep bx' w v u := by
  cases u with
  | create n => obtain ⟨a, h1, h2, h3⟩ := h; exact ⟨a, hs a h1, h2, h3⟩
  | byte n c => obtain ⟨a, s, i, str, k, h1, h2, h3, r⟩ := h; exact ⟨a, s, i, str, k, hs a h1, hs s h2, hs i h3, r⟩
  | remove n => obtain ⟨a, h1, h2, h3⟩ := h; exact ⟨a, hs a h1, h2, h3⟩
  | rename x y => obtain ⟨a, b, h1, h2, r⟩ := h; exact ⟨a, b, hs a h1, hs b h2, r⟩

theorem URep.kinds {bx : Nat → Prop} {w : World} {v : Value} {u : U} (h : URep bx w v u) : URep (fun i => bx i ∧ ∃ t c, Box1 w i t c) w v u := by
  cases u with
  | create n => obtain ⟨a, h1, h2, h3⟩ := h; exact ⟨a, ⟨h1, _, _, h3⟩, h2, h3⟩
  | byte n c => obtain ⟨a, s, i, str, k, h1, h2, h3, h4, h5, h6, h7, r⟩ := h; exact ⟨a, s, i, str, k, ⟨h1, _, _, h5⟩, ⟨h2, _, _, h6⟩, ⟨h3, _, _, h7⟩, h4, h5, h6, h7, r⟩
  | remove n => obtain ⟨a, h1, h2, h3⟩ := h; exact ⟨a, ⟨h1, _, _, h3⟩, h2, h3⟩
  | rename x y => obtain ⟨a, b, h1, h2, h3, h4, h5⟩ := h; exact ⟨a, b, ⟨h1, _, _, h4⟩, ⟨h2, _, _, h5⟩, h3, h4, h5⟩
/-- A block that is no row of cells may turn. -/
theorem URep.far {bx : Nat → Prop} {w w' : World} {v : Value} {u : U} (h : URep bx w v u) {S : Nat → Prop} (hf : Frm S w w') (hs : ∀ i, S i → ∃ o : Obj, w.heap[i]? = some o ∧ o.isCells = false) : URep bx w' v u :=
  (h.kinds.frm hf (fun i hi hx => by
    obtain ⟨_, t, c, hb⟩ := hi
    obtain ⟨o, ho, hc⟩ := hs i hx
    have hb' : w.heap[i]? = some (.cells #[c] t (0, 0)) := hb
    rw [hb'] at ho
    cases ho
    cases hc)).mono (fun i hi => hi.1)

def UPost (m : Nat) (L : Files) (w : World) (e : Ending) (w' : World) : Prop := e = .returned (.tuple #[]) ∧ MapV w' m Value.string (encF L) ∧ Frm (One m) w w'

theorem create_call (m a : Nat) (w : World) (L : Files) (n : ByteArray) (ha : Box1 w a 9 (.string n)) (hm : MapV w m Value.string (encF L)) :
    Calls Try.prog 33 #[.map (some m), ptr a] w (UPost m (U.apply (.create n) L) w) := by
  obtain ⟨w', hr, hm', hf⟩ := run_mapUpdate strK Try.underlying43 hm n (fv ⟨#[]⟩)
  have hc := ha.cell
  have hP : UPost m (U.apply (.create n) L) w (.returned (.tuple #[])) w' := ⟨rfl, by
    rw [show encF (U.apply (.create n) L) = mput beqB n (fv ⟨#[]⟩) (encF L) from (mput_map fv n _ L).symm]; exact hm', hf⟩
  have HP := Lib.hid hP; clear hP
  unfold fv at hr
  clear hm hm' hf ha
  go_enter Try.func33, Try.ntmps33
  repeat' (first | go_values | go_skip | go_guarded | go_step | go_upon | dsimp only)
  go_end0
  exact HP.out

theorem remove_call (m a : Nat) (w : World) (L : Files) (n : ByteArray) (ha : Box1 w a 9 (.string n)) (hm : MapV w m Value.string (encF L)) :
    Calls Try.prog 43 #[.map (some m), ptr a] w (UPost m (U.apply (.remove n) L) w) := by
  obtain ⟨w', hr, hm', hf⟩ := run_delete strK Try.underlying43 0 9 hm n
  have hc := ha.cell
  have hP : UPost m (U.apply (.remove n) L) w (.returned (.tuple #[])) w' := ⟨rfl, by
    rw [show encF (U.apply (.remove n) L) = mdel beqB n (encF L) from (mdel_map fv n L).symm]; exact hm', hf⟩
  have HP := Lib.hid hP; clear hP
  clear hm hm' hf ha
  go_enter Try.func43, Try.ntmps43
  repeat' (first | go_values | go_skip | go_guarded | go_step | go_upon | dsimp only)
  go_end0
  exact HP.out

theorem field_file (v : ByteArray) (w : World) : (Instr.field 62 (.agg #[.string v]) 0).run Try.prog w = .ok (.string v) w := by kernel_rfl

theorem byte_call (m a s i : Nat) (w : World) (L : Files) (n str : ByteArray) (k : Nat) (ha : Box1 w a 9 (.string n)) (hs : Box1 w s 9 (.string str)) (hi : Box1 w i 3 (.int .i64 k)) (hk : k < str.size) (hz : str.size ≤ 9223372036854775807)
    (hm : MapV w m Value.string (encF L)) (hb : ((mget beqB n L).getD ⟨#[]⟩).size < 9223372036854775807) :
    Calls Try.prog 34 #[.map (some m), ptr a, ptr s, ptr i] w (UPost m (U.apply (.byte n (str.extract k (k + 1))) L) w) := by
  have hmd : MapV w.drew m Value.string (encF L) := hm
  have hfd := field_file
  have hlk := run_lookup strK Try.underlying43 zfile hmd n false
  rw [show mget beqB n (encF L) = (mget beqB n L).map fv from mget_map fv n L, show ((mget beqB n L).map fv).getD (fv ⟨#[]⟩) = fv ((mget beqB n L).getD ⟨#[]⟩) by cases mget beqB n L <;> rfl] at hlk
  generalize hold : (mget beqB n L).getD ⟨#[]⟩ = old at hlk hb
  obtain ⟨w', hr, hm', hf⟩ := run_mapUpdate strK Try.underlying43 hmd n (fv (old ++ str.extract k (k + 1)))
  have hca := ha.cell
  have hcs := hs.cell
  have hci := hi.cell
  have hP : UPost m (U.apply (.byte n (str.extract k (k + 1))) L) w (.returned (.tuple #[])) w' := ⟨rfl, by
    rw [show encF (U.apply (.byte n (str.extract k (k + 1))) L) = mput beqB n (fv (old ++ str.extract k (k + 1))) (encF L) from by
      rw [← hold]; exact (mput_map fv n _ L).symm]; exact hm', ((Frm.refl (One m) w).drew).trans hf (fun _ _ h => h)⟩
  have HP := Lib.hid hP; clear hP
  unfold fv at hr hlk
  clear hm hmd hm' hf ha hs hi hold
  have k0 : (0 : Int) ≤ (k : Int) := by omega
  have k1 : (k : Int) + 1 ≤ (str.size : Int) := by omega
  go_enter Try.func34, Try.ntmps34
  go_region
  go_end0
  exact HP.out

theorem rename_call (m a b : Nat) (w : World) (L : Files) (x y : ByteArray) (ha : Box1 w a 9 (.string x)) (hb : Box1 w b 9 (.string y)) (hm : MapV w m Value.string (encF L)) :
    Calls Try.prog 39 #[.map (some m), ptr a, ptr b] w (UPost m (U.apply (.rename x y) L) w) := by
  have hlk := run_lookup strK Try.underlying43 zfile hm x false
  rw [show mget beqB x (encF L) = (mget beqB x L).map fv from mget_map fv x L, show ((mget beqB x L).map fv).getD (fv ⟨#[]⟩) = fv ((mget beqB x L).getD ⟨#[]⟩) by cases mget beqB x L <;> rfl] at hlk
  generalize hold : (mget beqB x L).getD ⟨#[]⟩ = old at hlk
  have f0 : Frm (One m) w (w.alloc (.cells #[.string old] 62)) := (Frm.refl _ w).alloc _
  have hm0 : MapV (w.alloc (.cells #[.string old] 62)) m Value.string (encF L) := hm.of_block (Below.heap_alloc w _ m hm.lt)
  obtain ⟨w1, hd, hm1, f1⟩ := run_delete strK Try.underlying43 0 9 hm0 x
  have hlt := hm.lt
  have hblk : w1.heap[w.heap.size]? = some (.cells #[.string old] 62) := f1.obj (World.alloc_heap_new w _) (fun e => by have : w.heap.size = m := e; omega)
  have hcell : w1.cell? ⟨w.heap.size, 0, none⟩ = some (.string old) := cell_of_row _ _ _ _ _ _ hblk
  obtain ⟨w2, hr, hm2, f2⟩ := run_mapUpdate strK Try.underlying43 hm1 y (fv old)
  have hca := ha.cell
  have hcb := hb.cell
  have hP : UPost m (U.apply (.rename x y) L) w (.returned (.tuple #[])) w2 := ⟨rfl, by
    rw [show encF (U.apply (.rename x y) L) = mput beqB y (fv old) (mdel beqB x (encF L)) from by
      rw [← hold]; unfold U.apply encF; rw [mdel_map fv x L, mput_map fv y]]; exact hm2, (f0.tr f1).tr f2⟩
  have HP := Lib.hid hP; clear hP
  have hca1 : w1.cell? ⟨b, 0, none⟩ = some (.string y) := by
    have hbm : ¬ One m b := fun e => by
      have e' : b = m := e
      subst e'
      obtain ⟨es, c, h0, _⟩ := hm
      have hb' : w.heap[b]? = some (.cells #[.string y] 9) := hb
      rw [h0] at hb'
      cases hb'
    exact ((f0.tr f1).cell (p := ⟨b, 0, none⟩) hb.lt hbm).trans hcb
  have hla : (w.alloc (.cells #[.string old] 62)).cell? ⟨a, 0, none⟩ = some (.string x) := (World.cell?_alloc_lt w _ ⟨a, 0, none⟩ ha.lt).trans hca
  unfold fv at hr hlk
  clear hm hm0 hm1 hm2 f0 f1 f2 ha hb hold hblk hlt
  go_enter Try.func39, Try.ntmps39
  repeat' (first | go_values | go_skip | go_guarded | go_step | go_upon | dsimp only)
  go_end0
  exact HP.out

/-- The call of a unit's function value. -/
theorem unit_call {bx : Nat → Prop} {w : World} {v : Value} {u : U} (h : URep bx w v u) {m : Nat} {L : Files} (hm : MapV w m Value.string (encF L)) (hb : ∀ n c, u = .byte n c → ((mget beqB n L).getD ⟨#[]⟩).size < 9223372036854775807) :
    ∃ gf lb, v = .func (.func gf) #[] lb ∧ (∀ args w, (callFunc gf args).run Try.prog w = .ok (.enter gf args) w) ∧ Calls Try.prog gf (#[.map (some m)] ++ lb) w (UPost m (u.apply L) w) := by
  cases u with
  | create n => obtain ⟨a, h1, rfl, h3⟩ := h; exact ⟨_, _, rfl, enters_of Try.func33 (by kernel_rfl) rfl, create_call m a w L n h3 hm⟩
  | byte n c =>
    obtain ⟨a, s, i, str, k, h1, h2, h3, rfl, h5, h6, h7, h8, h9, rfl⟩ := h
    exact ⟨_, _, rfl, enters_of Try.func34 (by kernel_rfl) rfl, byte_call m a s i w L n str k h5 h6 h7 h8 h9 hm (hb n _ rfl)⟩
  | remove n => obtain ⟨a, h1, rfl, h3⟩ := h; exact ⟨_, _, rfl, enters_of Try.func43 (by kernel_rfl) rfl, remove_call m a w L n h3 hm⟩
  | rename x y => obtain ⟨a, b, h1, h2, rfl, h4, h5⟩ := h; exact ⟨_, _, rfl, enters_of Try.func39 (by kernel_rfl) rfl, rename_call m a b w L x y h4 h5 hm⟩
end Go.Proofs.Ytlnelokpaccanaa
