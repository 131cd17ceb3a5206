/- New, Read. -/
import Derived.Test.YtlnelokpaccanaaDiskN
namespace Go.Proofs.Ytlnelokpaccanaa
open Go Go.RowKit Go.Tr
attribute [local go_sem] Oper.semAt_some
set_option linter.unusedVariables false

def DS.new (room : Int) : DS := { room := room, syn := [], seen := [], steps := [], fuse := none, down := false }
set_option maxHeartbeats 1000000 in
theorem new_call (w : World) (room : Int) (h0 : 0 ≤ room) (h1 : room ≤ 16777216) :
    Calls Try.prog 4 #[.int .i64 room] w fun e w' => ∃ b fp, e = .returned (.tuple #[ptr b, .int .i64 0]) ∧ Disk w' b (DS.new room) fp (fun _ => False) ∧ Frm Nil w w' ∧ ∀ i ∈ fp, w.heap.size ≤ i := by
  have t1 : decide (room < 0) = false := by simp; omega
  have t2 : decide ((16777216 : Int) < room) = false := by simp; omega
  have hmm : ∀ w, (Instr.makeMap 43 none).run Try.prog w = .ok (.map (some w.heap.size)) (w.alloc (.map #[] 0)) := fun w => by
    simp only [Instr.makeMap, Sem.run_bind, run_underlying Try.underlying43, Result.andThen_ok, newObj, Sem.run_pure]
    rfl
  go_enter Try.func4, Try.ntmps4
  repeat' (first | go_values | go_skip | go_guarded | go_step | go_upon | dsimp only)
  obtain ⟨wa, hwa⟩ : ∃ wa, (w.alloc (.map #[] 0)).alloc (.map #[] 0) = wa := ⟨_, rfl⟩
  rw [hwa]
  have ma : MapV wa w.heap.size Value.string (encF []) := by
    rw [← hwa]
    exact (MapV.made w).frm (S := Nil) ((Frm.refl Nil _).alloc _) (fun h => h)
  have mb : MapV wa (w.heap.size + 1) Value.string (encF []) := by
    rw [← hwa]
    have := MapV.made (enc := Value.string) (w.alloc (.map #[] 0))
    rwa [World.size_alloc] at this
  have fa : Frm Nil w wa := by rw [← hwa]; exact ((Frm.refl _ w).alloc _).alloc _
  have sa : wa.heap.size = w.heap.size + 1 + 1 := by rw [← hwa]; simp
  have fb : ∀ o, Frm Nil wa (wa.alloc o) := fun o => (Frm.refl _ _).alloc _
  refine bodyPost_ret (v := .tuple #[ptr (w.heap.size + 1 + 1), .int .i64 0]) (by simp [results, Try.results4, go_sem]) rfl ⟨w.heap.size + 1 + 1, [w.heap.size + 1 + 1, w.heap.size, w.heap.size + 1], rfl, ⟨w.heap.size, w.heap.size + 1, .slice none 0 0, .pointer none, [], ?_, ma.frm (fb _) (fun h => h), mb.frm (fb _) (fun h => h), by omega, Steps.nil _ _, ⟨rfl, rfl⟩, rfl, fun _ _ h => h, fun _ h => h.elim⟩, fa.trn (fb _), ?_⟩
  · rw [← sa]
    exact World.alloc_heap_new wa _
  · intro i hi
    simp at hi
    omega

/-- Read. -/
def readE (D : DS) (nm : ByteArray) : Int := thereE nm D.seen (if nameOk nm then 0 else 2)
def readV (D : DS) (nm : ByteArray) : ByteArray := if readE D nm = 0 then (mget beqB nm D.seen).getD ⟨#[]⟩ else ⟨#[]⟩
set_option maxHeartbeats 1000000 in
theorem read_call {w : World} {b : Nat} {D : DS} {fp : List Nat} {bx : Nat → Prop} (h : Disk w b D fp bx) (nm : ByteArray) :
    Calls Try.prog 16 #[ptr b, .string nm] w fun e w' => e = .returned (.tuple #[.string (readV D nm), .int .i64 (readE D nm)]) ∧ Frm Nil w w' := by
  obtain ⟨s, m, sv, fa, fl, h⟩ := h
  have hE : readE D nm = thereE nm D.seen (if nameOk nm then 0 else 2) := rfl
  have hV : readV D nm = if readE D nm = 0 then (mget beqB nm D.seen).getD ⟨#[]⟩ else ⟨#[]⟩ := rfl
  have hck := check_all b m (w.alloc (.cells #[.string nm] 9)) (((Frm.refl Nil w).alloc _).cellN (cells6 h.blk).h2) w.heap.size 1 [nm] (some ⟨w.heap.size, 0, none⟩) (fun i hi => by
    have : i = 0 := by simp at hi; omega
    subst this
    exact ⟨rfl, Box1.cell (Box1.new w 9 (.string nm))⟩) (by simp)
  simp only [List.all_cons, List.all_nil, Bool.and_true, List.length_cons, List.length_nil, Nat.reduceAdd, Nat.zero_add] at hck
  have HC := Lib.hid hck; clear hck
  have HE := Lib.hid hE; clear hE
  have HV := Lib.hid hV; clear hV
  have H := Lib.hid h; clear h
  obtain ⟨c0, hc0⟩ : ∃ c0 : Int, (if nameOk nm then 0 else 2) = c0 := ⟨_, rfl⟩
  rw [hc0] at HC HE
  clear hc0
  obtain ⟨r, hr⟩ : ∃ r, thereE nm D.seen c0 = r := ⟨_, rfl⟩
  have hth : Calls Try.prog 37 #[ptr b, .string nm, .int .i64 c0] (w.alloc (.cells #[.string nm] 9)) fun e w' => e = .returned (.int .i64 r) ∧ Frm Nil w w' := by
    rw [← hr]
    exact there_one H.out nm c0 (X := True) ⟨trivial, (Frm.refl Nil w).alloc _⟩
  have HT := Lib.hid hth; clear hth
  rw [hr] at HE
  have HEr := HE.out
  rw [HEr] at HV
  clear hr HEr
  have HV' := HV
  by_cases h0 : r = 0
  · subst h0
    simp only [if_true] at HV
    go_enter Try.func16, Try.ntmps16
    repeat' (first | (go_at_call 42; refine HC.out.mono ?_; rintro e w' ⟨rfl, rfl⟩) | (go_at_call 37; refine HT.out.mono ?_; rintro e w1 ⟨rfl, hf1⟩; have k2 := (cells6 (hf1.objN H.out.blk)).h2; have hlk := run_lookup strK Try.underlying43 zfile (H.out.seen.frm hf1 (fun h => h)) nm false; rw [show mget beqB nm (encF D.seen) = (mget beqB nm D.seen).map fv from mget_map fv nm D.seen, show ((mget beqB nm D.seen).map fv).getD (fv ⟨#[]⟩) = .agg #[.string ((mget beqB nm D.seen).getD ⟨#[]⟩)] from by { cases mget beqB nm D.seen <;> rfl}] at hlk; simp only [Bool.false_eq_true, if_false] at hlk; have hfld := fun (c : ByteArray) (W : World) => field_file c W) | go_values | go_skip | go_guarded | go_step | go_upon | dsimp only)
    exact bodyPost_ret (v := .tuple #[.string ((mget beqB nm D.seen).getD ⟨#[]⟩), .int .i64 0]) (by simp [results, Try.results16, go_sem]) rfl ⟨by rw [HE.out, HV.out], hf1⟩
  · have hb0 : (r == 0) = false := by simpa using h0
    have hb1 : (r != 0) = true := by simpa using h0
    rw [if_neg h0] at HV
    go_enter Try.func16, Try.ntmps16
    repeat' (first | (go_at_call 42; refine HC.out.mono ?_; rintro e w' ⟨rfl, rfl⟩) | (go_at_call 37; refine HT.out.mono ?_; rintro e w1 ⟨rfl, hf1⟩) | go_values | go_skip | go_guarded | go_step | go_upon | dsimp only)
    exact bodyPost_ret (v := .tuple #[.string ⟨#[]⟩, .int .i64 r]) (by simp [results, Try.results16, go_sem]) rfl ⟨by rw [HE.out, HV.out], hf1⟩
end Go.Proofs.Ytlnelokpaccanaa
