/- The acts as they come in; great. -/
import Derived.Test.YtlnelokpaccanaaDiskS
import Derived.Test.YtlnelokpaccanaaDiskT
namespace Go.Proofs.Ytlnelokpaccanaa
open Go Go.RowKit Go.Tr
attribute [local go_sem] Oper.semAt_some
set_option linter.unusedVariables false

structure ActV where
  x : Int
  nm : ByteArray
  str : ByteArray
  k : Int
structure ActAt (W : World) (a : Addr) (i : Nat) (y : ActV) : Prop where
  c0 : W.cell? (a.add (i * 4)) = some (.int .u8 y.x)
  c1 : W.cell? ⟨(a.add (i * 4)).block, (a.add (i * 4)).off + 1, none⟩ = some (.string y.nm)
  c2 : W.cell? ⟨(a.add (i * 4)).block, (a.add (i * 4)).off + 2, none⟩ = some (.string y.str)
  c3 : W.cell? ⟨(a.add (i * 4)).block, (a.add (i * 4)).off + 3, none⟩ = some (.int .i64 y.k)
/-- The slice v holds the acts l. -/
def ActsR (W : World) (v : Value) (l : List ActV) : Prop :=
  (v = .slice none 0 0 ∧ l = []) ∨ ∃ a cap, v = .slice (some a) l.length cap ∧ ∀ i y, l[i]? = some y → ActAt W a i y
theorem ActAt.frm {S : Nat → Prop} {W W' : World} {a : Addr} {i : Nat} {y : ActV} (h : ActAt W a i y) (hf : Frm S W W') (hs : ¬ S a.block) : ActAt W' a i y := by
  have hb : ∀ n, (a.add n).block = a.block := fun n => by unfold Addr.add; split <;> rfl
  have h0 := World.block_lt_of_cell? _ _ h.c0
  rw [hb] at h0
  exact ⟨(hf.cell (by rw [hb]; exact h0) (by rw [hb]; exact hs)).trans h.c0, (hf.cell (p := ⟨(a.add (i * 4)).block, _, none⟩) (by show (a.add (i * 4)).block < _; rw [hb]; exact h0) (by show ¬ S (a.add (i * 4)).block; rw [hb]; exact hs)).trans h.c1, (hf.cell (p := ⟨(a.add (i * 4)).block, _, none⟩) (by show (a.add (i * 4)).block < _; rw [hb]; exact h0) (by show ¬ S (a.add (i * 4)).block; rw [hb]; exact hs)).trans h.c2, (hf.cell (p := ⟨(a.add (i * 4)).block, _, none⟩) (by show (a.add (i * 4)).block < _; rw [hb]; exact h0) (by show ¬ S (a.add (i * 4)).block; rw [hb]; exact hs)).trans h.c3⟩
def bytesOf (l : List ActV) : Nat := (l.map fun y => y.str.size + y.nm.size).sum
theorem bytesOf_le (l : List ActV) (h : ∀ y ∈ l, y.nm.size ≤ 140737488355328 ∧ y.str.size ≤ 140737488355328) : bytesOf l ≤ l.length * 281474976710656 := by
  induction l with
  | nil => simp [bytesOf]
  | cons y l ih =>
    have := h y (by simp)
    have := ih (fun z hz => h z (by simp [hz]))
    simp only [bytesOf, List.map_cons, List.sum_cons, List.length_cons] at *
    omega
theorem bytesOf_succ (l : List ActV) (k : Nat) (y : ActV) (h : l[k]? = some y) : bytesOf (l.take (k + 1)) = bytesOf (l.take k) + y.str.size + y.nm.size := by
  rw [List.take_add_one, h]
  simp [bytesOf]
  omega
set_option maxHeartbeats 1000000 in
theorem great_call (w : World) (v : Value) (l : List ActV) (h : ActsR w v l) (hlen : l.length ≤ 4611686018427387904) :
    Calls Try.prog 5 #[v] w fun e w' => e = .returned (.bool (decide (40 < l.length) || decide (1000 < IntKind.i64.wrap (bytesOf l : Int)))) ∧ Frm Nil w w' := by
  have hform : ∃ A n c, v = .slice A n c ∧ n = l.length := by
    rcases h with ⟨rfl, rfl⟩ | ⟨a, cap, rfl, _⟩
    · exact ⟨_, _, _, rfl, rfl⟩
    · exact ⟨_, _, _, rfl, rfl⟩
  obtain ⟨A, n, c, rfl, rfl⟩ := hform
  have H := Lib.hid h; clear h
  have HLen := Lib.hid hlen; clear hlen
  go_enter Try.func5, Try.ntmps5
  repeat' (first | go_values | go_skip | go_guarded | go_step | go_upon | dsimp only)
  go_loopw [3, 4] (fun acc i W => ∃ k : Nat, k ≤ l.length ∧ acc = .int .i64 (IntKind.i64.wrap (bytesOf (l.take k) : Int)) ∧ i = .int .i64 k ∧ Frm Nil w W) (fun _ i _ => l.length - (intOf i).toNat)
  case atStart => exact ⟨0, Nat.zero_le _, by simp [bytesOf, IntKind.wrap_i64], rfl, Frm.refl _ _⟩
  case round =>
    obtain ⟨k, hk, rfl, rfl, hf⟩ := hrel
    by_cases hlt : k < l.length
    · obtain ⟨y, hy⟩ : ∃ y, l[k]? = some y := ⟨_, List.getElem?_eq_getElem hlt⟩
      obtain ⟨a, hA, hat⟩ : ∃ a, A = some a ∧ ActAt wr a k y := by
        rcases H.out with ⟨_, h0⟩ | ⟨a, cap, h1, h2⟩
        · rw [h0] at hlt; exact absurd hlt (by simp)
        · injection h1 with h1 _ _
          exact ⟨a, h1, (h2 k y hy).frm hf (fun h => h)⟩
      subst hA
      have e1 := hat.c1
      have e2 := hat.c2
      have hs := bytesOf_succ l k y hy
      have HS := Lib.hid hs; clear hs hy
      have HF := Lib.hid hf; clear hf
      have k0 : (0 : Int) ≤ (k : Int) := by omega
      have k1 : (k : Int) < (l.length : Int) := by omega
      have k63 : (k : Int) + 1 ≤ 9223372036854775807 := by have := HLen.out; omega
      clear hat
      repeat' (first | go_values | go_skip | go_guarded | go_step | go_upon | dsimp only)
      go_region_held2 (fun W => W.cell? ⟨(a.add (k * 4)).block, (a.add (k * 4)).off + 1, none⟩ = some (.string y.nm) ∧ W.cell? ⟨(a.add (k * 4)).block, (a.add (k * 4)).off + 2, none⟩ = some (.string y.str) ∧ Frm Nil w W)
        ((first | assumption | exact ⟨e1, e2, HF.out.drew⟩))
        ((fail))
      repeat' (first | go_values | go_skip | go_guarded | go_step | go_upon | dsimp only)
      go_round
      case measure => simp [intOf]; omega
      case rel =>
        refine ⟨k + 1, by omega, ?_, by go_num, HF.out.drew⟩
        congr 1
        rw [HS.out]
        simp only [wrap64, IntKind.wrap_i64]
        omega
    · obtain rfl : k = l.length := by omega
      rw [List.take_length]
      have hw : IntKind.i64.wrap (bytesOf l : Int) = wrap64 (bytesOf l : Int) := by simp only [wrap64, IntKind.wrap_i64]
      have HW := Lib.hid hw; clear hw
      by_cases h40 : 40 < l.length
      · have t : decide ((40 : Int) < (l.length : Int)) = true := decide_eq_true (by omega)
        have t' : decide (40 < l.length) = true := decide_eq_true h40
        have T' := Lib.hid t'; clear t' h40 hk hlt HW
        repeat' (first | go_values | go_skip | go_guarded | go_step | go_upon | dsimp only)
        go_ret
        exact ⟨by rw [T'.out]; rfl, hf⟩
      · have t : decide ((40 : Int) < (l.length : Int)) = false := decide_eq_false (by omega)
        have t' : decide (40 < l.length) = false := decide_eq_false h40
        have T' := Lib.hid t'; clear t' h40 hk hlt
        repeat' (first | go_values | go_skip | go_guarded | go_step | go_upon | dsimp only)
        go_ret
        exact ⟨by rw [T'.out, Bool.false_or, HW.out]; rfl, hf⟩
end Go.Proofs.Ytlnelokpaccanaa
