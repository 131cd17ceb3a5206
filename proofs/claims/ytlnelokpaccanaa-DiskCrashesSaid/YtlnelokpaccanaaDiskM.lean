/- Used and Units. -/
import Derived.Test.YtlnelokpaccanaaDiskL
import Derived.Deep.LoopGhost
namespace Go.Proofs.Ytlnelokpaccanaa
open Go Go.RowKit Go.Tr
attribute [local go_sem] Oper.semAt_some
set_option linter.unusedVariables false

def tot (L : Files) : Int := (L.map fun p => (p.2.size : Int)).sum
def usedD (D : DS) : Int := IntKind.i64.wrap (tot D.seen)
theorem tot_mid (A : Files) (p : ByteArray × ByteArray) (B : Files) : tot (A ++ p :: B) = tot (A ++ B) + p.2.size := by
  unfold tot
  simp
  omega
theorem wrap_step (x y : Int) : IntKind.i64.wrap (IntKind.i64.wrap x + y) = IntKind.i64.wrap (x + y) := by
  rw [IntKind.wrap_i64, IntKind.wrap_i64, IntKind.wrap_i64]
  omega
set_option maxHeartbeats 1000000 in
theorem used_call {w : World} {b : Nat} {D : DS} {fp : List Nat} {bx : Nat → Prop} (h : Disk w b D fp bx) :
    Calls Try.prog 20 #[ptr b] w fun e w' => e = .returned (.int .i64 (usedD D)) ∧ Frm Nil w w' := by
  obtain ⟨s, m, sv, fa, fl, h⟩ := h
  have c6 := cells6 h.blk
  have k2 := c6.h2
  have HS := Lib.hid h.seen
  obtain ⟨o, hrun, hR⟩ := run_range (P := Try.prog) (t := 43) Try.underlying43 h.seen
  clear c6 h
  obtain ⟨w1, hw1⟩ : ∃ w1, w.alloc o = w1 := ⟨_, rfl⟩
  have f1 : Frm Nil w w1 := by rw [← hw1]; exact (Frm.refl _ w).alloc _
  rw [hw1] at hrun hR
  have F1 := Lib.hid f1; clear f1
  have R1 := Lib.hid hR; clear hR
  go_enter Try.func20, Try.ntmps20
  repeat' (first | (go_at_call 27; refine (none_no _ m _ k2).mono ?_; rintro e w' ⟨rfl, rfl⟩) | go_values | go_skip | go_guarded | go_step | go_upon | dsimp only)
  go_loopg [3] D.seen.length (fun k acc W => ∃ left : Files, left.length = k ∧ acc = .int .i64 (IntKind.i64.wrap (tot D.seen - tot left)) ∧ RngV W m w.heap.size Value.string (encF D.seen) (encF left) ∧ Frm Nil w W)
  case atStart => exact ⟨D.seen, rfl, by simp [IntKind.wrap_i64], R1.out, F1.out⟩
  case round =>
    obtain ⟨left, hlen, rfl, hRg, hFr⟩ := hrel
    have HFr := Lib.hid hFr; clear hFr
    have HLen := Lib.hid hlen; clear hlen
    clear hrun hw1 k2
    rcases run_next (P := Try.prog) hRg 0 with ⟨hnil, hrun⟩ | ⟨A, p, B, W2, hleft, hrun, hR2, hf2, hent⟩
    · have hl0 : left = [] := by simpa [encF] using hnil
      subst hl0
      have hE : usedD D = IntKind.i64.wrap (tot D.seen - tot []) := by simp [usedD, tot]
      have HE := Lib.hid hE; clear hE hnil hRg
      repeat' (first | go_values | go_skip | go_guarded | go_step | go_upon | dsimp only)
      go_ret
      exact ⟨by rw [HE.out]; rfl, HFr.out⟩
    · obtain ⟨A', l2, rfl, rfl, hl2⟩ := List.map_eq_append_iff.1 hleft
      obtain ⟨p', B', rfl, rfl, rfl⟩ := List.map_eq_cons_iff.1 hl2
      have hent' := hent W2 (Frm.refl _ _)
      have HR2 := Lib.hid hR2; clear hR2
      have hfW : Frm Nil w W2 := HFr.out.trans hf2 (fun i hi e => by have e' : i = w.heap.size := e; omega)
      have HFW := Lib.hid hfW; clear hfW
      clear hent hleft hl2 hf2 hRg
      simp only [fv] at hrun hent'
      repeat' (first | go_values | go_skip | go_guarded | go_step | go_upon | dsimp only)
      go_roundg (A' ++ B').length
      case measure => rw [← HLen.out]; simp
      case rel =>
        refine ⟨A' ++ B', rfl, ?_, ?_, HFW.out.alloc _⟩
        · congr 1
          rw [tot_mid]
          simp only [wrap64, IntKind.wrap_i64]
          omega
        · have := HR2.out.frm (S := Nil) ((Frm.refl Nil W2).alloc (.cells #[.string p'.2] 62)) (fun h => h) (fun h => h)
          simpa [encF] using this

set_option maxHeartbeats 1000000 in
theorem units_call {w : World} {b : Nat} {D : DS} {fp : List Nat} {bx : Nat → Prop} (h : Disk w b D fp bx) (hlen : D.steps.flatten.length ≤ 4611686018427387904) :
    Calls Try.prog 10 #[ptr b] w fun e w' => e = .returned (.int .i64 D.steps.flatten.length) ∧ Frm Nil w w' := by
  obtain ⟨s, m, sv, fa, fl, h⟩ := h
  have c6 := cells6 h.blk
  have k2 := c6.h2
  have k3 := c6.h3
  obtain ⟨xs, hown, hxs⟩ := h.steps
  have hform : ∃ A n, ∃ cap : Nat, sv = .slice A n cap ∧ n = D.steps.length := by
    rcases hown.2 with ⟨rfl, hx⟩ | ⟨g, cap, cur, rfl, _⟩
    · exact ⟨_, _, _, rfl, by have := hown.1; rw [hx] at this; simp at this; omega⟩
    · exact ⟨_, _, _, rfl, rfl⟩
  obtain ⟨A, n, cap, rfl, rfl⟩ := hform
  clear c6 h
  have HX := Lib.hid hxs; clear hxs
  have HO := Lib.hid hown; clear hown
  have HLen := Lib.hid hlen; clear hlen
  go_enter Try.func10, Try.ntmps10
  repeat' (first | (go_at_call 27; refine (none_no _ m _ k2).mono ?_; rintro e w' ⟨rfl, rfl⟩) | go_values | go_skip | go_guarded | go_step | go_upon | dsimp only)
  go_loopw [3, 14] (fun acc i W => ∃ k : Nat, k ≤ D.steps.length ∧ acc = .int .i64 (offs D.steps k) ∧ i = .int .i64 k ∧ Frm Nil w W) (fun _ i _ => D.steps.length - (intOf i).toNat)
  case atStart => exact ⟨0, Nat.zero_le _, rfl, rfl, Frm.refl _ _⟩
  case round =>
    obtain ⟨k, hk, rfl, rfl, hf⟩ := hrel
    by_cases hlt : k < D.steps.length
    · obtain ⟨us, hus⟩ : ∃ us, D.steps[k]? = some us := ⟨_, List.getElem?_eq_getElem hlt⟩
      obtain ⟨hx0, v, hx1, hE⟩ := HX.out k us hus
      obtain ⟨g, cap', hAg⟩ : ∃ g cap', (Value.slice A D.steps.length cap) = .slice (some ⟨g, 0, none⟩) D.steps.length cap' := by
        rcases HO.out.2 with ⟨h, _⟩ | ⟨g, cap', cur, h, _⟩
        · injection h with h1 h2 h3; omega
        · exact ⟨g, cap', h⟩
      have hk63 : (k : Int) + 1 ≤ 9223372036854775807 := by
        rcases HO.out.2 with ⟨h, _⟩ | ⟨g', cap'', cur, h, _, _, hn, hm, _⟩
        · rw [hAg] at h; injection h with h1 h2 h3; cases h1
        · unfold maxLen at hm; omega
      injection hAg with hA1 hA2 hA3
      subst hA1
      subst hA3
      have hown := HO.out
      have hgl : g < w.heap.size := (hown.lt g rfl).2
      have d0 : w.cell? ⟨g, 2 * k, none⟩ = some (.int .i64 us.length) := by rw [hown.cellAt (2 * k) (by omega)]; exact hx0
      have d1 : w.cell? ⟨g, 2 * k + 1, none⟩ = some v := by rw [hown.cellAt (2 * k + 1) (by omega)]; exact hx1
      have e0 : wr.cell? ⟨g, k * 2, none⟩ = some (.int .i64 us.length) := by rw [Nat.mul_comm]; exact hf.cellN d0
      have e1 : wr.cell? ⟨g, k * 2 + 1, none⟩ = some v := by rw [Nat.mul_comm]; exact hf.cellN d1
      obtain ⟨gf, lb, rfl⟩ := hE.func
      have hle := offs_le D.steps k us hus
      have hsu := offs_succ D.steps k us hus
      have hadd : wrap64 ((offs D.steps k : Int) + (us.length : Int)) = ((offs D.steps (k + 1) : Nat) : Int) := by
        rw [hsu]
        have := HLen.out
        simp only [wrap64]
        omega
      have HA := Lib.hid hadd; clear hadd
      have HF := Lib.hid hf; clear hf
      clear hE hx0 hx1 d0 d1 hown hsu hle hus
      repeat' (first | go_values | go_skip | go_guarded | go_step | go_upon | dsimp only)
      go_round
      case rel => exact ⟨k + 1, by omega, by rw [← HA.out], by go_num, HF.out.alloc _⟩
      case measure => simp [intOf]; omega
    · have hkl : k = D.steps.length := by omega
      subst hkl
      have hE : (offs D.steps D.steps.length : Int) = D.steps.flatten.length := by rw [offs_all]
      have HE := Lib.hid hE; clear hE
      have HF := Lib.hid hf; clear hf
      repeat' (first | go_values | go_skip | go_guarded | go_step | go_upon | dsimp only)
      go_ret
      exact ⟨by rw [← HE.out]; rfl, HF.out⟩
end Go.Proofs.Ytlnelokpaccanaa
