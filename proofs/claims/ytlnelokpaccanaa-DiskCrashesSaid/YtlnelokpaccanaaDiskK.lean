/- maps.Clone; Sync, Fuse, Down. -/
import Derived.Test.YtlnelokpaccanaaDiskJ
import Derived.Laws.Externs
import Derived.MapKept
namespace Go.Proofs.Ytlnelokpaccanaa
open Go Go.RowKit Go.Tr
attribute [local go_sem] Oper.semAt_some
set_option linter.unusedVariables false

/-- What a method leaves that turns the disk D to D'. -/
def OpPost (w : World) (b : Nat) (fp : List Nat) (bx : Nat → Prop) (D' : DS) (v : Value) (e : Ending) (w' : World) : Prop :=
  e = .returned v ∧ ∃ fp' bx', Disk w' b D' fp' bx' ∧ Frm (fun i => i ∈ fp) w w' ∧ (∀ i ∈ fp', i ∈ fp ∨ w.heap.size ≤ i) ∧ ∀ i, bx' i → bx i ∨ w.heap.size ≤ i

theorem DRep.off_b {w : World} {b : Nat} {D : DS} {fp : List Nat} {bx : Nat → Prop} {s m : Nat} {sv fa : Value} {fl : List Nat} (h : DRep w b D fp bx s m sv fa fl) :
    s ≠ b ∧ m ≠ b ∧ (∀ g, sv.ownBlock = some g → g ≠ b) ∧ (∀ i ∈ fl, i ≠ b) ∧ (∀ i, bx i → i ≠ b) := by
  have ne1 : ∀ {i es c}, w.heap[i]? = some (.map es c) → i ≠ b := by
    rintro i es c h1 rfl
    rw [h.blk] at h1
    cases h1
  have ne2 : ∀ {i c t}, w.heap[i]? = some (.cells c t (0, 0)) → t ≠ 47 → i ≠ b := by
    rintro i c t h1 ht rfl
    rw [h.blk] at h1
    cases h1
    exact ht rfl
  refine ⟨?_, ?_, fun g hg => ?_, fun i hi => ?_, fun i hi e => ?_⟩
  · obtain ⟨es, c, h1, _⟩ := h.syn; exact ne1 h1
  · obtain ⟨es, c, h1, _⟩ := h.seen; exact ne1 h1
  · obtain ⟨xs, ho, _⟩ := h.steps
    rcases ho.2 with ⟨h1, _⟩ | ⟨g', cap, cur, h1, _, h2, _⟩
    · rw [h1] at hg; cases hg
    · rw [h1] at hg
      injection hg with hg
      subst hg
      exact ne2 h2 (by decide)
  · have hz := h.fuse
    cases hfz : D.fuse with
    | none => rw [hfz] at hz; rw [hz.2] at hi; simp at hi
    | some k =>
      rw [hfz] at hz
      obtain ⟨f, _, hb', hl, _⟩ := hz
      rw [hl] at hi
      simp at hi
      subst hi
      exact ne2 hb' (by decide)
  · subst e
    exact h.off i (by rw [h.fp_eq]; simp) hi

theorem run_assert_map {P : Program} {w : World} (t xT k e : TypeId) (v : Value) (h : P.underlying t = some (.map k e)) : (Instr.typeAssert (.iface t v) xT t false).run P w = .ok v w := by
  simp [Instr.typeAssert, run_underlying h, go_sem, Result.andThen]
theorem run_clone_ext {P : Program} {w : World} {r : Nat} {es : Array MapEntry} {clock : Nat} (t : TypeId) (hb : w.heap[r]? = some (.map es clock)) :
    (Extern.MapsClone.clone #[.iface t (.map (some r))]).run P w = .ok (.iface t (.map (some w.heap.size))) (w.alloc (.map es clock)) := by
  show ((getObj r >>= _ : Sem Value)).run P w = _
  simp [MapKept.run_getObj_map hb, Result.andThen, go_sem]
theorem clone_call {w : World} {m : Nat} {L : Files} (h : MapV w m Value.string (encF L)) :
    Calls Try.prog 28 #[.map (some m)] w fun e w' => e = .returned (.map (some w.heap.size)) ∧ (∃ o, w' = w.alloc o) ∧ MapV w' w.heap.size Value.string (encF L) := by
  obtain ⟨es, clock, hb, hr⟩ := h
  have hM : MapV (w.alloc (.map es clock)) w.heap.size Value.string (encF L) := ⟨es, clock, World.alloc_heap_new w _, hr⟩
  have HM := Lib.hid hM; clear hM hr
  have q := fun (w : World) (r : Option Nat) => run_eql_map_nil (P := Try.prog) w 43 _ _ r Try.underlying43
  have hx : (callFunc 50 #[.iface 43 (.map (some m))]).run Try.prog w = .ok (.value (.iface 43 (.map (some w.heap.size)))) (w.alloc (.map es clock)) := by
    rw [run_callFunc_extern Try.func50 (by kernel_rfl) (by kernel_rfl) (by kernel_rfl) (e := Extern.MapsClone.clone) (by kernel_rfl), run_clone_ext 43 hb]
    rfl
  have ha := run_assert_map (P := Try.prog) (w := w.alloc (.map es clock)) 43 20 _ _ (.map (some w.heap.size)) Try.underlying43
  have he : ∃ o, (w.alloc (.map es clock)) = w.alloc o := ⟨_, rfl⟩
  generalize w.alloc (.map es clock) = w1 at *
  go_enter Try.func28, Try.ntmps28
  repeat' (first | go_values | go_skip | go_guarded | go_step | go_upon | dsimp only)
  go_ret
  exact ⟨rfl, he, HM.out⟩

theorem burnD_seen (D : DS) (u : Int) : (burnD D u).seen = D.seen := by unfold burnD; cases D.fuse <;> rfl
/-- Sync. -/
def syncD (D : DS) : DS := if D.down then D else if burnN D 1 = 0 then burnD D 1 else { burnD D 1 with syn := D.seen, steps := [] }
def syncE (D : DS) : Int := if D.down then 70 else if burnN D 1 = 0 then 70 else 0
theorem OpPost.same {w w' : World} {b : Nat} {D' : DS} {fp : List Nat} {bx : Nat → Prop} (h : Disk w' b D' fp bx) (hf : Frm (fun i => i ∈ fp) w w') (v : Value) : OpPost w b fp bx D' v (.returned v) w' :=
  ⟨rfl, fp, bx, h, hf, fun _ hi => .inl hi, fun _ hi => .inl hi⟩

set_option maxHeartbeats 1000000 in
theorem sync_call {w : World} {b : Nat} {D : DS} {fp : List Nat} {bx : Nat → Prop} (h : Disk w b D fp bx) :
    Calls Try.prog 13 #[ptr b] w (OpPost w b fp bx (syncD D) (.int .i64 (syncE D))) := by
  obtain ⟨s, m, sv, fa, fl, h⟩ := h
  have c6 := cells6 h.blk
  have hup := Lib.hid (up_all b m D.down w c6.h2 c6.h5 0 0 [] none (fun i hi => absurd hi (by simp)) (by simp))
  simp only [List.length_nil, upE, List.all_nil, if_true] at hup
  have hE : syncE D = if D.down then 70 else if burnN D 1 = 0 then 70 else 0 := rfl
  have hDD : syncD D = if D.down then D else if burnN D 1 = 0 then burnD D 1 else { burnD D 1 with syn := D.seen, steps := [] } := rfl
  have HE := Lib.hid hE; clear hE
  have HD := Lib.hid hDD; clear hDD
  cases hdn : D.down with
  | true =>
    rw [hdn] at hup HE HD
    simp only [if_true] at HE HD
    have H := Lib.hid h; clear h c6
    go_enter Try.func13, Try.ntmps13
    repeat' (first | (go_at_call 31; refine hup.out.mono ?_; rintro e w' ⟨rfl, rfl⟩) | go_values | go_skip | go_guarded | go_step | go_upon | dsimp only)
    go_ret
    rw [HE.out, HD.out]
    exact OpPost.same ⟨s, m, sv, fa, fl, H.out⟩ (Frm.refl _ _) _
  | false =>
    rw [hdn] at hup HE HD
    simp only [Bool.false_eq_true, if_false] at HE HD
    have hb := Lib.hid (burn_disk h 1 (by omega) (by omega))
    obtain ⟨n, hn⟩ : ∃ n, burnN D 1 = n := ⟨_, rfl⟩
    rw [hn] at hb HE HD
    have hfl : ∀ i, i ∈ fl → i ∈ fp := fun i hi => by rw [h.fp_eq]; simp [hi]
    have hbf : b ∈ fp := by rw [h.fp_eq]; simp
    have hlt := h.lt
    have hff : ∀ w1, Frm (fun i => i = b ∨ i ∈ fl) w w1 → Frm (fun i => i ∈ fp) w w1 := fun w1 hf => hf.mono (fun i _ hx => by
      rcases hx with rfl | hx
      · exact hbf
      · exact hfl i hx)
    have H := Lib.hid h; clear h c6
    have HF := Lib.hid hff; clear hff
    have HLT := Lib.hid hlt; clear hlt
    clear hfl hn
    by_cases h0 : n = 0
    · subst h0
      simp only [if_true] at HE HD
      go_enter Try.func13, Try.ntmps13
      repeat' (first | (go_at_call 31; refine hup.out.mono ?_; rintro e w' ⟨rfl, rfl⟩) | (go_at_call 36; refine hb.out.mono ?_; rintro e w1 ⟨rfl, hD1, hF1⟩) | go_values | go_skip | go_guarded | go_step | go_upon | dsimp only)
      go_ret
      rw [HE.out, HD.out]
      exact OpPost.same ⟨s, m, sv, fa, fl, hD1⟩ (HF.out _ hF1) _
    · rw [if_neg h0] at HE HD
      have hb0 : (n == 0) = false := by simpa using h0
      have hb1 : (n != 0) = true := by simpa using h0
      go_enter Try.func13, Try.ntmps13
      repeat' (first | (go_at_call 31; refine hup.out.mono ?_; rintro e w' ⟨rfl, rfl⟩) | (go_at_call 36; refine hb.out.mono ?_; rintro e w1 ⟨rfl, hD1, hF1⟩; have hc1 := cells6 hD1.blk; have k2 := hc1.h2; clear hc1) | (go_at_call 28; refine (clone_call hD1.seen).mono ?_; rintro e w2 ⟨rfl, ⟨o, hw2⟩, hM2⟩; have f12 : Frm Nil w1 w2 := by { rw [hw2]; exact (Frm.refl _ _).alloc _ }; have s12 : w2.heap.size = w1.heap.size + 1 := by { rw [hw2]; simp }; clear hw2; have hb2 := f12.objN hD1.blk; have hc2 := cells6 hb2; have k1 := hc2.h1; have k3 := hc2.h3; have z1 := frozen_of_row _ _ 1 _ _ hb2; have z3 := frozen_of_row _ _ 3 _ _ hb2; clear hc2) | go_values | go_skip | go_guarded | go_step | go_upon | dsimp only)
      go_ret
      rw [HE.out, HD.out]
      rw [burnD_seen] at hM2
      generalize hw3 : ((w2.setCell { block := b, off := 1 } (Value.map (some w1.heap.size))).setCell { block := b, off := 3 } (Value.slice none 0 0)) = w3
      have f23 : Frm (One b) w2 w3 := by rw [← hw3]; exact (frm_set _ _ _ _).tr (frm_set _ _ _ _)
      have hw1 : w.heap.size ≤ w1.heap.size := hF1.size
      have hbl : b < w1.heap.size := lt_of_obj hD1.blk
      have hml : m < w1.heap.size := hD1.seen.lt
      have hbxl := hD1.bxl
      have hoff := hD1.off
      have hl1 := hD1.lt
      obtain ⟨n1, n2, n3, n4, n5⟩ := hD1.off_b
      have hfz := (hD1.fuse.frm f12 (fun _ _ h => h)).frm f23 (fun i hi => n4 i hi)
      have hse := (hD1.seen.frm f12 (fun h => h)).frm f23 n2
      have hsy := hM2.frm f23 (fun e => by have e' : w1.heap.size = b := e; omega)
      have hfp := hD1.fp_eq
      refine ⟨rfl, b :: w1.heap.size :: m :: fl, bx, ⟨w1.heap.size, m, .slice none 0 0, fa, fl, ?_, hsy, hse, by omega, Steps.nil _ _, hfz, rfl, ?_, ?_⟩, ((HF.out _ hF1).trn f12).trans f23 (fun i hi e => by have e' : i = b := e; rw [e']; exact hbf), ?_, fun i hi => .inl hi⟩
      · rw [← hw3]
        have := heap_set (.slice none 0 0) (i := 3) (heap_set (.map (some w1.heap.size)) (i := 1) hb2)
        simpa using this
      · intro i hi hx
        simp only [List.mem_cons] at hi
        rcases hi with rfl | rfl | rfl | hi
        · exact hoff i (by rw [hfp]; simp) hx
        · have := hbxl _ hx; omega
        · exact hoff i (by rw [hfp]; simp) hx
        · exact hoff i (by rw [hfp]; simp [hi]) hx
      · intro i hx
        have := hbxl i hx
        have := f23.size
        omega
      · intro i hi
        simp only [List.mem_cons] at hi
        rcases hi with rfl | rfl | rfl | hi
        · exact .inl hbf
        · exact .inr hw1
        · exact .inl (by rw [hfp]; simp)
        · exact .inl (by rw [hfp]; simp [hi])

theorem down_call {w : World} {b : Nat} {D : DS} {fp : List Nat} {bx : Nat → Prop} (h : Disk w b D fp bx) :
    Calls Try.prog 18 #[ptr b] w fun e w' => e = .returned (.bool D.down) ∧ w = w' := by
  obtain ⟨s, m, sv, fa, fl, h⟩ := h
  have c6 := cells6 h.blk
  have k2 := c6.h2
  have k5 := c6.h5
  clear c6 h
  go_enter Try.func18, Try.ntmps18
  repeat' (first | (go_at_call 27; refine (none_no _ m _ (by assumption)).mono ?_; rintro e w' ⟨rfl, rfl⟩) | go_values | go_skip | go_guarded | go_step | go_upon | dsimp only)
  go_ret
  exact ⟨rfl, rfl⟩

/-- Fuse. -/
def fuseD (D : DS) (k : Int) : DS := if k < 0 then D else if D.down then D else { D with fuse := some k }
def fuseE (D : DS) (k : Int) : Int := if k < 0 then 2 else if D.down then 70 else 0
set_option maxHeartbeats 1000000 in
theorem fuse_call {w : World} {b : Nat} {D : DS} {fp : List Nat} {bx : Nat → Prop} (h : Disk w b D fp bx) (k : Int) (hk : k ≤ 9223372036854775807) :
    Calls Try.prog 17 #[ptr b, .int .i64 k] w (OpPost w b fp bx (fuseD D k) (.int .i64 (fuseE D k))) := by
  obtain ⟨s, m, sv, fa, fl, h⟩ := h
  have hE : fuseE D k = if k < 0 then 2 else if D.down then 70 else 0 := rfl
  have hDD : fuseD D k = if k < 0 then D else if D.down then D else { D with fuse := some k } := rfl
  have HE := Lib.hid hE; clear hE
  have HD := Lib.hid hDD; clear hDD
  obtain ⟨w0, hw0⟩ : ∃ w0, w.alloc (.cells #[.int .i64 k] 3) = w0 := ⟨_, rfl⟩
  have f0 : Frm Nil w w0 := by rw [← hw0]; exact (Frm.refl _ w).alloc _
  have hB0 : Box1 w0 w.heap.size 3 (.int .i64 k) := by rw [← hw0]; exact World.alloc_heap_new w _
  have h0 := h.frm f0 (fun _ _ h => h) (fun _ _ h => h)
  have hlt := h.lt
  have hbxl := h.bxl
  clear h
  have c6 := cells6 h0.blk
  have k2 := c6.h2
  have k4 := c6.h4
  have k5 := c6.h5
  have cB := hB0.cell
  have z4 := frozen_of_row _ _ 4 _ _ h0.blk
  clear c6
  have H := Lib.hid h0; clear h0
  have HLT := Lib.hid hlt; clear hlt
  have HBX := Lib.hid hbxl; clear hbxl
  by_cases hkn : k < 0
  · have t1 : decide (k < 0) = true := by simpa using hkn
    rw [if_pos hkn] at HE HD
    go_enter Try.func17, Try.ntmps17
    repeat' (first | (go_at_call 27; refine (none_no _ m _ (by assumption)).mono ?_; rintro e w' ⟨rfl, rfl⟩) | go_values | go_skip | go_guarded | go_step | go_upon | dsimp only)
    go_ret
    rw [HE.out, HD.out]
    exact OpPost.same ⟨s, m, sv, fa, fl, H.out⟩ f0.nil _
  · have t1 : decide (k < 0) = false := by simpa using hkn
    rw [if_neg hkn] at HE HD
    cases hdn : D.down with
    | true =>
      rw [hdn] at k5 HE HD
      simp only [if_true] at HE HD
      go_enter Try.func17, Try.ntmps17
      repeat' (first | (go_at_call 27; refine (none_no _ m _ (by assumption)).mono ?_; rintro e w' ⟨rfl, rfl⟩) | go_values | go_skip | go_guarded | go_step | go_upon | dsimp only)
      go_ret
      rw [HE.out, HD.out]
      exact OpPost.same ⟨s, m, sv, fa, fl, H.out⟩ f0.nil _
    | false =>
      rw [hdn] at k5 HE HD
      simp only [Bool.false_eq_true, if_false] at HE HD
      go_enter Try.func17, Try.ntmps17
      repeat' (first | (go_at_call 27; refine (none_no _ m _ (by assumption)).mono ?_; rintro e w' ⟨rfl, rfl⟩) | go_values | go_skip | go_guarded | go_step | go_upon | dsimp only)
      go_ret
      rw [HE.out, HD.out]
      generalize hw3 : (w0.setCell { block := b, off := 4 } _) = w3
      have h0 := H.out
      have f03 : Frm (One b) w0 w3 := by rw [← hw3]; exact frm_set _ _ _ _
      obtain ⟨n1, n2, n3, n4, n5⟩ := h0.off_b
      have hfp := h0.fp_eq
      have hoff := h0.off
      have hbl : b < w.heap.size := HLT.out b (by rw [hfp]; simp)
      have hsz : w0.heap.size = w.heap.size + 1 := by rw [← hw0]; simp
      refine ⟨rfl, b :: s :: m :: (sv.ownBlock.toList ++ [w.heap.size]), bx, ⟨s, m, sv, ptr w.heap.size, [w.heap.size], ?_, h0.syn.frm f03 n1, h0.seen.frm f03 n2, h0.ne, h0.steps.frm f03 n3 n5, ⟨w.heap.size, rfl, hB0.frm f03 (fun e => by have e' : w.heap.size = b := e; omega), rfl, by omega, hk⟩, rfl, ?_, ?_⟩, (f0.nil (S := fun i => i ∈ fp)).trans f03 (fun i hi e => by have e' : i = b := e; rw [e', hfp]; simp), ?_, fun i hi => .inl hi⟩
      · rw [← hw3]
        have := heap_set (ptr w.heap.size) (i := 4) h0.blk
        rw [hdn] at this
        simpa [ptr] using this
      · intro i hi hx
        simp only [List.mem_cons, List.mem_append, Option.mem_toList, List.not_mem_nil, or_false] at hi
        rcases hi with rfl | rfl | rfl | hi | rfl
        · exact hoff i (by rw [hfp]; simp) hx
        · exact hoff i (by rw [hfp]; simp) hx
        · exact hoff i (by rw [hfp]; simp) hx
        · exact hoff i (by rw [hfp, hi]; simp) hx
        · have := HBX.out _ hx; omega
      · intro i hx
        have := HBX.out i hx
        have := f03.size
        omega
      · intro i hi
        simp only [List.mem_cons, List.mem_append, Option.mem_toList, List.not_mem_nil, or_false] at hi
        rcases hi with rfl | rfl | rfl | hi | rfl
        · exact .inl (by rw [hfp]; simp)
        · exact .inl (by rw [hfp]; simp)
        · exact .inl (by rw [hfp]; simp)
        · exact .inl (by rw [hfp, hi]; simp)
        · exact .inr (by omega)
end Go.Proofs.Ytlnelokpaccanaa
