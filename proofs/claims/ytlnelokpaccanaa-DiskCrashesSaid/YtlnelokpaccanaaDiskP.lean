/- slices.Clone of the steps; Copy. -/
import Derived.Test.YtlnelokpaccanaaDiskO
import Derived.Lib.SliceRun
import Derived.OwnWalk
namespace Go.Proofs.Ytlnelokpaccanaa
open Go Go.RowKit Go.Tr
attribute [local go_sem] Oper.semAt_some
attribute [local go_sem ↓] hide_app
set_option linter.unusedVariables false

set_option maxRecDepth 100000 in
set_option maxHeartbeats 1000000 in
theorem sclone_call {bx : Nat → Prop} {w : World} {sv : Value} {st : List (List U)} (h : Steps bx w sv st) (hst : st.length ≤ 1000000000) :
    Calls Try.prog 30 #[sv] w fun e w' => ∃ sv', e = .returned sv' ∧ Steps bx w' sv' st ∧ Frm Nil w w' ∧ ∀ g, sv'.ownBlock = some g → w.heap.size ≤ g := by
  obtain ⟨xs, hown, hxs⟩ := h
  have q44 : ∀ (w : World) (a : Option Addr) (n c n' c' : Nat), (binOp .eql 44 (.slice a n c) (.slice none n' c')).run Try.prog w = .ok (.bool a.isNone) w := fun w a n c n' c' => Lib.run_eql_slice_nil w _ _ a n c n' c' Try.underlying44
  rcases hown.2 with ⟨rfl, h0⟩ | ⟨g, cap, cur, rfl, _, hg, hc1, hc2, hc3, hc4⟩
  · have hx : st = [] := List.length_eq_zero_iff.1 h0
    have HX := Lib.hid hx; clear hx hxs hown h0
    go_enter Try.func30, Try.ntmps30
    repeat' (first | go_values | go_skip | go_guarded | go_step | go_upon | dsimp only)
    go_ret
    exact ⟨_, rfl, by rw [HX.out]; exact Steps.nil _ _, Frm.refl _ _, by simp [Value.ownBlock]⟩
  · obtain ⟨i0, hi, hz0, hz1, hz2⟩ := info_parts info70
    have hnews : ∀ j u, xs[j]? = some u → (w.alloc (.cells #[] 70)).cell? ((⟨g, 0, none⟩ : Addr).add j) = some u := fun j u hj => by
      have hj' := (List.getElem?_eq_some_iff.1 hj).1
      have h1 := hown.cellAt j (by rw [← hown.1]; exact hj')
      rw [hj] at h1
      rw [Addr.add_lit]
      exact Lib.cell?_alloc_some _ (by simpa using h1)
    have hone : ∀ u ∈ xs, u.oneCell' = true := fun u hu => by
      obtain ⟨j, hj⟩ := List.getElem?_of_mem hu
      have hj' := (List.getElem?_eq_some_iff.1 hj).1
      have hxl := hown.1
      obtain ⟨us, hus⟩ : ∃ us, st[j / 2]? = some us := ⟨_, List.getElem?_eq_getElem (by omega)⟩
      obtain ⟨h3, v, h4, h5⟩ := hxs _ us hus
      rcases Nat.mod_two_eq_zero_or_one j with hm | hm
      · rw [show 2 * (j / 2) = j by omega, hj] at h3
        injection h3 with h3
        subst h3
        rfl
      · rw [show 2 * (j / 2) + 1 = j by omega, hj] at h4
        injection h4 with h4
        subst h4
        obtain ⟨gf, lb, rfl⟩ := h5.func
        rfl
    obtain ⟨v', w1, happ, hown1, hgrow, hnil, h5⟩ := run_append_own_at (P := Try.prog) (w.alloc (.cells #[] 70)) w.heap.size 44 44 70 i0 (.agg #[.int .i64 0, .nilFunc]) 2 16 Try.underlying44 hi hz0 hz1 hz2 rfl (by decide) (.slice (some ⟨w.heap.size, 0, none⟩) 0 0) 0 [] (World.ownsRow_made w #[] 0 (Nat.le_refl _) (Nat.zero_le _) rfl) ⟨g, 0, none⟩ st.length cap xs (by simpa using hown.1) hnews hone (by unfold maxLen; omega) (by omega) (by simp)
    rw [hide_app] at happ
    clear hi hz0 hz1 hz2 hnews hone
    have HGR := Lib.hid hgrow; clear hgrow
    have HO1 := Lib.hid hown1; clear hown1
    have HNil := Lib.hid hnil; clear hnil
    have H5 := Lib.hid h5; clear h5
    have HO := Lib.hid hown; clear hown
    have HXS := Lib.hid hxs; clear hxs
    have HC4 := Lib.hid hc4; clear hc4
    have HG := Lib.hid hg; clear hg
    go_enter Try.func30, Try.ntmps30
    repeat' (first | go_values | go_skip | go_guarded | go_step | go_upon | dsimp only)
    go_ret
    have hgl : g < w.heap.size := lt_of_obj HG.out
    have hg := HGR.out
    have hF : Frm Nil w w1 := ⟨hg.os, hg.tape, hg.output, by have := hg.size; simp at this; omega, fun i hi _ => (hg.block i (by simp; omega) (fun e => by simp [Value.ownBlock] at e; omega)).trans (Below.heap_alloc w _ i hi)⟩
    refine ⟨v', rfl, ⟨xs, ?_, fun i us hi => ?_⟩, hF, fun g' hg' => ?_⟩
    · have ho := HO1.out
      simp only [Nat.zero_add, List.nil_append] at ho
      exact ⟨ho.1, ho.2.imp id (fun ⟨g, cap, cur, h1, _, h2⟩ => ⟨g, cap, cur, h1, Nat.zero_le _, h2⟩)⟩
    · obtain ⟨h3, v, h4, h5⟩ := HXS.out i us hi
      exact ⟨h3, v, h4, h5.frm hF (fun _ _ h => h)⟩
    · rcases H5.out with h | h
      · rw [h] at hg'
        simp [Value.ownBlock] at hg'
        omega
      · rw [h] at hg'
        simp at hg'
        omega

theorem DRep.lightFuse {w0 : World} {b : Nat} {D : DS} {fp : List Nat} {bx : Nat → Prop} {s m : Nat} {sv fa : Value} {fl : List Nat} (h0 : DRep w0 b D fp bx s m sv fa fl) {f : Nat} {k : Int} (hB : Box1 w0 f 3 (.int .i64 k)) (hfb : f ≠ b) (hfx : ¬ bx f) (hk0 : 0 ≤ k) (hk : k ≤ 9223372036854775807) :
    DRep (w0.setCell ⟨b, 4, none⟩ (ptr f)) b { D with fuse := some k } (b :: s :: m :: (sv.ownBlock.toList ++ [f])) bx s m sv (ptr f) [f] := by
  have f03 : Frm (One b) w0 (w0.setCell ⟨b, 4, none⟩ (ptr f)) := frm_set _ _ _ _
  obtain ⟨n1, n2, n3, n4, n5⟩ := h0.off_b
  have hfp := h0.fp_eq
  have hoff := h0.off
  refine ⟨?_, h0.syn.frm f03 n1, h0.seen.frm f03 n2, h0.ne, h0.steps.frm f03 n3 n5, ⟨f, rfl, hB.frm f03 hfb, rfl, hk0, hk⟩, rfl, ?_, ?_⟩
  · have := heap_set (ptr f) (i := 4) h0.blk
    simpa [ptr] using this
  · intro i hi hx
    simp only [List.mem_cons, List.mem_append, Option.mem_toList, List.not_mem_nil, or_false] at hi
    rcases hi with rfl | rfl | rfl | hi | rfl
    · exact hoff i (by rw [hfp]; simp) hx
    · exact hoff i (by rw [hfp]; simp) hx
    · exact hoff i (by rw [hfp]; simp) hx
    · exact hoff i (by rw [hfp, hi]; simp) hx
    · exact hfx hx
  · intro i hx
    have := h0.bxl i hx
    have := f03.size
    omega
theorem clone_frm {w W : World} {m : Nat} {L : Files} (h : MapV w m Value.string (encF L)) {X : Prop} (hX : X ∧ Frm Nil w W) :
    Calls Try.prog 28 #[.map (some m)] W fun e w' => e = .returned (.map (some W.heap.size)) ∧ Frm Nil w w' ∧ Frm Nil W w' ∧ MapV w' W.heap.size Value.string (encF L) := by
  refine (clone_call (h.frm hX.2 (fun h => h))).mono ?_
  rintro e w' ⟨rfl, ⟨o, rfl⟩, hM⟩
  exact ⟨rfl, hX.2.alloc _, (Frm.refl _ _).alloc _, hM⟩
theorem sclone_frm {bx : Nat → Prop} {w W : World} {sv : Value} {st : List (List U)} (h : Steps bx w sv st) (hst : st.length ≤ 1000000000) {X : Prop} (hX : X ∧ Frm Nil w W) :
    Calls Try.prog 30 #[sv] W fun e w' => ∃ A n, ∃ c : Nat, e = .returned (.slice A n c) ∧ Frm Nil w w' ∧ Frm Nil W w' ∧ Steps bx w' (.slice A n c) st ∧ ∀ g, (Value.slice A n c).ownBlock = some g → W.heap.size ≤ g := by
  refine (sclone_call (h.frm hX.2 (fun _ _ h => h) (fun _ _ h => h)) hst).mono ?_
  rintro e w' ⟨sv', rfl, hs, hf, hg⟩
  have hform : ∃ A n, ∃ cap : Nat, sv' = .slice A n cap := by
    obtain ⟨xs, hown, _⟩ := hs
    rcases hown.2 with ⟨rfl, hx⟩ | ⟨g, cap, cur, rfl, _⟩ <;> exact ⟨_, _, _, rfl⟩
  obtain ⟨A, n, c, rfl⟩ := hform
  exact ⟨A, n, c, rfl, hX.2.trn hf, hf, hs, hg⟩

set_option maxRecDepth 100000 in
set_option maxHeartbeats 2000000 in
theorem copy_call {w : World} {b : Nat} {D : DS} {fp : List Nat} {bx : Nat → Prop} (h : Disk w b D fp bx) (hst : D.steps.length ≤ 1000000000) :
    Calls Try.prog 9 #[ptr b] w fun e w' => ∃ b' fp', e = .returned (ptr b') ∧ Disk w' b' D fp' bx ∧ Frm Nil w w' ∧ ∀ i ∈ fp', w.heap.size ≤ i := by
  obtain ⟨s, m, sv, fa, fl, h⟩ := h
  have hk : ∀ W, Frm Nil w W → (W.cell? ⟨b, 0, none⟩ = some (.int .i64 D.room) ∧ W.cell? ⟨b, 1, none⟩ = some (.map (some s)) ∧ W.cell? ⟨b, 2, none⟩ = some (.map (some m)) ∧ W.cell? ⟨b, 3, none⟩ = some sv ∧ W.cell? ⟨b, 5, none⟩ = some (.bool D.down)) ∧ Frm Nil w W := fun W hW => by
    have c := cells6 (hW.objN h.blk)
    exact ⟨⟨c.h0, c.h1, c.h2, c.h3, c.h5⟩, hW⟩
  have k2 := (cells6 h.blk).h2
  have HK := Lib.hid hk; clear hk
  have HSy := Lib.hid h.syn
  have HSe := Lib.hid h.seen
  have HSt := Lib.hid h.steps
  have HFu := Lib.hid h.fuse
  have H := Lib.hid h; clear h
  go_enter Try.func9, Try.ntmps9
  repeat' (first | (go_at_call 27; refine (none_no _ m _ k2).mono ?_; rintro e w' ⟨rfl, rfl⟩) | go_values | go_skip | go_guarded | go_step | go_upon | dsimp only)
  clear k2
  go_region_held2 (fun W => (W.cell? ⟨b, 0, none⟩ = some (.int .i64 D.room) ∧ W.cell? ⟨b, 1, none⟩ = some (.map (some s)) ∧ W.cell? ⟨b, 2, none⟩ = some (.map (some m)) ∧ W.cell? ⟨b, 3, none⟩ = some sv ∧ W.cell? ⟨b, 5, none⟩ = some (.bool D.down)) ∧ Frm Nil w W)
    ((refine HK.out _ ?_; first | assumption | exact (Frm.refl Nil w).drew | exact Frm.alloc (by assumption) _))
    ((first
      | (go_at_call 28; refine (clone_frm HSy.out (by assumption)).mono ?_; rintro e w1 ⟨rfl, hwa, hfa, hMa⟩)
      | (go_at_call 28; refine (clone_frm HSe.out (by assumption)).mono ?_; rintro e w2 ⟨rfl, hwb, hfb, hMb⟩)
      | (go_at_call 30; refine (sclone_frm HSt.out hst (by assumption)).mono ?_; rintro e w3 ⟨Ac, nc, cc, rfl, hwc, hfc, hMc, hgc⟩)))
  obtain ⟨W4, hW4⟩ : ∃ W4, w3.alloc (.cells #[.int .i64 D.room, .map (some w.heap.size), .map (some w1.heap.size), .slice Ac nc cc, .pointer none, .bool D.down] 47) = W4 := ⟨_, rfl⟩
  rw [hW4]
  have hr4 : W4.heap[w3.heap.size]? = some (.cells #[.int .i64 D.room, .map (some w.heap.size), .map (some w1.heap.size), .slice Ac nc cc, .pointer none, .bool D.down] 47 (0, 0)) := by rw [← hW4]; exact World.alloc_heap_new w3 _
  have hf4 : Frm Nil w3 W4 := by rw [← hW4]; exact (Frm.refl _ _).alloc _
  have hs4 : W4.heap.size = w3.heap.size + 1 := by rw [← hW4]; simp
  have hwW : Frm Nil w W4 := hwc.trn hf4
  have l1 : w.heap.size < w1.heap.size := hMa.lt
  have l2 : w1.heap.size < w2.heap.size := hMb.lt
  have l3 := hfc.size
  have l0 := hwa.size
  have hbxl := H.out.bxl
  have hD4 : DRep W4 w3.heap.size { D with fuse := none } (w3.heap.size :: w.heap.size :: w1.heap.size :: ((Value.slice Ac nc cc).ownBlock.toList ++ [])) bx w.heap.size w1.heap.size (.slice Ac nc cc) (.pointer none) [] := by
    refine ⟨hr4, ((hMa.frm hfb (fun h => h)).frm hfc (fun h => h)).frm hf4 (fun h => h), (hMb.frm hfc (fun h => h)).frm hf4 (fun h => h), by omega, hMc.frm hf4 (fun _ _ h => h) (fun _ _ h => h), ⟨rfl, rfl⟩, rfl, ?_, ?_⟩
    · intro i hi hx
      have := hbxl i hx
      simp only [List.mem_cons, List.mem_append, Option.mem_toList, List.not_mem_nil, or_false] at hi
      rcases hi with rfl | rfl | rfl | hi
      · omega
      · omega
      · omega
      · have := hgc i hi; omega
    · intro i hx
      have := hbxl i hx
      have := hwW.size
      omega
  have hnew : ∀ i ∈ (w3.heap.size :: w.heap.size :: w1.heap.size :: ((Value.slice Ac nc cc).ownBlock.toList ++ [])), w.heap.size ≤ i := fun i hi => by
    simp only [List.mem_cons, List.mem_append, Option.mem_toList, List.not_mem_nil, or_false] at hi
    rcases hi with rfl | rfl | rfl | hi
    · omega
    · omega
    · omega
    · have := hgc i hi; omega
  have k4 : W4.cell? ⟨b, 4, none⟩ = some fa := (cells6 (hwW.objN H.out.blk)).h4
  have z4 := frozen_of_row _ _ 4 _ _ hr4
  have q4 := cell_of_row _ _ 4 _ _ _ hr4
  have HD4 := Lib.hid hD4; clear hD4
  have HNew := Lib.hid hnew; clear hnew
  have HW := Lib.hid hwW; clear hwW
  have HBX := Lib.hid hbxl; clear hbxl
  clear hr4 hf4 hMa hMb hMc hfa hfb hfc hwa hwb hwc hgc hW4 HK HSy HSe HSt
  have HS4 := Lib.hid hs4; clear hs4
  have hz := HFu.out
  cases hfz : D.fuse with
  | none =>
    rw [hfz] at hz
    obtain ⟨rfl, rfl⟩ := hz
    have hDe : ({ D with fuse := none } : DS) = D := by rw [← hfz]
    have HDe := Lib.hid hDe; clear hDe hfz HFu
    repeat' (first | go_values | go_skip | go_guarded | go_step | go_upon | dsimp only)
    go_ret
    have hD := HD4.out
    rw [HDe.out] at hD
    exact ⟨_, _, rfl, ⟨_, _, _, _, _, hD⟩, HW.out, HNew.out⟩
  | some k =>
    rw [hfz] at hz
    obtain ⟨f, rfl, hbf, rfl, k0, k1⟩ := hz
    have cf := (hbf.frm HW.out (fun h => h)).cell
    have hDe : ({ D with fuse := some k } : DS) = D := by rw [← hfz]
    have HDe := Lib.hid hDe; clear hDe hfz HFu hbf
    obtain ⟨W5, hW5⟩ : ∃ W5, W4.alloc (.cells #[.int .i64 k] 3) = W5 := ⟨_, rfl⟩
    have f5 : Frm Nil W4 W5 := by rw [← hW5]; exact (Frm.refl _ _).alloc _
    have hB5 : Box1 W5 W4.heap.size 3 (.int .i64 k) := by rw [← hW5]; exact World.alloc_heap_new W4 _
    have q5 := f5.cellN q4
    have z5 : W5.frozen? ⟨w3.heap.size, 4, none⟩ = false := frozen_of_row _ _ 4 _ _ (f5.objN HD4.out.blk)
    have F5 := Lib.hid f5; clear f5
    have HB5 := Lib.hid hB5; clear hB5
    have K01 := Lib.hid (And.intro k0 k1); clear k0 k1
    repeat' (first | go_values | go_skip | go_guarded | go_step | go_upon | dsimp only)
    go_ret
    have hD5 := (HD4.out.frm F5.out (fun _ _ h => h) (fun _ _ h => h)).lightFuse HB5.out (by have := HS4.out; omega) (fun hx => by have := HBX.out _ hx; have := HW.out.size; omega) K01.out.1 K01.out.2
    have hfin : Frm Nil w (W5.setCell ⟨w3.heap.size, 4, none⟩ (ptr W4.heap.size)) := (HW.out.trn F5.out).setCell (.inl (by show w.heap.size ≤ w3.heap.size; omega)) _
    dsimp only at hD5
    rw [HDe.out] at hD5
    refine ⟨_, _, rfl, ⟨_, _, _, _, _, hD5⟩, hfin, fun i hi => ?_⟩
    · have hh := HNew.out
      have hWs := HW.out.size
      simp only [List.mem_cons, List.mem_append, Option.mem_toList, List.not_mem_nil, or_false] at hi hh
      rcases hi with rfl | rfl | rfl | hi | rfl
      · exact hh _ (.inl rfl)
      · exact hh _ (.inr (.inl rfl))
      · exact hh _ (.inr (.inr (.inl rfl)))
      · exact hh _ (.inr (.inr (.inr hi)))
      · exact hWs
end Go.Proofs.Ytlnelokpaccanaa
