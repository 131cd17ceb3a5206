/- The law, walked. -/
import Derived.Test.YtlnelokpaccanaaDiskY
namespace Go.Proofs.Ytlnelokpaccanaa
open Go Go.RowKit Go.Tr
attribute [local go_sem] Oper.semAt_some
set_option linter.unusedVariables false

theorem FW.chg {K : Nat → Prop} {w0 w : World} {L : List (Nat × DS)} (h : FW K w0 w L) : Frm (fun i => ¬ K i) w0 w := h.2
theorem FW.does {K : Nat → Prop} {w0 w : World} {L : List (Nat × DS)} (h : FW K w0 w L) (i : Nat) {b : Nat} {D : DS} (hi : L[i]? = some (b, D)) {A : Nat} (hI : Inv A D) (hA : A ≤ 100000000) (y : ActV) (hx0 : 0 ≤ y.x) (hn : y.nm.size ≤ 1000) (hs : y.str.size ≤ 1000) (hk : y.k ≤ 9223372036854775807) :
    Calls Try.prog 7 #[ptr b, zq, .agg #[.int .u8 y.x, .string y.nm, .string y.str, .int .i64 y.k]] w fun e w' => (∃ v, e = .returned v) ∧ FW K w0 w' (L.set i (b, doesD D (y.x % 7).toNat y.nm y.str y.k)) :=
  h.op i hi (E := fun e => ∃ v, e = .returned v) (fun fp bx hd => does_call hd y.x y.nm y.str y.k (y.x % 7).toNat hx0 (by omega) (by omega) (Nat.le_trans hI.steps (by omega)) hk (fun _ => hI.fitsA hn hs hA) (fun _ => hI.fitsC hA))
theorem FW.alike {K : Nat → Prop} {w0 w : World} {L : List (Nat × DS)} (h : FW K w0 w L) (i j : Nat) {a b : Nat} {Da Db : DS} (hi : L[i]? = some (a, Da)) (hj : L[j]? = some (b, Db)) (hs : Da.seen = Db.seen) {A : Nat} (hI : Inv A Da) (hA : A ≤ 1000000) :
    Calls Try.prog 11 #[ptr a, ptr b] w fun e w' => e = .returned (.bool true) ∧ FW K w0 w' L := by
  obtain ⟨fpa, bxa, ha⟩ := h.1.get i hi
  obtain ⟨fpb, bxb, hb⟩ := h.1.get j hj
  refine (alike_call ha hb hs (fun p hp => Nat.le_trans (hI.bd.1 p hp).1 (by omega)) (Nat.le_trans hI.bd.2 hA)).mono ?_
  rintro e w' ⟨rfl, hf⟩
  exact ⟨rfl, h.frm hf⟩
theorem bytesOf_mem {l : List ActV} {y : ActV} (h : y ∈ l) : y.str.size + y.nm.size ≤ bytesOf l := by
  unfold bytesOf
  induction l with
  | nil => simp at h
  | cons z l ih =>
    simp only [List.map_cons, List.sum_cons]
    rcases List.mem_cons.1 h with rfl | h
    · omega
    · have := ih h; omega
theorem not_great {l : List ActV} (hb : ∀ y ∈ l, y.nm.size ≤ 140737488355328 ∧ y.str.size ≤ 140737488355328) (h : (decide (40 < l.length) || decide (1000 < IntKind.i64.wrap (bytesOf l : Int))) = false) : l.length ≤ 40 ∧ ∀ y ∈ l, y.nm.size ≤ 1000 ∧ y.str.size ≤ 1000 := by
  simp only [Bool.or_eq_false_iff, decide_eq_false_iff_not] at h
  obtain ⟨h1, h2⟩ := h
  have h3 := bytesOf_le l hb
  have h4 : l.length * 281474976710656 ≤ 40 * 281474976710656 := Nat.mul_le_mul_right _ (by omega)
  rw [IntKind.wrap_i64] at h2
  have h5 : bytesOf l ≤ 1000 := by omega
  exact ⟨by omega, fun y hy => by have := bytesOf_mem hy; omega⟩
theorem ActAt.of {w W : World} {v : Value} {l : List ActV} (h : ActsR w v l) {S : Nat → Prop} (hf : Frm S w W) (hS : ∀ i, i < w.heap.size → ¬ S i) {k : Nat} {y : ActV} (hk : l[k]? = some y) : ∃ a c, v = .slice (some a) l.length c ∧ ActAt W a k y := by
  rcases h with ⟨_, rfl⟩ | ⟨a, c, rfl, h⟩
  · simp at hk
  · have h1 := h k y hk
    have h0 := World.block_lt_of_cell? _ _ h1.c0
    have hb : (a.add (k * 4)).block = a.block := by unfold Addr.add; split <;> rfl
    rw [hb] at h0
    exact ⟨a, c, rfl, h1.frm hf (hS _ h0)⟩
theorem crashE_zero : crashE 0 = 0 := rfl
-- GENERATED
set_option maxRecDepth 100000 in
set_option maxHeartbeats 8000000 in
theorem crashes_call (w : World) (v : Value) (l : List ActV) (cut keep : Int) (h : ActsR w v l) (hlen : l.length ≤ 4611686018427387904)
    (hb : ∀ y ∈ l, (y.nm.size ≤ 140737488355328 ∧ y.str.size ≤ 140737488355328) ∧ 0 ≤ y.x ∧ y.k ≤ 9223372036854775807) (hc : 0 ≤ cut) (hc2 : cut ≤ 255) (hk : keep ≤ 9223372036854775807) :
    Calls Try.prog 3 #[v, .int .u8 cut, .int .i64 keep] w fun e w' => e = .returned (.bool true) ∧ Frm Nil w w' := by
  have hform : ∃ A n c, v = .slice A n c ∧ n = l.length := by
    rcases h with ⟨rfl, rfl⟩ | ⟨a, cap, rfl, _⟩
    · exact ⟨_, _, _, rfl, rfl⟩
    · exact ⟨_, _, _, rfl, rfl⟩
  obtain ⟨A, n, c, rfl, rfl⟩ := hform
  have H := Lib.hid h; clear h
  have HLen := Lib.hid hlen; clear hlen
  have HB := Lib.hid hb; clear hb
  have HK := Lib.hid hk; clear hk
  obtain ⟨G, hG⟩ : ∃ G, (decide (40 < l.length) || decide (1000 < IntKind.i64.wrap (bytesOf l : Int))) = G := ⟨_, rfl⟩
  have hgr : ∀ W, Frm Nil w W → Calls Try.prog 5 #[.slice A l.length c] W fun e w' => e = .returned (.bool G) ∧ Frm Nil W w' := fun W hW => by
    have := great_call W (.slice A l.length c) l (by
      rcases H.out with h | ⟨a, cap, h1, h2⟩
      · exact .inl h
      · exact .inr ⟨a, cap, h1, fun i y hy => (h2 i y hy).frm hW (fun h => h)⟩) HLen.out
    rw [hG] at this
    exact this
  have HGR := Lib.hid hgr; clear hgr
  by_cases hkn : keep < 0
  · have t1 : decide (keep < 0) = true := decide_eq_true hkn
    clear hG hkn
    cases G <;>
      (go_enter Try.func3, Try.ntmps3
       repeat' (first | (go_at_call 4; refine (new_call w 1048576 (by decide) (by decide)).mono ?_; rintro e w1 ⟨b, fp, rfl, hd, hf, hn⟩; clear hd hn) | (go_at_call 5; refine (HGR.out _ hf).mono ?_; rintro e w2 ⟨rfl, hf2⟩) | (go_at_call 6; refine (head_call _).mono ?_; rintro e w3 ⟨rfl, hf3⟩) | go_values | go_skip | go_guarded | go_step | go_upon | dsimp only)
       go_ret
       exact ⟨rfl, (hf.trn hf2).trn hf3⟩)
  · have t1 : decide (keep < 0) = false := decide_eq_false hkn
    cases G with
    | true =>
      clear hG hkn
      go_enter Try.func3, Try.ntmps3
      repeat' (first | (go_at_call 4; refine (new_call w 1048576 (by decide) (by decide)).mono ?_; rintro e w1 ⟨b, fp, rfl, hd, hf, hn⟩; clear hd hn) | (go_at_call 5; refine (HGR.out _ hf).mono ?_; rintro e w2 ⟨rfl, hf2⟩) | (go_at_call 6; refine (head_call _).mono ?_; rintro e w3 ⟨rfl, hf3⟩) | go_values | go_skip | go_guarded | go_step | go_upon | dsimp only)
      go_ret
      exact ⟨rfl, (hf.trn hf2).trn hf3⟩
    | false =>
      obtain ⟨h40, hsz⟩ := not_great (fun y hy => (HB.out y hy).1) hG
      have H40 := Lib.hid h40; clear h40
      have HS := Lib.hid hsz; clear hsz
      have HKN := Lib.hid hkn; clear hkn hG
      go_enter Try.func3, Try.ntmps3
      repeat' (first | (go_at_call 4; refine (new_call w 1048576 (by decide) (by decide)).mono ?_; rintro e w1 ⟨b, fp, rfl, hd, hf, hn⟩; have hF1 := Farm.first (w := w) (K := fun i => i < w.heap.size) (fun _ h => h) hd hn hf; have HF1 := Lib.hid hF1; have HF := Lib.hid hf; clear hd hn hf hF1) | (go_at_call 5; refine (HGR.out _ HF.out).mono ?_; rintro e w2 ⟨rfl, hf2⟩) | go_values | go_skip | go_guarded | go_step | go_upon | dsimp only)
      obtain ⟨wq, hwq⟩ : ∃ wq, w2.alloc zo = wq := ⟨_, rfl⟩
      obtain ⟨K, hK⟩ : ∃ K : Nat → Prop, (fun i => i < w.heap.size ∨ i = w2.heap.size) = K := ⟨_, rfl⟩
      have h0 : FW K wq wq [(b, DS.new 1048576)] := by
        rw [← hK, ← hwq]
        exact ⟨(HF1.out.frm hf2).keep zo, Frm.refl _ _⟩
      have hww : Frm Nil w wq := by rw [← hwq]; exact (HF.out.trn hf2).alloc _
      have hfin : ∀ W, Frm (fun i => ¬ K i) wq W → Frm Nil w W := fun W hW => hww.trans hW (fun i hi hn => hn (by rw [← hK]; exact .inl hi))
      have hqr : wq.heap[w2.heap.size]? = some zo := by rw [← hwq]; exact World.alloc_heap_new w2 _
      have hq : ∀ W, Frm (fun i => ¬ K i) wq W → W.heap[w2.heap.size]? = some zo := fun W hW => hW.obj hqr (fun hn => hn (by rw [← hK]; exact .inr rfl))
      have ha : ∀ k y, l[k]? = some y → ∃ a, A = some a ∧ (y.nm.size ≤ 1000 ∧ y.str.size ≤ 1000) ∧ (0 ≤ y.x ∧ y.k ≤ 9223372036854775807) ∧ ∀ W, Frm (fun i => ¬ K i) wq W →
          (W.cell? ⟨w2.heap.size, 0, none⟩ = some (.int .i64 0) ∧ W.cell? ⟨w2.heap.size, 1, none⟩ = some (.slice none 0 0) ∧ W.cell? ⟨w2.heap.size, 2, none⟩ = some (.slice none 0 0) ∧ W.cell? ⟨w2.heap.size, 3, none⟩ = some (.bool false) ∧ W.cell? ⟨w2.heap.size, 4, none⟩ = some (.int .i64 0) ∧ W.cell? ⟨w2.heap.size, 5, none⟩ = some (.bool false)) ∧ (W.cell? (a.add (k * 4)) = some (.int .u8 y.x) ∧ W.cell? ⟨(a.add (k * 4)).block, (a.add (k * 4)).off + 1, none⟩ = some (.string y.nm) ∧ W.cell? ⟨(a.add (k * 4)).block, (a.add (k * 4)).off + 2, none⟩ = some (.string y.str) ∧ W.cell? ⟨(a.add (k * 4)).block, (a.add (k * 4)).off + 3, none⟩ = some (.int .i64 y.k)) ∧ Frm (fun i => ¬ K i) wq W := fun k y hy => by
        have hm := List.mem_of_getElem? hy
        obtain ⟨a, c', h1, _⟩ := ActAt.of H.out (Frm.refl Nil w) (fun _ _ h => h) hy
        injection h1 with h1 _ _
        refine ⟨a, h1, HS.out y hm, (HB.out y hm).2, fun W hW => ?_⟩
        obtain ⟨c0, c1, c2, c3, c4, c5, _⟩ := zcells (hq W hW)
        obtain ⟨a', c'', h2, h3⟩ := ActAt.of H.out (hfin W hW) (fun _ _ h => h) hy
        injection h2 with h2 _ _
        rw [h1] at h2
        injection h2 with h2
        subst h2
        exact ⟨⟨c0, c1, c2, c3, c4, c5⟩, ⟨h3.c0, h3.c1, h3.c2, h3.c3⟩, hW⟩
      rw [hwq]
      have HFin := Lib.hid hfin; clear hfin
      have HA := Lib.hid ha; clear ha
      have H0 := Lib.hid h0; clear h0
      clear hwq hK hww hqr hq hf2 HF1 HGR H HF HB HS
      go_loopw [10] (fun i W => ∃ k : Nat, ∃ D, k ≤ l.length ∧ i = .int .i64 k ∧ FW K wq W [(b, D)] ∧ Inv (1001 * k) D) (fun i _ => l.length - (intOf i).toNat)
      case atStart => exact ⟨0, _, Nat.zero_le _, rfl, H0.out, Inv.new _⟩
      case round =>
        obtain ⟨k, D, hk', rfl, hFW, hI⟩ := hrel
        have HW := Lib.hid hFW; clear hFW
        have HI := Lib.hid hI; clear hI
        have h40 := H40.out
        by_cases hlt : k < l.length
        · obtain ⟨y, hy⟩ : ∃ y, l[k]? = some y := ⟨_, List.getElem?_eq_getElem hlt⟩
          obtain ⟨a, rfl, ⟨hs1, hs2⟩, ⟨hx0, hyk⟩, hat⟩ := HA.out k y hy
          have k63 : (k : Int) + 1 ≤ 9223372036854775807 := by omega
          have hdo := Lib.hid (HW.out.drew.does 0 rfl HI.out (by omega) y hx0 hs1 hs2 hyk)
          have HAt := Lib.hid hat; clear hat hy
          clear H0
          repeat' (first | go_values | go_skip | go_guarded | go_step | go_upon | dsimp only)
          go_region_held2 (fun W => (W.cell? ⟨w2.heap.size, 0, none⟩ = some (.int .i64 0) ∧ W.cell? ⟨w2.heap.size, 1, none⟩ = some (.slice none 0 0) ∧ W.cell? ⟨w2.heap.size, 2, none⟩ = some (.slice none 0 0) ∧ W.cell? ⟨w2.heap.size, 3, none⟩ = some (.bool false) ∧ W.cell? ⟨w2.heap.size, 4, none⟩ = some (.int .i64 0) ∧ W.cell? ⟨w2.heap.size, 5, none⟩ = some (.bool false)) ∧ (W.cell? (a.add (k * 4)) = some (.int .u8 y.x) ∧ W.cell? ⟨(a.add (k * 4)).block, (a.add (k * 4)).off + 1, none⟩ = some (.string y.nm) ∧ W.cell? ⟨(a.add (k * 4)).block, (a.add (k * 4)).off + 2, none⟩ = some (.string y.str) ∧ W.cell? ⟨(a.add (k * 4)).block, (a.add (k * 4)).off + 3, none⟩ = some (.int .i64 y.k)) ∧ Frm (fun i => ¬ K i) wq W)
            ((refine HAt.out _ ?_; first | with_reducible exact HW.out.chg.drew | with_reducible assumption))
            ((go_at_call 7; refine hdo.out.mono ?_; rintro e w4 ⟨⟨v, rfl⟩, hF4⟩; have hf4 := hF4.chg))
          repeat' (first | go_values | go_skip | go_guarded | go_step | go_upon | dsimp only)
          go_round
          case measure => simp [intOf]; omega
          case rel => exact ⟨k + 1, _, by omega, by go_num, hF4, (HI.out.does _ y.k hs1 hs2).mono (by omega)⟩
        · obtain rfl : k = l.length := by omega
          have hI1 : Inv 50000 (crashD D keep) := (HI.out.crash keep).mono (by omega)
          have HI1 := Lib.hid hI1; clear hI1
          obtain ⟨D0, rfl⟩ : ∃ D0, D0 = D := ⟨D, rfl⟩
          clear hlt hk' H0
          by_cases hl0 : l.length = 0
          · have t57 : decide ((0 : Int) < (l.length : Int)) = false := decide_eq_false (by omega)
            repeat' (first | (go_at_call 8; (with_reducible refine (HW.out.crash 0 rfl HI.out (by omega) keep HK.out).mono ?_); rintro e y1 ⟨rfl, hy1⟩; have Y1 := Lib.hid hy1; clear hy1 HW) | (go_at_call 9; (with_reducible refine (Y1.out.copy 0 rfl (Nat.le_trans HI1.out.steps (by omega))).mono ?_); rintro e y2 ⟨o1, rfl, hy2⟩; have H1 := Lib.hid hy2; clear hy2 Y1) | go_values | go_skip | go_guarded | go_step | go_upon | dsimp only)
            repeat' (first | go_values | go_skip | go_guarded | go_step | go_upon | dsimp only)
            go_loopw [13] (fun i W => ∃ k : Nat, ∃ D, (k : Int) ≤ 0 ∧ k ≤ l.length ∧ i = .int .i64 k ∧ FW K wq W [(b, D), (o1, crashD D0 keep)] ∧ Inv (50000 + 1001 * k) D ∧ Ext (crashD D0 keep) D) (fun i _ => (0 : Int).toNat - (intOf i).toNat)
            case atStart => exact ⟨0, _, by omega, Nat.zero_le _, rfl, H1.out, HI1.out.mono (by omega), Ext.refl _⟩
            case round =>
              obtain ⟨k, D, hkN, hkl, rfl, hFW, hI, hE⟩ := hrel
              have HW := Lib.hid hFW; clear hFW
              have HI := Lib.hid hI; clear hI
              have HE := Lib.hid hE; clear hE
              have h40 := H40.out
              clear H1
              by_cases hlt : (k : Int) < 0
              · exact absurd hlt (by omega)
              · obtain rfl : 0 = k := by omega
                have hE2 := HE.out
                have hI2 : Inv 100000 D := HI.out.mono (by omega)
                have HE2 := Lib.hid hE2; clear hE2
                have HI2 := Lib.hid hI2; clear hI2
                obtain ⟨D2, rfl⟩ : ∃ D2, D2 = D := ⟨D, rfl⟩
                obtain ⟨U2, hU2⟩ : ∃ U2 : Nat, D2.steps.flatten.length = U2 := ⟨_, rfl⟩
                have hU2' : U2 ≤ 100000 := by have := HI2.out.count; omega
                have HU2 := Lib.hid hU2; clear hU2
                clear hlt HI HE
                repeat' (first | (go_at_call 9; (with_reducible refine (HW.out.copy 0 rfl (Nat.le_trans HI2.out.steps (by omega))).mono ?_); rintro e z1 ⟨o2, rfl, hz1⟩; have Z1 := Lib.hid hz1; clear hz1 HW) | (go_at_call 10; (with_reducible refine (Z1.out.units 0 rfl HI2.out (by omega)).mono ?_); rintro e z2 ⟨rfl, hz2⟩; rw [HU2.out]; have H2 := Lib.hid hz2; clear hz2 Z1) | go_values | go_skip | go_guarded | go_step | go_upon | dsimp only)
                go_loopw [16] (fun i W => ∃ k : Nat, ∃ D, 0 ≤ (k : Int) ∧ k ≤ l.length ∧ i = .int .i64 k ∧ FW K wq W [(b, D), (o1, crashD D0 keep), (o2, D2)] ∧ Inv (100000 + 1001 * k) D ∧ Ext D2 D) (fun i _ => l.length - (intOf i).toNat)
                case atStart => exact ⟨0, _, by omega, by omega, by simp, H2.out, HI2.out.mono (by omega), Ext.refl _⟩
                case round =>
                  obtain ⟨k, D, hkN, hkl, rfl, hFW, hI, hE⟩ := hrel
                  have HW := Lib.hid hFW; clear hFW
                  have HI := Lib.hid hI; clear hI
                  have HE := Lib.hid hE; clear hE
                  clear H2
                  by_cases hlt : k < l.length
                  · exact absurd hlt (by omega)
                  · obtain rfl : k = l.length := by omega
                    have h40' := H40.out
                    have hnk : ¬ keep < 0 := HKN.out
                    obtain ⟨M, hM⟩ : ∃ M : Int, min keep (U2 : Int) = M := ⟨_, rfl⟩
                    have hm : 0 ≤ M ∧ M ≤ U2 ∧ M ≤ 9223372036854775807 := by omega
                    have cM : crashE M = 0 := by unfold crashE; rw [if_neg (by omega)]
                    obtain ⟨U3, hu3⟩ : ∃ U3 : Nat, D.steps.flatten.length = U3 := ⟨_, rfl⟩
                    have cU : crashE (U3 : Int) = 0 := by unfold crashE; rw [if_neg (by omega)]
                    have hU3 : (U3 : Int) ≤ 9223372036854775807 := by have := HI.out.count; omega
                    have hq1 : (crashD D M).seen = (crashD D2 M).seen := late_early HE.out hm.1 (by rw [HU2.out]; exact hm.2.1)
                    have hq2 : (crashD D (U3 : Int)).seen = D.seen := by rw [← hu3]; exact all_same HI.out
                    have UU3 := Lib.hid hu3; clear hu3
                    have hq3 : (crashD D 0).seen = (crashD D0 keep).seen := none_before (by omega) (HE2.out.trans HE.out)
                    have hq4 : (crashD D M).steps.flatten.length = 0 := by rw [(crash_seen D hm.1).2.2]; rfl
                    have HM := Lib.hid hm; clear hm
                    have CM := Lib.hid cM; clear cM
                    have CU := Lib.hid cU; clear cU
                    have HU3 := Lib.hid hU3; clear hU3
                    have HQ1 := Lib.hid hq1; clear hq1
                    have HQ2 := Lib.hid hq2; clear hq2
                    have HQ3 := Lib.hid hq3; clear hq3
                    have HQ4 := Lib.hid hq4; clear hq4
                    clear hlt hnk
                    repeat' (first | (go_at_call 9; (with_reducible refine (HW.out.copy 0 rfl (Nat.le_trans HI.out.steps (by omega))).mono ?_); rintro e x1 ⟨p1, rfl, hx1⟩; have X1 := Lib.hid hx1; clear hx1 HW) | (go_at_call 9; (with_reducible refine (X1.out.copy 0 rfl (Nat.le_trans HI.out.steps (by omega))).mono ?_); rintro e x2 ⟨p2, rfl, hx2⟩; have X2 := Lib.hid hx2; clear hx2 X1) | (go_at_call 9; (with_reducible refine (X2.out.copy 0 rfl (Nat.le_trans HI.out.steps (by omega))).mono ?_); rintro e x3 ⟨p3, rfl, hx3⟩; have X3 := Lib.hid hx3; clear hx3 X2) | (go_at_call 8; (with_reducible refine (X3.out.crash 3 rfl HI.out (by omega) M HM.out.2.2).mono ?_); rintro e x4 ⟨rfl, hx4⟩; have X4 := Lib.hid hx4; clear hx4 X3; rw [CM.out]) | (go_at_call 8; (with_reducible refine (X4.out.crash 2 rfl HI2.out (by omega) M HM.out.2.2).mono ?_); rintro e x5 ⟨rfl, hx5⟩; have X5 := Lib.hid hx5; clear hx5 X4; rw [CM.out]) | (go_at_call 10; (with_reducible refine (X5.out.units 0 rfl HI.out (by omega)).mono ?_); rintro e x6 ⟨rfl, hx6⟩; rw [UU3.out]; have X6 := Lib.hid hx6; clear hx6 X5) | (go_at_call 8; (with_reducible refine (X6.out.crash 4 rfl HI.out (by omega) _ HU3.out).mono ?_); rintro e x7 ⟨rfl, hx7⟩; have X7 := Lib.hid hx7; clear hx7 X6; rw [CU.out]) | (go_at_call 8; (with_reducible refine (X7.out.crash 5 rfl HI.out (by omega) 0 (by omega)).mono ?_); rintro e x8 ⟨rfl, hx8⟩; have X8 := Lib.hid hx8; clear hx8 X7; rw [crashE_zero]) | (go_at_call 11; (with_reducible refine (X8.out.alike 3 2 rfl rfl HQ1.out (HI.out.crash M) (by omega)).mono ?_); rintro e x9 ⟨rfl, hx9⟩; have X9 := Lib.hid hx9; clear hx9 X8) | (go_at_call 11; (with_reducible refine (X9.out.alike 4 0 rfl rfl HQ2.out (HI.out.crash _) (by omega)).mono ?_); rintro e x10 ⟨rfl, hx10⟩; have X10 := Lib.hid hx10; clear hx10 X9) | (go_at_call 11; (with_reducible refine (X10.out.alike 5 1 rfl rfl HQ3.out (HI.out.crash 0) (by omega)).mono ?_); rintro e x11 ⟨rfl, hx11⟩; have X11 := Lib.hid hx11; clear hx11 X10) | (go_at_call 10; (with_reducible refine (X11.out.units 3 rfl (HI.out.crash M) (by omega)).mono ?_); rintro e x12 ⟨rfl, hx12⟩; rw [HQ4.out]; have X12 := Lib.hid hx12; clear hx12 X11) | (go_at_call 6; refine (head_call _).mono ?_; rintro e x13 ⟨rfl, hx13⟩) | go_values | go_skip | go_guarded | go_step | go_upon | dsimp only)
                    go_ret
                    exact ⟨rfl, HFin.out _ (X12.out.chg.trn hx13)⟩
          · have t57 : decide ((0 : Int) < (l.length : Int)) = true := decide_eq_true (by omega)
            have tz : ((l.length : Int) == 0) = false := beq_eq_false_iff_ne.2 (by omega)
            have hwc : wrap64 cut = cut := by simp only [wrap64]; omega
            obtain ⟨n, hn, hnl⟩ : ∃ n : Nat, cut.tmod (l.length : Int) = n ∧ n < l.length := by
              refine ⟨(cut % l.length).toNat, ?_, ?_⟩
              · rw [Int.tmod_eq_emod_of_nonneg hc]
                have := Int.emod_nonneg cut (b := (l.length : Int)) (by omega)
                omega
              · have := Int.emod_lt_of_pos cut (b := (l.length : Int)) (by omega)
                have := Int.emod_nonneg cut (b := (l.length : Int)) (by omega)
                omega
            repeat' (first | (go_at_call 8; (with_reducible refine (HW.out.crash 0 rfl HI.out (by omega) keep HK.out).mono ?_); rintro e y1 ⟨rfl, hy1⟩; have Y1 := Lib.hid hy1; clear hy1 HW) | (go_at_call 9; (with_reducible refine (Y1.out.copy 0 rfl (Nat.le_trans HI1.out.steps (by omega))).mono ?_); rintro e y2 ⟨o1, rfl, hy2⟩; have H1 := Lib.hid hy2; clear hy2 Y1) | go_values | go_skip | go_guarded | go_step | go_upon | dsimp only)
            rw [show decide (0 < l.length) = true from decide_eq_true (by omega)]
            clear hn tz t57 hwc
            repeat' (first | go_values | go_skip | go_guarded | go_step | go_upon | dsimp only)
            go_loopw [13] (fun i W => ∃ k : Nat, ∃ D, (k : Int) ≤ (n : Int) ∧ k ≤ l.length ∧ i = .int .i64 k ∧ FW K wq W [(b, D), (o1, crashD D0 keep)] ∧ Inv (50000 + 1001 * k) D ∧ Ext (crashD D0 keep) D) (fun i _ => ((n : Int) : Int).toNat - (intOf i).toNat)
            case atStart => exact ⟨0, _, by omega, Nat.zero_le _, rfl, H1.out, HI1.out.mono (by omega), Ext.refl _⟩
            case round =>
              obtain ⟨k, D, hkN, hkl, rfl, hFW, hI, hE⟩ := hrel
              have HW := Lib.hid hFW; clear hFW
              have HI := Lib.hid hI; clear hI
              have HE := Lib.hid hE; clear hE
              have h40 := H40.out
              clear H1
              by_cases hlt : (k : Int) < (n : Int)
              · skip
                obtain ⟨y, hy⟩ : ∃ y, l[k]? = some y := ⟨_, List.getElem?_eq_getElem (by omega)⟩
                obtain ⟨a, rfl, ⟨hs1, hs2⟩, ⟨hx0, hyk⟩, hat⟩ := HA.out k y hy
                have k63 : (k : Int) + 1 ≤ 9223372036854775807 := by omega
                have hdo := Lib.hid (HW.out.drew.does 0 rfl HI.out (by omega) y hx0 hs1 hs2 hyk)
                have c0 := (hat _ HW.out.chg).2.1.1
                have ht7 : y.x.tmod 7 = y.x % 7 := Int.tmod_eq_emod_of_nonneg hx0
                have k0 : (0 : Int) ≤ (k : Int) := by omega
                have k1 : (k : Int) < (l.length : Int) := by omega
                have HAt := Lib.hid hat; clear hat hy
                obtain ⟨r, hr⟩ : ∃ r, y.x % 7 = r := ⟨_, rfl⟩
                rw [hr] at ht7 hdo
                have hr0 : 0 ≤ r := by omega
                by_cases hr4 : r < 4
                · have t4 : decide (r < 4) = true := decide_eq_true hr4
                  repeat' (first | go_values | go_skip | go_guarded | go_step | go_upon | dsimp only)
                  go_region_held2 (fun W => (W.cell? ⟨w2.heap.size, 0, none⟩ = some (.int .i64 0) ∧ W.cell? ⟨w2.heap.size, 1, none⟩ = some (.slice none 0 0) ∧ W.cell? ⟨w2.heap.size, 2, none⟩ = some (.slice none 0 0) ∧ W.cell? ⟨w2.heap.size, 3, none⟩ = some (.bool false) ∧ W.cell? ⟨w2.heap.size, 4, none⟩ = some (.int .i64 0) ∧ W.cell? ⟨w2.heap.size, 5, none⟩ = some (.bool false)) ∧ (W.cell? (a.add (k * 4)) = some (.int .u8 y.x) ∧ W.cell? ⟨(a.add (k * 4)).block, (a.add (k * 4)).off + 1, none⟩ = some (.string y.nm) ∧ W.cell? ⟨(a.add (k * 4)).block, (a.add (k * 4)).off + 2, none⟩ = some (.string y.str) ∧ W.cell? ⟨(a.add (k * 4)).block, (a.add (k * 4)).off + 3, none⟩ = some (.int .i64 y.k)) ∧ Frm (fun i => ¬ K i) wq W)
                    ((refine HAt.out _ ?_; first | with_reducible exact HW.out.chg.drew | with_reducible assumption))
                    ((go_at_call 7; refine hdo.out.mono ?_; rintro e w4 ⟨⟨v, rfl⟩, hF4⟩; have hf4 := hF4.chg))
                  repeat' (first | go_values | go_skip | go_guarded | go_step | go_upon | dsimp only)
                  go_round
                  case measure => clear ht7; simp [intOf]; omega
                  case rel =>
                    clear ht7
                    exact ⟨k + 1, doesD D r.toNat y.nm y.str y.k, by omega, by omega, by go_num, hF4, (HI.out.does r.toNat y.k hs1 hs2).mono (by omega), HE.out.trans (Ext.does D y.nm y.str y.k (by omega))⟩
                · have t4 : decide (r < 4) = false := decide_eq_false hr4
                  repeat' (first | go_values | go_skip | go_guarded | go_step | go_upon | dsimp only)
                  go_round
                  case measure => clear ht7; simp [intOf]; omega
                  case rel => clear ht7; exact ⟨k + 1, D, by omega, by omega, by go_num, HW.out, HI.out.mono (by omega), HE.out⟩
              · obtain rfl : n = k := by omega
                have hE2 := HE.out
                have hI2 : Inv 100000 D := HI.out.mono (by omega)
                have HE2 := Lib.hid hE2; clear hE2
                have HI2 := Lib.hid hI2; clear hI2
                obtain ⟨D2, rfl⟩ : ∃ D2, D2 = D := ⟨D, rfl⟩
                obtain ⟨U2, hU2⟩ : ∃ U2 : Nat, D2.steps.flatten.length = U2 := ⟨_, rfl⟩
                have hU2' : U2 ≤ 100000 := by have := HI2.out.count; omega
                have HU2 := Lib.hid hU2; clear hU2
                clear hlt HI HE
                repeat' (first | (go_at_call 9; (with_reducible refine (HW.out.copy 0 rfl (Nat.le_trans HI2.out.steps (by omega))).mono ?_); rintro e z1 ⟨o2, rfl, hz1⟩; have Z1 := Lib.hid hz1; clear hz1 HW) | (go_at_call 10; (with_reducible refine (Z1.out.units 0 rfl HI2.out (by omega)).mono ?_); rintro e z2 ⟨rfl, hz2⟩; rw [HU2.out]; have H2 := Lib.hid hz2; clear hz2 Z1) | go_values | go_skip | go_guarded | go_step | go_upon | dsimp only)
                go_loopw [16] (fun i W => ∃ k : Nat, ∃ D, (n : Int) ≤ (k : Int) ∧ k ≤ l.length ∧ i = .int .i64 k ∧ FW K wq W [(b, D), (o1, crashD D0 keep), (o2, D2)] ∧ Inv (100000 + 1001 * k) D ∧ Ext D2 D) (fun i _ => l.length - (intOf i).toNat)
                case atStart => exact ⟨n, _, by omega, by omega, by simp, H2.out, HI2.out.mono (by omega), Ext.refl _⟩
                case round =>
                  obtain ⟨k, D, hkN, hkl, rfl, hFW, hI, hE⟩ := hrel
                  have HW := Lib.hid hFW; clear hFW
                  have HI := Lib.hid hI; clear hI
                  have HE := Lib.hid hE; clear hE
                  clear H2
                  by_cases hlt : k < l.length
                  · skip
                    obtain ⟨y, hy⟩ : ∃ y, l[k]? = some y := ⟨_, List.getElem?_eq_getElem (by omega)⟩
                    obtain ⟨a, rfl, ⟨hs1, hs2⟩, ⟨hx0, hyk⟩, hat⟩ := HA.out k y hy
                    have k63 : (k : Int) + 1 ≤ 9223372036854775807 := by omega
                    have hdo := Lib.hid (HW.out.drew.does 0 rfl HI.out (by omega) y hx0 hs1 hs2 hyk)
                    have c0 := (hat _ HW.out.chg).2.1.1
                    have ht7 : y.x.tmod 7 = y.x % 7 := Int.tmod_eq_emod_of_nonneg hx0
                    have k0 : (0 : Int) ≤ (k : Int) := by omega
                    have k1 : (k : Int) < (l.length : Int) := by omega
                    have HAt := Lib.hid hat; clear hat hy
                    obtain ⟨r, hr⟩ : ∃ r, y.x % 7 = r := ⟨_, rfl⟩
                    rw [hr] at ht7 hdo
                    have hr0 : 0 ≤ r := by omega
                    by_cases hr4 : r < 4
                    · have t4 : decide (r < 4) = true := decide_eq_true hr4
                      repeat' (first | go_values | go_skip | go_guarded | go_step | go_upon | dsimp only)
                      go_region_held2 (fun W => (W.cell? ⟨w2.heap.size, 0, none⟩ = some (.int .i64 0) ∧ W.cell? ⟨w2.heap.size, 1, none⟩ = some (.slice none 0 0) ∧ W.cell? ⟨w2.heap.size, 2, none⟩ = some (.slice none 0 0) ∧ W.cell? ⟨w2.heap.size, 3, none⟩ = some (.bool false) ∧ W.cell? ⟨w2.heap.size, 4, none⟩ = some (.int .i64 0) ∧ W.cell? ⟨w2.heap.size, 5, none⟩ = some (.bool false)) ∧ (W.cell? (a.add (k * 4)) = some (.int .u8 y.x) ∧ W.cell? ⟨(a.add (k * 4)).block, (a.add (k * 4)).off + 1, none⟩ = some (.string y.nm) ∧ W.cell? ⟨(a.add (k * 4)).block, (a.add (k * 4)).off + 2, none⟩ = some (.string y.str) ∧ W.cell? ⟨(a.add (k * 4)).block, (a.add (k * 4)).off + 3, none⟩ = some (.int .i64 y.k)) ∧ Frm (fun i => ¬ K i) wq W)
                        ((refine HAt.out _ ?_; first | with_reducible exact HW.out.chg.drew | with_reducible assumption))
                        ((go_at_call 7; refine hdo.out.mono ?_; rintro e w4 ⟨⟨v, rfl⟩, hF4⟩; have hf4 := hF4.chg))
                      repeat' (first | go_values | go_skip | go_guarded | go_step | go_upon | dsimp only)
                      go_round
                      case measure => clear ht7; simp [intOf]; omega
                      case rel =>
                        clear ht7
                        exact ⟨k + 1, doesD D r.toNat y.nm y.str y.k, by omega, by omega, by go_num, hF4, (HI.out.does r.toNat y.k hs1 hs2).mono (by omega), HE.out.trans (Ext.does D y.nm y.str y.k (by omega))⟩
                    · have t4 : decide (r < 4) = false := decide_eq_false hr4
                      repeat' (first | go_values | go_skip | go_guarded | go_step | go_upon | dsimp only)
                      go_round
                      case measure => clear ht7; simp [intOf]; omega
                      case rel => clear ht7; exact ⟨k + 1, D, by omega, by omega, by go_num, HW.out, HI.out.mono (by omega), HE.out⟩
                  · obtain rfl : k = l.length := by omega
                    have h40' := H40.out
                    have hnk : ¬ keep < 0 := HKN.out
                    obtain ⟨M, hM⟩ : ∃ M : Int, min keep (U2 : Int) = M := ⟨_, rfl⟩
                    have hm : 0 ≤ M ∧ M ≤ U2 ∧ M ≤ 9223372036854775807 := by omega
                    have cM : crashE M = 0 := by unfold crashE; rw [if_neg (by omega)]
                    obtain ⟨U3, hu3⟩ : ∃ U3 : Nat, D.steps.flatten.length = U3 := ⟨_, rfl⟩
                    have cU : crashE (U3 : Int) = 0 := by unfold crashE; rw [if_neg (by omega)]
                    have hU3 : (U3 : Int) ≤ 9223372036854775807 := by have := HI.out.count; omega
                    have hq1 : (crashD D M).seen = (crashD D2 M).seen := late_early HE.out hm.1 (by rw [HU2.out]; exact hm.2.1)
                    have hq2 : (crashD D (U3 : Int)).seen = D.seen := by rw [← hu3]; exact all_same HI.out
                    have UU3 := Lib.hid hu3; clear hu3
                    have hq3 : (crashD D 0).seen = (crashD D0 keep).seen := none_before (by omega) (HE2.out.trans HE.out)
                    have hq4 : (crashD D M).steps.flatten.length = 0 := by rw [(crash_seen D hm.1).2.2]; rfl
                    have HM := Lib.hid hm; clear hm
                    have CM := Lib.hid cM; clear cM
                    have CU := Lib.hid cU; clear cU
                    have HU3 := Lib.hid hU3; clear hU3
                    have HQ1 := Lib.hid hq1; clear hq1
                    have HQ2 := Lib.hid hq2; clear hq2
                    have HQ3 := Lib.hid hq3; clear hq3
                    have HQ4 := Lib.hid hq4; clear hq4
                    clear hlt hnk
                    repeat' (first | (go_at_call 9; (with_reducible refine (HW.out.copy 0 rfl (Nat.le_trans HI.out.steps (by omega))).mono ?_); rintro e x1 ⟨p1, rfl, hx1⟩; have X1 := Lib.hid hx1; clear hx1 HW) | (go_at_call 9; (with_reducible refine (X1.out.copy 0 rfl (Nat.le_trans HI.out.steps (by omega))).mono ?_); rintro e x2 ⟨p2, rfl, hx2⟩; have X2 := Lib.hid hx2; clear hx2 X1) | (go_at_call 9; (with_reducible refine (X2.out.copy 0 rfl (Nat.le_trans HI.out.steps (by omega))).mono ?_); rintro e x3 ⟨p3, rfl, hx3⟩; have X3 := Lib.hid hx3; clear hx3 X2) | (go_at_call 8; (with_reducible refine (X3.out.crash 3 rfl HI.out (by omega) M HM.out.2.2).mono ?_); rintro e x4 ⟨rfl, hx4⟩; have X4 := Lib.hid hx4; clear hx4 X3; rw [CM.out]) | (go_at_call 8; (with_reducible refine (X4.out.crash 2 rfl HI2.out (by omega) M HM.out.2.2).mono ?_); rintro e x5 ⟨rfl, hx5⟩; have X5 := Lib.hid hx5; clear hx5 X4; rw [CM.out]) | (go_at_call 10; (with_reducible refine (X5.out.units 0 rfl HI.out (by omega)).mono ?_); rintro e x6 ⟨rfl, hx6⟩; rw [UU3.out]; have X6 := Lib.hid hx6; clear hx6 X5) | (go_at_call 8; (with_reducible refine (X6.out.crash 4 rfl HI.out (by omega) _ HU3.out).mono ?_); rintro e x7 ⟨rfl, hx7⟩; have X7 := Lib.hid hx7; clear hx7 X6; rw [CU.out]) | (go_at_call 8; (with_reducible refine (X7.out.crash 5 rfl HI.out (by omega) 0 (by omega)).mono ?_); rintro e x8 ⟨rfl, hx8⟩; have X8 := Lib.hid hx8; clear hx8 X7; rw [crashE_zero]) | (go_at_call 11; (with_reducible refine (X8.out.alike 3 2 rfl rfl HQ1.out (HI.out.crash M) (by omega)).mono ?_); rintro e x9 ⟨rfl, hx9⟩; have X9 := Lib.hid hx9; clear hx9 X8) | (go_at_call 11; (with_reducible refine (X9.out.alike 4 0 rfl rfl HQ2.out (HI.out.crash _) (by omega)).mono ?_); rintro e x10 ⟨rfl, hx10⟩; have X10 := Lib.hid hx10; clear hx10 X9) | (go_at_call 11; (with_reducible refine (X10.out.alike 5 1 rfl rfl HQ3.out (HI.out.crash 0) (by omega)).mono ?_); rintro e x11 ⟨rfl, hx11⟩; have X11 := Lib.hid hx11; clear hx11 X10) | (go_at_call 10; (with_reducible refine (X11.out.units 3 rfl (HI.out.crash M) (by omega)).mono ?_); rintro e x12 ⟨rfl, hx12⟩; rw [HQ4.out]; have X12 := Lib.hid hx12; clear hx12 X11) | (go_at_call 6; refine (head_call _).mono ?_; rintro e x13 ⟨rfl, hx13⟩) | go_values | go_skip | go_guarded | go_step | go_upon | dsimp only)
                    go_ret
                    exact ⟨rfl, HFin.out _ (X12.out.chg.trn hx13)⟩
end Go.Proofs.Ytlnelokpaccanaa
