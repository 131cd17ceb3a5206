/- Append. -/
import Derived.Test.YtlnelokpaccanaaDiskM
namespace Go.Proofs.Ytlnelokpaccanaa
open Go Go.RowKit Go.Tr
attribute [local go_sem] Oper.semAt_some
set_option linter.unusedVariables false

theorem up_plain {w0 W : World} {b : Nat} {D : DS} {fp : List Nat} {bx : Nat → Prop} {s m : Nat} {sv fa : Value} {fl : List Nat} (h : DRep w0 b D fp bx s m sv fa fl) (nm : ByteArray) (t : TypeId) (hf : Frm Nil w0 W) :
    Calls Try.prog 31 #[ptr b, .slice (some ⟨W.heap.size, 0, none⟩) 1 1] (W.alloc (.cells #[.string nm] t)) fun e w' => e = .returned (.int .i64 (upE [nm] D.down)) ∧ Frm Nil w0 w' := by
  have hf' : Frm Nil w0 (W.alloc (.cells #[.string nm] t)) := hf.alloc _
  have c6 := cells6 (hf'.objN h.blk)
  refine (up_all b m D.down _ c6.h2 c6.h5 W.heap.size 1 [nm] (some ⟨W.heap.size, 0, none⟩) (fun i hi => ?_) (by simp)).mono ?_
  · have : i = 0 := by simp at hi; omega
    subst this
    exact ⟨rfl, Box1.cell (Box1.new W t (.string nm))⟩
  · rintro e w' ⟨rfl, rfl⟩
    exact ⟨rfl, hf'⟩
theorem used_frm {w0 W : World} {b : Nat} {D : DS} {fp : List Nat} {bx : Nat → Prop} {s m : Nat} {sv fa : Value} {fl : List Nat} (h : DRep w0 b D fp bx s m sv fa fl) {X Y : Prop} (hX : X ∧ Y ∧ Frm Nil w0 W) :
    Calls Try.prog 20 #[ptr b] W fun e w' => e = .returned (.int .i64 (usedD D)) ∧ Frm Nil w0 w' := by
  refine (used_call ⟨s, m, sv, fa, fl, h.frm hX.2.2 (fun _ _ h => h) (fun _ _ h => h)⟩).mono ?_
  rintro e w' ⟨rfl, hf⟩
  exact ⟨rfl, hX.2.2.trn hf⟩

theorem box_two (W : World) (t t' : TypeId) (v v' : Value) (z : Unit) : Box1 ((W.alloc (.cells #[v'] t')).alloc (.cells #[v] t)).drew (W.heap.size + 1) t v := by
  have := World.alloc_heap_new (W.alloc (.cells #[v'] t')) (.cells #[v] t)
  rw [World.size_alloc] at this
  exact this
theorem box_fst (W : World) (t : TypeId) (v : Value) (o : Obj) : Box1 ((W.alloc (.cells #[v] t)).alloc o).drew W.heap.size t v :=
  (Below.heap_alloc (W.alloc (.cells #[v] t)) o _ (by simp)).trans (World.alloc_heap_new W _)
/-- Append. -/
def appUs (D : DS) (nm str : ByteArray) : List U := appU (mget beqB nm D.seen).isSome nm str
def tooBig (D : DS) (str : ByteArray) : Prop := IntKind.i64.wrap (D.room - usedD D) < (str.size : Int)
instance (D : DS) (str : ByteArray) : Decidable (tooBig D str) := by unfold tooBig; infer_instance
def appE (D : DS) (nm str : ByteArray) : Int := if upE [nm] D.down = 0 then (if tooBig D str then 6 else 0) else upE [nm] D.down
def appD (D : DS) (nm str : ByteArray) : DS := if appE D nm str = 0 then doD D (appUs D nm str) else D
def appR (D : DS) (nm str : ByteArray) : Int := if appE D nm str = 0 then doE D (appUs D nm str) else appE D nm str
set_option maxHeartbeats 1000000 in
theorem opAppend {w : World} {b : Nat} {D : DS} {fp : List Nat} {bx : Nat → Prop} (h : Disk w b D fp bx) (nm str : ByteArray) (hz : str.size ≤ 2000000000) (hst : D.steps.length ≤ 1000000000) (hfit : Fits (stepN D (appUs D nm str)) D.seen) :
    Calls Try.prog 12 #[ptr b, .string nm, .string str] w (OpPost w b fp bx (appD D nm str) (.int .i64 (appR D nm str))) := by
  obtain ⟨s, m, sv, fa, fl, h⟩ := h
  have hE : appR D nm str = if appE D nm str = 0 then doE D (appUs D nm str) else appE D nm str := rfl
  have hDD : appD D nm str = if appE D nm str = 0 then doD D (appUs D nm str) else D := rfl
  have hEE : appE D nm str = if upE [nm] D.down = 0 then (if tooBig D str then 6 else 0) else upE [nm] D.down := rfl
  have HE := Lib.hid hE; clear hE
  have HD := Lib.hid hDD; clear hDD
  have HEE := Lib.hid hEE; clear hEE
  obtain ⟨w0, hw0⟩ : ∃ w0, (w.alloc (.cells #[.string nm] 9)).alloc (.cells #[.string str] 9) = w0 := ⟨_, rfl⟩
  have f0 : Frm Nil w w0 := by rw [← hw0]; exact ((Frm.refl _ w).alloc _).alloc _
  have hB0 : Box1 w0 w.heap.size 9 (.string nm) := by rw [← hw0]; exact (Below.heap_alloc _ _ _ (by simp)).trans (World.alloc_heap_new w _)
  have hC0 : Box1 w0 (w.heap.size + 1) 9 (.string str) := by rw [← hw0]; have := World.alloc_heap_new (w.alloc (.cells #[.string nm] 9)) (.cells #[.string str] 9); rwa [World.size_alloc] at this
  have h0 := h.frm f0 (fun _ _ h => h) (fun _ _ h => h)
  have cB := hB0.cell
  have cC := hC0.cell
  have F0 := Lib.hid f0; clear f0
  have B0 := Lib.hid hB0; clear hB0
  have C0 := Lib.hid hC0; clear hC0
  have H := Lib.hid h; clear h
  have H0 := Lib.hid h0; clear h0
  have hST := Lib.hid hst; clear hst
  have HFit := Lib.hid hfit; clear hfit
  have HZ := Lib.hid hz; clear hz
  obtain ⟨r, hr⟩ : ∃ r, upE [nm] D.down = r := ⟨_, rfl⟩
  have hup := Lib.hid (up_plain H0.out nm 9 (Frm.refl Nil w0))
  rw [hr] at HEE hup
  clear hr
  by_cases h0 : r = 0
  · subst h0
    simp only [if_true] at HEE
    go_enter Try.func12, Try.ntmps12
    repeat' (first | (go_at_call 31; refine hup.out.mono ?_; rintro e w1 ⟨rfl, hf1⟩; have k0 := (cells6 (hf1.objN H0.out.blk)).h0; have k2 := (cells6 (hf1.objN H0.out.blk)).h2; have cB1 := hf1.cellN cB; have cC1 := hf1.cellN cC; clear hup) | go_values | go_skip | go_guarded | go_step | go_upon | dsimp only)
    clear cB cC hw0
    have hk0 : ∀ W, Frm Nil w0 W → W.cell? ⟨b, 0, none⟩ = some (.int .i64 D.room) := fun W hW => (cells6 (hW.objN H0.out.blk)).h0
    have hkC : ∀ W, Frm Nil w0 W → W.cell? ⟨w.heap.size + 1, 0, none⟩ = some (.string str) := fun W hW => (C0.out.frm hW (fun h => h)).cell
    have hkB : ∀ W, Frm Nil w0 W → W.cell? ⟨w.heap.size, 0, none⟩ = some (.string nm) := fun W hW => (B0.out.frm hW (fun h => h)).cell
    have HK0 := Lib.hid hk0; clear hk0
    have HKC := Lib.hid hkC; clear hkC
    have HKB := Lib.hid hkB; clear hkB
    have HF1 := Lib.hid hf1; clear hf1
    clear k0 k2 cB1 cC1
    obtain ⟨ub, hub⟩ : ∃ ub, IntKind.i64.wrap (D.room - usedD D) = ub := ⟨_, rfl⟩
    have htb : tooBig D str ↔ ub < (str.size : Int) := by rw [← hub]; rfl
    have HTB := Lib.hid htb; clear htb
    have HUB := Lib.hid hub; clear hub
    refine Code.wp_mono (Q := fun e a' w' => match e with
      | .normal => ∃ (y18 y19 y20 y21 y22 y23 y24 y25 y26 : Value), Frm Nil w0 w' ∧ a' = { tmps := #[ptr b, .string nm, .string str, undef, ptr w.heap.size, ptr (w.heap.size + 1), .int .i64 0, .int .i64 0, undef, undef, undef, ptr b, .string nm, .slice (some ⟨w0.heap.size, 0, none⟩) 1 1, .int .i64 0, .int .i64 0, .bool false, undef, y18, y19, y20, y21, y22, y23, y24, y25, y26, .bool (decide (ub < (str.size : Int))), undef, undef, undef, undef, undef, undef, undef, undef, undef, undef, undef, undef, undef, undef, undef, undef, undef, undef, undef, undef, undef, undef, undef], defers := [] }
      | _ => False) (fun e a' w' hq => ?_) ?_
    case refine_2 =>
      go_region_held2 (fun w' => w'.cell? ⟨w.heap.size + 1, 0, none⟩ = some (.string str) ∧ w'.cell? ⟨b, 0, none⟩ = some (.int .i64 D.room) ∧ Frm Nil w0 w')
        ((refine (fun hf => And.intro (HKC.out _ hf) (And.intro (HK0.out _ hf) hf) : Frm Nil w0 _ → _) ?_; first | assumption | exact HF1.out.drew))
        ((go_at_call 20; refine (used_frm H0.out (by assumption)).mono ?_; rintro e w' ⟨rfl, hfu⟩))
      exact ⟨_, _, _, _, _, _, _, _, _, hfu, by rw [HUB.out]⟩
    case refine_1 =>
      cases e with
      | normal =>
        obtain ⟨y18, y19, y20, y21, y22, y23, y24, y25, y26, hf2, rfl⟩ := hq
        have HF2 := Lib.hid hf2; clear hf2
        clear w1 HF1 HUB
        by_cases hlt : ub < (str.size : Int)
        · have hd : decide (ub < (str.size : Int)) = true := by simpa using hlt
          rw [hd]
          have hbig : tooBig D str := HTB.out.2 hlt
          have he : appE D nm str = 6 := by rw [HEE.out, if_pos hbig]
          have hr : appR D nm str = 6 := by rw [HE.out, he]; rfl
          have hdd : appD D nm str = D := by rw [HD.out, he]; rfl
          clear HEE HE HD hd he
          have HR := Lib.hid hr; clear hr
          have HDD := Lib.hid hdd; clear hdd
          repeat' (first | go_values | go_skip | go_guarded | go_step | go_upon | dsimp only)
          go_ret
          rw [HR.out, HDD.out]
          have hfW := F0.out.trn HF2.out
          exact OpPost.same ⟨s, m, sv, fa, fl, H.out.frm hfW (fun _ _ h => h) (fun _ _ h => h)⟩ hfW.nil _
        · have hd : decide (ub < (str.size : Int)) = false := by simpa using hlt
          rw [hd]
          have hbig : ¬ tooBig D str := fun hx => hlt (HTB.out.1 hx)
          have he : appE D nm str = 0 := by rw [HEE.out, if_neg hbig]
          have hr : appR D nm str = doE D (appUs D nm str) := by rw [HE.out, he]; rfl
          have hdd : appD D nm str = doD D (appUs D nm str) := by rw [HD.out, he]; rfl
          clear HEE HE HD hd he HTB hlt hbig
          have HR := Lib.hid hr; clear hr
          have HDD := Lib.hid hdd; clear hdd
          obtain ⟨is, his⟩ : ∃ is, (mget beqB nm D.seen).isSome = is := ⟨_, rfl⟩
          obtain ⟨c, hlk⟩ : ∃ c : ByteArray, ∀ W, Frm Nil w0 W → (Instr.lookup 43 (.map (some m)) (.string nm) true).run Try.prog W = .ok (.tuple #[.agg #[.string c], .bool is]) W := by
            refine ⟨(mget beqB nm D.seen).getD ⟨#[]⟩, fun W hW => ?_⟩
            have hlk := run_lookup strK Try.underlying43 zfile (H0.out.seen.frm hW (fun h => h)) nm true
            rw [show mget beqB nm (encF D.seen) = (mget beqB nm D.seen).map fv from mget_map fv nm D.seen] at hlk
            rw [← his]
            cases hg : mget beqB nm D.seen <;> rw [hg] at hlk <;> simpa [fv] using hlk
          have HLK := Lib.hid hlk; clear hlk
          have HIS := Lib.hid his; clear his
          have hk2 : ∀ W, Frm Nil w0 W → W.cell? ⟨b, 2, none⟩ = some (.map (some m)) := fun W hW => (cells6 (hW.objN H0.out.blk)).h2
          have HK2 := Lib.hid hk2; clear hk2
          repeat' (first | go_values | go_skip | go_guarded | go_step | go_upon | dsimp only)
          have hsz : w0.heap.size ≤ w'.heap.size := HF2.out.size
          refine Code.wp_mono (Q := fun e a' W => match e with
            | .normal => ∃ (g8 g9 : Nat) (y28 y29 y30 y31 y32 y33 y34 y35 y36 : Value), Frm Nil w0 W ∧ Box1 W g9 4 (.bool is) ∧ w0.heap.size ≤ g9 ∧ a' = { tmps := #[ptr b, .string nm, .string str, undef, ptr w.heap.size, ptr (w.heap.size + 1), .int .i64 0, .int .i64 0, ptr g8, ptr g9, undef, ptr b, .string nm, .slice (some ⟨w0.heap.size, 0, none⟩) 1 1, .int .i64 0, .int .i64 0, .bool false, undef, y18, y19, y20, y21, y22, y23, y24, y25, y26, .bool false, y28, y29, y30, y31, y32, y33, y34, y35, y36, undef, undef, undef, undef, undef, undef, undef, undef, undef, undef, undef, undef, undef, undef], defers := [] }
            | _ => False) (fun e a' W hq => ?_) ?_
          case refine_2 =>
            go_region_held2 (fun w' => w'.cell? ⟨w.heap.size, 0, none⟩ = some (.string nm) ∧ w'.cell? ⟨b, 2, none⟩ = some (.map (some m)) ∧ (Instr.lookup 43 (.map (some m)) (.string nm) true).run Try.prog w' = .ok (.tuple #[.agg #[.string c], .bool is]) w' ∧ Frm Nil w0 w')
              ((refine (fun hf => And.intro (HKB.out _ hf) (And.intro (HK2.out _ hf) (And.intro (HLK.out _ hf) hf)) : Frm Nil w0 _ → _) ?_; first | assumption | exact HF2.out.drew | exact (HF2.out.alloc _).drew | exact ((HF2.out.alloc _).alloc _).drew))
              (fail)
            all_goals first
              | exact ⟨_, _, _, _, _, _, _, _, _, _, _, ((HF2.out.alloc _).alloc _).drew, box_two _ _ _ _ _ (), by omega, rfl⟩
              | exact ⟨_, _, _, _, _, _, _, _, _, _, _, ((HF2.out.alloc _).alloc _).drew, box_fst _ _ _ _, by omega, rfl⟩
          case refine_1 =>
            cases e with
            | normal =>
              obtain ⟨g8, g9, y28, y29, y30, y31, y32, y33, y34, y35, y36, hfW, hb9, hg9, rfl⟩ := hq
              have hCW : Box1 W (w.heap.size + 1) 9 (.string str) := C0.out.frm hfW (fun h => h)
              have hBW : Box1 W w.heap.size 9 (.string nm) := B0.out.frm hfW (fun h => h)
              have cCW := hCW.cell
              have c9 := hb9.cell
              have h0sz : w.heap.size ≤ w0.heap.size := F0.out.size
              have hfw : Frm Nil w W := F0.out.trn hfW
              have hpl : ∀ W3, Frm Nil W W3 → Plain (fun i => bx i ∨ (w.heap.size ≤ i ∧ i < W3.heap.size)) W3 (.func (.func 32) #[] #[ptr g9, ptr w.heap.size, ptr (w.heap.size + 1)]) (appU is nm str) := fun W3 h3 => by
                have q1 := hb9.frm h3 (fun h => h)
                have q2 := hBW.frm h3 (fun h => h)
                have q3 := hCW.frm h3 (fun h => h)
                exact .inl ⟨g9, w.heap.size, w.heap.size + 1, is, nm, str, .inr ⟨by omega, q1.lt⟩, .inr ⟨by omega, q2.lt⟩, .inr ⟨by omega, q3.lt⟩, q1, q2, q3, by have := HZ.out; omega, rfl, rfl⟩
              have HPL := Lib.hid hpl; clear hpl
              have husx : appUs D nm str = appU is nm str := by unfold appUs; rw [HIS.out]
              have hlenU : (appU is nm str).length = (if is then 0 else 1) + str.size := by unfold appU; cases is <;> simp [bytesU_len] <;> omega
              rw [husx] at HFit HR HDD
              have HLU := Lib.hid hlenU; clear hlenU husx
              have HFW := Lib.hid hfw; clear hfw
              clear HF2 HLK HKB HKC HK0 HK2 hfW hBW hCW hb9
              have v9 : (W.alloc (.cells #[.int .i64 str.size, .nilFunc] 70)).cell? ⟨g9, 0, none⟩ = some (.bool is) := ((Frm.refl Nil W).alloc _).cellN c9
              clear c9 hsz h0sz hg9
              cases is with
              | true =>
                repeat' (first | (go_at_call 35; refine (do_more H.out (HFW.out.trn ((Frm.refl Nil W).alloc _)) (HPL.out _ ((Frm.refl Nil W).alloc _)) (by rw [HLU.out]; have := HZ.out; simp; omega) hST.out HFit.out str.size (by rw [HLU.out]; simp)).mono ?_; rintro e w4 ⟨rfl, hP⟩) | go_values | go_skip | go_guarded | go_step | go_upon | dsimp only)
                go_ret
                rw [HR.out, HDD.out]
                exact ⟨rfl, hP⟩
              | false =>
                have hadd : wrap64 ((str.size : Int) + 1) = (str.size : Int) + 1 := by have := HZ.out; simp only [wrap64]; omega
                repeat' (first | (go_at_call 35; refine (do_more H.out (HFW.out.trn ((Frm.refl Nil W).alloc _)) (HPL.out _ ((Frm.refl Nil W).alloc _)) (by rw [HLU.out]; have := HZ.out; simp; omega) hST.out HFit.out ((str.size : Int) + 1) (by rw [HLU.out]; simp; omega)).mono ?_; rintro e w4 ⟨rfl, hP⟩) | go_values | go_skip | go_guarded | go_step | go_upon | dsimp only)
                go_ret
                rw [HR.out, HDD.out]
                exact ⟨rfl, hP⟩
            | _ => exact hq.elim
      | _ => exact hq.elim
  · have hb0 : (r == 0) = false := by simpa using h0
    have hb1 : (r != 0) = true := by simpa using h0
    rw [if_neg h0] at HEE
    have h0' := h0
    rw [← HEE.out] at h0
    rw [if_neg h0] at HE HD
    have he := HEE.out
    have HE2 := Lib.hid (HE.out.trans he)
    clear he HE h0 h0'
    go_enter Try.func12, Try.ntmps12
    repeat' (first | (go_at_call 31; refine hup.out.mono ?_; rintro e w1 ⟨rfl, hf1⟩) | go_values | go_skip | go_guarded | go_step | go_upon | dsimp only)
    go_ret
    rw [HE2.out, HD.out]
    have hfW := F0.out.trn hf1
    exact OpPost.same ⟨s, m, sv, fa, fl, H.out.frm hfW (fun _ _ h => h) (fun _ _ h => h)⟩ hfW.nil _
end Go.Proofs.Ytlnelokpaccanaa
