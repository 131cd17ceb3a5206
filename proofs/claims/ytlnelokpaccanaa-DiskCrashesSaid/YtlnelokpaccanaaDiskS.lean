/- does. -/
import Derived.Test.YtlnelokpaccanaaDiskQ
import Derived.Test.YtlnelokpaccanaaDiskR
namespace Go.Proofs.Ytlnelokpaccanaa
open Go Go.RowKit Go.Tr
attribute [local go_sem] Oper.semAt_some
set_option linter.unusedVariables false

/-- What an act of the kind c does. -/
def doesD (D : DS) (c : Nat) (nm str : ByteArray) (k : Int) : DS := match c with
  | 0 => appD D nm str
  | 1 => appD D nm str
  | 2 => removeD D nm
  | 3 => renameD D nm str
  | 4 => syncD D
  | 6 => fuseD D k
  | _ => crashD D k
def DPost (w : World) (b : Nat) (fp : List Nat) (bx : Nat → Prop) (D' : DS) (e : Ending) (w' : World) : Prop :=
  (∃ v, e = .returned v) ∧ ∃ fp' bx', Disk w' b D' fp' bx' ∧ Frm (fun i => i ∈ fp) w w' ∧ (∀ i ∈ fp', i ∈ fp ∨ w.heap.size ≤ i) ∧ ∀ i, bx' i → bx i ∨ w.heap.size ≤ i
abbrev ao (x : Int) (nm str : ByteArray) (k : Int) : Obj := .cells #[.int .u8 x, .string nm, .string str, .int .i64 k] 36
abbrev w3 (w : World) (x : Int) (nm str : ByteArray) (k : Int) : World := ((w.alloc zo).alloc (ao x nm str k)).alloc zo
theorem w3_rows (w : World) (x : Int) (nm str : ByteArray) (k : Int) : (w3 w x nm str k).heap[w.heap.size]? = some zo ∧ (w3 w x nm str k).heap[w.heap.size + 1]? = some (ao x nm str k) ∧ (w3 w x nm str k).heap[w.heap.size + 1 + 1]? = some zo := by
  refine ⟨(Below.heap_alloc _ _ _ (by simp; omega)).trans ((Below.heap_alloc _ _ _ (by simp)).trans (World.alloc_heap_new w _)), (Below.heap_alloc _ _ _ (by simp)).trans (two_new w _ _), ?_⟩
  have := World.alloc_heap_new ((w.alloc zo).alloc (ao x nm str k)) zo
  rwa [World.size_alloc, World.size_alloc] at this
structure Rows3 (w W : World) (x : Int) (nm str : ByteArray) (k : Int) : Prop where
  r4 : W.heap[w.heap.size]? = some zo
  r5 : W.heap[w.heap.size + 1]? = some (ao x nm str k)
  r6 : W.heap[w.heap.size + 1 + 1]? = some zo
theorem Rows3.frm {w W W' : World} {x : Int} {nm str : ByteArray} {k : Int} (h : Rows3 w W x nm str k) {S : Nat → Prop} (hf : Frm S W W') (hS : ∀ i, S i → i < w.heap.size) : Rows3 w W' x nm str k :=
  ⟨hf.obj h.r4 (fun e => by have := hS _ e; omega), hf.obj h.r5 (fun e => by have := hS _ e; omega), hf.obj h.r6 (fun e => by have := hS _ e; omega)⟩
theorem Rows3.new (w : World) (x : Int) (nm str : ByteArray) (k : Int) : Rows3 w (w3 w x nm str k) x nm str k := ⟨(w3_rows w x nm str k).1, (w3_rows w x nm str k).2.1, (w3_rows w x nm str k).2.2⟩
structure ACells (W : World) (b : Nat) (x : Int) (nm str : ByteArray) (k : Int) : Prop where
  h0 : W.cell? ⟨b, 0, none⟩ = some (.int .u8 x)
  h1 : W.cell? ⟨b, 1, none⟩ = some (.string nm)
  h2 : W.cell? ⟨b, 2, none⟩ = some (.string str)
  h3 : W.cell? ⟨b, 3, none⟩ = some (.int .i64 k)
theorem acells {W : World} {b : Nat} {x : Int} {nm str : ByteArray} {k : Int} (h : W.heap[b]? = some (ao x nm str k)) : ACells W b x nm str k := ⟨cell_of_row _ _ _ _ _ _ h, cell_of_row _ _ _ _ _ _ h, cell_of_row _ _ _ _ _ _ h, cell_of_row _ _ _ _ _ _ h⟩
abbrev six (W : World) (g : Nat) (v0 v1 v2 v3 v4 v5 : Value) : World := (((((W.setCell ⟨g, 0, none⟩ v0).setCell ⟨g, 1, none⟩ v1).setCell ⟨g, 2, none⟩ v2).setCell ⟨g, 3, none⟩ v3).setCell ⟨g, 4, none⟩ v4).setCell ⟨g, 5, none⟩ v5
theorem six_row {W : World} {g : Nat} {a0 a1 a2 a3 a4 a5 v0 v1 v2 v3 v4 v5 : Value} {t : TypeId} (h : W.heap[g]? = some (.cells #[a0, a1, a2, a3, a4, a5] t (0, 0))) : (six W g v0 v1 v2 v3 v4 v5).heap[g]? = some (.cells #[v0, v1, v2, v3, v4, v5] t (0, 0)) := by
  have h6 := heap_set' (i := 5) v5 (heap_set' (i := 4) v4 (heap_set' (i := 3) v3 (heap_set' (i := 2) v2 (heap_set' (i := 1) v1 (heap_set' (i := 0) v0 h)))))
  simpa using h6
theorem six_frm (W : World) (g : Nat) (v0 v1 v2 v3 v4 v5 : Value) : Frm (One g) W (six W g v0 v1 v2 v3 v4 v5) :=
  ((((((frm_set _ _ _ _).tr (frm_set _ _ _ _)).tr (frm_set _ _ _ _)).tr (frm_set _ _ _ _)).tr (frm_set _ _ _ _)).tr (frm_set _ _ _ _))
theorem does_end {w w2 W : World} {b : Nat} {fp fp' : List Nat} {bx bx' : Nat → Prop} {D' : DS} {a : Act} {x : Int} {nm str : ByteArray} {k : Int} (hd0 : a.defers = []) {v0 v1 v2 v3 v4 v5 u0 u1 u2 u3 u4 u5 : Value}
    (hlt : ∀ i ∈ fp, i < w.heap.size) (hbl : ∀ i, bx i → i < w.heap.size) (hp : a.tmps.getD 6 undef = ptr (w.heap.size + 1 + 1))
    (hd : Disk w2 b D' fp' bx') (hF : Frm (fun i => i ∈ fp) (w3 w x nm str k) w2) (h1 : ∀ i ∈ fp', i ∈ fp ∨ (w3 w x nm str k).heap.size ≤ i) (h2 : ∀ i, bx' i → bx i ∨ (w3 w x nm str k).heap.size ≤ i) (hf2 : Frm Nil w2 W) (hr : Rows3 w W x nm str k) :
    bodyPost Try.prog Try.f7 (DPost w b fp bx D') .ret a (six (six W w.heap.size v0 v1 v2 v3 v4 v5) (w.heap.size + 1 + 1) u0 u1 u2 u3 u4 u5) := by
  have s3 : (w3 w x nm str k).heap.size = w.heap.size + 3 := by simp
  have hp' : a.tmps[6]?.getD undef = .pointer (some ⟨w.heap.size + 1 + 1, 0, none⟩) := by simpa using hp
  have hrow : (six (six W w.heap.size v0 v1 v2 v3 v4 v5) (w.heap.size + 1 + 1) u0 u1 u2 u3 u4 u5).heap[w.heap.size + 1 + 1]? = some (.cells #[u0, u1, u2, u3, u4, u5] 32 (0, 0)) :=
    six_row ((six_frm W w.heap.size v0 v1 v2 v3 v4 v5).obj hr.r6 (fun e => by have e' : w.heap.size + 1 + 1 = w.heap.size := e; omega))
  have f1 := six_frm W w.heap.size v0 v1 v2 v3 v4 v5
  have f2 := six_frm (six W w.heap.size v0 v1 v2 v3 v4 v5) (w.heap.size + 1 + 1) u0 u1 u2 u3 u4 u5
  have n1 : ∀ i ∈ fp', i ≠ w.heap.size ∧ i ≠ w.heap.size + 1 + 1 := fun i hi => by
    rcases h1 i hi with h | h
    · have := hlt i h; omega
    · omega
  have n2 : ∀ i, bx' i → i ≠ w.heap.size ∧ i ≠ w.heap.size + 1 + 1 := fun i hi => by
    rcases h2 i hi with h | h
    · have := hbl i h; omega
    · omega
  refine ⟨hd0, .tuple #[.agg #[u0, u1, u2, u3, u4, u5], a.tmps.getD 7 undef], ?_, ⟨.tuple #[.agg #[u0, u1, u2, u3, u4, u5], a.tmps.getD 7 undef], rfl⟩, fp', bx', ((hd.frm hf2 (fun _ _ h => h) (fun _ _ h => h)).frm f1 (fun i hi e => (n1 i hi).1 e) (fun i hi e => (n2 i hi).1 e)).frm f2 (fun i hi e => (n1 i hi).2 e) (fun i hi e => (n2 i hi).2 e), ?_, fun i hi => ?_, fun i hi => ?_⟩
  · rw [results_cell_tmp (p := 6) (u := 7) (ty := 32) rfl]
    have hl := run_loadVar_row (P := Try.prog) _ (w.heap.size + 1 + 1) 32 32 _ _ _ hrow Try.underlying32 rfl (by kernel_rfl)
    simp only [Array.getD_eq_getD_getElem?, hp', asAddr, Sem.run_pure, Result.andThen_ok, hl]
  · have hw3 : Frm Nil w (w3 w x nm str k) := (((Frm.refl Nil w).alloc _).alloc _).alloc _
    exact ((((hw3.nil (S := fun i => i ∈ fp)).trans hF (fun _ _ h => h)).trn hf2).trans f1 (fun i hi e => by have e' : i = w.heap.size := e; omega)).trans f2 (fun i hi e => by have e' : i = w.heap.size + 1 + 1 := e; omega)
  · rcases h1 i hi with h | h
    · exact .inl h
    · exact .inr (by omega)
  · rcases h2 i hi with h | h
    · exact .inl h
    · exact .inr (by omega)
theorem disk3 {w : World} {b : Nat} {D : DS} {fp : List Nat} {bx : Nat → Prop} (h : Disk w b D fp bx) (x : Int) (nm str : ByteArray) (k : Int) : Disk (w3 w x nm str k) b D fp bx :=
  h.frm (S := Nil) ((((Frm.refl Nil w).alloc _).alloc _).alloc _) (fun _ _ h => h) (fun _ _ h => h)
theorem Disk.lt {w : World} {b : Nat} {D : DS} {fp : List Nat} {bx : Nat → Prop} (h : Disk w b D fp bx) : (∀ i ∈ fp, i < w.heap.size) ∧ (∀ i, bx i → i < w.heap.size) ∧ (∀ i ∈ fp, ¬ bx i) ∧ b ∈ fp := by
  obtain ⟨s, m, sv, fa, fl, h⟩ := h
  exact ⟨h.lt, h.bxl, h.off, by rw [h.fp_eq]; simp⟩

set_option maxHeartbeats 4000000 in
theorem does_call {w : World} {b : Nat} {D : DS} {fp : List Nat} {bx : Nat → Prop} (h : Disk w b D fp bx) (x : Int) (nm str : ByteArray) (k : Int) (c : Nat) (hx0 : 0 ≤ x) (hc : x % 7 = c)
    (hz : str.size ≤ 2000000000) (hst : D.steps.length ≤ 1000000000) (hk : k ≤ 9223372036854775807) (hfA : c = 0 ∨ c = 1 → Fits (stepN D (appUs D nm str)) D.seen) (hfC : c = 5 → Fits D.steps.flatten D.syn) :
    Calls Try.prog 7 #[ptr b, zq, .agg #[.int .u8 x, .string nm, .string str, .int .i64 k]] w (DPost w b fp bx (doesD D c nm str k)) := by
  obtain ⟨hlt, hbl, _, _⟩ := h.lt
  have h3 := Lib.hid (disk3 h x nm str k)
  have HL := Lib.hid hlt; clear hlt
  have HB := Lib.hid hbl; clear hbl
  clear h
  have hcc : c = 0 ∨ c = 1 ∨ c = 2 ∨ c = 3 ∨ c = 4 ∨ c = 5 ∨ c = 6 := by omega
  have ht : x.tmod 7 = c := by rw [Int.tmod_eq_emod_of_nonneg hx0]; exact hc
  have HZ := Lib.hid hz; clear hz
  have HST := Lib.hid hst; clear hst
  have HK := Lib.hid hk; clear hk
  have HA := Lib.hid hfA; clear hfA
  have HC := Lib.hid hfC; clear hfC
  rcases hcc with rfl | rfl | rfl | rfl | rfl | rfl | rfl
  · clear hc
    go_enter Try.func7, Try.ntmps7
    repeat' (first | (go_at_call 12; refine (opAppend h3.out nm str HZ.out HST.out (HA.out (by simp))).mono ?_; rintro e w1 ⟨rfl, fp', bx', hd, hF, h1, h2⟩; have R3 := (Rows3.new w x nm str k).frm hF HL.out; obtain ⟨i0, i1, i2, i3⟩ := acells R3.r5; obtain ⟨j0, j1, j2, j3, j4, j5, _⟩ := zcells R3.r4; have HP := Lib.hid (And.intro hd (And.intro hF (And.intro h1 h2))); have RR := Lib.hid R3; clear hd hF h1 h2 R3) | (go_at_call 21; refine (rappend_call nm str _ HZ.out).mono ?_; rintro e w2 ⟨⟨r', A1, n1, c1, A2, n2, c2, h', k', d', f', rfl⟩, hf2⟩; have R4 := RR.out.frm hf2 (fun _ h => h.elim); obtain ⟨y0, y1, y2, y3, y4, y5, yz⟩ := zcells R4.r4; obtain ⟨x0, x1, x2, x3, x4, x5, xz⟩ := zcells R4.r6; have g0 := yz 0; have g1 := yz 1; have g2 := yz 2; have g3 := yz 3; have g4 := yz 4; have g5 := yz 5; have z0 := xz 0; have z1 := xz 1; have z2 := xz 2; have z3 := xz 3; have z4 := xz 4; have z5 := xz 5; have RR4 := Lib.hid R4; have HF2 := Lib.hid hf2; clear yz xz R4 hf2 i0 i1 i2 i3 j0 j1 j2 j3 j4 j5 RR) | go_values | go_skip | go_guarded | go_step | go_upon | dsimp only)
    exact does_end rfl HL.out HB.out (by rfl) HP.out.1 HP.out.2.1 HP.out.2.2.1 HP.out.2.2.2 HF2.out RR4.out
  · clear hc
    go_enter Try.func7, Try.ntmps7
    repeat' (first | (go_at_call 12; refine (opAppend h3.out nm str HZ.out HST.out (HA.out (by simp))).mono ?_; rintro e w1 ⟨rfl, fp', bx', hd, hF, h1, h2⟩; have R3 := (Rows3.new w x nm str k).frm hF HL.out; obtain ⟨i0, i1, i2, i3⟩ := acells R3.r5; obtain ⟨j0, j1, j2, j3, j4, j5, _⟩ := zcells R3.r4; have HP := Lib.hid (And.intro hd (And.intro hF (And.intro h1 h2))); have RR := Lib.hid R3; clear hd hF h1 h2 R3) | (go_at_call 21; refine (rappend_call nm str _ HZ.out).mono ?_; rintro e w2 ⟨⟨r', A1, n1, c1, A2, n2, c2, h', k', d', f', rfl⟩, hf2⟩; have R4 := RR.out.frm hf2 (fun _ h => h.elim); obtain ⟨y0, y1, y2, y3, y4, y5, yz⟩ := zcells R4.r4; obtain ⟨x0, x1, x2, x3, x4, x5, xz⟩ := zcells R4.r6; have g0 := yz 0; have g1 := yz 1; have g2 := yz 2; have g3 := yz 3; have g4 := yz 4; have g5 := yz 5; have z0 := xz 0; have z1 := xz 1; have z2 := xz 2; have z3 := xz 3; have z4 := xz 4; have z5 := xz 5; have RR4 := Lib.hid R4; have HF2 := Lib.hid hf2; clear yz xz R4 hf2 i0 i1 i2 i3 j0 j1 j2 j3 j4 j5 RR) | go_values | go_skip | go_guarded | go_step | go_upon | dsimp only)
    exact does_end rfl HL.out HB.out (by rfl) HP.out.1 HP.out.2.1 HP.out.2.2.1 HP.out.2.2.2 HF2.out RR4.out
  · clear hc
    go_enter Try.func7, Try.ntmps7
    repeat' (first | (go_at_call 19; refine (opRemove h3.out nm HST.out).mono ?_; rintro e w1 ⟨rfl, fp', bx', hd, hF, h1, h2⟩; have R3 := (Rows3.new w x nm str k).frm hF HL.out; obtain ⟨i0, i1, i2, i3⟩ := acells R3.r5; obtain ⟨j0, j1, j2, j3, j4, j5, _⟩ := zcells R3.r4; have HP := Lib.hid (And.intro hd (And.intro hF (And.intro h1 h2))); have RR := Lib.hid R3; clear hd hF h1 h2 R3) | (go_at_call 22; refine (rremove_call nm _).mono ?_; rintro e w2 ⟨⟨r', A1, n1, c1, A2, n2, c2, h', k', d', f', rfl⟩, hf2⟩; have R4 := RR.out.frm hf2 (fun _ h => h.elim); obtain ⟨y0, y1, y2, y3, y4, y5, yz⟩ := zcells R4.r4; obtain ⟨x0, x1, x2, x3, x4, x5, xz⟩ := zcells R4.r6; have g0 := yz 0; have g1 := yz 1; have g2 := yz 2; have g3 := yz 3; have g4 := yz 4; have g5 := yz 5; have z0 := xz 0; have z1 := xz 1; have z2 := xz 2; have z3 := xz 3; have z4 := xz 4; have z5 := xz 5; have RR4 := Lib.hid R4; have HF2 := Lib.hid hf2; clear yz xz R4 hf2 i0 i1 i2 i3 j0 j1 j2 j3 j4 j5 RR) | go_values | go_skip | go_guarded | go_step | go_upon | dsimp only)
    exact does_end rfl HL.out HB.out (by rfl) HP.out.1 HP.out.2.1 HP.out.2.2.1 HP.out.2.2.2 HF2.out RR4.out
  · clear hc
    go_enter Try.func7, Try.ntmps7
    repeat' (first | (go_at_call 14; refine (opRename h3.out nm str HST.out).mono ?_; rintro e w1 ⟨rfl, fp', bx', hd, hF, h1, h2⟩; have R3 := (Rows3.new w x nm str k).frm hF HL.out; obtain ⟨i0, i1, i2, i3⟩ := acells R3.r5; obtain ⟨j0, j1, j2, j3, j4, j5, _⟩ := zcells R3.r4; have HP := Lib.hid (And.intro hd (And.intro hF (And.intro h1 h2))); have RR := Lib.hid R3; clear hd hF h1 h2 R3) | (go_at_call 23; refine (rrename_call nm str _).mono ?_; rintro e w2 ⟨⟨r', A1, n1, c1, A2, n2, c2, h', k', d', f', rfl⟩, hf2⟩; have R4 := RR.out.frm hf2 (fun _ h => h.elim); obtain ⟨y0, y1, y2, y3, y4, y5, yz⟩ := zcells R4.r4; obtain ⟨x0, x1, x2, x3, x4, x5, xz⟩ := zcells R4.r6; have g0 := yz 0; have g1 := yz 1; have g2 := yz 2; have g3 := yz 3; have g4 := yz 4; have g5 := yz 5; have z0 := xz 0; have z1 := xz 1; have z2 := xz 2; have z3 := xz 3; have z4 := xz 4; have z5 := xz 5; have RR4 := Lib.hid R4; have HF2 := Lib.hid hf2; clear yz xz R4 hf2 i0 i1 i2 i3 j0 j1 j2 j3 j4 j5 RR) | go_values | go_skip | go_guarded | go_step | go_upon | dsimp only)
    exact does_end rfl HL.out HB.out (by rfl) HP.out.1 HP.out.2.1 HP.out.2.2.1 HP.out.2.2.2 HF2.out RR4.out
  · clear hc
    go_enter Try.func7, Try.ntmps7
    repeat' (first | (go_at_call 13; refine (sync_call h3.out).mono ?_; rintro e w1 ⟨rfl, fp', bx', hd, hF, h1, h2⟩; have R3 := (Rows3.new w x nm str k).frm hF HL.out; obtain ⟨i0, i1, i2, i3⟩ := acells R3.r5; obtain ⟨j0, j1, j2, j3, j4, j5, _⟩ := zcells R3.r4; have HP := Lib.hid (And.intro hd (And.intro hF (And.intro h1 h2))); have RR := Lib.hid R3; clear hd hF h1 h2 R3) | (go_at_call 24; refine (rsync_call _).mono ?_; rintro e w2 ⟨⟨r', A1, n1, c1, A2, n2, c2, h', k', d', f', rfl⟩, hf2⟩; have R4 := RR.out.frm hf2 (fun _ h => h.elim); obtain ⟨y0, y1, y2, y3, y4, y5, yz⟩ := zcells R4.r4; obtain ⟨x0, x1, x2, x3, x4, x5, xz⟩ := zcells R4.r6; have g0 := yz 0; have g1 := yz 1; have g2 := yz 2; have g3 := yz 3; have g4 := yz 4; have g5 := yz 5; have z0 := xz 0; have z1 := xz 1; have z2 := xz 2; have z3 := xz 3; have z4 := xz 4; have z5 := xz 5; have RR4 := Lib.hid R4; have HF2 := Lib.hid hf2; clear yz xz R4 hf2 i0 i1 i2 i3 j0 j1 j2 j3 j4 j5 RR) | go_values | go_skip | go_guarded | go_step | go_upon | dsimp only)
    exact does_end rfl HL.out HB.out (by rfl) HP.out.1 HP.out.2.1 HP.out.2.2.1 HP.out.2.2.2 HF2.out RR4.out
  · clear hc
    go_enter Try.func7, Try.ntmps7
    repeat' (first | (go_at_call 8; refine (crash_call h3.out k HK.out HST.out (HC.out rfl)).mono ?_; rintro e w1 ⟨rfl, fp', bx', hd, hF, h1, h2⟩; have R3 := (Rows3.new w x nm str k).frm hF HL.out; obtain ⟨i0, i1, i2, i3⟩ := acells R3.r5; obtain ⟨j0, j1, j2, j3, j4, j5, _⟩ := zcells R3.r4; have HP := Lib.hid (And.intro hd (And.intro hF (And.intro h1 h2))); have RR := Lib.hid R3; clear hd hF h1 h2 R3) | (go_at_call 26; refine (rcrash_call k _).mono ?_; rintro e w2 ⟨⟨r', A1, n1, c1, A2, n2, c2, h', k', d', f', rfl⟩, hf2⟩; have R4 := RR.out.frm hf2 (fun _ h => h.elim); obtain ⟨y0, y1, y2, y3, y4, y5, yz⟩ := zcells R4.r4; obtain ⟨x0, x1, x2, x3, x4, x5, xz⟩ := zcells R4.r6; have g0 := yz 0; have g1 := yz 1; have g2 := yz 2; have g3 := yz 3; have g4 := yz 4; have g5 := yz 5; have z0 := xz 0; have z1 := xz 1; have z2 := xz 2; have z3 := xz 3; have z4 := xz 4; have z5 := xz 5; have RR4 := Lib.hid R4; have HF2 := Lib.hid hf2; clear yz xz R4 hf2 i0 i1 i2 i3 j0 j1 j2 j3 j4 j5 RR) | go_values | go_skip | go_guarded | go_step | go_upon | dsimp only)
    exact does_end rfl HL.out HB.out (by rfl) HP.out.1 HP.out.2.1 HP.out.2.2.1 HP.out.2.2.2 HF2.out RR4.out
  · clear hc
    go_enter Try.func7, Try.ntmps7
    repeat' (first | (go_at_call 17; refine (fuse_call h3.out k HK.out).mono ?_; rintro e w1 ⟨rfl, fp', bx', hd, hF, h1, h2⟩; have R3 := (Rows3.new w x nm str k).frm hF HL.out; obtain ⟨i0, i1, i2, i3⟩ := acells R3.r5; obtain ⟨j0, j1, j2, j3, j4, j5, _⟩ := zcells R3.r4; have HP := Lib.hid (And.intro hd (And.intro hF (And.intro h1 h2))); have RR := Lib.hid R3; clear hd hF h1 h2 R3) | (go_at_call 25; refine (rfuse_call k _).mono ?_; rintro e w2 ⟨⟨r', A1, n1, c1, A2, n2, c2, h', k', d', f', rfl⟩, hf2⟩; have R4 := RR.out.frm hf2 (fun _ h => h.elim); obtain ⟨y0, y1, y2, y3, y4, y5, yz⟩ := zcells R4.r4; obtain ⟨x0, x1, x2, x3, x4, x5, xz⟩ := zcells R4.r6; have g0 := yz 0; have g1 := yz 1; have g2 := yz 2; have g3 := yz 3; have g4 := yz 4; have g5 := yz 5; have z0 := xz 0; have z1 := xz 1; have z2 := xz 2; have z3 := xz 3; have z4 := xz 4; have z5 := xz 5; have RR4 := Lib.hid R4; have HF2 := Lib.hid hf2; clear yz xz R4 hf2 i0 i1 i2 i3 j0 j1 j2 j3 j4 j5 RR) | go_values | go_skip | go_guarded | go_step | go_upon | dsimp only)
    exact does_end rfl HL.out HB.out (by rfl) HP.out.1 HP.out.2.1 HP.out.2.2.1 HP.out.2.2.2 HF2.out RR4.out
end Go.Proofs.Ytlnelokpaccanaa
