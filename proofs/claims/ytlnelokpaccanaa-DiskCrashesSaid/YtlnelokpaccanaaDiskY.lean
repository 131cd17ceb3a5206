/- head. -/
import Derived.Test.YtlnelokpaccanaaDiskX
namespace Go.Proofs.Ytlnelokpaccanaa
open Go Go.RowKit Go.Tr
attribute [local go_sem] Oper.semAt_some
set_option linter.unusedVariables false

def FW (K : Nat → Prop) (w0 w : World) (L : List (Nat × DS)) : Prop := Farm K w L ∧ Frm (fun i => ¬ K i) w0 w
/-- More blocks to keep: any that were made by a call that changed nothing. -/
theorem Farm.keepNew {K : Nat → Prop} {w w' : World} {L : List (Nat × DS)} (h : Farm K w L) (hf : Frm Nil w w') : Farm (fun i => K i ∨ (w.heap.size ≤ i ∧ i < w'.heap.size)) w' L := by
  obtain ⟨F, h1, h2, h3, h4⟩ := h
  refine ⟨F, h1, fun x hx => ⟨(h2 x hx).1.frm hf (fun _ _ h => h) (fun _ _ h => h), fun i hi hk => ?_⟩, h3, fun i hi => ?_⟩
  · rcases hk with hk | hk
    · exact (h2 x hx).2 i hi hk
    · have := (h2 x hx).1.lt.1 _ hi; omega
  · rcases hi with hi | hi
    · exact Nat.lt_of_lt_of_le (h4 i hi) hf.size
    · exact hi.2

theorem FW.op {K : Nat → Prop} {w0 w : World} {L : List (Nat × DS)} (h : FW K w0 w L) (i : Nat) {b : Nat} {D D' : DS} (hi : L[i]? = some (b, D)) {f : FuncId} {args : Array Value} {E : Ending → Prop}
    (hop : ∀ fp bx, Disk w b D fp bx → Calls Try.prog f args w fun e w' => E e ∧ ∃ fp' bx', Disk w' b D' fp' bx' ∧ Frm (fun i => i ∈ fp) w w' ∧ (∀ i ∈ fp', i ∈ fp ∨ w.heap.size ≤ i) ∧ ∀ i, bx' i → bx i ∨ w.heap.size ≤ i) :
    Calls Try.prog f args w fun e w' => E e ∧ FW K w0 w' (L.set i (b, D')) := by
  refine (h.1.op i hi hop).mono ?_
  rintro e w' ⟨hE, hF, hf⟩
  exact ⟨hE, hF, h.2.tr hf⟩
theorem FW.frm {K : Nat → Prop} {w0 w w' : World} {L : List (Nat × DS)} (h : FW K w0 w L) (hf : Frm Nil w w') : FW K w0 w' L := ⟨h.1.frm hf, h.2.trn hf⟩
theorem FW.drew {K : Nat → Prop} {w0 w : World} {L : List (Nat × DS)} (h : FW K w0 w L) : FW K w0 w.drew L := h.frm (Frm.refl Nil w).drew
theorem FW.read {K : Nat → Prop} {w0 w : World} {L : List (Nat × DS)} (h : FW K w0 w L) (i : Nat) {b : Nat} {D : DS} (hi : L[i]? = some (b, D)) {f : FuncId} {args : Array Value} {E : Ending → Prop}
    (hop : ∀ fp bx, Disk w b D fp bx → Calls Try.prog f args w fun e w' => E e ∧ Frm Nil w w') : Calls Try.prog f args w fun e w' => E e ∧ FW K w0 w' L := by
  obtain ⟨fp, bx, hd⟩ := h.1.get i hi
  refine (hop fp bx hd).mono ?_
  rintro e w' ⟨hE, hf⟩
  exact ⟨hE, h.frm hf⟩
theorem FW.copy {K : Nat → Prop} {w0 w : World} {L : List (Nat × DS)} (h : FW K w0 w L) (i : Nat) {b : Nat} {D : DS} (hi : L[i]? = some (b, D)) (hst : D.steps.length ≤ 1000000000) :
    Calls Try.prog 9 #[ptr b] w fun e w' => ∃ b', e = .returned (ptr b') ∧ FW K w0 w' (L ++ [(b', D)]) := by
  refine (h.1.copy i hi hst).mono ?_
  rintro e w' ⟨b', rfl, hF, hf⟩
  exact ⟨b', rfl, hF, h.2.trn hf⟩
abbrev sA : ByteArray := ⟨#[97]⟩
abbrev sB : ByteArray := ⟨#[98]⟩
abbrev sC : ByteArray := ⟨#[99]⟩
abbrev sD : ByteArray := ⟨#[100]⟩
abbrev sXYZ : ByteArray := ⟨#[120, 121, 122]⟩
abbrev sUV : ByteArray := ⟨#[117, 118]⟩
abbrev sPQR : ByteArray := ⟨#[112, 113, 114]⟩
abbrev s7 : ByteArray := ⟨#[49, 50, 51, 52, 53, 54, 55]⟩
abbrev s6 : ByteArray := ⟨#[49, 50, 51, 52, 53, 54]⟩
def hd0 : DS := DS.new 10
def hd1 : DS := appD hd0 sA sXYZ
def hd2 : DS := syncD hd1
def hd3 : DS := appD hd2 sA sUV
def hd4 : DS := renameD hd3 sA sB
def hd5 : DS := crashD hd4 1
def ho1 : DS := fuseD hd5 2
def ho2 : DS := appD ho1 sA sPQR
def ho3 : DS := syncD ho2
def ho4 : DS := crashD ho3 1
def hd6 : DS := appD hd5 sC s7
def hd7 : DS := appD hd6 sC s6
def hd8 : DS := removeD hd7 sD
theorem i0 : Inv 0 hd0 := Inv.new 10
theorem i1 : Inv 1001 hd1 := i0.does 0 0 (by decide) (by decide)
theorem i2 : Inv 1001 hd2 := i1.sync
theorem i3 : Inv 2002 hd3 := i2.does 0 0 (by decide) (by decide)
theorem i4 : Inv 3003 hd4 := i3.does 3 0 (nm := sA) (str := sB) (by decide) (by decide)
theorem i5 : Inv 3003 hd5 := i4.crash 1
theorem j1 : Inv 3003 ho1 := i5.fuse 2
theorem j2 : Inv 4004 ho2 := j1.does 0 0 (by decide) (by decide)
theorem j3 : Inv 4004 ho3 := j2.sync
theorem j4 : Inv 4004 ho4 := j3.crash 1
theorem i6 : Inv 4004 hd6 := i5.does 0 0 (by decide) (by decide)
theorem i7 : Inv 5005 hd7 := i6.does 0 0 (by decide) (by decide)
theorem i8 : Inv 6006 hd8 := i7.does 2 0 (nm := sD) (str := sD) (by decide) (by decide)
theorem r1 : appR hd0 sA sXYZ = 0 := by kernel_rfl
theorem r2 : hd1.steps.flatten.length = 4 := by kernel_rfl
theorem r3 : renameR hd3 sA sB = 0 := by kernel_rfl
theorem r4 : hd4.steps.flatten.length = 3 := by kernel_rfl
theorem r5 : keyB hd5.seen = [[97]] := by kernel_rfl
theorem r6 : readV hd5 sA = ⟨#[120, 121, 122, 117]⟩ := by kernel_rfl
theorem r7 : readE hd5 sA = 0 := by kernel_rfl
theorem q1 : fuseE hd5 2 = 0 := by kernel_rfl
theorem q2 : appR ho1 sA sPQR = 70 := by kernel_rfl
theorem q3 : syncE ho2 = 70 := by kernel_rfl
theorem q4 : ho3.down = true := by kernel_rfl
theorem q5 : readV ho3 sA = ⟨#[120, 121, 122, 117, 112, 113]⟩ := by kernel_rfl
theorem q6 : readV ho4 sA = ⟨#[120, 121, 122, 117, 112]⟩ := by kernel_rfl
theorem q7 : ho4.down = false := by kernel_rfl
theorem r8 : appR hd5 sC s7 = 6 := by kernel_rfl
theorem r9 : appR hd6 sC s6 = 0 := by kernel_rfl
theorem r10 : removeR hd7 sD = 7 := by kernel_rfl
theorem r11 : usedD hd8 = 10 := by kernel_rfl
section
variable {K : Nat → Prop} {w0 w : World} {L : List (Nat × DS)}
theorem FW.append (h : FW K w0 w L) (i : Nat) {b : Nat} {D : DS} (hi : L[i]? = some (b, D)) {A : Nat} (hI : Inv A D) (hA : A ≤ 100000000) {nm str : ByteArray} (hn : nm.size ≤ 1000) (hs : str.size ≤ 1000) :
    Calls Try.prog 12 #[ptr b, .string nm, .string str] w fun e w' => e = .returned (.int .i64 (appR D nm str)) ∧ FW K w0 w' (L.set i (b, appD D nm str)) :=
  h.op i hi (E := fun e => e = .returned (.int .i64 (appR D nm str))) (fun fp bx hd => opAppend hd nm str (by omega) (Nat.le_trans hI.steps (by omega)) (hI.fitsA hn hs hA))
theorem FW.remove (h : FW K w0 w L) (i : Nat) {b : Nat} {D : DS} (hi : L[i]? = some (b, D)) {A : Nat} (hI : Inv A D) (hA : A ≤ 100000000) (nm : ByteArray) :
    Calls Try.prog 19 #[ptr b, .string nm] w fun e w' => e = .returned (.int .i64 (removeR D nm)) ∧ FW K w0 w' (L.set i (b, removeD D nm)) :=
  h.op i hi (E := fun e => e = .returned (.int .i64 (removeR D nm))) (fun fp bx hd => opRemove hd nm (Nat.le_trans hI.steps (by omega)))
theorem FW.rename (h : FW K w0 w L) (i : Nat) {b : Nat} {D : DS} (hi : L[i]? = some (b, D)) {A : Nat} (hI : Inv A D) (hA : A ≤ 100000000) (nm n2 : ByteArray) :
    Calls Try.prog 14 #[ptr b, .string nm, .string n2] w fun e w' => e = .returned (.int .i64 (renameR D nm n2)) ∧ FW K w0 w' (L.set i (b, renameD D nm n2)) :=
  h.op i hi (E := fun e => e = .returned (.int .i64 (renameR D nm n2))) (fun fp bx hd => opRename hd nm n2 (Nat.le_trans hI.steps (by omega)))
theorem FW.sync (h : FW K w0 w L) (i : Nat) {b : Nat} {D : DS} (hi : L[i]? = some (b, D)) :
    Calls Try.prog 13 #[ptr b] w fun e w' => e = .returned (.int .i64 (syncE D)) ∧ FW K w0 w' (L.set i (b, syncD D)) :=
  h.op i hi (E := fun e => e = .returned (.int .i64 (syncE D))) (fun fp bx hd => sync_call hd)
theorem FW.fuse (h : FW K w0 w L) (i : Nat) {b : Nat} {D : DS} (hi : L[i]? = some (b, D)) (k : Int) (hk : k ≤ 9223372036854775807) :
    Calls Try.prog 17 #[ptr b, .int .i64 k] w fun e w' => e = .returned (.int .i64 (fuseE D k)) ∧ FW K w0 w' (L.set i (b, fuseD D k)) :=
  h.op i hi (E := fun e => e = .returned (.int .i64 (fuseE D k))) (fun fp bx hd => fuse_call hd k hk)
theorem FW.crash (h : FW K w0 w L) (i : Nat) {b : Nat} {D : DS} (hi : L[i]? = some (b, D)) {A : Nat} (hI : Inv A D) (hA : A ≤ 100000000) (k : Int) (hk : k ≤ 9223372036854775807) :
    Calls Try.prog 8 #[ptr b, .int .i64 k] w fun e w' => e = .returned (.int .i64 (crashE k)) ∧ FW K w0 w' (L.set i (b, crashD D k)) :=
  h.op i hi (E := fun e => e = .returned (.int .i64 (crashE k))) (fun fp bx hd => crash_call hd k hk (Nat.le_trans hI.steps (by omega)) (hI.fitsC hA))
theorem FW.units (h : FW K w0 w L) (i : Nat) {b : Nat} {D : DS} (hi : L[i]? = some (b, D)) {A : Nat} (hI : Inv A D) (hA : A ≤ 100000000) :
    Calls Try.prog 10 #[ptr b] w fun e w' => e = .returned (.int .i64 D.steps.flatten.length) ∧ FW K w0 w' L :=
  h.read i hi (E := fun e => e = .returned (.int .i64 D.steps.flatten.length)) (fun fp bx hd => units_call hd (by have := hI.count; omega))
theorem FW.rd (h : FW K w0 w L) (i : Nat) {b : Nat} {D : DS} (hi : L[i]? = some (b, D)) (nm : ByteArray) :
    Calls Try.prog 16 #[ptr b, .string nm] w fun e w' => e = .returned (.tuple #[.string (readV D nm), .int .i64 (readE D nm)]) ∧ FW K w0 w' L :=
  h.read i hi (E := fun e => e = .returned (.tuple #[.string (readV D nm), .int .i64 (readE D nm)])) (fun fp bx hd => read_call hd nm)
theorem FW.down (h : FW K w0 w L) (i : Nat) {b : Nat} {D : DS} (hi : L[i]? = some (b, D)) :
    Calls Try.prog 18 #[ptr b] w fun e w' => e = .returned (.bool D.down) ∧ FW K w0 w' L :=
  h.read i hi (E := fun e => e = .returned (.bool D.down)) (fun fp bx hd => (down_call hd).mono (by rintro e w' ⟨h1, rfl⟩; exact ⟨h1, Frm.refl _ _⟩))
theorem FW.used (h : FW K w0 w L) (i : Nat) {b : Nat} {D : DS} (hi : L[i]? = some (b, D)) :
    Calls Try.prog 20 #[ptr b] w fun e w' => e = .returned (.int .i64 (usedD D)) ∧ FW K w0 w' L :=
  h.read i hi (E := fun e => e = .returned (.int .i64 (usedD D))) (fun fp bx hd => used_call hd)
end
theorem t1 {K : Nat → Prop} {w0 w : World} {b o : Nat} (h : FW K w0 w [(b, hd0)]) : Calls Try.prog 12 #[ptr b, .string sA, .string sXYZ] w fun e w' => e = .returned (.int .i64 0) ∧ FW K w0 w' [(b, hd1)] := by
  have h' := h.append 0 rfl i0 (by decide) (nm := sA) (str := sXYZ) (by decide) (by decide)
  rw [r1] at h'
  exact h'
theorem t2 {K : Nat → Prop} {w0 w : World} {b o : Nat} (h : FW K w0 w [(b, hd1)]) : Calls Try.prog 10 #[ptr b] w fun e w' => e = .returned (.int .i64 4) ∧ FW K w0 w' [(b, hd1)] := by
  have h' := h.units 0 rfl i1 (by decide)
  rw [r2] at h'
  exact h'
theorem t3 {K : Nat → Prop} {w0 w : World} {b o : Nat} (h : FW K w0 w [(b, hd1)]) : Calls Try.prog 13 #[ptr b] w fun e w' => e = .returned (.int .i64 (syncE hd1)) ∧ FW K w0 w' [(b, hd2)] := by
  have h' := h.sync 0 rfl
  skip
  exact h'
theorem t4 {K : Nat → Prop} {w0 w : World} {b o : Nat} (h : FW K w0 w [(b, hd2)]) : Calls Try.prog 12 #[ptr b, .string sA, .string sUV] w fun e w' => e = .returned (.int .i64 (appR hd2 sA sUV)) ∧ FW K w0 w' [(b, hd3)] := by
  have h' := h.append 0 rfl i2 (by decide) (nm := sA) (str := sUV) (by decide) (by decide)
  skip
  exact h'
theorem t5 {K : Nat → Prop} {w0 w : World} {b o : Nat} (h : FW K w0 w [(b, hd3)]) : Calls Try.prog 14 #[ptr b, .string sA, .string sB] w fun e w' => e = .returned (.int .i64 0) ∧ FW K w0 w' [(b, hd4)] := by
  have h' := h.rename 0 rfl i3 (by decide) sA sB
  rw [r3] at h'
  exact h'
theorem t6 {K : Nat → Prop} {w0 w : World} {b o : Nat} (h : FW K w0 w [(b, hd4)]) : Calls Try.prog 10 #[ptr b] w fun e w' => e = .returned (.int .i64 3) ∧ FW K w0 w' [(b, hd4)] := by
  have h' := h.units 0 rfl i4 (by decide)
  rw [r4] at h'
  exact h'
theorem t7 {K : Nat → Prop} {w0 w : World} {b o : Nat} (h : FW K w0 w [(b, hd4)]) : Calls Try.prog 8 #[ptr b, .int .i64 1] w fun e w' => e = .returned (.int .i64 0) ∧ FW K w0 w' [(b, hd5)] := by
  have h' := h.crash 0 rfl i4 (by decide) 1 (by decide)
  rw [show crashE 1 = 0 from rfl] at h'
  exact h'
theorem t9 {K : Nat → Prop} {w0 w : World} {b o : Nat} (h : FW K w0 w [(b, hd5)]) : Calls Try.prog 16 #[ptr b, .string sA] w fun e w' => e = .returned (.tuple #[.string ⟨#[120, 121, 122, 117]⟩, .int .i64 0]) ∧ FW K w0 w' [(b, hd5)] := by
  have h' := h.rd 0 rfl sA
  rw [r6, r7] at h'
  exact h'
theorem u1 {K : Nat → Prop} {w0 w : World} {b o : Nat} (h : FW K w0 w [(b, hd5), (o, hd5)]) : Calls Try.prog 17 #[ptr o, .int .i64 2] w fun e w' => e = .returned (.int .i64 0) ∧ FW K w0 w' [(b, hd5), (o, ho1)] := by
  have h' := h.fuse 1 rfl 2 (by decide)
  rw [q1] at h'
  exact h'
theorem u2 {K : Nat → Prop} {w0 w : World} {b o : Nat} (h : FW K w0 w [(b, hd5), (o, ho1)]) : Calls Try.prog 12 #[ptr o, .string sA, .string sPQR] w fun e w' => e = .returned (.int .i64 70) ∧ FW K w0 w' [(b, hd5), (o, ho2)] := by
  have h' := h.append 1 rfl j1 (by decide) (nm := sA) (str := sPQR) (by decide) (by decide)
  rw [q2] at h'
  exact h'
theorem u3 {K : Nat → Prop} {w0 w : World} {b o : Nat} (h : FW K w0 w [(b, hd5), (o, ho2)]) : Calls Try.prog 13 #[ptr o] w fun e w' => e = .returned (.int .i64 70) ∧ FW K w0 w' [(b, hd5), (o, ho3)] := by
  have h' := h.sync 1 rfl
  rw [q3] at h'
  exact h'
theorem u4 {K : Nat → Prop} {w0 w : World} {b o : Nat} (h : FW K w0 w [(b, hd5), (o, ho3)]) : Calls Try.prog 18 #[ptr o] w fun e w' => e = .returned (.bool true) ∧ FW K w0 w' [(b, hd5), (o, ho3)] := by
  have h' := h.down 1 rfl
  rw [q4] at h'
  exact h'
theorem u5 {K : Nat → Prop} {w0 w : World} {b o : Nat} (h : FW K w0 w [(b, hd5), (o, ho3)]) : Calls Try.prog 16 #[ptr o, .string sA] w fun e w' => e = .returned (.tuple #[.string ⟨#[120, 121, 122, 117, 112, 113]⟩, .int .i64 (readE ho3 sA)]) ∧ FW K w0 w' [(b, hd5), (o, ho3)] := by
  have h' := h.rd 1 rfl sA
  rw [q5] at h'
  exact h'
theorem u6 {K : Nat → Prop} {w0 w : World} {b o : Nat} (h : FW K w0 w [(b, hd5), (o, ho3)]) : Calls Try.prog 8 #[ptr o, .int .i64 1] w fun e w' => e = .returned (.int .i64 (crashE 1)) ∧ FW K w0 w' [(b, hd5), (o, ho4)] := by
  have h' := h.crash 1 rfl j3 (by decide) 1 (by decide)
  skip
  exact h'
theorem u7 {K : Nat → Prop} {w0 w : World} {b o : Nat} (h : FW K w0 w [(b, hd5), (o, ho4)]) : Calls Try.prog 16 #[ptr o, .string sA] w fun e w' => e = .returned (.tuple #[.string ⟨#[120, 121, 122, 117, 112]⟩, .int .i64 (readE ho4 sA)]) ∧ FW K w0 w' [(b, hd5), (o, ho4)] := by
  have h' := h.rd 1 rfl sA
  rw [q6] at h'
  exact h'
theorem u8 {K : Nat → Prop} {w0 w : World} {b o : Nat} (h : FW K w0 w [(b, hd5), (o, ho4)]) : Calls Try.prog 12 #[ptr b, .string sC, .string s7] w fun e w' => e = .returned (.int .i64 6) ∧ FW K w0 w' [(b, hd6), (o, ho4)] := by
  have h' := h.append 0 rfl i5 (by decide) (nm := sC) (str := s7) (by decide) (by decide)
  rw [r8] at h'
  exact h'
theorem u9 {K : Nat → Prop} {w0 w : World} {b o : Nat} (h : FW K w0 w [(b, hd6), (o, ho4)]) : Calls Try.prog 12 #[ptr b, .string sC, .string s6] w fun e w' => e = .returned (.int .i64 0) ∧ FW K w0 w' [(b, hd7), (o, ho4)] := by
  have h' := h.append 0 rfl i6 (by decide) (nm := sC) (str := s6) (by decide) (by decide)
  rw [r9] at h'
  exact h'
theorem u10 {K : Nat → Prop} {w0 w : World} {b o : Nat} (h : FW K w0 w [(b, hd7), (o, ho4)]) : Calls Try.prog 19 #[ptr b, .string sD] w fun e w' => e = .returned (.int .i64 7) ∧ FW K w0 w' [(b, hd8), (o, ho4)] := by
  have h' := h.remove 0 rfl i7 (by decide) sD
  rw [r10] at h'
  exact h'
theorem u11 {K : Nat → Prop} {w0 w : World} {b o : Nat} (h : FW K w0 w [(b, hd8), (o, ho4)]) : Calls Try.prog 20 #[ptr b] w fun e w' => e = .returned (.int .i64 10) ∧ FW K w0 w' [(b, hd8), (o, ho4)] := by
  have h' := h.used 0 rfl
  rw [r11] at h'
  exact h'
theorem u12 {K : Nat → Prop} {w0 w : World} {b o : Nat} (h : FW K w0 w [(b, hd8), (o, ho4)]) : Calls Try.prog 18 #[ptr o] w fun e w' => e = .returned (.bool false) ∧ FW K w0 w' [(b, hd8), (o, ho4)] := by
  have h' := h.down 1 rfl
  rw [q7] at h'
  exact h'
theorem t8 {K : Nat → Prop} {w0 w : World} {b : Nat} (h : FW K w0 w [(b, hd5)]) : Calls Try.prog 15 #[ptr b] w fun e w' => ∃ g c, ∃ K' : Nat → Prop, e = .returned (.slice (some ⟨g, 0, none⟩) 1 c) ∧ (w'.cell? ⟨g, 0, none⟩ = some (.string sA) ∧ K' g ∧ g < w'.heap.size) ∧ FW K' w' w' [(b, hd5)] ∧ (∀ i, K i → K' i) ∧ Frm (fun i => ¬ K i) w0 w' := by
  obtain ⟨fp, bx, hd⟩ := h.1.get 0 rfl
  have hl : listD hd5 = [[97]] := by
    unfold listD
    rw [r5]
    simp
  refine (list_call hd (fun p hp => Nat.le_trans (i5.bd.1 p hp).1 (by decide)) (Nat.le_trans i5.bd.2 (by decide))).mono ?_
  rintro e w' ⟨A, c, rfl, hown, hf⟩
  rw [hl] at hown ⊢
  obtain ⟨g, rfl, hc⟩ := name_at hown (Frm.refl Nil w') (fun _ _ h => h) 0 (by simp)
  have h1 := hown.lt g rfl
  exact ⟨g, c, fun i => K i ∨ (w.heap.size ≤ i ∧ i < w'.heap.size), rfl, ⟨hc, .inr ⟨h1.1, h1.2⟩, h1.2⟩, ⟨h.1.keepNew hf, Frm.refl _ _⟩, fun i hi => .inl hi, h.2.trn hf⟩
theorem t10 {K : Nat → Prop} {w0 w : World} {b : Nat} (h : FW K w0 w [(b, hd5)]) : Calls Try.prog 9 #[ptr b] w fun e w' => ∃ o, e = .returned (ptr o) ∧ FW K w0 w' [(b, hd5), (o, hd5)] :=
  h.copy 0 rfl (Nat.le_trans i5.steps (by decide))
set_option maxHeartbeats 4000000 in
set_option maxRecDepth 100000 in
theorem head_call (w : World) : Calls Try.prog 6 #[] w fun e w' => e = .returned (.bool true) ∧ Frm Nil w w' := by
  go_enter Try.func6, Try.ntmps6
  repeat' (first | (go_at_call 4; refine (new_call w 10 (by decide) (by decide)).mono ?_; rintro e w1 ⟨b, fp, rfl, hd, hf, hn⟩; have h0 : FW (fun i => i < w.heap.size) w w1 [(b, hd0)] := ⟨Farm.first (fun _ h => h) hd hn hf, hf.nil⟩; have H0 := Lib.hid h0; clear h0 hd hn hf) | (go_at_call 12; with_reducible refine (t1 (o := 0) H0.out).mono ?_; rintro e w2 ⟨rfl, h1⟩; have H1 := Lib.hid h1; clear h1 H0) | (go_at_call 10; with_reducible refine (t2 (o := 0) H1.out).mono ?_; rintro e w3 ⟨rfl, h2⟩; have H2 := Lib.hid h2; clear h2 H1) | (go_at_call 13; with_reducible refine (t3 (o := 0) H2.out).mono ?_; rintro e w4 ⟨rfl, h3⟩; have H3 := Lib.hid h3; clear h3 H2) | (go_at_call 12; with_reducible refine (t4 (o := 0) H3.out).mono ?_; rintro e w5 ⟨rfl, h4⟩; have H4 := Lib.hid h4; clear h4 H3) | (go_at_call 14; with_reducible refine (t5 (o := 0) H4.out).mono ?_; rintro e w6 ⟨rfl, h5⟩; have H5 := Lib.hid h5; clear h5 H4) | (go_at_call 10; with_reducible refine (t6 (o := 0) H5.out).mono ?_; rintro e w7 ⟨rfl, h6⟩; have H6 := Lib.hid h6; clear h6 H5) | (go_at_call 8; with_reducible refine (t7 (o := 0) H6.out).mono ?_; rintro e w8 ⟨rfl, h7⟩; have H7 := Lib.hid h7; clear h7 H6) | (go_at_call 15; with_reducible refine (t8 H7.out).mono ?_; rintro e wl ⟨g, c, K', rfl, hc, h8, hk, hfl⟩; have HB := Lib.hid (And.intro hk hfl); have HC := Lib.hid hc; have H8 := Lib.hid h8; clear h8 H7 hc hk hfl) | (go_at_call 16; with_reducible refine (t9 (o := 0) H8.out).mono ?_; rintro e w10 ⟨rfl, h9⟩; have H9 := Lib.hid h9; clear h9 H8) | (go_at_call 9; with_reducible refine (t10 H9.out).mono ?_; rintro e w11 ⟨o, rfl, h10⟩; have H10 := Lib.hid h10; clear h10 H9) | (go_at_call 17; with_reducible refine (u1 H10.out).mono ?_; rintro e w12 ⟨rfl, h11⟩; have H11 := Lib.hid h11; clear h11 H10) | (go_at_call 12; with_reducible refine (u2 H11.out).mono ?_; rintro e w13 ⟨rfl, h12⟩; have H12 := Lib.hid h12; clear h12 H11) | (go_at_call 13; with_reducible refine (u3 H12.out).mono ?_; rintro e w14 ⟨rfl, h13⟩; have H13 := Lib.hid h13; clear h13 H12) | (go_at_call 18; with_reducible refine (u4 H13.out).mono ?_; rintro e w15 ⟨rfl, h14⟩; have H14 := Lib.hid h14; clear h14 H13) | (go_at_call 16; with_reducible refine (u5 H14.out).mono ?_; rintro e w16 ⟨rfl, h15⟩; have H15 := Lib.hid h15; clear h15 H14) | (go_at_call 8; with_reducible refine (u6 H15.out).mono ?_; rintro e w17 ⟨rfl, h16⟩; have H16 := Lib.hid h16; clear h16 H15) | (go_at_call 16; with_reducible refine (u7 H16.out).mono ?_; rintro e w18 ⟨rfl, h17⟩; have H17 := Lib.hid h17; clear h17 H16) | (go_at_call 12; with_reducible refine (u8 H17.out).mono ?_; rintro e w19 ⟨rfl, h18⟩; have H18 := Lib.hid h18; clear h18 H17) | (go_at_call 12; with_reducible refine (u9 H18.out).mono ?_; rintro e w20 ⟨rfl, h19⟩; have H19 := Lib.hid h19; clear h19 H18) | (go_at_call 19; (with_reducible refine (u10 H19.out).mono ?_); rintro e w21 ⟨rfl, h20⟩; have H20 := Lib.hid h20; clear h20 H19; have hcg := (H20.out.2.cell (p := ⟨g, 0, none⟩) HC.out.2.2 (fun hn => hn HC.out.2.1)).trans HC.out.1) | (go_at_call 20; with_reducible refine (u11 H20.out).mono ?_; rintro e w22 ⟨rfl, h21⟩; have H21 := Lib.hid h21; clear h21 H20) | (go_at_call 18; with_reducible refine (u12 H21.out).mono ?_; rintro e w23 ⟨rfl, h22⟩; have H22 := Lib.hid h22; clear h22 H21) | go_values | go_skip | go_guarded | go_step | go_upon | dsimp only)
  go_ret
  refine ⟨rfl, (HB.out.2.tr ?_).mono (fun i hi hn => hn hi)⟩
  exact H22.out.2.mono (fun i _ hn hk => hn (HB.out.1 i hk))
end Go.Proofs.Ytlnelokpaccanaa
