/- Plain: how great a disk may become; what acts of four kinds leave. -/
import Derived.Test.YtlnelokpaccanaaDiskW
namespace Go.Proofs.Ytlnelokpaccanaa
open Go Go.Tr
set_option linter.unusedVariables false

def UOk : U → Prop
  | .create n => n.size ≤ 1000
  | .byte n c => n.size ≤ 1000 ∧ c.size ≤ 1
  | .remove _ => True
  | .rename _ b => b.size ≤ 1000
def Bd (B : Nat) (L : Files) : Prop := ∀ p ∈ L, p.1.size ≤ 1000 ∧ p.2.size ≤ B
theorem mem_mput' {k v : ByteArray} : ∀ {L : Files} {p : ByteArray × ByteArray}, p ∈ mput beqB k v L → p = (k, v) ∨ p ∈ L
  | [], p, h => by simp [mput] at h; exact .inl h
  | q :: L, p, h => by
    simp only [mput] at h
    split at h
    · rcases List.mem_cons.1 h with h | h
      · exact .inl h
      · exact .inr (List.mem_cons_of_mem _ h)
    · rcases List.mem_cons.1 h with h | h
      · exact .inr (by rw [h]; simp)
      · rcases mem_mput' h with h | h
        · exact .inl h
        · exact .inr (List.mem_cons_of_mem _ h)
theorem length_mput' {k v : ByteArray} : ∀ {L : Files}, (mput beqB k v L).length ≤ L.length + 1
  | [] => by simp [mput]
  | q :: L => by
    simp only [mput]
    split
    · simp
    · have := length_mput' (k := k) (v := v) (L := L)
      simp only [List.length_cons]
      omega
theorem mem_mget' {k v : ByteArray} : ∀ {L : Files}, mget beqB k L = some v → ∃ n, (n, v) ∈ L
  | [], h => by simp [mget] at h
  | q :: L, h => by
    simp only [mget] at h
    split at h
    · injection h with h
      exact ⟨q.1, by rw [← h]; simp⟩
    · obtain ⟨n, hn⟩ := mem_mget' h
      exact ⟨n, List.mem_cons_of_mem _ hn⟩
theorem mget_size {B : Nat} {L : Files} (h : Bd B L) (k : ByteArray) : ((mget beqB k L).getD ⟨#[]⟩).size ≤ B := by
  cases hg : mget beqB k L with
  | none => simp [ByteArray.size]
  | some v =>
    obtain ⟨n, hn⟩ := mem_mget' hg
    exact (h _ hn).2
theorem Bd.put {B : Nat} {L : Files} (h : Bd B L) {k v : ByteArray} (hk : k.size ≤ 1000) (hv : v.size ≤ B) : Bd B (mput beqB k v L) := fun p hp => by
  rcases mem_mput' hp with rfl | hp
  · exact ⟨hk, hv⟩
  · exact h p hp
theorem Bd.mono {B B' : Nat} {L : Files} (h : Bd B L) (hB : B ≤ B') : Bd B' L := fun p hp => ⟨(h p hp).1, Nat.le_trans (h p hp).2 hB⟩
theorem Bd.apply {B : Nat} {L : Files} (h : Bd B L) {u : U} (hu : UOk u) : Bd (B + 1) (u.apply L) ∧ (u.apply L).length ≤ L.length + 1 := by
  cases u with
  | create n => exact ⟨(h.mono (Nat.le_succ B)).put hu (by simp [ByteArray.size]), length_mput'⟩
  | byte n c =>
    refine ⟨(h.mono (Nat.le_succ B)).put hu.1 ?_, length_mput'⟩
    rw [ByteArray.size_append]
    have := mget_size h n
    have := hu.2
    omega
  | remove n => exact ⟨fun p hp => (h.mono (Nat.le_succ B)) p (mdel_sub.subset hp), Nat.le_trans mdel_sub.length_le (Nat.le_succ _)⟩
  | rename a b =>
    have h1 : Bd B (mdel beqB a L) := fun p hp => h p (mdel_sub.subset hp)
    refine ⟨(h1.mono (Nat.le_succ B)).put hu (Nat.le_trans (mget_size h a) (Nat.le_succ B)), Nat.le_trans length_mput' ?_⟩
    have := (mdel_sub (eq := beqB) (k := a) (L := L)).length_le
    omega
theorem Bd.all {us : List U} : ∀ {B : Nat} {L : Files}, Bd B L → (∀ u ∈ us, UOk u) → Bd (B + us.length) (applyAll us L) ∧ (applyAll us L).length ≤ L.length + us.length := by
  induction us with
  | nil => intro B L h _; exact ⟨h, Nat.le_refl _⟩
  | cons u us ih =>
    intro B L h hu
    obtain ⟨h1, h2⟩ := h.apply (hu u (by simp))
    obtain ⟨h3, h4⟩ := ih h1 (fun v hv => hu v (List.mem_cons_of_mem _ hv))
    simp only [List.length_cons]
    refine ⟨h3.mono (by omega), ?_⟩
    show (applyAll us (u.apply L)).length ≤ _
    omega
theorem fits_of {B : Nat} {us : List U} {L : Files} (h : Bd B L) (hu : ∀ u ∈ us, UOk u) (hB : B + us.length ≤ 1000000000) : Fits us L := fun k n c hk => by
  have h1 := (h.all (us := us.take k) (fun u hu' => hu u (List.mem_of_mem_take hu'))).1
  have h2 := mget_size h1 n
  have h3 : (us.take k).length ≤ us.length := List.length_take_le' _ _
  omega
theorem bytesU_ok {nm str : ByteArray} (hn : nm.size ≤ 1000) : ∀ u ∈ bytesU nm str, UOk u := fun u hu => by
  unfold bytesU at hu
  obtain ⟨k, _, rfl⟩ := List.mem_map.1 hu
  refine ⟨hn, ?_⟩
  rw [ByteArray.size_extract]
  omega
theorem appU_ok {is : Bool} {nm str : ByteArray} (hn : nm.size ≤ 1000) : ∀ u ∈ appU is nm str, UOk u := fun u hu => by
  unfold appU at hu
  rcases List.mem_append.1 hu with h | h
  · cases is with
    | true => simp at h
    | false => simp at h; subst h; exact hn
  · exact bytesU_ok hn u h
theorem appU_len (is : Bool) (nm str : ByteArray) : (appU is nm str).length ≤ str.size + 1 := by
  unfold appU
  cases is <;> simp [bytesU_len]

/-- How great a disk may be; and that it is as its units say. -/
structure Inv (A : Nat) (D : DS) : Prop where
  files : Bd (A - D.steps.flatten.length) D.syn
  count : D.syn.length + D.steps.flatten.length ≤ A
  steps : D.steps.length ≤ A
  units : ∀ u ∈ D.steps.flatten, UOk u
  seen : D.seen = applyAll D.steps.flatten D.syn
theorem Inv.mono {A A' : Nat} {D : DS} (h : Inv A D) (hA : A ≤ A') : Inv A' D :=
  ⟨h.files.mono (by omega), Nat.le_trans h.count hA, Nat.le_trans h.steps hA, h.units, h.seen⟩
theorem Inv.bd {A : Nat} {D : DS} (h : Inv A D) : Bd A D.seen ∧ D.seen.length ≤ A := by
  obtain ⟨h1, h2⟩ := h.files.all h.units
  rw [← h.seen] at h1 h2
  have := h.count
  exact ⟨h1.mono (by omega), by omega⟩
theorem applyAll_append (us vs : List U) (L : Files) : applyAll (us ++ vs) L = applyAll vs (applyAll us L) := List.foldl_append
theorem burnD_eqs (D : DS) (u : Int) : (burnD D u).syn = D.syn ∧ (burnD D u).steps = D.steps ∧ (burnD D u).seen = D.seen ∧ (burnD D u).room = D.room := by unfold burnD; cases D.fuse <;> exact ⟨rfl, rfl, rfl, rfl⟩
theorem stepN_sub (D : DS) (us : List U) : (∀ u ∈ stepN D us, u ∈ us) ∧ (stepN D us).length ≤ us.length := ⟨fun u hu => List.mem_of_mem_take hu, List.length_take_le' _ _⟩
theorem Inv.doing {A : Nat} {D : DS} (h : Inv A D) {us : List U} (hu : ∀ u ∈ us, UOk u) (hl : us.length ≤ 1001) : Inv (A + 1001) (doD D us) := by
  obtain ⟨h1, h2⟩ := stepN_sub D us
  have e1 : (doD D us).steps.flatten = D.steps.flatten ++ stepN D us := by simp [doD]
  have e2 : (doD D us).syn = D.syn := (burnD_eqs D us.length).1
  have e3 : (doD D us).seen = applyAll (stepN D us) D.seen := rfl
  have e4 : (doD D us).steps = D.steps ++ [stepN D us] := rfl
  have := h.count
  have := h.steps
  refine ⟨?_, ?_, ?_, fun u hu' => ?_, ?_⟩
  · rw [e1, e2, List.length_append]
    exact h.files.mono (by omega)
  · rw [e1, e2, List.length_append]
    omega
  · rw [e4, List.length_append, List.length_singleton]
    omega
  · rw [e1] at hu'
    rcases List.mem_append.1 hu' with h' | h'
    · exact h.units u h'
    · exact hu u (h1 u h')
  · rw [e1, e2, e3, applyAll_append, h.seen]
theorem Inv.ofNone {A : Nat} {D D' : DS} (h : Inv A D) (h1 : D'.syn = D.syn) (h2 : D'.steps = D.steps) (h3 : D'.seen = D.seen) : Inv A D' :=
  ⟨by rw [h1, h2]; exact h.files, by rw [h1, h2]; exact h.count, by rw [h2]; exact h.steps, by rw [h2]; exact h.units, by rw [h1, h2, h3]; exact h.seen⟩
theorem Inv.flat {A : Nat} {D' : DS} (hb : Bd A D'.syn) (hc : D'.syn.length ≤ A) (hs : D'.steps = []) (he : D'.seen = D'.syn) : Inv A D' :=
  ⟨by rw [hs]; exact hb, by rw [hs]; simpa using hc, by rw [hs]; simp, by rw [hs]; simp, by rw [hs, he]; rfl⟩
theorem Inv.sync {A : Nat} {D : DS} (h : Inv A D) : Inv A (syncD D) := by
  unfold syncD
  split
  · exact h
  · split
    · exact h.ofNone (burnD_eqs D 1).1 (burnD_eqs D 1).2.1 (burnD_eqs D 1).2.2.1
    · exact Inv.flat h.bd.1 h.bd.2 rfl (burnD_eqs D 1).2.2.1
theorem Inv.crash {A : Nat} {D : DS} (h : Inv A D) (k : Int) : Inv A (crashD D k) := by
  unfold crashD
  split
  · exact h
  · have h1 := h.files.all (us := D.steps.flatten.take k.toNat) (fun u hu => h.units u (List.mem_of_mem_take hu))
    have h2 : (D.steps.flatten.take k.toNat).length ≤ D.steps.flatten.length := List.length_take_le' _ _
    have := h.count
    exact Inv.flat (h1.1.mono (by omega)) (Nat.le_trans h1.2 (by omega)) rfl rfl
theorem Inv.fuse {A : Nat} {D : DS} (h : Inv A D) (k : Int) : Inv A (fuseD D k) := by
  unfold fuseD
  split
  · exact h
  · split
    · exact h
    · exact h.ofNone rfl rfl rfl
theorem Inv.does {A : Nat} {D : DS} (h : Inv A D) (c : Nat) {nm str : ByteArray} (k : Int) (hn : nm.size ≤ 1000) (hs : str.size ≤ 1000) : Inv (A + 1001) (doesD D c nm str k) := by
  have h0 := h.mono (Nat.le_add_right A 1001)
  have happ : Inv (A + 1001) (appD D nm str) := by
    unfold appD
    split
    · exact h.doing (appU_ok hn) (by have := appU_len (mget beqB nm D.seen).isSome nm str; unfold appUs; omega)
    · exact h0
  unfold doesD
  split
  · exact happ
  · exact happ
  · unfold removeD
    split
    · exact h.doing (by simp [UOk]) (by simp)
    · exact h0
  · unfold renameD
    split
    · exact h.doing (by simp [UOk]; exact hs) (by simp)
    · exact h0
  · exact h0.sync
  · exact h0.fuse k
  · exact h0.crash k
theorem Inv.new (room : Int) : Inv 0 (DS.new room) := Inv.flat (by intro p hp; simp [DS.new] at hp) (by simp [DS.new]) rfl rfl
theorem Inv.fitsA {A : Nat} {D : DS} (h : Inv A D) {nm str : ByteArray} (hn : nm.size ≤ 1000) (hs : str.size ≤ 1000) (hA : A ≤ 100000000) : Fits (stepN D (appUs D nm str)) D.seen := by
  obtain ⟨h1, h2⟩ := stepN_sub D (appUs D nm str)
  have h3 := appU_len (mget beqB nm D.seen).isSome nm str
  refine fits_of h.bd.1 (fun u hu => appU_ok hn u (h1 u hu)) ?_
  unfold appUs at *
  omega
theorem Inv.fitsC {A : Nat} {D : DS} (h : Inv A D) (hA : A ≤ 100000000) : Fits D.steps.flatten D.syn := fits_of h.files h.units (by have := h.count; omega)

/-- D' is D with units behind. -/
def Ext (D D' : DS) : Prop := D'.syn = D.syn ∧ ∃ more, D'.steps.flatten = D.steps.flatten ++ more
theorem Ext.refl (D : DS) : Ext D D := ⟨rfl, [], by simp⟩
theorem Ext.trans {D D' D'' : DS} (h : Ext D D') (h' : Ext D' D'') : Ext D D'' := by
  obtain ⟨h1, m1, h2⟩ := h
  obtain ⟨h3, m2, h4⟩ := h'
  exact ⟨h3.trans h1, m1 ++ m2, by rw [h4, h2, List.append_assoc]⟩
theorem Ext.doing (D : DS) (us : List U) : Ext D (doD D us) := ⟨(burnD_eqs D us.length).1, stepN D us, by simp [doD]⟩
theorem Ext.does (D : DS) {c : Nat} (nm str : ByteArray) (k : Int) (hc : c < 4) : Ext D (doesD D c nm str k) := by
  have happ : Ext D (appD D nm str) := by
    unfold appD
    split
    · exact Ext.doing D _
    · exact Ext.refl D
  have hcc : c = 0 ∨ c = 1 ∨ c = 2 ∨ c = 3 := by omega
  rcases hcc with rfl | rfl | rfl | rfl
  · exact happ
  · exact happ
  · show Ext D (removeD D nm)
    unfold removeD
    split
    · exact Ext.doing D _
    · exact Ext.refl D
  · show Ext D (renameD D nm str)
    unfold renameD
    split
    · exact Ext.doing D _
    · exact Ext.refl D

/-- THE THREE COMPARISONS. -/
theorem crash_seen (D : DS) {k : Int} (hk : 0 ≤ k) : (crashD D k).seen = applyAll (D.steps.flatten.take k.toNat) D.syn ∧ (crashD D k).syn = (crashD D k).seen ∧ (crashD D k).steps = [] := by
  unfold crashD
  rw [if_neg (by omega)]
  exact ⟨rfl, rfl, rfl⟩
theorem late_early {D D' : DS} (h : Ext D D') {k : Int} (h0 : 0 ≤ k) (hk : k ≤ D.steps.flatten.length) : (crashD D' k).seen = (crashD D k).seen := by
  obtain ⟨h1, more, h2⟩ := h
  rw [(crash_seen D' h0).1, (crash_seen D h0).1, h1, h2, List.take_append_of_le_length (by omega)]
theorem all_same {A : Nat} {D : DS} (h : Inv A D) : (crashD D (D.steps.flatten.length : Int)).seen = D.seen := by
  rw [(crash_seen D (by omega)).1, h.seen, Int.toNat_natCast, List.take_length]
theorem none_before {D D' : DS} {k : Int} (hk : 0 ≤ k) (h : Ext (crashD D k) D') : (crashD D' 0).seen = (crashD D k).seen := by
  rw [(crash_seen D' (Int.le_refl 0)).1, h.1, (crash_seen D hk).2.1]
  simp [applyAll]
end Go.Proofs.Ytlnelokpaccanaa
