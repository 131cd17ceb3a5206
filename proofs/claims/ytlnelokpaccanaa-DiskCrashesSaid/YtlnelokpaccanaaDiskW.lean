/- Several disks beside each other. -/
import Derived.Test.YtlnelokpaccanaaDiskV
namespace Go.Proofs.Ytlnelokpaccanaa
open Go Go.RowKit Go.Tr
set_option linter.unusedVariables false

structure Dk where
  b : Nat
  D : DS
  fp : List Nat
  bx : Nat → Prop
def Sep (x y : Dk) : Prop := (∀ i ∈ x.fp, i ∉ y.fp) ∧ (∀ i ∈ x.fp, ¬ y.bx i) ∧ ∀ i ∈ y.fp, ¬ x.bx i
/-- The disks L lie beside each other, and none of their own blocks is among K's, which all lie there. -/
def Farm (K : Nat → Prop) (w : World) (L : List (Nat × DS)) : Prop :=
  ∃ F : List Dk, F.map (fun x => (x.b, x.D)) = L ∧ (∀ x ∈ F, Disk w x.b x.D x.fp x.bx ∧ ∀ i ∈ x.fp, ¬ K i) ∧ F.Pairwise Sep ∧ ∀ i, K i → i < w.heap.size

theorem Sep.symm {x y : Dk} (h : Sep x y) : Sep y x := ⟨fun i hi hj => h.1 i hj hi, h.2.2, h.2.1⟩
theorem Farm.frm {K : Nat → Prop} {w w' : World} {L : List (Nat × DS)} (h : Farm K w L) (hf : Frm Nil w w') : Farm K w' L := by
  obtain ⟨F, h1, h2, h3, h4⟩ := h
  exact ⟨F, h1, fun x hx => ⟨(h2 x hx).1.frm hf (fun _ _ h => h) (fun _ _ h => h), (h2 x hx).2⟩, h3, fun i hi => Nat.lt_of_lt_of_le (h4 i hi) hf.size⟩
theorem Farm.get {K : Nat → Prop} {w : World} {L : List (Nat × DS)} (h : Farm K w L) (i : Nat) {b : Nat} {D : DS} (hi : L[i]? = some (b, D)) : ∃ fp bx, Disk w b D fp bx := by
  obtain ⟨F, rfl, h2, h3, h4⟩ := h
  rw [List.getElem?_map] at hi
  obtain ⟨x, hx, he⟩ := Option.map_eq_some_iff.1 hi
  have := (h2 x (List.mem_of_getElem? hx)).1
  injection he with e1 e2
  rw [e1, e2] at this
  exact ⟨_, _, this⟩
theorem pairwise_set {α : Type} {R : α → α → Prop} : ∀ {l : List α} {i : Nat} {x y : α}, l.Pairwise R → l[i]? = some x → (∀ z, (∃ j, j ≠ i ∧ l[j]? = some z) → (R x z → R y z) ∧ (R z x → R z y)) → (l.set i y).Pairwise R
  | [], _, _, _, _, h, _ => by simp at h
  | a :: l, 0, x, y, hp, h, hr => by
    simp only [List.getElem?_cons_zero, Option.some.injEq] at h
    subst h
    rw [List.set_cons_zero, List.pairwise_cons]
    rw [List.pairwise_cons] at hp
    refine ⟨fun z hz => ?_, hp.2⟩
    obtain ⟨j, hj⟩ := List.getElem?_of_mem hz
    exact (hr z ⟨j + 1, by omega, by simpa using hj⟩).1 (hp.1 z hz)
  | a :: l, i + 1, x, y, hp, h, hr => by
    simp only [List.getElem?_cons_succ] at h
    rw [List.set_cons_succ, List.pairwise_cons]
    rw [List.pairwise_cons] at hp
    refine ⟨fun z hz => ?_, pairwise_set hp.2 h (fun z ⟨j, hj, hz⟩ => hr z ⟨j + 1, by omega, by simpa using hz⟩)⟩
    rcases List.mem_or_eq_of_mem_set hz with hz | rfl
    · exact hp.1 z hz
    · exact (hr a ⟨0, by omega, rfl⟩).2 (hp.1 x (List.mem_of_getElem? h))
theorem sep_at {F : List Dk} (hp : F.Pairwise Sep) {i j : Nat} {x z : Dk} (hij : j ≠ i) (hx : F[i]? = some x) (hz : F[j]? = some z) : Sep x z := by
  obtain ⟨hi', hx'⟩ := List.getElem?_eq_some_iff.1 hx
  obtain ⟨hj', hz'⟩ := List.getElem?_eq_some_iff.1 hz
  rw [List.pairwise_iff_getElem] at hp
  rcases Nat.lt_or_ge i j with h | h
  · have := hp i j hi' hj' h
    rw [hx', hz'] at this
    exact this
  · have := hp j i hj' hi' (by omega)
    rw [hx', hz'] at this
    exact this.symm
/-- An operation on one of the disks. -/
theorem Farm.op {K : Nat → Prop} {w : World} {L : List (Nat × DS)} (h : Farm K w L) (i : Nat) {b : Nat} {D D' : DS} (hi : L[i]? = some (b, D)) {f : FuncId} {args : Array Value} {E : Ending → Prop}
    (hop : ∀ fp bx, Disk w b D fp bx → Calls Try.prog f args w fun e w' => E e ∧ ∃ fp' bx', Disk w' b D' fp' bx' ∧ Frm (fun i => i ∈ fp) w w' ∧ (∀ i ∈ fp', i ∈ fp ∨ w.heap.size ≤ i) ∧ ∀ i, bx' i → bx i ∨ w.heap.size ≤ i) :
    Calls Try.prog f args w fun e w' => E e ∧ Farm K w' (L.set i (b, D')) ∧ Frm (fun i => ¬ K i) w w' := by
  obtain ⟨F, rfl, h2, h3, h4⟩ := h
  rw [List.getElem?_map] at hi
  obtain ⟨x, hx, he⟩ := Option.map_eq_some_iff.1 hi
  injection he with e1 e2
  subst e1
  subst e2
  obtain ⟨hd, hk⟩ := h2 x (List.mem_of_getElem? hx)
  refine (hop _ _ hd).mono ?_
  rintro e w' ⟨hE, fp', bx', hd', hF, h5, h6⟩
  have hsep : ∀ z, (∃ j, j ≠ i ∧ F[j]? = some z) → Sep x z := fun z ⟨j, hj, hz⟩ => sep_at h3 hj hx hz
  have hlt : ∀ z ∈ F, (∀ i ∈ z.fp, i < w.heap.size) ∧ (∀ i, z.bx i → i < w.heap.size) := fun z hz => ⟨(h2 z hz).1.lt.1, (h2 z hz).1.lt.2.1⟩
  refine ⟨hE, ⟨F.set i ⟨x.b, D', fp', bx'⟩, by rw [List.map_set], fun z hz => ?_, ?_, fun j hj => Nat.lt_of_lt_of_le (h4 j hj) hF.size⟩, hF.mono (fun j _ hj => hk j hj)⟩
  · obtain ⟨j, hj⟩ := List.getElem?_of_mem hz
    rw [List.getElem?_set] at hj
    split at hj
    · split at hj
      · injection hj with hj
        subst hj
        refine ⟨hd', fun j hj hK => ?_⟩
        rcases h5 j hj with h | h
        · exact hk j h hK
        · have := h4 j hK; omega
      · cases hj
    · rename_i hne
      have hz' := List.mem_of_getElem? hj
      have hs := hsep z ⟨j, fun e => hne e.symm, hj⟩
      exact ⟨(h2 z hz').1.frm hF (fun k hk hx => hs.1 k hx hk) (fun k hk hx => hs.2.1 k hx hk), (h2 z hz').2⟩
  · refine pairwise_set h3 hx (fun z hz => ?_)
    have hs := hsep z hz
    obtain ⟨j, _, hj⟩ := hz
    obtain ⟨l1, l2⟩ := hlt z (List.mem_of_getElem? hj)
    have hnew : Sep ⟨x.b, D', fp', bx'⟩ z := by
      refine ⟨fun k hk hz => ?_, fun k hk hz => ?_, fun k hk hz => ?_⟩
      · rcases h5 k hk with h | h
        · exact hs.1 k h hz
        · have := l1 k hz; omega
      · rcases h5 k hk with h | h
        · exact hs.2.1 k h hz
        · have := l2 k hz; omega
      · rcases h6 k hz with h | h
        · exact hs.2.2 k hk h
        · have := l1 k hk; omega
    exact ⟨fun _ => hnew, fun _ => hnew.symm⟩
theorem Farm.copy {K : Nat → Prop} {w : World} {L : List (Nat × DS)} (h : Farm K w L) (i : Nat) {b : Nat} {D : DS} (hi : L[i]? = some (b, D)) (hst : D.steps.length ≤ 1000000000) :
    Calls Try.prog 9 #[ptr b] w fun e w' => ∃ b', e = .returned (ptr b') ∧ Farm K w' (L ++ [(b', D)]) ∧ Frm Nil w w' := by
  obtain ⟨F, rfl, h2, h3, h4⟩ := h
  rw [List.getElem?_map] at hi
  obtain ⟨x, hx, he⟩ := Option.map_eq_some_iff.1 hi
  injection he with e1 e2
  subst e1
  subst e2
  obtain ⟨hd, hk⟩ := h2 x (List.mem_of_getElem? hx)
  refine (copy_call hd hst).mono ?_
  rintro e w' ⟨b', fp', rfl, hd', hF, hn⟩
  have hlt : ∀ z ∈ F, (∀ i ∈ z.fp, i < w.heap.size) ∧ (∀ i, z.bx i → i < w.heap.size) := fun z hz => ⟨(h2 z hz).1.lt.1, (h2 z hz).1.lt.2.1⟩
  refine ⟨b', rfl, ⟨F ++ [⟨b', x.D, fp', x.bx⟩], by simp, fun z hz => ?_, ?_, fun j hj => Nat.lt_of_lt_of_le (h4 j hj) hF.size⟩, hF⟩
  · rcases List.mem_append.1 hz with hz | hz
    · exact ⟨(h2 z hz).1.frm hF (fun _ _ h => h) (fun _ _ h => h), (h2 z hz).2⟩
    · simp at hz
      subst hz
      exact ⟨hd', fun j hj hK => by have := hn j hj; have := h4 j hK; omega⟩
  · rw [List.pairwise_append]
    refine ⟨h3, by simp, fun z hz y hy => ?_⟩
    simp at hy
    subst hy
    obtain ⟨l1, l2⟩ := hlt z hz
    have hzx : ∀ k ∈ z.fp, ¬ x.bx k := by
      obtain ⟨j, hj⟩ := List.getElem?_of_mem hz
      by_cases hij : j = i
      · subst hij
        rw [hx] at hj
        injection hj with hj
        subst hj
        exact hd.lt.2.2.1
      · exact (sep_at h3 hij hx hj).2.2
    exact ⟨fun k hk hk' => by have := hn k hk'; have := l1 k hk; omega, hzx, fun k hk hk' => by have := hn k hk; have := l2 k hk'; omega⟩
/-- The first disk. -/
theorem Farm.first {K : Nat → Prop} {w w' : World} (hK : ∀ i, K i → i < w.heap.size) {b : Nat} {D : DS} {fp : List Nat} {bx : Nat → Prop} (hd : Disk w' b D fp bx) (hn : ∀ i ∈ fp, w.heap.size ≤ i) (hf : Frm Nil w w') : Farm K w' [(b, D)] :=
  ⟨[⟨b, D, fp, bx⟩], rfl, fun x hx => by
    simp at hx
    subst hx
    exact ⟨hd, fun i hi hk => by have := hn i hi; have := hK i hk; omega⟩, by simp, fun i hi => Nat.lt_of_lt_of_le (hK i hi) hf.size⟩
/-- A block made behind the disks. -/
theorem Farm.keep {K : Nat → Prop} {w : World} {L : List (Nat × DS)} (h : Farm K w L) (o : Obj) : Farm (fun i => K i ∨ i = w.heap.size) (w.alloc o) L := by
  obtain ⟨F, h1, h2, h3, h4⟩ := h
  refine ⟨F, h1, fun x hx => ⟨(h2 x hx).1.frm ((Frm.refl Nil w).alloc o) (fun _ _ h => h) (fun _ _ h => h), fun i hi hk => ?_⟩, h3, fun i hi => ?_⟩
  · rcases hk with hk | rfl
    · exact (h2 x hx).2 i hi hk
    · have := (h2 x hx).1.lt.1 _ hi; omega
  · rcases hi with hi | rfl
    · have := h4 i hi; simp; omega
    · simp
end Go.Proofs.Ytlnelokpaccanaa
