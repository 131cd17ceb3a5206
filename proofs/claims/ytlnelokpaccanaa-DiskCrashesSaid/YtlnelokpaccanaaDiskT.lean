/- List. -/
import Derived.Test.YtlnelokpaccanaaDiskQ
import Derived.Test.YtlnelokpaccanaaShelfP
import Derived.Maps.OwnSet
namespace Go.Proofs.Ytlnelokpaccanaa
open Go Go.RowKit Go.Tr Go.Maps Go.Sort Go.Shelf
attribute [local go_sem] Oper.semAt_some
set_option linter.unusedVariables false

def keyB (L : Files) : List (List UInt8) := L.map fun p => p.1.data.toList
abbrev Rn : Value → Option (DataW Unit × List MemPlace) := fun _ => some (.nil, [])
theorem owns_of_mapV {w : World} {m : Nat} {L : Files} (h : MapV w m Value.string (encF L)) (hk : ∀ p ∈ L, p.1.size ≤ 1000000) (hl : L.length ≤ 1000000) :
    ∃ D0, w.ownsMap Try.prog 9 Rn m L.length D0 ∧ (strKeys D0).Perm (keyB L) ∧ Maps.size D0 = L.length := by
  obtain ⟨es, clock, hb, he, hn, hbn, hlt⟩ := h
  have hsz : es.size = L.length := by simpa [encF] using congrArg List.length he
  have hkey : es.toList.map (·.key) = L.map fun p => Value.string p.1 := by
    have := congrArg (List.map Prod.fst) he
    simpa [encF, List.map_map, Function.comp_def] using this
  have hread : ∀ x ∈ es.toList, ∃ s : ByteArray, x.key = .string s ∧ Go.WideElems.rd (H := Unit) Try.prog 9 Rn x = some (.string s.data.toList, .nil) := fun x hx => by
    have h1 : x.key ∈ es.toList.map (·.key) := List.mem_map_of_mem hx
    rw [hkey] at h1
    obtain ⟨p, hp, hpk⟩ := List.mem_map.1 h1
    refine ⟨p.1, hpk.symm, ?_⟩
    have hs : p.1.size ≤ maxLen := Nat.le_trans (hk p hp) (by unfold maxLen; omega)
    simp [Go.WideElems.rd, ← hpk, keyOf, Try.underlying9, mapKey, hs]
  refine ⟨_, ⟨es, clock, hb, ⟨by rw [hsz]; exact Nat.le_trans hl (by unfold maxLen; omega), ⟨hlt, hbn, ?_⟩, fun x hx => ?_⟩, by omega, rfl⟩, ?_, ?_⟩
  · rw [hkey]
    have h2 : (encF L).map (·.1) = L.map (·.1) := by simp [encF, List.map_map, Function.comp_def]
    rw [h2] at hn
    have := List.Pairwise.map (S := fun a b : Value => a ≠ b) Value.string (fun a b hab e => hab (by injection e)) hn
    rw [List.map_map] at this
    exact this
  · obtain ⟨s, _, h⟩ := hread x hx
    exact ⟨_, h⟩
  · have h1 : (es.toList.map (Go.WideElems.rg (H := Unit) Try.prog 9 Rn)).map (fun p => strOf p.1) = keyB L := by
      have h2 : (es.toList.map (Go.WideElems.rg (H := Unit) Try.prog 9 Rn)).map (fun p => strOf p.1) = (es.toList.map (·.key)).map (fun v => match v with | .string s => s.data.toList | _ => []) := by
        rw [List.map_map, List.map_map]
        refine List.map_congr_left fun x hx => ?_
        obtain ⟨s, h3, h4⟩ := hread x hx
        simp only [Function.comp_def, Go.WideElems.rg_of h4, h3, strOf]
      rw [h2, hkey]
      simp [keyB, List.map_map, Function.comp_def]
    rw [← h1]
    exact (Go.WideShapes.sorted_perm _).map _
  · rw [Maps.size_eq, (Go.WideShapes.sorted_perm _).length_eq]
    simp [hsz]

theorem sortsA (m : Nat) : AnyZ.SortsIn Try.prog Try.sortedA_ren Fence.wide m :=
  ⟨fun blk off cap ss W hH hblk hsz => callsIn_wide.2 (AnyM.slices_Sort_string Try.sortA blk off cap ss W hH hblk hsz),
   fun p cap W => callsIn_wide.2 (AnyM.slices_Sort_string_none Try.sortA p cap W)⟩
theorem keys_call (mb : Option Nat) (W : World) : CallsIn Fence.wide 5 Try.prog 41 #[.map mb] W fun e w' => e = .returned (.func (.func 56) #[] #[.pointer (some ⟨W.heap.size, 0, none⟩)]) ∧ w' = W.alloc (.cells #[.map mb] 43) :=
  AnyZ.keys_in Try.keysA Fence.wide 5 trivial rfl mb W
set_option maxHeartbeats 1000000 in
theorem sorted_call {H : Type} (b nn : Nat) (D0 : DataW H) (R : Value → Option (DataW H × List MemPlace)) (w : World) (hown : w.ownsMap Try.prog 9 R b nn D0) (hmax : Maps.size D0 ≤ maxLen) (hbytes : Maps.size D0 * 16 ≤ 140737488355328) :
    CallsIn Fence.wide 5 Try.prog 40 #[.func (.func 56) #[] #[.pointer (some ⟨w.heap.size, 0, none⟩)]] (w.alloc (.cells #[.map (some b)] 43)) fun e w' => ∃ (v : Value) (ss : List (List UInt8)), e = .returned v ∧ ss.Perm (strKeys D0) ∧
      w'.ownsRow (w.alloc (.cells #[.map (some b)] 43)).heap.size 9 1 v ss.length ((ss.mergeSort (fun x y => decide (x ≤ y))).map encStr) ∧ (v = .slice none 0 0 ↔ ss = []) ∧ Below (w.alloc (.cells #[.map (some b)] 43)).heap.size (w.alloc (.cells #[.map (some b)] 43)) w' := by
  have hbl := hown.lt
  have hseq : SeqGives Fence.wide 2 Try.prog 56 #[.pointer (some ⟨w.heap.size, 0, none⟩)] encStr (fun ss => ss.Perm (strKeys D0)) (Maps.size D0) (w.alloc (.cells #[.map (some b)] 43)) :=
    AnyZ.keys_gives (ρ := Try.keysA_ren) { Try.keysA with } Fence.wide _ trivial rfl (by omega) w.heap.size b nn D0 _ (by simp) (by simp) (by
      obtain ⟨es, clock, hb, Ft, hs, hD⟩ := hown
      exact ⟨es, clock, (Below.heap_alloc _ _ b hbl).trans hb, Ft, hs, hD⟩)
  exact AnyZ.sorted_in Try.sortedA Fence.wide 5 trivial trivial trivial trivial rfl (by omega) (sortsA _) (enters_of Try.func55 (by kernel_rfl) rfl) 56 #[.pointer (some ⟨w.heap.size, 0, none⟩)] trivial (enters_of Try.func56 (by kernel_rfl) rfl) _ _ hmax hbytes _ hseq

/-- What List tells: the names, in order. -/
def listD (D : DS) : List (List UInt8) := (keyB D.seen).mergeSort leB
set_option maxHeartbeats 1000000 in
theorem list_call {w : World} {b : Nat} {D : DS} {fp : List Nat} {bx : Nat → Prop} (h : Disk w b D fp bx) (hk : ∀ p ∈ D.seen, p.1.size ≤ 1000000) (hl : D.seen.length ≤ 1000000) :
    Calls Try.prog 15 #[ptr b] w fun e w' => ∃ A c, e = .returned (.slice A (listD D).length c) ∧ w'.ownsRow w.heap.size 9 1 (.slice A (listD D).length c) (listD D).length ((listD D).map encStr) ∧ Frm Nil w w' := by
  obtain ⟨s, m, sv, fa, fl, h⟩ := h
  have k2 := (cells6 h.blk).h2
  obtain ⟨D0, hown, hperm, hsize⟩ := owns_of_mapV h.seen hk hl
  clear h
  have cK := Lib.hid (keys_call (some m) w)
  have cS := Lib.hid (sorted_call m _ D0 _ w hown (by rw [hsize]; exact Nat.le_trans hl (by unfold maxLen; omega)) (by omega))
  clear hown
  have HP := Lib.hid hperm; clear hperm
  refine (callsIn_wide (n := 6)).1 ?_
  have hf27 : Fence.wide.fn 27 := trivial
  have hfK : Fence.wide.fn 41 := trivial
  have hfS : Fence.wide.fn 40 := trivial
  refine callsIn_of_wp Try.func15 rfl trivial ?_ rfl
  simp only [Try.ntmps15, List.size_toArray, List.length_cons, List.length_nil, Nat.reduceAdd, Nat.reduceSub, Array.replicate_succ, Array.replicate_zero, List.push_toArray, List.append_toArray, List.nil_append, List.cons_append]
  gi_wp2_with (first
    | (gi_at_call 27; refine (callsIn_wide.2 (none_no _ m _ k2)).mono ?_; rintro e w' ⟨rfl, rfl⟩)
    | (gi_at_call 41; refine cK.out.mono ?_; rintro e w' ⟨rfl, rfl⟩)
    | (gi_at_call 40; refine cS.out.mono ?_; rintro e w' ⟨v, ss, rfl, hS, hrow, hnil, hb⟩))
  go_ret
  have hss : ss.mergeSort leB = listD D := mergeSort_of_perm (hS.trans HP.out)
  have hlen : ss.length = (listD D).length := by rw [← hss, List.length_mergeSort]
  have hrow' : w'.ownsRow w.heap.size 9 1 v (listD D).length ((listD D).map encStr) := by
    rw [← hlen, ← hss]
    exact ⟨hrow.1, hrow.2.imp id (fun ⟨g, cap, cur, h1, hb0, h2⟩ => ⟨g, cap, cur, h1, by simp at hb0; omega, h2⟩)⟩
  have hform : ∃ A c, v = .slice A (listD D).length c := by
    rcases hrow'.2 with ⟨rfl, hx⟩ | ⟨g, cap, cur, rfl, _⟩
    · exact ⟨none, 0, by rw [hx]⟩
    · exact ⟨_, _, rfl⟩
  obtain ⟨A, c, rfl⟩ := hform
  exact ⟨A, c, rfl, hrow', ((Frm.refl Nil w).alloc _).trans (Frm.of_below hb) (fun _ _ h => h)⟩
end Go.Proofs.Ytlnelokpaccanaa
