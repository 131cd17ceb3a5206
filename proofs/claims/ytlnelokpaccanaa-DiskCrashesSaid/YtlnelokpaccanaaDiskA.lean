/- The disk's own words, and the contracts of its small functions. -/
import Derived.Test.YtlnelokpaccanaaBase
import Derived.Test.YtlnelokpaccanaaRange
import Derived.Test.YtlnelokpaccanaaChecked
import Derived.WalkSpells
import Derived.Maps.AppendAt
namespace Go.Proofs.Ytlnelokpaccanaa
open Go Go.RowKit Go.Tr
set_option linter.unusedVariables false

abbrev Files := List (ByteArray × ByteArray)
/-- A file as a value. -/
def fv (b : ByteArray) : Value := .agg #[.string b]
def encF (L : Files) : List (ByteArray × Value) := L.map fun p => (p.1, fv p.2)
def beqB (a b : ByteArray) : Bool := a == b
/-- What a unit does. -/
inductive U where
  | create (n : ByteArray)
  | byte (n : ByteArray) (c : ByteArray)
  | remove (n : ByteArray)
  | rename (a b : ByteArray)
def U.apply : U → Files → Files
  | .create n, L => mput beqB n ⟨#[]⟩ L
  | .byte n c, L => mput beqB n (((mget beqB n L).getD ⟨#[]⟩) ++ c) L
  | .remove n, L => mdel beqB n L
  | .rename a b, L => mput beqB b ((mget beqB a L).getD ⟨#[]⟩) (mdel beqB a L)

/-- The five cells' facts of a disk's block. -/
structure Cells6 (w : World) (b : Nat) (c0 c1 c2 c3 c4 c5 : Value) : Prop where
  h0 : w.cell? ⟨b, 0, none⟩ = some c0
  h1 : w.cell? ⟨b, 1, none⟩ = some c1
  h2 : w.cell? ⟨b, 2, none⟩ = some c2
  h3 : w.cell? ⟨b, 3, none⟩ = some c3
  h4 : w.cell? ⟨b, 4, none⟩ = some c4
  h5 : w.cell? ⟨b, 5, none⟩ = some c5
theorem cells6 {w : World} {b : Nat} {c0 c1 c2 c3 c4 c5 : Value} (h : w.heap[b]? = some (.cells #[c0, c1, c2, c3, c4, c5] 47 (0, 0))) : Cells6 w b c0 c1 c2 c3 c4 c5 :=
  ⟨cell_of_row _ _ _ _ _ _ h, cell_of_row _ _ _ _ _ _ h, cell_of_row _ _ _ _ _ _ h, cell_of_row _ _ _ _ _ _ h, cell_of_row _ _ _ _ _ _ h, cell_of_row _ _ _ _ _ _ h⟩

theorem none_no (b m : Nat) (w : World) (h2 : w.cell? ⟨b, 2, none⟩ = some (.map (some m))) :
    Calls Try.prog 27 #[.pointer (some ⟨b, 0, none⟩)] w fun e w' => e = .returned (.bool false) ∧ w = w' := by
  have q := fun (w : World) (r : Option Nat) => run_eql_map_nil (P := Try.prog) w 43 _ _ r Try.underlying43
  go_enter Try.func27, Try.ntmps27
  repeat' (first | go_values | go_skip | go_guarded | go_step | go_upon | dsimp only)
  go_ret
  exact ⟨rfl, rfl⟩
/-- May a file have this name? -/
def nameOk (s : ByteArray) : Bool := !(s.size == 0) && decide (s.size ≤ 32)
theorem nameOk_no {s : ByteArray} (h : nameOk s = false) : s.size = 0 ∨ 32 < s.size := by
  unfold nameOk at h
  by_cases h0 : s.size = 0
  · exact .inl h0
  · simp [h0] at h; omega
theorem nameOk_yes {s : ByteArray} (h : nameOk s = true) : 0 < s.size ∧ s.size ≤ 32 := by
  unfold nameOk at h
  by_cases h0 : s.size = 0
  · simp [h0] at h
  · simp [h0] at h; omega

theorem notEmpty {s : ByteArray} (h : 0 < s.size) : s.toList.isEmpty = false := by
  rw [ByteArray.toList_eq]
  obtain ⟨⟨l⟩⟩ := s
  cases l with
  | nil => simp [ByteArray.size] at h
  | cons a l => simp
theorem isEmpty_ {s : ByteArray} (h : s.size = 0) : s.toList = [] := by
  rw [ByteArray.toList_eq]
  obtain ⟨⟨l⟩⟩ := s
  cases l with
  | nil => simp
  | cons a l => simp [ByteArray.size] at h
theorem all_upto {ns : List ByteArray} {p : ByteArray → Bool} (h : ∀ j, j < ns.length → p (ns[j]?.getD ⟨#[]⟩) = true) : ns.all p = true := by
  rw [List.all_eq_true]
  intro x hx
  obtain ⟨i, hi, rfl⟩ := List.getElem_of_mem hx
  simpa [hi] using h i hi
theorem all_not {ns : List ByteArray} {p : ByteArray → Bool} {k : Nat} (hk : k < ns.length) (h : p (ns[k]?.getD ⟨#[]⟩) = false) : ns.all p = false := by
  rw [List.all_eq_false]
  exact ⟨ns[k], by simp, by simpa [hk] using h⟩

set_option maxHeartbeats 400000 in
theorem check_all (b m : Nat) (w : World) (h2 : w.cell? ⟨b, 2, none⟩ = some (.map (some m))) (g c : Nat) (ns : List ByteArray) (a : Option Addr)
    (ha : ∀ i, i < ns.length → a = some ⟨g, 0, none⟩ ∧ w.cell? ⟨g, i, none⟩ = some (.string (ns[i]?.getD ⟨#[]⟩))) (hn : ns.length ≤ 9) :
    Calls Try.prog 42 #[.pointer (some ⟨b, 0, none⟩), .slice a ns.length c] w fun e w' => e = .returned (.int .i64 (if ns.all nameOk then 0 else 2)) ∧ w = w' := by
  go_enter Try.func42, Try.ntmps42
  go_wp2_with (go_at_call 27; refine (none_no _ m _ (by assumption)).mono ?_; rintro e w' ⟨rfl, rfl⟩)
  go_loop [6, 11] (fun s i => ∃ k : Nat, k ≤ ns.length ∧ i = .int .i64 k ∧ ∀ j, j < k → nameOk (ns[j]?.getD ⟨#[]⟩) = true) (fun _ i => ns.length - (intOf i).toNat)
  case atStart => exact ⟨0, Nat.zero_le _, rfl, fun j hj => absurd hj (by omega)⟩
  case round =>
    obtain ⟨k, hk, rfl, hall⟩ := hrel
    by_cases hlt : k < ns.length
    · obtain ⟨rfl, hc⟩ := ha k hlt
      clear ha
      have hA := Lib.hid hall; clear hall
      generalize hs : ns[k]?.getD ⟨#[]⟩ = s at hc
      have hS := Lib.hid hs; clear hs
      cases hok : nameOk s with
      | true =>
        obtain ⟨h1, h3⟩ := nameOk_yes hok
        have hH := Lib.hid hok; clear hok
        have hx1 := notEmpty h1
        have hx2 : decide ((32 : Int) < (s.size : Int)) = false := by simp; omega
        repeat' (first | go_values | go_skip | go_guarded | go_step | go_upon | dsimp only)
        go_round
        case rel => exact ⟨k + 1, by omega, by go_num, fun j hj => by
          rcases Nat.lt_succ_iff_lt_or_eq.1 hj with h | rfl
          · exact hA.out j h
          · rw [hS.out]; exact hH.out⟩
        case measure => simp [intOf]; omega
      | false =>
        have hcs := nameOk_no hok
        have hfin : ns.all nameOk = false := all_not hlt (by rw [hS.out]; exact hok)
        have hF := Lib.hid hfin; clear hfin
        clear hok
        rcases hcs with h0 | h0
        · have hx1 := isEmpty_ h0
          clear h0
          repeat' (first | go_values | go_skip | go_guarded | go_step | go_upon | dsimp only)
          go_ret
          exact ⟨by rw [hF.out]; rfl, rfl⟩
        · have hx1 := notEmpty (s := s) (by omega)
          have hx2 : decide ((32 : Int) < (s.size : Int)) = true := by simp; omega
          repeat' (first | go_values | go_skip | go_guarded | go_step | go_upon | dsimp only)
          go_ret
          exact ⟨by rw [hF.out]; rfl, rfl⟩
    · have hfin : ns.all nameOk = true := all_upto (fun j hj => hall j (by omega))
      have hF := Lib.hid hfin; clear hfin hall ha
      repeat' (first | go_values | go_skip | go_guarded | go_step | go_upon | dsimp only)
      go_ret
      exact ⟨by rw [hF.out]; rfl, rfl⟩
/-- Up: is the disk there, the names good, the disk not down? -/
def upE (ns : List ByteArray) (down : Bool) : Int := if ns.all nameOk then (if down then 70 else 0) else 2
theorem up_all (b m : Nat) (dn : Bool) (w : World) (h2 : w.cell? ⟨b, 2, none⟩ = some (.map (some m))) (h5 : w.cell? ⟨b, 5, none⟩ = some (.bool dn)) (g c : Nat) (ns : List ByteArray) (a : Option Addr)
    (ha : ∀ i, i < ns.length → a = some ⟨g, 0, none⟩ ∧ w.cell? ⟨g, i, none⟩ = some (.string (ns[i]?.getD ⟨#[]⟩))) (hn : ns.length ≤ 9) :
    Calls Try.prog 31 #[.pointer (some ⟨b, 0, none⟩), .slice a ns.length c] w fun e w' => e = .returned (.int .i64 (upE ns dn)) ∧ w = w' := by
  have hc := Lib.hid (check_all b m w h2 g c ns a ha hn)
  clear ha
  have hE : upE ns dn = if ns.all nameOk then (if dn then 70 else 0) else 2 := rfl
  have HE := Lib.hid hE; clear hE
  cases hok : ns.all nameOk <;> rw [hok] at hc HE <;> clear hok <;> simp only [if_true, Bool.false_eq_true, if_false] at hc HE <;> cases dn <;>
    (go_enter Try.func31, Try.ntmps31
     repeat' (first | (go_at_call 42; refine hc.out.mono ?_; rintro e w' ⟨rfl, rfl⟩) | go_values | go_skip | go_guarded | go_step | go_upon | dsimp only)
     go_ret
     exact ⟨by rw [HE.out]; rfl, rfl⟩)

theorem zfile (w : World) : (zeroValue 62).run Try.prog w = .ok (fv ⟨#[]⟩) w := by kernel_rfl
theorem strK : KeyLaw Try.prog 9 Value.string beqB := strLaw Try.underlying9

/-- Is the file there? -/
def thereE (nm : ByteArray) (L : Files) (e : Int) : Int := if e = 0 then (if (mget beqB nm L).isSome then 0 else 7) else e
theorem there_all (b m : Nat) (w : World) (h2 : w.cell? ⟨b, 2, none⟩ = some (.map (some m))) (L : Files) (hm : MapV w m Value.string (encF L)) (nm : ByteArray) (e0 : Int) :
    Calls Try.prog 37 #[.pointer (some ⟨b, 0, none⟩), .string nm, .int .i64 e0] w fun e w' => e = .returned (.int .i64 (thereE nm L e0)) ∧ Frm Nil w w' := by
  have hE : thereE nm L e0 = if e0 = 0 then (if (mget beqB nm L).isSome then 0 else 7) else e0 := rfl
  have HE := Lib.hid hE; clear hE
  have hlk := run_lookup strK Try.underlying43 zfile hm nm true
  rw [show mget beqB nm (encF L) = (mget beqB nm L).map fv from mget_map fv nm L] at hlk
  by_cases h0 : e0 = 0
  · subst h0
    cases hg : mget beqB nm L with
    | none =>
      rw [hg] at hlk HE
      clear hg hm
      simp only [Option.map_none, Option.getD_none, Option.isSome_none, if_true, fv] at hlk
      go_enter Try.func37, Try.ntmps37
      repeat' (first | go_values | go_skip | go_guarded | go_step | go_upon | dsimp only)
      go_ret
      exact ⟨by rw [HE.out]; rfl, ((Frm.refl _ w).alloc _)⟩
    | some v =>
      rw [hg] at hlk HE
      clear hg hm
      simp only [Option.map_some, Option.getD_some, Option.isSome_some, if_true, fv] at hlk
      go_enter Try.func37, Try.ntmps37
      repeat' (first | go_values | go_skip | go_guarded | go_step | go_upon | dsimp only)
      go_ret
      exact ⟨by rw [HE.out]; rfl, ((Frm.refl _ w).alloc _)⟩
  · have hb : (e0 == 0) = false := by simpa using h0
    have hb' : (e0 != 0) = true := by simpa using h0
    rw [if_neg h0] at HE
    clear hlk hm
    go_enter Try.func37, Try.ntmps37
    repeat' (first | go_values | go_skip | go_guarded | go_step | go_upon | dsimp only)
    go_ret
    exact ⟨by rw [HE.out]; rfl, Frm.refl _ w⟩

/-- The fuse burns. -/
theorem burn_none (b : Nat) (u : Int) (w : World) (h : w.cell? ⟨b, 4, none⟩ = some (.pointer none)) :
    Calls Try.prog 36 #[.pointer (some ⟨b, 0, none⟩), .int .i64 u] w fun e w' => e = .returned (.int .i64 u) ∧ w = w' := by
  go_enter Try.func36, Try.ntmps36
  repeat' (first | go_values | go_skip | go_guarded | go_step | go_upon | dsimp only)
  go_ret
  exact ⟨rfl, rfl⟩
theorem burn_some (b f : Nat) (u k : Int) (w : World) (h : w.cell? ⟨b, 4, none⟩ = some (.pointer (some ⟨f, 0, none⟩))) (d : Bool) (h5 : w.cell? ⟨b, 5, none⟩ = some (.bool d)) (hz5 : w.frozen? ⟨b, 5, none⟩ = false)
    (hf : w.cell? ⟨f, 0, none⟩ = some (.int .i64 k)) (hzf : w.frozen? ⟨f, 0, none⟩ = false) (hne : b ≠ f) (hk0 : 0 ≤ k) (hk1 : k ≤ 9223372036854775807) (hu0 : 0 ≤ u) (hu1 : u ≤ 9223372036854775807) :
    Calls Try.prog 36 #[.pointer (some ⟨b, 0, none⟩), .int .i64 u] w fun e w' => e = .returned (.int .i64 (min u k)) ∧
      w' = (w.setCell ⟨f, 0, none⟩ (.int .i64 (k - min u k))).setCell ⟨b, 5, none⟩ (.bool (decide (min u k < u))) := by
  have hne' : f ≠ b := fun e => hne e.symm
  have o4 : ∀ v : Value, (w.setCell ⟨f, 0, none⟩ v).cell? ⟨b, 4, none⟩ = some (.pointer (some ⟨f, 0, none⟩)) := fun v => by
    rw [World.cell?_setCell_other]; exact h; intro e; cases e
  have o5 : ∀ v : Value, (w.setCell ⟨f, 0, none⟩ v).cell? ⟨b, 5, none⟩ = some (.bool d) := fun v => by
    rw [World.cell?_setCell_other]; exact h5; intro e; cases e
  by_cases hku : k < u
  · have hm : min u k = k := by omega
    rw [hm, show k - k = 0 by omega]
    have hd : decide (k < u) = true := by simpa using hku
    rw [hd]
    clear hm hd
    go_enter Try.func36, Try.ntmps36
    repeat' (first | go_values | go_skip | go_guarded | go_step | go_upon | dsimp only)
    go_ret
    exact ⟨rfl, rfl⟩
  · have hm : min u k = u := by omega
    rw [hm]
    have hd : decide (u < u) = false := by simp
    rw [hd]
    clear hm hd
    go_enter Try.func36, Try.ntmps36
    repeat' (first | go_values | go_skip | go_guarded | go_step | go_upon | dsimp only)
    go_ret
    exact ⟨rfl, rfl⟩
end Go.Proofs.Ytlnelokpaccanaa
