/- The iterators over a step's units. -/
import Derived.Test.YtlnelokpaccanaaDiskB
import Derived.RangeFuncNested
import Derived.OwnWalkIn
import Derived.TacticsInMore
import Derived.LoopNIn
import Derived.LoopIn
namespace Go.Proofs.Ytlnelokpaccanaa
open Go Go.RowKit Go.Tr
attribute [local go_sem] Oper.semAt_some
set_option linter.unusedVariables false

def bytesU (nm str : ByteArray) : List U := (List.range str.size).map fun k => U.byte nm (str.extract k (k + 1))
def appU (is : Bool) (nm str : ByteArray) : List U := (if is then [] else [U.create nm]) ++ bytesU nm str

/-- What the k-th round is handed. -/
def okU (bx : Nat → Prop) (B : Nat) (us : List U) (k : Nat) (W : World) (xs : Array Value) : Prop := ∃ v u, xs = #[v] ∧ us[k]? = some u ∧ URep (fun i => bx i ∨ B ≤ i) W v u

theorem bytesU_at (nm str : ByteArray) (k : Nat) (hk : k < str.size) : (bytesU nm str)[k]? = some (U.byte nm (str.extract k (k + 1))) := by
  unfold bytesU
  rw [List.getElem?_map, List.getElem?_range hk]
  rfl
theorem bytesU_len (nm str : ByteArray) : (bytesU nm str).length = str.size := by simp [bytesU]

set_option maxHeartbeats 1000000 in
/-- The loop over the bytes, whatever has come ahead of it (o things). -/
theorem app_loop {bx S : Nat → Prop} {w : World} {a s l : Nat} {nm str : ByteArray} (J Jx : Nat → World → Prop) (o : Nat) (us : List U) (hus : ∀ k, k < str.size → us[o + k]? = some (U.byte nm (str.extract k (k + 1)))) (hlen : us.length = o + str.size)
    (h2 : bx a) (h3 : bx s) (b2 : Box1 w a 9 (.string nm)) (b3 : Box1 w s 9 (.string str))
    (hz : str.size ≤ 9223372036854775807) (hbS : ∀ i, bx i → ¬ S i) (hS : ∀ i, S i → i < w.heap.size) (hJ : Abid w.heap.size J)
    (hY : ∀ k W xs, k < us.length → J k W → Frm S w W → okU bx w.heap.size us k W xs → YieldAt Fence.wide 9 Try.prog l xs W fun e W' =>
      (e = .returned (.bool true) ∧ J (k + 1) W' ∧ Frm S W W') ∨ (e = .returned (.bool false) ∧ Jx (k + 1) W' ∧ Frm S W W'))
    (k : Nat) (hk : k < str.size) (wr : World) (hj : J (o + k) wr) (hf : Frm S w wr) :
    YieldAt Fence.wide 8 Try.prog l #[.func (.func 34) #[] #[ptr a, ptr s, ptr wr.heap.size]] (wr.alloc (.cells #[.int .i64 k] 3)) fun e W' =>
      (e = .returned (.bool true) ∧ J (o + (k + 1)) W' ∧ Frm S w W') ∨ (e = .returned (.bool false) ∧ Jx (o + (k + 1)) W' ∧ Frm S w W') := by
  have hsz := hf.size
  have fa : Frm S w (wr.alloc (.cells #[.int .i64 k] 3)) := hf.alloc _
  obtain ⟨fn, tmps, assign, body, hy, hR⟩ := hY (o + k) (wr.alloc (.cells #[.int .i64 k] 3)) #[.func (.func 34) #[] #[ptr a, ptr s, ptr wr.heap.size]] (by omega)
    (hJ.frm hj ((Frm.refl Nil wr).alloc _) hsz (fun _ _ x => x)) fa
    ⟨_, _, rfl, hus k hk, ⟨a, s, wr.heap.size, str, k, .inl h2, .inl h3, .inr hsz, rfl, b2.frm fa (hbS a h2), b3.frm fa (hbS s h3), Box1.new _ _ _, hk, hz, rfl⟩⟩
  refine ⟨fn, tmps, assign, body, hy, (roundIn_wide hR).mono ?_⟩
  rintro e W' (⟨rfl, hj', hf'⟩ | ⟨rfl, hj', hf'⟩)
  · exact .inl ⟨rfl, hj', fa.tr hf'⟩
  · exact .inr ⟨rfl, hj', fa.tr hf'⟩

set_option maxHeartbeats 2000000 in
theorem app_iter {bx S : Nat → Prop} {w : World} {ia a s : Nat} {is : Bool} {nm str : ByteArray} (h1 : bx ia) (h2 : bx a) (h3 : bx s) (b1 : Box1 w ia 4 (.bool is)) (b2 : Box1 w a 9 (.string nm)) (b3 : Box1 w s 9 (.string str))
    (hz : str.size ≤ 9223372036854775807) (hbS : ∀ i, bx i → ¬ S i) :
    IterC Try.prog 32 #[ptr ia, ptr a, ptr s] w S (appU is nm str).length (okU bx w.heap.size (appU is nm str)) := by
  intro l J Jx hS hJ hJx hY h0
  refine callsIn_of_wp Try.func32 rfl trivial ?_
  simp only [Try.ntmps32, List.size_toArray, List.length_cons, List.length_nil, Nat.reduceAdd, Nat.reduceSub, Array.replicate_succ, Array.replicate_zero, List.push_toArray, List.append_toArray, List.nil_append, List.cons_append]
  have c1 := b1.cell
  obtain ⟨o, ho⟩ : ∃ o, o = if is then 0 else 1 := ⟨_, rfl⟩
  have hlen : (appU is nm str).length = o + str.size := by cases is <;> simp [appU, bytesU_len, ho]; omega
  have hL := Lib.hid (app_loop J Jx o (appU is nm str) (fun k hk => by
    cases is
    · simp [appU, ho, Nat.add_comm 1 k]; exact bytesU_at nm str k hk
    · simp [appU, ho]; exact bytesU_at nm str k hk) hlen h2 h3 b2 b3 hz hbS hS hJ hY)
  have HL := Lib.hid hlen; clear hlen
  have HS := Lib.hid hbS
  cases is with
  | true =>
    obtain rfl : o = 0 := by simpa using ho
    clear ho
    have c3 := b3.cell
    have HX := Lib.hid hS; clear hS
    have HY := Lib.hid hY; clear hY
    have HJ := Lib.hid hJ; clear hJ
    have HJx := Lib.hid hJx; clear hJx
    clear hbS
    repeat' (first | go_values | gi_big_skip | (with_reducible refine And.intro (fun f _ => wideFn f) ?_) | (with_reducible refine And.intro (fun f _ => wideFnR _ f) ?_) | (with_reducible refine And.intro (wideFnR _ _) ?_) | (with_reducible refine And.intro (wideFn _) ?_) | gi_guarded | gi_step | gi_upon | dsimp only)
    gi_loopw [16] (fun p wr => ∃ k : Nat, k ≤ str.size ∧ p = .int .i64 k ∧ J (0 + k) wr ∧ Frm S w wr) (fun p _ => str.size - (intOf p).toNat)
    case atStart => exact ⟨0, Nat.zero_le _, rfl, h0, Frm.refl _ _⟩
    case round =>
      obtain ⟨k, hk, rfl, hj, hf⟩ := hrel
      by_cases hlt : k < str.size
      · obtain ⟨fn, tmps, assign, body, hy, hR⟩ := hL.out k hlt wr hj hf
        repeat' (first | (refine (roundIn_wide hR).mono ?_; rintro e W1 (⟨rfl, hJ1, hF1⟩ | ⟨rfl, hJx1, hF1⟩)) | go_values | gi_big_skip | (with_reducible refine And.intro (fun f _ => wideFn f) ?_) | (with_reducible refine And.intro (fun f _ => wideFnR _ f) ?_) | (with_reducible refine And.intro (wideFnR _ _) ?_) | (with_reducible refine And.intro (wideFn _) ?_) | gi_guarded | gi_step | gi_upon | dsimp only)
        · refine ⟨⟨k + 1, by omega, by go_num, hJ1, hF1⟩, ?_⟩
          simp [intOf]; omega
        · refine bodyPost_ret (results_none rfl _ _ _) rfl ⟨⟨_, rfl⟩, hF1, .inr ⟨0 + (k + 1), by omega, by rw [HL.out]; omega, hJx1⟩⟩
      · obtain rfl : k = str.size := by omega
        repeat' (first | go_values | gi_big_skip | (with_reducible refine And.intro (fun f _ => wideFn f) ?_) | (with_reducible refine And.intro (fun f _ => wideFnR _ f) ?_) | (with_reducible refine And.intro (wideFnR _ _) ?_) | (with_reducible refine And.intro (wideFn _) ?_) | gi_guarded | gi_step | gi_upon | dsimp only)
        go_end0
        exact ⟨⟨_, rfl⟩, hf, .inl (by rw [HL.out]; exact hj)⟩
  | false =>
    obtain rfl : o = 1 := by simpa using ho
    clear ho
    obtain ⟨fn, tmps, assign, body, hy, hR⟩ := hY 0 w #[.func (.func 33) #[] #[ptr a]] (by simp [appU]) h0 (Frm.refl _ _) ⟨_, U.create nm, rfl, by simp [appU], ⟨a, .inl h2, rfl, b2⟩⟩
    have HX := Lib.hid hS; clear hS
    have HY := Lib.hid hY; clear hY
    have HJ := Lib.hid hJ; clear hJ
    have HJx := Lib.hid hJx; clear hJx
    clear hbS
    repeat' (first | (refine (roundIn_wide hR).mono ?_; clear hR; rintro e W1 (⟨rfl, hJ1, hF1⟩ | ⟨rfl, hJx1, hF1⟩) <;> have c3 := (b3.frm hF1 (HS.out s h3)).cell) | go_values | gi_big_skip | (with_reducible refine And.intro (fun f _ => wideFn f) ?_) | (with_reducible refine And.intro (fun f _ => wideFnR _ f) ?_) | (with_reducible refine And.intro (wideFnR _ _) ?_) | (with_reducible refine And.intro (wideFn _) ?_) | gi_guarded | gi_step | gi_upon | dsimp only)
    · gi_loopw [16] (fun p wr => ∃ k : Nat, k ≤ str.size ∧ p = .int .i64 k ∧ J (1 + k) wr ∧ Frm S w wr) (fun p _ => str.size - (intOf p).toNat)
      case atStart => exact ⟨0, Nat.zero_le _, rfl, hJ1, hF1⟩
      case round =>
        obtain ⟨k, hk, rfl, hj, hf⟩ := hrel
        clear hy
        by_cases hlt : k < str.size
        · obtain ⟨fn, tmps, assign, body, hy, hR⟩ := hL.out k hlt wr hj hf
          repeat' (first | (refine (roundIn_wide hR).mono ?_; rintro e W1 (⟨rfl, hJ1, hF1⟩ | ⟨rfl, hJx1, hF1⟩)) | go_values | gi_big_skip | (with_reducible refine And.intro (fun f _ => wideFn f) ?_) | (with_reducible refine And.intro (fun f _ => wideFnR _ f) ?_) | (with_reducible refine And.intro (wideFnR _ _) ?_) | (with_reducible refine And.intro (wideFn _) ?_) | gi_guarded | gi_step | gi_upon | dsimp only)
          · refine ⟨⟨k + 1, by omega, by go_num, hJ1, hF1⟩, ?_⟩
            simp [intOf]; omega
          · refine bodyPost_ret (results_none rfl _ _ _) rfl ⟨⟨_, rfl⟩, hF1, .inr ⟨1 + (k + 1), by omega, by rw [HL.out]; omega, hJx1⟩⟩
        · obtain rfl : k = str.size := by omega
          repeat' (first | go_values | gi_big_skip | (with_reducible refine And.intro (fun f _ => wideFn f) ?_) | (with_reducible refine And.intro (fun f _ => wideFnR _ f) ?_) | (with_reducible refine And.intro (wideFnR _ _) ?_) | (with_reducible refine And.intro (wideFn _) ?_) | gi_guarded | gi_step | gi_upon | dsimp only)
          go_end0
          exact ⟨⟨_, rfl⟩, hf, .inl (by rw [HL.out]; exact hj)⟩
    · refine bodyPost_ret (results_none rfl _ _ _) rfl ⟨⟨_, rfl⟩, hF1, .inr ⟨0 + 1, by omega, by rw [HL.out]; omega, hJx1⟩⟩
end Go.Proofs.Ytlnelokpaccanaa
