/- tranterlaw07.DiskCrashes answers true at every input, and leaves its arguments as they were. No condition. -/
import Derived.Test.YtlnelokpaccanaaRows
import Derived.Test.YtlnelokpaccanaaDiskZ
import Derived.ProofKit
import Derived.OpenShut
import Derived.SizedLaws
import Derived.Deep.Slices
import Derived.Carry
namespace Go.Proofs.Ytlnelokpaccanaa
open Go Go.RowKit Go.Tr
open Go.ChangeShapes Go.WideShapes Go.ChangeAt
open Go.Deep (open_slice choose_lt add_add)
set_option linter.unusedVariables false

theorem weightsAll_mem {H : Type} {P : Program} {e : TypeId} : ∀ {l : List (DataW H)} {d : DataW H}, d ∈ l → ∀ n ∈ d.weights P e, n ∈ DataW.weightsAll P e l
  | d' :: r, d, hd, n, hn => by
    simp only [DataW.weightsAll, List.mem_append]
    rcases List.mem_cons.1 hd with rfl | h
    · exact Or.inl hn
    · exact Or.inr (weightsAll_mem h n hn)
theorem trod_u8 {H : Type} {enc : TypeId × Value → H} {w : World} {base n : Nat} {sp : Nat → Bool} {held : Bool} {t : TypeId} {q : IntKind} {v : Value} {x : DataW H × List MemPlace} (ht : Try.prog.underlying t = some (.int q)) (h : DataW.trod enc Try.prog w base sp held n t [v] = some x) :
    ∃ k, v = .int q k ∧ x.1 = .lit (.int q k) ∧ (Lit.int q k).wf = true := by
  obtain ⟨k, h1, h2, h3⟩ := DataW.trod_int ht h
  simp only [List.cons.injEq, and_true] at h1
  subst h1
  rw [h2]
  exact ⟨k, rfl, rfl, h3⟩
theorem trod_str {H : Type} {enc : TypeId × Value → H} {w : World} {base n : Nat} {sp : Nat → Bool} {held : Bool} {t : TypeId} {v : Value} {x : DataW H × List MemPlace} (ht : Try.prog.underlying t = some .string) (h : DataW.trod enc Try.prog w base sp held n t [v] = some x) :
    ∃ s : ByteArray, v = .string s ∧ x.1 = .lit (.string s.data.toList) := by
  obtain ⟨s, h1, h2, h3⟩ := DataW.trod_string ht h
  simp only [List.cons.injEq, and_true] at h1
  subst h1
  rw [h2]
  exact ⟨s, rfl, rfl⟩
theorem c5 : Try.prog.cellsOf 5 = 1 := by kernel_rfl
theorem c9 : Try.prog.cellsOf 9 = 1 := by kernel_rfl
theorem c3 : Try.prog.cellsOf 3 = 1 := by kernel_rfl
instance : Inhabited ActV := ⟨⟨0, ⟨#[]⟩, ⟨#[]⟩, 0⟩⟩
set_option maxRecDepth 100000 in
theorem open_acts {H : Type} {enc : TypeId × Value → H} {W : World} {base : Nat} {sp : Nat → Bool} {held : Bool} {v : Value} {d : DataW H} {p : List MemPlace} (hval : Value.okWide Try.prog W .any base 22 v) (h : DataW.Trod enc Try.prog W 0 sp held 22 v d p)
    (hsz : ∀ n ∈ d.weights Try.prog 22, n ≤ reachBytes) :
    ∃ l, ActsR W v l ∧ l.length ≤ 4611686018427387904 ∧ ∀ y ∈ l, (y.nm.size ≤ 140737488355328 ∧ y.str.size ≤ 140737488355328) ∧ 0 ≤ y.x ∧ y.k ≤ 9223372036854775807 := by
  obtain ⟨fuel, hf⟩ := h
  have hsl : ∃ a n c, v = .slice a n c := okWide_slice Try.underlying22 hval
  obtain ⟨a0, n0, c0, rfl⟩ := hsl
  rcases open_slice Try.underlying22 hf with ⟨h1, _⟩ | ⟨a, len, cap, m, n, D, Pl, h1, _, hl, hm, hmm, hx, hat⟩
  · have h2 : Value.slice a0 n0 c0 = .slice none 0 0 := by simpa [Value.cells] using h1
    exact ⟨[], .inl ⟨h2, rfl⟩, by simp, by simp⟩
  · have h2 : Value.slice a0 n0 c0 = .slice (some a) len cap := by simpa [Value.cells] using h1
    rw [h2]
    have hlm : len ≤ m := by rw [hmm]; split <;> omega
    injection hx with hx1 hx2
    subst hx1
    have each : ∀ i, i < len → ∃ y : ActV, ActAt W a i y ∧ ((y.nm.size ≤ 140737488355328 ∧ y.str.size ≤ 140737488355328) ∧ 0 ≤ y.x ∧ y.k ≤ 9223372036854775807) := by
      intro i hi
      obtain ⟨cs', g1, g2⟩ := hat i (by omega)
      rw [show Try.prog.cellsOf 36 = 4 by kernel_rfl] at g1
      obtain ⟨_, hlen, hcell⟩ := World.cells?_some g1
      obtain ⟨xs, k, hk, hxy, _, hxl, hff⟩ := DataW.trod_struct Try.underlying36 g2
      match xs, hxl, cs', hlen with
      | [y0, y1, y2, y3], _, [v0, v1, v2, v3], _ =>
        have e0 : DataW.trod enc Try.prog W 0 sp held k 5 (([v0, v1, v2, v3].drop 0).take (Try.prog.cellsOf 5)) = some y0 := hff 0 _ rfl
        have e1 : DataW.trod enc Try.prog W 0 sp held k 9 (([v0, v1, v2, v3].drop 1).take (Try.prog.cellsOf 9)) = some y1 := hff 1 _ rfl
        have e2 : DataW.trod enc Try.prog W 0 sp held k 9 (([v0, v1, v2, v3].drop 2).take (Try.prog.cellsOf 9)) = some y2 := hff 2 _ rfl
        have e3 : DataW.trod enc Try.prog W 0 sp held k 3 (([v0, v1, v2, v3].drop 3).take (Try.prog.cellsOf 3)) = some y3 := hff 3 _ rfl
        rw [c5] at e0
        rw [c9] at e1 e2
        rw [c3] at e3
        replace e0 : DataW.trod enc Try.prog W 0 sp held k 5 [v0] = some y0 := e0
        replace e1 : DataW.trod enc Try.prog W 0 sp held k 9 [v1] = some y1 := e1
        replace e2 : DataW.trod enc Try.prog W 0 sp held k 9 [v2] = some y2 := e2
        replace e3 : DataW.trod enc Try.prog W 0 sp held k 3 [v3] = some y3 := e3
        obtain ⟨x, rfl, d0, w0⟩ := trod_u8 Try.underlying5 e0
        obtain ⟨nm, rfl, d1⟩ := trod_str Try.underlying9 e1
        obtain ⟨str, rfl, d2⟩ := trod_str Try.underlying9 e2
        obtain ⟨kk, rfl, d3, w3⟩ := trod_u8 Try.underlying3 e3
        have f0 := hcell 0 (by omega)
        have f1 := hcell 1 (by omega)
        have f2 := hcell 2 (by omega)
        have f3 := hcell 3 (by omega)
        have hD : D i = .agg [y0.1, y1.1, y2.1, y3.1] := by
          have := congrArg Prod.fst hxy
          simpa using this
        have hw : ∀ n ∈ DataW.weights Try.prog 36 (D i), n ≤ reachBytes := fun n hn => hsz n (by
          simp only [DataW.weights, Try.underlying22, List.mem_cons, List.mem_append]
          exact .inr (.inl (weightsAll_mem (List.mem_map.2 ⟨i, List.mem_range.2 hi, rfl⟩) n hn)))
        rw [hD, d0, d1, d2, d3] at hw
        simp only [DataW.weights, Try.underlying36, DataW.weightsEach, List.map_cons, List.map_nil, List.nil_append, List.append_nil, List.cons_append, List.mem_cons, List.not_mem_nil, or_false, forall_eq_or_imp, forall_eq] at hw
        have s1 : nm.size ≤ reachBytes := by have := hw.1; simpa using this
        have s2 : str.size ≤ reachBytes := by have := hw.2; simpa using this
        simp only [Lit.wf, Bool.and_eq_true, decide_eq_true_eq] at w0 w3
        have w0' : (0 : Int) ≤ x := w0.1
        have w3' : kk ≤ (9223372036854775807 : Int) := w3.2
        have hr : reachBytes = 140737488351232 := rfl
        exact ⟨⟨x, nm, str, kk⟩, ⟨f0, f1, f2, f3⟩, ⟨by show nm.size ≤ _; omega, by show str.size ≤ _; omega⟩, w0', w3'⟩
    obtain ⟨y, hy⟩ := choose_lt each
    refine ⟨(List.range len).map y, .inr ⟨a, cap, by simp, fun i z hi => ?_⟩, ?_, fun z hz => ?_⟩
    · have hil : i < len := by have := (List.getElem?_eq_some_iff.1 hi).1; simpa using this
      rw [List.getElem?_map, List.getElem?_range hil] at hi
      simp only [Option.map_some, Option.some.injEq] at hi
      rw [← hi]
      exact (hy i hil).1
    · have h1 := hsz (((List.range len).map D).length * Try.prog.bytesOf 36 + ((List.range (m - len)).map fun j => D (len + j)).length * Try.prog.bytesOf 36) (by
        simp only [DataW.weights, Try.underlying22, List.mem_cons, List.mem_append]
        exact .inl (by rw [Nat.add_mul]))
      rw [show Try.prog.bytesOf 36 = 48 by kernel_rfl] at h1
      simp [reachBytes] at h1 ⊢
      omega
    · obtain ⟨i, hi, rfl⟩ := List.mem_map.1 hz
      exact (hy i (List.mem_range.1 hi)).2
theorem own : ownKnob Try.prog.godebug = none := by kernel_rfl
theorem laidOut : laidOutB Try.prog = true := by kernel_rfl
set_option maxRecDepth 100000 in
theorem lifted (os : Os) (started : os.Started) (H : Type) (enc : TypeId × Value → H) :
    ReturnsInHanded {} Try.checked os 3 .any (Rows.diskCrashesSpec.pre6 enc Try.prog Try.f3 Rows.diskCrashesRow.domain false) (Rows.diskCrashesSpec.post enc Try.prog Try.f3 false true false false) := by
  refine returnsInHanded_of_change_sized (C := Try.checked) own started (by kernel_rfl) Try.func3
    (ChangeSpec.witness6 (enc := enc) (C := Try.checked) false ⟨#[], #[.slice none 0 0, .int .u8 0, .int .i64 0], []⟩ 8 (by kernel_rfl) (by kernel_rfl) (by kernel_rfl) (by kernel_rfl)) ?_
  intro W base args ds gs before hval0 hW _ hsz0 _
  have hsz : (DataW.weightsEach Try.prog (Try.f3.params.toList ++ Rows.diskCrashesSpec.plain.varTypes Try.prog) (ds ++ gs)).all (· ≤ reachBytes) = true := hsz0
  clear hsz0
  have hval : ∀ (j : Nat) t v, Try.f3.params[j]? = some t → args[j]? = some v → Value.okWide Try.prog W .any base t v := hval0
  have hW' := hW
  have hWlt := hW.lt
  obtain ⟨p, q, hA0, hV, rfl, hfz, hnd⟩ := hW
  have hA : DataW.TrodAll enc Try.prog W 0 (fun _ => true) true Try.f3.params.toList args.toList ds p := hA0
  rw [Try.params3] at hA hval hsz
  obtain ⟨v0, vs0, d0, ds0, p0, q0, hargs, rfl, rfl, h0, r0⟩ := trodAll_cons hA
  obtain ⟨v1, vs1, d1, ds1, p1, q1, rfl, rfl, rfl, h1, r1⟩ := trodAll_cons r0
  obtain ⟨v2, vs2, d2, ds2, p2, q2, rfl, rfl, rfl, h2, r2⟩ := trodAll_cons r1
  obtain ⟨rfl, rfl, rfl⟩ := trodAll_nil r2
  obtain rfl : args = #[v0, v1, v2] := by cases args; simp_all
  obtain ⟨rfl, rfl⟩ := trodVars_none hV
  obtain ⟨cut, rfl, rfl, rfl, wc⟩ := open_int Try.underlying5 (hval 1 5 v1 rfl rfl) h1
  obtain ⟨keep, rfl, rfl, rfl, wk⟩ := open_int Try.underlying3 (hval 2 3 v2 rfl rfl) h2
  clear hA0 hval0
  simp only [List.append_nil] at hW'
  obtain ⟨l, hl, hlen, hb⟩ := open_acts (hval 0 22 v0 rfl rfl) h0 (fun n hn => by
    have := List.all_eq_true.1 hsz n (by simp only [DataW.weightsEach, List.cons_append, List.mem_append]; exact .inl hn)
    simpa using this)
  have wc' := wc
  have wk' := wk
  simp only [Lit.wf, Bool.and_eq_true, decide_eq_true_eq] at wc' wk'
  have hc0 : (0 : Int) ≤ cut := wc'.1
  have hc1 : cut ≤ (255 : Int) := wc'.2
  have hk1 : keep ≤ (9223372036854775807 : Int) := wk'.2
  refine (crashes_call W v0 l cut keep hl hlen hb hc0 hc1 hk1).mono ?_
  rintro e W' ⟨rfl, hf⟩
  have hbel : Below W.heap.size W W' := hf.below
  refine ⟨_, rfl, _, _, _, [], p0, [], hW', ?_, ?_, rfl, hbel.frame _, fun h => by cases h⟩
  · exact trodAll_cons_mk (shut_bool Try.underlying4 _) trodAll_mk0
  · have := trodAll_cons_mk (Below.trod laidOut (by kernel_rfl) (of_decide_eq_true (by kernel_rfl)) h0 hbel (fun x hx => hWlt x (by simp [hx]))) (trodAll_cons_mk (shut_int Try.underlying5 wc) (trodAll_cons_mk (shut_int Try.underlying3 wk) trodAll_mk0))
    simp only [List.append_nil] at this
    exact this
theorem holds : Rows.DiskCrashesSaid :=
  OpenClaim.holds_of_wide 3 Try.f3 rfl rfl rfl rfl rfl rfl rfl ⟨rfl, rfl, rfl, rfl, rfl⟩ rfl rfl rfl rfl rfl (by kernel_rfl) Try.func3 (by kernel_rfl)
    (of_decide_eq_true (by kernel_rfl)) (by unfold Func.isWrapper; first | (rw [if_pos (by decide +kernel)]; kernel_rfl) | (rw [if_neg (by decide +kernel)]; exact ⟨rfl, rfl⟩))
    (fun os started H enc _ => lifted os started H enc)
#print axioms holds
end Go.Proofs.Ytlnelokpaccanaa
