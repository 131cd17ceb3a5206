/- The iterators over a step's units: one unit; the first of another step's; all steps' together. -/
import Derived.Test.YtlnelokpaccanaaDiskC
namespace Go.Proofs.Ytlnelokpaccanaa
open Go Go.RowKit Go.Tr
attribute [local go_sem] Oper.semAt_some
set_option linter.unusedVariables false

theorem URep.func {bx : Nat → Prop} {w : World} {v : Value} {u : U} (hu : URep bx w v u) : ∃ gf lb, v = .func (.func gf) #[] lb := by
  cases u <;> simp only [URep] at hu
  · obtain ⟨a, _, rfl, _⟩ := hu; exact ⟨_, _, rfl⟩
  · obtain ⟨a, s, i, str, k, _, _, _, rfl, _⟩ := hu; exact ⟨_, _, rfl⟩
  · obtain ⟨a, _, rfl, _⟩ := hu; exact ⟨_, _, rfl⟩
  · obtain ⟨a, b, _, _, rfl, _⟩ := hu; exact ⟨_, _, rfl⟩

set_option maxHeartbeats 1000000 in
theorem once_iter {bx S : Nat → Prop} {w : World} {q : Nat} {uv : Value} {u : U} (h1 : bx q) (b1 : Box1 w q 67 uv) (hu : URep bx w uv u) (hbS : ∀ i, bx i → ¬ S i) :
    IterC Try.prog 53 #[ptr q] w S 1 (okU bx w.heap.size [u]) := by
  intro l J Jx hS hJ hJx hY h0
  refine callsIn_of_wp Try.func53 rfl trivial ?_
  simp only [Try.ntmps53, List.size_toArray, List.length_cons, List.length_nil, Nat.reduceAdd, Nat.reduceSub, Array.replicate_succ, Array.replicate_zero, List.push_toArray, List.append_toArray, List.nil_append, List.cons_append]
  have c1 := b1.cell
  obtain ⟨fn, tmps, assign, body, hy, hR⟩ := hY 0 w #[uv] (by omega) h0 (Frm.refl _ _) ⟨_, u, rfl, rfl, hu.mono (fun i hi => .inl hi)⟩
  clear hY hJ hJx hS hbS
  obtain ⟨gf, lb, rfl⟩ := hu.func
  clear hu
  all_goals
    repeat' (first | (refine (roundIn_wide hR).mono ?_; rintro e W1 (⟨rfl, hJ1, hF1⟩ | ⟨rfl, hJx1, hF1⟩)) | go_values | gi_big_skip | (with_reducible refine And.intro (fun f _ => wideFn f) ?_) | (with_reducible refine And.intro (fun f _ => wideFnR _ f) ?_) | (with_reducible refine And.intro (wideFnR _ _) ?_) | (with_reducible refine And.intro (wideFn _) ?_) | gi_guarded | gi_step | gi_upon | dsimp only)
  all_goals go_end0
  all_goals first
    | exact ⟨⟨_, rfl⟩, hF1, .inl hJ1⟩
    | exact ⟨⟨_, rfl⟩, hF1, .inr ⟨1, by omega, by omega, hJx1⟩⟩

/-- The function value v goes over the units us: of a step as it was made. -/
def Plain (bx : Nat → Prop) (w : World) (v : Value) (us : List U) : Prop :=
  (∃ ia a s is nm str, bx ia ∧ bx a ∧ bx s ∧ Box1 w ia 4 (.bool is) ∧ Box1 w a 9 (.string nm) ∧ Box1 w s 9 (.string str) ∧ str.size ≤ 9223372036854775807 ∧ v = .func (.func 32) #[] #[ptr ia, ptr a, ptr s] ∧ us = appU is nm str) ∨
  (∃ q uv u, bx q ∧ Box1 w q 67 uv ∧ URep bx w uv u ∧ v = .func (.func 53) #[] #[ptr q] ∧ us = [u])
theorem Plain.frm {bx : Nat → Prop} {w w' : World} {v : Value} {us : List U} (h : Plain bx w v us) {S : Nat → Prop} (hf : Frm S w w') (hs : ∀ i, bx i → ¬ S i) : Plain bx w' v us := by
  rcases h with ⟨ia, a, s, is, nm, str, h1, h2, h3, h4, h5, h6, r⟩ | ⟨q, uv, u, h1, h2, h3, r⟩
  · exact .inl ⟨ia, a, s, is, nm, str, h1, h2, h3, h4.frm hf (hs _ h1), h5.frm hf (hs _ h2), h6.frm hf (hs _ h3), r⟩
  · exact .inr ⟨q, uv, u, h1, h2.frm hf (hs _ h1), h3.frm hf hs, r⟩
theorem Plain.mono {bx bx' : Nat → Prop} {w : World} {v : Value} {us : List U} (h : Plain bx w v us) (hs : ∀ i, bx i → bx' i) : Plain bx' w v us := by
  rcases h with ⟨ia, a, s, is, nm, str, h1, h2, h3, r⟩ | ⟨q, uv, u, h1, h2, h3, r⟩
  · exact .inl ⟨ia, a, s, is, nm, str, hs _ h1, hs _ h2, hs _ h3, r⟩
  · exact .inr ⟨q, uv, u, hs _ h1, h2, h3.mono hs, r⟩
theorem plain_iter {bx S : Nat → Prop} {w : World} {v : Value} {us : List U} (h : Plain bx w v us) (hbS : ∀ i, bx i → ¬ S i) :
    ∃ gf lb, v = .func (.func gf) #[] lb ∧ (∀ args w, (callFunc gf args).run Try.prog w = .ok (.enter gf args) w) ∧ IterC Try.prog gf lb w S us.length (okU bx w.heap.size us) := by
  rcases h with ⟨ia, a, s, is, nm, str, h1, h2, h3, h4, h5, h6, h7, rfl, rfl⟩ | ⟨q, uv, u, h1, h2, h3, rfl, rfl⟩
  · exact ⟨_, _, rfl, enters_of Try.func32 (by kernel_rfl) rfl, app_iter h1 h2 h3 h4 h5 h6 h7 hbS⟩
  · exact ⟨_, _, rfl, enters_of Try.func53 (by kernel_rfl) rfl, once_iter h1 h2 h3 hbS⟩
theorem okU_mono {bx : Nat → Prop} {B B' : Nat} (hB : B' ≤ B) {us : List U} {k : Nat} {W : World} {xs : Array Value} (h : okU bx B us k W xs) : okU bx B' us k W xs := by
  obtain ⟨v, u, h1, h2, h3⟩ := h
  exact ⟨v, u, h1, h2, h3.mono (fun i hi => hi.imp id (fun h => by omega))⟩
theorem plain_iter' {bx S : Nat → Prop} {w : World} {us : List U} {gf : FuncId} {lb : Array Value} (h : Plain bx w (.func (.func gf) #[] lb) us) (hbS : ∀ i, bx i → ¬ S i) {B : Nat} (hB : B ≤ w.heap.size) :
    IterC Try.prog gf lb w S us.length (okU bx B us) := by
  obtain ⟨gf', lb', he, _, hi⟩ := plain_iter h hbS
  injection he with h1 h2 h3
  injection h1 with h1
  subst h1
  subst h3
  exact hi.mono (fun _ _ _ h => okU_mono hB h)
end Go.Proofs.Ytlnelokpaccanaa
