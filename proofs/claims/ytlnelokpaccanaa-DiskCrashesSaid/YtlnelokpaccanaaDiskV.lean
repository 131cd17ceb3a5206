/- alike, at disks that have the same files. -/
import Derived.Test.YtlnelokpaccanaaDiskU
namespace Go.Proofs.Ytlnelokpaccanaa
open Go Go.RowKit Go.Tr Go.Maps
attribute [local go_sem] Oper.semAt_some
set_option linter.unusedVariables false

/-- The k-th name of a list of names in memory. -/
theorem name_at {w W : World} {B : Nat} {A : Option Addr} {c : Nat} {ns : List (List UInt8)} (h : w.ownsRow B 9 1 (.slice A ns.length c) ns.length (ns.map encStr)) {S : Nat → Prop} (hf : Frm S w W) (hs : ∀ g, (Value.slice A ns.length c).ownBlock = some g → ¬ S g) (k : Nat) (hk : k < ns.length) :
    ∃ g, A = some ⟨g, 0, none⟩ ∧ W.cell? ⟨g, k, none⟩ = some (.string ⟨(ns[k]).toArray⟩) := by
  rcases h.2 with ⟨h1, h2⟩ | ⟨g, cap, cur, h1, _⟩
  · omega
  · injection h1 with h1 _ _
    subst h1
    refine ⟨g, rfl, ?_⟩
    have hl := (h.lt g rfl).2
    have := h.cellAt k (by omega)
    rw [(hf.cell (p := ⟨g, k, none⟩) hl (hs g rfl)), this]
    simp [encStr, hk]
set_option maxHeartbeats 2000000 in
theorem alike_call {w : World} {a b : Nat} {Da Db : DS} {fpa fpb : List Nat} {bxa bxb : Nat → Prop} (ha : Disk w a Da fpa bxa) (hb : Disk w b Db fpb bxb) (hs : Da.seen = Db.seen) (hk : ∀ p ∈ Da.seen, p.1.size ≤ 1000000) (hl : Da.seen.length ≤ 1000000) :
    Calls Try.prog 11 #[ptr a, ptr b] w fun e w' => e = .returned (.bool true) ∧ Frm Nil w w' := by
  have hla := Lib.hid (list_call ha hk hl)
  have hLD : listD Db = listD Da := by unfold listD; rw [hs]
  have hRE : ∀ nm, readE Db nm = readE Da nm := fun nm => by unfold readE; rw [hs]
  have hRV : ∀ nm, readV Db nm = readV Da nm := fun nm => by unfold readV; rw [hRE, hs]
  have hlb : ∀ W, Frm Nil w W → Calls Try.prog 15 #[ptr b] W fun e w' => ∃ A c, e = .returned (.slice A (listD Da).length c) ∧ w'.ownsRow W.heap.size 9 1 (.slice A (listD Da).length c) (listD Da).length ((listD Da).map encStr) ∧ Frm Nil W w' := fun W hW => by
    have := list_call (hb.frm hW (fun _ _ h => h) (fun _ _ h => h)) (by rw [← hs]; exact hk) (by rw [← hs]; exact hl)
    rw [hLD] at this
    exact this
  have hra : ∀ W nm, Frm Nil w W → Calls Try.prog 16 #[ptr a, .string nm] W fun e w' => e = .returned (.tuple #[.string (readV Da nm), .int .i64 (readE Da nm)]) ∧ Frm Nil W w' := fun W nm hW => read_call (ha.frm hW (fun _ _ h => h) (fun _ _ h => h)) nm
  have hrb : ∀ W nm, Frm Nil w W → Calls Try.prog 16 #[ptr b, .string nm] W fun e w' => e = .returned (.tuple #[.string (readV Da nm), .int .i64 (readE Da nm)]) ∧ Frm Nil W w' := fun W nm hW => by
    have := read_call (hb.frm hW (fun _ _ h => h) (fun _ _ h => h)) nm
    rw [hRE, hRV] at this
    exact this
  have HLB := Lib.hid hlb; clear hlb
  have HRA := Lib.hid hra; clear hra
  have HRB := Lib.hid hrb; clear hrb
  obtain ⟨ns, hns⟩ : ∃ ns, listD Da = ns := ⟨_, rfl⟩
  rw [hns] at hla HLB
  clear ha hb hs hk hl hLD hRE hRV hns
  go_enter Try.func11, Try.ntmps11
  repeat' (first | (go_at_call 15; first | (with_reducible refine hla.out.mono ?_; rintro e w1 ⟨A, c, rfl, ho1, hf1⟩; have HO1 := Lib.hid ho1; clear ho1) | (with_reducible refine (HLB.out _ hf1).mono ?_; rintro e w2 ⟨A2, c2, rfl, ho2, hf2⟩; have HO2 := Lib.hid ho2; clear ho2)) | go_values | go_skip | go_guarded | go_step | go_upon | dsimp only)
  go_loopw [7] (fun i W => ∃ k : Nat, k ≤ ns.length ∧ i = .int .i64 k ∧ Frm Nil w2 W) (fun i _ => ns.length - (intOf i).toNat)
  case atStart => exact ⟨0, Nat.zero_le _, rfl, Frm.refl _ _⟩
  case round =>
    obtain ⟨k, hk, rfl, hf⟩ := hrel
    have HF := Lib.hid hf; clear hf
    clear hla HLB
    by_cases hlt : k < ns.length
    · obtain ⟨g1, rfl, e1⟩ := name_at HO1.out (hf2.trn HF.out) (fun _ _ h => h) k hlt
      obtain ⟨g2, rfl, e2⟩ := name_at HO2.out HF.out (fun _ _ h => h) k hlt
      have e2' : ∀ W, Frm Nil wr W → W.cell? ⟨g2, k, none⟩ = some (.string ⟨(ns[k]).toArray⟩) := fun W hW => hW.cellN e2
      have e1' : ∀ W, Frm Nil wr W → W.cell? ⟨g1, k, none⟩ = some (.string ⟨(ns[k]).toArray⟩) := fun W hW => hW.cellN e1
      have E1 := Lib.hid e1'; clear e1'
      have E2 := Lib.hid e2'; clear e2'
      obtain ⟨nm, hnm⟩ : ∃ nm : ByteArray, ⟨(ns[k]).toArray⟩ = nm := ⟨_, rfl⟩
      rw [hnm] at e1 e2 E1 E2
      have hfw : Frm Nil w wr := (hf1.trn hf2).trn HF.out
      have HFW := Lib.hid hfw; clear hfw
      clear hnm
      have k63 : (k : Int) + 1 ≤ 9223372036854775807 := by
        have h := HO1.out.2
        rcases h with ⟨h1, h2⟩ | ⟨g, cap, cur, h1, _, _, hn, hm, _⟩
        · omega
        · unfold maxLen at hm; omega
      repeat' (first | (go_at_call 16; first | (with_reducible refine (HRA.out _ _ HFW.out).mono ?_; rintro e w3 ⟨rfl, hf3⟩; have e3 := E2.out _ hf3) | (with_reducible refine (HRB.out _ _ (HFW.out.trn hf3)).mono ?_; rintro e w4 ⟨rfl, hf4⟩; have d1 := E1.out _ (hf3.trn hf4); have d2 := E2.out _ (hf3.trn hf4))) | go_values | go_skip | go_guarded | go_step | go_upon | dsimp only)
      have hF4 : Frm Nil wr w4.drew := (hf3.trn hf4).drew
      generalize readV Da nm = rs
      generalize readE Da nm = re
      clear HRA HRB E1 E2
      go_region_held2 (fun W => W.cell? ⟨g1, k, none⟩ = some (.string nm) ∧ W.cell? ⟨g2, k, none⟩ = some (.string nm) ∧ Frm Nil wr W)
        ((first | assumption | exact ⟨d1, d2, hF4⟩))
        ((fail))
      repeat' (first | go_values | go_skip | go_guarded | go_step | go_upon | dsimp only)
      go_round
      case measure => simp [intOf]; omega
      case rel => exact ⟨k + 1, by omega, by go_num, HF.out.trn hF4⟩
    · obtain rfl : k = ns.length := by omega
      repeat' (first | go_values | go_skip | go_guarded | go_step | go_upon | dsimp only)
      go_ret
      exact ⟨rfl, (hf1.trn hf2).trn HF.out⟩
end Go.Proofs.Ytlnelokpaccanaa
