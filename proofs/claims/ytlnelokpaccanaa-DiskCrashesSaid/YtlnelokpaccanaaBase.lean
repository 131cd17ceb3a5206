/- Words for memory, of whatever program: what a call may have changed ('Frm'), a map as a list of its entries ('MapV'), and the runs of the operations on it. -/
import Derived.WalkKit
import Derived.RangeFuncBound
import Derived.RangeFuncCalls
import Derived.RangeFuncLeaves
import Derived.RangeFuncRecord
import Derived.Maps.RangeRun
import Derived.Deep.Draws
import Derived.MapKept
import Derived.Lib.Hide
namespace Go.Tr
open Go Go.RowKit
set_option linter.unusedVariables false

/-- Of the blocks that lay in w, those outside S lie in w' as they lay; streams and tape as they were. -/
structure Frm (S : Nat → Prop) (w w' : World) : Prop where
  os : w'.os = w.os
  tape : w'.tape = w.tape
  output : w'.output = w.output
  size : w.heap.size ≤ w'.heap.size
  block : ∀ i, i < w.heap.size → ¬ S i → w'.heap[i]? = w.heap[i]?

/-- No old block at all. -/
def Nil : Nat → Prop := fun _ => False
/-- The block b alone. -/
def One (b : Nat) : Nat → Prop := fun i => i = b
/-- Two blocks. -/
def Two (a b : Nat) : Nat → Prop := fun i => i = a ∨ i = b

section
variable {S S' : Nat → Prop} {w w' w'' : World}
theorem Frm.refl (S : Nat → Prop) (w : World) : Frm S w w := ⟨rfl, rfl, rfl, Nat.le_refl _, fun _ _ _ => rfl⟩
theorem Frm.mono (h : Frm S w w') (hs : ∀ i, i < w.heap.size → S i → S' i) : Frm S' w w' := ⟨h.os, h.tape, h.output, h.size, fun i hi hn => h.block i hi (fun hx => hn (hs i hi hx))⟩
/-- A second step may also change what the first has made. -/
theorem Frm.trans (h : Frm S w w') (k : Frm S' w' w'') (hs : ∀ i, i < w.heap.size → S' i → S i) : Frm S w w'' :=
  ⟨k.os.trans h.os, k.tape.trans h.tape, k.output.trans h.output, Nat.le_trans h.size k.size,
   fun i hi hn => (k.block i (Nat.lt_of_lt_of_le hi h.size) (fun hx => hn (hs i hi hx))).trans (h.block i hi hn)⟩
theorem Frm.tr (h : Frm S w w') (k : Frm S w' w'') : Frm S w w'' := h.trans k (fun _ _ hx => hx)
theorem Frm.trn (h : Frm S w w') (k : Frm Nil w' w'') : Frm S w w'' := h.trans k (fun _ _ hx => hx.elim)
theorem Frm.nil (h : Frm Nil w w') : Frm S w w' := h.mono (fun _ _ hx => hx.elim)
theorem Frm.drew (h : Frm S w w') : Frm S w w'.drew := ⟨h.os, h.tape, h.output, h.size, h.block⟩
theorem Frm.drewN (h : Frm S w w') (n : Nat) : Frm S w (w'.drewN n) := ⟨h.os, h.tape, h.output, h.size, h.block⟩
theorem Frm.alloc (h : Frm S w w') (o : Obj) : Frm S w (w'.alloc o) :=
  ⟨h.os, h.tape, h.output, Nat.le_trans h.size (by simp), fun i hi hn => (Below.heap_alloc w' o i (Nat.lt_of_lt_of_le hi h.size)).trans (h.block i hi hn)⟩
theorem Frm.setCell (h : Frm S w w') {p : Addr} (hp : w.heap.size ≤ p.block ∨ S p.block) (u : Value) : Frm S w (w'.setCell p u) :=
  ⟨h.os, h.tape, h.output, by simpa [World.setCell] using h.size, fun i hi hn => (Below.heap_setCell w' p u i (by
    rintro rfl
    rcases hp with hp | hp
    · omega
    · exact hn hp)).trans (h.block i hi hn)⟩
theorem Frm.putObj (h : Frm S w w') {r : Nat} (hp : w.heap.size ≤ r ∨ S r) (o : Obj) : Frm S w (w'.putObj r o) :=
  ⟨h.os, h.tape, h.output, by simpa using h.size, fun i hi hn => (World.putObj_heap_other (by
    rintro rfl
    rcases hp with hp | hp
    · omega
    · exact hn hp)).trans (h.block i hi hn)⟩
theorem Frm.grown {row : Option Nat} (h : Frm S w w') (hg : w'.grownBy w'' row) (hr : ∀ k, row = some k → w.heap.size ≤ k ∨ S k) : Frm S w w'' :=
  ⟨hg.os.trans h.os, hg.tape.trans h.tape, hg.output.trans h.output, Nat.le_trans h.size hg.size,
   fun i hi hn => (hg.block i (Nat.lt_of_lt_of_le hi h.size) (fun e => by
     rcases hr i e.symm with hx | hx
     · omega
     · exact hn hx)).trans (h.block i hi hn)⟩
theorem Frm.of_below (h : Below w.heap.size w w') : Frm S w w' := ⟨h.os, h.tape, h.output, h.size, fun i hi _ => h.block i hi⟩
theorem Frm.below (h : Frm Nil w w') : Below w.heap.size w w' := ⟨h.os, h.tape, h.output, h.size, fun i hi => h.block i hi (fun x => x)⟩
theorem Frm.cell (h : Frm S w w') {p : Addr} (hp : p.block < w.heap.size) (hs : ¬ S p.block) : w'.cell? p = w.cell? p := World.cell?_of_block (w := w) (h.block p.block hp hs)
theorem Frm.frozen (h : Frm S w w') {p : Addr} (hp : p.block < w.heap.size) (hs : ¬ S p.block) : w'.frozen? p = w.frozen? p := World.frozen?_of_block (w := w) (h.block p.block hp hs)
theorem Frm.obj (h : Frm S w w') {i : Nat} {o : Obj} (ho : w.heap[i]? = some o) (hs : ¬ S i) : w'.heap[i]? = some o := (h.block i (Array.getElem?_eq_some_iff.1 ho).1 hs).trans ho
theorem Frm.cellN (h : Frm Nil w w') {p : Addr} {v : Value} (hc : w.cell? p = some v) : w'.cell? p = some v := (h.cell (World.block_lt_of_cell? _ _ hc) (fun x => x)).trans hc
theorem Frm.objN (h : Frm Nil w w') {i : Nat} {o : Obj} (ho : w.heap[i]? = some o) : w'.heap[i]? = some o := h.obj ho (fun x => x)
end

/-- An append under a name of its own: it is met by an equation in the context, not laid open ('attribute [local go_sem ↓] hide_app'; 'rw [hide_app] at happ'). -/
def appSem (ts : Array TypeId) (ty : TypeId) (args : Array Value) : Sem Value := Builtin.append_ ts ty args
theorem hide_app (ts : Array TypeId) (ty : TypeId) (args : Array Value) : Builtin.append_ ts ty args = appSem ts ty args := rfl

theorem lt_of_obj {w : World} {i : Nat} {o : Obj} (ho : w.heap[i]? = some o) : i < w.heap.size := (Array.getElem?_eq_some_iff.1 ho).1

theorem frm_put (w : World) (b : Nat) (o : Obj) : Frm (One b) w (w.putObj b o) := (Frm.refl (One b) w).putObj (.inr rfl) o
theorem frm_set (w : World) (b o : Nat) (v : Value) : Frm (One b) w (w.setCell ⟨b, o, none⟩ v) := (Frm.refl (One b) w).setCell (p := ⟨b, o, none⟩) (.inr (show b = b from rfl)) v
theorem map_eraseIdx' {α β : Type} (f : α → β) : ∀ (l : List α) (n : Nat), (l.eraseIdx n).map f = (l.map f).eraseIdx n
  | [], _ => by simp
  | a :: l, 0 => by simp
  | a :: l, n + 1 => by simp [map_eraseIdx' f l n]
theorem set_same' {α : Type} : ∀ (l : List α) (n : Nat) (a : α), l[n]? = some a → l.set n a = l
  | [], _, _, h => by simp at h
  | b :: l, 0, a, h => by simp at h; simp [h]
  | b :: l, n + 1, a, h => by simp at h; simp [set_same' l n a h]
theorem modify_set' {α : Type} (f : α → α) : ∀ (l : List α) (n : Nat) (a : α), l[n]? = some a → l.modify n f = l.set n (f a)
  | [], _, _, h => by simp at h
  | b :: l, 0, a, h => by simp at h; simp [h]
  | b :: l, n + 1, a, h => by simp at h; simp [modify_set' f l n a h]

/-! ### maps -/
/-- How the keys of a type are held and compared. -/
structure KeyLaw {κ : Type} (P : Program) (kt : TypeId) (enc : κ → Value) (eq : κ → κ → Bool) : Prop where
  check : ∀ (b : Bool) (k : κ) (w : World), (Instr.checkKey b 10000 kt (enc k)).run P w = .ok () w
  one : ∀ (a b : κ) (w : World), (Op.equal kt (enc a) (enc b)).run P w = .ok (eq a b) w
  now : ∀ (k : κ) (es : List MapEntry) (ks : List κ) (i : Nat), es.map (·.key) = ks.map enc → ∀ d, P.underlying kt = some d → ∀ r, Instr.findNow d (enc k) es i = some r → ∀ w : World, (Instr.findAsking kt (enc k) es i).run P w = .ok r w
  known : ∃ d, P.underlying kt = some d
  same : ∀ k, Instr.sameBits 10000 (enc k) (enc k) = true
  iff : ∀ a b, eq a b = true ↔ a = b

section maps
variable {κ : Type} {P : Program} {kt : TypeId} {enc : κ → Value} {eq : κ → κ → Bool}

/-- Where the key stands, counted from i; and its value. -/
def seek {β : Type} (eq : κ → κ → Bool) (k : κ) : List (κ × β) → Nat → Option (Nat × β)
  | [], _ => none
  | p :: l, i => if eq k p.1 then some (i, p.2) else seek eq k l (i + 1)

theorem run_findAsking (K : KeyLaw P kt enc eq) (k : κ) : ∀ (es : List MapEntry) (L : List (κ × Value)) (i : Nat) (w : World),
    es.map (fun e => (e.key, e.val)) = L.map (fun p => (enc p.1, p.2)) → (Instr.findAsking kt (enc k) es i).run P w = .ok (seek eq k L i) w
  | [], [], i, w, _ => by simp [Instr.findAsking, seek]
  | [], _ :: _, _, _, h => by simp at h
  | _ :: _, [], _, _, h => by simp at h
  | e :: es, p :: L, i, w, h => by
    simp only [List.map_cons, List.cons.injEq, Prod.mk.injEq] at h
    obtain ⟨⟨h1, h2⟩, h3⟩ := h
    simp only [Instr.findAsking, Sem.run_bind, h1, K.one, Result.andThen_ok, seek, Sem.run_ite, h2]
    split
    · simp
    · exact run_findAsking K k es L (i + 1) w h3

theorem run_findKey (K : KeyLaw P kt enc eq) (k : κ) (es : List MapEntry) (L : List (κ × Value)) (w : World)
    (h : es.map (fun e => (e.key, e.val)) = L.map (fun p => (enc p.1, p.2))) : (Instr.findKey kt (enc k) es).run P w = .ok (seek eq k L 0) w := by
  obtain ⟨d, hd⟩ := K.known
  have ha := run_findAsking K k es L 0 w h
  have hk : es.map (·.key) = (L.map (·.1)).map enc := by
    have := congrArg (List.map Prod.fst) h
    simpa [List.map_map, Function.comp_def] using this
  unfold Instr.findKey
  simp only [Sem.run_bind, run_underlying hd, Result.andThen_ok]
  cases hn : Instr.findNow d (enc k) es 0 with
  | none => simpa using ha
  | some r =>
    have := K.now k es _ 0 hk d hd r hn w
    rw [ha] at this
    injection this with h1 h2
    subst h1
    simp

/-- What the key holds. -/
def mget {β : Type} (eq : κ → κ → Bool) (k : κ) : List (κ × β) → Option β
  | [] => none
  | p :: l => if eq k p.1 then some p.2 else mget eq k l
/-- The key holds v from now on. -/
def mput {β : Type} (eq : κ → κ → Bool) (k : κ) (v : β) : List (κ × β) → List (κ × β)
  | [] => [(k, v)]
  | p :: l => if eq k p.1 then (k, v) :: l else p :: mput eq k v l
/-- The key is struck. -/
def mdel {β : Type} (eq : κ → κ → Bool) (k : κ) : List (κ × β) → List (κ × β)
  | [] => []
  | p :: l => if eq k p.1 then l else p :: mdel eq k l

theorem mget_map {β γ : Type} (f : β → γ) (k : κ) : ∀ L : List (κ × β), mget eq k (L.map fun p => (p.1, f p.2)) = (mget eq k L).map f
  | [] => rfl
  | p :: L => by
    simp only [List.map_cons, mget]
    split
    · rfl
    · exact mget_map f k L
theorem mput_map {β γ : Type} (f : β → γ) (k : κ) (v : β) : ∀ L : List (κ × β), mput eq k (f v) (L.map fun p => (p.1, f p.2)) = (mput eq k v L).map fun p => (p.1, f p.2)
  | [] => rfl
  | p :: L => by
    simp only [List.map_cons, mput]
    split
    · rfl
    · simp [mput_map f k v L]
theorem mdel_map {β γ : Type} (f : β → γ) (k : κ) : ∀ L : List (κ × β), mdel eq k (L.map fun p => (p.1, f p.2)) = (mdel eq k L).map fun p => (p.1, f p.2)
  | [] => rfl
  | p :: L => by
    simp only [List.map_cons, mdel]
    split
    · rfl
    · simp [mdel_map f k L]

theorem seek_get {β : Type} (k : κ) : ∀ (L : List (κ × β)) (i : Nat), (seek eq k L i).map (·.2) = mget eq k L
  | [], _ => rfl
  | p :: L, i => by
    simp only [seek, mget]
    split
    · rfl
    · exact seek_get k L (i + 1)

/-- Block b is a map whose entries are L, in the order in which they were laid. -/
def MapV (w : World) (b : Nat) (enc : κ → Value) (L : List (κ × Value)) : Prop :=
  ∃ es clock, w.heap[b]? = some (.map es clock) ∧ es.toList.map (fun e => (e.key, e.val)) = L.map (fun p => (enc p.1, p.2)) ∧ (L.map (·.1)).Nodup ∧
    (es.toList.map (·.born)).Nodup ∧ ∀ e ∈ es.toList, e.born < clock

theorem MapV.frm {S : Nat → Prop} {w w' : World} {b : Nat} {L : List (κ × Value)} (h : MapV w b enc L) (hf : Frm S w w') (hs : ¬ S b) : MapV w' b enc L := by
  obtain ⟨es, clock, hb, r⟩ := h
  exact ⟨es, clock, hf.obj hb hs, r⟩
theorem MapV.nodup {w : World} {b : Nat} {L : List (κ × Value)} (h : MapV w b enc L) : (L.map (·.1)).Nodup := by
  obtain ⟨es, clock, hb, _, h2, _⟩ := h
  exact h2
theorem MapV.lt {w : World} {b : Nat} {L : List (κ × Value)} (h : MapV w b enc L) : b < w.heap.size := by
  obtain ⟨es, clock, hb, _⟩ := h
  exact lt_of_obj hb
theorem MapV.made (w : World) : MapV (w.alloc (.map #[] 0)) w.heap.size enc [] :=
  ⟨#[], 0, World.alloc_heap_new w _, by simp, by simp, by simp, by simp⟩
theorem MapV.of_block {w w' : World} {b b' : Nat} {L : List (κ × Value)} (h : MapV w b enc L) (hb : w'.heap[b']? = w.heap[b]?) : MapV w' b' enc L := by
  obtain ⟨es, clock, h0, r⟩ := h
  exact ⟨es, clock, hb.trans h0, r⟩

theorem run_lookup {t et : TypeId} (K : KeyLaw P kt enc eq) (ht : P.underlying t = some (.map kt et)) {z : Value} (hz : ∀ w, (zeroValue et).run P w = .ok z w)
    {w : World} {b : Nat} {L : List (κ × Value)} (h : MapV w b enc L) (k : κ) (ok : Bool) :
    (Instr.lookup t (.map (some b)) (enc k) ok).run P w = .ok (if ok then .tuple #[(mget eq k L).getD z, .bool (mget eq k L).isSome] else (mget eq k L).getD z) w := by
  obtain ⟨es, clock, hb, he, hn, hbn, hlt⟩ := h
  have hf := run_findKey K k es.toList L w he
  simp only [Instr.lookup, Sem.run_bind, run_underlying ht, Result.andThen_ok, getObj, Sem.run, hb, K.check]
  rw [← seek_get k L 0]
  cases hs : seek eq k L 0 with
  | none => rw [hs] at hf; cases ok <;> simp [hf, hz, Result.andThen]
  | some r => rw [hs] at hf; cases ok <;> simp [hf, Result.andThen]

theorem run_lookup_nil {t et : TypeId} (K : KeyLaw P kt enc eq) (ht : P.underlying t = some (.map kt et)) {z : Value} (hz : ∀ w, (zeroValue et).run P w = .ok z w) (w : World) (k : κ) (ok : Bool) :
    (Instr.lookup t (.map none) (enc k) ok).run P w = .ok (if ok then .tuple #[z, .bool false] else z) w := by
  have hf := run_findKey K k [] [] w (by simp)
  simp only [Instr.lookup, Sem.run_bind, run_underlying ht, Result.andThen_ok, Sem.run_pure, K.check]
  rw [hf]
  cases ok <;> simp [hz, seek, Result.andThen]

theorem seek_some {β : Type} {k : κ} : ∀ {L : List (κ × β)} {i j : Nat} {v : β}, seek eq k L i = some (j, v) → ∃ n p, j = i + n ∧ L[n]? = some p ∧ eq k p.1 = true ∧ p.2 = v
  | [], _, _, _, h => by simp [seek] at h
  | p :: L, i, j, v, h => by
    simp only [seek] at h
    split at h
    · rename_i hk
      injection h with h
      injection h with h1 h2
      exact ⟨0, p, by omega, rfl, hk, h2⟩
    · obtain ⟨n, q, h1, h2, h3, h4⟩ := seek_some h
      exact ⟨n + 1, q, by omega, by simpa using h2, h3, h4⟩

theorem mput_none {β : Type} {k : κ} {v : β} : ∀ {L : List (κ × β)} {i : Nat}, seek eq k L i = none → mput eq k v L = L ++ [(k, v)]
  | [], _, _ => rfl
  | p :: L, i, h => by
    simp only [seek] at h
    split at h
    · cases h
    · rename_i hk
      simp only [mput, hk]
      simp [mput_none h]

theorem seek_none {β : Type} {k : κ} : ∀ {L : List (κ × β)} {i : Nat}, seek eq k L i = none → ∀ p ∈ L, eq k p.1 = false
  | [], _, _, p, hp => by simp at hp
  | q :: L, i, h, p, hp => by
    simp only [seek] at h
    split at h
    · cases h
    · rename_i hk
      rcases List.mem_cons.1 hp with rfl | hp
      · simpa using hk
      · exact seek_none h p hp

theorem mput_at {β : Type} {k : κ} {v : β} : ∀ {L : List (κ × β)} {i n : Nat} {u : β}, seek eq k L i = some (i + n, u) → mput eq k v L = L.set n (k, v)
  | [], _, _, _, h => by simp [seek] at h
  | p :: L, i, n, u, h => by
    simp only [seek] at h
    split at h
    · rename_i hk
      injection h with h
      injection h with h1 h2
      obtain rfl : n = 0 := by omega
      simp [mput, hk]
    · rename_i hk
      obtain ⟨m, q, h1, h2, h3, h4⟩ := seek_some h
      obtain rfl : n = m + 1 := by omega
      have h' : seek eq k L (i + 1) = some ((i + 1) + m, u) := by rw [h]; congr 2; (try omega)
      simp [mput, hk, mput_at h']

theorem mdel_at {β : Type} {k : κ} : ∀ {L : List (κ × β)} {i n : Nat} {u : β}, seek eq k L i = some (i + n, u) → mdel eq k L = L.eraseIdx n
  | [], _, _, _, h => by simp [seek] at h
  | p :: L, i, n, u, h => by
    simp only [seek] at h
    split at h
    · rename_i hk
      injection h with h
      injection h with h1 h2
      obtain rfl : n = 0 := by omega
      simp [mdel, hk]
    · rename_i hk
      obtain ⟨m, q, h1, h2, h3, h4⟩ := seek_some h
      obtain rfl : n = m + 1 := by omega
      have h' : seek eq k L (i + 1) = some ((i + 1) + m, u) := by rw [h]; congr 2; (try omega)
      simp [mdel, hk, mdel_at h']
theorem mdel_none {β : Type} {k : κ} : ∀ {L : List (κ × β)} {i : Nat}, seek eq k L i = none → mdel eq k L = L
  | [], _, _ => rfl
  | p :: L, i, h => by
    simp only [seek] at h
    split at h
    · cases h
    · rename_i hk
      simp [mdel, hk, mdel_none h]

theorem mput_keys {β : Type} {k : κ} {v : β} (hi : ∀ a b, eq a b = true ↔ a = b) : ∀ {L : List (κ × β)}, (L.map (·.1)).Nodup → ((mput eq k v L).map (·.1)).Nodup ∧ ∀ x, x ∈ (mput eq k v L).map (·.1) ↔ x = k ∨ x ∈ L.map (·.1)
  | [], _ => by simp [mput]
  | p :: L, h => by
    simp only [List.map_cons, List.nodup_cons] at h
    obtain ⟨h1, h2⟩ := h
    simp only [mput]
    split
    · rename_i hk
      obtain rfl := (hi k p.1).1 hk
      exact ⟨by simp [h1, h2], by simp⟩
    · rename_i hk
      obtain ⟨h3, h4⟩ := mput_keys (v := v) hi h2 (k := k)
      refine ⟨?_, fun x => ?_⟩
      · simp only [List.map_cons, List.nodup_cons, h3, and_true]
        intro hm
        rcases (h4 p.1).1 hm with e | e
        · exact hk ((hi k p.1).2 e.symm)
        · exact h1 e
      · simp only [List.map_cons, List.mem_cons, h4]
        exact ⟨fun h => by rcases h with h | h | h <;> simp [h], fun h => by rcases h with h | h | h <;> simp [h]⟩

theorem mdel_sub {β : Type} {k : κ} : ∀ {L : List (κ × β)}, (mdel eq k L).Sublist L
  | [] => by simp [mdel]
  | p :: L => by
    simp only [mdel]
    split
    · exact List.sublist_cons_self p L
    · exact List.Sublist.cons_cons p mdel_sub

theorem run_mapUpdate {t et : TypeId} (K : KeyLaw P kt enc eq) (ht : P.underlying t = some (.map kt et)) {w : World} {b : Nat} {L : List (κ × Value)} (h : MapV w b enc L) (k : κ) (v : Value) :
    ∃ w', (Instr.mapUpdate t (.map (some b)) (enc k) v).run P w = .ok () w' ∧ MapV w' b enc (mput eq k v L) ∧ Frm (One b) w w' := by
  obtain ⟨es, clock, hb, he, hn, hbn, hlt⟩ := h
  have hf := run_findKey K k es.toList L w he
  have hl : es.toList.length = L.length := by simpa using congrArg List.length he
  have hb' := lt_of_obj hb
  cases hs : seek eq k L 0 with
  | none =>
    rw [hs] at hf
    refine ⟨w.putObj b (.map (es.push { key := enc k, val := v, born := clock }) (clock + 1)), ?_, ?_, frm_put w b _⟩
    · simp [Instr.mapUpdate, run_underlying ht, getObj, Sem.run, hb, K.check, hf, setObj, Result.andThen, World.putObj]
    · refine ⟨_, _, World.putObj_heap_same hb', ?_, (mput_keys K.iff hn).1, ?_, ?_⟩
      · rw [mput_none hs]
        simp [he]
      · simp only [Array.toList_push, List.map_append, List.map_cons, List.map_nil]
        rw [List.nodup_append]
        refine ⟨hbn, by simp, ?_⟩
        intro x hx y hy
        simp at hy
        subst hy
        simp only [List.mem_map] at hx
        obtain ⟨e, he', rfl⟩ := hx
        exact Nat.ne_of_lt (hlt e he')
      · intro e hx
        simp at hx
        rcases hx with hx | rfl
        · have := hlt e (by simpa using hx); omega
        · show clock < clock + 1
          omega
  | some r =>
    obtain ⟨j, u⟩ := r
    rw [hs] at hf
    obtain ⟨n, p, hj, hp, hk, hu⟩ := seek_some hs
    obtain rfl : j = n := by omega
    have hjl : j < es.size := by
      have := (List.getElem?_eq_some_iff.1 hp).1
      simp at hl; omega
    have hkey : es[j].key = enc k := by
      have h1 := congrArg (fun l => l[j]?) he
      simp only [List.getElem?_map, hp, Option.map_some] at h1
      rw [show es.toList[j]? = some es[j] by simp [hjl]] at h1
      simp only [Option.map_some, Option.some.injEq, Prod.mk.injEq] at h1
      rw [h1.1, (K.iff k p.1).1 hk]
    refine ⟨w.putObj b (.map (es.modify j fun e => { e with key := enc k, val := v }) clock), ?_, ?_, frm_put w b _⟩
    · simp [Instr.mapUpdate, run_underlying ht, getObj, Sem.run, hb, K.check, hf, setObj, Result.andThen, World.putObj, Instr.keyThatStays, hjl, hkey, K.same]
    · have hset : (es.modify j fun e => { e with key := enc k, val := v }).toList = es.toList.set j { es[j] with key := enc k, val := v } := by
        rw [Array.toList_modify]
        exact modify_set' _ _ _ es[j] (by simp [hjl])
      refine ⟨_, _, World.putObj_heap_same hb', ?_, (mput_keys K.iff hn).1, ?_, ?_⟩
      · rw [mput_at (n := j) (i := 0) (by rw [Nat.zero_add]; exact hs), hset, List.map_set, he, List.map_set]
      · rw [hset, List.map_set]
        have : (es.toList.map (·.born))[j]? = some es[j].born := by simp [hjl]
        rw [set_same' _ _ _ this]
        exact hbn
      · intro e hx
        rw [hset] at hx
        rcases List.mem_or_eq_of_mem_set hx with hx | rfl
        · exact hlt e hx
        · exact hlt es[j] (by simp)

theorem run_delete {t et : TypeId} (K : KeyLaw P kt enc eq) (ht : P.underlying t = some (.map kt et)) (ty t2 : TypeId) {w : World} {b : Nat} {L : List (κ × Value)} (h : MapV w b enc L) (k : κ) :
    ∃ w', (Builtin.delete_ #[t, t2] ty #[.map (some b), enc k]).run P w = .ok (.tuple #[]) w' ∧ MapV w' b enc (mdel eq k L) ∧ Frm (One b) w w' := by
  obtain ⟨es, clock, hb, he, hn, hbn, hlt⟩ := h
  have hf := run_findKey K k es.toList L w he
  have hl : es.toList.length = L.length := by simpa using congrArg List.length he
  have hb' := lt_of_obj hb
  cases hs : seek eq k L 0 with
  | none =>
    rw [hs] at hf
    refine ⟨w.putObj b (.map es clock), ?_, ?_, frm_put w b _⟩
    · simp [Builtin.delete_, run_underlying ht, getObj, Sem.run, hb, K.check, hf, setObj, Result.andThen, World.putObj]
    · rw [mdel_none hs]
      exact ⟨_, _, World.putObj_heap_same hb', he, hn, hbn, hlt⟩
  | some r =>
    obtain ⟨j, u⟩ := r
    rw [hs] at hf
    obtain ⟨n, p, hj, hp, hk, hu⟩ := seek_some hs
    obtain rfl : j = n := by omega
    have hjl : j < es.size := by
      have := (List.getElem?_eq_some_iff.1 hp).1
      simp at hl; omega
    refine ⟨w.putObj b (.map (es.eraseIdxIfInBounds j) clock), ?_, ?_, frm_put w b _⟩
    · simp [Builtin.delete_, run_underlying ht, getObj, Sem.run, hb, K.check, hf, setObj, Result.andThen, World.putObj]
    · have hset : (es.eraseIdxIfInBounds j).toList = es.toList.eraseIdx j := by
        simp [Array.eraseIdxIfInBounds, hjl]
      refine ⟨_, _, World.putObj_heap_same hb', ?_, ?_, ?_, ?_⟩
      · rw [mdel_at (n := j) (i := 0) (by rw [Nat.zero_add]; exact hs), hset, map_eraseIdx', he, map_eraseIdx']
      · exact List.Sublist.nodup (List.Sublist.map _ mdel_sub) hn
      · rw [hset, map_eraseIdx']
        exact List.Sublist.nodup (List.eraseIdx_sublist _ _) hbn
      · intro e hx
        rw [hset] at hx
        exact hlt e (List.mem_of_mem_eraseIdx hx)

theorem checkKey_plain {b : Bool} {n : Nat} {v : Value} {d : TypeDesc} (hd : P.underlying kt = some d) (h : (match d with | .interface _ | .array _ _ | .struct _ => true | _ => false) = false) (w : World) :
    (Instr.checkKey b (n + 1) kt v).run P w = .ok () w := by
  simp only [Instr.checkKey, Sem.run_bind, run_underlying hd, Result.andThen_ok]
  cases d <;> simp_all

theorem equal_str (h : P.underlying kt = some .string) (a b : ByteArray) (w : World) : (Op.equal kt (.string a) (.string b)).run P w = .ok (a == b) w := by
  have hd : ∀ d : Nat, (Op.equalIn (d + 1) kt (.string a) (.string b)).run P w = .ok (a == b) w := fun d => by simp [Op.equalIn, run_underlying h]
  exact hd 9999

theorem beq_bytes (a b : ByteArray) : (a == b) = true ↔ a = b := by
  rw [beq_toListBytes, ByteArray.toList_eq, ByteArray.toList_eq]
  obtain ⟨⟨x⟩⟩ := a
  obtain ⟨⟨y⟩⟩ := b
  simp

theorem strLaw (h : P.underlying kt = some .string) : KeyLaw P kt Value.string (fun a b => a == b) where
  check := fun b k w => checkKey_plain (n := 9999) h rfl w
  one := equal_str h
  known := ⟨_, h⟩
  same := fun k => by simp [Instr.sameBits, beq_bytes]
  iff := beq_bytes
  now := by
    intro k es ks i hk d hd r hr w
    rw [h] at hd
    injection hd with hd
    subst hd
    induction es generalizing ks i with
    | nil => simp [Instr.findNow] at hr; subst hr; simp [Instr.findAsking]
    | cons e es ih =>
      cases ks with
      | nil => simp at hk
      | cons k' ks =>
        simp only [List.map_cons, List.cons.injEq] at hk
        simp only [Instr.findNow, hk.1, Instr.sameNow] at hr
        simp only [Instr.findAsking, hk.1, Sem.run_bind]
        have h1 : (Op.equal kt (.string k) (.string k')).run P w = .ok (k == k') w := equal_str h k k' w
        rw [h1]
        simp only [Result.andThen_ok, Sem.run_ite]
        cases hkk : (k == k') with
        | true => rw [hkk] at hr; simp only [Option.some.injEq] at hr; subst hr; simp
        | false => rw [hkk] at hr; simpa using ih ks (i + 1) hk.2 hr

/-! ranging over a map that the round leaves alone -/
/-- Block r ranges over the map in block b, whose entries are L; those in 'left' have not come yet. -/
def RngV (w : World) (b r : Nat) (enc : κ → Value) (L left : List (κ × Value)) : Prop :=
  ∃ (es : Array MapEntry) (clock : Nat) (seen : Array Nat), w.heap[b]? = some (.map es clock) ∧ es.toList.map (fun e => (e.key, e.val)) = L.map (fun p => (enc p.1, p.2)) ∧ (L.map (·.1)).Nodup ∧
    (es.toList.map (·.born)).Nodup ∧ (∀ e ∈ es.toList, e.born < clock) ∧ w.heap[r]? = some (.mapIter (some b) clock seen clock) ∧
    (leftOf es seen).toList.map (fun e => (e.key, e.val)) = left.map (fun p => (enc p.1, p.2))

theorem RngV.map {w : World} {b r : Nat} {L left : List (κ × Value)} (h : RngV w b r enc L left) : MapV w b enc L := by
  obtain ⟨es, clock, seen, h1, h2, h3, h4, h5, _⟩ := h
  exact ⟨es, clock, h1, h2, h3, h4, h5⟩
theorem RngV.frm {S : Nat → Prop} {w w' : World} {b r : Nat} {L left : List (κ × Value)} (h : RngV w b r enc L left) (hf : Frm S w w') (hb : ¬ S b) (hr : ¬ S r) : RngV w' b r enc L left := by
  obtain ⟨es, clock, seen, h1, h2, h3, h4, h5, h6, h7⟩ := h
  exact ⟨es, clock, seen, hf.obj h1 hb, h2, h3, h4, h5, hf.obj h6 hr, h7⟩
theorem RngV.lt {w : World} {b r : Nat} {L left : List (κ × Value)} (h : RngV w b r enc L left) : r < w.heap.size := by
  obtain ⟨es, clock, seen, h1, h2, h3, h4, h5, h6, h7⟩ := h
  exact lt_of_obj h6

theorem run_range {t et : TypeId} (ht : P.underlying t = some (.map kt et)) {w : World} {b : Nat} {L : List (κ × Value)} (h : MapV w b enc L) :
    ∃ o, (Instr.range t (.map (some b))).run P w = .ok (.pointer (some ⟨w.heap.size, 0, none⟩)) (w.alloc o) ∧ RngV (w.alloc o) b w.heap.size enc L L := by
  obtain ⟨es, clock, hb, he, hn, hbn, hlt⟩ := h
  refine ⟨.mapIter (some b) clock #[] clock, ?_, es, clock, #[], ?_, he, hn, hbn, hlt, World.alloc_heap_new w _, ?_⟩
  · simp only [Instr.range, Sem.run_bind, run_underlying ht, Result.andThen_ok, getObj, Sem.run, hb, newObj, Sem.run_pure]
    rfl
  · exact (Below.heap_alloc w _ b (lt_of_obj hb)).trans hb
  · rw [← he]
    have : (leftOf es #[]).toList = es.toList := by
      simp only [leftOf, Array.toList_filter]
      rw [List.filter_eq_self]
      intro x _
      simp
    rw [this]

theorem left_push {es : Array MapEntry} {seen : Array Nat} {e : MapEntry} (hn : (es.toList.map (·.born)).Nodup) (he : e ∈ (leftOf es seen).toList) :
    ∃ A B, (leftOf es seen).toList = A ++ e :: B ∧ (leftOf es (seen.push e.born)).toList = A ++ B := by
  obtain ⟨A, B, hAB⟩ := List.append_of_mem he
  refine ⟨A, B, hAB, ?_⟩
  have h1 : (leftOf es (seen.push e.born)).toList = (leftOf es seen).toList.filter (fun x => !(x.born == e.born)) := by
    simp only [leftOf, Array.toList_filter, List.filter_filter]
    refine List.filter_congr (fun x _ => ?_)
    have : (x.born == e.born) = decide (x.born = e.born) := by by_cases hx : x.born = e.born <;> simp [hx]
    simp [Array.mem_push, Bool.and_comm, this]
  have hnl : ((leftOf es seen).toList.map (·.born)).Nodup := by
    have : (leftOf es seen).toList.Sublist es.toList := by
      simp only [leftOf, Array.toList_filter]
      exact List.filter_sublist
    exact List.Sublist.nodup (List.Sublist.map _ this) hn
  rw [h1, hAB]
  rw [hAB] at hnl
  simp only [List.map_append, List.map_cons, List.nodup_append, List.nodup_cons, List.mem_map, List.mem_cons] at hnl
  obtain ⟨_, ⟨hB, _⟩, hx⟩ := hnl
  have hA' : A.filter (fun x => !(x.born == e.born)) = A := by
    rw [List.filter_eq_self]
    intro x hxA
    have := hx x.born ⟨x, hxA, rfl⟩ e.born (.inl rfl)
    simp [this]
  have hB' : B.filter (fun x => !(x.born == e.born)) = B := by
    rw [List.filter_eq_self]
    intro x hxB
    simp only [Bool.not_eq_true', beq_eq_false_iff_ne, ne_eq]
    intro e'
    exact hB ⟨x, hxB, e'⟩
  simp [List.filter_append, List.filter_cons, hA', hB']

theorem run_next {w : World} {b r : Nat} {L left : List (κ × Value)} (h : RngV w b r enc L left) (ty : TypeId) :
    (left = [] ∧ (Instr.next (.pointer (some ⟨r, 0, none⟩)) false ty).run P w = .ok (.tuple #[.bool false]) w) ∨
    ∃ A p B w', left = A ++ p :: B ∧ (Instr.next (.pointer (some ⟨r, 0, none⟩)) false ty).run P w = .ok (.tuple #[.bool true, enc p.1, p.2]) w' ∧ RngV w' b r enc L (A ++ B) ∧ Frm (One r) w w' ∧
      ∀ W, Frm Nil w' W → (Instr.entry (.pointer (some ⟨r, 0, none⟩))).run P W = .ok (.tuple #[enc p.1, p.2]) W := by
  obtain ⟨es, clock, seen, hb, he, hn, hbn, hlt, hr, hleft⟩ := h
  have hne : b ≠ r := by
    rintro rfl
    rw [hb] at hr
    cases hr
  rcases run_next_at (P := P) w ty r b clock clock seen es clock hr hb hlt (Nat.le_refl _) with ⟨h0, hrun⟩ | ⟨e, hmem, w1, hw1, hrun⟩
  · left
    refine ⟨?_, hrun⟩
    have : (leftOf es seen).toList = [] := by
      rw [← List.length_eq_zero_iff]
      simpa using h0
    rw [this] at hleft
    simpa using hleft.symm
  · right
    obtain ⟨A, B, hAB, hAB'⟩ := left_push hbn hmem
    rw [hAB] at hleft
    simp only [List.map_append, List.map_cons] at hleft
    obtain ⟨l1, l2, rfl, hl1, hl2⟩ := List.map_eq_append_iff.1 hleft.symm
    obtain ⟨p, l3, rfl, hp, hl3⟩ := List.map_eq_cons_iff.1 hl2
    simp only [Prod.mk.injEq] at hp
    have hmemes : e ∈ es.toList := by
      have : (leftOf es seen).toList.Sublist es.toList := by
        simp only [leftOf, Array.toList_filter]
        exact List.filter_sublist
      exact this.subset hmem
    have hfr : Frm (One r) w (Go.ChangeMaps.setBlock w1 r (.mapIter (some b) clock (seen.push e.born) clock)) := by
      rcases hw1 with rfl | rfl
      · exact frm_put _ _ _
      · exact ((Frm.refl (One r) w).drew).putObj (.inr rfl) _
    have hb' := hfr.obj hb (fun x => hne x)
    have hr' : (Go.ChangeMaps.setBlock w1 r (.mapIter (some b) clock (seen.push e.born) clock)).heap[r]? = some (.mapIter (some b) clock (seen.push e.born) clock) := by
      have hlt' : r < w1.heap.size := by
        have := lt_of_obj hr
        rcases hw1 with rfl | rfl
        · exact this
        · exact this
      show (w1.heap.setIfInBounds r _)[r]? = _
      simp [hlt']
    refine ⟨l1, p, l3, _, rfl, by rw [hp.1, hp.2]; exact hrun, ⟨es, clock, seen.push e.born, hb', he, hn, hbn, hlt, hr', ?_⟩, hfr, ?_⟩
    · rw [hAB', List.map_append, List.map_append, ← hl1, ← hl3]
    · intro W hW
      rw [hp.1, hp.2]
      exact run_entry_at W r b clock seen es clock e (hW.objN hr') (hW.objN hb') hmemes hbn

end maps
end Go.Tr
