import Derived.Test.YtlacfgnjljjdiaaDoorL2
set_option linter.unusedVariables false
open Go Go.RowKit
namespace Wh
/-! ### what is made: each slice in a block of its own -/
theorem ownsRow_mono {w w' : World} {base : Nat} {e : TypeId} {size n : Nat} {v : Value} {xs : List Value} (h : w.ownsRow base e size v n xs) (hk : ∀ g, v.ownBlock = some g → w'.heap[g]? = w.heap[g]?) : w'.ownsRow base e size v n xs := by
  obtain ⟨h1, h2 | ⟨g, cap, cur, rfl, h3, h4, h5⟩⟩ := h
  · exact ⟨h1, .inl h2⟩
  · exact ⟨h1, .inr ⟨g, cap, cur, rfl, h3, (hk g rfl).trans h4, h5⟩⟩
theorem ownsRow_base {w : World} {base base' : Nat} {e : TypeId} {size n : Nat} {v : Value} {xs : List Value} (h : w.ownsRow base e size v n xs) (hb : ∀ g, v.ownBlock = some g → base' ≤ g) : w.ownsRow base' e size v n xs := by
  obtain ⟨h1, h2 | ⟨g, cap, cur, rfl, h3, h4, h5⟩⟩ := h
  · exact ⟨h1, .inl h2⟩
  · exact ⟨h1, .inr ⟨g, cap, cur, rfl, hb g rfl, h4, h5⟩⟩
mutual
theorem D.own_lt {w : World} : ∀ (d : D) (v : Value) (S : List Nat), d.own w v S → ∀ g ∈ S, g < w.heap.size
  | .num k n, v, S, h => by simp only [D.own] at h; simp [h.2]
  | .tru x, v, S, h => by simp only [D.own] at h; simp [h.2]
  | .txt x, v, S, h => by simp only [D.own] at h; simp [h.2]
  | .row e sz es, v, S, h => by
    simp only [D.own] at h
    obtain ⟨xs, S', h1, h2, rfl⟩ := h
    intro g hg
    rcases List.mem_append.1 hg with hg | hg
    · exact (h1.lt g (by simpa using hg)).2
    · exact D.ownRows_lt sz es xs S' h2 g hg
theorem D.ownRow_lt {w : World} : ∀ (ds : List D) (us : List Value) (S : List Nat), D.ownRow w ds us S → ∀ g ∈ S, g < w.heap.size
  | [], us, S, h => by simp only [D.ownRow] at h; simp [h.2]
  | d :: ds, us, S, h => by
    simp only [D.ownRow] at h
    obtain ⟨u, us', S1, S2, rfl, rfl, h1, h2⟩ := h
    intro g hg
    rcases List.mem_append.1 hg with hg | hg
    · exact D.own_lt d u S1 h1 g hg
    · exact D.ownRow_lt ds us' S2 h2 g hg
theorem D.ownRows_lt {w : World} (sz : Nat) : ∀ (es : List (List D)) (xs : List Value) (S : List Nat), D.ownRows w sz es xs S → ∀ g ∈ S, g < w.heap.size
  | [], xs, S, h => by simp only [D.ownRows] at h; simp [h.2]
  | e :: es, xs, S, h => by
    simp only [D.ownRows] at h
    obtain ⟨us, xs', S1, S2, rfl, _, rfl, h1, h2⟩ := h
    intro g hg
    rcases List.mem_append.1 hg with hg | hg
    · exact D.ownRow_lt e us S1 h1 g hg
    · exact D.ownRows_lt sz es xs' S2 h2 g hg
end
mutual
theorem D.own_mono {w w' : World} : ∀ (d : D) (v : Value) (S : List Nat), d.own w v S → (∀ g ∈ S, w'.heap[g]? = w.heap[g]?) → d.own w' v S
  | .num k n, v, S, h, _ => by simpa only [D.own] using h
  | .tru x, v, S, h, _ => by simpa only [D.own] using h
  | .txt x, v, S, h, _ => by simpa only [D.own] using h
  | .row e sz es, v, S, h, hk => by
    simp only [D.own] at h ⊢
    obtain ⟨xs, S', h1, h2, rfl⟩ := h
    exact ⟨xs, S', ownsRow_mono h1 (fun g hg => hk g (by simp [hg])), D.ownRows_mono sz es xs S' h2 (fun g hg => hk g (by simp [hg])), rfl⟩
theorem D.ownRow_mono {w w' : World} : ∀ (ds : List D) (us : List Value) (S : List Nat), D.ownRow w ds us S → (∀ g ∈ S, w'.heap[g]? = w.heap[g]?) → D.ownRow w' ds us S
  | [], us, S, h, _ => by simpa only [D.ownRow] using h
  | d :: ds, us, S, h, hk => by
    simp only [D.ownRow] at h ⊢
    obtain ⟨u, us', S1, S2, rfl, rfl, h1, h2⟩ := h
    exact ⟨u, us', S1, S2, rfl, rfl, D.own_mono d u S1 h1 (fun g hg => hk g (by simp [hg])), D.ownRow_mono ds us' S2 h2 (fun g hg => hk g (by simp [hg]))⟩
theorem D.ownRows_mono {w w' : World} (sz : Nat) : ∀ (es : List (List D)) (xs : List Value) (S : List Nat), D.ownRows w sz es xs S → (∀ g ∈ S, w'.heap[g]? = w.heap[g]?) → D.ownRows w' sz es xs S
  | [], xs, S, h, _ => by simpa only [D.ownRows] using h
  | e :: es, xs, S, h, hk => by
    simp only [D.ownRows] at h ⊢
    obtain ⟨us, xs', S1, S2, rfl, hl, rfl, h1, h2⟩ := h
    exact ⟨us, xs', S1, S2, rfl, hl, rfl, D.ownRow_mono e us S1 h1 (fun g hg => hk g (by simp [hg])), D.ownRows_mono sz es xs' S2 h2 (fun g hg => hk g (by simp [hg]))⟩
end
mutual
theorem D.own_rd {w : World} {ok : Nat → Prop} : ∀ (d : D) (v : Value) (S : List Nat), d.own w v S → (∀ g ∈ S, ok g) → d.rd w ok v
  | .num k n, v, S, h, _ => by simp only [D.own] at h; simpa only [D.rd] using h.1
  | .tru x, v, S, h, _ => by simp only [D.own] at h; simpa only [D.rd] using h.1
  | .txt x, v, S, h, _ => by simp only [D.own] at h; simpa only [D.rd] using h.1
  | .row e sz es, v, S, h, hk => by
    simp only [D.own] at h
    obtain ⟨xs, S', h1, h2, rfl⟩ := h
    exact D.rd_of_own h1 rfl (D.ownRows_rd sz es xs S' h2 (fun g hg => hk g (by simp [hg]))) (fun g hg => hk g (by simp [hg]))
theorem D.ownRow_rd {w : World} {ok : Nat → Prop} : ∀ (ds : List D) (us : List Value) (S : List Nat), D.ownRow w ds us S → (∀ g ∈ S, ok g) → D.rdRow w ok ds us
  | [], us, S, h, _ => by simp only [D.ownRow] at h; simpa only [D.rdRow] using h.1
  | d :: ds, us, S, h, hk => by
    simp only [D.ownRow] at h
    simp only [D.rdRow]
    obtain ⟨u, us', S1, S2, rfl, rfl, h1, h2⟩ := h
    exact ⟨u, us', rfl, D.own_rd d u S1 h1 (fun g hg => hk g (by simp [hg])), D.ownRow_rd ds us' S2 h2 (fun g hg => hk g (by simp [hg]))⟩
theorem D.ownRows_rd {w : World} {ok : Nat → Prop} (sz : Nat) : ∀ (es : List (List D)) (xs : List Value) (S : List Nat), D.ownRows w sz es xs S → (∀ g ∈ S, ok g) → D.rdCells w ok sz es xs
  | [], xs, S, h, _ => by simp only [D.ownRows] at h; simpa only [D.rdCells] using h.1
  | e :: es, xs, S, h, hk => by
    simp only [D.ownRows] at h
    simp only [D.rdCells]
    obtain ⟨us, xs', S1, S2, rfl, hl, rfl, h1, h2⟩ := h
    exact ⟨us, xs', rfl, hl, D.ownRow_rd e us S1 h1 (fun g hg => hk g (by simp [hg])), D.ownRows_rd sz es xs' S2 h2 (fun g hg => hk g (by simp [hg]))⟩
end
/-- v is made, reads as d; its blocks are ok. -/
def Made (w : World) (ok : Nat → Prop) (d : D) (v : Value) : Prop := ∃ S, d.own w v S ∧ S.Nodup ∧ ∀ g ∈ S, ok g
def MadeRow (w : World) (ok : Nat → Prop) (ds : List D) (us : List Value) : Prop := ∃ S, D.ownRow w ds us S ∧ S.Nodup ∧ ∀ g ∈ S, ok g
def MadeCells (w : World) (ok : Nat → Prop) (sz : Nat) (es : List (List D)) (xs : List Value) : Prop := ∃ S, D.ownRows w sz es xs S ∧ S.Nodup ∧ ∀ g ∈ S, ok g
theorem Made.keep {w w' : World} {ok ok' : Nat → Prop} {d : D} {v : Value} (h : Made w ok d v) (hk : ∀ g, ok g → g < w.heap.size → ok' g ∧ w'.heap[g]? = w.heap[g]?) : Made w' ok' d v := by
  obtain ⟨S, h1, h2, h3⟩ := h
  have hl := D.own_lt _ _ _ h1
  exact ⟨S, D.own_mono _ _ _ h1 (fun g hg => (hk g (h3 g hg) (hl g hg)).2), h2, fun g hg => (hk g (h3 g hg) (hl g hg)).1⟩
theorem MadeRow.keep {w w' : World} {ok ok' : Nat → Prop} {ds : List D} {us : List Value} (h : MadeRow w ok ds us) (hk : ∀ g, ok g → g < w.heap.size → ok' g ∧ w'.heap[g]? = w.heap[g]?) : MadeRow w' ok' ds us := by
  obtain ⟨S, h1, h2, h3⟩ := h
  have hl := D.ownRow_lt _ _ _ h1
  exact ⟨S, D.ownRow_mono _ _ _ h1 (fun g hg => (hk g (h3 g hg) (hl g hg)).2), h2, fun g hg => (hk g (h3 g hg) (hl g hg)).1⟩
theorem MadeCells.keep {w w' : World} {ok ok' : Nat → Prop} {sz : Nat} {es : List (List D)} {xs : List Value} (h : MadeCells w ok sz es xs) (hk : ∀ g, ok g → g < w.heap.size → ok' g ∧ w'.heap[g]? = w.heap[g]?) : MadeCells w' ok' sz es xs := by
  obtain ⟨S, h1, h2, h3⟩ := h
  have hl := D.ownRows_lt _ _ _ _ h1
  exact ⟨S, D.ownRows_mono _ _ _ _ h1 (fun g hg => (hk g (h3 g hg) (hl g hg)).2), h2, fun g hg => (hk g (h3 g hg) (hl g hg)).1⟩
theorem Made.rd {w : World} {ok : Nat → Prop} {d : D} {v : Value} (h : Made w ok d v) : d.rd w ok v := by
  obtain ⟨S, h1, _, h3⟩ := h
  exact D.own_rd _ _ _ h1 h3
theorem MadeRow.rd {w : World} {ok : Nat → Prop} {ds : List D} {us : List Value} (h : MadeRow w ok ds us) : D.rdRow w ok ds us := by
  obtain ⟨S, h1, _, h3⟩ := h
  exact D.ownRow_rd _ _ _ h1 h3
theorem MadeCells.rd {w : World} {ok : Nat → Prop} {sz : Nat} {es : List (List D)} {xs : List Value} (h : MadeCells w ok sz es xs) : D.rdCells w ok sz es xs := by
  obtain ⟨S, h1, _, h3⟩ := h
  exact D.ownRows_rd _ _ _ _ h1 h3
theorem Made.imp {w : World} {ok ok' : Nat → Prop} {d : D} {v : Value} (h : Made w ok d v) (hk : ∀ g, ok g → ok' g) : Made w ok' d v := h.keep (fun g hg _ => ⟨hk g hg, rfl⟩)
theorem MadeRow.imp {w : World} {ok ok' : Nat → Prop} {d : List D} {v : List Value} (h : MadeRow w ok d v) (hk : ∀ g, ok g → ok' g) : MadeRow w ok' d v := h.keep (fun g hg _ => ⟨hk g hg, rfl⟩)
theorem MadeCells.imp {w : World} {ok ok' : Nat → Prop} {sz : Nat} {es : List (List D)} {xs : List Value} (h : MadeCells w ok sz es xs) (hk : ∀ g, ok g → ok' g) : MadeCells w ok' sz es xs := h.keep (fun g hg _ => ⟨hk g hg, rfl⟩)
theorem Made.ext {w w' : World} {ok : Nat → Prop} {d : D} {v : Value} (h : Made w ok d v) (hb : Below w.heap.size w w') : Made w' ok d v := h.keep (fun g hg hl => ⟨hg, hb.block g hl⟩)
theorem MadeRow.ext {w w' : World} {ok : Nat → Prop} {d : List D} {v : List Value} (h : MadeRow w ok d v) (hb : Below w.heap.size w w') : MadeRow w' ok d v := h.keep (fun g hg hl => ⟨hg, hb.block g hl⟩)
theorem Made.set {w : World} {ok : Nat → Prop} {d : D} {v : Value} {p : Addr} {u : Value} (h : Made w ok d v) (hp : ∀ g, ok g → g ≠ p.block) : Made (w.setCell p u) ok d v := h.keep (fun g hg _ => ⟨hg, Below.heap_setCell w p u g (hp g hg)⟩)
theorem MadeCells.nil (w : World) (ok : Nat → Prop) (sz : Nat) : MadeCells w ok sz [] [] := ⟨[], by simp [D.ownRows], by simp, by simp⟩
theorem MadeRow.nil (w : World) (ok : Nat → Prop) : MadeRow w ok [] [] := ⟨[], by simp [D.ownRow], by simp, by simp⟩
theorem MadeRow.cons {w : World} {ok ok1 ok2 : Nat → Prop} {d : D} {u : Value} {ds : List D} {us : List Value} (h : Made w ok1 d u) (k : MadeRow w ok2 ds us) (h1 : ∀ g, ok1 g → ok g) (h2 : ∀ g, ok2 g → ok g) (hn : ∀ g, ok1 g → ok2 g → False) : MadeRow w ok (d :: ds) (u :: us) := by
  obtain ⟨S1, a1, a2, a3⟩ := h
  obtain ⟨S2, b1, b2, b3⟩ := k
  refine ⟨S1 ++ S2, ?_, ?_, ?_⟩
  · simp only [D.ownRow]
    exact ⟨u, us, S1, S2, rfl, rfl, a1, b1⟩
  · rw [List.nodup_append]
    exact ⟨a2, b2, fun x hx y hy e => hn x (a3 x hx) (e ▸ b3 y hy)⟩
  · intro g hg
    rcases List.mem_append.1 hg with hg | hg
    · exact h1 g (a3 g hg)
    · exact h2 g (b3 g hg)
theorem Made.num {w : World} (k : IntKind) (n : Int) : Made w (fun _ => False) (.num k n) (.int k n) := ⟨[], by simp [D.own], by simp, by simp⟩
theorem Made.txt {w : World} (s : ByteArray) : Made w (fun _ => False) (.txt s) (.string s) := ⟨[], by simp [D.own], by simp, by simp⟩
theorem Made.tru {w : World} (b : Bool) : Made w (fun _ => False) (.tru b) (.bool b) := ⟨[], by simp [D.own], by simp, by simp⟩
/-- A field that leads to no block. -/
theorem MadeRow.num {w : World} {ok : Nat → Prop} {ds : List D} {us : List Value} (k : IntKind) (n : Int) (h : MadeRow w ok ds us) : MadeRow w ok (.num k n :: ds) (.int k n :: us) := MadeRow.cons (Made.num k n) h (fun _ h => h.elim) (fun _ h => h) (fun _ h _ => h)
theorem MadeRow.txt {w : World} {ok : Nat → Prop} {ds : List D} {us : List Value} (s : ByteArray) (h : MadeRow w ok ds us) : MadeRow w ok (.txt s :: ds) (.string s :: us) := MadeRow.cons (Made.txt s) h (fun _ h => h.elim) (fun _ h => h) (fun _ h _ => h)
theorem MadeRow.tru {w : World} {ok : Nat → Prop} {ds : List D} {us : List Value} (b : Bool) (h : MadeRow w ok ds us) : MadeRow w ok (.tru b :: ds) (.bool b :: us) := MadeRow.cons (Made.tru b) h (fun _ h => h.elim) (fun _ h => h) (fun _ h _ => h)
theorem MadeRow.one {w : World} {ok : Nat → Prop} {d : D} {u : Value} (h : Made w ok d u) : MadeRow w ok [d] [u] := MadeRow.cons h (MadeRow.nil w (fun _ => False)) (fun _ h => h) (fun _ h => h.elim) (fun _ _ h => h)
theorem D.ownRows_snoc {w : World} {sz : Nat} {e : List D} {us : List Value} {T : List Nat} (hl : us.length = sz) (he : D.ownRow w e us T) : ∀ {es : List (List D)} {xs : List Value} {S : List Nat}, D.ownRows w sz es xs S → D.ownRows w sz (es ++ [e]) (xs ++ us) (S ++ T)
  | [], xs, S, h => by
    simp only [D.ownRows] at h
    obtain ⟨rfl, rfl⟩ := h
    simp only [List.nil_append, D.ownRows]
    exact ⟨us, [], T, [], by simp, hl, by simp, he, rfl, rfl⟩
  | e' :: es, xs, S, h => by
    simp only [D.ownRows] at h
    obtain ⟨us', xs', S1, S2, rfl, h2, rfl, h3, h4⟩ := h
    simp only [List.cons_append, D.ownRows]
    exact ⟨us', xs' ++ us, S1, S2 ++ T, by simp, h2, by simp, h3, D.ownRows_snoc hl he h4⟩
theorem MadeCells.snoc {w : World} {ok : Nat → Prop} {sz N : Nat} {es : List (List D)} {xs : List Value} {e : List D} {us : List Value} (hl : us.length = sz) (he : MadeRow w (fun g => ok g ∧ N ≤ g) e us) (h : MadeCells w (fun g => ok g ∧ g < N) sz es xs) : MadeCells w ok sz (es ++ [e]) (xs ++ us) := by
  obtain ⟨T, a1, a2, a3⟩ := he
  obtain ⟨S, b1, b2, b3⟩ := h
  refine ⟨S ++ T, D.ownRows_snoc hl a1 b1, ?_, ?_⟩
  · rw [List.nodup_append]
    exact ⟨b2, a2, fun x hx y hy e => by
      have h1 := (b3 x hx).2
      have h2 := (a3 y hy).2
      omega⟩
  · intro g hg
    rcases List.mem_append.1 hg with hg | hg
    · exact (b3 g hg).1
    · exact (a3 g hg).1
theorem Made.of_row {w : World} {ok : Nat → Prop} {base e sz n : Nat} {v : Value} {xs : List Value} {es : List (List D)} (ho : w.ownsRow base e sz v n xs) (hn : es.length = n) (hc : MadeCells w (fun g => ok g ∧ v.ownBlock ≠ some g) sz es xs) (hok : ∀ g, v.ownBlock = some g → ok g) : Made w ok (.row e sz es) v := by
  subst hn
  obtain ⟨S, a1, a2, a3⟩ := hc
  refine ⟨v.ownBlock.toList ++ S, ?_, ?_, ?_⟩
  · simp only [D.own]
    exact ⟨xs, S, ownsRow_base ho (fun _ _ => Nat.zero_le _), a1, rfl⟩
  · rw [List.nodup_append]
    refine ⟨?_, a2, fun x hx y hy e => ?_⟩
    · cases v.ownBlock <;> simp
    · have := (a3 y hy).2
      rw [Option.mem_toList] at hx
      exact this (e ▸ hx)
  · intro g hg
    rcases List.mem_append.1 hg with hg | hg
    · exact hok g (by rw [Option.mem_toList] at hg; exact hg)
    · exact (a3 g hg).1
theorem Made.nil (w : World) (ok : Nat → Prop) (e sz : Nat) : Made w ok (.row e sz []) (.slice none 0 0) := ⟨[], by simp only [D.own, List.length_nil]; exact ⟨[], [], ⟨by simp, .inl ⟨rfl, rfl⟩⟩, by simp [D.ownRows], rfl⟩, by simp, by simp⟩
theorem MadeCells.plain {w : World} {ok : Nat → Prop} {α : Type} {f : α → D} {g : α → Value} (hfg : ∀ x, (f x).own w (g x) []) : ∀ xs : List α, MadeCells w ok 1 (xs.map fun x => [f x]) (xs.map g) := by
  intro xs
  refine ⟨[], ?_, by simp, by simp⟩
  induction xs with
  | nil => simp [D.ownRows]
  | cons x xs ih =>
    simp only [List.map_cons, D.ownRows, D.ownRow]
    exact ⟨[g x], _, [], [], rfl, rfl, rfl, ⟨_, _, [], [], rfl, rfl, hfg x, rfl, rfl⟩, ih⟩
theorem MadeCells.ints {w : World} {ok : Nat → Prop} {k : IntKind} (xs : List Int) : MadeCells w ok 1 (xs.map fun x => [.num k x]) (xs.map (Value.int k)) := MadeCells.plain (f := fun x => D.num k x) (g := fun x => Value.int k x) (fun x => by simp [D.own]) xs
theorem MadeCells.strs {w : World} {ok : Nat → Prop} (xs : List ByteArray) : MadeCells w ok 1 (xs.map fun x => [.txt x]) (xs.map Value.string) := MadeCells.plain (f := fun x => D.txt x) (g := fun x => Value.string x) (fun x => by simp [D.own]) xs
/-- A kid more: the row grown by one element that was made since. -/
theorem MadeCells.next {wr w2 wa w3 : World} {B e sz k : Nat} {v v' : Value} {es : List (List D)} {d : List D} {xs us : List Value} (hb : Below wr.heap.size wr w2) (ha : Below w2.heap.size w2 wa) (hg : wa.grownBy w3 v.ownBlock)
    (hown : wr.ownsRow B e sz v k xs) (hat : v'.ownBlock = v.ownBlock ∨ v'.ownBlock = some wa.heap.size) (hcells : MadeCells wr (fun g => B ≤ g ∧ v.ownBlock ≠ some g) sz es xs) (hus : us.length = sz) (hr : MadeRow w2 (fun g => wr.heap.size ≤ g) d us) (hB : B ≤ wr.heap.size) :
    MadeCells w3 (fun g => B ≤ g ∧ v'.ownBlock ≠ some g) sz (es ++ [d]) (xs ++ us) := by
  have hz2 := hb.size
  have hza := ha.size
  have hvl : ∀ g, v.ownBlock = some g → g < wr.heap.size := fun g hg => (hown.lt g hg).2
  have hne : ∀ g, g < w2.heap.size → v.ownBlock ≠ some g → v'.ownBlock ≠ some g := by
    intro g hg hn hc
    rcases hat with h | h
    · exact hn (h ▸ hc)
    · rw [h] at hc
      simp at hc
      omega
  refine MadeCells.snoc (N := wr.heap.size) hus ?_ ?_
  · refine hr.keep (fun g hg' hl => ⟨⟨⟨by omega, hne g hl ?_⟩, hg'⟩, ?_⟩)
    · intro hc
      have := hvl g hc
      omega
    · rw [hg.block g (by omega) ?_, ha.block g hl]
      intro hc
      have := hvl g hc.symm
      omega
  · refine hcells.keep (fun g hg' hl => ⟨⟨⟨hg'.1, hne g (by omega) hg'.2⟩, hl⟩, ?_⟩)
    rw [hg.block g (by omega) (Ne.symm hg'.2), ha.block g (by omega), hb.block g hl]
end Wh
