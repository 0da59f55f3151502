import Derived.WalkKit
import Derived.Below
import Derived.OwnWalk
import Derived.WalkLawsBesides
import Derived.WalkSpells
import Derived.KernelRfl
import Derived.Lib.Hide
import Derived.Laws.StructEq
import Derived.Maps.AppendAt
set_option linter.unusedVariables false
open Go Go.RowKit
namespace Wh
/-- Data: what a value's cells say. -/
inductive D where
  | num (k : IntKind) (n : Int)
  | tru (x : Bool)
  | txt (x : ByteArray)
  | row (e sz : Nat) (es : List (List D))

mutual
/-- v reads as d in w; every block that is looked at is ok. -/
def D.rd (w : World) (ok : Nat → Prop) : D → Value → Prop
  | .num k n, v => v = .int k n
  | .tru x, v => v = .bool x
  | .txt x, v => v = .string x
  | .row _ sz es, v => ∃ A c, v = .slice A es.length c ∧ (es.length ≤ c ∧ c ≤ maxLen) ∧ (A = none → c = 0) ∧ D.rdRows w ok sz es A 0
def D.rdRow (w : World) (ok : Nat → Prop) : List D → List Value → Prop
  | [], us => us = []
  | d :: ds, us => ∃ u us', us = u :: us' ∧ D.rd w ok d u ∧ D.rdRow w ok ds us'
def D.rdRows (w : World) (ok : Nat → Prop) (sz : Nat) : List (List D) → Option Addr → Nat → Prop
  | [], _, _ => True
  | e :: es, A, k => (∃ g o us, A = some ⟨g, o, none⟩ ∧ (ok g ∧ g < w.heap.size) ∧ us.length = sz ∧ D.rdRow w ok e us ∧ ∀ j, j < sz → w.cell? ⟨g, o + (k * sz + j), none⟩ = us[j]?) ∧ D.rdRows w ok sz es A (k + 1)
end
mutual
/-- v is made, reads as d in w, each slice in a block of its own: these are S. -/
def D.own (w : World) : D → Value → List Nat → Prop
  | .num k n, v, S => v = .int k n ∧ S = []
  | .tru x, v, S => v = .bool x ∧ S = []
  | .txt x, v, S => v = .string x ∧ S = []
  | .row e sz es, v, S => ∃ xs S', w.ownsRow 0 e sz v es.length xs ∧ D.ownRows w sz es xs S' ∧ S = v.ownBlock.toList ++ S'
def D.ownRow (w : World) : List D → List Value → List Nat → Prop
  | [], us, S => us = [] ∧ S = []
  | d :: ds, us, S => ∃ u us' S1 S2, us = u :: us' ∧ S = S1 ++ S2 ∧ D.own w d u S1 ∧ D.ownRow w ds us' S2
def D.ownRows (w : World) (sz : Nat) : List (List D) → List Value → List Nat → Prop
  | [], xs, S => xs = [] ∧ S = []
  | e :: es, xs, S => ∃ us xs' S1 S2, xs = us ++ xs' ∧ us.length = sz ∧ S = S1 ++ S2 ∧ D.ownRow w e us S1 ∧ D.ownRows w sz es xs' S2
end
theorem lt_of_block {w w' : World} {g : Nat} (h : w'.heap[g]? = w.heap[g]?) (hl : g < w.heap.size) : g < w'.heap.size := by
  rw [Array.getElem?_eq_getElem hl] at h
  exact (Array.getElem?_eq_some_iff.1 h).1
mutual
theorem D.rd_mono {w w' : World} {ok ok' : Nat → Prop} (h : ∀ g, ok g → ok' g ∧ w'.heap[g]? = w.heap[g]?) : ∀ (d : D) (v : Value), d.rd w ok v → d.rd w' ok' v
  | .num k n, v, hr => by simpa [D.rd] using hr
  | .tru x, v, hr => by simpa [D.rd] using hr
  | .txt x, v, hr => by simpa [D.rd] using hr
  | .row e sz es, v, hr => by
    simp only [D.rd] at hr ⊢
    obtain ⟨A, c, h1, h2, h3, h4⟩ := hr
    exact ⟨A, c, h1, h2, h3, D.rdRows_mono h sz es A 0 h4⟩
theorem D.rdRow_mono {w w' : World} {ok ok' : Nat → Prop} (h : ∀ g, ok g → ok' g ∧ w'.heap[g]? = w.heap[g]?) : ∀ (d : List D) (v : List Value), D.rdRow w ok d v → D.rdRow w' ok' d v
  | [], v, hr => by simpa [D.rdRow] using hr
  | d :: ds, v, hr => by
    simp only [D.rdRow] at hr ⊢
    obtain ⟨u, us', h1, h2, h3⟩ := hr
    exact ⟨u, us', h1, D.rd_mono h d u h2, D.rdRow_mono h ds us' h3⟩
theorem D.rdRows_mono {w w' : World} {ok ok' : Nat → Prop} (h : ∀ g, ok g → ok' g ∧ w'.heap[g]? = w.heap[g]?) (sz : Nat) : ∀ (es : List (List D)) (A : Option Addr) (k : Nat), D.rdRows w ok sz es A k → D.rdRows w' ok' sz es A k
  | [], A, k, _ => by simp [D.rdRows]
  | e :: es, A, k, hr => by
    simp only [D.rdRows] at hr ⊢
    obtain ⟨⟨g, o, us, h1, h2, h3, h4, h5⟩, h6⟩ := hr
    refine ⟨⟨g, o, us, h1, ⟨(h g h2.1).1, lt_of_block (h g h2.1).2 h2.2⟩, h3, D.rdRow_mono h e us h4, fun j hj => ?_⟩, D.rdRows_mono h sz es A (k + 1) h6⟩
    rw [← h5 j hj]
    exact World.cell?_of_block (h g h2.1).2
end

/-- One element of a slice that is read. -/
theorem D.rdRows_get {w : World} {ok : Nat → Prop} {sz : Nat} : ∀ (es : List (List D)) (A : Option Addr) (k : Nat), D.rdRows w ok sz es A k → ∀ i (h : i < es.length),
    ∃ g o us, A = some ⟨g, o, none⟩ ∧ (ok g ∧ g < w.heap.size) ∧ us.length = sz ∧ D.rdRow w ok es[i] us ∧ ∀ j, j < sz → w.cell? ⟨g, o + ((k + i) * sz + j), none⟩ = us[j]?
  | [], _, _, _, i, h => absurd h (by simp)
  | e :: es, A, k, hr, i, h => by
    simp only [D.rdRows] at hr
    cases i with
    | zero => simpa using hr.1
    | succ i =>
      obtain ⟨g, o, us, h1, h2, h3, h4, h5⟩ := D.rdRows_get es A (k + 1) hr.2 i (by simpa using h)
      refine ⟨g, o, us, h1, h2, h3, by simpa using h4, fun j hj => ?_⟩
      rw [show k + (i + 1) = k + 1 + i from by omega]
      exact h5 j hj
theorem D.rd_slice {w : World} {ok : Nat → Prop} {e sz : Nat} {es : List (List D)} {v : Value} (h : D.rd w ok (.row e sz es) v) :
    ∃ A c, v = .slice A es.length c ∧ es.length ≤ 9223372036854775807 ∧ (A = none → c = 0) ∧ ∀ i (h : i < es.length), ∃ g o us, A = some ⟨g, o, none⟩ ∧ (ok g ∧ g < w.heap.size) ∧ us.length = sz ∧ D.rdRow w ok es[i] us ∧ ∀ j, j < sz → w.cell? ⟨g, o + (i * sz + j), none⟩ = us[j]? := by
  simp only [D.rd] at h
  obtain ⟨A, c, h1, h2, hn, h3⟩ := h
  refine ⟨A, c, h1, by have := h2; simp only [maxLen] at this; omega, hn, fun i hi => ?_⟩
  have := D.rdRows_get es A 0 h3 i hi
  simpa using this
theorem D.rd_cap {w : World} {ok : Nat → Prop} {e sz : Nat} {es : List (List D)} {A : Option Addr} {n c : Nat} (h : D.rd w ok (.row e sz es) (.slice A n c)) : n = es.length ∧ n ≤ c ∧ c ≤ 9223372036854775807 := by
  simp only [D.rd] at h
  obtain ⟨A', c', h1, h2, _⟩ := h
  injection h1 with _ h1 h3
  subst h1 h3
  simp only [maxLen] at h2
  exact ⟨rfl, h2⟩
/-- A slice of whole numbers. -/
def D.ints (e : Nat) (k : IntKind) (xs : List Int) : D := .row e 1 (xs.map fun x => [.num k x])
theorem D.rd_ints {w : World} {ok : Nat → Prop} {e : Nat} {k : IntKind} {xs : List Int} {v : Value} (h : D.rd w ok (.ints e k xs) v) :
    ∃ A c, v = .slice A xs.length c ∧ xs.length ≤ 9223372036854775807 ∧ (A = none → c = 0) ∧ ∀ i, i < xs.length → ∃ g o x, A = some ⟨g, o, none⟩ ∧ (ok g ∧ g < w.heap.size) ∧ xs[i]? = some x ∧ w.cell? ⟨g, o + i, none⟩ = some (.int k x) := by
  obtain ⟨A, c, h1, h2, hn, h3⟩ := D.rd_slice h
  refine ⟨A, c, by simpa using h1, by simpa using h2, hn, fun i hi => ?_⟩
  obtain ⟨g, o, us, e1, e2, e3, e4, e5⟩ := h3 i (by simpa using hi)
  refine ⟨g, o, xs[i], e1, e2, by simp [hi], ?_⟩
  have := e5 0 (by omega)
  simp only [List.getElem_map, D.rdRow, D.rd] at e4
  obtain ⟨u, us', rfl, rfl, rfl⟩ := e4
  simpa using this
theorem ret_bool {a b : Bool} (h : a = b) : Ending.returned (.bool a) = .returned (.bool b) := by rw [h]
theorem ret_int {k : IntKind} {a b : Int} (h : a = b) : Ending.returned (.int k a) = .returned (.int k b) := by rw [h]
theorem ret_str {a b : ByteArray} (h : a = b) : Ending.returned (.string a) = .returned (.string b) := by rw [h]
theorem ret_dec {p : Prop} [Decidable p] (h : p) : Ending.returned (.bool true) = .returned (.bool (decide p)) := by rw [decide_eq_true h]
theorem ret_ndec {p : Prop} [Decidable p] (h : ¬ p) : Ending.returned (.bool false) = .returned (.bool (decide p)) := by rw [decide_eq_false h]
theorem take_eq_succ {α : Type} {xs ys : List α} {k : Nat} {x y : α} (h : xs.take k = ys.take k) (hx : xs[k]? = some x) (hy : ys[k]? = some y) (he : x = y) : xs.take (k + 1) = ys.take (k + 1) := by
  rw [List.take_add_one, List.take_add_one, h, hx, hy, he]
theorem take_ne {α : Type} {xs ys : List α} {k : Nat} {x y : α} (hx : xs[k]? = some x) (hy : ys[k]? = some y) (he : x ≠ y) : xs ≠ ys := by
  rintro rfl
  rw [hx] at hy
  exact he (by injection hy)
theorem take_all {α : Type} {xs ys : List α} {k : Nat} (hl : xs.length = ys.length) (hk : ¬ k < xs.length) (h : xs.take k = ys.take k) : xs = ys := by
  rw [List.take_of_length_le (by omega), List.take_of_length_le (by omega)] at h
  exact h

/-! ### rows under the pen -/
/-- xs are the cells of es, one behind the other. -/
def D.rdCells (w : World) (ok : Nat → Prop) (sz : Nat) : List (List D) → List Value → Prop
  | [], xs => xs = []
  | e :: es, xs => ∃ us xs', xs = us ++ xs' ∧ us.length = sz ∧ D.rdRow w ok e us ∧ D.rdCells w ok sz es xs'
theorem D.rdCells_mono {w w' : World} {ok ok' : Nat → Prop} (h : ∀ g, ok g → ok' g ∧ w'.heap[g]? = w.heap[g]?) {sz : Nat} : ∀ {es : List (List D)} {xs : List Value}, D.rdCells w ok sz es xs → D.rdCells w' ok' sz es xs
  | [], xs, hr => by simpa [D.rdCells] using hr
  | e :: es, xs, hr => by
    simp only [D.rdCells] at hr ⊢
    obtain ⟨us, xs', h1, h2, h3, h4⟩ := hr
    exact ⟨us, xs', h1, h2, D.rdRow_mono h e us h3, D.rdCells_mono h h4⟩
theorem D.rdCells_snoc {w : World} {ok : Nat → Prop} {sz : Nat} {e : List D} {us : List Value} (hl : us.length = sz) (he : D.rdRow w ok e us) : ∀ {es : List (List D)} {xs : List Value}, D.rdCells w ok sz es xs → D.rdCells w ok sz (es ++ [e]) (xs ++ us)
  | [], xs, hr => by
    simp only [D.rdCells] at hr
    subst hr
    simp only [List.nil_append, D.rdCells]
    exact ⟨us, [], by simp, hl, he, rfl⟩
  | e' :: es, xs, hr => by
    simp only [D.rdCells] at hr
    obtain ⟨us', xs', rfl, h2, h3, h4⟩ := hr
    simp only [List.cons_append, D.rdCells]
    exact ⟨us', xs' ++ us, by simp, h2, h3, D.rdCells_snoc hl he h4⟩
theorem D.rdCells_length {w : World} {ok : Nat → Prop} {sz : Nat} : ∀ {es : List (List D)} {xs : List Value}, D.rdCells w ok sz es xs → xs.length = es.length * sz
  | [], xs, hr => by simp only [D.rdCells] at hr; simp [hr]
  | e :: es, xs, hr => by
    simp only [D.rdCells] at hr
    obtain ⟨us, xs', rfl, h2, h3, h4⟩ := hr
    have := D.rdCells_length h4
    simp [this, h2, Nat.add_mul]
    omega
theorem add_plain' (g j : Nat) : (⟨g, 0, none⟩ : Addr).add j = ⟨g, j, none⟩ := by unfold Addr.add; split <;> simp_all
theorem D.rdRows_of_cells {w : World} {ok : Nat → Prop} {sz g : Nat} (hg : ok g ∧ g < w.heap.size) {ys : List Value} (hc : ∀ j u, ys[j]? = some u → w.cell? ⟨g, j, none⟩ = some u) : ∀ {es : List (List D)} {xs : List Value} {k : Nat}, D.rdCells w ok sz es xs → ys.drop (k * sz) = xs → D.rdRows w ok sz es (some ⟨g, 0, none⟩) k
  | [], _, _, _, _ => by simp [D.rdRows]
  | e :: es, xs, k, hr, hd => by
    simp only [D.rdCells] at hr
    obtain ⟨us, xs', rfl, h2, h3, h4⟩ := hr
    simp only [D.rdRows]
    refine ⟨⟨g, 0, us, rfl, hg, h2, h3, fun j hj => ?_⟩, D.rdRows_of_cells hg hc h4 ?_⟩
    · have hj' : j < us.length := by omega
      have e1 : ys[k * sz + j]? = some us[j] := by
        rw [← List.getElem?_drop, hd, List.getElem?_append_left hj', List.getElem?_eq_getElem hj']
      rw [List.getElem?_eq_getElem hj', Nat.zero_add]
      exact hc _ _ e1
    · rw [Nat.add_mul, Nat.one_mul, ← List.drop_drop, hd]
      subst h2
      simp
/-- What was made is read. -/
theorem D.rd_of_own {w : World} {ok : Nat → Prop} {base e sz n : Nat} {v : Value} {xs : List Value} {es : List (List D)} (ho : w.ownsRow base e sz v n xs) (hn : es.length = n) (hc : D.rdCells w ok sz es xs) (hok : ∀ g, v.ownBlock = some g → ok g) : D.rd w ok (.row e sz es) v := by
  subst hn
  simp only [D.rd]
  have hcells := fun g hg => ho.cells (g := g) hg
  rcases ho.2 with ⟨rfl, h0⟩ | ⟨g, cap, cur, rfl, _, _, hle, hcm, _, _⟩
  · have : es = [] := List.eq_nil_of_length_eq_zero h0
    subst this
    exact ⟨none, 0, rfl, by simp, fun _ => rfl, by simp [D.rdRows]⟩
  · refine ⟨_, cap, rfl, ⟨hle, hcm⟩, (fun h => by simp at h), ?_⟩
    have h := hcells g rfl
    refine D.rdRows_of_cells ⟨hok g rfl, (ho.lt g rfl).2⟩ (ys := xs) (fun j u hu => ?_) hc (by simp)
    have := h j u hu
    rwa [add_plain'] at this

theorem add_lit' (g o j : Nat) : (⟨g, o, none⟩ : Addr).add j = ⟨g, o + j, none⟩ := by unfold Addr.add; split <;> simp_all
theorem D.ints_news {w : World} {ok : Nat → Prop} {e : Nat} {k : IntKind} {xs : List Int} {ad : Addr} {n c : Nat} (h : D.rd w ok (.ints e k xs) (.slice (some ad) n c)) :
    ∀ j u, (xs.map (Value.int k))[j]? = some u → w.cell? (ad.add j) = some u := by
  obtain ⟨A, c', h1, _, _, hc⟩ := D.rd_ints h
  intro j u hu
  have hj : j < xs.length := by
    have := (List.getElem?_eq_some_iff.1 hu).1
    simpa using this
  obtain ⟨g, o, x, e1, _, e3, e4⟩ := hc j hj
  injection h1 with h1 _ _
  rw [← h1] at e1
  injection e1 with e1
  subst e1
  rw [add_lit', e4]
  simpa [e3] using hu
theorem D.cells_ints {w : World} {ok : Nat → Prop} {k : IntKind} : ∀ xs : List Int, D.rdCells w ok 1 (xs.map fun x => [.num k x]) (xs.map (Value.int k))
  | [] => by simp [D.rdCells]
  | x :: xs => by
    simp only [List.map_cons, D.rdCells]
    exact ⟨[.int k x], _, rfl, rfl, ⟨_, _, rfl, rfl, rfl⟩, D.cells_ints xs⟩
theorem one_ints {k : IntKind} {xs : List Int} : ∀ u ∈ xs.map (Value.int k), u.oneCell' = true := by
  intro u hu
  simp only [List.mem_map] at hu
  obtain ⟨x, _, rfl⟩ := hu
  rfl
/-- Old cells, old blocks: what is below the old size reads as it did. -/
theorem ext_alloc {w W : World} (h : Below w.heap.size w W) (o : Obj) : Below w.heap.size w (W.alloc o) := h.alloc h.size o
theorem D.rd_below {w w' : World} {ok : Nat → Prop} {d : D} {v : Value} {B : Nat} (h : d.rd w ok v) (hok : ∀ g, ok g → g < B) (hb : Below B w w') : d.rd w' ok v :=
  D.rd_mono (fun g hg => ⟨hg, hb.block g (hok g hg)⟩) d v h

theorem D.rd_nil {w : World} {ok : Nat → Prop} (e sz : Nat) : D.rd w ok (.row e sz []) (.slice none 0 0) := by
  simp only [D.rd]
  exact ⟨none, 0, rfl, by simp, fun _ => rfl, by simp [D.rdRows]⟩
theorem cell_alloc {w : World} {a : Addr} {v : Value} (o : Obj) (h : w.cell? a = some v) : (w.alloc o).cell? a = some v :=
  (World.cell?_of_block (Below.heap_alloc w o a.block (World.block_lt_of_cell? w a h))).trans h

theorem bcell {W w1 : World} (hb : Below W.heap.size W w1) : (∀ b o, b < W.heap.size → w1.cell? ⟨b, o, none⟩ = W.cell? ⟨b, o, none⟩) ∧ (∀ b o, b < W.heap.size → w1.frozen? ⟨b, o, none⟩ = W.frozen? ⟨b, o, none⟩) :=
  ⟨fun b o h => hb.cell (p := ⟨b, o, none⟩) h, fun b o h => hb.frozen (p := ⟨b, o, none⟩) h⟩
mutual
theorem D.rd_lt {w : World} {ok : Nat → Prop} : ∀ (d : D) (v : Value), d.rd w ok v → d.rd w (fun g => ok g ∧ g < w.heap.size) v
  | .num k n, v, hr => by simpa [D.rd] using hr
  | .tru x, v, hr => by simpa [D.rd] using hr
  | .txt x, v, hr => by simpa [D.rd] using hr
  | .row e sz es, v, hr => by
    simp only [D.rd] at hr ⊢
    obtain ⟨A, c, h1, h2, h3, h4⟩ := hr
    exact ⟨A, c, h1, h2, h3, D.rdRows_lt sz es A 0 h4⟩
theorem D.rdRow_lt {w : World} {ok : Nat → Prop} : ∀ (d : List D) (v : List Value), D.rdRow w ok d v → D.rdRow w (fun g => ok g ∧ g < w.heap.size) d v
  | [], v, hr => by simpa [D.rdRow] using hr
  | d :: ds, v, hr => by
    simp only [D.rdRow] at hr ⊢
    obtain ⟨u, us', h1, h2, h3⟩ := hr
    exact ⟨u, us', h1, D.rd_lt d u h2, D.rdRow_lt ds us' h3⟩
theorem D.rdRows_lt {w : World} {ok : Nat → Prop} (sz : Nat) : ∀ (es : List (List D)) (A : Option Addr) (k : Nat), D.rdRows w ok sz es A k → D.rdRows w (fun g => ok g ∧ g < w.heap.size) sz es A k
  | [], A, k, _ => by simp [D.rdRows]
  | e :: es, A, k, hr => by
    simp only [D.rdRows] at hr ⊢
    obtain ⟨⟨g, o, us, h1, h2, h3, h4, h5⟩, h6⟩ := hr
    exact ⟨⟨g, o, us, h1, ⟨h2, h2.2⟩, h3, D.rdRow_lt e us h4, h5⟩, D.rdRows_lt sz es A (k + 1) h6⟩
end
/-- What was read is read behind whatever leaves the old blocks alone. -/
theorem D.rd_ext {w w' : World} {ok : Nat → Prop} {d : D} {v : Value} (h : d.rd w ok v) (hb : Below w.heap.size w w') : d.rd w' ok v :=
  D.rd_mono (fun g hg => ⟨hg.1, hb.block g hg.2⟩) d v (D.rd_lt d v h)
theorem D.rdRow_ext {w w' : World} {ok : Nat → Prop} {d : List D} {v : List Value} (h : D.rdRow w ok d v) (hb : Below w.heap.size w w') : D.rdRow w' ok d v :=
  D.rdRow_mono (fun g hg => ⟨hg.1, hb.block g hg.2⟩) d v (D.rdRow_lt d v h)
/-- All blocks below the size: the least that is known of what came in. -/
theorem D.rd_old {w : World} {ok : Nat → Prop} {d : D} {v : Value} (h : d.rd w ok v) : d.rd w (fun g => g < w.heap.size) v :=
  D.rd_mono (fun g hg => ⟨hg.2, rfl⟩) d v (D.rd_lt d v h)
theorem D.rdRow_old {w : World} {ok : Nat → Prop} {d : List D} {v : List Value} (h : D.rdRow w ok d v) : D.rdRow w (fun g => g < w.heap.size) d v :=
  D.rdRow_mono (fun g hg => ⟨hg.2, rfl⟩) d v (D.rdRow_lt d v h)
theorem D.rd_imp {w : World} {ok ok' : Nat → Prop} {d : D} {v : Value} (h : d.rd w ok v) (hi : ∀ g, ok g → ok' g) : d.rd w ok' v :=
  D.rd_mono (fun g hg => ⟨hi g hg, rfl⟩) d v h
theorem D.rdRow_imp {w : World} {ok ok' : Nat → Prop} {d : List D} {v : List Value} (h : D.rdRow w ok d v) (hi : ∀ g, ok g → ok' g) : D.rdRow w ok' d v :=
  D.rdRow_mono (fun g hg => ⟨hi g hg, rfl⟩) d v h

theorem own_shape {w : World} {base n : Nat} {e : TypeId} {size : Nat} {v : Value} {xs : List Value} (h : w.ownsRow base e size v n xs) : ∃ A c, v = .slice A n c := by
  rcases h.2 with ⟨rfl, rfl⟩ | ⟨g, cap, cur, rfl, _⟩
  · exact ⟨none, 0, rfl⟩
  · exact ⟨_, cap, rfl⟩

/-- A store, read: for the walk's context ('have cs := @cell_set'). -/
theorem cell_set (w : World) (p q : Addr) (v : Value) (h : (w.cell? p).isSome = true) : (w.setCell p v).cell? q = if p = q then some v else w.cell? q := by
  by_cases hpq : p = q
  · subst hpq
    rw [if_pos rfl]
    cases hc : w.cell? p with
    | none => rw [hc] at h; cases h
    | some u => exact World.cell?_setCell_same w p v hc
  · rw [if_neg hpq]
    exact World.cell?_setCell_other _ _ _ _ hpq

/-! ### blocks of one's own, whole -/
/-- Block g is a row of these cells. -/
def Blk (w : World) (g : Nat) (cs : Array Value) (t : TypeId) : Prop := w.heap[g]? = some (.cells cs t (0, 0))
theorem Blk.lt {w : World} {g : Nat} {cs : Array Value} {t : TypeId} (h : Blk w g cs t) : g < w.heap.size := (Array.getElem?_eq_some_iff.1 h).1
theorem Blk.new (w : World) (cs : Array Value) (t : TypeId) : Blk (w.alloc (.cells cs t)) w.heap.size cs t := heap_alloc_new w _
theorem Blk.alloc {w : World} {g : Nat} {cs : Array Value} {t : TypeId} (h : Blk w g cs t) (o : Obj) : Blk (w.alloc o) g cs t := (Below.heap_alloc w o g h.lt).trans h
theorem Blk.drew {w : World} {g : Nat} {cs : Array Value} {t : TypeId} (h : Blk w g cs t) : Blk w.drew g cs t := h
theorem Blk.drewN {w : World} {g n : Nat} {cs : Array Value} {t : TypeId} (h : Blk w g cs t) : Blk (w.drewN n) g cs t := h
theorem Blk.below {w w' : World} {g B : Nat} {cs : Array Value} {t : TypeId} (h : Blk w g cs t) (hb : Below B w w') (hg : g < B) : Blk w' g cs t := (hb.block g hg).trans h
theorem Blk.ext {w w' : World} {g : Nat} {cs : Array Value} {t : TypeId} (h : Blk w g cs t) (hb : Below w.heap.size w w') : Blk w' g cs t := h.below hb h.lt
theorem Blk.grown {w w' : World} {g : Nat} {cs : Array Value} {t : TypeId} {row : Option Nat} (h : Blk w g cs t) (hb : w.grownBy w' row) (hg : some g ≠ row) : Blk w' g cs t := (hb.block g h.lt hg).trans h
theorem Blk.other {w : World} {g : Nat} {cs : Array Value} {t : TypeId} (h : Blk w g cs t) {p : Addr} (hp : g ≠ p.block) (v : Value) : Blk (w.setCell p v) g cs t := (Below.heap_setCell w p v g hp).trans h
theorem Blk.set {w : World} {g : Nat} {cs : Array Value} {t : TypeId} (h : Blk w g cs t) (i : Nat) (v : Value) : Blk (w.setCell ⟨g, i, none⟩ v) g (cs.setIfInBounds i v) t := by
  unfold Blk at *
  simp [World.setCell, Array.getElem?_modify, h]
theorem Blk.cell {w : World} {g : Nat} {cs : Array Value} {t : TypeId} (h : Blk w g cs t) (i : Nat) : w.cell? ⟨g, i, none⟩ = cs[i]? := by
  unfold Blk at h
  simp [World.cell?, h]
theorem Blk.free {w : World} {g : Nat} {cs : Array Value} {t : TypeId} (h : Blk w g cs t) (i : Nat) : w.frozen? ⟨g, i, none⟩ = false := by
  unfold Blk at h
  simp [World.frozen?, h]
theorem Blk.c1 {w : World} {g : Nat} {a : Value} {t : TypeId} (h : Blk w g #[a] t) : w.cell? ⟨g, 0, none⟩ = some a ∧ w.frozen? ⟨g, 0, none⟩ = false := ⟨h.cell 0, h.free 0⟩
theorem Blk.c2 {w : World} {g : Nat} {a b : Value} {t : TypeId} (h : Blk w g #[a, b] t) : w.cell? ⟨g, 0, none⟩ = some a ∧ w.cell? ⟨g, 1, none⟩ = some b ∧ w.frozen? ⟨g, 0, none⟩ = false ∧ w.frozen? ⟨g, 1, none⟩ = false := ⟨h.cell 0, h.cell 1, h.free 0, h.free 1⟩
theorem Blk.c5 {w : World} {g : Nat} {a b c d e : Value} {t : TypeId} (h : Blk w g #[a, b, c, d, e] t) : (w.cell? ⟨g, 0, none⟩ = some a ∧ w.cell? ⟨g, 1, none⟩ = some b ∧ w.cell? ⟨g, 2, none⟩ = some c ∧ w.cell? ⟨g, 3, none⟩ = some d ∧ w.cell? ⟨g, 4, none⟩ = some e) ∧ w.frozen? ⟨g, 0, none⟩ = false ∧ w.frozen? ⟨g, 1, none⟩ = false ∧ w.frozen? ⟨g, 2, none⟩ = false ∧ w.frozen? ⟨g, 3, none⟩ = false ∧ w.frozen? ⟨g, 4, none⟩ = false :=
  ⟨⟨h.cell 0, h.cell 1, h.cell 2, h.cell 3, h.cell 4⟩, h.free 0, h.free 1, h.free 2, h.free 3, h.free 4⟩

theorem Blk.new' (w : World) (cs : Array Value) (t : TypeId) {n : Nat} (h : w.heap.size = n) : Blk (w.alloc (.cells cs t)) n cs t := h ▸ Blk.new w cs t
theorem rd_ints_A {w : World} {ok : Nat → Prop} {e : Nat} {k : IntKind} {xs : List Int} {v : Value} (h : D.rd w ok (.ints e k xs) v) : ∃ A c, v = .slice A xs.length c := by
  obtain ⟨A, c, h1, _⟩ := D.rd_ints h
  exact ⟨A, c, h1⟩

theorem D.rd_set {w : World} {ok : Nat → Prop} {d : D} {v : Value} {p : Addr} {u : Value} (h : d.rd w ok v) (hp : ∀ g, ok g → g ≠ p.block) : d.rd (w.setCell p u) ok v :=
  D.rd_mono (fun g hg => ⟨hg, Below.heap_setCell w p u g (hp g hg)⟩) d v h
theorem D.rdRow_set {w : World} {ok : Nat → Prop} {d : List D} {v : List Value} {p : Addr} {u : Value} (h : D.rdRow w ok d v) (hp : ∀ g, ok g → g ≠ p.block) : D.rdRow (w.setCell p u) ok d v :=
  D.rdRow_mono (fun g hg => ⟨hg, Below.heap_setCell w p u g (hp g hg)⟩) d v h

/-- What is known of block bm's own writing. -/
theorem grown_refl (w : World) (row : Option Nat) : w.grownBy w row := ⟨rfl, rfl, rfl, Nat.le_refl _, fun _ _ _ => rfl⟩
theorem grown_trans {a b c : World} {row : Option Nat} (h : a.grownBy b row) (k : b.grownBy c row) : a.grownBy c row :=
  ⟨k.os.trans h.os, k.tape.trans h.tape, k.output.trans h.output, Nat.le_trans h.size k.size, fun i hi hn => (k.block i (Nat.lt_of_lt_of_le hi h.size) hn).trans (h.block i hi hn)⟩
theorem grown_alloc {a w : World} {row : Option Nat} (h : a.grownBy w row) (o : Obj) : a.grownBy (w.alloc o) row :=
  ⟨h.os, h.tape, h.output, Nat.le_trans h.size (by simp), fun i hi hne => (Below.heap_alloc w o i (Nat.lt_of_lt_of_le hi h.size)).trans (h.block i hi hne)⟩
theorem grown_set {a w : World} {row : Option Nat} (h : a.grownBy w row) {p : Addr} (hp : some p.block = row ∨ a.heap.size ≤ p.block) (u : Value) : a.grownBy (w.setCell p u) row :=
  ⟨h.os, h.tape, h.output, by simpa [World.setCell] using h.size, fun i hi hne => (Below.heap_setCell w p u i (by
    rintro rfl
    rcases hp with hp | hp
    · exact hne hp
    · omega)).trans (h.block i hi hne)⟩
theorem grown_drew {a w : World} {row : Option Nat} (h : a.grownBy w row) : a.grownBy w.drew row := ⟨h.os, h.tape, h.output, h.size, h.block⟩
theorem grown_drewN {a w : World} {row : Option Nat} (h : a.grownBy w row) (n : Nat) : a.grownBy (w.drewN n) row := ⟨h.os, h.tape, h.output, h.size, h.block⟩
theorem grown_below {a w w' : World} {row : Option Nat} {B : Nat} (h : a.grownBy w row) (hb : Below B w w') (hB : a.heap.size ≤ B) : a.grownBy w' row :=
  ⟨hb.os.trans h.os, hb.tape.trans h.tape, hb.output.trans h.output, Nat.le_trans h.size hb.size, fun i hi hne => (hb.block i (Nat.lt_of_lt_of_le hi hB)).trans (h.block i hi hne)⟩
/-- Another row, or the same one, written by one who was called later. -/
theorem grown_by {a w w' : World} {row row' : Option Nat} (h : a.grownBy w row) (hg : w.grownBy w' row') (hr : ∀ k, row' = some k → some k = row ∨ a.heap.size ≤ k) : a.grownBy w' row :=
  ⟨hg.os.trans h.os, hg.tape.trans h.tape, hg.output.trans h.output, Nat.le_trans h.size hg.size, fun i hi hne => (hg.block i (Nat.lt_of_lt_of_le hi h.size) (fun e => by
    rcases hr i e.symm with h1 | h1
    · exact hne h1
    · omega)).trans (h.block i hi hne)⟩
theorem D.rd_grown {w w' : World} {ok : Nat → Prop} {d : D} {v : Value} {row : Option Nat} (h : d.rd w ok v) (hg : w.grownBy w' row) (hok : ∀ g, ok g → some g ≠ row) : d.rd w' ok v :=
  D.rd_mono (fun g hg' => ⟨hg'.1, hg.block g hg'.2 (hok g hg'.1)⟩) d v (D.rd_lt d v h)
theorem D.rdRow_grown {w w' : World} {ok : Nat → Prop} {d : List D} {v : List Value} {row : Option Nat} (h : D.rdRow w ok d v) (hg : w.grownBy w' row) (hok : ∀ g, ok g → some g ≠ row) : D.rdRow w' ok d v :=
  D.rdRow_mono (fun g hg' => ⟨hg'.1, hg.block g hg'.2 (hok g hg'.1)⟩) d v (D.rdRow_lt d v h)

/-- A call of a Go function, as one step of a region: for 'go_region_law'. -/
theorem step_call {P : Program} {ops : Array Oper} {o : Oper} {a : Act} {w : World} {K : Act → World → Prop} {Q : Exit → Act → World → Prop} {E : Prop} (f : FuncId) {args : Array Value} (hg : o.guard = none)
    (hrun : (execOp a.eval o).run P w = .ok (.enter f args) w)
    (h : Calls P f args w fun | .returned v, w'' => K (a.put o.dst v) w'' | .panicked chain, w'' => Q (.panic chain) a w'' | .outgrown, _ => LetsOut Q) :
    if Region.wanted o (yielded ops a.tmps) = true then Oper.wp P o a w K Q else E := by
  rw [if_pos (by simp [Region.wanted, hg])]
  unfold Oper.wp
  rw [hrun]
  exact h

theorem own_ne {w : World} {base : Nat} {e : TypeId} {size : Nat} {v : Value} {n : Nat} {xs : List Value} (h : w.ownsRow base e size v n xs) {bm : Nat} (hb : bm < base) : v.ownBlock = none ∨ v.ownBlock ≠ some bm := by
  cases hv : v.ownBlock with
  | none => exact .inl rfl
  | some g =>
    have := (h.lt g hv).1
    exact .inr (by simp; omega)

theorem own_ne' {w : World} {base : Nat} {e : TypeId} {size : Nat} {v : Value} {n : Nat} {xs : List Value} (h : w.ownsRow base e size v n xs) {bm : Nat} (hb : bm < base) : some bm ≠ v.ownBlock := by
  rcases own_ne h hb with h1 | h1
  · rw [h1]; simp
  · exact Ne.symm h1

/-- append of one element, as one step of a region that draws its order. -/
theorem step_append {P : Program} {ops : Array Oper} {o : Oper} {a : Act} {w : World} {K : Act → World → Prop} {Q : Exit → Act → World → Prop} {E : Prop} (hg : o.guard = none) (s x : Operand) {t e : TypeId} {z : Value} {size bytes : Nat}
    (hop : o.op = .call { callee := .builtin .append, args := #[s, x], argTypes := #[t, t] }) (ht : P.underlying t = some (.slice e)) (hinfo : (P.info? e).map (fun i => (i.zero, i.size, i.bytes)) = some (some z, size, bytes)) (hz : z.cells.size = size) (hsz : 0 < size) (hby : bytes ≤ 100000)
    (base : Nat) (v : Value) (n : Nat) (xs : List Value) (hs : a.eval s = v) (hown : w.ownsRow base e size v n xs)
    (g : Nat) (cs : Array Value) (hx : a.eval x = .slice (some ⟨g, 0, none⟩) 1 1) (hb : Blk w g cs e) (hl : cs.size = size) (h1 : ∀ u ∈ cs.toList, u.oneCell' = true) (hn : n < 1000000) (hbase : base ≤ w.heap.size)
    (hK : ∀ A c w', w'.ownsRow base e size (.slice A (n + 1) c) (n + 1) (xs ++ cs.toList) → w.grownBy w' v.ownBlock → ((Value.slice A (n + 1) c).ownBlock = v.ownBlock ∨ (Value.slice A (n + 1) c).ownBlock = some w.heap.size) → K (a.put o.dst (.slice A (n + 1) c)) w') :
    if Region.wanted o (yielded ops a.tmps) = true then Oper.wp P o a w K Q else E := by
  obtain ⟨i0, hi, hz0, hz1, hz2⟩ := info_parts hinfo
  rw [if_pos (by simp [Region.wanted, hg])]
  have hbound : (n + 1) * bytes ≤ 140737488355328 := Nat.le_trans (Nat.mul_le_mul (show n + 1 ≤ 1000000 by omega) hby) (by decide)
  obtain ⟨v1, w1, hr, hown1, hg1, _, hat⟩ := run_append_own_at (P := P) w base t o.type e i0 z size bytes ht hi hz0 hz1 hz2 hz hsz v n xs hown ⟨g, 0, none⟩ 1 1 cs.toList (by simp [hl]) (by
    intro j u hu
    rw [add_lit', Nat.zero_add, hb.cell]
    simpa using hu) h1 (by simp only [maxLen]; omega) hbound hbase
  obtain ⟨A, c, rfl⟩ := own_shape hown1
  unfold Oper.wp execOp
  simp only [hop, resolve, invoke, builtin, Sem.run_bind, Sem.run_pure, Result.andThen_ok, List.map_toArray, List.map_cons, List.map_nil, hs, hx, hr]
  exact hK A c w1 hown1 hg1 hat
/-- What the blocks of a world hold in another one. -/
theorem Blk.keep {w w' : World} {g : Nat} {cs : Array Value} {t : TypeId} (h : Blk w g cs t) (hk : w'.heap[g]? = w.heap[g]?) : Blk w' g cs t := hk.trans h
theorem D.rd_keep {w w' : World} {ok ok' : Nat → Prop} {d : D} {v : Value} (h : d.rd w ok v) (hk : ∀ g, ok g → g < w.heap.size → ok' g ∧ w'.heap[g]? = w.heap[g]?) : d.rd w' ok' v :=
  D.rd_mono (fun g hg => hk g hg.1 hg.2) d v (D.rd_lt d v h)
theorem D.rdRow_keep {w w' : World} {ok ok' : Nat → Prop} {d : List D} {v : List Value} (h : D.rdRow w ok d v) (hk : ∀ g, ok g → g < w.heap.size → ok' g ∧ w'.heap[g]? = w.heap[g]?) : D.rdRow w' ok' d v :=
  D.rdRow_mono (fun g hg => hk g hg.1 hg.2) d v (D.rdRow_lt d v h)
theorem D.rdCells_lt {w : World} {ok : Nat → Prop} {sz : Nat} : ∀ {es : List (List D)} {xs : List Value}, D.rdCells w ok sz es xs → D.rdCells w (fun g => ok g ∧ g < w.heap.size) sz es xs
  | [], xs, hr => by simpa [D.rdCells] using hr
  | e :: es, xs, hr => by
    simp only [D.rdCells] at hr ⊢
    obtain ⟨us, xs', h1, h2, h3, h4⟩ := hr
    exact ⟨us, xs', h1, h2, D.rdRow_lt e us h3, D.rdCells_lt h4⟩
theorem D.rdCells_keep {w w' : World} {ok ok' : Nat → Prop} {sz : Nat} {es : List (List D)} {xs : List Value} (h : D.rdCells w ok sz es xs) (hk : ∀ g, ok g → g < w.heap.size → ok' g ∧ w'.heap[g]? = w.heap[g]?) : D.rdCells w' ok' sz es xs :=
  D.rdCells_mono (fun g hg => hk g hg.1 hg.2) (D.rdCells_lt h)
theorem grown_keep {w w' : World} {row : Option Nat} (h : w.grownBy w' row) {g : Nat} (hl : g < w.heap.size) (hne : some g ≠ row) : w'.heap[g]? = w.heap[g]? := h.block g hl hne
/-- The round of a loop that has one kid made and appended (its variable in a new block, an order drawn; the row's field is cell c of block B). -/
theorem round_keep {wr w2 w3 : World} {o1 o2 : Obj} {bm B c : Nat} {vk v3 : Value} (hg2 : (wr.alloc o1).drew.grownBy w2 (some bm)) (hg3 : (w2.alloc o2).grownBy w3 vk.ownBlock) {g : Nat} (hl : g < wr.heap.size) (h1 : g ≠ bm) (h2 : some g ≠ vk.ownBlock) (h3 : g ≠ B) :
    (w3.setCell ⟨B, c, none⟩ v3).heap[g]? = wr.heap[g]? := by
  have hl2 : g < w2.heap.size := Nat.lt_of_lt_of_le (show g < (wr.alloc o1).drew.heap.size by show g < (wr.alloc o1).heap.size; simp; omega) hg2.size
  rw [Below.heap_setCell _ _ _ _ h3, hg3.block g (by simp; omega) h2, Below.heap_alloc _ _ _ hl2, hg2.block g (by show g < (wr.alloc o1).heap.size; simp; omega) (by simpa using h1)]
  exact Below.heap_alloc wr o1 g hl
/-- The same of what was made since (in w2). -/
theorem round_keep2 {w2 w3 : World} {o2 : Obj} {B c : Nat} {vk v3 : Value} (hg3 : (w2.alloc o2).grownBy w3 vk.ownBlock) {g : Nat} (hl : g < w2.heap.size) (h2 : some g ≠ vk.ownBlock) (h3 : g ≠ B) :
    (w3.setCell ⟨B, c, none⟩ v3).heap[g]? = w2.heap[g]? := by
  rw [Below.heap_setCell _ _ _ _ h3, hg3.block g (by simp; omega) h2, Below.heap_alloc _ _ _ hl]

/-- A slice of texts. -/
def D.strs (e : Nat) (xs : List ByteArray) : D := .row e 1 (xs.map fun x => [.txt x])
theorem D.rd_strs {w : World} {ok : Nat → Prop} {e : Nat} {xs : List ByteArray} {v : Value} (h : D.rd w ok (.strs e xs) v) :
    ∃ A c, v = .slice A xs.length c ∧ xs.length ≤ 9223372036854775807 ∧ (A = none → c = 0) ∧ ∀ i, i < xs.length → ∃ g o x, A = some ⟨g, o, none⟩ ∧ (ok g ∧ g < w.heap.size) ∧ xs[i]? = some x ∧ w.cell? ⟨g, o + i, none⟩ = some (.string x) := by
  obtain ⟨A, c, h1, h2, hn, h3⟩ := D.rd_slice h
  refine ⟨A, c, by simpa using h1, by simpa using h2, hn, fun i hi => ?_⟩
  obtain ⟨g, o, us, e1, e2, e3, e4, e5⟩ := h3 i (by simpa using hi)
  refine ⟨g, o, xs[i], e1, e2, by simp [hi], ?_⟩
  have := e5 0 (by omega)
  simp only [List.getElem_map, D.rdRow, D.rd] at e4
  obtain ⟨u, us', rfl, rfl, rfl⟩ := e4
  simpa using this

theorem D.strs_at {w : World} {ok : Nat → Prop} {e : Nat} {xs : List ByteArray} {A : Option Addr} {n c : Nat} (h : D.rd w ok (.strs e xs) (.slice A n c)) (i : Nat) (hi : i < xs.length) : ∃ g o x, A = some ⟨g, o, none⟩ ∧ ok g ∧ g < w.heap.size ∧ xs[i]? = some x ∧ w.cell? ⟨g, o + i, none⟩ = some (.string x) := by
  obtain ⟨A', c', h1, _, _, h3⟩ := D.rd_strs h
  injection h1 with hA _ _
  subst hA
  obtain ⟨g, o, x, e1, e2, e3⟩ := h3 i hi
  exact ⟨g, o, x, e1, e2.1, e2.2, e3⟩
theorem D.strs_len {w : World} {ok : Nat → Prop} {e : Nat} {xs : List ByteArray} {v : Value} (h : D.rd w ok (.strs e xs) v) : xs.length ≤ 9223372036854775807 := by
  obtain ⟨_, _, _, h2, _⟩ := D.rd_strs h
  exact h2
theorem D.ints_at {w : World} {ok : Nat → Prop} {e : Nat} {k : IntKind} {xs : List Int} {A : Option Addr} {n c : Nat} (h : D.rd w ok (.ints e k xs) (.slice A n c)) (i : Nat) (hi : i < xs.length) : ∃ g o x, A = some ⟨g, o, none⟩ ∧ ok g ∧ g < w.heap.size ∧ xs[i]? = some x ∧ w.cell? ⟨g, o + i, none⟩ = some (.int k x) := by
  obtain ⟨A', c', h1, _, _, h3⟩ := D.rd_ints h
  injection h1 with hA _ _
  subst hA
  obtain ⟨g, o, x, e1, e2, e3⟩ := h3 i hi
  exact ⟨g, o, x, e1, e2.1, e2.2, e3⟩

theorem str_yes {x y : ByteArray} (h : x = y) : (x.toList == y.toList) = true := by subst h; simp
theorem str_no {x y : ByteArray} (h : x ≠ y) : (x.toList == y.toList) = false := by
  rw [← beq_toListBytes]
  obtain ⟨x⟩ := x
  obtain ⟨y⟩ := y
  have e : ((⟨x⟩ : ByteArray) == ⟨y⟩) = (x == y) := rfl
  rw [e, beq_eq_false_iff_ne]
  exact fun hxy => h (by rw [hxy])

theorem with_blk {W w2 : World} {g bm : Nat} {cs : Array Value} {t : TypeId} {G : Prop} (hg2 : W.grownBy w2 (some bm)) (h : Blk W g cs t) (hne : g ≠ bm) (k : Blk w2 g cs t → G) : G := k (h.grown hg2 (by simpa using hne))
end Wh
