import Derived.Test.YtlacfgnjljjdiaaDoorT1
import Derived.Deep.RegionLaw
import Derived.Deep.DeepCutAuto
set_option linter.unusedVariables false
set_option linter.unusedSimpArgs false
open Go Go.RowKit Go.Proofs
namespace Wh
/-- A term. -/
inductive Tm where
  | mk (kind : Int) (name : ByteArray) (neg : Bool) (digits : List Int) (kids : List Tm)
def Tm.kind : Tm → Int | .mk k _ _ _ _ => k
def Tm.name : Tm → ByteArray | .mk _ n _ _ _ => n
def Tm.neg : Tm → Bool | .mk _ _ g _ _ => g
def Tm.digits : Tm → List Int | .mk _ _ _ d _ => d
def Tm.kids : Tm → List Tm | .mk _ _ _ _ l => l
mutual
def Tm.enc : Tm → List D
  | .mk k n g ds ks => [.num .u8 k, .txt n, .tru g, .ints 53 .u32 ds, .row 28 5 (Tm.encs ks)]
def Tm.encs : List Tm → List (List D)
  | [] => []
  | t :: ts => t.enc :: Tm.encs ts
end
mutual
def Tm.size : Tm → Nat
  | .mk _ _ _ _ ks => 1 + Tm.sizes ks
def Tm.sizes : List Tm → Nat
  | [] => 0
  | t :: ts => t.size + Tm.sizes ts
end
mutual
/-- No list of it is longer than a million. -/
def Tm.fits : Tm → Prop
  | .mk k n _ ds ks => ds.length ≤ 1000000 ∧ ks.length ≤ 1000000 ∧ Tm.fitss ks
def Tm.fitss : List Tm → Prop
  | [] => True
  | t :: ts => t.fits ∧ Tm.fitss ts
end
theorem Tm.encs_eq : ∀ l : List Tm, Tm.encs l = l.map Tm.enc
  | [] => rfl
  | t :: ts => by simp [Tm.encs, Tm.encs_eq ts]
theorem Tm.encs_append (l : List Tm) (t : Tm) : Tm.encs (l ++ [t]) = Tm.encs l ++ [t.enc] := by simp [Tm.encs_eq]
theorem Tm.sizes_append : ∀ l m : List Tm, Tm.sizes (l ++ m) = Tm.sizes l + Tm.sizes m
  | [], m => by simp [Tm.sizes]
  | t :: ts, m => by simp [Tm.sizes, Tm.sizes_append ts m]; omega
theorem Tm.fitss_get : ∀ (l : List Tm), Tm.fitss l → ∀ i (h : i < l.length), (l[i]).fits
  | [], _, i, h => absurd h (by simp)
  | t :: ts, hf, 0, _ => hf.1
  | t :: ts, hf, i + 1, h => Tm.fitss_get ts hf.2 i (by simpa using h)
theorem Tm.sizes_take_succ (l : List Tm) (k : Nat) (h : k < l.length) : Tm.sizes (l.take (k + 1)) = Tm.sizes (l.take k) + (l[k]).size := by
  rw [List.take_succ_eq_append_getElem h, Tm.sizes_append]
  simp [Tm.sizes]
theorem Tm.sizes_take_le (l : List Tm) (k : Nat) : Tm.sizes (l.take k) ≤ Tm.sizes l := by
  have := Tm.sizes_append (l.take k) (l.drop k)
  rw [List.take_append_drop] at this
  omega
theorem Tm.size_pos : ∀ t : Tm, 0 < t.size
  | .mk _ _ _ _ _ => by simp [Tm.size]; omega
/-- What a making of a term by a maker leaves (block bm: how many were made; what is put). -/
def MakePost (w : World) (bm : Nat) (made : Int) (fv : Value) (t : Tm) (e : Ending) (w' : World) : Prop :=
  w.grownBy w' (some bm) ∧ ((made + t.size ≤ 20000 ∧ Blk w' bm #[.int .i64 (made + t.size), fv] 109 ∧ ∃ us, e = .returned (.agg us.toArray) ∧ MadeRow w' (fun g => w.heap.size ≤ g) t.enc us) ∨
    (20000 < made + t.size ∧ e = .panicked (thrown 34)))
theorem Tm.open {w : World} {ok : Nat → Prop} {k : Int} {n : ByteArray} {g : Bool} {ds : List Int} {ks : List Tm} {us : List Value} (h : D.rdRow w ok (Tm.mk k n g ds ks).enc us) :
    ∃ dA dc kA kc, us = [.int .u8 k, .string n, .bool g, .slice dA ds.length dc, .slice kA ks.length kc] ∧ D.rd w ok (.ints 53 .u32 ds) (.slice dA ds.length dc) ∧ D.rd w ok (.row 28 5 (Tm.encs ks)) (.slice kA ks.length kc) := by
  simp only [Tm.enc, D.rdRow] at h
  obtain ⟨u0, r0, rfl, h0, u1, r1, rfl, h1, u2, r2, rfl, h2, u3, r3, rfl, h3, u4, r4, rfl, h4, rfl⟩ := h
  simp only [D.rd] at h0 h1 h2
  subst h0 h1 h2
  obtain ⟨dA, dc, rfl, _⟩ := D.rd_ints h3
  obtain ⟨kA, kc, rfl, _⟩ := D.rd_slice h4
  have hl : (Tm.encs ks).length = ks.length := by simp [Tm.encs_eq]
  rw [hl] at h4
  exact ⟨dA, dc, kA, kc, by rw [hl], h3, h4⟩
/-- Out of a making's contract: the two ways on. -/
theorem make_call {f : FuncId} {args : Array Value} {w : World} {bm : Nat} {made : Int} {fv : Value} {kd : Int} {nm : ByteArray} {ng : Bool} {xd : List Int} {ls : List Tm} {R : Ending → World → Prop}
    (h : Calls Tryd.prog f args w (MakePost w bm made fv (.mk kd nm ng xd ls)))
    (hp : ∀ w', 20000 < made + (Tm.mk kd nm ng xd ls).size → w.grownBy w' (some bm) → R (.panicked (thrown 34)) w')
    (hr : ∀ w' dA dc lA lc, made + (Tm.mk kd nm ng xd ls).size ≤ 20000 → w.grownBy w' (some bm) → Blk w' bm #[.int .i64 (made + (Tm.mk kd nm ng xd ls).size), fv] 109 →
      MadeRow w' (fun g => w.heap.size ≤ g) (Tm.mk kd nm ng xd ls).enc [.int .u8 kd, .string nm, .bool ng, .slice dA xd.length dc, .slice lA ls.length lc] → R (.returned (.agg #[.int .u8 kd, .string nm, .bool ng, .slice dA xd.length dc, .slice lA ls.length lc])) w') :
    Calls Tryd.prog f args w R := by
  refine h.mono ?_
  rintro e w' ⟨hg, (⟨hle, hb, us, rfl, hu⟩ | ⟨hlt, rfl⟩)⟩
  · obtain ⟨dA, dc, lA, lc, rfl, _, _⟩ := Tm.open hu.rd
    exact hr w' dA dc lA lc hle hg hb hu
  · exact hp w' hlt hg
/-- The loop of a maker: k kids are made; block N holds the term, N + 1 the zero of the result, B what is made. -/
def MakeInv (w wr : World) (bm : Nat) (made : Int) (fv : Value) (kind : Int) (name : ByteArray) (neg : Bool) (ds : List Int) (dv kv dv' : Value) (ks : List Tm) (N B : Nat) (k : Nat) : Prop :=
  w.grownBy wr (some bm) ∧ made + 1 + Tm.sizes (ks.take k) ≤ 20000 ∧ Blk wr bm #[.int .i64 (made + 1 + Tm.sizes (ks.take k)), fv] 109 ∧
  Blk wr N #[.int .u8 kind, .string name, .bool neg, dv, kv] 28 ∧ Blk wr (N + 1) #[.int .u8 0, .string ⟨#[]⟩, .bool false, .slice none 0 0, .slice none 0 0] 28 ∧
  Made wr (fun g => N + 2 ≤ g ∧ g < B) (.ints 53 .u32 ds) dv' ∧
  ∃ vk xs, Blk wr B #[.int .u8 kind, .string name, .bool neg, dv', vk] 28 ∧ wr.ownsRow (B + 1) 28 5 vk k xs ∧ MadeCells wr (fun g => B < g ∧ vk.ownBlock ≠ some g) 5 (Tm.encs (ks.take k)) xs
theorem Tm.kid {w : World} {ok : Nat → Prop} {ks : List Tm} {kA : Option Addr} {n kc : Nat} (h : D.rd w ok (.row 28 5 (Tm.encs ks)) (.slice kA n kc)) (k : Nat) (hk : k < ks.length) :
    ∃ g o kd nm ng xd ls dA dc lA lc, kA = some ⟨g, o, none⟩ ∧ ok g ∧ g < w.heap.size ∧ ks[k] = .mk kd nm ng xd ls ∧ D.rdRow w ok (Tm.mk kd nm ng xd ls).enc [.int .u8 kd, .string nm, .bool ng, .slice dA xd.length dc, .slice lA ls.length lc] ∧
      w.cell? ⟨g, o + k * 5, none⟩ = some (.int .u8 kd) ∧ w.cell? ⟨g, o + k * 5 + 1, none⟩ = some (.string nm) ∧ w.cell? ⟨g, o + k * 5 + 2, none⟩ = some (.bool ng) ∧ w.cell? ⟨g, o + k * 5 + 3, none⟩ = some (.slice dA xd.length dc) ∧ w.cell? ⟨g, o + k * 5 + 4, none⟩ = some (.slice lA ls.length lc) := by
  obtain ⟨A, c, h1, _, _, h4⟩ := D.rd_slice h
  injection h1 with hA _ _
  subst hA
  obtain ⟨g, o, us, rfl, hok, hl, hr, hc⟩ := h4 k (by simpa [Tm.encs_eq] using hk)
  have hr' : D.rdRow w ok (ks[k]).enc us := by simpa [Tm.encs_eq] using hr
  clear hr
  generalize ks[k] = t at hr'
  obtain ⟨kd, nm, ng, xd, ls⟩ := t
  obtain ⟨dA, dc, lA, lc, rfl, _, _⟩ := Tm.open hr'
  refine ⟨g, o, kd, nm, ng, xd, ls, dA, dc, lA, lc, rfl, hok.1, hok.2, rfl, hr', ?_, ?_, ?_, ?_, ?_⟩
  · simpa using hc 0 (by omega)
  · simpa [Nat.add_assoc] using hc 1 (by omega)
  · simpa [Nat.add_assoc] using hc 2 (by omega)
  · simpa [Nat.add_assoc] using hc 3 (by omega)
  · simpa [Nat.add_assoc] using hc 4 (by omega)
theorem make_step {w wr w2 w3 : World} {bm N B k : Nat} {made : Int} {fv : Value} {kind : Int} {name : ByteArray} {neg : Bool} {ds : List Int} {dv kv dv' vk : Value} {ks : List Tm} {t : Tm} {xs : List Value} {o1 : Obj} {us : Array Value} {A3 : Option Addr} {c3 : Nat}
    (hlt : k < ks.length) (hkk : ks[k] = t) (hbm : bm < w.heap.size) (hN : N = w.heap.size) (hNB : N + 1 < B) (hB : B < wr.heap.size)
    (hg : w.grownBy wr (some bm)) (hN1 : Blk wr N #[.int .u8 kind, .string name, .bool neg, dv, kv] 28) (hZ : Blk wr (N + 1) #[.int .u8 0, .string ⟨#[]⟩, .bool false, .slice none 0 0, .slice none 0 0] 28)
    (hds : Made wr (fun g => N + 2 ≤ g ∧ g < B) (.ints 53 .u32 ds) dv') (hBB : Blk wr B #[.int .u8 kind, .string name, .bool neg, dv', vk] 28) (hown : wr.ownsRow (B + 1) 28 5 vk k xs) (hcells : MadeCells wr (fun g => B < g ∧ vk.ownBlock ≠ some g) 5 (Tm.encs (ks.take k)) xs)
    (hfit : made + 1 + Tm.sizes (ks.take k) + t.size ≤ 20000) (hg2 : (wr.alloc o1).drew.grownBy w2 (some bm)) (hb2 : Blk w2 bm #[.int .i64 (made + 1 + Tm.sizes (ks.take k) + t.size), fv] 109)
    (hr2 : MadeRow w2 (fun g => (wr.alloc o1).drew.heap.size ≤ g) t.enc us.toList) (hus : us.size = 5) (hg3 : (w2.alloc (.cells us 28)).grownBy w3 vk.ownBlock)
    (ho3 : w3.ownsRow (B + 1) 28 5 (.slice A3 (k + 1) c3) (k + 1) (xs ++ us.toList)) (hat : (Value.slice A3 (k + 1) c3).ownBlock = vk.ownBlock ∨ (Value.slice A3 (k + 1) c3).ownBlock = some (w2.alloc (.cells us 28)).heap.size) :
    MakeInv w (w3.setCell ⟨B, 4, none⟩ (.slice A3 (k + 1) c3)) bm made fv kind name neg ds dv kv dv' ks N B (k + 1) := by
  have hs : (Tm.sizes (ks.take (k + 1)) : Int) = Tm.sizes (ks.take k) + t.size := by
    have := Tm.sizes_take_succ ks k hlt
    rw [hkk] at this
    omega
  have hsz2 : wr.heap.size < w2.heap.size := by
    have := hg2.size
    have e : (wr.alloc o1).drew.heap.size = wr.heap.size + 1 := by show (wr.alloc o1).heap.size = _; simp
    omega
  have e1 : (wr.alloc o1).drew.heap.size = wr.heap.size + 1 := by show (wr.alloc o1).heap.size = _; simp
  have hvk : ∀ g, g < B + 1 → some g ≠ vk.ownBlock := fun g hg => own_ne' hown hg
  have hvl : ∀ g, vk.ownBlock = some g → g < wr.heap.size := fun g hg => (hown.lt g hg).2
  refine ⟨?_, ?_, ?_, ?_, ?_, ?_, .slice A3 (k + 1) c3, xs ++ us.toList, ?_, ?_, ?_⟩
  · refine grown_set ?_ (.inr (show w.heap.size ≤ B by omega)) _
    refine grown_by (grown_alloc (grown_by (grown_drew (grown_alloc hg _)) hg2 (fun k hk => .inl hk.symm)) _) hg3 (fun g hg' => .inr ?_)
    have := (hown.lt g hg').1
    omega
  · omega
  · have h := hb2.keep (round_keep2 (B := B) (c := 4) (v3 := .slice A3 (k + 1) c3) hg3 hb2.lt (hvk bm (by omega)) (by omega))
    rw [show made + 1 + (Tm.sizes (ks.take (k + 1)) : Int) = made + 1 + Tm.sizes (ks.take k) + t.size by omega]
    exact h
  · exact hN1.keep (round_keep hg2 hg3 hN1.lt (by omega) (hvk N (by omega)) (by omega))
  · exact hZ.keep (round_keep hg2 hg3 hZ.lt (by omega) (hvk _ (by omega)) (by omega))
  · exact Made.keep hds (fun g hg hl => ⟨hg, round_keep hg2 hg3 hl (by omega) (hvk g (by omega)) (by omega)⟩)
  · have h := ((((hBB.alloc o1).drew.grown hg2 (by simp; omega)).alloc (.cells us 28)).grown hg3 (hvk B (by omega))).set 4 (.slice A3 (k + 1) c3)
    exact h
  · exact ownsRow_setCell_below ho3 (by show B < B + 1; omega) _
  · have hown3 : ∀ g, g < w2.heap.size → vk.ownBlock ≠ some g → (Value.slice A3 (k + 1) c3).ownBlock ≠ some g := by
      intro g hgl hne hc
      rcases hat with h | h
      · exact hne (h ▸ hc)
      · rw [h] at hc
        simp at hc
        omega
    rw [List.take_succ_eq_append_getElem hlt, hkk, Tm.encs_append]
    refine MadeCells.snoc (N := wr.heap.size) (by simpa using hus) ?_ ?_
    · refine MadeRow.keep hr2 (fun g hg hl => ⟨⟨⟨by omega, hown3 g hl ?_⟩, by omega⟩, round_keep2 hg3 hl ?_ (by omega)⟩)
      · intro hc
        have := hvl g hc
        omega
      · intro hc
        have := hvl g hc.symm
        omega
    · refine MadeCells.keep hcells (fun g hg hl => ⟨⟨⟨hg.1, hown3 g (by omega) hg.2⟩, hl⟩, round_keep hg2 hg3 hl (by omega) (Ne.symm hg.2) (by omega)⟩)
theorem make_panic {w w2 : World} {bm k : Nat} {made : Int} {fv : Value} {kind : Int} {name : ByteArray} {neg : Bool} {ds : List Int} {ks : List Tm} {t : Tm} (hlt : k < ks.length) (hkk : ks[k] = t)
    (hbig : 20000 < made + 1 + Tm.sizes (ks.take k) + t.size) (hg : w.grownBy w2 (some bm)) : MakePost w bm made fv (.mk kind name neg ds ks) (.panicked (thrown 34)) w2 := by
  refine ⟨hg, .inr ⟨?_, rfl⟩⟩
  have h1 := Tm.sizes_take_succ ks k hlt
  have h2 := Tm.sizes_take_le ks (k + 1)
  rw [hkk] at h1
  simp only [Tm.size]
  omega
/-- Five stores into one block. -/
def set5 (w : World) (g : Nat) (a b c d e : Value) : World := ((((w.setCell ⟨g, 0, none⟩ a).setCell ⟨g, 1, none⟩ b).setCell ⟨g, 2, none⟩ c).setCell ⟨g, 3, none⟩ d).setCell ⟨g, 4, none⟩ e
theorem set5_keep {w : World} {g k : Nat} {a b c d e : Value} (h : k ≠ g) : (set5 w g a b c d e).heap[k]? = w.heap[k]? := by
  unfold set5
  simp [Below.heap_setCell, h]
theorem set5_grown {a0 w : World} {row : Option Nat} (h : a0.grownBy w row) {g : Nat} (hg : a0.heap.size ≤ g) (a b c d e : Value) : a0.grownBy (set5 w g a b c d e) row :=
  grown_set (grown_set (grown_set (grown_set (grown_set h (.inr hg) _) (.inr hg) _) (.inr hg) _) (.inr hg) _) (.inr hg) _
theorem set5_blk {w : World} {g : Nat} {a b c d e a' b' c' d' e' : Value} {t : TypeId} (h : Blk w g #[a', b', c', d', e'] t) : Blk (set5 w g a b c d e) g #[a, b, c, d, e] t :=
  ((((h.set 0 a).set 1 b).set 2 c).set 3 d).set 4 e
theorem make_done {w wr : World} {bm N B : Nat} {made : Int} {fv : Value} {kind : Int} {name : ByteArray} {neg : Bool} {ds : List Int} {dv kv dv' : Value} {ks : List Tm}
    (hbm : bm < w.heap.size) (hN : N = w.heap.size) (hNB : N + 1 < B) (h : MakeInv w wr bm made fv kind name neg ds dv kv dv' ks N B ks.length) :
    ∃ vk, Blk wr B #[.int .u8 kind, .string name, .bool neg, dv', vk] 28 ∧ Blk wr (N + 1) #[.int .u8 0, .string ⟨#[]⟩, .bool false, .slice none 0 0, .slice none 0 0] 28 ∧ (∃ A c, vk = .slice A ks.length c) ∧
      MakePost w bm made fv (.mk kind name neg ds ks) (.returned (.agg #[.int .u8 kind, .string name, .bool neg, dv', vk])) (set5 wr (N + 1) (.int .u8 kind) (.string name) (.bool neg) dv' vk) := by
  obtain ⟨hg, hle, hb, hN1, hZ, hds, vk, xs, hB, hown, hcells⟩ := h
  rw [List.take_length] at hle hb hcells
  have e1 : made + ((Tm.mk kind name neg ds ks).size : Int) = made + 1 + Tm.sizes ks := by simp only [Tm.size]; omega
  refine ⟨vk, hB, hZ, own_shape hown, set5_grown hg (by omega) _ _ _ _ _, .inl ⟨by omega, ?_, [_, _, _, _, _], rfl, ?_⟩⟩
  · rw [e1]
    exact hb.keep (set5_keep (by omega))
  · have hrow : Made wr (fun g => B < g) (.row 28 5 (Tm.encs ks)) vk := by
      refine Made.of_row hown (by simp [Tm.encs_eq]) hcells (fun g hg => ?_)
      have := (hown.lt g hg).1
      omega
    simp only [Tm.enc]
    refine MadeRow.num _ _ (MadeRow.txt _ (MadeRow.tru _ ?_))
    refine MadeRow.cons (ok1 := fun g => N + 2 ≤ g ∧ g < B) (ok2 := fun g => B < g) ?_ (MadeRow.one ?_) (fun g hg => by omega) (fun g hg => by omega) (fun g h1 h2 => by omega)
    · exact Made.keep hds (fun g hg hl => ⟨by omega, set5_keep (by omega)⟩)
    · exact Made.keep hrow (fun g hg hl => ⟨hg, set5_keep (by omega)⟩)
theorem make_start {w w1 : World} {bm N : Nat} {made : Int} {fv : Value} {kind : Int} {name : ByteArray} {neg : Bool} {ds : List Int} {dv kv dv' : Value} {ks : List Tm}
    (hN : N = w.heap.size) (hle : made < 20000) (hg : w.grownBy w1 (some bm)) (hm : Blk w1 bm #[.int .i64 (made + 1), fv] 109) (hT : Blk w1 N #[.int .u8 kind, .string name, .bool neg, dv, kv] 28)
    (hZ : Blk w1 (N + 1) #[.int .u8 0, .string ⟨#[]⟩, .bool false, .slice none 0 0, .slice none 0 0] 28) (hr : Made w1 (fun g => N + 2 ≤ g) (.ints 53 .u32 ds) dv') :
    MakeInv w (w1.alloc (.cells #[.int .u8 kind, .string name, .bool neg, dv', .slice none 0 0] 28)) bm made fv kind name neg ds dv kv dv' ks N w1.heap.size 0 := by
  refine ⟨grown_alloc hg _, by simp [Tm.sizes]; omega, ?_, hT.alloc _, hZ.alloc _, ?_, .slice none 0 0, [], Blk.new _ _ _, World.ownsRow_nil _ _ _ _, by simpa [Tm.encs] using MadeCells.nil _ _ _⟩
  · simpa [Tm.sizes] using hm.alloc _
  · exact Made.keep hr (fun g hg hl => ⟨⟨by omega, hl⟩, Below.heap_alloc _ _ _ hl⟩)
set_option maxHeartbeats 1000000 in
set_option maxRecDepth 100000 in
theorem copied_calls (n : Nat) : ∀ (t : Tm) (w : World) (ok : Nat → Prop) (us : List Value) (bm : Nat) (made : Int) (fv : Value), t.size ≤ n → t.fits → D.rdRow w ok t.enc us → (∀ g, ok g → g ≠ bm) →
    Blk w bm #[.int .i64 made, fv] 109 → 0 ≤ made → made ≤ 20000 → Calls Tryd.prog 55 #[.pointer (some ⟨bm, 0, none⟩), .agg us.toArray] w (MakePost w bm made fv t) := by
  induction n with
  | zero => intro t _ _ _ _ _ _ h; have := t.size_pos; omega
  | succ n ih =>
    rintro ⟨kind, name, neg, ds, ks⟩ w ok us bm made fv hn hf hr hok hm h0 h1
    obtain ⟨dA, dc, kA, kc, rfl, hd, hk⟩ := Tm.open hr
    clear hr
    have HD := Lib.hid hd
    have HK := Lib.hid hk
    have HF := Lib.hid hf
    clear hd hk hf
    have HM := Lib.hid hm
    have HOK := Lib.hid hok
    have hbm := hm.lt
    obtain ⟨m0, m1, mf0, mf1⟩ := Blk.c2 hm
    clear hm hok
    by_cases hmore : made < 20000
    · go_enter Tryd.func55, Tryd.ntmps55
      go_wp2_with (go_at_call 56; refine (more_ok bm 0 made _ h0 hmore (by go_simp) (by go_simp)).mono ?_; rintro e w1 ⟨rfl, rfl⟩)
      have hset : w.grownBy (w.setCell ⟨bm, 0, none⟩ (.int .i64 (made + 1))) (some bm) := grown_set (grown_refl _ _) (.inl rfl) _
      refine (alone_calls _ ok kind name neg ds _ _ (D.rd_grown HD.out (grown_alloc (grown_alloc hset _) _) (fun g hg => by simpa using HOK.out g hg)) HF.out.1).mono ?_
      rintro e w1 ⟨A, c, rfl, hr, hbl⟩
      have HR := Lib.hid hr
      have HB := Lib.hid hbl
      have HT := Lib.hid (((Blk.new' (w.setCell ⟨bm, 0, none⟩ (.int .i64 (made + 1))) #[.int .u8 kind, .string name, .bool neg, .slice dA ds.length dc, .slice kA ks.length kc] 28 (n := w.heap.size) (by simp)).alloc _).ext hbl)
      have HZ := Lib.hid ((Blk.new' ((w.setCell ⟨bm, 0, none⟩ (.int .i64 (made + 1))).alloc (Obj.cells #[.int .u8 kind, .string name, .bool neg, .slice dA ds.length dc, .slice kA ks.length kc] 28)) _ _ (n := w.heap.size + 1) (by simp)).ext hbl)
      have HM1 := Lib.hid ((((HM.out.set 0 (.int .i64 (made + 1))).alloc _).alloc _).ext hbl)
      obtain ⟨⟨k0, k1, k2, k3, k4⟩, f0, f1, f2, f3, f4⟩ := Blk.c5 HT.out
      have hg1 := Lib.hid (grown_below (grown_alloc (grown_alloc hset _) _) hbl (by simp; omega))
      have z0 := HT.out.lt
      have z1 := HZ.out.lt
      have z2 := HM1.out.lt
      clear hbl hset hr m0 m1 mf0 mf1
      go_wp2_with fail
      go_loopw [17] (fun i wr => ∃ k : Nat, k ≤ ks.length ∧ i = .int .i64 k ∧ MakeInv w wr bm made fv kind name neg ds (.slice dA ds.length dc) (.slice kA ks.length kc) (.slice A ds.length c) ks w.heap.size w1.heap.size k) (fun i _ => ks.length - (intOf i).toNat)
      case atStart => exact ⟨0, Nat.zero_le _, rfl, make_start rfl hmore hg1.out HM1.out HT.out HZ.out (Made.imp HR.out (fun g hg => by simp at hg; omega))⟩
      case round =>
        obtain ⟨k, hkl, rfl, hinv⟩ := hrel
        by_cases hlt : k < ks.length
        · have b1 : (0 : Int) ≤ k := by omega
          have b2 : (k : Int) < ks.length := by omega
          obtain ⟨hg, hle, hbk, hN, hZ, hds, vk, xs, hB, hown, hcells⟩ := hinv
          obtain ⟨g, o, kd, nm, ng, xd, ls, dA2, dc2, lA2, lc2, rfl, hgok, hgl, hkk, hkid, e0, e1, e2, e3, e4⟩ := Tm.kid HK.out k hlt
          have HKK := Lib.hid hkk
          have HKID := Lib.hid hkid
          have hgg : some g ≠ some bm := by simpa using HOK.out g hgok
          rw [← World.cell?_of_block (hg.block g hgl hgg)] at e0 e1 e2 e3 e4
          obtain ⟨⟨t0, t1, t2, t3, t4⟩, nf⟩ := Blk.c5 hN
          obtain ⟨⟨p0, p1, p2, p3, p4⟩, q0, q1, q2, q3, q4⟩ := Blk.c5 hB
          have HGR := Lib.hid hg
          have HBK := Lib.hid hbk
          have HN := Lib.hid hN
          have HZ2 := Lib.hid hZ
          have HDS := Lib.hid hds
          have HBB := Lib.hid hB
          have HOWN := Lib.hid hown
          have HCELLS := Lib.hid hcells
          have y0 := hN.lt
          have y1 := hB.lt
          clear hkk hg hbk hN hZ hds hB hown hcells hkid nf k0 k1 k2 k3 k4 f0 f1 f2 f3 f4
          have hkin : (Tm.mk kd nm ng xd ls).size ≤ n := by
            have e1 := Tm.sizes_take_succ ks k hlt
            have e2 := Tm.sizes_take_le ks (k + 1)
            rw [HKK.out] at e1
            simp only [Tm.size] at hn e1 ⊢
            omega
          have hkf : (Tm.mk kd nm ng xd ls).fits := by
            have := Tm.fitss_get ks HF.out.2.2 k hlt
            rwa [HKK.out] at this
          have HKF := Lib.hid hkf
          clear hkf
          have hb0 : 0 ≤ made + 1 + (Tm.sizes (ks.take k) : Int) := by omega
          have y2 := HBK.out.lt
          have hk6 : k < 1000000 := by have := HF.out.2.1; omega
          go_wp2_with fail
          go_region_law (first
            | (refine step_append rfl _ _ rfl Tryd.underlying26 infoTerm rfl (by decide) (by decide) _ vk k xs rfl (World.ownsRow.kept HOWN.out (grown_alloc (grown_trans (grown_drew (grown_alloc (grown_refl _ _) _)) hg2) _) (own_ne HOWN.out (by omega))) _ _ rfl (Blk.new _ _ _) rfl (by simp [Value.oneCell']) hk6 (by have := hg2.size; simp at this ⊢; omega) ?_; intro A3 c3 w3 ho3 hg3 hat3; have HAT := Lib.hid hat3; clear hat3; obtain ⟨⟨s0, s1, s2, s3, s4⟩, r0, r1, r2, r3, r4⟩ := Blk.c5 (((((HBB.out.alloc _).drew).grown hg2 (by simp; omega)).alloc _).grown hg3 (own_ne' HOWN.out (by omega))); have HO3 := Lib.hid ho3; have HG3 := Lib.hid hg3; clear ho3 hg3)
            | (refine step_call 55 rfl (by go_simp; rfl) ?_; refine make_call (ih (.mk kd nm ng xd ls) _ ok _ bm (made + 1 + Tm.sizes (ks.take k)) fv hkin HKF.out (D.rdRow_grown HKID.out (grown_drew (grown_alloc HGR.out _)) (fun g hg => by simpa using HOK.out g hg)) HOK.out ((HBK.out.alloc _).drew) hb0 hle) ?_ ?_; (intro w2 hlt2 hg2; exact ⟨rfl, make_panic hlt HKK.out hlt2 (grown_by (grown_drew (grown_alloc HGR.out _)) hg2 (fun k hk => .inl hk.symm))⟩); intro w2 dA3 dc3 lA3 lc3 hfit hg2 hb2 hr2; have HB2 := Lib.hid hb2; have HR2 := Lib.hid hr2; clear hb2 hr2; have y5 := (((HBB.out.alloc (.cells #[.int .u8 kd, .string nm, .bool ng, .slice dA2 xd.length dc2, .slice lA2 ls.length lc2] 28)).drew).grown hg2 (by simp; omega)).lt; obtain ⟨⟨x0, x1, x2, x3, x4⟩, _⟩ := Blk.c5 (((HBB.out.alloc _).drew).grown hg2 (by simp; omega))))
          all_goals
            go_wp2_with fail
            go_roundw
            case rel => exact ⟨k + 1, by omega, by go_num, make_step hlt HKK.out hbm rfl z1 y1 HGR.out HN.out HZ2.out HDS.out HBB.out HOWN.out HCELLS.out hfit hg2 HB2.out HR2.out rfl HG3.out HO3.out HAT.out⟩
            case measure => simp [intOf]; omega
        · have hkl2 : k = ks.length := by omega
          subst hkl2
          obtain ⟨vk, hB, hZ, ⟨A2, c2, rfl⟩, hpost⟩ := make_done hbm rfl z1 hinv
          obtain ⟨⟨p0, p1, p2, p3, p4⟩, _⟩ := Blk.c5 hB
          obtain ⟨⟨q0, q1, q2, q3, q4⟩, r0, r1, r2, r3, r4⟩ := Blk.c5 hZ
          have HP := Lib.hid hpost
          have hlast := Lib.hid (set5_blk (a := .int .u8 kind) (b := .string name) (c := .bool neg) (d := .slice A ds.length c) (e := .slice A2 ks.length c2) hZ)
          have y1 := hB.lt
          have y2 := hZ.lt
          clear hinv hB hZ hpost k0 k1 k2 k3 k4 f0 f1 f2 f3 f4
          go_wp2_with fail
          have hl := Blk.c5 hlast.out
          unfold set5 at hl
          obtain ⟨⟨l0, l1, l2, l3, l4⟩, _⟩ := hl
          exact bodyPost_ret (by simp [results, Tryd.results55, go_sem, l0, l1, l2, l3, l4]) rfl HP.out
    · have hm20 : made = 20000 := by omega
      go_enter Tryd.func55, Tryd.ntmps55
      go_wp2_with (go_at_call 56; refine (more_bad bm 0 made _ hm20 (by go_simp) (by go_simp)).mono ?_; rintro e w1 ⟨rfl, rfl⟩)
      refine ⟨rfl, ?_, .inr ⟨?_, rfl⟩⟩
      · exact grown_alloc (grown_alloc (grown_set (grown_refl _ _) (.inl rfl) _) _) _
      · have := (Tm.mk kind name neg ds ks).size_pos
        omega
end Wh
