import Derived.Test.YtlacfgnjljjdiaaDoorT16
import Derived.Test.YtlacfgnjljjdiaaDoorT11
import Derived.Test.YtlacfgnjljjdiaaDoorShelf
set_option linter.unusedVariables false
set_option linter.unusedSimpArgs false
open Go Go.RowKit Go.Proofs
namespace Wh
theorem below_grownN {w W : World} {k : Nat} {os : Array Obj} (h : W = Sort.grow (w.drewN k) os) : Below w.heap.size w W := by
  subst h
  refine ⟨rfl, rfl, rfl, by simp [Sort.grow], fun g hg => ?_⟩
  rw [Sort.heap_grow_old _ _ (by simpa using hg)]
  rfl
theorem gPow : ∃ g, Tryd.prog.globalNamed "internal/strconv.uint64pow10" = some g := Option.isSome_iff_exists.1 (by kernel_rfl)
/-- The library's table, in a block below B. -/
def Env (B : Nat) (w : World) : Prop := B ≤ w.heap.size ∧ Lib.TabIs Tryd.prog w "internal/strconv.uint64pow10" .u64 Lib.pow10Tab ∧ ∀ g, Tryd.prog.globalNamed "internal/strconv.uint64pow10" = some g → g < B
theorem Env.below {B : Nat} {w w' : World} (h : Env B w) (hb : Below B w w') : Env B w' := by
  obtain ⟨h1, h2, h3⟩ := h
  refine ⟨Nat.le_trans h1 hb.size, ?_, h3⟩
  obtain ⟨g, hg⟩ := gPow
  unfold Lib.TabIs World.var? at h2 ⊢
  rw [hg] at h2 ⊢
  simp only [Option.bind_some] at h2 ⊢
  rw [hb.block g (h3 g hg)]
  exact h2
theorem itoa_calls (B : Nat) (n : Nat) (hn : n ≤ 9223372036854775807) (w : World) (h : Env B w) : Calls Tryd.prog 43 #[.int .i64 (n : Int)] w fun e w' => e = .returned (.string ⟨(Lib.decDigits n).toArray⟩) ∧ Below w.heap.size w w' := by
  refine (Tryd.strconv_Itoa (n : Int) (by omega) (by omega) w h.2.1).mono ?_
  rintro e w' ⟨rfl, k, os, hw⟩
  refine ⟨?_, below_grownN hw⟩
  have : Lib.itoa (n : Int) = Lib.decDigits n := by simp [Lib.itoa]
  rw [this]
theorem IsWr.ext {w w' : World} {base b : Nat} {l : List UInt8} (h : IsWr w base b l) (hb : Below w.heap.size w w') : IsWr w' base b l := by
  have aux : ∀ p, Wr w base b p l → Wr w' base b p l := by
    rintro p ⟨h1, v, h2, h3, h4⟩
    exact ⟨h1, v, h2.ext hb, h3.kept (row := none) ⟨hb.os, hb.tape, hb.output, hb.size, fun g hg _ => hb.block g hg⟩ (by cases v.ownBlock <;> simp), h4⟩
  rcases h with h | h
  · exact .inl (aux _ h)
  · exact .inr (aux _ h)
/-- As a term is written: what has been written; the term's own block; what stays. -/
structure WSt (B : Nat) (w W : World) (base b N : Nat) (cs : Array Value) (l : List UInt8) : Prop where
  wr : IsWr W base b l
  kept : Wrote w W base b
  box : Blk W N cs 28
  env : Env B W
theorem WSt.ext {B : Nat} {w W W' : World} {base b N : Nat} {cs : Array Value} {l : List UInt8} (h : WSt B w W base b N cs l) (hb : Below W.heap.size W W') : WSt B w W' base b N cs l :=
  ⟨h.wr.ext hb, h.kept.trans ⟨hb.os, hb.tape, hb.output, hb.size, fun g hg _ _ => hb.block g hg⟩, h.box.ext hb, h.env.below (hb.mono h.env.1)⟩
theorem WSt.drew {B : Nat} {w W : World} {base b N : Nat} {cs : Array Value} {l : List UInt8} (h : WSt B w W base b N cs l) : WSt B w W.drew base b N cs l := h.ext (Below.refl _ _).drew
theorem WSt.alloc {B : Nat} {w W : World} {base b N : Nat} {cs : Array Value} {l : List UInt8} (h : WSt B w W base b N cs l) (o : Obj) : WSt B w (W.alloc o) base b N cs l := h.ext ((Below.refl _ _).alloc (Nat.le_refl _) _)
theorem itoaS {B : Nat} {w W : World} {base b N : Nat} {cs : Array Value} {l : List UInt8} (n : Nat) (h : WSt B w W base b N cs l) (hn : n ≤ 9223372036854775807) : Calls Tryd.prog 43 #[.int .i64 (n : Int)] W fun e w' => e = .returned (.string ⟨(Lib.decDigits n).toArray⟩) ∧ WSt B w w' base b N cs l ∧ W.heap.size ≤ w'.heap.size :=
  (itoa_calls B n hn W h.env).mono (fun e w' ⟨h1, h2⟩ => ⟨h1, h.ext h2, h2.size⟩)
theorem putS {B : Nat} {w W : World} {base b N : Nat} {cs : Array Value} {l : List UInt8} {g : Nat} (ws : List ByteArray) (h : WSt B w W base b N cs l) (hg : WordsAt W g ws) (hgb : g ≠ b) (hn : ws.length ≤ 1000000) (hlen : l.length + (flat ws).length ≤ 140737488355328) (hbase : base ≤ W.heap.size) (hB : B ≤ base) (hbb : base ≤ b) (hNb : N ≠ b) :
    Calls Tryd.prog 42 #[.pointer (some ⟨b, 0, none⟩), .slice (some ⟨g, 0, none⟩) ws.length ws.length] W fun e w' => e = .returned (.tuple #[]) ∧ WSt B w w' base b N cs (l ++ flat ws) ∧ W.heap.size ≤ w'.heap.size :=
  (put_calls base b g l ws W h.wr hg hgb hn hlen hbase).mono (fun e w' ⟨h1, h2, h3⟩ => ⟨h1, ⟨h2, h.kept.trans h3, h.box.wrote h3 hNb (by decide), h.env.below (h3.below hbb hB (Nat.le_trans hB hbase))⟩, h3.size⟩)
def digKey (ds : List Int) : List UInt8 := (ds.map fun d => Lib.decDigits d.toNat ++ [46]).flatten
mutual
/-- A term's Key. -/
def Tm.key : Tm → List UInt8
  | .mk k n g ds ks => Lib.decDigits k.toNat ++ [32] ++ Lib.decDigits n.size ++ [58] ++ n.data.toList ++ [32] ++ (if g then [45] else []) ++ digKey ds ++ [32] ++ Lib.decDigits ks.length ++ [59] ++ Tm.keys ks
def Tm.keys : List Tm → List UInt8
  | [] => []
  | t :: ts => t.key ++ Tm.keys ts
end
end Wh
