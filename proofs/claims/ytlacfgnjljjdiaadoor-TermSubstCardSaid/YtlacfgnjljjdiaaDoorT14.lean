import Derived.Test.YtlacfgnjljjdiaaDoorT13
import Derived.Test.YtlacfgnjljjdiaaDoorShelf
import Derived.Laws.EntriesVeiled
import Derived.Lib.OwnBridge
import Derived.Sort.OwnSorted
set_option linter.unusedVariables false
set_option linter.unusedSimpArgs false
open Go Go.RowKit Go.Proofs
namespace Wh
def sorted (l : List ByteArray) : List (List UInt8) := (l.map (·.data.toList)).mergeSort fun x y => decide (x ≤ y)
/-- Sorted, each name once. -/
def tidy (l : List ByteArray) : List ByteArray := (Lib.compact (sorted l)).map fun b => ⟨b.toArray⟩
theorem cells_strs {w : World} {ok : Nat → Prop} : ∀ xs : List ByteArray, D.rdCells w ok 1 (xs.map fun x => [.txt x]) (xs.map .string)
  | [] => by simp [D.rdCells]
  | x :: xs => by
    simp only [List.map_cons, D.rdCells]
    exact ⟨[.string x], _, rfl, rfl, ⟨_, _, rfl, rfl, rfl⟩, cells_strs xs⟩
theorem two_below {w w' : World} {B b : Nat} {row : Option Nat} (h : Two w w' b row) (hB : B ≤ w.heap.size) (hb : B ≤ b) (hr : ∀ g, row = some g → B ≤ g) : Below B w w' :=
  ⟨h.os, h.tape, h.output, h.size, fun g hg => h.block g (by omega) (by omega) (by
    intro e
    have := hr g e.symm
    omega)⟩
/-- A slice of texts that is told: it lies in new memory. -/
def TextsPost (w : World) (l : List ByteArray) (e : Ending) (w' : World) : Prop :=
  Below w.heap.size w w' ∧ ∃ A c, e = .returned (.slice A l.length c) ∧ D.rd w' (fun g => w.heap.size ≤ g) (.strs 9 l) (.slice A l.length c)
theorem string_ext_map (l : List (List UInt8)) : (l.map fun b => (⟨b.toArray⟩ : ByteArray)).map Value.string = l.map encStr := by
  rw [List.map_map]
  rfl
/-- slices.Sort, slices.Compact: one behind the other. -/
theorem sort_calls (w : World) (l : List ByteArray) (base : Nat) (A : Option Addr) (c : Nat) (hown : w.ownsRow base 9 1 (.slice A l.length c) l.length (l.map .string)) (hl : l.length ≤ 1000000000) :
    Calls Tryd.prog 38 #[.slice A l.length c] w fun e w' => e = .returned (.tuple #[]) ∧ w'.ownsRow base 9 1 (.slice A l.length c) l.length ((sorted l).map encStr) ∧ w.grownBy w' (Value.slice A l.length c).ownBlock := by
  have hsl : (sorted l).length = l.length := by simp [sorted]
  cases l with
  | nil =>
    refine (Tryd.slices_Sort_string_none A c w).mono ?_
    rintro e w' ⟨rfl, rfl⟩
    exact ⟨rfl, by simpa [sorted] using hown, grown_refl _ _⟩
  | cons x xs =>
    have hv : Value.slice A (x :: xs).length c ≠ .slice none 0 0 := by simp
    have h2 : w.ownsRow base 9 1 (.slice A (x :: xs).length c) (x :: xs).length ((((x :: xs).map (·.data.toList))).map encStr) := by
      rw [Lib.map_encStr]
      exact hown
    obtain ⟨g, cap, hA, hb, hg, hn, hm, hz, hh⟩ := Lib.holds_of_ownsRow h2 hv
    injection hA with hA _ hc
    subst hA hc
    have hlen : ((x :: xs).map (·.data.toList)).length = (x :: xs).length := by simp
    have h3 := Tryd.slices_Sort_string g 0 c ((x :: xs).map (·.data.toList)) w hh hg (by rw [hlen]; omega)
    rw [hlen] at h3
    refine h3.mono ?_
    rintro e w' ⟨rfl, n, os, rfl⟩
    rcases h2.2 with ⟨e0, _⟩ | ⟨g', cap', cur, e0, hb', hg', hn', hm', hs', ht'⟩
    · cases e0
    · injection e0 with e1 _ e3
      injection e1 with e1
      injection e1 with e1
      subst e1 e3
      refine ⟨rfl, ?_, grownBy_sorted _⟩
      have := ownsRow_sorted (n := n) (os := os) (ss := (x :: xs).map (·.data.toList)) (ts := sorted (x :: xs)) (by rw [hsl, hlen]) hb' hg' (by rw [hlen]; omega) hm' hs'
      rw [hlen] at this
      exact this
theorem compact_le (l : List (List UInt8)) : (Lib.compact l).length ≤ l.length := by
  unfold Lib.compact Lib.compactUpTo
  rw [List.length_map]
  exact Nat.le_trans (List.length_filter_le _ _) (by simp)
theorem compact_calls (w : World) (l : List (List UInt8)) (base : Nat) (A : Option Addr) (c : Nat) (hown : w.ownsRow base 9 1 (.slice A l.length c) l.length (l.map encStr)) (hl : l.length ≤ 1000000000) :
    Calls Tryd.prog 39 #[.slice A l.length c] w fun e w' => e = .returned (.slice A (Lib.compact l).length c) ∧ w'.ownsRow base 9 1 (.slice A (Lib.compact l).length c) (Lib.compact l).length ((Lib.compact l).map encStr) ∧ w.grownBy w' (Value.slice A l.length c).ownBlock := by
  have hle := compact_le l
  cases l with
  | nil =>
    refine (Tryd.slices_Compact_string_empty A c w).mono ?_
    rintro e w' ⟨rfl, rfl⟩
    have h0 : Lib.compact ([] : List (List UInt8)) = [] := List.eq_nil_of_length_eq_zero (by simpa using hle)
    rw [h0]
    exact ⟨rfl, by simpa using hown, grown_refl _ _⟩
  | cons x xs =>
    have hv : Value.slice A (x :: xs).length c ≠ .slice none 0 0 := by simp
    obtain ⟨g, cap, hA, hb, hg, hn, hm, hz, hh⟩ := Lib.holds_of_ownsRow hown hv
    injection hA with hA _ hc
    subst hA hc
    refine (Tryd.slices_Compact_string g 0 c (x :: xs) w hh (by omega) hn).mono ?_
    rintro e w' ⟨rfl, q, rfl⟩
    refine ⟨rfl, ?_, ?_⟩
    · have := Lib.ownsRow_putRow (q := q) (k := (Lib.compact (x :: xs)).length) (ys := Lib.compact (x :: xs) ++ List.replicate ((x :: xs).length - (Lib.compact (x :: xs)).length) []) hown (by simp only [List.length_append, List.length_replicate]; omega) hle
      rw [List.take_left] at this
      exact this
    · have := grownBy_sorted (w := w) (g := g) (n := q) (os := #[]) (Lib.compact (x :: xs) ++ List.replicate ((x :: xs).length - (Lib.compact (x :: xs)).length) []).toArray
      rw [Sort.grow_empty] at this
      exact this
set_option maxHeartbeats 1000000 in
set_option maxRecDepth 100000 in
theorem free_calls (t : Tm) (w : World) (ok : Nat → Prop) (us : List Value) (hr : D.rdRow w ok t.enc us) (hsz : t.size ≤ 100000000) : Calls Tryd.prog 14 #[.agg us.toArray] w (TextsPost w (tidy t.frees)) := by
  have hmf : ∀ (fn : Fn) (first cap : Array Value) (w : World), (Instr.makeFunc fn first cap).run Tryd.prog w = .ok (.func fn first cap) w := fun _ _ _ _ => rfl
  have hfl := t.frees_len
  have HR := Lib.hid (D.rdRow_lt _ _ hr)
  have HF := Lib.hid (free1_calls t)
  clear hr
  obtain ⟨kind, name, neg, ds, ks⟩ := t
  obtain ⟨dA, dc, kA, kc, rfl, hd, hk⟩ := Tm.open HR.out
  clear hd hk
  go_enter Tryd.func14, Tryd.ntmps14
  go_wp2_with fail
  have hcall := HF.out (((w.alloc (.cells #[.int .u8 kind, .string name, .bool neg, .slice dA ds.length dc, .slice kA ks.length kc] 28)).alloc (.cells #[.slice none 0 0] 34)).alloc (.cells #[freeFn (w.heap.size + 1) (w.heap.size + 1 + 1)] 64)) (fun g => ok g ∧ g < w.heap.size) [.int .u8 kind, .string name, .bool neg, .slice dA ds.length dc, .slice kA ks.length kc] (w.heap.size + 1) (w.heap.size + 1 + 1) (w.heap.size + 1 + 1 + 1) (.slice none 0 0) 0 []
    (D.rdRow_keep HR.out (fun g hg hl => ⟨hg, (ext_alloc (ext_alloc (ext_alloc (Below.refl _ _) _) _) _).block g hl⟩)) (fun g hg => by omega) ((Blk.new' _ _ _ (by simp)).alloc _) (Blk.new' _ _ _ (by simp)) (by omega) (by omega) (by omega) (by simp) ⟨rfl, .inl ⟨rfl, rfl⟩⟩ (by omega)
  refine Calls.mono hcall ?_
  clear hcall
  rintro e w2 ⟨rfl, v', hb2, hown, htwo, hat⟩
  rw [Nat.zero_add, List.nil_append] at hown
  generalize (Tm.mk kind name neg ds ks).frees = L at *
  obtain ⟨A, c, rfl⟩ := own_shape hown
  obtain ⟨q0, qf⟩ := Blk.c1 hb2
  have hbel : Below w.heap.size w w2 := Below.trans (ext_alloc (ext_alloc (ext_alloc (Below.refl _ _) _) _) _) (two_below htwo (by simp; omega) (by omega) (fun g hg => by simp [Value.ownBlock] at hg))
  have hrow : ∀ g, (Value.slice A L.length c).ownBlock = some g → w.heap.size ≤ g := fun g hg => by
    have := (hown.lt g hg).1
    omega
  have hne := own_ne' hown (bm := w.heap.size + 1) (by omega)
  have HB2 := Lib.hid hb2
  have HOWN := Lib.hid hown
  have HBEL := Lib.hid hbel
  have HROW := Lib.hid hrow
  have HNE := Lib.hid hne
  have hz := hb2.lt
  clear hb2 hown hbel hrow hne htwo hat
  dsimp only
  go_wp2_with fail
  refine (sort_calls w2 L _ A c HOWN.out (by omega)).mono ?_
  rintro e w3 ⟨rfl, hown3, hg3⟩
  have hb3 := HB2.out.grown hg3 HNE.out
  obtain ⟨p0, pf⟩ := Blk.c1 hb3
  have hsl : (sorted L).length = L.length := by simp [sorted]
  have HOWN3 := Lib.hid hown3
  have HG3 := Lib.hid hg3
  have hz3 := hb3.lt
  clear hown3 hg3 hb3
  dsimp only
  go_wp2_with fail
  have hc := compact_calls w3 (sorted L) (w.heap.size + 1 + 1 + 1) A c (by rw [hsl]; exact HOWN3.out) (by rw [hsl]; omega)
  rw [hsl] at hc
  refine Calls.mono hc ?_
  clear hc
  rintro e w4 ⟨rfl, hown4, hg4⟩
  have HOWN4 := Lib.hid hown4
  have HG4 := Lib.hid hg4
  clear hown4 hg4
  dsimp only
  go_wp2_with fail
  have hlen : (tidy L).length = (Lib.compact (sorted L)).length := by simp [tidy]
  refine bodyPost_ret (results_tmp rfl _ _ _) rfl ⟨?_, A, c, by rw [hlen]; rfl, ?_⟩
  · exact ((HBEL.out.grown HG3.out HBEL.out.size HROW.out).grown HG4.out (Nat.le_trans HBEL.out.size HG3.out.size) HROW.out)
  · have h4 := HOWN4.out
    rw [← string_ext_map, ← hlen] at h4
    have := D.rd_of_own (ok := fun g => w.heap.size ≤ g) (es := (tidy L).map fun x => [.txt x]) h4 (by simp) (cells_strs (tidy L)) (fun g hg => by
      have := (h4.lt g hg).1
      omega)
    exact this
end Wh
