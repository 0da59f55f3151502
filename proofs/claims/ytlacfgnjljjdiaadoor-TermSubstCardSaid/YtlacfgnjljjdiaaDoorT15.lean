import Derived.Test.YtlacfgnjljjdiaaDoorL2
import Derived.Test.YtlacfgnjljjdiaaDoorProg
import Derived.Lib.Builder
import Derived.Lib.UnsafeStr
import Derived.Laws.Externs
import Derived.Laws.Pointers
import Derived.Deep.RegionLaw
set_option linter.unusedVariables false
set_option linter.unusedSimpArgs false
open Go Go.RowKit Go.Proofs
namespace Wh
theorem infoByte : (Tryd.prog.info? 5).map (fun i => (i.zero, i.size, i.bytes)) = some (some (.int .u8 0), 1, 1) := by kernel_rfl
theorem sizeBuilder : (Tryd.prog.info? 61).map (·.size) = some 2 := by kernel_rfl
theorem liesWriter : liesAt Tryd.prog Tryd.prog.depth 63 (2 / Tryd.prog.cellsOf 63) 0 61 1 = true := by kernel_rfl
theorem shape_blk {w : World} {b : Nat} {cs : Array Value} {t : TypeId} (h : Blk w b cs t) : w.shape? b = some (t, cs.size) := by
  unfold Blk at h
  simp [World.shape?, h]
theorem own_kind {w : World} {base : Nat} {e : TypeId} {size : Nat} {v : Value} {n : Nat} {xs : List Value} (h : w.ownsRow base e size v n xs) {b : Nat} {cs : Array Value} {t : TypeId} (hb : Blk w b cs t) (hne : e ≠ t) : v.ownBlock ≠ some b := by
  intro he
  rcases h.2 with ⟨rfl, _⟩ | ⟨g, cap, cur, rfl, _, hg, _⟩
  · simp [Value.ownBlock] at he
  · simp [Value.ownBlock] at he
    subst he
    unfold Blk at hb
    rw [hb] at hg
    injection hg with hg
    injection hg with _ hg _
    exact hne hg.symm
/-- A writer that has written l. -/
def Wr (w : World) (base b : Nat) (p : Value) (l : List UInt8) : Prop :=
  base ≤ b ∧ ∃ v, Blk w b #[p, v] 63 ∧ w.ownsRow base 5 1 v l.length (Lib.byteCells l) ∧ v.ownBlock ≠ some b
def IsWr (w : World) (base b : Nat) (l : List UInt8) : Prop := Wr w base b (.pointer none) l ∨ Wr w base b (.pointer (some ⟨b, 0, none⟩)) l
set_option maxHeartbeats 1000000 in
set_option maxRecDepth 100000 in
theorem copyCheck_fresh (b : Nat) (w : World) (h0 : w.cell? ⟨b, 0, none⟩ = some (.pointer none)) (hsh : w.shape? b = some (63, 2)) (hfz : w.frozen? ⟨b, 0, none⟩ = false) :
    Calls Tryd.prog 87 #[.pointer (some ⟨b, 0, none⟩)] w fun e w' => e = .returned (.tuple #[]) ∧ w' = w.setCell ⟨b, 0, none⟩ (.pointer (some ⟨b, 0, none⟩)) := by
  obtain ⟨j, hj, hjs⟩ := Option.map_eq_some_iff.1 sizeBuilder
  go_enter Tryd.func87, Tryd.ntmps87
  go_wp2_with fail
  rw [Lib.run_to_unsafe w ⟨b, 0, none⟩ Tryd.underlying59 Tryd.underlying157 hj (by rw [hjs]; decide) hsh (Nat.zero_lt_succ 1)]
  simp only [Result.andThen]
  rw [Oper.upon_value]
  go_wp2_with fail
  rw [run_callFunc_extern Tryd.func104 (by kernel_rfl) (by kernel_rfl) (by kernel_rfl) (e := Extern.AbiNoEscape.same) (by kernel_rfl)]
  rw [Lib.run_noEscape]
  simp only [Result.andThen]
  rw [Oper.upon_value]
  go_wp2_with fail
  rw [Lib.run_from_unsafe w ⟨b, 0, none⟩ Tryd.underlying157 Tryd.underlying59 hj hsh liesWriter]
  simp only [Result.andThen]
  rw [Oper.upon_value]
  go_wp2_with fail
  go_end0
  exact ⟨rfl, rfl⟩
set_option maxHeartbeats 1000000 in
set_option maxRecDepth 100000 in
theorem copyCheck_used (b : Nat) (w : World) (h0 : w.cell? ⟨b, 0, none⟩ = some (.pointer (some ⟨b, 0, none⟩))) :
    Calls Tryd.prog 87 #[.pointer (some ⟨b, 0, none⟩)] w fun e w' => e = .returned (.tuple #[]) ∧ w' = w := by
  obtain ⟨j, hj, hjs⟩ := Option.map_eq_some_iff.1 sizeBuilder
  go_enter Tryd.func87, Tryd.ntmps87
  go_wp2_with fail
  rw [Lib.run_neq_ptr_same w _ Tryd.underlying59 hj]
  go_wp2_with fail
  go_end0
  exact ⟨rfl, rfl⟩
theorem copyCheck_calls (base b : Nat) (l : List UInt8) (w : World) (h : IsWr w base b l) :
    Calls Tryd.prog 87 #[.pointer (some ⟨b, 0, none⟩)] w fun e w' => e = .returned (.tuple #[]) ∧ Wr w' base b (.pointer (some ⟨b, 0, none⟩)) l ∧ w.grownBy w' (some b) := by
  rcases h with h | h
  · obtain ⟨hb, v, h1, h2, h3⟩ := h
    obtain ⟨c0, _, f0, _⟩ := Blk.c2 h1
    refine (copyCheck_fresh b w c0 (shape_blk h1) f0).mono ?_
    rintro e w' ⟨rfl, rfl⟩
    exact ⟨rfl, ⟨hb, v, h1.set 0 _, ownsRow_setCell_other h2 h3 _, h3⟩, grown_set (grown_refl _ _) (.inl rfl) _⟩
  · obtain ⟨hb, v, h1, h2, h3⟩ := h
    obtain ⟨c0, _, f0, _⟩ := Blk.c2 h1
    refine (copyCheck_used b w c0).mono ?_
    rintro e w' ⟨rfl, rfl⟩
    exact ⟨rfl, ⟨hb, v, h1, h2, h3⟩, grown_refl _ _⟩
/-- What stays while a writer at b writes: all old blocks but b and the rows of bytes from base on. -/
structure Wrote (w w' : World) (base b : Nat) : Prop where
  os : w'.os = w.os
  tape : w'.tape = w.tape
  output : w'.output = w.output
  size : w.heap.size ≤ w'.heap.size
  block : ∀ g, g < w.heap.size → g ≠ b → (g < base ∨ ∀ cur fz, w.heap[g]? ≠ some (.cells cur 5 fz)) → w'.heap[g]? = w.heap[g]?
theorem Wrote.refl (w : World) (base b : Nat) : Wrote w w base b := ⟨rfl, rfl, rfl, Nat.le_refl _, fun _ _ _ _ => rfl⟩
theorem Wrote.trans {a w w' : World} {base b : Nat} (h : Wrote a w base b) (k : Wrote w w' base b) : Wrote a w' base b :=
  ⟨k.os.trans h.os, k.tape.trans h.tape, k.output.trans h.output, Nat.le_trans h.size k.size, fun g hg hb hk => by
    have e := h.block g hg hb hk
    exact (k.block g (Nat.lt_of_lt_of_le hg h.size) hb (by rwa [e])).trans e⟩
theorem Wrote.alloc {a w : World} {base b : Nat} (h : Wrote a w base b) (o : Obj) : Wrote a (w.alloc o) base b :=
  ⟨h.os, h.tape, h.output, Nat.le_trans h.size (by simp), fun g hg hb hk => (Below.heap_alloc w o g (Nat.lt_of_lt_of_le hg h.size)).trans (h.block g hg hb hk)⟩
theorem Wrote.drew {a w : World} {base b : Nat} (h : Wrote a w base b) : Wrote a w.drew base b := ⟨h.os, h.tape, h.output, h.size, h.block⟩
theorem Wrote.below {a w : World} {base b : Nat} (h : Wrote a w base b) (hb : base ≤ b) {B : Nat} (hB : B ≤ base) (hB2 : B ≤ a.heap.size) : Below B a w :=
  ⟨h.os, h.tape, h.output, h.size, fun g hg => h.block g (by omega) (by omega) (.inl (by omega))⟩
theorem Blk.wrote {w w' : World} {g base b : Nat} {cs : Array Value} {t : TypeId} (h : Blk w g cs t) (k : Wrote w w' base b) (hb : g ≠ b) (ht : t ≠ 5) : Blk w' g cs t :=
  (k.block g h.lt hb (.inr (fun cur fz e => by
    unfold Blk at h
    rw [h] at e
    injection e with e
    injection e with _ e _
    exact ht e))).trans h
theorem D.rd_wrote {w w' : World} {ok : Nat → Prop} {d : D} {v : Value} {base b : Nat} (h : d.rd w ok v) (k : Wrote w w' base b) (hok : ∀ g, ok g → g < base ∧ g ≠ b) : d.rd w' ok v :=
  D.rd_keep h (fun g hg hl => ⟨hg, k.block g hl (hok g hg).2 (.inl (hok g hg).1)⟩)
theorem D.rdRow_wrote {w w' : World} {ok : Nat → Prop} {d : List D} {v : List Value} {base b : Nat} (h : D.rdRow w ok d v) (k : Wrote w w' base b) (hok : ∀ g, ok g → g < base ∧ g ≠ b) : D.rdRow w' ok d v :=
  D.rdRow_keep h (fun g hg hl => ⟨hg, k.block g hl (hok g hg).2 (.inl (hok g hg).1)⟩)
def WrPost (w : World) (base b : Nat) (l : List UInt8) (w' : World) : Prop :=
  Wr w' base b (.pointer (some ⟨b, 0, none⟩)) l ∧ Wrote w w' base b
set_option maxHeartbeats 1000000 in
set_option maxRecDepth 100000 in
theorem writeString_calls (base b : Nat) (l : List UInt8) (s : ByteArray) (w : World) (h : IsWr w base b l) (hlen : l.length + s.size ≤ 140737488355328) (hbase : base ≤ w.heap.size) :
    Calls Tryd.prog 63 #[.pointer (some ⟨b, 0, none⟩), .string s] w fun e w' => e = .returned (.tuple #[.int .i64 s.size, .nilIface]) ∧ WrPost w base b (l ++ s.data.toList) w' := by
  obtain ⟨i0, hi, hz0, hz1, hz2⟩ := info_parts infoByte
  have hc := copyCheck_calls base b l w h
  have HC := Lib.hid hc
  clear hc h
  go_enter Tryd.func63, Tryd.ntmps63
  go_wp2_with fail
  refine HC.out.mono ?_
  rintro e w1 ⟨rfl, ⟨hb, v, h1, h2, h3⟩, hg1⟩
  obtain ⟨c0, c1, f0, f1⟩ := Blk.c2 h1
  have z1 := hg1.size
  have z2 := h1.lt
  have H1 := Lib.hid h1
  have H2 := Lib.hid h2
  have H3 := Lib.hid h3
  have HG := Lib.hid hg1
  clear h1 h2 h3 hg1
  dsimp only
  go_wp2_with (at_builtin; refine Lib.wpList_append_own_string _ rfl _ _ 32 9 rfl base 5 i0 Tryd.underlying32 Tryd.underlying9 hi hz0 hz1 hz2 v l.length (Lib.byteCells l) rfl H2.out s rfl (by simp only [maxLen]; omega) (by omega) (by omega) ?_; intro v' w2 hown' hg2 _; obtain ⟨A, c, rfl⟩ := own_shape hown'; have hb2 := H1.out.grown hg2 (Ne.symm H3.out); obtain ⟨d0, d1, e0, e1⟩ := Blk.c2 hb2; have HB2 := Lib.hid hb2; have HG2 := Lib.hid hg2; have HO2 := Lib.hid hown'; clear hb2 hg2 hown')
  have hlen2 : (l ++ s.data.toList).length = l.length + s.size := by simp
  have htwo : Two w w1 b v.ownBlock := ⟨HG.out.os, HG.out.tape, HG.out.output, HG.out.size, fun g hg hne _ => HG.out.block g hg (by simpa using hne)⟩
  have hbc : Lib.byteCells (l ++ s.data.toList) = Lib.byteCells l ++ Lib.strCells s := by rw [Lib.byteCells_append, Lib.strCells_eq]
  refine bodyPost_ret (v := .tuple #[.int .i64 s.size, .nilIface]) (by simp [results, Tryd.results63, go_sem]) rfl ⟨rfl, ⟨hb, .slice A (l.length + s.size) c, HB2.out.set 1 _, ?_, ?_⟩, ?_⟩
  · rw [hlen2, hbc]
    refine ownsRow_setCell_other HO2.out ?_ _
    intro e
    exact own_kind HO2.out HB2.out (by decide) e
  · intro e
    exact own_kind HO2.out HB2.out (by decide) e
  · have ht := (htwo.grown HG2.out (.inl rfl)).set 1 (.slice A (l.length + s.size) c)
    refine ⟨ht.os, ht.tape, ht.output, ht.size, fun g hg hne hk => ht.block g hg hne (fun e => ?_)⟩
    rcases hk with hk | hk
    · have := (H2.out.lt g e.symm).1
      omega
    · rcases H2.out.2 with ⟨hv, _⟩ | ⟨g', cap, cur, hv, _, hg', _⟩
      · rw [hv] at e
        simp [Value.ownBlock] at e
      · rw [hv] at e
        simp [Value.ownBlock] at e
        subst e
        exact hk cur (0, 0) ((HG.out.block g hg (by simpa using hne)) ▸ hg')
set_option maxHeartbeats 1000000 in
set_option maxRecDepth 100000 in
theorem builderString_calls (base b : Nat) (l : List UInt8) (w : World) (h : IsWr w base b l) (h0 : l ≠ []) :
    Calls Tryd.prog 25 #[.pointer (some ⟨b, 0, none⟩)] w fun e w' => e = .returned (.string ⟨l.toArray⟩) ∧ Below base w w' := by
  obtain ⟨p, hB, v, h1, h2, h3⟩ : ∃ p, Wr w base b p l := by
    rcases h with h | h
    · exact ⟨_, h⟩
    · exact ⟨_, h⟩
  have hl0 : l.length ≠ 0 := by simpa using h0
  obtain ⟨g, cap, cur, rfl, hbg, hg, hnc, hcm, hcs, htake⟩ : ∃ g cap cur, v = .slice (some ⟨g, 0, none⟩) l.length cap ∧ base ≤ g ∧ w.heap[g]? = some (.cells cur 5 (0, 0)) ∧ l.length ≤ cap ∧ cap ≤ maxLen ∧ cur.size = cap * 1 ∧ cur.toList.take (l.length * 1) = Lib.byteCells l := by
    rcases h2.2 with ⟨_, hz⟩ | ⟨g, cap, cur, hv, r⟩
    · exact absurd hz hl0
    · exact ⟨g, cap, cur, hv, r⟩
  obtain ⟨c0, c1, _, _⟩ := Blk.c2 h1
  have hSD : (Builtin.unsafeSliceData_ #[32] 93 #[.slice (some ⟨g, 0, none⟩) l.length cap]).run Tryd.prog w.drew = .ok (.pointer (some ⟨g, 0, none⟩)) w.drew :=
    Lib.run_unsafeSliceData_row _ _ _ _ _ _ (by omega)
  have hUS : (Builtin.unsafeString_ #[93, 3] 9 #[.pointer (some ⟨g, 0, none⟩), .int .i64 l.length]).run Tryd.prog w.drew = .ok (.string ⟨l.toArray⟩) (w.drew.freeze ⟨g, 0, none⟩ l.length) := by
    refine Lib.run_unsafeString_row w.drew 93 3 9 5 Tryd.underlying93 (by kernel_rfl) g cur.size (by have hg' : w.drew.heap[g]? = some (.cells cur 5 (0, 0)) := hg; simp [World.shape?, hg']) l h0 (by omega) (by unfold maxLen at hcm; omega) ?_
    intro j x hx
    exact h2.cells (g := g) rfl j (.int .u8 x.toNat) (by simp [Lib.byteCells, hx])
  have HH := Lib.hid h2
  clear h h1 h2 h3 hg hcs htake
  go_enter Tryd.func25, Tryd.ntmps25
  go_wp2_with fail
  go_region_law (fail)
  all_goals
    go_wp2_with fail
    go_ret
    exact ⟨rfl, Lib.below_freeze (Below.drew (Below.refl base w)) (p := ⟨g, 0, none⟩) hbg _⟩
end Wh
