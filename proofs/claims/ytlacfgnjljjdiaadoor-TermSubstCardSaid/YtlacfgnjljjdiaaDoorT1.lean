import Derived.Test.YtlacfgnjljjdiaaDoorProg
import Derived.Test.YtlacfgnjljjdiaaDoorL3
import Derived.Deep.QuietTactic
import Derived.BigQuiet
import Derived.Outline
import Derived.Lib.Hide
import Derived.KernelRfl
set_option linter.unusedVariables false
set_option linter.unusedSimpArgs false
open Go Go.RowKit Go.Proofs
namespace Wh
theorem infoU32 : (Tryd.prog.info? 53).map (fun i => (i.zero, i.size, i.bytes)) = some (some (.int .u32 0), 1, 4) := by kernel_rfl
theorem infoTerm : (Tryd.prog.info? 28).map (fun i => (i.zero, i.size, i.bytes)) = some (some (.agg #[.int .u8 0, .string ⟨#[]⟩, .bool false, .slice none 0 0, .slice none 0 0]), 5, 80) := by kernel_rfl
/-! ### must, more -/
theorem must_true (n : Int) (w : World) : Calls Tryd.prog 29 #[.bool true, .int .i64 n] w fun e w' => e = .returned (.tuple #[]) ∧ w = w' := by
  go_enter Tryd.func29, Tryd.ntmps29
  go_wp2
  go_end0
  exact ⟨rfl, rfl⟩
/-- What a thrown error looks like. -/
def thrown (n : Int) : List PanicEntry := [{ v := .iface 41 (.int .i64 n), recovered := false }]
theorem must_false (n : Int) (w : World) : Calls Tryd.prog 29 #[.bool false, .int .i64 n] w fun e w' => e = .panicked (thrown n) ∧ w = w' := by
  go_enter Tryd.func29, Tryd.ntmps29
  go_wp2
  exact ⟨rfl, rfl, rfl⟩
theorem more_ok (b off : Nat) (k : Int) (w : World) (h0 : 0 ≤ k) (h : k < 20000) (hc : w.cell? ⟨b, off, none⟩ = some (.int .i64 k)) (hf : w.frozen? ⟨b, off, none⟩ = false) :
   Calls Tryd.prog 56 #[.pointer (some ⟨b, off, none⟩)] w fun e w' => e = .returned (.tuple #[]) ∧ w' = w.setCell ⟨b, off, none⟩ (.int .i64 (k+1)) := by
  have ht : decide (k + 1 ≤ 20000) = true := by simp; omega
  go_enter Tryd.func56, Tryd.ntmps56
  go_wp2_with (go_at_call 29; refine (must_true _ _).mono ?_; rintro e w' ⟨rfl, rfl⟩)
  go_end0
  exact ⟨rfl, rfl⟩
theorem more_bad (b off : Nat) (k : Int) (w : World) (h : k = 20000) (hc : w.cell? ⟨b, off, none⟩ = some (.int .i64 k)) (hf : w.frozen? ⟨b, off, none⟩ = false) :
   Calls Tryd.prog 56 #[.pointer (some ⟨b, off, none⟩)] w fun e w' => e = .panicked (thrown 34) ∧ w' = w.setCell ⟨b, off, none⟩ (.int .i64 (k+1)) := by
  subst h
  have ht : decide ((20000 : Int) + 1 ≤ 20000) = false := by decide
  go_enter Tryd.func56, Tryd.ntmps56
  go_wp2_with (go_at_call 29; refine (must_false _ _).mono ?_; rintro e w' ⟨rfl, rfl⟩)
  exact ⟨rfl, rfl, rfl⟩
/-! ### slices.Clone of digits -/
set_option maxHeartbeats 400000 in
theorem clone_u32 (w : World) (ok : Nat → Prop) (xs : List Int) (v : Value) (h : D.rd w ok (.ints 53 .u32 xs) v) (hb : xs.length ≤ 1000000) :
    Calls Tryd.prog 69 #[v] w fun e w' => ∃ A c, e = .returned (.slice A xs.length c) ∧ Made w' (fun g => w.heap.size ≤ g) (.ints 53 .u32 xs) (.slice A xs.length c) ∧ Below w.heap.size w w' := by
  obtain ⟨A, c, rfl, hl, hnil, hc⟩ := D.rd_ints h
  have q : ∀ (w : World) (a : Option Addr) (n c n' c' : Nat), (binOp .eql 23 (.slice a n c) (.slice none n' c')).run Tryd.prog w = .ok (.bool a.isNone) w := fun w a n c n' c' => Lib.run_eql_slice_nil w _ _ a n c n' c' Tryd.underlying23
  cases A with
  | none =>
    have hx : xs = [] := by
      cases xs with
      | nil => rfl
      | cons x xs => obtain ⟨g, o, _, h0, _⟩ := hc 0 (by simp); cases h0
    subst hx
    obtain rfl := hnil rfl
    clear h hc hnil
    go_enter Tryd.func69, Tryd.ntmps69
    go_wp2_with fail
    exact bodyPost_ret (results_tmp rfl _ _ _) rfl ⟨none, 0, rfl, Made.nil _ _ _ _, Below.refl _ _⟩
  | some ad =>
    have hn := D.ints_news h
    have HN := Lib.hid hn
    clear hn hc h hnil
    obtain ⟨i0, hi, hz0, hz1, hz2⟩ := info_parts infoU32
    go_enter Tryd.func69, Tryd.ntmps69
    go_wp2_with (at_builtin; refine wpList_append_own _ rfl _ _ 23 rfl w.heap.size 53 i0 (.int .u32 0) 1 4 Tryd.underlying23 hi hz0 hz1 hz2 rfl (by decide) _ 0 [] rfl (World.ownsRow_made _ _ _ (Nat.le_refl _) (by decide) rfl) ad xs.length c (xs.map (Value.int .u32)) rfl (by simp) (fun j u hu => cell_alloc _ (HN.out j u hu)) one_ints (by simp only [maxLen]; omega) (by omega) (by simp) ?_; intro v' w1 ho hg _)
    obtain ⟨A', c', rfl⟩ := own_shape ho
    rw [Nat.zero_add]
    refine bodyPost_ret (results_tmp rfl _ _ _) rfl ⟨A', c', rfl, ?_, ?_⟩
    · rw [Nat.zero_add] at ho
      refine Made.of_row ho (by simp) (MadeCells.ints (w := w1) xs) ?_
      intro g hg'
      exact (ho.lt g hg').1
    · refine Below.grown ((Below.refl _ w).alloc (Nat.le_refl _) _) hg (by simp) ?_
      intro k hk
      have h2 : (Value.slice (some ⟨w.heap.size, 0, none⟩) 0 0).ownBlock = some k := hk
      simp only [Value.ownBlock, Option.some.injEq] at h2
      omega
/-! ### alone -/
theorem alone_calls (w : World) (ok : Nat → Prop) (kind : Int) (name : ByteArray) (neg : Bool) (xs : List Int) (dv kv : Value) (h : D.rd w ok (.ints 53 .u32 xs) dv) (hb : xs.length ≤ 1000000) :
    Calls Tryd.prog 57 #[.agg #[.int .u8 kind, .string name, .bool neg, dv, kv]] w fun e w' => ∃ A c, e = .returned (.agg #[.int .u8 kind, .string name, .bool neg, .slice A xs.length c, .slice none 0 0]) ∧ Made w' (fun g => w.heap.size ≤ g) (.ints 53 .u32 xs) (.slice A xs.length c) ∧ Below w.heap.size w w' := by
  have HH := Lib.hid h
  clear h
  go_enter Tryd.func57, Tryd.ntmps57
  go_wp2_with (go_at_call 69; refine (clone_u32 _ ok xs dv ?_ hb).mono ?_; exact D.rd_ext HH.out ((ext_alloc ((Below.refl _ _).alloc (Nat.le_refl _) _) _)); rintro e w1 ⟨A, c, rfl, hr, hbl⟩; have HR := Lib.hid hr; clear hr; have HB := Lib.hid hbl; obtain ⟨⟨k0, k1, k2, k3, k4⟩, f0, f1, f2, f3, f4⟩ := Blk.c5 (((Blk.new w _ _).alloc _).ext hbl); obtain ⟨⟨l0, l1, l2, l3, l4⟩, g0, g1, g2, g3, g4⟩ := Blk.c5 ((Blk.new' _ _ _ (n := w.heap.size + 1) (by simp)).ext hbl); clear hbl)
  refine bodyPost_ret (v := .agg #[.int .u8 kind, .string name, .bool neg, .slice A xs.length c, .slice none 0 0]) (by simp [results, Tryd.results57, go_sem, *]) rfl ⟨A, c, rfl, ?_, ?_⟩
  · refine Made.imp (ok := fun g => w.heap.size + 2 ≤ g) ?_ (fun g hg => by omega)
    repeat (refine Made.set ?_ (fun g hg => by simp at hg ⊢; omega))
    exact Made.imp HR.out (fun g hg => by simp at hg; omega)
  · repeat (refine Below.setCell ?_ (by simp) _)
    exact (ext_alloc ((Below.refl _ _).alloc (Nat.le_refl _) _) _).trans (HB.out.mono (by simp; omega))
end Wh
