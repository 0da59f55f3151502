import Derived.Test.YtlacfgnjljjdiaaDoorT8
set_option linter.unusedVariables false
set_option linter.unusedSimpArgs false
open Go Go.RowKit Go.Proofs
namespace Wh
theorem wrap_id (n : Int) (h0 : -9223372036854775808 ≤ n) (h1 : n ≤ 9223372036854775807) : IntKind.i64.wrap n = n := by
  simp [IntKind.wrap, IntKind.bits, IntKind.signed]
  omega
mutual
/-- What TermOf counts. -/
def Tm.count : Tm → Int → Int
  | .mk k n g ds ks, m => 1 + ((n.size / 8 : Nat) : Int) + (ds.length : Int) + Tm.counts ks (m - 1) 0
def Tm.counts : List Tm → Int → Int → Int
  | [], m, n => n
  | t :: ts, m, n => if n ≤ m then Tm.counts ts m (n + t.count (m - n)) else n
end
mutual
/-- How great a term is, in TermOf's measure. -/
def Tm.parts : Tm → Int
  | .mk k n g ds ks => 1 + ((n.size / 8 : Nat) : Int) + (ds.length : Int) + Tm.partss ks
def Tm.partss : List Tm → Int
  | [] => 0
  | t :: ts => t.parts + Tm.partss ts
end
mutual
/-- No list, no name of it is longer than a machine has memory for. -/
def Tm.low : Tm → Prop
  | .mk k n _ ds ks => ds.length ≤ 140737488355328 ∧ ks.length ≤ 140737488355328 ∧ n.size ≤ 140737488355328 ∧ Tm.lows ks
def Tm.lows : List Tm → Prop
  | [] => True
  | t :: ts => t.low ∧ Tm.lows ts
end
theorem Tm.lows_get : ∀ (l : List Tm), Tm.lows l → ∀ i (h : i < l.length), (l[i]).low
  | [], _, i, h => absurd h (by simp)
  | t :: ts, hf, 0, _ => hf.1
  | t :: ts, hf, i + 1, h => Tm.lows_get ts hf.2 i (by simpa using h)
theorem Tm.counts_over : ∀ (l : List Tm) (m n : Int), m < n → Tm.counts l m n = n
  | [], m, n, _ => by simp [Tm.counts]
  | t :: ts, m, n, h => by simp [Tm.counts]; omega
mutual
theorem Tm.count_pos : ∀ (t : Tm) (m : Int), 0 < t.count m
  | .mk k n g ds ks, m => by
    have := Tm.counts_ge ks (m - 1) 0
    simp only [Tm.count]
    omega
theorem Tm.counts_ge : ∀ (l : List Tm) (m n : Int), n ≤ Tm.counts l m n
  | [], m, n => by simp [Tm.counts]
  | t :: ts, m, n => by
    simp only [Tm.counts]
    split
    · have h1 := Tm.count_pos t (m - n)
      have h2 := Tm.counts_ge ts m (n + t.count (m - n))
      omega
    · omega
end
mutual
theorem Tm.count_le : ∀ (t : Tm) (m : Int), t.low → m ≤ 4096 → t.count m ≤ 562949953421312 * ((m.toNat : Int) + 1)
  | .mk k n g ds ks, m, hl, hm => by
    simp only [Tm.low] at hl
    simp only [Tm.count]
    by_cases h : 1 ≤ m
    · have := Tm.counts_le ks (m - 1) 0 hl.2.2.2 (by omega) (by omega) (by omega)
      omega
    · have := Tm.counts_over ks (m - 1) 0 (by omega)
      omega
theorem Tm.counts_le : ∀ (l : List Tm) (m n : Int), Tm.lows l → 0 ≤ n → n ≤ m → m ≤ 4096 → Tm.counts l m n ≤ m + 562949953421312 * ((m.toNat : Int) + 1)
  | [], m, n, _, h0, h1, h2 => by
    simp only [Tm.counts]
    omega
  | t :: ts, m, n, hl, h0, h1, h2 => by
    simp only [Tm.counts, if_pos h1]
    have hc := Tm.count_le t (m - n) hl.1 (by omega)
    have hp := Tm.count_pos t (m - n)
    by_cases h : n + t.count (m - n) ≤ m
    · exact Tm.counts_le ts m _ hl.2 (by omega) h h2
    · rw [Tm.counts_over _ _ _ (by omega)]
      omega
end
mutual
theorem Tm.count_all : ∀ (t : Tm) (m : Int), t.count m ≤ m → t.count m = t.parts
  | .mk k n g ds ks, m, h => by
    simp only [Tm.count, Tm.parts] at h ⊢
    have := Tm.counts_all ks (m - 1) 0 (by omega)
    omega
theorem Tm.counts_all : ∀ (l : List Tm) (m n : Int), Tm.counts l m n ≤ m → Tm.counts l m n = n + Tm.partss l
  | [], m, n, h => by simp [Tm.counts, Tm.partss]
  | t :: ts, m, n, h => by
    have hge := Tm.counts_ge (t :: ts) m n
    have hn : n ≤ m := by omega
    simp only [Tm.counts, if_pos hn, Tm.partss] at h ⊢
    have h1 := Tm.counts_ge ts m (n + t.count (m - n))
    have h2 := Tm.count_all t (m - n) (by omega)
    rw [Tm.counts_all ts m _ h]
    omega
end
/-- TermOf's contract at one term. -/
def CountAt (t : Tm) : Prop := ∀ (m : Int) (w : World) (ok : Nat → Prop) (us : List Value), D.rdRow w ok t.enc us → t.low → -4096 ≤ m → m ≤ 4096 → Calls Tryd.prog 41 #[.agg us.toArray, .int .i64 m] w (Tells w (.int .i64 (t.count m)))
def CountsAt (l : List Tm) : Prop := ∀ (m : Int) (w : World) (ok : Nat → Prop) (a : Value), D.rd w ok (.row 28 5 (Tm.encs l)) a → Tm.lows l → -4097 ≤ m → m ≤ 4096 → Calls Tryd.prog 19 #[a, .int .i64 m] w (Tells w (.int .i64 (Tm.counts l m 0)))
set_option maxHeartbeats 1000000 in
set_option maxRecDepth 100000 in
theorem termOf_step (kind : Int) (name : ByteArray) (neg : Bool) (ds : List Int) (ks : List Tm) (hks : CountsAt ks) : CountAt (.mk kind name neg ds ks) := by
  intro m w ok us hr hlow hm0 hm1
  obtain ⟨dA, dc, kA, kc, rfl, hd, hk⟩ := Tm.open hr
  have hkid : ∀ W, Below w.heap.size w W → Calls Tryd.prog 19 #[.slice kA ks.length kc, .int .i64 (m - 1)] W (Tells W (.int .i64 (Tm.counts ks (m - 1) 0))) := fun W h => hks (m - 1) W ok _ (D.rd_ext hk h) hlow.2.2.2 (by omega) (by omega)
  have hle : Tm.counts ks (m - 1) 0 ≤ 4096 + 562949953421312 * 4097 := by
    by_cases h : 1 ≤ m
    · have := Tm.counts_le ks (m - 1) 0 hlow.2.2.2 (by omega) (by omega) (by omega)
      omega
    · have := Tm.counts_over ks (m - 1) 0 (by omega)
      omega
  have hge := Tm.counts_ge ks (m - 1) 0
  obtain ⟨l1, l2, l3, _⟩ := hlow
  have HK := Lib.hid hkid
  clear hr hd hk hkid hks
  simp only [Tm.count]
  generalize Tm.counts ks (m - 1) 0 = C at *
  have w0 : IntKind.i64.wrap (m - 1) = m - 1 := wrap_id _ (by omega) (by omega)
  have w1 : IntKind.i64.wrap ((name.size : Int) / 8) = (name.size : Int) / 8 := wrap_id _ (by omega) (by omega)
  have w2 : IntKind.i64.wrap (1 + (name.size : Int) / 8) = 1 + (name.size : Int) / 8 := wrap_id _ (by omega) (by omega)
  have w3 : IntKind.i64.wrap (1 + (name.size : Int) / 8 + (ds.length : Int)) = 1 + (name.size : Int) / 8 + (ds.length : Int) := wrap_id _ (by omega) (by omega)
  have w4 : IntKind.i64.wrap (1 + (name.size : Int) / 8 + (ds.length : Int) + C) = 1 + (name.size : Int) / 8 + (ds.length : Int) + C := wrap_id _ (by omega) (by omega)
  clear l1 l2 l3 hle hge hm0 hm1
  go_enter Tryd.func41, Tryd.ntmps41
  go_wp2_with fail
  go_region_law (refine step_call 19 rfl (by go_simp; rfl) ?_; refine (HK.out _ (by repeat (first | (with_reducible refine Below.drew ?_) | (with_reducible refine ext_alloc ?_ _) | (with_reducible exact Below.refl _ _)))).mono ?_; rintro e wq ⟨rfl, hb2⟩; have hz := hb2.size; have hp := Blk.below (by repeat (first | (with_reducible refine Blk.drew ?_) | exact Blk.new w (#[.int .u8 kind, .string name, .bool neg, .slice dA ds.length dc, .slice kA ks.length kc]) 28)) hb2 (by show w.heap.size < (w.alloc _).heap.size; simp); obtain ⟨⟨p0, p1, p2, p3, p4⟩, _⟩ := Blk.c5 hp; have HB2 := Lib.hid hb2; clear hb2 hp)
  all_goals
    go_wp2_with fail
    go_ret
    exact ⟨by go_num, Below.trans (ext_alloc (Below.refl _ _) _).drew (HB2.out.mono (by show w.heap.size ≤ (w.alloc _).heap.size; simp))⟩
end Wh
