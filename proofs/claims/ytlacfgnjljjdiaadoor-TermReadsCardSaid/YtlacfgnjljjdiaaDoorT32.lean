import Derived.Test.YtlacfgnjljjdiaaDoorT31
import Derived.Test.YtlacfgnjljjdiaaDoorL3
set_option linter.unusedVariables false
set_option linter.unusedSimpArgs false
open Go Go.RowKit Go.Proofs
namespace Wh
/-! ### what a reader reads -/
def cutO (s : ByteArray) (c : UInt8) : Option (ByteArray × ByteArray) := if (cutS s c).2.2 = true then some ((cutS s c).1, (cutS s c).2.1) else none
def nameO (s : ByteArray) (n : Nat) : Option (ByteArray × ByteArray) := if s.data.toList[n]? = some 32 then some (s.extract 0 n, s.extract (n + 1) s.size) else none
def rdDigits : Nat → ByteArray → Option (List Int)
  | 0, _ => none
  | F + 1, s => if s.size = 0 then some [] else (cutO s 46).bind fun p => (numOf p.1.data.toList 4294967295).bind fun x => (rdDigits F p.2).map fun l => (x : Int) :: l
def kidsO (f : ByteArray → Option (Tm × ByteArray)) : Nat → ByteArray → Option (List Tm × ByteArray)
  | 0, s => some ([], s)
  | m + 1, s => (f s).bind fun p => (kidsO f m p.2).map fun q => (p.1 :: q.1, q.2)
def trimD (s : ByteArray) : ByteArray := ⟨(Lib.trimPrefix s.data.toList [45]).toArray⟩
def hasD (s : ByteArray) : Bool := Lib.hasPrefix s.data.toList [45]
def rdTerm : Nat → ByteArray → Option (Tm × ByteArray)
  | 0, _ => none
  | F + 1, s => (cutO s 32).bind fun a => (cutO a.2 58).bind fun b => (numOf a.1.data.toList 255).bind fun k => (numOf b.1.data.toList 2147483647).bind fun n => (nameO b.2 n).bind fun c =>
    (cutO c.2 32).bind fun d => (rdDigits (d.1.size + 1) (trimD d.1)).bind fun ds => (cutO d.2 59).bind fun e => (numOf e.1.data.toList 2147483647).bind fun m =>
    (kidsO (rdTerm F) m e.2).map fun q => (Tm.mk k c.1 (hasD d.1) ds q.1, q.2)
theorem cutO_size {s x y : ByteArray} {c : UInt8} (h : cutO s c = some (x, y)) : x.size + 1 + y.size = s.size := by
  unfold cutO at h
  split at h
  · rename_i hf
    injection h with h
    injection h with h1 h2
    subst h1 h2
    unfold cutS at hf ⊢
    unfold Lib.cut at hf ⊢
    split at hf
    · rename_i hi
      rw [if_pos hi]
      have hle := Lib.index_room s.data.toList [c] hi
      have hsz : s.data.toList.length = s.data.size := by simp
      rw [hsz] at hle
      simp only [List.length_cons, List.length_nil] at hle
      simp only [ByteArray.size, List.size_toArray, List.length_take, List.length_drop, List.length_cons, List.length_nil, hsz]
      omega
    · simp at hf
  · cases h
theorem nameO_size {s x y : ByteArray} {n : Nat} (h : nameO s n = some (x, y)) : y.size < s.size := by
  unfold nameO at h
  split at h
  · rename_i hf
    injection h with h
    injection h with h1 h2
    subst h1 h2
    have hn : n < s.size := by
      have := (List.getElem?_eq_some_iff.1 hf).1
      simpa using this
    rw [ByteArray.size_extract]
    omega
  · cases h
theorem until_call {f : FuncId} {args : Array Value} {w : World} {b : Nat} {s : ByteArray} {c : UInt8} {R : Ending → World → Prop} (h : Calls Tryd.prog f args w (UntilPost w b s c))
    (hp : ∀ w', cutO s c = none → w.grownBy w' (some b) → R (.panicked (thrown 4)) w')
    (hr : ∀ w' x y, cutO s c = some (x, y) → w.grownBy w' (some b) → Rd w' b y → R (.returned (.string x)) w') : Calls Tryd.prog f args w R := by
  refine h.mono ?_
  rintro e w' ⟨hg, (⟨hf, rfl, hy⟩ | ⟨hf, rfl⟩)⟩
  · exact hr w' _ _ (by unfold cutO; rw [if_pos hf]) hg hy
  · exact hp w' (by unfold cutO; rw [if_neg (by simp [hf])]) hg
theorem name_call {f : FuncId} {args : Array Value} {w : World} {b : Nat} {s : ByteArray} {n : Nat} {R : Ending → World → Prop} (h : Calls Tryd.prog f args w (NamePost w b s n))
    (hp : ∀ w', nameO s n = none → w.grownBy w' (some b) → R (.panicked (thrown 4)) w')
    (hr : ∀ w' x y, nameO s n = some (x, y) → w.grownBy w' (some b) → Rd w' b y → R (.returned (.string x)) w') : Calls Tryd.prog f args w R := by
  refine h.mono ?_
  rintro e w' ⟨hg, (⟨hf, rfl, hy⟩ | ⟨hf, rfl⟩)⟩
  · exact hr w' _ _ (by unfold nameO; rw [if_pos hf]) hg hy
  · exact hp w' (by unfold nameO; rw [if_neg hf]) hg
theorem number_call {f : FuncId} {args : Array Value} {w : World} {r : Option Nat} {R : Ending → World → Prop} (h : Calls Tryd.prog f args w (NumPost w r))
    (hp : ∀ w', r = none → Below w.heap.size w w' → R (.panicked (thrown 4)) w')
    (hr : ∀ w' n, r = some n → Below w.heap.size w w' → R (.returned (.int .i64 n)) w') : Calls Tryd.prog f args w R := by
  refine h.mono ?_
  rintro e w' ⟨hb, hm⟩
  cases r with
  | none => subst hm; exact hp w' rfl hb
  | some n => subst hm; exact hr w' n rfl hb
theorem numOf_le {s : List UInt8} {most n : Nat} (h : numOf s most = some n) : n ≤ most := by
  unfold numOf at h
  split at h
  · split at h
    · rename_i hh
      injection h with h
      subst h
      exact hh.1
    · cases h
  · cases h
def RtermPost (w : World) (b : Nat) (r : Option (Tm × ByteArray)) (e : Ending) (w' : World) : Prop := w.grownBy w' (some b) ∧ match r with
  | some (t, rest) => (∃ us, e = .returned (.agg us.toArray) ∧ MadeRow w' (fun g => w.heap.size ≤ g) t.enc us) ∧ Rd w' b rest
  | none => e = .panicked (thrown 4)
theorem RtermPost.bad {w w' : World} {b : Nat} {r : Option (Tm × ByteArray)} (h : r = none) (hg : w.grownBy w' (some b)) : RtermPost w b r (.panicked (thrown 4)) w' := by subst h; exact ⟨hg, rfl⟩
theorem RtermPost.good {w w' : World} {b : Nat} {r : Option (Tm × ByteArray)} {t : Tm} {rest : ByteArray} {us : List Value} (h : r = some (t, rest)) (hg : w.grownBy w' (some b)) (hu : MadeRow w' (fun g => w.heap.size ≤ g) t.enc us) (hr : Rd w' b rest) : RtermPost w b r (.returned (.agg us.toArray)) w' := by subst h; exact ⟨hg, ⟨us, rfl, hu⟩, hr⟩
theorem rterm_call {f : FuncId} {args : Array Value} {w : World} {b : Nat} {r : Option (Tm × ByteArray)} {R : Ending → World → Prop} (h : Calls Tryd.prog f args w (RtermPost w b r))
    (hp : ∀ w', r = none → w.grownBy w' (some b) → R (.panicked (thrown 4)) w')
    (hr : ∀ w' kd nm ng xd ls rest dA dc lA lc, r = some (Tm.mk kd nm ng xd ls, rest) → w.grownBy w' (some b) → Rd w' b rest → MadeRow w' (fun g => w.heap.size ≤ g) (Tm.mk kd nm ng xd ls).enc [.int .u8 kd, .string nm, .bool ng, .slice dA xd.length dc, .slice lA ls.length lc] → R (.returned (.agg #[.int .u8 kd, .string nm, .bool ng, .slice dA xd.length dc, .slice lA ls.length lc])) w') : Calls Tryd.prog f args w R := by
  refine h.mono ?_
  rintro e w' ⟨hg, hm⟩
  cases r with
  | none => subst hm; exact hp w' rfl hg
  | some p =>
    obtain ⟨⟨kd, nm, ng, xd, ls⟩, rest⟩ := p
    obtain ⟨⟨us, rfl, hu⟩, hrd⟩ := hm
    obtain ⟨dA, dc, lA, lc, rfl, _, _⟩ := Tm.open hu.rd
    exact hr w' _ _ _ _ _ _ _ _ _ _ rfl hg hrd hu
end Wh
