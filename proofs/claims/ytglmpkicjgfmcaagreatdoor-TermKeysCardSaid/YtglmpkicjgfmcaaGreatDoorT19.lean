import Derived.Test.YtglmpkicjgfmcaaGreatDoorT2
import Derived.Laws.AppendOwnNone
set_option linter.unusedVariables false
set_option linter.unusedSimpArgs false
open Go Go.RowKit Go.Proofs
namespace Wh
/-! ### whetstonekit's copies -/
set_option maxHeartbeats 400000 in
theorem copyLimbs_calls (w : World) (ok : Nat → Prop) (xs : List Int) (v : Value) (h : D.rd w ok (.ints 40 .u32 xs) v) (hb : xs.length ≤ 1000000) :
    Calls Tryz.prog 46 #[v] w fun e w' => ∃ A c, e = .returned (.slice A xs.length c) ∧ Made w' (fun g => w.heap.size ≤ g) (.ints 40 .u32 xs) (.slice A xs.length c) ∧ Below w.heap.size w w' := by
  obtain ⟨A, c, rfl, hl, hnil, hc⟩ := D.rd_ints h
  obtain ⟨i0, hi, hz0, hz1, hz2⟩ := info_parts infoU32
  cases A with
  | none =>
    have hx : xs = [] := by
      cases xs with
      | nil => rfl
      | cons x xs => obtain ⟨g, o, _, h0, _⟩ := hc 0 (by simp); cases h0
    subst hx
    obtain rfl := hnil rfl
    clear h hc hnil
    go_enter Tryz.func46, Tryz.ntmps46
    go_wp2_with (at_builtin; refine wpList_append_own_none rfl _ _ 23 rfl w.heap.size 40 i0 1 Tryz.underlying23 hi (.slice none 0 0) 0 [] rfl (World.ownsRow_nil _ _ _ _) rfl ?_)
    exact bodyPost_ret (results_tmp rfl _ _ _) rfl ⟨none, 0, rfl, Made.nil _ _ _ _, Below.refl _ _⟩
  | some ad =>
    have hn := D.ints_news h
    have HN := Lib.hid hn
    clear hn hc h hnil
    go_enter Tryz.func46, Tryz.ntmps46
    go_wp2_with (at_builtin; refine wpList_append_own _ rfl _ _ 23 rfl w.heap.size 40 i0 (.int .u32 0) 1 4 Tryz.underlying23 hi hz0 hz1 hz2 rfl (by decide) (.slice none 0 0) 0 [] rfl (World.ownsRow_nil _ _ _ _) ad xs.length c (xs.map (Value.int .u32)) rfl (by simp) (fun j u hu => HN.out j u hu) one_ints (by simp only [maxLen]; omega) (by omega) (by simp) ?_; intro v' w1 ho hg _)
    obtain ⟨A', c', rfl⟩ := own_shape ho
    rw [Nat.zero_add] at ho ⊢
    refine bodyPost_ret (results_tmp rfl _ _ _) rfl ⟨A', c', rfl, ?_, ?_⟩
    · exact Made.of_row ho (by simp) (MadeCells.ints (w := w1) xs) (fun g hg' => (ho.lt g hg').1)
    · exact Below.grown (Below.refl _ w) hg (Nat.le_refl _) (fun k hk => by simp [Value.ownBlock] at hk)
theorem copyInt_calls (w : World) (ok : Nat → Prop) (neg : Bool) (xs : List Int) (v : Value) (h : D.rd w ok (.ints 40 .u32 xs) v) (hb : xs.length ≤ 1000000) :
    Calls Tryz.prog 28 #[.agg #[.bool neg, v]] w fun e w' => ∃ A c, e = .returned (.agg #[.bool neg, .slice A xs.length c]) ∧ Made w' (fun g => w.heap.size ≤ g) (.ints 40 .u32 xs) (.slice A xs.length c) ∧ Below w.heap.size w w' := by
  have HH := Lib.hid h
  clear h
  go_enter Tryz.func28, Tryz.ntmps28
  go_wp2_with (go_at_call 46; refine (copyLimbs_calls _ ok xs _ ?_ hb).mono ?_; exact D.rd_ext HH.out (ext_alloc (ext_alloc (Below.refl _ _) _) _); rintro e w1 ⟨A, c, rfl, hr, hbl⟩; have HR := Lib.hid hr; clear hr; have HB := Lib.hid hbl; obtain ⟨k0, k1, f0, f1⟩ := Blk.c2 (((Blk.new w _ _).alloc _).ext hbl); obtain ⟨l0, l1, g0, g1⟩ := Blk.c2 ((Blk.new' _ _ _ (n := w.heap.size + 1) (by simp)).ext hbl); clear hbl)
  refine bodyPost_ret (v := .agg #[.bool neg, .slice A xs.length c]) (by simp [results, Tryz.results28, go_sem, *]) rfl ⟨A, c, rfl, ?_, ?_⟩
  · refine Made.imp (ok := fun g => w.heap.size + 2 ≤ g) ?_ (fun g hg => by omega)
    repeat (refine Made.set ?_ (fun g hg => by simp at hg ⊢; omega))
    exact Made.imp HR.out (fun g hg => by simp at hg; omega)
  · repeat (refine Below.setCell ?_ (by simp) _)
    exact (ext_alloc (ext_alloc (Below.refl _ _) _) _).trans (HB.out.mono (by simp; omega))
/-- What a copy leaves: the term, made anew. -/
def CopyPost (w : World) (t : Tm) (e : Ending) (w' : World) : Prop := Below w.heap.size w w' ∧ ∃ us, e = .returned (.agg us.toArray) ∧ MadeRow w' (fun g => w.heap.size ≤ g) t.enc us ∧ (t.kids = [] → us[4]? = some (.slice none 0 0))
theorem copy_call {f : FuncId} {args : Array Value} {w : World} {kd : Int} {nm : ByteArray} {ng : Bool} {xd : List Int} {ls : List Tm} {R : Ending → World → Prop}
    (h : Calls Tryz.prog f args w (CopyPost w (.mk kd nm ng xd ls)))
    (hr : ∀ w' dA dc lA lc, Below w.heap.size w w' → MadeRow w' (fun g => w.heap.size ≤ g) (Tm.mk kd nm ng xd ls).enc [.int .u8 kd, .string nm, .bool ng, .slice dA xd.length dc, .slice lA ls.length lc] → R (.returned (.agg #[.int .u8 kd, .string nm, .bool ng, .slice dA xd.length dc, .slice lA ls.length lc])) w') :
    Calls Tryz.prog f args w R := by
  refine h.mono ?_
  rintro e w' ⟨hb, us, rfl, hu, _⟩
  obtain ⟨dA, dc, lA, lc, rfl, _, _⟩ := Tm.open hu.rd
  exact hr w' dA dc lA lc hb hu
/-- The same of a term without kids. -/
theorem copy_call0 {f : FuncId} {args : Array Value} {w : World} {kd : Int} {nm : ByteArray} {ng : Bool} {xd : List Int} {R : Ending → World → Prop}
    (h : Calls Tryz.prog f args w (CopyPost w (.mk kd nm ng xd [])))
    (hr : ∀ w' dA dc, Below w.heap.size w w' → MadeRow w' (fun g => w.heap.size ≤ g) (Tm.mk kd nm ng xd []).enc [.int .u8 kd, .string nm, .bool ng, .slice dA xd.length dc, .slice none 0 0] → R (.returned (.agg #[.int .u8 kd, .string nm, .bool ng, .slice dA xd.length dc, .slice none 0 0])) w') :
    Calls Tryz.prog f args w R := by
  refine h.mono ?_
  rintro e w' ⟨hb, us, rfl, hu, h0⟩
  obtain ⟨dA, dc, lA, lc, rfl, _, _⟩ := Tm.open hu.rd
  have h1 := h0 rfl
  simp only [List.getElem?_cons_succ, List.getElem?_cons_zero, Option.some.injEq] at h1
  rw [h1] at hu ⊢
  exact hr w' dA dc hb hu
theorem rd_mk {w : World} {ok : Nat → Prop} {k : Int} {n : ByteArray} {g : Bool} {ds : List Int} {ks : List Tm} {dv kv : Value} (h1 : D.rd w ok (.ints 40 .u32 ds) dv) (h2 : D.rd w ok (.row 28 5 (Tm.encs ks)) kv) : D.rdRow w ok (Tm.mk k n g ds ks).enc [.int .u8 k, .string n, .bool g, dv, kv] := by
  simp only [Tm.enc, D.rdRow]
  exact ⟨_, _, rfl, by simp only [D.rd], _, _, rfl, by simp only [D.rd], _, _, rfl, by simp only [D.rd], _, _, rfl, h1, _, _, rfl, h2, rfl⟩
def CopyAt (t : Tm) : Prop := ∀ (w : World) (ok : Nat → Prop) (us : List Value), t.fits → D.rdRow w ok t.enc us → Calls Tryz.prog 9 #[.agg us.toArray] w (CopyPost w t)
def CopyAllPost (w : World) (l : List Tm) (e : Ending) (w' : World) : Prop := Below w.heap.size w w' ∧ ∃ A c, e = .returned (.slice A l.length c) ∧ Made w' (fun g => w.heap.size ≤ g) (.row 28 5 (Tm.encs l)) (.slice A l.length c) ∧ (l = [] → A = none ∧ c = 0)
def CopyAllAt (l : List Tm) : Prop := ∀ (w : World) (ok : Nat → Prop) (v : Value), l.length ≤ 1000000 → Tm.fitss l → D.rd w ok (.row 28 5 (Tm.encs l)) v → Calls Tryz.prog 29 #[v] w (CopyAllPost w l)
set_option maxHeartbeats 1000000 in
set_option maxRecDepth 100000 in
theorem copyTerm_step (kind : Int) (name : ByteArray) (neg : Bool) (ds : List Int) (ks : List Tm) (hks : CopyAllAt ks) : CopyAt (.mk kind name neg ds ks) := by
  intro w ok us hf hr
  obtain ⟨dA, dc, kA, kc, rfl, hd, hk⟩ := Tm.open hr
  have HD := Lib.hid hd
  have HK := Lib.hid hk
  have HC := Lib.hid hks
  have HF := Lib.hid hf
  clear hr hd hk hks hf
  go_enter Tryz.func9, Tryz.ntmps9
  go_wp2_with (first
    | (go_at_call 28; refine (copyInt_calls _ ok neg ds _ ?_ HF.out.1).mono ?_; exact D.rd_ext HD.out (ext_alloc (ext_alloc (Below.refl _ _) _) _); rintro e w1 ⟨A, c, rfl, hr, hbl⟩; have HR := Lib.hid hr; clear hr; have HB := Lib.hid hbl; have z1 := hbl.size; simp at z1; have HN := Lib.hid (((Blk.new w (#[.int .u8 kind, .string name, .bool neg, .slice dA ds.length dc, .slice kA ks.length kc]) 28).alloc _).ext hbl); have HZ := Lib.hid ((Blk.new' _ _ _ (n := w.heap.size + 1) (by simp)).ext hbl); obtain ⟨⟨k0, k1, k2, k3, k4⟩, f0, f1, f2, f3, f4⟩ := Blk.c5 HN.out; clear hbl)
    | (go_at_call 29; refine (HC.out _ ok _ HF.out.2.1 HF.out.2.2 ?_).mono ?_; exact D.rd_ext HK.out (((ext_alloc (ext_alloc (Below.refl _ _) _) _).trans (HB.out.mono (by simp; omega))).setCell (by simp) _ |>.setCell (by simp) _); rintro e w2 ⟨hbl, A2, c2, rfl, hr, hn0⟩; have HN0 := Lib.hid hn0; clear hn0; have HR2 := Lib.hid hr; clear hr; have HB2 := Lib.hid hbl; have z2 := hbl.size; simp at z2; obtain ⟨⟨m0, m1, m2, m3, m4⟩, n0, n1, n2, n3, n4⟩ := Blk.c5 (((HN.out.set 2 _).set 3 _).ext hbl); obtain ⟨⟨l0, l1, l2, l3, l4⟩, g0, g1, g2, g3, g4⟩ := Blk.c5 (((HZ.out.other (by simp) _).other (by simp) _).ext hbl); clear hbl))
  refine bodyPost_ret (v := .agg #[.int .u8 kind, .string name, .bool neg, .slice A ds.length c, .slice A2 ks.length c2]) (by simp [results, Tryz.results9, go_sem, *]) rfl ⟨?_, _, rfl, ?_, (fun h => by have h' : ks = [] := h; obtain ⟨rfl, rfl⟩ := HN0.out h'; simp [h'])⟩
  · repeat (refine Below.setCell ?_ (by simp) _)
    exact Below.trans (Below.setCell (Below.setCell (Below.trans (ext_alloc (ext_alloc (Below.refl _ _) _) _) (HB.out.mono (by simp; omega))) (by simp) _) (by simp) _) (HB2.out.mono (by simp; omega))
  · simp only [Tm.enc]
    refine MadeRow.num _ _ (MadeRow.txt _ (MadeRow.tru _ ?_))
    refine MadeRow.cons (ok1 := fun g => w.heap.size + 2 ≤ g ∧ g < w1.heap.size) (ok2 := fun g => w1.heap.size ≤ g) ?_ (MadeRow.one ?_) (fun g hg => by omega) (fun g hg => by omega) (fun g h1 h2 => by omega)
    · repeat (refine Made.set ?_ (fun g hg => by simp; omega))
      refine Made.ext ?_ HB2.out |>.keep (fun g hg hl => ⟨hg, rfl⟩)
      repeat (refine Made.set ?_ (fun g hg => by simp; omega))
      exact HR.out.keep (fun g hg hl => ⟨⟨by simp at hg; omega, hl⟩, rfl⟩)
    · repeat (refine Made.set ?_ (fun g hg => by simp; omega))
      exact HR2.out.imp (fun g hg => by simpa using hg)
set_option maxHeartbeats 1000000 in
set_option maxRecDepth 100000 in
theorem copyTerms_step (xs : List Tm) (ih : ∀ t ∈ xs, CopyAt t) : CopyAllAt xs := by
  intro w ok v hlen hf ha
  obtain ⟨A, c, rfl, hl⟩ := D.rd_slice ha
  have hel : (Tm.encs xs).length = xs.length := by simp [Tm.encs_eq]
  rw [hel] at ha ⊢
  have HA := Lib.hid ha
  have HI := Lib.hid ih
  have HF := Lib.hid hf
  have hll : xs.length ≤ 9223372036854775807 := by omega
  clear ha ih hf hl hel
  go_enter Tryz.func29, Tryz.ntmps29
  go_wp2_with fail
  go_loopw [3, 4] (fun o i wr => ∃ (k : Nat) (Ar : Option Addr) (cr : Nat) (ys : List Value), k ≤ xs.length ∧ o = .slice Ar k cr ∧ i = .int .i64 k ∧ Hid (k = 0 → Ar = none ∧ cr = 0) ∧ Below w.heap.size w wr ∧ wr.ownsRow w.heap.size 28 5 (.slice Ar k cr) k ys ∧ MadeCells wr (fun g => w.heap.size ≤ g ∧ (Value.slice Ar k cr).ownBlock ≠ some g) 5 (Tm.encs (xs.take k)) ys) (fun _ i _ => xs.length - (intOf i).toNat)
  case atStart => exact ⟨0, none, 0, [], Nat.zero_le _, rfl, rfl, (fun _ => ⟨rfl, rfl⟩), Below.refl _ _, World.ownsRow_nil _ _ _ _, MadeCells.nil _ _ _⟩
  case round =>
    obtain ⟨k, Ar, cr, ys, hk, rfl, rfl, hk0, hbw, hown, hcells⟩ := hrel
    by_cases hlt : k < xs.length
    · have b1 : (0 : Int) ≤ k := by omega
      have b2 : (k : Int) < xs.length := by omega
      obtain ⟨g, o, kd, nm, ng, xd, ls, dA, dc, lA, lc, rfl, _, hg, hkk, hr, c0, c1, c2, c3, c4⟩ := Tm.kid (D.rd_ext HA.out hbw) k hlt
      have hcall := HI.out (xs[k]) (List.getElem_mem hlt) wr ok _ (Tm.fitss_get xs HF.out k hlt) (hkk ▸ hr)
      rw [hkk] at hcall
      have hsz := hbw.size
      have HC := Lib.hid hcall
      have HBW := Lib.hid hbw
      have HOWN := Lib.hid hown
      have HCE := Lib.hid hcells
      have HKK := Lib.hid hkk
      clear hcall hr hkk hbw hown hcells
      go_wp2_with (first
        | (go_at_call 9; refine copy_call HC.out ?_; intro w2 eA ec mA mc hb2 hr2; have HB2 := Lib.hid hb2; have HR2 := Lib.hid hr2; have z2 := hb2.size; clear hb2 hr2)
        | (at_builtin; go_loud (refine list_append rfl (.tmp 17) (.tmp 19) rfl Tryz.underlying26 infoTerm rfl (by decide) (by decide) w.heap.size (.slice Ar k cr) k ys rfl (ownsRow_mono HOWN.out (fun g hg => ((ext_alloc (ext_alloc HB2.out _) _)).block g (HOWN.out.lt g hg).2)) (w2.heap.size + 1) #[.int .u8 kd, .string nm, .bool ng, .slice eA xd.length ec, .slice mA ls.length mc] rfl (Blk.new' _ _ _ (by simp)) rfl (by simp [Value.oneCell']) (by omega) (by simp; omega) ?_; intro A3 c3 w3 hown3 hg3 hat3; have HOWN3 := Lib.hid hown3; have HG3 := Lib.hid hg3; have HAT3 := Lib.hid hat3; have z3 := hg3.size; clear hown3 hg3 hat3)))
      go_roundw
      case rel =>
        refine ⟨k + 1, A3, c3, _, by omega, rfl, by go_num, (fun h => by omega), ?_, HOWN3.out, ?_⟩
        · exact Below.grown (ext_alloc (ext_alloc (Below.trans HBW.out (HB2.out.mono (by omega))) _) _) HG3.out (by simp; omega) (fun g hg => (HOWN.out.lt g hg).1)
        · rw [List.take_succ_eq_append_getElem hlt, HKK.out, Tm.encs_append]
          exact MadeCells.next HB2.out (ext_alloc (ext_alloc (Below.refl _ _) _) _) HG3.out HOWN.out HAT3.out HCE.out rfl HR2.out hsz
      case measure => simp [intOf]; omega
    · go_wp2_with fail
      have hk2 : k = xs.length := by omega
      subst hk2
      rw [List.take_length] at hcells
      exact bodyPost_ret (results_tmp rfl _ _ _) rfl ⟨hbw, Ar, cr, rfl, Made.of_row hown (by simp [Tm.encs_eq]) hcells (fun g hg => (hown.lt g hg).1), fun h => hk0.out (by simp [h])⟩
mutual
theorem copyTerm_calls : ∀ t : Tm, CopyAt t
  | .mk kind name neg ds ks => copyTerm_step kind name neg ds ks (copyTerms_step ks (copyTerm_all ks))
theorem copyTerm_all : ∀ l : List Tm, ∀ t ∈ l, CopyAt t
  | [], t, h => by simp at h
  | x :: xs, t, h => by
    rcases List.mem_cons.1 h with h | h
    · rw [h]
      exact copyTerm_calls x
    · exact copyTerm_all xs t h
end
theorem copyTerms_calls (l : List Tm) : CopyAllAt l := copyTerms_step l (copyTerm_all l)
end Wh
