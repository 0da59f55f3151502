import Derived.Test.YtlacfgnjljjdiaaDoorT10
set_option linter.unusedVariables false
set_option linter.unusedSimpArgs false
open Go Go.RowKit Go.Proofs
namespace Wh
/-- A constructor; a data. -/
structure Cn where
  name : ByteArray
  fields : List ByteArray
structure Dt where
  name : ByteArray
  cons : List Cn
def Cn.enc (c : Cn) : List D := [.txt c.name, .strs 9 c.fields]
def Dt.enc (d : Dt) : List D := [.txt d.name, .row 88 2 (d.cons.map Cn.enc)]
theorem row_at {w : World} {ok : Nat → Prop} {e sz : Nat} {α : Type} {f : α → List D} {l : List α} {A : Option Addr} {n c : Nat} (h : D.rd w ok (.row e sz (l.map f)) (.slice A n c)) (k : Nat) (hk : k < l.length) :
    ∃ g o us, A = some ⟨g, o, none⟩ ∧ ok g ∧ g < w.heap.size ∧ us.length = sz ∧ D.rdRow w ok (f l[k]) us ∧ ∀ j, j < sz → w.cell? ⟨g, o + k * sz + j, none⟩ = us[j]? := by
  obtain ⟨A', c', h1, _, _, h4⟩ := D.rd_slice h
  injection h1 with hA _ _
  subst hA
  obtain ⟨g, o, us, e1, e2, e3, e4, e5⟩ := h4 k (by simpa using hk)
  exact ⟨g, o, us, e1, e2.1, e2.2, e3, by simpa using e4, fun j hj => by rw [Nat.add_assoc]; exact e5 j hj⟩
theorem rd_map {w : World} {ok : Nat → Prop} {e sz : Nat} {α : Type} {f : α → List D} {l : List α} {v : Value} (h : D.rd w ok (.row e sz (l.map f)) v) : ∃ A c, v = .slice A l.length c ∧ l.length ≤ 9223372036854775807 := by
  obtain ⟨A, c, h1, h2, _⟩ := D.rd_slice h
  rw [List.length_map] at h1 h2
  exact ⟨A, c, h1, h2⟩
theorem Dt.at_ {w : World} {ok : Nat → Prop} {l : List Dt} {A : Option Addr} {n c : Nat} (h : D.rd w ok (.row 86 2 (l.map Dt.enc)) (.slice A n c)) (k : Nat) (hk : k < l.length) :
    ∃ g o cA cc, A = some ⟨g, o, none⟩ ∧ ok g ∧ g < w.heap.size ∧ w.cell? ⟨g, o + k * 2, none⟩ = some (.string l[k].name) ∧ w.cell? ⟨g, o + k * 2 + 1, none⟩ = some (.slice cA l[k].cons.length cc) ∧ l[k].cons.length ≤ 9223372036854775807 ∧ D.rd w ok (.row 88 2 (l[k].cons.map Cn.enc)) (.slice cA l[k].cons.length cc) := by
  obtain ⟨g, o, us, rfl, h1, h2, _, h4, h5⟩ := row_at h k hk
  simp only [Dt.enc, D.rdRow] at h4
  obtain ⟨u0, r0, rfl, g0, u1, r1, rfl, g1, rfl⟩ := h4
  simp only [D.rd] at g0
  subst g0
  obtain ⟨cA, cc, rfl, hl⟩ := rd_map g1
  exact ⟨g, o, cA, cc, rfl, h1, h2, by simpa using h5 0 (by omega), by simpa using h5 1 (by omega), hl, g1⟩
theorem Cn.at_ {w : World} {ok : Nat → Prop} {l : List Cn} {A : Option Addr} {n c : Nat} (h : D.rd w ok (.row 88 2 (l.map Cn.enc)) (.slice A n c)) (k : Nat) (hk : k < l.length) :
    ∃ g o cA cc, A = some ⟨g, o, none⟩ ∧ ok g ∧ g < w.heap.size ∧ w.cell? ⟨g, o + k * 2, none⟩ = some (.string l[k].name) ∧ w.cell? ⟨g, o + k * 2 + 1, none⟩ = some (.slice cA l[k].fields.length cc) ∧ l[k].fields.length ≤ 9223372036854775807 ∧ D.rd w ok (.strs 9 l[k].fields) (.slice cA l[k].fields.length cc) := by
  obtain ⟨g, o, us, rfl, h1, h2, _, h4, h5⟩ := row_at h k hk
  simp only [Cn.enc, D.rdRow] at h4
  obtain ⟨u0, r0, rfl, g0, u1, r1, rfl, g1, rfl⟩ := h4
  simp only [D.rd] at g0
  subst g0
  obtain ⟨cA, cc, rfl, hl⟩ := rd_map g1
  exact ⟨g, o, cA, cc, rfl, h1, h2, by simpa using h5 0 (by omega), by simpa using h5 1 (by omega), hl, g1⟩
def SomeInt (w : World) (e : Ending) (w' : World) : Prop := ∃ n : Int, e = .returned (.int .i64 n) ∧ Below w.heap.size w w'
set_option maxHeartbeats 1000000 in
set_option maxRecDepth 100000 in
theorem datasOf_calls (l : List Dt) (w : World) (ok : Nat → Prop) (a : Value) (m : Int) (ha : D.rd w ok (.row 86 2 (l.map Dt.enc)) a) :
    Calls Tryd.prog 18 #[a, .int .i64 m] w (SomeInt w) := by
  obtain ⟨A, c, rfl, hl⟩ := rd_map ha
  have HA := Lib.hid ha
  clear ha
  go_enter Tryd.func18, Tryd.ntmps18
  go_wp2_with fail
  go_loopw [5, 6] (fun s i wr => ∃ (k : Nat) (n : Int), k ≤ l.length ∧ s = .int .i64 n ∧ i = .int .i64 k ∧ Below w.heap.size w wr) (fun _ i _ => l.length - (intOf i).toNat)
  case atStart => exact ⟨0, 0, Nat.zero_le _, rfl, rfl, Below.refl _ _⟩
  case round =>
    obtain ⟨k, n, hk, rfl, rfl, hbw⟩ := hrel
    have HBW := Lib.hid hbw
    have hsz := hbw.size
    clear hbw
    by_cases hlt : k < l.length
    · have b1 : (0 : Int) ≤ k := by omega
      have b2 : (k : Int) < l.length := by omega
      by_cases hle : n ≤ m
      · obtain ⟨g, o, cA, cc, rfl, _, hg, c0, c1, hcl, hr⟩ := Dt.at_ (D.rd_ext HA.out HBW.out) k hlt
        have HR := Lib.hid hr
        clear hr
        generalize l[k] = d at *
        go_wp2_with fail
        go_loopw [5, 7] (fun s i wx => ∃ (j : Nat) (n2 : Int) (q : Nat), j ≤ d.cons.length ∧ s = .int .i64 n2 ∧ i = .int .i64 j ∧ wx = wr.drewN q) (fun _ i _ => d.cons.length - (intOf i).toNat)
        case atStart => exact ⟨0, _, 0, Nat.zero_le _, rfl, rfl, rfl⟩
        case round =>
          obtain ⟨j, n2, q, hj, rfl, rfl, rfl⟩ := hrel
          by_cases hlt2 : j < d.cons.length
          · have d1 : (0 : Int) ≤ j := by omega
            have d2 : (j : Int) < d.cons.length := by omega
            by_cases hle2 : n2 ≤ m
            · obtain ⟨g2, o2, fA, fc, rfl, _, hg2, e0, e1, hfl, hr2⟩ := Cn.at_ HR.out j hlt2
              clear hr2
              generalize d.cons[j] = cn at *
              go_wp2_with fail
              go_quiet (fail)
              all_goals
                go_wp2_with fail
                go_roundw
                case rel => exact ⟨j + 1, _, _, by omega, rfl, by go_num, rfl⟩
                case measure => simp [intOf]; omega
            · go_wp2_with fail
              go_roundw
              case rel => exact ⟨k + 1, _, by omega, rfl, by go_num, below_drewN HBW.out _⟩
              case measure => simp [intOf]; omega
          · go_wp2_with fail
            go_roundw
            case rel => exact ⟨k + 1, _, by omega, rfl, by go_num, below_drewN HBW.out _⟩
            case measure => simp [intOf]; omega
      · go_wp2_with fail
        go_ret
        exact ⟨_, rfl, HBW.out⟩
    · go_wp2_with fail
      go_ret
      exact ⟨_, rfl, HBW.out⟩
end Wh
