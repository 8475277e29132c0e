/- The reference's search: who is next, who is come to. -/
import Derived.Test.YtiiaeddbeohplaaRl
import Derived.Test.YtiiaeddbeohplaaNt
import Derived.Laws.OwnMore
import Derived.Deep.QuietTactic
import Derived.BigQuiet
namespace Go.Proofs.Ytiiaeddbeohplaa
open Go.RowKit
def Rch.enc (x : Rch) : List Value := [.int .u32 (x.v : Int), .int .u64 (x.dist : Int), .bool x.done]
abbrev RLs := SR 3 Rch.enc
theorem RLs.at' {B : Nat} {w : World} {A : Option Addr} {l : List Rch} (h : RLs B w A l) (i : Nat) (hi : i < l.length) :
    ∃ b o : Nat, A = some ⟨b, o, none⟩ ∧ b < B ∧ w.cell? ⟨b, o + i * 3, none⟩ = some (.int .u32 ((rg l i).v : Int)) ∧ w.cell? ⟨b, o + i * 3 + 1, none⟩ = some (.int .u64 ((rg l i).dist : Int)) ∧ w.cell? ⟨b, o + i * 3 + 2, none⟩ = some (.bool (rg l i).done) := by
  obtain ⟨b, o, hA, hb, hc⟩ := h.at_ i hi
  rw [rg_eq hi]
  exact ⟨b, o, hA, hb, hc 0 _ rfl, hc 1 _ rfl, hc 2 _ rfl⟩
theorem RLs.row {B : Nat} {w : World} {p o : Nat} {l : List Rch} (h : RLs B w (some ⟨p, o, none⟩) l) (i : Nat) (hi : i < l.length) :
    w.cell? ⟨p, o + i * 3, none⟩ = some (.int .u32 ((rg l i).v : Int)) ∧ w.cell? ⟨p, o + i * 3 + 1, none⟩ = some (.int .u64 ((rg l i).dist : Int)) ∧ w.cell? ⟨p, o + i * 3 + 2, none⟩ = some (.bool (rg l i).done) := by
  obtain ⟨b', o', hA, _, h0⟩ := RLs.at' h i hi
  obtain ⟨rfl, rfl⟩ : p = b' ∧ o = o' := by simpa using hA
  exact h0
def atZ : Option Nat → Int
  | none => -1
  | some k => k
theorem next_no {l : List Rch} {i : Nat} (h : (!(rg l i).done && ahead l i (nextTo l i)) = false) : nextTo l (i + 1) = nextTo l i := by
  conv => lhs; unfold nextTo
  rw [h, if_neg Bool.false_ne_true]
theorem next_yes {l : List Rch} {i : Nat} (h : (!(rg l i).done && ahead l i (nextTo l i)) = true) : nextTo l (i + 1) = some i := by
  conv => lhs; unfold nextTo
  rw [h, if_pos rfl]
set_option maxRecDepth 100000 in
set_option maxHeartbeats 4000000 in
theorem next_any (B : Nat) (A : Option Addr) (l : List Rch) (c : Nat) (w : World) (h : RLs B w A l) :
    Calls Try.prog 54 #[.slice A l.length c] w fun e w' => e = .returned (.int .i64 (atZ (nextTo l l.length))) ∧ Drew w w' := by
  have hL := h.len
  have HS := Lib.hid h
  clear h
  go_enter Try.func54, Try.ntmps54
  go_wp2_with fail
  go_loopw [3, 4] (fun va vi wr => ∃ i n : Nat, vi = .int .i64 i ∧ va = .int .i64 (atZ (nextTo l i)) ∧ i ≤ l.length ∧ wr = w.drewN n) (fun _ vi _ => l.length - (intOf vi).toNat)
  case atStart => exact ⟨0, 0, rfl, rfl, by omega, rfl⟩
  case round =>
    obtain ⟨i, n, rfl, rfl, hi, rfl⟩ := hrel
    by_cases hlt : i < l.length
    · obtain ⟨b, o, hA, hb, c0, c1, c2⟩ := HS.out.at' i hlt
      subst hA
      have i1 : (i : Int) < (l.length : Int) := by omega
      have i2 : (0 : Int) ≤ (i : Int) := by omega
      cases hd : (rg l i).done with
      | true =>
        have HN := Lib.hid (next_no (l := l) (i := i) (by rw [hd]; rfl))
        rw [hd] at c2
        clear hd
        generalize (rg l i).v = xv at *
        generalize (rg l i).dist = xd at *
        cases hz : nextTo l i with
        | none =>
          rw [hz] at HN
          rw [show atZ none = -1 from rfl]
          go_wp2_with fail
          go_quiet (fail)
          go_wp2_with fail
          go_roundw
          case rel => exact ⟨i + 1, n + nq, by go_num, by rw [HN.out]; rfl, by omega, by first | rfl | rw [World.drewN_drewN]⟩
          case measure => simp [intOf]; omega
        | some k =>
          rw [hz] at HN
          rw [show atZ (some k) = (k : Int) from rfl]
          go_wp2_with fail
          go_quiet (fail)
          go_wp2_with fail
          go_roundw
          case rel => exact ⟨i + 1, n + nq, by go_num, by rw [HN.out]; rfl, by omega, by first | rfl | rw [World.drewN_drewN]⟩
          case measure => simp [intOf]; omega
      | false =>
        rw [hd] at c2
        cases hz : nextTo l i with
        | none =>
          have HN := Lib.hid (next_yes (l := l) (i := i) (by rw [hd, hz]; rfl))
          clear hd
          generalize (rg l i).v = xv at *
          generalize (rg l i).dist = xd at *
          rw [show atZ none = -1 from rfl]
          go_wp2_with fail
          go_quiet (fail)
          go_wp2_with fail
          go_roundw
          case rel => exact ⟨i + 1, n + nq, by go_num, by rw [HN.out]; rfl, by omega, by first | rfl | rw [World.drewN_drewN]⟩
          case measure => simp [intOf]; omega
        | some k =>
          obtain ⟨hk, _, _⟩ := nextTo_some _ hz
          obtain ⟨d0, d1, d2⟩ := HS.out.row k (by omega)
          have k1 : (k : Int) < (l.length : Int) := by omega
          have k2 : (0 : Int) ≤ (k : Int) := by omega
          have k3 : decide ((k : Int) < 0) = false := by rw [decide_eq_false_iff_not]; omega
          rw [show atZ (some k) = (k : Int) from rfl]
          by_cases h1 : (rg l i).dist < (rg l k).dist
          · have HN := Lib.hid (next_yes (l := l) (i := i) (by rw [hd, hz]; simp [ahead, h1]))
            have j1 : decide ((rg l i).dist < (rg l k).dist) = true := by rw [decide_eq_true_iff]; exact h1
            have j1' : ((rg l i).dist : Int) < ((rg l k).dist : Int) := by omega
            clear hd hz hk
            generalize (rg l i).v = xv at *
            generalize (rg l i).dist = xd at *
            generalize (rg l k).v = yv at *
            generalize (rg l k).dist = yd at *
            go_wp2_with fail
            go_quiet (fail)
            go_wp2_with fail
            go_roundw
            case rel => exact ⟨i + 1, n + nq, by go_num, by rw [HN.out]; rfl, by omega, by first | rfl | rw [World.drewN_drewN]⟩
            case measure => simp [intOf]; omega
          · have j1 : decide ((rg l i).dist < (rg l k).dist) = false := by rw [decide_eq_false_iff_not]; exact h1
            have j1' : ¬ ((rg l i).dist : Int) < ((rg l k).dist : Int) := by omega
            by_cases h2 : (rg l i).dist = (rg l k).dist
            · have j2 : (((rg l i).dist : Int) == ((rg l k).dist : Int)) = true := by rw [h2]; exact beq_self_eq_true _
              by_cases h3 : (rg l i).v < (rg l k).v
              · have HN := Lib.hid (next_yes (l := l) (i := i) (by rw [hd, hz]; simp [ahead, h2, h3]))
                have j3 : decide ((rg l i).v < (rg l k).v) = true := by rw [decide_eq_true_iff]; exact h3
                have j3' : ((rg l i).v : Int) < ((rg l k).v : Int) := by omega
                clear hd hz hk h1
                generalize (rg l i).v = xv at *
                generalize (rg l i).dist = xd at *
                generalize (rg l k).v = yv at *
                generalize (rg l k).dist = yd at *
                clear h2
                go_wp2_with fail
                go_quiet (fail)
                go_wp2_with fail
                go_roundw
                case rel => exact ⟨i + 1, n + nq, by go_num, by rw [HN.out]; rfl, by omega, by first | rfl | rw [World.drewN_drewN]⟩
                case measure => simp [intOf]; omega
              · have HN := Lib.hid (next_no (l := l) (i := i) (by rw [hd, hz]; simp [ahead, h2, h3]))
                rw [hz] at HN
                have j3 : decide ((rg l i).v < (rg l k).v) = false := by rw [decide_eq_false_iff_not]; exact h3
                have j3' : ¬ ((rg l i).v : Int) < ((rg l k).v : Int) := by omega
                clear hd hz hk h1
                generalize (rg l i).v = xv at *
                generalize (rg l i).dist = xd at *
                generalize (rg l k).v = yv at *
                generalize (rg l k).dist = yd at *
                clear h2
                go_wp2_with fail
                go_quiet (fail)
                go_wp2_with fail
                go_roundw
                case rel => exact ⟨i + 1, n + nq, by go_num, by rw [HN.out]; rfl, by omega, by first | rfl | rw [World.drewN_drewN]⟩
                case measure => simp [intOf]; omega
            · have HN := Lib.hid (next_no (l := l) (i := i) (by rw [hd, hz]; simp [ahead, h1, h2]))
              rw [hz] at HN
              have j2 : (((rg l i).dist : Int) == ((rg l k).dist : Int)) = false := by rw [beq_eq_false_iff_ne]; omega
              clear hd hz hk
              generalize (rg l i).v = xv at *
              generalize (rg l i).dist = xd at *
              generalize (rg l k).v = yv at *
              generalize (rg l k).dist = yd at *
              go_wp2_with fail
              go_quiet (fail)
              go_wp2_with fail
              go_roundw
              case rel => exact ⟨i + 1, n + nq, by go_num, by rw [HN.out]; rfl, by omega, by first | rfl | rw [World.drewN_drewN]⟩
              case measure => simp [intOf]; omega
    · have i1 : ¬ (i : Int) < (l.length : Int) := by omega
      have hie : i = l.length := by omega
      subst hie
      go_wp2_with fail
      go_ret
      exact ⟨rfl, n, rfl⟩
end Go.Proofs.Ytiiaeddbeohplaa
