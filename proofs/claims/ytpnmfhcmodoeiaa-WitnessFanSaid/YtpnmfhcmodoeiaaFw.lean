/- Fans: what they tell of a vertex; Find in a net whose functions only read and that has very many edges. -/
import Derived.Test.YtpnmfhcmodoeiaaSn
import Derived.Test.YtpnmfhcmodoeiaaFf
namespace Go.Proofs.Ytpnmfhcmodoeiaa
open Go.RowKit
def FanAt (FB many last : Nat) (w : World) : Prop := w.heap[FB]? = some (.cells #[.int .u32 (many : Int), .int .u32 (last : Int)] 51 (0, 0))
/-- the edge to the vertex i + 1 -/
def fanE (many i : Nat) : Edg := ⟨0, (i + 1) % 4294967296, (many - i) % 4294967296, 4294967295, by omega, by omega, by omega, by omega⟩
def fanL (many k : Nat) : List Edg := (List.range k).map (fanE many)
theorem fanL_len (many k : Nat) : (fanL many k).length = k := by simp [fanL]
theorem fanL_succ (many k : Nat) : fanL many (k + 1) = fanL many k ++ [fanE many k] := by simp [fanL, List.range_succ]
theorem fanE_is {many i : Nat} (h : i < many) (hm : many ≤ 70000) : (fanE many i).tail = 0 ∧ (fanE many i).head = i + 1 ∧ (fanE many i).weight = many - i ∧ (fanE many i).mid = 4294967295 :=
  ⟨rfl, Nat.mod_eq_of_lt (by omega), Nat.mod_eq_of_lt (by omega), rfl⟩
def endE (v last : Nat) : Edg := ⟨v % 4294967296, last % 4294967296, 0, 4294967295, by omega, by omega, by omega, by omega⟩
def fanOut (many last v : Nat) : List Edg × Int := if v = 0 then (fanL many many, 0) else if v ≤ many then ([endE v last], 0) else ([], 0)
def fanAv (many v : Nat) : Bool := decide (many < v + 13) && decide (v ≤ many)
theorem fanOut_len {many last v : Nat} (h : many ≤ 70000) : (fanOut many last v).1.length ≤ 70000 := by
  unfold fanOut
  split
  · rw [fanL_len]; exact h
  · split <;> simp
theorem fan_avoid (FB many last v : Nat) (w : World) (h : FanAt FB many last w) (hm : many ≤ 70000) (hv : v < 4294967296) :
    Calls Try.prog 22 #[.pointer (some ⟨FB, 0, none⟩), .int .u32 (v : Int)] w fun e w' => e = .returned (.bool (fanAv many v)) ∧ w = w' := by
  have c0 : w.cell? ⟨FB, 0, none⟩ = some (.int .u32 (many : Int)) := cell_of_row _ _ 0 _ _ _ h
  obtain ⟨z, hz⟩ : ∃ z : Nat, z = (v + 13) % 4294967296 := ⟨_, rfl⟩
  have w1 : IntKind.u32.wrap ((v : Int) + 13) = (z : Int) := by rw [IntKind.wrap_u32]; omega
  clear h
  by_cases h1 : many < z
  · have g1 : (many : Int) < (z : Int) := by omega
    have g1' : decide (many < z) = true := decide_eq_true h1
    by_cases h2 : v ≤ many
    · have g2 : (v : Int) ≤ (many : Int) := by omega
      have g2' : decide (v ≤ many) = true := decide_eq_true h2
      have hA : fanAv many v = true := by unfold fanAv; rw [g2', Bool.and_true, decide_eq_true_iff]; omega
      rw [hA]
      clear hA h1 h2 hz
      go_enter Try.func22, Try.ntmps22
      go_wp2_with fail
      go_ret
      exact ⟨rfl, rfl⟩
    · have g2 : ¬ (v : Int) ≤ (many : Int) := by omega
      have g2' : decide (v ≤ many) = false := decide_eq_false h2
      have hA : fanAv many v = false := by unfold fanAv; rw [g2', Bool.and_false]
      rw [hA]
      clear hA h1 h2 hz
      go_enter Try.func22, Try.ntmps22
      go_wp2_with fail
      go_ret
      exact ⟨rfl, rfl⟩
  · have g1 : ¬ (many : Int) < (z : Int) := by omega
    have g1' : decide (many < z) = false := decide_eq_false h1
    have hA : fanAv many v = false := by
      unfold fanAv
      by_cases h2 : v ≤ many
      · rw [show decide (many < v + 13) = false from decide_eq_false (by omega), Bool.false_and]
      · rw [show decide (v ≤ many) = false from decide_eq_false h2, Bool.and_false]
    rw [hA]
    clear hA h1 hz
    go_enter Try.func22, Try.ntmps22
    go_wp2_with fail
    go_ret
    exact ⟨rfl, rfl⟩
set_option maxRecDepth 100000 in
set_option maxHeartbeats 4000000 in
theorem fan_out0 (FB many last : Nat) (w : World) (h : FanAt FB many last w) (hm : many ≤ 70000) :
    Calls Try.prog 21 #[.pointer (some ⟨FB, 0, none⟩), .int .u32 0] w fun e w' => ∃ A c, e = .returned (.tuple #[.slice A (fanL many many).length c, .int .i64 0]) ∧ OwnS w' w.heap.size 67 4 Edg.enc (.slice A (fanL many many).length c) (fanL many many) ∧ Below w.heap.size w w' := by
  have hlt : FB < w.heap.size := (Array.getElem?_eq_some_iff.1 h).1
  have C0 := Lib.hid (show w.cell? ⟨FB, 0, none⟩ = some (.int .u32 (many : Int)) from cell_of_row _ _ 0 _ _ _ h)
  have c0 := C0.out
  clear h
  go_enter Try.func21, Try.ntmps21
  go_wp2_with fail
  go_loopw [6, 7] (fun va vi wr => ∃ (i j : Nat) (Q : Option Addr) (q : Nat), vi = .int .u32 j ∧ Hid (j = i + 1) ∧ i ≤ many ∧ va = .slice Q (fanL many i).length q ∧ Hid (OwnS wr w.heap.size 67 4 Edg.enc (.slice Q (fanL many i).length q) (fanL many i)) ∧ Hid (Below w.heap.size w wr)) (fun _ vi _ => many + 1 - (intOf vi).toNat)
  case atStart => exact ⟨0, 1, none, 0, rfl, Lib.hid rfl, by omega, rfl, Lib.hid (OwnS.nil _ _ _ _ _), Lib.hid (Below.refl _ _)⟩
  case round =>
    obtain ⟨i, j, Q, q, rfl, HJ, hi, rfl, HO, HB⟩ := hrel
    have hj := HJ.out
    have d0 : wr.cell? ⟨FB, 0, none⟩ = some (.int .u32 (many : Int)) := (HB.out.cell (p := ⟨FB, 0, none⟩) hlt).trans C0.out
    have hLl := fanL_len many i
    by_cases hil : i < many
    · have i1 : (j : Int) ≤ (many : Int) := by omega
      have i1' : decide (j ≤ many) = true := decide_eq_true (by omega)
      obtain ⟨z, hz⟩ : ∃ z : Nat, z = many - j := ⟨_, rfl⟩
      obtain ⟨y, hy⟩ : ∃ y : Nat, y = z + 1 := ⟨_, rfl⟩
      have w1 : IntKind.u32.wrap ((many : Int) - (j : Int)) = (z : Int) := by rw [IntKind.wrap_u32]; omega
      have w2 : IntKind.u64.wrap (z : Int) = (z : Int) := by rw [IntKind.wrap_u64]; omega
      have w3 : IntKind.u64.wrap ((z : Int) + 1) = (y : Int) := by rw [IntKind.wrap_u64]; omega
      obtain ⟨x1, x2, x3, x4⟩ := fanE_is hil hm
      have hS := fanL_succ many i
      have HE : Hid ((fanE many i).tail = 0 ∧ (fanE many i).head = j ∧ (fanE many i).weight = y ∧ (fanE many i).mid = 4294967295) := Lib.hid ⟨x1, by omega, by omega, x4⟩
      have hlb : (fanL many i).length ≤ 70000 := by omega
      have HLn : Hid ((fanL many (i + 1)).length = (fanL many i).length + 1) := Lib.hid (by rw [hS]; simp)
      have HS := Lib.hid hS
      clear hS x1 x2 x3 x4 hLl
      generalize fanE many i = x at *
      generalize hL : fanL many i = L at *
      generalize hL2 : fanL many (i + 1) = L2 at *
      have HL2 := Lib.hid hL2
      clear hL hL2
      have HS2 : Hid (ELs (wr.heap.size + 1) (wr.alloc (.cells #[.int .u32 0, .int .u32 (j : Int), .int .u64 (y : Int), .int .u32 4294967295] 67)) (some ⟨wr.heap.size, 0, none⟩) [x]) := Lib.hid (by
        have h := SR.one (sz := 4) (enc := Edg.enc) x (heap_alloc_new wr (.cells #[.int .u32 (x.tail : Int), .int .u32 (x.head : Int), .int .u64 (x.weight : Int), .int .u32 (x.mid : Int)] 67)) rfl (wr.heap.size + 1) (by omega)
        obtain ⟨k1, k2, k3, k4⟩ := HE.out
        rw [k1, k2, k3, k4] at h
        exact h)
      have HO2 : Hid (OwnS (wr.alloc (.cells #[.int .u32 0, .int .u32 (j : Int), .int .u64 (y : Int), .int .u32 4294967295] 67)) w.heap.size 67 4 Edg.enc (.slice Q L.length q) L) := Lib.hid (HO.out.alloc _)
      have HB2 : Hid (Below w.heap.size w (wr.alloc (.cells #[.int .u32 0, .int .u32 (j : Int), .int .u64 (y : Int), .int .u32 4294967295] 67))) := Lib.hid (HB.out.alloc HB.out.size _)
      have w4 : IntKind.u32.wrap ((j : Int) + 1) = ((j + 1 : Nat) : Int) := by rw [IntKind.wrap_u32]; omega
      clear HO HB hz hy hj
      go_wp2_with (at_builtin
                   refine wpList_append_sr _ rfl (.tmp 20) (.tmp 31) edge_ety rfl w.heap.size (.slice Q L.length q) L rfl HO2.out (wr.heap.size + 1) (some ⟨wr.heap.size, 0, none⟩) 1 1 [x] rfl rfl HS2.out (by simp [maxLen]; omega) (by simp; omega) HB2.out.size ?_
                   intro Q2 q2 w8 hown hg _
                   have HB3 := Lib.hid (HB2.out.grown hg HB2.out.size (fun r hr => (HO2.out.lt r hr).1))
                   have HO3 := Lib.hid hown
                   clear hown hg HO2 HB2 HS2)
      go_wp2_with fail
      go_roundw
      case rel => exact ⟨i + 1, j + 1, Q2, q2, by first | rfl | (rw [← w4]; rfl) | go_num, Lib.hid (by rw [HJ.out]), by omega, by rw [HL2.out, HLn.out], Lib.hid (by rw [HL2.out, HLn.out, HS.out]; exact HO3.out), HB3⟩
      case measure => have := HJ.out; simp [intOf]; omega
    · have hie : i = many := by omega
      subst hie
      have i1 : ¬ (j : Int) ≤ (i : Int) := by omega
      have i1' : decide (j ≤ i) = false := decide_eq_false (by omega)
      clear hj hLl
      go_wp2_with fail
      go_ret2
      first | exact ⟨Q, q, rfl, HO.out, HB.out⟩ | exact ⟨Q, ⟨q, rfl⟩, HO.out, HB.out⟩
set_option maxRecDepth 100000 in
set_option maxHeartbeats 4000000 in
theorem fan_out (FB many last v : Nat) (w : World) (h : FanAt FB many last w) (hm1 : 1 ≤ many) (hm : many ≤ 70000) (hv : v < 4294967296) (hl : last < 4294967296) :
    Calls Try.prog 21 #[.pointer (some ⟨FB, 0, none⟩), .int .u32 (v : Int)] w fun e w' => ∃ A c, e = .returned (.tuple #[.slice A (fanOut many last v).1.length c, .int .i64 (fanOut many last v).2]) ∧ OwnS w' w.heap.size 67 4 Edg.enc (.slice A (fanOut many last v).1.length c) (fanOut many last v).1 ∧ Below w.heap.size w w' := by
  have hlt : FB < w.heap.size := (Array.getElem?_eq_some_iff.1 h).1
  have c0 : w.cell? ⟨FB, 0, none⟩ = some (.int .u32 (many : Int)) := cell_of_row _ _ 0 _ _ _ h
  have c1 : w.cell? ⟨FB, 1, none⟩ = some (.int .u32 (last : Int)) := cell_of_row _ _ 1 _ _ _ h
  by_cases hv0 : v = 0
  · subst hv0
    exact fan_out0 FB many last w h hm
  · have g0 : ((v : Int) == 0) = false := by rw [beq_eq_false_iff_ne]; omega
    have g1 : (0 : Int) < (v : Int) := by omega
    have g1' : decide (0 < v) = true := decide_eq_true (by omega)
    have g3 : (1 : Int) ≤ (many : Int) := by omega
    have g3' : decide (1 ≤ many) = true := decide_eq_true hm1
    by_cases hvm : v ≤ many
    · have hO : fanOut many last v = ([endE v last], 0) := by unfold fanOut; rw [if_neg hv0, if_pos hvm]
      rw [hO]
      have g2 : (v : Int) ≤ (many : Int) := by omega
      have g2' : decide (v ≤ many) = true := decide_eq_true hvm
      have HE : Hid ((endE v last).tail = v ∧ (endE v last).head = last ∧ (endE v last).weight = 0 ∧ (endE v last).mid = 4294967295) := Lib.hid ⟨Nat.mod_eq_of_lt hv, Nat.mod_eq_of_lt hl, rfl, rfl⟩
      generalize endE v last = x at *
      clear hO h hvm hv0
      go_enter Try.func21, Try.ntmps21
      go_wp2_with fail
      go_loopw [6, 7] (fun va vi wr => va = .slice none 0 0 ∧ vi = .int .u32 1 ∧ wr = w) (fun _ _ _ => 0)
      case atStart => exact ⟨rfl, rfl, rfl⟩
      case round =>
        obtain ⟨rfl, rfl, hwr⟩ := hrel
        have hw2 := hwr.symm
        subst hw2
        clear hwr
        have HS2 : Hid (ELs (w.heap.size + 1) (w.alloc (.cells #[.int .u32 (v : Int), .int .u32 (last : Int), .int .u64 0, .int .u32 4294967295] 67)) (some ⟨w.heap.size, 0, none⟩) [x]) := Lib.hid (by
          have h := SR.one (sz := 4) (enc := Edg.enc) x (heap_alloc_new w (.cells #[.int .u32 (x.tail : Int), .int .u32 (x.head : Int), .int .u64 (x.weight : Int), .int .u32 (x.mid : Int)] 67)) rfl (w.heap.size + 1) (by omega)
          obtain ⟨k1, k2, k3, k4⟩ := HE.out
          rw [k1, k2, k3, k4] at h
          exact h)
        have HB2 : Hid (Below w.heap.size w (w.alloc (.cells #[.int .u32 (v : Int), .int .u32 (last : Int), .int .u64 0, .int .u32 4294967295] 67))) := Lib.hid ((Below.refl _ _).alloc (Nat.le_refl _) _)
        go_wp2_with (at_builtin
                     refine wpList_append_sr _ rfl (.tmp 43) (.tmp 50) edge_ety rfl w.heap.size (.slice none 0 0) [] rfl (OwnS.nil _ _ _ _ _) (w.heap.size + 1) (some ⟨w.heap.size, 0, none⟩) 1 1 [x] rfl rfl HS2.out (by simp [maxLen]) (by simp) HB2.out.size ?_
                     intro Q2 q2 w8 hown hg _
                     have HB3 := Lib.hid (HB2.out.grown hg HB2.out.size (fun r hr => by cases hr))
                     have HO3 := Lib.hid hown
                     clear hown hg HB2 HS2)
        go_wp2_with fail
        go_ret2
        first | exact ⟨Q2, q2, rfl, HO3.out, HB3.out⟩ | exact ⟨Q2, ⟨q2, rfl⟩, HO3.out, HB3.out⟩
    · have hO : fanOut many last v = ([], 0) := by unfold fanOut; rw [if_neg hv0, if_neg hvm]
      rw [hO]
      have g2 : ¬ (v : Int) ≤ (many : Int) := by omega
      have g2' : decide (v ≤ many) = false := decide_eq_false hvm
      clear hO h hvm hv0
      go_enter Try.func21, Try.ntmps21
      go_wp2_with fail
      go_loopw [6, 7] (fun va vi wr => va = .slice none 0 0 ∧ vi = .int .u32 1 ∧ wr = w) (fun _ _ _ => 0)
      case atStart => exact ⟨rfl, rfl, rfl⟩
      case round =>
        obtain ⟨rfl, rfl, hwr⟩ := hrel
        have hw2 := hwr.symm
        subst hw2
        clear hwr
        go_wp2_with fail
        go_ret2
        first | exact ⟨none, 0, rfl, OwnS.nil _ _ _ _ _, Below.refl _ _⟩ | exact ⟨none, ⟨0, rfl⟩, OwnS.nil _ _ _ _ _, Below.refl _ _⟩
end Go.Proofs.Ytpnmfhcmodoeiaa
