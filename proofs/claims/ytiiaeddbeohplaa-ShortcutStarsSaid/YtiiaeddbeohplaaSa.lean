/- Stars: what they tell of a vertex. -/
import Derived.Test.YtiiaeddbeohplaaNq
namespace Go.Proofs.Ytiiaeddbeohplaa
open Go.RowKit
abbrev W64 := {n : Nat // n < 18446744073709551616}
abbrev XLs := SR 1 (fun v : W64 => [Value.int .u64 (v.1 : Int)])
theorem XLs.at' {B : Nat} {w : World} {A : Option Addr} {l : List W64} (h : XLs B w A l) (i : Nat) (hi : i < l.length) :
    ∃ b o : Nat, A = some ⟨b, o, none⟩ ∧ b < B ∧ w.cell? ⟨b, o + i, none⟩ = some (.int .u64 (l[i].1 : Int)) := by
  obtain ⟨b, o, hA, hb, hc⟩ := h.at_ i hi
  refine ⟨b, o, hA, hb, ?_⟩
  have := hc 0 _ rfl
  rwa [Nat.mul_one, Nat.add_zero] at this
/-- a star in block SB, its lists below block B -/
def StarAt (B SB : Nat) (Is Os : List W64) (th : Bool) (W : W64) (away : Nat) (w : World) : Prop :=
  ∃ A c A' c', w.heap[SB]? = some (.cells #[.slice A Is.length c, .slice A' Os.length c', .bool th, .int .u64 (W.1 : Int), .int .u32 (away : Int)] 52 (0, 0)) ∧ XLs B w A Is ∧ XLs B w A' Os
def w0 : W64 := ⟨0, by omega⟩
def outE (Os : List W64) (i : Nat) : Edg := ⟨0, (101 + i) % 4294967296, (Os.getD i w0).1, 4294967295, by omega, by omega, (Os.getD i w0).2, by omega⟩
def inE (Is : List W64) (i : Nat) : Edg := ⟨(1 + i) % 4294967296, 0, (Is.getD i w0).1, 4294967295, by omega, by omega, (Is.getD i w0).2, by omega⟩
def thE (W : W64) : Edg := ⟨1, 101, W.1, 4294967295, by omega, by omega, W.2, by omega⟩
def outsT (Os : List W64) (k : Nat) : List Edg := (List.range k).map (outE Os)
def insT (Is : List W64) (k : Nat) : List Edg := (List.range k).map (inE Is)
theorem outsT_len (Os : List W64) (k : Nat) : (outsT Os k).length = k := by simp [outsT]
theorem insT_len (Os : List W64) (k : Nat) : (insT Os k).length = k := by simp [insT]
theorem outsT_succ (Os : List W64) (k : Nat) : outsT Os (k + 1) = outsT Os k ++ [outE Os k] := by simp [outsT, List.range_succ]
theorem insT_succ (Os : List W64) (k : Nat) : insT Os (k + 1) = insT Os k ++ [inE Os k] := by simp [insT, List.range_succ]
theorem outE_is {Os : List W64} {i : Nat} (hi : i < Os.length) (h : i ≤ 1000) : (outE Os i).tail = 0 ∧ (outE Os i).head = 101 + i ∧ (outE Os i).weight = Os[i].1 ∧ (outE Os i).mid = 4294967295 :=
  ⟨rfl, Nat.mod_eq_of_lt (by omega), by unfold outE; simp [hi], rfl⟩
theorem inE_is {Is : List W64} {i : Nat} (hi : i < Is.length) (h : i ≤ 1000) : (inE Is i).tail = 1 + i ∧ (inE Is i).head = 0 ∧ (inE Is i).weight = Is[i].1 ∧ (inE Is i).mid = 4294967295 :=
  ⟨Nat.mod_eq_of_lt (by omega), rfl, by unfold inE; simp [hi], rfl⟩
def starOut (Is Os : List W64) (th : Bool) (W : W64) (v : Nat) : List Edg × Int :=
  if v = 0 then (outsT Os Os.length, 0)
  else ((if v ≤ Is.length then [inE Is (v - 1)] else []) ++ (if v = 1 ∧ th = true then [thE W] else []), 0)
def starIn (Is Os : List W64) (th : Bool) (W : W64) (v : Nat) : List Edg × Int :=
  ((if v = 0 then insT Is Is.length else []) ++ ((if 100 < v ∧ v ≤ 100 + Os.length then [outE Os (v - 101)] else []) ++ (if v = 101 ∧ th = true then [thE W] else [])), 0)
theorem starOut_len (Is Os : List W64) (th : Bool) (W : W64) (v : Nat) (h : Os.length ≤ 900) : (starOut Is Os th W v).1.length ≤ 1000 := by
  unfold starOut
  split
  · simp [outsT_len]; omega
  · simp only [List.length_append]
    split <;> split <;> simp
theorem starIn_len (Is Os : List W64) (th : Bool) (W : W64) (v : Nat) (h : Is.length ≤ 900) : (starIn Is Os th W v).1.length ≤ 1000 := by
  unfold starIn
  simp only [List.length_append]
  split <;> split <;> split <;> simp [insT_len] <;> omega
theorem edge_one {w : World} {x : Edg} {a b c d : Int} (h : (x.tail : Int) = a ∧ (x.head : Int) = b ∧ (x.weight : Int) = c ∧ (x.mid : Int) = d) :
    ELs (w.heap.size + 1) (w.alloc (.cells #[.int .u32 a, .int .u32 b, .int .u64 c, .int .u32 d] 43)) (some ⟨w.heap.size, 0, none⟩) [x] := by
  obtain ⟨rfl, rfl, rfl, rfl⟩ := h
  exact SR.one (enc := Edg.enc) x (heap_alloc_new w _) rfl _ (by omega)
theorem star_shun (B SB : Nat) (Is Os : List W64) (th : Bool) (W : W64) (away v : Nat) (w : World) (hI : StarAt B SB Is Os th W away w) :
    Calls Try.prog 26 #[.pointer (some ⟨SB, 0, none⟩), .int .u32 (v : Int)] w fun e w' => e = .returned (.bool (v == away)) ∧ w = w' := by
  obtain ⟨A, c, A', c', h1, _⟩ := hI
  have c2 : w.cell? ⟨SB, 4, none⟩ = some (.int .u32 (away : Int)) := cell_of_row _ _ 4 _ _ _ h1
  have hE : ((v : Int) == (away : Int)) = (v == away) := by
    rw [Bool.eq_iff_iff, beq_iff_eq, beq_iff_eq]; omega
  clear h1
  generalize (v == away) = q at *
  go_enter Try.func26, Try.ntmps26
  go_wp2_with fail
  go_ret
  exact ⟨rfl, rfl⟩
set_option maxRecDepth 100000 in
set_option maxHeartbeats 4000000 in
theorem star_out0 (B SB : Nat) (Is Os : List W64) (th : Bool) (W : W64) (away : Nat) (w : World) (hI : StarAt B SB Is Os th W away w) (hB : B ≤ w.heap.size) (hO : Os.length ≤ 900) :
    Calls Try.prog 24 #[.pointer (some ⟨SB, 0, none⟩), .int .u32 0] w fun e w' => ∃ A c, e = .returned (.tuple #[.slice A Os.length c, .int .i64 0]) ∧ OwnS w' w.heap.size 43 4 Edg.enc (.slice A Os.length c) (outsT Os Os.length) ∧ Below w.heap.size w w' := by
  obtain ⟨A, c, A', c', h1, h2, h3⟩ := hI
  have hlt : SB < w.heap.size := (Array.getElem?_eq_some_iff.1 h1).1
  have c1 : w.cell? ⟨SB, 1, none⟩ = some (.slice A' Os.length c') := cell_of_row _ _ 1 _ _ _ h1
  have C1 := Lib.hid c1
  have HE := Lib.hid h3
  have HBz := Lib.hid hB
  clear h1 h2 h3 hB c1
  go_enter Try.func24, Try.ntmps24
  go_wp2_with fail
  go_loopw [6, 7] (fun va vi wr => ∃ (i : Nat) (Q : Option Addr) (q : Nat), vi = .int .i64 i ∧ i ≤ Os.length ∧ va = .slice Q i q ∧
    Hid (OwnS wr w.heap.size 43 4 Edg.enc (.slice Q i q) (outsT Os i)) ∧ Hid (Below w.heap.size w wr)) (fun _ vi _ => Os.length - (intOf vi).toNat)
  case atStart => exact ⟨0, none, 0, rfl, by omega, rfl, Lib.hid (OwnS.nil _ _ _ _ _), Lib.hid (Below.refl _ _)⟩
  case round =>
    obtain ⟨i, Q, q, rfl, hi, rfl, HO, HB⟩ := hrel
    have d0 : wr.cell? ⟨SB, 1, none⟩ = some (.slice A' Os.length c') := (HB.out.cell (p := ⟨SB, 1, none⟩) hlt).trans C1.out
    by_cases hil : i < Os.length
    · have i1 : (i : Int) < (Os.length : Int) := by omega
      have i2 : (0 : Int) ≤ (i : Int) := by omega
      obtain ⟨b, o, hA, hb, e0⟩ := XLs.at' ((HE.out.more HBz.out).below HB.out) i hil
      subst hA
      have HX := Lib.hid (outE_is hil (by omega))
      have HF := Lib.hid (outsT_succ Os i)
      obtain ⟨h, hh⟩ : ∃ h : Nat, h = 101 + i := ⟨_, rfl⟩
      have w1 : IntKind.i64.wrap (101 + (i : Int)) = (h : Int) := by rw [IntKind.wrap_i64]; omega
      have w2 : IntKind.u32.wrap (h : Int) = (h : Int) := by rw [IntKind.wrap_u32]; omega
      rw [← hh] at HX
      have HL := Lib.hid (outsT_len Os i)
      clear hh
      generalize Os[i].1 = y at *
      generalize outE Os i = x at *
      generalize outsT Os i = L at *
      have HS2 : Hid (ELs (wr.heap.size + 1) (wr.alloc (.cells #[.int .u32 0, .int .u32 (h : Int), .int .u64 (y : Int), .int .u32 4294967295] 43)) (some ⟨wr.heap.size, 0, none⟩) [x]) := Lib.hid (edge_one (by obtain ⟨k1, k2, k3, k4⟩ := HX.out; rw [k1, k2, k3, k4]; exact ⟨rfl, rfl, rfl, rfl⟩))
      have HO2 : Hid (OwnS (wr.alloc (.cells #[.int .u32 0, .int .u32 (h : Int), .int .u64 (y : Int), .int .u32 4294967295] 43)) w.heap.size 43 4 Edg.enc (.slice Q i q) L) := HO.out.alloc _
      have HB2 : Hid (Below w.heap.size w (wr.alloc (.cells #[.int .u32 0, .int .u32 (h : Int), .int .u64 (y : Int), .int .u32 4294967295] 43))) := HB.out.alloc HB.out.size _
      clear HO HB
      go_wp2_with (at_builtin
                   refine wpList_append_sr _ rfl (.tmp 19) (.tmp 31) edge_ety rfl w.heap.size (.slice Q i q) L rfl HO2.out (wr.heap.size + 1) (some ⟨wr.heap.size, 0, none⟩) 1 1 [x] rfl rfl HS2.out (by have := HL.out; simp [maxLen]; omega) (by have := HL.out; simp; omega) HB2.out.size ?_
                   intro Q2 q2 w8 hown hg _)
      have HB3 : Hid (Below w.heap.size w w8) := HB2.out.grown hg HB2.out.size (fun r hr => (HO2.out.lt r hr).1)
      have hl1 : L.length + [x].length = i + 1 := by rw [HL.out]; rfl
      rw [hl1, ← HF.out] at hown
      clear hl1
      have HO3 := Lib.hid hown
      clear hown hg HB2 HO2 HS2
      go_wp2_with fail
      go_roundw
      case rel => exact ⟨i + 1, Q2, q2, by go_num, by omega, by simp [HL.out], HO3, HB3⟩
      case measure => simp [intOf]; omega
    · have i1 : ¬ (i : Int) < (Os.length : Int) := by omega
      have hie : i = Os.length := by omega
      subst hie
      go_wp2_with fail
      go_ret2
      exact ⟨Q, q, rfl, HO.out, HB.out⟩
set_option maxRecDepth 100000 in
set_option maxHeartbeats 4000000 in
theorem star_out_in (B SB : Nat) (Is Os : List W64) (th : Bool) (W : W64) (away v : Nat) (w : World) (hI : StarAt B SB Is Os th W away w) (hB : B ≤ w.heap.size) (hv : v < 4294967296) (hL : Is.length ≤ 900) (v0 : v ≠ 0) (vl : v ≤ Is.length) (v1 : ¬ (v = 1 ∧ th = true)) :
    Calls Try.prog 24 #[.pointer (some ⟨SB, 0, none⟩), .int .u32 (v : Int)] w fun e w' => ∃ A c, e = .returned (.tuple #[.slice A 1 c, .int .i64 0]) ∧ OwnS w' w.heap.size 43 4 Edg.enc (.slice A 1 c) [inE Is (v - 1)] ∧ Below w.heap.size w w' := by
  obtain ⟨A, c, A', c', h1, h2, h3⟩ := hI
  have hlt : SB < w.heap.size := (Array.getElem?_eq_some_iff.1 h1).1
  have c0 : w.cell? ⟨SB, 0, none⟩ = some (.slice A Is.length c) := cell_of_row _ _ 0 _ _ _ h1
  have c1 : w.cell? ⟨SB, 1, none⟩ = some (.slice A' Os.length c') := cell_of_row _ _ 1 _ _ _ h1
  have c2 : w.cell? ⟨SB, 2, none⟩ = some (.bool th) := cell_of_row _ _ 2 _ _ _ h1
  have c3 : w.cell? ⟨SB, 3, none⟩ = some (.int .u64 (W.1 : Int)) := cell_of_row _ _ 3 _ _ _ h1
  clear h1 h3 c1 c3
  obtain ⟨m, rfl⟩ : ∃ m, v = m + 1 := ⟨v - 1, by omega⟩
  have hm : m < Is.length := by omega
  obtain ⟨b, o, hA, hb, e0⟩ := XLs.at' (h2.more hB) m hm
  subst hA
  rw [Nat.add_sub_cancel]
  have HX := Lib.hid (inE_is hm (by omega))
  obtain ⟨k, hk⟩ : ∃ k : Nat, k = m + 1 := ⟨_, rfl⟩
  have g0 : ((k : Int) == 0) = false := by rw [beq_eq_false_iff_ne]; omega
  have w1 : IntKind.u32.wrap ((k : Int) - 1) = (m : Int) := by rw [IntKind.wrap_u32]; omega
  have w2 : IntKind.i64.wrap (k : Int) = (k : Int) := by rw [IntKind.wrap_i64]; omega
  have i0 : (k : Int) ≤ (Is.length : Int) := by omega
  have i2 : (0 : Int) ≤ (m : Int) := by omega
  have i3 : (m : Int) < (Is.length : Int) := by omega
  rw [Nat.add_comm, ← hk] at HX
  rw [← hk]
  have HS2 : Hid (ELs (w.heap.size + 1) (w.alloc (.cells #[.int .u32 (k : Int), .int .u32 0, .int .u64 (Is[m].1 : Int), .int .u32 4294967295] 43)) (some ⟨w.heap.size, 0, none⟩) [inE Is m]) := Lib.hid (edge_one (by obtain ⟨k1, k2, k3, k4⟩ := HX.out; rw [k1, k2, k3, k4]; exact ⟨rfl, rfl, rfl, rfl⟩))
  generalize Is[m].1 = y at *
  generalize inE Is m = x at *
  have HO2 : Hid (OwnS (w.alloc (.cells #[.int .u32 (k : Int), .int .u32 0, .int .u64 (y : Int), .int .u32 4294967295] 43)) w.heap.size 43 4 Edg.enc (.slice none 0 0) []) := Lib.hid (OwnS.nil _ _ _ _ _)
  have HB2 : Hid (Below w.heap.size w (w.alloc (.cells #[.int .u32 (k : Int), .int .u32 0, .int .u64 (y : Int), .int .u32 4294967295] 43))) := Lib.hid ((Below.refl _ _).alloc (Nat.le_refl _) _)
  have C2 := Lib.hid c2
  clear h2 c2
  have V1 : Hid (((k : Int) == 1) = false ∨ (((k : Int) == 1) = true ∧ th = false)) := Lib.hid (by
    by_cases h : k = 1
    · right
      refine ⟨by rw [h]; rfl, ?_⟩
      cases th with
      | false => rfl
      | true => exact absurd ⟨by omega, rfl⟩ v1
    · left
      rw [beq_eq_false_iff_ne]; omega)
  clear v1 hk vl v0 hv hL hm
  go_enter Try.func24, Try.ntmps24
  go_wp2_with (at_builtin
               refine wpList_append_sr _ rfl (.tmp 42) (.tmp 53) edge_ety rfl w.heap.size (.slice none 0 0) [] rfl HO2.out (w.heap.size + 1) (some ⟨w.heap.size, 0, none⟩) 1 1 [x] rfl rfl HS2.out (by simp [maxLen]) (by simp) HB2.out.size ?_
               intro Q2 q2 w8 hown hg _
               have HB3 : Hid (Below w.heap.size w w8) := HB2.out.grown hg HB2.out.size (fun r hr => (HO2.out.lt r hr).1)
               have d2 : w8.cell? ⟨SB, 2, none⟩ = some (.bool th) := (HB3.out.cell (p := ⟨SB, 2, none⟩) hlt).trans C2.out
               have HO3 : Hid (OwnS w8 w.heap.size 43 4 Edg.enc (.slice Q2 1 q2) [x]) := Lib.hid hown
               clear hown hg HB2 HO2 HS2 C2 i0 i2 i3 w1 w2 e0 c0
               rcases V1.out with g1 | ⟨g1, rfl⟩
               all_goals clear V1)
  all_goals go_wp2_with fail
  all_goals go_ret2
  all_goals exact ⟨Q2, q2, rfl, HO3.out, HB3.out⟩
set_option maxRecDepth 100000 in
set_option maxHeartbeats 4000000 in
theorem star_out_both (B SB : Nat) (Is Os : List W64) (W : W64) (away : Nat) (w : World) (hI : StarAt B SB Is Os true W away w) (hB : B ≤ w.heap.size) (hL : Is.length ≤ 900) (vl : 1 ≤ Is.length) :
    Calls Try.prog 24 #[.pointer (some ⟨SB, 0, none⟩), .int .u32 1] w fun e w' => ∃ A c, e = .returned (.tuple #[.slice A 2 c, .int .i64 0]) ∧ OwnS w' w.heap.size 43 4 Edg.enc (.slice A 2 c) [inE Is 0, thE W] ∧ Below w.heap.size w w' := by
  obtain ⟨A, c, A', c', h1, h2, h3⟩ := hI
  have hlt : SB < w.heap.size := (Array.getElem?_eq_some_iff.1 h1).1
  have c0 : w.cell? ⟨SB, 0, none⟩ = some (.slice A Is.length c) := cell_of_row _ _ 0 _ _ _ h1
  have c1 : w.cell? ⟨SB, 1, none⟩ = some (.slice A' Os.length c') := cell_of_row _ _ 1 _ _ _ h1
  have c2 : w.cell? ⟨SB, 2, none⟩ = some (.bool true) := cell_of_row _ _ 2 _ _ _ h1
  have c3 : w.cell? ⟨SB, 3, none⟩ = some (.int .u64 (W.1 : Int)) := cell_of_row _ _ 3 _ _ _ h1
  clear h1 h3 c1
  have hm : 0 < Is.length := by omega
  obtain ⟨b, o, hA, hb, e0⟩ := XLs.at' (h2.more hB) 0 hm
  subst hA
  have HX := Lib.hid (inE_is hm (by omega))
  have i0 : (1 : Int) ≤ (Is.length : Int) := by omega
  have i3 : (0 : Int) < (Is.length : Int) := by omega
  have HS2 : Hid (ELs (w.heap.size + 1) (w.alloc (.cells #[.int .u32 1, .int .u32 0, .int .u64 (Is[0].1 : Int), .int .u32 4294967295] 43)) (some ⟨w.heap.size, 0, none⟩) [inE Is 0]) := Lib.hid (edge_one (by obtain ⟨k1, k2, k3, k4⟩ := HX.out; rw [k1, k2, k3, k4]; exact ⟨rfl, rfl, rfl, rfl⟩))
  generalize Is[0].1 = y at *
  generalize inE Is 0 = x at *
  have HO2 : Hid (OwnS (w.alloc (.cells #[.int .u32 1, .int .u32 0, .int .u64 (y : Int), .int .u32 4294967295] 43)) w.heap.size 43 4 Edg.enc (.slice none 0 0) []) := Lib.hid (OwnS.nil _ _ _ _ _)
  have HB2 : Hid (Below w.heap.size w (w.alloc (.cells #[.int .u32 1, .int .u32 0, .int .u64 (y : Int), .int .u32 4294967295] 43))) := Lib.hid ((Below.refl _ _).alloc (Nat.le_refl _) _)
  have C2 := Lib.hid c2
  have C3 := Lib.hid c3
  rw [Nat.add_zero] at e0
  clear h2 c2 c3 vl hm hL
  generalize Is.length = n at *
  go_enter Try.func24, Try.ntmps24
  go_wp2_with (first
               | (at_builtin
                  refine wpList_append_sr _ rfl (.tmp 42) (.tmp 53) edge_ety rfl w.heap.size (.slice none 0 0) [] rfl HO2.out (w.heap.size + 1) (some ⟨w.heap.size, 0, none⟩) 1 1 [x] rfl rfl HS2.out (by simp [maxLen]) (by simp) HB2.out.size ?_
                  intro Q2 q2 w8 hown hg _
                  have HB3 : Hid (Below w.heap.size w w8) := HB2.out.grown hg HB2.out.size (fun r hr => (HO2.out.lt r hr).1)
                  have d2 : w8.cell? ⟨SB, 2, none⟩ = some (.bool true) := (HB3.out.cell (p := ⟨SB, 2, none⟩) hlt).trans C2.out
                  have d3 : w8.cell? ⟨SB, 3, none⟩ = some (.int .u64 (W.1 : Int)) := (HB3.out.cell (p := ⟨SB, 3, none⟩) hlt).trans C3.out
                  have HO3 : Hid (OwnS w8 w.heap.size 43 4 Edg.enc (.slice Q2 1 q2) [x]) := Lib.hid hown
                  have HS4 : Hid (ELs (w8.heap.size + 1) (w8.alloc (.cells #[.int .u32 1, .int .u32 101, .int .u64 (W.1 : Int), .int .u32 4294967295] 43)) (some ⟨w8.heap.size, 0, none⟩) [thE W]) := Lib.hid (edge_one ⟨rfl, rfl, rfl, rfl⟩)
                  have HO4 : Hid (OwnS (w8.alloc (.cells #[.int .u32 1, .int .u32 101, .int .u64 (W.1 : Int), .int .u32 4294967295] 43)) w.heap.size 43 4 Edg.enc (.slice Q2 1 q2) [x]) := HO3.out.alloc _
                  have HB4 : Hid (Below w.heap.size w (w8.alloc (.cells #[.int .u32 1, .int .u32 101, .int .u64 (W.1 : Int), .int .u32 4294967295] 43))) := HB3.out.alloc HB3.out.size _
                  clear hown hg HB2 HO2 HS2 C2 C3 i0 i3 e0 c0 HB3 HO3)
               | (at_builtin
                  refine wpList_append_sr _ rfl (.tmp 63) (.tmp 69) edge_ety rfl w.heap.size (.slice Q2 1 q2) [x] rfl HO4.out (w8.heap.size + 1) (some ⟨w8.heap.size, 0, none⟩) 1 1 [thE W] rfl rfl HS4.out (by simp [maxLen]) (by simp) HB4.out.size ?_
                  intro Q3 q3 w9 hown hg _
                  have HB5 : Hid (Below w.heap.size w w9) := HB4.out.grown hg HB4.out.size (fun r hr => (HO4.out.lt r hr).1)
                  have HO5 : Hid (OwnS w9 w.heap.size 43 4 Edg.enc (.slice Q3 2 q3) [x, thE W]) := Lib.hid hown
                  clear hown hg HB4 HO4 HS4))
  go_ret2
  exact ⟨Q3, q3, rfl, HO5.out, HB5.out⟩
set_option maxRecDepth 100000 in
set_option maxHeartbeats 4000000 in
theorem star_out_there (B SB : Nat) (Is Os : List W64) (W : W64) (away : Nat) (w : World) (hI : StarAt B SB Is Os true W away w) (vl : Is.length = 0) :
    Calls Try.prog 24 #[.pointer (some ⟨SB, 0, none⟩), .int .u32 1] w fun e w' => ∃ A c, e = .returned (.tuple #[.slice A 1 c, .int .i64 0]) ∧ OwnS w' w.heap.size 43 4 Edg.enc (.slice A 1 c) [thE W] ∧ Below w.heap.size w w' := by
  obtain ⟨A, c, A', c', h1, h2, h3⟩ := hI
  have hlt : SB < w.heap.size := (Array.getElem?_eq_some_iff.1 h1).1
  have c0 : w.cell? ⟨SB, 0, none⟩ = some (.slice A Is.length c) := cell_of_row _ _ 0 _ _ _ h1
  have c1 : w.cell? ⟨SB, 1, none⟩ = some (.slice A' Os.length c') := cell_of_row _ _ 1 _ _ _ h1
  have c2 : w.cell? ⟨SB, 2, none⟩ = some (.bool true) := cell_of_row _ _ 2 _ _ _ h1
  have c3 : w.cell? ⟨SB, 3, none⟩ = some (.int .u64 (W.1 : Int)) := cell_of_row _ _ 3 _ _ _ h1
  clear h1 h2 h3 c1
  have i0 : ¬ (1 : Int) ≤ (Is.length : Int) := by omega
  have HS4 : Hid (ELs (w.heap.size + 1) (w.alloc (.cells #[.int .u32 1, .int .u32 101, .int .u64 (W.1 : Int), .int .u32 4294967295] 43)) (some ⟨w.heap.size, 0, none⟩) [thE W]) := Lib.hid (edge_one ⟨rfl, rfl, rfl, rfl⟩)
  have HO4 : Hid (OwnS (w.alloc (.cells #[.int .u32 1, .int .u32 101, .int .u64 (W.1 : Int), .int .u32 4294967295] 43)) w.heap.size 43 4 Edg.enc (.slice none 0 0) []) := Lib.hid (OwnS.nil _ _ _ _ _)
  have HB4 : Hid (Below w.heap.size w (w.alloc (.cells #[.int .u32 1, .int .u32 101, .int .u64 (W.1 : Int), .int .u32 4294967295] 43))) := Lib.hid ((Below.refl _ _).alloc (Nat.le_refl _) _)
  clear vl
  generalize Is.length = n at *
  go_enter Try.func24, Try.ntmps24
  go_wp2_with (at_builtin
               refine wpList_append_sr _ rfl (.tmp 63) (.tmp 69) edge_ety rfl w.heap.size (.slice none 0 0) [] rfl HO4.out (w.heap.size + 1) (some ⟨w.heap.size, 0, none⟩) 1 1 [thE W] rfl rfl HS4.out (by simp [maxLen]) (by simp) HB4.out.size ?_
               intro Q3 q3 w9 hown hg _
               have HB5 : Hid (Below w.heap.size w w9) := HB4.out.grown hg HB4.out.size (fun r hr => (HO4.out.lt r hr).1)
               have HO5 : Hid (OwnS w9 w.heap.size 43 4 Edg.enc (.slice Q3 1 q3) [thE W]) := Lib.hid hown
               clear hown hg HB4 HO4 HS4
               skip)
  go_ret2
  exact ⟨Q3, q3, rfl, HO5.out, HB5.out⟩
set_option maxRecDepth 100000 in
set_option maxHeartbeats 4000000 in
theorem star_out_none (B SB : Nat) (Is Os : List W64) (th : Bool) (W : W64) (away v : Nat) (w : World) (hI : StarAt B SB Is Os th W away w) (hv : v < 4294967296) (vl : Is.length < v) (v1 : ((v : Int) == 1) = false ∨ (((v : Int) == 1) = true ∧ th = false)) :
    Calls Try.prog 24 #[.pointer (some ⟨SB, 0, none⟩), .int .u32 (v : Int)] w fun e w' => e = .returned (.tuple #[.slice none 0 0, .int .i64 0]) ∧ Below w.heap.size w w' := by
  obtain ⟨A, c, A', c', h1, h2, h3⟩ := hI
  have hlt : SB < w.heap.size := (Array.getElem?_eq_some_iff.1 h1).1
  have c0 : w.cell? ⟨SB, 0, none⟩ = some (.slice A Is.length c) := cell_of_row _ _ 0 _ _ _ h1
  have c1 : w.cell? ⟨SB, 1, none⟩ = some (.slice A' Os.length c') := cell_of_row _ _ 1 _ _ _ h1
  have c2 : w.cell? ⟨SB, 2, none⟩ = some (.bool th) := cell_of_row _ _ 2 _ _ _ h1
  have c3 : w.cell? ⟨SB, 3, none⟩ = some (.int .u64 (W.1 : Int)) := cell_of_row _ _ 3 _ _ _ h1
  clear h1 h2 h3 c1 c3
  have g0 : ((v : Int) == 0) = false := by rw [beq_eq_false_iff_ne]; omega
  have i0 : ¬ (v : Int) ≤ (Is.length : Int) := by omega
  have w2 : IntKind.i64.wrap (v : Int) = (v : Int) := by rw [IntKind.wrap_i64]; omega
  clear vl hv
  rcases v1 with g1 | ⟨g1, rfl⟩
  all_goals go_enter Try.func24, Try.ntmps24
  all_goals go_wp2_with fail
  all_goals go_ret2
  all_goals exact ⟨rfl, Below.refl _ _⟩
set_option maxRecDepth 100000 in
set_option maxHeartbeats 4000000 in
theorem star_in0 (B SB : Nat) (Is Os : List W64) (th : Bool) (W : W64) (away : Nat) (w : World) (hI : StarAt B SB Is Os th W away w) (hB : B ≤ w.heap.size) (hL : Is.length ≤ 900) :
    Calls Try.prog 25 #[.pointer (some ⟨SB, 0, none⟩), .int .u32 0] w fun e w' => ∃ A c, e = .returned (.tuple #[.slice A Is.length c, .int .i64 0]) ∧ OwnS w' w.heap.size 43 4 Edg.enc (.slice A Is.length c) (insT Is Is.length) ∧ Below w.heap.size w w' := by
  obtain ⟨A, c, A', c', h1, h2, h3⟩ := hI
  have hlt : SB < w.heap.size := (Array.getElem?_eq_some_iff.1 h1).1
  have c0 : w.cell? ⟨SB, 0, none⟩ = some (.slice A Is.length c) := cell_of_row _ _ 0 _ _ _ h1
  have c1 : w.cell? ⟨SB, 1, none⟩ = some (.slice A' Os.length c') := cell_of_row _ _ 1 _ _ _ h1
  have c2 : w.cell? ⟨SB, 2, none⟩ = some (.bool th) := cell_of_row _ _ 2 _ _ _ h1
  have c3 : w.cell? ⟨SB, 3, none⟩ = some (.int .u64 (W.1 : Int)) := cell_of_row _ _ 3 _ _ _ h1
  have C0 := Lib.hid c0
  have HE := Lib.hid h2
  have HBz := Lib.hid hB
  clear h1 h2 h3 hB c0 c1 c2 c3
  go_enter Try.func25, Try.ntmps25
  go_wp2_with fail
  go_loopw [6, 7] (fun va vi wr => ∃ (i : Nat) (Q : Option Addr) (q : Nat), vi = .int .i64 i ∧ i ≤ Is.length ∧ va = .slice Q i q ∧
    Hid (OwnS wr w.heap.size 43 4 Edg.enc (.slice Q i q) (insT Is i)) ∧ Hid (Below w.heap.size w wr)) (fun _ vi _ => Is.length - (intOf vi).toNat)
  case atStart => exact ⟨0, none, 0, rfl, by omega, rfl, Lib.hid (OwnS.nil _ _ _ _ _), Lib.hid (Below.refl _ _)⟩
  case round =>
    obtain ⟨i, Q, q, rfl, hi, rfl, HO, HB⟩ := hrel
    have d0 : wr.cell? ⟨SB, 0, none⟩ = some (.slice A Is.length c) := (HB.out.cell (p := ⟨SB, 0, none⟩) hlt).trans C0.out
    by_cases hil : i < Is.length
    · have i1 : (i : Int) < (Is.length : Int) := by omega
      have i2 : (0 : Int) ≤ (i : Int) := by omega
      obtain ⟨b, o, hA, hb, e0⟩ := XLs.at' ((HE.out.more HBz.out).below HB.out) i hil
      subst hA
      have HX := Lib.hid (inE_is hil (by omega))
      have HF := Lib.hid (insT_succ Is i)
      obtain ⟨h, hh⟩ : ∃ h : Nat, h = 1 + i := ⟨_, rfl⟩
      have w1 : IntKind.i64.wrap (1 + (i : Int)) = (h : Int) := by rw [IntKind.wrap_i64]; omega
      have w2 : IntKind.u32.wrap (h : Int) = (h : Int) := by rw [IntKind.wrap_u32]; omega
      rw [← hh] at HX
      have HL := Lib.hid (insT_len Is i)
      clear hh
      generalize Is[i].1 = y at *
      generalize inE Is i = x at *
      generalize insT Is i = L at *
      have HS2 : Hid (ELs (wr.heap.size + 1) (wr.alloc (.cells #[.int .u32 (h : Int), .int .u32 0, .int .u64 (y : Int), .int .u32 4294967295] 43)) (some ⟨wr.heap.size, 0, none⟩) [x]) := Lib.hid (edge_one (by obtain ⟨k1, k2, k3, k4⟩ := HX.out; rw [k1, k2, k3, k4]; exact ⟨rfl, rfl, rfl, rfl⟩))
      have HO2 : Hid (OwnS (wr.alloc (.cells #[.int .u32 (h : Int), .int .u32 0, .int .u64 (y : Int), .int .u32 4294967295] 43)) w.heap.size 43 4 Edg.enc (.slice Q i q) L) := HO.out.alloc _
      have HB2 : Hid (Below w.heap.size w (wr.alloc (.cells #[.int .u32 (h : Int), .int .u32 0, .int .u64 (y : Int), .int .u32 4294967295] 43))) := HB.out.alloc HB.out.size _
      clear HO HB
      go_wp2_with (at_builtin
                   refine wpList_append_sr _ rfl (.tmp 21) (.tmp 33) edge_ety rfl w.heap.size (.slice Q i q) L rfl HO2.out (wr.heap.size + 1) (some ⟨wr.heap.size, 0, none⟩) 1 1 [x] rfl rfl HS2.out (by have := HL.out; simp [maxLen]; omega) (by have := HL.out; simp; omega) HB2.out.size ?_
                   intro Q2 q2 w8 hown hg _)
      have HB3 : Hid (Below w.heap.size w w8) := HB2.out.grown hg HB2.out.size (fun r hr => (HO2.out.lt r hr).1)
      have hl1 : L.length + [x].length = i + 1 := by rw [HL.out]; rfl
      rw [hl1, ← HF.out] at hown
      clear hl1
      have HO3 := Lib.hid hown
      clear hown hg HB2 HO2 HS2
      go_wp2_with fail
      go_roundw
      case rel => exact ⟨i + 1, Q2, q2, by go_num, by omega, by simp [HL.out], HO3, HB3⟩
      case measure => simp [intOf]; omega
    · have i1 : ¬ (i : Int) < (Is.length : Int) := by omega
      have hie : i = Is.length := by omega
      subst hie
      go_wp2_with fail
      go_ret2
      exact ⟨Q, q, rfl, HO.out, HB.out⟩
set_option maxRecDepth 100000 in
set_option maxHeartbeats 4000000 in
theorem star_in_out (B SB : Nat) (Is Os : List W64) (th : Bool) (W : W64) (away v : Nat) (w : World) (hI : StarAt B SB Is Os th W away w) (hB : B ≤ w.heap.size) (hv : v < 4294967296) (hL : Os.length ≤ 900) (v0 : 100 < v) (vl : v ≤ 100 + Os.length) (v1 : ¬ (v = 101 ∧ th = true)) :
    Calls Try.prog 25 #[.pointer (some ⟨SB, 0, none⟩), .int .u32 (v : Int)] w fun e w' => ∃ A c, e = .returned (.tuple #[.slice A 1 c, .int .i64 0]) ∧ OwnS w' w.heap.size 43 4 Edg.enc (.slice A 1 c) [outE Os (v - 101)] ∧ Below w.heap.size w w' := by
  obtain ⟨A, c, A', c', h1, h2, h3⟩ := hI
  have hlt : SB < w.heap.size := (Array.getElem?_eq_some_iff.1 h1).1
  have c0 : w.cell? ⟨SB, 0, none⟩ = some (.slice A Is.length c) := cell_of_row _ _ 0 _ _ _ h1
  have c1 : w.cell? ⟨SB, 1, none⟩ = some (.slice A' Os.length c') := cell_of_row _ _ 1 _ _ _ h1
  have c2 : w.cell? ⟨SB, 2, none⟩ = some (.bool th) := cell_of_row _ _ 2 _ _ _ h1
  have c3 : w.cell? ⟨SB, 3, none⟩ = some (.int .u64 (W.1 : Int)) := cell_of_row _ _ 3 _ _ _ h1
  clear h1 h2 c3
  obtain ⟨m, rfl⟩ : ∃ m, v = m + 101 := ⟨v - 101, by omega⟩
  have hm : m < Os.length := by omega
  obtain ⟨b, o, hA, hb, e0⟩ := XLs.at' (h3.more hB) m hm
  subst hA
  rw [Nat.add_sub_cancel]
  have HX := Lib.hid (outE_is hm (by omega))
  obtain ⟨k, hk⟩ : ∃ k : Nat, k = m + 101 := ⟨_, rfl⟩
  obtain ⟨s, hs⟩ : ∃ s : Nat, s = 100 + Os.length := ⟨_, rfl⟩
  have g0 : ((k : Int) == 0) = false := by rw [beq_eq_false_iff_ne]; omega
  have w1 : IntKind.u32.wrap ((k : Int) - 101) = (m : Int) := by rw [IntKind.wrap_u32]; omega
  have w2 : IntKind.i64.wrap (k : Int) = (k : Int) := by rw [IntKind.wrap_i64]; omega
  have w3 : IntKind.i64.wrap (100 + (Os.length : Int)) = (s : Int) := by rw [IntKind.wrap_i64]; omega
  have i0 : (k : Int) ≤ (s : Int) := by omega
  have i1 : (100 : Int) < (k : Int) := by omega
  have i2 : (0 : Int) ≤ (m : Int) := by omega
  have i3 : (m : Int) < (Os.length : Int) := by omega
  rw [Nat.add_comm, ← hk] at HX
  rw [← hk]
  have HS2 : Hid (ELs (w.heap.size + 1) (w.alloc (.cells #[.int .u32 0, .int .u32 (k : Int), .int .u64 (Os[m].1 : Int), .int .u32 4294967295] 43)) (some ⟨w.heap.size, 0, none⟩) [outE Os m]) := Lib.hid (edge_one (by obtain ⟨k1, k2, k3, k4⟩ := HX.out; rw [k1, k2, k3, k4]; exact ⟨rfl, rfl, rfl, rfl⟩))
  generalize Os[m].1 = y at *
  generalize outE Os m = x at *
  have HO2 : Hid (OwnS (w.alloc (.cells #[.int .u32 0, .int .u32 (k : Int), .int .u64 (y : Int), .int .u32 4294967295] 43)) w.heap.size 43 4 Edg.enc (.slice none 0 0) []) := Lib.hid (OwnS.nil _ _ _ _ _)
  have HB2 : Hid (Below w.heap.size w (w.alloc (.cells #[.int .u32 0, .int .u32 (k : Int), .int .u64 (y : Int), .int .u32 4294967295] 43))) := Lib.hid ((Below.refl _ _).alloc (Nat.le_refl _) _)
  have C2 := Lib.hid c2
  have V1 : Hid (((k : Int) == 101) = false ∨ (((k : Int) == 101) = true ∧ th = false)) := Lib.hid (by
    by_cases h : k = 101
    · right
      refine ⟨by rw [h]; rfl, ?_⟩
      cases th with
      | false => rfl
      | true => exact absurd ⟨by omega, rfl⟩ v1
    · left
      rw [beq_eq_false_iff_ne]; omega)
  clear h3 c2 v1 hk vl v0 hv hL hm hs HX
  generalize Os.length = n at *
  generalize Is.length = n' at *
  have N1 : Hid ((0 : Int) < (n' : Int) ∨ ¬ (0 : Int) < (n' : Int)) := Lib.hid (by omega)
  go_enter Try.func25, Try.ntmps25
  go_wp2_with fail
  go_loopw [6, 7] (fun va vi wr => va = .slice none 0 0 ∧ vi = .int .i64 0 ∧ wr = w) (fun _ _ _ => 0)
  case atStart => exact ⟨rfl, rfl, rfl⟩
  obtain ⟨rfl, rfl, hw⟩ := hrel
  have hw2 := hw.symm
  subst hw2
  clear hw
  rcases N1.out with j0 | j0
  all_goals clear N1
  all_goals go_wp2_with (at_builtin
                         refine wpList_append_sr _ rfl (.tmp 48) (.tmp 59) edge_ety rfl w.heap.size (.slice none 0 0) [] rfl HO2.out (w.heap.size + 1) (some ⟨w.heap.size, 0, none⟩) 1 1 [x] rfl rfl HS2.out (by simp [maxLen]) (by simp) HB2.out.size ?_
                         intro Q2 q2 w8 hown hg _
                         have HB3 : Hid (Below w.heap.size w w8) := HB2.out.grown hg HB2.out.size (fun r hr => (HO2.out.lt r hr).1)
                         have d2 : w8.cell? ⟨SB, 2, none⟩ = some (.bool th) := (HB3.out.cell (p := ⟨SB, 2, none⟩) hlt).trans C2.out
                         have HO3 : Hid (OwnS w8 w.heap.size 43 4 Edg.enc (.slice Q2 1 q2) [x]) := Lib.hid hown
                         clear hown hg HB2 HO2 HS2 C2 i0 i1 i2 i3 w1 w2 w3 e0 c0 c1
                         rcases V1.out with g1 | ⟨g1, rfl⟩
                         all_goals clear V1)
  all_goals go_wp2_with fail
  all_goals go_ret2
  all_goals exact ⟨Q2, q2, rfl, HO3.out, HB3.out⟩
set_option maxRecDepth 100000 in
set_option maxHeartbeats 4000000 in
theorem star_in_both (B SB : Nat) (Is Os : List W64) (W : W64) (away : Nat) (w : World) (hI : StarAt B SB Is Os true W away w) (hB : B ≤ w.heap.size) (hL : Os.length ≤ 900) (vl : 1 ≤ Os.length) :
    Calls Try.prog 25 #[.pointer (some ⟨SB, 0, none⟩), .int .u32 101] w fun e w' => ∃ A c, e = .returned (.tuple #[.slice A 2 c, .int .i64 0]) ∧ OwnS w' w.heap.size 43 4 Edg.enc (.slice A 2 c) [outE Os 0, thE W] ∧ Below w.heap.size w w' := by
  obtain ⟨A, c, A', c', h1, h2, h3⟩ := hI
  have hlt : SB < w.heap.size := (Array.getElem?_eq_some_iff.1 h1).1
  have c0 : w.cell? ⟨SB, 0, none⟩ = some (.slice A Is.length c) := cell_of_row _ _ 0 _ _ _ h1
  have c1 : w.cell? ⟨SB, 1, none⟩ = some (.slice A' Os.length c') := cell_of_row _ _ 1 _ _ _ h1
  have c2 : w.cell? ⟨SB, 2, none⟩ = some (.bool true) := cell_of_row _ _ 2 _ _ _ h1
  have c3 : w.cell? ⟨SB, 3, none⟩ = some (.int .u64 (W.1 : Int)) := cell_of_row _ _ 3 _ _ _ h1
  clear h1 h2
  have hm : 0 < Os.length := by omega
  obtain ⟨b, o, hA, hb, e0⟩ := XLs.at' (h3.more hB) 0 hm
  subst hA
  have HX := Lib.hid (outE_is hm (by omega))
  obtain ⟨s, hs⟩ : ∃ s : Nat, s = 100 + Os.length := ⟨_, rfl⟩
  have w3 : IntKind.i64.wrap (100 + (Os.length : Int)) = (s : Int) := by rw [IntKind.wrap_i64]; omega
  have i0 : (101 : Int) ≤ (s : Int) := by omega
  have i3 : (0 : Int) < (Os.length : Int) := by omega
  have HS2 : Hid (ELs (w.heap.size + 1) (w.alloc (.cells #[.int .u32 0, .int .u32 101, .int .u64 (Os[0].1 : Int), .int .u32 4294967295] 43)) (some ⟨w.heap.size, 0, none⟩) [outE Os 0]) := Lib.hid (edge_one (by obtain ⟨k1, k2, k3, k4⟩ := HX.out; rw [k1, k2, k3, k4]; exact ⟨rfl, rfl, rfl, rfl⟩))
  generalize Os[0].1 = y at *
  generalize outE Os 0 = x at *
  have HO2 : Hid (OwnS (w.alloc (.cells #[.int .u32 0, .int .u32 101, .int .u64 (y : Int), .int .u32 4294967295] 43)) w.heap.size 43 4 Edg.enc (.slice none 0 0) []) := Lib.hid (OwnS.nil _ _ _ _ _)
  have HB2 : Hid (Below w.heap.size w (w.alloc (.cells #[.int .u32 0, .int .u32 101, .int .u64 (y : Int), .int .u32 4294967295] 43))) := Lib.hid ((Below.refl _ _).alloc (Nat.le_refl _) _)
  have C2 := Lib.hid c2
  have C3 := Lib.hid c3
  rw [Nat.add_zero] at e0
  clear h3 c2 c3 vl hm hL hs HX
  generalize Os.length = n at *
  generalize Is.length = n' at *
  have N1 : Hid ((0 : Int) < (n' : Int) ∨ ¬ (0 : Int) < (n' : Int)) := Lib.hid (by omega)
  go_enter Try.func25, Try.ntmps25
  go_wp2_with fail
  go_loopw [6, 7] (fun va vi wr => va = .slice none 0 0 ∧ vi = .int .i64 0 ∧ wr = w) (fun _ _ _ => 0)
  case atStart => exact ⟨rfl, rfl, rfl⟩
  obtain ⟨rfl, rfl, hw⟩ := hrel
  have hw2 := hw.symm
  subst hw2
  clear hw
  rcases N1.out with j0 | j0
  all_goals clear N1
  all_goals go_wp2_with (first
               | (at_builtin
                  refine wpList_append_sr _ rfl (.tmp 48) (.tmp 59) edge_ety rfl w.heap.size (.slice none 0 0) [] rfl HO2.out (w.heap.size + 1) (some ⟨w.heap.size, 0, none⟩) 1 1 [x] rfl rfl HS2.out (by simp [maxLen]) (by simp) HB2.out.size ?_
                  intro Q2 q2 w8 hown hg _
                  have HB3 : Hid (Below w.heap.size w w8) := HB2.out.grown hg HB2.out.size (fun r hr => (HO2.out.lt r hr).1)
                  have d2 : w8.cell? ⟨SB, 2, none⟩ = some (.bool true) := (HB3.out.cell (p := ⟨SB, 2, none⟩) hlt).trans C2.out
                  have d3 : w8.cell? ⟨SB, 3, none⟩ = some (.int .u64 (W.1 : Int)) := (HB3.out.cell (p := ⟨SB, 3, none⟩) hlt).trans C3.out
                  have HO3 : Hid (OwnS w8 w.heap.size 43 4 Edg.enc (.slice Q2 1 q2) [x]) := Lib.hid hown
                  have HS4 : Hid (ELs (w8.heap.size + 1) (w8.alloc (.cells #[.int .u32 1, .int .u32 101, .int .u64 (W.1 : Int), .int .u32 4294967295] 43)) (some ⟨w8.heap.size, 0, none⟩) [thE W]) := Lib.hid (edge_one ⟨rfl, rfl, rfl, rfl⟩)
                  have HO4 : Hid (OwnS (w8.alloc (.cells #[.int .u32 1, .int .u32 101, .int .u64 (W.1 : Int), .int .u32 4294967295] 43)) w.heap.size 43 4 Edg.enc (.slice Q2 1 q2) [x]) := HO3.out.alloc _
                  have HB4 : Hid (Below w.heap.size w (w8.alloc (.cells #[.int .u32 1, .int .u32 101, .int .u64 (W.1 : Int), .int .u32 4294967295] 43))) := HB3.out.alloc HB3.out.size _
                  clear hown hg HB2 HO2 HS2 C2 C3 i0 i3 e0 c0 c1 HB3 HO3)
               | (at_builtin
                  refine wpList_append_sr _ rfl (.tmp 69) (.tmp 75) edge_ety rfl w.heap.size (.slice Q2 1 q2) [x] rfl HO4.out (w8.heap.size + 1) (some ⟨w8.heap.size, 0, none⟩) 1 1 [thE W] rfl rfl HS4.out (by simp [maxLen]) (by simp) HB4.out.size ?_
                  intro Q3 q3 w9 hown hg _
                  have HB5 : Hid (Below w.heap.size w w9) := HB4.out.grown hg HB4.out.size (fun r hr => (HO4.out.lt r hr).1)
                  have HO5 : Hid (OwnS w9 w.heap.size 43 4 Edg.enc (.slice Q3 2 q3) [x, thE W]) := Lib.hid hown
                  clear hown hg HB4 HO4 HS4))
  all_goals go_ret2
  all_goals exact ⟨Q3, q3, rfl, HO5.out, HB5.out⟩
set_option maxRecDepth 100000 in
set_option maxHeartbeats 4000000 in
theorem star_in_there (B SB : Nat) (Is Os : List W64) (W : W64) (away : Nat) (w : World) (hI : StarAt B SB Is Os true W away w) (vl : Os.length = 0) :
    Calls Try.prog 25 #[.pointer (some ⟨SB, 0, none⟩), .int .u32 101] w fun e w' => ∃ A c, e = .returned (.tuple #[.slice A 1 c, .int .i64 0]) ∧ OwnS w' w.heap.size 43 4 Edg.enc (.slice A 1 c) [thE W] ∧ Below w.heap.size w w' := by
  obtain ⟨A, c, A', c', h1, h2, h3⟩ := hI
  have hlt : SB < w.heap.size := (Array.getElem?_eq_some_iff.1 h1).1
  have c0 : w.cell? ⟨SB, 0, none⟩ = some (.slice A Is.length c) := cell_of_row _ _ 0 _ _ _ h1
  have c1 : w.cell? ⟨SB, 1, none⟩ = some (.slice A' Os.length c') := cell_of_row _ _ 1 _ _ _ h1
  have c2 : w.cell? ⟨SB, 2, none⟩ = some (.bool true) := cell_of_row _ _ 2 _ _ _ h1
  have c3 : w.cell? ⟨SB, 3, none⟩ = some (.int .u64 (W.1 : Int)) := cell_of_row _ _ 3 _ _ _ h1
  clear h1 h2 h3
  have i0 : ¬ (101 : Int) ≤ (100 : Int) := by omega
  rw [vl] at c1
  have HS4 : Hid (ELs (w.heap.size + 1) (w.alloc (.cells #[.int .u32 1, .int .u32 101, .int .u64 (W.1 : Int), .int .u32 4294967295] 43)) (some ⟨w.heap.size, 0, none⟩) [thE W]) := Lib.hid (edge_one ⟨rfl, rfl, rfl, rfl⟩)
  have HO4 : Hid (OwnS (w.alloc (.cells #[.int .u32 1, .int .u32 101, .int .u64 (W.1 : Int), .int .u32 4294967295] 43)) w.heap.size 43 4 Edg.enc (.slice none 0 0) []) := Lib.hid (OwnS.nil _ _ _ _ _)
  have HB4 : Hid (Below w.heap.size w (w.alloc (.cells #[.int .u32 1, .int .u32 101, .int .u64 (W.1 : Int), .int .u32 4294967295] 43))) := Lib.hid ((Below.refl _ _).alloc (Nat.le_refl _) _)
  clear vl
  generalize Is.length = n' at *
  have N1 : Hid ((0 : Int) < (n' : Int) ∨ ¬ (0 : Int) < (n' : Int)) := Lib.hid (by omega)
  go_enter Try.func25, Try.ntmps25
  go_wp2_with fail
  go_loopw [6, 7] (fun va vi wr => va = .slice none 0 0 ∧ vi = .int .i64 0 ∧ wr = w) (fun _ _ _ => 0)
  case atStart => exact ⟨rfl, rfl, rfl⟩
  obtain ⟨rfl, rfl, hw⟩ := hrel
  have hw2 := hw.symm
  subst hw2
  clear hw
  rcases N1.out with j0 | j0
  all_goals clear N1
  all_goals go_wp2_with (at_builtin
                         refine wpList_append_sr _ rfl (.tmp 69) (.tmp 75) edge_ety rfl w.heap.size (.slice none 0 0) [] rfl HO4.out (w.heap.size + 1) (some ⟨w.heap.size, 0, none⟩) 1 1 [thE W] rfl rfl HS4.out (by simp [maxLen]) (by simp) HB4.out.size ?_
                         intro Q3 q3 w9 hown hg _
                         have HB5 : Hid (Below w.heap.size w w9) := HB4.out.grown hg HB4.out.size (fun r hr => (HO4.out.lt r hr).1)
                         have HO5 : Hid (OwnS w9 w.heap.size 43 4 Edg.enc (.slice Q3 1 q3) [thE W]) := Lib.hid hown
                         clear hown hg HB4 HO4 HS4
                         skip)
  all_goals go_ret2
  all_goals exact ⟨Q3, q3, rfl, HO5.out, HB5.out⟩
set_option maxRecDepth 100000 in
set_option maxHeartbeats 4000000 in
theorem star_in_none (B SB : Nat) (Is Os : List W64) (th : Bool) (W : W64) (away v : Nat) (w : World) (hI : StarAt B SB Is Os th W away w) (hv : v < 4294967296) (hL : Os.length ≤ 900) (v0 : v ≠ 0) (vl : ¬ (100 < v ∧ v ≤ 100 + Os.length)) (v1 : ((v : Int) == 101) = false ∨ (((v : Int) == 101) = true ∧ th = false)) :
    Calls Try.prog 25 #[.pointer (some ⟨SB, 0, none⟩), .int .u32 (v : Int)] w fun e w' => e = .returned (.tuple #[.slice none 0 0, .int .i64 0]) ∧ Below w.heap.size w w' := by
  obtain ⟨A, c, A', c', h1, h2, h3⟩ := hI
  have hlt : SB < w.heap.size := (Array.getElem?_eq_some_iff.1 h1).1
  have c0 : w.cell? ⟨SB, 0, none⟩ = some (.slice A Is.length c) := cell_of_row _ _ 0 _ _ _ h1
  have c1 : w.cell? ⟨SB, 1, none⟩ = some (.slice A' Os.length c') := cell_of_row _ _ 1 _ _ _ h1
  have c2 : w.cell? ⟨SB, 2, none⟩ = some (.bool th) := cell_of_row _ _ 2 _ _ _ h1
  have c3 : w.cell? ⟨SB, 3, none⟩ = some (.int .u64 (W.1 : Int)) := cell_of_row _ _ 3 _ _ _ h1
  clear h1 h2 h3 c3
  have g0 : ((v : Int) == 0) = false := by rw [beq_eq_false_iff_ne]; omega
  obtain ⟨s, hs⟩ : ∃ s : Nat, s = 100 + Os.length := ⟨_, rfl⟩
  have w2 : IntKind.i64.wrap (v : Int) = (v : Int) := by rw [IntKind.wrap_i64]; omega
  have w3 : IntKind.i64.wrap (100 + (Os.length : Int)) = (s : Int) := by rw [IntKind.wrap_i64]; omega
  have V0 : Hid (¬ (100 : Int) < (v : Int) ∨ ((100 : Int) < (v : Int) ∧ ¬ (v : Int) ≤ (s : Int))) := Lib.hid (by omega)
  clear v0 vl hv hL hs
  generalize Os.length = n at *
  generalize Is.length = n' at *
  have N1 : Hid ((0 : Int) < (n' : Int) ∨ ¬ (0 : Int) < (n' : Int)) := Lib.hid (by omega)
  have V1 := Lib.hid v1
  clear v1
  go_enter Try.func25, Try.ntmps25
  go_wp2_with fail
  go_loopw [6, 7] (fun va vi wr => va = .slice none 0 0 ∧ vi = .int .i64 0 ∧ wr = w) (fun _ _ _ => 0)
  case atStart => exact ⟨rfl, rfl, rfl⟩
  obtain ⟨rfl, rfl, hw⟩ := hrel
  have hw2 := hw.symm
  subst hw2
  clear hw
  rcases N1.out with j0 | j0
  all_goals rcases V0.out with i0 | ⟨i0, i1⟩
  all_goals rcases V1.out with g1 | ⟨g1, rfl⟩
  all_goals clear N1 V0 V1
  all_goals go_wp2_with fail
  all_goals go_ret2
  all_goals exact ⟨rfl, Below.refl _ _⟩
end Go.Proofs.Ytiiaeddbeohplaa
