/- ShortcutStars: for any star the call returns true: where there is no other way each pair of a vertex ahead and one behind gets a shortcut, in their order. No condition. -/
import Derived.Test.YtiiaeddbeohplaaSo
import Derived.Test.YtiiaeddbeohplaaSs
import Derived.BigQuiet
import Derived.Deep.QuietTactic
namespace Go.Proofs.Ytiiaeddbeohplaa.shortcutStars
open Go.ChangeShapes Go.WideShapes Go.ChangeAt Go.RowKit Go.Deep
set_option maxRecDepth 100000 in
theorem long (A A' : Option Addr) (n c n' c' : Nat) (th : Bool) (x away : Nat) (w : World) (h : 12 < n ∨ (n ≤ 12 ∧ 12 < n')) : Calls Try.prog 7 #[.agg #[.slice A n c, .slice A' n' c', .bool th, .int .u64 (x : Int), .int .u32 (away : Int)]] w (LawOk w) := by
  have HW := Lib.hid works_any
  have hb : Below w.heap.size w (w.alloc (.cells #[.slice A n c, .slice A' n' c', .bool th, .int .u64 (x : Int), .int .u32 (away : Int)] 52)) := (Below.refl _ _).alloc (Nat.le_refl _) _
  have HB := Lib.hid hb
  have h1 : (12 : Int) < (n : Int) ∨ (¬ (12 : Int) < (n : Int) ∧ (12 : Int) < (n' : Int)) := by omega
  clear h hb
  rcases h1 with g1 | ⟨g1, g2⟩
  all_goals go_enter Try.func7, Try.ntmps7
  all_goals go_wp2_with (go_at_call 11; with_reducible refine (HW.out _).mono ?_; rintro e w9 ⟨rfl, hb9⟩)
  all_goals go_ret
  all_goals exact ⟨rfl, HB.out.trans (hb9.mono HB.out.size)⟩
/-- the star that lies in memory once nothing is there -/
theorem laid (A A' : Option Addr) (Is Os : List W64) (c c' : Nat) (x away : Nat) (hx : x < 18446744073709551616) (w : World) (hs : XLs w.heap.size w A Is) (hs' : XLs w.heap.size w A' Os) :
    StarAt (w.alloc (.cells #[.slice A Is.length c, .slice A' Os.length c', .bool false, .int .u64 (x : Int), .int .u32 (away : Int)] 52)).heap.size w.heap.size Is Os false ⟨x, hx⟩ away (w.alloc (.cells #[.slice A Is.length c, .slice A' Os.length c', .bool false, .int .u64 (x : Int), .int .u32 (away : Int)] 52)) ∧ Below w.heap.size w (w.alloc (.cells #[.slice A Is.length c, .slice A' Os.length c', .bool false, .int .u64 (x : Int), .int .u32 (away : Int)] 52)) := by
  have hb : Below w.heap.size w (w.alloc (.cells #[.slice A Is.length c, .slice A' Os.length c', .bool false, .int .u64 (x : Int), .int .u32 (away : Int)] 52)) := (Below.refl _ _).alloc (Nat.le_refl _) _
  have hle : w.heap.size ≤ (w.alloc (.cells #[.slice A Is.length c, .slice A' Os.length c', .bool false, .int .u64 (x : Int), .int .u32 (away : Int)] 52)).heap.size := hb.size
  exact ⟨⟨A, c, A', c', heap_alloc_new _ _, (hs.below hb).more hle, (hs'.below hb).more hle⟩, hb⟩
theorem not_three {f : Bool} {a b c : Nat} (h : f = true) (h2 : a ≠ c) (h3 : b ≠ c) : ¬ (f = false ∨ (a == c) = true ∨ (b == c) = true) := by
  rw [h, beq_iff_eq, beq_iff_eq]
  rintro (e | e | e)
  · cases e
  · exact h2 e
  · exact h3 e
set_option maxRecDepth 100000 in
set_option maxHeartbeats 8000000 in
theorem short (A A' : Option Addr) (Is Os : List W64) (c c' : Nat) (th : Bool) (x away : Nat) (hx : x < 18446744073709551616) (w : World) (hs : XLs w.heap.size w A Is) (hs' : XLs w.heap.size w A' Os) (hl : Is.length ≤ 12) (hl' : Os.length ≤ 12) :
    Calls Try.prog 7 #[.agg #[.slice A Is.length c, .slice A' Os.length c', .bool th, .int .u64 (x : Int), .int .u32 (away : Int)]] w (LawOk w) := by
  have HW := Lib.hid works_any
  obtain ⟨hS, hB⟩ := laid A A' Is Os c c' x away hx w hs hs'
  obtain ⟨W1, hW1⟩ : ∃ W1, w.alloc (.cells #[.slice A Is.length c, .slice A' Os.length c', .bool false, .int .u64 (x : Int), .int .u32 (away : Int)] 52) = W1 := ⟨_, rfl⟩
  rw [hW1] at hS hB
  have HX := Lib.hid hW1
  have HB := Lib.hid hB
  have HS := Lib.hid hS
  have hm := make_star w.heap.size Is Os false ⟨x, hx⟩ away 0 zero_lt W1 hS (by omega) (by omega)
  rw [star_ok Is Os ⟨x, hx⟩ (fun v => v == away) hl hl'] at hm
  have hr := SRow.start Is Os ⟨x, hx⟩ (fun v => v == away) hl hl'
  have hr0 := SRow.start Is Os ⟨x, hx⟩ (fun _ => false) hl hl'
  generalize (makeR (starOut Is Os false ⟨x, hx⟩) (starIn Is Os false ⟨x, hx⟩) (fun v => v == away) 0 zero_lt).1 = L at *
  generalize hL0 : (makeR (starOut Is Os false ⟨x, hx⟩) (starIn Is Os false ⟨x, hx⟩) (fun _ => false) 0 zero_lt).1 = L0 at *
  have HM := Lib.hid hm
  have HR := Lib.hid hr
  have HR0 := Lib.hid hr0
  have HL0 := Lib.hid hL0
  clear hm hr hr0 hL0
  have g1 : ¬ (12 : Int) < (Is.length : Int) := by omega
  have g2 : ¬ (12 : Int) < (Os.length : Int) := by omega
  clear hS hB hW1 hs hs'
  go_enter Try.func7, Try.ntmps7
  go_wp2_with fail
  rw [HX.out]
  clear HX
  refine HM.out.mono ?_
  rintro e w1 ⟨A1, c1, rfl, hL, hb1⟩
  have HB1 := Lib.hid (HB.out.trans (hb1.mono HB.out.size))
  have HS1 := Lib.hid ((HS.out.below (Nat.le_refl _) hb1).more hb1.size)
  have HE := Lib.hid hL
  clear hL hb1 HM HB HS
  generalize hn : L.length = nL at *
  have HN := Lib.hid hn
  clear hn
  go_wp2_with fail
  go_loopw [6, 7, 8] (fun vk va vi wr => ∃ (i : Nat) (acc acc0 : List Edg), vi = .int .i64 i ∧ i ≤ Is.length ∧ vk = .int .i64 acc.length ∧ va = .int .i64 acc0.length ∧ acc.length ≤ 12 * i ∧ acc0.length ≤ 12 * i ∧
    Hid (SRow Is Os ⟨x, hx⟩ (fun v => v == away) i acc L) ∧ Hid (SRow Is Os ⟨x, hx⟩ (fun _ => false) i acc0 L0) ∧ Hid (Drew w1 wr)) (fun _ _ vi _ => Is.length - (intOf vi).toNat)
  case atStart => exact ⟨0, [], [], rfl, by omega, rfl, rfl, by simp, by simp, HR, HR0, Lib.hid (Drew.refl _)⟩
  case round =>
    obtain ⟨i, acc, acc0, rfl, hi, rfl, rfl, hk, hk0, HP, HP0, HD⟩ := hrel
    have HS2 : Hid (StarAt w1.heap.size w.heap.size Is Os false ⟨x, hx⟩ away wr) := by obtain ⟨n, hn⟩ := HD.out; rw [hn]; exact Lib.hid (HS1.out.same fun _ _ => rfl)
    have HE2 : Hid (ELs w1.heap.size wr A1 L) := Lib.hid (HE.out.drew HD.out)
    have HB2 : Hid (Below w.heap.size w wr) := Lib.hid (HB1.out.trans (HD.out.below _))
    have hsz : wr.heap.size = w1.heap.size := by obtain ⟨n, hn⟩ := HD.out; rw [hn]; rfl
    obtain ⟨P1, k1, P2, k2, hr, hx1, hx2⟩ := HS2.out
    have d0 : wr.cell? ⟨w.heap.size, 0, none⟩ = some (.slice P1 Is.length k1) := cell_of_row _ _ 0 _ _ _ hr
    have d1 : wr.cell? ⟨w.heap.size, 1, none⟩ = some (.slice P2 Os.length k2) := cell_of_row _ _ 1 _ _ _ hr
    have d4 : wr.cell? ⟨w.heap.size, 4, none⟩ = some (.int .u32 (away : Int)) := cell_of_row _ _ 4 _ _ _ hr
    have HX1 := Lib.hid hx1
    have HX2 := Lib.hid hx2
    clear HR HR0 hr hx1 hx2
    by_cases hil : i < Is.length
    · have i1 : (i : Int) < (Is.length : Int) := by omega
      have i2 : (0 : Int) ≤ (i : Int) := by omega
      obtain ⟨b1, o1, rfl, _, e0⟩ := XLs.at' HX1.out i hil
      have HQ1 := Lib.hid (HP.out.opens hil)
      have HQ2 := Lib.hid (HP0.out.opens hil)
      clear HP HP0 HX1
      obtain ⟨wo, hwo⟩ : ∃ wo, wo = wr := ⟨_, rfl⟩
      subst hwo
      go_wp2_with fail
      go_loopw [6, 7, 9] (fun vk va vj wr => ∃ (j : Nat) (ac ac0 : List Edg), vj = .int .i64 j ∧ j ≤ Os.length ∧ vk = .int .i64 ac.length ∧ va = .int .i64 ac0.length ∧ ac.length ≤ 12 * i + j ∧ ac0.length ≤ 12 * i + j ∧
        Hid (SInv Is Os ⟨x, hx⟩ (fun v => v == away) i j ac L) ∧ Hid (SInv Is Os ⟨x, hx⟩ (fun _ => false) i j ac0 L0) ∧ Hid (Drew wo wr)) (fun _ _ vj _ => Os.length - (intOf vj).toNat)
      case atStart => exact ⟨0, acc, acc0, rfl, by omega, rfl, rfl, by omega, by omega, HQ1, HQ2, Lib.hid (Drew.refl _)⟩
      case round =>
        obtain ⟨j, ac, ac0, rfl, hj, rfl, rfl, hk2, hk3, HQ, HQ0, HD2⟩ := hrel
        have f0 : wr.cell? ⟨w.heap.size, 0, none⟩ = some (.slice (some ⟨b1, o1, none⟩) Is.length k1) := (HD2.out.cell _).trans d0
        have f1 : wr.cell? ⟨w.heap.size, 1, none⟩ = some (.slice P2 Os.length k2) := (HD2.out.cell _).trans d1
        have f4 : wr.cell? ⟨w.heap.size, 4, none⟩ = some (.int .u32 (away : Int)) := (HD2.out.cell _).trans d4
        have g0 : wr.cell? ⟨b1, o1 + i, none⟩ = some (.int .u64 (Is[i].1 : Int)) := (HD2.out.cell _).trans e0
        have HX3 : Hid (XLs w1.heap.size wr P2 Os) := Lib.hid (HX2.out.drew HD2.out)
        have HE3 : Hid (ELs w1.heap.size wr A1 L) := Lib.hid (HE2.out.drew HD2.out)
        clear d0 d1 d4 e0 HX2 HE2 HQ1 HQ2
        by_cases hjl : j < Os.length
        · have j1 : (j : Int) < (Os.length : Int) := by omega
          have j2 : (0 : Int) ≤ (j : Int) := by omega
          obtain ⟨b2, o2, rfl, _, g2'⟩ := XLs.at' HX3.out j hjl
          obtain ⟨X, hX⟩ : ∃ X, X = cutE (inE Is i) (outE Os j) 0 zero_lt := ⟨_, rfl⟩
          have HF : Hid (X.tail = 1 + i ∧ X.head = 101 + j ∧ X.weight = sumV Is[i].1 Os[j].1 ∧ X.mid = 0) := Lib.hid (by
            obtain ⟨t1, t2, t3, t4⟩ := inE_is hil (by omega)
            obtain ⟨u1, u2, u3, u4⟩ := outE_is hjl (by omega)
            rw [hX]; exact ⟨t1, u2, by show sumV _ _ = _; rw [t3, u3], rfl⟩)
          have HNo : Hid (fitsB Is[i].1 Os[j].1 = false ∨ 1 + i = away ∨ 101 + j = away → SInv Is Os ⟨x, hx⟩ (fun v => v == away) i (j + 1) ac L) :=
            Lib.hid fun h => HQ.out.no hil hjl hl hl' (h.imp id (Or.imp beq_iff_eq.2 beq_iff_eq.2))
          have HYes : Hid (fitsB Is[i].1 Os[j].1 = true → 1 + i ≠ away → 101 + j ≠ away → SInv Is Os ⟨x, hx⟩ (fun v => v == away) i (j + 1) (ac ++ [X]) L ∧ ∃ t, L = ac ++ X :: t) :=
            Lib.hid fun h h2 h3 => by
              rw [hX]
              exact HQ.out.yes hil hjl hl hl' (not_three h h2 h3)
          have HNo0 : Hid (fitsB Is[i].1 Os[j].1 = false → SInv Is Os ⟨x, hx⟩ (fun _ => false) i (j + 1) ac0 L0) := Lib.hid fun h => HQ0.out.no hil hjl hl hl' (.inl h)
          have HYes0 : Hid (fitsB Is[i].1 Os[j].1 = true → SInv Is Os ⟨x, hx⟩ (fun _ => false) i (j + 1) (ac0 ++ [X]) L0) :=
            Lib.hid fun h => by rw [hX]; exact (HQ0.out.yes hil hjl hl hl' (by rw [h]; rintro (e | e | e) <;> cases e)).1
          obtain ⟨u, hu⟩ : ∃ u : Nat, u = 1 + i := ⟨_, rfl⟩
          obtain ⟨h, hh⟩ : ∃ h : Nat, h = 101 + j := ⟨_, rfl⟩
          have w2 : IntKind.i64.wrap (1 + (i : Int)) = (u : Int) := by rw [IntKind.wrap_i64]; omega
          have w3 : IntKind.u32.wrap (u : Int) = (u : Int) := by rw [IntKind.wrap_u32]; omega
          have w4 : IntKind.i64.wrap (101 + (j : Int)) = (h : Int) := by rw [IntKind.wrap_i64]; omega
          have w5 : IntKind.u32.wrap (h : Int) = (h : Int) := by rw [IntKind.wrap_u32]; omega
          rw [← hu, ← hh] at HF HNo HYes
          have HA := Lib.hid (fun V => (refAdd_any Is[i].1 Os[j].1 V).mono fun e w' (h : _ ∧ _) => (⟨h.1, h.2.symm⟩ : _ ∧ w' = V))
          clear hX hu hh HQ HQ0 HX3
          generalize Is[i].1 = p at *
          generalize Os[j].1 = q at *
          generalize fitsB p q = fit at *
          generalize sumV p q = sm at *
          go_wp2_with fail
          go_quiet ((go_at_call 20; exact Calls.quiet_of_same (HA.out _)))
          have f0' : (wr.drewN nq).cell? ⟨w.heap.size, 0, none⟩ = some (.slice (some ⟨b1, o1, none⟩) Is.length k1) := f0
          have f1' : (wr.drewN nq).cell? ⟨w.heap.size, 1, none⟩ = some (.slice (some ⟨b2, o2, none⟩) Os.length k2) := f1
          have f4' : (wr.drewN nq).cell? ⟨w.heap.size, 4, none⟩ = some (.int .u32 (away : Int)) := f4
          have HD3 : Hid (Drew wo (wr.drewN nq)) := Lib.hid (HD2.out.drewN nq)
          have HE4 : Hid (ELs w1.heap.size (wr.drewN nq) A1 L) := Lib.hid (HE3.out.drew ((Drew.refl _).drewN nq))
          clear f0 f1 f4 g0 g2' HD2 HE3 HA
          generalize wr.drewN nq = wt at *
          cases fit with
          | false =>
            have HN1 := Lib.hid (HNo.out (.inl rfl))
            have HN2 := Lib.hid (HNo0.out rfl)
            clear HNo HNo0 HYes HYes0
            go_wp2_with fail
            go_roundw
            case rel => exact ⟨j + 1, ac, ac0, by go_num, by omega, rfl, rfl, by omega, by omega, HN1, HN2, HD3⟩
            case measure => simp [intOf]; omega
          | true =>
            have HA0 := Lib.hid (HYes0.out rfl)
            clear HNo0 HYes0
            obtain ⟨m, hm⟩ : ∃ m : Nat, m = ac0.length + 1 := ⟨_, rfl⟩
            have w6 : IntKind.i64.wrap ((ac0.length : Int) + 1) = (m : Int) := by rw [IntKind.wrap_i64]; omega
            have hm2 : m = (ac0 ++ [X]).length := by rw [hm]; simp
            by_cases hu : u = away
            · subst hu
              have HN1 := Lib.hid (HNo.out (.inr (.inl rfl)))
              clear HNo HYes
              go_wp2_with fail
              go_roundw
              case rel => exact ⟨j + 1, ac, ac0 ++ [X], by go_num, by omega, rfl, by rw [← hm2, hm]; go_num, by omega, by omega, HN1, HA0, HD3⟩
              case measure => simp [intOf]; omega
            · have q1 : ((u : Int) == (away : Int)) = false := by rw [beq_eq_false_iff_ne]; omega
              by_cases hh : h = away
              · subst hh
                have HN1 := Lib.hid (HNo.out (.inr (.inr rfl)))
                clear HNo HYes
                go_wp2_with fail
                go_roundw
                case rel => exact ⟨j + 1, ac, ac0 ++ [X], by go_num, by omega, rfl, by rw [← hm2, hm]; go_num, by omega, by omega, HN1, HA0, HD3⟩
                case measure => simp [intOf]; omega
              · have q2 : ((h : Int) == (away : Int)) = false := by rw [beq_eq_false_iff_ne]; omega
                obtain ⟨hy, t, ht⟩ := HYes.out rfl hu hh
                have HY := Lib.hid hy
                have hkl : ac.length < L.length := by rw [ht]; simp
                have hX : L[ac.length] = X := by
                  have : L[ac.length]? = some X := by rw [ht]; simp
                  rw [List.getElem?_eq_getElem hkl] at this
                  injection this
                obtain ⟨p4, o4, rfl, _, x0, x1, x2, x3⟩ := HE4.out.at' ac.length hkl
                obtain ⟨t1, t2, t3, t4⟩ := HF.out
                rw [hX, t1] at x0
                rw [hX, t2] at x1
                rw [hX, t3] at x2
                rw [hX, t4] at x3
                rw [HN.out] at hkl
                have q3 : ¬ (nL : Int) ≤ (ac.length : Int) := by omega
                have q4 : (ac.length : Int) < (nL : Int) := by omega
                have q5 : (0 : Int) ≤ (ac.length : Int) := by omega
                have hal : (ac ++ [X]).length = ac.length + 1 := by simp
                clear HNo HYes hy ht hX t1 t2 t3 t4 hkl HF
                generalize ac.length = r at *
                go_wp2_with fail
                go_roundw
                case rel => exact ⟨j + 1, ac ++ [X], ac0 ++ [X], by go_num, by omega, by rw [hal]; go_num, by rw [← hm2, hm]; go_num, by omega, by omega, HY, HA0, HD3⟩
                case measure => simp [intOf]; omega
        · have j1 : ¬ (j : Int) < (Os.length : Int) := by omega
          have hje : j = Os.length := by omega
          subst hje
          have HQ1 := Lib.hid (HQ.out.close hil)
          have HQ2 := Lib.hid (HQ0.out.close hil)
          clear HQ HQ0
          go_wp2_with fail
          go_roundw
          case rel => exact ⟨i + 1, ac, ac0, by go_num, by omega, rfl, rfl, by omega, by omega, HQ1, HQ2, Lib.hid (HD.out.trans HD2.out)⟩
          case measure => simp [intOf]; omega
    · have i1 : ¬ (i : Int) < (Is.length : Int) := by omega
      have hie : i = Is.length := by omega
      subst hie
      have hLa := HP.out.done
      have hL0a := HP0.out.done
      subst hLa
      have hln : acc0.length = L0.length := by rw [hL0a]
      rw [HN.out, hln]
      have hc := count_star w.heap.size Is Os false ⟨x, hx⟩ away 0 zero_lt wr (by rw [hsz]; exact HS2.out) (by omega) (by omega)
      obtain ⟨se1, se2⟩ := star_ends Is Os ⟨x, hx⟩
      have hcr : countR (starOut Is Os false ⟨x, hx⟩) (starIn Is Os false ⟨x, hx⟩) 0 zero_lt = (Is.length, Os.length, L0.length, 0) := by
        unfold countR
        rw [if_neg (by rw [star_ok Is Os ⟨x, hx⟩ (fun _ => false) hl hl']; exact fun h => h rfl), HL0.out, se1, se2]
        simp only [insT_len, outsT_len]
      rw [hcr] at hc
      have HC := Lib.hid hc
      clear hc hcr se1 se2 HL0 hL0a hln HP HP0 HX1 HX2 hk hk0 HS1 HS2 HE HE2 HB1 HN
      generalize L0.length = n0 at *
      go_wp2_with fail
      refine HC.out.mono ?_
      rintro e w5 ⟨rfl, hb5⟩
      have HB5 := Lib.hid (HB2.out.trans (hb5.mono HB2.out.size))
      have hlt : w.heap.size < wr.heap.size := World.block_lt_of_cell? wr _ d0
      have f0 : w5.cell? ⟨w.heap.size, 0, none⟩ = some (.slice P1 Is.length k1) := (hb5.cell (p := ⟨w.heap.size, 0, none⟩) hlt).trans d0
      have f1 : w5.cell? ⟨w.heap.size, 1, none⟩ = some (.slice P2 Os.length k2) := (hb5.cell (p := ⟨w.heap.size, 1, none⟩) hlt).trans d1
      clear hb5 d0 d1 d4 HC hlt HB2
      go_wp2_with (go_at_call 11; with_reducible refine (HW.out _).mono ?_; rintro e w9 ⟨rfl, hb9⟩)
      go_ret
      exact ⟨rfl, HB5.out.trans (hb9.mono HB5.out.size)⟩
theorem walk (A A' : Option Addr) (n c n' c' : Nat) (th : Bool) (x away : Nat) (w : World) (h : StarIn w A A' n n') (hx : x < 18446744073709551616) (_ : away < 4294967296) : Calls Try.prog 7 #[.agg #[.slice A n c, .slice A' n' c', .bool th, .int .u64 (x : Int), .int .u32 (away : Int)]] w (LawOk w) := by
  by_cases h1 : 12 < n ∨ (n ≤ 12 ∧ 12 < n')
  · exact long A A' n c n' c' th x away w h1
  · obtain ⟨l, rfl, hs⟩ := h.l0 (by omega)
    obtain ⟨l', rfl, hs'⟩ := h.l1 (by omega)
    exact short A A' l l' c c' th x away hx w hs hs' (by omega) (by omega)

set_option maxRecDepth 100000 in
theorem lifted (os : Os) (started : os.Started) (H : Type) (enc : TypeId × Value → H) :
    ReturnsInHanded {} Try.checked os 7 .any (Rows.shortcutStarsSpec.pre6 enc Try.prog Try.f7 Rows.shortcutStarsRow.domain false) (Rows.shortcutStarsSpec.post enc Try.prog Try.f7 false true false false) := by
  refine returnsInHanded_of_change (C := Try.checked) own_knob started (by kernel_rfl) Try.func7
    (ChangeSpec.witness6 (enc := enc) (C := Try.checked) false ⟨#[], #[.agg #[.slice none 0 0,.slice none 0 0,.bool false,.int .u64 0,.int .u32 0]], []⟩ 8 (by kernel_rfl) (by kernel_rfl) (by kernel_rfl) (by kernel_rfl)) ?_
  intro W base args ds gs before hval0 hW _ _
  have hval : ∀ (j : Nat) t v, Try.f7.params[j]? = some t → args[j]? = some v → Value.okWide Try.prog W .any base t v := hval0
  have hW' := hW
  obtain ⟨p, q, hA0, hV, rfl, _, _⟩ := hW
  have hA : DataW.TrodAll enc Try.prog W 0 (fun _ => true) true Try.f7.params.toList args.toList ds p := hA0
  rw [Try.params7] at hA hval
  obtain ⟨v0, vs0, d0, ds0, p0, q0, hargs, rfl, rfl, h0, r0⟩ := trodAll_cons hA
  obtain ⟨rfl, rfl, rfl⟩ := trodAll_nil r0
  obtain rfl : args = #[v0] := by cases args; simp_all
  obtain ⟨rfl, rfl⟩ := trodVars_none hV
  have hlt : ∀ x ∈ p0, x.block < W.heap.size := fun x hx => hW'.lt x (by simpa using hx)
  obtain ⟨A0, A'0, n0, c0, n'0, c'0, th0, x0, away0, rfl, hn0, hx0, ha0⟩ := open_star (hval 0 52 v0 rfl rfl) h0 (fun x hx => hlt x (by simp [hx]))
  refine (walk A0 A'0 n0 c0 n'0 c'0 th0 x0 away0 W hn0 hx0 ha0).mono fun e W' ⟨he, hg⟩ => ?_
  subst he
  exact ⟨_, rfl, law_post hW' rfl (by kernel_rfl) rfl (by kernel_rfl) hg⟩

theorem proved : Rows.ShortcutStarsSaid :=
  OpenClaim.holds_of_wide 7 Try.f7 rfl rfl rfl rfl rfl rfl rfl ⟨rfl, rfl, rfl, rfl, rfl⟩ rfl rfl rfl rfl rfl (by kernel_rfl) Try.func7 (by kernel_rfl)
    (of_decide_eq_true (by kernel_rfl)) (by unfold Func.isWrapper; first | (rw [if_pos (by decide +kernel)]; kernel_rfl) | (rw [if_neg (by decide +kernel)]; exact ⟨rfl, rfl⟩))
    (fun os started H enc _ => lifted os started H enc)

end Go.Proofs.Ytiiaeddbeohplaa.shortcutStars
