/- WitnessWays: for any net and any question the call returns true: where it says yes there is such a way; where all edges can be had, and there are at most 16 vertices, it says yes just if there is one. No condition. -/
import Derived.Test.YtpnmfhcmodoeiaaVw
import Derived.Test.YtpnmfhcmodoeiaaFa
import Derived.Test.YtpnmfhcmodoeiaaLg
namespace Go.Proofs.Ytpnmfhcmodoeiaa.witnessWays
open Go.ChangeShapes Go.WideShapes Go.ChangeAt Go.RowKit Go.Deep
theorem runs_err {out : Nat → List Edg × Int} {av : Nat → Bool} {to most k : Nat} {S : Nat → Bool} {f : Nat → Option Nat} {a : List Nat} {b : Bool} {e : Int} (h : Runs out av to most k S f a b e) : e ≠ 0 → b = false ∧ ∃ v, (out v).2 ≠ 0 := by
  induction h with
  | full | none | far | is => intro h; exact absurd rfl h
  | err k S f v d _ _ _ _ h => intro _; exact ⟨rfl, v, h⟩
  | step _ _ _ _ _ _ _ _ _ _ _ _ _ _ ih => exact ih
theorem net_err {E : List Edg} {bad : List Nat} {v : Nat} (h : (netOut E bad v).2 ≠ 0) : 0 < bad.length := by
  cases hb : inB bad v with
  | false => rw [netOut_ok hb] at h; exact absurd rfl h
  | true => exact List.length_pos_of_mem (inB_iff.1 hb)
theorem net_none {E : List Edg} {bad : List Nat} (h : bad.length = 0) (v : Nat) : (netOut E bad v).2 = 0 := by
  have := List.eq_nil_of_length_eq_zero h
  subst this
  rw [netOut_ok (inB_nil v)]
/-- what is told of a search and of how far a vertex is -/
structure Both (E : List Edg) (bad shun : List Nat) (src to most : Nat) (x : Bool) (er : Int) (near : Bool) : Prop where
  err : er ≠ 0 → x = false ∧ 0 < bad.length
  yes : er = 0 → x = true → near = true
  no : er = 0 → near = true → x = false → 0 < bad.length ∨ 16 < (verts E src).length
theorem both {E : List Edg} {bad shun : List Nat} {src to most : Nat} {a : List Nat} {x : Bool} {er : Int} (h : Finds (netOut E bad) (inB shun) src to most a x er) :
    Both E bad shun src to most x er (nearB (bfR (inB shun) E (verts E src).length (bf0 src)) to most) := by
  have hV : ∀ v d, Way (netOut E []) (inB shun) src v d → v ∈ verts E src := fun v d hw => verts_way hw
  refine ⟨fun he => ?_, fun he hx => ?_, fun he hn hx => ?_⟩
  · obtain ⟨h1, v, h2⟩ := runs_err h he
    exact ⟨h1, net_err h2⟩
  · subst hx
    obtain ⟨d, hw, hd⟩ := finds_sound h
    exact (nearB_iff hV).2 ⟨d, way_free hw, hd⟩
  · rcases Nat.eq_zero_or_pos bad.length with hb | hb
    · right
      refine Nat.lt_of_not_le fun hle => ?_
      obtain ⟨d, hw, hd⟩ := (nearB_iff hV).1 hn
      have hbad := List.eq_nil_of_length_eq_zero hb
      subst hbad
      have := (finds_complete h hle hV (net_none hb)).2 d hw hd
      rw [hx] at this; cases this
    · exact .inl hb
theorem near_none {E : List Edg} {shun : List Nat} {src to most : Nat} (h : to ∉ verts E src) : nearB (bfR (inB shun) E (verts E src).length (bf0 src)) to most = false := by
  cases hn : nearB (bfR (inB shun) E (verts E src).length (bf0 src)) to most with
  | false => rfl
  | true =>
    obtain ⟨d, hw, _⟩ := (nearB_iff (fun v d hw => verts_way hw)).1 hn
    exact absurd (verts_way hw) h
set_option maxRecDepth 100000 in
theorem large (A B C : Option Addr) (n c m d k e : Nat) (a b t : Nat) (w : World) (h : largeB n m k = true ∨ 100 < n) :
    Calls Try.prog 4 #[.agg #[.slice A n c, .slice B m d, .slice C k e], .agg #[.int .u32 (a : Int), .int .u32 (b : Int), .int .u64 (t : Int)]] w (LawOk w) := by
  have HW := Lib.hid works_any
  cases hL : largeB n m k with
  | true =>
    have HL := Lib.hid hL
    clear h hL
    go_enter Try.func4, Try.ntmps4
    go_wp2_with fail
    refine (large_any A B C n c m d k e _).mono ?_
    rw [HL.out]
    rintro e1 w1 ⟨rfl, hb1⟩
    have HB1 : Hid (Below w.heap.size w w1) := Lib.hid ((((Below.refl _ _).alloc (Nat.le_refl _) _).alloc (by simp) _).trans (hb1.mono (by simp; omega)))
    clear hb1
    go_wp2_with (go_at_call 12; with_reducible refine (HW.out _).mono ?_; rintro e w9 ⟨rfl, hb9⟩)
    go_ret
    exact ⟨rfl, HB1.out.trans (hb9.mono HB1.out.size)⟩
  | false =>
    have hn : 100 < n := by
      rcases h with h | h
      · rw [hL] at h; cases h
      · exact h
    have g1 : (100 : Int) < (n : Int) := by omega
    have HL := Lib.hid hL
    obtain ⟨W1, hW1⟩ : ∃ W1, (w.alloc (.cells #[.slice A n c, .slice B m d, .slice C k e] 25)).alloc (.cells #[.int .u32 (a : Int), .int .u32 (b : Int), .int .u64 (t : Int)] 29) = W1 := ⟨_, rfl⟩
    have b1 : Below (w.heap.size + 1) (w.alloc (.cells #[.slice A n c, .slice B m d, .slice C k e] 25)) W1 := by rw [← hW1]; exact (Below.refl _ _).alloc (by simp) _
    have hk : W1.heap[w.heap.size]? = some (.cells #[.slice A n c, .slice B m d, .slice C k e] 25 (0, 0)) := (b1.block _ (by omega)).trans (heap_alloc_new _ _)
    have hbw : Below w.heap.size w W1 := by rw [← hW1]; exact ((Below.refl _ _).alloc (Nat.le_refl _) _).alloc (by simp) _
    have HW1 := Lib.hid hW1
    have HK := Lib.hid hk
    have HBw := Lib.hid hbw
    clear h hL hn hW1 b1 hk hbw
    go_enter Try.func4, Try.ntmps4
    go_wp2_with fail
    rw [HW1.out]
    refine (large_any A B C n c m d k e W1).mono ?_
    rw [HL.out]
    rintro e1 w1 ⟨rfl, hb1⟩
    have c0 : w1.cell? ⟨w.heap.size, 0, none⟩ = some (.slice A n c) := cell_of_row _ _ 0 _ _ _ ((hb1.block _ (Array.getElem?_eq_some_iff.1 HK.out).1).trans HK.out)
    have HB1 : Hid (Below w.heap.size w w1) := Lib.hid (HBw.out.trans (hb1.mono HBw.out.size))
    clear hb1
    go_wp2_with (go_at_call 12; with_reducible refine (HW.out _).mono ?_; rintro e w9 ⟨rfl, hb9⟩)
    go_ret
    exact ⟨rfl, HB1.out.trans (hb9.mono HB1.out.size)⟩
set_option maxRecDepth 100000 in
set_option maxHeartbeats 8000000 in
theorem walk (A B C : Option Addr) (n c m d k e : Nat) (a b t : Nat) (w : World) (hn : NetIn w A B C n m k) (ha : a < 4294967296) (_ : b < 4294967296) (_ : t < 18446744073709551616) :
    Calls Try.prog 4 #[.agg #[.slice A n c, .slice B m d, .slice C k e], .agg #[.int .u32 (a : Int), .int .u32 (b : Int), .int .u64 (t : Int)]] w (LawOk w) := by
  by_cases hl : largeB n m k = true ∨ 100 < n
  · exact large A B C n c m d k e a b t w hl
  have hL : largeB n m k = false := by
    cases h : largeB n m k with
    | true => exact absurd (.inl h) hl
    | false => rfl
  have hn100 : n ≤ 100 := Nat.le_of_not_lt fun h => hl (.inr h)
  have HW := Lib.hid works_any
  obtain ⟨E, bad, shun, rfl, rfl, rfl, _, _, _, h0, h1, h2⟩ := hn.lists hL
  have HL := Lib.hid hL
  have g1 : ¬ (100 : Int) < (E.length : Int) := by omega
  obtain ⟨W1, hW1, k1, k2, k3, k4, k5⟩ := boxed_net c d e h0 h1 h2 (.cells #[.int .u32 (a : Int), .int .u32 (b : Int), .int .u64 (t : Int)] 29)
  have HW1 := Lib.hid hW1
  have HK1 := Lib.hid k1
  have HK2 := Lib.hid k2
  have HK4 := Lib.hid k4
  have HK5 := Lib.hid k5
  have HE := Lib.hid hn100
  have HEL := Lib.hid h0
  have HLG := Lib.hid (large_any A B C E.length c bad.length d shun.length e W1)
  clear hn hl hL h0 h1 h2 hn100 k1 k2 k3 k4 k5 hW1
  go_enter Try.func4, Try.ntmps4
  go_wp2_with fail
  rw [HW1.out]
  clear HW1
  refine HLG.out.mono ?_
  rw [HL.out]
  rintro e1 w1 ⟨rfl, hb1⟩
  clear HLG
  have hk1 := (hb1.block _ (Array.getElem?_eq_some_iff.1 HK4.out).1).trans HK4.out
  have hn1 := (hb1.block _ (Array.getElem?_eq_some_iff.1 HK5.out).1).trans HK5.out
  have c0 : w1.cell? ⟨w.heap.size + 1, 0, none⟩ = some (.int .u32 (a : Int)) := cell_of_row _ _ 0 _ _ _ hk1
  have c1 : w1.cell? ⟨w.heap.size + 1, 1, none⟩ = some (.int .u32 (b : Int)) := cell_of_row _ _ 1 _ _ _ hk1
  have c2 : w1.cell? ⟨w.heap.size + 1, 2, none⟩ = some (.int .u64 (t : Int)) := cell_of_row _ _ 2 _ _ _ hk1
  have c3 : w1.cell? ⟨w.heap.size, 0, none⟩ = some (.slice A E.length c) := cell_of_row _ _ 0 _ _ _ hn1
  have HN1 := Lib.hid (HK1.out.nets (Nat.le_refl _) hb1 hb1.size)
  have HB1 : Hid (Below w.heap.size w w1) := Lib.hid (HK2.out.trans (hb1.mono HK2.out.size))
  have HC := Lib.hid hk1
  have HD := Lib.hid hn1
  clear hb1 hk1 hn1 HK1 HK2 HK4 HK5
  go_wp2_with fail
  refine (find_net w.heap.size E bad shun a b t ha w1 HN1.out (by have := HE.out; omega)).mono ?_
  rintro e1 w2 ⟨a1, x, er, f1, rfl, hb2⟩
  have HBo := Lib.hid (both f1)
  have hk2 := (hb2.block _ (Array.getElem?_eq_some_iff.1 HC.out).1).trans HC.out
  have hn2 := (hb2.block _ (Array.getElem?_eq_some_iff.1 HD.out).1).trans HD.out
  have d0 : w2.cell? ⟨w.heap.size + 1, 0, none⟩ = some (.int .u32 (a : Int)) := cell_of_row _ _ 0 _ _ _ hk2
  have d3 : w2.cell? ⟨w.heap.size, 0, none⟩ = some (.slice A E.length c) := cell_of_row _ _ 0 _ _ _ hn2
  have HN2 := Lib.hid (HN1.out.nets (Nat.le_refl _) hb2 hb2.size)
  have HB2 : Hid (Below w.heap.size w w2) := Lib.hid (HB1.out.trans (hb2.mono HB1.out.size))
  have HC2 := Lib.hid hk2
  have HD2 := Lib.hid hn2
  clear hb2 hk2 hn2 f1 c0 c1 c2 c3 HC HD HN1 HB1
  go_wp2_with fail
  refine (verts_any w.heap.size A E c a w2 (HEL.out.below HB2.out) HB2.out.size (by have := HE.out; omega)).mono ?_
  rintro e1 w3 ⟨A3, c3, rfl, ho3, hb3⟩
  have hk3 := (hb3.block _ (Array.getElem?_eq_some_iff.1 HC2.out).1).trans HC2.out
  have hn3 := (hb3.block _ (Array.getElem?_eq_some_iff.1 HD2.out).1).trans HD2.out
  have e0 : w3.cell? ⟨w.heap.size + 1, 0, none⟩ = some (.int .u32 (a : Int)) := cell_of_row _ _ 0 _ _ _ hk3
  have HN3 := Lib.hid (HN2.out.nets (Nat.le_refl _) hb3 hb3.size)
  have HB3 : Hid (Below w.heap.size w w3) := Lib.hid (HB2.out.trans (hb3.mono HB2.out.size))
  have HC3 := Lib.hid hk3
  have HD3 := Lib.hid hn3
  have HVL : Hid ((verts E a).length ≤ 201) := Lib.hid (by have := vertsTo_len (E := E) (src := a) (2 * E.length); have := HE.out; show (vertsTo E a (2 * E.length)).length ≤ 201; omega)
  have HV3 := Lib.hid (own_vls ho3 (by have := HVL.out; omega))
  clear hb3 hk3 hn3 d0 d3 HC2 HD2 HN2 HB2 ho3
  have hvl := HVL.out
  have HFa := Lib.hid (far_any w3.heap.size w.heap.size E bad shun (verts E a) A3 c3 a w3.heap.size w3 HN3.out (Nat.le_refl _) HV3.out (Nat.le_refl _) (vertsTo_nodup _) (fun x hx => verts_tail hx) (fun x hx => verts_head hx) (by omega) (by have := HE.out; omega))
  go_wp2_with fail
  refine HFa.out.mono ?_
  rintro e1 w4 ⟨G, rfl, hf4⟩
  have hk4 := (hf4.low.block _ (Array.getElem?_eq_some_iff.1 HC3.out).1).trans HC3.out
  have hn4 := (hf4.low.block _ (Array.getElem?_eq_some_iff.1 HD3.out).1).trans HD3.out
  have e1 : w4.cell? ⟨w.heap.size + 1, 1, none⟩ = some (.int .u32 (b : Int)) := cell_of_row _ _ 1 _ _ _ hk4
  have e2 : w4.cell? ⟨w.heap.size + 1, 2, none⟩ = some (.int .u64 (t : Int)) := cell_of_row _ _ 2 _ _ _ hk4
  have e3 : w4.cell? ⟨w.heap.size, 1, none⟩ = some (.slice B bad.length d) := cell_of_row _ _ 1 _ _ _ hn4
  have HB4 : Hid (Below w.heap.size w w4) := Lib.hid (HB3.out.trans (hf4.low.mono HB3.out.size))
  have HF4 := Lib.hid hf4
  have HPl := Lib.hid (place_any w3.heap.size A3 (verts E a) c3 b w4 (HV3.out.below hf4.low))
  clear hf4 hk4 hn4 e0 HC3 HD3 HN3 HB3 HFa HV3
  go_wp2_with fail
  refine HPl.out.mono ?_
  rintro e1' w5 ⟨rfl, rfl⟩
  clear HPl
  have HNo := Lib.hid (fun h => near_none (E := E) (shun := shun) (src := a) (to := b) (most := t) h)
  generalize hg : bfR (inB shun) E (verts E a).length (bf0 a) = g at *
  clear hg
  generalize hV : verts E a = V at *
  have HVe := Lib.hid hV
  clear hV
  cases hp : pos V b with
  | none =>
    have hno : b ∉ V := fun hm => by
      obtain ⟨k, hk, _⟩ := pos_mem hm
      rw [hp] at hk; cases hk
    rw [HNo.out hno] at HBo
    rw [show atZ none = -1 from rfl]
    clear hp hno HNo HF4
    go_wp2_with fail
    go_quiet (fail)
    have HBw : Hid (Below w.heap.size w (w4.drewN nq)) := Lib.hid (below_drewN HB4.out nq)
    have f3 : (w4.drewN nq).cell? ⟨w.heap.size, 1, none⟩ = some (.slice B bad.length d) := e3
    clear e1 e2 e3 HB4
    try clear q5'
    try clear q5n
    try clear q5
    try clear q6'
    try clear q6
    generalize w4.drewN nq = W9 at *
    generalize hbl : bad.length = bl at *
    have HBl := Lib.hid hbl
    clear hbl
    by_cases he : er = 0
    case neg =>
      obtain ⟨hx, hbad⟩ := HBo.out.err he
      subst hx
      have q1 : (er == 0) = false := by rw [beq_eq_false_iff_ne]; exact he
      rw [HBl.out] at hbad
      have q2 : (0 : Int) < (bl : Int) := by omega
      have q2n : decide (0 < bl) = true := decide_eq_true hbad
      clear he hbad
      go_wp2_with (go_at_call 12; with_reducible refine (HW.out _).mono ?_; rintro e w9 ⟨rfl, hb9⟩)
      go_ret
      exact ⟨rfl, HBw.out.trans (hb9.mono HBw.out.size)⟩
    case pos =>
      subst he
      have hx : x = false := by
        cases x with
        | false => rfl
        | true => exact absurd (HBo.out.yes rfl rfl) Bool.false_ne_true
      subst hx
      go_wp2_with (go_at_call 12; with_reducible refine (HW.out _).mono ?_; rintro e w9 ⟨rfl, hb9⟩)
      go_ret
      exact ⟨rfl, HBw.out.trans (hb9.mono HBw.out.size)⟩
  | some k =>
    obtain ⟨hk, hv⟩ := posTo_some _ hp
    have c9 := HF4.out.cell k hk
    rw [map_getD (v := b) hk (by rw [← getD_at hk]; exact hv)] at c9
    have i1 : (0 : Int) ≤ (k : Int) := by omega
    have i2 : (k : Int) < (V.length : Int) := by omega
    unfold nearB at HBo
    rw [show atZ (some k) = (k : Int) from rfl]
    clear hp HNo HF4 hk hv
    generalize g b = gb at *
    by_cases h1 : gb < 9223372036854775808
    · have q5 : (gb : Int) < 9223372036854775808 := by omega
      have q5' : decide ((gb : Int) < 9223372036854775808) = true := decide_eq_true q5
      have q5n : decide (gb < 9223372036854775808) = true := decide_eq_true h1
      rw [decide_eq_true h1, Bool.true_and] at HBo
      by_cases h2 : gb ≤ t
      · have q6 : (gb : Int) ≤ (t : Int) := by omega
        have q6' : decide (gb ≤ t) = true := decide_eq_true h2
        rw [q6'] at HBo
        clear h1 h2
        go_wp2_with fail
        go_quiet (fail)
        have HBw : Hid (Below w.heap.size w (w4.drewN nq)) := Lib.hid (below_drewN HB4.out nq)
        have f3 : (w4.drewN nq).cell? ⟨w.heap.size, 1, none⟩ = some (.slice B bad.length d) := e3
        clear e1 e2 e3 HB4
        try clear q5'
        try clear q5n
        try clear q5
        try clear q6'
        try clear q6
        generalize w4.drewN nq = W9 at *
        generalize hbl : bad.length = bl at *
        have HBl := Lib.hid hbl
        clear hbl
        by_cases he : er = 0
        case neg =>
          obtain ⟨hx, hbad⟩ := HBo.out.err he
          subst hx
          have q1 : (er == 0) = false := by rw [beq_eq_false_iff_ne]; exact he
          rw [HBl.out] at hbad
          have q2 : (0 : Int) < (bl : Int) := by omega
          have q2n : decide (0 < bl) = true := decide_eq_true hbad
          clear he hbad
          go_wp2_with (go_at_call 12; with_reducible refine (HW.out _).mono ?_; rintro e w9 ⟨rfl, hb9⟩)
          go_ret
          exact ⟨rfl, HBw.out.trans (hb9.mono HBw.out.size)⟩
        case pos =>
          subst he
          cases x with
          | true =>
            go_wp2_with (go_at_call 12; with_reducible refine (HW.out _).mono ?_; rintro e w9 ⟨rfl, hb9⟩)
            go_ret
            exact ⟨rfl, HBw.out.trans (hb9.mono HBw.out.size)⟩
          | false =>
            rcases HBo.out.no rfl rfl rfl with hb | hb
            · rw [HBl.out] at hb
              have q2 : (0 : Int) < (bl : Int) := by omega
              have q2n : decide (0 < bl) = true := decide_eq_true hb
              clear hb
              go_wp2_with (go_at_call 12; with_reducible refine (HW.out _).mono ?_; rintro e w9 ⟨rfl, hb9⟩)
              go_ret
              exact ⟨rfl, HBw.out.trans (hb9.mono HBw.out.size)⟩
            · rcases Nat.eq_zero_or_pos bl with hz | hz
              · subst hz
                have q3 : (16 : Int) < (V.length : Int) := by rw [HVe.out] at hb; omega
                clear hb
                go_wp2_with (go_at_call 12; with_reducible refine (HW.out _).mono ?_; rintro e w9 ⟨rfl, hb9⟩)
                go_ret
                exact ⟨rfl, HBw.out.trans (hb9.mono HBw.out.size)⟩
              · have q2 : (0 : Int) < (bl : Int) := by omega
                have q2n : decide (0 < bl) = true := decide_eq_true hz
                clear hb hz
                go_wp2_with (go_at_call 12; with_reducible refine (HW.out _).mono ?_; rintro e w9 ⟨rfl, hb9⟩)
                go_ret
                exact ⟨rfl, HBw.out.trans (hb9.mono HBw.out.size)⟩
      · have q6 : ¬ (gb : Int) ≤ (t : Int) := by omega
        have q6' : decide (gb ≤ t) = false := decide_eq_false h2
        rw [q6'] at HBo
        clear h1 h2
        go_wp2_with fail
        go_quiet (fail)
        have HBw : Hid (Below w.heap.size w (w4.drewN nq)) := Lib.hid (below_drewN HB4.out nq)
        have f3 : (w4.drewN nq).cell? ⟨w.heap.size, 1, none⟩ = some (.slice B bad.length d) := e3
        clear e1 e2 e3 HB4
        try clear q5'
        try clear q5n
        try clear q5
        try clear q6'
        try clear q6
        generalize w4.drewN nq = W9 at *
        generalize hbl : bad.length = bl at *
        have HBl := Lib.hid hbl
        clear hbl
        by_cases he : er = 0
        case neg =>
          obtain ⟨hx, hbad⟩ := HBo.out.err he
          subst hx
          have q1 : (er == 0) = false := by rw [beq_eq_false_iff_ne]; exact he
          rw [HBl.out] at hbad
          have q2 : (0 : Int) < (bl : Int) := by omega
          have q2n : decide (0 < bl) = true := decide_eq_true hbad
          clear he hbad
          go_wp2_with (go_at_call 12; with_reducible refine (HW.out _).mono ?_; rintro e w9 ⟨rfl, hb9⟩)
          go_ret
          exact ⟨rfl, HBw.out.trans (hb9.mono HBw.out.size)⟩
        case pos =>
          subst he
          have hx : x = false := by
            cases x with
            | false => rfl
            | true => exact absurd (HBo.out.yes rfl rfl) Bool.false_ne_true
          subst hx
          go_wp2_with (go_at_call 12; with_reducible refine (HW.out _).mono ?_; rintro e w9 ⟨rfl, hb9⟩)
          go_ret
          exact ⟨rfl, HBw.out.trans (hb9.mono HBw.out.size)⟩
    · have q5' : decide ((gb : Int) < 9223372036854775808) = false := decide_eq_false (by omega)
      have q5n : decide (gb < 9223372036854775808) = false := decide_eq_false h1
      have q5 : (9223372036854775808 : Int) ≤ (gb : Int) := by omega
      rw [decide_eq_false h1, Bool.false_and] at HBo
      clear h1
      go_wp2_with fail
      go_quiet (fail)
      have HBw : Hid (Below w.heap.size w (w4.drewN nq)) := Lib.hid (below_drewN HB4.out nq)
      have f3 : (w4.drewN nq).cell? ⟨w.heap.size, 1, none⟩ = some (.slice B bad.length d) := e3
      clear e1 e2 e3 HB4
      try clear q5'
      try clear q5n
      try clear q5
      try clear q6'
      try clear q6
      generalize w4.drewN nq = W9 at *
      generalize hbl : bad.length = bl at *
      have HBl := Lib.hid hbl
      clear hbl
      by_cases he : er = 0
      case neg =>
        obtain ⟨hx, hbad⟩ := HBo.out.err he
        subst hx
        have q1 : (er == 0) = false := by rw [beq_eq_false_iff_ne]; exact he
        rw [HBl.out] at hbad
        have q2 : (0 : Int) < (bl : Int) := by omega
        have q2n : decide (0 < bl) = true := decide_eq_true hbad
        clear he hbad
        go_wp2_with (go_at_call 12; with_reducible refine (HW.out _).mono ?_; rintro e w9 ⟨rfl, hb9⟩)
        go_ret
        exact ⟨rfl, HBw.out.trans (hb9.mono HBw.out.size)⟩
      case pos =>
        subst he
        have hx : x = false := by
          cases x with
          | false => rfl
          | true => exact absurd (HBo.out.yes rfl rfl) Bool.false_ne_true
        subst hx
        go_wp2_with (go_at_call 12; with_reducible refine (HW.out _).mono ?_; rintro e w9 ⟨rfl, hb9⟩)
        go_ret
        exact ⟨rfl, HBw.out.trans (hb9.mono HBw.out.size)⟩

set_option maxRecDepth 100000 in
theorem lifted (os : Os) (started : os.Started) (H : Type) (enc : TypeId × Value → H) :
    ReturnsInHanded {} Try.checked os 4 .any (Rows.witnessWaysSpec.pre6 enc Try.prog Try.f4 Rows.witnessWaysRow.domain false) (Rows.witnessWaysSpec.post enc Try.prog Try.f4 false true false false) := by
  refine returnsInHanded_of_change (C := Try.checked) own_knob started (by kernel_rfl) Try.func4
    (ChangeSpec.witness6 (enc := enc) (C := Try.checked) false ⟨#[], #[.agg #[.slice none 0 0,.slice none 0 0,.slice none 0 0], .agg #[.int .u32 0,.int .u32 0,.int .u64 0]], []⟩ 8 (by kernel_rfl) (by kernel_rfl) (by kernel_rfl) (by kernel_rfl)) ?_
  intro W base args ds gs before hval0 hW _ _
  have hval : ∀ (j : Nat) t v, Try.f4.params[j]? = some t → args[j]? = some v → Value.okWide Try.prog W .any base t v := hval0
  have hW' := hW
  obtain ⟨p, q, hA0, hV, rfl, _, _⟩ := hW
  have hA : DataW.TrodAll enc Try.prog W 0 (fun _ => true) true Try.f4.params.toList args.toList ds p := hA0
  rw [Try.params4] at hA hval
  obtain ⟨v0, vs0, d0, ds0, p0, q0, hargs, rfl, rfl, h0, r0⟩ := trodAll_cons hA
  obtain ⟨v1, vs1, d1, ds1, p1, q1, rfl, rfl, rfl, h1, r1⟩ := trodAll_cons r0
  obtain ⟨rfl, rfl, rfl⟩ := trodAll_nil r1
  obtain rfl : args = #[v0, v1] := by cases args; simp_all
  obtain ⟨rfl, rfl⟩ := trodVars_none hV
  have hlt : ∀ x ∈ p0 ++ (p1), x.block < W.heap.size := fun x hx => hW'.lt x (by simpa using hx)
  obtain ⟨A0, B0, C0, n0, c0, m0, d0, k0, e0, rfl, hn0⟩ := open_net (hval 0 25 v0 rfl rfl) h0 (fun x hx => hlt x (by simp [hx]))
  obtain ⟨src1, to1, most1, rfl, hs1, ht1, hm1⟩ := open_ask (hval 1 29 v1 rfl rfl) h1 (fun x hx => hlt x (by simp [hx]))
  refine (walk A0 B0 C0 n0 c0 m0 d0 k0 e0 src1 to1 most1 W hn0 hs1 ht1 hm1).mono fun e W' ⟨he, hg⟩ => ?_
  subst he
  exact ⟨_, rfl, law_post hW' rfl (by kernel_rfl) rfl (by kernel_rfl) hg⟩

theorem proved : Rows.WitnessWaysSaid :=
  OpenClaim.holds_of_wide 4 Try.f4 rfl rfl rfl rfl rfl rfl rfl ⟨rfl, rfl, rfl, rfl, rfl⟩ rfl rfl rfl rfl rfl (by kernel_rfl) Try.func4 (by kernel_rfl)
    (of_decide_eq_true (by kernel_rfl)) (by unfold Func.isWrapper; first | (rw [if_pos (by decide +kernel)]; kernel_rfl) | (rw [if_neg (by decide +kernel)]; exact ⟨rfl, rfl⟩))
    (fun os started H enc _ => lifted os started H enc)

end Go.Proofs.Ytpnmfhcmodoeiaa.witnessWays
