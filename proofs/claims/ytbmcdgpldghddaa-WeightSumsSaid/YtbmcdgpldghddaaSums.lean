/- WeightSums: where n times the greatest weight fits, the weights of any walk of at most n edges come to a sum, in whatever order. No condition. -/
import Derived.Test.YtbmcdgpldghddaaWw
import Derived.Test.YtbmcdgpldghddaaBd
namespace Go.Proofs.Ytbmcdgpldghddaa.weightSums
open Go.ChangeShapes Go.WideShapes Go.ChangeAt Go.RowKit Go.Deep

/-- a weight as it lies in memory -/
structure W64 where
  val : Nat
  lt : val < 18446744073709551616
def W64.enc (x : W64) : List Value := [.int .u64 (x.val : Int)]
abbrev UL := SR 1 W64.enc
theorem UL.at' {B : Nat} {w : World} {A : Option Addr} {l : List W64} (h : UL B w A l) (i : Nat) (hi : i < l.length) :
    ∃ b o : Nat, A = some ⟨b, o, none⟩ ∧ w.cell? ⟨b, o + i, none⟩ = some (.int .u64 (l[i].val : Int)) := by
  obtain ⟨b, o, hA, hb, hc⟩ := h.at_ i hi
  have := hc 0 _ rfl
  exact ⟨b, o, hA, by simpa using this⟩
def tot (l : List W64) : Nat := (l.map W64.val).sum
theorem tot_take {l : List W64} {i : Nat} (hi : i < l.length) : tot (l.take (i + 1)) = tot (l.take i) + l[i].val := by
  unfold tot
  rw [List.take_succ_eq_append_getElem hi]
  simp only [List.map_append, List.sum_append_nat, List.map_cons, List.map_nil, List.sum_cons, List.sum_nil, Nat.add_zero]
theorem tot_drop {l : List W64} {j : Nat} (hj : j < l.length) : tot (l.drop j) = l[j].val + tot (l.drop (j + 1)) := by
  unfold tot
  rw [List.drop_eq_getElem_cons hj]
  simp only [List.map_cons, List.sum_cons]
theorem tot_part (l : List W64) (i : Nat) : tot (l.take i) + tot (l.drop i) = tot l := by
  unfold tot
  rw [← List.sum_append_nat, ← List.map_append, List.take_append_drop]
theorem tot_le : ∀ (l : List W64) (m : Nat), (∀ x ∈ l, x.val ≤ m) → tot l ≤ l.length * m
  | [], m, _ => by simp [tot]
  | x :: l, m, h => by
    have h1 := tot_le l m fun y hy => h y (List.mem_cons_of_mem _ hy)
    have h2 := h x (List.mem_cons_self ..)
    have h3 : tot (x :: l) = x.val + tot l := by simp [tot]
    rw [h3, List.length_cons, Nat.succ_mul]
    omega

theorem far (A : Option Addr) (len c n : Nat) (w : World) (h : 4096 < len) (hn : len ≤ 9223372036854775807) :
    Calls Try.prog 6 #[.int .u32 n, .slice A len c] w (LawOk w) := by
  have h1 : (4096 : Int) < (len : Int) := by omega
  have HW := Lib.hid works_any
  go_enter Try.func6, Try.ntmps6
  go_wp2_with (go_at_call 15; refine (HW.out _).mono ?_; rintro e w1 ⟨rfl, hb1⟩)
  go_ret
  exact ⟨rfl, hb1⟩

/-- the greatest of the first i -/
def Most (l : List W64) (i m : Nat) : Prop := (∀ (k : Nat) (hk : k < l.length), k < i → l[k].val ≤ m) ∧ m < 18446744073709551616
theorem Most.next {l : List W64} {i m m' : Nat} (h : Most l i m) (hi : i < l.length) (h1 : m ≤ m') (h2 : l[i].val ≤ m') (h3 : m' < 18446744073709551616) : Most l (i + 1) m' := by
  refine ⟨fun k hk hki => ?_, h3⟩
  by_cases e : k = i
  · subst e; exact h2
  · have := h.1 k hk (by omega); omega
theorem Most.all {l : List W64} {m : Nat} (h : Most l l.length m) : ∀ x ∈ l, x.val ≤ m := by
  intro x hx
  obtain ⟨k, hk, rfl⟩ := List.getElem_of_mem hx
  exact h.1 k hk hk
theorem Most.sum {l : List W64} {n m : Nat} (h : Most l l.length m) (hn : l.length ≤ n) (hf : fitsN n m = true) : tot l < 9223372036854775808 := by
  have h1 := tot_le l m h.all
  have h2 : l.length * m ≤ n * m := Nat.mul_le_mul_right m hn
  have h3 := fitsN_yes hf
  omega

set_option maxRecDepth 100000 in
set_option maxHeartbeats 4000000 in
theorem near (A : Option Addr) (l : List W64) (c n : Nat) (w : World) (hl : UL w.heap.size w A l) (h0 : l.length ≤ 4096) (hn : n < 4294967296) :
    Calls Try.prog 6 #[.int .u32 n, .slice A l.length c] w (LawOk w) := by
  have h1 : ¬ (4096 : Int) < (l.length : Int) := by omega
  have HL := Lib.hid hl
  clear hl
  go_enter Try.func6, Try.ntmps6
  go_wp2_with fail
  go_loopw [5, 6] (fun vm vi wr => ∃ (i m : Nat), i ≤ l.length ∧ vm = .int .u64 m ∧ vi = .int .i64 i ∧ Hid (Most l i m) ∧ wr = w) (fun vm vi _ => l.length - (intOf vi).toNat)
  case atStart => exact ⟨0, 0, by omega, rfl, rfl, ⟨fun k _ hk => absurd hk (by omega), by omega⟩, rfl⟩
  case round =>
    obtain ⟨i, m, hi, rfl, rfl, HM, rfl⟩ := hrel
    by_cases hlt : i < l.length
    · obtain ⟨b, o, rfl, g1⟩ := UL.at' HL.out i hlt
      have e1 : (0:Int) ≤ (i:Int) := by omega
      have e2 : (i:Int) < l.length := by omega
      have hx := l[i].lt
      by_cases hle : m < l[i].val
      · have HM2 := Lib.hid (HM.out.next hlt (Nat.le_of_lt hle) (Nat.le_refl _) hx)
        generalize l[i].val = x at *
        clear hx
        go_wp2
        go_roundw
        case rel => exact ⟨i + 1, x, by omega, rfl, by go_num, HM2, trivial⟩
        case measure => simp [intOf]; omega
      · have HM2 := Lib.hid (HM.out.next hlt (Nat.le_refl _) (by omega) HM.out.2)
        generalize l[i].val = x at *
        clear hx
        go_wp2
        go_roundw
        case rel => exact ⟨i + 1, m, by omega, rfl, by go_num, HM2, trivial⟩
        case measure => simp [intOf]; omega
    · obtain rfl : i = l.length := by omega
      have e1 : IntKind.u64.wrap (l.length : Int) = l.length := IntWalk.u64_in _ (by omega)
      have e2 : IntKind.u64.wrap (n : Int) = n := IntWalk.u64_in _ (by omega)
      by_cases hg : n < l.length
      · have hg' : (n : Int) < l.length := by omega
        go_wp2_with fail
        refine (works_any _).mono ?_
        rintro e w9 ⟨rfl, hb9⟩
        go_wp2_with fail
        go_ret
        exact ⟨rfl, hb9⟩
      · have hg' : ¬ (n : Int) < l.length := by omega
        have HFt := Lib.hid fun W => wFits_any n m hn HM.out.2 W
        have HS := Lib.hid fun (h : fitsN n m = true) => Most.sum HM.out (by omega) h
        clear e1 e2 hg
        go_wp2_with fail
        refine (HFt.out _).mono ?_
        rintro e w1 ⟨rfl, rfl⟩
        generalize fitsN n m = k at *
        clear HFt HM
        cases k with
        | false =>
          go_wp2_with fail
          refine (works_any _).mono ?_
          rintro e w9 ⟨rfl, hb9⟩
          go_wp2_with fail
          go_ret
          exact ⟨rfl, hb9⟩
        | true =>
          have HT := Lib.hid (HS.out rfl)
          clear HS
          go_wp2_with fail
          go_loopw [7, 8, 9] (fun v1 v2 vi wx => ∃ i : Nat, i ≤ l.length ∧ v1 = .int .u64 (tot (l.take i) : Nat) ∧ v2 = .int .u64 (tot (l.drop (l.length - i)) : Nat) ∧ vi = .int .i64 i ∧ wx = wr) (fun _ _ vi _ => l.length - (intOf vi).toNat)
          case atStart => exact ⟨0, by omega, by simp [tot], by simp [tot], rfl, rfl⟩
          case round =>
            obtain ⟨i, hi, rfl, rfl, rfl, rfl⟩ := hrel
            by_cases hlt : i < l.length
            · obtain ⟨j, hj⟩ : ∃ j, j = l.length - 1 - i := ⟨_, rfl⟩
              have hjl : j < l.length := by omega
              obtain ⟨b, o, rfl, g1⟩ := UL.at' HL.out i hlt
              obtain ⟨b', o', hA, g2⟩ := UL.at' HL.out j hjl
              obtain ⟨rfl, rfl⟩ : b = b' ∧ o = o' := by simpa using hA
              clear hA
              have t1 := tot_take hlt
              have t2 := tot_drop hjl
              have t3 := tot_part l (i + 1)
              have t4 := tot_part l j
              have s1 : l.length - i = j + 1 := by omega
              have s2 : l.length - (i + 1) = j := by omega
              have hT := HT.out
              rw [s1]
              have f1 : fitsB (tot (l.take i)) l[i].val = true := fitsB_mk (by omega)
              have f2 : fitsB l[j].val (tot (l.drop (j + 1))) = true := fitsB_mk (by omega)
              have H1 := Lib.hid fun W => wAdd_any (tot (l.take i)) l[i].val (by omega) l[i].lt W
              have H2 := Lib.hid fun W => wAdd_any l[j].val (tot (l.drop (j + 1))) l[j].lt (by omega) W
              rw [f1, sumV_yes f1, ← t1] at H1
              rw [f2, sumV_yes f2, ← t2] at H2
              have e1 : (0:Int) ≤ (i:Int) := by omega
              have e2 : (i:Int) < l.length := by omega
              have e3 : (l.length : Int) - 1 - i = j := by omega
              have e4 : (0:Int) ≤ (j:Int) := by omega
              have e5 : (j:Int) < l.length := by omega
              clear t1 t2 t3 t4 s1 f1 f2 hT hj
              generalize l[i].val = x at *
              generalize l[j].val = y at *
              generalize tot (l.take i) = p at *
              generalize tot (l.drop (j + 1)) = q at *
              go_wp2_with fail
              refine (H1.out _).mono ?_
              rintro e w1 ⟨rfl, rfl⟩
              go_wp2_with fail
              refine (H2.out _).mono ?_
              rintro e w1 ⟨rfl, rfl⟩
              go_wp2_with fail
              go_roundw
              case rel => exact ⟨i + 1, by omega, rfl, by rw [s2], by go_num, trivial⟩
              case measure => simp [intOf]; omega
            · obtain rfl : i = l.length := by omega
              have ht : l.take l.length = l := List.take_of_length_le (Nat.le_refl _)
              have hd : l.drop (l.length - l.length) = l := by simp
              rw [ht, hd]
              have hT := HT.out
              have hT' : (tot l : Int) < 9223372036854775808 := by omega
              clear ht hd
              generalize tot l = s at *
              go_wp2_with fail
              refine (works_any _).mono ?_
              rintro e w9 ⟨rfl, hb9⟩
              go_wp2_with fail
              go_ret
              exact ⟨rfl, hb9⟩

theorem open_u64s {H : Type} {encT : TypeId × Value → H} {W : World} {v : Value} {d : DataW H} {p : List MemPlace} (hv : ∃ a len cap, v = .slice a len cap)
    (h : DataW.Trod encT Try.prog W 0 (fun _ => true) true 33 v d p) (hlt : ∀ x ∈ p, x.block < W.heap.size) :
    ∃ A len c, v = .slice A len c ∧ len ≤ maxLen ∧ (len ≤ 4611686018427387904 → ∃ l : List W64, l.length = len ∧ UL W.heap.size W A l) :=
  open_list Try.underlying33 (show Try.prog.cellsOf 22 = 1 by kernel_rfl) (by omega) (fun _ => rfl) (fun fuel cs' y h => by
    match cs' with
    | [c0] =>
      obtain ⟨a0, e0, _, w0⟩ := DataW.trod_int Try.underlying22 h
      obtain ⟨m0, rfl, b0⟩ := u64_bounds w0
      exact ⟨⟨m0, b0⟩, e0.symm⟩
    | [] => obtain ⟨a0, e0, _, w0⟩ := DataW.trod_int Try.underlying22 h; cases e0
    | _ :: _ :: _ => obtain ⟨a0, e0, _, w0⟩ := DataW.trod_int Try.underlying22 h; cases e0) hv h hlt

theorem walk (n : Nat) (A : Option Addr) (len c : Nat) (w : World) (hn : n < 4294967296) (hlen : len ≤ maxLen) (hl : len ≤ 4611686018427387904 → ∃ l : List W64, l.length = len ∧ UL w.heap.size w A l) :
    Calls Try.prog 6 #[.int .u32 n, .slice A len c] w (LawOk w) := by
  unfold maxLen at hlen
  by_cases h : 4096 < len
  · exact far A len c n w h hlen
  · obtain ⟨l, rfl, hl'⟩ := hl (by omega)
    exact near A l c n w hl' (by omega) hn


set_option maxRecDepth 100000 in
theorem lifted (os : Os) (started : os.Started) (H : Type) (enc : TypeId × Value → H) :
    ReturnsInHanded {} Try.checked os 6 .any (Rows.weightSumsSpec.pre6 enc Try.prog Try.f6 Rows.weightSumsRow.domain false) (Rows.weightSumsSpec.post enc Try.prog Try.f6 false true false false) := by
  refine returnsInHanded_of_change (C := Try.checked) own_knob started (by kernel_rfl) Try.func6
    (ChangeSpec.witness6 (enc := enc) (C := Try.checked) false ⟨#[], #[.int .u32 0, .slice none 0 0], []⟩ 8 (by kernel_rfl) (by kernel_rfl) (by kernel_rfl) (by kernel_rfl)) ?_
  intro W base args ds gs before hval0 hW _ _
  have hval : ∀ (j : Nat) t v, Try.f6.params[j]? = some t → args[j]? = some v → Value.okWide Try.prog W .any base t v := hval0
  have hW' := hW
  obtain ⟨p, q, hA0, hV, rfl, _, _⟩ := hW
  have hA : DataW.TrodAll enc Try.prog W 0 (fun _ => true) true Try.f6.params.toList args.toList ds p := hA0
  rw [Try.params6] at hA hval
  obtain ⟨v0, vs0, d0, ds0, p0, q0, hargs, rfl, rfl, h0, r0⟩ := trodAll_cons hA
  obtain ⟨v1, vs1, d1, ds1, p1, q1, rfl, rfl, rfl, h1, r1⟩ := trodAll_cons r0
  obtain ⟨rfl, rfl, rfl⟩ := trodAll_nil r1
  obtain rfl : args = #[v0, v1] := by cases args; simp_all
  obtain ⟨rfl, rfl⟩ := trodVars_none hV
  have hlt : ∀ x ∈ p0 ++ (p1), x.block < W.heap.size := fun x hx => hW'.lt x (by simpa using hx)
  obtain ⟨z0, rfl, rfl, rfl, w0⟩ := open_int Try.underlying23 (hval 0 23 v0 rfl rfl) h0
  obtain ⟨x0, rfl, hx0⟩ := u32_bounds w0
  obtain ⟨A1, n1, c1, rfl, hn1, hl1⟩ := open_u64s (okWide_slice Try.underlying33 (hval 1 33 v1 rfl rfl)) h1 (fun x hx => hlt x (by simp [hx]))
  refine (walk x0 A1 n1 c1 W hx0 hn1 hl1).mono fun e W' ⟨he, hg⟩ => ?_
  subst he
  exact ⟨_, rfl, law_post hW' rfl (by kernel_rfl) rfl (by kernel_rfl) hg⟩

theorem proved : Rows.WeightSumsSaid :=
  OpenClaim.holds_of_wide 6 Try.f6 rfl rfl rfl rfl rfl rfl rfl ⟨rfl, rfl, rfl, rfl, rfl⟩ rfl rfl rfl rfl rfl (by kernel_rfl) Try.func6 (by kernel_rfl)
    (of_decide_eq_true (by kernel_rfl)) (by unfold Func.isWrapper; first | (rw [if_pos (by decide +kernel)]; kernel_rfl) | (rw [if_neg (by decide +kernel)]; exact ⟨rfl, rfl⟩))
    (fun os started H enc _ => lifted os started H enc)

end Go.Proofs.Ytbmcdgpldghddaa.weightSums
