/- The iterator of meet.pairs: it tells the labels of a hub of both lists, hub by hub. -/
import Derived.RangeFuncNested
import Derived.RangeFuncBound
import Derived.RangeFuncCalls
import Derived.RangeFuncLeaves
import Derived.Shelf.Abstract
import Derived.Shelf.RegionOpen
import Derived.WalkKit
import Derived.OwnWalkIn
import Derived.TacticsInMore
import Derived.LoopNIn
import Derived.LoopIn
import Derived.Sort.QuietIn
import Derived.Test.YtajepjfohdlgdaaMs
namespace Go.Proofs.Ytajepjfohdlgdaa
open Go.RowKit Go.Shelf

/-- the labels of a hub of both, as the program goes through the lists -/
def pairsL : List Lbl → List Lbl → List (Lbl × Lbl)
  | [], _ => []
  | _ :: _, [] => []
  | x :: f, y :: b => if x.hub < y.hub then pairsL f (y :: b) else if y.hub < x.hub then pairsL (x :: f) b else (x, y) :: pairsL f b
termination_by f b => f.length + b.length

theorem pairsL_end {f b : List Lbl} {i k : Nat} (h : f.length ≤ i ∨ b.length ≤ k) : pairsL (f.drop i) (b.drop k) = [] := by
  rcases h with h | h
  · rw [List.drop_eq_nil_of_le h]; unfold pairsL; rfl
  · rw [List.drop_eq_nil_of_le h]; cases f.drop i <;> (unfold pairsL; rfl)
theorem pairsL_lt {f b : List Lbl} {i k : Nat} (hi : i < f.length) (hk : k < b.length) (h : (f[i]).hub < (b[k]).hub) : pairsL (f.drop i) (b.drop k) = pairsL (f.drop (i + 1)) (b.drop k) := by
  rw [List.drop_eq_getElem_cons hi, List.drop_eq_getElem_cons hk]
  conv => lhs; unfold pairsL
  rw [if_pos h]
theorem pairsL_gt {f b : List Lbl} {i k : Nat} (hi : i < f.length) (hk : k < b.length) (h : (b[k]).hub < (f[i]).hub) : pairsL (f.drop i) (b.drop k) = pairsL (f.drop i) (b.drop (k + 1)) := by
  rw [List.drop_eq_getElem_cons hi, List.drop_eq_getElem_cons hk]
  conv => lhs; unfold pairsL
  rw [if_neg (by omega), if_pos h]
theorem pairsL_eq {f b : List Lbl} {i k : Nat} (hi : i < f.length) (hk : k < b.length) (h : (f[i]).hub = (b[k]).hub) : pairsL (f.drop i) (b.drop k) = (f[i], b[k]) :: pairsL (f.drop (i + 1)) (b.drop (k + 1)) := by
  rw [List.drop_eq_getElem_cons hi, List.drop_eq_getElem_cons hk]
  conv => lhs; unfold pairsL
  rw [if_neg (by omega), if_neg (by omega)]

/-- what a round keeps: all below H, and two blocks more -/
def KpM (H Bf Bb : Nat) (W W' : World) : Prop := ∀ k, k < H ∨ k = Bf ∨ k = Bb → W'.heap[k]? = W.heap[k]?
theorem KpM.t {H Bf Bb : Nat} {A B C : World} (h : KpM H Bf Bb A B) (k : KpM H Bf Bb B C) : KpM H Bf Bb A C := fun i hi => (k i hi).trans (h i hi)
theorem KpM.sl {H Bf Bb : Nat} {W W' : World} (h : KpM H Bf Bb W W') {A : Option Addr} {l : List Lbl} (hs : SL H W A l) : SL H W' A l :=
  hs.keep fun p hp => World.cell?_of_block (h p.block (.inl hp))
theorem KpM.f {H Bf Bb : Nat} {W W' : World} (h : KpM H Bf Bb W W') {v : Value} (hs : W.cell? ⟨Bf, 0, none⟩ = some v) : W'.cell? ⟨Bf, 0, none⟩ = some v :=
  (World.cell?_of_block (a := ⟨Bf, 0, none⟩) (h Bf (.inr (.inl rfl)))).trans hs
theorem KpM.b {H Bf Bb : Nat} {W W' : World} (h : KpM H Bf Bb W W') {v : Value} (hs : W.cell? ⟨Bb, 0, none⟩ = some v) : W'.cell? ⟨Bb, 0, none⟩ = some v :=
  (World.cell?_of_block (a := ⟨Bb, 0, none⟩) (h Bb (.inr (.inr rfl)))).trans hs

theorem grownBy_drewN (w : World) (n : Nat) (row : Option Nat) : w.grownBy (w.drewN n) row := ⟨rfl, rfl, rfl, Nat.le_refl _, fun _ _ _ => rfl⟩

def Lbl.agg (x : Lbl) : Value := .agg #[.int .u32 (x.hub : Int), .int .u32 (x.next : Int), .int .u64 (x.dist : Int)]

attribute [local go_sem] Oper.semAt_some

/-- what the loop of the iterator holds, i labels of the one list and k of the other being gone through -/
def PairsRel (H Bf Bb : Nat) (f b : List Lbl) (A A' : Option Addr) (c c' : Nat) (J : List (Lbl × Lbl) → World → Prop) (i k : Nat) (wr : World) : Prop :=
  i ≤ f.length ∧ k ≤ b.length ∧ SL H wr A f ∧ SL H wr A' b ∧ wr.cell? ⟨Bf, 0, none⟩ = some (.slice A f.length c) ∧ wr.cell? ⟨Bb, 0, none⟩ = some (.slice A' b.length c') ∧
    ∃ pre, J pre wr ∧ pre ++ pairsL (f.drop i) (b.drop k) = pairsL f b

/-- what a round has said: it goes on, or no more -/
def Told (H Bf Bb : Nat) (J Jx : List (Lbl × Lbl) → World → Prop) (pre : List (Lbl × Lbl)) (W W' : World) (go : Bool) : Prop :=
  (go = true → J pre W' ∧ KpM H Bf Bb W W') ∧ (go = false → Jx pre W')
def Done (f b : List Lbl) (J Jx : List (Lbl × Lbl) → World → Prop) (W : World) : Prop := J (pairsL f b) W ∨ ∃ pre, Jx pre W

set_option maxRecDepth 100000 in
set_option maxHeartbeats 4000000 in
theorem pairs1_any (H Bf Bb : Nat) (f b : List Lbl) (A A' : Option Addr) (c c' : Nat) (l N : Nat) (hN : 1 ≤ N) (J Jx : List (Lbl × Lbl) → World → Prop) (W : World)
    (hJd : ∀ pre W n, J pre W → J pre (W.drewN n))
    (hY : ∀ pre x W1, J pre W1 → pre.length < (pairsL f b).length → YieldAt Fence.wide (N - 1) Try.prog l #[x.1.agg, x.2.agg] W1 fun e W' =>
      ∃ go : Bool, e = .returned (.bool go) ∧ Told H Bf Bb J Jx (pre ++ [x]) W1 W' go)
    (hf : SL H W A f) (hb : SL H W A' b) (hcf : W.cell? ⟨Bf, 0, none⟩ = some (.slice A f.length c)) (hcb : W.cell? ⟨Bb, 0, none⟩ = some (.slice A' b.length c')) (h0 : J [] W) :
    CallsIn Fence.wide N Try.prog 21 #[.func (.yield l) #[] #[], .pointer (some ⟨Bf, 0, none⟩), .pointer (some ⟨Bb, 0, none⟩)] W fun e W' => (∃ v, e = .returned v) ∧ Done f b J Jx W' := by
  have hlf := hf.len
  have hlb := hb.len
  refine callsIn_of_wp Try.func21 rfl trivial ?_ rfl
  simp only [Try.ntmps21, List.size_toArray, List.length_cons, List.length_nil, Nat.reduceAdd, Nat.reduceSub, Array.replicate_succ, Array.replicate_zero, List.push_toArray, List.append_toArray, List.nil_append, List.cons_append]
  gi_wp2
  gi_loopw [4, 5] (fun vi vk wr => ∃ i k : Nat, vi = .int .i64 i ∧ vk = .int .i64 k ∧ PairsRel H Bf Bb f b A A' c c' J i k wr)
    (fun vi vk wr => (f.length - (intOf vi).toNat) + (b.length - (intOf vk).toNat))
  case atStart => exact ⟨0, 0, rfl, rfl, by omega, by omega, hf, hb, hcf, hcb, [], h0, rfl⟩
  case round =>
    obtain ⟨i, k, rfl, rfl, hrel⟩ := hrel
    clear h0 hf hb hcf hcb
    obtain ⟨hi, hk, hf, hb, hcf, hcb, hpre⟩ := hrel
    by_cases hli : i < f.length
    · by_cases hlk : k < b.length
      · obtain ⟨p, o, rfl, _, h1, h2, h3⟩ := hf.at' i hli
        obtain ⟨p', o', rfl, _, h1', h2', h3'⟩ := hb.at' k hlk
        have e1 : (0:Int) ≤ (i:Int) := by omega
        have e2 : (i:Int) < f.length := by omega
        have e3 : (0:Int) ≤ (k:Int) := by omega
        have e4 : (k:Int) < b.length := by omega
        rcases Nat.lt_trichotomy (f[i]).hub (b[k]).hub with hlt | heq | hgt
        · have HP : Hid (∃ pre, J pre wr ∧ pre ++ pairsL (f.drop (i + 1)) (b.drop k) = pairsL f b) := by
            obtain ⟨pre, hJ, he⟩ := hpre
            exact ⟨pre, hJ, by rw [← pairsL_lt hli hlk hlt]; exact he⟩
          clear hpre
          have HS : Hid (SL H wr (some ⟨p, o, none⟩) f ∧ SL H wr (some ⟨p', o', none⟩) b) := ⟨hf, hb⟩
          clear hf hb
          generalize (f[i]).hub = q at h1 hlt
          generalize (b[k]).hub = q' at h1' hlt
          gi_wp2
          gi_quiet (fail)
          gi_wp2
          go_roundw
          case rel => exact ⟨i + 1, k, by go_num, rfl, by omega, by omega, HS.out.1.drew ⟨_, rfl⟩, HS.out.2.drew ⟨_, rfl⟩, hcf, hcb, by obtain ⟨pre, hJ, he⟩ := HP; exact ⟨pre, hJd _ _ _ hJ, he⟩⟩
          case measure => simp [intOf]; omega
        · obtain ⟨pre, hJ, he⟩ := hpre
          have HE : Hid ((pre ++ [(f[i], b[k])]) ++ pairsL (f.drop (i + 1)) (b.drop (k + 1)) = pairsL f b) := by
            show _ = _
            rw [← he, pairsL_eq hli hlk heq]; simp
          clear he
          have HS : Hid (SL H wr (some ⟨p, o, none⟩) f ∧ SL H wr (some ⟨p', o', none⟩) b) := ⟨hf, hb⟩
          have HY : Hid (∀ n, YieldAt Fence.wide (N - 1) Try.prog l #[(f[i]).agg, (b[k]).agg] (wr.drewN n) fun e W' =>
            ∃ go : Bool, e = .returned (.bool go) ∧ Told H Bf Bb J Jx (pre ++ [(f[i], b[k])]) (wr.drewN n) W' go) := fun n => hY pre (f[i], b[k]) (wr.drewN n) (hJd _ _ _ hJ) (by rw [← HE.out]; simp)
          clear hf hb hY hJ
          have hq : (b[k]).hub = (f[i]).hub := heq.symm
          generalize f[i] = x at *
          generalize b[k] = y at *
          obtain ⟨q, n1, d1, _, _, _⟩ := x
          obtain ⟨q', n2, d2, _, _, _⟩ := y
          simp only at h1 h2 h3 h1' h2' h3' hq heq
          subst hq
          clear heq
          have hn : ¬ q' < q' := by omega
          gi_wp2
          gi_quiet (fail)
          gi_wp2
          gi_quiet (fail)
          gi_wp2
          rename_i m _ _
          have hW : ∀ n, ((wr.drewN m).drewN n).drew = wr.drewN (m + n + 1) := fun n => by show ((wr.drewN m).drewN n).drewN 1 = _; rw [World.drewN_drewN, World.drewN_drewN]; rfl
          have hY2 := HY.out (m + nq + 1)
          rw [← hW nq] at hY2
          clear hW
          have HS2 : Hid (SL H ((wr.drewN m).drewN nq).drew (some ⟨p, o, none⟩) f ∧ SL H ((wr.drewN m).drewN nq).drew (some ⟨p', o', none⟩) b) :=
            ⟨HS.out.1.keep fun _ _ => rfl, HS.out.2.keep fun _ _ => rfl⟩
          have g1 : ((wr.drewN m).drewN nq).cell? ⟨p, o + i * 3, none⟩ = some (.int .u32 (q' : Int)) := h1
          have g2 : ((wr.drewN m).drewN nq).cell? ⟨p, o + i * 3 + 1, none⟩ = some (.int .u32 (n1 : Int)) := h2
          have g3 : ((wr.drewN m).drewN nq).cell? ⟨p, o + i * 3 + 2, none⟩ = some (.int .u64 (d1 : Int)) := h3
          have g1' : ((wr.drewN m).drewN nq).cell? ⟨p', o' + k * 3, none⟩ = some (.int .u32 (q' : Int)) := h1'
          have g2' : ((wr.drewN m).drewN nq).cell? ⟨p', o' + k * 3 + 1, none⟩ = some (.int .u32 (n2 : Int)) := h2'
          have g3' : ((wr.drewN m).drewN nq).cell? ⟨p', o' + k * 3 + 2, none⟩ = some (.int .u64 (d2 : Int)) := h3'
          have gf : ((wr.drewN m).drewN nq).cell? ⟨Bf, 0, none⟩ = some (.slice (some ⟨p, o, none⟩) f.length c) := hcf
          have gb : ((wr.drewN m).drewN nq).cell? ⟨Bb, 0, none⟩ = some (.slice (some ⟨p', o', none⟩) b.length c') := hcb
          clear h1 h2 h3 h1' h2' h3' HY HS hcf hcb
          generalize (wr.drewN m).drewN nq = W2 at *
          obtain ⟨fn, tmps, assign, body, hy, hR⟩ := hY2
          dsimp only [Lbl.agg] at hy
          have hmx : Try.prog.follows .mixedOrders = true := by kernel_rfl
          gi_region_with_o (refine hR.mono ?_; rintro e W3 ⟨go, rfl, ht⟩)
          all_goals
            have HT : Hid (Told H Bf Bb J Jx _ W2.drew W3 go) := ht
            clear ht hy hR
            cases go with
            | true =>
              obtain ⟨hJ3, hk3⟩ := HT.out.1 rfl
              gi_wp2
              go_roundw
              case rel => exact ⟨i + 1, k + 1, by go_num, by go_num, by omega, by omega, hk3.sl HS2.out.1, hk3.sl HS2.out.2, hk3.f gf, hk3.b gb, _, hJ3, HE⟩
              case measure => simp [intOf]; omega
            | false =>
              have hx := HT.out.2 rfl
              gi_wp2
              refine bodyPost_ret (results_none rfl _ _ _) rfl ?_
              exact ⟨⟨_, rfl⟩, .inr ⟨_, hx⟩⟩
        · have HP : Hid (∃ pre, J pre wr ∧ pre ++ pairsL (f.drop i) (b.drop (k + 1)) = pairsL f b) := by
            obtain ⟨pre, hJ, he⟩ := hpre
            exact ⟨pre, hJ, by rw [← pairsL_gt hli hlk hgt]; exact he⟩
          clear hpre
          have HS : Hid (SL H wr (some ⟨p, o, none⟩) f ∧ SL H wr (some ⟨p', o', none⟩) b) := ⟨hf, hb⟩
          clear hf hb
          generalize (f[i]).hub = q at h1 hgt
          generalize (b[k]).hub = q' at h1' hgt
          have hn : ¬ q < q' := by omega
          gi_wp2
          gi_quiet (fail)
          gi_wp2
          gi_quiet (fail)
          gi_wp2
          go_roundw
          case rel => exact ⟨i, k + 1, rfl, by go_num, by omega, by omega, HS.out.1.drew ⟨_, rfl⟩, HS.out.2.drew ⟨_, rfl⟩, hcf, hcb, by obtain ⟨pre, hJ, he⟩ := HP; exact ⟨pre, hJd _ _ _ hJ, he⟩⟩
          case measure => simp [intOf]; omega
      · have HP : Hid (J (pairsL f b) wr) := by
          obtain ⟨pre, hJ, he⟩ := hpre
          rw [pairsL_end (.inr (by omega)), List.append_nil] at he
          exact he ▸ hJ
        clear hpre hf hb
        gi_wp2
        go_end0
        exact ⟨⟨_, rfl⟩, .inl HP⟩
    · have HP : Hid (J (pairsL f b) wr) := by
        obtain ⟨pre, hJ, he⟩ := hpre
        rw [pairsL_end (.inl (by omega)), List.append_nil] at he
        exact he ▸ hJ
      clear hpre hf hb
      gi_wp2
      go_end0
      exact ⟨⟨_, rfl⟩, .inl HP⟩

/-- THE ITERATOR's CONTRACT: the pairs of the program come, one by one. -/
theorem pairs_stops (H Bf Bb : Nat) (f b : List Lbl) (A A' : Option Addr) (c c' : Nat) (N : Nat) (hN : 1 ≤ N) (w : World) (hH : H ≤ w.heap.size) (hBf : Bf < w.heap.size) (hBb : Bb < w.heap.size)
    (hf : SL H w A f) (hb : SL H w A' b) (hcf : w.cell? ⟨Bf, 0, none⟩ = some (.slice A f.length c)) (hcb : w.cell? ⟨Bb, 0, none⟩ = some (.slice A' b.length c')) :
    SeqStopsK Fence.wide N Try.prog 21 #[.pointer (some ⟨Bf, 0, none⟩), .pointer (some ⟨Bb, 0, none⟩)] (fun x : Lbl × Lbl => #[x.1.agg, x.2.agg]) (KpM H Bf Bb) (fun ys => ys = pairsL f b) (fun _ => True) (pairsL f b).length w := by
  intro l J Jx W hW hJ hJx hY h0
  have hJd : ∀ pre W' n, J pre W' → J pre (W'.drewN n) := fun pre W' n h => hJ pre W' _ none h (grownBy_drewN W' n none) (fun r e => by cases e)
  refine (pairs1_any H Bf Bb f b A A' c c' l N hN J Jx W hJd (fun pre x W1 h hl => (hY pre x W1 h hl).mono ?_) (hf.below (hW.mono hH)) (hb.below (hW.mono hH)) ((hW.cell (p := ⟨Bf, 0, none⟩) hBf).trans hcf) ((hW.cell (p := ⟨Bb, 0, none⟩) hBb).trans hcb) h0).mono ?_
  · rintro e W' (⟨rfl, h1, h2⟩ | ⟨rfl, h1⟩)
    · exact ⟨true, rfl, (fun _ => ⟨h1, h2⟩), (fun h => by cases h)⟩
    · exact ⟨false, rfl, (fun h => by cases h), (fun _ => h1)⟩
  · rintro e W' ⟨hv, h | ⟨pre, h⟩⟩
    · exact ⟨hv, .inl ⟨_, rfl, h⟩⟩
    · exact ⟨hv, .inr ⟨pre, trivial, h⟩⟩

/-- meet.pairs boxes both lists and hands back the iterator. -/
theorem pairs_any (A A' : Option Addr) (n n' c c' : Nat) (w : World) :
    Calls Try.prog 19 #[.slice A n c, .slice A' n' c'] w fun e w' => e = .returned (.func (.func 21) #[] #[.pointer (some ⟨w.heap.size, 0, none⟩), .pointer (some ⟨w.heap.size + 1, 0, none⟩)]) ∧
      w' = (w.alloc (.cells #[.slice A n c] 22)).alloc (.cells #[.slice A' n' c'] 22) := by
  go_enter Try.func19, Try.ntmps19
  go_wp2
  go_ret
  exact ⟨rfl, rfl⟩

/-- the closure that says whether a sum is the least so far -/
theorem least_first (d : Nat) (b1 b2 : Nat) (w : World) (h1 : w.cell? ⟨b1, 0, none⟩ = some (.bool false)) :
    Calls Try.prog 18 #[.int .u64 (d : Int), .pointer (some ⟨b1, 0, none⟩), .pointer (some ⟨b2, 0, none⟩)] w fun e w' => e = .returned (.bool true) ∧ w = w' := by
  go_enter Try.func18, Try.ntmps18
  go_wp2
  go_ret
  exact ⟨rfl, rfl⟩
theorem least_next (d d0 : Nat) (b1 b2 : Nat) (w : World) (h1 : w.cell? ⟨b1, 0, none⟩ = some (.bool true)) (h2 : w.cell? ⟨b2, 0, none⟩ = some (.int .u64 (d0 : Int))) :
    Calls Try.prog 18 #[.int .u64 (d : Int), .pointer (some ⟨b1, 0, none⟩), .pointer (some ⟨b2, 0, none⟩)] w fun e w' => e = .returned (.bool (decide (d < d0))) ∧ w = w' := by
  go_enter Try.func18, Try.ntmps18
  go_wp2
  go_ret
  exact ⟨rfl, rfl⟩
end Go.Proofs.Ytajepjfohdlgdaa
