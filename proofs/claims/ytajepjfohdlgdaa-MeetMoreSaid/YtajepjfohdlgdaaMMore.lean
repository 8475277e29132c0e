/- MeetMore: a label that is nearer makes no way longer; hubs of one list alone have no say. No condition. -/
import Derived.Test.YtajepjfohdlgdaaMb
import Derived.Test.YtajepjfohdlgdaaMw
import Derived.Test.YtajepjfohdlgdaaMo
import Derived.Lib.SmallJoins
import Derived.StillTailTactics
namespace Go.Proofs.Ytajepjfohdlgdaa.meetMore
open Go.ChangeShapes Go.WideShapes Go.ChangeAt Go.RowKit Go.Deep

/-! the plain law -/
def nearer (x : Lbl) (less : Nat) : Lbl := ⟨x.hub, x.next, x.dist - min less x.dist, x.hhub, x.hnext, by have := x.hdist; omega⟩
def gs (f : List Lbl) (k less : Nat) : List Lbl := f.mapIdx fun i x => if i = k then nearer x less else x
theorem gs_len (f : List Lbl) (k less : Nat) : (gs f k less).length = f.length := by simp [gs]
theorem gs_at (f : List Lbl) (k less i : Nat) (h : i < (gs f k less).length) : (gs f k less)[i] = if i = k then nearer (f[i]'(by simpa [gs] using h)) less else f[i]'(by simpa [gs] using h) := by simp [gs]
theorem gs_hub (f : List Lbl) (k less i : Nat) (h : i < (gs f k less).length) : ((gs f k less)[i]).hub = (f[i]'(by simpa [gs] using h)).hub := by
  rw [gs_at]; split <;> rfl
theorem gs_dist (f : List Lbl) (k less i : Nat) (h : i < (gs f k less).length) : ((gs f k less)[i]).dist ≤ (f[i]'(by simpa [gs] using h)).dist := by
  rw [gs_at]
  split
  · show _ - _ ≤ _; omega
  · exact Nat.le_refl _
theorem gs_set {f : List Lbl} {k less : Nat} (hk : k < f.length) : gs f k less = f.set k (nearer f[k] less) := by
  apply List.ext_getElem (by simp [gs])
  intro i h1 h2
  rw [gs_at, List.getElem_set]
  by_cases e : i = k
  · subst e; simp
  · rw [if_neg e, if_neg (fun h => e h.symm)]
theorem gs_right {f : List Lbl} {k less : Nat} (h : rightB f = true) : rightB (gs f k less) = true := by
  refine rightB_of fun i hi => ?_
  rw [gs_hub, gs_hub]
  exact rightB_at h i (by simpa [gs] using hi)
theorem fits_less {a b a' : Nat} (h : fitsB a b = true) (hle : a' ≤ a) : fitsB a' b = true := fitsB_mk (by have := fitsB_yes h; omega)

theorem more_law {f b : List Lbl} {k less : Nat} (hok : (meetV f b).ok = true) : (meetV (gs f k less) b).ok = true ∧ (meetV (gs f k less) b).dist ≤ (meetV f b).dist := by
  cases hf : rightB f with
  | false => rw [meet_not (.inl hf)] at hok; cases hok
  | true =>
    cases hb : rightB b with
    | false => rw [meet_not (.inr hb)] at hok; cases hok
    | true =>
      obtain ⟨⟨p, hp, h1, h2, _⟩, _⟩ := (meet_best hf hb).2 hok
      obtain ⟨m1, m2⟩ := pairsF_mem.1 hp
      obtain ⟨i, hi, he⟩ := List.getElem_of_mem m1
      have hgl : i < (gs f k less).length := by rw [gs_len]; exact hi
      have hh := gs_hub f k less i hgl
      have hd := gs_dist f k less i hgl
      rw [he] at hh hd
      have hm : ((gs f k less)[i], p.2) ∈ pairsF (gs f k less) b := pairsF_mem.2 ⟨List.getElem_mem hgl, by dsimp only; rw [hh]; exact m2⟩
      have hfit : fitsB ((gs f k less)[i]).dist p.2.dist = true := fits_less h1 hd
      have B := meet_best (gs_right (k := k) (less := less) hf) hb
      cases hok2 : (meetV (gs f k less) b).ok with
      | false =>
        have := (B.1 hok2).2 _ hm
        rw [hfit] at this; cases this
      | true =>
        have := ((B.2 hok2).2 _ hm hfit).1
        dsimp only at this
        exact ⟨rfl, by omega⟩

def ownOf (b f : List Lbl) : List Lbl := f.filter fun x => hasB b x.hub
theorem own_law {f b : List Lbl} (hf : rightB f = true) : meetV (ownOf b f) b = meetV f b := by
  cases hb : rightB b with
  | false => rw [meet_not (.inr hb), meet_not (.inr hb)]
  | true =>
    have ho : rightB (ownOf b f) = true := right_sorted ((sorted_right hf).sublist List.filter_sublist)
    have e : pairsF (ownOf b f) b = pairsF f b := by
      unfold pairsF ownOf
      rw [List.filterMap_filter]
      congr 1
      funext x
      unfold hasB
      cases hx : findH b x.hub <;> simp
    unfold meetV meetS
    rw [ho, hf, hb, pairsL_eq_F _ _ ho hb, pairsL_eq_F _ _ hf hb, e]
theorem own_len (f b : List Lbl) : (ownOf b f).length ≤ f.length := List.length_filter_le _ _
theorem own_next_yes {f b : List Lbl} {i : Nat} (hi : i < f.length) (h : hasB b (f[i]).hub = true) : ownOf b (f.take (i + 1)) = ownOf b (f.take i) ++ [f[i]] := by
  unfold ownOf
  rw [List.take_succ_eq_append_getElem hi, List.filter_append]
  simp [h]
theorem own_next_no {f b : List Lbl} {i : Nat} (hi : i < f.length) (h : hasB b (f[i]).hub = false) : ownOf b (f.take (i + 1)) = ownOf b (f.take i) := by
  unfold ownOf
  rw [List.take_succ_eq_append_getElem hi, List.filter_append]
  simp [h]

/-! the slice that is written -/
theorem flat_set {α : Type} {sz : Nat} {enc : α → List Value} (h : ∀ x, (enc x).length = sz) : ∀ (l : List α) (i j : Nat) (hi : i < l.length) (_ : j < sz) (y : α) (u : Value), enc y = (enc l[i]).set j u → (l.flatMap enc).set (i * sz + j) u = (l.set i y).flatMap enc
  | [], i, j, hi, _, _, _, _ => by simp at hi
  | x :: l, 0, j, hi, hj, y, u, hy => by
    rw [List.flatMap_cons, List.set_cons_zero, List.flatMap_cons, hy]
    rw [Nat.zero_mul, Nat.zero_add, List.set_append_left _ _ (by rw [h]; exact hj)]
    rfl
  | x :: l, i + 1, j, hi, hj, y, u, hy => by
    rw [List.flatMap_cons, List.set_cons_succ, List.flatMap_cons]
    rw [List.set_append_right _ _ (by rw [h, Nat.succ_mul]; omega), h, show (i + 1) * sz + j - sz = i * sz + j by rw [Nat.succ_mul]; omega]
    rw [flat_set h l i j (by simpa using hi) hj y u hy]

theorem far (A A' : Option Addr) (n n' c c' : Nat) (z : Int) (u : Nat) (w : World) (hn : n ≤ 9223372036854775807) (hn' : n' ≤ 9223372036854775807) (h : 300 < n ∨ 300 < n' ∨ z < 0 ∨ (n : Int) ≤ z) :
    Calls Try.prog 5 #[.agg #[.slice A n c, .slice A' n' c', .int .i64 z, .int .u64 u]] w (LawOk w) := by
  have HW := Lib.hid works_any
  by_cases h1 : (300 : Int) < (n : Int)
  · clear h
    go_enter Try.func5, Try.ntmps5
    go_wp2_with fail
    refine (HW.out _).mono ?_
    rintro e w2 ⟨rfl, hb2⟩
    go_wp2_with fail
    go_ret
    exact ⟨rfl, ((Below.refl _ _).alloc (Nat.le_refl _) _).trans (hb2.mono (by simp))⟩
  · by_cases h2 : (300 : Int) < (n' : Int)
    · clear h
      go_enter Try.func5, Try.ntmps5
      go_wp2_with fail
      refine (HW.out _).mono ?_
      rintro e w2 ⟨rfl, hb2⟩
      go_wp2_with fail
      go_ret
      exact ⟨rfl, ((Below.refl _ _).alloc (Nat.le_refl _) _).trans (hb2.mono (by simp))⟩
    · by_cases h3 : z < 0
      · clear h
        go_enter Try.func5, Try.ntmps5
        go_wp2_with fail
        refine (HW.out _).mono ?_
        rintro e w2 ⟨rfl, hb2⟩
        go_wp2_with fail
        go_ret
        exact ⟨rfl, ((Below.refl _ _).alloc (Nat.le_refl _) _).trans (hb2.mono (by simp))⟩
      · have h4 : (n : Int) ≤ z := by omega
        clear h
        go_enter Try.func5, Try.ntmps5
        go_wp2_with fail
        refine (HW.out _).mono ?_
        rintro e w2 ⟨rfl, hb2⟩
        go_wp2_with fail
        go_ret
        exact ⟨rfl, ((Below.refl _ _).alloc (Nat.le_refl _) _).trans (hb2.mono (by simp))⟩

theorem boxed_more (w : World) (v0 v1 v2 v3 : Value) (t : TypeId) : Below w.heap.size w (w.alloc (.cells #[v0, v1, v2, v3] t)) := (Below.refl _ _).alloc (Nat.le_refl _) _

/-- the list is its copy, one label of it nearer: after the store -/
theorem stored_gs {w : World} {base : Nat} {f : List Lbl} {k less : Nat} {g c : Nat} (hk : k < f.length) (h : OwnS w base 35 3 Lbl.enc (.slice (some ⟨g, 0, none⟩) f.length c) f) (v : Int) (hv : v = ((f[k]).dist - min less (f[k]).dist : Nat)) :
    OwnS (w.setCell ⟨g, 0 + k * 3 + 2, none⟩ (.int .u64 v)) base 35 3 Lbl.enc (.slice (some ⟨g, 0, none⟩) (gs f k less).length c) (gs f k less) ∧ w.grownBy (w.setCell ⟨g, 0 + k * 3 + 2, none⟩ (.int .u64 v)) (some g) := by
  have hlen : (f.set k (nearer f[k] less)).length = f.length := by simp
  have := World.ownsRow.stored h (0 + k * 3 + 2) (.int .u64 v)
  rw [Nat.zero_add, flat_set (enc := Lbl.enc) (fun _ => rfl) f k 2 hk (by omega) (nearer f[k] less) _ (by subst hv; rfl)] at this
  rw [gs_set hk, Nat.zero_add]
  refine ⟨?_, this.2⟩
  unfold OwnS
  rw [hlen]
  exact this.1

set_option maxRecDepth 100000 in
set_option maxHeartbeats 8000000 in
theorem near (A A' : Option Addr) (f b : List Lbl) (c c' : Nat) (k : Nat) (u : Nat) (w : World) (hf : SL w.heap.size w A f) (hb : SL w.heap.size w A' b) (h0 : f.length ≤ 300) (h : b.length ≤ 300) (hk : k < f.length) (hu : u < 18446744073709551616) :
    Calls Try.prog 5 #[.agg #[.slice A f.length c, .slice A' b.length c', .int .i64 k, .int .u64 u]] w (LawOk w) := by
  have h1 : ¬ (300 : Int) < (f.length : Int) := by omega
  have h2 : ¬ (300 : Int) < (b.length : Int) := by omega
  have h3 : ¬ (k : Int) < 0 := by omega
  have h4 : ¬ (f.length : Int) ≤ (k : Int) := by omega
  have HM := Lib.hid fun h => more_law (f := f) (b := b) (k := k) (less := u) h
  have HO := Lib.hid fun h => own_law (f := f) (b := b) h
  have HF := Lib.hid hf
  have HB := Lib.hid hb
  have HBX := Lib.hid (boxed_more w (.slice A f.length c) (.slice A' b.length c') (.int .i64 k) (.int .u64 u) 37)
  clear hf hb
  go_enter Try.func5, Try.ntmps5
  go_wp2_with fail
  obtain ⟨w1, hw1⟩ : ∃ w1, w.alloc (.cells #[.slice A f.length c, .slice A' b.length c', .int .i64 k, .int .u64 u] 37) = w1 := ⟨_, rfl⟩
  rw [hw1] at HBX
  rw [hw1]
  clear hw1
  refine (meet_any w.heap.size A A' f b c c' w1 (HF.out.below HBX.out) (HB.out.below HBX.out) HBX.out.size).mono ?_
  rintro e w2 ⟨rfl, hb2⟩
  have HB2 : Hid (Below w.heap.size w w2) := HBX.out.trans (hb2.mono HBX.out.size)
  clear hb2 HBX
  go_wp2_with fail
  refine (copied_any w.heap.size A f c w2 (HF.out.below HB2.out) (by omega)).mono ?_
  rintro e w3 ⟨P, cp, rfl, own, hb3⟩
  have HB3 : Hid (Below w.heap.size w w3) := HB2.out.trans (hb3.mono HB2.out.size)
  clear hb3
  obtain ⟨g, cap, hv, hg1, hg2⟩ := World.ownsRow.form own (by omega)
  obtain ⟨o, ho⟩ : ∃ o : Nat, o = 0 := ⟨0, rfl⟩
  obtain ⟨rfl, rfl⟩ : P = some ⟨g, o, none⟩ ∧ cp = cap := by rw [ho]; simpa using hv
  clear hv
  have HS : Hid (∀ v : Int, v = ((f[k]).dist - min u (f[k]).dist : Nat) → OwnS (w3.drew.setCell ⟨g, o + k * 3 + 2, none⟩ (.int .u64 v)) w2.heap.size 35 3 Lbl.enc (.slice (some ⟨g, o, none⟩) (gs f k u).length cp) (gs f k u) ∧ w3.drew.grownBy (w3.drew.setCell ⟨g, o + k * 3 + 2, none⟩ (.int .u64 v)) (some g)) := by
    intro v hv
    subst ho
    exact stored_gs (w := w3.drew) hk own v hv
  have hgl := gs_len f k u
  have fz : w3.frozen? ⟨g, o + k * 3 + 2, none⟩ = false := by subst ho; exact World.ownsRow.frozenAt own _
  obtain ⟨p', o', hA, _, _, _, k3⟩ := SL.at' (own_sl own (by omega)) k hk
  obtain ⟨rfl, rfl⟩ : g = p' ∧ o = o' := by simpa using hA
  clear hA own
  have hgw : w.heap.size ≤ g := Nat.le_trans HB2.out.size hg1
  have hdl := (f[k]).hdist
  generalize (f[k]).dist = d at *
  have e1 : (0:Int) ≤ (k:Int) := by omega
  have e2 : (k:Int) < f.length := by omega
  dsimp only
  have HO0 := Lib.hid ho
  clear ho
  by_cases hle : (u : Int) ≤ d
  · go_wp2
    go_still_tail 17, (by kernel_rfl)
    change wpList _ _ _ _ _ w3.drew
    have fz' : w3.drew.frozen? ⟨g, o + k * 3 + 2, none⟩ = false := fz
    have k3' : w3.drew.cell? ⟨g, o + k * 3 + 2, none⟩ = some (.int .u64 d) := k3
    have hb' : Below w.heap.size w w3.drew := below_drewN HB3.out 1
    have HB3' := Lib.hid hb'
    clear fz k3 HB3 hb'
    generalize w3.drew = w4 at *
    go_wp2_with fail
    have hwr : IntKind.u64.wrap ((d:Int)-(u:Int)) = ((d:Int)-(u:Int)) := by first | exact IntWalk.u64_in _ (by omega) | (rw [IntWalk.u64_in _ (by omega)] <;> omega)
    try rw [hwr]
    clear hwr
    have hx := HS.out ((d:Int)-(u:Int)) (by omega)
    clear HS k3' fz'
    generalize w4.setCell ⟨g, o + k * 3 + 2, none⟩ (.int .u64 ((d:Int)-(u:Int))) = w5 at *
    have HB5 : Hid (Below w.heap.size w w5) := HB3'.out.grown hx.2 HB3'.out.size (fun r hr => by cases hr; exact hgw)
    have hsg : SL w5.heap.size w5 (some ⟨g, o, none⟩) (gs f k u) := own_sl hx.1 (by omega)
    clear hx HB3'
    generalize gs f k u = G at *
    have hMG := meet_any w5.heap.size (some ⟨g, o, none⟩) A' G b cp c' w5 hsg ((HB.out.below HB5.out).more HB5.out.size) (Nat.le_refl _)
    rw [hgl] at hMG
    refine hMG.mono ?_
    rintro e w6 ⟨rfl, hb6⟩
    have HB6 : Hid (Below w.heap.size w w6) := HB5.out.trans (hb6.mono HB5.out.size)
    clear hMG hsg hb6 HB5 HB2 hgw hg1
    obtain ⟨s, hs⟩ : ∃ s, meetV f b = s := ⟨_, rfl⟩
    rw [hs] at HM HO ⊢
    have HSE := Lib.hid hs
    clear hs
    generalize meetV G b = s' at *
    obtain ⟨sd, sh, sk⟩ := s
    obtain ⟨sd', sh', sk'⟩ := s'
    dsimp only at HM ⊢
    cases sk with
    | false =>
      clear HM
      go_wp2_with fail
      clear e1 e2
      go_loopw [14, 15] (fun vo vi wr => ∃ (i : Nat) (Q : Option Addr) (q : Nat), i ≤ f.length ∧ vo = .slice Q (ownOf b (f.take i)).length q ∧ vi = .int .i64 i ∧ Hid (OwnS wr w.heap.size 35 3 Lbl.enc (.slice Q (ownOf b (f.take i)).length q) (ownOf b (f.take i))) ∧ Hid (Below w.heap.size w wr)) (fun _ vi _ => f.length - (intOf vi).toNat)
      case atStart => exact ⟨0, none, 0, by omega, rfl, rfl, OwnS.nil _ _ _ _ _, HB6⟩
      case round =>
        obtain ⟨i, Q, q, hi, rfl, rfl, HOW, HI⟩ := hrel
        have hol : (ownOf b (f.take i)).length ≤ 300 := by have := own_len (f.take i) b; have := List.length_take_le i f; omega
        by_cases hlt : i < f.length
        · obtain ⟨p, o2, hA, hpb, g1, g2, g3⟩ := SL.at' (HF.out.below HI.out) i hlt
          have e1 : (0:Int) ≤ (i:Int) := by omega
          have e2 : (i:Int) < f.length := by omega
          subst hA
          have HYES := Lib.hid fun h => own_next_yes (b := b) hlt h
          have HNO := Lib.hid fun h => own_next_no (b := b) hlt h
          have HD := Lib.hid fun q W hs => dist_any w.heap.size A' b c' q W hs
          generalize f[i] = x at *
          obtain ⟨xh, xn, xd, hxh, hxn, hxd⟩ := x
          dsimp only at g1 g2 g3 HYES HNO
          go_wp2_with fail
          refine (HD.out xh wr (HB.out.below HI.out)).mono ?_
          rintro e wa ⟨rfl, na, rfl⟩
          have k1 : (wr.drewN na).cell? ⟨p, o2 + i * 3, none⟩ = some (.int .u32 (xh : Int)) := g1
          have k2 : (wr.drewN na).cell? ⟨p, o2 + i * 3 + 1, none⟩ = some (.int .u32 (xn : Int)) := g2
          have k3 : (wr.drewN na).cell? ⟨p, o2 + i * 3 + 2, none⟩ = some (.int .u64 (xd : Int)) := g3
          have HIa : Hid (Below w.heap.size w (wr.drewN na)) := below_drewN HI.out na
          have HOA : Hid (OwnS (wr.drewN na) w.heap.size 35 3 Lbl.enc (.slice Q (ownOf b (f.take i)).length q) (ownOf b (f.take i))) := HOW
          clear g1 g2 g3 HI HOW HD
          generalize wr.drewN na = wa at *
          generalize distV b xh = yd at *
          cases hh : hasB b xh with
          | false =>
            have hno := HNO.out hh
            clear HYES HNO
            go_wp2_with fail
            go_roundw
            case rel => exact ⟨i + 1, Q, q, by omega, by rw [hno], by go_num, by rw [hno]; exact HOA, HIa⟩
            case measure => simp [intOf]; omega
          | true =>
            have hyes := Lib.hid (HYES.out hh)
            clear HYES HNO
            generalize ownOf b (f.take i) = L at *
            have HA2 : Hid (OwnS (wa.alloc (.cells #[.int .u32 xh, .int .u32 xn, .int .u64 xd] 35)) w.heap.size 35 3 Lbl.enc (.slice Q L.length q) L) := HOA.out.alloc _
            have HS2 : Hid (SL (wa.heap.size + 1) (wa.alloc (.cells #[.int .u32 xh, .int .u32 xn, .int .u64 xd] 35)) (some ⟨wa.heap.size, 0, none⟩) [⟨xh, xn, xd, hxh, hxn, hxd⟩]) := SR.one (enc := Lbl.enc) ⟨xh, xn, xd, hxh, hxn, hxd⟩ (World.alloc_heap_new wa _) rfl _ (by omega)
            have HI2 : Hid (Below w.heap.size w (wa.alloc (.cells #[.int .u32 xh, .int .u32 xn, .int .u64 xd] 35))) := HIa.out.alloc HIa.out.size _
            clear HIa HOA
            go_wp2_with (at_builtin; refine wpList_append_sr _ rfl (.tmp 111) (.tmp 116) label_ety rfl w.heap.size (.slice Q L.length q) L rfl HA2.out (wa.heap.size + 1) (some ⟨wa.heap.size, 0, none⟩) 1 1 [⟨xh, xn, xd, hxh, hxn, hxd⟩] rfl rfl HS2.out (by simp [maxLen]; omega) (by simp; omega) HI2.out.size ?_; intro Q2 q2 w8 hown hg _)
            have HI3 : Hid (Below w.heap.size w w8) := HI2.out.grown hg HI2.out.size (fun r hr => (HA2.out.lt r hr).1)
            clear HI2 HA2 HS2 hg
            have hl1 : L.length + [(⟨xh, xn, xd, hxh, hxn, hxd⟩ : Lbl)].length = (ownOf b (f.take (i + 1))).length := by rw [hyes.out]; simp
            rw [hl1, ← hyes.out] at hown
            have hl2 : L.length + 1 = (ownOf b (f.take (i + 1))).length := hl1
            first | ((refine ⟨?_, ?measure⟩); (repeat apply Exists.intro); (refine ⟨?rel, rfl⟩)) | go_roundw
            case rel => exact ⟨i + 1, Q2, q2, by omega, by rw [← hl2], by go_num, hown, HI3⟩
            case measure => simp [intOf]; omega
        · obtain rfl : i = f.length := by omega
          have hnl : ¬ (f.length : Int) < (f.length : Int) := by omega
          have ht : f.take f.length = f := List.take_of_length_le (Nat.le_refl _)
          rw [ht] at HOW hol ⊢
          have hso : SL wr.heap.size wr Q (ownOf b f) := own_sl HOW.out (by omega)
          have HSO := Lib.hid hso
          clear ht HOW hso
          go_wp2_with fail
          refine (meet_any wr.heap.size Q A' (ownOf b f) b q c' wr HSO.out ((HB.out.below HI.out).more HI.out.size) (Nat.le_refl _)).mono ?_
          rintro e w7 ⟨rfl, hb7⟩
          have HB7 : Hid (Below w.heap.size w w7) := HI.out.trans (hb7.mono HI.out.size)
          clear hb7 HSO
          generalize meetV (ownOf b f) b = t at *
          go_wp2_with fail
          refine (meet_any w.heap.size A A' f b c c' w7 (HF.out.below HB7.out) (HB.out.below HB7.out) HB7.out.size).mono ?_
          rintro e w8 ⟨rfl, hb8⟩
          have HB8 : Hid (Below w.heap.size w w8) := HB7.out.trans (hb8.mono HB7.out.size)
          clear hb8 HB7
          rw [HSE.out]
          go_wp2_with fail
          refine (refRight_any w.heap.size A f c w8 (HF.out.below HB8.out)).mono ?_
          rintro e w9 ⟨rfl, n9, rfl⟩
          have HB9 : Hid (Below w.heap.size w (w8.drewN n9)) := below_drewN HB8.out n9
          clear HB8
          generalize w8.drewN n9 = w9 at *
          cases hr : rightB f with
          | false =>
            clear HO
            go_wp2_with fail
            refine (works_any _).mono ?_
            rintro e wz ⟨rfl, hbz⟩
            go_wp2_with fail
            go_ret
            exact ⟨rfl, HB9.out.trans (hbz.mono HB9.out.size)⟩
          | true =>
            have ht := HO.out hr
            subst ht
            clear HO
            dsimp only
            go_wp2_with fail
            refine (works_any _).mono ?_
            rintro e wz ⟨rfl, hbz⟩
            go_wp2_with fail
            go_ret
            exact ⟨rfl, HB9.out.trans (hbz.mono HB9.out.size)⟩
    | true =>
      obtain ⟨hm1, hm2⟩ := HM.out rfl
      subst hm1
      have hm3 : ¬ (sd : Int) < sd' := by omega
      clear HM hm2
      go_wp2_with fail
      clear e1 e2
      go_loopw [14, 15] (fun vo vi wr => ∃ (i : Nat) (Q : Option Addr) (q : Nat), i ≤ f.length ∧ vo = .slice Q (ownOf b (f.take i)).length q ∧ vi = .int .i64 i ∧ Hid (OwnS wr w.heap.size 35 3 Lbl.enc (.slice Q (ownOf b (f.take i)).length q) (ownOf b (f.take i))) ∧ Hid (Below w.heap.size w wr)) (fun _ vi _ => f.length - (intOf vi).toNat)
      case atStart => exact ⟨0, none, 0, by omega, rfl, rfl, OwnS.nil _ _ _ _ _, HB6⟩
      case round =>
        obtain ⟨i, Q, q, hi, rfl, rfl, HOW, HI⟩ := hrel
        have hol : (ownOf b (f.take i)).length ≤ 300 := by have := own_len (f.take i) b; have := List.length_take_le i f; omega
        by_cases hlt : i < f.length
        · obtain ⟨p, o2, hA, hpb, g1, g2, g3⟩ := SL.at' (HF.out.below HI.out) i hlt
          have e1 : (0:Int) ≤ (i:Int) := by omega
          have e2 : (i:Int) < f.length := by omega
          subst hA
          have HYES := Lib.hid fun h => own_next_yes (b := b) hlt h
          have HNO := Lib.hid fun h => own_next_no (b := b) hlt h
          have HD := Lib.hid fun q W hs => dist_any w.heap.size A' b c' q W hs
          generalize f[i] = x at *
          obtain ⟨xh, xn, xd, hxh, hxn, hxd⟩ := x
          dsimp only at g1 g2 g3 HYES HNO
          go_wp2_with fail
          refine (HD.out xh wr (HB.out.below HI.out)).mono ?_
          rintro e wa ⟨rfl, na, rfl⟩
          have k1 : (wr.drewN na).cell? ⟨p, o2 + i * 3, none⟩ = some (.int .u32 (xh : Int)) := g1
          have k2 : (wr.drewN na).cell? ⟨p, o2 + i * 3 + 1, none⟩ = some (.int .u32 (xn : Int)) := g2
          have k3 : (wr.drewN na).cell? ⟨p, o2 + i * 3 + 2, none⟩ = some (.int .u64 (xd : Int)) := g3
          have HIa : Hid (Below w.heap.size w (wr.drewN na)) := below_drewN HI.out na
          have HOA : Hid (OwnS (wr.drewN na) w.heap.size 35 3 Lbl.enc (.slice Q (ownOf b (f.take i)).length q) (ownOf b (f.take i))) := HOW
          clear g1 g2 g3 HI HOW HD
          generalize wr.drewN na = wa at *
          generalize distV b xh = yd at *
          cases hh : hasB b xh with
          | false =>
            have hno := HNO.out hh
            clear HYES HNO
            go_wp2_with fail
            go_roundw
            case rel => exact ⟨i + 1, Q, q, by omega, by rw [hno], by go_num, by rw [hno]; exact HOA, HIa⟩
            case measure => simp [intOf]; omega
          | true =>
            have hyes := Lib.hid (HYES.out hh)
            clear HYES HNO
            generalize ownOf b (f.take i) = L at *
            have HA2 : Hid (OwnS (wa.alloc (.cells #[.int .u32 xh, .int .u32 xn, .int .u64 xd] 35)) w.heap.size 35 3 Lbl.enc (.slice Q L.length q) L) := HOA.out.alloc _
            have HS2 : Hid (SL (wa.heap.size + 1) (wa.alloc (.cells #[.int .u32 xh, .int .u32 xn, .int .u64 xd] 35)) (some ⟨wa.heap.size, 0, none⟩) [⟨xh, xn, xd, hxh, hxn, hxd⟩]) := SR.one (enc := Lbl.enc) ⟨xh, xn, xd, hxh, hxn, hxd⟩ (World.alloc_heap_new wa _) rfl _ (by omega)
            have HI2 : Hid (Below w.heap.size w (wa.alloc (.cells #[.int .u32 xh, .int .u32 xn, .int .u64 xd] 35))) := HIa.out.alloc HIa.out.size _
            clear HIa HOA
            go_wp2_with (at_builtin; refine wpList_append_sr _ rfl (.tmp 111) (.tmp 116) label_ety rfl w.heap.size (.slice Q L.length q) L rfl HA2.out (wa.heap.size + 1) (some ⟨wa.heap.size, 0, none⟩) 1 1 [⟨xh, xn, xd, hxh, hxn, hxd⟩] rfl rfl HS2.out (by simp [maxLen]; omega) (by simp; omega) HI2.out.size ?_; intro Q2 q2 w8 hown hg _)
            have HI3 : Hid (Below w.heap.size w w8) := HI2.out.grown hg HI2.out.size (fun r hr => (HA2.out.lt r hr).1)
            clear HI2 HA2 HS2 hg
            have hl1 : L.length + [(⟨xh, xn, xd, hxh, hxn, hxd⟩ : Lbl)].length = (ownOf b (f.take (i + 1))).length := by rw [hyes.out]; simp
            rw [hl1, ← hyes.out] at hown
            have hl2 : L.length + 1 = (ownOf b (f.take (i + 1))).length := hl1
            first | ((refine ⟨?_, ?measure⟩); (repeat apply Exists.intro); (refine ⟨?rel, rfl⟩)) | go_roundw
            case rel => exact ⟨i + 1, Q2, q2, by omega, by rw [← hl2], by go_num, hown, HI3⟩
            case measure => simp [intOf]; omega
        · obtain rfl : i = f.length := by omega
          have hnl : ¬ (f.length : Int) < (f.length : Int) := by omega
          have ht : f.take f.length = f := List.take_of_length_le (Nat.le_refl _)
          rw [ht] at HOW hol ⊢
          have hso : SL wr.heap.size wr Q (ownOf b f) := own_sl HOW.out (by omega)
          have HSO := Lib.hid hso
          clear ht HOW hso
          go_wp2_with fail
          refine (meet_any wr.heap.size Q A' (ownOf b f) b q c' wr HSO.out ((HB.out.below HI.out).more HI.out.size) (Nat.le_refl _)).mono ?_
          rintro e w7 ⟨rfl, hb7⟩
          have HB7 : Hid (Below w.heap.size w w7) := HI.out.trans (hb7.mono HI.out.size)
          clear hb7 HSO
          generalize meetV (ownOf b f) b = t at *
          go_wp2_with fail
          refine (meet_any w.heap.size A A' f b c c' w7 (HF.out.below HB7.out) (HB.out.below HB7.out) HB7.out.size).mono ?_
          rintro e w8 ⟨rfl, hb8⟩
          have HB8 : Hid (Below w.heap.size w w8) := HB7.out.trans (hb8.mono HB7.out.size)
          clear hb8 HB7
          rw [HSE.out]
          go_wp2_with fail
          refine (refRight_any w.heap.size A f c w8 (HF.out.below HB8.out)).mono ?_
          rintro e w9 ⟨rfl, n9, rfl⟩
          have HB9 : Hid (Below w.heap.size w (w8.drewN n9)) := below_drewN HB8.out n9
          clear HB8
          generalize w8.drewN n9 = w9 at *
          cases hr : rightB f with
          | false =>
            clear HO
            go_wp2_with fail
            refine (works_any _).mono ?_
            rintro e wz ⟨rfl, hbz⟩
            go_wp2_with fail
            go_ret
            exact ⟨rfl, HB9.out.trans (hbz.mono HB9.out.size)⟩
          | true =>
            have ht := HO.out hr
            subst ht
            clear HO
            dsimp only
            go_wp2_with fail
            refine (works_any _).mono ?_
            rintro e wz ⟨rfl, hbz⟩
            go_wp2_with fail
            go_ret
            exact ⟨rfl, HB9.out.trans (hbz.mono HB9.out.size)⟩
  · go_wp2
    go_still_tail 17, (by kernel_rfl)
    change wpList _ _ _ _ _ w3.drew
    have fz' : w3.drew.frozen? ⟨g, o + k * 3 + 2, none⟩ = false := fz
    have k3' : w3.drew.cell? ⟨g, o + k * 3 + 2, none⟩ = some (.int .u64 d) := k3
    have hb' : Below w.heap.size w w3.drew := below_drewN HB3.out 1
    have HB3' := Lib.hid hb'
    clear fz k3 HB3 hb'
    generalize w3.drew = w4 at *
    go_wp2_with fail
    have hwr : IntKind.u64.wrap ((d:Int)-(d:Int)) = (0:Int) := by first | exact IntWalk.u64_in _ (by omega) | (rw [IntWalk.u64_in _ (by omega)] <;> omega)
    try rw [hwr]
    clear hwr
    have hx := HS.out (0:Int) (by omega)
    clear HS k3' fz'
    generalize w4.setCell ⟨g, o + k * 3 + 2, none⟩ (.int .u64 (0:Int)) = w5 at *
    have HB5 : Hid (Below w.heap.size w w5) := HB3'.out.grown hx.2 HB3'.out.size (fun r hr => by cases hr; exact hgw)
    have hsg : SL w5.heap.size w5 (some ⟨g, o, none⟩) (gs f k u) := own_sl hx.1 (by omega)
    clear hx HB3'
    generalize gs f k u = G at *
    have hMG := meet_any w5.heap.size (some ⟨g, o, none⟩) A' G b cp c' w5 hsg ((HB.out.below HB5.out).more HB5.out.size) (Nat.le_refl _)
    rw [hgl] at hMG
    refine hMG.mono ?_
    rintro e w6 ⟨rfl, hb6⟩
    have HB6 : Hid (Below w.heap.size w w6) := HB5.out.trans (hb6.mono HB5.out.size)
    clear hMG hsg hb6 HB5 HB2 hgw hg1
    obtain ⟨s, hs⟩ : ∃ s, meetV f b = s := ⟨_, rfl⟩
    rw [hs] at HM HO ⊢
    have HSE := Lib.hid hs
    clear hs
    generalize meetV G b = s' at *
    obtain ⟨sd, sh, sk⟩ := s
    obtain ⟨sd', sh', sk'⟩ := s'
    dsimp only at HM ⊢
    cases sk with
    | false =>
      clear HM
      go_wp2_with fail
      clear e1 e2
      go_loopw [14, 15] (fun vo vi wr => ∃ (i : Nat) (Q : Option Addr) (q : Nat), i ≤ f.length ∧ vo = .slice Q (ownOf b (f.take i)).length q ∧ vi = .int .i64 i ∧ Hid (OwnS wr w.heap.size 35 3 Lbl.enc (.slice Q (ownOf b (f.take i)).length q) (ownOf b (f.take i))) ∧ Hid (Below w.heap.size w wr)) (fun _ vi _ => f.length - (intOf vi).toNat)
      case atStart => exact ⟨0, none, 0, by omega, rfl, rfl, OwnS.nil _ _ _ _ _, HB6⟩
      case round =>
        obtain ⟨i, Q, q, hi, rfl, rfl, HOW, HI⟩ := hrel
        have hol : (ownOf b (f.take i)).length ≤ 300 := by have := own_len (f.take i) b; have := List.length_take_le i f; omega
        by_cases hlt : i < f.length
        · obtain ⟨p, o2, hA, hpb, g1, g2, g3⟩ := SL.at' (HF.out.below HI.out) i hlt
          have e1 : (0:Int) ≤ (i:Int) := by omega
          have e2 : (i:Int) < f.length := by omega
          subst hA
          have HYES := Lib.hid fun h => own_next_yes (b := b) hlt h
          have HNO := Lib.hid fun h => own_next_no (b := b) hlt h
          have HD := Lib.hid fun q W hs => dist_any w.heap.size A' b c' q W hs
          generalize f[i] = x at *
          obtain ⟨xh, xn, xd, hxh, hxn, hxd⟩ := x
          dsimp only at g1 g2 g3 HYES HNO
          go_wp2_with fail
          refine (HD.out xh wr (HB.out.below HI.out)).mono ?_
          rintro e wa ⟨rfl, na, rfl⟩
          have k1 : (wr.drewN na).cell? ⟨p, o2 + i * 3, none⟩ = some (.int .u32 (xh : Int)) := g1
          have k2 : (wr.drewN na).cell? ⟨p, o2 + i * 3 + 1, none⟩ = some (.int .u32 (xn : Int)) := g2
          have k3 : (wr.drewN na).cell? ⟨p, o2 + i * 3 + 2, none⟩ = some (.int .u64 (xd : Int)) := g3
          have HIa : Hid (Below w.heap.size w (wr.drewN na)) := below_drewN HI.out na
          have HOA : Hid (OwnS (wr.drewN na) w.heap.size 35 3 Lbl.enc (.slice Q (ownOf b (f.take i)).length q) (ownOf b (f.take i))) := HOW
          clear g1 g2 g3 HI HOW HD
          generalize wr.drewN na = wa at *
          generalize distV b xh = yd at *
          cases hh : hasB b xh with
          | false =>
            have hno := HNO.out hh
            clear HYES HNO
            go_wp2_with fail
            go_roundw
            case rel => exact ⟨i + 1, Q, q, by omega, by rw [hno], by go_num, by rw [hno]; exact HOA, HIa⟩
            case measure => simp [intOf]; omega
          | true =>
            have hyes := Lib.hid (HYES.out hh)
            clear HYES HNO
            generalize ownOf b (f.take i) = L at *
            have HA2 : Hid (OwnS (wa.alloc (.cells #[.int .u32 xh, .int .u32 xn, .int .u64 xd] 35)) w.heap.size 35 3 Lbl.enc (.slice Q L.length q) L) := HOA.out.alloc _
            have HS2 : Hid (SL (wa.heap.size + 1) (wa.alloc (.cells #[.int .u32 xh, .int .u32 xn, .int .u64 xd] 35)) (some ⟨wa.heap.size, 0, none⟩) [⟨xh, xn, xd, hxh, hxn, hxd⟩]) := SR.one (enc := Lbl.enc) ⟨xh, xn, xd, hxh, hxn, hxd⟩ (World.alloc_heap_new wa _) rfl _ (by omega)
            have HI2 : Hid (Below w.heap.size w (wa.alloc (.cells #[.int .u32 xh, .int .u32 xn, .int .u64 xd] 35))) := HIa.out.alloc HIa.out.size _
            clear HIa HOA
            go_wp2_with (at_builtin; refine wpList_append_sr _ rfl (.tmp 111) (.tmp 116) label_ety rfl w.heap.size (.slice Q L.length q) L rfl HA2.out (wa.heap.size + 1) (some ⟨wa.heap.size, 0, none⟩) 1 1 [⟨xh, xn, xd, hxh, hxn, hxd⟩] rfl rfl HS2.out (by simp [maxLen]; omega) (by simp; omega) HI2.out.size ?_; intro Q2 q2 w8 hown hg _)
            have HI3 : Hid (Below w.heap.size w w8) := HI2.out.grown hg HI2.out.size (fun r hr => (HA2.out.lt r hr).1)
            clear HI2 HA2 HS2 hg
            have hl1 : L.length + [(⟨xh, xn, xd, hxh, hxn, hxd⟩ : Lbl)].length = (ownOf b (f.take (i + 1))).length := by rw [hyes.out]; simp
            rw [hl1, ← hyes.out] at hown
            have hl2 : L.length + 1 = (ownOf b (f.take (i + 1))).length := hl1
            first | ((refine ⟨?_, ?measure⟩); (repeat apply Exists.intro); (refine ⟨?rel, rfl⟩)) | go_roundw
            case rel => exact ⟨i + 1, Q2, q2, by omega, by rw [← hl2], by go_num, hown, HI3⟩
            case measure => simp [intOf]; omega
        · obtain rfl : i = f.length := by omega
          have hnl : ¬ (f.length : Int) < (f.length : Int) := by omega
          have ht : f.take f.length = f := List.take_of_length_le (Nat.le_refl _)
          rw [ht] at HOW hol ⊢
          have hso : SL wr.heap.size wr Q (ownOf b f) := own_sl HOW.out (by omega)
          have HSO := Lib.hid hso
          clear ht HOW hso
          go_wp2_with fail
          refine (meet_any wr.heap.size Q A' (ownOf b f) b q c' wr HSO.out ((HB.out.below HI.out).more HI.out.size) (Nat.le_refl _)).mono ?_
          rintro e w7 ⟨rfl, hb7⟩
          have HB7 : Hid (Below w.heap.size w w7) := HI.out.trans (hb7.mono HI.out.size)
          clear hb7 HSO
          generalize meetV (ownOf b f) b = t at *
          go_wp2_with fail
          refine (meet_any w.heap.size A A' f b c c' w7 (HF.out.below HB7.out) (HB.out.below HB7.out) HB7.out.size).mono ?_
          rintro e w8 ⟨rfl, hb8⟩
          have HB8 : Hid (Below w.heap.size w w8) := HB7.out.trans (hb8.mono HB7.out.size)
          clear hb8 HB7
          rw [HSE.out]
          go_wp2_with fail
          refine (refRight_any w.heap.size A f c w8 (HF.out.below HB8.out)).mono ?_
          rintro e w9 ⟨rfl, n9, rfl⟩
          have HB9 : Hid (Below w.heap.size w (w8.drewN n9)) := below_drewN HB8.out n9
          clear HB8
          generalize w8.drewN n9 = w9 at *
          cases hr : rightB f with
          | false =>
            clear HO
            go_wp2_with fail
            refine (works_any _).mono ?_
            rintro e wz ⟨rfl, hbz⟩
            go_wp2_with fail
            go_ret
            exact ⟨rfl, HB9.out.trans (hbz.mono HB9.out.size)⟩
          | true =>
            have ht := HO.out hr
            subst ht
            clear HO
            dsimp only
            go_wp2_with fail
            refine (works_any _).mono ?_
            rintro e wz ⟨rfl, hbz⟩
            go_wp2_with fail
            go_ret
            exact ⟨rfl, HB9.out.trans (hbz.mono HB9.out.size)⟩
    | true =>
      obtain ⟨hm1, hm2⟩ := HM.out rfl
      subst hm1
      have hm3 : ¬ (sd : Int) < sd' := by omega
      clear HM hm2
      go_wp2_with fail
      clear e1 e2
      go_loopw [14, 15] (fun vo vi wr => ∃ (i : Nat) (Q : Option Addr) (q : Nat), i ≤ f.length ∧ vo = .slice Q (ownOf b (f.take i)).length q ∧ vi = .int .i64 i ∧ Hid (OwnS wr w.heap.size 35 3 Lbl.enc (.slice Q (ownOf b (f.take i)).length q) (ownOf b (f.take i))) ∧ Hid (Below w.heap.size w wr)) (fun _ vi _ => f.length - (intOf vi).toNat)
      case atStart => exact ⟨0, none, 0, by omega, rfl, rfl, OwnS.nil _ _ _ _ _, HB6⟩
      case round =>
        obtain ⟨i, Q, q, hi, rfl, rfl, HOW, HI⟩ := hrel
        have hol : (ownOf b (f.take i)).length ≤ 300 := by have := own_len (f.take i) b; have := List.length_take_le i f; omega
        by_cases hlt : i < f.length
        · obtain ⟨p, o2, hA, hpb, g1, g2, g3⟩ := SL.at' (HF.out.below HI.out) i hlt
          have e1 : (0:Int) ≤ (i:Int) := by omega
          have e2 : (i:Int) < f.length := by omega
          subst hA
          have HYES := Lib.hid fun h => own_next_yes (b := b) hlt h
          have HNO := Lib.hid fun h => own_next_no (b := b) hlt h
          have HD := Lib.hid fun q W hs => dist_any w.heap.size A' b c' q W hs
          generalize f[i] = x at *
          obtain ⟨xh, xn, xd, hxh, hxn, hxd⟩ := x
          dsimp only at g1 g2 g3 HYES HNO
          go_wp2_with fail
          refine (HD.out xh wr (HB.out.below HI.out)).mono ?_
          rintro e wa ⟨rfl, na, rfl⟩
          have k1 : (wr.drewN na).cell? ⟨p, o2 + i * 3, none⟩ = some (.int .u32 (xh : Int)) := g1
          have k2 : (wr.drewN na).cell? ⟨p, o2 + i * 3 + 1, none⟩ = some (.int .u32 (xn : Int)) := g2
          have k3 : (wr.drewN na).cell? ⟨p, o2 + i * 3 + 2, none⟩ = some (.int .u64 (xd : Int)) := g3
          have HIa : Hid (Below w.heap.size w (wr.drewN na)) := below_drewN HI.out na
          have HOA : Hid (OwnS (wr.drewN na) w.heap.size 35 3 Lbl.enc (.slice Q (ownOf b (f.take i)).length q) (ownOf b (f.take i))) := HOW
          clear g1 g2 g3 HI HOW HD
          generalize wr.drewN na = wa at *
          generalize distV b xh = yd at *
          cases hh : hasB b xh with
          | false =>
            have hno := HNO.out hh
            clear HYES HNO
            go_wp2_with fail
            go_roundw
            case rel => exact ⟨i + 1, Q, q, by omega, by rw [hno], by go_num, by rw [hno]; exact HOA, HIa⟩
            case measure => simp [intOf]; omega
          | true =>
            have hyes := Lib.hid (HYES.out hh)
            clear HYES HNO
            generalize ownOf b (f.take i) = L at *
            have HA2 : Hid (OwnS (wa.alloc (.cells #[.int .u32 xh, .int .u32 xn, .int .u64 xd] 35)) w.heap.size 35 3 Lbl.enc (.slice Q L.length q) L) := HOA.out.alloc _
            have HS2 : Hid (SL (wa.heap.size + 1) (wa.alloc (.cells #[.int .u32 xh, .int .u32 xn, .int .u64 xd] 35)) (some ⟨wa.heap.size, 0, none⟩) [⟨xh, xn, xd, hxh, hxn, hxd⟩]) := SR.one (enc := Lbl.enc) ⟨xh, xn, xd, hxh, hxn, hxd⟩ (World.alloc_heap_new wa _) rfl _ (by omega)
            have HI2 : Hid (Below w.heap.size w (wa.alloc (.cells #[.int .u32 xh, .int .u32 xn, .int .u64 xd] 35))) := HIa.out.alloc HIa.out.size _
            clear HIa HOA
            go_wp2_with (at_builtin; refine wpList_append_sr _ rfl (.tmp 111) (.tmp 116) label_ety rfl w.heap.size (.slice Q L.length q) L rfl HA2.out (wa.heap.size + 1) (some ⟨wa.heap.size, 0, none⟩) 1 1 [⟨xh, xn, xd, hxh, hxn, hxd⟩] rfl rfl HS2.out (by simp [maxLen]; omega) (by simp; omega) HI2.out.size ?_; intro Q2 q2 w8 hown hg _)
            have HI3 : Hid (Below w.heap.size w w8) := HI2.out.grown hg HI2.out.size (fun r hr => (HA2.out.lt r hr).1)
            clear HI2 HA2 HS2 hg
            have hl1 : L.length + [(⟨xh, xn, xd, hxh, hxn, hxd⟩ : Lbl)].length = (ownOf b (f.take (i + 1))).length := by rw [hyes.out]; simp
            rw [hl1, ← hyes.out] at hown
            have hl2 : L.length + 1 = (ownOf b (f.take (i + 1))).length := hl1
            first | ((refine ⟨?_, ?measure⟩); (repeat apply Exists.intro); (refine ⟨?rel, rfl⟩)) | go_roundw
            case rel => exact ⟨i + 1, Q2, q2, by omega, by rw [← hl2], by go_num, hown, HI3⟩
            case measure => simp [intOf]; omega
        · obtain rfl : i = f.length := by omega
          have hnl : ¬ (f.length : Int) < (f.length : Int) := by omega
          have ht : f.take f.length = f := List.take_of_length_le (Nat.le_refl _)
          rw [ht] at HOW hol ⊢
          have hso : SL wr.heap.size wr Q (ownOf b f) := own_sl HOW.out (by omega)
          have HSO := Lib.hid hso
          clear ht HOW hso
          go_wp2_with fail
          refine (meet_any wr.heap.size Q A' (ownOf b f) b q c' wr HSO.out ((HB.out.below HI.out).more HI.out.size) (Nat.le_refl _)).mono ?_
          rintro e w7 ⟨rfl, hb7⟩
          have HB7 : Hid (Below w.heap.size w w7) := HI.out.trans (hb7.mono HI.out.size)
          clear hb7 HSO
          generalize meetV (ownOf b f) b = t at *
          go_wp2_with fail
          refine (meet_any w.heap.size A A' f b c c' w7 (HF.out.below HB7.out) (HB.out.below HB7.out) HB7.out.size).mono ?_
          rintro e w8 ⟨rfl, hb8⟩
          have HB8 : Hid (Below w.heap.size w w8) := HB7.out.trans (hb8.mono HB7.out.size)
          clear hb8 HB7
          rw [HSE.out]
          go_wp2_with fail
          refine (refRight_any w.heap.size A f c w8 (HF.out.below HB8.out)).mono ?_
          rintro e w9 ⟨rfl, n9, rfl⟩
          have HB9 : Hid (Below w.heap.size w (w8.drewN n9)) := below_drewN HB8.out n9
          clear HB8
          generalize w8.drewN n9 = w9 at *
          cases hr : rightB f with
          | false =>
            clear HO
            go_wp2_with fail
            refine (works_any _).mono ?_
            rintro e wz ⟨rfl, hbz⟩
            go_wp2_with fail
            go_ret
            exact ⟨rfl, HB9.out.trans (hbz.mono HB9.out.size)⟩
          | true =>
            have ht := HO.out hr
            subst ht
            clear HO
            dsimp only
            go_wp2_with fail
            refine (works_any _).mono ?_
            rintro e wz ⟨rfl, hbz⟩
            go_wp2_with fail
            go_ret
            exact ⟨rfl, HB9.out.trans (hbz.mono HB9.out.size)⟩


theorem open_labels1 {H : Type} {encT : TypeId × Value → H} {W : World} {n : Nat} {v : Value} {y : DataW H × List MemPlace}
    (h : DataW.trod encT Try.prog W 0 (fun _ => true) true n 22 [v] = some y) (hlt : ∀ x ∈ y.2, x.block < W.heap.size) :
    ∃ A len c, v = .slice A len c ∧ len ≤ maxLen ∧ (len ≤ 4611686018427387904 → ∃ l : List Lbl, l.length = len ∧ SL W.heap.size W A l) := by
  have hv : ∃ a len cap, v = .slice a len cap := by
    rcases open_slice Try.underlying22 h with ⟨hcs, _⟩ | ⟨a, len, cap, m, n', D, Pl, hcs, _⟩
    · exact ⟨none, 0, 0, by simpa using hcs⟩
    · exact ⟨some a, len, cap, by simpa using hcs⟩
  obtain ⟨a, len, cap, rfl⟩ := hv
  exact open_labels (d := y.1) (p := y.2) ⟨_, _, _, rfl⟩ ⟨n, by simpa [Value.cells] using h⟩ hlt

theorem open_more {H : Type} {encT : TypeId × Value → H} {W : World} {r : Reach} {b0 : Nat} {v : Value} {d : DataW H} {p : List MemPlace} (hv : Value.okWide Try.prog W r b0 37 v)
    (h : DataW.Trod encT Try.prog W 0 (fun _ => true) true 37 v d p) (hlt : ∀ x ∈ p, x.block < W.heap.size) :
    ∃ (A : Option Addr) (n c : Nat) (A' : Option Addr) (n' c' : Nat) (z : Int) (u : Nat), v = .agg #[.slice A n c, .slice A' n' c', .int .i64 z, .int .u64 u] ∧
      (n ≤ maxLen ∧ n' ≤ maxLen ∧ u < 18446744073709551616) ∧ (n ≤ 4611686018427387904 → ∃ l : List Lbl, l.length = n ∧ SL W.heap.size W A l) ∧ (n' ≤ 4611686018427387904 → ∃ l : List Lbl, l.length = n' ∧ SL W.heap.size W A' l) := by
  obtain ⟨v0, v1, v2, v3, y0, y1, y2, y3, n, rfl, _, rfl, h0, h1, h2, h3⟩ := Joins.open_agg4 Try.underlying37 (by kernel_rfl) (by kernel_rfl) hv h
  obtain ⟨A, n0, c, rfl, hn, hl⟩ := open_labels1 h0 (fun x hx => hlt x (by simp [hx]))
  obtain ⟨A', n1, c', rfl, hn', hl'⟩ := open_labels1 h1 (fun x hx => hlt x (by simp [hx]))
  obtain ⟨z, e2, _, w2⟩ := DataW.trod_int Try.underlying3 h2
  obtain ⟨u, e3, _, w3⟩ := DataW.trod_int Try.underlying25 h3
  obtain ⟨m, rfl, hm⟩ := u64_bounds w3
  simp at e2 e3
  subst e2 e3
  exact ⟨A, n0, c, A', n1, c', z, m, rfl, ⟨hn, hn', hm⟩, hl, hl'⟩

theorem walk (A : Option Addr) (n c : Nat) (A' : Option Addr) (n' c' : Nat) (z : Int) (u : Nat) (w : World) (hn : n ≤ maxLen ∧ n' ≤ maxLen ∧ u < 18446744073709551616) (hf : n ≤ 4611686018427387904 → ∃ l : List Lbl, l.length = n ∧ SL w.heap.size w A l) (hb : n' ≤ 4611686018427387904 → ∃ l : List Lbl, l.length = n' ∧ SL w.heap.size w A' l) :
    Calls Try.prog 5 #[.agg #[.slice A n c, .slice A' n' c', .int .i64 z, .int .u64 u]] w (LawOk w) := by
  unfold maxLen at hn
  by_cases h : 300 < n ∨ 300 < n' ∨ z < 0 ∨ (n : Int) ≤ z
  · exact far A A' n n' c c' z u w hn.1 hn.2.1 h
  · obtain ⟨f, rfl, hf'⟩ := hf (by omega)
    obtain ⟨b, rfl, hb'⟩ := hb (by omega)
    obtain ⟨k, rfl⟩ : ∃ k : Nat, z = k := ⟨z.toNat, by omega⟩
    exact near A A' f b c c' k u w hf' hb' (by omega) (by omega) (by omega) hn.2.2


set_option maxRecDepth 100000 in
theorem lifted (os : Os) (started : os.Started) (H : Type) (enc : TypeId × Value → H) :
    ReturnsInHanded {} Try.checked os 5 .any (Rows.meetMoreSpec.pre6 enc Try.prog Try.f5 Rows.meetMoreRow.domain false) (Rows.meetMoreSpec.post enc Try.prog Try.f5 false true false false) := by
  refine returnsInHanded_of_change (C := Try.checked) own_knob started (by kernel_rfl) Try.func5
    (ChangeSpec.witness6 (enc := enc) (C := Try.checked) false ⟨#[], #[.agg #[.slice none 0 0, .slice none 0 0, .int .i64 0, .int .u64 0]], []⟩ 8 (by kernel_rfl) (by kernel_rfl) (by kernel_rfl) (by kernel_rfl)) ?_
  intro W base args ds gs before hval0 hW _ _
  have hval : ∀ (j : Nat) t v, Try.f5.params[j]? = some t → args[j]? = some v → Value.okWide Try.prog W .any base t v := hval0
  have hW' := hW
  obtain ⟨p, q, hA0, hV, rfl, _, _⟩ := hW
  have hA : DataW.TrodAll enc Try.prog W 0 (fun _ => true) true Try.f5.params.toList args.toList ds p := hA0
  rw [Try.params5] at hA hval
  obtain ⟨v0, vs0, d0, ds0, p0, q0, hargs, rfl, rfl, h0, r0⟩ := trodAll_cons hA
  obtain ⟨rfl, rfl, rfl⟩ := trodAll_nil r0
  obtain rfl : args = #[v0] := by cases args; simp_all
  obtain ⟨rfl, rfl⟩ := trodVars_none hV
  have hlt : ∀ x ∈ p0, x.block < W.heap.size := fun x hx => hW'.lt x (by simpa using hx)
  obtain ⟨A0, n0, c0, B0, m0, d0, z0, u0, rfl, hn0, hf0, hb0⟩ := open_more (hval 0 37 v0 rfl rfl) h0 (fun x hx => hlt x (by simp [hx]))
  refine (walk A0 n0 c0 B0 m0 d0 z0 u0 W hn0 hf0 hb0).mono fun e W' ⟨he, hg⟩ => ?_
  subst he
  exact ⟨_, rfl, law_post hW' rfl (by kernel_rfl) rfl (by kernel_rfl) hg⟩

theorem proved : Rows.MeetMoreSaid :=
  OpenClaim.holds_of_wide 5 Try.f5 rfl rfl rfl rfl rfl rfl rfl ⟨rfl, rfl, rfl, rfl, rfl⟩ rfl rfl rfl rfl rfl (by kernel_rfl) Try.func5 (by kernel_rfl)
    (of_decide_eq_true (by kernel_rfl)) (by unfold Func.isWrapper; first | (rw [if_pos (by decide +kernel)]; kernel_rfl) | (rw [if_neg (by decide +kernel)]; exact ⟨rfl, rfl⟩))
    (fun os started H enc _ => lifted os started H enc)

end Go.Proofs.Ytajepjfohdlgdaa.meetMore
