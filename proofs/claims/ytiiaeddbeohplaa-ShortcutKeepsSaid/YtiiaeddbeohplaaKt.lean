/- The contract of table: how far each vertex is from each. -/
import Derived.Test.YtiiaeddbeohplaaKr
import Derived.StillTailTactics
import Derived.Deep.QuietTactic
import Derived.BigQuiet
namespace Go.Proofs.Ytiiaeddbeohplaa
open Go.RowKit
/-- where the making of the rows stands -/
structure MkSt (w0 : World) (V : List Nat) (D : Option Addr) (d : Nat) (gs : List Nat) (R : List (List Nat)) (w : World) : Prop where
  tab : Tab w0.heap.size V.length D d gs R w
  low : Below w0.heap.size w0 w
theorem MkSt.nil (w : World) (V : List Nat) : MkSt w V none 0 [] [] w := ⟨Tab.nil _ _ _, Below.refl _ _⟩
theorem MkSt.keep {w0 w w' : World} {V : List Nat} {D : Option Addr} {d : Nat} {gs : List Nat} {R : List (List Nat)} (h : MkSt w0 V D d gs R w) {r : Option Nat} (hg : w.grownBy w' r) (hr : ∀ g, r = some g → w0.heap.size ≤ g ∧ g ∉ gs ∧ (Value.slice D gs.length d).ownBlock ≠ some g) : MkSt w0 V D d gs R w' :=
  ⟨h.tab.kept hg fun g e => (hr g e).2, h.low.grown hg h.low.size fun g e => (hr g e).1⟩
theorem MkSt.below {w0 w w' : World} {V : List Nat} {D : Option Addr} {d : Nat} {gs : List Nat} {R : List (List Nat)} (h : MkSt w0 V D d gs R w) (hb : Below w.heap.size w w') : MkSt w0 V D d gs R w' := ⟨h.tab.below hb, h.low.trans (hb.mono h.low.size)⟩
theorem MkSt.fresh {w0 w : World} {V : List Nat} {D : Option Addr} {d : Nat} {gs : List Nat} {R : List (List Nat)} (h : MkSt w0 V D d gs R w) : w.heap.size ∉ gs ∧ (Value.slice D gs.length d).ownBlock ≠ some w.heap.size := by
  constructor
  · intro hm
    obtain ⟨i, hi, e⟩ := List.mem_iff_getElem.1 hm
    have := ((h.tab.row i hi (by rw [h.tab.len]; exact hi)).lt gs[i] rfl).2
    omega
  · intro e
    have := (h.tab.own.lt _ e).2
    omega
theorem MkSt.put {w0 w : World} {V : List Nat} {D : Option Addr} {d : Nat} {gs : List Nat} {R : List (List Nat)} (h : MkSt w0 V D d gs R w) {i j : Nat} (hi : i < gs.length) (hj : j < V.length) (v : Nat) : MkSt w0 V D d gs (R.set i ((R.getD i []).set j v)) (w.setCell ⟨gs[i], j, none⟩ (.int .u64 (v : Int))) := by
  obtain ⟨h1, h2⟩ := h.tab.put hi hj v
  refine ⟨h1, h.low.grown h2 h.low.size fun g e => ?_⟩
  have := ((h.tab.row i hi (by rw [h.tab.len]; exact hi)).lt gs[i] rfl).1
  injection e with e
  omega
set_option maxRecDepth 100000 in
set_option maxHeartbeats 16000000 in
theorem table_any (BV BE : Nat) (A AE : Option Addr) (c ce : Nat) (V : List Nat) (E : List Edg) (w : World) (hV : VLs BV w A V) (hE : ELs BE w AE E) (hBV : BV ≤ w.heap.size) (hBE : BE ≤ w.heap.size) (hn : V.Nodup) (hvl : V.length ≤ 1000) (hel : E.length ≤ 1000000) :
    Calls Try.prog 22 #[.slice A V.length c, .slice AE E.length ce] w fun e w' => ∃ D d gs, e = .returned (.slice D V.length d) ∧ gs.length = V.length ∧ Tab w.heap.size V.length D d gs (rowsOf V (tabV V E)) w' ∧ Below w.heap.size w w' := by
  obtain ⟨i0, hi0, hz0, hz1, hz2⟩ := info_parts x_info
  have HI := Lib.hid hi0
  have HZ := Lib.hid hz0
  have HZ1 := Lib.hid hz1
  have HZ2 := Lib.hid hz2
  have HV := Lib.hid (hV.more hBV)
  have HE := Lib.hid (hE.more hBE)
  have HNd := Lib.hid hn
  have HS0 := Lib.hid (MkSt.nil w V)
  clear hi0 hz0 hz1 hz2 hV hE hBV hBE hn
  go_enter Try.func22, Try.ntmps22
  go_wp2_with fail
  go_loopw [5, 6] (fun vd vi wr => ∃ (i : Nat) (D : Option Addr) (d : Nat) (gs : List Nat), vi = .int .i64 i ∧ i ≤ V.length ∧ vd = .slice D gs.length d ∧ Hid (gs.length = i) ∧ Hid (MkSt w V D d gs ((V.take i).map fun u => V.map (tab0 u)) wr)) (fun _ vi _ => V.length - (intOf vi).toNat)
  case atStart => exact ⟨0, none, 0, [], rfl, by omega, rfl, Lib.hid rfl, HS0⟩
  case round =>
    clear HS0
    obtain ⟨i, D, d, gs, rfl, hi, rfl, HGl, HM⟩ := hrel
    by_cases hil : i < V.length
    · have i1 : (i : Int) < (V.length : Int) := by omega
      have i2 : (0 : Int) ≤ (i : Int) := by omega
      obtain ⟨f1, f2⟩ := HM.out.fresh
      have HF1 := Lib.hid f1
      have HF2 := Lib.hid f2
      have HLz : Hid (w.heap.size ≤ wr.heap.size) := Lib.hid HM.out.low.size
      clear f1 f2
      go_wp2_with (at_make
                   refine wpList_make_full _ rfl _ _ 49 rfl w.heap.size 41 i0 (.int .u64 0) 1 Try.underlying49 HI.out HZ.out HZ1.out .i64 .i64 _ _ V.length rfl rfl rfl rfl (by rw [HZ2.out]; omega) (by simp only [maxLen]; omega) HLz.out ?_
                   intro w3 hown hgrow
                   have HR3 : Hid (OwnX w3 w.heap.size (.slice (some ⟨wr.heap.size, 0, none⟩) V.length V.length) (initR V (V[i]) 0)) := Lib.hid (by rw [initR_0]; exact OwnX.made hown)
                   have HM3 := Lib.hid (HM.out.keep hgrow fun g e => by cases e)
                   clear hown hgrow HM)
      generalize wr.heap.size = g at *
      have HNi : Hid (∀ k (h : k < V.length), k ≠ i → tab0 V[i] V[k] = 9223372036854775808) := Lib.hid (fun k hk hne => if_neg (fun e => hne ((List.getElem_inj HNd.out).1 e).symm))
      have HSi : Hid (tab0 V[i] V[i] = 0) := Lib.hid (if_pos rfl)
      go_loopw [8] (fun vk wr => ∃ k : Nat, vk = .int .i64 k ∧ k ≤ V.length ∧ Hid (OwnX wr w.heap.size (.slice (some ⟨g, 0, none⟩) V.length V.length) (initR V V[i] k)) ∧ Hid (MkSt w V D d gs ((V.take i).map fun u => V.map (tab0 u)) wr)) (fun vk _ => V.length - (intOf vk).toNat)
      case atStart => exact ⟨0, rfl, by omega, HR3, HM3⟩
      case round =>
        clear HR3 HM3
        obtain ⟨k, rfl, hk, HR, HM⟩ := hrel
        by_cases hkl : k < V.length
        · have k1 : (k : Int) < (V.length : Int) := by omega
          have k2 : (0 : Int) ≤ (k : Int) := by omega
          by_cases hki : k = i
          · subst hki
            have HR2 : Hid (OwnX wr w.heap.size (.slice (some ⟨g, 0, none⟩) V.length V.length) (initR V V[k] (k + 1))) := Lib.hid (by rw [← initR_same hkl HSi.out]; exact HR.out)
            clear HR HNi HSi
            generalize V[k] = vk at *
            go_wp2_with fail
            go_roundw
            case rel => exact ⟨k + 1, by go_num, by omega, HR2, HM⟩
            case measure => simp [intOf]; omega
          · have k3 : ¬ (k : Int) = (i : Int) := by omega
            have hln : (initR V V[i] k).length = V.length := initR_len V _ k (by omega)
            have c0 := HR.out.cell k (by rw [hln]; exact hkl)
            have fz : wr.frozen? ⟨g, k, none⟩ = false := OwnS.frozen HR.out k
            obtain ⟨p1, p2⟩ := HR.out.put hln.symm k (by rw [hln]; exact hkl) 9223372036854775808
            have HR2 : Hid (OwnX (wr.setCell ⟨g, k, none⟩ (.int .u64 (9223372036854775808 : Nat))) w.heap.size (.slice (some ⟨g, 0, none⟩) V.length V.length) (initR V V[i] (k + 1))) := Lib.hid (by rw [← initR_step hkl, HNi.out k hkl hki]; exact p1)
            have HM2 := Lib.hid (HM.out.keep p2 fun x e => by injection e with e; subst e; exact ⟨HLz.out, HF1.out, HF2.out⟩)
            generalize (initR V V[i] k)[k] = old at *
            clear hki p1 p2 HR HM hln
            go_wp2_with fail
            go_roundw
            case rel => exact ⟨k + 1, by go_num, by omega, HR2, HM2⟩
            case measure => simp [intOf]; omega
        · have k1 : ¬ (k : Int) < (V.length : Int) := by omega
          have hke : k = V.length := by omega
          subst hke
          rw [initR_end] at HR
          have HTk : Hid ((V.take (i + 1)).map (fun u => V.map (tab0 u)) = ((V.take i).map fun u => V.map (tab0 u)) ++ [V.map (tab0 V[i])]) := Lib.hid (by rw [List.take_succ_eq_append_getElem hil, List.map_append]; rfl)
          have HLz2 : Hid (w.heap.size ≤ (wr.alloc (.cells #[.slice (some ⟨g, 0, none⟩) V.length V.length] 49)).heap.size) := Lib.hid (by have := HM.out.low.size; simp; omega)
          have HMa := Lib.hid (HM.out.keep (World.grownBy_alloc wr (.cells #[.slice (some ⟨g, 0, none⟩) V.length V.length] 49) none) fun x e => by cases e)
          have HRa : Hid (OwnX (wr.alloc (.cells #[.slice (some ⟨g, 0, none⟩) V.length V.length] 49)) w.heap.size (.slice (some ⟨g, 0, none⟩) V.length V.length) (V.map (tab0 V[i]))) := Lib.hid (HR.out.alloc _)
          have HS2 : Hid (SR 1 (gEnc V.length) (wr.heap.size + 1) (wr.alloc (.cells #[.slice (some ⟨g, 0, none⟩) V.length V.length] 49)) (some ⟨wr.heap.size, 0, none⟩) [g]) := Lib.hid (SR.one (sz := 1) (enc := gEnc V.length) g (heap_alloc_new wr _) rfl _ (by omega))
          have hgl := HGl.out
          have hgb : gs.length ≤ 1000 := by omega
          clear HR HM HNi HSi hgl
          generalize V[i] = vi at *
          go_wp2_with (at_builtin
                       refine wpList_append_sr _ rfl (.tmp 38) (.tmp 40) (g_ety V.length) rfl w.heap.size (.slice D gs.length d) gs rfl HMa.out.tab.own (wr.heap.size + 1) (some ⟨wr.heap.size, 0, none⟩) 1 1 [g] rfl rfl HS2.out (by simp [maxLen]; omega) (by simp; omega) HLz2.out ?_
                       intro Q2 q2 w8 hown hg hx
                       have HT8 := Lib.hid (HMa.out.tab.add HRa.out (by simp) HF1.out HF2.out hown hg (hx.imp id fun h => ⟨_, Nat.le_refl _, h⟩))
                       have HL8 := Lib.hid (HMa.out.low.grown hg HLz2.out (fun r hr => (HMa.out.tab.own.lt r hr).1))
                       clear hown hg hx HMa HRa HS2)
          go_wp2_with fail
          go_roundw
          case rel => exact ⟨i + 1, Q2, q2, gs ++ [g], by go_num, by omega, by simp, Lib.hid (by simp [HGl.out]), Lib.hid (by rw [HTk.out]; exact ⟨HT8.out, HL8.out⟩)⟩
          case measure => simp [intOf]; omega
    · have i1 : ¬ (i : Int) < (V.length : Int) := by omega
      have hie : i = V.length := by omega
      subst hie
      rw [List.take_length] at HM
      have HM0 : Hid (MkSt w V D d gs (rowsOf V (tabE (E.take 0) tab0)) wr) := HM
      clear HM HI HZ HZ1 HZ2
      go_wp2_with fail
      go_loopw [9] (fun vi wr => ∃ i : Nat, vi = .int .i64 i ∧ i ≤ E.length ∧ Hid (MkSt w V D d gs (rowsOf V (tabE (E.take i) tab0)) wr)) (fun vi _ => E.length - (intOf vi).toNat)
      case atStart => exact ⟨0, rfl, by omega, HM0⟩
      case round =>
        clear HM0
        obtain ⟨i, rfl, hi, HM⟩ := hrel
        by_cases hil : i < E.length
        · have j1 : (i : Int) < (E.length : Int) := by omega
          have j2 : (0 : Int) ≤ (i : Int) := by omega
          obtain ⟨b, o, rfl, _, e0, e1, e2, _⟩ := ELs.at' (HE.out.below HM.out.low) i hil
          have HTk := Lib.hid (tabE_take E tab0 i hil)
          generalize E[i] = x at *
          have HP1 := Lib.hid (place_any w.heap.size A V c x.tail wr (HV.out.below HM.out.low))
          have HP2 := Lib.hid (place_any w.heap.size A V c x.head wr (HV.out.below HM.out.low))
          generalize hTe : tabE (E.take i) tab0 = T at *
          generalize hTe2 : tabE (E.take (i + 1)) tab0 = T2 at *
          have HT2 := Lib.hid hTe2
          clear hTe hTe2
          cases hp1 : pos V x.tail with
          | none =>
            rw [hp1] at HP1
            have HMs : Hid (rowsOf V T2 = rowsOf V T) := Lib.hid (by rw [HTk.out]; exact rows_miss (.inl fun h => by obtain ⟨k, hk, _⟩ := pos_mem h; rw [hp1] at hk; cases hk))
            have HPz := HP2
            clear hp1 HP2
            generalize pos V x.head = ph at *
            go_wp2_with fail
            refine HP1.out.mono ?_
            rintro e w5 ⟨rfl, rfl⟩
            go_wp2_with fail
            refine HPz.out.mono ?_
            rintro e w5 ⟨rfl, rfl⟩
            clear HP1 HPz
            have z1 : atZ none = -1 := rfl
            rw [z1]
            generalize atZ ph = zh at *
            go_wp2_with fail
            go_roundw
            case rel => exact ⟨i + 1, by go_num, by omega, Lib.hid (by rw [HT2.out, HMs.out]; exact HM.out)⟩
            case measure => simp [intOf]; omega
          | some kt =>
            cases hp2 : pos V x.head with
            | none =>
              rw [hp1] at HP1
              rw [hp2] at HP2
              have HMs : Hid (rowsOf V T2 = rowsOf V T) := Lib.hid (by rw [HTk.out]; exact rows_miss (.inr fun h => by obtain ⟨k, hk, _⟩ := pos_mem h; rw [hp2] at hk; cases hk))
              clear hp1 hp2
              go_wp2_with fail
              refine HP1.out.mono ?_
              rintro e w5 ⟨rfl, rfl⟩
              go_wp2_with fail
              refine HP2.out.mono ?_
              rintro e w5 ⟨rfl, rfl⟩
              clear HP1 HP2
              have z1 : atZ none = -1 := rfl
              have z2 : atZ (some kt) = (kt : Int) := rfl
              have z3 : (0 : Int) ≤ (kt : Int) := by omega
              rw [z1, z2]
              go_wp2_with fail
              go_roundw
              case rel => exact ⟨i + 1, by go_num, by omega, Lib.hid (by rw [HT2.out, HMs.out]; exact HM.out)⟩
              case measure => simp [intOf]; omega
            | some kh =>
              rw [hp1] at HP1
              rw [hp2] at HP2
              obtain ⟨lt, et⟩ := posTo_some _ hp1
              obtain ⟨lh, eh⟩ := posTo_some _ hp2
              rw [getD_at lt] at et
              rw [getD_at lh] at eh
              clear hp1 hp2
              go_wp2_with fail
              refine HP1.out.mono ?_
              rintro e w5 ⟨rfl, rfl⟩
              go_wp2_with fail
              refine HP2.out.mono ?_
              rintro e w5 ⟨rfl, rfl⟩
              clear HP1 HP2
              have z1 : atZ (some kh) = (kh : Int) := rfl
              have z2 : atZ (some kt) = (kt : Int) := rfl
              have z3 : (0 : Int) ≤ (kt : Int) := by omega
              have z4 : (0 : Int) ≤ (kh : Int) := by omega
              have z5 : (kt : Int) < (V.length : Int) := by omega
              have z6 : (kh : Int) < (V.length : Int) := by omega
              rw [z1, z2]
              have hgk : kt < gs.length := by rw [HGl.out]; exact lt
              have z7 : (kt : Int) < (gs.length : Int) := by omega
              obtain ⟨b2, o2, rfl, r0⟩ := HM.out.tab.outer (by rw [HGl.out]; omega) hgk
              have r1 := HM.out.tab.cell hgk lh
              rw [rows_at lt lh, et, eh] at r1
              have fz := HM.out.tab.froz hgk kh
              have HPt := Lib.hid (fun v : Nat => by
                have := (HM.out.below (below_drewN (Below.refl _ wr) 1)).put hgk lh v
                rw [rows_put HNd.out T lt lh, et, eh] at this
                exact this)
              have HMn : Hid (T2 = tab1 T x) := HTk
              have HRe : Hid (rowsOf V (upd2 T x.tail x.head (min (T x.tail x.head) x.weight)) = rowsOf V T2) := Lib.hid (by rw [HTk.out]; exact rows_edge)
              clear HTk HMn et eh lt lh
              generalize gs[kt] = q at *
              generalize T x.tail x.head = old at *
              go_wp2_with fail
              go_still_tail 19, (by kernel_rfl)
              change wpList _ _ _ _ _ wr.drew
              have r1' : wr.drew.cell? ⟨q, kh, none⟩ = some (.int .u64 (old : Int)) := r1
              have fz' : wr.drew.frozen? ⟨q, kh, none⟩ = false := fz
              have HM2 : Hid (∀ v : Nat, MkSt w V (some ⟨b2, o2, none⟩) d gs (rowsOf V (upd2 T x.tail x.head v)) (wr.drew.setCell ⟨q, kh, none⟩ (.int .u64 (v : Int)))) := HPt
              clear r0 r1 fz e0 e1 e2 HM HPt
              generalize wr.drew = w6 at *
              have hmin : (if x.weight < old then (x.weight : Int) else (old : Int)) = ((min old x.weight : Nat) : Int) := by split <;> omega
              have HMin := Lib.hid hmin
              clear hmin
              go_wp2_with fail
              go_roundw
              case rel => exact ⟨i + 1, by go_num, by omega, Lib.hid (by rw [HMin.out, HT2.out, ← HRe.out]; exact HM2.out _)⟩
              case measure => simp [intOf]; omega
        · have j1 : ¬ (i : Int) < (E.length : Int) := by omega
          have hie : i = E.length := by omega
          subst hie
          rw [List.take_length] at HM
          have HFar := Lib.hid (fun l => tabM_far l E)
          have HEnd : Hid (tabM (V.take V.length) (tabE E tab0) = tabV V E) := Lib.hid (by rw [List.take_length]; rfl)
          have HM0 : Hid (MkSt w V D d gs (rowsOf V (tabM (V.take 0) (tabE E tab0))) wr) := HM
          generalize tabE E tab0 = T0 at *
          clear HM HE
          go_wp2_with fail
          go_loopw [12] (fun vm wr => ∃ m : Nat, vm = .int .i64 m ∧ m ≤ V.length ∧ Hid (MkSt w V D d gs (rowsOf V (tabM (V.take m) T0)) wr)) (fun vm _ => V.length - (intOf vm).toNat)
          case atStart => exact ⟨0, rfl, by omega, HM0⟩
          case round =>
            clear HM0
            obtain ⟨m, rfl, hm, HM⟩ := hrel
            by_cases hml : m < V.length
            · have m1 : (m : Int) < (V.length : Int) := by omega
              have m2 : (0 : Int) ≤ (m : Int) := by omega
              have HTm := Lib.hid (tabM_take V T0 m hml)
              have HFm := Lib.hid (HFar.out (V.take m))
              generalize tabM (V.take m) T0 = T at *
              generalize hT2 : tabM (V.take (m + 1)) T0 = T2 at *
              have HT2 := Lib.hid hT2
              clear hT2
              have HM1 : Hid (MkSt w V D d gs (rowsOf V (partT V T V[m] 0 0)) wr) := Lib.hid (by rw [part_0]; exact HM.out)
              clear HM
              go_wp2_with fail
              go_loopw [13] (fun vi wr => ∃ i : Nat, vi = .int .i64 i ∧ i ≤ V.length ∧ Hid (MkSt w V D d gs (rowsOf V (partT V T V[m] i 0)) wr)) (fun vi _ => V.length - (intOf vi).toNat)
              case atStart => exact ⟨0, rfl, by omega, HM1⟩
              case round =>
                clear HM1
                obtain ⟨i, rfl, hi, HM⟩ := hrel
                by_cases hil : i < V.length
                · have i3 : (i : Int) < (V.length : Int) := by omega
                  have i4 : (0 : Int) ≤ (i : Int) := by omega
                  go_wp2_with fail
                  go_loopw [14] (fun vk wr => ∃ k : Nat, vk = .int .i64 k ∧ k ≤ V.length ∧ Hid (MkSt w V D d gs (rowsOf V (partT V T V[m] i k)) wr)) (fun vk _ => V.length - (intOf vk).toNat)
                  case atStart => exact ⟨0, rfl, by omega, HM⟩
                  case round =>
                    clear HM
                    obtain ⟨k, rfl, hk, HM⟩ := hrel
                    by_cases hkl : k < V.length
                    · have k1 : (k : Int) < (V.length : Int) := by omega
                      have k2 : (0 : Int) ≤ (k : Int) := by omega
                      have hgi : i < gs.length := by rw [HGl.out]; exact hil
                      have hgm : m < gs.length := by rw [HGl.out]; exact hml
                      have z7 : (i : Int) < (gs.length : Int) := by omega
                      have z8 : (m : Int) < (gs.length : Int) := by omega
                      obtain ⟨b2, o2, rfl, r0⟩ := HM.out.tab.outer (by rw [HGl.out]; omega) hgi
                      obtain ⟨b3, o3, hA3, r0'⟩ := HM.out.tab.outer (by rw [HGl.out]; omega) hgm
                      obtain ⟨rfl, rfl⟩ : b3 = b2 ∧ o3 = o2 := by injection hA3 with h; injection h with h1 h2; exact ⟨h1.symm, h2.symm⟩
                      have c1 := HM.out.tab.cell hgi hml
                      have c2 := HM.out.tab.cell hgm hkl
                      have c3 := HM.out.tab.cell hgi hkl
                      rw [rows_at hil hml, part_col] at c1
                      rw [rows_at hml hkl, part_mid] at c2
                      rw [rows_at hil hkl, part_at HNd.out hil hkl] at c3
                      have fz := HM.out.tab.froz hgi k
                      have HSt : Hid (∀ s, s = tabR T V[m] V[i] V[k] → rowsOf V (upd2 (partT V T V[m] i k) V[i] V[k] s) = rowsOf V (partT V T V[m] i (k + 1))) := Lib.hid (fun s hs => part_step hil hkl hs)
                      have HSk := Lib.hid (part_skip (T := T) (m := V[m]) HNd.out hil hkl)
                      have HRd : Hid (tabR T V[m] V[i] V[k] = min (T V[i] V[k]) (T V[i] V[m] + T V[m] V[k])) := Lib.hid rfl
                      have hfar := HFm.out V[i] V[k]
                      have HPt := Lib.hid (fun (n : Nat) (v : Nat) => by
                        have := (HM.out.below (below_drewN (Below.refl _ wr) n)).put hgi hkl v
                        rw [rows_put HNd.out (partT V T V[m] i k) hil hkl] at this
                        exact this)
                      have HMd := Lib.hid (fun n : Nat => HM.out.below (below_drewN (Below.refl _ wr) n))
                      have HAd := Lib.hid (fun V' => (refAdd_any (T V[i] V[m]) (T V[m] V[k]) V').mono fun e w' (h : _ ∧ _) => (⟨h.1, h.2.symm⟩ : _ ∧ w' = V'))
                      generalize tabR T V[m] V[i] V[k] = tr at *
                      generalize T V[i] V[k] = tk at *
                      generalize T V[i] V[m] = t1 at *
                      generalize T V[m] V[k] = t2 at *
                      generalize gs[i] = q at *
                      generalize gs[m] = q2 at *
                      go_wp2_with fail
                      go_quiet ((go_at_call 20; exact Calls.quiet_of_same (HAd.out _)))
                      have r1 : (wr.drewN nq).cell? ⟨b3, o3 + i, none⟩ = some (.slice (some ⟨q, 0, none⟩) V.length V.length) := r0
                      have c4 : (wr.drewN nq).cell? ⟨q, k, none⟩ = some (.int .u64 (tk : Int)) := c3
                      have fz2 : (wr.drewN nq).frozen? ⟨q, k, none⟩ = false := fz
                      have HM2 := Lib.hid (HMd.out nq)
                      have HP2 := Lib.hid (fun v => HPt.out nq v)
                      clear r0 r0' c1 c2 c3 fz HMd HPt HAd
                      generalize wr.drewN nq = w6 at *
                      cases hfit : fitsB t1 t2 with
                      | false =>
                        have hno := fitsB_no hfit
                        have HE2 := Lib.hid (HSk.out (by rw [HRd.out]; unfold farV at hfar; omega))
                        clear hfit hno HSt HSk HRd HP2
                        generalize sumV t1 t2 = sm at *
                        go_wp2_with fail
                        go_roundw
                        case rel => exact ⟨k + 1, by go_num, by omega, Lib.hid (by rw [← HE2.out]; exact HM2.out)⟩
                        case measure => simp [intOf]; omega
                      | true =>
                        have hsm := sumV_yes hfit
                        clear hfit
                        generalize sumV t1 t2 = sm at *
                        by_cases hlt : sm < tk
                        · have HE2 := Lib.hid (HSt.out sm (by rw [HRd.out]; omega))
                          have q1 : (sm : Int) < (tk : Int) := by omega
                          have q2' : decide (sm < tk) = true := decide_eq_true hlt
                          clear hsm HSt HSk HRd HM2
                          go_wp2_with fail
                          go_roundw
                          case rel => exact ⟨k + 1, by go_num, by omega, Lib.hid (by rw [← HE2.out]; exact HP2.out sm)⟩
                          case measure => simp [intOf]; omega
                        · have HE2 := Lib.hid (HSk.out (by rw [HRd.out]; omega))
                          have q1 : ¬ (sm : Int) < (tk : Int) := by omega
                          have q2' : decide (sm < tk) = false := decide_eq_false hlt
                          clear hsm HSt HSk HRd HP2
                          go_wp2_with fail
                          go_roundw
                          case rel => exact ⟨k + 1, by go_num, by omega, Lib.hid (by rw [← HE2.out]; exact HM2.out)⟩
                          case measure => simp [intOf]; omega
                    · have k1 : ¬ (k : Int) < (V.length : Int) := by omega
                      have hke : k = V.length := by omega
                      subst hke
                      rw [part_row hil] at HM
                      go_wp2_with fail
                      go_roundw
                      case rel => exact ⟨i + 1, by go_num, by omega, HM⟩
                      case measure => simp [intOf]; omega
                · have i3 : ¬ (i : Int) < (V.length : Int) := by omega
                  have hie : i = V.length := by omega
                  subst hie
                  rw [part_end, ← HTm.out, ← HT2.out] at HM
                  go_wp2_with fail
                  go_roundw
                  case rel => exact ⟨m + 1, by go_num, by omega, HM⟩
                  case measure => simp [intOf]; omega
            · have m1 : ¬ (m : Int) < (V.length : Int) := by omega
              have hme : m = V.length := by omega
              subst hme
              rw [HEnd.out] at HM
              have hgl := HGl.out
              go_wp2_with fail
              go_ret
              first | exact ⟨D, d, rfl, gs, hgl, HM.out.tab, HM.out.low⟩ | exact ⟨D, d, gs, rfl, hgl, HM.out.tab, HM.out.low⟩ | exact ⟨D, d, gs, by rw [hgl]; rfl, hgl, HM.out.tab, HM.out.low⟩
end Go.Proofs.Ytiiaeddbeohplaa
