/- The contract of milepostref21.Meet: two loops over both lists. -/
import Derived.Test.YtajepjfohdlgdaaMs
import Derived.Test.YtajepjfohdlgdaaWt
namespace Go.Proofs.Ytajepjfohdlgdaa
open Go.RowKit

theorem quiet_l {P : Program} {f : FuncId} {args : Array Value} {w : World} {n : Nat} {v : Value}
    (h : Calls P f args (w.drewN n) fun e w' => e = .returned v ∧ w.drewN n = w') : Calls P f args (w.drewN n) fun e w'' => e = .returned v ∧ ∃ m, w'' = w.drewN m :=
  h.mono fun _ _ ⟨he, hm⟩ => ⟨he, n, hm.symm⟩
theorem quiet_al {P : Program} {f : FuncId} {args : Array Value} {w : World} {a n : Nat} {v : Value}
    (h : Calls P f args (w.drewN (a + n)) fun e w' => e = .returned v ∧ w.drewN (a + n) = w') :
    Calls P f args (w.drewN (a + n)) fun e w'' => e = .returned v ∧ ∃ m, w'' = w.drewN (a + m) :=
  h.mono fun _ _ ⟨he, hm⟩ => ⟨he, n, hm.symm⟩

def farN : Nat := 9223372036854775808

/-- one pair of labels -/
def rstep (x : Lbl) (s : Nat × Nat) (y : Lbl) : Nat × Nat :=
  if (x.hub == y.hub) && (fitsB x.dist y.dist && decide (sumV x.dist y.dist < s.1)) then (sumV x.dist y.dist, x.hub) else s
def rin (x : Lbl) (b : List Lbl) (s : Nat × Nat) : Nat × Nat := b.foldl (rstep x) s
def rout (b f : List Lbl) (s : Nat × Nat) : Nat × Nat := f.foldl (fun s x => rin x b s) s

theorem rin_next (x : Lbl) (b : List Lbl) (s : Nat × Nat) {k : Nat} (hk : k < b.length) : rin x (b.take (k + 1)) s = rstep x (rin x (b.take k) s) b[k] := by
  unfold rin
  rw [List.take_succ_eq_append_getElem hk, List.foldl_append]
  rfl
theorem rout_next (b f : List Lbl) (s : Nat × Nat) {k : Nat} (hk : k < f.length) : rout b (f.take (k + 1)) s = rin f[k] b (rout b (f.take k) s) := by
  unfold rout
  rw [List.take_succ_eq_append_getElem hk, List.foldl_append]
  rfl

def refS (f b : List Lbl) : Nat × Nat := rout b f (farN, 0)
def refD (f b : List Lbl) : Nat := if rightB f && rightB b then (if (refS f b).1 = farN then 0 else (refS f b).1) else 0
def refH (f b : List Lbl) : Nat := if rightB f && rightB b then (if (refS f b).1 = farN then 0 else (refS f b).2) else 0
def refO (f b : List Lbl) : Bool := if rightB f && rightB b then (if (refS f b).1 = farN then false else true) else false

theorem ret_meet3 {a b c d : Nat} {x y : Bool} (h1 : a = b) (h2 : c = d) (h3 : x = y) : Ending.returned (.tuple #[.int .u64 (a : Int), .int .u32 (c : Int), .bool x]) = .returned (.tuple #[.int .u64 (b : Int), .int .u32 (d : Int), .bool y]) := by rw [h1, h2, h3]

set_option maxHeartbeats 4000000 in
theorem refMeet_any (B : Nat) (A A' : Option Addr) (f b : List Lbl) (c c' : Nat) (w : World) (hf : SL B w A f) (hb : SL B w A' b) :
    Calls Try.prog 12 #[.slice A f.length c, .slice A' b.length c'] w fun e w' =>
      e = .returned (.tuple #[.int .u64 (refD f b : Int), .int .u32 (refH f b : Int), .bool (refO f b)]) ∧ Drew w w' := by
  have hlf := hf.len
  have hlb := hb.len
  go_enter Try.func12, Try.ntmps12
  go_wp2_with fail
  refine (refRight_any B A f c _ hf).mono ?_
  rintro e w1 ⟨rfl, n1, rfl⟩
  cases h1 : rightB f with
  | false =>
    have hd : refD f b = 0 := by simp [refD, h1]
    have hh : refH f b = 0 := by simp [refH, h1]
    have ho : refO f b = false := by simp [refO, h1]
    have HX : Hid (refD f b = 0 ∧ refH f b = 0 ∧ refO f b = false) := ⟨hd, hh, ho⟩
    clear hd hh ho
    go_wp2_with fail
    go_ret3
    exact ⟨ret_meet3 HX.out.1.symm HX.out.2.1.symm HX.out.2.2.symm, (Drew.refl _).drewN _⟩
  | true =>
    go_wp2_with fail
    refine (refRight_any B A' b c' _ (hb.drew ⟨n1, rfl⟩)).mono ?_
    rintro e w1 ⟨rfl, n2, rfl⟩
    cases h2 : rightB b with
    | false =>
      have hd : refD f b = 0 := by simp [refD, h2]
      have hh : refH f b = 0 := by simp [refH, h2]
      have ho : refO f b = false := by simp [refO, h2]
      have HX : Hid (refD f b = 0 ∧ refH f b = 0 ∧ refO f b = false) := ⟨hd, hh, ho⟩
      clear hd hh ho
      go_wp2_with fail
      go_ret3
      exact ⟨ret_meet3 HX.out.1.symm HX.out.2.1.symm HX.out.2.2.symm, (Drew.refl _).drewN _⟩
    | true =>
      have HD : Hid (refD f b = if (refS f b).1 = farN then 0 else (refS f b).1) := by show _ = _; simp [refD, h1, h2]
      have HH : Hid (refH f b = if (refS f b).1 = farN then 0 else (refS f b).2) := by show _ = _; simp [refH, h1, h2]
      have HO : Hid (refO f b = if (refS f b).1 = farN then false else true) := by show _ = _; simp [refO, h1, h2]
      clear h1 h2
      go_wp2_with fail
      go_loopw [7, 8, 9] (fun vd vh vi wr => ∃ i d h : Nat, i ≤ f.length ∧ vi = .int .i64 i ∧ vd = .int .u64 d ∧ vh = .int .u32 h ∧ Hid (rout b (f.take i) (farN, 0) = (d, h)) ∧ ∃ n, wr = w.drewN n) (fun _ _ vi _ => f.length - (intOf vi).toNat)
      case atStart => exact ⟨0, farN, 0, by omega, rfl, rfl, rfl, rfl, _, rfl⟩
      case round =>
        obtain ⟨i, d, h, hi, rfl, rfl, rfl, HR, n, rfl⟩ := hrel
        by_cases hli : i < f.length
        · obtain ⟨p, o, rfl, _, g1, _, g3⟩ := hf.at' i hli
          have HN : Hid (∀ s, rin f[i] b (d, h) = s → rout b (f.take (i + 1)) (farN, 0) = s) := fun s hs => by rw [rout_next b f _ hli, HR.out]; exact hs
          clear HR
          have e1 : (0:Int) ≤ (i:Int) := by omega
          have e2 : (i:Int) < f.length := by omega
          generalize f[i] = x at *
          obtain ⟨xh, xn, xd, hxh, hxn, hxd⟩ := x
          simp only at g1 g3
          clear hf
          go_wp2
          obtain ⟨w0, hw0⟩ : ∃ w0, w.drewN n = w0 := ⟨_, rfl⟩
          rw [hw0]
          have hb0 : SL B w0 A' b := by rw [← hw0]; exact hb.drew ⟨n, rfl⟩
          have k1 : w0.cell? ⟨p, o + i * 3, none⟩ = some (.int .u32 (xh : Int)) := by rw [← hw0]; exact g1
          have k3 : w0.cell? ⟨p, o + i * 3 + 2, none⟩ = some (.int .u64 (xd : Int)) := by rw [← hw0]; exact g3
          have HW0 : Hid (∃ n, w0 = w.drewN n) := ⟨n, hw0.symm⟩
          clear hw0 g1 g3 hb
          go_loopw [7, 8, 10] (fun vd vh vk wr => ∃ k d' h' : Nat, k ≤ b.length ∧ vk = .int .i64 k ∧ vd = .int .u64 d' ∧ vh = .int .u32 h' ∧ Hid (rin ⟨xh, xn, xd, hxh, hxn, hxd⟩ (b.take k) (d, h) = (d', h')) ∧ ∃ n, wr = w0.drewN n) (fun _ _ vk _ => b.length - (intOf vk).toNat)
          case atStart => exact ⟨0, d, h, by omega, rfl, rfl, rfl, rfl, 0, rfl⟩
          case round =>
            obtain ⟨k, d', h', hk, rfl, rfl, rfl, HK, m, rfl⟩ := hrel
            by_cases hlk : k < b.length
            · obtain ⟨p', o', rfl, _, g1', _, g3'⟩ := hb0.at' k hlk
              have HN2 : Hid (∀ s, rstep ⟨xh, xn, xd, hxh, hxn, hxd⟩ (d', h') b[k] = s → rin ⟨xh, xn, xd, hxh, hxn, hxd⟩ (b.take (k + 1)) (d, h) = s) := fun s hs => by rw [rin_next _ b _ hlk, HK.out]; exact hs
              clear HK
              have e3 : (0:Int) ≤ (k:Int) := by omega
              have e4 : (k:Int) < b.length := by omega
              generalize b[k] = y at *
              obtain ⟨yh, yn, yd, hyh, hyn, hyd⟩ := y
              simp only at g1' g3'
              clear hb0
              go_wp2_with fail
              go_quiet ((go_at_call 16; first | exact quiet_al (refAdd_any _ _ _) | exact quiet_l (refAdd_any _ _ _)))
              have HU : Hid (∀ s, (if (xh == yh) && (fitsB xd yd && decide (sumV xd yd < d')) then (sumV xd yd, xh) else (d', h')) = s → rin ⟨xh, xn, xd, hxh, hxn, hxd⟩ (b.take (k + 1)) (d, h) = s) := fun s hs => HN2.out s hs
              clear HN2
              generalize sumV xd yd = u at *
              generalize fitsB xd yd = bf at *
              clear g3'
              by_cases hq : xh = yh
              · subst hq
                cases bf with
                | false =>
                  have HS : Hid (rin ⟨xh, xn, xd, hxh, hxn, hxd⟩ (b.take (k + 1)) (d, h) = (d', h')) := HU.out _ (by simp)
                  clear HU
                  go_wp2_with fail
                  go_quiet (fail)
                  go_wp2
                  go_roundw
                  case rel => exact ⟨k + 1, d', h', by omega, by go_num, rfl, rfl, HS, _, rfl⟩
                  case measure => simp [intOf]; omega
                | true =>
                  by_cases hlt : u < d'
                  · have HS : Hid (rin ⟨xh, xn, xd, hxh, hxn, hxd⟩ (b.take (k + 1)) (d, h) = (u, xh)) := HU.out _ (by simp [hlt])
                    clear HU
                    go_wp2_with fail
                    go_quiet (fail)
                    go_wp2
                    go_roundw
                    case rel => exact ⟨k + 1, u, xh, by omega, by go_num, rfl, rfl, HS, _, rfl⟩
                    case measure => simp [intOf]; omega
                  · have HS : Hid (rin ⟨xh, xn, xd, hxh, hxn, hxd⟩ (b.take (k + 1)) (d, h) = (d', h')) := HU.out _ (by simp [hlt])
                    clear HU
                    go_wp2_with fail
                    go_quiet (fail)
                    go_wp2
                    go_roundw
                    case rel => exact ⟨k + 1, d', h', by omega, by go_num, rfl, rfl, HS, _, rfl⟩
                    case measure => simp [intOf]; omega
              · have HS : Hid (rin ⟨xh, xn, xd, hxh, hxn, hxd⟩ (b.take (k + 1)) (d, h) = (d', h')) := HU.out _ (by simp [hq])
                have hq' : ((xh : Int) == (yh : Int)) = false := by simp; omega
                clear HU
                go_wp2_with fail
                go_quiet (fail)
                go_wp2
                go_roundw
                case rel => exact ⟨k + 1, d', h', by omega, by go_num, rfl, rfl, HS, _, rfl⟩
                case measure => simp [intOf]; omega
            · have HS : Hid (rout b (f.take (i + 1)) (farN, 0) = (d', h')) := HN.out _ (by have := HK.out; rwa [List.take_of_length_le (by omega)] at this)
              clear HK HN
              go_wp2_with fail
              go_roundw
              case rel => exact ⟨i + 1, d', h', by omega, by go_num, rfl, rfl, HS, by obtain ⟨z, hz⟩ := HW0.out; exact ⟨z + m, by rw [hz, World.drewN_drewN]⟩⟩
              case measure => simp [intOf]; omega
        · have HE : Hid (refS f b = (d, h)) := by
            have := HR.out
            rw [List.take_of_length_le (by omega)] at this
            exact this
          by_cases hfar : d = farN
          · have hq : ((d : Int) == 9223372036854775808) = true := by rw [hfar]; rfl
            have R1 : Hid (refD f b = 0) := by show _ = _; rw [HD.out, HE.out, if_pos hfar]
            have R2 : Hid (refH f b = 0) := by show _ = _; rw [HH.out, HE.out, if_pos hfar]
            have R3 : Hid (refO f b = false) := by show _ = _; rw [HO.out, HE.out, if_pos hfar]
            clear hfar HD HH HO HE
            go_wp2_with fail
            go_ret3
            exact ⟨ret_meet3 R1.out.symm R2.out.symm R3.out.symm, (Drew.refl _).drewN _⟩
          · have hq : ((d : Int) == 9223372036854775808) = false := by rw [beq_eq_false_iff_ne]; intro he; apply hfar; unfold farN; omega
            have R1 : Hid (refD f b = d) := by show _ = _; rw [HD.out, HE.out, if_neg hfar]
            have R2 : Hid (refH f b = h) := by show _ = _; rw [HH.out, HE.out, if_neg hfar]
            have R3 : Hid (refO f b = true) := by show _ = _; rw [HO.out, HE.out, if_neg hfar]
            clear hfar HD HH HO HE
            go_wp2_with fail
            go_ret3
            exact ⟨ret_meet3 R1.out.symm R2.out.symm R3.out.symm, (Drew.refl _).drewN _⟩
end Go.Proofs.Ytajepjfohdlgdaa
