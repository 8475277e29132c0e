/- The contract of Ring.First. -/
import Derived.Test.YtongpcfjfolfbaaRw
namespace Go.Proofs.Ytongpcfjfolfbaa
open Go.RowKit

def hf (k : Nat) : Nat := if k = 0 then 0 else pw (k - 1)
theorem pw_lt (k : Nat) : pw k < 19 := Nat.mod_lt _ (by omega)
theorem hf_lt (k : Nat) : hf k < 19 := by
  unfold hf
  split
  · omega
  · exact pw_lt _
theorem hf_succ (k : Nat) : hf (k + 1) = pw k := by unfold hf; rw [if_neg (by omega)]; rfl
theorem pw_succ (k : Nat) : pw (k + 1) = 2 * pw k % 19 := by unfold pw; rw [Nat.pow_succ]; omega
def NoPw (far k : Nat) : Prop := ∀ j, j < k → pw j ≠ far
theorem noPw_hit {far k : Nat} (h : NoPw far k) (hk : k < 18) (he : pw k = far) : (List.range 18).find? (fun j => pw j == far) = some k := by
  rw [List.find?_eq_some_iff_getElem]
  refine ⟨by simp [he], k, by simpa using hk, by simp, fun j hj => ?_⟩
  have := h j hj
  simpa using this
theorem noPw_miss {far k : Nat} (h : NoPw far k) (hk : 18 ≤ k) : (List.range 18).find? (fun j => pw j == far) = none := by
  rw [List.find?_eq_none]
  intro j hj
  have := h j (by have := List.mem_range.1 hj; omega)
  simpa using this
theorem ring_hit {a b k : Nat} (ha : a ≤ 18) (hb : b ≤ 18) (h : NoPw ((b + 19 - a) % 19) k) (hk : k < 18) (he : pw k = (b + 19 - a) % 19) : ringG a b = (mkE a b (2 ^ k) (if k = 0 then 4294967295 else (a + hf k) % 19), 0) := by
  unfold ringG
  rw [if_neg (by omega), noPw_hit h hk he]
  by_cases h0 : k = 0
  · simp [h0]
  · simp [h0, hf]
theorem ring_miss {a b k : Nat} (ha : a ≤ 18) (hb : b ≤ 18) (h : NoPw ((b + 19 - a) % 19) k) (hk : 18 ≤ k) : ringG a b = (Edg.nil, 3) := by
  unfold ringG
  rw [if_neg (by omega), noPw_miss h hk]

theorem ringFirst_far (S a b : Nat) (w : World) (h : 18 < a ∨ 18 < b) :
    Calls Try.prog 22 #[.pointer (some ⟨S, 0, none⟩), .int .u32 (a : Int), .int .u32 (b : Int)] w fun e w' => e = .returned (.tuple #[(ringG a b).1.agg, .int .i64 (ringG a b).2]) ∧ Below w.heap.size w w' := by
  have HV : Hid (ringG a b = (Edg.nil, 3)) := by show _ = _; unfold ringG; rw [if_pos h]
  by_cases h1 : 18 < a
  · have g1 : (18 : Int) < (a : Int) := by omega
    clear h h1
    go_enter Try.func22, Try.ntmps22
    go_wp2_with fail
    exact bodyPost_ret (v := .tuple #[.agg #[.int .u32 0, .int .u32 0, .int .u64 0, .int .u32 0], .int .i64 3]) (by simp [results, Try.results22, go_sem]) rfl ⟨(by rw [HV.out]; rfl), (Below.refl _ _).alloc (Nat.le_refl _) _⟩
  · have g1 : ¬ (18 : Int) < (a : Int) := by omega
    have g2 : (18 : Int) < (b : Int) := by omega
    clear h h1
    go_enter Try.func22, Try.ntmps22
    go_wp2_with fail
    exact bodyPost_ret (v := .tuple #[.agg #[.int .u32 0, .int .u32 0, .int .u64 0, .int .u32 0], .int .i64 3]) (by simp [results, Try.results22, go_sem]) rfl ⟨(by rw [HV.out]; rfl), (Below.refl _ _).alloc (Nat.le_refl _) _⟩
set_option maxRecDepth 100000 in
set_option maxHeartbeats 2000000 in
theorem ringFirst_near (S a b : Nat) (w : World) (ha : a ≤ 18) (hb : b ≤ 18) :
    Calls Try.prog 22 #[.pointer (some ⟨S, 0, none⟩), .int .u32 (a : Int), .int .u32 (b : Int)] w fun e w' => e = .returned (.tuple #[(ringG a b).1.agg, .int .i64 (ringG a b).2]) ∧ Below w.heap.size w w' := by
  obtain ⟨far, hfar⟩ : ∃ far, far = (b + 19 - a) % 19 := ⟨_, rfl⟩
  have HF := Lib.hid hfar
  have e1 : (b : Int) + 19 < 4294967296 := by omega
  have e2 : ((b : Int) + 19 - (a : Int)) % 19 = (far : Int) := by omega
  have e3 : (0 : Int) ≤ (b : Int) + 19 - (a : Int) := by omega
  have e4 : ((b : Int) + 19 - (a : Int)).tmod 19 = (far : Int) := by rw [Int.tmod_eq_emod_of_nonneg e3]; exact e2
  have g1 : ¬ (18 : Int) < (a : Int) := by omega
  have g2 : ¬ (18 : Int) < (b : Int) := by omega
  clear hfar
  go_enter Try.func22, Try.ntmps22
  go_wp2_with fail
  go_loop [9, 10, 11] (fun vh vs vk => ∃ k : Nat, k ≤ 18 ∧ vh = .int .u32 (hf k : Nat) ∧ vs = .int .u32 (pw k : Nat) ∧ vk = .int .i64 k ∧ Hid (NoPw far k)) (fun _ _ vk => 18 - (intOf vk).toNat)
  case atStart => exact ⟨0, by omega, rfl, rfl, rfl, fun j hj => absurd hj (by omega)⟩
  case round =>
    obtain ⟨k, hk, rfl, rfl, rfl, HN⟩ := hrel
    by_cases hlt : k < 18
    · by_cases he : pw k = far
      · have g3 : ((pw k : Int) == (far : Int)) = true := by rw [he]; exact beq_self_eq_true _
        have HV := Lib.hid (ring_hit ha hb (HF.out ▸ HN.out) hlt (by rw [he]; exact HF.out))
        have hq := hf_lt k
        have e5 : (a : Int) + (hf k : Int) < 4294967296 := by omega
        have e6 : (k : Int) < 18 := by omega
        have e7 : (0 : Int) ≤ (k : Int) := by omega
        clear HN he
        generalize hf k = q at *
        generalize pw k = p at *
        by_cases h0 : k = 0
        · subst h0
          go_wp2_with fail
          exact bodyPost_ret (v := .tuple #[.agg #[.int .u32 (a:Int), .int .u32 (b:Int), .int .u64 1, .int .u32 4294967295], .int .i64 0]) (by simp [results, Try.results22, go_sem]) rfl ⟨(by rw [HV.out, if_pos trivial, mkE_agg (by omega) (by omega) (by simp) (by omega)]; rfl), ((Below.refl _ _).alloc (Nat.le_refl _) _).alloc (by simp) _⟩
        · have hc : k = 1 ∨ k = 2 ∨ k = 3 ∨ k = 4 ∨ k = 5 ∨ k = 6 ∨ k = 7 ∨ k = 8 ∨ k = 9 ∨ k = 10 ∨ k = 11 ∨ k = 12 ∨ k = 13 ∨ k = 14 ∨ k = 15 ∨ k = 16 ∨ k = 17 := by omega
          rw [if_neg h0] at HV
          have e8 := Lib.hid (show ((a : Int) + (q : Int)) % 19 = (((a + q) % 19 : Nat) : Int) by omega)
          clear h0 hk hlt e6 e7
          rcases hc with rfl | rfl | rfl | rfl | rfl | rfl | rfl | rfl | rfl | rfl | rfl | rfl | rfl | rfl | rfl | rfl | rfl
          · have HV2 := Lib.hid (show (ringG a b).1.agg = .agg #[.int .u32 (a : Int), .int .u32 (b : Int), .int .u64 2, .int .u32 (((a + q) % 19 : Nat) : Int)] ∧ (ringG a b).2 = 0 by rw [HV.out]; exact ⟨mkE_agg (by omega) (by omega) (by omega) (by omega), rfl⟩)
            clear HV
            go_wp2_with fail
            exact bodyPost_ret (v := .tuple #[.agg #[.int .u32 (a:Int), .int .u32 (b:Int), .int .u64 2, .int .u32 (((a:Int)+(q:Int)) % 19)], .int .i64 0]) (by simp [results, Try.results22, go_sem]) rfl ⟨(by rw [HV2.out.1, HV2.out.2, e8.out]), ((Below.refl _ _).alloc (Nat.le_refl _) _).alloc (by simp) _⟩
          · have HV2 := Lib.hid (show (ringG a b).1.agg = .agg #[.int .u32 (a : Int), .int .u32 (b : Int), .int .u64 4, .int .u32 (((a + q) % 19 : Nat) : Int)] ∧ (ringG a b).2 = 0 by rw [HV.out]; exact ⟨mkE_agg (by omega) (by omega) (by omega) (by omega), rfl⟩)
            clear HV
            go_wp2_with fail
            exact bodyPost_ret (v := .tuple #[.agg #[.int .u32 (a:Int), .int .u32 (b:Int), .int .u64 4, .int .u32 (((a:Int)+(q:Int)) % 19)], .int .i64 0]) (by simp [results, Try.results22, go_sem]) rfl ⟨(by rw [HV2.out.1, HV2.out.2, e8.out]), ((Below.refl _ _).alloc (Nat.le_refl _) _).alloc (by simp) _⟩
          · have HV2 := Lib.hid (show (ringG a b).1.agg = .agg #[.int .u32 (a : Int), .int .u32 (b : Int), .int .u64 8, .int .u32 (((a + q) % 19 : Nat) : Int)] ∧ (ringG a b).2 = 0 by rw [HV.out]; exact ⟨mkE_agg (by omega) (by omega) (by omega) (by omega), rfl⟩)
            clear HV
            go_wp2_with fail
            exact bodyPost_ret (v := .tuple #[.agg #[.int .u32 (a:Int), .int .u32 (b:Int), .int .u64 8, .int .u32 (((a:Int)+(q:Int)) % 19)], .int .i64 0]) (by simp [results, Try.results22, go_sem]) rfl ⟨(by rw [HV2.out.1, HV2.out.2, e8.out]), ((Below.refl _ _).alloc (Nat.le_refl _) _).alloc (by simp) _⟩
          · have HV2 := Lib.hid (show (ringG a b).1.agg = .agg #[.int .u32 (a : Int), .int .u32 (b : Int), .int .u64 16, .int .u32 (((a + q) % 19 : Nat) : Int)] ∧ (ringG a b).2 = 0 by rw [HV.out]; exact ⟨mkE_agg (by omega) (by omega) (by omega) (by omega), rfl⟩)
            clear HV
            go_wp2_with fail
            exact bodyPost_ret (v := .tuple #[.agg #[.int .u32 (a:Int), .int .u32 (b:Int), .int .u64 16, .int .u32 (((a:Int)+(q:Int)) % 19)], .int .i64 0]) (by simp [results, Try.results22, go_sem]) rfl ⟨(by rw [HV2.out.1, HV2.out.2, e8.out]), ((Below.refl _ _).alloc (Nat.le_refl _) _).alloc (by simp) _⟩
          · have HV2 := Lib.hid (show (ringG a b).1.agg = .agg #[.int .u32 (a : Int), .int .u32 (b : Int), .int .u64 32, .int .u32 (((a + q) % 19 : Nat) : Int)] ∧ (ringG a b).2 = 0 by rw [HV.out]; exact ⟨mkE_agg (by omega) (by omega) (by omega) (by omega), rfl⟩)
            clear HV
            go_wp2_with fail
            exact bodyPost_ret (v := .tuple #[.agg #[.int .u32 (a:Int), .int .u32 (b:Int), .int .u64 32, .int .u32 (((a:Int)+(q:Int)) % 19)], .int .i64 0]) (by simp [results, Try.results22, go_sem]) rfl ⟨(by rw [HV2.out.1, HV2.out.2, e8.out]), ((Below.refl _ _).alloc (Nat.le_refl _) _).alloc (by simp) _⟩
          · have HV2 := Lib.hid (show (ringG a b).1.agg = .agg #[.int .u32 (a : Int), .int .u32 (b : Int), .int .u64 64, .int .u32 (((a + q) % 19 : Nat) : Int)] ∧ (ringG a b).2 = 0 by rw [HV.out]; exact ⟨mkE_agg (by omega) (by omega) (by omega) (by omega), rfl⟩)
            clear HV
            go_wp2_with fail
            exact bodyPost_ret (v := .tuple #[.agg #[.int .u32 (a:Int), .int .u32 (b:Int), .int .u64 64, .int .u32 (((a:Int)+(q:Int)) % 19)], .int .i64 0]) (by simp [results, Try.results22, go_sem]) rfl ⟨(by rw [HV2.out.1, HV2.out.2, e8.out]), ((Below.refl _ _).alloc (Nat.le_refl _) _).alloc (by simp) _⟩
          · have HV2 := Lib.hid (show (ringG a b).1.agg = .agg #[.int .u32 (a : Int), .int .u32 (b : Int), .int .u64 128, .int .u32 (((a + q) % 19 : Nat) : Int)] ∧ (ringG a b).2 = 0 by rw [HV.out]; exact ⟨mkE_agg (by omega) (by omega) (by omega) (by omega), rfl⟩)
            clear HV
            go_wp2_with fail
            exact bodyPost_ret (v := .tuple #[.agg #[.int .u32 (a:Int), .int .u32 (b:Int), .int .u64 128, .int .u32 (((a:Int)+(q:Int)) % 19)], .int .i64 0]) (by simp [results, Try.results22, go_sem]) rfl ⟨(by rw [HV2.out.1, HV2.out.2, e8.out]), ((Below.refl _ _).alloc (Nat.le_refl _) _).alloc (by simp) _⟩
          · have HV2 := Lib.hid (show (ringG a b).1.agg = .agg #[.int .u32 (a : Int), .int .u32 (b : Int), .int .u64 256, .int .u32 (((a + q) % 19 : Nat) : Int)] ∧ (ringG a b).2 = 0 by rw [HV.out]; exact ⟨mkE_agg (by omega) (by omega) (by omega) (by omega), rfl⟩)
            clear HV
            go_wp2_with fail
            exact bodyPost_ret (v := .tuple #[.agg #[.int .u32 (a:Int), .int .u32 (b:Int), .int .u64 256, .int .u32 (((a:Int)+(q:Int)) % 19)], .int .i64 0]) (by simp [results, Try.results22, go_sem]) rfl ⟨(by rw [HV2.out.1, HV2.out.2, e8.out]), ((Below.refl _ _).alloc (Nat.le_refl _) _).alloc (by simp) _⟩
          · have HV2 := Lib.hid (show (ringG a b).1.agg = .agg #[.int .u32 (a : Int), .int .u32 (b : Int), .int .u64 512, .int .u32 (((a + q) % 19 : Nat) : Int)] ∧ (ringG a b).2 = 0 by rw [HV.out]; exact ⟨mkE_agg (by omega) (by omega) (by omega) (by omega), rfl⟩)
            clear HV
            go_wp2_with fail
            exact bodyPost_ret (v := .tuple #[.agg #[.int .u32 (a:Int), .int .u32 (b:Int), .int .u64 512, .int .u32 (((a:Int)+(q:Int)) % 19)], .int .i64 0]) (by simp [results, Try.results22, go_sem]) rfl ⟨(by rw [HV2.out.1, HV2.out.2, e8.out]), ((Below.refl _ _).alloc (Nat.le_refl _) _).alloc (by simp) _⟩
          · have HV2 := Lib.hid (show (ringG a b).1.agg = .agg #[.int .u32 (a : Int), .int .u32 (b : Int), .int .u64 1024, .int .u32 (((a + q) % 19 : Nat) : Int)] ∧ (ringG a b).2 = 0 by rw [HV.out]; exact ⟨mkE_agg (by omega) (by omega) (by omega) (by omega), rfl⟩)
            clear HV
            go_wp2_with fail
            exact bodyPost_ret (v := .tuple #[.agg #[.int .u32 (a:Int), .int .u32 (b:Int), .int .u64 1024, .int .u32 (((a:Int)+(q:Int)) % 19)], .int .i64 0]) (by simp [results, Try.results22, go_sem]) rfl ⟨(by rw [HV2.out.1, HV2.out.2, e8.out]), ((Below.refl _ _).alloc (Nat.le_refl _) _).alloc (by simp) _⟩
          · have HV2 := Lib.hid (show (ringG a b).1.agg = .agg #[.int .u32 (a : Int), .int .u32 (b : Int), .int .u64 2048, .int .u32 (((a + q) % 19 : Nat) : Int)] ∧ (ringG a b).2 = 0 by rw [HV.out]; exact ⟨mkE_agg (by omega) (by omega) (by omega) (by omega), rfl⟩)
            clear HV
            go_wp2_with fail
            exact bodyPost_ret (v := .tuple #[.agg #[.int .u32 (a:Int), .int .u32 (b:Int), .int .u64 2048, .int .u32 (((a:Int)+(q:Int)) % 19)], .int .i64 0]) (by simp [results, Try.results22, go_sem]) rfl ⟨(by rw [HV2.out.1, HV2.out.2, e8.out]), ((Below.refl _ _).alloc (Nat.le_refl _) _).alloc (by simp) _⟩
          · have HV2 := Lib.hid (show (ringG a b).1.agg = .agg #[.int .u32 (a : Int), .int .u32 (b : Int), .int .u64 4096, .int .u32 (((a + q) % 19 : Nat) : Int)] ∧ (ringG a b).2 = 0 by rw [HV.out]; exact ⟨mkE_agg (by omega) (by omega) (by omega) (by omega), rfl⟩)
            clear HV
            go_wp2_with fail
            exact bodyPost_ret (v := .tuple #[.agg #[.int .u32 (a:Int), .int .u32 (b:Int), .int .u64 4096, .int .u32 (((a:Int)+(q:Int)) % 19)], .int .i64 0]) (by simp [results, Try.results22, go_sem]) rfl ⟨(by rw [HV2.out.1, HV2.out.2, e8.out]), ((Below.refl _ _).alloc (Nat.le_refl _) _).alloc (by simp) _⟩
          · have HV2 := Lib.hid (show (ringG a b).1.agg = .agg #[.int .u32 (a : Int), .int .u32 (b : Int), .int .u64 8192, .int .u32 (((a + q) % 19 : Nat) : Int)] ∧ (ringG a b).2 = 0 by rw [HV.out]; exact ⟨mkE_agg (by omega) (by omega) (by omega) (by omega), rfl⟩)
            clear HV
            go_wp2_with fail
            exact bodyPost_ret (v := .tuple #[.agg #[.int .u32 (a:Int), .int .u32 (b:Int), .int .u64 8192, .int .u32 (((a:Int)+(q:Int)) % 19)], .int .i64 0]) (by simp [results, Try.results22, go_sem]) rfl ⟨(by rw [HV2.out.1, HV2.out.2, e8.out]), ((Below.refl _ _).alloc (Nat.le_refl _) _).alloc (by simp) _⟩
          · have HV2 := Lib.hid (show (ringG a b).1.agg = .agg #[.int .u32 (a : Int), .int .u32 (b : Int), .int .u64 16384, .int .u32 (((a + q) % 19 : Nat) : Int)] ∧ (ringG a b).2 = 0 by rw [HV.out]; exact ⟨mkE_agg (by omega) (by omega) (by omega) (by omega), rfl⟩)
            clear HV
            go_wp2_with fail
            exact bodyPost_ret (v := .tuple #[.agg #[.int .u32 (a:Int), .int .u32 (b:Int), .int .u64 16384, .int .u32 (((a:Int)+(q:Int)) % 19)], .int .i64 0]) (by simp [results, Try.results22, go_sem]) rfl ⟨(by rw [HV2.out.1, HV2.out.2, e8.out]), ((Below.refl _ _).alloc (Nat.le_refl _) _).alloc (by simp) _⟩
          · have HV2 := Lib.hid (show (ringG a b).1.agg = .agg #[.int .u32 (a : Int), .int .u32 (b : Int), .int .u64 32768, .int .u32 (((a + q) % 19 : Nat) : Int)] ∧ (ringG a b).2 = 0 by rw [HV.out]; exact ⟨mkE_agg (by omega) (by omega) (by omega) (by omega), rfl⟩)
            clear HV
            go_wp2_with fail
            exact bodyPost_ret (v := .tuple #[.agg #[.int .u32 (a:Int), .int .u32 (b:Int), .int .u64 32768, .int .u32 (((a:Int)+(q:Int)) % 19)], .int .i64 0]) (by simp [results, Try.results22, go_sem]) rfl ⟨(by rw [HV2.out.1, HV2.out.2, e8.out]), ((Below.refl _ _).alloc (Nat.le_refl _) _).alloc (by simp) _⟩
          · have HV2 := Lib.hid (show (ringG a b).1.agg = .agg #[.int .u32 (a : Int), .int .u32 (b : Int), .int .u64 65536, .int .u32 (((a + q) % 19 : Nat) : Int)] ∧ (ringG a b).2 = 0 by rw [HV.out]; exact ⟨mkE_agg (by omega) (by omega) (by omega) (by omega), rfl⟩)
            clear HV
            go_wp2_with fail
            exact bodyPost_ret (v := .tuple #[.agg #[.int .u32 (a:Int), .int .u32 (b:Int), .int .u64 65536, .int .u32 (((a:Int)+(q:Int)) % 19)], .int .i64 0]) (by simp [results, Try.results22, go_sem]) rfl ⟨(by rw [HV2.out.1, HV2.out.2, e8.out]), ((Below.refl _ _).alloc (Nat.le_refl _) _).alloc (by simp) _⟩
          · have HV2 := Lib.hid (show (ringG a b).1.agg = .agg #[.int .u32 (a : Int), .int .u32 (b : Int), .int .u64 131072, .int .u32 (((a + q) % 19 : Nat) : Int)] ∧ (ringG a b).2 = 0 by rw [HV.out]; exact ⟨mkE_agg (by omega) (by omega) (by omega) (by omega), rfl⟩)
            clear HV
            go_wp2_with fail
            exact bodyPost_ret (v := .tuple #[.agg #[.int .u32 (a:Int), .int .u32 (b:Int), .int .u64 131072, .int .u32 (((a:Int)+(q:Int)) % 19)], .int .i64 0]) (by simp [results, Try.results22, go_sem]) rfl ⟨(by rw [HV2.out.1, HV2.out.2, e8.out]), ((Below.refl _ _).alloc (Nat.le_refl _) _).alloc (by simp) _⟩
      · have HN2 : Hid (NoPw far (k + 1)) := Lib.hid (fun j hj => by
          rcases Nat.lt_or_ge j k with h | h
          · exact HN.out j h
          · have : j = k := by omega
            subst this; exact he)
        have g3 : ((pw k : Int) == (far : Int)) = false := by rw [beq_eq_false_iff_ne]; omega
        have hp := pw_lt k
        have hs := Lib.hid (pw_succ k)
        have hh := Lib.hid (hf_succ k)
        clear HN he
        generalize hf k = q at *
        generalize pw k = p at *
        have e5 : (2 * (p : Int)) < 4294967296 := by omega
        have e6 : (k : Int) < 18 := by omega
        have e7 := Lib.hid (show (2 * (p : Int)) % 19 = ((2 * p % 19 : Nat) : Int) by omega)
        go_wp2_with fail
        go_round
        case rel => exact ⟨k + 1, by omega, by rw [hh.out], by rw [hs.out, e7.out], by go_num, HN2⟩
        case measure => simp [intOf]; omega
    · have HV := Lib.hid (ring_miss ha hb (HF.out ▸ HN.out) (by omega))
      have e6 : ¬ (k : Int) < 18 := by omega
      clear HN
      generalize hf k = q at *
      generalize pw k = p at *
      go_wp2_with fail
      exact bodyPost_ret (v := .tuple #[.agg #[.int .u32 0, .int .u32 0, .int .u64 0, .int .u32 0], .int .i64 3]) (by simp [results, Try.results22, go_sem]) rfl ⟨(by rw [HV.out]; rfl), (Below.refl _ _).alloc (Nat.le_refl _) _⟩
theorem ring_tells (S : Nat) : Tells 22 (.pointer (some ⟨S, 0, none⟩)) ringG (fun _ => True) :=
  ⟨fun args w => run_enter Try.func22 (by kernel_rfl) rfl args w, fun a b w ha hb _ => by
    by_cases h : 18 < a ∨ 18 < b
    · exact ringFirst_far S a b w h
    · exact ringFirst_near S a b w (by omega) (by omega)⟩
/-- Way by the ring -/
theorem way_ring (S a b : Nat) (ha : a < 4294967296) (hb : b < 4294967296) (w : World) :
    Calls Try.prog 13 #[.func (.func 22) #[.pointer (some ⟨S, 0, none⟩)] #[], .int .u32 (a : Int), .int .u32 (b : Int)] w (WayTold w (openV ringG 65536 [] a b)) :=
  way_any _ (.pointer (some ⟨S, 0, none⟩)) ringG _ (ring_tells S) a b ha hb w trivial (fun _ _ h _ => h)
end Go.Proofs.Ytongpcfjfolfbaa
