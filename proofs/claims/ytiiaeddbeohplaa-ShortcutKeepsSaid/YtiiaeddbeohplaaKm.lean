/- A table of rows in memory, each row in a block of its own. -/
import Derived.Test.YtiiaeddbeohplaaKv
namespace Go.Proofs.Ytiiaeddbeohplaa
open Go.RowKit
def xEnc : Nat → List Value := fun v => [Value.int .u64 (v : Int)]
abbrev OwnX (w : World) (base : Nat) (v : Value) (l : List Nat) : Prop := OwnS w base 41 1 xEnc v l
theorem flat_x : ∀ l : List Nat, l.flatMap xEnc = l.map fun v : Nat => Value.int .u64 (v : Int)
  | [] => rfl
  | x :: l => by rw [List.flatMap_cons, flat_x l]; rfl
theorem OwnX.made {w : World} {base g n : Nat} (h : w.ownsRow base 41 1 (.slice (some ⟨g, 0, none⟩) n n) n (madeCells (Value.int .u64 0).cells (n * 1)).toList) : OwnX w base (.slice (some ⟨g, 0, none⟩) n n) (List.replicate n 0) := by
  unfold OwnX OwnS
  rw [List.length_replicate, flat_x, List.map_replicate]
  have e : (madeCells (Value.int .u64 0).cells (n * 1)).toList = List.replicate n (.int .u64 0) := by rw [Nat.mul_one]; exact toList_madeCells_one _ _
  rw [e] at h
  exact h
section
variable {w w' : World} {base g n c : Nat} {l : List Nat}
theorem OwnX.cell (h : OwnX w base (.slice (some ⟨g, 0, none⟩) n c) l) (i : Nat) (hi : i < l.length) : w.cell? ⟨g, i, none⟩ = some (.int .u64 (l[i] : Int)) := by
  obtain ⟨A0, c0, hv, _⟩ := h.form
  injection hv with _ hn _
  subst hn
  have := World.ownsRow.cellAt h i (by omega)
  rw [this, flat_x, List.getElem?_map, List.getElem?_eq_getElem hi]; rfl
theorem OwnX.put (h : OwnX w base (.slice (some ⟨g, 0, none⟩) n c) l) (hn : n = l.length) (i : Nat) (hi : i < l.length) (v : Nat) : OwnX (w.setCell ⟨g, i, none⟩ (.int .u64 (v : Int))) base (.slice (some ⟨g, 0, none⟩) n c) (l.set i v) ∧ w.grownBy (w.setCell ⟨g, i, none⟩ (.int .u64 (v : Int))) (some g) := by
  have := OwnS.put (sz := 1) (enc := xEnc) (fun _ => rfl) h hn i 0 hi (by omega) v (.int .u64 (v : Int)) rfl
  rwa [Nat.mul_one, Nat.add_zero] at this
end
theorem x_info : (Try.prog.info? 41).map (fun i => (i.zero, i.size, i.bytes)) = some (some (.int .u64 0), 1, 8) := by kernel_rfl
/-- a row as a value: the block that holds it -/
def gEnc (N g : Nat) : List Value := [Value.slice (some ⟨g, 0, none⟩) N N]
theorem g_info : (Try.prog.info? 49).map (fun i => (i.zero, i.size, i.bytes)) = some (some (.slice none 0 0), 1, 24) := by kernel_rfl
theorem g_ety (N : Nat) : Ety Try.prog 47 49 1 24 (gEnc N) := by
  obtain ⟨i, hi, hz, hs, hb⟩ := info_parts g_info
  exact ⟨Try.underlying47, ⟨i, _, hi, hz, hs, hb, rfl⟩, by omega, fun _ => rfl, fun x u hu => by simp [gEnc] at hu; subst hu; rfl⟩
/-- a table in memory: the row i lies in block gs[i] -/
structure Tab (base N : Nat) (A : Option Addr) (c : Nat) (gs : List Nat) (R : List (List Nat)) (w : World) : Prop where
  own : OwnS w base 49 1 (gEnc N) (.slice A gs.length c) gs
  len : R.length = gs.length
  row : ∀ i (h : i < gs.length) (h' : i < R.length), OwnX w base (.slice (some ⟨gs[i], 0, none⟩) N N) R[i]
  rlen : ∀ i (h' : i < R.length), R[i].length = N
  nodup : gs.Nodup
  apart : ∀ g ∈ gs, (Value.slice A gs.length c).ownBlock ≠ some g
section
variable {base N c : Nat} {A : Option Addr} {gs : List Nat} {R : List (List Nat)} {w w' : World}
theorem Tab.nil (base N : Nat) (w : World) : Tab base N none 0 [] [] w := ⟨OwnS.nil _ _ _ _ _, rfl, fun i h => absurd h (Nat.not_lt_zero i), fun i h => absurd h (Nat.not_lt_zero i), List.nodup_nil, fun g h => by cases h⟩
theorem Tab.kept (h : Tab base N A c gs R w) {r : Option Nat} (hg : w.grownBy w' r) (hr : ∀ g, r = some g → g ∉ gs ∧ (Value.slice A gs.length c).ownBlock ≠ some g) : Tab base N A c gs R w' := by
  refine ⟨h.own.kept hg ?_, h.len, fun i h1 h2 => (h.row i h1 h2).kept hg (.inr fun e => ?_), h.rlen, h.nodup, h.apart⟩
  · cases r with
    | none => cases hb : (Value.slice A gs.length c).ownBlock with
      | none => exact .inl rfl
      | some k => exact .inr (by simp)
    | some g => exact .inr (hr g rfl).2
  · exact (hr gs[i] e.symm).1 (List.getElem_mem h1)
theorem Tab.below (h : Tab base N A c gs R w) (hb : Below w.heap.size w w') : Tab base N A c gs R w' :=
  ⟨h.own.below hb fun k hk => (h.own.lt k hk).2, h.len, fun i h1 h2 => (h.row i h1 h2).below hb fun k hk => ((h.row i h1 h2).lt k hk).2, h.rlen, h.nodup, h.apart⟩
theorem Tab.cell (h : Tab base N A c gs R w) {i j : Nat} (hi : i < gs.length) (hj : j < N) : w.cell? ⟨gs[i], j, none⟩ = some (.int .u64 ((((R.getD i []).getD j 0 : Nat)) : Int)) := by
  have hi' : i < R.length := by rw [h.len]; exact hi
  have hj' : j < R[i].length := by rw [h.rlen i hi']; exact hj
  rw [(h.row i hi hi').cell j hj', List.getD_eq_getElem?_getD, List.getD_eq_getElem?_getD, List.getElem?_eq_getElem hi']
  show _ = some (Value.int .u64 ((R[i][j]?.getD 0 : Nat) : Int))
  rw [List.getElem?_eq_getElem hj']; rfl
theorem Tab.froz (h : Tab base N A c gs R w) {i : Nat} (hi : i < gs.length) (j : Nat) : w.frozen? ⟨gs[i], j, none⟩ = false := OwnS.frozen (h.row i hi (by rw [h.len]; exact hi)) j
theorem Tab.outer (h : Tab base N A c gs R w) (hm : gs.length ≤ 4611686018427387904) {i : Nat} (hi : i < gs.length) : ∃ b o, A = some ⟨b, o, none⟩ ∧ w.cell? ⟨b, o + i, none⟩ = some (.slice (some ⟨gs[i], 0, none⟩) N N) := by
  obtain ⟨b, o, hA, _, hc⟩ := (OwnS.sr (enc := gEnc N) (fun _ => rfl) h.own hm).at_ i hi
  have := hc 0 _ rfl
  rw [Nat.mul_one, Nat.add_zero] at this
  exact ⟨b, o, hA, this⟩
theorem Tab.put (h : Tab base N A c gs R w) {i j : Nat} (hi : i < gs.length) (hj : j < N) (v : Nat) : Tab base N A c gs (R.set i ((R.getD i []).set j v)) (w.setCell ⟨gs[i], j, none⟩ (.int .u64 (v : Int))) ∧ w.grownBy (w.setCell ⟨gs[i], j, none⟩ (.int .u64 (v : Int))) (some gs[i]) := by
  have hi' : i < R.length := by rw [h.len]; exact hi
  have hl := h.rlen i hi'
  have he : R.getD i [] = R[i] := by rw [List.getD_eq_getElem?_getD, List.getElem?_eq_getElem hi']; rfl
  obtain ⟨h1, h2⟩ := (h.row i hi hi').put hl.symm j (by rw [hl]; exact hj) v
  rw [he]
  refine ⟨⟨h.own.kept h2 (.inr (h.apart _ (List.getElem_mem hi))), by rw [List.length_set]; exact h.len, fun k hk hk' => ?_, fun k hk => ?_, h.nodup, h.apart⟩, h2⟩
  · by_cases e : i = k
    · subst e; rw [List.getElem_set_self]; exact h1
    · rw [List.getElem_set_ne e]
      rw [List.length_set] at hk'
      exact (h.row k hk hk').kept h2 (.inr fun e2 => e (by
        have e3 : some gs[k] = some gs[i] := e2
        injection e3 with e3
        exact ((List.getElem_inj h.nodup).1 e3).symm))
  · rw [List.length_set] at hk
    by_cases e : i = k
    · subst e; rw [List.getElem_set_self, List.length_set]; exact hl
    · rw [List.getElem_set_ne e]; exact h.rlen k hk
/-- one row more -/
theorem Tab.add (h : Tab base N A c gs R w) {g : Nat} {r : List Nat} (hr : OwnX w base (.slice (some ⟨g, 0, none⟩) N N) r) (hl : r.length = N) (hg : g ∉ gs) (hA : (Value.slice A gs.length c).ownBlock ≠ some g) {A' : Option Addr} {c' : Nat}
    (hown : OwnS w' base 49 1 (gEnc N) (.slice A' (gs.length + 1) c') (gs ++ [g])) (hgr : w.grownBy w' (Value.slice A gs.length c).ownBlock) (hx : (Value.slice A' (gs.length + 1) c').ownBlock = (Value.slice A gs.length c).ownBlock ∨ ∃ k, w.heap.size ≤ k ∧ (Value.slice A' (gs.length + 1) c').ownBlock = some k) :
    Tab base N A' c' (gs ++ [g]) (R ++ [r]) w' := by
  have hgl : (gs ++ [g]).length = gs.length + 1 := by simp
  have hrw : ∀ i (h1 : i < gs.length) (h2 : i < R.length), OwnX w' base (.slice (some ⟨gs[i], 0, none⟩) N N) R[i] := fun i h1 h2 => (h.row i h1 h2).kept hgr (.inr fun e => h.apart _ (List.getElem_mem h1) e.symm)
  have hrg : OwnX w' base (.slice (some ⟨g, 0, none⟩) N N) r := hr.kept hgr (.inr fun e => hA e.symm)
  refine ⟨by rw [hgl]; exact hown, by simp [h.len], fun i h1 h2 => ?_, fun i h1 => ?_, ?_, fun k hk => ?_⟩
  · by_cases e : i < gs.length
    · have e2 : i < R.length := by rw [h.len]; exact e
      rw [List.getElem_append_left e, List.getElem_append_left e2]
      exact hrw i e e2
    · have e1 : i = gs.length := by rw [hgl] at h1; omega
      subst e1
      have e2 : (R ++ [r])[gs.length] = r := by rw [List.getElem_append_right (by rw [h.len]; exact Nat.le_refl _)]; simp [h.len]
      have e3 : (gs ++ [g])[gs.length] = g := by rw [List.getElem_append_right (Nat.le_refl _)]; simp
      rw [e2, e3]; exact hrg
  · by_cases e : i < R.length
    · rw [List.getElem_append_left e]; exact h.rlen i e
    · have e1 : i = R.length := by simp at h1; omega
      subst e1
      rw [List.getElem_append_right (Nat.le_refl _)]; simp [hl]
  · exact List.nodup_append.2 ⟨h.nodup, by simp, fun a ha b hb => by
      have : b = g := by simpa using hb
      subst this
      exact fun e => hg (e ▸ ha)⟩
  · rw [hgl]
    rcases hx with hx | ⟨m, hm, hx⟩
    · rw [hx]
      rcases List.mem_append.1 hk with hk | hk
      · exact h.apart k hk
      · have : k = g := by simpa using hk
        subst this; exact hA
    · rw [hx]
      intro e
      injection e with e
      rcases List.mem_append.1 hk with hk | hk
      · obtain ⟨i, hi, rfl⟩ := List.mem_iff_getElem.1 hk
        have := ((h.row i hi (by rw [h.len]; exact hi)).lt gs[i] rfl).2
        omega
      · have : k = g := by simpa using hk
        subst this
        have := (hr.lt k rfl).2
        omega
end
/-- a table of vertices: what T tells of each two -/
def rowsOf (V : List Nat) (T : Nat → Nat → Nat) : List (List Nat) := V.map fun u => V.map (T u)
theorem rows_at {V : List Nat} {T : Nat → Nat → Nat} {i j : Nat} (hi : i < V.length) (hj : j < V.length) : ((rowsOf V T).getD i []).getD j 0 = T V[i] V[j] := by
  unfold rowsOf
  rw [List.getD_eq_getElem?_getD, List.getD_eq_getElem?_getD, List.getElem?_map, List.getElem?_eq_getElem hi]
  show (V.map (T V[i]))[j]?.getD 0 = _
  rw [List.getElem?_map, List.getElem?_eq_getElem hj]; rfl
def upd2 (T : Nat → Nat → Nat) (a b s u v : Nat) : Nat := if u = a ∧ v = b then s else T u v
theorem rows_put {V : List Nat} (hn : V.Nodup) (T : Nat → Nat → Nat) {i j s : Nat} (hi : i < V.length) (hj : j < V.length) : (rowsOf V T).set i (((rowsOf V T).getD i []).set j s) = rowsOf V (upd2 T V[i] V[j] s) := by
  unfold rowsOf
  apply List.ext_getElem
  · simp
  · intro k h1 h2
    have hk : k < V.length := by simpa using h2
    rw [List.getElem_map]
    by_cases e : i = k
    · subst e
      rw [List.getElem_set_self, List.getD_eq_getElem?_getD, List.getElem?_map, List.getElem?_eq_getElem hi]
      show (V.map (T V[i])).set j s = _
      apply List.ext_getElem
      · simp
      · intro m m1 m2
        have hm : m < V.length := by simpa using m2
        rw [List.getElem_set, List.getElem_map, List.getElem_map]
        unfold upd2
        by_cases e : j = m
        · subst e; rw [if_pos rfl, if_pos ⟨rfl, rfl⟩]
        · rw [if_neg e, if_neg (fun e2 => e ((List.getElem_inj hn).1 e2.2).symm)]
    · rw [List.getElem_set_ne e, List.getElem_map]
      apply List.ext_getElem
      · simp
      · intro m m1 m2
        rw [List.getElem_map, List.getElem_map]
        unfold upd2
        rw [if_neg (fun e2 => e ((List.getElem_inj hn).1 e2.1).symm)]
end Go.Proofs.Ytiiaeddbeohplaa
