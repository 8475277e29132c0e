/- Slices that the call itself owns, as lists of elements; append onto them of a slice that reads as a list. -/
import Derived.Test.YtpnmfhcmodoeiaaG
import Derived.Maps.AppendAt
import Derived.Deep.AppendLies
namespace Go.Proofs.Ytpnmfhcmodoeiaa
open Go.RowKit

/-- what is known of a slice type t of elements e: sz cells, so many bytes, written as enc does -/
structure Ety {α : Type} (P : Program) (t e : TypeId) (sz bytes : Nat) (enc : α → List Value) : Prop where
  ht : P.underlying t = some (.slice e)
  hi : ∃ i z, P.info? e = some i ∧ i.zero = some z ∧ i.size = sz ∧ i.bytes = bytes ∧ z.cells.size = sz
  hsz : 0 < sz
  hlen : ∀ x, (enc x).length = sz
  hone : ∀ x, ∀ u ∈ enc x, u.oneCell' = true

theorem flat_length {α : Type} {sz : Nat} {enc : α → List Value} (h : ∀ x, (enc x).length = sz) : ∀ l : List α, (l.flatMap enc).length = l.length * sz
  | [] => by simp
  | x :: l => by rw [List.flatMap_cons, List.length_append, h, flat_length h l, List.length_cons, Nat.add_mul]; omega
theorem flat_at {α : Type} {sz : Nat} {enc : α → List Value} (h : ∀ x, (enc x).length = sz) : ∀ (l : List α) (i j : Nat) (hi : i < l.length), j < sz → (l.flatMap enc)[i * sz + j]? = (enc l[i])[j]?
  | [], i, j, hi, _ => by simp at hi
  | x :: l, i, j, hi, hj => by
    rw [List.flatMap_cons]
    cases i with
    | zero => rw [List.getElem?_append_left (by rw [h]; omega)]; simp
    | succ i =>
      rw [List.getElem?_append_right (by rw [h, Nat.succ_mul]; omega), h, show (i + 1) * sz + j - sz = i * sz + j by rw [Nat.succ_mul]; omega]
      simpa using flat_at h l i j (by simpa using hi) hj
theorem flat_mem {α : Type} {sz : Nat} {enc : α → List Value} (h : ∀ x, (enc x).length = sz) (hsz : 0 < sz) (l : List α) (k : Nat) (u : Value) (hk : (l.flatMap enc)[k]? = some u) :
    ∃ (hi : k / sz < l.length), (enc l[k / sz])[k % sz]? = some u := by
  have hlt : k < l.length * sz := by
    rw [← flat_length h]
    exact (List.getElem?_eq_some_iff.1 hk).1
  have hi : k / sz < l.length := Nat.div_lt_of_lt_mul (by rw [Nat.mul_comm]; exact hlt)
  refine ⟨hi, ?_⟩
  rw [← flat_at h l (k / sz) (k % sz) hi (Nat.mod_lt _ hsz), Nat.div_add_mod']
  exact hk

/-- a slice value owns the list l, from block 'base' on -/
def OwnS {α : Type} (w : World) (base : Nat) (e : TypeId) (sz : Nat) (enc : α → List Value) (v : Value) (l : List α) : Prop := w.ownsRow base e sz v l.length (l.flatMap enc)

section
variable {α : Type} {w w' : World} {base : Nat} {e : TypeId} {sz : Nat} {enc : α → List Value} {v : Value} {l : List α}
theorem OwnS.nil (w : World) (base : Nat) (e : TypeId) (sz : Nat) (enc : α → List Value) : OwnS w base e sz enc (.slice none 0 0) [] := World.ownsRow_nil _ _ _ _
theorem OwnS.form (h : OwnS w base e sz enc v l) : ∃ A c, v = .slice A l.length c ∧ l.length ≤ c := by
  rcases h.2 with ⟨hv, h0⟩ | ⟨g, cap, cur, hv, _, _, hc, _⟩
  · exact ⟨none, 0, by rw [hv, h0], by omega⟩
  · exact ⟨_, cap, hv, hc⟩
theorem OwnS.kept {row : Option Nat} (h : OwnS w base e sz enc v l) (hg : w.grownBy w' row) (hne : v.ownBlock = none ∨ v.ownBlock ≠ row) : OwnS w' base e sz enc v l := World.ownsRow.kept h hg hne
theorem OwnS.alloc (h : OwnS w base e sz enc v l) (o : Obj) : OwnS (w.alloc o) base e sz enc v l := World.ownsRow.alloc h o
theorem OwnS.drewN (h : OwnS w base e sz enc v l) (n : Nat) : OwnS (w.drewN n) base e sz enc v l := h
theorem OwnS.lt (h : OwnS w base e sz enc v l) : ∀ k, v.ownBlock = some k → base ≤ k ∧ k < w.heap.size := World.ownsRow.lt h
/-- what is owned below a bound stays, where nothing below the bound turns -/
theorem OwnS.below {B : Nat} (h : OwnS w base e sz enc v l) (hb : Below B w w') (hB : ∀ k, v.ownBlock = some k → k < B) : OwnS w' base e sz enc v l := by
  obtain ⟨h1, h2⟩ := h
  refine ⟨h1, ?_⟩
  rcases h2 with h2 | ⟨g, cap, cur, hv, hg, hh, r⟩
  · exact .inl h2
  · exact .inr ⟨g, cap, cur, hv, hg, (hb.block g (hB g (by rw [hv]; rfl))).trans hh, r⟩
theorem OwnS.sr {A : Option Addr} {n c : Nat} (hl : ∀ x, (enc x).length = sz) (h : OwnS w base e sz enc (.slice A n c) l) (hmax : l.length ≤ 4611686018427387904) : SR sz enc w.heap.size w A l := by
  refine ⟨hmax, fun i hi => ?_⟩
  rcases h.2 with ⟨_, h0⟩ | ⟨g, cap, cur, hv, hg, hh, _⟩
  · omega
  · have hA : A = some ⟨g, 0, none⟩ := by injection hv
    subst hA
    refine ⟨g, 0, rfl, (World.ownsRow.lt h g rfl).2, fun j u hj => ?_⟩
    have hjs : j < sz := by rw [← hl l[i]]; exact (List.getElem?_eq_some_iff.1 hj).1
    have hc := World.ownsRow.cells h (g := g) rfl (i * sz + j) u (by rw [flat_at hl l i j hi hjs]; exact hj)
    have hadd : (⟨g, 0, none⟩ : Addr).add (i * sz + j) = ⟨g, 0 + i * sz + j, none⟩ := by
      unfold Addr.add
      split
      · rename_i hz; simp only [Addr.mk.injEq, true_and, and_true]; omega
      · simp only [Addr.mk.injEq, true_and, and_true]; omega
    rw [hadd] at hc
    exact hc
end

section
variable {α : Type} {P : Program} (w : World)

/-- append of a slice that reads as the list 'news', onto a slice of the call's own -/
theorem run_append_sr {t e : TypeId} {sz bytes : Nat} {enc : α → List Value} (E : Ety P t e sz bytes enc) (ty : TypeId) (base : Nat) (v : Value) (l : List α) (hown : OwnS w base e sz enc v l)
    (B : Nat) (A : Option Addr) (c : Nat) (news : List α) (hr : SR sz enc B w A news)
    (h63 : l.length + news.length ≤ maxLen) (hbytes : (l.length + news.length) * bytes ≤ 140737488355328) (hbase : base ≤ w.heap.size) :
    ∃ A' c' w', (Builtin.append_ #[t, t] ty #[v, .slice A news.length c]).run P w = .ok (.slice A' (l.length + news.length) c') w' ∧
      OwnS w' base e sz enc (.slice A' (l.length + news.length) c') (l ++ news) ∧ w.grownBy w' v.ownBlock ∧
      ((Value.slice A' (l.length + news.length) c').ownBlock = v.ownBlock ∨ (Value.slice A' (l.length + news.length) c').ownBlock = some w.heap.size) := by
  obtain ⟨i, z, hi, hz, hsize, hby, hzs⟩ := E.hi
  rcases Nat.eq_zero_or_pos news.length with h0 | hpos
  · have hn : news = [] := List.eq_nil_of_length_eq_zero h0
    subst hn
    obtain ⟨A0, c0, rfl, _⟩ := hown.form
    refine ⟨A0, c0, w, ?_, by simpa using hown, World.grownBy.refl w _, .inl (by simp)⟩
    rcases hown.2 with ⟨hv, hl0⟩ | ⟨g, cap, cur, hv, _, _, hnc, _⟩
    · simp only [Value.slice.injEq] at hv
      obtain ⟨rfl, _, rfl⟩ := hv
      simp [Builtin.append_, run_underlying E.ht, sizeOf, typeInfo, hi, Builtin.lenOf, Builtin.firstCells, hl0]
      cases A <;> simp [loadCells, loadCellsFrom]
    · simp only [Value.slice.injEq] at hv
      obtain ⟨rfl, _, rfl⟩ := hv
      simp [Builtin.append_, run_underlying E.ht, sizeOf, typeInfo, hi, Builtin.lenOf, Builtin.firstCells, hnc]
      cases A <;> simp [loadCells, loadCellsFrom, storeCells]
  · obtain ⟨b, o, hA, _, _⟩ := hr.at_ 0 hpos
    subst hA
    have hcells : ∀ j u, (news.flatMap enc)[j]? = some u → w.cell? ((⟨b, o, none⟩ : Addr).add j) = some u := by
      intro j u hu
      obtain ⟨hi', hju⟩ := flat_mem E.hlen E.hsz news j u hu
      obtain ⟨b', o', hA', _, hc⟩ := hr.at_ (j / sz) hi'
      obtain ⟨rfl, rfl⟩ : b = b' ∧ o = o' := by simpa using hA'
      have hcc := hc _ u hju
      rw [Nat.add_assoc, Nat.div_add_mod'] at hcc
      have hadd : (⟨b, o, none⟩ : Addr).add j = ⟨b, o + j, none⟩ := by unfold Addr.add; split <;> simp_all
      rw [hadd]; exact hcc
    have hlen : (news.flatMap enc).length = news.length * sz := flat_length E.hlen news
    have hone : ∀ u ∈ news.flatMap enc, u.oneCell' = true := fun u hu => by
      obtain ⟨x, _, hx⟩ := List.mem_flatMap.1 hu
      exact E.hone x u hx
    obtain ⟨v', w', hrun, h2, h3, _, h5⟩ := run_append_own_at (P := P) w base t ty e i z sz bytes E.ht hi hz hsize hby hzs E.hsz v l.length (l.flatMap enc) hown ⟨b, o, none⟩ news.length c (news.flatMap enc) hlen hcells hone h63 hbytes hbase
    obtain ⟨g, cap, rfl, _, _⟩ := h2.form (by omega)
    refine ⟨_, cap, w', hrun, ?_, h3, h5⟩
    unfold OwnS
    rw [List.length_append, List.flatMap_append]
    exact h2

/-- at the operation, in a plain region -/
theorem wpList_append_sr {ops : Array Oper} {rest : List Oper} {o : Oper} {a : Act} {Q : Exit → Act → World → Prop} (hgd : o.guard = none) (s x : Operand)
    {t e : TypeId} {sz bytes : Nat} {enc : α → List Value} (E : Ety P t e sz bytes enc)
    (ho : o.op = .call { callee := .builtin .append, args := #[s, x], argTypes := #[t, t] })
    (base : Nat) (v : Value) (l : List α) (hs : a.eval s = v) (hown : OwnS w base e sz enc v l)
    (B : Nat) (A : Option Addr) (m c : Nat) (news : List α) (hx : a.eval x = .slice A m c) (hm : m = news.length) (hr : SR sz enc B w A news)
    (h63 : l.length + news.length ≤ maxLen) (hbytes : (l.length + news.length) * bytes ≤ 140737488355328) (hbase : base ≤ w.heap.size)
    (h : ∀ A' c' w', OwnS w' base e sz enc (.slice A' (l.length + news.length) c') (l ++ news) → w.grownBy w' v.ownBlock →
      ((Value.slice A' (l.length + news.length) c').ownBlock = v.ownBlock ∨ (Value.slice A' (l.length + news.length) c').ownBlock = some w.heap.size) →
      wpList P ops Q rest (a.put o.dst (.slice A' (l.length + news.length) c')) w') : wpList P ops Q (o :: rest) a w := by
  refine wpList_plain hgd fun K hK => ?_
  subst hm
  obtain ⟨A', c', w', hr, h2, h3, h4⟩ := run_append_sr (P := P) w E o.type base v l hown B A c news hr h63 hbytes hbase
  unfold Oper.wp execOp
  simp only [ho, resolve, invoke, builtin, Sem.run_bind, Sem.run_pure, Result.andThen_ok, List.map_toArray, List.map_cons, List.map_nil, hs, hx, hr]
  exact hK _ _ (h A' c' w' h2 h3 h4)
end

/-- an element in a block of its own reads as a list of one -/
theorem SR.one {α : Type} {sz : Nat} {enc : α → List Value} {w : World} {g : Nat} {cs : Array Value} {t : TypeId} {fr : Nat × Nat} (x : α) (hb : w.heap[g]? = some (.cells cs t fr)) (hcs : cs.toList = enc x) (B : Nat) (hB : g < B) :
    SR sz enc B w (some ⟨g, 0, none⟩) [x] := by
  refine ⟨by simp, fun i hi => ⟨g, 0, rfl, hB, fun j v hv => ?_⟩⟩
  have h0 : i = 0 := by simp at hi; exact hi
  subst h0
  simp only [List.getElem_cons_zero] at hv
  rw [cell_of_row w g _ cs t fr hb]
  simp only [Nat.zero_mul, Nat.add_zero, Nat.zero_add]
  rw [← Array.getElem?_toList, hcs]
  exact hv
end Go.Proofs.Ytpnmfhcmodoeiaa
