/-
The logic's operations: values that are put together. No condition.
-/
import Derived.Test.YtkgjplamdmakpaaGreatDoorBeeG
namespace Go.Bee
set_option linter.unusedVariables false

theorem RepC.one {P : Program} {G : Gh} {w : World} {p : Pos} {x : PV} {v : Value} (h : RepC P G w p x v) (hx : pvCells x = some [x]) : v.oneCell' = true := by
  cases x <;> simp only [pvCells, reduceCtorEq] at hx
  case d y => exact h.1.oneCell h.2
  case nilS => have h' : v = .slice none 0 0 := h; rw [h']; rfl
  case nn sz l => cases h.1 <;> rfl
  case own e sz l => cases h.1 <;> rfl
  case ptr b o => have h' := h.1; rw [h']; rfl
  case rsl b e sz n => have h' := h.1; rw [h']; rfl
  case rsv b sz n => obtain ⟨k, h1, h2, h3, h4⟩ := h; rw [h2]; rfl
  case q x => exact h.1.oneCell h.2
  case zs x => exact h.1.oneCell
  case zp x => obtain ⟨g, o, h1, h2⟩ := h; rw [h1]; rfl
  case eptr cs => obtain ⟨g, o, hv, _⟩ := h; rw [hv]; rfl
  case clo f caps => obtain ⟨vs, hv, _⟩ := h; rw [hv]; rfl
  case fn K => obtain ⟨f, caps, hv, _⟩ := h; rw [hv]; rfl
  case efn K => obtain ⟨g, o, u, hv, _⟩ := h; rw [hv]; rfl
  case dp y => exact h.1.oneCell h.2
  case one => exact h
  case agg l => exact absurd h (by simp [RepC])
theorem oneCell_cells {v : Value} (h : v.oneCell' = true) : v.cells = #[v] := by
  cases v <;> first | rfl | simp [Value.oneCell'] at h
theorem pvCells_rep {P : Program} {G : Gh} {w : World} {loc : Loc} {x : PV} {v : Value} {new : List PV} (h : RepT P G w loc x v) (hx : pvCells x = some new) :
    v.cells.size = new.length ∧ (∀ u ∈ v.cells, u.oneCell' = true) ∧ ∀ (j : Nat) y u, new[j]? = some y → v.cells[j]? = some u → RepC P G w (loc, 0, j) y u := by
  have key : ∀ y, pvCells x = some [x] → x = y → RepC P G w (loc, 0, 0) y v → v.cells.size = [x].length ∧ (∀ u ∈ v.cells, u.oneCell' = true) ∧ ∀ (j : Nat) y u, [x][j]? = some y → v.cells[j]? = some u → RepC P G w (loc, 0, j) y u := by
    rintro y hp rfl hr
    have h1 := hr.one hp
    rw [oneCell_cells h1]
    refine ⟨rfl, by simpa using h1, fun j y u hy hu => ?_⟩
    cases j with
    | zero => simp at hy hu; subst hy; subst hu; exact hr
    | succ j => simp at hy
  cases x
  case agg l =>
    simp only [pvCells, Option.some.injEq] at hx
    subst hx
    obtain ⟨cs, rfl, hsz, h1, hr⟩ := h
    exact ⟨hsz, h1, hr⟩
  case tup l => simp [pvCells] at hx
  case junk => simp [pvCells] at hx
  case und => simp [pvCells] at hx
  all_goals (simp only [pvCells, Option.some.injEq] at hx; subst hx; exact key _ rfl rfl h)

theorem foldl_set (off : Nat) : ∀ (vs : List Value) (k : Nat) (cells : List Value), off + k + vs.length ≤ cells.length →
    ((vs.zipIdx k).foldl (fun (cs : Array Value) (c : Value × Nat) => cs.setIfInBounds (off + c.2) c.1) cells.toArray) = (cells.take (off + k) ++ vs ++ cells.drop (off + k + vs.length)).toArray
  | [], k, cells, h => by simp
  | v :: vs, k, cells, h => by
    simp only [List.zipIdx_cons, List.foldl_cons]
    have h1 : cells.toArray.setIfInBounds (off + k) v = (cells.set (off + k) v).toArray := by simp
    simp only [List.length_cons] at h
    rw [h1, foldl_set off vs (k + 1) (cells.set (off + k) v) (by simp; omega)]
    congr 1
    have h2 : off + (k + 1) = off + k + 1 := by omega
    have hlt : off + k < cells.length := by omega
    rw [h2, List.take_set, List.drop_set_of_lt (by omega), List.take_succ_eq_append_getElem hlt]
    rw [List.set_append_right _ _ (by simp; omega)]
    simp only [List.length_take, List.append_assoc]
    have h3 : off + k - min (off + k) cells.length = 0 := by omega
    rw [h3]
    simp only [List.set_cons_zero, List.cons_append, List.nil_append, List.length_cons]
    congr 4
    omega
theorem fill_one (place : Nat → Option (Nat × Nat)) (cells : Array Value) (i off size : Nat) (v : Value) (rest : List (Nat × Value)) (hp : place i = some (off, size)) (hv : v.cells.size = size) (hf : off + size ≤ cells.size) :
    Instr.fill place cells ((i, v) :: rest) = Instr.fill place (cells.toList.take off ++ v.cells.toList ++ cells.toList.drop (off + size)).toArray rest := by
  have hc : (decide (v.cells.size ≠ size) || decide (off + v.cells.size > cells.size)) = false := by simp; omega
  have hfold : (v.cells.zipIdx.foldl (fun (cs : Array Value) (c : Value × Nat) => cs.setIfInBounds (off + c.2) c.1) cells) = (cells.toList.take off ++ v.cells.toList ++ cells.toList.drop (off + size)).toArray := by
    have h1 := foldl_set off v.cells.toList 0 cells.toList (by simp; omega)
    simp only [Nat.add_zero, Array.toArray_toList] at h1
    rw [← hv]
    have h2 : v.cells.toList.length = v.cells.size := by simp
    rw [h2] at h1
    rw [← h1, ← Array.foldl_toList, Array.toList_zipIdx]
  simp only [Instr.fill, hp]
  rw [if_neg (by simpa using hc)]
  congr 1

theorem fill_row (size : Nat) : ∀ (vs : List Value) (k : Nat) (cells : List Value), (∀ v ∈ vs, v.cells.size = size) → (k + vs.length) * size ≤ cells.length →
    Instr.fill (fun i => some (i * size, size)) cells.toArray ((vs.zipIdx k).map fun c => (c.2, c.1)) = some (cells.take (k * size) ++ vs.flatMap (fun v => v.cells.toList) ++ cells.drop ((k + vs.length) * size)).toArray
  | [], k, cells, _, h => by simp [Instr.fill]
  | v :: vs, k, cells, hv, h => by
    have hv1 := hv v (List.mem_cons_self ..)
    simp only [List.length_cons] at h
    have e0 : k * size + size = (k + 1) * size := by rw [Nat.add_mul]; omega
    have e1 : (k + 1) * size ≤ (k + (vs.length + 1)) * size := Nat.mul_le_mul_right _ (by omega)
    simp only [List.zipIdx_cons, List.map_cons]
    rw [fill_one _ _ k (k * size) size v _ rfl hv1 (by simp; omega)]
    simp only []
    rw [fill_row size vs (k + 1) (cells.take (k * size) ++ v.cells.toList ++ cells.drop (k * size + size)) (fun u hu => hv u (List.mem_cons_of_mem _ hu)) (by
      have e2 : k + 1 + vs.length = k + (vs.length + 1) := by omega
      have e3 : v.cells.toList.length = size := by simp [hv1]
      rw [e2]; simp only [List.length_append, List.length_take, List.length_drop, e3]; omega)]
    congr 2
    have e2 : k + 1 + vs.length = k + (vs.length + 1) := by omega
    have e3 : v.cells.toList.length = size := by simp [hv1]
    have e4 : (cells.take (k * size) ++ v.cells.toList).length = (k + 1) * size := by rw [List.length_append, List.length_take, e3, Nat.min_eq_left (by omega)]; exact e0
    rw [List.take_append_of_le_length (by omega), List.take_of_length_le (by omega), e2]
    have e5 : (cells.take (k * size) ++ v.cells.toList ++ cells.drop (k * size + size)).drop ((k + (vs.length + 1)) * size) = cells.drop ((k + (vs.length + 1)) * size) := by
      rw [List.drop_append, e4, List.drop_of_length_le (by omega), List.nil_append, List.drop_drop]
      congr 1
      omega
    rw [e5]
    simp [List.append_assoc]

def PV.pdC : PV → Option PD
  | .d x => some x
  | .own _ sz l => some (.sl sz l)
  | .nn sz l => some (.sl sz l)
  | .nilS => some (.sl 0 [])
  | .dp x => some x
  | _ => none
def pdL : List PV → Option (List PD)
  | [] => some []
  | x :: xs => (x.pdC).bind fun y => (pdL xs).map fun ys => y :: ys
def PV.pd : PV → Option PD
  | .agg l => (pdL l).map .agg
  | x => x.pdC
theorem pdC_rep {P : Program} {G : Gh} {w : World} {p : Pos} {x : PV} {v : Value} {y : PD} (h : RepC P G w p x v) (hx : x.pdC = some y) : RepD G.im w y v ∧ y.scalar = true := by
  cases x <;> simp only [PV.pdC, reduceCtorEq, Option.some.injEq] at hx <;> subst hx
  case d x => exact h
  case nilS => have h' : v = .slice none 0 0 := h; rw [h']; exact ⟨.nil 0, rfl⟩
  case nn sz l => exact ⟨h.1, rfl⟩
  case own e sz l => exact ⟨h.1, rfl⟩
  case dp y => exact ⟨h.1.keep (Mine.im G w p), h.2⟩
theorem pdL_get : ∀ {l : List PV} {ys : List PD}, pdL l = some ys → ys.length = l.length ∧ ∀ (i : Nat) x y, l[i]? = some x → ys[i]? = some y → x.pdC = some y
  | [], ys, h => by simp [pdL] at h; subst h; simp
  | x :: xs, ys, h => by
    simp only [pdL, Option.bind_eq_some_iff, Option.map_eq_some_iff] at h
    obtain ⟨y, hy, zs, hz, rfl⟩ := h
    obtain ⟨h1, h2⟩ := pdL_get hz
    refine ⟨by simp [h1], fun i a b ha hb => ?_⟩
    cases i with
    | zero => simp at ha hb; subst ha; subst hb; exact hy
    | succ i => simp at ha hb; exact h2 i a b ha hb
theorem pd_rep {P : Program} {G : Gh} {w : World} {loc : Loc} {x : PV} {v : Value} {y : PD} (h : RepT P G w loc x v) (hx : x.pd = some y) :
    v.cells.size = y.cells.length ∧ (∀ c ∈ y.cells, c.scalar = true) ∧ (∀ (i : Nat) c u, y.cells[i]? = some c → v.cells[i]? = some u → RepD G.im w c u) := by
  have key : ∀ z, x = z → z.pdC = some y → RepC P G w (loc, 0, 0) z v → v.cells.size = y.cells.length ∧ (∀ c ∈ y.cells, c.scalar = true) ∧ (∀ (i : Nat) c u, y.cells[i]? = some c → v.cells[i]? = some u → RepD G.im w c u) := by
    rintro z rfl hz hr
    obtain ⟨h1, h2⟩ := pdC_rep hr hz
    have h3 : y.cells = [y] := by cases y <;> first | rfl | simp [PD.scalar] at h2
    rw [oneCell_cells (h1.oneCell h2), h3]
    refine ⟨rfl, by simpa using h2, fun i c u hc hu => ?_⟩
    cases i with
    | zero => simp at hc hu; subst hc; subst hu; exact h1
    | succ i => simp at hc
  cases x
  case agg l =>
    simp only [PV.pd, Option.map_eq_some_iff] at hx
    obtain ⟨ys, hy, rfl⟩ := hx
    obtain ⟨cs, rfl, hsz, h1, hr⟩ := h
    obtain ⟨h2, h3⟩ := pdL_get hy
    refine ⟨by simp [PD.cells, Value.cells, hsz, h2], fun c hc => ?_, fun i c u hc hu => ?_⟩
    · obtain ⟨i, hi, rfl⟩ := List.mem_iff_getElem.1 (show c ∈ ys from hc)
      have hi2 : i < l.length := by omega
      have hi3 : i < cs.size := by omega
      exact (pdC_rep (hr i l[i] cs[i] (List.getElem?_eq_getElem hi2) (Array.getElem?_eq_getElem hi3)) (h3 i _ _ (List.getElem?_eq_getElem hi2) (List.getElem?_eq_getElem hi))).2
    · have hc' : ys[i]? = some c := hc
      obtain ⟨hi, _⟩ := List.getElem?_eq_some_iff.1 hc'
      have hi2 : i < l.length := by omega
      exact (pdC_rep (hr i l[i] u (List.getElem?_eq_getElem hi2) hu) (h3 i _ _ (List.getElem?_eq_getElem hi2) hc')).1
  case tup l => simp [PV.pd, PV.pdC] at hx
  all_goals exact key _ rfl hx h

def pdAll : List PV → Option (List PD)
  | [] => some []
  | x :: xs => (x.pd).bind fun y => (pdAll xs).map fun ys => y :: ys
def evBuildSlice (P : Program) (t : TypeId) (len : Nat) (parts : List (Nat × PV)) : Option PV :=
  (tyi P t).bind fun i => i.el.bind fun e => (tyi P e).bind fun te => (pdAll (parts.map (·.2))).bind fun ys =>
    if parts.map (·.1) = List.range len ∧ ys.all (fun y => y.cells.length == te.sz) = true ∧ len * te.sz ≤ 16777216 ∧ len ≤ 16777216 ∧ te.zero.length = te.sz then some (.own e te.sz ys) else none
theorem pdAll_flat {P : Program} {G : Gh} {w : World} {f : Operand → PV} {g : Operand → Value} (hfg : ∀ x, ∃ loc, RepT P G w loc (f x) (g x)) : ∀ (xs : List Operand) (ys : List PD), pdAll (xs.map f) = some ys →
    ys.length = xs.length ∧ ((xs.map g).flatMap fun v => v.cells.toList).length = (flat ys).length ∧ (∀ c ∈ flat ys, c.scalar = true) ∧
    (∀ (i : Nat) c u, (flat ys)[i]? = some c → ((xs.map g).flatMap fun v => v.cells.toList)[i]? = some u → RepD G.im w c u) ∧ (∀ sz, (∀ y ∈ ys, y.cells.length = sz) → ∀ v ∈ xs.map g, v.cells.size = sz)
  | [], ys, h => by simp [pdAll] at h; subst h; simp [flat_nil]
  | x :: xs, ys, h => by
    simp only [List.map_cons, pdAll, Option.bind_eq_some_iff, Option.map_eq_some_iff] at h
    obtain ⟨y, hy, zs, hz, rfl⟩ := h
    obtain ⟨h1, h2, h3, h4, h5⟩ := pdAll_flat hfg xs zs hz
    obtain ⟨loc, hr⟩ := hfg x
    obtain ⟨k1, k2, k3⟩ := pd_rep hr hy
    have hl : (g x).cells.toList.length = y.cells.length := by simpa using k1
    refine ⟨by simp [h1], ?_, fun c hc => ?_, fun i c u hc hu => ?_, fun sz hsz v hv => ?_⟩
    · rw [flat_cons]; simp only [List.map_cons, List.flatMap_cons, List.length_append, h2, hl]
    · rw [flat_cons] at hc; exact (List.mem_append.1 hc).elim (k2 c) (h3 c)
    · rw [flat_cons] at hc
      simp only [List.map_cons, List.flatMap_cons] at hu
      by_cases hi : i < y.cells.length
      · rw [List.getElem?_append_left hi] at hc
        rw [List.getElem?_append_left (by omega)] at hu
        exact k3 i c u hc (by simpa using hu)
      · rw [List.getElem?_append_right (by omega)] at hc
        rw [List.getElem?_append_right (by omega), hl] at hu
        exact h4 _ c u hc hu
    · simp only [List.map_cons, List.mem_cons] at hv
      rcases hv with rfl | hv
      · rw [k1]; exact hsz y (List.mem_cons_self ..)
      · exact h5 sz (fun y hy => hsz y (List.mem_cons_of_mem _ hy)) v hv
theorem zip_parts : ∀ (parts : List (Nat × Operand)) (k : Nat) (g : Operand → Value), parts.map (·.1) = (List.range parts.length).map (· + k) →
    parts.map (fun p => (p.1, g p.2)) = (((parts.map (·.2)).map g).zipIdx k).map fun c => (c.2, c.1)
  | [], k, g, h => by simp
  | (i, x) :: ps, k, g, h => by
    simp only [List.map_cons, List.length_cons, List.range_succ_eq_map, List.map_map, List.cons.injEq, Nat.zero_add] at h
    obtain ⟨h1, h2⟩ := h
    simp only [List.map_cons, List.zipIdx_cons, h1]
    rw [zip_parts ps (k + 1) g (by rw [h2]; apply List.map_congr_left; intro a _; simp; omega)]
theorem evBuildSlice_ok {P : Program} {F : Fr} {G : Gh} {st : St} {a : Act} {w : World} (h : Rel P F G st a w) {d : Nat} (hd : d < F.nt) {t : TypeId} {len : Nat} {parts : Array (Nat × Operand)} {r : PV}
    (he : evBuildSlice P t len (parts.toList.map fun p => (p.1, st.ev p.2)) = some r) (ts : List Nat) :
    ∃ rv w' G', (Instr.buildSlice t len (parts.map fun (i, x) => (i, a.eval x))).run P w = .ok rv w' ∧ Rel P F G' (st.upd ts (some d) r st.bx) (a.put (some d) rv) w' := by
  unfold evBuildSlice at he
  simp only [Option.bind_eq_some_iff] at he
  obtain ⟨i, hi, e, hel, te, hte, ys, hys, he⟩ := he
  split at he
  · rename_i hc
    cases he
    obtain ⟨hrange, hall, hlim, hlim2, hzl⟩ := hc
    have ht := tyi_el hi hel
    obtain ⟨i', td, k1, k2, k3, k4, k5, k6, k7, k8, k9, k10⟩ := tyi_spec hte
    have hps : (parts.toList.map fun p => (p.1, st.ev p.2)).map (·.2) = (parts.toList.map (·.2)).map st.ev := by simp
    rw [hps] at hys
    obtain ⟨q1, q2, q3, q4, q5⟩ := pdAll_flat (P := P) (G := G) (w := w) (f := st.ev) (g := a.eval) (fun x => ⟨_, h.ev x⟩) _ _ hys
    have hu : ∀ y ∈ ys, y.cells.length = te.sz := by
      intro y hy
      have := List.all_eq_true.1 hall y hy
      simpa using this
    have hrange' : parts.toList.map (·.1) = List.range len := by rw [List.map_map] at hrange; exact hrange
    have hlen : parts.toList.length = len := by
      have := congrArg List.length hrange'
      simpa using this
    have hysl : ys.length = len := by rw [q1]; simpa using hlen
    have hzip := zip_parts parts.toList 0 a.eval (by rw [hrange', hlen]; simp)
    generalize hvs : (parts.toList.map (·.2)).map a.eval = vs at *
    have hvl : vs.length = len := by rw [← hvs]; simpa using hlen
    generalize hzc : (if len * te.sz = 0 then (#[] : Array Value) else ((i'.zero.map (·.cells)).getD #[])) = zc
    have hzero : len * te.sz ≠ 0 → (zeroValue e).run P w = .ok ((i'.zero).getD default) w ∧ ((i'.zero).getD default).cells = zc := by
      intro h0
      simp only [h0, if_false] at hzc
      have hsz0 : 0 < te.sz := Nat.pos_of_ne_zero (fun e => h0 (by rw [e]; simp))
      cases hz : i'.zero with
      | none => rw [k9, hz] at hzl; simp at hzl; omega
      | some z =>
        rw [hz] at hzc
        simp at hzc
        simp [zeroValue, typeInfo, k1, hz, hzc]
    have hfill := fill_row te.sz vs 0 ((Array.range (len * te.sz)).map (fun j => zc[j % zc.size]!)).toList (q5 te.sz hu) (by simp [hvl])
    simp only [Nat.zero_mul, Nat.zero_add, hvl, List.take_zero, List.nil_append, Array.toArray_toList] at hfill
    have hdrop : ((Array.range (len * te.sz)).map (fun j => zc[j % zc.size]!)).toList.drop (len * te.sz) = [] := by apply List.drop_eq_nil_of_le; simp
    rw [hdrop, List.append_nil] at hfill
    have hp : (parts.map fun (x : Nat × Operand) => (x.1, a.eval x.2)).toList = (vs.zipIdx 0).map fun c => (c.2, c.1) := by
      rw [Array.toList_map]; exact hzip
    have hrun : (Instr.buildSlice t len (parts.map fun (x : Nat × Operand) => (x.1, a.eval x.2))).run P w =
        .ok (.slice (some ⟨w.heap.size, 0, none⟩) len len) (w.alloc (.cells (vs.flatMap fun v => v.cells.toList).toArray e)) := by
      have hlim' : ¬ (2 ^ 24 < len * te.sz) := by omega
      unfold Instr.buildSlice
      simp only [Sem.run_bind, run_underlying ht, Result.andThen_ok, tyi_size hte]
      simp only [gt_iff_lt, hlim', if_false]
      by_cases h0 : len * te.sz = 0
      · simp only [h0, if_true] at hzc
        subst hzc
        simp only [h0, if_true]
        rw [h0] at hfill
        simp only [Sem.run_bind, Sem.run_pure, Result.andThen_ok, hp, hfill]
        simp [newRow]
      · obtain ⟨z1, z2⟩ := hzero h0
        simp only [h0, if_false]
        simp only [Sem.run_bind, Sem.run_pure, Result.andThen_ok, z1, z2, hp, hfill]
        simp [newRow]
    have hown : (w.alloc (.cells (vs.flatMap fun v => v.cells.toList).toArray e)).ownsRow 0 e te.sz (.slice (some ⟨w.heap.size, 0, none⟩) len len) ys.length (vs.flatMap fun v => v.cells.toList) := by
      have e1 : (vs.flatMap fun v => v.cells.toList).length = len * te.sz := by rw [q2, flat_length hu, hysl]
      refine ⟨by rw [e1, hysl], .inr ⟨w.heap.size, len, _, by rw [hysl], Nat.zero_le _, Go.heap_alloc_new w _, by omega, by unfold maxLen; omega, by simpa using e1, ?_⟩⟩
      rw [hysl]
      simp only []
      exact List.take_of_length_le (by omega)
    obtain ⟨G', hG'⟩ := h.ownNew hd (ts := ts) (MStep.alloc w _ none) (by simp) hown (by omega) hu q3 q4 (fun g hg => by simp [Value.ownBlock] at hg; left; omega) (by simp) (by simp)
    exact ⟨_, _, G', hrun, hG'⟩
  · cases he

end Go.Bee
