/-
The logic and the walks, part 2. No condition.
-/
import Derived.Test.YtjjehnbebcfhpaaGreatDoorBeeG0FECTEa
/-
The logic's operations: values that are put together. No condition.
-/
namespace Go.Bee
set_option linter.unusedVariables false

theorem RepC.one {P : Program} {G : Gh} {w : World} {p : Pos} {x : PV} {v : Value} (h : RepC P G w p x v) (hx : pvCells x = some [x]) : v.oneCell' = true := by
  cases x <;> simp only [pvCells, reduceCtorEq] at hx
  case d y => exact h.1.oneCell h.2
  case nilS => have h' : v = .slice none 0 0 := h; rw [h']; rfl
  case nn sz l => cases h.1 <;> rfl
  case own e sz l => cases h.1 <;> rfl
  case ptr b o => have h' := h.1; rw [h']; rfl
  case rsl b e sz n => have h' := h.1; rw [h']; rfl
  case rsv b sz n => obtain ⟨k, h1, h2, h3, h4⟩ := h; rw [h2]; rfl
  case q x => exact h.1.oneCell h.2
  case zs x => exact h.1.oneCell
  case zp x => obtain ⟨g, o, h1, h2⟩ := h; rw [h1]; rfl
  case eptr cs => obtain ⟨g, o, hv, _⟩ := h; rw [hv]; rfl
  case clo f caps => obtain ⟨vs, hv, _⟩ := h; rw [hv]; rfl
  case fn K => obtain ⟨f, caps, hv, _⟩ := h; rw [hv]; rfl
  case efn K => obtain ⟨g, o, u, hv, _⟩ := h; rw [hv]; rfl
  case dp y => exact h.1.oneCell h.2
  case one => exact h
  case agg l => exact absurd h (by simp [RepC])
theorem oneCell_cells {v : Value} (h : v.oneCell' = true) : v.cells = #[v] := by
  cases v <;> first | rfl | simp [Value.oneCell'] at h
theorem pvCells_rep {P : Program} {G : Gh} {w : World} {loc : Loc} {x : PV} {v : Value} {new : List PV} (h : RepT P G w loc x v) (hx : pvCells x = some new) :
    v.cells.size = new.length ∧ (∀ u ∈ v.cells, u.oneCell' = true) ∧ ∀ (j : Nat) y u, new[j]? = some y → v.cells[j]? = some u → RepC P G w (loc, 0, j) y u := by
  have key : ∀ y, pvCells x = some [x] → x = y → RepC P G w (loc, 0, 0) y v → v.cells.size = [x].length ∧ (∀ u ∈ v.cells, u.oneCell' = true) ∧ ∀ (j : Nat) y u, [x][j]? = some y → v.cells[j]? = some u → RepC P G w (loc, 0, j) y u := by
    rintro y hp rfl hr
    have h1 := hr.one hp
    rw [oneCell_cells h1]
    refine ⟨rfl, by simpa using h1, fun j y u hy hu => ?_⟩
    cases j with
    | zero => simp at hy hu; subst hy; subst hu; exact hr
    | succ j => simp at hy
  cases x
  case agg l =>
    simp only [pvCells, Option.some.injEq] at hx
    subst hx
    obtain ⟨cs, rfl, hsz, h1, hr⟩ := h
    exact ⟨hsz, h1, hr⟩
  case tup l => simp [pvCells] at hx
  case junk => simp [pvCells] at hx
  case und => simp [pvCells] at hx
  all_goals (simp only [pvCells, Option.some.injEq] at hx; subst hx; exact key _ rfl rfl h)

theorem foldl_set (off : Nat) : ∀ (vs : List Value) (k : Nat) (cells : List Value), off + k + vs.length ≤ cells.length →
    ((vs.zipIdx k).foldl (fun (cs : Array Value) (c : Value × Nat) => cs.setIfInBounds (off + c.2) c.1) cells.toArray) = (cells.take (off + k) ++ vs ++ cells.drop (off + k + vs.length)).toArray
  | [], k, cells, h => by simp
  | v :: vs, k, cells, h => by
    simp only [List.zipIdx_cons, List.foldl_cons]
    have h1 : cells.toArray.setIfInBounds (off + k) v = (cells.set (off + k) v).toArray := by simp
    simp only [List.length_cons] at h
    rw [h1, foldl_set off vs (k + 1) (cells.set (off + k) v) (by simp; omega)]
    congr 1
    have h2 : off + (k + 1) = off + k + 1 := by omega
    have hlt : off + k < cells.length := by omega
    rw [h2, List.take_set, List.drop_set_of_lt (by omega), List.take_succ_eq_append_getElem hlt]
    rw [List.set_append_right _ _ (by simp; omega)]
    simp only [List.length_take, List.append_assoc]
    have h3 : off + k - min (off + k) cells.length = 0 := by omega
    rw [h3]
    simp only [List.set_cons_zero, List.cons_append, List.nil_append, List.length_cons]
    congr 4
    omega
theorem fill_one (place : Nat → Option (Nat × Nat)) (cells : Array Value) (i off size : Nat) (v : Value) (rest : List (Nat × Value)) (hp : place i = some (off, size)) (hv : v.cells.size = size) (hf : off + size ≤ cells.size) :
    Instr.fill place cells ((i, v) :: rest) = Instr.fill place (cells.toList.take off ++ v.cells.toList ++ cells.toList.drop (off + size)).toArray rest := by
  have hc : (decide (v.cells.size ≠ size) || decide (off + v.cells.size > cells.size)) = false := by simp; omega
  have hfold : (v.cells.zipIdx.foldl (fun (cs : Array Value) (c : Value × Nat) => cs.setIfInBounds (off + c.2) c.1) cells) = (cells.toList.take off ++ v.cells.toList ++ cells.toList.drop (off + size)).toArray := by
    have h1 := foldl_set off v.cells.toList 0 cells.toList (by simp; omega)
    simp only [Nat.add_zero, Array.toArray_toList] at h1
    rw [← hv]
    have h2 : v.cells.toList.length = v.cells.size := by simp
    rw [h2] at h1
    rw [← h1, ← Array.foldl_toList, Array.toList_zipIdx]
  simp only [Instr.fill, hp]
  rw [if_neg (by simpa using hc)]
  congr 1

theorem fill_row (size : Nat) : ∀ (vs : List Value) (k : Nat) (cells : List Value), (∀ v ∈ vs, v.cells.size = size) → (k + vs.length) * size ≤ cells.length →
    Instr.fill (fun i => some (i * size, size)) cells.toArray ((vs.zipIdx k).map fun c => (c.2, c.1)) = some (cells.take (k * size) ++ vs.flatMap (fun v => v.cells.toList) ++ cells.drop ((k + vs.length) * size)).toArray
  | [], k, cells, _, h => by simp [Instr.fill]
  | v :: vs, k, cells, hv, h => by
    have hv1 := hv v (List.mem_cons_self ..)
    simp only [List.length_cons] at h
    have e0 : k * size + size = (k + 1) * size := by rw [Nat.add_mul]; omega
    have e1 : (k + 1) * size ≤ (k + (vs.length + 1)) * size := Nat.mul_le_mul_right _ (by omega)
    simp only [List.zipIdx_cons, List.map_cons]
    rw [fill_one _ _ k (k * size) size v _ rfl hv1 (by simp; omega)]
    simp only []
    rw [fill_row size vs (k + 1) (cells.take (k * size) ++ v.cells.toList ++ cells.drop (k * size + size)) (fun u hu => hv u (List.mem_cons_of_mem _ hu)) (by
      have e2 : k + 1 + vs.length = k + (vs.length + 1) := by omega
      have e3 : v.cells.toList.length = size := by simp [hv1]
      rw [e2]; simp only [List.length_append, List.length_take, List.length_drop, e3]; omega)]
    congr 2
    have e2 : k + 1 + vs.length = k + (vs.length + 1) := by omega
    have e3 : v.cells.toList.length = size := by simp [hv1]
    have e4 : (cells.take (k * size) ++ v.cells.toList).length = (k + 1) * size := by rw [List.length_append, List.length_take, e3, Nat.min_eq_left (by omega)]; exact e0
    rw [List.take_append_of_le_length (by omega), List.take_of_length_le (by omega), e2]
    have e5 : (cells.take (k * size) ++ v.cells.toList ++ cells.drop (k * size + size)).drop ((k + (vs.length + 1)) * size) = cells.drop ((k + (vs.length + 1)) * size) := by
      rw [List.drop_append, e4, List.drop_of_length_le (by omega), List.nil_append, List.drop_drop]
      congr 1
      omega
    rw [e5]
    simp [List.append_assoc]

def PV.pdC : PV → Option PD
  | .d x => some x
  | .own _ sz l => some (.sl sz l)
  | .nn sz l => some (.sl sz l)
  | .nilS => some (.sl 0 [])
  | .dp x => some x
  | _ => none
def pdL : List PV → Option (List PD)
  | [] => some []
  | x :: xs => (x.pdC).bind fun y => (pdL xs).map fun ys => y :: ys
def PV.pd : PV → Option PD
  | .agg l => (pdL l).map .agg
  | x => x.pdC
theorem pdC_rep {P : Program} {G : Gh} {w : World} {p : Pos} {x : PV} {v : Value} {y : PD} (h : RepC P G w p x v) (hx : x.pdC = some y) : RepD G.im w y v ∧ y.scalar = true := by
  cases x <;> simp only [PV.pdC, reduceCtorEq, Option.some.injEq] at hx <;> subst hx
  case d x => exact h
  case nilS => have h' : v = .slice none 0 0 := h; rw [h']; exact ⟨.nil 0, rfl⟩
  case nn sz l => exact ⟨h.1, rfl⟩
  case own e sz l => exact ⟨h.1, rfl⟩
  case dp y => exact ⟨h.1.keep (Mine.im G w p), h.2⟩
theorem pdL_get : ∀ {l : List PV} {ys : List PD}, pdL l = some ys → ys.length = l.length ∧ ∀ (i : Nat) x y, l[i]? = some x → ys[i]? = some y → x.pdC = some y
  | [], ys, h => by simp [pdL] at h; subst h; simp
  | x :: xs, ys, h => by
    simp only [pdL, Option.bind_eq_some_iff, Option.map_eq_some_iff] at h
    obtain ⟨y, hy, zs, hz, rfl⟩ := h
    obtain ⟨h1, h2⟩ := pdL_get hz
    refine ⟨by simp [h1], fun i a b ha hb => ?_⟩
    cases i with
    | zero => simp at ha hb; subst ha; subst hb; exact hy
    | succ i => simp at ha hb; exact h2 i a b ha hb
theorem pd_rep {P : Program} {G : Gh} {w : World} {loc : Loc} {x : PV} {v : Value} {y : PD} (h : RepT P G w loc x v) (hx : x.pd = some y) :
    v.cells.size = y.cells.length ∧ (∀ c ∈ y.cells, c.scalar = true) ∧ (∀ (i : Nat) c u, y.cells[i]? = some c → v.cells[i]? = some u → RepD G.im w c u) := by
  have key : ∀ z, x = z → z.pdC = some y → RepC P G w (loc, 0, 0) z v → v.cells.size = y.cells.length ∧ (∀ c ∈ y.cells, c.scalar = true) ∧ (∀ (i : Nat) c u, y.cells[i]? = some c → v.cells[i]? = some u → RepD G.im w c u) := by
    rintro z rfl hz hr
    obtain ⟨h1, h2⟩ := pdC_rep hr hz
    have h3 : y.cells = [y] := by cases y <;> first | rfl | simp [PD.scalar] at h2
    rw [oneCell_cells (h1.oneCell h2), h3]
    refine ⟨rfl, by simpa using h2, fun i c u hc hu => ?_⟩
    cases i with
    | zero => simp at hc hu; subst hc; subst hu; exact h1
    | succ i => simp at hc
  cases x
  case agg l =>
    simp only [PV.pd, Option.map_eq_some_iff] at hx
    obtain ⟨ys, hy, rfl⟩ := hx
    obtain ⟨cs, rfl, hsz, h1, hr⟩ := h
    obtain ⟨h2, h3⟩ := pdL_get hy
    refine ⟨by simp [PD.cells, Value.cells, hsz, h2], fun c hc => ?_, fun i c u hc hu => ?_⟩
    · obtain ⟨i, hi, rfl⟩ := List.mem_iff_getElem.1 (show c ∈ ys from hc)
      have hi2 : i < l.length := by omega
      have hi3 : i < cs.size := by omega
      exact (pdC_rep (hr i l[i] cs[i] (List.getElem?_eq_getElem hi2) (Array.getElem?_eq_getElem hi3)) (h3 i _ _ (List.getElem?_eq_getElem hi2) (List.getElem?_eq_getElem hi))).2
    · have hc' : ys[i]? = some c := hc
      obtain ⟨hi, _⟩ := List.getElem?_eq_some_iff.1 hc'
      have hi2 : i < l.length := by omega
      exact (pdC_rep (hr i l[i] u (List.getElem?_eq_getElem hi2) hu) (h3 i _ _ (List.getElem?_eq_getElem hi2) hc')).1
  case tup l => simp [PV.pd, PV.pdC] at hx
  all_goals exact key _ rfl hx h

def pdAll : List PV → Option (List PD)
  | [] => some []
  | x :: xs => (x.pd).bind fun y => (pdAll xs).map fun ys => y :: ys
def evBuildSlice (P : Program) (t : TypeId) (len : Nat) (parts : List (Nat × PV)) : Option PV :=
  (tyi P t).bind fun i => i.el.bind fun e => (tyi P e).bind fun te => (pdAll (parts.map (·.2))).bind fun ys =>
    if parts.map (·.1) = List.range len ∧ ys.all (fun y => y.cells.length == te.sz) = true ∧ len * te.sz ≤ 16777216 ∧ len ≤ 16777216 ∧ te.zero.length = te.sz then some (.own e te.sz ys) else none
theorem pdAll_flat {P : Program} {G : Gh} {w : World} {f : Operand → PV} {g : Operand → Value} (hfg : ∀ x, ∃ loc, RepT P G w loc (f x) (g x)) : ∀ (xs : List Operand) (ys : List PD), pdAll (xs.map f) = some ys →
    ys.length = xs.length ∧ ((xs.map g).flatMap fun v => v.cells.toList).length = (flat ys).length ∧ (∀ c ∈ flat ys, c.scalar = true) ∧
    (∀ (i : Nat) c u, (flat ys)[i]? = some c → ((xs.map g).flatMap fun v => v.cells.toList)[i]? = some u → RepD G.im w c u) ∧ (∀ sz, (∀ y ∈ ys, y.cells.length = sz) → ∀ v ∈ xs.map g, v.cells.size = sz)
  | [], ys, h => by simp [pdAll] at h; subst h; simp [flat_nil]
  | x :: xs, ys, h => by
    simp only [List.map_cons, pdAll, Option.bind_eq_some_iff, Option.map_eq_some_iff] at h
    obtain ⟨y, hy, zs, hz, rfl⟩ := h
    obtain ⟨h1, h2, h3, h4, h5⟩ := pdAll_flat hfg xs zs hz
    obtain ⟨loc, hr⟩ := hfg x
    obtain ⟨k1, k2, k3⟩ := pd_rep hr hy
    have hl : (g x).cells.toList.length = y.cells.length := by simpa using k1
    refine ⟨by simp [h1], ?_, fun c hc => ?_, fun i c u hc hu => ?_, fun sz hsz v hv => ?_⟩
    · rw [flat_cons]; simp only [List.map_cons, List.flatMap_cons, List.length_append, h2, hl]
    · rw [flat_cons] at hc; exact (List.mem_append.1 hc).elim (k2 c) (h3 c)
    · rw [flat_cons] at hc
      simp only [List.map_cons, List.flatMap_cons] at hu
      by_cases hi : i < y.cells.length
      · rw [List.getElem?_append_left hi] at hc
        rw [List.getElem?_append_left (by omega)] at hu
        exact k3 i c u hc (by simpa using hu)
      · rw [List.getElem?_append_right (by omega)] at hc
        rw [List.getElem?_append_right (by omega), hl] at hu
        exact h4 _ c u hc hu
    · simp only [List.map_cons, List.mem_cons] at hv
      rcases hv with rfl | hv
      · rw [k1]; exact hsz y (List.mem_cons_self ..)
      · exact h5 sz (fun y hy => hsz y (List.mem_cons_of_mem _ hy)) v hv
theorem zip_parts : ∀ (parts : List (Nat × Operand)) (k : Nat) (g : Operand → Value), parts.map (·.1) = (List.range parts.length).map (· + k) →
    parts.map (fun p => (p.1, g p.2)) = (((parts.map (·.2)).map g).zipIdx k).map fun c => (c.2, c.1)
  | [], k, g, h => by simp
  | (i, x) :: ps, k, g, h => by
    simp only [List.map_cons, List.length_cons, List.range_succ_eq_map, List.map_map, List.cons.injEq, Nat.zero_add] at h
    obtain ⟨h1, h2⟩ := h
    simp only [List.map_cons, List.zipIdx_cons, h1]
    rw [zip_parts ps (k + 1) g (by rw [h2]; apply List.map_congr_left; intro a _; simp; omega)]
theorem evBuildSlice_ok {P : Program} {F : Fr} {G : Gh} {st : St} {a : Act} {w : World} (h : Rel P F G st a w) {d : Nat} (hd : d < F.nt) {t : TypeId} {len : Nat} {parts : Array (Nat × Operand)} {r : PV}
    (he : evBuildSlice P t len (parts.toList.map fun p => (p.1, st.ev p.2)) = some r) (ts : List Nat) :
    ∃ rv w' G', (Instr.buildSlice t len (parts.map fun (i, x) => (i, a.eval x))).run P w = .ok rv w' ∧ Rel P F G' (st.upd ts (some d) r st.bx) (a.put (some d) rv) w' := by
  unfold evBuildSlice at he
  simp only [Option.bind_eq_some_iff] at he
  obtain ⟨i, hi, e, hel, te, hte, ys, hys, he⟩ := he
  split at he
  · rename_i hc
    cases he
    obtain ⟨hrange, hall, hlim, hlim2, hzl⟩ := hc
    have ht := tyi_el hi hel
    obtain ⟨i', td, k1, k2, k3, k4, k5, k6, k7, k8, k9, k10⟩ := tyi_spec hte
    have hps : (parts.toList.map fun p => (p.1, st.ev p.2)).map (·.2) = (parts.toList.map (·.2)).map st.ev := by simp
    rw [hps] at hys
    obtain ⟨q1, q2, q3, q4, q5⟩ := pdAll_flat (P := P) (G := G) (w := w) (f := st.ev) (g := a.eval) (fun x => ⟨_, h.ev x⟩) _ _ hys
    have hu : ∀ y ∈ ys, y.cells.length = te.sz := by
      intro y hy
      have := List.all_eq_true.1 hall y hy
      simpa using this
    have hrange' : parts.toList.map (·.1) = List.range len := by rw [List.map_map] at hrange; exact hrange
    have hlen : parts.toList.length = len := by
      have := congrArg List.length hrange'
      simpa using this
    have hysl : ys.length = len := by rw [q1]; simpa using hlen
    have hzip := zip_parts parts.toList 0 a.eval (by rw [hrange', hlen]; simp)
    generalize hvs : (parts.toList.map (·.2)).map a.eval = vs at *
    have hvl : vs.length = len := by rw [← hvs]; simpa using hlen
    generalize hzc : (if len * te.sz = 0 then (#[] : Array Value) else ((i'.zero.map (·.cells)).getD #[])) = zc
    have hzero : len * te.sz ≠ 0 → (zeroValue e).run P w = .ok ((i'.zero).getD default) w ∧ ((i'.zero).getD default).cells = zc := by
      intro h0
      simp only [h0, if_false] at hzc
      have hsz0 : 0 < te.sz := Nat.pos_of_ne_zero (fun e => h0 (by rw [e]; simp))
      cases hz : i'.zero with
      | none => rw [k9, hz] at hzl; simp at hzl; omega
      | some z =>
        rw [hz] at hzc
        simp at hzc
        simp [zeroValue, typeInfo, k1, hz, hzc]
    have hfill := fill_row te.sz vs 0 ((Array.range (len * te.sz)).map (fun j => zc[j % zc.size]!)).toList (q5 te.sz hu) (by simp [hvl])
    simp only [Nat.zero_mul, Nat.zero_add, hvl, List.take_zero, List.nil_append, Array.toArray_toList] at hfill
    have hdrop : ((Array.range (len * te.sz)).map (fun j => zc[j % zc.size]!)).toList.drop (len * te.sz) = [] := by apply List.drop_eq_nil_of_le; simp
    rw [hdrop, List.append_nil] at hfill
    have hp : (parts.map fun (x : Nat × Operand) => (x.1, a.eval x.2)).toList = (vs.zipIdx 0).map fun c => (c.2, c.1) := by
      rw [Array.toList_map]; exact hzip
    have hrun : (Instr.buildSlice t len (parts.map fun (x : Nat × Operand) => (x.1, a.eval x.2))).run P w =
        .ok (.slice (some ⟨w.heap.size, 0, none⟩) len len) (w.alloc (.cells (vs.flatMap fun v => v.cells.toList).toArray e)) := by
      have hlim' : ¬ (2 ^ 24 < len * te.sz) := by omega
      unfold Instr.buildSlice
      simp only [Sem.run_bind, run_underlying ht, Result.andThen_ok, tyi_size hte]
      simp only [gt_iff_lt, hlim', if_false]
      by_cases h0 : len * te.sz = 0
      · simp only [h0, if_true] at hzc
        subst hzc
        simp only [h0, if_true]
        rw [h0] at hfill
        simp only [Sem.run_bind, Sem.run_pure, Result.andThen_ok, hp, hfill]
        simp [newRow]
      · obtain ⟨z1, z2⟩ := hzero h0
        simp only [h0, if_false]
        simp only [Sem.run_bind, Sem.run_pure, Result.andThen_ok, z1, z2, hp, hfill]
        simp [newRow]
    have hown : (w.alloc (.cells (vs.flatMap fun v => v.cells.toList).toArray e)).ownsRow 0 e te.sz (.slice (some ⟨w.heap.size, 0, none⟩) len len) ys.length (vs.flatMap fun v => v.cells.toList) := by
      have e1 : (vs.flatMap fun v => v.cells.toList).length = len * te.sz := by rw [q2, flat_length hu, hysl]
      refine ⟨by rw [e1, hysl], .inr ⟨w.heap.size, len, _, by rw [hysl], Nat.zero_le _, Go.heap_alloc_new w _, by omega, by unfold maxLen; omega, by simpa using e1, ?_⟩⟩
      rw [hysl]
      simp only []
      exact List.take_of_length_le (by omega)
    obtain ⟨G', hG'⟩ := h.ownNew hd (ts := ts) (MStep.alloc w _ none) (by simp) hown (by omega) hu q3 q4 (fun g hg => by simp [Value.ownBlock] at hg; left; omega) (by simp) (by simp) (fun h => by
      have h0 : len = 0 := by rw [← hysl, h]; rfl
      rw [h0]; exact .inr ⟨_, rfl⟩)
    exact ⟨_, _, G', hrun, hG'⟩
  · cases he

end Go.Bee

/-
The logic's operations: a struct that is put together; what an operation comes to. No condition.
-/
namespace Go.Bee
set_option linter.unusedVariables false

/-- The cells of a part: what is empty and one's own stays so. -/
def pvCells0 : PV → Option (List PV)
  | .own e sz [] => some [.own e sz []]
  | x => pvCells x.bT
theorem pvCells0_rep {P : Program} {G : Gh} {w : World} {loc : Loc} {x : PV} {v : Value} {new : List PV} (h : RepT P G w loc x v) (hn : pvCells0 x = some new) :
    v.cells.size = new.length ∧ (∀ u ∈ v.cells, u.oneCell' = true) ∧ ∀ (j : Nat) y u, new[j]? = some y → v.cells[j]? = some u → ∀ p, RepC P G w p y u := by
  unfold pvCells0 at hn
  split at hn
  · cases hn
    obtain ⟨k1, k2, k3⟩ := pvCells_rep h (new := [.own _ _ []]) rfl
    refine ⟨k1, k2, fun j y u hy hu p => ?_⟩
    have h2 := k3 j y u hy hu
    match j, hy with
    | 0, hy => simp at hy; subst hy; exact OwnAt.any0 h2 p
    | j + 1, hy => simp at hy
  · obtain ⟨k1, k2, k3⟩ := pvCells_rep (h.bT loc) hn
    refine ⟨k1, k2, fun j y u hy hu p => ?_⟩
    have h2 := (k3 j y u hy hu).bC p
    have h3 : y.bC = y := by
      have : ∀ z, pvCells (PV.bT z) = some new → ∀ y ∈ new, y.bC = y := by
        intro z hz y hy
        have hCC : ∀ q : PV, q.bC.bC = q.bC := by intro q; cases q <;> rfl
        cases z <;> simp only [PV.bT, PV.bV, pvCells, PV.bC, Option.some.injEq, reduceCtorEq] at hz <;> subst hz <;> first
          | (simp only [List.mem_singleton] at hy; subst hy; rfl)
          | (simp only [List.mem_map] at hy; obtain ⟨q, _, rfl⟩ := hy; exact hCC q)
      exact this _ hn y (List.mem_of_getElem? hy)
    rwa [h3] at h2
def bfill (fl : List (Option (Nat × Nat × Bool))) : List PV → List (Nat × PV) → Option (List PV)
  | cells, [] => some cells
  | cells, (i, x) :: rest => (fl[i]?.getD none).bind fun q => (pvCells0 x).bind fun new =>
      if new.length = q.2.1 ∧ q.1 + q.2.1 ≤ cells.length then bfill fl (cells.take q.1 ++ new ++ cells.drop (q.1 + q.2.1)) rest else none
def evBuild (P : Program) (t : TypeId) (parts : List (Nat × PV)) : Option PV :=
  (tyi P t).bind fun i => if i.fl.all (·.isSome) = true ∧ i.fl ≠ [] ∧ i.zero ≠ [] ∧ i.zero.all (fun x => !x.isJunk) = true then (bfill i.fl i.zero parts).map .agg else none

theorem bfill_ok {P : Program} {G : Gh} {w : World} {fl : List (Option (Nat × Nat × Bool))} {place : Nat → Option (Nat × Nat)} (hpl : ∀ i q, fl[i]?.getD none = some q → place i = some (q.1, q.2.1)) {f : Operand → PV} {g : Operand → Value}
    (hfg : ∀ x, ∃ loc, RepT P G w loc (f x) (g x)) : ∀ (parts : List (Nat × Operand)) (cells : List PV) (cs : List Value) (r : List PV), cs.length = cells.length → (∀ u ∈ cs, u.oneCell' = true) →
    (∀ (j : Nat) x u, cells[j]? = some x → cs[j]? = some u → ∀ p, RepC P G w p x u) → bfill fl cells (parts.map fun p => (p.1, f p.2)) = some r →
    ∃ rs : List Value, Instr.fill place cs.toArray (parts.map fun p => (p.1, g p.2)) = some rs.toArray ∧ rs.length = r.length ∧ (∀ u ∈ rs, u.oneCell' = true) ∧ ∀ (j : Nat) x u, r[j]? = some x → rs[j]? = some u → ∀ p, RepC P G w p x u
  | [], cells, cs, r, hl, h1, hr, he => by
    simp [bfill] at he
    subst he
    exact ⟨cs, by simp [Instr.fill], hl, h1, hr⟩
  | (i, x) :: ps, cells, cs, r, hl, h1, hr, he => by
    simp only [List.map_cons, bfill, Option.bind_eq_some_iff] at he
    obtain ⟨⟨off, sz, ag⟩, hq, new, hnew, he⟩ := he
    split at he
    · rename_i hc
      obtain ⟨hn, hf⟩ := hc
      simp only at hn hf he
      obtain ⟨loc, hx⟩ := hfg x
      obtain ⟨k1, k2, hany⟩ := pvCells0_rep hx hnew
      have hvl : (g x).cells.toList.length = new.length := by simpa using k1
      have := bfill_ok hpl hfg ps (cells.take off ++ new ++ cells.drop (off + sz)) (cs.take off ++ (g x).cells.toList ++ cs.drop (off + sz)) r (by simp only [List.length_append, List.length_take, List.length_drop, hl, hvl])
        (fun u hu => by
          simp only [List.mem_append] at hu
          rcases hu with (hu | hu) | hu
          · exact h1 u (List.mem_of_mem_take hu)
          · exact k2 u (by simpa using hu)
          · exact h1 u (List.mem_of_mem_drop hu))
        (fun j y u hy hu => by
          by_cases hj1 : j < off
          · rw [List.append_assoc, List.getElem?_append_left (by simp; omega), List.getElem?_take_of_lt hj1] at hy
            rw [List.append_assoc, List.getElem?_append_left (by simp; omega), List.getElem?_take_of_lt hj1] at hu
            exact hr j y u hy hu
          · by_cases hj2 : j < off + sz
            · rw [List.append_assoc, List.getElem?_append_right (by simp; omega), List.getElem?_append_left (by simp; omega)] at hy
              rw [List.append_assoc, List.getElem?_append_right (by simp; omega), List.getElem?_append_left (by simp; omega)] at hu
              have e1 : (cells.take off).length = off := by simp; omega
              have e2 : (cs.take off).length = off := by simp; omega
              rw [e1] at hy; rw [e2] at hu
              exact hany (j - off) y u hy (by simpa using hu)
            · rw [List.getElem?_append_right (by simp; omega), List.getElem?_drop] at hy
              rw [List.getElem?_append_right (by simp; omega), List.getElem?_drop] at hu
              have e1 : off + sz + (j - (cells.take off ++ new).length) = j := by simp; omega
              have e2 : off + sz + (j - (cs.take off ++ (g x).cells.toList).length) = j := by simp; omega
              rw [e1] at hy; rw [e2] at hu
              exact hr j y u hy hu) he
      obtain ⟨rs, q1, q2⟩ := this
      refine ⟨rs, ?_, q2⟩
      rw [List.map_cons, fill_one place cs.toArray i off sz (g x) _ (hpl i _ hq) (by rw [k1, hn]) (by simp; omega)]
      simpa using q1
    · cases he

theorem evBuild_ok {P : Program} {F : Fr} {G : Gh} {st : St} {a : Act} {w : World} (h : Rel P F G st a w) {t : TypeId} {parts : Array (Nat × Operand)} {r : PV} (loc : Loc)
    (he : evBuild P t (parts.toList.map fun p => (p.1, st.ev p.2)) = some r) : ∃ rv, (Instr.build t (parts.map fun (i, x) => (i, a.eval x))).run P w = .ok rv w ∧ RepT P G w loc r rv := by
  unfold evBuild at he
  simp only [Option.bind_eq_some_iff] at he
  obtain ⟨i, hi, he⟩ := he
  split at he
  · rename_i hc
    obtain ⟨hall, hne, hz0, hj⟩ := hc
    simp only [Option.map_eq_some_iff] at he
    obtain ⟨cells, hb, rfl⟩ := he
    obtain ⟨i', d, k1, k2, k3, k4, k5, k6, k7, k8, k9, k10⟩ := tyi_spec hi
    cases hzz : i'.zero with
    | none => rw [k9, hzz] at hz0; exact absurd rfl hz0
    | some z =>
      have hzero : i.zero = z.cells.toList.map cpc := by rw [k9, hzz]; rfl
      cases d <;> simp only at k10 <;> first | exact absurd k10 hne | skip
      rename_i fs
      -- the places
      have hplaces : ∀ (l : List Field), (l.map (fun f => match P.info? f.type, P.underlying f.type with
          | some i, some d => some (f.offset, i.size, match d with | .struct _ => true | .array _ _ => true | _ => false)
          | _, _ => none)).all (·.isSome) = true → ∃ places : List (Nat × Nat), l.mapM (fun f => (P.info? f.type).map fun i => (f.offset, i.size)) = some places ∧
          ∀ (j : Nat) q, ((l.map (fun f => match P.info? f.type, P.underlying f.type with
          | some i, some d => some (f.offset, i.size, match d with | .struct _ => true | .array _ _ => true | _ => false)
          | _, _ => none))[j]?).getD none = some q → places[j]? = some (q.1, q.2.1) := by
        intro l
        induction l with
        | nil => intro _; exact ⟨[], by simp, by simp⟩
        | cons f l ih =>
          intro hl
          simp only [List.map_cons, List.all_cons, Bool.and_eq_true] at hl
          obtain ⟨places, h1, h2⟩ := ih hl.2
          have hf := hl.1
          split at hf
          · rename_i i0 d0 e1 e2
            refine ⟨(f.offset, i0.size) :: places, by simp [List.mapM_cons, e1, h1], fun j q hq => ?_⟩
            cases j with
            | zero => simp [e1, e2] at hq; subst hq; simp
            | succ j => simp only [List.map_cons, List.getElem?_cons_succ] at hq ⊢; exact h2 j q hq
          · cases hf
      rw [k10] at hall hb
      obtain ⟨places, hp1, hp2⟩ := hplaces fs.toList hall
      rw [hzero] at hb hj
      have hone : ∀ u ∈ z.cells.toList, u.oneCell' = true := by
        intro u hu
        have := List.all_eq_true.1 hj (cpc u) (List.mem_map.2 ⟨u, hu, rfl⟩)
        exact cpc_cell (by simpa using this)
      obtain ⟨rs, q1, q2, q3, q4⟩ := bfill_ok (P := P) (G := G) (w := w) (place := fun x => places.toArray[x]?) (fun j q hq => by simpa using hp2 j q hq) (fun x => ⟨_, h.ev x⟩) parts.toList (z.cells.toList.map cpc) z.cells.toList cells (by simp) hone
        (fun j x u hx hu p => by
          rw [List.getElem?_map] at hx
          rw [hu] at hx
          simp at hx; subst hx
          exact cpc_rep p u) hb
      refine ⟨.agg rs.toArray, run_build w t _ _ ?_, ⟨rs.toArray, rfl, by simpa using q2, by simpa using q3, fun j x u hx hu => q4 j x u hx (by simpa using hu) _⟩⟩
      unfold Program.built
      simp only [k1, k2, hzz, hp1]
      rw [Array.toList_map]
      simpa using q1
  · cases he

end Go.Bee

/-
The logic's operations, all that call no function: what each comes to, and that the machine comes to the same. No condition.
-/
namespace Go.Bee
set_option linter.unusedVariables false

def stripAt (cells : List PV) (o n : Nat) : List PV := cells.take o ++ ((cells.drop o).take n).map PV.bC ++ cells.drop (o + n)
/-- Data that is no slice. -/
def zplain : PV → Bool
  | .d (.bool _) => true
  | .d (.int _ _) => true
  | .d (.str _) => true
  | _ => false
def zfit : List PV → List PD → Bool
  | [], _ => true
  | y :: ys, c :: cs => zplain y && !c.isSl && zfit ys cs
  | _ :: _, [] => false
theorem zfit_get : ∀ {ys : List PV} {cs : List PD}, zfit ys cs = true → ys.length ≤ cs.length ∧ ∀ j, j < ys.length → (∃ y, ys[j]? = some y ∧ zplain y = true) ∧ ∀ x, cs[j]? = some x → x.isSl = false
  | [], cs, _ => ⟨Nat.zero_le _, fun j hj => by simp at hj⟩
  | y :: ys, [], h => by simp [zfit] at h
  | y :: ys, c :: cs, h => by
    simp only [zfit, Bool.and_eq_true, Bool.not_eq_true'] at h
    obtain ⟨h1, h2⟩ := zfit_get h.2
    refine ⟨by simpa using h1, fun j hj => ?_⟩
    cases j with
    | zero => exact ⟨⟨y, rfl, h.1.1⟩, fun x hx => by simp at hx; subst hx; exact h.1.2⟩
    | succ j => simpa using h2 j (by simpa using hj)
theorem zplain_rep {P : Program} {G : Gh} {w : World} {p : Pos} {x : PV} {v : Value} (h : RepC P G w p x v) (hx : zplain x = true) : isSlV v = false := by
  cases x <;> simp only [zplain, Bool.false_eq_true] at hx
  rename_i y
  cases y <;> simp only [Bool.false_eq_true] at hx <;> (obtain ⟨h1, -⟩ := h; cases h1; rfl)
def zv (x : PD) : PV := if x.isSl = true then .zs x else .one
def evZLoad (P : Program) (t : TypeId) (cs : List PD) : Option PV :=
  (tyi P t).bind fun i => if i.agg then none else cs.head?.map zv
theorem evZLoad_ok {P : Program} {G : Gh} {w : World} {t : TypeId} {cs : List PD} {r : PV} {u : Value} {l1 : Loc} (loc : Loc) (hx : RepT P G w l1 (.zp cs) u) (h : evZLoad P t cs = some r) :
    ∃ rv, (Instr.loadAt t u).run P w = .ok rv w ∧ RepT P G w loc r rv := by
  obtain ⟨g, o, rfl, vs, hl, hs, hv, hr⟩ := hx
  unfold evZLoad at h
  simp only [Option.bind_eq_some_iff] at h
  obtain ⟨i, hi, h⟩ := h
  split at h
  · cases h
  · rename_i hag
    simp only [Option.map_eq_some_iff] at h
    obtain ⟨x, hx, rfl⟩ := h
    have hx0 : cs[0]? = some x := by rw [← List.head?_eq_getElem?]; exact hx
    have hlt : 0 < vs.length := by rw [hl]; exact (List.getElem?_eq_some_iff.1 hx0).1
    have hv0 : vs[0]? = some vs[0] := List.getElem?_eq_getElem hlt
    have hzd := hr 0 x _ hx0 hv0
    have hc := (hv 0 _ hv0).2
    rw [Nat.add_zero] at hc
    refine ⟨vs[0], by simp [Instr.loadAt, Instr.sureAddr, loadVar, tyi_agg hi, hag, hc], ?_⟩
    unfold zv
    split
    · exact ⟨hzd, hs x (List.mem_of_getElem? hx0)⟩
    · exact hzd.oneCell
def evLoad (P : Program) (fl : AF) (t : TypeId) (x : PV) (B : Bx) : Option (PV × Bx) :=
  match x with
  | .ptr b off => (B b).bind fun cells => (tyi P t).bind fun i => (bxRead cells off i.sz i.agg).bind fun r =>
      if fl.mv = true then (if fl.be = true then some (r, B.set b (stripAt cells off (if i.agg then i.sz else 1))) else none) else some (r.bV, B)
  | .eptr cs => (evELoad P t cs).map fun r => (r, B)
  | .efn K => ((tyi P t).bind fun i => if i.agg = true then none else some (PV.fn K)).map fun r => (r, B)
  | .zp cs => (evZLoad P t cs).map fun r => (r, B)
  | _ => none
def evStore (P : Program) (fl : AF) (t : TypeId) (x y : PV) (B : Bx) : Option Bx :=
  match x with
  | .ptr b off => (B b).bind fun cells => (tyi P t).bind fun i => (pvCells (mvd fl.mv y)).bind fun new =>
      if fl.be = true ∧ new.length = i.sz ∧ off + new.length ≤ cells.length then some (B.set b (cells.take off ++ new ++ cells.drop (off + new.length))) else none
  | .zp cs => (tyi P t).bind fun i => (pvCells y.bT).bind fun new =>
      if fl.be = true ∧ new.length = i.sz ∧ 0 < new.length ∧ zfit new cs = true then some B else none
  | _ => none
def PV.isAt : PV → Bool
  | .d _ => true
  | .nilS => true
  | .und => true
  | .nn _ _ => true
  | .ptr _ _ => true
  | .eptr _ => true
  | _ => false
def evMinMax (mx : Bool) : PV → PV → Option PV
  | .d (.int k a), .d (.int k' b) => if k = k' then some (.d (.int k (if mx then max a b else min a b))) else none
  | _, _ => none
def evMake (P : Program) (fl : AF) (t : TypeId) (d : Nat) (x y : PV) (B : Bx) : Option (PV × Bx) :=
  match x, y with
  | .d (.int _ n), .d (.int _ m) => (tyi P t).bind fun i => i.el.bind fun e => (tyi P e).bind fun te =>
      if fl.be = true ∧ B (.t d) = none ∧ n = m ∧ 0 ≤ n ∧ n ≤ 140737488355328 ∧ (te.by_ : Int) * n ≤ 281474976710656 ∧ te.zero.length = te.sz ∧ 0 < te.sz ∧ te.zero.all (fun x => !x.isJunk) = true then
        some (.rsl (.t d) e te.sz n.toNat, B.set (.t d) (List.replicate n.toNat te.zero).flatten) else none
  | _, _ => none
def ev1 (P : Program) (fl : AF) (o : Oper) (ρ : Operand → PV) (B : Bx) : Option (PV × Bx) :=
  match o.op with
  | .move x => some (mvd fl.mv (ρ x), B)
  | .assign x => some (mvd fl.mv (ρ x), B)
  | .pick c x y => match ρ c with
    | .d (.bool b) => some (pick2 b (ρ x).bT (ρ y).bT, B)
    | _ => none
  | .alloc t => o.dst.bind fun d => (tyi P t).bind fun i =>
      if fl.be = true ∧ B (.t d) = none ∧ i.zero ≠ [] ∧ i.zero.all (fun x => !x.isJunk) = true then some (.ptr (.t d) 0, B.set (.t d) i.zero) else none
  | .box t x => o.dst.bind fun d => (pvCells (mvd fl.mv (ρ x))).bind fun cells =>
      if fl.be = true ∧ B (.t d) = none then some (.ptr (.t d) 0, B.set (.t d) cells) else none
  | .build t parts => (evBuild P t (parts.toList.map fun p => (p.1, ρ p.2))).map fun r => (r, B)
  | .buildSlice t len parts => if o.dst.isSome then (evBuildSlice P t len (parts.toList.map fun p => (p.1, ρ p.2))).map fun r => (r, B) else none
  | .load t x => evLoad P fl t (ρ x) B
  | .store t x y => if o.dst = none then (evStore P fl t (ρ x) (ρ y) B).map fun B' => (.junk, B') else none
  | .nilCheck x => match ρ x with
    | .ptr b off => some (.ptr b off, B)
    | .eptr cs => some (.eptr cs, B)
    | _ => none
  | .binOp op t x y _ => (evBin P op t (ρ x) (ρ y)).map fun r => (r, B)
  | .unOp op _ x => (evUn op (ρ x)).map fun r => (r, B)
  | .convert s t x => if (tyi P s).isSome then (evConv2 P s t (ρ x)).map fun r => (r, B) else none
  | .makeFunc fn first caps => match fn with
    | .func f => if first.toList = [] ∧ caps.toList.all (fun c => ((ρ c).bC).isAt) = true then some (.clo f (caps.toList.map fun c => (ρ c).bC), B) else none
    | _ => none
  | .slice t x lo hi mx => if mx.isNone then (evSlice P t (ρ x) (lo.map ρ) (hi.map ρ)).map fun r => (r, B) else none
  | .fieldAddr t x f => (evFldAddr P t f (ρ x)).map fun r => (r, B)
  | .field t x f => (evFld P t f (ρ x)).map fun r => (r, B)
  | .indexAddr t x i => (evIA P t (ρ x) (ρ i)).map fun r => (r, B)
  | .makeSlice t lo hi => o.dst.bind fun d => evMake P fl t d (ρ lo) (ρ hi) B
  | .index t x i => (evIdx P t (ρ x) (ρ i)).map fun r => (r, B)
  | .extract x i => match ρ x with
    | .tup l => (l[i]?).map fun r => (mvd fl.mv r, B)
    | _ => none
  | .call c => match c.callee, c.args.toList, c.argTypes.toList with
    | .builtin .len, [x], [t] => (evLen P t (ρ x)).map fun r => (r, B)
    | .builtin .append, [s, x], [t, t'] => if t = t' ∧ fl.mv = true ∧ o.dst.isSome = true then (evAppend P t (ρ s) (ρ x)).map fun r => (r, B) else none
    | .builtin .max, [x, y], [_, _] => (evMinMax true (ρ x) (ρ y)).map fun r => (r, B)
    | .builtin .min, [x, y], [_, _] => (evMinMax false (ρ x) (ρ y)).map fun r => (r, B)
    | _, _, _ => none
  | _ => none

def vz (fl : AF) (B : Bx) : Bx := if fl.bt = true ∨ fl.be = true then B else fun _ => none
def stripsOf (fl : AF) (o : Oper) : List Nat := if fl.mv = true then tmpsOf o.op.operands.toList else []
def St.after (st : St) (fl : AF) (o : Oper) (v : PV) (B' : Bx) : St := st.upd (stripsOf fl o) o.dst v (if fl.be = true then B' else st.bx)

theorem Rel.put1 {P : Program} {F : Fr} {G : Gh} {st : St} {a : Act} {w : World} (h : Rel P F G st a w) (ts : List Nat) {d : Option Nat} {x : PV} {v : Value} (hd : ∀ d', d = some d' → d' < F.nt)
    (hx : ∀ loc, RepT P G w loc x v) : Rel P F G (st.upd ts d x st.bx) (a.put d v) w :=
  h.next (GStep.refl G w) (fun t _ _ i j => rfl) (fun d' e => hx _) hd h.hp h.sn

theorem wp_value {P : Program} {o : Oper} {a : Act} {w w' : World} {v : Value} {K : Act → World → Prop} {Q : Exit → Act → World → Prop} (hrun : (execOp a.eval o).run P w = .ok (.value v) w') (hk : K (a.put o.dst v) w') : o.wp P a w K Q := by
  unfold Oper.wp; rw [hrun]; exact hk
theorem wp_skip' {P : Program} {o : Oper} {a : Act} {w w' : World} {K : Act → World → Prop} {Q : Exit → Act → World → Prop} (hrun : (execOp a.eval o).run P w = .ok .skip w') (hk : K (a.put o.dst undef) w') : o.wp P a w K Q := by
  unfold Oper.wp; rw [hrun]; exact hk

theorem RepV.toT {P : Program} {G : Gh} {w : World} {loc : Loc} {x : PV} {v : Value} (h : RepV P G w loc 0 x v) : RepT P G w loc x v := by
  cases x <;> first | exact h | (simp only [RepV, RepC] at h)
theorem RepT.ofV {P : Program} {G : Gh} {w : World} {loc : Loc} {x : PV} {v : Value} (h : RepT P G w loc x v) (hx : ∀ l, x ≠ .tup l) : RepV P G w loc 0 x v := by
  cases x <;> first | exact h | exact absurd rfl (hx _)
/-- What is nobody's own is so at every place. -/
theorem RepT.any {P : Program} {G : Gh} {w : World} {loc : Loc} {x : PV} {v : Value} (h : RepT P G w loc x.bT v) (loc' : Loc) : RepT P G w loc' x.bT v := by
  have h1 := h.bT loc'
  have h2 : x.bT.bT = x.bT := by
    have hC : ∀ y : PV, y.bC.bC = y.bC := by intro y; cases y <;> rfl
    have hV : ∀ y : PV, y.bV.bV = y.bV := by
      intro y
      cases y <;> first | rfl | exact hC _ | skip
      simp only [PV.bV, List.map_map]
      congr 1
      apply List.map_congr_left
      intro y _; exact hC y
    cases x
    case agg l => exact hV (.agg l)
    case tup l =>
      simp only [PV.bT, List.map_map]
      congr 1
      apply List.map_congr_left
      intro y _; exact hV y
    all_goals rfl
  rwa [h2] at h1

def noTup (v : PV) : Bool := match v with | .tup _ => false | _ => true

/-- A value out of one slot or constant: moved, or a copy. -/
theorem Rel.mvd {P : Program} {F : Fr} {G : Gh} {st : St} {a : Act} {w : World} (h : Rel P F G st a w) (mv : Bool) {ts : List Nat} (X : Operand) (hts : mv = true → ∀ t, X = .tmp t → t ∈ ts) {d : Option Nat} (hd : ∀ d', d = some d' → d' < F.nt) :
    ∃ G', Rel P F G' (st.upd ts d (mvd mv (st.ev X)) st.bx) (a.put d (a.eval X)) w := by
  cases d with
  | none =>
    refine ⟨G, ?_⟩
    have := h.next (GStep.refl G w) (ts := ts) (d := none) (x := Bee.mvd mv (st.ev X)) (v := a.eval X) (bx := st.bx) (fun t _ _ i j => rfl) (fun d' e => by cases e) hd h.hp h.sn
    exact this
  | some d =>
    cases mv with
    | false =>
      refine ⟨G, h.put1 ts hd fun loc => ?_⟩
      exact ((h.ev X).bT loc)
    | true =>
      have hloc : ∀ t, opLoc X = .t t → t ∈ ts := by
        intro t ht
        cases X <;> simp [opLoc] at ht
        subst ht; exact hts rfl _ rfl
      exact h.moveTs (hd d rfl) hloc (by intro b; cases X <;> simp [opLoc]) (by cases X <;> simp [opLoc]) (h.ev X)

theorem evMinMax_ok {P : Program} {G : Gh} {w : World} {mx : Bool} {x y r : PV} {u v : Value} {l1 l2 : Loc} {t1 t2 ty : TypeId} (hx : RepT P G w l1 x u) (hy : RepT P G w l2 y v) (h : evMinMax mx x y = some r) :
    ∃ rv, ((if mx then Builtin.max_ else Builtin.min_) #[t1, t2] ty #[u, v]).run P w = .ok rv w ∧ ∀ loc, RepT P G w loc r rv := by
  unfold evMinMax at h
  split at h
  · obtain ⟨hx, -⟩ := hx; obtain ⟨hy, -⟩ := hy
    cases hx; cases hy
    rename_i k a k' b
    split at h
    · rename_i hk; subst hk
      cases h
      cases mx
      · refine ⟨_, ?_, fun loc => ⟨.int _ _, rfl⟩⟩
        simp only [Bool.false_eq_true, if_false]
        have h : (if b < a then b else a) = min a b := by split <;> omega
        simp [Builtin.min_, Builtin.min2, h]
      · refine ⟨_, ?_, fun loc => ⟨.int _ _, rfl⟩⟩
        simp only [if_true]
        have h : (if a < b then b else a) = max a b := by split <;> omega
        simp [Builtin.max_, Builtin.max2, h]
    · cases h
  · cases h

theorem evLoad_ok {P : Program} {F : Fr} {G : Gh} {st : St} {a : Act} {w : World} (h : Rel P F G st a w) {fl : AF} {ts : List Nat} {d : Option Nat} (hd : ∀ d', d = some d' → d' < F.nt) {t : TypeId} {X : Operand} {r : PV} {B : Bx} {B' : Bx} (hB : ∀ b c, B b = some c → st.bx b = some c)
    (hBe : fl.be = true → B = st.bx) (he : evLoad P fl t (st.ev X) B = some (r, B')) :
    ∃ rv G', (Instr.loadAt t (a.eval X)).run P w = .ok rv w ∧ Rel P F G' (st.upd ts d r (if fl.be = true then B' else st.bx)) (a.put d rv) w := by
  unfold evLoad at he
  have hX := h.ev X
  split at he
  · rename_i b off hev
    rw [hev] at hX
    obtain ⟨hp, hl⟩ := hX
    simp only [Option.bind_eq_some_iff] at he
    obtain ⟨cells, hc, i, hi, x, hx, he⟩ := he
    have hc' := hB b cells hc
    have hbox := h.hp.bx b cells hc'
    obtain ⟨rv, hrun, hrep⟩ := run_loadBox hbox hi hx
    rw [hp]
    split at he
    · rename_i hmv
      split at he
      · rename_i hbe
        cases he
        have hBB := hBe hbe
        subst hBB
        simp only [hbe, if_true]
        generalize hn : (if i.agg then i.sz else 1) = n
        -- tokens go from the variable's cells to the slot
        cases d with
        | none =>
          refine ⟨rv, G, hrun, ?_⟩
          refine h.next (GStep.refl G w) (fun t _ _ i j => rfl) (fun d' e => by cases e) hd ?_ h.sn
          refine ⟨fun c bc hbc => ?_, fun c => ?_, h.hp.inj, h.hp.imlt, h.hp.ownlt, h.hp.boxim, h.hp.boxown⟩
          · by_cases hcb : c = b
            · subst hcb
              simp only [Bx.set, if_true, Option.some.injEq] at hbc
              subst hbc
              obtain ⟨cs, e, h1, h2, h3, h4⟩ := hbox
              refine ⟨cs, e, h1, ?_, fun j u hj hu => h3 j u (by simp [stripAt] at hj; omega) hu, fun j y u hy hu => ?_⟩
              · simp only [stripAt, List.length_append, List.length_take, List.length_map, List.length_drop]; omega
              · have hj : ∃ y0, cells[j]? = some y0 ∧ (y = y0 ∨ y = y0.bC) := by
                  have hjl : j < cells.length := by have := (List.getElem?_eq_some_iff.1 hy).1; simp [stripAt] at this; omega
                  refine ⟨cells[j], List.getElem?_eq_getElem hjl, ?_⟩
                  unfold stripAt at hy
                  by_cases hj1 : j < off
                  · rw [List.append_assoc, List.getElem?_append_left (by simp; omega), List.getElem?_take_of_lt hj1, List.getElem?_eq_getElem hjl] at hy
                    cases hy; exact .inl rfl
                  · by_cases hj2 : j < off + n
                    · rw [List.append_assoc, List.getElem?_append_right (by simp; omega), List.getElem?_append_left (by simp; omega), List.getElem?_map, List.getElem?_take_of_lt (by simp; omega), List.getElem?_drop] at hy
                      have e1 : off + (j - (cells.take off).length) = j := by simp; omega
                      rw [e1, List.getElem?_eq_getElem hjl] at hy
                      cases hy; exact .inr rfl
                    · rw [List.getElem?_append_right (by simp; omega), List.getElem?_drop] at hy
                      have e1 : off + n + (j - (cells.take off ++ ((cells.drop off).take n).map PV.bC).length) = j := by simp; omega
                      rw [e1, List.getElem?_eq_getElem hjl] at hy
                      cases hy; exact .inl rfl
                obtain ⟨y0, hy0, rfl | rfl⟩ := hj
                · exact h4 j _ u hy0 hu
                · exact (h4 j y0 u hy0 hu).bC _
            · simp only [Bx.set, hcb, if_false] at hbc
              exact h.hp.bx c bc hbc
          · simp only [Bx.set]
            by_cases hcb : c = b
            · simp [hcb, hl]
            · simp [hcb, h.hp.live c]
        | some d =>
          let f : Pos → Pos := fun p => if p.1 = .b b ∧ off ≤ p.2.2 ∧ p.2.2 < off + n then (.t d, 0, p.2.2 - off) else p
          have hfq : f qpos = qpos := by simp [f, qpos]
          have hg := GStep.relabel G w f hfq
          refine ⟨rv, G.relabel f, hrun, h.next hg (fun t ht _ i j => by simp [f]) (fun d' e => ?_) hd ?_ (h.sn.relabel f)⟩
          · cases e
            have key : ∀ (j : Nat) y u, j < n → RepC P G w (.b b, 0, off + j) y u → RepC P (G.relabel f) w (.t d, 0, j) y u := by
              intro j y u hj hr
              refine hr.step hg ?_
              have : off ≤ off + j ∧ off + j < off + n := by omega
              simp [f, this]
            cases r
            case agg l =>
              obtain ⟨hag, cs, rfl, hsz, h1, hr⟩ := hrep
              have hxl : l.length = i.sz := by
                unfold bxRead at hx
                simp only [hag, if_true] at hx
                split at hx
                · cases hx; simp; omega
                · cases hx
              refine ⟨cs, rfl, hsz, h1, fun j y u hy hu => key j y u ?_ (hr j y u hy hu)⟩
              have := (List.getElem?_eq_some_iff.1 hy).1
              rw [← hn, hag]; simp only [if_true]; omega
            all_goals
              obtain ⟨hag, hr, -⟩ := hrep
              have h0 : 0 < n := by rw [← hn, hag]; simp
              have := key 0 _ _ h0 hr
              first | exact this.toT _ rfl | (simp only [RepC] at hr)
          · refine ⟨fun c bc hbc => ?_, fun c => ?_, h.hp.inj, h.hp.imlt, fun g p hgp => ?_, h.hp.boxim, fun c hlc => ?_⟩
            · by_cases hcb : c = b
              · subst hcb
                simp only [Bx.set, if_true, Option.some.injEq] at hbc
                subst hbc
                obtain ⟨cs, e, h1, h2, h3, h4⟩ := hbox
                refine ⟨cs, e, h1, ?_, fun j u hj hu => h3 j u (by simp [stripAt] at hj; omega) hu, fun j y u hy hu => ?_⟩
                · simp only [stripAt, List.length_append, List.length_take, List.length_map, List.length_drop]; omega
                · have hjl : j < cells.length := by have := (List.getElem?_eq_some_iff.1 hy).1; simp [stripAt] at this; omega
                  have h4' := h4 j cells[j] u (List.getElem?_eq_getElem hjl) hu
                  unfold stripAt at hy
                  by_cases hj1 : j < off
                  · rw [List.append_assoc, List.getElem?_append_left (by simp; omega), List.getElem?_take_of_lt hj1, List.getElem?_eq_getElem hjl] at hy
                    cases hy
                    exact h4'.step hg (by have : ¬ off ≤ j := by omega
                                          simp [f, this])
                  · by_cases hj2 : j < off + n
                    · rw [List.append_assoc, List.getElem?_append_right (by simp; omega), List.getElem?_append_left (by simp; omega), List.getElem?_map, List.getElem?_take_of_lt (by simp; omega), List.getElem?_drop] at hy
                      have e1 : off + (j - (cells.take off).length) = j := by simp; omega
                      rw [e1, List.getElem?_eq_getElem hjl] at hy
                      cases hy
                      exact h4'.stepB hg _
                    · rw [List.getElem?_append_right (by simp; omega), List.getElem?_drop] at hy
                      have e1 : off + n + (j - (cells.take off ++ ((cells.drop off).take n).map PV.bC).length) = j := by simp; omega
                      rw [e1, List.getElem?_eq_getElem hjl] at hy
                      cases hy
                      exact h4'.step hg (by have : ¬ j < off + n := by omega
                                            simp [f, this])
              · simp only [Bx.set, hcb, if_false] at hbc
                refine (h.hp.bx c bc hbc).step hg ((h.hp.live c).2 (by simp [hbc])) (fun j => ?_) rfl
                simp [f, hcb]
            · simp only [Bx.set, Gh.relabel]
              by_cases hcb : c = b
              · simp [hcb, hl]
              · simp [hcb, h.hp.live c]
            · simp only [Gh.relabel, Option.map_eq_some_iff] at hgp
              obtain ⟨q, hq, _⟩ := hgp
              exact h.hp.ownlt g q hq
            · simp only [Gh.relabel, Option.map_eq_none_iff]; exact h.hp.boxown c hlc
      · cases he
    · cases he
      refine ⟨rv, G, hrun, ?_⟩
      have hbx : (if fl.be = true then B else st.bx) = st.bx := by split <;> first | rfl | (rename_i hbe; exact hBe hbe)
      rw [hbx]
      refine h.put1 ts hd fun loc => ?_
      cases x
      case agg l =>
        obtain ⟨hag, cs, rfl, hsz, h1, hr⟩ := hrep
        refine ⟨cs, rfl, by simpa using hsz, h1, fun j y u hy hu => ?_⟩
        rw [List.getElem?_map] at hy
        obtain ⟨z, hz, rfl⟩ := Option.map_eq_some_iff.1 hy
        exact (hr j z u hz hu).bC _
      all_goals
        obtain ⟨hag, hr, -⟩ := hrep
        first | exact (hr.bC (loc, 0, 0)).toT loc rfl | (simp only [RepC] at hr)
  · rename_i cs hev
    rw [hev] at hX
    simp only [Option.map_eq_some_iff, Prod.mk.injEq] at he
    obtain ⟨r', hr', rfl, rfl⟩ := he
    have hbx : (if fl.be = true then B else st.bx) = st.bx := by split <;> first | rfl | (rename_i hbe; exact hBe hbe)
    obtain ⟨rv, hrun, -⟩ := evELoad_ok .res hX hr'
    refine ⟨rv, G, hrun, ?_⟩
    rw [hbx]
    refine h.put1 ts hd fun loc => ?_
    obtain ⟨rv', hrun', hrep⟩ := evELoad_ok loc hX hr'
    rw [hrun] at hrun'; cases hrun'
    exact hrep
  · rename_i K hev
    rw [hev] at hX
    simp only [Option.map_eq_some_iff, Prod.mk.injEq, Option.bind_eq_some_iff] at he
    obtain ⟨r', ⟨i, hi, he⟩, rfl, rfl⟩ := he
    split at he
    · cases he
    · rename_i hag
      cases he
      simp only [Bool.not_eq_true] at hag
      have hbx : (if fl.be = true then B else st.bx) = st.bx := by split <;> first | rfl | (rename_i hbe; exact hBe hbe)
      obtain ⟨g, o, u, hv, him, hc, hf⟩ := hX
      refine ⟨u, G, ?_, ?_⟩
      · rw [hv]; simp [Instr.loadAt, Instr.sureAddr, loadVar, tyi_agg hi, hag, hc]
      rw [hbx]
      exact h.put1 ts hd fun loc => hf
  · rename_i cs hev
    rw [hev] at hX
    simp only [Option.map_eq_some_iff, Prod.mk.injEq] at he
    obtain ⟨r', hr', rfl, rfl⟩ := he
    have hbx : (if fl.be = true then B else st.bx) = st.bx := by split <;> first | rfl | (rename_i hbe; exact hBe hbe)
    obtain ⟨rv, hrun, -⟩ := evZLoad_ok .res hX hr'
    refine ⟨rv, G, hrun, ?_⟩
    rw [hbx]
    refine h.put1 ts hd fun loc => ?_
    obtain ⟨rv', hrun', hrep⟩ := evZLoad_ok loc hX hr'
    rw [hrun] at hrun'; cases hrun'
    exact hrep
  · cases he

end Go.Bee

/-
What an operation that calls no function comes to in the logic, the machine comes to. No condition.
-/
namespace Go.Bee
set_option linter.unusedVariables false

theorem pick2_rep {P : Program} {G : Gh} {w : World} {loc : Loc} {c : Bool} {x y : PV} {u v : Value} (hx : RepT P G w loc x u) (hy : RepT P G w loc y v) : RepT P G w loc (pick2 c x y) (if c then u else v) := by
  unfold pick2
  split
  · obtain ⟨hx, -⟩ := hx; obtain ⟨hy, -⟩ := hy
    cases hx; cases hy
    cases c
    · exact ⟨.bool _, rfl⟩
    · exact ⟨.bool _, rfl⟩
  · cases c
    · simpa using hy
    · simpa using hx

theorem evStore_ok {P : Program} {F : Fr} {G : Gh} {st : St} {a : Act} {w : World} (h : Rel P F G st a w) {fl : AF} {ts : List Nat} {t : TypeId} {X Y : Operand} {B B' : Bx} (hts : fl.mv = true → ∀ t, Y = .tmp t → t ∈ ts)
    (hBe : fl.be = true → B = st.bx) (he : evStore P fl t (st.ev X) (st.ev Y) B = some B') :
    ∃ w' G', (Instr.storeAt t (a.eval X) (a.eval Y)).run P w = .ok () w' ∧ Rel P F G' (st.upd ts none .junk (if fl.be = true then B' else st.bx)) (a.put none undef) w' := by
  unfold evStore at he
  have hX := h.ev X
  split at he
  · rename_i b off hev
    rw [hev] at hX
    obtain ⟨hp, hl⟩ := hX
    simp only [Option.bind_eq_some_iff] at he
    obtain ⟨cells, hc, i, hi, new, hnew, he⟩ := he
    split at he
    · rename_i hcond
      obtain ⟨hbe, hn, hfit⟩ := hcond
      cases he
      have hBB := hBe hbe
      subst hBB
      simp only [hbe, if_true]
      have hst : ∀ (f : Pos → Pos) (vs : List Value), (a.eval Y).cells.toList = vs → (∀ t, t ∉ ts → ∀ i j, f (.t t, i, j) = (.t t, i, j)) → (∀ c j, f (.b c, 0, j) = (.b c, 0, j)) → f qpos = qpos → vs.length = new.length → (∀ u ∈ vs, u.oneCell' = true) →
          (∀ (j : Nat) x u, new[j]? = some x → vs[j]? = some u → ∃ p, RepC P G w p x u ∧ f p = (.b b, 0, off + j)) →
          ∃ w' G', (Instr.storeAt t (a.eval X) (a.eval Y)).run P w = .ok () w' ∧ Rel P F G' (st.upd ts none .junk (Bx.set st.bx b (cells.take off ++ new ++ cells.drop (off + new.length)))) (a.put none undef) w' := by
        intro f vs hvs hf hfb hfq hlen hone hrep
        obtain ⟨G', w', hrun, hR⟩ := h.store hc f ts hf hfb hfq hlen hfit hone hrep
        refine ⟨w', G', ?_, hR⟩
        have hs : (a.eval Y).cells.size = i.sz := by
          have : (a.eval Y).cells.toList.length = i.sz := by rw [hvs, hlen, hn]
          simpa using this
        have hne : ¬ ((a.eval Y).cells.size ≠ i.sz) := by simp [hs]
        rw [hp]
        simp only [Instr.storeAt, Instr.sureAddr, storeVar, Sem.run_bind, Sem.run_pure, Result.andThen_ok, tyi_size hi]
        rw [if_neg hne]
        rw [hvs]
        exact hrun
      have hY := h.ev Y
      cases hmv : fl.mv with
      | false =>
        rw [hmv] at hnew
        obtain ⟨k1, k2, k3⟩ := pvCells_rep (hY.bT .res) hnew
        refine hst id _ rfl (fun _ _ _ _ => rfl) (fun _ _ => rfl) rfl (by simpa using k1) (fun u hu => k2 u (by simpa using hu)) (fun j x u hx hu => ?_)
        have h2 := pvCells_rep (hY.bT (.b b)) hnew
        have h3 := h2.2.2 j x u hx (by simpa using hu)
        refine ⟨(.b b, 0, off + j), ?_, rfl⟩
        have hbc : x.bC = x := by
          have hCC : ∀ q : PV, q.bC.bC = q.bC := by intro q; cases q <;> rfl
          have : ∀ z, pvCells (PV.bT z) = some new → ∀ y ∈ new, y.bC = y := by
            intro z hz y hy
            cases z <;> simp only [PV.bT, PV.bV, pvCells, PV.bC, Option.some.injEq, reduceCtorEq] at hz <;> subst hz <;> first
              | (simp only [List.mem_singleton] at hy; subst hy; rfl)
              | (simp only [List.mem_map] at hy; obtain ⟨q, _, rfl⟩ := hy; exact hCC q)
          exact this _ hnew x (List.mem_of_getElem? hx)
        rw [← hbc]; exact h3.bC _
      | true =>
        rw [hmv] at hnew
        simp only [mvd, if_true] at hnew
        obtain ⟨k1, k2, k3⟩ := pvCells_rep hY hnew
        have hnotb : ∀ c, opLoc Y ≠ .b c := by intro c; cases Y <;> simp [opLoc]
        refine hst (fun p => if p.1 = opLoc Y then (.b b, 0, off + p.2.2) else p) _ rfl (fun t ht i j => ?_) (fun c j => ?_) (by cases Y <;> simp [qpos, opLoc]) (by simpa using k1) (fun u hu => k2 u (by simpa using hu)) (fun j x u hx hu => ?_)
        · have : Loc.t t ≠ opLoc Y := by
            intro e
            cases Y <;> simp [opLoc] at e
            subst e; exact ht (hts hmv _ rfl)
          simp [this]
        · have : Loc.b c ≠ opLoc Y := fun e => hnotb c e.symm
          simp [this]
        · exact ⟨(opLoc Y, 0, j), k3 j x u hx (by simpa using hu), by simp⟩
    · cases he
  · rename_i cs hev
    rw [hev] at hX
    obtain ⟨g, o, hp, hz⟩ := hX
    simp only [Option.bind_eq_some_iff] at he
    obtain ⟨i, hi, new, hnew, he⟩ := he
    split at he
    · rename_i hcond
      obtain ⟨hbe, hn, h0, hfit⟩ := hcond
      cases he
      have hBB := hBe hbe
      subst hBB
      simp only [hbe, if_true]
      have hY := (h.ev Y).bT .res
      obtain ⟨k1, k2, k3⟩ := pvCells_rep hY hnew
      have hsz : (a.eval Y).cells.toList.length = new.length := by simpa using k1
      obtain ⟨f1, f2⟩ := zfit_get hfit
      obtain ⟨w', hrun, hR⟩ := h.zstore (ts := ts) hz (vs := (a.eval Y).cells.toList) (by omega) (by omega) (fun j x hj hx => (f2 j (by omega)).2 x hx) (fun u hu => by
        refine ⟨k2 u (by simpa using hu), ?_⟩
        obtain ⟨j, hj, rfl⟩ := List.mem_iff_getElem.1 hu
        obtain ⟨y, hy, hy2⟩ := (f2 j (by omega)).1
        have := k3 j _ _ hy (by rw [← Array.getElem?_toList]; exact List.getElem?_eq_getElem hj)
        exact zplain_rep this hy2)
      refine ⟨w', G, ?_, hR⟩
      have hs : (a.eval Y).cells.size = i.sz := by rw [← hn]; exact k1
      have hne : ¬ ((a.eval Y).cells.size ≠ i.sz) := by simp [hs]
      rw [hp]
      simp only [Instr.storeAt, Instr.sureAddr, storeVar, Sem.run_bind, Sem.run_pure, Result.andThen_ok, tyi_size hi]
      rw [if_neg hne]
      exact hrun
    · cases he
  · cases he

theorem flat_rep {α : Type} (z : List α) : ∀ (n j : Nat) (x : α), (List.replicate n z).flatten[j]? = some x → z[j % z.length]? = some x
  | 0, j, x, h => by simp at h
  | n + 1, j, x, h => by
    simp only [List.replicate_succ, List.flatten_cons] at h
    by_cases hj : j < z.length
    · rw [List.getElem?_append_left hj] at h
      rw [Nat.mod_eq_of_lt hj]; exact h
    · rw [List.getElem?_append_right (by omega)] at h
      have := flat_rep z n _ x h
      rwa [Nat.mod_eq_sub_mod (by omega)]
theorem evMake_ok {P : Program} {F : Fr} {G : Gh} {st : St} {a : Act} {w : World} (h : Rel P F G st a w) {fl : AF} {d : Nat} (hd : d < F.nt) {t : TypeId} {X Y : Operand} {r : PV} {B B' : Bx} (hBe : fl.be = true → B = st.bx) (ts : List Nat)
    (he : evMake P fl t d (st.ev X) (st.ev Y) B = some (r, B')) :
    ∃ rv w' G', (Instr.makeSlice t (a.eval X) (a.eval Y)).run P w = .ok rv w' ∧ Rel P F G' (st.upd ts (some d) r (if fl.be = true then B' else st.bx)) (a.put (some d) rv) w' := by
  unfold evMake at he
  have hX := h.ev X
  have hY := h.ev Y
  split at he
  · rename_i k n k' m hx hy
    rw [hx] at hX; rw [hy] at hY
    obtain ⟨hX, -⟩ := hX
    obtain ⟨hY, -⟩ := hY
    simp only [Option.bind_eq_some_iff] at he
    obtain ⟨i, hi, e, hel, te, hte, he⟩ := he
    split at he
    · rename_i hc
      obtain ⟨hbe, hbn, rfl, h0, hb, hby, hzl, hsz, hj⟩ := hc
      simp only [Option.some.injEq, Prod.mk.injEq] at he
      obtain ⟨rfl, rfl⟩ := he
      have hBB := hBe hbe
      subst hBB
      have ht := tyi_el hi hel
      obtain ⟨i', td, k1, k2, k3, k4, k5, k6, k7, k8, k9, k10⟩ := tyi_spec hte
      cases hz : i'.zero with
      | none => rw [k9, hz] at hzl; simp at hzl; omega
      | some z =>
        have hzero : te.zero = z.cells.toList.map cpc := by rw [k9, hz]; rfl
        have hzs : z.cells.size = te.sz := by rw [hzero] at hzl; simpa using hzl
        have hone : ∀ u ∈ z.cells, u.oneCell' = true := by
          intro u hu
          have := List.all_eq_true.1 hj (cpc u) (by rw [hzero]; exact List.mem_map.2 ⟨u, by simpa using hu, rfl⟩)
          exact cpc_cell (by simpa using this)
        have hvX : a.eval X = .int k n := by generalize a.eval X = u at hX; cases hX; rfl
        have hvY : a.eval Y = .int k' n := by generalize a.eval Y = u at hY; cases hY; rfl
        have hrun := run_make (P := P) w t e i' z ht k1 hz k k' n n h0 (Int.le_refl _) (by rw [← k4]; exact hby) (by omega)
        rw [← k3] at hrun
        have hmc : ∀ (j : Nat) u, (madeCells z.cells (n.toNat * te.sz))[j]? = some u → z.cells[j % te.sz]? = some u := by
          intro j u hu
          have hjs : j % te.sz < z.cells.size := by rw [hzs]; exact Nat.mod_lt _ hsz
          unfold madeCells at hu
          rw [Array.getElem?_map] at hu
          obtain ⟨q, hq, rfl⟩ := Option.map_eq_some_iff.1 hu
          have hq' : q = j := by
            have hjl : j < n.toNat * te.sz := by
              have := (Array.getElem?_eq_some_iff.1 hq).1
              simpa using this
            rw [Array.getElem?_range, if_pos hjl] at hq
            exact (Option.some.inj hq).symm
          subst hq'
          rw [hzs, Array.getElem?_eq_getElem hjs]
          congr 1
          exact (getElem!_pos z.cells (q % te.sz) hjs).symm
        obtain ⟨G', hG'⟩ := h.newBox (d := d) hd hbn (cs := madeCells z.cells (n.toNat * te.sz)) (e := e) (cells := (List.replicate n.toNat te.zero).flatten) id ts (fun _ _ _ _ => rfl) (fun _ _ => rfl) rfl
          (by rw [size_madeCells]; simp [hzl]) (fun u hu => by
            obtain ⟨j, hj1, rfl⟩ := Array.mem_iff_getElem.1 hu
            exact hone _ (Array.mem_of_getElem? (hmc j _ (Array.getElem?_eq_getElem hj1)))) (fun j x u hx hu => ⟨(.b (.t d), 0, j), by
            have h1 := flat_rep te.zero _ j x hx
            rw [hzl, hzero, List.getElem?_map, Array.getElem?_toList, hmc j u hu] at h1
            simp at h1
            rw [← h1]; exact cpc_rep _ u, rfl⟩)
        have hp := hG'.tm d
        have hv0 : (a.put (some d) (.pointer (some ⟨w.heap.size, 0, none⟩))).tmps.getD d undef = .pointer (some ⟨w.heap.size, 0, none⟩) := by
          have hlt : d < a.tmps.size := by rw [h.nt]; exact hd
          simp [Act.put, Array.getD_eq_getD_getElem?, hlt]
        rw [hv0] at hp
        have hp' : RepT P G' (w.alloc (.cells (madeCells z.cells (n.toNat * te.sz)) e)) (.t d) (.ptr (.t d) 0) (.pointer (some ⟨w.heap.size, 0, none⟩)) := by
          have : (st.upd ts (some d) (.ptr (.t d) 0) (Bx.set st.bx (.t d) (List.replicate n.toNat te.zero).flatten)).tm d = .ptr (.t d) 0 := by simp [St.upd]
          rw [this] at hp; exact hp
        obtain ⟨hp1, hp2⟩ := hp'
        have hβ : G'.β (.t d) = w.heap.size := by injection hp1 with h1; injection h1 with h1; injection h1 with h1; exact h1.symm
        have hR := hG'.put1 [] (d := some d) (x := .rsl (.t d) e te.sz n.toNat) (v := .slice (some ⟨w.heap.size, 0, none⟩) n.toNat n.toNat) (fun d' e => by cases e; exact hd) (fun loc => ⟨by rw [hβ], hp2, by omega⟩)
        refine ⟨_, _, G', by rw [hvX, hvY]; exact hrun, ?_⟩
        rw [if_pos hbe]
        have e1 : (st.upd ts (some d) (.ptr (.t d) 0) (Bx.set st.bx (.t d) (List.replicate n.toNat te.zero).flatten)).upd [] (some d) (.rsl (.t d) e te.sz n.toNat) (Bx.set st.bx (.t d) (List.replicate n.toNat te.zero).flatten) =
            st.upd ts (some d) (.rsl (.t d) e te.sz n.toNat) (Bx.set st.bx (.t d) (List.replicate n.toNat te.zero).flatten) := by
          unfold St.upd
          congr 1
          funext t
          by_cases htd : some t = some d <;> simp [htd]
        have e2 : ∀ v, (a.put (some d) (.pointer (some ⟨w.heap.size, 0, none⟩))).put (some d) v = a.put (some d) v := by
          intro v; simp [Act.put]
        have hR' := hR
        rw [e2] at hR'
        exact e1 ▸ hR'
    · cases he
  · cases he

theorem ev1_sound {P : Program} {F : Fr} {G : Gh} {st : St} {a : Act} {w : World} (h : Rel P F G st a w) {fl : AF} {o : Oper} {v : PV} {B' : Bx} (hd : ∀ d', o.dst = some d' → d' < F.nt)
    (he : ev1 P fl o st.ev (vz fl st.bx) = some (v, B')) {K : Act → World → Prop} {Q : Exit → Act → World → Prop} (hK : ∀ a' w', (∃ G', Rel P F G' (st.after fl o v B') a' w') → K a' w') : o.wp P a w K Q := by
  have hbsub : ∀ b c, vz fl st.bx b = some c → st.bx b = some c := by
    intro b c hc; unfold vz at hc; split at hc
    · exact hc
    · cases hc
  generalize hBx : vz fl st.bx = B at he hbsub
  have hBeq : fl.be = true → B = st.bx := by intro h2; rw [← hBx]; simp [vz, h2]
  have hsame : (if fl.be = true then B else st.bx) = st.bx := by split <;> first | (rename_i hc; exact hBeq hc) | rfl
  -- a plain value
  have plain : ∀ (rv : Value), (execOp a.eval o).run P w = .ok (.value rv) w → B' = B → (∀ loc, RepT P G w loc v rv) → o.wp P a w K Q := by
    intro rv hrun hB hrep
    refine wp_value hrun (hK _ _ ⟨G, ?_⟩)
    unfold St.after
    rw [hB, hsame]
    exact h.put1 _ hd hrep
  -- a value that the same run gives at every place
  have plain2 : ∀ (S : Sem Value), (execOp a.eval o = do pure (.value (← S))) → B' = B → (∀ loc, ∃ rv, S.run P w = .ok rv w ∧ RepT P G w loc v rv) → o.wp P a w K Q := by
    intro S hS hB hrep
    obtain ⟨rv, hrun, _⟩ := hrep .res
    refine plain rv ?_ hB (fun loc => ?_)
    · rw [hS]; simp [hrun]
    · obtain ⟨rv', hrun', hr'⟩ := hrep loc
      rw [hrun] at hrun'; cases hrun'; exact hr'
  have hmvt : ∀ x, x ∈ o.op.operands.toList → fl.mv = true → ∀ t, x = Operand.tmp t → t ∈ stripsOf fl o := by
    intro x hx hmv t e
    subst e
    simp only [stripsOf, hmv, if_true]
    exact mem_tmpsOf.2 hx
  unfold ev1 at he
  split at he
  · -- move
    rename_i x hop
    simp only [Option.some.injEq, Prod.mk.injEq] at he
    obtain ⟨rfl, rfl⟩ := he
    obtain ⟨G', hG'⟩ := h.mvd fl.mv (ts := stripsOf fl o) x (hmvt x (by simp [hop, Op.operands])) hd
    exact wp_value (w' := w) (v := a.eval x) (by simp [execOp, hop]) (hK _ _ ⟨G', by unfold St.after; rw [hsame]; exact hG'⟩)
  · -- assign
    rename_i x hop
    simp only [Option.some.injEq, Prod.mk.injEq] at he
    obtain ⟨rfl, rfl⟩ := he
    obtain ⟨G', hG'⟩ := h.mvd fl.mv (ts := stripsOf fl o) x (hmvt x (by simp [hop, Op.operands])) hd
    exact wp_value (w' := w) (v := a.eval x) (by simp [execOp, hop]) (hK _ _ ⟨G', by unfold St.after; rw [hsame]; exact hG'⟩)
  · -- pick
    rename_i c x y hop
    split at he
    · rename_i b hb
      simp only [Option.some.injEq, Prod.mk.injEq] at he
      obtain ⟨rfl, rfl⟩ := he
      have hc := h.ev c
      rw [hb] at hc
      obtain ⟨hc, -⟩ := hc
      have hcv : a.eval c = .bool b := by generalize a.eval c = u at hc; cases hc; rfl
      refine plain (if b then a.eval x else a.eval y) ?_ rfl (fun loc => pick2_rep ((h.ev x).bT loc) ((h.ev y).bT loc))
      simp [execOp, hop, hcv, asBool]
    · cases he
  · -- alloc
    rename_i t hop
    simp only [Option.bind_eq_some_iff] at he
    obtain ⟨d, hdd, i, hi, he⟩ := he
    split at he
    · rename_i hc
      obtain ⟨hbe, hbn, hz0, hj⟩ := hc
      simp only [Option.some.injEq, Prod.mk.injEq] at he
      obtain ⟨rfl, rfl⟩ := he
      obtain ⟨i', td, k1, k2, k3, k4, k5, k6, k7, k8, k9, k10⟩ := tyi_spec hi
      have hBB := hBeq hbe
      subst hBB
      cases hzz : i'.zero with
      | none => rw [k9, hzz] at hz0; exact absurd rfl hz0
      | some z =>
        have hzero : i.zero = z.cells.toList.map cpc := by rw [k9, hzz]; rfl
        have hone : ∀ u ∈ z.cells, u.oneCell' = true := by
          intro u hu
          have := List.all_eq_true.1 hj (cpc u) (by rw [hzero]; exact List.mem_map.2 ⟨u, by simpa using hu, rfl⟩)
          exact cpc_cell (by simpa using this)
        have hrunA : (execOp a.eval o).run P w = .ok (.value (.pointer (some ⟨w.heap.size, 0, none⟩))) (w.alloc (.cells z.cells t)) := by
          simp [execOp, hop, Instr.alloc, zeroValue, typeInfo, k1, hzz, newVar, newRow]
        obtain ⟨G', hG'⟩ := h.newBox (d := d) (hd d hdd) hbn (cs := z.cells) (e := t) (cells := i.zero) id (stripsOf fl o) (fun _ _ _ _ => rfl) (fun _ _ => rfl) rfl (by rw [hzero]; simp) hone (fun j x u hx hu => ⟨(.b (.t d), 0, j), by
          rw [hzero, List.getElem?_map, Array.getElem?_toList, hu] at hx
          simp at hx; subst hx
          exact cpc_rep _ u, rfl⟩)
        exact wp_value hrunA (hK _ _ ⟨G', by unfold St.after; rw [if_pos hbe, hdd]; exact hG'⟩)
    · cases he
  · -- box
    rename_i t x hop
    simp only [Option.bind_eq_some_iff] at he
    obtain ⟨d, hdd, cells, hcells, he⟩ := he
    split at he
    · rename_i hc
      obtain ⟨hbe, hbn⟩ := hc
      simp only [Option.some.injEq, Prod.mk.injEq] at he
      obtain ⟨rfl, rfl⟩ := he
      have hBB := hBeq hbe
      subst hBB
      have hrunA : (execOp a.eval o).run P w = .ok (.value (.pointer (some ⟨w.heap.size, 0, none⟩))) (w.alloc (.cells (a.eval x).cells t)) := by
        simp [execOp, hop, Instr.box, newVar, newRow]
      have hX := h.ev x
      cases hmv : fl.mv with
      | false =>
        rw [hmv] at hcells
        obtain ⟨k1, k2, k3⟩ := pvCells_rep (hX.bT .res) hcells
        obtain ⟨G', hG'⟩ := h.newBox (d := d) (hd d hdd) hbn (cs := (a.eval x).cells) (e := t) (cells := cells) id (stripsOf fl o) (fun _ _ _ _ => rfl) (fun _ _ => rfl) rfl k1 k2 (fun j y u hy hu => ⟨(.b (.t d), 0, j), (pvCells_rep (hX.bT (.b (.t d))) hcells).2.2 j y u hy hu, rfl⟩)
        exact wp_value hrunA (hK _ _ ⟨G', by unfold St.after; rw [if_pos hbe, hdd]; exact hG'⟩)
      | true =>
        rw [hmv] at hcells
        simp only [mvd, if_true] at hcells
        obtain ⟨k1, k2, k3⟩ := pvCells_rep hX hcells
        have hnotb : ∀ c, opLoc x ≠ .b c := by intro c; cases x <;> simp [opLoc]
        obtain ⟨G', hG'⟩ := h.newBox (d := d) (hd d hdd) hbn (cs := (a.eval x).cells) (e := t) (cells := cells) (fun p => if p.1 = opLoc x then (.b (.t d), 0, p.2.2) else p) (stripsOf fl o)
          (fun t ht i j => by
            have : Loc.t t ≠ opLoc x := by
              intro e
              cases x <;> simp [opLoc] at e
              subst e; exact ht (hmvt _ (by simp [hop, Op.operands]) hmv _ rfl)
            simp [this])
          (fun c j => by
            have : Loc.b c ≠ opLoc x := fun e => hnotb c e.symm
            simp [this]) (by cases x <;> simp [qpos, opLoc]) k1 k2 (fun j y u hy hu => ⟨(opLoc x, 0, j), k3 j y u hy hu, by simp⟩)
        exact wp_value hrunA (hK _ _ ⟨G', by unfold St.after; rw [if_pos hbe, hdd]; exact hG'⟩)
    · cases he
  · -- build
    rename_i t parts hop
    simp only [Option.map_eq_some_iff, Prod.mk.injEq] at he
    obtain ⟨r, hr, rfl, rfl⟩ := he
    exact plain2 (Instr.build t (parts.map fun (i, x) => (i, a.eval x))) (by simp [execOp, hop]) rfl (fun loc => evBuild_ok h loc hr)
  · -- buildSlice
    rename_i t len parts hop
    split at he
    · rename_i hds
      obtain ⟨d, hdd⟩ := Option.isSome_iff_exists.1 hds
      simp only [Option.map_eq_some_iff, Prod.mk.injEq] at he
      obtain ⟨r, hr, rfl, rfl⟩ := he
      obtain ⟨rv, w', G', hrun, hR⟩ := evBuildSlice_ok h (hd d hdd) hr (stripsOf fl o)
      refine wp_value (w' := w') (v := rv) ?_ (hK _ _ ⟨G', by unfold St.after; rw [hsame, hdd]; exact hR⟩)
      have : execOp a.eval o = (do let q ← Instr.buildSlice t len (parts.map fun (i, x) => (i, a.eval x)); pure (Next.value q) : Sem Next) := by simp [execOp, hop]
      rw [this]; simp [hrun]
    · cases he
  · -- load
    rename_i t x hop
    obtain ⟨rv, G', hrun, hR⟩ := evLoad_ok h (ts := stripsOf fl o) (d := o.dst) hd hbsub hBeq he
    refine wp_value (w' := w) (v := rv) ?_ (hK _ _ ⟨G', hR⟩)
    simp [execOp, hop, hrun]
  · -- store
    rename_i t x y hop
    split at he
    · rename_i hdn
      simp only [Option.map_eq_some_iff, Prod.mk.injEq] at he
      obtain ⟨B1, hB1, rfl, rfl⟩ := he
      obtain ⟨w', G', hrun, hR⟩ := evStore_ok h (ts := stripsOf fl o) (hmvt y (by simp [hop, Op.operands])) hBeq hB1
      refine wp_skip' (w' := w') ?_ (hK _ _ ⟨G', by unfold St.after; rw [hdn]; exact hR⟩)
      simp [execOp, hop, hrun]
    · cases he
  · -- nilCheck
    rename_i x hop
    have hX := h.ev x
    split at he
    · rename_i b off hev
      simp only [Option.some.injEq, Prod.mk.injEq] at he
      obtain ⟨rfl, rfl⟩ := he
      rw [hev] at hX
      have hX' := hX
      obtain ⟨hp, hl⟩ := hX'
      refine plain (a.eval x) ?_ rfl (fun loc => ⟨hp, hl⟩)
      rw [hp]; simp [execOp, hop, hp]
    · rename_i cs hev
      simp only [Option.some.injEq, Prod.mk.injEq] at he
      obtain ⟨rfl, rfl⟩ := he
      rw [hev] at hX
      have hX' := hX
      obtain ⟨g, k, hp, hr⟩ := hX'
      refine plain (a.eval x) ?_ rfl (fun loc => ⟨g, k, hp, hr⟩)
      rw [hp]; simp [execOp, hop, hp]
    · cases he
  · -- binOp
    rename_i op t x y yt hop
    simp only [Option.map_eq_some_iff, Prod.mk.injEq] at he
    obtain ⟨r, hr, rfl, rfl⟩ := he
    exact plain2 (do eqGuard op t x y (a.eval x) (a.eval y); binOp op t (a.eval x) (a.eval y)) (by simp [execOp, hop]) rfl (fun loc => evBin_ok loc x y (h.ev x) (h.ev y) hr)
  · -- unOp
    rename_i op t x hop
    simp only [Option.map_eq_some_iff, Prod.mk.injEq] at he
    obtain ⟨r, hr, rfl, rfl⟩ := he
    exact plain2 (Op.unary op (a.eval x)) (by simp [execOp, hop]) rfl (fun loc => evUn_ok loc (h.ev x) hr)
  · -- convert
    rename_i s t x hop
    split at he
    · rename_i hs
      simp only [Option.map_eq_some_iff, Prod.mk.injEq] at he
      obtain ⟨r, hr, rfl, rfl⟩ := he
      exact plain2 (convert s t (a.eval x)) (by simp [execOp, hop]) rfl (fun loc => evConv2_ok loc hs (h.ev x) hr)
    · cases he
  · -- makeFunc
    rename_i fn first caps hop
    split at he
    · rename_i f
      split at he
      · rename_i hf
        simp only [Option.some.injEq, Prod.mk.injEq] at he
        obtain ⟨rfl, rfl⟩ := he
        obtain ⟨hf, hall⟩ := hf
        have hf' : first = #[] := by simpa using hf
        refine plain (.func (.func f) #[] (caps.map a.eval)) (by simp [execOp, hop, hf', Instr.makeFunc]) rfl (fun loc => ⟨caps.map a.eval, rfl, by simp, fun i x u hx hu => ?_⟩)
        rw [List.getElem?_map] at hx
        obtain ⟨c, hc, rfl⟩ := Option.map_eq_some_iff.1 hx
        rw [Array.getElem?_toList] at hc
        rw [Array.getElem?_map, hc] at hu
        simp at hu
        subst hu
        have hat := List.all_eq_true.1 hall c (by
          have := Array.mem_of_getElem? hc
          simpa using this)
        have hr := h.ev c
        generalize st.ev c = y at hr hat
        cases y <;> first | (simp [PV.bC, PV.isAt] at hat; done) | exact hr | exact ⟨OwnAt.data hr, rfl⟩ | exact RepC.bC (P := P) (p := (opLoc c, 0, 0)) (opLoc c, 0, 0) (x := .dp _) hr
      · cases he
    · cases he
  · -- slice
    rename_i t x lo hi mx hop
    split at he
    · rename_i hmx
      simp only [Option.map_eq_some_iff, Prod.mk.injEq] at he
      obtain ⟨r, hr, rfl, rfl⟩ := he
      have hmx' : mx = none := by cases mx <;> simp at hmx; rfl
      have hO : ∀ q : Option Operand, RepO P G w (q.map st.ev) (q.map a.eval) := by
        intro q; cases q with
        | none => trivial
        | some q => exact ⟨_, h.ev q⟩
      exact plain2 (Instr.sliceAt t (a.eval x) (lo.map a.eval) (hi.map a.eval) none) (by simp [execOp, hop, hmx']) rfl (fun loc => evSlice_ok loc (h.ev x) (hO lo) (hO hi) hr)
    · cases he
  · -- fieldAddr
    rename_i t x f hop
    simp only [Option.map_eq_some_iff, Prod.mk.injEq] at he
    obtain ⟨r, hr, rfl, rfl⟩ := he
    exact plain2 (Instr.fieldAt t (a.eval x) f) (by simp [execOp, hop]) rfl (fun loc => evFldAddr_ok loc (h.ev x) hr)
  · -- field
    rename_i t x f hop
    simp only [Option.map_eq_some_iff, Prod.mk.injEq] at he
    obtain ⟨r, hr, rfl, rfl⟩ := he
    exact plain2 (Instr.field t (a.eval x) f) (by simp [execOp, hop]) rfl (fun loc => evFld_ok loc (h.ev x) hr)
  · -- indexAddr
    rename_i t x i hop
    simp only [Option.map_eq_some_iff, Prod.mk.injEq] at he
    obtain ⟨r, hr, rfl, rfl⟩ := he
    exact plain2 (Instr.indexAt t (a.eval x) (a.eval i)) (by simp [execOp, hop]) rfl (fun loc => evIA_ok loc (h.ev x) (h.ev i) hr)
  · -- makeSlice
    rename_i t lo hi hop
    simp only [Option.bind_eq_some_iff] at he
    obtain ⟨d, hdd, he⟩ := he
    obtain ⟨rv, w', G', hrun, hR⟩ := evMake_ok h (hd d hdd) hBeq (stripsOf fl o) he
    refine wp_value (w' := w') (v := rv) ?_ (hK _ _ ⟨G', by unfold St.after; rw [hdd]; exact hR⟩)
    simp [execOp, hop, hrun]
  · -- index
    rename_i t x i hop
    simp only [Option.map_eq_some_iff, Prod.mk.injEq] at he
    obtain ⟨r, hr, rfl, rfl⟩ := he
    exact plain2 (Instr.index t (a.eval x) (a.eval i)) (by simp [execOp, hop]) rfl (fun loc => evIdx_ok loc (h.ev x) (h.ev i) hr)
  · -- extract
    rename_i x i hop
    have hX := h.ev x
    split at he
    · rename_i l hev
      simp only [Option.map_eq_some_iff, Prod.mk.injEq] at he
      obtain ⟨r, hr, rfl, rfl⟩ := he
      rw [hev] at hX
      obtain ⟨vs, hp, hsz, hrep⟩ := hX
      have hlt : i < vs.size := by rw [hsz]; exact (List.getElem?_eq_some_iff.1 hr).1
      have hvi : vs[i]? = some vs[i] := Array.getElem?_eq_getElem hlt
      have hV := hrep i r vs[i] hr hvi
      have hrunX : (execOp a.eval o).run P w = .ok (.value vs[i]) w := by simp [execOp, hop, hp, Instr.extract, hvi]
      cases hmv : fl.mv with
      | false =>
        refine plain vs[i] hrunX rfl (fun loc => ?_)
        rw [hmv]
        have h1 := hV.bV loc 0
        have h2 : RepT P G w loc r.bV vs[i] := RepV.toT h1
        cases r <;> first | exact h2 | (simp only [RepV, RepC] at hV)
      | true =>
        rw [hmv] at hK
        simp only [Bee.mvd, if_true] at hK
        cases hdd : o.dst with
        | none =>
          have := h.next (GStep.refl G w) (ts := stripsOf fl o) (d := none) (x := r) (v := vs[i]) (bx := st.bx) (fun t _ _ i j => rfl) (fun d' e => by cases e) (fun d' e => by cases e) h.hp h.sn
          exact wp_value hrunX (hK _ _ ⟨G, by unfold St.after; rw [hsame, hdd]; exact this⟩)
        | some d =>
          have hnotb : ∀ c, opLoc x ≠ .b c := by intro c; cases x <;> simp [opLoc]
          let f : Pos → Pos := fun p => if p.1 = opLoc x then (.t d, 0, p.2.2) else p
          have hfq : f qpos = qpos := by cases x <;> simp [f, qpos, opLoc]
          have hg := GStep.relabel G w f hfq
          have hR := h.next hg (ts := stripsOf fl o) (d := some d) (x := r) (v := vs[i]) (bx := st.bx) (fun t ht _ i j => by
              have : Loc.t t ≠ opLoc x := by
                intro e
                cases x <;> simp [opLoc] at e
                subst e; exact ht (hmvt _ (by simp [hop, Op.operands]) hmv _ rfl)
              simp [f, this]) (fun d' e => by
              cases e
              exact RepV.toT (hV.step hg (loc' := .t d) (i' := 0) (fun j => by simp [f]))) (fun d' e => by cases e; exact hd d hdd) (h.hp.relabel f (fun b j => by
                have : Loc.b b ≠ opLoc x := fun e => hnotb b e.symm
                simp [f, this]) hfq) (h.sn.relabel f)
          exact wp_value hrunX (hK _ _ ⟨_, by unfold St.after; rw [hsame, hdd]; exact hR⟩)
    · cases he
  · -- calls of builtins
    rename_i c hop
    split at he
    · rename_i x t hcal hargs htys
      simp only [Option.map_eq_some_iff, Prod.mk.injEq] at he
      obtain ⟨r, hr, rfl, rfl⟩ := he
      have e1 : c.args = #[x] := by apply Array.toList_inj.1; simpa using hargs
      have e2 : c.argTypes = #[t] := by apply Array.toList_inj.1; simpa using htys
      exact plain2 (Builtin.len_ #[t] o.type #[a.eval x]) (by simp [execOp, hop, resolve, invoke, builtin, hcal, e1, e2]) rfl (fun loc => evLen_ok loc (h.ev x) hr)
    · rename_i s x t t' hcal hargs htys
      split at he
      · rename_i hc
        obtain ⟨rfl, hmv, hds⟩ := hc
        obtain ⟨d, hdd⟩ := Option.isSome_iff_exists.1 hds
        simp only [Option.map_eq_some_iff, Prod.mk.injEq] at he
        obtain ⟨r, hr, rfl, rfl⟩ := he
        have e1 : c.args = #[s, x] := by apply Array.toList_inj.1; simpa using hargs
        have e2 : c.argTypes = #[t, t] := by apply Array.toList_inj.1; simpa using htys
        obtain ⟨rv, w', G', hrun, hR⟩ := evAppend_ok h (hd d hdd) (ty := o.type) hr
        have hst : stripsOf fl o = tmpsOf [s, x] := by simp [stripsOf, hmv, hop, Op.operands, Call.operands, hcal, e1]
        refine wp_value (w' := w') (v := rv) ?_ (hK _ _ ⟨G', by unfold St.after; rw [hsame, hdd, hst]; exact hR⟩)
        simp [execOp, hop, resolve, invoke, builtin, hcal, e1, e2, hrun]
      · cases he
    · rename_i x y t t' hcal hargs htys
      simp only [Option.map_eq_some_iff, Prod.mk.injEq] at he
      obtain ⟨r, hr, rfl, rfl⟩ := he
      have e1 : c.args = #[x, y] := by apply Array.toList_inj.1; simpa using hargs
      have e2 : c.argTypes = #[t, t'] := by apply Array.toList_inj.1; simpa using htys
      obtain ⟨rv, hrun, hrep⟩ := evMinMax_ok (t1 := t) (t2 := t') (ty := o.type) (h.ev x) (h.ev y) hr
      exact plain rv (by simp at hrun; simp [execOp, hop, resolve, invoke, builtin, hcal, e1, e2, hrun]) rfl hrep
    · rename_i x y t t' hcal hargs htys
      simp only [Option.map_eq_some_iff, Prod.mk.injEq] at he
      obtain ⟨r, hr, rfl, rfl⟩ := he
      have e1 : c.args = #[x, y] := by apply Array.toList_inj.1; simpa using hargs
      have e2 : c.argTypes = #[t, t'] := by apply Array.toList_inj.1; simpa using htys
      obtain ⟨rv, hrun, hrep⟩ := evMinMax_ok (t1 := t) (t2 := t') (ty := o.type) (h.ev x) (h.ev y) hr
      exact plain rv (by simp at hrun; simp [execOp, hop, resolve, invoke, builtin, hcal, e1, e2, hrun]) rfl hrep
    · cases he
  · cases he

end Go.Bee

/-
Calls: what a function gives back, as the logic says it. No condition.
-/
namespace Go.Bee
set_option linter.unusedVariables false

theorem run_callFunc {P : Program} {f : Nat} (h : isFn P f = true) (args : Array Value) (w : World) : (callFunc f args).run P w = .ok (.enter f args) w := by
  unfold isFn at h
  split at h
  · rename_i fn hf
    simp only [Bool.and_eq_true, bne_iff_ne, ne_eq] at h
    have h2 : fn.body ≠ none := by intro hb; simp [hb] at h
    simp [callFunc, hf, h.1, h2]
  · cases h

def bxOf (bi : List (List PV)) : Bx := fun b => match b with | .a k => bi[k]? | .t _ => none
/-- Function f, given args (and variables that hold bi), gives r back (and leaves bo in the variables). -/
def BRet (P : Program) (f : Nat) (bi : List (List PV)) (args : List PV) (r : PV) (bo : List (List PV)) : Prop :=
  isFn P f = true ∧ bo.length = bi.length ∧ ∀ (G : Gh) (w : World) (vs : Array Value) (Wr : Nat → Prop), vs.size = args.length →
    (∀ (i : Nat) x u, args[i]? = some x → vs[i]? = some u → RepT P G w (.t i) x u) → Hp P G w (bxOf bi) →
    (∀ g p, G.own g = some p → Wr g) → (∀ b, G.live b → Wr (G.β b)) → (∀ g, G.fz g → g < w.heap.size ∧ ¬ Wr g) → (∀ g, g < w.heap.size → ¬ Wr g → G.fz g) → TabOk P G.fz w →
    Calls P f vs w fun e w' => ∃ v G', e = .returned v ∧ RepT P G' w' .res r v ∧ Hp P G' w' (bxOf bo) ∧ Ext G.im w G'.im w' Wr ∧ (∀ k, G'.β (.a k) = G.β (.a k)) ∧ (∀ g p, G'.own g = some p → w.heap.size ≤ g ∨ Wr g) ∧
      ∀ g, FreeB G w g → KindSame w w' g ∧ (∃ cs e, w'.heap[g]? = some (.cells cs e (0, 0))) ∧ G'.own g = none ∧ ∀ o, ¬ G'.im g o

def PV.pass1 : PV → Bool
  | .d _ => true
  | .nilS => true
  | .nn _ _ => true
  | .own _ _ _ => true
  | .und => true
  | .eptr _ => true
  | .efn _ => true
  | .dp _ => true
  | .junk => true
  | .fn _ => true
  | _ => false
def PV.passable : PV → Bool
  | .agg l => l.all PV.pass1
  | x => x.pass1
def PV.gives1 : PV → Bool
  | .fn _ => false
  | .efn _ => false
  | .junk => false
  | x => x.pass1
def PV.gives2 : PV → Bool
  | .agg l => l.all PV.gives1
  | x => x.gives1
def PV.gives : PV → Bool
  | .tup l => l.all PV.gives2
  | x => x.gives2

/-- A step of the ghost for values that hold no address of a variable. -/
structure PStep (G : Gh) (w : World) (G' : Gh) (w' : World) (kp : Pos → Pos → Prop) : Prop where
  keep : Keep G.im w G'.im w'
  own : ∀ g p q, G.own g = some p → kp p q → G'.own g = some q ∧ w'.heap[g]? = w.heap[g]? ∧ ∀ o, G'.im g o → G.im g o
def FzUp (P : Program) (G : Gh) (w : World) (G' : Gh) (w' : World) : Prop := (∀ g, G.fz g → G'.fz g) ∧ (∀ g, G.fz g → w'.heap[g]? = w.heap[g]?) ∧ w.heap.size ≤ w'.heap.size
theorem FnOk.fz {P : Program} {S : Nat → Nat → Prop} {fz fz' : Nat → Prop} {w : World} (hz : ∀ g, fz g → fz' g) {K : List PD → Option PD} {v : Value} (h : FnOk P S fz w K v) : FnOk P S fz' w K v := by
  obtain ⟨f, caps, hv, hf, h⟩ := h
  exact ⟨f, caps, hv, hf, fun xs r hK => ⟨(h xs r hK).1, fun S1 w1 hk1 hz1 => (h xs r hK).2 S1 w1 hk1 (fun g hg => hz1 g (hz g hg))⟩⟩
theorem OwnAt.pstep {G G' : Gh} {w w' : World} {kp : Pos → Pos → Prop} (h : PStep G w G' w' kp) {p q : Pos} (hp : kp p q) {e sz : Nat} {l : List PD} {v : Value}
    (hx : OwnAt G w p e sz l v) : OwnAt G' w' q e sz l v := by
  refine ⟨hx.1.keep h.keep, hx.2.imp (fun ⟨h1, h2⟩ => ⟨h1, fun hl g hg => ⟨(h.own g p q (h2 hl g hg).1 hp).1, by rw [(h.own g p q (h2 hl g hg).1 hp).2.1]; exact (h2 hl g hg).2⟩⟩) fun ⟨vs, ho, hu, hg⟩ => ⟨vs, ⟨ho.1, ?_⟩, hu, fun g hvg => ?_⟩⟩
  · rcases ho.2 with hn | ⟨g, cap, cur, rfl, hb, hgg, rest⟩
    · exact .inl hn
    · exact .inr ⟨g, cap, cur, rfl, hb, by rw [(h.own g p q (hg g rfl).1 hp).2.1]; exact hgg, rest⟩
  · obtain ⟨h1, h2, h3⟩ := hg g hvg
    obtain ⟨k1, k2, k3⟩ := h.own g p q h1 hp
    exact ⟨k1, fun i hi => (h.keep g i (h2 i hi)).1, fun i hi hc => h3 i hi (k3 i hc)⟩
theorem RepC.pstep {P : Program} {G G' : Gh} {w w' : World} {kp : Pos → Pos → Prop} (h : PStep G w G' w' kp) {p q : Pos} (hp : kp p q) {x : PV} {v : Value} (hx1 : x.pass1 = true) (hz : (∃ K, x = .fn K ∨ x = .efn K) → FzUp P G w G' w')
    (hx : RepC P G w p x v) : RepC P G' w' q x v := by
  cases x <;> simp only [PV.pass1, Bool.false_eq_true] at hx1 <;> simp only [RepC, RepAt] at hx ⊢
  case d x => exact ⟨hx.1.keep h.keep, hx.2⟩
  case nilS => exact hx
  case nn sz l => exact ⟨hx.1.keep h.keep, hx.2⟩
  case own e sz l => exact hx.pstep h hp
  case eptr cs => obtain ⟨g, o, hv, hr⟩ := hx; exact ⟨g, o, hv, hr.keep h.keep⟩
  case fn K => obtain ⟨h1, h2, h3⟩ := hz ⟨K, .inl rfl⟩; exact (hx.keep h.keep h2 h3).fz h1
  case efn K => obtain ⟨h1, h2, h3⟩ := hz ⟨K, .inr rfl⟩; obtain ⟨g, o, u, a1, a2, a3, a4⟩ := hx; exact ⟨g, o, u, a1, (h.keep g o a2).1, (h.keep g o a2).2.trans a3, (a4.keep h.keep h2 h3).fz h1⟩
  case dp x => exact ⟨hx.1.keep (fun b o ⟨h1, h2, cs, e, h3⟩ => ⟨⟨(h.keep b o h1).1, (h.own b p q h2 hp).1, cs, e, by rw [(h.own b p q h2 hp).2.1]; exact h3⟩, (h.keep b o h1).2⟩), hx.2⟩
  case und => exact hx
theorem RepV.pstep {P : Program} {G G' : Gh} {w w' : World} {kp : Pos → Pos → Prop} (h : PStep G w G' w' kp) {loc loc' : Loc} {i i' : Nat} (hp : ∀ j, kp (loc, i, j) (loc', i', j)) {x : PV} {v : Value} (hx1 : x.passable = true) (hz : FzUp P G w G' w')
    (hx : RepV P G w loc i x v) : RepV P G' w' loc' i' x v := by
  cases x
  case agg l =>
    obtain ⟨cs, hv, hl, h1, hr⟩ := hx
    exact ⟨cs, hv, hl, h1, fun j x u h1 h2 => (hr j x u h1 h2).pstep h (hp j) (List.all_eq_true.1 hx1 x (List.mem_of_getElem? h1)) (fun _ => hz)⟩
  all_goals (simp only [PV.passable] at hx1; exact RepC.pstep (P := P) (v := v) h (hp 0) hx1 (fun _ => hz) hx)
theorem RepV.pstepG {P : Program} {G G' : Gh} {w w' : World} {kp : Pos → Pos → Prop} (h : PStep G w G' w' kp) {loc loc' : Loc} {i i' : Nat} (hp : ∀ j, kp (loc, i, j) (loc', i', j)) {x : PV} {v : Value} (hx1 : x.gives2 = true)
    (hx : RepV P G w loc i x v) : RepV P G' w' loc' i' x v := by
  have g1 : ∀ y : PV, y.gives1 = true → y.pass1 = true ∧ ¬ ∃ K, y = .fn K ∨ y = .efn K := by
    intro y hy
    cases y <;> simp [PV.gives1, PV.pass1] at hy ⊢
  cases x
  case agg l =>
    obtain ⟨cs, hv, hl, h1, hr⟩ := hx
    refine ⟨cs, hv, hl, h1, fun j x u h1 h2 => ?_⟩
    obtain ⟨k1, k2⟩ := g1 x (List.all_eq_true.1 hx1 x (List.mem_of_getElem? h1))
    exact (hr j x u h1 h2).pstep h (hp j) k1 (fun e => absurd e k2)
  all_goals
    simp only [PV.gives2] at hx1
    obtain ⟨k1, k2⟩ := g1 _ hx1
    exact RepC.pstep (P := P) (v := v) h (hp 0) k1 (fun e => absurd e k2) hx
theorem RepT.pstepG {P : Program} {G G' : Gh} {w w' : World} {kp : Pos → Pos → Prop} (h : PStep G w G' w' kp) {loc loc' : Loc} (hp : ∀ i j, kp (loc, i, j) (loc', i, j)) {x : PV} {v : Value} (hx1 : x.gives = true)
    (hx : RepT P G w loc x v) : RepT P G' w' loc' x v := by
  cases x
  case tup l =>
    obtain ⟨vs, hv, hl, hr⟩ := hx
    exact ⟨vs, hv, hl, fun i x u h1 h2 => (hr i x u h1 h2).pstepG h (hp i) (List.all_eq_true.1 hx1 x (List.mem_of_getElem? h1))⟩
  all_goals (simp only [PV.gives] at hx1; exact RepV.pstepG (P := P) (v := v) h (hp 0) hx1 hx)
theorem RepT.toV {P : Program} {G : Gh} {w : World} {loc : Loc} {x : PV} {v : Value} (h : RepT P G w loc x v) (hx : x.passable = true) : RepV P G w loc 0 x v := by
  cases x <;> first | exact h | simp [PV.passable, PV.pass1] at hx

/-- Plain data as a slot holds it. -/
def ofPD : PD → PV
  | .agg cs => .agg (cs.map .d)
  | x => .d x
theorem ofPD_rep {P : Program} {G : Gh} {w : World} {loc : Loc} {x : PD} {v : Value} (h : RepD G.im w x v) : RepT P G w loc (ofPD x) v := by
  cases h
  case agg cs vs hl hs hr =>
    refine ⟨vs, rfl, by simpa using hl, fun u hu => ?_, fun j y u hy hu => ?_⟩
    · obtain ⟨j, hj, rfl⟩ := Array.mem_iff_getElem.1 hu
      have hj2 : j < cs.length := by omega
      exact (hr j cs[j] vs[j] (List.getElem?_eq_getElem hj2) (Array.getElem?_eq_getElem hj)).oneCell (hs _ (List.getElem_mem hj2))
    · rw [List.getElem?_map] at hy
      obtain ⟨z, hz, rfl⟩ := Option.map_eq_some_iff.1 hy
      exact ⟨hr j z u hz hu, hs z (List.mem_of_getElem? hz)⟩
  case bool b => exact ⟨.bool b, rfl⟩
  case int k n => exact ⟨.int k n, rfl⟩
  case str l hb => exact ⟨.str l hb, rfl⟩
  case nil sz => exact ⟨.nil sz, rfl⟩
  case sl sz l g o c vs hb hc hu hs hl hv hr => exact ⟨.sl sz l g o c vs hb hc hu hs hl hv hr, rfl⟩
  case emp sz a c => exact ⟨.emp sz a c, rfl⟩
theorem RepT.toC {P : Program} {G : Gh} {w : World} {loc : Loc} {x : PV} {v : Value} (h : RepT P G w loc x v) (ha : ∀ l, x ≠ .agg l) (ht : ∀ l, x ≠ .tup l) : RepC P G w (loc, 0, 0) x v := by
  cases x <;> first | exact h | exact absurd rfl (ha _) | exact absurd rfl (ht _)
theorem pd_RepD {P : Program} {G : Gh} {w : World} {loc : Loc} {x : PV} {v : Value} {y : PD} (h : RepT P G w loc x v) (hx : x.pd = some y) : RepD G.im w y v := by
  cases x
  case agg l =>
    simp only [PV.pd, Option.map_eq_some_iff] at hx
    obtain ⟨ys, hy, rfl⟩ := hx
    obtain ⟨cs, rfl, hsz, h1, hr⟩ := h
    obtain ⟨h2, h3⟩ := pdL_get hy
    refine .agg ys cs (by omega) (fun c hc => ?_) (fun i c u hc hu => ?_)
    · obtain ⟨i, hi, rfl⟩ := List.mem_iff_getElem.1 hc
      have hi2 : i < l.length := by omega
      have hi3 : i < cs.size := by omega
      exact (pdC_rep (hr i l[i] cs[i] (List.getElem?_eq_getElem hi2) (Array.getElem?_eq_getElem hi3)) (h3 i _ _ (List.getElem?_eq_getElem hi2) (List.getElem?_eq_getElem hi))).2
    · obtain ⟨hi, _⟩ := List.getElem?_eq_some_iff.1 hc
      have hi2 : i < l.length := by omega
      exact (pdC_rep (hr i l[i] u (List.getElem?_eq_getElem hi2) hu) (h3 i _ _ (List.getElem?_eq_getElem hi2) hc)).1
  case tup l => simp [PV.pd, PV.pdC] at hx
  all_goals (simp only [PV.pd] at hx; exact (pdC_rep (h.toC (by simp) (by simp)) hx).1)
theorem plain_rep {P : Program} {G : Gh} {w : World} {loc : Loc} {x : PD} {v : Value} (hp : x.plain = true) (h : RepT P G w loc (ofPD x) v) (S : Nat → Nat → Prop) (w' : World) : RepD S w' x v := by
  have one : ∀ (S : Nat → Nat → Prop) (y : PD) u, (match y with | .bool _ => true | .int _ _ => true | .str _ => true | _ => false) = true → RepD G.im w y u → RepD S w' y u := by
    intro S y u hy hr
    cases hr <;> simp at hy
    · exact .bool _
    · exact .int _ _
    · exact .str _ ‹_›
  cases x
  case agg cs =>
    obtain ⟨vs, rfl, hl, h1, hr⟩ := h
    have hl' : vs.size = cs.length := by simpa using hl
    refine .agg cs vs hl' (fun c hc => ?_) (fun i c u hc hu => ?_)
    · have := List.all_eq_true.1 hp c hc
      cases c <;> simp at this <;> rfl
    · refine one S c u (List.all_eq_true.1 hp c (List.mem_of_getElem? hc)) ?_
      exact (hr i (.d c) u (by rw [List.getElem?_map, hc]; rfl) hu).1
  case sl sz l => simp [PD.plain] at hp
  all_goals exact one S _ v hp h.1

/-- The captured values of a function, as it is handed them: a variable's contents to be read. -/
def capOf (B : Bx) : PV → Option PV
  | .ptr b o => (B b).bind fun cells => (pdL cells).map fun ys => .eptr (ys.drop o)
  | .d x => some (.d x)
  | .nilS => some .nilS
  | .nn sz l => some (.nn sz l)
  | .eptr cs => some (.eptr cs)
  | _ => none
def capsOf (B : Bx) : List PV → Option (List PV)
  | [] => some []
  | x :: xs => (capOf B x).bind fun y => (capsOf B xs).map fun ys => y :: ys
def capBoxes (caps : List PV) : List BN := caps.filterMap fun | .ptr b _ => some b | _ => none
/-- A function value whose captured variables hold data. -/
def CloOK0 (P : Program) (B : Bx) (f : Nat) (caps : List PV) (K : List PD → Option PD) : Prop :=
  ∃ cs, capsOf B caps = some cs ∧ isFn P f = true ∧ ∀ xs r, K xs = some r → r.plain = true ∧ BRet P f [] (xs.map ofPD ++ cs) (ofPD r) []
/-- What a captured variable is to the function: data, or a cell with a function in it. -/
inductive CapR (P : Program) (B : Bx) : PV → PV → Prop
  | data (x y : PV) (h : capOf B x = some y) : CapR P B x y
  | fn (b : BN) (f : Nat) (caps : List PV) (K : List PD → Option PD) (hb : B b = some [.clo f caps]) (h : CloOK0 P B f caps K) : CapR P B (.ptr b 0) (.efn K)
inductive CapsR (P : Program) (B : Bx) : List PV → List PV → Prop
  | nil : CapsR P B [] []
  | cons (x y : PV) (xs ys : List PV) (h : CapR P B x y) (k : CapsR P B xs ys) : CapsR P B (x :: xs) (y :: ys)
/-- The variables that are captured, and those that these capture. -/
def capAll (B : Bx) (caps : List PV) : List BN := caps.flatMap fun | .ptr b _ => b :: (match B b with | some [.clo _ caps'] => capBoxes caps' | _ => []) | _ => []
def CloOK (P : Program) (B : Bx) (f : Nat) (caps : List PV) (K : List PD → Option PD) : Prop :=
  ∃ cs, CapsR P B caps cs ∧ isFn P f = true ∧ ∀ xs r, K xs = some r → r.plain = true ∧ BRet P f [] (xs.map ofPD ++ cs) (ofPD r) []
theorem CapsR.of {P : Program} {B : Bx} : ∀ {caps cs : List PV}, capsOf B caps = some cs → CapsR P B caps cs
  | [], cs, h => by simp [capsOf] at h; subst h; exact .nil
  | x :: xs, cs, h => by
    simp only [capsOf, Option.bind_eq_some_iff, Option.map_eq_some_iff] at h
    obtain ⟨y, hy, zs, hz, rfl⟩ := h
    exact .cons _ _ _ _ (.data _ _ hy) (CapsR.of hz)
theorem CapsR.get {P : Program} {B : Bx} : ∀ {caps cs : List PV}, CapsR P B caps cs → cs.length = caps.length ∧ ∀ (i : Nat) x y, caps[i]? = some x → cs[i]? = some y → CapR P B x y
  | _, _, .nil => ⟨rfl, fun i x y h => by simp at h⟩
  | _, _, .cons x y xs ys h k => by
    obtain ⟨h1, h2⟩ := CapsR.get k
    refine ⟨by simp [h1], fun i a b ha hb => ?_⟩
    cases i with
    | zero => simp at ha hb; subst ha; subst hb; exact h
    | succ i => simp at ha hb; exact h2 i a b ha hb
theorem CloOK0.up {P : Program} {B : Bx} {f : Nat} {caps : List PV} {K : List PD → Option PD} (h : CloOK0 P B f caps K) : CloOK P B f caps K := by
  obtain ⟨cs, h1, h2⟩ := h
  exact ⟨cs, CapsR.of h1, h2⟩

theorem capsOf_get {B : Bx} : ∀ {l ys : List PV}, capsOf B l = some ys → ys.length = l.length ∧ ∀ (i : Nat) x y, l[i]? = some x → ys[i]? = some y → capOf B x = some y
  | [], ys, h => by simp [capsOf] at h; subst h; simp
  | x :: xs, ys, h => by
    simp only [capsOf, Option.bind_eq_some_iff, Option.map_eq_some_iff] at h
    obtain ⟨y, hy, zs, hz, rfl⟩ := h
    obtain ⟨h1, h2⟩ := capsOf_get hz
    refine ⟨by simp [h1], fun i a b ha hb => ?_⟩
    cases i with
    | zero => simp at ha hb; subst ha; subst hb; exact hy
    | succ i => simp at ha hb; exact h2 i a b ha hb

/-- A function value with its captured variables computes K while they stay as they are. -/
theorem CloOK0.fn {P : Program} {G : Gh} {w : World} {B B0 : Bx} (hp : Hp P G w B0) (hB : ∀ b c, B b = some c → B0 b = some c) {p : Pos} {f : Nat} {caps : List PV} {K : List PD → Option PD} {v : Value} (hv : RepC P G w p (.clo f caps) v) (h : CloOK0 P B f caps K)
    {fz : Nat → Prop} (hfz : ∀ b, b ∈ capBoxes caps → G.live b → fz (G.β b)) (htb : TabOk P fz w) : FnOk P G.im fz w K v := by
  obtain ⟨vs', rfl, hsz, hrep⟩ := hv
  obtain ⟨cs, hcs, hfn, hK⟩ := h
  obtain ⟨hcl, hcg⟩ := capsOf_get hcs
  refine ⟨f, vs', rfl, hfn, fun xs r hr => ⟨(hK xs r hr).1, fun S1 w1 hk1 hz1 hs1 hlt vs hvl hvr => ?_⟩⟩
  obtain ⟨hpl, -, -, hret⟩ := hK xs r hr
  let im1 : Nat → Nat → Prop := fun g o => S1 g o ∨ ∃ b, G.live b ∧ b ∈ capBoxes caps ∧ g = G.β b
  let G1 : Gh := { im := im1, β := G.β, live := fun _ => False, own := fun _ => none, fz := fun g => g < w1.heap.size }
  have hk : Keep G.im w im1 w1 := fun g o hg => ⟨.inl (hk1 g o hg).1, (hk1 g o hg).2⟩
  have hkS : Keep S1 w1 im1 w1 := fun g o hg => ⟨.inl hg, rfl⟩
  have hcalls := hret G1 w1 (vs ++ vs') (fun _ => False) (by simp [hvl, hsz, hcl]) (fun i x u hx hu => by
      by_cases hi : i < xs.length
      · rw [List.getElem?_append_left (by simpa using hi), List.getElem?_map] at hx
        obtain ⟨y, hy, rfl⟩ := Option.map_eq_some_iff.1 hx
        rw [Array.getElem?_append_left (by omega)] at hu
        exact ofPD_rep (G := G1) ((hvr i y u hy hu).keep hkS)
      · rw [List.getElem?_append_right (by simp; omega)] at hx
        rw [Array.getElem?_append_right (by omega)] at hu
        simp only [List.length_map] at hx
        rw [hvl] at hu
        have hi3 : i - xs.length < caps.length := by rw [← hcl]; exact (List.getElem?_eq_some_iff.1 hx).1
        have hc := hcg _ _ x (List.getElem?_eq_getElem hi3) hx
        have hr1 := hrep _ _ u (List.getElem?_eq_getElem hi3) hu
        have hmem : caps[i - xs.length] ∈ caps := List.getElem_mem hi3
        generalize caps[i - xs.length] = y at hc hr1 hmem
        cases y <;> simp only [capOf, reduceCtorEq, Option.some.injEq] at hc
        case d z => subst hc; exact ⟨hr1.1.keep hk, hr1.2⟩
        case nilS => subst hc; exact hr1
        case nn sz l => subst hc; exact ⟨hr1.1.keep hk, hr1.2⟩
        case eptr cs => subst hc; obtain ⟨g, o, e, hr2⟩ := hr1; exact ⟨g, o, e, hr2.keep hk⟩
        case ptr b o =>
          simp only [Option.bind_eq_some_iff, Option.map_eq_some_iff] at hc
          obtain ⟨cells, hcell, ys, hys, rfl⟩ := hc
          obtain ⟨rfl, hl⟩ := hr1
          have hmb : b ∈ capBoxes caps := List.mem_filterMap.2 ⟨_, hmem, rfl⟩
          have hblk := hz1 _ (hfz b hmb hl)
          obtain ⟨hys1, hys2⟩ := pdL_get hys
          obtain ⟨cells', e, h1, h2, h3, h4⟩ := hp.bx b cells (hB b cells hcell)
          have hrun : RepRun im1 w1 (G.β b) 0 ys := by
            refine ⟨cells'.toList.take ys.length, by simp; omega, fun y hy => ?_, fun j u hu => ?_, fun j y u hy hu => ?_⟩
            · obtain ⟨j, hj, rfl⟩ := List.mem_iff_getElem.1 hy
              have hj2 : j < cells.length := by omega
              have hj3 : j < cells'.size := by omega
              exact (pdC_rep (h4 j _ _ (List.getElem?_eq_getElem hj2) (Array.getElem?_eq_getElem hj3)) (hys2 j _ _ (List.getElem?_eq_getElem hj2) (List.getElem?_eq_getElem hj))).2
            · refine ⟨.inr ⟨b, hl, hmb, rfl⟩, ?_⟩
              rw [List.getElem?_take] at hu
              split at hu
              · simp only [World.cell?, Nat.zero_add, hblk, h1]
                simpa using hu
              · cases hu
            · have hj2 : j < cells.length := by rw [← hys1]; exact (List.getElem?_eq_some_iff.1 hy).1
              rw [List.getElem?_take_of_lt (by omega)] at hu
              exact (pdC_rep (h4 j _ u (List.getElem?_eq_getElem hj2) (by simpa using hu)) (hys2 j _ y (List.getElem?_eq_getElem hj2) hy)).1.keep hk
          have := hrun.drop o
          rw [Nat.zero_add] at this
          exact ⟨_, _, rfl, this⟩)
    ⟨fun b cells hb => by cases b <;> simp [bxOf] at hb, fun b => by cases b <;> simp [bxOf, G1], fun b b' hl => hl.elim, fun g o hg => by
      rcases hg with hg | ⟨b, hl, _, rfl⟩
      · exact hlt g o hg
      · obtain ⟨c, _, hbx⟩ := hp.box hl
        exact Nat.lt_of_lt_of_le hbx.lt hs1, fun g p hg => by simp [G1] at hg, fun b hl => hl.elim, fun b hl => hl.elim⟩
    (fun g p hg => by simp [G1] at hg) (fun b hl => hl.elim) (fun g hg => ⟨hg, id⟩) (fun g h1 _ => h1) (htb.mono hz1 (fun g _ h => Nat.lt_of_lt_of_le h hs1))
  refine hcalls.mono fun e w2 ⟨u, G2, he, hru, _, hext, _, _⟩ => ⟨u, he, ⟨hext.os, hext.tape, hext.output, hext.size, fun b hb _ => hext.old b hb (fun h => h), fun g o hg => ⟨hg, (hext.keep g o (.inl hg)).2⟩, fun g o hg => .inl hg⟩, plain_rep (hK xs r hr).1 hru S1 w2⟩

/-- A function value with its captured variables computes K while they stay as they are. -/
theorem CloOK.fn {P : Program} {G : Gh} {w : World} {B B0 : Bx} (hp : Hp P G w B0) (hB : ∀ b c, B b = some c → B0 b = some c) {p : Pos} {f : Nat} {caps : List PV} {K : List PD → Option PD} {v : Value} (hv : RepC P G w p (.clo f caps) v) (h : CloOK P B f caps K)
    {fz : Nat → Prop} (hfz : ∀ b, b ∈ capAll B caps → G.live b → fz (G.β b)) (htb : TabOk P fz w) : FnOk P G.im fz w K v := by
  obtain ⟨vs', rfl, hsz, hrep⟩ := hv
  obtain ⟨cs, hcs, hfn, hK⟩ := h
  obtain ⟨hcl, hcg⟩ := hcs.get
  refine ⟨f, vs', rfl, hfn, fun xs r hr => ⟨(hK xs r hr).1, fun S1 w1 hk1 hz1 hs1 hlt vs hvl hvr => ?_⟩⟩
  obtain ⟨hpl, -, -, hret⟩ := hK xs r hr
  let im1 : Nat → Nat → Prop := fun g o => S1 g o ∨ ∃ b, G.live b ∧ b ∈ capAll B caps ∧ g = G.β b
  let G1 : Gh := { im := im1, β := G.β, live := fun _ => False, own := fun _ => none, fz := fun g => g < w1.heap.size }
  let fz0 : Nat → Prop := fun g => ∃ b, G.live b ∧ b ∈ capAll B caps ∧ g = G.β b
  have hk : Keep G.im w im1 w1 := fun g o hg => ⟨.inl (hk1 g o hg).1, (hk1 g o hg).2⟩
  have hkS : Keep S1 w1 im1 w1 := fun g o hg => ⟨.inl hg, rfl⟩
  have hblt : ∀ b, G.live b → G.β b < w1.heap.size := fun b hl => by
    obtain ⟨c, _, hbx⟩ := hp.box hl
    exact Nat.lt_of_lt_of_le hbx.lt hs1
  have hcalls := hret G1 w1 (vs ++ vs') (fun _ => False) (by simp [hvl, hsz, hcl]) (fun i x u hx hu => by
      by_cases hi : i < xs.length
      · rw [List.getElem?_append_left (by simpa using hi), List.getElem?_map] at hx
        obtain ⟨y, hy, rfl⟩ := Option.map_eq_some_iff.1 hx
        rw [Array.getElem?_append_left (by omega)] at hu
        exact ofPD_rep (G := G1) ((hvr i y u hy hu).keep hkS)
      · rw [List.getElem?_append_right (by simp; omega)] at hx
        rw [Array.getElem?_append_right (by omega)] at hu
        simp only [List.length_map] at hx
        rw [hvl] at hu
        have hi3 : i - xs.length < caps.length := by rw [← hcl]; exact (List.getElem?_eq_some_iff.1 hx).1
        have hc := hcg _ _ x (List.getElem?_eq_getElem hi3) hx
        have hr1 := hrep _ _ u (List.getElem?_eq_getElem hi3) hu
        have hmem : caps[i - xs.length] ∈ caps := List.getElem_mem hi3
        generalize caps[i - xs.length] = y at hc hr1 hmem
        have hmb : ∀ b o, y = .ptr b o → b ∈ capAll B caps := fun b o e => by
          subst e
          exact List.mem_flatMap.2 ⟨_, hmem, List.mem_cons_self ..⟩
        cases hc with
        | data _ _ hc =>
        cases y <;> simp only [capOf, reduceCtorEq, Option.some.injEq] at hc
        case d z => subst hc; exact ⟨hr1.1.keep hk, hr1.2⟩
        case nilS => subst hc; exact hr1
        case nn sz l => subst hc; exact ⟨hr1.1.keep hk, hr1.2⟩
        case eptr cs => subst hc; obtain ⟨g, o, e, hr2⟩ := hr1; exact ⟨g, o, e, hr2.keep hk⟩
        case ptr b o =>
          simp only [Option.bind_eq_some_iff, Option.map_eq_some_iff] at hc
          obtain ⟨cells, hcell, ys, hys, rfl⟩ := hc
          obtain ⟨rfl, hl⟩ := hr1
          have hmb := hmb b o rfl
          have hblk := hz1 _ (hfz b hmb hl)
          obtain ⟨hys1, hys2⟩ := pdL_get hys
          obtain ⟨cells', e, h1, h2, h3, h4⟩ := hp.bx b cells (hB b cells hcell)
          have hrun : RepRun im1 w1 (G.β b) 0 ys := by
            refine ⟨cells'.toList.take ys.length, by simp; omega, fun y hy => ?_, fun j u hu => ?_, fun j y u hy hu => ?_⟩
            · obtain ⟨j, hj, rfl⟩ := List.mem_iff_getElem.1 hy
              have hj2 : j < cells.length := by omega
              have hj3 : j < cells'.size := by omega
              exact (pdC_rep (h4 j _ _ (List.getElem?_eq_getElem hj2) (Array.getElem?_eq_getElem hj3)) (hys2 j _ _ (List.getElem?_eq_getElem hj2) (List.getElem?_eq_getElem hj))).2
            · refine ⟨.inr ⟨b, hl, hmb, rfl⟩, ?_⟩
              rw [List.getElem?_take] at hu
              split at hu
              · simp only [World.cell?, Nat.zero_add, hblk, h1]
                simpa using hu
              · cases hu
            · have hj2 : j < cells.length := by rw [← hys1]; exact (List.getElem?_eq_some_iff.1 hy).1
              rw [List.getElem?_take_of_lt (by omega)] at hu
              exact (pdC_rep (h4 j _ u (List.getElem?_eq_getElem hj2) (by simpa using hu)) (hys2 j _ y (List.getElem?_eq_getElem hj2) hy)).1.keep hk
          have := hrun.drop o
          rw [Nat.zero_add] at this
          exact ⟨_, _, rfl, this⟩
        | fn b f' caps' K' hb hok =>
          obtain ⟨rfl, hl⟩ := hr1
          have hmb := hmb b 0 rfl
          have hblk := hz1 _ (hfz b hmb hl)
          obtain ⟨cells', e, h1, h2, h3, h4⟩ := hp.bx b _ (hB b _ hb)
          have h0 : 0 < cells'.size := by simp at h2; omega
          have hu0 := h4 0 _ cells'[0] rfl (Array.getElem?_eq_getElem h0)
          have hin : ∀ c, c ∈ capBoxes caps' → c ∈ capAll B caps := fun c hc => by
            refine List.mem_flatMap.2 ⟨_, hmem, List.mem_cons_of_mem _ ?_⟩
            rw [hb]; exact hc
          have hfo := CloOK0.fn hp hB (fz := fun g => fz0 g ∨ isTab P g) hu0 hok (fun c hc hl => .inl ⟨c, hl, hin c hc, rfl⟩) (fun x hx g hg => ⟨.inr ⟨x, hx, hg⟩, (htb x hx g hg).2⟩)
          refine ⟨G.β b, 0, cells'[0], rfl, .inr ⟨b, hl, hmb, rfl⟩, ?_, (hfo.keep hk (fun g hg => ?_) hs1).fz (fun g hg => ?_)⟩
          · simp only [World.cell?, hblk, h1]
            simp [h0]
          · rcases hg with ⟨c, hl, hc, rfl⟩ | ⟨x, hx, hg⟩
            · exact hz1 _ (hfz c hc hl)
            · exact hz1 _ (htb x hx g hg).1
          · rcases hg with ⟨c, hl, hc, rfl⟩ | ⟨x, hx, hg⟩
            · exact hblt c hl
            · exact Nat.lt_of_lt_of_le (TabIs.lt (htb x hx g hg).2 hg) hs1)
    ⟨fun b cells hb => by cases b <;> simp [bxOf] at hb, fun b => by cases b <;> simp [bxOf, G1], fun b b' hl => hl.elim, fun g o hg => by
      rcases hg with hg | ⟨b, hl, _, rfl⟩
      · exact hlt g o hg
      · exact hblt b hl, fun g p hg => by simp [G1] at hg, fun b hl => hl.elim, fun b hl => hl.elim⟩
    (fun g p hg => by simp [G1] at hg) (fun b hl => hl.elim) (fun g hg => ⟨hg, id⟩) (fun g h1 _ => h1) (htb.mono hz1 (fun g _ h => Nat.lt_of_lt_of_le h hs1))
  refine hcalls.mono fun e w2 ⟨u, G2, he, hru, _, hext, _, _⟩ => ⟨u, he, ⟨hext.os, hext.tape, hext.output, hext.size, fun b hb _ => hext.old b hb (fun h => h), fun g o hg => ⟨hg, (hext.keep g o (.inl hg)).2⟩, fun g o hg => .inl hg⟩, plain_rep (hK xs r hr).1 hru S1 w2⟩

end Go.Bee

/-
A call's step. No condition.
-/
namespace Go.Bee
set_option linter.unusedVariables false

inductive Pass (P : Program) (B : Bx) (mv : Bool) (nm : List BN) : PV → PV → Prop
  | val (x : PV) (h : x.passable = true) : Pass P B mv nm x (mvd mv x)
  | ptr (b : BN) (o k : Nat) (h : nm[k]? = some b) : Pass P B mv nm (.ptr b o) (.ptr (.a k) o)
  | rsv (b : BN) (sz n k : Nat) (h : nm[k]? = some b) : Pass P B mv nm (.rsv b sz n) (.rsv (.a k) sz n)
  | agr (x : PD) (b : BN) (sz n k : Nat) (h : nm[k]? = some b) : Pass P B mv nm (.agg [.d x, .rsv b sz n]) (.agg [.d x, .rsv (.a k) sz n])
  | fn (f : Nat) (caps : List PV) (K : List PD → Option PD) (h : CloOK P B f caps K) (hn : ∀ b ∈ capAll B caps, b ∉ nm) : Pass P B mv nm (.clo f caps) (.fn K)

def Bx.setAll (B : Bx) : List BN → List (List PV) → Bx
  | b :: nm, c :: bo => Bx.set (Bx.setAll B nm bo) b c
  | _, _ => B
theorem Bx.setAll_not {B : Bx} : ∀ {nm : List BN} {bo : List (List PV)} {b : BN}, b ∉ nm → B.setAll nm bo b = B b
  | [], _, b, h => rfl
  | c :: nm, [], b, h => rfl
  | c :: nm, x :: bo, b, h => by
    simp only [List.mem_cons, not_or] at h
    simp only [Bx.setAll, Bx.set, h.1, if_false]
    exact Bx.setAll_not h.2
theorem Bx.setAll_get {B : Bx} : ∀ {nm : List BN} {bo : List (List PV)} {b : BN} {k : Nat}, nm.Nodup → bo.length = nm.length → nm[k]? = some b → B.setAll nm bo b = bo[k]?
  | [], _, b, k, _, _, h => by simp at h
  | c :: nm, [], b, k, _, hl, h => by simp at hl
  | c :: nm, x :: bo, b, 0, hn, hl, h => by
    simp at h; subst h
    simp [Bx.setAll, Bx.set]
  | c :: nm, x :: bo, b, k + 1, hn, hl, h => by
    simp only [List.getElem?_cons_succ] at h ⊢
    have hne : b ≠ c := by
      rintro rfl
      exact (List.nodup_cons.1 hn).1 (List.mem_of_getElem? h)
    simp only [Bx.setAll, Bx.set, hne, if_false]
    exact Bx.setAll_get (List.nodup_cons.1 hn).2 (by simpa using hl) h

theorem RepC.pstepB {P : Program} {G G' : Gh} {w w' : World} {kp : Pos → Pos → Prop} (h : PStep G w G' w' kp) {p : Pos} (q : Pos) {x : PV} {v : Value} (hx1 : x.pass1 = true) (hz : FzUp P G w G' w')
    (hx : RepC P G w p x v) : RepC P G' w' q x.bC v := by
  cases x <;> simp only [PV.pass1, Bool.false_eq_true] at hx1 <;> simp only [RepC, RepAt, PV.bC] at hx ⊢
  case d x => exact ⟨hx.1.keep h.keep, hx.2⟩
  case nilS => exact hx
  case nn sz l => exact ⟨hx.1.keep h.keep, hx.2⟩
  case own e sz l => exact ⟨(OwnAt.data hx).keep h.keep, rfl⟩
  case eptr cs => obtain ⟨g, o, hv, hr⟩ := hx; exact ⟨g, o, hv, hr.keep h.keep⟩
  case fn K => obtain ⟨h1, h2, h3⟩ := hz; exact (hx.keep h.keep h2 h3).fz h1
  case efn K => obtain ⟨h1, h2, h3⟩ := hz; obtain ⟨g, o, u, a1, a2, a3, a4⟩ := hx; exact ⟨g, o, u, a1, (h.keep g o a2).1, (h.keep g o a2).2.trans a3, (a4.keep h.keep h2 h3).fz h1⟩
  case dp x => exact ⟨hx.1.keep ((Mine.im G w p).trans h.keep), hx.2⟩
  case und => exact hx
theorem RepT.pstepB {P : Program} {G G' : Gh} {w w' : World} {kp : Pos → Pos → Prop} (h : PStep G w G' w' kp) {loc : Loc} (loc' : Loc) {x : PV} {v : Value} (hx1 : x.passable = true) (hz : FzUp P G w G' w')
    (hx : RepT P G w loc x v) : RepT P G' w' loc' x.bT v := by
  cases x
  case agg l =>
    obtain ⟨cs, hv, hl, h1, hr⟩ := hx
    refine ⟨cs, hv, by simpa using hl, h1, fun j y u hy hu => ?_⟩
    rw [List.getElem?_map] at hy
    obtain ⟨z, hz', rfl⟩ := Option.map_eq_some_iff.1 hy
    exact (hr j z u hz' hu).pstepB h _ (List.all_eq_true.1 hx1 z (List.mem_of_getElem? hz')) hz
  case tup l => simp [PV.passable, PV.pass1] at hx1
  case own e sz l =>
    exact RepC.toT (RepC.pstepB (P := P) (v := v) h (loc', 0, 0) (x := .own e sz l) (p := (loc, 0, 0)) rfl hz hx) loc' rfl
  all_goals
    simp only [PV.passable] at hx1
    exact RepC.toT (RepC.pstepB (P := P) (v := v) h (loc', 0, 0) hx1 hz (hx.toC (by simp) (by simp))) loc' rfl
theorem cpv_bT (v : Value) : (cpv v).bT = cpv v := by
  unfold cpv cpc
  repeat' split
  all_goals rfl
theorem RepAt.bT {G : Gh} {w : World} {x : PV} {v : Value} (h : RepAt G w x v) : x.bT = x := by
  cases x <;> first | rfl | exact absurd h (by simp [RepAt])
theorem RepAt.toT {P : Program} {G : Gh} {w : World} {x : PV} {v : Value} (h : RepAt G w x v) (loc : Loc) : RepT P G w loc x v := by
  cases x <;> first | exact h | exact absurd h (by simp [RepAt])

def isValCall (o : Oper) (X : Operand) (xs : List Operand) : Prop := ∃ ts, o.op = .call { callee := .value X, args := xs.toArray, argTypes := ts }

structure CallStep (P : Program) (fl : AF) (o : Oper) (st : St) (v : PV) (B' : Bx) (X : Operand) (xs : List Operand) (f : Nat) (caps ys : List PV) (nm : List BN) (bi bo : List (List PV)) : Prop where
  call : isValCall o X xs
  clo : st.ev X = .clo f caps
  len : ys.length = xs.length + caps.length
  pass : ∀ (i : Nat) x y, (xs.map st.ev ++ caps)[i]? = some x → ys[i]? = some y → Pass P (vz fl st.bx) fl.mv nm x y
  nodup : fl.mv = true → (tmpsOf xs).Nodup
  names : nm.Nodup
  bl : bi.length = nm.length
  bin : ∀ (k : Nat) b, nm[k]? = some b → vz fl st.bx b = bi[k]?
  bip : ∀ cells : List PV, cells ∈ bi → cells.all PV.pass1 = true
  bop : ∀ cells : List PV, cells ∈ bo → cells.all PV.gives1 = true
  gives : v.gives = true
  ret : BRet P f bi ys v bo
  be : nm ≠ [] → fl.be = true
  out : B' = Bx.setAll (vz fl st.bx) nm bo

theorem nodup_inj {α : Type} {l : List α} (h : l.Nodup) {i j : Nat} {x : α} (hi : l[i]? = some x) (hj : l[j]? = some x) : i = j := by
  induction l generalizing i j with
  | nil => simp at hi
  | cons y l ih =>
    obtain ⟨h1, h2⟩ := List.nodup_cons.1 h
    cases i with
    | zero =>
      simp at hi
      cases j with
      | zero => rfl
      | succ j => simp at hj; subst hi; exact absurd (List.mem_of_getElem? hj) h1
    | succ i =>
      simp at hi
      cases j with
      | zero => simp at hj; subst hj; exact absurd (List.mem_of_getElem? hi) h1
      | succ j => simp at hj; rw [ih h2 hi hj]
theorem tmpsOf_get {xs : List Operand} (h : (tmpsOf xs).Nodup) {i j s : Nat} (hi : xs[i]? = some (.tmp s)) (hj : xs[j]? = some (.tmp s)) : i = j := by
  induction xs generalizing i j with
  | nil => simp at hi
  | cons x xs ih =>
    have hcons : ∀ t, x = .tmp t → tmpsOf (x :: xs) = t :: tmpsOf xs := by rintro t rfl; rfl
    cases i with
    | zero =>
      simp at hi
      cases j with
      | zero => rfl
      | succ j =>
        simp at hj
        rw [hcons s hi] at h
        exact absurd (mem_tmpsOf.2 (List.mem_of_getElem? hj)) (List.nodup_cons.1 h).1
    | succ i =>
      simp at hi
      cases j with
      | zero =>
        simp at hj
        rw [hcons s hj] at h
        exact absurd (mem_tmpsOf.2 (List.mem_of_getElem? hi)) (List.nodup_cons.1 h).1
      | succ j =>
        simp at hj
        have h' : (tmpsOf xs).Nodup := by
          cases x with
          | tmp t => rw [hcons t rfl] at h; exact (List.nodup_cons.1 h).2
          | const v => exact h
          | global g => exact h
          | func f => exact h
        rw [ih h' hi hj]

theorem callStep_sound {P : Program} {F : Fr} {G : Gh} {st : St} {a : Act} {w : World} (h : Rel P F G st a w) {fl : AF} {o : Oper} {v : PV} {B' : Bx} {X : Operand} {xs : List Operand} {f : Nat} {caps ys : List PV} {nm : List BN} {bi bo : List (List PV)}
    (hd : ∀ d', o.dst = some d' → d' < F.nt) (hc : CallStep P fl o st v B' X xs f caps ys nm bi bo) {K : Act → World → Prop} {Q : Exit → Act → World → Prop} (hK : ∀ a' w', (∃ G', Rel P F G' (st.after fl o v B') a' w') → K a' w') : o.wp P a w K Q := by
  have hbsub : ∀ b c, vz fl st.bx b = some c → st.bx b = some c := by
    intro b c hc; unfold vz at hc; split at hc
    · exact hc
    · cases hc
  obtain ⟨⟨tys, hop⟩, hclo, hlen, hpass, hnodup, hnames, hbl, hbi, hbip, hbop, hgives, hret, hbe, hout⟩ := hc
  have hBeq : fl.be = true → vz fl st.bx = st.bx := by intro h2; simp [vz, h2]
  generalize hBx : vz fl st.bx = B at *
  have hX := h.ev X
  rw [hclo] at hX
  obtain ⟨vs', hXv, hvs', hcapr⟩ := hX
  obtain ⟨hisfn, hbol, hret⟩ := hret
  -- the operands
  have hops : o.op.operands.toList = X :: xs := by simp [hop, Op.operands, Call.operands]
  -- which position becomes which
  let PM : Pos → Pos → Prop := fun p q => (∃ s i, p.1 = .t s ∧ fl.mv = true ∧ xs[i]? = some (.tmp s) ∧ q = (.t i, p.2)) ∨ (∃ b k, p.1 = .b b ∧ nm[k]? = some b ∧ q = (.b (.a k), p.2))
  have hPMf : ∀ p q q', PM p q → PM p q' → q = q' := by
    rintro p q q' (⟨s, i, h1, hmv, h2, rfl⟩ | ⟨b, k, h1, h2, rfl⟩) (⟨s', i', h1', hmv', h2', rfl⟩ | ⟨b', k', h1', h2', rfl⟩)
    · rw [h1] at h1'; cases h1'
      rw [tmpsOf_get (hnodup hmv) h2 h2']
    · rw [h1] at h1'; cases h1'
    · rw [h1] at h1'; cases h1'
    · rw [h1] at h1'; cases h1'
      rw [nodup_inj hnames h2 h2']
  have hnmlive : ∀ (k : Nat) b, nm[k]? = some b → G.live b ∧ ∃ cells, bi[k]? = some cells ∧ st.bx b = some cells := by
    intro k b hk
    have hkl : k < bi.length := by rw [hbl]; exact (List.getElem?_eq_some_iff.1 hk).1
    have h1 := hbi k b hk
    rw [List.getElem?_eq_getElem hkl] at h1
    have h2 := hbsub b _ h1
    exact ⟨(h.hp.live b).2 (by simp [h2]), _, List.getElem?_eq_getElem hkl, h2⟩
  let Wr : Nat → Prop := fun g => (∃ p q, G.own g = some p ∧ PM p q) ∨ ∃ (k : Nat) (b : BN), nm[k]? = some b ∧ g = G.β b
  let ownc : Nat → Option Pos := fun g => open Classical in if hg : ∃ q, ∃ p, G.own g = some p ∧ PM p q then some (Classical.choose hg) else none
  have hownc : ∀ g q, ownc g = some q ↔ ∃ p, G.own g = some p ∧ PM p q := by
    intro g q
    constructor
    · intro hq
      simp only [ownc] at hq
      split at hq
      · rename_i hg
        cases hq
        exact Classical.choose_spec hg
      · cases hq
    · rintro ⟨p, hp, hpq⟩
      have hg : ∃ q, ∃ p, G.own g = some p ∧ PM p q := ⟨q, p, hp, hpq⟩
      simp only [ownc, dif_pos hg]
      obtain ⟨p', hp', hpq'⟩ := Classical.choose_spec hg
      rw [hp] at hp'; cases hp'
      rw [hPMf p _ _ hpq' hpq]
  let Gc : Gh := { im := G.im, β := (fun c => match c with | .a k => (nm[k]?).elim 0 G.β | .t _ => 0), live := (fun c => match c with | .a k => k < nm.length | .t _ => False), own := ownc, fz := (fun g => g < w.heap.size ∧ ¬ Wr g) }
  have hβc : ∀ (k : Nat) b, nm[k]? = some b → Gc.β (.a k) = G.β b := by intro k b hk; simp [Gc, hk]
  have hps : PStep G w Gc w PM := ⟨Keep.refl _ _, fun g p q hg hpq => ⟨(hownc g q).2 ⟨p, hg, hpq⟩, rfl, fun _ h => h⟩⟩
  have hβlt : ∀ b, G.live b → G.β b < w.heap.size := fun b hl => by obtain ⟨c, _, hbx⟩ := h.hp.box hl; exact hbx.lt
  have hfz1 : ∀ g, G.fz g → g < w.heap.size ∧ ¬ Wr g := by
    intro g hg
    obtain ⟨h1, h2⟩ := h.sn.fz g hg
    have hs := h.sn.ext.size
    refine ⟨by omega, ?_⟩
    rintro (⟨p, q, hp, _⟩ | ⟨k, b, hk, rfl⟩)
    · rcases h.sn.own g p hp with h3 | h3
      · omega
      · exact h2 h3
    · rcases h.sn.box b (hnmlive k b hk).1 with h3 | h3
      · omega
      · exact h2 h3
  have htabc : TabOk P Gc.fz w := h.tab.mono (fun _ _ => rfl) (fun g h1 _ => hfz1 g h1)
  have hfz2 : ∀ b, G.live b → b ∉ nm → ¬ Wr (G.β b) := by
    intro b hl hb
    rintro (⟨p, q, hp, _⟩ | ⟨k, b', hk, he⟩)
    · rw [h.hp.boxown b hl] at hp; cases hp
    · have := h.hp.inj b b' hl (hnmlive k b' hk).1 he
      subst this
      exact hb (List.mem_of_getElem? hk)
  have hfz3 : ∀ o g, (o = none ∨ o = some qpos) → FreeO G w o g → ¬ Wr g := by
    rintro o g ho hf (⟨p, q, hp, hpq⟩ | ⟨k, b', hk, rfl⟩)
    · rw [hf.2.1] at hp
      rcases ho with rfl | rfl
      · cases hp
      · cases hp
        rcases hpq with ⟨s, i, h1, _⟩ | ⟨b, k, h1, _⟩ <;> cases h1
    · exact hf.2.2.1 b' (hnmlive k b' hk).1 rfl
  have hfu : FzUp P G w Gc w := ⟨hfz1, fun _ _ => rfl, Nat.le_refl _⟩
  -- the arguments
  have hargs : ∀ (i : Nat) y u, ys[i]? = some y → (xs.toArray.map a.eval ++ vs')[i]? = some u → RepT P Gc w (.t i) y u := by
    intro i y u hy hu
    have hil : i < xs.length + caps.length := by rw [← hlen]; exact (List.getElem?_eq_some_iff.1 hy).1
    by_cases hi : i < xs.length
    · have hx : (xs.map st.ev ++ caps)[i]? = some (st.ev xs[i]) := by
        rw [List.getElem?_append_left (by simpa using hi), List.getElem?_map, List.getElem?_eq_getElem hi]; rfl
      have hu' : u = a.eval xs[i] := by
        rw [Array.getElem?_append_left (by simpa using hi)] at hu
        simp [hi] at hu
        exact hu.symm
      subst hu'
      have hr := h.ev xs[i]
      have hpp := hpass i _ y hx hy
      generalize hxe : st.ev xs[i] = x at hr hpp
      cases hpp with
      | val _ hps1 =>
        cases hmv : fl.mv with
        | false => exact hr.pstepB hps _ hps1 hfu
        | true =>
          simp only [mvd, if_true]
          cases hXi : xs[i] with
          | tmp s =>
            rw [hXi] at hr
            have h1 := RepT.toV hr hps1
            have h2 := RepV.pstep hps (loc' := .t i) (i' := 0) (fun j => Or.inl ⟨s, i, rfl, hmv, by rw [← hXi]; exact List.getElem?_eq_getElem hi, rfl⟩) hps1 hfu h1
            exact h2.toT
          | const c =>
            rw [hXi] at hr hxe
            have : x.bT = x := by rw [← hxe]; exact cpv_bT c
            rw [← this]; exact hr.pstepB hps _ hps1 hfu
          | global g =>
            rw [hXi] at hr hxe
            have : x.bT = x := by rw [← hxe]; rfl
            rw [← this]; exact hr.pstepB hps _ hps1 hfu
          | func g =>
            rw [hXi] at hr hxe
            have : x.bT = x := by rw [← hxe]; rfl
            rw [← this]; exact hr.pstepB hps _ hps1 hfu
      | ptr b k' k hk =>
        obtain ⟨h1, h2⟩ := hr
        refine ⟨by rw [hβc k b hk]; exact h1, ?_⟩
        exact (List.getElem?_eq_some_iff.1 hk).1
      | rsv b sz n k hk =>
        obtain ⟨c, h1, h2, h3, h4⟩ := hr
        exact ⟨c, h1, by rw [hβc k b hk]; exact h2, (List.getElem?_eq_some_iff.1 hk).1, h4⟩
      | agr x b sz n k hk =>
        obtain ⟨cs, e1, e2, e3, e4⟩ := hr
        refine ⟨cs, e1, by simpa using e2, e3, fun j z q hz hq => ?_⟩
        match j, hz with
        | 0, hz =>
          simp at hz; subst hz
          exact e4 0 (.d x) q rfl hq
        | 1, hz =>
          simp at hz; subst hz
          obtain ⟨c, h1, h2, h3, h4⟩ := e4 1 (.rsv b sz n) q rfl hq
          exact ⟨c, h1, by rw [hβc k b hk]; exact h2, (List.getElem?_eq_some_iff.1 hk).1, h4⟩
        | j + 2, hz => simp at hz
      | fn f' caps' K' hok hn =>
        have := CloOK.fn (p := (opLoc xs[i], 0, 0)) h.hp hbsub hr hok (fz := Gc.fz) (fun b hb hl => ⟨hβlt b hl, hfz2 b hl (hn b hb)⟩) htabc
        exact this
    · have hic : i - xs.length < caps.length := by omega
      have hx : (xs.map st.ev ++ caps)[i]? = some caps[i - xs.length] := by
        rw [List.getElem?_append_right (by simp; omega)]
        simp [hic]
      have hu' : vs'[i - xs.length]? = some u := by
        rw [Array.getElem?_append_right (by simp; omega)] at hu
        simpa using hu
      have hr := hcapr _ _ u (List.getElem?_eq_getElem hic) hu'
      have hpp := hpass i _ y hx hy
      generalize caps[i - xs.length] = x at hr hpp
      cases hpp with
      | val _ hps1 =>
        have hb := hr.bT
        have hT : RepT P G w .res x u := hr.toT .res
        have h1 := hT.pstepB hps (.t i) hps1 hfu
        have hm : mvd fl.mv x = x.bT := by unfold mvd; split <;> simp [hb]
        rw [hm]; exact h1
      | ptr b k' k hk =>
        obtain ⟨h1, h2⟩ := hr
        exact ⟨by rw [hβc k b hk]; exact h1, (List.getElem?_eq_some_iff.1 hk).1⟩
      | rsv b sz n k hk => exact absurd hr (by simp [RepAt])
      | agr x b sz n k hk => exact absurd hr (by simp [RepAt])
      | fn f' caps' K' hok hn => exact absurd hr (by simp [RepAt])
  have hpc : Hp P Gc w (bxOf bi) := by
    refine ⟨fun b cells hb => ?_, fun b => ?_, fun b b' hl hl' he => ?_, h.hp.imlt, fun g q hg => ?_, fun b hl o => ?_, fun b hl => ?_⟩
    · cases b with
      | t n => simp [bxOf] at hb
      | a k =>
        simp only [bxOf] at hb
        have hkl : k < nm.length := by rw [← hbl]; exact (List.getElem?_eq_some_iff.1 hb).1
        obtain ⟨hl, cells', hc1, hc2⟩ := hnmlive k nm[k] (List.getElem?_eq_getElem hkl)
        rw [hb] at hc1; cases hc1
        obtain ⟨cs, e, h1, h2, h3, h4⟩ := h.hp.bx _ cells hc2
        refine ⟨cs, e, by rw [hβc k _ (List.getElem?_eq_getElem hkl)]; exact h1, h2, h3, fun j x u hx hu => ?_⟩
        exact (h4 j x u hx hu).pstep hps (Or.inr ⟨nm[k], k, rfl, List.getElem?_eq_getElem hkl, rfl⟩) (List.all_eq_true.1 (hbip cells (List.mem_of_getElem? hb)) x (List.mem_of_getElem? hx)) (fun _ => hfu)
    · cases b with
      | t n => simp [bxOf, Gc]
      | a k => simp [bxOf, Gc, ← hbl]
    · cases b with
      | t n => exact hl.elim
      | a k =>
        cases b' with
        | t n => exact hl'.elim
        | a k' =>
          have hk : k < nm.length := hl
          have hk' : k' < nm.length := hl'
          rw [hβc k _ (List.getElem?_eq_getElem hk), hβc k' _ (List.getElem?_eq_getElem hk')] at he
          have := h.hp.inj _ _ (hnmlive k _ (List.getElem?_eq_getElem hk)).1 (hnmlive k' _ (List.getElem?_eq_getElem hk')).1 he
          rw [nodup_inj hnames (List.getElem?_eq_getElem hk) (by rw [this]; exact List.getElem?_eq_getElem hk')]
    · obtain ⟨p, hp, _⟩ := (hownc g q).1 hg
      exact h.hp.ownlt g p hp
    · cases b with
      | t n => exact hl.elim
      | a k =>
        have hk : k < nm.length := hl
        rw [hβc k _ (List.getElem?_eq_getElem hk)]
        exact h.hp.boxim _ (hnmlive k _ (List.getElem?_eq_getElem hk)).1 o
    · cases b with
      | t n => exact hl.elim
      | a k =>
        have hk : k < nm.length := hl
        rw [hβc k _ (List.getElem?_eq_getElem hk)]
        have hno := h.hp.boxown _ (hnmlive k _ (List.getElem?_eq_getElem hk)).1
        cases hcase : Gc.own (G.β nm[k]) with
        | none => rfl
        | some q =>
          obtain ⟨p, hp, _⟩ := (hownc _ q).1 hcase
          rw [hno] at hp; cases hp
  have hcalls := hret Gc w (xs.toArray.map a.eval ++ vs') Wr (by simp [hlen, hvs']) hargs hpc (fun g q hg => by obtain ⟨p, hp, hpq⟩ := (hownc g q).1 hg; exact .inl ⟨p, q, hp, hpq⟩)
    (fun b hl => by
      cases b with
      | t n => exact hl.elim
      | a k =>
        have hk : k < nm.length := hl
        rw [hβc k _ (List.getElem?_eq_getElem hk)]
        exact .inr ⟨k, nm[k], List.getElem?_eq_getElem hk, rfl⟩) (fun g hg => hg) (fun g h1 h2 => ⟨h1, h2⟩) htabc
  have hrunX : (execOp a.eval o).run P w = .ok (.enter f (xs.toArray.map a.eval ++ vs')) w := by
    have := run_callFunc hisfn (xs.toArray.map a.eval ++ vs') w
    simp [execOp, hop, resolve, Deferred.ofValue, hXv, invoke]
    simpa using this
  unfold Oper.wp
  rw [hrunX]
  refine Calls.mono hcalls fun e w' hR => ?_
  obtain ⟨rv, G', rfl, hrv, hpG, hext, hβ', hown', -⟩ := hR
  -- the caller goes on
  let G2 : Gh := { im := G'.im, β := G.β, live := G.live, own := (fun g => match G'.own g with
      | some (.res, q) => o.dst.map fun d => (Loc.t d, q)
      | some (.b (.a k), q) => (nm[k]?).map fun b => (Loc.b b, q)
      | some _ => none
      | none => open Classical in if Wr g then none else G.own g), fz := G.fz }
  have hWrlt : ∀ g, Wr g → g < w.heap.size := by
    rintro g (⟨p, q, hp, _⟩ | ⟨k, b, hk, rfl⟩)
    · exact h.hp.ownlt g p hp
    · exact hβlt b (hnmlive k b hk).1
  have hsame : ∀ g, g < w.heap.size → ¬ Wr g → w'.heap[g]? = w.heap[g]? ∧ G2.own g = G.own g ∧ ∀ o, G'.im g o → G.im g o := by
    intro g hlt hnw
    refine ⟨hext.old g hlt hnw, ?_, fun o ho => ?_⟩
    · cases hg : G'.own g with
      | none => simp [G2, hg, hnw]
      | some p =>
        rcases hown' g p hg with h1 | h1
        · omega
        · exact absurd h1 hnw
    · rcases hext.new g o ho with h1 | h1 | h1
      · exact h1
      · omega
      · exact absurd h1 hnw
  have hg : GStep G w G2 w' (fun p q => p = q ∧ ¬ ∃ q', PM p q') := by
    refine ⟨hext.keep, fun b hl => ⟨hl, rfl⟩, rfl, fun g hg => hext.old g (hfz1 g hg).1 (hfz1 g hg).2, hext.size, fun g p q hgp hpq => ?_, fun o g ho hf => ?_⟩
    rotate_left
    · obtain ⟨h1, h2, h3⟩ := hsame g hf.lt (hfz3 o g ho hf)
      exact ⟨⟨by rw [h1]; exact hf.1, by rw [h2]; exact hf.2.1, hf.2.2.1, fun o ho => hf.2.2.2.1 o (h3 o ho), hf.2.2.2.2⟩, .heap h1⟩
    obtain ⟨rfl, hnp⟩ := hpq
    have hnw : ¬ Wr g := by
      rintro (⟨p', q', hp', hpq'⟩ | ⟨k, b, hk, rfl⟩)
      · rw [hgp] at hp'; cases hp'; exact hnp ⟨q', hpq'⟩
      · rw [h.hp.boxown b (hnmlive k b hk).1] at hgp; cases hgp
    obtain ⟨h1, h2, h3⟩ := hsame g (h.hp.ownlt g p hgp) hnw
    exact ⟨by rw [h2]; exact hgp, h1, h3⟩
  have hps2 : ∀ d, o.dst = some d → PStep G' w' G2 w' (fun p q => p.1 = .res ∧ q = (.t d, p.2)) := by
    intro d hdd
    refine ⟨Keep.refl _ _, fun g p q hgp hpq => ⟨?_, rfl, fun _ h => h⟩⟩
    obtain ⟨h1, rfl⟩ := hpq
    obtain ⟨pl, pr⟩ := p
    simp only at h1; subst h1
    simp [G2, hgp, hdd]
  have hps3 : PStep G' w' G2 w' (fun p q => ∃ (k : Nat) (b : BN), nm[k]? = some b ∧ p.1 = .b (.a k) ∧ q = (.b b, p.2)) := by
    refine ⟨Keep.refl _ _, fun g p q hgp hpq => ⟨?_, rfl, fun _ h => h⟩⟩
    obtain ⟨k, b, hk, h1, rfl⟩ := hpq
    obtain ⟨pl, pr⟩ := p
    simp only at h1; subst h1
    simp [G2, hgp, hk]
  have hβnot : ∀ b, G.live b → b ∉ nm → ¬ Wr (G.β b) := hfz2
  have hnewbx : ∀ b cells, (if fl.be = true then B' else st.bx) b = some cells → BoxAt P G2 w' b cells := by
    intro b cells hb
    have hb' : Bx.setAll st.bx nm bo b = some cells := by
      by_cases hbe' : fl.be = true
      · rw [if_pos hbe', hout, hBeq hbe'] at hb; exact hb
      · rw [if_neg hbe'] at hb
        have hnil : nm = [] := Classical.byContradiction fun hne => hbe' (hbe hne)
        rw [hnil]; exact hb
    by_cases hbn : b ∈ nm
    · obtain ⟨k, hk, hkb⟩ := List.mem_iff_getElem.1 hbn
      have hk? : nm[k]? = some b := by rw [List.getElem?_eq_getElem hk, hkb]
      rw [Bx.setAll_get hnames (by omega) hk?] at hb'
      obtain ⟨cs, e, h1, h2, h3, h4⟩ := hpG.bx (.a k) cells hb'
      refine ⟨cs, e, ?_, h2, h3, fun j x u hx hu => ?_⟩
      · rw [hβ' k, hβc k b hk?] at h1; exact h1
      · have hgv := List.all_eq_true.1 (hbop cells (List.mem_of_getElem? hb')) x (List.mem_of_getElem? hx)
        have g1 : x.pass1 = true ∧ ¬ ∃ K, x = .fn K ∨ x = .efn K := by
          cases x <;> simp [PV.gives1, PV.pass1] at hgv ⊢
        exact (h4 j x u hx hu).pstep hps3 ⟨k, b, hk?, rfl, rfl⟩ g1.1 (fun e => absurd e g1.2)
    · rw [Bx.setAll_not hbn] at hb'
      have hl := (h.hp.live b).2 (by simp [hb'])
      obtain ⟨h1, -, -⟩ := hsame (G.β b) (hβlt b hl) (hβnot b hl hbn)
      refine (h.hp.bx b cells hb').step hg hl (fun j => ⟨rfl, ?_⟩) h1
      rintro ⟨q', (⟨s, i, h2, _⟩ | ⟨b', k, h2, h3, _⟩)⟩
      · cases h2
      · cases h2; exact hbn (List.mem_of_getElem? h3)
  have hlive2 : ∀ b, G.live b ↔ ((if fl.be = true then B' else st.bx) b).isSome = true := by
    intro b
    have hb' : (if fl.be = true then B' else st.bx) b = Bx.setAll st.bx nm bo b := by
      by_cases hbe' : fl.be = true
      · rw [if_pos hbe', hout, hBeq hbe']
      · rw [if_neg hbe']
        have hnil : nm = [] := Classical.byContradiction fun hne => hbe' (hbe hne)
        rw [hnil]; rfl
    rw [hb']
    by_cases hbn : b ∈ nm
    · obtain ⟨k, hk, hkb⟩ := List.mem_iff_getElem.1 hbn
      have hk? : nm[k]? = some b := by rw [List.getElem?_eq_getElem hk, hkb]
      rw [Bx.setAll_get hnames (by omega) hk?, List.getElem?_eq_getElem (by omega)]
      simp [(hnmlive k b hk?).1]
    · rw [Bx.setAll_not hbn]; exact h.hp.live b
  refine hK _ _ ⟨G2, ?_⟩
  unfold St.after
  refine h.next hg (fun t ht htd i j => ⟨rfl, ?_⟩) (fun d' hdd => hrv.pstepG (hps2 d' hdd) (fun i j => ⟨rfl, rfl⟩) hgives) hd ?_ ?_
  · rintro ⟨q', (⟨s, i', h2, hmv, h3, _⟩ | ⟨b', k, h2, h3, _⟩)⟩
    · cases h2
      apply ht
      simp only [stripsOf, hmv, if_true, hops]
      exact mem_tmpsOf.2 (List.mem_cons_of_mem _ (List.mem_of_getElem? h3))
    · cases h2
  · refine ⟨hnewbx, hlive2, h.hp.inj, hpG.imlt, fun g p hgp => ?_, fun b hl k => ?_, fun b hl => ?_⟩
    · cases hgo : G'.own g with
      | some q => exact hpG.ownlt g q hgo
      | none =>
        simp only [G2, hgo] at hgp
        split at hgp
        · cases hgp
        · exact Nat.lt_of_lt_of_le (h.hp.ownlt g p hgp) hext.size
    · by_cases hbn : b ∈ nm
      · obtain ⟨q, hq, hqb⟩ := List.mem_iff_getElem.1 hbn
        have hk? : nm[q]? = some b := by rw [List.getElem?_eq_getElem hq, hqb]
        have hlq : G'.live (.a q) := (hpG.live _).2 (by simp [bxOf]; omega)
        have := hpG.boxim (.a q) hlq k
        rw [hβ' q, hβc q b hk?] at this
        exact this
      · intro him
        obtain ⟨-, -, h3⟩ := hsame (G.β b) (hβlt b hl) (hβnot b hl hbn)
        exact h.hp.boxim b hl k (h3 k him)
    · by_cases hbn : b ∈ nm
      · obtain ⟨q, hq, hqb⟩ := List.mem_iff_getElem.1 hbn
        have hk? : nm[q]? = some b := by rw [List.getElem?_eq_getElem hq, hqb]
        have hlq : G'.live (.a q) := (hpG.live _).2 (by simp [bxOf]; omega)
        have hno := hpG.boxown (.a q) hlq
        rw [hβ' q, hβc q b hk?] at hno
        have hw : Wr (G.β b) := .inr ⟨q, b, hk?, rfl⟩
        simp [G2, hno, hw]
      · obtain ⟨-, h2, -⟩ := hsame (G.β b) (hβlt b hl) (hβnot b hl hbn)
        rw [h2]; exact h.hp.boxown b hl
  · have hwWr : ∀ b, Wr b → F.w0.heap.size ≤ b ∨ F.Wr b := by
      rintro g (⟨p, q, hp, _⟩ | ⟨k, b, hk, rfl⟩)
      · exact h.sn.own g p hp
      · exact h.sn.box b (hnmlive k b hk).1
    refine ⟨h.sn.ext.trans hext hwWr, fun g p hgp => ?_, h.sn.box, h.sn.βa, h.sn.fz, h.sn.fzm⟩
    have hs := h.sn.ext.size
    cases hgo : G'.own g with
    | some q =>
      rcases hown' g q hgo with h1 | h1
      · left; omega
      · exact hwWr g h1
    | none =>
      simp only [G2, hgo] at hgp
      split at hgp
      · cases hgp
      · exact h.sn.own g p hgp

end Go.Bee

/-
Calls that look at what is nobody's, that make what is nobody's, that write to it. No condition.
-/
namespace Go.Bee
set_option linter.unusedVariables false

theorem callX {P : Program} {a : Act} {w : World} {o : Oper} {f : Nat} {xs : List Operand} {ys : List PV} {r : PV} (hop : isValCall o (.func f) xs) (hlen : ys.length = xs.length) (hret : BRet P f [] ys r []) (Gc : Gh) (Wr : Nat → Prop)
    (hargs : ∀ (i : Nat) x y, xs[i]? = some x → ys[i]? = some y → RepT P Gc w (.t i) y (a.eval x)) (him : ∀ g o, Gc.im g o → g < w.heap.size) (hown : ∀ g, Gc.own g = none) (hlive : ∀ b, ¬ Gc.live b) (hfz : ∀ g, Gc.fz g ↔ g < w.heap.size ∧ ¬ Wr g) (htb : TabOk P Gc.fz w)
    {K : Act → World → Prop} {Q : Exit → Act → World → Prop}
    (hK : ∀ v G' w', RepT P G' w' .res r v → Ext Gc.im w G'.im w' Wr → (∀ g p, G'.own g = some p → w.heap.size ≤ g ∨ Wr g) → (∀ g, FreeB Gc w g → KindSame w w' g ∧ (∃ cs e, w'.heap[g]? = some (.cells cs e (0, 0))) ∧ G'.own g = none ∧ ∀ o, ¬ G'.im g o) → Hp P G' w' (bxOf []) → K (a.put o.dst v) w') : o.wp P a w K Q := by
  obtain ⟨ts, hop⟩ := hop
  obtain ⟨hisfn, -, hret⟩ := hret
  have hp : Hp P Gc w (bxOf []) := ⟨fun b cells hc => (by cases b <;> simp [bxOf] at hc), fun b => (by cases b <;> simp [bxOf, hlive]), fun b b' hl => absurd hl (hlive b), him, fun g p hg => (by rw [hown g] at hg; cases hg), fun b hl => absurd hl (hlive b), fun b hl => absurd hl (hlive b)⟩
  have hcalls := hret Gc w (xs.toArray.map a.eval) Wr (by simp [hlen]) (fun i y u hy hu => by
      have hil : i < xs.length := by rw [← hlen]; exact (List.getElem?_eq_some_iff.1 hy).1
      have hu' : u = a.eval xs[i] := by simp [hil] at hu; exact hu.symm
      subst hu'
      exact hargs i _ y (List.getElem?_eq_getElem hil) hy) hp (fun g p hg => by rw [hown g] at hg; cases hg) (fun b hl => absurd hl (hlive b)) (fun g hg => (hfz g).1 hg) (fun g h1 h2 => (hfz g).2 ⟨h1, h2⟩) htb
  have hrunX : (execOp a.eval o).run P w = .ok (.enter f (xs.toArray.map a.eval)) w := by
    have := run_callFunc hisfn (xs.toArray.map a.eval) w
    simp [execOp, hop, resolve, Deferred.ofValue, Act.eval, invoke]
    simpa [Act.eval] using this
  unfold Oper.wp
  rw [hrunX]
  refine Calls.mono hcalls fun e w' hR => ?_
  obtain ⟨rv, G', rfl, hrv, hpG, hext, -, hown', hz⟩ := hR
  exact hK rv G' w' hrv hext hown' hz hpG

theorem plain_sc {S S' : Nat → Nat → Prop} {w w' : World} {x : PD} {v : Value} (hp : x.plain = true) (hs : x.scalar = true) (h : RepD S w x v) : RepD S' w' x v := by
  cases h with
  | bool b => exact .bool b
  | int k n => exact .int k n
  | str l hb => exact .str l hb
  | agg => cases hs
  | _ => cases hp
inductive All2 {α β : Type} (R : α → β → Prop) : List α → List β → Prop
  | nil : All2 R [] []
  | cons {a : α} {b : β} {l : List α} {m : List β} (h : R a b) (k : All2 R l m) : All2 R (a :: l) (b :: m)
theorem All2.len {α β : Type} {R : α → β → Prop} {l : List α} {m : List β} (h : All2 R l m) : m.length = l.length := by
  induction h with
  | nil => rfl
  | cons h k ih => simp [ih]
theorem All2.get {α β : Type} {R : α → β → Prop} {l : List α} {m : List β} (h : All2 R l m) : ∀ (j : Nat) x y, l[j]? = some x → m[j]? = some y → R x y := by
  induction h with
  | nil => intro j x y h; simp at h
  | cons h k ih =>
    intro j x y hx hy
    cases j with
    | zero => simp at hx hy; subst hx; subst hy; exact h
    | succ j => simp at hx hy; exact ih j x y hx hy
/-! Lent: what is read as data. -/
inductive Lend (B : Bx) : PV → PV → Prop
  | d (x : PD) : Lend B (.d x) (.d x)
  | nil : Lend B .nilS .nilS
  | q (x : PD) : Lend B (.q x) (.d x)
  | own (e sz : Nat) (l : List PD) : Lend B (.own e sz l) (.d (.sl sz l))
  | dp (x : PD) : Lend B (.dp x) (.d x)
  | rsv (b : BN) (sz n : Nat) (l : List PD) (rest : List PV) (hb : B b = some ((flat l).map .d ++ rest)) (hl : l.length = n) (hu : ∀ x ∈ l, x.cells.length = sz) : Lend B (.rsv b sz n) (.d (.sl sz l))
inductive LendV (B : Bx) : PV → PV → Prop
  | one (x y : PV) (h : Lend B x y) : LendV B x y
  | agg (l m : List PV) (h : All2 (Lend B) l m) : LendV B (.agg l) (.agg m)
def lentIm (G : Gh) (w : World) : Nat → Nat → Prop := fun g _ => g < w.heap.size
def Gh.lent (G : Gh) (w : World) : Gh := { im := lentIm G w, β := G.β, live := fun _ => False, own := fun _ => none, fz := fun g => g < w.heap.size }
theorem Lend.rep {P : Program} {G : Gh} {w : World} {B B0 : Bx} (hp : Hp P G w B0) (hB : ∀ b c, B b = some c → B0 b = some c) {p p' : Pos} {x y : PV} {v : Value} (h : Lend B x y) (hx : RepC P G w p x v) : RepC P (G.lent w) w p' y v := by
  have hk : Keep G.im w (lentIm G w) w := fun b o h => ⟨hp.imlt b o h, rfl⟩
  cases h with
  | d x => exact ⟨hx.1.keep hk, hx.2⟩
  | nil => exact hx
  | q x => exact ⟨hx.1.keep fun b o h => ⟨h.lt, rfl⟩, hx.2⟩
  | own e sz l => exact ⟨(OwnAt.data hx).keep hk, rfl⟩
  | dp x => exact ⟨hx.1.keep fun b o h => ⟨hp.imlt b o h.1, rfl⟩, hx.2⟩
  | rsv b sz n l rest hb hl hu =>
    obtain ⟨c, h1, rfl, h3, h4⟩ := hx
    obtain ⟨cs, e, k1, k2, k3, k4⟩ := hp.bx b _ (hB b _ hb)
    subst hl
    have hcell : ∀ (i : Nat) z, (flat l)[i]? = some z → ∃ u, cs[i]? = some u ∧ RepD (lentIm G w) w z u ∧ z.scalar = true := fun i z hz => by
      have hi := (List.getElem?_eq_some_iff.1 hz).1
      have hi2 : i < cs.size := by simp at k2; omega
      have := k4 i (.d z) cs[i] (by rw [List.getElem?_append_left (by simpa using hi), List.getElem?_map, hz]; rfl) (Array.getElem?_eq_getElem hi2)
      exact ⟨_, Array.getElem?_eq_getElem hi2, this.1.keep hk, this.2⟩
    refine ⟨.sl sz l (G.β b) 0 c (cs.toList.take (flat l).length) h4 h1 hu (fun z hz => ?_) (by simp at k2 ⊢; omega) (fun i u hi => ?_) (fun i z u hz hi => ?_), rfl⟩
    · obtain ⟨i, hi, rfl⟩ := List.mem_iff_getElem.1 hz
      obtain ⟨-, -, -, h⟩ := hcell i _ (List.getElem?_eq_getElem hi)
      exact h
    · rw [List.getElem?_take] at hi
      split at hi
      · rw [Array.getElem?_toList] at hi
        exact ⟨(Array.getElem?_eq_some_iff.1 k1).1, by simp [World.cell?, k1, hi]⟩
      · cases hi
    · obtain ⟨u', e1, e2, -⟩ := hcell i z hz
      rw [List.getElem?_take_of_lt (List.getElem?_eq_some_iff.1 hz).1, Array.getElem?_toList, e1] at hi
      cases hi; exact e2
theorem LendV.rep {P : Program} {G : Gh} {w : World} {B B0 : Bx} (hp : Hp P G w B0) (hB : ∀ b c, B b = some c → B0 b = some c) {loc loc' : Loc} {x y : PV} {v : Value} (h : LendV B x y) (hx : RepT P G w loc x v) : RepT P (G.lent w) w loc' y v := by
  cases h with
  | one _ _ h =>
    have hx' : RepC P G w (loc, 0, 0) x v := by cases h <;> exact hx
    have := Lend.rep hp hB (p' := (loc', 0, 0)) h hx'
    cases h <;> exact this
  | agg l m h =>
    have hl := h.len
    obtain ⟨cs, rfl, h1, h2, h3⟩ := hx
    refine ⟨cs, rfl, by omega, h2, fun j y u hy hu => ?_⟩
    have hj : j < l.length := by rw [← hl]; exact (List.getElem?_eq_some_iff.1 hy).1
    exact Lend.rep hp hB (h.get j _ y (List.getElem?_eq_getElem hj) hy) (h3 j _ u (List.getElem?_eq_getElem hj) hu)

/-! Taken: what a call gives, as what is nobody's. -/
inductive TakeC : PV → PV → Prop
  | d (x : PD) (h : x.plain = true) : TakeC (.d x) (.d x)
  | nil : TakeC .nilS .nilS
  | own0 (e sz : Nat) : TakeC (.own e sz []) (.d (.sl sz []))
  | dp (x : PD) : TakeC (.dp x) (.q x)
inductive TakeV : PV → PV → Prop
  | one (x y : PV) (h : TakeC x y) : TakeV x y
  | agg (l m : List PV) (h : All2 TakeC l m) : TakeV (.agg l) (.agg m)
inductive TakeT : PV → PV → Prop
  | one (x y : PV) (h : TakeV x y) : TakeT x y
  | tup (l m : List PV) (h : All2 TakeV l m) : TakeT (.tup l) (.tup m)
/-- The ghost behind such a call. -/
def Gh.took (G : Gh) (w : World) (own' : Nat → Option Pos) : Gh := { G with own := fun g => open Classical in if w.heap.size ≤ g ∧ (own' g).isSome = true then some qpos else G.own g }
theorem took_old {G : Gh} {w : World} {own' : Nat → Option Pos} {g : Nat} (h : g < w.heap.size) : (G.took w own').own g = G.own g := by
  simp only [Gh.took]; rw [if_neg (by omega)]
theorem TakeC.rep {P : Program} {F : Fr} {G G' : Gh} {st : St} {a : Act} {w w' : World} (h : Rel P F G st a w) (hn : ∀ g p, G'.own g = some p → w.heap.size ≤ g) {p p' : Pos} {x y : PV} {v : Value} (ht : TakeC x y) (hx : RepC P G' w' p x v) : RepC P (G.took w G'.own) w' p' y v := by
  cases ht with
  | d x hpl => exact ⟨plain_sc hpl hx.2 hx.1, hx.2⟩
  | nil => exact hx
  | own0 e sz =>
    refine ⟨?_, rfl⟩
    have h1 := OwnAt.data hx
    generalize e1 : PD.sl sz [] = z at h1
    cases h1 <;> cases e1
    · exact .nil sz
    · rename_i g o c vs _ _ _ _ _ _ _
      exact .emp sz ⟨g, o, none⟩ c
    · rename_i ad c; exact .emp sz ad c
  | dp x =>
    refine ⟨hx.1.keep fun b o ⟨h1, h2, cs, e, h3⟩ => ⟨⟨⟨cs, e, h3⟩, ?_, fun c hl => ?_, fun o' hi => ?_, fun hf => ?_⟩, rfl⟩, hx.2⟩
    · simp only [Gh.took]; rw [if_pos ⟨hn b p h2, by rw [h2]; rfl⟩]
    · have := hn b p h2
      obtain ⟨c', _, hbx⟩ := h.hp.box hl
      have := hbx.lt
      show G.β c ≠ b
      omega
    · have h5 := hn b p h2
      have h6 := h.hp.imlt b o' hi
      omega
    · have h5 := hn b p h2
      have h6 := (h.sn.fz b hf).1
      have := h.sn.ext.size
      omega
theorem TakeV.rep {P : Program} {F : Fr} {G G' : Gh} {st : St} {a : Act} {w w' : World} (h : Rel P F G st a w) (hn : ∀ g p, G'.own g = some p → w.heap.size ≤ g) {loc loc' : Loc} {i i' : Nat} {x y : PV} {v : Value} (ht : TakeV x y) (hx : RepV P G' w' loc i x v) : RepV P (G.took w G'.own) w' loc' i' y v := by
  cases ht with
  | one _ _ ht =>
    have hx' : RepC P G' w' (loc, i, 0) x v := by cases ht <;> exact hx
    have := TakeC.rep h hn (p' := (loc', i', 0)) ht hx'
    cases ht <;> exact this
  | agg l m ht =>
    have hl := ht.len
    obtain ⟨cs, rfl, h1, h2, h3⟩ := hx
    refine ⟨cs, rfl, by omega, h2, fun j y u hy hu => ?_⟩
    have hj : j < l.length := by rw [← hl]; exact (List.getElem?_eq_some_iff.1 hy).1
    exact TakeC.rep h hn (ht.get j _ y (List.getElem?_eq_getElem hj) hy) (h3 j _ u (List.getElem?_eq_getElem hj) hu)
theorem TakeT.rep {P : Program} {F : Fr} {G G' : Gh} {st : St} {a : Act} {w w' : World} (h : Rel P F G st a w) (hn : ∀ g p, G'.own g = some p → w.heap.size ≤ g) {loc loc' : Loc} {x y : PV} {v : Value} (ht : TakeT x y) (hx : RepT P G' w' loc x v) : RepT P (G.took w G'.own) w' loc' y v := by
  cases ht with
  | one _ _ ht =>
    have hx' : RepV P G' w' loc 0 x v := by cases ht with
      | one _ _ ht => cases ht <;> exact hx
      | agg l m ht => exact hx
    have := TakeV.rep h hn (loc' := loc') (i' := 0) ht hx'
    cases ht with
    | one _ _ ht => cases ht <;> exact this
    | agg l m ht => exact this
  | tup l m ht =>
    have hl := ht.len
    obtain ⟨vs, rfl, h1, h2⟩ := hx
    refine ⟨vs, rfl, by omega, fun j y u hy hu => ?_⟩
    have hj : j < l.length := by rw [← hl]; exact (List.getElem?_eq_some_iff.1 hy).1
    exact TakeV.rep h hn (ht.get j _ y (List.getElem?_eq_getElem hj) hy) (h2 j _ u (List.getElem?_eq_getElem hj) hu)

structure QStep (P : Program) (fl : AF) (o : Oper) (st : St) (v : PV) (f : Nat) (xs : List Operand) (ys : List PV) (r : PV) : Prop where
  call : isValCall o (.func f) xs
  pass : All2 (LendV (vz fl st.bx)) (xs.map st.ev) ys
  ret : BRet P f [] ys r []
  take : TakeT r v
theorem GStep.took {P : Program} {F : Fr} {G : Gh} {st : St} {a : Act} {w w' : World} (h : Rel P F G st a w) (own' : Nat → Option Pos) (hsz : w.heap.size ≤ w'.heap.size) (hold : ∀ g, g < w.heap.size → w'.heap[g]? = w.heap[g]?) :
    GStep G w (G.took w own') w' (fun p q => p = q) :=
  ⟨fun b o hb => ⟨hb, cell_of_heap (hold b (h.hp.imlt b o hb)) o⟩, fun b hl => ⟨hl, rfl⟩, rfl, fun g hg => hold g (by have := (h.sn.fz g hg).1; have := h.sn.ext.size; omega), hsz,
    fun g p q hg e => ⟨by rw [took_old (h.hp.ownlt g p hg), hg, e], hold g (h.hp.ownlt g p hg), fun _ h => h⟩,
    fun o g ho hf => ⟨⟨by rw [hold g hf.lt]; exact hf.1, by rw [took_old hf.lt]; exact hf.2.1, hf.2.2⟩, .heap (hold g hf.lt)⟩⟩
theorem qStep_sound {P : Program} {F : Fr} {G : Gh} {st : St} {a : Act} {w : World} (h : Rel P F G st a w) {fl : AF} {o : Oper} {v : PV} {f : Nat} {xs : List Operand} {ys : List PV} {r : PV}
    (hd : ∀ d', o.dst = some d' → d' < F.nt) (hc : QStep P fl o st v f xs ys r) {K : Act → World → Prop} {Q : Exit → Act → World → Prop} (hK : ∀ a' w', (∃ G', Rel P F G' (st.after fl o v (vz fl st.bx)) a' w') → K a' w') : o.wp P a w K Q := by
  have hbsub : ∀ b c, vz fl st.bx b = some c → st.bx b = some c := by
    intro b c hc; unfold vz at hc; split at hc
    · exact hc
    · cases hc
  obtain ⟨hop, hpass, hret, htake⟩ := hc
  have hlen : ys.length = xs.length := by simpa using hpass.len
  refine callX hop hlen hret (G.lent w) (fun _ => False) (fun i x y hx hy => ?_) (fun g o h => h) (fun _ => rfl) (fun _ h => h) (fun g => ⟨fun h => ⟨h, id⟩, fun h => h.1⟩) (h.tab.mono (fun _ _ => rfl) (fun g _ h => h)) fun rv G' w' hrv hext hown' hz hpG => hK _ _ ⟨G.took w G'.own, ?_⟩
  · exact (hpass.get i _ y (by rw [List.getElem?_map, hx]; rfl) hy).rep h.hp hbsub (h.ev x)
  have hold : ∀ g, g < w.heap.size → w'.heap[g]? = w.heap[g]? := fun g hg => hext.old g hg id
  have hn : ∀ g p, G'.own g = some p → w.heap.size ≤ g := fun g p hg => (hown' g p hg).resolve_right id
  have hg := GStep.took (F := F) h G'.own hext.size hold
  have hsame : (if fl.be = true then vz fl st.bx else st.bx) = st.bx := by split <;> first | (rename_i hbe; simp [vz, hbe]) | rfl
  unfold St.after
  rw [hsame]
  refine h.next hg (fun t _ _ i j => rfl) (fun d' _ => htake.rep h hn hrv) hd ⟨fun b cells hb => ?_, h.hp.live, h.hp.inj, fun g o hg => Nat.lt_of_lt_of_le (h.hp.imlt g o hg) hext.size, fun g p hg => ?_, h.hp.boxim, fun b hl => ?_⟩ ?_
  · have hl := (h.hp.live b).2 (by simp [hb])
    exact (h.hp.bx b cells hb).step hg hl (fun j => rfl) (hold _ (h.hp.bx b cells hb).lt)
  · by_cases hlt : g < w.heap.size
    · exact Nat.lt_of_lt_of_le hlt hext.size
    · simp only [Gh.took] at hg
      split at hg
      · rename_i hc
        obtain ⟨p', hp'⟩ := Option.isSome_iff_exists.1 hc.2
        exact hpG.ownlt g p' hp'
      · exact absurd (h.hp.ownlt g p hg) hlt
  · obtain ⟨c, _, hbx⟩ := h.hp.box hl
    have := hbx.lt
    show (G.took w G'.own).own (G.β b) = none
    rw [took_old this]; exact h.hp.boxown b hl
  · have hx := h.sn.ext
    refine ⟨⟨hext.os.trans hx.os, hext.tape.trans hx.tape, hext.output.trans hx.output, Nat.le_trans hx.size hext.size, fun b hb hw => ?_, fun b o hb => ?_, fun b o hb => hx.new b o hb⟩, fun g p hg => ?_, h.sn.box, h.sn.βa, h.sn.fz, h.sn.fzm⟩
    · rw [hold b (Nat.lt_of_lt_of_le hb hx.size)]; exact hx.old b hb hw
    · have hk := hx.keep b o hb
      exact ⟨hk.1, (cell_of_heap (hold b (h.hp.imlt b o hk.1)) o).trans hk.2⟩
    · by_cases hlt : g < w.heap.size
      · rw [took_old hlt] at hg; exact h.sn.own g p hg
      · have := hx.size; left; omega

/-! A slice that is given and that nobody else knows, as a variable in memory. -/
inductive OwnIn (b : BN) (e sz : Nat) (l : List PD) : PV → PV → Prop
  | one : OwnIn b e sz l (.own e sz l) (.rsv b sz l.length)
  | agg1 (y : PD) (hy : y.plain = true) : OwnIn b e sz l (.agg [.d y, .own e sz l]) (.agg [.d y, .rsv b sz l.length])
theorem OwnIn.rep {P : Program} {G : Gh} {w : World} {b : BN} {e sz : Nat} {l : List PD} {x y : PV} {loc : Loc} {v : Value} (h : OwnIn b e sz l x y) (hx : RepV P G w loc 0 x v) :
    ∃ j u, OwnAt G w (loc, 0, j) e sz l u ∧ ∀ G2 w2 loc2, (∀ p, RepC P G2 w2 p (.rsv b sz l.length) u) → RepV P G2 w2 loc2 0 y v := by
  cases h with
  | one => exact ⟨0, v, hx, fun G2 w2 loc2 h => h (loc2, 0, 0)⟩
  | agg1 y hy =>
    obtain ⟨cs, rfl, h1, h2, h3⟩ := hx
    have hs : cs.size = 2 := by simpa using h1
    refine ⟨1, cs[1], h3 1 _ _ rfl (Array.getElem?_eq_getElem (by omega)), fun G2 w2 loc2 h => ⟨cs, rfl, by simpa using h1, h2, fun j z u hz hu => ?_⟩⟩
    match j, hz with
    | 0, hz =>
      simp at hz; subst hz
      have := h3 0 (.d y) u rfl hu
      exact ⟨plain_sc hy this.2 this.1, this.2⟩
    | 1, hz =>
      simp at hz; subst hz
      have : u = cs[1] := by rw [Array.getElem?_eq_getElem (by omega)] at hu; cases hu; rfl
      subst this; exact h _
    | j + 2, hz => simp at hz
theorem own_at0 {G : Gh} {w : World} {p : Pos} {e sz : Nat} {l : List PD} {v : Value} (h : OwnAt G w p e sz l v) (hl : l ≠ []) :
    ∃ g c, v = .slice (some ⟨g, 0, none⟩) l.length c ∧ l.length ≤ c ∧ RepRun G.im w g 0 (flat l) ∧ G.own g = some p ∧ ∃ cs e', w.heap[g]? = some (.cells cs e' (0, 0)) := by
  obtain ⟨hd, hw⟩ := h
  rcases hd.sl_shape with ⟨h1, -⟩ | ⟨g, o, c, rfl, h2, h3, h4⟩ | ⟨h1, -⟩
  · exact absurd h1 hl
  rotate_left
  · exact absurd h1 hl
  rcases hw with ⟨h5, h6⟩ | ⟨vs, h5, h6, h7⟩
  · rcases h5 with h5 | ⟨g', h5⟩
    · cases h5
    · cases h5; exact ⟨_, _, rfl, Nat.le_refl _, h4, h6 hl _ rfl⟩
  · rcases h5.2 with hn | ⟨g', cap, cur, hv, hb, hgg, rest⟩
    · simp at hn
    · simp only [Value.slice.injEq, Option.some.injEq, Addr.mk.injEq] at hv
      obtain ⟨⟨h8, h9⟩, h10⟩ := hv
      subst h8
      have h11 : o = 0 := by simpa using h9
      subst h11
      exact ⟨_, c, rfl, h2, h4, (h7 _ rfl).1, cur, e, hgg⟩
structure BxStep (P : Program) (fl : AF) (o : Oper) (st : St) (m : Nat) (f : Nat) (xs : List Operand) (ys : List PV) (R R' : PV) (x : PD) (e sz : Nat) (l : List PD) : Prop where
  call : isValCall o (.func f) xs
  pass : All2 (LendV (vz fl st.bx)) (xs.map st.ev) ys
  ret : BRet P f [] ys (.tup [R, .d x]) []
  shape : OwnIn (.t m) e sz l R R'
  plain : x.plain = true
  ne : l ≠ []
  flat : ∀ y ∈ flat l, y.plain = true
  be : fl.be = true
  free : st.bx (.t m) = none
theorem bxStep_sound {P : Program} {F : Fr} {G : Gh} {st : St} {a : Act} {w : World} (h : Rel P F G st a w) {fl : AF} {o : Oper} {m f : Nat} {xs : List Operand} {ys : List PV} {R R' : PV} {x : PD} {e sz : Nat} {l : List PD}
    (hd : ∀ d', o.dst = some d' → d' < F.nt) (hc : BxStep P fl o st m f xs ys R R' x e sz l) {K : Act → World → Prop} {Q : Exit → Act → World → Prop} (hK : ∀ a' w', (∃ G', Rel P F G' (st.after fl o (.tup [R', .d x]) (Bx.set st.bx (.t m) ((Bee.flat l).map .d))) a' w') → K a' w') : o.wp P a w K Q := by
  have hbsub : ∀ b c, vz fl st.bx b = some c → st.bx b = some c := by
    intro b c hc; unfold vz at hc; split at hc
    · exact hc
    · cases hc
  obtain ⟨hop, hpass, hret, hshape, hpl, hne, hflat, hbe, hbn⟩ := hc
  have hlen : ys.length = xs.length := by simpa using hpass.len
  refine callX hop hlen hret (G.lent w) (fun _ => False) (fun i x y hx hy => ?_) (fun g o h => h) (fun _ => rfl) (fun _ h => h) (fun g => ⟨fun h => ⟨h, id⟩, fun h => h.1⟩) (h.tab.mono (fun _ _ => rfl) (fun g _ h => h)) fun rv G' w' hrv hext hown' hz hpG => ?_
  · exact (hpass.get i _ y (by rw [List.getElem?_map, hx]; rfl) hy).rep h.hp hbsub (h.ev x)
  have hold : ∀ g, g < w.heap.size → w'.heap[g]? = w.heap[g]? := fun g hg => hext.old g hg id
  obtain ⟨us, rfl, hus, hur⟩ := hrv
  have hus2 : us.size = 2 := by simpa using hus
  have hr0 := hur 0 R us[0] rfl (Array.getElem?_eq_getElem (by omega))
  have hr1 := hur 1 (.d x) us[1] rfl (Array.getElem?_eq_getElem (by omega))
  obtain ⟨j, u, hown, hback⟩ := hshape.rep hr0
  obtain ⟨g, c, rfl, hlc, hrun, hgo, cs, e', hgc⟩ := own_at0 hown hne
  have hgn : w.heap.size ≤ g := (hown' g _ hgo).resolve_right id
  have hgl : g < w'.heap.size := (Array.getElem?_eq_some_iff.1 hgc).1
  have hllen : l.length ≤ 140737488355328 := hown.1.len
  have hnl : ¬ G.live (.t m) := fun hl => by have := (h.hp.live _).1 hl; simp [hbn] at this
  have hβlt : ∀ b, G.live b → G.β b < w.heap.size := fun b hl => by obtain ⟨c, _, hbx⟩ := h.hp.box hl; exact hbx.lt
  let G2 : Gh := { im := G.im, β := fun c => if c = .t m then g else G.β c, live := fun c => c = .t m ∨ G.live c, own := G.own, fz := G.fz }
  have hg : GStep G w G2 w' (fun p q => p = q) :=
    ⟨fun b o hb => ⟨hb, cell_of_heap (hold b (h.hp.imlt b o hb)) o⟩, fun b hl => ⟨.inr hl, by simp only [G2]; rw [if_neg]; intro e; subst e; exact hnl hl⟩, rfl, fun g hg => hold g (by have := (h.sn.fz g hg).1; have := h.sn.ext.size; omega), hext.size,
      fun g p q hg e => ⟨by rw [← e]; exact hg, hold g (h.hp.ownlt g p hg), fun _ h => h⟩,
      fun o k ho hf => ⟨⟨by rw [hold k hf.lt]; exact hf.1, hf.2.1, fun b hl => by
        have := hf.lt
        by_cases e : b = .t m
        · simp only [G2, e, if_true]; omega
        · simp only [G2, e, if_false]; exact hf.2.2.1 b (hl.resolve_left e), hf.2.2.2⟩, .heap (hold k hf.lt)⟩⟩
  obtain ⟨vs, hv1, hv2, hv3, hv4⟩ := hrun
  have hcell : ∀ (i : Nat) z, (Bee.flat l)[i]? = some z → ∃ u, cs[i]? = some u ∧ RepD G'.im w' z u ∧ z.scalar = true := fun i z hz => by
    have hi := (List.getElem?_eq_some_iff.1 hz).1
    have hi2 : vs[i]? = some vs[i] := List.getElem?_eq_getElem (by omega)
    have h2 := (hv3 i _ hi2).2
    rw [Nat.zero_add] at h2
    simp only [World.cell?, hgc] at h2
    exact ⟨_, h2, hv4 i z _ hz hi2, hv2 z (List.mem_of_getElem? hz)⟩
  have hsz : (Bee.flat l).length ≤ cs.size := by
    rcases Nat.eq_zero_or_pos (Bee.flat l).length with h0 | h0
    · omega
    · obtain ⟨u, hu, -⟩ := hcell ((Bee.flat l).length - 1) _ (List.getElem?_eq_getElem (by omega))
      have := (Array.getElem?_eq_some_iff.1 hu).1
      omega
  refine hK _ _ ⟨G2, ?_⟩
  unfold St.after
  rw [if_pos hbe]
  refine h.next hg (fun t _ _ i j => rfl) (fun d' _ => ⟨us, rfl, by simpa using hus, fun i y u hy hu => ?_⟩) hd ?_ ?_
  · match i, hy with
    | 0, hy =>
      simp at hy; subst hy
      have : u = us[0] := by rw [Array.getElem?_eq_getElem (by omega)] at hu; cases hu; rfl
      subst this
      have := hback G2 w' (.t d') (fun p => ⟨c, hlc, by simp [G2], .inl rfl, hllen⟩)
      cases hshape <;> exact this
    | 1, hy =>
      simp at hy; subst hy
      have : u = us[1] := by rw [Array.getElem?_eq_getElem (by omega)] at hu; cases hu; rfl
      subst this
      exact ⟨plain_sc hpl hr1.2 hr1.1, hr1.2⟩
    | i + 2, hy => simp at hy
  · refine ⟨fun b bcells hbc => ?_, fun b => ?_, fun b b' hl hl' he => ?_, fun k o hk => Nat.lt_of_lt_of_le (h.hp.imlt k o hk) hext.size, fun k p hk => Nat.lt_of_lt_of_le (h.hp.ownlt k p hk) hext.size, fun b hl o him => ?_, fun b hl => ?_⟩
    · by_cases hbd : b = .t m
      · subst hbd
        simp only [Bx.set, if_true, Option.some.injEq] at hbc
        subst hbc
        refine ⟨cs, e', by simp only [G2, if_true]; exact hgc, by simpa using hsz, fun i u hi hu => ?_, fun i z u hz hu => ?_⟩
        · obtain ⟨u', h1, h2, h3⟩ := hcell i _ (List.getElem?_eq_getElem (by simpa using hi))
          rw [hu] at h1; cases h1
          exact h2.oneCell h3
        · rw [List.getElem?_map] at hz
          obtain ⟨z', hz', rfl⟩ := Option.map_eq_some_iff.1 hz
          obtain ⟨u', h1, h2, h3⟩ := hcell i z' hz'
          rw [hu] at h1; cases h1
          exact ⟨plain_sc (hflat z' (List.mem_of_getElem? hz')) h3 h2, h3⟩
      · simp only [Bx.set, hbd, if_false] at hbc
        have hl := (h.hp.live b).2 (by simp [hbc])
        exact (h.hp.bx b bcells hbc).step hg hl (fun j => rfl) (hold _ (hβlt b hl))
    · simp only [G2, Bx.set]
      by_cases hbd : b = .t m
      · simp [hbd]
      · simp [hbd, h.hp.live b]
    · simp only [G2] at he hl hl'
      by_cases h1 : b = .t m <;> by_cases h2 : b' = .t m
      · rw [h1, h2]
      · have := hβlt b' (hl'.resolve_left h2)
        simp [h1, h2] at he; omega
      · have := hβlt b (hl.resolve_left h1)
        simp [h1, h2] at he; omega
      · simp only [h1, h2, if_false] at he
        exact h.hp.inj b b' (hl.resolve_left h1) (hl'.resolve_left h2) he
    · by_cases hbd : b = .t m
      · simp only [G2, hbd, if_true] at him
        have := h.hp.imlt _ _ him; omega
      · simp only [G2, hbd, if_false] at him
        exact h.hp.boxim b (hl.resolve_left hbd) o him
    · by_cases hbd : b = .t m
      · simp only [G2, hbd, if_true]
        cases ho : G.own g with
        | none => rfl
        | some p => have := h.hp.ownlt _ _ ho; omega
      · simp only [G2, hbd, if_false]
        exact h.hp.boxown b (hl.resolve_left hbd)
  · have hx := h.sn.ext
    refine ⟨⟨hext.os.trans hx.os, hext.tape.trans hx.tape, hext.output.trans hx.output, Nat.le_trans hx.size hext.size, fun b hb hw => ?_, fun b o hb => ?_, fun b o hb => hx.new b o hb⟩, h.sn.own, fun b hl => ?_, fun k => by simp [G2, h.sn.βa k], h.sn.fz, h.sn.fzm⟩
    · rw [hold b (Nat.lt_of_lt_of_le hb hx.size)]; exact hx.old b hb hw
    · have hk := hx.keep b o hb
      exact ⟨hk.1, (cell_of_heap (hold b (h.hp.imlt b o hk.1)) o).trans hk.2⟩
    · by_cases hbd : b = .t m
      · left; simp only [G2, hbd, if_true]; have := hx.size; omega
      · simp only [G2, hbd, if_false]; exact h.sn.box b (hl.resolve_left hbd)

/-! Written to: what is nobody's. -/
def zpass : PV → Bool
  | .d _ => true
  | .zs _ => true
  | .nilS => true
  | .agg l => l.all fun | .d _ => true | .zs _ => true | .nilS => true | _ => false
  | _ => false
structure ZStep (P : Program) (fl : AF) (o : Oper) (st : St) (x : PD) (f : Nat) (xs : List Operand) : Prop where
  call : isValCall o (.func f) xs
  pass : ∀ x ∈ xs, zpass (st.ev x) = true
  ret : BRet P f [] (xs.map st.ev) (.d x) []
  plain : x.plain = true
def Gh.open' (G : Gh) (w : World) : Gh := { im := G.im, β := G.β, live := fun _ => False, own := fun _ => none, fz := fun g => g < w.heap.size ∧ ¬ FreeB G w g }
theorem open_free {G : Gh} {w : World} {g : Nat} (h : FreeB G w g) : FreeB (G.open' w) w g := ⟨h.1, rfl, fun b hl => hl.elim, h.2.2.2.1, fun hf => hf.2 h⟩
theorem zStep_sound {P : Program} {F : Fr} {G : Gh} {st : St} {a : Act} {w : World} (h : Rel P F G st a w) {fl : AF} {o : Oper} {x : PD} {f : Nat} {xs : List Operand}
    (hd : ∀ d', o.dst = some d' → d' < F.nt) (hc : ZStep P fl o st x f xs) {K : Act → World → Prop} {Q : Exit → Act → World → Prop} (hK : ∀ a' w', (∃ G', Rel P F G' (st.after fl o (.d x) (vz fl st.bx)) a' w') → K a' w') : o.wp P a w K Q := by
  obtain ⟨hop, hpass, hret, hpl⟩ := hc
  have hone : ∀ (y : PV) v p p', (match y with | .d _ => true | .zs _ => true | .nilS => true | _ => false) = true → RepC P G w p y v → RepC P (G.open' w) w p' y v := by
    intro y v p p' hy hr
    cases y <;> simp only [Bool.false_eq_true] at hy
    · exact hr
    · exact hr
    · exact ⟨hr.1.keep fun g hg => ⟨open_free hg, fun _ => rfl⟩, hr.2⟩
  refine callX hop (by simp) hret (G.open' w) (FreeB G w) (fun i X y hX hy => ?_) h.hp.imlt (fun _ => rfl) (fun _ h => h) (fun g => Iff.rfl) (h.tab.mono (fun _ _ => rfl) (fun g h1 h2 => ⟨h2, fun h3 => h3.2.2.2.2 h1⟩)) fun rv G' w' hrv hext hown' hz hpG => hK _ _ ⟨G, ?_⟩
  · rw [List.getElem?_map, hX] at hy
    cases hy
    have hp := hpass X (List.mem_of_getElem? hX)
    have hr := h.ev X
    generalize st.ev X = z at hp hr
    cases z <;> simp only [zpass, Bool.false_eq_true] at hp
    case agg l =>
      obtain ⟨cs, e, h1, h2, h3⟩ := hr
      refine ⟨cs, e, h1, h2, fun j y u hy hu => hone y u _ _ ?_ (h3 j y u hy hu)⟩
      have := List.all_eq_true.1 hp y (List.mem_of_getElem? hy)
      cases y <;> simp at this ⊢
    case d z => exact hr
    case nilS => exact hr
    case zs z => exact ⟨hr.1.keep fun g hg => ⟨open_free hg, fun _ => rfl⟩, hr.2⟩
  have hold : ∀ g, g < w.heap.size → ¬ FreeB G w g → w'.heap[g]? = w.heap[g]? := fun g hg hn => hext.old g hg hn
  have hfree : ∀ g, FreeB G w g → FreeB G w' g ∧ KindSame w w' g := fun g hg => ⟨⟨(hz g (open_free hg)).2.1, hg.2⟩, (hz g (open_free hg)).1⟩
  have hg : GStep G w G w' (fun p q => p = q) :=
    ⟨fun b o hb => ⟨hb, (hext.keep b o hb).2⟩, fun b hl => ⟨hl, rfl⟩, rfl, fun g hg => hold g (by have := (h.sn.fz g hg).1; have := h.sn.ext.size; omega) (fun hf => hf.2.2.2.2 hg), hext.size,
      fun g p q hg e => ⟨by rw [hg, e], hold g (h.hp.ownlt g p hg) (fun hf => by rw [hf.2.1] at hg; cases hg), fun _ h => h⟩,
      fun o g ho hf => by
        rcases ho with rfl | rfl
        · exact ⟨(hfree g hf).1, .kind (hfree g hf).2⟩
        · have hs := hold g hf.lt (fun hf2 => by have := hf.2.1; rw [hf2.2.1] at this; cases this)
          exact ⟨⟨by rw [hs]; exact hf.1, hf.2⟩, .heap hs⟩⟩
  have hsame : (if fl.be = true then vz fl st.bx else st.bx) = st.bx := by split <;> first | (rename_i hbe; simp [vz, hbe]) | rfl
  unfold St.after
  rw [hsame]
  refine h.next hg (fun t _ _ i j => rfl) (fun d' _ => ⟨plain_sc hpl hrv.2 hrv.1, hrv.2⟩) hd ⟨fun b cells hb => ?_, h.hp.live, h.hp.inj, fun g o hg => Nat.lt_of_lt_of_le (h.hp.imlt g o hg) hext.size, fun g p hg => Nat.lt_of_lt_of_le (h.hp.ownlt g p hg) hext.size, h.hp.boxim, h.hp.boxown⟩ ?_
  · have hl := (h.hp.live b).2 (by simp [hb])
    exact (h.hp.bx b cells hb).step hg hl (fun j => rfl) (hold _ (h.hp.bx b cells hb).lt (fun hf => hf.2.2.1 b hl rfl))
  · have hx := h.sn.ext
    refine ⟨⟨hext.os.trans hx.os, hext.tape.trans hx.tape, hext.output.trans hx.output, Nat.le_trans hx.size hext.size, fun b hb hw => ?_, fun b o hb => ?_, fun b o hb => hx.new b o hb⟩, h.sn.own, h.sn.box, h.sn.βa, h.sn.fz, h.sn.fzm⟩
    · rw [hold b (Nat.lt_of_lt_of_le hb hx.size) (fun hf => hf.2.2.2.2 (h.sn.fzm b hb hw))]; exact hx.old b hb hw
    · have hk := hx.keep b o hb
      exact ⟨hk.1, (hext.keep b o hk.1).2.trans hk.2⟩
end Go.Bee
