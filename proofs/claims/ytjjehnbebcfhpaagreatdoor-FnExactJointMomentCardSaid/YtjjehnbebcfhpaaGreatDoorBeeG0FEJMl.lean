/-
The logic and the walks, part 12. No condition.
-/
import Derived.Test.YtjjehnbebcfhpaaGreatDoorBeeG0FEJMk
import Derived.Test.YtjjehnbebcfhpaaGreatDoorBeeG0FEJMj
namespace Go.Bee.Cn
open Go Go.Bee Go.Bee.Ty Go.Bee.C23s Go.Bee.Da
def StrI (l : List Int) : Prop := l.Pairwise (· < ·)
theorem putI_cons (a : Int) (l : List Int) (s : Int) : putI (a :: l) s = if a < s then a :: putI l s else if a = s then a :: l else s :: a :: l := by
  unfold putI
  by_cases h : a < s
  · rw [if_pos h]
    have hp : posI s (a :: l) = posI s l + 1 := by simp [posI, h]
    rw [hp, List.getElem?_cons_succ]
    split
    · rfl
    · simp
  · rw [if_neg h]
    have hp : posI s (a :: l) = 0 := by simp [posI, h]
    rw [hp]
    by_cases e : a = s
    · subst e; simp
    · rw [if_neg e]; simp [e]
theorem putI_mem (s x : Int) : ∀ l : List Int, x ∈ putI l s ↔ x = s ∨ x ∈ l
  | [] => by simp [putI, posI]
  | a :: l => by
    have ih := putI_mem s x l
    rw [putI_cons]
    split
    · rw [List.mem_cons, ih, List.mem_cons]
      constructor
      · rintro (h | h | h) <;> simp [h]
      · rintro (h | h | h) <;> simp [h]
    · split
      · rename_i h; subst h; simp
      · simp [List.mem_cons]
theorem putI_str (s : Int) : ∀ l : List Int, StrI l → StrI (putI l s)
  | [], _ => by simp [putI, posI, StrI]
  | a :: l, h => by
    have p := List.pairwise_cons.1 h
    have ih := putI_str s l p.2
    rw [putI_cons]
    split
    · rename_i hlt
      refine List.pairwise_cons.2 ⟨fun x hx => ?_, ih⟩
      rcases (putI_mem s x l).1 hx with e | e
      · rw [e]; exact hlt
      · exact p.1 x e
    · split
      · exact h
      · refine List.pairwise_cons.2 ⟨fun x hx => ?_, h⟩
        rcases List.mem_cons.1 hx with e | e
        · omega
        · have := p.1 x e; omega
theorem foldI_str {α : Type} {f : List Int → α → List Int} : ∀ (l : List α), (∀ a ∈ l, ∀ o, StrI o → StrI (f o a)) → ∀ o, StrI o → StrI (l.foldl f o)
  | [], _, o, h => h
  | a :: l, hf, o, h => foldI_str l (fun b hb => hf b (List.mem_cons_of_mem _ hb)) _ (hf a (List.mem_cons_self ..) o h)
theorem foldI_mem {α : Type} {f : List Int → α → List Int} {g : α → List Int} : ∀ (l : List α), (∀ a ∈ l, ∀ o x, x ∈ f o a ↔ x ∈ o ∨ x ∈ g a) → ∀ o x, x ∈ l.foldl f o ↔ x ∈ o ∨ x ∈ l.flatMap g
  | [], _, o, x => by simp
  | a :: l, hf, o, x => by
    rw [List.foldl_cons, foldI_mem l (fun b hb => hf b (List.mem_cons_of_mem _ hb)), hf a (List.mem_cons_self ..), List.flatMap_cons, List.mem_append, or_assoc]
theorem spD_str (c : Cd) : ∀ o, StrI o → StrI (spD c o) := by
  refine Cd.ind (P := fun c => ∀ o, StrI o → StrI (spD c o)) (fun c ih o h => ?_) c
  rw [spD_eq]
  split
  · exact putI_str _ _ h
  · exact foldI_str c.ps ih o h
theorem spD_mem (c : Cd) : forms c = true → ∀ (o : List Int) (x : Int), x ∈ spD c o ↔ x ∈ o ∨ x ∈ dys c := by
  refine Cd.ind (P := fun c => forms c = true → ∀ (o : List Int) (x : Int), x ∈ spD c o ↔ x ∈ o ∨ x ∈ dys c) (fun c ih hf o x => ?_) c
  have hc := forms_cases hf
  rw [forms_eq, Bool.and_eq_true] at hf
  rw [spD_eq, dys_eq]
  split
  · rename_i h2
    have hps : c.ps = [] := by
      rcases hc with h | h | h | h | h | h
      · omega
      · omega
      · exact h.2.1
      all_goals omega
    rw [putI_mem, hps]
    simp only [List.flatMap_nil, List.append_nil, List.mem_singleton]
    exact Or.comm
  · rw [foldI_mem c.ps (fun a ha o x => ih a ha (List.all_eq_true.1 hf.2 a ha) o x)]
    simp
def mDays (c : Ct) (s : Sa) : List Int := c.cs.foldl (fun o x => spD x.w o) ((opD s.ds).foldl putI [])
theorem mDays_str (c : Ct) (s : Sa) : StrI (mDays c s) :=
  foldI_str c.cs (fun a _ o ho => spD_str _ _ ho) _ (foldI_str _ (fun a _ o ho => putI_str _ _ ho) _ List.Pairwise.nil)
theorem mDays_mem (c : Ct) (s : Sa) (h : ∀ x ∈ c.cs, forms x.w = true) (x : Int) : x ∈ mDays c s ↔ x ∈ opD s.ds ++ clD c.cs := by
  unfold mDays clD
  rw [foldI_mem (g := fun y : Cl => dys y.w) c.cs (fun a ha o y => spD_mem _ (h a ha) o y), foldI_mem (g := fun y : Int => [y]) (opD s.ds) (fun a _ o y => by rw [putI_mem, List.mem_singleton, or_comm])]
  simp
def fstD (day : Int) : List Int → Int
  | [] => -1
  | d :: l => if d > day ∧ inB d 0 36524 = true then d else fstD day l
theorem inB_pos {d : Int} (h : inB d 0 36524 = true) : 0 ≤ d := by
  unfold inB at h
  simp only [Bool.and_eq_true, decide_eq_true_eq] at h
  omega
theorem nx_spec (day : Int) : ∀ (l : List Int) (a : Int), (a = -1 ∨ 0 ≤ a) → ∃ r, l.foldl (nxS day) a = r ∧ (r = a ∨ (r ∈ l ∧ r > day ∧ inB r 0 36524 = true)) ∧ (0 ≤ a → r ≤ a ∧ 0 ≤ r) ∧ ∀ x ∈ l, x > day → inB x 0 36524 = true → 0 ≤ r ∧ r ≤ x
  | [], a, _ => ⟨a, rfl, .inl rfl, fun h => ⟨Int.le_refl _, h⟩, fun x hx => by cases hx⟩
  | d :: l, a, ha => by
    by_cases hc : d > day ∧ inB d 0 36524 = true ∧ (a < 0 ∨ d < a)
    · have hd := inB_pos hc.2.1
      obtain ⟨r, h1, h2, h3, h4⟩ := nx_spec day l d (.inr hd)
      have h3 := h3 hd
      refine ⟨r, by rw [List.foldl_cons, ← h1]; unfold nxS; rw [if_pos hc], ?_, fun h => ⟨by omega, h3.2⟩, fun x hx p1 p2 => ?_⟩
      · rcases h2 with e | ⟨e1, e2⟩
        · rw [e]; exact .inr ⟨List.mem_cons_self .., hc.1, hc.2.1⟩
        · exact .inr ⟨List.mem_cons_of_mem _ e1, e2⟩
      · rcases List.mem_cons.1 hx with e | e
        · rw [e]; exact ⟨h3.2, h3.1⟩
        · exact h4 x e p1 p2
    · obtain ⟨r, h1, h2, h3, h4⟩ := nx_spec day l a ha
      refine ⟨r, by rw [List.foldl_cons, ← h1]; unfold nxS; rw [if_neg hc], ?_, h3, fun x hx p1 p2 => ?_⟩
      · rcases h2 with e | ⟨e1, e2⟩
        · exact .inl e
        · exact .inr ⟨List.mem_cons_of_mem _ e1, e2⟩
      · rcases List.mem_cons.1 hx with e | e
        · rw [e] at p1 p2 ⊢
          have : ¬ (a < 0 ∨ d < a) := fun h => hc ⟨p1, p2, h⟩
          have := h3 (by omega)
          omega
        · exact h4 x e p1 p2
theorem fst_spec (day : Int) : ∀ (l : List Int), StrI l → (fstD day l = -1 ∧ ∀ x ∈ l, x > day → inB x 0 36524 = true → False) ∨ (fstD day l ∈ l ∧ fstD day l > day ∧ inB (fstD day l) 0 36524 = true ∧ ∀ x ∈ l, x > day → inB x 0 36524 = true → fstD day l ≤ x)
  | [], _ => .inl ⟨rfl, fun x hx => by cases hx⟩
  | d :: l, h => by
    have p := List.pairwise_cons.1 h
    by_cases hc : d > day ∧ inB d 0 36524 = true
    · have he : fstD day (d :: l) = d := by rw [fstD, if_pos hc]
      rw [he]
      refine .inr ⟨List.mem_cons_self .., hc.1, hc.2, fun x hx _ _ => ?_⟩
      rcases List.mem_cons.1 hx with e | e
      · rw [e]; exact Int.le_refl _
      · have := p.1 x e; omega
    · have he : fstD day (d :: l) = fstD day l := by rw [fstD, if_neg hc]
      rw [he]
      rcases fst_spec day l p.2 with ⟨h1, h2⟩ | ⟨h1, h2, h3, h4⟩
      · refine .inl ⟨h1, fun x hx p1 p2 => ?_⟩
        rcases List.mem_cons.1 hx with e | e
        · rw [e] at p1 p2; exact hc ⟨p1, p2⟩
        · exact h2 x e p1 p2
      · refine .inr ⟨List.mem_cons_of_mem _ h1, h2, h3, fun x hx p1 p2 => ?_⟩
        rcases List.mem_cons.1 hx with e | e
        · rw [e] at p1 p2; exact absurd ⟨p1, p2⟩ hc
        · exact h4 x e p1 p2
theorem nx_fst (day : Int) (l m : List Int) (hm : StrI m) (h : ∀ x, x ∈ m ↔ x ∈ l) : l.foldl (nxS day) (-1) = fstD day m := by
  obtain ⟨r, h1, h2, -, h4⟩ := nx_spec day l (-1) (.inl rfl)
  rw [h1]
  rcases fst_spec day m hm with ⟨k1, k2⟩ | ⟨k1, k2, k3, k4⟩
  · rw [k1]
    rcases h2 with e | ⟨e1, e2, e3⟩
    · exact e
    · exact absurd e3 (k2 r ((h r).2 e1) e2)
  · have h5 := h4 _ ((h _).1 k1) k2 k3
    rcases h2 with e | ⟨e1, e2, e3⟩
    · omega
    · have := k4 r ((h r).2 e1) e2 e3
      omega
theorem nextM_fst (c : Ct) (s : Sa) (h : ∀ x ∈ c.cs, forms x.w = true) : nextM c s = if s.ov = true then -1 else fstD s.day (mDays c s) := by
  unfold nextM
  split
  · rfl
  · exact nx_fst _ _ _ (mDays_str c s) (mDays_mem c s h)
end Go.Bee.Cn
namespace Go.Bee.C24u
open Go Go.Bee Go.Proofs Go.Bee.Ty Go.Bee.C23 Go.Bee.C23s Go.Bee.Da Go.Bee.C24 Go.Bee.C24c Go.Bee.C24d Go.Bee.C24n Go.Bee.C24x Go.Bee.C24w Go.Bee.C24v Go.Bee.Cn
set_option linter.unusedVariables false
set_option maxRecDepth 20000
attribute [local irreducible] Go.Bee.bwp
theorem l12Moment_b (c : Ct) (s : Sa) (hcl : c.cs.length ≤ 12) (hw : ∀ x ∈ c.cs, x.w.size ≤ 15) (hf : ∀ x ∈ c.cs, forms x.w = true) (hdl : s.ds.length ≤ 24) (hdd : ∀ d ∈ s.ds, 0 ≤ d.d ∧ d.d ≤ 36524) : BRet Tryz.prog 79 [] [.agg [.d (.sl 1 (c.ps.map .str)), .d (.sl 12 (c.cs.map Cl.e))], .agg [.int s.day, .d (.sl 1 (s.fs.map .str)), .d (.sl 4 (s.ds.map Du.e)), .d (.sl 1 (s.bs.map (.int .i64))), .bool s.ov]] (.int (nextM c s)) [] := by
  rw [nextM_fst c s hf]
  obtain ⟨r, hr⟩ : ∃ r, Go.RowKit.Hid ((if s.ov = true then -1 else fstD s.day (mDays c s)) = r) := ⟨_, rfl⟩
  rw [hr.out]
  clear hf
  refine bof Tryz.func79 ?_
  cases hov : s.ov
  rotate_left
  · obtain rfl : r = -1 := by rw [← hr.out, hov]; rfl
    refine bgo ?_
    trivial
  replace hr : Go.RowKit.Hid (fstD s.day (c.cs.foldl (fun o x => spD x.w o) ((opD s.ds).foldl putI [])) = r) := by show _ = r; rw [← hr.out, hov]; rfl
  obtain ⟨u0, hu0⟩ : ∃ u0, Go.RowKit.Hid ((opD s.ds).foldl putI [] = u0) := ⟨_, rfl⟩
  rw [hu0.out] at hr
  refine bgo ?_
  refine b_lp (ι := Nat × List Int) (fun i => [(2, .ptr (.t 2) 0), (3, .ptr (.t 3) 0), (5, .d (.sl 1 (i.2.map (.int .i64)))), (6, .int i.1)]) (fun _ => [(.t 2, [.d (.sl 1 (c.ps.map .str)), .d (.sl 12 (c.cs.map Cl.e))]), (.t 3, [.int s.day, .d (.sl 1 (s.fs.map .str)), .d (.sl 4 (s.ds.map Du.e)), .d (.sl 1 (s.bs.map (.int .i64))), .bool false])]) (fun i => i.1 ≤ s.ds.length ∧ (opD (s.ds.drop i.1)).foldl putI i.2 = u0 ∧ i.2.length ≤ i.1) (fun i => s.ds.length - i.1) (0, []) hs ⟨Nat.zero_le _, hu0.out, Nat.le_refl _⟩ ?_
  clear hu0
  rintro ⟨k, u⟩ ⟨hk, hj, hul⟩ I nx
  dsimp only at hk hj hul ⊢
  by_cases hlt : k < s.ds.length
  · have hx : s.ds[k]? = some s.ds[k] := List.getElem?_eq_getElem hlt
    have hb : (k : Int) + 1 ≤ 1099511627776000 := by omega
    have hd1 := hdd s.ds[k] (List.getElem_mem hlt)
    have hpu := l1Put_b u (s.ds[k].d + 1) (by omega)
    have hpl := putI_len u (s.ds[k].d + 1)
    have hst : opD (s.ds.drop k) = (if s.ds[k].t = 1 then [s.ds[k].d + 1] else []) ++ opD (s.ds.drop (k + 1)) := by
      rw [List.drop_eq_getElem_cons hlt]
      unfold opD
      rw [List.filter_cons]
      by_cases h : s.ds[k].t = 1 <;> simp [h]
    rw [hst, List.foldl_append] at hj
    clear hst
    generalize s.ds[k] = x at *
    by_cases ht : x.t = 1
    · rw [if_pos ht] at hj
      have k1 : (x.t == 1) = true := by rw [beq_iff_eq]; exact ht
      have hju : Go.RowKit.Hid ((opD (s.ds.drop (k + 1))).foldl putI (putI u (x.d + 1)) = u0) := hj
      clear hj ht hdd hw hr
      generalize putI u (x.d + 1) = v at *
      refine bgo ?_
      refine b_call hpu rfl rfl rfl rfl ?_
      refine bgo ?_
      exact nx.go (k + 1, v) ⟨hlt, hju.out, by dsimp only; omega⟩ (by dsimp only; omega) hs
    · rw [if_neg ht] at hj
      have k1 : (x.t == 1) = false := by rw [beq_eq_false_iff_ne]; exact ht
      have hju : Go.RowKit.Hid ((opD (s.ds.drop (k + 1))).foldl putI u = u0) := hj
      clear hj ht hdd hw hr hpu
      refine bgo ?_
      exact nx.go (k + 1, u) ⟨hlt, hju.out, by dsimp only; omega⟩ (by dsimp only; omega) hs
  · have hk' : k = s.ds.length := by omega
    subst hk'
    rw [List.drop_length] at hj
    have hj : u = u0 := by rw [← hj]; rfl
    subst hj
    have hu24 : u.length ≤ 24 := by omega
    clear nx hdd
    refine bgo ?_
    refine wk_rfl ?_
    refine bgo ?_
    refine b_lp (ι := Nat × List Int) (fun i => [(2, .ptr (.t 2) 0), (3, .ptr (.t 3) 0), (5, .d (.sl 1 (i.2.map (.int .i64)))), (7, .int i.1)]) (fun _ => [(.t 2, [.d (.sl 1 (c.ps.map .str)), .d (.sl 12 (c.cs.map Cl.e))]), (.t 3, [.int s.day, .d (.sl 1 (s.fs.map .str)), .d (.sl 4 (s.ds.map Du.e)), .d (.sl 1 (s.bs.map (.int .i64))), .bool false])]) (fun i => i.1 ≤ c.cs.length ∧ fstD s.day ((c.cs.drop i.1).foldl (fun o x => spD x.w o) i.2) = r ∧ i.2.length ≤ 24 + 15 * i.1) (fun i => c.cs.length - i.1) (0, u) hs ⟨Nat.zero_le _, hr.out, by dsimp only; omega⟩ ?_
    clear hlt hk hul hr hu24
    rintro ⟨k, v⟩ ⟨hk, hj, hul⟩ I nx
    dsimp only at hk hj hul ⊢
    by_cases hlt : k < c.cs.length
    · have hx : c.cs[k]? = some c.cs[k] := List.getElem?_eq_getElem hlt
      have hb : (k : Int) + 1 ≤ 1099511627776000 := by omega
      have hwx := hw c.cs[k] (List.getElem_mem hlt)
      have hc := l5Days_b c.cs[k].w v (by omega)
      have hnl := spD_len c.cs[k].w v
      rw [List.drop_eq_getElem_cons hlt, List.foldl_cons] at hj
      generalize c.cs[k] = x at *
      generalize spD x.w v = v2 at *
      have hju : Go.RowKit.Hid (fstD s.day ((c.cs.drop (k + 1)).foldl (fun o x => spD x.w o) v2) = r) := hj
      clear hj hw
      refine bgo ?_
      refine b_call hc rfl rfl rfl rfl ?_
      refine bgo ?_
      exact nx.go (k + 1, v2) ⟨hlt, hju.out, by dsimp only; omega⟩ (by dsimp only; omega) hs
    · have hk' : k = c.cs.length := by omega
      subst hk'
      rw [List.drop_length, List.foldl_nil] at hj
      have hr3 : Go.RowKit.Hid (fstD s.day v = r) := hj
      have hvl : v.length ≤ 1000000 := by omega
      clear hj nx hw
      refine bgo ?_
      refine wk_rfl ?_
      refine bgo ?_
      refine b_lp (ι := Nat × Unit) (fun i => [(3, .ptr (.t 3) 0), (5, .d (.sl 1 (v.map (.int .i64)))), (8, .int i.1)]) (fun _ => [(.t 3, [.int s.day, .d (.sl 1 (s.fs.map .str)), .d (.sl 4 (s.ds.map Du.e)), .d (.sl 1 (s.bs.map (.int .i64))), .bool false])]) (fun i => i.1 ≤ v.length ∧ fstD s.day (v.drop i.1) = r) (fun i => v.length - i.1) (0, ()) hs ⟨Nat.zero_le _, hr3.out⟩ ?_
      clear hlt hk hul hr3
      rintro ⟨k, a⟩ ⟨hk, hj⟩ I nx
      dsimp only at hk hj ⊢
      by_cases hlt : k < v.length
      · have hx : v[k]? = some v[k] := List.getElem?_eq_getElem hlt
        have hb : (k : Int) + 1 ≤ 1099511627776000 := by omega
        rw [List.drop_eq_getElem_cons hlt, fstD] at hj
        generalize v[k] = x at *
        have hid := l3Good_b x
        by_cases h1 : x > s.day
        · cases h2 : inB x 0 36524
          · rw [if_neg (by rw [h2]; rintro ⟨-, h⟩; cases h)] at hj
            rw [h2] at hid
            have hju : Go.RowKit.Hid (fstD s.day (v.drop (k + 1)) = r) := hj
            clear hj h2
            refine bgo ?_
            refine b_call hid rfl rfl rfl rfl ?_
            refine bgo ?_
            exact nx.go (k + 1, ()) ⟨hlt, hju.out⟩ (by dsimp only; omega) hs
          · rw [if_pos ⟨h1, h2⟩] at hj
            rw [h2] at hid
            subst hj
            clear h2
            refine bgo ?_
            refine b_call hid rfl rfl rfl rfl ?_
            refine bgo ?_
            trivial
        · rw [if_neg (fun h => h1 h.1)] at hj
          have hju : Go.RowKit.Hid (fstD s.day (v.drop (k + 1)) = r) := hj
          clear hj hid
          refine bgo ?_
          exact nx.go (k + 1, ()) ⟨hlt, hju.out⟩ (by dsimp only; omega) hs
      · have hk' : k = v.length := by omega
        subst hk'
        rw [List.drop_length, fstD] at hj
        subst hj
        refine bgo ?_
        refine wk_rfl ?_
        refine bgo ?_
        trivial
end Go.Bee.C24u


namespace Go.Bee.Cn
open Go Go.Bee Go.Bee.Ty Go.Bee.C23s Go.Bee.Da
def jmV (x y : Int) : Int := if x < 0 ∨ (0 ≤ y ∧ y < x) then y else x
def okJ (a : Ct) (s : Sa) (b : Ct) (t : Sa) : Bool := ctOk a && ctOk b && decide (a.ps = b.ps) && saOk a s && saOk b t && decide (s.day = t.day)
def jmR (a : Ct) (s : Sa) (b : Ct) (t : Sa) : Int := if okJ a s b t = true then jmV (nextM a s) (nextM b t) else 0
end Go.Bee.Cn
namespace Go.Bee.C24u
open Go Go.Bee Go.Proofs Go.Bee.Ty Go.Bee.C23 Go.Bee.C23s Go.Bee.Da Go.Bee.C24 Go.Bee.C24c Go.Bee.C24d Go.Bee.C24n Go.Bee.C24x Go.Bee.C24w Go.Bee.C24v Go.Bee.Cn
set_option linter.unusedVariables false
set_option maxRecDepth 20000
attribute [local irreducible] Go.Bee.bwp
theorem sa_parts {c : Ct} {s : Sa} (h : saOk c s = true) : s.ds.length ≤ 24 ∧ s.bs.length = c.ps.length ∧ (∀ d ∈ s.ds, 0 ≤ d.d ∧ d.d ≤ 36524) ∧ (∀ d ∈ s.ds, 0 ≤ d.c ∧ d.c < c.cs.length) := by
  unfold saOk at h
  simp only [Bool.and_eq_true, decide_eq_true_eq] at h
  obtain ⟨⟨⟨⟨⟨⟨⟨h1, h2⟩, h3⟩, h4⟩, h5⟩, h6⟩, h7⟩, h8⟩ := h
  have hd : ∀ d ∈ s.ds, inB d.d 0 36524 = true ∧ inB d.c 0 (c.cs.length - 1) = true := fun d hd => by
    obtain ⟨i, hi, rfl⟩ := List.mem_iff_getElem.1 hd
    have h9 := range_all.1 h7 i hi
    unfold duSA at h9
    rw [List.getElem?_eq_getElem hi] at h9
    have h9 : duS c s i s.ds[i] = true := h9
    unfold duS duB at h9
    simp only [Bool.and_eq_true] at h9
    exact ⟨h9.1.1.1.2, h9.1.1.1.1.1⟩
  refine ⟨h4, h5, fun d h => ?_, fun d h => ?_⟩
  · have := (hd d h).1
    unfold inB at this
    simp only [Bool.and_eq_true, decide_eq_true_eq] at this
    omega
  · have := (hd d h).2
    unfold inB at this
    simp only [Bool.and_eq_true, decide_eq_true_eq] at this
    omega
theorem next_b {c : Ct} {s : Sa} (hc : ctOk c = true) (h : saOk c s = true) : BRet Tryz.prog 91 [] [.agg [.d (.sl 1 (c.ps.map .str)), .d (.sl 12 (c.cs.map Cl.e))], .agg [.int s.day, .d (.sl 1 (s.fs.map .str)), .d (.sl 4 (s.ds.map Du.e)), .d (.sl 1 (s.bs.map (.int .i64))), .bool s.ov]] (.int (nextM c s)) [] := by
  obtain ⟨-, h2, -, -, h5⟩ := ct_parts hc
  obtain ⟨k1, -, k3, -⟩ := sa_parts h
  exact nextMoment_b c s h2 (fun x hx => (okCd_in (h5 x hx)).2) k1 k3
theorem lnext_b {c : Ct} {s : Sa} (hc : ctOk c = true) (h : saOk c s = true) : BRet Tryz.prog 79 [] [.agg [.d (.sl 1 (c.ps.map .str)), .d (.sl 12 (c.cs.map Cl.e))], .agg [.int s.day, .d (.sl 1 (s.fs.map .str)), .d (.sl 4 (s.ds.map Du.e)), .d (.sl 1 (s.bs.map (.int .i64))), .bool s.ov]] (.int (nextM c s)) [] := by
  obtain ⟨-, h2, -, -, h5⟩ := ct_parts hc
  obtain ⟨k1, -, k3, -⟩ := sa_parts h
  exact l12Moment_b c s h2 (fun x hx => (okCd_in (h5 x hx)).2) (fun x hx => (okCd_in (h5 x hx)).1) k1 k3
theorem slEqStr_b (a b : List Tx) : BRet Tryz.prog 81 [] [.d (.sl 1 (a.map .str)), .d (.sl 1 (b.map .str))] (.bool (decide (a = b))) [] := by
  refine BRet.len 0 (by kernel_rfl) rfl fun hl => ?_
  refine BRet.len 1 (by kernel_rfl) rfl fun hl2 => ?_
  simp only [List.length_map] at hl hl2
  obtain ⟨r, hr⟩ : ∃ r, Go.RowKit.Hid (decide (a = b) = r) := ⟨_, rfl⟩
  rw [hr.out]
  refine bof Tryz.func81 ?_
  by_cases he : a.length = b.length
  rotate_left
  · obtain rfl : r = false := by rw [← hr.out]; exact decide_eq_false fun h => he (by rw [h])
    have g5 : ((a.length : Int) != b.length) = true := by rw [bne_iff_ne]; omega
    clear hr he
    refine bgo ?_
    trivial
  have g5 : ((a.length : Int) != b.length) = false := by rw [he]; exact bne_self_eq_false _
  replace he : Go.RowKit.Hid (a.length = b.length) := he
  refine bgo ?_
  refine b_lp (ι := Nat × Unit) (fun i => [(0, .d (.sl 1 (a.map .str))), (1, .d (.sl 1 (b.map .str))), (12, .int a.length), (13, .int i.1)]) (fun _ => []) (fun i => i.1 ≤ a.length ∧ decide (a.drop i.1 = b.drop i.1) = r) (fun i => a.length - i.1) (0, ()) hs ⟨Nat.zero_le _, hr.out⟩ ?_
  clear hr g5
  rintro ⟨k, u⟩ ⟨hk, hj⟩ I nx
  dsimp only at hk hj ⊢
  by_cases hlt : k < a.length
  · have hlt2 : k < b.length := by have := he.out; omega
    have hx : a[k]? = some a[k] := List.getElem?_eq_getElem hlt
    have hy : b[k]? = some b[k] := List.getElem?_eq_getElem hlt2
    have hb : (k : Int) + 1 ≤ 1099511627776000 := by omega
    rw [List.drop_eq_getElem_cons hlt, List.drop_eq_getElem_cons hlt2] at hj
    generalize a[k] = x at *
    generalize b[k] = y at *
    by_cases hxy : x = y
    · have hju : Go.RowKit.Hid (decide (a.drop (k + 1) = b.drop (k + 1)) = r) := by show _ = r; rw [← hj, hxy]; simp
      subst hxy
      clear hj
      refine bgo ?_
      exact nx.go (k + 1, ()) ⟨hlt, hju.out⟩ (by dsimp only; omega) hs
    · obtain rfl : r = false := by rw [← hj]; exact decide_eq_false fun h => hxy (List.cons.inj h).1
      clear hj
      refine bgo ?_
      trivial
  · have hk' : k = a.length := by omega
    subst hk'
    rw [List.drop_length, he.out, List.drop_length] at hj
    obtain rfl : r = true := by rw [← hj]; rfl
    clear hj he
    refine bgo ?_
    refine wk_rfl ?_
    refine bgo ?_
    trivial
theorem l20Parties_b (c d : Ct) : BRet Tryz.prog 42 [] [.agg [.d (.sl 1 (c.ps.map .str)), .d (.sl 12 (c.cs.map Cl.e))], .agg [.d (.sl 1 (d.ps.map .str)), .d (.sl 12 (d.cs.map Cl.e))]] (.bool (decide (c.ps = d.ps))) [] := by
  refine BRet.alen 0 0 (by kernel_rfl) rfl rfl fun hl => ?_
  refine BRet.alen 1 0 (by kernel_rfl) rfl rfl fun hl2 => ?_
  simp only [List.length_map] at hl hl2
  obtain ⟨r, hr⟩ : ∃ r, Go.RowKit.Hid (decide (c.ps = d.ps) = r) := ⟨_, rfl⟩
  rw [hr.out]
  refine bof Tryz.func42 ?_
  generalize c.ps = a at *
  generalize c.cs = cc at *
  generalize d.ps = b at *
  generalize d.cs = dd at *
  by_cases he : a.length = b.length
  rotate_left
  · obtain rfl : r = false := by rw [← hr.out]; exact decide_eq_false fun h => he (by rw [h])
    have g5 : ((a.length : Int) != b.length) = true := by rw [bne_iff_ne]; omega
    clear hr he
    refine bgo ?_
    trivial
  have g5 : ((a.length : Int) != b.length) = false := by rw [he]; exact bne_self_eq_false _
  replace he : Go.RowKit.Hid (a.length = b.length) := he
  refine bgo ?_
  refine b_lp (ι := Nat × Unit) (fun i => [(2, .ptr (.t 2) 0), (3, .ptr (.t 3) 0), (5, .int i.1)]) (fun _ => [(.t 2, [.d (.sl 1 (a.map .str)), .d (.sl 12 (cc.map Cl.e))]), (.t 3, [.d (.sl 1 (b.map .str)), .d (.sl 12 (dd.map Cl.e))])]) (fun i => i.1 ≤ a.length ∧ decide (a.drop i.1 = b.drop i.1) = r) (fun i => a.length - i.1) (0, ()) hs ⟨Nat.zero_le _, hr.out⟩ ?_
  clear hr g5
  rintro ⟨k, u⟩ ⟨hk, hj⟩ I nx
  dsimp only at hk hj ⊢
  by_cases hlt : k < a.length
  · have hlt2 : k < b.length := by have := he.out; omega
    have hx : a[k]? = some a[k] := List.getElem?_eq_getElem hlt
    have hy : b[k]? = some b[k] := List.getElem?_eq_getElem hlt2
    have hb : (k : Int) + 1 ≤ 1099511627776000 := by omega
    rw [List.drop_eq_getElem_cons hlt, List.drop_eq_getElem_cons hlt2] at hj
    generalize a[k] = x at *
    generalize b[k] = y at *
    by_cases hxy : x = y
    · have hju : Go.RowKit.Hid (decide (a.drop (k + 1) = b.drop (k + 1)) = r) := by show _ = r; rw [← hj, hxy]; simp
      subst hxy
      clear hj
      refine bgo ?_
      exact nx.go (k + 1, ()) ⟨hlt, hju.out⟩ (by dsimp only; omega) hs
    · obtain rfl : r = false := by rw [← hj]; exact decide_eq_false fun h => hxy (List.cons.inj h).1
      clear hj
      refine bgo ?_
      trivial
  · have hk' : k = a.length := by omega
    subst hk'
    rw [List.drop_length, he.out, List.drop_length] at hj
    obtain rfl : r = true := by rw [← hj]; rfl
    clear hj he
    refine bgo ?_
    refine wk_rfl ?_
    refine bgo ?_
    trivial
theorem areComparable_b (a b : Ct) : BRet Tryz.prog 44 [] [.agg [.d (.sl 1 (a.ps.map .str)), .d (.sl 12 (a.cs.map Cl.e))], .agg [.d (.sl 1 (b.ps.map .str)), .d (.sl 12 (b.cs.map Cl.e))]] (.bool (ctOk a && ctOk b && decide (a.ps = b.ps))) [] := by
  have h1 := IsValidContract_b a
  have h2 := IsValidContract_b b
  have h3 := slEqStr_b a.ps b.ps
  refine bof Tryz.func44 ?_
  generalize decide (a.ps = b.ps) = e at *
  cases hv : ctOk a
  · rw [hv] at h1
    refine bgo ?_
    refine b_call h1 rfl rfl rfl rfl ?_
    refine bgo ?_
    trivial
  · rw [hv] at h1
    cases hw : ctOk b
    · rw [hw] at h2
      refine bgo ?_
      refine b_call h1 rfl rfl rfl rfl ?_
      refine bgo ?_
      refine b_call h2 rfl rfl rfl rfl ?_
      refine bgo ?_
      trivial
    · rw [hw] at h2
      refine bgo ?_
      refine b_call h1 rfl rfl rfl rfl ?_
      refine bgo ?_
      refine b_call h2 rfl rfl rfl rfl ?_
      refine bgo ?_
      refine b_call h3 rfl rfl rfl rfl ?_
      refine bgo ?_
      trivial
theorem jointMoment_b {a : Ct} {s : Sa} {b : Ct} {t : Sa} (ha : ctOk a = true) (hsa : saOk a s = true) (hb : ctOk b = true) (hsb : saOk b t = true) : BRet Tryz.prog 46 [] [.agg [.d (.sl 1 (a.ps.map .str)), .d (.sl 12 (a.cs.map Cl.e))], .agg [.int s.day, .d (.sl 1 (s.fs.map .str)), .d (.sl 4 (s.ds.map Du.e)), .d (.sl 1 (s.bs.map (.int .i64))), .bool s.ov], .agg [.d (.sl 1 (b.ps.map .str)), .d (.sl 12 (b.cs.map Cl.e))], .agg [.int t.day, .d (.sl 1 (t.fs.map .str)), .d (.sl 4 (t.ds.map Du.e)), .d (.sl 1 (t.bs.map (.int .i64))), .bool t.ov]] (.int (jmV (nextM a s) (nextM b t))) [] := by
  have h1 := next_b ha hsa
  have h2 := next_b hb hsb
  clear ha hsa hb hsb
  obtain ⟨r, hr⟩ : ∃ r, Go.RowKit.Hid (jmV (nextM a s) (nextM b t) = r) := ⟨_, rfl⟩
  rw [hr.out]
  refine bof Tryz.func46 ?_
  generalize nextM a s = x at *
  generalize nextM b t = y at *
  by_cases k1 : x < 0
  · obtain rfl : r = y := by rw [← hr.out]; unfold jmV; rw [if_pos (.inl k1)]
    refine bgo ?_
    refine b_call h1 rfl rfl rfl rfl ?_
    refine bgo ?_
    refine b_call h2 rfl rfl rfl rfl ?_
    refine bgo ?_
    trivial
  · by_cases k2 : y ≥ 0
    · by_cases k3 : y < x
      · obtain rfl : r = y := by rw [← hr.out]; unfold jmV; rw [if_pos (.inr ⟨k2, k3⟩)]
        refine bgo ?_
        refine b_call h1 rfl rfl rfl rfl ?_
        refine bgo ?_
        refine b_call h2 rfl rfl rfl rfl ?_
        refine bgo ?_
        trivial
      · obtain rfl : r = x := by rw [← hr.out]; unfold jmV; rw [if_neg (fun h => h.elim k1 fun h => k3 h.2)]
        refine bgo ?_
        refine b_call h1 rfl rfl rfl rfl ?_
        refine bgo ?_
        refine b_call h2 rfl rfl rfl rfl ?_
        refine bgo ?_
        trivial
    · obtain rfl : r = x := by rw [← hr.out]; unfold jmV; rw [if_neg (fun h => h.elim k1 fun h => k2 h.1)]
      refine bgo ?_
      refine b_call h1 rfl rfl rfl rfl ?_
      refine bgo ?_
      refine b_call h2 rfl rfl rfl rfl ?_
      refine bgo ?_
      trivial
theorem l1Least_b (a b : Int) : BRet Tryz.prog 80 [] [.int a, .int b] (.int (if a < b then a else b)) [] := by
  refine bof Tryz.func80 ?_
  by_cases h : a < b
  · rw [if_pos h]
    refine bgo ?_
    trivial
  · rw [if_neg h]
    refine bgo ?_
    trivial
theorem l21Moment_b {a : Ct} {s : Sa} {b : Ct} {t : Sa} (ha : ctOk a = true) (hsa : saOk a s = true) (hb : ctOk b = true) (hsb : saOk b t = true) : BRet Tryz.prog 43 [] [.agg [.d (.sl 1 (a.ps.map .str)), .d (.sl 12 (a.cs.map Cl.e))], .agg [.int s.day, .d (.sl 1 (s.fs.map .str)), .d (.sl 4 (s.ds.map Du.e)), .d (.sl 1 (s.bs.map (.int .i64))), .bool s.ov], .agg [.d (.sl 1 (b.ps.map .str)), .d (.sl 12 (b.cs.map Cl.e))], .agg [.int t.day, .d (.sl 1 (t.fs.map .str)), .d (.sl 4 (t.ds.map Du.e)), .d (.sl 1 (t.bs.map (.int .i64))), .bool t.ov]] (.int (jmV (nextM a s) (nextM b t))) [] := by
  have h1 := lnext_b ha hsa
  have h2 := lnext_b hb hsb
  clear ha hsa hb hsb
  obtain ⟨r, hr⟩ : ∃ r, Go.RowKit.Hid (jmV (nextM a s) (nextM b t) = r) := ⟨_, rfl⟩
  rw [hr.out]
  refine bof Tryz.func43 ?_
  generalize nextM a s = x at *
  generalize nextM b t = y at *
  have h3 := l1Least_b x y
  by_cases k1 : x < 0
  · obtain rfl : r = y := by rw [← hr.out]; unfold jmV; rw [if_pos (.inl k1)]
    refine bgo ?_
    refine b_call h1 rfl rfl rfl rfl ?_
    refine bgo ?_
    refine b_call h2 rfl rfl rfl rfl ?_
    refine bgo ?_
    trivial
  · by_cases k2 : y < 0
    · obtain rfl : r = x := by rw [← hr.out]; unfold jmV; rw [if_neg (fun h => h.elim k1 fun h => by omega)]
      refine bgo ?_
      refine b_call h1 rfl rfl rfl rfl ?_
      refine bgo ?_
      refine b_call h2 rfl rfl rfl rfl ?_
      refine bgo ?_
      trivial
    · have he : (if x < y then x else y) = r := by rw [← hr.out]; unfold jmV; split <;> split <;> omega
      rw [he] at h3
      refine bgo ?_
      refine b_call h1 rfl rfl rfl rfl ?_
      refine bgo ?_
      refine b_call h2 rfl rfl rfl rfl ?_
      refine bgo ?_
      refine b_call h3 rfl rfl rfl rfl ?_
      refine bgo ?_
      trivial
end Go.Bee.C24u


namespace Go.Bee.C24x
open Go Go.Bee Go.Proofs Go.Bee.Ty Go.Bee.C23 Go.Bee.C23s Go.Bee.Da Go.Bee.C24 Go.Bee.C24c Go.Bee.C24d Go.Bee.C24n Go.Bee.Cn
set_option linter.unusedVariables false
set_option maxRecDepth 20000
attribute [local irreducible] Go.Bee.bwp
structure ClF (ps : List Tx) (x : Cl) : Prop where
  id : x.id.length ≤ 8
  a : x.a.length ≤ 8
  rp : x.rp.length ≤ 8
  k : 1 ≤ x.k ∧ x.k ≤ 4
  k3 : x.k = 3 → x.rp = []
  p : 0 ≤ x.p ∧ x.p < ps.length
  o : 0 ≤ x.o ∧ x.o < ps.length
  nm8 : ∀ q ∈ ps, q.length ≤ 8
  pl : ps.length ≤ 4
  w : forms x.w = true ∧ x.w.size ≤ 15
  am : 0 ≤ x.am ∧ x.am ≤ 1000000
  wi : 0 ≤ x.wi ∧ x.wi ≤ 400
theorem find_eq (l : List Cl) (s : Tx) (m : Nat) (h : find l s = m) : ∃ y, l[m]? = some y ∧ y.id = s := by
  unfold find at h
  rcases idx_find (fun x : Cl => x.id == s) l 0 with ⟨h1, -⟩ | ⟨i, h1, h2, h3⟩
  · rw [h1] at h; omega
  · rw [h1] at h
    obtain rfl : i = m := by omega
    rw [List.getElem?_eq_getElem h2] at h3
    have := List.find?_some h3.symm
    exact ⟨_, List.getElem?_eq_getElem h2, by simpa using this⟩
theorem ClF.of {c : Ct} (h : ctOk c = true) {i : Nat} {x : Cl} (hx : c.cs[i]? = some x) : ClF c.ps x := by
  unfold ctOk at h
  simp only [Bool.and_eq_true] at h
  obtain ⟨⟨⟨h1, h2⟩, h3⟩, h4⟩ := h
  have hc := cls_at h3 hx
  have hc0 := hc
  unfold clOk at hc
  simp only [Bool.and_eq_true, decide_eq_true_eq] at hc
  obtain ⟨⟨⟨⟨⟨⟨q1, q2⟩, q3⟩, q4⟩, ⟨⟨⟨q5, q6⟩, q7⟩, q8⟩⟩, ⟨⟨q9, q10⟩, q11⟩⟩, q12⟩ := hc
  unfold inB at q4 q5 q6 q9 q10
  simp only [Bool.and_eq_true, decide_eq_true_eq] at q4 q5 q6 q9 q10
  have hpl : c.ps.length ≤ 4 := by
    have h5 := h1
    unfold parOk inB at h5
    simp only [Bool.and_eq_true, decide_eq_true_eq] at h5
    omega
  have hrp : x.rp.length ≤ 8 ∧ (x.k = 3 → x.rp = []) := by
    unfold repOk at q12
    by_cases hr : x.rp = []
    · rw [hr]; exact ⟨by simp, fun _ => rfl⟩
    · have he : x.rp.isEmpty = false := by cases hh : x.rp <;> simp_all
      rw [he, Bool.false_or] at q12
      simp only [Bool.and_eq_true, decide_eq_true_eq] at q12
      obtain ⟨⟨⟨r1, r2⟩, r3⟩, r4⟩ := q12
      refine ⟨?_, fun hk => absurd hk r1⟩
      rcases find_in c.cs x.rp with hm | ⟨m, hm, -⟩
      · omega
      · obtain ⟨y, hy, hye⟩ := find_eq c.cs x.rp m hm
        have hyc := cls_at h3 hy
        unfold clOk at hyc
        simp only [Bool.and_eq_true] at hyc
        rw [← hye]
        exact (vName_len hyc.1.1.1.1.1.1).2
  refine ⟨(vName_len q1).2, (vName_len q3).2, hrp.1, by omega, hrp.2, by omega, by omega, fun q hq => ?_, hpl, okCd_in q8, by omega, by omega⟩
  obtain ⟨j, hj, rfl⟩ := List.mem_iff_getElem.1 hq
  have := parOk_name h1 hj
  rw [List.getD_eq_getElem?_getD, List.getElem?_eq_getElem hj] at this
  exact (vName_len this).2
def clR (c : Ct) (i : Int) : Tx := if (ctOk c && inB i 0 (c.cs.length - 1)) = true then (match c.cs[i.toNat]? with | some x => clE (c.ps.getD x.p.toNat []) (c.ps.getD x.o.toNat []) x | none => []) else []
theorem opnCl (n : Nat) : OpnN Tryz.prog 85 Cl.e (fun _ => True) n := by
  refine (opn_struct (n := n) (len := 12) (fun y : List UInt8 × Int × Int × List UInt8 × Int × Int × Cd × Int × List UInt8 => (⟨y.1, y.2.1, y.2.2.1, y.2.2.2.1, y.2.2.2.2.1, y.2.2.2.2.2.1, y.2.2.2.2.2.2.1, y.2.2.2.2.2.2.2.1, y.2.2.2.2.2.2.2.2⟩ : Cl)) Tryz.underlying85 (by kernel_rfl) ?_
    (fun m hm => opnS_cons (off2 := 1) rfl ?_ (opn_str Tryz.underlying9 m) (opnS_cons (off2 := 2) rfl ?_ (opn_int Tryz.underlying3 m) (opnS_cons (off2 := 3) rfl ?_ (opn_int Tryz.underlying3 m) (opnS_cons (off2 := 4) rfl ?_ (opn_str Tryz.underlying9 m)
      (opnS_cons (off2 := 5) rfl ?_ (opn_int Tryz.underlying3 m) (opnS_cons (off2 := 6) rfl ?_ (opn_int Tryz.underlying3 m) (opnS_cons (off2 := 10) rfl ?_ (opnCdN m) (opnS_cons (off2 := 11) rfl ?_ (opn_int Tryz.underlying3 m) (opnS_one rfl ?_ (opn_str Tryz.underlying9 m))))))))))).imp fun _ _ => trivial
  · intro y
    show [PD.str y.1, .int .i64 y.2.1, .int .i64 y.2.2.1, .str y.2.2.2.1, .int .i64 y.2.2.2.2.1, .int .i64 y.2.2.2.2.2.1, .int .i64 y.2.2.2.2.2.2.1.op, .str y.2.2.2.2.2.2.1.nm, .int .i64 y.2.2.2.2.2.2.1.dy, .sl 4 (y.2.2.2.2.2.2.1.ps.map Cd.e), .int .i64 y.2.2.2.2.2.2.2.1, .str y.2.2.2.2.2.2.2.2] = _
    rw [Cd.e_eq]; rfl
  all_goals kernel_rfl
theorem opnCt : Opn Tryz.prog 25 (fun c : Ct => .agg [.sl 1 (c.ps.map .str), .sl 12 (c.cs.map Cl.e)]) (fun _ => True) := fun n => by
  refine (opn_struct (n := n) (len := 2) (fun y : List Tx × List Cl => (⟨y.1, y.2⟩ : Ct)) Tryz.underlying25 (by kernel_rfl) ?_
    (fun m hm => opnS_cons (off2 := 1) rfl ?_ (opnTxs m) (opnS_one rfl ?_ (opn_slice (sz := 12) Tryz.underlying23 (by kernel_rfl) (by decide) (of_decide_eq_true (by kernel_rfl)) (fun k _ => opnCl k))))).imp fun _ _ => trivial
  · intro _; rfl
  · kernel_rfl
  · kernel_rfl
end Go.Bee.C24x


namespace Go.Bee.C24u
open Go Go.Bee Go.Proofs Go.Bee.Ty Go.Bee.C23 Go.Bee.C23s Go.Bee.Da Go.Bee.C24 Go.Bee.C24c Go.Bee.C24d Go.Bee.C24n Go.Bee.C24x Go.Bee.C24w Go.Bee.C24v Go.Bee.Cn
set_option linter.unusedVariables false
set_option maxRecDepth 20000
attribute [local irreducible] Go.Bee.bwp
theorem jm_no {a : Ct} {s : Sa} {b : Ct} {t : Sa} (h : okJ a s b t = false) : jmR a s b t = 0 := by unfold jmR; rw [h]; rfl
theorem JointMoment_b (a : Ct) (s : Sa) (b : Ct) (t : Sa) : BRet Tryz.prog 18 [] [.agg [.d (.sl 1 (a.ps.map .str)), .d (.sl 12 (a.cs.map Cl.e))], .agg [.int s.day, .d (.sl 1 (s.fs.map .str)), .d (.sl 4 (s.ds.map Du.e)), .d (.sl 1 (s.bs.map (.int .i64))), .bool s.ov], .agg [.d (.sl 1 (b.ps.map .str)), .d (.sl 12 (b.cs.map Cl.e))], .agg [.int t.day, .d (.sl 1 (t.fs.map .str)), .d (.sl 4 (t.ds.map Du.e)), .d (.sl 1 (t.bs.map (.int .i64))), .bool t.ov]] (.tup [.int (jmR a s b t), .bool (okJ a s b t)]) [] := by
  have h1 := areComparable_b a b
  have h2 := fun h => isState_b a s h
  have h3 := fun h => isState_b b t h
  have h4 := fun ha hs hb ht => jointMoment_b (a := a) (s := s) (b := b) (t := t) ha hs hb ht
  obtain ⟨o, ho⟩ : ∃ o, Go.RowKit.Hid (okJ a s b t = o) := ⟨_, rfl⟩
  obtain ⟨r, hr⟩ : ∃ r, Go.RowKit.Hid (jmR a s b t = r) := ⟨_, rfl⟩
  rw [hr.out, ho.out]
  have hno : Go.RowKit.Hid (o = false → r = 0) := fun h => by rw [← hr.out]; exact jm_no (by rw [ho.out, h])
  refine bof Tryz.func18 ?_
  cases e1 : (ctOk a && ctOk b && decide (a.ps = b.ps))
  · rw [e1] at h1
    obtain rfl : o = false := by rw [← ho.out]; unfold okJ; rw [e1]; rfl
    obtain rfl : r = 0 := hno.out rfl
    clear h2 h3 h4
    refine bgo ?_
    refine b_call h1 rfl rfl rfl rfl ?_
    refine bgo ?_
    trivial
  have hc := e1
  simp only [Bool.and_eq_true] at hc
  have h2 := h2 hc.1.1
  have h3 := h3 hc.1.2
  have h4 := fun x y => h4 hc.1.1 x hc.1.2 y
  rw [e1] at h1
  cases e2 : saOk a s
  · rw [e2] at h2
    obtain rfl : o = false := by rw [← ho.out]; unfold okJ; rw [e1, e2]; rfl
    obtain rfl : r = 0 := hno.out rfl
    clear h3 h4 hc
    refine bgo ?_
    refine b_call h1 rfl rfl rfl rfl ?_
    refine bgo ?_
    refine b_call h2 rfl rfl rfl rfl ?_
    refine bgo ?_
    trivial
  rw [e2] at h2
  cases e3 : saOk b t
  · rw [e3] at h3
    obtain rfl : o = false := by rw [← ho.out]; unfold okJ; rw [e1, e2, e3]; rfl
    obtain rfl : r = 0 := hno.out rfl
    clear h4 hc
    refine bgo ?_
    refine b_call h1 rfl rfl rfl rfl ?_
    refine bgo ?_
    refine b_call h2 rfl rfl rfl rfl ?_
    refine bgo ?_
    refine b_call h3 rfl rfl rfl rfl ?_
    refine bgo ?_
    trivial
  have h4 := h4 e2 e3
  rw [e3] at h3
  by_cases e4 : s.day = t.day
  rotate_left
  · obtain rfl : o = false := by rw [← ho.out]; unfold okJ; rw [decide_eq_false e4, Bool.and_false]
    obtain rfl : r = 0 := hno.out rfl
    have q1 : (s.day != t.day) = true := by rw [bne_iff_ne]; exact e4
    clear h4 hc e4
    refine bgo ?_
    refine b_call h1 rfl rfl rfl rfl ?_
    refine bgo ?_
    refine b_call h2 rfl rfl rfl rfl ?_
    refine bgo ?_
    refine b_call h3 rfl rfl rfl rfl ?_
    refine bgo ?_
    trivial
  have q1 : (s.day != t.day) = false := by rw [e4]; exact bne_self_eq_false _
  have ht : okJ a s b t = true := by unfold okJ; rw [e1, e2, e3, decide_eq_true e4]; rfl
  obtain rfl : o = true := by rw [← ho.out]; exact ht
  have he : jmV (nextM a s) (nextM b t) = r := by rw [← hr.out]; unfold jmR; rw [if_pos ht]
  rw [he] at h4
  clear hc e4 he ht
  refine bgo ?_
  refine b_call h1 rfl rfl rfl rfl ?_
  refine bgo ?_
  refine b_call h2 rfl rfl rfl rfl ?_
  refine bgo ?_
  refine b_call h3 rfl rfl rfl rfl ?_
  refine bgo ?_
  refine b_call h4 rfl rfl rfl rfl ?_
  refine bgo ?_
  trivial
theorem specJointMoment_b (a : Ct) (s : Sa) (b : Ct) (t : Sa) (hsa : ∀ x ∈ a.cs, x.w.size ≤ 1048577) (hsb : ∀ x ∈ b.cs, x.w.size ≤ 1048577) : BRet Tryz.prog 17 [] [.agg [.d (.sl 1 (a.ps.map .str)), .d (.sl 12 (a.cs.map Cl.e))], .agg [.int s.day, .d (.sl 1 (s.fs.map .str)), .d (.sl 4 (s.ds.map Du.e)), .d (.sl 1 (s.bs.map (.int .i64))), .bool s.ov], .agg [.d (.sl 1 (b.ps.map .str)), .d (.sl 12 (b.cs.map Cl.e))], .agg [.int t.day, .d (.sl 1 (t.fs.map .str)), .d (.sl 4 (t.ds.map Du.e)), .d (.sl 1 (t.bs.map (.int .i64))), .bool t.ov]] (.tup [.int (jmR a s b t), .bool (okJ a s b t)]) [] := by
  have h1 := l9Good_b a s hsa
  have h2 := l9Good_b b t hsb
  have h3 := l20Parties_b a b
  have h4 := fun ha hs hb ht => l21Moment_b (a := a) (s := s) (b := b) (t := t) ha hs hb ht
  clear hsa hsb
  obtain ⟨o, ho⟩ : ∃ o, Go.RowKit.Hid (okJ a s b t = o) := ⟨_, rfl⟩
  obtain ⟨r, hr⟩ : ∃ r, Go.RowKit.Hid (jmR a s b t = r) := ⟨_, rfl⟩
  rw [hr.out, ho.out]
  have hno : Go.RowKit.Hid (o = false → r = 0) := fun h => by rw [← hr.out]; exact jm_no (by rw [ho.out, h])
  have hok : Go.RowKit.Hid (okJ a s b t = ((ctOk a && saOk a s) && (ctOk b && saOk b t) && decide (a.ps = b.ps) && decide (s.day = t.day))) := by
    show _ = _
    unfold okJ
    cases ctOk a <;> cases saOk a s <;> cases ctOk b <;> cases saOk b t <;> cases decide (a.ps = b.ps) <;> rfl
  refine bof Tryz.func17 ?_
  cases e1 : (ctOk a && saOk a s)
  · rw [e1] at h1
    obtain rfl : o = false := by rw [← ho.out, hok.out, e1]; rfl
    obtain rfl : r = 0 := hno.out rfl
    clear h2 h3 h4
    refine bgo ?_
    refine b_call h1 rfl rfl rfl rfl ?_
    refine bgo ?_
    trivial
  rw [e1] at h1
  cases e2 : (ctOk b && saOk b t)
  · rw [e2] at h2
    obtain rfl : o = false := by rw [← ho.out, hok.out, e1, e2]; rfl
    obtain rfl : r = 0 := hno.out rfl
    clear h3 h4
    refine bgo ?_
    refine b_call h1 rfl rfl rfl rfl ?_
    refine bgo ?_
    refine b_call h2 rfl rfl rfl rfl ?_
    refine bgo ?_
    trivial
  rw [e2] at h2
  have hc1 := e1
  have hc2 := e2
  simp only [Bool.and_eq_true] at hc1 hc2
  have h4 := h4 hc1.1 hc1.2 hc2.1 hc2.2
  clear hc1 hc2
  cases e3 : decide (a.ps = b.ps)
  · rw [e3] at h3
    obtain rfl : o = false := by rw [← ho.out, hok.out, e1, e2, e3]; rfl
    obtain rfl : r = 0 := hno.out rfl
    clear h4
    refine bgo ?_
    refine b_call h1 rfl rfl rfl rfl ?_
    refine bgo ?_
    refine b_call h2 rfl rfl rfl rfl ?_
    refine bgo ?_
    refine b_call h3 rfl rfl rfl rfl ?_
    refine bgo ?_
    trivial
  rw [e3] at h3
  by_cases e4 : s.day = t.day
  rotate_left
  · obtain rfl : o = false := by rw [← ho.out, hok.out, decide_eq_false e4, Bool.and_false]
    obtain rfl : r = 0 := hno.out rfl
    have q1 : (s.day != t.day) = true := by rw [bne_iff_ne]; exact e4
    clear h4 e4 e3
    refine bgo ?_
    refine b_call h1 rfl rfl rfl rfl ?_
    refine bgo ?_
    refine b_call h2 rfl rfl rfl rfl ?_
    refine bgo ?_
    refine b_call h3 rfl rfl rfl rfl ?_
    refine bgo ?_
    trivial
  have q1 : (s.day != t.day) = false := by rw [e4]; exact bne_self_eq_false _
  have ht : okJ a s b t = true := by rw [hok.out, e1, e2, e3, decide_eq_true e4]; rfl
  obtain rfl : o = true := by rw [← ho.out]; exact ht
  have he : jmV (nextM a s) (nextM b t) = r := by rw [← hr.out]; unfold jmR; rw [if_pos ht]
  rw [he] at h4
  clear e4 he ht e3
  refine bgo ?_
  refine b_call h1 rfl rfl rfl rfl ?_
  refine bgo ?_
  refine b_call h2 rfl rfl rfl rfl ?_
  refine bgo ?_
  refine b_call h3 rfl rfl rfl rfl ?_
  refine bgo ?_
  refine b_call h4 rfl rfl rfl rfl ?_
  refine bgo ?_
  trivial
theorem lawJointMoment_b (a : Ct) (s : Sa) (b : Ct) (t : Sa) : BRet Tryz.prog 5 [] [.agg [.d (.sl 1 (a.ps.map .str)), .d (.sl 12 (a.cs.map Cl.e))], .agg [.int s.day, .d (.sl 1 (s.fs.map .str)), .d (.sl 4 (s.ds.map Du.e)), .d (.sl 1 (s.bs.map (.int .i64))), .bool s.ov], .agg [.d (.sl 1 (b.ps.map .str)), .d (.sl 12 (b.cs.map Cl.e))], .agg [.int t.day, .d (.sl 1 (t.fs.map .str)), .d (.sl 4 (t.ds.map Du.e)), .d (.sl 1 (t.bs.map (.int .i64))), .bool t.ov]] (.bool true) [] := by
  have g1 := szContract_b a 1048576 (by decide) (by decide)
  have o1 := szCt_ok a 1048576 (by decide) (by decide)
  have n1 := szCt_nice a 1048576 (by decide)
  have g2 := szState_b s (szCt a 1048576)
  have o2 := szSa_ok s (szCt a 1048576)
  have n2 := szSa_nice s (szCt a 1048576)
  have g3 := szContract_b b (szSa s (szCt a 1048576))
  have o3 := szCt_ok b (szSa s (szCt a 1048576))
  have n3 := szCt_nice b (szSa s (szCt a 1048576))
  have g4 := szState_b t (szCt b (szSa s (szCt a 1048576)))
  have o4 := szSa_ok t (szCt b (szSa s (szCt a 1048576)))
  have h3 := fun h k => specJointMoment_b a s b t h k
  have h4 := JointMoment_b a s b t
  have c1 := fun h => toContract_b a h
  have c2 := fun h => toState_b s h
  have c3 := fun h => toContract_b b h
  have c4 := fun h => toState_b t h
  have q1 := eqContract_s a
  have q2 := eqState_s s
  have q3 := eqContract_s b
  have q4 := eqState_s t
  generalize jmR a s b t = r at *
  generalize okJ a s b t = ok at *
  generalize szSa t (szCt b (szSa s (szCt a 1048576))) = z4 at *
  generalize szCt b (szSa s (szCt a 1048576)) = z3 at *
  generalize szSa s (szCt a 1048576) = z2 at *
  generalize szCt a 1048576 = z1 at *
  have b1 : (r != r) = false := bne_self_eq_false _
  have b2 : (ok != ok) = false := bne_self_eq_false _
  refine bof Tryz.func5 ?_
  by_cases k1 : z1 < 0
  · clear o1 o2 o3 o4 n1 n2 n3 g2 g3 g4 h3 h4 c1 c2 c3 c4
    refine bgo ?_
    refine b_call g1 rfl rfl rfl rfl ?_
    refine bgo ?_
    trivial
  have m1 : z1 ≤ 1048576 := by omega
  have c1 := c1 (o1 (by omega))
  have s1 := (o1 (by omega)).2.2
  have g2 := g2 (by omega) m1
  have o2 := o2 (by omega) m1
  have n2 := n2 (by omega)
  by_cases k2 : z2 < 0
  · clear o1 o2 o3 o4 n1 n2 n3 g3 g4 h3 h4 c1 c2 c3 c4 s1
    refine bgo ?_
    refine b_call g1 rfl rfl rfl rfl ?_
    refine bgo ?_
    refine b_call g2 rfl rfl rfl rfl ?_
    refine bgo ?_
    trivial
  have m2 : z2 ≤ 1048576 := by omega
  have c2 := c2 (o2 (by omega))
  have g3 := g3 (by omega) m2
  have o3 := o3 (by omega) m2
  have n3 := n3 (by omega)
  by_cases k3 : z3 < 0
  · clear o1 o2 o3 o4 n1 n2 n3 g4 h3 h4 c1 c2 c3 c4 s1
    refine bgo ?_
    refine b_call g1 rfl rfl rfl rfl ?_
    refine bgo ?_
    refine b_call g2 rfl rfl rfl rfl ?_
    refine bgo ?_
    refine b_call g3 rfl rfl rfl rfl ?_
    refine bgo ?_
    trivial
  have m3 : z3 ≤ 1048576 := by omega
  have c3 := c3 (o3 (by omega))
  have s3 := (o3 (by omega)).2.2
  have g4 := g4 (by omega) m3
  have o4 := o4 (by omega) m3
  by_cases k4 : z4 < 0
  · clear o1 o2 o3 o4 n1 n2 n3 h3 h4 c1 c2 c3 c4 s1 s3
    refine bgo ?_
    refine b_call g1 rfl rfl rfl rfl ?_
    refine bgo ?_
    refine b_call g2 rfl rfl rfl rfl ?_
    refine bgo ?_
    refine b_call g3 rfl rfl rfl rfl ?_
    refine bgo ?_
    refine b_call g4 rfl rfl rfl rfl ?_
    refine bgo ?_
    trivial
  have c4 := c4 (o4 (by omega))
  have h3 := h3 s1 s3
  clear o1 o2 o3 o4 n1 n2 n3 s1 s3
  refine bgo ?_
  refine b_call g1 rfl rfl rfl rfl ?_
  refine bgo ?_
  refine b_call g2 rfl rfl rfl rfl ?_
  refine bgo ?_
  refine b_call g3 rfl rfl rfl rfl ?_
  refine bgo ?_
  refine b_call g4 rfl rfl rfl rfl ?_
  refine bgo ?_
  refine b_call c1 rfl rfl rfl rfl ?_
  refine bgo ?_
  refine b_call c2 rfl rfl rfl rfl ?_
  refine bgo ?_
  refine b_call c3 rfl rfl rfl rfl ?_
  refine bgo ?_
  refine b_call c4 rfl rfl rfl rfl ?_
  refine bgo ?_
  refine b_call h3 rfl rfl rfl rfl ?_
  refine bgo ?_
  refine b_call c1 rfl rfl rfl rfl ?_
  refine bgo ?_
  refine b_call c2 rfl rfl rfl rfl ?_
  refine bgo ?_
  refine b_call c3 rfl rfl rfl rfl ?_
  refine bgo ?_
  refine b_call c4 rfl rfl rfl rfl ?_
  refine bgo ?_
  refine b_call h4 rfl rfl rfl rfl ?_
  refine bgo ?_
  refine b_call c1 rfl rfl rfl rfl ?_
  refine bgo ?_
  refine b_call q1 rfl rfl rfl rfl ?_
  refine bgo ?_
  refine b_call c2 rfl rfl rfl rfl ?_
  refine bgo ?_
  refine b_call q2 rfl rfl rfl rfl ?_
  refine bgo ?_
  refine b_call c3 rfl rfl rfl rfl ?_
  refine bgo ?_
  refine b_call q3 rfl rfl rfl rfl ?_
  refine bgo ?_
  refine b_call c4 rfl rfl rfl rfl ?_
  refine bgo ?_
  refine b_call q4 rfl rfl rfl rfl ?_
  refine bgo ?_
  trivial
theorem opnDu (n : Nat) : OpnN Tryz.prog 99 Du.e (fun _ => True) n := by
  refine (opn_struct (n := n) (len := 4) (fun y : Int × Int × Int × Int => (⟨y.1, y.2.1, y.2.2.1, y.2.2.2⟩ : Du)) Tryz.underlying99 (by kernel_rfl) ?_
    (fun m hm => opnS_cons (off2 := 1) rfl ?_ (opn_int Tryz.underlying3 m) (opnS_cons (off2 := 2) rfl ?_ (opn_int Tryz.underlying3 m) (opnS_cons (off2 := 3) rfl ?_ (opn_int Tryz.underlying3 m) (opnS_one rfl ?_ (opn_int Tryz.underlying3 m)))))).imp fun _ _ => trivial
  · intro y
    show [PD.int .i64 y.1, .int .i64 y.2.1, .int .i64 y.2.2.1, .int .i64 y.2.2.2] = _
    rfl
  all_goals kernel_rfl
theorem opnSa : Opn Tryz.prog 38 (fun s : Sa => .agg [.int .i64 s.day, .sl 1 (s.fs.map .str), .sl 4 (s.ds.map Du.e), .sl 1 (s.bs.map (.int .i64)), .bool s.ov]) (fun _ => True) := fun n => by
  refine (opn_struct (n := n) (len := 5) (fun y : Int × List Tx × List Du × List Int × Bool => (⟨y.1, y.2.1, y.2.2.1, y.2.2.2.1, y.2.2.2.2⟩ : Sa)) Tryz.underlying38 (by kernel_rfl) ?_
    (fun m hm => opnS_cons (off2 := 1) rfl ?_ (opn_int Tryz.underlying3 m) (opnS_cons (off2 := 2) rfl ?_ (opnTxs m) (opnS_cons (off2 := 3) rfl ?_ (opn_slice (sz := 4) Tryz.underlying35 (by kernel_rfl) (by decide) (of_decide_eq_true (by kernel_rfl)) (fun k _ => opnDu k))
      (opnS_cons (off2 := 4) rfl ?_ (opn_slice (sz := 1) Tryz.underlying36 (by kernel_rfl) (by decide) (of_decide_eq_true (by kernel_rfl)) (fun k _ => opn_int Tryz.underlying3 k)) (opnS_one rfl ?_ (opn_bool Tryz.underlying4 m))))))).imp fun _ _ => trivial
  · intro _; rfl
  all_goals kernel_rfl
end Go.Bee.C24u

