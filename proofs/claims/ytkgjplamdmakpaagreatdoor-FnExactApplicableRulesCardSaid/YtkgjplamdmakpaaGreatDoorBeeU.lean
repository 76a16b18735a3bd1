/- Sums of sizes, as the laws reckon them. -/
import Derived.Test.YtkgjplamdmakpaaGreatDoorBeeTy
import Derived.Test.YtkgjplamdmakpaaGreatDoorBeeMk
namespace Go.Bee.Ty
open Go Go.Bee Go.Proofs
set_option linter.unusedVariables false
theorem mixed : Tryz.prog.follows .mixedOrders = true := by kernel_rfl

/-- What is left after an item; below nought: too large. -/
def szF {α : Type} (f : α → Int → Int) : List α → Int → Int
  | [], x => x
  | a :: l, x => if f a x < 0 then -1 else szF f l (f a x)
def szL {α : Type} (f : α → Int → Int) (l : List α) (x : Int) : Int := if x - l.length < 0 then -1 else szF f l (x - l.length)
def Nice {α : Type} (f : α → Int → Int) : Prop := ∀ a x, 0 ≤ x → f a x = -1 ∨ (0 ≤ f a x ∧ f a x ≤ x)
theorem szF_nice {α : Type} {f : α → Int → Int} (h : Nice f) : ∀ (l : List α) (x : Int), 0 ≤ x → szF f l x = -1 ∨ (0 ≤ szF f l x ∧ szF f l x ≤ x)
  | [], x, hx => .inr ⟨hx, Int.le_refl _⟩
  | a :: l, x, hx => by
    unfold szF
    split
    · exact .inl rfl
    · rename_i hn
      rcases h a x hx with e | ⟨e1, e2⟩
      · omega
      · rcases szF_nice h l (f a x) e1 with e | ⟨e3, e4⟩
        · exact .inl e
        · exact .inr ⟨e3, by omega⟩
theorem szL_nice {α : Type} {f : α → Int → Int} (h : Nice f) : Nice (szL f) := fun l x hx => by
  unfold szL
  split
  · exact .inl rfl
  · rcases szF_nice h l (x - l.length) (by omega) with e | ⟨e1, e2⟩
    · exact .inl e
    · exact .inr ⟨e1, by omega⟩
theorem szL_len {α : Type} {f : α → Int → Int} (h : Nice f) (l : List α) (x : Int) (hx : 0 ≤ x) (hn : 0 ≤ szL f l x) : (l.length : Int) ≤ x := by
  unfold szL at hn
  split at hn <;> omega
theorem szF_step {α : Type} {f : α → Int → Int} {l : List α} {k : Nat} (hk : k < l.length) (x : Int) : szF f (l.drop k) x = if f l[k] x < 0 then -1 else szF f (l.drop (k + 1)) (f l[k] x) := by
  rw [List.drop_eq_getElem_cons hk]
  rfl
theorem bof {f : Nat} {fn : Func} {c : Code} {rs : List ResultVar} {args : List PV} {r : PV} (hf : Tryz.prog.funcs[f]? = some fn) (h : bwp Tryz.prog (fun _ => []) c (endK Tryz.prog rs r []) (St.init args [])) (hb : fn.body = some c := by exact rfl) (hrs : fn.results = rs.toArray := by exact rfl)
    (hn : (fn.name != "runtime.NumGoroutine") = true := by kernel_rfl) (hd : cOk Tryz.prog (fun _ => []) fn.ntmps c = true := by kernel_rfl) (ha : args.length ≤ fn.ntmps := by exact Nat.le_of_ble_eq_true rfl) : BRet Tryz.prog f [] args r [] :=
  BRet.of_body (fun _ => []) mixed hf hb hn hd hrs rfl ha h

/-! A slice that is made and filled. -/
theorem flat_length {sz : Nat} : ∀ {l : List PD}, (∀ x ∈ l, x.cells.length = sz) → (flat l).length = l.length * sz
  | [], _ => by simp [flat]
  | a :: l, h => by
    have := flat_length (sz := sz) (l := l) (fun x hx => h x (List.mem_cons_of_mem _ hx))
    simp only [flat, List.flatMap_cons, List.length_append, List.length_cons] at this ⊢
    rw [this, h a (by simp), Nat.add_mul]; omega
def filling (l : List PD) (zero : List PV) (n k : Nat) : List PV := (flat (l.take k)).map PV.d ++ (List.replicate (n - k) zero).flatten
theorem filling_0 (l : List PD) (zero : List PV) (n : Nat) : filling l zero n 0 = (List.replicate n zero).flatten := by simp [filling, flat]
theorem filling_n (l : List PD) (zero : List PV) : filling l zero l.length l.length = (flat l).map PV.d := by simp [filling]
theorem filling_len {l : List PD} {zero : List PV} {sz n k : Nat} (hz : zero.length = sz) (hc : ∀ x ∈ l, x.cells.length = sz) (hl : l.length = n) (hk : k ≤ n) : (filling l zero n k).length = n * sz := by
  have h1 := flat_length (sz := sz) (l := l.take k) (fun x hx => hc x (List.mem_of_mem_take hx))
  simp only [filling, List.length_append, List.length_map, h1, List.length_take, List.length_flatten, List.map_replicate, hz, List.sum_replicate_nat]
  rw [Nat.min_eq_left (by omega), ← Nat.add_mul]
  congr 1; omega
theorem filling_step {l : List PD} {zero : List PV} {sz n k : Nat} (hz : zero.length = sz) (hc : ∀ x ∈ l, x.cells.length = sz) (hl : l.length = n) (hk : k < l.length) :
    (filling l zero n k).take (k * sz) ++ (l[k].cells.map PV.d) ++ (filling l zero n k).drop (k * sz + sz) = filling l zero n (k + 1) := by
  have h1 := flat_length (sz := sz) (l := l.take k) (fun x hx => hc x (List.mem_of_mem_take hx))
  rw [List.length_take, Nat.min_eq_left (by omega)] at h1
  have e : n - k = (n - (k + 1)) + 1 := by omega
  have hlen : ((flat (l.take k)).map PV.d).length = k * sz := by rw [List.length_map]; exact h1
  unfold filling
  rw [List.take_left' hlen, e, List.replicate_succ, List.flatten_cons, ← List.append_assoc, List.drop_left' (by rw [List.length_append, hlen, hz]), List.take_succ_eq_append_getElem hk]
  have : flat (l.take k ++ [l[k]]) = flat (l.take k) ++ l[k].cells := by unfold flat; rw [List.flatMap_append]; simp [-List.take_append_getElem]
  rw [this, List.map_append]
theorem filling_bC {l : List PD} {zero : List PV} {n k : Nat} (hz : zero.map PV.bC = zero) : (filling l zero n k).map PV.bC = filling l zero n k := by
  unfold filling
  rw [List.map_append, List.map_map, List.map_flatten, List.map_replicate, hz]
  rfl
theorem filling_ok {l : List PD} {zero : List PV} (hz : ∀ L, zero.all (okC L) = true) (n k : Nat) (L : List BN) : (filling l zero n k).all (okC L) = true := by
  unfold filling
  rw [List.all_append, Bool.and_eq_true]
  refine ⟨by simp [okC], ?_⟩
  rw [List.all_eq_true]
  intro x hx
  obtain ⟨y, hy, hx⟩ := List.mem_flatten.1 hx
  rw [(List.mem_replicate.1 hy).2] at hx
  exact List.all_eq_true.1 (hz L) x hx
theorem made {P : Program} {st : St} {t : Nat} {b : BN} {e sz n : Nat} {l : List PD} {K : St → Prop} (ht : st.tm t = .rsl b e sz n) (hb : st.bx b = some ((flat l).map .d)) (hl : l.length = n) (hu : ∀ x ∈ l, x.cells.length = sz) (ho : ∀ c, c ≠ b → st.bx c = none)
    (k : ∀ s : St, s.tm t = .own e sz l → (∀ c, s.bx c = none) → K s) : wk P K st :=
  wk_of (Weak.freeze ht hb hl hu) (k _ (by simp [tm_put]) fun c => by
    rw [bx_put, bx_drop]
    split
    · rfl
    · rename_i hc; rw [ho c hc]; rfl)
theorem bofW {f : Nat} {fn : Func} {c : Code} {rs : List ResultVar} {args : List PV} {r : PV} (hf : Tryz.prog.funcs[f]? = some fn) (h : bwp Tryz.prog (fun _ => []) c (endW Tryz.prog rs r []) (St.init args [])) (hb : fn.body = some c := by exact rfl) (hrs : fn.results = rs.toArray := by exact rfl)
    (hn : (fn.name != "runtime.NumGoroutine") = true := by kernel_rfl) (hd : cOk Tryz.prog (fun _ => []) fn.ntmps c = true := by kernel_rfl) (ha : args.length ≤ fn.ntmps := by exact Nat.le_of_ble_eq_true rfl) : BRet Tryz.prog f [] args r [] :=
  BRet.of_bodyW (fun _ => []) mixed hf hb hn hd hrs rfl ha h

/-! Texts. -/
def StrT (P : Program) (t : Nat) : Prop := ∃ i, tyi P t = some i ∧ i.str = true
theorem StrT.sl {P : Program} {t : Nat} (h : StrT P t) (s : List UInt8) : (∀ k : Int, 0 ≤ k → k ≤ s.length → evSlice P t (.d (.str s)) none (some (.d (.int .i64 k))) = some (.d (.str (s.take k.toNat)))) ∧
    (∀ k : Int, 0 ≤ k → k ≤ s.length → evSlice P t (.d (.str s)) (some (.d (.int .i64 k))) none = some (.d (.str (s.drop k.toNat)))) ∧
    ∀ j k : Int, 0 ≤ j → j ≤ k → k ≤ s.length → evSlice P t (.d (.str s)) (some (.d (.int .i64 j))) (some (.d (.int .i64 k))) = some (.d (.str ((s.take k.toNat).drop j.toNat))) := by
  obtain ⟨i, h1, h2⟩ := h
  refine ⟨fun k h3 h4 => ?_, fun k h3 h4 => ?_, fun j k h3 h4 h5 => ?_⟩
  · simp [evSlice, h1, h2, sb, PV.int?, h3, h4]
  · simp [evSlice, h1, h2, sb, PV.int?, h3, h4]
  · have h6 : 0 ≤ k := by omega
    have h7 : j ≤ (k.toNat : Int) := by omega
    simp only [evSlice, h1, h2, sb, PV.int?, h3, h5, h6, h7, and_self, if_true, Option.bind_some, Option.map_some]
theorem StrT.facts {P : Program} {t : Nat} (h : StrT P t) :
    (∀ (s : List UInt8) (k : Int), 0 ≤ k → k ≤ s.length → evSlice P t (.d (.str s)) none (some (.d (.int .i64 k))) = some (.d (.str (s.take k.toNat)))) ∧
    (∀ (s : List UInt8) (k : Int), 0 ≤ k → k ≤ s.length → evSlice P t (.d (.str s)) (some (.d (.int .i64 k))) none = some (.d (.str (s.drop k.toNat)))) ∧
    ∀ (s : List UInt8) (j k : Int), 0 ≤ j → j ≤ k → k ≤ s.length → evSlice P t (.d (.str s)) (some (.d (.int .i64 j))) (some (.d (.int .i64 k))) = some (.d (.str ((s.take k.toNat).drop j.toNat))) :=
  ⟨fun s => (h.sl s).1, fun s => (h.sl s).2.1, fun s => (h.sl s).2.2⟩
/-! Slices of a type: what is known of t, whose items are e. -/
def SlT (P : Program) (t e sz by_ : Nat) : Prop := ∃ i te, tyi P t = some i ∧ i.el = some e ∧ tyi P e = some te ∧ te.sz = sz ∧ te.by_ = by_ ∧ te.zero.length = te.sz ∧ 0 < te.sz
theorem SlT.app {P : Program} {t e sz by_ : Nat} (h : SlT P t e sz by_) (l m : List PD) (x : PV) (hx : x.more = some (some sz, m)) (hb : (l.length + m.length) * (by_ + 1) ≤ 140737488355328) : evAppend P t (.own e sz l) x = some (.own e sz (l ++ m)) := by
  obtain ⟨i, te, h1, h2, h3, rfl, rfl, h6, h7⟩ := h
  simp [evAppend, PV.grow, hx, h1, h2, h3, h6, h7, hb]
theorem SlT.appn {P : Program} {t e sz by_ : Nat} (h : SlT P t e sz by_) (l : List PD) (hb : l.length * (by_ + 1) ≤ 140737488355328) : evAppend P t (.own e sz l) .nilS = some (.own e sz l) := by
  obtain ⟨i, te, h1, h2, h3, rfl, rfl, h6, h7⟩ := h
  simp [evAppend, PV.grow, PV.more, h1, h2, h3, h6, h7, hb]
theorem SlT.build0 {P : Program} {t e sz by_ : Nat} (h : SlT P t e sz by_) : evBuildSlice P t 0 [] = some (.own e sz []) := by
  obtain ⟨i, te, h1, h2, h3, rfl, rfl, h6, h7⟩ := h
  simp [evBuildSlice, h1, h2, h3, h6, pdAll]
theorem SlT.build1 {P : Program} {t e sz by_ : Nat} (h : SlT P t e sz by_) (x : PV) (y : PD) (hx : x.pd = some y) (hy : y.cells.length = sz) (hs : sz ≤ 16777216) : evBuildSlice P t 1 [(0, x)] = some (.own e sz [y]) := by
  obtain ⟨i, te, h1, h2, h3, rfl, rfl, h6, h7⟩ := h
  simp [evBuildSlice, h1, h2, h3, h6, pdAll, hx, hy, hs]
theorem SlT.hi {P : Program} {t e sz by_ : Nat} (h : SlT P t e sz by_) (l : List PD) (x : PV) (hx : x.list = some (sz, l)) (hs : ∀ s, x ≠ .d (.str s)) (k : Nat) (hk : k ≤ l.length) : evSlice P t x none (some (.int k)) = some (.d (.sl sz (l.take k))) := by
  obtain ⟨i, te, h1, h2, h3, rfl, rfl, h6, h7⟩ := h
  have : evSlice P t x none (some (.int k)) = x.list.bind fun s => (tyi P t).bind fun i => i.el.bind fun e => (tyi P e).bind fun te => if te.sz = s.1 then (sb none (some (.int k)) s.2.length).map fun q => .d (.sl s.1 ((s.2.take q.2).drop q.1)) else none := by
    unfold evSlice
    split
    · simp [PV.list] at hx
    · rename_i s; exact absurd rfl (hs s)
    · rfl
  rw [this, hx]
  simp [h1, h2, h3, sb, PV.int?, hk]
theorem SlT.lo {P : Program} {t e sz by_ : Nat} (h : SlT P t e sz by_) (l : List PD) (x : PV) (hx : x.list = some (sz, l)) (hs : ∀ s, x ≠ .d (.str s)) (k : Nat) (hk : k ≤ l.length) : evSlice P t x (some (.int k)) none = some (.d (.sl sz (l.drop k))) := by
  obtain ⟨i, te, h1, h2, h3, rfl, rfl, h6, h7⟩ := h
  have : evSlice P t x (some (.int k)) none = x.list.bind fun s => (tyi P t).bind fun i => i.el.bind fun e => (tyi P e).bind fun te => if te.sz = s.1 then (sb (some (.int k)) none s.2.length).map fun q => .d (.sl s.1 ((s.2.take q.2).drop q.1)) else none := by
    unfold evSlice
    split
    · simp [PV.list] at hx
    · rename_i s; exact absurd rfl (hs s)
    · rfl
  rw [this, hx]
  simp [h1, h2, h3, sb, PV.int?, hk]
theorem SlT.full {P : Program} {t e sz by_ : Nat} (h : SlT P t e sz by_) (b : BN) (e' n : Nat) (k : Int) (hk : k = (n : Int)) : evSlice P t (.rsl b e' sz n) none (some (.d (.int .i64 k))) = some (.rsl b e' sz n) := by
  subst hk
  obtain ⟨i, te, h1, h2, h3, rfl, rfl, h6, h7⟩ := h
  simp [evSlice, evSliceR, h1, h2, h3, sb, PV.int?]
/-- What the walk may use of a slice's type. -/
theorem SlT.facts {P : Program} {t e sz by_ : Nat} (h : SlT P t e sz by_) :
  (∀ l m : List PD, (l.length + m.length) * (by_ + 1) ≤ 140737488355328 → evAppend P t (.own e sz l) (.d (.sl sz m)) = some (.own e sz (l ++ m))) ∧
  (∀ l m : List PD, (l.length + m.length) * (by_ + 1) ≤ 140737488355328 → evAppend P t (.own e sz l) (.own e sz m) = some (.own e sz (l ++ m))) ∧
  (∀ l m : List PD, (l.length + m.length) * (by_ + 1) ≤ 140737488355328 → evAppend P t (.own e sz l) (.nn sz m) = some (.own e sz (l ++ m))) ∧
  (∀ l : List PD, l.length * (by_ + 1) ≤ 140737488355328 → evAppend P t (.own e sz l) .nilS = some (.own e sz l)) ∧
  evBuildSlice P t 0 [] = some (.own e sz []) ∧
  (∀ (l : List PD) (k : Nat), k ≤ l.length → evSlice P t (.d (.sl sz l)) none (some (.d (.int .i64 k))) = some (.d (.sl sz (l.take k)))) ∧
  (∀ (l : List PD) (k : Nat), k ≤ l.length → evSlice P t (.d (.sl sz l)) (some (.d (.int .i64 k))) none = some (.d (.sl sz (l.drop k)))) ∧
  (∀ (b : BN) (e' n : Nat) (k : Int), k = (n : Int) → evSlice P t (.rsl b e' sz n) none (some (.d (.int .i64 k))) = some (.rsl b e' sz n)) :=
  ⟨fun l m hb => h.app l m _ rfl hb, fun l m hb => h.app l m _ rfl hb, fun l m hb => h.app l m _ rfl hb, fun l hb => h.appn l hb, h.build0, fun l k hk => h.hi l _ rfl (fun s e => by cases e) k hk, fun l k hk => h.lo l _ rfl (fun s e => by cases e) k hk, fun b e' n k hk => h.full b e' n k hk⟩
end Go.Bee.Ty
