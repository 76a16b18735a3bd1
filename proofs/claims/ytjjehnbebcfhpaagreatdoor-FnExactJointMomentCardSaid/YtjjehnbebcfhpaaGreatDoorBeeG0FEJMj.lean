/-
The logic and the walks, part 10. No condition.
-/
import Derived.Test.YtjjehnbebcfhpaaGreatDoorBeeG0FEJMh
import Derived.Test.YtjjehnbebcfhpaaGreatDoorBeeG0FEJMi
import Derived.Test.YtjjehnbebcfhpaaGreatDoorProg
import Derived.Shelf.Sort.Plain
import Derived.Shelf.Slices.In.SortNone
import Derived.Shelf.Slices.CompactS
import Derived.Lib.RowBridge
namespace Go.Proofs
open Go.Shelf
def YtjjehnbebcfhpaaGreatDoorSrt.lays190_ren : Go.Shelf.Ren := ⟨fun | 190 => 135 | 125 => 150 | 258 => 149 | 128 => 169 | 129 => 170 | 302 => 160 | 303 => 161 | 304 => 162 | 305 => 163 | 306 => 164 | 307 => 165 | 308 => 166 | 309 => 167 | 310 => 168 | 333 => 181 | 329 => 182 | 330 => 183 | 334 => 184 | 335 => 185 | 336 => 186 | 344 => 197 | n => n, fun | 31 => 22 | 9 => 9 | 3 => 3 | 46 => 151 | 0 => 0 | 51 => 165 | 53 => 167 | 4 => 4 | 183 => 158 | 182 => 157 | 131 => 51 | 5 => 5 | 218 => 179 | 222 => 183 | 228 => 188 | 229 => 189 | n => n, fun | n => n⟩
theorem YtjjehnbebcfhpaaGreatDoorSrt.lays190 : Go.Proofs.Lays.n190 Tryz.prog YtjjehnbebcfhpaaGreatDoorSrt.lays190_ren := {
  mixed := by kernel_rfl
  f125 := Tryz.func150.trans (congrArg some (by kernel_rfl))
  f128 := Tryz.func169.trans (congrArg some (by kernel_rfl))
  f129 := Tryz.func170.trans (congrArg some (by kernel_rfl))
  f190 := Tryz.func135.trans (congrArg some (by kernel_rfl))
  f258 := Tryz.func149.trans (congrArg some (by kernel_rfl))
  f302 := Tryz.func160.trans (congrArg some (by kernel_rfl))
  f303 := Tryz.func161.trans (congrArg some (by kernel_rfl))
  f304 := Tryz.func162.trans (congrArg some (by kernel_rfl))
  f305 := Tryz.func163.trans (congrArg some (by kernel_rfl))
  f306 := Tryz.func164.trans (congrArg some (by kernel_rfl))
  f307 := Tryz.func165.trans (congrArg some (by kernel_rfl))
  f308 := Tryz.func166.trans (congrArg some (by kernel_rfl))
  f309 := Tryz.func167.trans (congrArg some (by kernel_rfl))
  f310 := Tryz.func168.trans (congrArg some (by kernel_rfl))
  f329 := Tryz.func182.trans (congrArg some (by kernel_rfl))
  f330 := Tryz.func183.trans (congrArg some (by kernel_rfl))
  f333 := Tryz.func181.trans (congrArg some (by kernel_rfl))
  f334 := Tryz.func184.trans (congrArg some (by kernel_rfl))
  f335 := Tryz.func185.trans (congrArg some (by kernel_rfl))
  f336 := Tryz.func186.trans (congrArg some (by kernel_rfl))
  f344 := Tryz.func197.trans (congrArg some (by kernel_rfl))
  t0 := Tryz.underlying0
  a0 := Tryz.isAgg0
  z0 := Tryz.sizeOf0
  v0 := Tryz.zeroValue0
  t3 := Tryz.underlying3
  a3 := Tryz.isAgg3
  z3 := Tryz.sizeOf3
  v3 := Tryz.zeroValue3
  t4 := Tryz.underlying4
  a4 := Tryz.isAgg4
  z4 := Tryz.sizeOf4
  v4 := Tryz.zeroValue4
  t5 := Tryz.underlying5
  a5 := Tryz.isAgg5
  z5 := Tryz.sizeOf5
  v5 := Tryz.zeroValue5
  t9 := Tryz.underlying9
  a9 := Tryz.isAgg9
  z9 := Tryz.sizeOf9
  v9 := Tryz.zeroValue9
  t31 := Tryz.underlying22
  a31 := Tryz.isAgg22
  z31 := Tryz.sizeOf22
  v31 := Tryz.zeroValue22
  t46 := Tryz.underlying151
  a46 := Tryz.isAgg151
  z46 := Tryz.sizeOf151
  v46 := Tryz.zeroValue151
  t51 := Tryz.underlying165
  a51 := Tryz.isAgg165
  z51 := Tryz.sizeOf165
  v51 := Tryz.zeroValue165
  t53 := Tryz.underlying167
  a53 := Tryz.isAgg167
  z53 := Tryz.sizeOf167
  v53 := Tryz.zeroValue167
  t131 := Tryz.underlying51
  a131 := Tryz.isAgg51
  z131 := Tryz.sizeOf51
  v131 := Tryz.zeroValue51
  t182 := Tryz.underlying157
  a182 := Tryz.isAgg157
  z182 := Tryz.sizeOf157
  v182 := Tryz.zeroValue157
  t183 := Tryz.underlying158
  a183 := Tryz.isAgg158
  z183 := Tryz.sizeOf158
  v183 := Tryz.zeroValue158
  t218 := Tryz.underlying179
  a218 := Tryz.isAgg179
  z218 := Tryz.sizeOf179
  v218 := Tryz.zeroValue179
  t222 := Tryz.underlying183
  a222 := Tryz.isAgg183
  z222 := Tryz.sizeOf183
  v222 := Tryz.zeroValue183
  t228 := Tryz.underlying188
  a228 := Tryz.isAgg188
  z228 := Tryz.sizeOf188
  v228 := Tryz.zeroValue188
  t229 := Tryz.underlying189
  a229 := Tryz.isAgg189
  z229 := Tryz.sizeOf189
  v229 := Tryz.zeroValue189 }
def YtjjehnbebcfhpaaGreatDoorSrt.lays194_ren : Go.Shelf.Ren := ⟨fun | 194 => 136 | n => n, fun | 31 => 22 | 9 => 9 | 3 => 3 | 4 => 4 | 0 => 0 | n => n, fun | n => n⟩
theorem YtjjehnbebcfhpaaGreatDoorSrt.lays194 : Go.Proofs.Lays.n194 Tryz.prog YtjjehnbebcfhpaaGreatDoorSrt.lays194_ren := {
  mixed := by kernel_rfl
  f194 := Tryz.func136.trans (congrArg some (by kernel_rfl))
  t0 := Tryz.underlying0
  a0 := Tryz.isAgg0
  z0 := Tryz.sizeOf0
  v0 := Tryz.zeroValue0
  t3 := Tryz.underlying3
  a3 := Tryz.isAgg3
  z3 := Tryz.sizeOf3
  v3 := Tryz.zeroValue3
  t4 := Tryz.underlying4
  a4 := Tryz.isAgg4
  z4 := Tryz.sizeOf4
  v4 := Tryz.zeroValue4
  t9 := Tryz.underlying9
  a9 := Tryz.isAgg9
  z9 := Tryz.sizeOf9
  v9 := Tryz.zeroValue9
  t31 := Tryz.underlying22
  a31 := Tryz.isAgg22
  z31 := Tryz.sizeOf22
  v31 := Tryz.zeroValue22 }
end Go.Proofs
namespace Go.Bee.C23s
open Go Go.Bee Go.Proofs Go.Bee.Ty Go.Bee.C23
set_option linter.unusedVariables false
set_option maxRecDepth 20000
attribute [local irreducible] Go.Bee.bwp
open Classical in
noncomputable def Kof {α : Type} (ok : α → Prop) (e : α → PD) (p : α → Bool) : List PD → Option PD := fun xs => if h : ∃ a, xs = [e a] ∧ ok a then some (.bool (p h.choose)) else none
theorem Kof_e {α : Type} {ok : α → Prop} {e : α → PD} (he : ∀ a b, e a = e b → a = b) (p : α → Bool) (a : α) (ha : ok a) : Kof ok e p [e a] = some (.bool (p a)) := by
  have h : ∃ b, [e a] = [e b] ∧ ok b := ⟨a, rfl, ha⟩
  unfold Kof
  rw [dif_pos h]
  have := he _ _ (List.cons.inj h.choose_spec.1).1
  rw [← this]
theorem Kof_ok0 {α : Type} {ok : α → Prop} {e : α → PD} {p : α → Bool} {P : Program} {B : Bx} {f : Nat} {caps cs : List PV} (hc : capsOf B caps = some cs) (hf : isFn P f = true) (h : ∀ a, ok a → BRet P f [] (ofPD (e a) :: cs) (.bool (p a)) []) : CloOK0 P B f caps (Kof ok e p) :=
  ⟨cs, hc, hf, fun xs r hr => by
    unfold Kof at hr
    split at hr
    · rename_i hx
      simp only [Option.some.injEq] at hr
      subst hr
      refine ⟨rfl, ?_⟩
      have hs := hx.choose_spec.1
      have := h hx.choose hx.choose_spec.2
      generalize hx.choose = a at *
      subst hs
      exact this
    · cases hr⟩
theorem Kof_ok {α : Type} {ok : α → Prop} {e : α → PD} {p : α → Bool} {P : Program} {B : Bx} {f : Nat} {caps cs : List PV} (hc : capsOf B caps = some cs) (hf : isFn P f = true) (h : ∀ a, ok a → BRet P f [] (ofPD (e a) :: cs) (.bool (p a)) []) : CloOK P B f caps (Kof ok e p) := (Kof_ok0 hc hf h).up
theorem str_inj : ∀ a b : List UInt8, PD.str a = PD.str b → a = b := fun a b h => by cases h; rfl
theorem map_inj {α : Type} {e : α → PD} (he : ∀ a b, e a = e b → a = b) : ∀ l m : List α, l.map e = m.map e → l = m
  | [], [], _ => rfl
  | a :: l, b :: m, h => by
    simp only [List.map_cons, List.cons.injEq] at h
    rw [he _ _ h.1, map_inj he l m h.2]
theorem b_fnb {P : Program} {fl : AF} {K : St → Prop} {st : St} {d t : Nat} {xs : List Operand} {ts : Array TypeId} {ty : TypeId} {pos : String} {af : Array Edge} {g : Option (Nat × Bool)} {Kf : List PD → Option PD} (zs : List PD) {b : Bool}
    (hf : st.tm t = .fn Kf) (hmv : fl.mv = false) (hz : pdsOf (xs.map st.ev) = some zs) (hr : Kf zs = some (.bool b)) (k : K (st.put d (.bool b))) :
    bcallD P none fl ⟨some d, .call ⟨.value (.tmp t), xs.toArray, ts⟩, ty, pos, af, g⟩ K st := b_fn hf hmv hz hr k
def pos (s : List UInt8) : List (List UInt8) → Nat
  | [] => 0
  | a :: l => if Op.bytesLess a s = true then pos s l + 1 else 0
def put (l : List (List UInt8)) (s : List UInt8) : List (List UInt8) := if l[pos s l]? = some s then l else l.take (pos s l) ++ s :: l.drop (pos s l)
theorem pos_step {s : List UInt8} {l : List (List UInt8)} {k : Nat} (hk : k < l.length) : pos s (l.drop k) = if Op.bytesLess l[k] s = true then pos s (l.drop (k + 1)) + 1 else 0 := by
  rw [List.drop_eq_getElem_cons hk]; rfl
theorem l5Put_b (l : List (List UInt8)) (s : List UInt8) (hl : l.length ≤ 1048576) : BRet Tryz.prog 96 [] [.d (.sl 1 (l.map .str)), .str s] (.d (.sl 1 ((put l s).map .str))) [] := by
  refine bofW Tryz.func96 ?_
  refine bgo ?_
  refine b_loop (fun n st => ∃ k : Nat, n = l.length - k ∧ k ≤ l.length ∧ st.tm 0 = .d (.sl 1 (l.map .str)) ∧ st.tm 1 = .str s ∧ st.tm 5 = .int k ∧ pos s (l.drop k) + k = pos s l ∧ ∀ b, st.bx b = none) l.length ⟨0, rfl, Nat.zero_le _, rfl, rfl, rfl, rfl, bxOf_nil⟩ ?_
  rintro n st ⟨k, rfl, hk, t0, t1, t5, hj, hb⟩
  by_cases hlt : k < l.length
  · have hx : l[k]? = some l[k] := List.getElem?_eq_getElem hlt
    cases hs : Op.bytesLess l[k] s
    · have hp : pos s l = k := by rw [← hj, pos_step hlt, if_neg (by simp [hs])]; omega
      clear hj
      refine bgo ?_
      refine wk_rfl ?_
      have hput : put l s = if l[k] = s then l else l.take k ++ s :: l.drop k := by simp [put, hp, hx]
      clear hp
      refine bgo ?_
      refine ⟨fun h => ?_, fun h => ?_⟩
      · refine wk_rfl ?_
        refine bgo ?_
        trivial
      · refine wk_of (Weak.own_d (t := 4) rfl) ?_
        refine bgo ?_
        simp
    · refine bgo ?_
      refine ⟨_, _, Weak.refl _, by omega, k + 1, rfl, hlt, t0, t1, rfl, ?_, hb⟩
      rw [pos_step hlt, if_pos hs] at hj
      omega
  · have hk' : k = l.length := by omega
    subst hk'
    have hp : pos s l = l.length := by rw [← hj, List.drop_length]; simp [pos]
    have hput : put l s = l ++ [s] := by simp [put, hp]
    rw [hput]
    clear hj hp hput
    refine bgo ?_
    refine wk_rfl ?_
    refine bgo ?_
    refine wk_of (Weak.own_d (t := 4) rfl) ?_
    refine bgo ?_
    simp [List.take_of_length_le, List.drop_eq_nil_of_le]
end Go.Bee.C23s
namespace Go.Bee.C23s
open Go Go.Bee Go.Proofs Go.Bee.Ty Go.Bee.C23 Go.Sort
set_option maxRecDepth 100000
set_option linter.unusedVariables false
def srt (zs : List (List UInt8)) : List (List UInt8) := Lib.compact (zs.mergeSort fun x y => decide (x ≤ y))
theorem srt_mem {zs : List (List UInt8)} {s : List UInt8} (h : s ∈ srt zs) : s ∈ zs := by
  unfold srt Lib.compact Lib.compactUpTo at h
  obtain ⟨j, hj, rfl⟩ := List.mem_map.1 h
  have hj' : j < (zs.mergeSort fun x y => decide (x ≤ y)).length := List.mem_range.1 (List.mem_filter.1 hj).1
  rw [getElem!_pos _ j (by simpa using hj')]
  have : (zs.mergeSort fun x y => decide (x ≤ y))[j] ∈ zs.mergeSort fun x y => decide (x ≤ y) := List.getElem_mem _
  simpa using (List.mem_mergeSort.1 this)
theorem srt_len (zs : List (List UInt8)) : (srt zs).length ≤ zs.length := by
  have := Lib.compact_length_le (zs.mergeSort fun x y => decide (x ≤ y))
  rw [List.length_mergeSort] at this
  exact this
theorem other_block {w : World} {n blk off k : Nat} {d : Array (List UInt8)} (h : k ≠ blk) : (putRow encStr (Sort.ahead w n) blk off d).heap[k]? = w.heap[k]? := by
  unfold putRow mapBlock
  simp only [Array.getElem?_modify]
  rw [if_neg (fun e => h e.symm)]
  rfl
theorem put_size {w : World} {n blk off : Nat} {d : Array (List UInt8)} : (putRow encStr (Sort.ahead w n) blk off d).heap.size = w.heap.size := by
  simp [putRow, mapBlock, Sort.ahead]
theorem sorted_run {w : World} {u : Value} {R : Ending → World → Prop} (h : Calls Tryz.prog 135 #[u] w fun e w' => e = .returned (.tuple #[]) ∧ Calls Tryz.prog 136 #[u] w' fun e w'' => ∃ r, e = .returned r ∧ R (.returned r) w'') : Calls Tryz.prog 103 #[u] w R := by
  refine calls_of_wp Tryz.func103 rfl ?_
  refine wp_seq (wp_region ?_)
  refine raw_at rfl rfl (raw_assign rfl ?_)
  refine wp_seq (wp_region ?_)
  refine raw_at rfl rfl (raw_move rfl ?_)
  refine raw_at rfl rfl (raw_call (u := u) (by kernel_rfl) rfl (by simp [Act.put, Act.eval]) (h.mono ?_))
  rintro e w' ⟨rfl, h2⟩
  refine ⟨_, rfl, ?_⟩
  refine wp_seq (wp_region ?_)
  refine raw_at rfl rfl (raw_move rfl ?_)
  refine raw_at rfl rfl (raw_call (u := u) (by kernel_rfl) rfl (by simp [Act.put, Act.eval]) (h2.mono ?_))
  rintro e w'' ⟨r, rfl, h3⟩
  refine ⟨_, rfl, ?_⟩
  refine raw_at rfl rfl (raw_assign rfl ?_)
  refine wp_ret ?_
  refine ⟨rfl, r, ?_, h3⟩
  rw [results_eq]
  simp [show f103.results = #[.tmp 2] from rfl, resSem, Act.put, Act.eval]
theorem sorted_redo : Redo Tryz.prog 103 srt := by
  refine ⟨by kernel_rfl, by simp [srt, Lib.compact, Lib.compactUpTo], fun w b c => ?_, fun w blk off c zs hz hH hblk hlc hlen => ?_⟩
  · refine sorted_run ((Any.slices_Sort_string_none YtjjehnbebcfhpaaGreatDoorSrt.lays190 b c w).mono ?_)
    rintro e w' ⟨rfl, rfl⟩
    refine ⟨rfl, (Any.slices_Compact_string_empty YtjjehnbebcfhpaaGreatDoorSrt.lays194 b c w').mono ?_⟩
    rintro e w'' ⟨rfl, rfl⟩
    exact ⟨_, rfl, rfl, rfl, rfl, rfl, rfl⟩
  · refine sorted_run ((Any.slices_Sort_string YtjjehnbebcfhpaaGreatDoorSrt.lays190 blk off c zs w hH hblk (by omega)).mono ?_)
    rintro e w' ⟨rfl, n, os, rfl⟩
    generalize hS : (zs.mergeSort fun x y => decide (x ≤ y)) = S
    have hSl : S.length = zs.length := by rw [← hS]; simp
    have hblk1 : blk < (putRow encStr (Sort.ahead w n) blk off S.toArray).heap.size := by rw [put_size]; exact hblk
    have hH1 : Holds encStr (grow (putRow encStr (Sort.ahead w n) blk off S.toArray) os) blk off S.toArray := holds_grow _ _ os _ _ _ hblk1 (holds_putRow encStr _ blk off zs.toArray S.toArray (holds_ahead _ _ _ _ _ _ hH) (by simp [hSl]))
    refine ⟨rfl, ?_⟩
    have hc := Any.slices_Compact_string YtjjehnbebcfhpaaGreatDoorSrt.lays194 blk off c S _ hH1 (by omega) (by omega)
    rw [hSl] at hc
    refine hc.mono ?_
    rintro e w'' ⟨rfl, q, rfl⟩
    have hsz : (Lib.compact S ++ List.replicate (zs.length - (Lib.compact S).length) []).toArray.size = S.toArray.size := by
      have := Lib.compact_length_le S
      simp; omega
    have hH2 := holds_putRow encStr _ blk off S.toArray _ (holds_ahead encStr _ q blk off _ hH1) hsz
    have hsrt : srt zs = Lib.compact S := by rw [← hS]; rfl
    refine ⟨_, rfl, c, by rw [hsrt], ?_, ?_, ?_, ?_, rfl, rfl, rfl, srt_len zs, fun s hs => srt_mem hs⟩
    · have := srt_len zs; omega
    · intro i s hi
      have hlt := (List.getElem?_eq_some_iff.1 hi).1
      have := (hH2 i (by rw [hsz]; have := srt_len zs; simp [hSl]; omega)).1
      rw [this]
      congr 1
      congr 1
      rw [getElem!_pos _ i (by rw [hsz]; have := srt_len zs; simp [hSl]; omega)]
      rw [hsrt] at hi hlt
      simp only [List.getElem_toArray]
      rw [List.getElem_append_left hlt]
      exact (List.getElem?_eq_some_iff.1 hi).2
    · intro k hk hne
      rw [other_block hne, heap_grow_old _ _ (by rw [put_size]; exact hk), other_block hne]
    · rw [put_size]
      simp only [grow, Array.size_append, put_size]
      omega
end Go.Bee.C23s
namespace Go.Bee.C23s
open Go Go.Bee Go.Bee.Ty Go.Bee.C23 Go.Bee.Da
set_option linter.unusedVariables false
theorem less_lt : ∀ a b : List UInt8, (Op.bytesLess a b || a == b) = !(Op.bytesLess b a)
  | [], [] => rfl
  | [], _ :: _ => rfl
  | _ :: _, [] => rfl
  | a :: x, b :: y => by
    have ih := less_lt x y
    simp only [Op.bytesLess]
    by_cases h1 : a < b
    · have h2 : ¬ b < a := fun h => by have := UInt8.lt_iff_toNat_lt.1 h; have := UInt8.lt_iff_toNat_lt.1 h1; omega
      have h3 : ¬ b = a := fun e => by subst e; exact h2 h1
      simp [h1, h2, h3]
    · by_cases h2 : a = b
      · subst h2
        simp [h1]
        exact ih
      · have h3 : b < a := by
          rw [UInt8.lt_iff_toNat_lt] at h1 ⊢
          have : a.toNat ≠ b.toNat := fun e => h2 (UInt8.toNat_inj.1 e)
          omega
        simp [h1, h2, h3]
theorem less_iff : ∀ a b : Tx, Op.bytesLess a b = true ↔ a < b
  | [], [] => by simp [Op.bytesLess]
  | [], _ :: _ => by simp [Op.bytesLess]
  | _ :: _, [] => by simp [Op.bytesLess]
  | a :: x, b :: y => by
    have ih := less_iff x y
    simp only [Op.bytesLess, List.cons_lt_cons_iff, Bool.or_eq_true, Bool.and_eq_true, decide_eq_true_eq, beq_iff_eq, ih]
def Str (l : List Tx) : Prop := l.Pairwise (· < ·)
theorem lt_irr (a : Tx) : ¬ a < a := List.lt_irrefl a
theorem lt_tr {a b c : Tx} (h : a < b) (k : b < c) : a < c := List.lt_trans h k
theorem lt_tot (a b : Tx) (h : ¬ a < b) (k : a ≠ b) : b < a := by
  have h1 := less_lt b a
  have h2 : Op.bytesLess a b = false := by
    cases e : Op.bytesLess a b
    · rfl
    · exact absurd ((less_iff a b).1 e) h
  rw [h2] at h1
  have h3 : (b == a) = false := by simpa using fun e => k e.symm
  rw [h3, Bool.or_false] at h1
  exact (less_iff b a).1 h1
theorem Str.eq : ∀ {l m : List Tx}, Str l → Str m → (∀ x, x ∈ l ↔ x ∈ m) → l = m
  | [], [], _, _, _ => rfl
  | [], b :: m, _, _, h => by have := (h b).2 (List.mem_cons_self ..); cases this
  | a :: l, [], _, _, h => by have := (h a).1 (List.mem_cons_self ..); cases this
  | a :: l, b :: m, h1, h2, h => by
    have p1 := List.pairwise_cons.1 h1
    have p2 := List.pairwise_cons.1 h2
    have e : a = b := by
      rcases List.mem_cons.1 ((h a).1 (List.mem_cons_self ..)) with e | e
      · exact e
      · rcases List.mem_cons.1 ((h b).2 (List.mem_cons_self ..)) with e2 | e2
        · exact e2.symm
        · exact absurd (lt_tr (p1.1 b e2) (p2.1 a e)) (lt_irr a)
    subst e
    congr 1
    refine Str.eq p1.2 p2.2 fun x => ⟨fun hx => ?_, fun hx => ?_⟩
    · rcases List.mem_cons.1 ((h x).1 (List.mem_cons_of_mem _ hx)) with e | e
      · subst e; exact absurd (p1.1 _ hx) (lt_irr _)
      · exact e
    · rcases List.mem_cons.1 ((h x).2 (List.mem_cons_of_mem _ hx)) with e | e
      · subst e; exact absurd (p2.1 _ hx) (lt_irr _)
      · exact e
theorem put_cons (a s : Tx) (l : List Tx) : put (a :: l) s = if a < s then a :: put l s else if a = s then a :: l else s :: a :: l := by
  by_cases h : a < s
  · have e : pos s (a :: l) = pos s l + 1 := by simp [pos, (less_iff a s).2 h]
    rw [if_pos h]
    unfold put
    rw [e]
    simp only [List.getElem?_cons_succ, List.take_succ_cons, List.drop_succ_cons, List.cons_append]
    split <;> rfl
  · have e : pos s (a :: l) = 0 := by
      have : Op.bytesLess a s = false := by
        cases e : Op.bytesLess a s
        · rfl
        · exact absurd ((less_iff a s).1 e) h
      simp [pos, this]
    rw [if_neg h]
    unfold put
    rw [e]
    simp
theorem put_mem (s x : Tx) : ∀ l : List Tx, x ∈ put l s ↔ x = s ∨ x ∈ l
  | [] => by simp [put, pos]
  | a :: l => by
    have ih := put_mem s x l
    rw [put_cons]
    split
    · rw [List.mem_cons, ih, List.mem_cons]
      constructor
      · rintro (h | h | h) <;> simp [h]
      · rintro (h | h | h) <;> simp [h]
    · split
      · rename_i h; subst h; simp
      · simp [List.mem_cons]
theorem put_str (s : Tx) : ∀ l : List Tx, Str l → Str (put l s)
  | [], _ => by simp [put, pos, Str]
  | a :: l, h => by
    have p := List.pairwise_cons.1 h
    have ih := put_str s l p.2
    rw [put_cons]
    split
    · rename_i hlt
      refine List.pairwise_cons.2 ⟨fun x hx => ?_, ih⟩
      rcases (put_mem s x l).1 hx with e | e
      · rw [e]; exact hlt
      · exact p.1 x e
    · split
      · exact h
      · rename_i h1 h2
        have h3 := lt_tot a s h1 h2
        refine List.pairwise_cons.2 ⟨fun x hx => ?_, h⟩
        rcases List.mem_cons.1 hx with e | e
        · rw [e]; exact h3
        · exact lt_tr h3 (p.1 x e)
theorem compact_up (d : List Tx) (hd : d.Pairwise (· ≤ ·)) : ∀ m, m ≤ d.length → Str (Lib.compactUpTo d.toArray m) ∧ ∀ x, x ∈ Lib.compactUpTo d.toArray m ↔ x ∈ d.take m
  | 0, _ => by simp [Lib.compactUpTo, Str]
  | m + 1, hm => by
    obtain ⟨h1, h2⟩ := compact_up d hd m (by omega)
    rw [Lib.compactUpTo_succ, List.take_succ_eq_append_getElem (by omega)]
    have e : d.toArray[m]! = d[m] := by rw [getElem!_pos _ m (by simp; omega)]; simp
    rw [e]
    cases m with
    | zero => simp [Lib.compactUpTo, Lib.keeps, Str]
    | succ j =>
      have e2 : d.toArray[j]! = d[j] := by rw [getElem!_pos _ j (by simp; omega)]; simp
      have hle : ∀ x ∈ d.take (j + 1), x ≤ d[j] := fun x hx => by
        obtain ⟨i, hi, rfl⟩ := List.mem_take_iff_getElem.1 hx
        rcases Nat.lt_or_ge i j with h | h
        · exact List.pairwise_iff_getElem.1 hd i j (by omega) (by omega) h
        · have : i = j := by omega
          subst this; exact List.le_refl _
      have hstep : d[j] ≤ d[j + 1] := List.pairwise_iff_getElem.1 hd j (j + 1) (by omega) (by omega) (by omega)
      by_cases hk : d[j + 1] = d[j]
      · have : Lib.keeps d.toArray (j + 1) = false := by simp [Lib.keeps, e, e2, hk]
        rw [this]
        simp only [Bool.false_eq_true, if_false, List.append_nil]
        refine ⟨h1, fun x => ?_⟩
        rw [h2, List.mem_append]
        constructor
        · exact .inl
        · rintro (h | h)
          · exact h
          · rw [List.mem_singleton.1 h, hk]; exact List.mem_take_iff_getElem.2 ⟨j, by omega, rfl⟩
      · have : Lib.keeps d.toArray (j + 1) = true := by simp [Lib.keeps, e, e2, hk]
        rw [this]
        simp only [if_true]
        have hlt : d[j] < d[j + 1] := lt_tot _ _ (fun h => hstep h) hk
        refine ⟨List.pairwise_append.2 ⟨h1, by simp, fun a ha b hb => ?_⟩, fun x => ?_⟩
        · rw [List.mem_singleton.1 hb]
          have := hle a ((h2 a).1 ha)
          by_cases hq : a = d[j]
          · rw [hq]; exact hlt
          · exact lt_tr (lt_tot _ _ (fun h => this h) (fun e => hq e.symm)) hlt
        · rw [List.mem_append, h2, List.mem_append]
theorem srt_str (zs : List Tx) : Str (srt zs) ∧ ∀ x, x ∈ srt zs ↔ x ∈ zs := by
  have hp : (zs.mergeSort fun x y => decide (x ≤ y)).Pairwise (· ≤ ·) := by
    have := List.pairwise_mergeSort (le := fun x y : Tx => decide (x ≤ y)) (fun a b c h1 h2 => by simp only [decide_eq_true_eq] at *; exact List.le_trans h1 h2) (fun a b => by simp only [Bool.or_eq_true, decide_eq_true_eq]; exact List.le_total a b) zs
    exact this.imp fun h => by simpa using h
  have := compact_up _ hp _ (Nat.le_refl _)
  refine ⟨this.1, fun x => ?_⟩
  have h2 := this.2 x
  rw [List.take_length] at h2
  exact h2.trans List.mem_mergeSort
end Go.Bee.C23s


namespace Go.Bee
theorem b_callm {P : Program} {inn : Option (List BN)} {fl : AF} {K : St → Prop} {st : St} {d : Nat} {xs : List Operand} {ts : Array TypeId} {ty : TypeId} {pos : String} {af : Array Edge} {g : Option (Nat × Bool)} {f : Nat} {ys : List PV} {r : PV}
    (hret : BRet P f [] ys r []) (hmv : fl.mv = true) (hys : xs.map st.ev = ys) (hp : (xs.map st.ev).all PV.passable = true) (hg : r.gives = true) (hnd : (tmpsOf xs).Nodup) (k : K ((st.strip (tmpsOf xs)).put d r)) :
    bcallD P inn fl ⟨some d, .call ⟨.value (.func f), xs.toArray, ts⟩, ty, pos, af, g⟩ K st := by
  refine bcallD_of (fun B2 => .call _ _ (.func f) xs f [] ys [] [] [] ⟨⟨ts, rfl⟩, rfl, by rw [← hys]; simp, fun i x y hx hy => ?_, fun _ => hnd, by simp, rfl, by simp, by simp, by simp, hg, hret, by simp, rfl⟩) ?_
  · rw [List.append_nil, ev_at, hys] at hx
    have e : x = y := Option.some.inj (hx.symm.trans hy)
    subst e
    have h1 : x ∈ ys := List.mem_of_getElem? hx
    rw [hys] at hp
    have := Pass.val (P := P) (B := vz fl B2) (mv := fl.mv) (nm := []) x (List.all_eq_true.1 hp x h1)
    rw [hmv] at this
    exact hmv ▸ this
  · rw [after_pure rfl, hmv, mvs_true]
    have e : tmpsOf (Op.call ⟨.value (.func f), xs.toArray, ts⟩).operands.toList = tmpsOf xs := by simp [Op.operands, Call.operands, tmpsOf]
    rw [e]; exact k
end Go.Bee
namespace Go.Bee.Ty
open Go Go.Bee Go.Proofs
theorem bofH (H : Nat → List Nat) {f : Nat} {fn : Func} {c : Code} {rs : List ResultVar} {args : List PV} {r : PV} (hf : Tryz.prog.funcs[f]? = some fn) (h : bwp Tryz.prog H c (endK Tryz.prog rs r []) (St.init args [])) (hb : fn.body = some c := by exact rfl) (hrs : fn.results = rs.toArray := by exact rfl)
    (hn : (fn.name != "runtime.NumGoroutine") = true := by kernel_rfl) (hd : cOk Tryz.prog H fn.ntmps c = true := by kernel_rfl) (ha : args.length ≤ fn.ntmps := by exact Nat.le_of_ble_eq_true rfl) : BRet Tryz.prog f [] args r [] :=
  BRet.of_body H mixed hf hb hn hd hrs rfl ha h
end Go.Bee.Ty
namespace Go.Bee.Cn
open Go Go.Bee Go.Bee.Ty Go.Bee.C23s Go.Bee.Da Go.Bee.C24d
set_option linter.unusedVariables false
structure Cl where
  id : Tx
  k : Int
  p : Int
  a : Tx
  o : Int
  am : Int
  w : Cd
  wi : Int
  rp : Tx
def Cl.e (x : Cl) : PD := .agg [.str x.id, .int .i64 x.k, .int .i64 x.p, .str x.a, .int .i64 x.o, .int .i64 x.am, .int .i64 x.w.op, .str x.w.nm, .int .i64 x.w.dy, .sl 4 (x.w.ps.map Cd.e), .int .i64 x.wi, .str x.rp]
structure Ct where
  ps : List Tx
  cs : List Cl
theorem Cl.e_eq : ∀ x : Cl, x.e = .agg [.str x.id, .int .i64 x.k, .int .i64 x.p, .str x.a, .int .i64 x.o, .int .i64 x.am, .int .i64 x.w.op, .str x.w.nm, .int .i64 x.w.dy, .sl 4 (x.w.ps.map Cd.e), .int .i64 x.wi, .str x.rp] := fun _ => rfl
theorem Cd.eta (c : Cd) : c = .mk c.op c.nm c.dy c.ps := by cases c; rfl
theorem szF_ok {α : Type} {f : α → Int → Int} (h : Nice f) {p : α → Prop} (hp : ∀ a (x : Int), 0 ≤ x → x ≤ 1048576 → 0 ≤ f a x → p a) : ∀ (l : List α) (x : Int), 0 ≤ x → x ≤ 1048576 → 0 ≤ szF f l x → ∀ a ∈ l, p a
  | [], x, _, _, _ => by simp
  | b :: l, x, hx, hx2, hn => by
    unfold szF at hn
    split at hn
    · omega
    · rename_i hb
      intro a ha
      rcases List.mem_cons.1 ha with rfl | ha
      · exact hp _ x hx hx2 (by omega)
      · refine szF_ok h hp l (f b x) (by omega) ?_ hn a ha
        rcases h b x hx with e | e <;> omega
theorem szL_ok {α : Type} {f : α → Int → Int} (h : Nice f) {p : α → Prop} (hp : ∀ a (x : Int), 0 ≤ x → x ≤ 1048576 → 0 ≤ f a x → p a) (l : List α) (x : Int) (h0 : 0 ≤ x) (h1 : x ≤ 1048576) (hn : 0 ≤ szL f l x) : ∀ a ∈ l, p a := by
  unfold szL at hn
  split at hn
  · omega
  · exact szF_ok h hp l _ (by omega) (by omega) hn
theorem es_inj : ∀ n : Nat, (∀ a b : Cd, a.size ≤ n → a.e = b.e → a = b) ∧ ∀ l m : List Cd, Cd.sizes l ≤ n → l.map Cd.e = m.map Cd.e → l = m := by
  intro n
  induction n using Nat.strongRecOn with
  | _ n ih =>
    have h1 : ∀ a b : Cd, a.size ≤ n → a.e = b.e → a = b := fun a b hs h => by
      rw [Cd.e_eq a, Cd.e_eq b] at h
      simp only [PD.agg.injEq, List.cons.injEq, PD.int.injEq, PD.str.injEq, PD.sl.injEq, true_and, and_true] at h
      obtain ⟨h1, h2, h3, h4⟩ := h
      have hz := size_eq a
      have h5 := (ih (Cd.sizes a.ps) (by omega)).2 a.ps b.ps (Nat.le_refl _) h4
      rw [Cd.eta a, Cd.eta b, h1, h2, h3, h5]
    refine ⟨h1, fun l => ?_⟩
    induction l with
    | nil => intro m _ h; cases m with
      | nil => rfl
      | cons b m => simp at h
    | cons a l ihl => intro m hs h; cases m with
      | nil => simp at h
      | cons b m =>
        simp only [List.map_cons, List.cons.injEq] at h
        rw [sizes_cons] at hs
        rw [h1 a b (by omega) h.1, ihl m (by omega) h.2]
theorem Cd.inj (a b : Cd) (h : a.e = b.e) : a = b := (es_inj a.size).1 a b (Nat.le_refl _) h
theorem Cl.inj (a b : Cl) (h : a.e = b.e) : a = b := by
  rw [Cl.e_eq a, Cl.e_eq b] at h
  simp only [PD.agg.injEq, List.cons.injEq, PD.int.injEq, PD.str.injEq, PD.sl.injEq, true_and, and_true] at h
  obtain ⟨h1, h2, h3, h4, h5, h6, h7, h8, h9, h10, h11, h12⟩ := h
  have hw : a.w = b.w := by
    rw [Cd.eta a.w, Cd.eta b.w, h7, h8, h9, map_inj Cd.inj _ _ h10]
  cases a; cases b
  simp_all
mutual
def nms : Cd → List Tx
  | .mk o n _ ps => (if o = 2 then [n] else []) ++ nmsL ps
def nmsL : List Cd → List Tx
  | [] => []
  | c :: l => nms c ++ nmsL l
end
theorem nmsL_eq : ∀ l : List Cd, nmsL l = l.flatMap nms
  | [] => by rw [nmsL]; rfl
  | c :: l => by rw [nmsL, nmsL_eq l]; rfl
theorem nms_eq (c : Cd) : nms c = (if c.op = 2 then [c.nm] else []) ++ c.ps.flatMap nms := by cases c; rw [nms, nmsL_eq]; rfl
theorem flatMap_len {α : Type} {f : α → List Tx} {g : α → Nat} : ∀ {l : List α}, (∀ a ∈ l, (f a).length ≤ g a) → (l.flatMap f).length ≤ (l.map g).sum
  | [], _ => by simp
  | a :: l, h => by
    have h1 := h a (List.mem_cons_self ..)
    have h2 := flatMap_len (l := l) (fun b hb => h b (List.mem_cons_of_mem _ hb))
    simp only [List.flatMap_cons, List.length_append, List.map_cons, List.sum_cons]; omega
theorem sizes_sum : ∀ l : List Cd, Cd.sizes l = (l.map Cd.size).sum
  | [] => by rw [sizes_nil]; rfl
  | c :: l => by rw [sizes_cons, sizes_sum l]; rfl
theorem nms_len (c : Cd) : (nms c).length ≤ c.size := by
  refine Cd.ind (P := fun c => (nms c).length ≤ c.size) (fun c ih => ?_) c
  have := flatMap_len (f := nms) (g := Cd.size) ih
  rw [nms_eq, size_eq, sizes_sum, List.length_append]
  split <;> simp only [List.length_cons, List.length_nil] <;> omega
mutual
def spN : Cd → List Tx → List Tx
  | .mk o n _ ps, out => if o = 2 then put out n else spNL ps out
def spNL : List Cd → List Tx → List Tx
  | [], out => out
  | c :: l, out => spNL l (spN c out)
end
theorem spNL_eq : ∀ (l : List Cd) (out : List Tx), spNL l out = l.foldl (fun o c => spN c o) out
  | [], out => by rw [spNL]; rfl
  | c :: l, out => by rw [spNL, spNL_eq l]; rfl
theorem spN_eq (c : Cd) (out : List Tx) : spN c out = if c.op = 2 then put out c.nm else c.ps.foldl (fun o c => spN c o) out := by cases c; rw [spN, spNL_eq]; rfl
theorem fold_str {α : Type} {f : List Tx → α → List Tx} : ∀ (l : List α), (∀ a ∈ l, ∀ o, Str o → Str (f o a)) → ∀ o, Str o → Str (l.foldl f o)
  | [], _, o, h => h
  | a :: l, hf, o, h => fold_str l (fun b hb => hf b (List.mem_cons_of_mem _ hb)) _ (hf a (List.mem_cons_self ..) o h)
theorem fold_mem {α : Type} {f : List Tx → α → List Tx} {g : α → List Tx} : ∀ (l : List α), (∀ a ∈ l, ∀ o x, x ∈ f o a ↔ x ∈ o ∨ x ∈ g a) → ∀ o x, x ∈ l.foldl f o ↔ x ∈ o ∨ x ∈ l.flatMap g
  | [], _, o, x => by simp
  | a :: l, hf, o, x => by
    rw [List.foldl_cons, fold_mem l (fun b hb => hf b (List.mem_cons_of_mem _ hb)), hf a (List.mem_cons_self ..), List.flatMap_cons, List.mem_append, or_assoc]
theorem spN_str (c : Cd) : ∀ o, Str o → Str (spN c o) := by
  refine Cd.ind (P := fun c => ∀ o, Str o → Str (spN c o)) (fun c ih o h => ?_) c
  rw [spN_eq]
  split
  · exact put_str _ _ h
  · exact fold_str c.ps ih o h
theorem spN_mem (c : Cd) : forms c = true → ∀ (o : List Tx) (x : Tx), x ∈ spN c o ↔ x ∈ o ∨ x ∈ nms c := by
  refine Cd.ind (P := fun c => forms c = true → ∀ (o : List Tx) (x : Tx), x ∈ spN c o ↔ x ∈ o ∨ x ∈ nms c) (fun c ih hf o x => ?_) c
  have hc := forms_cases hf
  rw [forms_eq, Bool.and_eq_true] at hf
  rw [spN_eq, nms_eq]
  split
  · rename_i h2
    have hps : c.ps = [] := by
      rcases hc with h | h | h | h | h | h
      · omega
      · exact h.2.1
      all_goals omega
    rw [put_mem, hps]
    simp only [List.flatMap_nil, List.append_nil, List.mem_singleton]
    exact Or.comm
  · rw [fold_mem c.ps (fun a ha o x => ih a ha (List.all_eq_true.1 hf.2 a ha) o x)]
    simp
def clN (x : Cl) : List Tx := x.a :: nms x.w
def allNm (l : List Cl) : List Tx := l.flatMap clN
def spCl (o : List Tx) (x : Cl) : List Tx := spN x.w (put o x.a)
def names2 (l : List Cl) : List Tx := l.foldl spCl []
theorem names_srt (l : List Cl) (h : ∀ x ∈ l, forms x.w = true) : srt (allNm l) = names2 l := by
  refine Str.eq (srt_str _).1 ?_ fun x => ?_
  · exact fold_str l (fun a _ o ho => spN_str _ _ (put_str _ _ ho)) [] List.Pairwise.nil
  · rw [(srt_str _).2]
    unfold names2
    rw [fold_mem (g := clN) l (fun a ha o y => ?_)]
    · simp [allNm]
    · unfold spCl clN
      rw [spN_mem _ (h a ha), put_mem, List.mem_cons]
      constructor
      · rintro ((h | h) | h) <;> simp [h]
      · rintro (h | h | h) <;> simp [h]
def find (l : List Cl) (s : Tx) : Int := idx (fun x => x.id == s) l 0
def repOk (l : List Cl) (i : Nat) (x : Cl) : Bool :=
  x.rp.isEmpty || (decide (x.k ≠ 3) && decide (find l x.rp ≥ 0) && decide (find l x.rp ≠ i) && decide (((l[(find l x.rp).toNat]?).map Cl.k) = some 1))
def clOk (c : Ct) (i : Nat) (x : Cl) : Bool :=
  (vName x.id && decide (find c.cs x.id = i) && vName x.a && inB x.k 1 4) && (inB x.p 0 (c.ps.length - 1) && inB x.o 0 (c.ps.length - 1) && decide (x.p ≠ x.o) && okCd x.w) &&
  (inB x.am 0 1000000 && inB x.wi 0 400 && (decide (x.k = 1) || (decide (x.am = 0) && decide (x.wi = 0)))) && repOk c.cs i x
def clAt (c : Ct) (i : Nat) : Bool := match c.cs[i]? with | some x => clOk c i x | none => true
def clsOk (c : Ct) : Bool := (List.range c.cs.length).all (clAt c)
def ctOk (c : Ct) : Bool := parOk c.ps && inB c.cs.length 1 12 && clsOk c && decide ((names2 c.cs).length ≤ 16)
def clE (p o : Tx) (x : Cl) : Tx :=
  [67, 108, 97, 117, 115, 101, 32] ++ x.id ++ [58, 32] ++
  (if x.k = 4 then [66, 121, 32, 100, 111, 105, 110, 103, 32] ++ x.a ++ [32, 116, 111, 119, 97, 114, 100, 32] ++ o ++ [44, 32] ++ p ++ (if x.rp = [] then [32, 101, 110, 100, 115, 32, 116, 104, 101, 32, 99, 111, 110, 116, 114, 97, 99, 116, 44, 32, 119, 104, 105, 108, 101, 32] ++ (eng x.w ++ [46]) else [32, 112, 117, 116, 115, 32, 99, 108, 97, 117, 115, 101, 32] ++ x.rp ++ [32, 105, 110, 116, 111, 32, 102, 111, 114, 99, 101, 44, 32, 119, 104, 105, 108, 101, 32] ++ (eng x.w ++ [46]))
   else (if x.k = 1 then p ++ [32, 115, 104, 97, 108, 108, 32, 100, 111, 32] ++ x.a ++ [32, 102, 111, 114, 32] ++ o ++ (if x.am > 0 then [32, 97, 110, 100, 32, 112, 97, 121, 32] ++ amtN x.am else []) ++ [32, 119, 105, 116, 104, 105, 110, 32] ++ num x.wi ++ [32, 100, 97, 121, 115, 44, 32, 111, 110, 99, 101, 32] ++ (eng x.w ++ [46])
     else if x.k = 2 then p ++ [32, 115, 104, 97, 108, 108, 32, 110, 111, 116, 32, 100, 111, 32] ++ x.a ++ [32, 97, 103, 97, 105, 110, 115, 116, 32] ++ o ++ [44, 32, 119, 104, 105, 108, 101, 32] ++ (eng x.w ++ [46])
     else p ++ [32, 109, 97, 121, 32, 100, 111, 32] ++ x.a ++ [32, 102, 111, 114, 32] ++ o ++ [44, 32, 119, 104, 105, 108, 101, 32] ++ (eng x.w ++ [46])) ++ (if x.rp = [] then [] else [32, 79, 116, 104, 101, 114, 119, 105, 115, 101, 32, 99, 108, 97, 117, 115, 101, 32] ++ x.rp ++ [32, 97, 112, 112, 108, 105, 101, 115, 46]))
end Go.Bee.Cn


namespace Go.Bee.C24x
open Go Go.Bee Go.Proofs Go.Bee.Ty Go.Bee.Cn
theorem tys : type_of% (And.intro Go.Bee.C24n.tys Cl.e_eq) := And.intro Go.Bee.C24n.tys Cl.e_eq
end Go.Bee.C24x
namespace Go.Bee.C24x
open Go Go.Bee Go.Proofs Go.Bee.Ty Go.Bee.C23 Go.Bee.C23s Go.Bee.Da Go.Bee.C24 Go.Bee.C24c Go.Bee.C24d Go.Bee.C24n Go.Bee.Cn
set_option linter.unusedVariables false
set_option maxRecDepth 20000
attribute [local irreducible] Go.Bee.bwp
def szCl (x : Cl) (l : Int) : Int := if l - x.id.length < 0 then -1 else if l - x.id.length - x.a.length < 0 then -1 else if szC x.w (l - x.id.length - x.a.length) < 0 then -1 else
  if szC x.w (l - x.id.length - x.a.length) - x.rp.length < 0 then -1 else szC x.w (l - x.id.length - x.a.length) - x.rp.length
theorem szCl_nice : Nice szCl := fun x l hl => by
  unfold szCl
  split
  · exact .inl rfl
  split
  · exact .inl rfl
  have := szC_nice x.w (l - x.id.length - x.a.length) (by omega)
  split
  · exact .inl rfl
  split
  · exact .inl rfl
  · omega
theorem szCl_size (x : Cl) (l : Int) (h0 : 0 ≤ l) (h1 : l ≤ 1048576) (h : 0 ≤ szCl x l) : x.w.size ≤ 1048577 := by
  unfold szCl at h
  split at h
  · omega
  split at h
  · omega
  split at h
  · omega
  have := szC_size x.w (l - x.id.length - x.a.length) (by omega) (by omega)
  omega
theorem szClause_b (x : Cl) (l : Int) (h0 : 0 ≤ l) (h1 : l ≤ 1048576) : BRet Tryz.prog 47 [] [.agg [.str x.id, .int x.k, .int x.p, .str x.a, .int x.o, .int x.am, .int x.w.op, .str x.w.nm, .int x.w.dy, .d (.sl 4 (x.w.ps.map Cd.e)), .int x.wi, .str x.rp], .int l] (.int (szCl x l)) [] := by
  refine BRet.aslen 0 0 (by kernel_rfl) rfl rfl fun hl0 => ?_
  refine BRet.aslen 0 3 (by kernel_rfl) rfl rfl fun hl3 => ?_
  refine BRet.aslen 0 11 (by kernel_rfl) rfl rfl fun hl11 => ?_
  have hc := fun h2 => szCondition_b x.w (l - x.id.length - x.a.length) h2 (by omega)
  have hn := szC_nice x.w (l - x.id.length - x.a.length)
  unfold szCl
  refine bof Tryz.func47 ?_
  generalize x.w.op = o at *
  generalize x.w.nm = n at *
  generalize x.w.dy = d at *
  generalize x.w.ps = ps at *
  by_cases g1 : l - (x.id.length : Int) < 0
  · rw [if_pos g1]
    clear hc hn
    refine bgo ?_
    trivial
  rw [if_neg g1]
  by_cases g2 : l - (x.id.length : Int) - x.a.length < 0
  · rw [if_pos g2]
    clear hc hn
    refine bgo ?_
    trivial
  rw [if_neg g2]
  have hc := hc (by omega)
  have hn := hn (by omega)
  generalize szC x.w (l - (x.id.length : Int) - x.a.length) = z at *
  by_cases g3 : z < 0
  · rw [if_pos g3]
    refine bgo ?_
    refine b_call hc rfl rfl rfl rfl ?_
    refine bgo ?_
    trivial
  rw [if_neg g3]
  by_cases g4 : z - (x.rp.length : Int) < 0
  · rw [if_pos g4]
    refine bgo ?_
    refine b_call hc rfl rfl rfl rfl ?_
    refine bgo ?_
    trivial
  rw [if_neg g4]
  refine bgo ?_
  refine b_call hc rfl rfl rfl rfl ?_
  refine bgo ?_
  trivial
theorem szClauseS_b (l : List Cl) (x : Int) (h0 : 0 ≤ x) (hx : x ≤ 1048576) : BRet Tryz.prog 20 [] [.d (.sl 12 (l.map Cl.e)), .int x] (.int (szL szCl l x)) [] := by
  refine BRet.len 0 (by kernel_rfl) rfl fun hl => ?_
  simp only [List.length_map] at hl
  refine bof Tryz.func20 ?_
  generalize hr : szL szCl l x = r
  unfold szL at hr
  by_cases hneg : x - (l.length : Int) < 0
  · rw [if_pos hneg] at hr
    subst hr
    refine bgo ?_
    trivial
  · rw [if_neg hneg] at hr
    refine bgo ?_
    refine b_lp (ι := Nat × Int) (fun i => [(0, .d (.sl 12 (l.map Cl.e))), (1, .int i.2), (5, .int i.1)]) (fun _ => []) (fun i => i.1 ≤ l.length ∧ 0 ≤ i.2 ∧ i.2 ≤ x ∧ szF szCl (l.drop i.1) i.2 = r) (fun i => l.length - i.1) (0, x - l.length) hs ⟨Nat.zero_le _, by dsimp only; omega, by dsimp only; omega, hr⟩ ?_
    clear hr
    rintro ⟨k, y⟩ ⟨hk, hy0, hyx, hj⟩ I nx
    dsimp only at hk hy0 hyx hj ⊢
    by_cases hlt : k < l.length
    · have hx : l[k]? = some l[k] := List.getElem?_eq_getElem hlt
      have hc := szClause_b l[k] y hy0 (by omega)
      have hn := szCl_nice l[k] y hy0
      rw [szF_step hlt] at hj
      have hb : (k : Int) + 1 ≤ 1099511627776000 := by omega
      generalize hgs : l[k] = s at *
      generalize szCl s y = z at *
      by_cases hb2 : z < 0
      · rw [if_pos hb2] at hj
        subst hj
        refine bgo ?_
        refine b_call hc rfl rfl rfl rfl ?_
        refine bgo ?_
        trivial
      · rw [if_neg hb2] at hj
        refine bgo ?_
        refine b_call hc rfl rfl rfl rfl ?_
        refine bgo ?_
        exact nx.go (k + 1, z) ⟨hlt, by dsimp only; omega, by dsimp only; omega, hj⟩ (by dsimp only; omega) hs
    · have hk' : k = l.length := by omega
      subst hk'
      rw [List.drop_length] at hj
      have hj2 : y = r := hj
      subst hj2
      clear hj
      refine bgo ?_
      refine wk_rfl ?_
      refine bgo ?_
      trivial
def szCt (c : Ct) (x : Int) : Int := if szL szTx c.ps x < 0 then -1 else if szL szCl c.cs (szL szTx c.ps x) < 0 then -1 else szL szCl c.cs (szL szTx c.ps x)
def CtOk (c : Ct) : Prop := c.ps.length ≤ 1048576 ∧ c.cs.length ≤ 1048576 ∧ ∀ x ∈ c.cs, x.w.size ≤ 1048577
theorem szCt_nice (c : Ct) (x : Int) (h0 : 0 ≤ x) : szCt c x = -1 ∨ (0 ≤ szCt c x ∧ szCt c x ≤ x) := by
  have h1 := szL_nice szTx_nice c.ps x h0
  have h2 := szL_nice szCl_nice c.cs (szL szTx c.ps x)
  unfold szCt
  split
  · exact .inl rfl
  split
  · exact .inl rfl
  · have := h2 (by omega); omega
theorem szCt_ok (c : Ct) (x : Int) (h0 : 0 ≤ x) (h1 : x ≤ 1048576) (h : 0 ≤ szCt c x) : CtOk c := by
  have g1 := szL_nice szTx_nice c.ps x h0
  unfold szCt at h
  split at h
  · omega
  split at h
  · omega
  have h2 := szL_len szTx_nice c.ps x h0 (by omega)
  have h3 := szL_len szCl_nice c.cs (szL szTx c.ps x) (by omega) (by omega)
  have h4 := szL_ok szCl_nice szCl_size c.cs (szL szTx c.ps x) (by omega) (by omega) (by omega)
  exact ⟨by omega, by omega, h4⟩
theorem szContract_b (c : Ct) (x : Int) (h0 : 0 ≤ x) (h1 : x ≤ 1048576) : BRet Tryz.prog 6 [] [.agg [.d (.sl 1 (c.ps.map .str)), .d (.sl 12 (c.cs.map Cl.e))], .int x] (.int (szCt c x)) [] := by
  have hs1 := szStringS_b c.ps x h0 h1
  have hs2 := fun h2 h3 => szClauseS_b c.cs (szL szTx c.ps x) h2 h3
  have hn1 := szL_nice szTx_nice c.ps x h0
  unfold szCt
  generalize szL szTx c.ps x = y at *
  refine bof Tryz.func6 ?_
  by_cases g1 : y < 0
  · rw [if_pos g1]
    clear hs2
    refine bgo ?_
    refine b_call hs1 rfl rfl rfl rfl ?_
    refine bgo ?_
    trivial
  rw [if_neg g1]
  have hs2 := hs2 (by omega) (by omega)
  generalize szL szCl c.cs y = z at *
  by_cases g2 : z < 0
  · rw [if_pos g2]
    refine bgo ?_
    refine b_call hs1 rfl rfl rfl rfl ?_
    refine bgo ?_
    refine b_call hs2 rfl rfl rfl rfl ?_
    refine bgo ?_
    trivial
  rw [if_neg g2]
  refine bgo ?_
  refine b_call hs1 rfl rfl rfl rfl ?_
  refine bgo ?_
  refine b_call hs2 rfl rfl rfl rfl ?_
  refine bgo ?_
  trivial
def Cl.z : List PV := [.d (.str []), .int 0, .int 0, .d (.str []), .int 0, .int 0, .int 0, .d (.str []), .int 0, .nilS, .int 0, .d (.str [])]
theorem toClause_b (x : Cl) (h : x.w.size ≤ 1048577) : BRet Tryz.prog 55 [] [.agg [.str x.id, .int x.k, .int x.p, .str x.a, .int x.o, .int x.am, .int x.w.op, .str x.w.nm, .int x.w.dy, .d (.sl 4 (x.w.ps.map Cd.e)), .int x.wi, .str x.rp]]
    (.agg [.str x.id, .int x.k, .int x.p, .str x.a, .int x.o, .int x.am, .int x.w.op, .str x.w.nm, .int x.w.dy, .own 64 4 (x.w.ps.map Cd.e), .int x.wi, .str x.rp]) [] := by
  have hc := toCondition_b x.w h
  refine bof Tryz.func55 ?_
  generalize x.w.op = o at *
  generalize x.w.nm = n at *
  generalize x.w.dy = d at *
  generalize x.w.ps = ps at *
  refine bgo ?_
  refine b_call hc rfl rfl rfl rfl ?_
  refine bgo ?_
  trivial
theorem cl_cells (l : List Cl) : ∀ x ∈ l.map Cl.e, x.cells.length = 12 := fun x hx => by obtain ⟨y, _, rfl⟩ := List.mem_map.1 hx; rfl
theorem toClauseS_b (l : List Cl) (hl : l.length ≤ 1048576) (ho : ∀ x ∈ l, x.w.size ≤ 1048577) : BRet Tryz.prog 25 [] [.d (.sl 12 (l.map Cl.e))] (.own 66 12 (l.map Cl.e)) [] := by
  refine bof Tryz.func25 ?_
  have hce := cl_cells l
  refine bgo ?_
  refine ⟨by omega, by omega, ?_⟩
  refine b_loop (fun n st => ∃ k : Nat, n = l.length - k ∧ k ≤ l.length ∧ st.tm 0 = .d (.sl 12 (l.map Cl.e)) ∧ st.tm 3 = .rsl (.t 7) 66 12 l.length ∧ st.tm 4 = .int k ∧ st.bx (.t 7) = some (filling (l.map Cl.e) Cl.z l.length k) ∧ ∀ b, b ≠ .t 7 → st.bx b = none) l.length
    ⟨0, rfl, Nat.zero_le _, rfl, rfl, rfl, by rw [filling_0]; rfl, fun b hb => by simp [bx_put, bx_strip1, bx_sbx, bx_init, bxOf_nil, hb]⟩ ?_
  rintro n st ⟨k, rfl, hk, t0, t3, t4, t7, hb⟩
  by_cases hlt : k < l.length
  · have hx : l[k]? = some l[k] := List.getElem?_eq_getElem hlt
    have hc := toClause_b l[k] (ho _ (List.getElem_mem hlt))
    have hfl := filling_len (l := l.map Cl.e) (zero := Cl.z) (n := l.length) (k := k) (sz := 12) rfl hce (by simp) hk
    have hfs := filling_step (l := l.map Cl.e) (zero := Cl.z) (n := l.length) (k := k) (sz := 12) rfl hce (by simp) (by simpa using hlt)
    have hfb : (List.take (k * 12) (filling (l.map Cl.e) Cl.z l.length k) ++ [PV.str l[k].id, PV.int l[k].k, PV.int l[k].p, PV.str l[k].a, PV.int l[k].o, PV.int l[k].am, PV.int l[k].w.op, PV.str l[k].w.nm, PV.int l[k].w.dy, PV.own 64 4 (l[k].w.ps.map Cd.e), PV.int l[k].wi, PV.str l[k].rp] ++ List.drop (k * 12 + 12) (filling (l.map Cl.e) Cl.z l.length k)).map PV.bC = filling (l.map Cl.e) Cl.z l.length (k + 1) := by
      rw [List.map_append, List.map_append, List.map_take, List.map_drop, filling_bC rfl, ← hfs, List.getElem_map, Cl.e_eq]; rfl
    clear hce hfs ho
    refine bgo ?_
    refine b_call hc rfl rfl rfl rfl ?_
    refine bgo ?_
    refine ⟨by omega, _, _, Weak.bC (.t 7), by omega, k + 1, rfl, hlt, t0, t3, rfl, congrArg some hfb, fun b hne => ?_⟩
    have := hb b hne
    simp [bx_put, bx_strip1, bx_sbx, hne, this]
  · have hk' : k = l.length := by omega
    subst hk'
    clear ho
    refine bgo ?_
    refine made (t := 3) (l := l.map Cl.e) t3 (t7.trans ?_) (by simp) hce hb fun s s3 hb => ?_
    · rw [← filling_n (l.map Cl.e) Cl.z, List.length_map]
    refine bgo ?_
    trivial
theorem toContract_b (c : Ct) (h : CtOk c) : BRet Tryz.prog 8 [] [.agg [.d (.sl 1 (c.ps.map .str)), .d (.sl 12 (c.cs.map Cl.e))]] (.agg [.own 9 1 (c.ps.map .str), .own 66 12 (c.cs.map Cl.e)]) [] := by
  have h1 := toStringS_b c.ps h.1
  have h2 := toClauseS_b c.cs h.2.1 h.2.2
  refine bof Tryz.func8 ?_
  refine bgo ?_
  refine b_call h1 rfl rfl rfl rfl ?_
  refine bgo ?_
  refine b_call h2 rfl rfl rfl rfl ?_
  refine bgo ?_
  trivial
theorem eqClause_s (x : Cl) : BRet Tryz.prog 62 [] [.agg [.str x.id, .int x.k, .int x.p, .str x.a, .int x.o, .int x.am, .int x.w.op, .str x.w.nm, .int x.w.dy, .d (.sl 4 (x.w.ps.map Cd.e)), .int x.wi, .str x.rp], .agg [.str x.id, .int x.k, .int x.p, .str x.a, .int x.o, .int x.am, .int x.w.op, .str x.w.nm, .int x.w.dy, .d (.sl 4 (x.w.ps.map Cd.e)), .int x.wi, .str x.rp]] (.bool true) [] := by
  have hc := eqCondition_s x.w
  refine bof Tryz.func62 ?_
  generalize x.w.op = o at *
  generalize x.w.nm = n at *
  generalize x.w.dy = d at *
  generalize x.w.ps = ps at *
  refine bgo ?_
  refine b_call hc rfl rfl rfl rfl ?_
  refine bgo ?_
  trivial
theorem eqClauseS_s (l : List Cl) : BRet Tryz.prog 30 [] [.d (.sl 12 (l.map Cl.e)), .d (.sl 12 (l.map Cl.e))] (.bool true) [] := by
  refine BRet.len 0 (by kernel_rfl) rfl fun hl => ?_
  simp only [List.length_map] at hl
  refine bof Tryz.func30 ?_
  refine bgo ?_
  refine b_lp (ι := Nat × Unit) (fun i => [(0, .d (.sl 12 (l.map Cl.e))), (1, .d (.sl 12 (l.map Cl.e))), (5, .int i.1)]) (fun _ => []) (fun i => i.1 ≤ l.length) (fun i => l.length - i.1) (0, ()) hs (Nat.zero_le _) ?_
  rintro ⟨i, u⟩ hi I nx
  dsimp only at hi ⊢
  by_cases hlt : i < l.length
  · have hx : l[i]? = some l[i] := List.getElem?_eq_getElem hlt
    have hc := eqClause_s l[i]
    generalize l[i] = x at *
    have hib : (i : Int) + 1 ≤ 1099511627776000 := by omega
    refine bgo ?_
    refine b_call hc rfl rfl rfl rfl ?_
    refine bgo ?_
    exact nx.go (i + 1, ()) hlt (by dsimp only; omega) hs
  · have hlt2 : ¬ i < l.length := by omega
    refine bgo ?_
    refine wk_rfl ?_
    refine bgo ?_
    trivial
theorem eqContract_s (c : Ct) : BRet Tryz.prog 10 [] [.agg [.d (.sl 1 (c.ps.map .str)), .d (.sl 12 (c.cs.map Cl.e))], .agg [.d (.sl 1 (c.ps.map .str)), .d (.sl 12 (c.cs.map Cl.e))]] (.bool true) [] := by
  have h1 := eqStringS_s c.ps
  have h2 := eqClauseS_s c.cs
  refine bof Tryz.func10 ?_
  refine bgo ?_
  refine b_call h1 rfl rfl rfl rfl ?_
  refine bgo ?_
  refine b_call h2 rfl rfl rfl rfl ?_
  refine bgo ?_
  trivial
end Go.Bee.C24x


namespace Go.Bee.C24x
open Go Go.Bee Go.Proofs Go.Bee.Ty Go.Bee.C23 Go.Bee.C23s Go.Bee.Da Go.Bee.C24 Go.Bee.C24c Go.Bee.C24d Go.Bee.C24n Go.Bee.Cn
set_option linter.unusedVariables false
set_option maxRecDepth 20000
attribute [local irreducible] Go.Bee.bwp
theorem indexFuncClause_b (ok : Cl → Prop) (l : List Cl) (hok : ∀ a ∈ l, ok a) (p : Cl → Bool) : BRet Tryz.prog 132 [] [.d (.sl 12 (l.map Cl.e)), .fn (Kof ok Cl.e p)] (.int (idx p l 0)) [] := by
  refine BRet.len 0 (by kernel_rfl) rfl fun hl => ?_
  refine bof Tryz.func132 ?_
  simp only [List.length_map] at hl
  generalize hr : idx p l 0 = r
  refine bgo ?_
  refine b_loop (fun n st => ∃ k : Nat, n = l.length - k ∧ k ≤ l.length ∧ st.tm 0 = .d (.sl 12 (l.map Cl.e)) ∧ st.tm 1 = .fn (Kof ok Cl.e p) ∧ st.tm 7 = .int l.length ∧ st.tm 8 = .int k ∧ idx p (l.drop k) k = r ∧ ∀ b, st.bx b = none) l.length ⟨0, rfl, Nat.zero_le _, rfl, rfl, rfl, rfl, hr, bxOf_nil⟩ ?_
  clear hr
  rintro n st ⟨k, rfl, hk, t0, t1, t7, t8, hj, hb⟩
  by_cases hlt : k < l.length
  · have hx : l[k]? = some l[k] := List.getElem?_eq_getElem hlt
    refine bgo ?_
    refine b_fnb [Cl.e l[k]] rfl rfl rfl (Kof_e Cl.inj p l[k] (hok _ (List.getElem_mem hlt))) ?_
    refine bgo ?_
    refine ⟨?_, ?_⟩ <;> intro h
    · refine bgo ?_
      rw [idx_step hlt, if_pos h] at hj; rw [← hj]
    · refine bgo ?_
      rw [idx_step hlt, if_neg (by simp [h])] at hj
      exact ⟨_, _, Weak.refl _, by omega, k + 1, rfl, hlt, t0, t1, t7, rfl, hj, hb⟩
  · have hk' : k = l.length := by omega
    subst hk'
    refine bgo ?_
    refine wk_rfl ?_
    refine bgo ?_
    rw [List.drop_length] at hj
    rw [← hj]; rfl
theorem caps1 {fl : AF} {B : Bx} {b : BN} {cells : List PV} {ys : List PD} (hf : fl.bt = true ∨ fl.be = true) (h1 : B b = some cells) (e1 : pdL cells = some ys) :
    capsOf (vz fl B) [.ptr b 0] = some [.eptr ys] := by
  have hv : vz fl B = B := by simp [vz, hf]
  simp [hv, capsOf, capOf, h1, e1]
theorem ci1_b (x : Cl) (s : Tx) : BRet Tryz.prog 133 [] [.agg [.str x.id, .int x.k, .int x.p, .str x.a, .int x.o, .int x.am, .int x.w.op, .str x.w.nm, .int x.w.dy, .d (.sl 4 (x.w.ps.map Cd.e)), .int x.wi, .str x.rp], .eptr [.str s]] (.bool (x.id == s)) [] := by
  refine bof Tryz.func133 ?_
  refine bgo ?_
  trivial
theorem clauseIndex_b (c : Ct) (s : Tx) : BRet Tryz.prog 100 [] [.agg [.d (.sl 1 (c.ps.map .str)), .d (.sl 12 (c.cs.map Cl.e))], .str s] (.int (find c.cs s)) [] := by
  refine bof Tryz.func100 ?_
  refine bgo ?_
  refine b_callc2 (indexFuncClause_b (fun _ => True) c.cs (fun _ _ => trivial) (fun x => x.id == s)) rfl rfl rfl rfl (by exact Kof_ok (caps1 (.inr rfl) rfl rfl) (by kernel_rfl) fun x _ => ci1_b x s) rfl ?_
  refine bgo ?_
  trivial
theorem l6Find_b (c : Ct) (s : Tx) : BRet Tryz.prog 49 [] [.agg [.d (.sl 1 (c.ps.map .str)), .d (.sl 12 (c.cs.map Cl.e))], .str s] (.int (find c.cs s)) [] := by
  refine BRet.alen 0 1 (by kernel_rfl) rfl rfl fun hl => ?_
  rw [List.length_map] at hl
  refine bof Tryz.func49 ?_
  generalize hr : find c.cs s = r
  unfold find at hr
  refine bgo ?_
  refine b_lp (ι := Nat × Unit) (fun i => [(1, .str s), (2, .ptr (.t 2) 0), (5, .int i.1)]) (fun _ => [(.t 2, [.d (.sl 1 (c.ps.map .str)), .d (.sl 12 (c.cs.map Cl.e))])]) (fun i => i.1 ≤ c.cs.length ∧ idx (fun x => x.id == s) (c.cs.drop i.1) i.1 = r) (fun i => c.cs.length - i.1) (0, ()) hs ⟨Nat.zero_le _, hr⟩ ?_
  clear hr
  rintro ⟨k, u⟩ ⟨hk, hj⟩ I nx
  dsimp only at hk hj ⊢
  by_cases hlt : k < c.cs.length
  · have hx : c.cs[k]? = some c.cs[k] := List.getElem?_eq_getElem hlt
    rw [idx_step hlt] at hj
    have hb : (k : Int) + 1 ≤ 1099511627776000 := by omega
    generalize c.cs[k] = x at *
    by_cases he : x.id = s
    · rw [if_pos (by simpa using he)] at hj
      subst hj
      refine bgo ?_
      trivial
    · rw [if_neg (by simpa using he)] at hj
      refine bgo ?_
      exact nx.go (k + 1, ()) ⟨hlt, hj⟩ (by dsimp only; omega) hs
  · have hk' : k = c.cs.length := by omega
    subst hk'
    rw [List.drop_length] at hj
    have hj : -1 = r := hj
    subst hj
    refine bgo ?_
    refine wk_rfl ?_
    refine bgo ?_
    trivial
theorem find_in (l : List Cl) (s : Tx) : find l s = -1 ∨ ∃ m : Nat, find l s = m ∧ m < l.length := by
  unfold find
  rcases idx_find (fun x : Cl => x.id == s) l 0 with ⟨h, -⟩ | ⟨i, h, h2, -⟩
  · exact .inl h
  · exact .inr ⟨i, by rw [h]; simp, h2⟩
set_option maxHeartbeats 4000000 in
theorem isClause_b (c : Ct) (i : Nat) (x : Cl) (hx : c.cs[i]? = some x) : BRet Tryz.prog 57 [] [.agg [.d (.sl 1 (c.ps.map .str)), .d (.sl 12 (c.cs.map Cl.e))], .int i] (.bool (clOk c i x)) [] := by
  refine BRet.alen 0 0 (by kernel_rfl) rfl rfl fun hl0 => ?_
  refine BRet.alen 0 1 (by kernel_rfl) rfl rfl fun hl1 => ?_
  rw [List.length_map] at hl0 hl1
  have hi : i < c.cs.length := (List.getElem?_eq_some_iff.1 hx).1
  obtain ⟨r, hr⟩ : ∃ r, Go.RowKit.Hid (clOk c i x = r) := ⟨_, rfl⟩
  rw [hr.out]
  have hci := fun s => clauseIndex_b c s
  have hfd := fun s => find_in c.cs s
  have hcd := IsValidCondition_b x.w
  have h1p : (1 : Int) ≤ 1 := by decide
  obtain ⟨z, hz⟩ : ∃ z, Go.RowKit.Hid (find c.cs x.id = z) := ⟨_, rfl⟩
  have hc1 := hci x.id
  rw [hz.out] at hc1
  obtain ⟨z2, hz2⟩ : ∃ z2, Go.RowKit.Hid (find c.cs x.rp = z2) := ⟨_, rfl⟩
  have hc2 := hci x.rp
  rw [hz2.out] at hc2
  clear hci
  refine bof Tryz.func57 ?_
  refine bgo ?_
  refine b_call (IsValidName_b x.id) rfl rfl rfl rfl ?_
  cases h1 : vName x.id
  · obtain rfl : r = false := by rw [← hr.out]; simp [clOk, h1]
    refine bgo ?_
    trivial
  refine bgo ?_
  refine b_call (hc1) rfl rfl rfl rfl ?_
  by_cases h2 : z = i
  rotate_left
  · obtain rfl : r = false := by rw [← hr.out]; simp [clOk, hz.out, h2]
    have g2 : (z != (i : Int)) = true := by rw [bne_iff_ne]; exact h2
    refine bgo ?_
    trivial
  subst h2
  have g2 : ((i : Int) != i) = false := bne_self_eq_false _
  refine bgo ?_
  refine b_call (IsValidName_b x.a) rfl rfl rfl rfl ?_
  cases h3 : vName x.a
  · obtain rfl : r = false := by rw [← hr.out]; simp [clOk, h3]
    refine bgo ?_
    trivial
  refine bgo ?_
  refine b_call (within_b x.k 1 4) rfl rfl rfl rfl ?_
  cases h4 : inB x.k 1 4
  · obtain rfl : r = false := by rw [← hr.out]; simp [clOk, h4]
    refine bgo ?_
    trivial
  refine bgo ?_
  refine b_call (within_b x.p 0 (c.ps.length - 1)) rfl rfl rfl rfl ?_
  cases h5 : inB x.p 0 (c.ps.length - 1)
  · obtain rfl : r = false := by rw [← hr.out]; simp [clOk, h5]
    refine bgo ?_
    trivial
  refine bgo ?_
  refine b_call (within_b x.o 0 (c.ps.length - 1)) rfl rfl rfl rfl ?_
  cases h6 : inB x.o 0 (c.ps.length - 1)
  · obtain rfl : r = false := by rw [← hr.out]; simp [clOk, h6]
    refine bgo ?_
    trivial
  by_cases h7 : x.p = x.o
  · obtain rfl : r = false := by rw [← hr.out]; simp [clOk, h7]
    have g7 : (x.p == x.o) = true := by rw [beq_iff_eq]; exact h7
    clear h7
    refine bgo ?_
    trivial
  have g7 : (x.p == x.o) = false := by rw [beq_eq_false_iff_ne]; exact h7
  refine bgo ?_
  refine b_call (hcd) rfl rfl rfl rfl ?_
  cases h8 : okCd x.w
  · obtain rfl : r = false := by rw [← hr.out]; simp [clOk, h8]
    refine bgo ?_
    trivial
  refine bgo ?_
  refine b_call (within_b x.am 0 1000000) rfl rfl rfl rfl ?_
  cases h9 : inB x.am 0 1000000
  · obtain rfl : r = false := by rw [← hr.out]; simp [clOk, h9]
    refine bgo ?_
    trivial
  refine bgo ?_
  refine b_call (within_b x.wi 0 400) rfl rfl rfl rfl ?_
  cases h10 : inB x.wi 0 400
  · obtain rfl : r = false := by rw [← hr.out]; simp [clOk, h10]
    refine bgo ?_
    trivial
  have hall : Go.RowKit.Hid (r = ((decide (x.k = 1) || (decide (x.am = 0) && decide (x.wi = 0))) && repOk c.cs i x)) := by show r = _; rw [← hr.out]; simp [clOk, hz.out, h1, h3, h4, h5, h6, h7, h8, h9, h10]
  clear hr hcd h1 h3 h4 h5 h6 h7 g7 h8 h9 h10 g2 hc1 hz
  by_cases hk1 : x.k = 1
  · have g11 : (x.k != 1) = false := by rw [hk1]; rfl
    replace hk1 : Go.RowKit.Hid (x.k = 1) := hk1
    by_cases h12 : x.rp = []
    · obtain rfl : r = true := by rw [hall.out]; simp [hk1.out, repOk, h12]
      have g12 : (x.rp == []) = true := by rw [beq_iff_eq]; exact h12
      clear h12
      refine bgo ?_
      trivial
    have g12 : (x.rp == []) = false := by rw [beq_eq_false_iff_ne]; exact h12
    have g12b : x.rp.isEmpty = false := by cases hh : x.rp <;> simp_all
    refine bgo ?_
    refine b_call hc2 rfl rfl rfl rfl ?_
    have hrp : Go.RowKit.Hid (r = (decide (x.k ≠ 3) && decide (z2 ≥ 0) && decide (z2 ≠ i) && decide (((c.cs[z2.toNat]?).map Cl.k) = some 1))) := by show r = _; rw [hall.out]; simp only [hz2.out, repOk, g12b, hz2.out, Bool.true_and, Bool.false_or]; first | rfl | simp [hk1.out]
    clear hall g12b h12
    rcases hfd x.rp with hm | ⟨m, hm, hml⟩
    · rw [hz2.out] at hm
      subst hm
      obtain rfl : r = false := by rw [hrp.out]; simp
      have g4 : ¬ ((-1 : Int) ≥ 0) := by decide
      by_cases hk3 : x.k = 3
      · have g3 : (x.k != 3) = false := by rw [hk3]; rfl
        clear hk3 
        refine bgo ?_
        trivial
      · have g3 : (x.k != 3) = true := by rw [bne_iff_ne]; exact hk3
        clear hk3 
        refine bgo ?_
        trivial
    rw [hz2.out] at hm
    subst hm
    have hy : c.cs[m]? = some c.cs[m] := List.getElem?_eq_getElem hml
    rw [Int.toNat_natCast, hy] at hrp
    generalize c.cs[m] = y at *
    have g4 : (m : Int) ≥ 0 := by omega
    by_cases hmi : (m : Int) = i
    · obtain rfl : r = false := by rw [hrp.out]; simp [hmi]
      have g5 : ((m : Int) != i) = false := by rw [hmi]; exact bne_self_eq_false _
      clear hmi
      by_cases hk3 : x.k = 3
      · have g3 : (x.k != 3) = false := by rw [hk3]; rfl
        clear hk3 
        refine bgo ?_
        trivial
      · have g3 : (x.k != 3) = true := by rw [bne_iff_ne]; exact hk3
        clear hk3 
        refine bgo ?_
        trivial
    have g5 : ((m : Int) != i) = true := by rw [bne_iff_ne]; exact hmi
    by_cases hyk : y.k = 1
    · have g6 : (y.k == 1) = true := by rw [beq_iff_eq]; exact hyk
      by_cases hk3 : x.k = 3
      · obtain rfl : r = false := by rw [hrp.out]; simp [hk3]
        have g3 : (x.k != 3) = false := by rw [hk3]; rfl
        clear hk3 hyk hmi 
        refine bgo ?_
        trivial
      · obtain rfl : r = true := by rw [hrp.out]; simp [hk3, hmi, hyk]
        have g3 : (x.k != 3) = true := by rw [bne_iff_ne]; exact hk3
        clear hk3 hyk hmi 
        refine bgo ?_
        trivial
    · have g6 : (y.k == 1) = false := by rw [beq_eq_false_iff_ne]; exact hyk
      obtain rfl : r = false := by rw [hrp.out]; simp [hyk]
      by_cases hk3 : x.k = 3
      · have g3 : (x.k != 3) = false := by rw [hk3]; rfl
        clear hk3 hyk hmi 
        refine bgo ?_
        trivial
      · have g3 : (x.k != 3) = true := by rw [bne_iff_ne]; exact hk3
        clear hk3 hyk hmi 
        refine bgo ?_
        trivial
  · have g11 : (x.k != 1) = true := by rw [bne_iff_ne]; exact hk1
    by_cases ham : x.am = 0
    rotate_left
    · obtain rfl : r = false := by rw [hall.out]; simp [hk1, ham]
      have g13 : (x.am != 0) = true := by rw [bne_iff_ne]; exact ham
      clear ham hk1
      refine bgo ?_
      trivial
    have g13 : (x.am != 0) = false := by rw [ham]; rfl
    replace ham : Go.RowKit.Hid (x.am = 0) := ham
    by_cases hwi : x.wi = 0
    rotate_left
    · obtain rfl : r = false := by rw [hall.out]; simp [hk1, hwi]
      have g14 : (x.wi != 0) = true := by rw [bne_iff_ne]; exact hwi
      clear hwi ham hk1
      refine bgo ?_
      trivial
    have g14 : (x.wi != 0) = false := by rw [hwi]; rfl
    replace hwi : Go.RowKit.Hid (x.wi = 0) := hwi
    by_cases h12 : x.rp = []
    · obtain rfl : r = true := by rw [hall.out]; simp [hk1, ham.out, hwi.out, repOk, h12]
      have g12 : (x.rp == []) = true := by rw [beq_iff_eq]; exact h12
      clear h12
      refine bgo ?_
      trivial
    have g12 : (x.rp == []) = false := by rw [beq_eq_false_iff_ne]; exact h12
    have g12b : x.rp.isEmpty = false := by cases hh : x.rp <;> simp_all
    refine bgo ?_
    refine b_call hc2 rfl rfl rfl rfl ?_
    have hrp : Go.RowKit.Hid (r = (decide (x.k ≠ 3) && decide (z2 ≥ 0) && decide (z2 ≠ i) && decide (((c.cs[z2.toNat]?).map Cl.k) = some 1))) := by show r = _; rw [hall.out]; simp only [hz2.out, repOk, g12b, hz2.out, Bool.true_and, Bool.false_or]; first | rfl | simp [hk1, ham.out, hwi.out]
    clear hall g12b h12
    rcases hfd x.rp with hm | ⟨m, hm, hml⟩
    · rw [hz2.out] at hm
      subst hm
      obtain rfl : r = false := by rw [hrp.out]; simp
      have g4 : ¬ ((-1 : Int) ≥ 0) := by decide
      by_cases hk3 : x.k = 3
      · have g3 : (x.k != 3) = false := by rw [hk3]; rfl
        clear hk3 hk1
        refine bgo ?_
        trivial
      · have g3 : (x.k != 3) = true := by rw [bne_iff_ne]; exact hk3
        clear hk3 hk1
        refine bgo ?_
        trivial
    rw [hz2.out] at hm
    subst hm
    have hy : c.cs[m]? = some c.cs[m] := List.getElem?_eq_getElem hml
    rw [Int.toNat_natCast, hy] at hrp
    generalize c.cs[m] = y at *
    have g4 : (m : Int) ≥ 0 := by omega
    by_cases hmi : (m : Int) = i
    · obtain rfl : r = false := by rw [hrp.out]; simp [hmi]
      have g5 : ((m : Int) != i) = false := by rw [hmi]; exact bne_self_eq_false _
      clear hmi
      by_cases hk3 : x.k = 3
      · have g3 : (x.k != 3) = false := by rw [hk3]; rfl
        clear hk3 hk1
        refine bgo ?_
        trivial
      · have g3 : (x.k != 3) = true := by rw [bne_iff_ne]; exact hk3
        clear hk3 hk1
        refine bgo ?_
        trivial
    have g5 : ((m : Int) != i) = true := by rw [bne_iff_ne]; exact hmi
    by_cases hyk : y.k = 1
    · have g6 : (y.k == 1) = true := by rw [beq_iff_eq]; exact hyk
      by_cases hk3 : x.k = 3
      · obtain rfl : r = false := by rw [hrp.out]; simp [hk3]
        have g3 : (x.k != 3) = false := by rw [hk3]; rfl
        clear hk3 hyk hmi hk1
        refine bgo ?_
        trivial
      · obtain rfl : r = true := by rw [hrp.out]; simp [hk3, hmi, hyk]
        have g3 : (x.k != 3) = true := by rw [bne_iff_ne]; exact hk3
        clear hk3 hyk hmi hk1
        refine bgo ?_
        trivial
    · have g6 : (y.k == 1) = false := by rw [beq_eq_false_iff_ne]; exact hyk
      obtain rfl : r = false := by rw [hrp.out]; simp [hyk]
      by_cases hk3 : x.k = 3
      · have g3 : (x.k != 3) = false := by rw [hk3]; rfl
        clear hk3 hyk hmi hk1
        refine bgo ?_
        trivial
      · have g3 : (x.k != 3) = true := by rw [bne_iff_ne]; exact hk3
        clear hk3 hyk hmi hk1
        refine bgo ?_
        trivial
set_option maxHeartbeats 4000000 in
theorem l6Clause_b (c : Ct) (i : Nat) (x : Cl) (hx : c.cs[i]? = some x) (hfi : find c.cs x.id = i) (hsz : x.w.size ≤ 1048577) : BRet Tryz.prog 50 [] [.agg [.d (.sl 1 (c.ps.map .str)), .d (.sl 12 (c.cs.map Cl.e))], .int i] (.bool (clOk c i x)) [] := by
  refine BRet.alen 0 0 (by kernel_rfl) rfl rfl fun hl0 => ?_
  refine BRet.alen 0 1 (by kernel_rfl) rfl rfl fun hl1 => ?_
  rw [List.length_map] at hl0 hl1
  have hi : i < c.cs.length := (List.getElem?_eq_some_iff.1 hx).1
  obtain ⟨r, hr⟩ : ∃ r, Go.RowKit.Hid (clOk c i x = r) := ⟨_, rfl⟩
  rw [hr.out]
  have hci := fun s => l6Find_b c s
  have hfd := fun s => find_in c.cs s
  have hcd := l5Good_b x.w hsz
  have h1p : (1 : Int) ≤ 1 := by decide
  have hz : Go.RowKit.Hid (find c.cs x.id = i) := hfi
  clear hfi hsz
  obtain ⟨z2, hz2⟩ : ∃ z2, Go.RowKit.Hid (find c.cs x.rp = z2) := ⟨_, rfl⟩
  have hc2 := hci x.rp
  rw [hz2.out] at hc2
  clear hci
  refine bof Tryz.func50 ?_
  refine bgo ?_
  refine b_call (l5Name_b x.id) rfl rfl rfl rfl ?_
  cases h1 : vName x.id
  · obtain rfl : r = false := by rw [← hr.out]; simp [clOk, h1]
    refine bgo ?_
    trivial
  refine bgo ?_
  refine b_call (l5Name_b x.a) rfl rfl rfl rfl ?_
  cases h3 : vName x.a
  · obtain rfl : r = false := by rw [← hr.out]; simp [clOk, h3]
    refine bgo ?_
    trivial
  refine bgo ?_
  refine b_call (l1In_b x.k 1 4) rfl rfl rfl rfl ?_
  cases h4 : inB x.k 1 4
  · obtain rfl : r = false := by rw [← hr.out]; simp [clOk, h4]
    refine bgo ?_
    trivial
  refine bgo ?_
  refine b_call (l1In_b x.p 0 (c.ps.length - 1)) rfl rfl rfl rfl ?_
  cases h5 : inB x.p 0 (c.ps.length - 1)
  · obtain rfl : r = false := by rw [← hr.out]; simp [clOk, h5]
    refine bgo ?_
    trivial
  refine bgo ?_
  refine b_call (l1In_b x.o 0 (c.ps.length - 1)) rfl rfl rfl rfl ?_
  cases h6 : inB x.o 0 (c.ps.length - 1)
  · obtain rfl : r = false := by rw [← hr.out]; simp [clOk, h6]
    refine bgo ?_
    trivial
  by_cases h7 : x.p = x.o
  · obtain rfl : r = false := by rw [← hr.out]; simp [clOk, h7]
    have g7 : (x.p == x.o) = true := by rw [beq_iff_eq]; exact h7
    clear h7
    refine bgo ?_
    trivial
  have g7 : (x.p == x.o) = false := by rw [beq_eq_false_iff_ne]; exact h7
  refine bgo ?_
  refine b_call (hcd) rfl rfl rfl rfl ?_
  cases h8 : okCd x.w
  · obtain rfl : r = false := by rw [← hr.out]; simp [clOk, h8]
    refine bgo ?_
    trivial
  refine bgo ?_
  refine b_call (l1In_b x.am 0 1000000) rfl rfl rfl rfl ?_
  cases h9 : inB x.am 0 1000000
  · obtain rfl : r = false := by rw [← hr.out]; simp [clOk, h9]
    refine bgo ?_
    trivial
  refine bgo ?_
  refine b_call (l1In_b x.wi 0 400) rfl rfl rfl rfl ?_
  cases h10 : inB x.wi 0 400
  · obtain rfl : r = false := by rw [← hr.out]; simp [clOk, h10]
    refine bgo ?_
    trivial
  have hall : Go.RowKit.Hid (r = ((decide (x.k = 1) || (decide (x.am = 0) && decide (x.wi = 0))) && repOk c.cs i x)) := by show r = _; rw [← hr.out]; simp [clOk, hz.out, h1, h3, h4, h5, h6, h7, h8, h9, h10]
  clear hr hcd h1 h3 h4 h5 h6 h7 g7 h8 h9 h10 hz
  by_cases hk1 : x.k = 1
  · have g11 : (x.k != 1) = false := by rw [hk1]; rfl
    replace hk1 : Go.RowKit.Hid (x.k = 1) := hk1
    by_cases h12 : x.rp = []
    · obtain rfl : r = true := by rw [hall.out]; simp [hk1.out, repOk, h12]
      have g12 : (x.rp == []) = true := by rw [beq_iff_eq]; exact h12
      clear h12
      refine bgo ?_
      trivial
    have g12 : (x.rp == []) = false := by rw [beq_eq_false_iff_ne]; exact h12
    have g12b : x.rp.isEmpty = false := by cases hh : x.rp <;> simp_all
    refine bgo ?_
    refine b_call hc2 rfl rfl rfl rfl ?_
    have hrp : Go.RowKit.Hid (r = (decide (x.k ≠ 3) && decide (z2 ≥ 0) && decide (z2 ≠ i) && decide (((c.cs[z2.toNat]?).map Cl.k) = some 1))) := by show r = _; rw [hall.out]; simp only [hz2.out, repOk, g12b, hz2.out, Bool.true_and, Bool.false_or]; first | rfl | simp [hk1.out]
    clear hall g12b h12
    rcases hfd x.rp with hm | ⟨m, hm, hml⟩
    · rw [hz2.out] at hm
      subst hm
      obtain rfl : r = false := by rw [hrp.out]; simp
      have g4 : ¬ ((-1 : Int) ≥ 0) := by decide
      by_cases hk3 : x.k = 3
      · have g3 : (x.k != 3) = false := by rw [hk3]; rfl
        clear hk3 
        refine bgo ?_
        trivial
      · have g3 : (x.k != 3) = true := by rw [bne_iff_ne]; exact hk3
        clear hk3 
        refine bgo ?_
        trivial
    rw [hz2.out] at hm
    subst hm
    have hy : c.cs[m]? = some c.cs[m] := List.getElem?_eq_getElem hml
    rw [Int.toNat_natCast, hy] at hrp
    generalize c.cs[m] = y at *
    have g4 : (m : Int) ≥ 0 := by omega
    by_cases hmi : (m : Int) = i
    · obtain rfl : r = false := by rw [hrp.out]; simp [hmi]
      have g5 : ((m : Int) != i) = false := by rw [hmi]; exact bne_self_eq_false _
      clear hmi
      by_cases hk3 : x.k = 3
      · have g3 : (x.k != 3) = false := by rw [hk3]; rfl
        clear hk3 
        refine bgo ?_
        trivial
      · have g3 : (x.k != 3) = true := by rw [bne_iff_ne]; exact hk3
        clear hk3 
        refine bgo ?_
        trivial
    have g5 : ((m : Int) != i) = true := by rw [bne_iff_ne]; exact hmi
    by_cases hyk : y.k = 1
    · have g6 : (y.k == 1) = true := by rw [beq_iff_eq]; exact hyk
      by_cases hk3 : x.k = 3
      · obtain rfl : r = false := by rw [hrp.out]; simp [hk3]
        have g3 : (x.k != 3) = false := by rw [hk3]; rfl
        clear hk3 hyk hmi 
        refine bgo ?_
        trivial
      · obtain rfl : r = true := by rw [hrp.out]; simp [hk3, hmi, hyk]
        have g3 : (x.k != 3) = true := by rw [bne_iff_ne]; exact hk3
        clear hk3 hyk hmi 
        refine bgo ?_
        trivial
    · have g6 : (y.k == 1) = false := by rw [beq_eq_false_iff_ne]; exact hyk
      obtain rfl : r = false := by rw [hrp.out]; simp [hyk]
      by_cases hk3 : x.k = 3
      · have g3 : (x.k != 3) = false := by rw [hk3]; rfl
        clear hk3 hyk hmi 
        refine bgo ?_
        trivial
      · have g3 : (x.k != 3) = true := by rw [bne_iff_ne]; exact hk3
        clear hk3 hyk hmi 
        refine bgo ?_
        trivial
  · have g11 : (x.k != 1) = true := by rw [bne_iff_ne]; exact hk1
    by_cases ham : x.am = 0
    rotate_left
    · obtain rfl : r = false := by rw [hall.out]; simp [hk1, ham]
      have g13 : (x.am != 0) = true := by rw [bne_iff_ne]; exact ham
      clear ham hk1
      refine bgo ?_
      trivial
    have g13 : (x.am != 0) = false := by rw [ham]; rfl
    replace ham : Go.RowKit.Hid (x.am = 0) := ham
    by_cases hwi : x.wi = 0
    rotate_left
    · obtain rfl : r = false := by rw [hall.out]; simp [hk1, hwi]
      have g14 : (x.wi != 0) = true := by rw [bne_iff_ne]; exact hwi
      clear hwi ham hk1
      refine bgo ?_
      trivial
    have g14 : (x.wi != 0) = false := by rw [hwi]; rfl
    replace hwi : Go.RowKit.Hid (x.wi = 0) := hwi
    by_cases h12 : x.rp = []
    · obtain rfl : r = true := by rw [hall.out]; simp [hk1, ham.out, hwi.out, repOk, h12]
      have g12 : (x.rp == []) = true := by rw [beq_iff_eq]; exact h12
      clear h12
      refine bgo ?_
      trivial
    have g12 : (x.rp == []) = false := by rw [beq_eq_false_iff_ne]; exact h12
    have g12b : x.rp.isEmpty = false := by cases hh : x.rp <;> simp_all
    refine bgo ?_
    refine b_call hc2 rfl rfl rfl rfl ?_
    have hrp : Go.RowKit.Hid (r = (decide (x.k ≠ 3) && decide (z2 ≥ 0) && decide (z2 ≠ i) && decide (((c.cs[z2.toNat]?).map Cl.k) = some 1))) := by show r = _; rw [hall.out]; simp only [hz2.out, repOk, g12b, hz2.out, Bool.true_and, Bool.false_or]; first | rfl | simp [hk1, ham.out, hwi.out]
    clear hall g12b h12
    rcases hfd x.rp with hm | ⟨m, hm, hml⟩
    · rw [hz2.out] at hm
      subst hm
      obtain rfl : r = false := by rw [hrp.out]; simp
      have g4 : ¬ ((-1 : Int) ≥ 0) := by decide
      by_cases hk3 : x.k = 3
      · have g3 : (x.k != 3) = false := by rw [hk3]; rfl
        clear hk3 hk1
        refine bgo ?_
        trivial
      · have g3 : (x.k != 3) = true := by rw [bne_iff_ne]; exact hk3
        clear hk3 hk1
        refine bgo ?_
        trivial
    rw [hz2.out] at hm
    subst hm
    have hy : c.cs[m]? = some c.cs[m] := List.getElem?_eq_getElem hml
    rw [Int.toNat_natCast, hy] at hrp
    generalize c.cs[m] = y at *
    have g4 : (m : Int) ≥ 0 := by omega
    by_cases hmi : (m : Int) = i
    · obtain rfl : r = false := by rw [hrp.out]; simp [hmi]
      have g5 : ((m : Int) != i) = false := by rw [hmi]; exact bne_self_eq_false _
      clear hmi
      by_cases hk3 : x.k = 3
      · have g3 : (x.k != 3) = false := by rw [hk3]; rfl
        clear hk3 hk1
        refine bgo ?_
        trivial
      · have g3 : (x.k != 3) = true := by rw [bne_iff_ne]; exact hk3
        clear hk3 hk1
        refine bgo ?_
        trivial
    have g5 : ((m : Int) != i) = true := by rw [bne_iff_ne]; exact hmi
    by_cases hyk : y.k = 1
    · have g6 : (y.k == 1) = true := by rw [beq_iff_eq]; exact hyk
      by_cases hk3 : x.k = 3
      · obtain rfl : r = false := by rw [hrp.out]; simp [hk3]
        have g3 : (x.k != 3) = false := by rw [hk3]; rfl
        clear hk3 hyk hmi hk1
        refine bgo ?_
        trivial
      · obtain rfl : r = true := by rw [hrp.out]; simp [hk3, hmi, hyk]
        have g3 : (x.k != 3) = true := by rw [bne_iff_ne]; exact hk3
        clear hk3 hyk hmi hk1
        refine bgo ?_
        trivial
    · have g6 : (y.k == 1) = false := by rw [beq_eq_false_iff_ne]; exact hyk
      obtain rfl : r = false := by rw [hrp.out]; simp [hyk]
      by_cases hk3 : x.k = 3
      · have g3 : (x.k != 3) = false := by rw [hk3]; rfl
        clear hk3 hyk hmi hk1
        refine bgo ?_
        trivial
      · have g3 : (x.k != 3) = true := by rw [bne_iff_ne]; exact hk3
        clear hk3 hyk hmi hk1
        refine bgo ?_
        trivial
end Go.Bee.C24x


namespace Go.Bee.C24x
open Go Go.Bee Go.Proofs Go.Bee.Ty Go.Bee.C23 Go.Bee.C23s Go.Bee.Da Go.Bee.C24 Go.Bee.C24c Go.Bee.C24d Go.Bee.C24n Go.Bee.Cn
set_option linter.unusedVariables false
set_option maxRecDepth 20000
attribute [local irreducible] Go.Bee.bwp
theorem addNames_b (c : Cd) : ∀ l : List Tx, l.length + c.size ≤ 1048576 → BRet Tryz.prog 102 [] [.agg [.int c.op, .str c.nm, .int c.dy, .d (.sl 4 (c.ps.map Cd.e))], .own 9 1 (l.map .str)] (.own 9 1 ((l ++ nms c).map .str)) [] := by
  refine Cd.ind (P := fun c => ∀ l : List Tx, l.length + c.size ≤ 1048576 → BRet Tryz.prog 102 [] [.agg [.int c.op, .str c.nm, .int c.dy, .d (.sl 4 (c.ps.map Cd.e))], .own 9 1 (l.map .str)] (.own 9 1 ((l ++ nms c).map .str)) []) (fun c ih l hl => ?_) c
  refine BRet.alen 0 3 (by kernel_rfl) rfl rfl fun hl3 => ?_
  rw [List.length_map] at hl3
  have hsz := size_eq c
  rw [nms_eq]
  refine bofH (Hh 6 [1, 2]) Tryz.func102 ?_
  generalize c.op = o at *
  generalize c.nm = n at *
  generalize c.dy = d at *
  generalize c.ps = ps at *
  obtain ⟨q, hq⟩ : ∃ q : List Tx, Go.RowKit.Hid (q = l ++ if o = 2 then [n] else []) := ⟨_, rfl⟩
  obtain ⟨t, ht⟩ : ∃ t : List Tx, Go.RowKit.Hid (l ++ ((if o = 2 then [n] else []) ++ ps.flatMap nms) = t) := ⟨_, rfl⟩
  rw [ht.out]
  have hqt : Go.RowKit.Hid (q ++ ps.flatMap nms = t) := by show _ = _; rw [hq.out, ← ht.out, List.append_assoc]
  have hql : q.length + Cd.sizes ps ≤ 1048576 := by rw [hq.out, List.length_append]; split <;> simp only [List.length_cons, List.length_nil] <;> omega
  by_cases h2 : o = 2
  · have hq2 : (l.map PD.str ++ [.str n]) = q.map .str := by rw [hq.out, if_pos h2]; simp
    have hbd : (l.length + 1) * 17 ≤ 140737488355328 := by omega
    clear hq
    refine bgo ?_
    refine b_lp (ι := Nat × List Tx) (fun i => [(1, .own 9 1 (i.2.map .str)), (16, .d (.sl 4 (ps.map Cd.e))), (17, .int ps.length), (18, .int i.1)]) (fun _ => []) (fun i => i.1 ≤ ps.length ∧ i.2 ++ (ps.drop i.1).flatMap nms = t ∧ i.2.length + Cd.sizes (ps.drop i.1) ≤ 1048576) (fun i => ps.length - i.1) (0, q) hs ⟨Nat.zero_le _, hqt.out, hql⟩ ?_
    clear hqt hql ht
    rintro ⟨k, u⟩ ⟨hk, hj, hul⟩ I nx
    dsimp only at hk hj hul ⊢
    by_cases hlt : k < ps.length
    · have hx : ps[k]? = some ps[k] := List.getElem?_eq_getElem hlt
      have hb : (k : Int) + 1 ≤ 1099511627776000 := by omega
      rw [sizes_drop ps k hlt] at hul
      have hc := ih ps[k] (List.getElem_mem hlt) u (by omega)
      have hnl := nms_len ps[k]
      rw [List.drop_eq_getElem_cons hlt, List.flatMap_cons, ← List.append_assoc] at hj
      generalize ps[k] = x at *
      have hju : Go.RowKit.Hid (u ++ nms x ++ (ps.drop (k + 1)).flatMap nms = t) := hj
      clear hj ih
      refine bgo ?_
      refine b_callm hc rfl rfl rfl rfl (by decide) ?_
      refine bgo ?_
      exact nx.go (k + 1, u ++ nms x) ⟨hlt, hju.out, by dsimp only; rw [List.length_append]; omega⟩ (by dsimp only; omega) hs
    · have hk' : k = ps.length := by omega
      subst hk'
      rw [List.drop_length, List.flatMap_nil, List.append_nil] at hj
      subst hj
      clear ih hul
      refine bgo ?_
      refine wk_rfl ?_
      refine bgo ?_
      trivial
  · have hq2 : l = q := by rw [hq.out, if_neg h2]; simp
    clear hq
    subst hq2
    refine bgo ?_
    refine b_lp (ι := Nat × List Tx) (fun i => [(1, .own 9 1 (i.2.map .str)), (16, .d (.sl 4 (ps.map Cd.e))), (17, .int ps.length), (18, .int i.1)]) (fun _ => []) (fun i => i.1 ≤ ps.length ∧ i.2 ++ (ps.drop i.1).flatMap nms = t ∧ i.2.length + Cd.sizes (ps.drop i.1) ≤ 1048576) (fun i => ps.length - i.1) (0, l) hs ⟨Nat.zero_le _, hqt.out, hql⟩ ?_
    clear hqt hql ht
    rintro ⟨k, u⟩ ⟨hk, hj, hul⟩ I nx
    dsimp only at hk hj hul ⊢
    by_cases hlt : k < ps.length
    · have hx : ps[k]? = some ps[k] := List.getElem?_eq_getElem hlt
      have hb : (k : Int) + 1 ≤ 1099511627776000 := by omega
      rw [sizes_drop ps k hlt] at hul
      have hc := ih ps[k] (List.getElem_mem hlt) u (by omega)
      have hnl := nms_len ps[k]
      rw [List.drop_eq_getElem_cons hlt, List.flatMap_cons, ← List.append_assoc] at hj
      generalize ps[k] = x at *
      have hju : Go.RowKit.Hid (u ++ nms x ++ (ps.drop (k + 1)).flatMap nms = t) := hj
      clear hj ih
      refine bgo ?_
      refine b_callm hc rfl rfl rfl rfl (by decide) ?_
      refine bgo ?_
      exact nx.go (k + 1, u ++ nms x) ⟨hlt, hju.out, by dsimp only; rw [List.length_append]; omega⟩ (by dsimp only; omega) hs
    · have hk' : k = ps.length := by omega
      subst hk'
      rw [List.drop_length, List.flatMap_nil, List.append_nil] at hj
      subst hj
      clear ih hul
      refine bgo ?_
      refine wk_rfl ?_
      refine bgo ?_
      trivial
theorem put_len (l : List Tx) (s : Tx) : (put l s).length ≤ l.length + 1 := by
  unfold put
  split
  · omega
  · simp only [List.length_append, List.length_take, List.length_cons, List.length_drop]; omega
theorem spN_len (c : Cd) : ∀ o : List Tx, (spN c o).length ≤ o.length + c.size := by
  refine Cd.ind (P := fun c => ∀ o : List Tx, (spN c o).length ≤ o.length + c.size) (fun c ih o => ?_) c
  rw [spN_eq, size_eq]
  split
  · have := put_len o c.nm; omega
  · have : ∀ (l : List Cd) (o : List Tx), (∀ a ∈ l, ∀ o : List Tx, (spN a o).length ≤ o.length + a.size) → (l.foldl (fun o c => spN c o) o).length ≤ o.length + Cd.sizes l := by
      intro l
      induction l with
      | nil => intro o _; rw [sizes_nil]; exact Nat.le_refl _
      | cons a l ihl =>
        intro o h
        rw [List.foldl_cons, sizes_cons]
        have h1 := ihl (spN a o) (fun b hb => h b (List.mem_cons_of_mem _ hb))
        have h2 := h a (List.mem_cons_self ..) o
        omega
    exact Nat.le_trans (this c.ps o ih) (by omega)
theorem l5Names_b (c : Cd) : ∀ l : List Tx, l.length + c.size ≤ 1048576 → BRet Tryz.prog 95 [] [.d (.sl 1 (l.map .str)), .agg [.int c.op, .str c.nm, .int c.dy, .d (.sl 4 (c.ps.map Cd.e))]] (.d (.sl 1 ((spN c l).map .str))) [] := by
  refine Cd.ind (P := fun c => ∀ l : List Tx, l.length + c.size ≤ 1048576 → BRet Tryz.prog 95 [] [.d (.sl 1 (l.map .str)), .agg [.int c.op, .str c.nm, .int c.dy, .d (.sl 4 (c.ps.map Cd.e))]] (.d (.sl 1 ((spN c l).map .str))) []) (fun c ih l hl => ?_) c
  refine BRet.alen 1 3 (by kernel_rfl) rfl rfl fun hl3 => ?_
  rw [List.length_map] at hl3
  have hsz := size_eq c
  have hpu := l5Put_b l c.nm (by omega)
  rw [spN_eq]
  refine bof Tryz.func95 ?_
  generalize c.op = o at *
  generalize c.nm = n at *
  generalize c.dy = d at *
  generalize c.ps = ps at *
  by_cases h2 : o = 2
  · rw [if_pos h2]
    clear ih
    generalize put l n = pq at *
    refine bgo ?_
    refine b_call hpu rfl rfl rfl rfl ?_
    refine bgo ?_
    trivial
  · rw [if_neg h2]
    obtain ⟨r, hr⟩ : ∃ r, Go.RowKit.Hid (ps.foldl (fun o c => spN c o) l = r) := ⟨_, rfl⟩
    rw [hr.out]
    clear hpu
    refine bgo ?_
    refine b_lp (ι := Nat × List Tx) (fun i => [(0, .d (.sl 1 (i.2.map .str))), (3, .ptr (.t 3) 0), (5, .int i.1)]) (fun _ => [(.t 3, [.int o, .str n, .int d, .d (.sl 4 (ps.map Cd.e))])]) (fun i => i.1 ≤ ps.length ∧ (ps.drop i.1).foldl (fun o c => spN c o) i.2 = r ∧ i.2.length + Cd.sizes (ps.drop i.1) ≤ 1048576) (fun i => ps.length - i.1) (0, l) hs ⟨Nat.zero_le _, hr.out, by simp only [List.drop_zero]; omega⟩ ?_
    clear hr hl hsz
    rintro ⟨k, u⟩ ⟨hk, hj, hul⟩ I nx
    dsimp only at hk hj hul ⊢
    by_cases hlt : k < ps.length
    · have hx : ps[k]? = some ps[k] := List.getElem?_eq_getElem hlt
      have hb : (k : Int) + 1 ≤ 1099511627776000 := by omega
      rw [sizes_drop ps k hlt] at hul
      have hc := ih ps[k] (List.getElem_mem hlt) u (by omega)
      have hnl := spN_len ps[k] u
      rw [List.drop_eq_getElem_cons hlt, List.foldl_cons] at hj
      generalize ps[k] = x at *
      generalize spN x u = v at *
      have hju : Go.RowKit.Hid ((ps.drop (k + 1)).foldl (fun o c => spN c o) v = r) := hj
      clear hj ih
      refine bgo ?_
      refine b_call hc rfl rfl rfl rfl ?_
      refine bgo ?_
      exact nx.go (k + 1, v) ⟨hlt, hju.out, by dsimp only; omega⟩ (by dsimp only; omega) hs
    · have hk' : k = ps.length := by omega
      subst hk'
      rw [List.drop_length, List.foldl_nil] at hj
      subst hj
      clear ih hul
      refine bgo ?_
      refine wk_rfl ?_
      refine bgo ?_
      trivial
theorem spCl_len (o : List Tx) (x : Cl) : (spCl o x).length ≤ o.length + 1 + x.w.size := by
  have h1 := spN_len x.w (put o x.a)
  have h2 := put_len o x.a
  unfold spCl
  omega
theorem l6Names_b (c : Ct) (hcl : c.cs.length ≤ 12) (hw : ∀ x ∈ c.cs, x.w.size ≤ 15) : BRet Tryz.prog 51 [] [.agg [.d (.sl 1 (c.ps.map .str)), .d (.sl 12 (c.cs.map Cl.e))]] (.d (.sl 1 ((names2 c.cs).map .str))) [] := by
  refine bof Tryz.func51 ?_
  obtain ⟨r, hr⟩ : ∃ r, Go.RowKit.Hid (names2 c.cs = r) := ⟨_, rfl⟩
  rw [hr.out]
  refine bgo ?_
  refine b_lp (ι := Nat × List Tx) (fun i => [(1, .ptr (.t 1) 0), (3, .d (.sl 1 (i.2.map .str))), (4, .int i.1)]) (fun _ => [(.t 1, [.d (.sl 1 (c.ps.map .str)), .d (.sl 12 (c.cs.map Cl.e))])]) (fun i => i.1 ≤ c.cs.length ∧ (c.cs.drop i.1).foldl spCl i.2 = r ∧ i.2.length ≤ 16 * i.1) (fun i => c.cs.length - i.1) (0, []) hs ⟨Nat.zero_le _, hr.out, by simp⟩ ?_
  clear hr
  rintro ⟨k, u⟩ ⟨hk, hj, hul⟩ I nx
  dsimp only at hk hj hul ⊢
  by_cases hlt : k < c.cs.length
  · have hx : c.cs[k]? = some c.cs[k] := List.getElem?_eq_getElem hlt
    have hb : (k : Int) + 1 ≤ 1099511627776000 := by omega
    have hwx := hw c.cs[k] (List.getElem_mem hlt)
    have hpu := l5Put_b u c.cs[k].a (by omega)
    have hpl := put_len u c.cs[k].a
    have hc := l5Names_b c.cs[k].w (put u c.cs[k].a) (by omega)
    have hsl := spCl_len u c.cs[k]
    have hsp : spCl u c.cs[k] = spN c.cs[k].w (put u c.cs[k].a) := rfl
    rw [List.drop_eq_getElem_cons hlt, List.foldl_cons] at hj
    rw [hsp] at hj hsl
    generalize c.cs[k] = x at *
    generalize put u x.a = v at *
    generalize spN x.w v = v2 at *
    have hju : Go.RowKit.Hid ((c.cs.drop (k + 1)).foldl spCl v2 = r) := hj
    clear hj hw hsp
    refine bgo ?_
    refine b_call hpu rfl rfl rfl rfl ?_
    refine bgo ?_
    refine b_call hc rfl rfl rfl rfl ?_
    refine bgo ?_
    exact nx.go (k + 1, v2) ⟨hlt, hju.out, by dsimp only; omega⟩ (by dsimp only; omega) hs
  · have hk' : k = c.cs.length := by omega
    subst hk'
    rw [List.drop_length, List.foldl_nil] at hj
    subst hj
    clear hw
    refine bgo ?_
    refine wk_rfl ?_
    refine bgo ?_
    trivial
theorem factNames_b (c : Ct) (hcl : c.cs.length ≤ 12) (hw : ∀ x ∈ c.cs, x.w.size ≤ 15) : BRet Tryz.prog 58 [] [.agg [.d (.sl 1 (c.ps.map .str)), .d (.sl 12 (c.cs.map Cl.e))]] (.d (.sl 1 ((srt (allNm c.cs)).map .str))) [] := by
  refine BRet.tail (Hh 5 [7]) Ty.mixed 2 Tryz.func58 (s := 3) (e := 9) rfl rfl rfl (by kernel_rfl) (by kernel_rfl) rfl (Nat.le_of_ble_eq_true rfl) rfl (Nat.le_of_ble_eq_true rfl) (Nat.le_of_ble_eq_true rfl) (Nat.le_of_ble_eq_true rfl) sorted_redo ?_
  dsimp only [cutN_0, cutN_s]
  obtain ⟨r, hr⟩ : ∃ r, Go.RowKit.Hid (allNm c.cs = r) := ⟨_, rfl⟩
  rw [hr.out]
  refine bgo ?_
  refine b_lp (ι := Nat × List Tx) (fun i => [(3, .own 9 1 (i.2.map .str)), (8, .d (.sl 12 (c.cs.map Cl.e))), (9, .int c.cs.length), (10, .int i.1)]) (fun _ => []) (fun i => i.1 ≤ c.cs.length ∧ i.2 ++ allNm (c.cs.drop i.1) = r ∧ i.2.length ≤ 16 * i.1) (fun i => c.cs.length - i.1) (0, []) hs ⟨Nat.zero_le _, hr.out, by simp⟩ ?_
  clear hr
  rintro ⟨k, u⟩ ⟨hk, hj, hul⟩ I nx
  dsimp only at hk hj hul ⊢
  by_cases hlt : k < c.cs.length
  · have hx : c.cs[k]? = some c.cs[k] := List.getElem?_eq_getElem hlt
    have hb : (k : Int) + 1 ≤ 1099511627776000 := by omega
    have hbd : (u.length + 1) * 17 ≤ 140737488355328 := by omega
    have hwx := hw c.cs[k] (List.getElem_mem hlt)
    have hc := addNames_b c.cs[k].w (u ++ [c.cs[k].a]) (by simp only [List.length_append, List.length_cons, List.length_nil]; omega)
    rw [show (u ++ [c.cs[k].a]).map PD.str = u.map PD.str ++ [PD.str c.cs[k].a] by simp] at hc
    have hnl := nms_len c.cs[k].w
    unfold allNm at hj
    rw [List.drop_eq_getElem_cons hlt, List.flatMap_cons] at hj
    generalize c.cs[k] = x at *
    have hju : Go.RowKit.Hid (u ++ [x.a] ++ nms x.w ++ allNm (c.cs.drop (k + 1)) = r) := by show _ = _; rw [← hj]; simp [clN, allNm]
    clear hj hw
    refine bgo ?_
    refine b_callm hc rfl rfl rfl rfl (by decide) ?_
    refine bgo ?_
    exact nx.go (k + 1, u ++ [x.a] ++ nms x.w) ⟨hlt, hju.out, by dsimp only; simp only [List.length_append, List.length_cons, List.length_nil]; omega⟩ (by dsimp only; omega) hs
  · have hk' : k = c.cs.length := by omega
    subst hk'
    rw [List.drop_length] at hj
    have hj : u = r := by rw [← hj]; simp [allNm]
    subst hj
    clear hw
    refine bgo ?_
    refine wk_rfl ?_
    refine bgo ?_
    trivial
theorem l6PartiesC_b (l : List Tx) (q : List PD) : BRet Tryz.prog 48 [] [.agg [.d (.sl 1 (l.map .str)), .d (.sl 12 q)]] (.bool (parOk l)) [] := by
  refine BRet.alen 0 0 (by kernel_rfl) rfl rfl fun hl => ?_
  simp only [List.length_map] at hl
  refine bof Tryz.func48 ?_
  generalize hr : parOk l = r
  refine bgo ?_
  refine b_lp (ι := Nat × Unit) (fun i => [(1, .ptr (.t 1) 0), (3, .int i.1)]) (fun _ => [(.t 1, [.d (.sl 1 (l.map .str)), .d (.sl 12 q)])]) (fun i => i.1 ≤ l.length ∧ (List.range i.1).all (parAt l) = true) (fun i => l.length - i.1) (0, ()) hs ⟨Nat.zero_le _, rfl⟩ ?_
  rintro ⟨k, u⟩ ⟨hk, hj⟩ I nx
  dsimp only at hk hj ⊢
  by_cases hlt : k < l.length
  · have hx : l[k]? = some l[k] := List.getElem?_eq_getElem hlt
    have hd : l.getD k [] = l[k] := by simp [hlt]
    have hb : (k : Int) + 1 ≤ 1099511627776000 := by omega
    have hp : parAt l k = (vName l[k] && !(l.take k).contains l[k]) := by unfold parAt; rw [hd]
    have hkl : (k : Int) ≤ l.length := by omega
    have hnx := fun h => par_step (l := l) (k := k) hj h
    have hbd := fun h => parOk_bad (l := l) (k := k) hlt h
    have hnm := l5Name_b l[k]
    have hco := l5Has_b (l.take k) l[k]
    rw [List.map_take] at hco
    clear hj hd
    rw [hr] at hbd
    clear hr
    rw [hp] at hnx hbd
    clear hp
    generalize l[k] = x at *
    refine bgo ?_
    refine b_call hnm rfl rfl rfl rfl ?_
    cases hv : vName x
    · rw [hv] at hbd
      have := hbd rfl
      subst this
      refine bgo ?_
      trivial
    · rw [hv] at hbd hnx
      refine bgo ?_
      refine b_call hco rfl rfl rfl rfl ?_
      cases hc : (l.take k).contains x
      · rw [hc] at hnx
        refine bgo ?_
        exact nx.go (k + 1, ()) ⟨hlt, hnx rfl⟩ (by dsimp only; omega) hs
      · rw [hc] at hbd
        have := hbd rfl
        subst this
        refine bgo ?_
        trivial
  · obtain rfl : k = l.length := by omega
    have he : r = inB l.length 2 4 := by rw [← hr]; unfold parOk; rw [hj]; rfl
    clear hr hj
    subst he
    refine bgo ?_
    refine wk_rfl ?_
    refine bgo ?_
    refine b_call (l1In_b _ _ _) rfl rfl rfl rfl ?_
    refine bgo ?_
    trivial
end Go.Bee.C24x


namespace Go.Bee.C24x
open Go Go.Bee Go.Proofs Go.Bee.Ty Go.Bee.C23 Go.Bee.C23s Go.Bee.Da Go.Bee.C24 Go.Bee.C24c Go.Bee.C24d Go.Bee.C24n Go.Bee.Cn
set_option linter.unusedVariables false
set_option maxRecDepth 20000
attribute [local irreducible] Go.Bee.bwp
theorem clAt_eq {c : Ct} {i : Nat} {x : Cl} (hx : c.cs[i]? = some x) : clAt c i = clOk c i x := by unfold clAt; rw [hx]
theorem cls_bad {c : Ct} {k : Nat} (hk : k < c.cs.length) (h : clAt c k = false) : clsOk c = false := by
  cases hx : clsOk c
  · rfl
  · unfold clsOk at hx
    rw [List.all_eq_true.1 hx k (List.mem_range.2 hk)] at h; cases h
theorem cls_step {c : Ct} {k : Nat} (h : (List.range k).all (clAt c) = true) (hk : clAt c k = true) : (List.range (k + 1)).all (clAt c) = true := by
  rw [List.range_succ, List.all_append, h]; simp [hk]
theorem cls_at {c : Ct} (h : clsOk c = true) {i : Nat} {x : Cl} (hx : c.cs[i]? = some x) : clOk c i x = true := by
  unfold clsOk at h
  have hi := (List.getElem?_eq_some_iff.1 hx).1
  have := List.all_eq_true.1 h i (List.mem_range.2 hi)
  rwa [clAt_eq hx] at this
theorem cls_w {c : Ct} (h : clsOk c = true) : ∀ x ∈ c.cs, okCd x.w = true := fun x hx => by
  obtain ⟨i, hi, rfl⟩ := List.mem_iff_getElem.1 hx
  have := cls_at h (List.getElem?_eq_getElem hi)
  unfold clOk at this
  simp only [Bool.and_eq_true] at this
  exact this.1.1.2.2
theorem IsValidContract_b (c : Ct) : BRet Tryz.prog 26 [] [.agg [.d (.sl 1 (c.ps.map .str)), .d (.sl 12 (c.cs.map Cl.e))]] (.bool (ctOk c)) [] := by
  refine BRet.alen 0 1 (by kernel_rfl) rfl rfl fun hl => ?_
  rw [List.length_map] at hl
  have hpa := areParties_b c.ps
  have hin := within_b c.cs.length 1 12
  obtain ⟨r, hr⟩ : ∃ r, Go.RowKit.Hid (ctOk c = r) := ⟨_, rfl⟩
  rw [hr.out]
  refine bof Tryz.func26 ?_
  refine bgo ?_
  refine b_call hpa rfl rfl rfl rfl ?_
  cases h1 : parOk c.ps
  · obtain rfl : r = false := by rw [← hr.out]; simp [ctOk, h1]
    refine bgo ?_
    trivial
  refine bgo ?_
  refine b_call hin rfl rfl rfl rfl ?_
  cases h2 : inB c.cs.length 1 12
  · obtain rfl : r = false := by rw [← hr.out]; simp [ctOk, h2]
    refine bgo ?_
    trivial
  have hle : c.cs.length ≤ 12 := by
    unfold inB at h2
    simp only [Bool.and_eq_true, decide_eq_true_eq] at h2
    omega
  have hrr : Go.RowKit.Hid (r = (clsOk c && decide ((names2 c.cs).length ≤ 16))) := by show r = _; rw [← hr.out]; simp [ctOk, h1, h2]
  clear hr h1 h2 hpa hin
  refine bgo ?_
  refine b_lp (ι := Nat × Unit) (fun i => [(1, .ptr (.t 1) 0), (17, .int c.cs.length), (18, .int i.1)]) (fun _ => [(.t 1, [.d (.sl 1 (c.ps.map .str)), .d (.sl 12 (c.cs.map Cl.e))])]) (fun i => i.1 ≤ c.cs.length ∧ (List.range i.1).all (clAt c) = true) (fun i => c.cs.length - i.1) (0, ()) hs ⟨Nat.zero_le _, rfl⟩ ?_
  rintro ⟨k, u⟩ ⟨hk, hj⟩ I nx
  dsimp only at hk hj ⊢
  by_cases hlt : k < c.cs.length
  · have hx : c.cs[k]? = some c.cs[k] := List.getElem?_eq_getElem hlt
    have hb : (k : Int) + 1 ≤ 1099511627776000 := by omega
    have hc := isClause_b c k c.cs[k] hx
    rw [← clAt_eq hx] at hc
    have hst := fun h => cls_step (c := c) (k := k) hj h
    have hbd := fun h => cls_bad (c := c) (k := k) hlt h
    clear hj hx
    cases hv : clAt c k
    · obtain rfl : r = false := by rw [hrr.out, hbd hv]; rfl
      rw [hv] at hc
      clear hst hbd hv
      refine bgo ?_
      refine b_call hc rfl rfl rfl rfl ?_
      refine bgo ?_
      trivial
    · rw [hv] at hc
      have hst := hst hv
      clear hbd hv
      refine bgo ?_
      refine b_call hc rfl rfl rfl rfl ?_
      refine bgo ?_
      exact nx.go (k + 1, ()) ⟨hlt, hst⟩ (by dsimp only; omega) hs
  · have hk' : k = c.cs.length := by omega
    subst hk'
    have hcl : clsOk c = true := hj
    have hw := cls_w hcl
    have hfn := factNames_b c hle (fun x hx => (okCd_in (hw x hx)).2)
    rw [names_srt c.cs (fun x hx => (okCd_in (hw x hx)).1)] at hfn
    rw [hcl, Bool.true_and] at hrr
    generalize names2 c.cs = nn at *
    clear hj hcl hw
    by_cases h16 : nn.length ≤ 16
    · obtain rfl : r = true := by rw [hrr.out]; exact decide_eq_true h16
      have h16b : (nn.length : Int) ≤ 16 := by omega
      refine bgo ?_
      refine wk_rfl ?_
      refine bgo ?_
      refine b_call hfn rfl rfl rfl rfl ?_
      refine bgo ?_
      trivial
    · obtain rfl : r = false := by rw [hrr.out]; exact decide_eq_false h16
      have h16b : ¬ (nn.length : Int) ≤ 16 := by omega
      refine bgo ?_
      refine wk_rfl ?_
      refine bgo ?_
      refine b_call hfn rfl rfl rfl rfl ?_
      refine bgo ?_
      trivial
theorem l6Good_b (c : Ct) (hsz : ∀ x ∈ c.cs, x.w.size ≤ 1048577) : BRet Tryz.prog 21 [] [.agg [.d (.sl 1 (c.ps.map .str)), .d (.sl 12 (c.cs.map Cl.e))]] (.bool (ctOk c)) [] := by
  refine BRet.alen 0 1 (by kernel_rfl) rfl rfl fun hl => ?_
  rw [List.length_map] at hl
  have hpa := l6PartiesC_b c.ps (c.cs.map Cl.e)
  have hin := l1In_b c.cs.length 1 12
  obtain ⟨r, hr⟩ : ∃ r, Go.RowKit.Hid (ctOk c = r) := ⟨_, rfl⟩
  rw [hr.out]
  refine bof Tryz.func21 ?_
  refine bgo ?_
  refine b_call hin rfl rfl rfl rfl ?_
  cases h2 : inB c.cs.length 1 12
  · obtain rfl : r = false := by rw [← hr.out]; simp [ctOk, h2]
    refine bgo ?_
    trivial
  refine bgo ?_
  refine b_call hpa rfl rfl rfl rfl ?_
  cases h1 : parOk c.ps
  · obtain rfl : r = false := by rw [← hr.out]; simp [ctOk, h1]
    refine bgo ?_
    trivial
  have hle : c.cs.length ≤ 12 := by
    unfold inB at h2
    simp only [Bool.and_eq_true, decide_eq_true_eq] at h2
    omega
  have hrr : Go.RowKit.Hid (r = (clsOk c && decide ((names2 c.cs).length ≤ 16))) := by show r = _; rw [← hr.out]; simp [ctOk, h1, h2]
  clear hr h1 h2 hpa hin
  refine bgo ?_
  refine b_lp (ι := Nat × Unit) (fun i => [(1, .ptr (.t 1) 0), (3, .int i.1)]) (fun _ => [(.t 1, [.d (.sl 1 (c.ps.map .str)), .d (.sl 12 (c.cs.map Cl.e))])]) (fun i => i.1 ≤ c.cs.length ∧ (List.range i.1).all (clAt c) = true) (fun i => c.cs.length - i.1) (0, ()) hs ⟨Nat.zero_le _, rfl⟩ ?_
  rintro ⟨k, u⟩ ⟨hk, hj⟩ I nx
  dsimp only at hk hj ⊢
  by_cases hlt : k < c.cs.length
  · have hx : c.cs[k]? = some c.cs[k] := List.getElem?_eq_getElem hlt
    have hb : (k : Int) + 1 ≤ 1099511627776000 := by omega
    have hst := fun h => cls_step (c := c) (k := k) hj h
    have hbd := fun h => cls_bad (c := c) (k := k) hlt h
    have hfi := l6Find_b c c.cs[k].id
    have hcl := l6Clause_b c k c.cs[k] hx
    have hsk := hsz c.cs[k] (List.getElem_mem hlt)
    rw [clAt_eq hx] at hst hbd
    have hclo : clOk c k c.cs[k] = true → find c.cs c.cs[k].id = k := fun h => by
      unfold clOk at h
      simp only [Bool.and_eq_true, decide_eq_true_eq] at h
      exact h.1.1.1.1.1.2
    clear hj hsz
    generalize c.cs[k] = x at *
    by_cases hf : find c.cs x.id = k
    · rw [hf] at hfi
      have hcl := hcl hf hsk
      have e1 : ((k : Int) != k) = false := bne_self_eq_false _
      cases hv : clOk c k x
      · obtain rfl : r = false := by rw [hrr.out, hbd hv]; rfl
        rw [hv] at hcl
        clear hst hbd hv hclo hf
        refine bgo ?_
        refine b_call hfi rfl rfl rfl rfl ?_
        refine bgo ?_
        refine b_call hcl rfl rfl rfl rfl ?_
        refine bgo ?_
        trivial
      · rw [hv] at hcl
        have hst := hst hv
        clear hbd hv hclo hf
        refine bgo ?_
        refine b_call hfi rfl rfl rfl rfl ?_
        refine bgo ?_
        refine b_call hcl rfl rfl rfl rfl ?_
        refine bgo ?_
        exact nx.go (k + 1, ()) ⟨hlt, hst⟩ (by dsimp only; omega) hs
    · have hv : clOk c k x = false := by
        cases hh : clOk c k x
        · rfl
        · exact absurd (hclo hh) hf
      obtain rfl : r = false := by rw [hrr.out, hbd hv]; rfl
      have e1 : (find c.cs x.id != (k : Int)) = true := by rw [bne_iff_ne]; exact hf
      clear hst hbd hv hclo hcl
      generalize find c.cs x.id = z at *
      refine bgo ?_
      refine b_call hfi rfl rfl rfl rfl ?_
      refine bgo ?_
      trivial
  · have hk' : k = c.cs.length := by omega
    subst hk'
    have hcl : clsOk c = true := hj
    have hw := cls_w hcl
    have hfn := l6Names_b c hle (fun x hx => (okCd_in (hw x hx)).2)
    rw [hcl, Bool.true_and] at hrr
    generalize names2 c.cs = nn at *
    clear hj hcl hw hsz
    by_cases h16 : nn.length ≤ 16
    · obtain rfl : r = true := by rw [hrr.out]; exact decide_eq_true h16
      have h16b : (nn.length : Int) ≤ 16 := by omega
      refine bgo ?_
      refine wk_rfl ?_
      refine bgo ?_
      refine b_call hfn rfl rfl rfl rfl ?_
      refine bgo ?_
      trivial
    · obtain rfl : r = false := by rw [hrr.out]; exact decide_eq_false h16
      have h16b : ¬ (nn.length : Int) ≤ 16 := by omega
      refine bgo ?_
      refine wk_rfl ?_
      refine bgo ?_
      refine b_call hfn rfl rfl rfl rfl ?_
      refine bgo ?_
      trivial
end Go.Bee.C24x


namespace Go.Bee.Cn
open Go Go.Bee Go.Bee.Ty Go.Bee.C23s Go.Bee.Da
structure Du where
  c : Int
  s : Int
  d : Int
  t : Int
def Du.e (x : Du) : PD := .agg [.int .i64 x.c, .int .i64 x.s, .int .i64 x.d, .int .i64 x.t]
structure Sa where
  day : Int
  fs : List Tx
  ds : List Du
  bs : List Int
  ov : Bool
theorem Du.e_eq : ∀ x : Du, x.e = .agg [.int .i64 x.c, .int .i64 x.s, .int .i64 x.d, .int .i64 x.t] := fun _ => rfl
theorem Du.inj (a b : Du) (h : a.e = b.e) : a = b := by
  cases a; cases b
  simp only [Du.e, PD.agg.injEq, List.cons.injEq, PD.int.injEq, true_and, and_true] at h
  simp_all
end Go.Bee.Cn
namespace Go.Bee.C24w
open Go Go.Bee Go.Proofs Go.Bee.Ty Go.Bee.Cn
theorem tys : type_of% (And.intro Go.Bee.C24x.tys Du.e_eq) := And.intro Go.Bee.C24x.tys Du.e_eq
end Go.Bee.C24w
namespace Go.Bee.C24w
open Go Go.Bee Go.Proofs Go.Bee.Ty Go.Bee.C23 Go.Bee.C23s Go.Bee.Da Go.Bee.C24 Go.Bee.C24c Go.Bee.C24d Go.Bee.C24n Go.Bee.C24x Go.Bee.Cn
set_option linter.unusedVariables false
set_option maxRecDepth 20000
attribute [local irreducible] Go.Bee.bwp
def szN {α : Type} (l : List α) (x : Int) : Int := if x - l.length < 0 then -1 else x - l.length
theorem szDutyS_b (l : List Du) (x : Int) (h0 : 0 ≤ x) (hx : x ≤ 1048576) : BRet Tryz.prog 31 [] [.d (.sl 4 (l.map Du.e)), .int x] (.int (szN l x)) [] := by
  refine BRet.len 0 (by kernel_rfl) rfl fun hl => ?_
  simp only [List.length_map] at hl
  refine bof Tryz.func31 ?_
  unfold szN
  by_cases h : x - (l.length : Int) < 0
  · rw [if_pos h]
    refine bgo ?_
    trivial
  · rw [if_neg h]
    refine bgo ?_
    trivial
theorem szIntS_b (l : List Int) (x : Int) (h0 : 0 ≤ x) (hx : x ≤ 1048576) : BRet Tryz.prog 32 [] [.d (.sl 1 (l.map (.int .i64))), .int x] (.int (szN l x)) [] := by
  refine BRet.len 0 (by kernel_rfl) rfl fun hl => ?_
  simp only [List.length_map] at hl
  refine bof Tryz.func32 ?_
  unfold szN
  by_cases h : x - (l.length : Int) < 0
  · rw [if_pos h]
    refine bgo ?_
    trivial
  · rw [if_neg h]
    refine bgo ?_
    trivial
def szSa (s : Sa) (x : Int) : Int := if szL szTx s.fs x < 0 then -1 else if szN s.ds (szL szTx s.fs x) < 0 then -1 else if szN s.bs (szN s.ds (szL szTx s.fs x)) < 0 then -1 else szN s.bs (szN s.ds (szL szTx s.fs x))
def SaOk (s : Sa) : Prop := s.fs.length ≤ 1048576 ∧ s.ds.length ≤ 1048576 ∧ s.bs.length ≤ 1048576
theorem szSa_ok (s : Sa) (x : Int) (h0 : 0 ≤ x) (h1 : x ≤ 1048576) (h : 0 ≤ szSa s x) : SaOk s := by
  have g1 := szL_nice szTx_nice s.fs x h0
  have h2 := szL_len szTx_nice s.fs x h0
  unfold szSa at h
  split at h
  · omega
  split at h
  · omega
  split at h
  · omega
  rename_i a1 a2 a3
  unfold szN at a2 a3
  refine ⟨by have := h2 (by omega); omega, ?_, ?_⟩
  · split at a2
    · omega
    · omega
  · split at a2
    · omega
    · split at a3
      · omega
      · omega
theorem szSa_nice (s : Sa) (x : Int) (h0 : 0 ≤ x) : szSa s x = -1 ∨ (0 ≤ szSa s x ∧ szSa s x ≤ x) := by
  have g1 := szL_nice szTx_nice s.fs x h0
  unfold szSa
  split
  · exact .inl rfl
  split
  · exact .inl rfl
  split
  · exact .inl rfl
  · rename_i a1 a2 a3
    refine .inr ⟨by omega, ?_⟩
    have e1 : szN s.ds (szL szTx s.fs x) ≤ szL szTx s.fs x := by unfold szN; split <;> omega
    have e2 : szN s.bs (szN s.ds (szL szTx s.fs x)) ≤ szN s.ds (szL szTx s.fs x) := by
      generalize szN s.ds (szL szTx s.fs x) = y at *
      unfold szN; split <;> omega
    omega
theorem szState_b (s : Sa) (x : Int) (h0 : 0 ≤ x) (h1 : x ≤ 1048576) : BRet Tryz.prog 11 [] [.agg [.int s.day, .d (.sl 1 (s.fs.map .str)), .d (.sl 4 (s.ds.map Du.e)), .d (.sl 1 (s.bs.map (.int .i64))), .bool s.ov], .int x] (.int (szSa s x)) [] := by
  have hs1 := szStringS_b s.fs x h0 h1
  have hs2 := fun h2 h3 => szDutyS_b s.ds (szL szTx s.fs x) h2 h3
  have hn1 := szL_nice szTx_nice s.fs x h0
  unfold szSa
  generalize szL szTx s.fs x = y at *
  refine bof Tryz.func11 ?_
  by_cases g1 : y < 0
  · rw [if_pos g1]
    clear hs2
    refine bgo ?_
    refine b_call hs1 rfl rfl rfl rfl ?_
    refine bgo ?_
    trivial
  rw [if_neg g1]
  have hs2 := hs2 (by omega) (by omega)
  have hs3 := fun h2 h3 => szIntS_b s.bs (szN s.ds y) h2 h3
  have hn2 : szN s.ds y ≤ y := by unfold szN; split <;> omega
  generalize szN s.ds y = z at *
  by_cases g2 : z < 0
  · rw [if_pos g2]
    clear hs3
    refine bgo ?_
    refine b_call hs1 rfl rfl rfl rfl ?_
    refine bgo ?_
    refine b_call hs2 rfl rfl rfl rfl ?_
    refine bgo ?_
    trivial
  rw [if_neg g2]
  have hs3 := hs3 (by omega) (by omega)
  generalize szN s.bs z = v at *
  by_cases g3 : v < 0
  · rw [if_pos g3]
    refine bgo ?_
    refine b_call hs1 rfl rfl rfl rfl ?_
    refine bgo ?_
    refine b_call hs2 rfl rfl rfl rfl ?_
    refine bgo ?_
    refine b_call hs3 rfl rfl rfl rfl ?_
    refine bgo ?_
    trivial
  rw [if_neg g3]
  refine bgo ?_
  refine b_call hs1 rfl rfl rfl rfl ?_
  refine bgo ?_
  refine b_call hs2 rfl rfl rfl rfl ?_
  refine bgo ?_
  refine b_call hs3 rfl rfl rfl rfl ?_
  refine bgo ?_
  trivial
def Du.z : List PV := [.int 0, .int 0, .int 0, .int 0]
theorem toDuty_b (x : Du) : BRet Tryz.prog 65 [] [.agg [.int x.c, .int x.s, .int x.d, .int x.t]] (.agg [.int x.c, .int x.s, .int x.d, .int x.t]) [] := by
  refine bof Tryz.func65 ?_
  refine bgo ?_
  trivial
theorem toDutyS_b (l : List Du) (hl : l.length ≤ 1048576) : BRet Tryz.prog 35 [] [.d (.sl 4 (l.map Du.e))] (.own 97 4 (l.map Du.e)) [] := by
  refine bof Tryz.func35 ?_
  have hce : ∀ x ∈ l.map Du.e, x.cells.length = 4 := fun x hx => by obtain ⟨y, _, rfl⟩ := List.mem_map.1 hx; rfl
  refine bgo ?_
  refine ⟨by omega, by omega, ?_⟩
  refine b_loop (fun n st => ∃ k : Nat, n = l.length - k ∧ k ≤ l.length ∧ st.tm 0 = .d (.sl 4 (l.map Du.e)) ∧ st.tm 3 = .rsl (.t 7) 97 4 l.length ∧ st.tm 4 = .int k ∧ st.bx (.t 7) = some (filling (l.map Du.e) Du.z l.length k) ∧ ∀ b, b ≠ .t 7 → st.bx b = none) l.length
    ⟨0, rfl, Nat.zero_le _, rfl, rfl, rfl, by rw [filling_0]; rfl, fun b hb => by simp [bx_put, bx_strip1, bx_sbx, bx_init, bxOf_nil, hb]⟩ ?_
  rintro n st ⟨k, rfl, hk, t0, t3, t4, t7, hb⟩
  by_cases hlt : k < l.length
  · have hx : l[k]? = some l[k] := List.getElem?_eq_getElem hlt
    have hc := toDuty_b l[k]
    have hfl := filling_len (l := l.map Du.e) (zero := Du.z) (n := l.length) (k := k) (sz := 4) rfl hce (by simp) hk
    have hfs := filling_step (l := l.map Du.e) (zero := Du.z) (n := l.length) (k := k) (sz := 4) rfl hce (by simp) (by simpa using hlt)
    have hfb : (List.take (k * 4) (filling (l.map Du.e) Du.z l.length k) ++ [PV.int l[k].c, PV.int l[k].s, PV.int l[k].d, PV.int l[k].t] ++ List.drop (k * 4 + 4) (filling (l.map Du.e) Du.z l.length k)).map PV.bC = filling (l.map Du.e) Du.z l.length (k + 1) := by
      rw [List.map_append, List.map_append, List.map_take, List.map_drop, filling_bC rfl, ← hfs, List.getElem_map]; rfl
    clear hce hfs
    refine bgo ?_
    refine b_call hc rfl rfl rfl rfl ?_
    refine bgo ?_
    refine ⟨by omega, _, _, Weak.bC (.t 7), by omega, k + 1, rfl, hlt, t0, t3, rfl, congrArg some hfb, fun b hne => ?_⟩
    have := hb b hne
    simp [bx_put, bx_strip1, bx_sbx, hne, this]
  · have hk' : k = l.length := by omega
    subst hk'
    refine bgo ?_
    refine made (t := 3) (l := l.map Du.e) t3 (t7.trans ?_) (by simp) hce hb fun s s3 hb => ?_
    · rw [← filling_n (l.map Du.e) Du.z, List.length_map]
    refine bgo ?_
    trivial
def int0 : List PV := [.int 0]
theorem toIntS_b (l : List Int) (hl : l.length ≤ 1048576) : BRet Tryz.prog 36 [] [.d (.sl 1 (l.map (.int .i64)))] (.own 3 1 (l.map (.int .i64))) [] := by
  refine bof Tryz.func36 ?_
  have hce : ∀ x ∈ l.map (PD.int .i64), x.cells.length = 1 := fun x hx => by obtain ⟨y, _, rfl⟩ := List.mem_map.1 hx; rfl
  refine bgo ?_
  refine ⟨by omega, by omega, ?_⟩
  refine b_loop (fun n st => ∃ k : Nat, n = l.length - k ∧ k ≤ l.length ∧ st.tm 0 = .d (.sl 1 (l.map (.int .i64))) ∧ st.tm 3 = .rsl (.t 7) 3 1 l.length ∧ st.tm 4 = .int k ∧ st.bx (.t 7) = some (filling (l.map (.int .i64)) int0 l.length k) ∧ ∀ b, b ≠ .t 7 → st.bx b = none) l.length
    ⟨0, rfl, Nat.zero_le _, rfl, rfl, rfl, by rw [filling_0]; rfl, fun b hb => by simp [bx_put, bx_strip1, bx_sbx, bx_init, bxOf_nil, hb]⟩ ?_
  rintro n st ⟨k, rfl, hk, t0, t3, t4, t7, hb⟩
  by_cases hlt : k < l.length
  · have hx : l[k]? = some l[k] := List.getElem?_eq_getElem hlt
    have hfl := filling_len (l := l.map (PD.int .i64)) (zero := int0) (n := l.length) (k := k) (sz := 1) rfl hce (by simp) hk
    have hfs := filling_step (l := l.map (PD.int .i64)) (zero := int0) (n := l.length) (k := k) (sz := 1) rfl hce (by simp) (by simpa using hlt)
    rw [Nat.mul_one] at hfs hfl
    have hfb : (List.take k (filling (l.map (PD.int .i64)) int0 l.length k) ++ [PV.int l[k]] ++ List.drop (k + 1) (filling (l.map (PD.int .i64)) int0 l.length k)).map PV.bC = filling (l.map (.int .i64)) int0 l.length (k + 1) := by
      rw [List.map_append, List.map_append, List.map_take, List.map_drop, filling_bC rfl, ← hfs, List.getElem_map]; rfl
    clear hce hfs
    refine bgo ?_
    refine ⟨by omega, _, _, Weak.bC (.t 7), by omega, k + 1, rfl, hlt, t0, t3, rfl, ?_, fun b hne => ?_⟩
    · refine Eq.trans ?_ (congrArg some hfb)
      simp [bx_put, bx_strip1, bx_sbx]
    have := hb b hne
    simp [bx_put, bx_strip1, bx_sbx, hne, this]
  · have hk' : k = l.length := by omega
    subst hk'
    refine bgo ?_
    refine made (t := 3) (l := l.map (.int .i64)) t3 (t7.trans ?_) (by simp) hce hb fun s s3 hb => ?_
    · have := filling_n (l.map (PD.int .i64)) int0
      rw [List.length_map] at this
      rw [this]
    refine bgo ?_
    trivial
theorem toState_b (s : Sa) (h : SaOk s) : BRet Tryz.prog 13 [] [.agg [.int s.day, .d (.sl 1 (s.fs.map .str)), .d (.sl 4 (s.ds.map Du.e)), .d (.sl 1 (s.bs.map (.int .i64))), .bool s.ov]]
    (.agg [.int s.day, .own 9 1 (s.fs.map .str), .own 97 4 (s.ds.map Du.e), .own 3 1 (s.bs.map (.int .i64)), .bool s.ov]) [] := by
  have h1 := toStringS_b s.fs h.1
  have h2 := toDutyS_b s.ds h.2.1
  have h3 := toIntS_b s.bs h.2.2
  refine bof Tryz.func13 ?_
  refine bgo ?_
  refine b_call h1 rfl rfl rfl rfl ?_
  refine bgo ?_
  refine b_call h2 rfl rfl rfl rfl ?_
  refine bgo ?_
  refine b_call h3 rfl rfl rfl rfl ?_
  refine bgo ?_
  trivial
theorem eqDuty_s (x : Du) : BRet Tryz.prog 72 [] [.agg [.int x.c, .int x.s, .int x.d, .int x.t], .agg [.int x.c, .int x.s, .int x.d, .int x.t]] (.bool true) [] := by
  refine bof Tryz.func72 ?_
  refine bgo ?_
  trivial
theorem eqDutyS_s (l : List Du) : BRet Tryz.prog 39 [] [.d (.sl 4 (l.map Du.e)), .d (.sl 4 (l.map Du.e))] (.bool true) [] := by
  refine BRet.len 0 (by kernel_rfl) rfl fun hl => ?_
  simp only [List.length_map] at hl
  refine bof Tryz.func39 ?_
  refine bgo ?_
  refine b_lp (ι := Nat × Unit) (fun i => [(0, .d (.sl 4 (l.map Du.e))), (1, .d (.sl 4 (l.map Du.e))), (5, .int i.1)]) (fun _ => []) (fun i => i.1 ≤ l.length) (fun i => l.length - i.1) (0, ()) hs (Nat.zero_le _) ?_
  rintro ⟨i, u⟩ hi I nx
  dsimp only at hi ⊢
  by_cases hlt : i < l.length
  · have hx : l[i]? = some l[i] := List.getElem?_eq_getElem hlt
    have hc := eqDuty_s l[i]
    generalize l[i] = x at *
    have hib : (i : Int) + 1 ≤ 1099511627776000 := by omega
    refine bgo ?_
    refine b_call hc rfl rfl rfl rfl ?_
    refine bgo ?_
    exact nx.go (i + 1, ()) hlt (by dsimp only; omega) hs
  · have hlt2 : ¬ i < l.length := by omega
    refine bgo ?_
    refine wk_rfl ?_
    refine bgo ?_
    trivial
theorem eqIntS_s (l : List Int) : BRet Tryz.prog 40 [] [.d (.sl 1 (l.map (.int .i64))), .d (.sl 1 (l.map (.int .i64)))] (.bool true) [] := by
  refine BRet.len 0 (by kernel_rfl) rfl fun hl => ?_
  refine bof Tryz.func40 ?_
  have hll : (l.map (PD.int .i64)).length = l.length := by simp
  have hli : ∀ i (h : i < l.length), (l.map (PD.int .i64))[i]? = some (.int .i64 l[i]) := fun i h => by simp [h]
  generalize l.map (PD.int .i64) = q at *
  refine bgo ?_
  refine b_lp (ι := Nat × Unit) (fun i => [(0, .d (.sl 1 q)), (1, .d (.sl 1 q)), (5, .int i.1)]) (fun _ => []) (fun i => i.1 ≤ l.length) (fun i => l.length - i.1) (0, ()) hs (Nat.zero_le _) ?_
  rintro ⟨i, u⟩ hi I nx
  dsimp only at hi ⊢
  by_cases hlt : i < l.length
  · have hx := hli i hlt
    generalize l[i] = x at *
    have hib : (i : Int) + 1 ≤ 1099511627776000 := by omega
    have hlt2 : i < q.length := by omega
    clear hli
    refine bgo ?_
    exact nx.go (i + 1, ()) hlt (by dsimp only; omega) hs
  · have hlt2 : ¬ i < q.length := by omega
    refine bgo ?_
    refine wk_rfl ?_
    refine bgo ?_
    trivial
theorem eqState_s (s : Sa) : BRet Tryz.prog 16 [] [.agg [.int s.day, .d (.sl 1 (s.fs.map .str)), .d (.sl 4 (s.ds.map Du.e)), .d (.sl 1 (s.bs.map (.int .i64))), .bool s.ov], .agg [.int s.day, .d (.sl 1 (s.fs.map .str)), .d (.sl 4 (s.ds.map Du.e)), .d (.sl 1 (s.bs.map (.int .i64))), .bool s.ov]] (.bool true) [] := by
  have h1 := eqStringS_s s.fs
  have h2 := eqDutyS_s s.ds
  have h3 := eqIntS_s s.bs
  refine bof Tryz.func16 ?_
  refine bgo ?_
  refine b_call h1 rfl rfl rfl rfl ?_
  refine bgo ?_
  refine b_call h2 rfl rfl rfl rfl ?_
  refine bgo ?_
  refine b_call h3 rfl rfl rfl rfl ?_
  refine bgo ?_
  trivial
end Go.Bee.C24w

