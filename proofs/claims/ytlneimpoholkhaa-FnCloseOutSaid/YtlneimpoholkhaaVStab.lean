/- The library's stable sort of at most twenty ints over this program, whatever the comparing function. No condition. -/
import Derived.Test.YtlneimpoholkhaaVSort
import Derived.Shelf.SlSortCmp.Insertion
import Derived.WalkKit
import Derived.Deep.LoopGhost
import Derived.KernelRfl
namespace Go.Proofs
open Go.Shelf
def YtlneimpoholkhaaStab.lays20_ren : Go.Shelf.Ren := ⟨fun | 20 => 133 | n => n, fun | 24 => 3 | 22 => 40 | 3 => 3 | 25 => 77 | 4 => 4 | 0 => 0 | n => n, fun | n => n⟩
theorem YtlneimpoholkhaaStab.lays20 : Go.Proofs.SlLaysF.n20 Try.prog YtlneimpoholkhaaStab.lays20_ren := {
  mixed := by kernel_rfl
  f20 := ⟨Try.f133.name, by decide, Try.func133.trans (congrArg some (by kernel_rfl))⟩
  t0 := Try.underlying0
  a0 := Try.isAgg0
  z0 := Try.sizeOf0
  v0 := Try.zeroValue0
  t3 := Try.underlying3
  a3 := Try.isAgg3
  z3 := Try.sizeOf3
  v3 := Try.zeroValue3
  t4 := Try.underlying4
  a4 := Try.isAgg4
  z4 := Try.sizeOf4
  v4 := Try.zeroValue4
  t22 := Try.underlying40
  a22 := Try.isAgg40
  z22 := Try.sizeOf40
  v22 := Try.zeroValue40
  a24 := Try.isAgg3
  z24 := Try.sizeOf3
  t25 := Try.underlying77
  a25 := Try.isAgg77
  z25 := Try.sizeOf77
  v25 := Try.zeroValue77 }
end Go.Proofs
namespace Go.Proofs.YtlneimpoholkhaaStab
open Go.Shelf Go.Sort Go.RowKit Go.Proofs.YtlneimpoholkhaaW.PrintWords Go.Proofs.YtlneimpoholkhaaW.PrintLast Go.Proofs.YtlneimpoholkhaaW.PrintMore Go.Proofs.YtlneimpoholkhaaSort
section
variable {α : Type}
/-- x into a list that stands backwards. -/
def insB (lt : α → α → Bool) (x : α) : List α → List α
  | [] => [x]
  | y :: ys => if lt x y = true then y :: insB lt x ys else x :: y :: ys
def stab (lt : α → α → Bool) (l : List α) : List α := (l.foldl (fun acc x => insB lt x acc) []).reverse
theorem insB_length (lt : α → α → Bool) (x : α) : ∀ l : List α, (insB lt x l).length = l.length + 1
  | [] => rfl
  | y :: ys => by
    rw [insB]
    split
    · simp [insB_length lt x ys]
    · rfl
theorem insInner_list [Inhabited α] (lt : α → α → Bool) (x : α) : ∀ (A : List α) (rest : List α), insInner lt 0 A.length (A.reverse ++ x :: rest).toArray = ((insB lt x A).reverse ++ rest).toArray
  | [], rest => rfl
  | y :: A, rest => by
    have e1 : ((y :: A).reverse ++ x :: rest).toArray[A.length + 1]! = x := by
      rw [List.getElem!_toArray]
      simp
    have e2 : ((y :: A).reverse ++ x :: rest).toArray[A.length]! = y := by
      rw [List.getElem!_toArray]
      simp
    have e3 : swp ((y :: A).reverse ++ x :: rest).toArray (A.length + 1) A.length = (A.reverse ++ x :: (y :: rest)).toArray := by
      unfold swp
      rw [e1, e2, List.setIfInBounds_toArray, List.setIfInBounds_toArray]
      congr 1
      simp
    rw [List.length_cons, insInner, e1, e2, e3, insB]
    by_cases c : lt x y = true
    · rw [c, if_pos (by simp), insInner_list lt x A (y :: rest), if_pos rfl]
      simp
    · rw [if_neg (by simp [c]), if_neg c]
      simp
theorem insOuter_list [Inhabited α] (lt : α → α → Bool) : ∀ (rest A : List α), insOuter lt 0 (A.length + rest.length) A.length (A.reverse ++ rest).toArray = (rest.foldl (fun acc x => insB lt x acc) A).reverse.toArray
  | [], A => by
    rw [insOuter, if_neg (by simp)]
    simp
  | x :: rest, A => by
    rw [insOuter, if_pos (by simp), insInner_list lt x A rest]
    have := insOuter_list lt rest (insB lt x A)
    rw [insB_length] at this
    rw [List.foldl_cons, ← this]
    congr 1
    simp
    omega
theorem insertionSort_list [Inhabited α] (lt : α → α → Bool) (l : List α) : insertionSort lt l.toArray 0 l.length = (stab lt l).toArray := by
  unfold insertionSort stab
  cases l with
  | nil =>
    rw [insOuter, if_neg (by simp)]
    rfl
  | cons x l =>
    have := insOuter_list lt l [x]
    rw [List.foldl_cons]
    rw [show insB lt x [] = [x] from rfl, ← this]
    congr 1
    simp
    omega
theorem insB_map {β : Type} (lt : α → α → Bool) (lt' : β → β → Bool) (f : α → β) (h : ∀ x y, lt x y = lt' (f x) (f y)) (x : α) : ∀ l : List α, (insB lt x l).map f = insB lt' (f x) (l.map f)
  | [] => rfl
  | y :: ys => by
    rw [insB, List.map_cons, insB, h]
    split
    · rw [List.map_cons, insB_map lt lt' f h x ys]
    · rfl
theorem stab_map {β : Type} (lt : α → α → Bool) (lt' : β → β → Bool) (f : α → β) (h : ∀ x y, lt x y = lt' (f x) (f y)) (l : List α) : (stab lt l).map f = stab lt' (l.map f) := by
  have : ∀ (l A : List α), (l.foldl (fun acc x => insB lt x acc) A).map f = (l.map f).foldl (fun acc x => insB lt' x acc) (A.map f) := by
    intro l
    induction l with
    | nil => intro A; rfl
    | cons x l ih =>
      intro A
      rw [List.foldl_cons, ih, insB_map lt lt' f h, List.map_cons, List.foldl_cons]
  unfold stab
  rw [List.map_reverse, this]
  rfl
theorem stab_length (lt : α → α → Bool) (l : List α) : (stab lt l).length = l.length := by
  have : ∀ (l A : List α), (l.foldl (fun acc x => insB lt x acc) A).length = l.length + A.length := by
    intro l
    induction l with
    | nil => intro A; simp
    | cons x l ih =>
      intro A
      rw [List.foldl_cons, ih, insB_length, List.length_cons]
      omega
  unfold stab
  rw [List.length_reverse, this]
  rfl
end
theorem size_ins {α : Type} [Inhabited α] (lt : α → α → Bool) (d : Array α) : (Sort.insertionSort lt d 0 d.size).size = d.size := by
  have := insertionSort_list lt d.toList
  rw [Array.length_toList] at this
  rw [this]
  simp [stab_length]
/-- The library's insertion sort of a piece of a row, whatever the comparing function. -/
theorem ins_run (g : Nat) (cb : Array Value) (eg : ∀ args w, (callFunc g args).run Try.prog w = .ok (.enter g args) w) {α : Type} [Inhabited α] (enc : α → Value) (hO : ∀ x, (enc x).oneCell' = true) (cf : α → α → Int) (blk cap a b : Nat) (d : Array α) (w : World)
    (hcmp : CmpReads Try.prog g cb enc cf blk 0 d.size w) (hH : Holds enc w blk 0 d) (hab : a ≤ b) (hb : b ≤ d.size) (hsz : d.size < 4611686018427387904) :
    Calls Try.prog 133 #[.slice (some ⟨blk, 0, none⟩) d.size cap, .int .i64 a, .int .i64 b, .func (.func g) #[] cb] w fun e w' =>
      e = .returned (.tuple #[]) ∧ ∃ n, w' = (putRow enc w blk 0 (Sort.insertionSort (ltOf cf) d a b)).drewN n :=
  Any.insertionSortCmpFunc_one lays20 enc hO cf g cb blk 0 cap a b d w eg hcmp hH hab hb hsz
theorem put_drew {α : Type} [Inhabited α] (enc : α → Value) (w : World) (blk m : Nat) (X : Array α) : (putRow enc w blk 0 X).drewN m = putRow enc (Sort.ahead w m) blk 0 X := by
  have := putRow_drewN (enc := enc) w 0 m blk 0 X
  rw [Nat.zero_add] at this
  exact this
set_option maxHeartbeats 4000000 in
set_option maxRecDepth 100000 in
theorem stable_run (g : Nat) (cb : Array Value) (eg : ∀ args w, (callFunc g args).run Try.prog w = .ok (.enter g args) w) {α : Type} [Inhabited α] (enc : α → Value) (hO : ∀ x, (enc x).oneCell' = true) (cf : α → α → Int) (blk cap : Nat) (d : Array α) (w : World)
    (hcmp : CmpReads Try.prog g cb enc cf blk 0 d.size w) (hH : Holds enc w blk 0 d) (h20 : d.size ≤ 20) :
    Calls Try.prog 132 #[.slice (some ⟨blk, 0, none⟩) d.size cap, .int .i64 d.size, .func (.func g) #[] cb] w fun e w' =>
      e = .returned (.tuple #[]) ∧ ∃ n, w' = (putRow enc w blk 0 (Sort.insertionSort (ltOf cf) d 0 d.size)).drewN n := by
  have HI := Aside0.mk (ins_run g cb eg enc hO cf blk cap 0 d.size d w hcmp hH (Nat.zero_le _) (Nat.le_refl _) (by omega))
  by_cases h : d.size = 20
  · have hnoop : ∀ m, Calls Try.prog 133 #[.slice (some ⟨blk, 0, none⟩) d.size cap, .int .i64 d.size, .int .i64 d.size, .func (.func g) #[] cb] ((putRow enc w blk 0 (Sort.insertionSort (ltOf cf) d 0 d.size)).drewN m) fun e w' =>
        e = .returned (.tuple #[]) ∧ ∃ n, w' = (putRow enc w blk 0 (Sort.insertionSort (ltOf cf) d 0 d.size)).drewN n := by
      intro m
      have hs := size_ins (ltOf cf) d
      generalize Sort.insertionSort (ltOf cf) d 0 d.size = X at hs ⊢
      have hc : CmpReads Try.prog g cb enc cf blk 0 X.size ((putRow enc w blk 0 X).drewN m) := by
        intro m2 os dk hdk x y
        have := hcmp (m + m2) os dk (hdk.trans hs) x y
        rw [show sortWorld enc ((putRow enc w blk 0 X).drewN m) blk 0 m2 dk os = sortWorld enc w blk 0 (m + m2) dk os from ?_]
        · exact this
        · unfold sortWorld
          congr 1
          have e1 : Sort.ahead ((putRow enc w blk 0 X).drewN m) m2 = putRow enc (Sort.ahead w (m + m2)) blk 0 X := by
            rw [put_drew, ← putRow_drewN]
            rfl
          rw [e1]
          exact putRow_putRow _ _ _ _ _ _ hdk
      have := ins_run g cb eg enc hO cf blk cap X.size X.size X _ hc (holds_putRow enc w blk 0 d X hH hs) (Nat.le_refl _) (Nat.le_refl _) (by omega)
      rw [hs] at this
      refine this.mono ?_
      rintro e w' ⟨rfl, n, rfl⟩
      refine ⟨rfl, m + n, ?_⟩
      have e2 : Sort.insertionSort (ltOf cf) X d.size d.size = X := by
        unfold Sort.insertionSort
        rw [insOuter_stop _ _ _ _ _ (by omega)]
      rw [e2, put_drew enc w blk m, putRow_putRow _ _ _ _ _ _ rfl, put_drew, put_drew]
      show putRow enc (Sort.ahead (Sort.ahead w m) n) blk 0 X = _
      rw [Sort.ahead_ahead]
    have HN := Aside0.mk hnoop
    clear hnoop hcmp hH
    rw [h] at HI HN
    rw [h]
    go_enter Try.func132, Try.ntmps132
    go_wp2
    go_loopg [7, 8] 2 (fun gg s7 s8 wr => (gg = 2 ∧ s7 = .int .i64 0 ∧ s8 = .int .i64 20 ∧ wr = w) ∨ (gg = 1 ∧ s7 = .int .i64 20 ∧ s8 = .int .i64 40 ∧ ∃ m, wr = (putRow enc w blk 0 (Sort.insertionSort (ltOf cf) d 0 20)).drewN m))
    case atStart => exact .inl ⟨rfl, rfl, rfl, rfl⟩
    case round =>
      rcases hrel with ⟨rfl, rfl, rfl, rfl⟩ | ⟨rfl, rfl, rfl, m, rfl⟩
      · go_wp2_with (go_at_call 133; refine HI.out.mono ?_; rintro e w' ⟨rfl, n, rfl⟩)
        go_roundg 1
        case measure => omega
        case rel => exact .inr ⟨rfl, by go_num, by go_num, n, rfl⟩
      · go_wp2_with (go_at_call 133; refine (HN.out m).mono ?_; rintro e w' ⟨rfl, n, rfl⟩)
        refine wp_loop_rounds 1 ?_
        rw [rounds_succ]
        go_wp2
        go_end0
        exact ⟨rfl, n, rfl⟩
  · have hlt : d.size < 20 := by omega
    have hltz : ¬ (20 : Int) ≤ (d.size : Int) := by omega
    have hltz2 : ¬ (20 : Int) < (d.size : Int) := by omega
    clear hcmp hH h
    go_enter Try.func132, Try.ntmps132
    go_wp2
    refine wp_loop_rounds 1 ?_
    rw [rounds_succ]
    go_wp2_with (go_at_call 133; refine HI.out.mono ?_; rintro e w' ⟨rfl, n, rfl⟩)
    refine wp_loop_rounds 1 ?_
    rw [rounds_succ]
    go_wp2
    go_end0
    exact ⟨rfl, n, rfl⟩
set_option maxHeartbeats 4000000 in
theorem sort_run (g : Nat) (cb : Array Value) (eg : ∀ args w, (callFunc g args).run Try.prog w = .ok (.enter g args) w) {α : Type} [Inhabited α] (enc : α → Value) (hO : ∀ x, (enc x).oneCell' = true) (cf : α → α → Int) (blk cap : Nat) (d : Array α) (w : World)
    (hcmp : CmpReads Try.prog g cb enc cf blk 0 d.size w) (hH : Holds enc w blk 0 d) (h20 : d.size ≤ 20) :
    Calls Try.prog 128 #[.slice (some ⟨blk, 0, none⟩) d.size cap, .func (.func g) #[] cb] w fun e w' =>
      e = .returned (.tuple #[]) ∧ ∃ n, w' = (putRow enc w blk 0 (Sort.insertionSort (ltOf cf) d 0 d.size)).drewN n := by
  have HI := stable_run g cb eg enc hO cf blk cap d w hcmp hH h20
  clear hcmp hH
  go_enter Try.func128, Try.ntmps128
  go_wp2_with (go_at_call 132; refine HI.mono ?_; rintro e w' ⟨rfl, n, rfl⟩)
  go_end0
  exact ⟨rfl, n, rfl⟩
def stabI (p : Int → Int → Option Int) (l : List Int) : List Int := stab (fun x y => decide ((p x y).getD 0 < 0)) l
theorem stables (g : Nat) (cb : Array Value) (eg : ∀ args w, (callFunc g args).run Try.prog w = .ok (.enter g args) w) (p : Int → Int → Option Int) (P0_ : Nat → Prop) (u : Value) (l0 : List Int) (w0 w : World) (hB : Below w0.heap.size w0 w) (ho0 : Kd.R (Kd.int .i64) 3 w w0.heap.size P0_ u l0)
    (hp : 0 < l0.length) (h20 : l0.length ≤ 20) (hall : ∀ x ∈ l0, ∀ y ∈ l0, (p x y).isSome = true)
    (hcmp : ∀ W, Kept w W (fun k_ => P0_ k_) → ∀ x y c, p x y = some c → Calls Try.prog g (#[.int .i64 x, .int .i64 y] ++ cb) W fun e w' => e = .returned (.int .i64 c) ∧ Drawn0 W w') :
    Calls Try.prog 128 #[u, .func (.func g) #[] cb] w fun e w' => e = .returned (.tuple #[]) ∧ Kd.R (Kd.int .i64) 3 w' w0.heap.size (fun k_ => (P0_ k_ ∨ w.heap.size ≤ k_)) u (stabI p l0) ∧ Below w0.heap.size w0 w' ∧ Kept w w' (fun k_ => P0_ k_) := by
  obtain ⟨ho, hr⟩ := Kd.own_of_R ho0
  rcases hr with ⟨rfl, h0⟩ | ⟨b, cap, cur, rfl, hb, hg, hn, hm, hs, ht⟩
  · omega
  have hP : P0_ b := ho0.1 b (by simp [Value.ownBlock])
  have hs' : cur.size = cap := by simpa using hs
  have ht' : cur.toList.take l0.length = l0.map (Value.int .i64) := by simpa [encs] using ht
  have hne : l0 ≠ [] := List.ne_nil_of_length_pos hp
  haveI : Inhabited {x : Int // x ∈ l0} := ⟨⟨l0.head hne, List.head_mem hne⟩⟩
  let enc : {x : Int // x ∈ l0} → Value := fun x => .int .i64 x.1
  let cf : {x : Int // x ∈ l0} → {x : Int // x ∈ l0} → Int := fun x y => (p x.1 y.1).getD 0
  have hla : l0.attach.length = l0.length := List.length_attach
  have hma : l0.attach.map enc = l0.map (Value.int .i64) := by
    show l0.attach.map ((Value.int .i64) ∘ Subtype.val) = _
    rw [← List.map_map, List.attach_map_subtype_val]
  have hH : Holds enc w b 0 l0.attach.toArray := holds_of enc w b l0.attach hg (by rw [hla, ht', hma]) (by rw [hla]; omega)
  have hsz : l0.attach.toArray.size = l0.length := by simp
  have hc : CmpReads Try.prog g cb enc cf b 0 l0.attach.toArray.size w := by
    intro m os dk hdk x y
    have hk : Kept w (sortWorld enc w b 0 m dk os) (fun k_ => P0_ k_) := by
      have hz := put_size enc w m b 0 dk
      refine ⟨?_, fun k hk hn' => ?_⟩
      · rw [← hz]
        simp [sortWorld, grow]
      · unfold sortWorld
        rw [grow_at _ _ _ (by rw [hz]; exact hk), put_other enc w m b 0 dk k (fun e => hn' (e ▸ hP))]
    obtain ⟨c, hc⟩ := Option.isSome_iff_exists.mp (hall x.1 x.2 y.1 y.2)
    refine (hcmp _ hk x.1 y.1 c hc).mono ?_
    rintro e w' ⟨rfl, hd⟩
    obtain ⟨q, rfl⟩ := hd
    exact ⟨by simp [cf, hc], q, rfl⟩
  have hrun := sort_run g cb eg enc (fun _ => rfl) cf b cap l0.attach.toArray w hc hH (by rw [hsz]; exact h20)
  rw [hsz] at hrun
  refine hrun.mono ?_
  rintro e w' ⟨rfl, n, rfl⟩
  have hX : Sort.insertionSort (ltOf cf) l0.attach.toArray 0 l0.length = (stab (ltOf cf) l0.attach).toArray := by
    have := insertionSort_list (ltOf cf) l0.attach
    rw [hla] at this
    exact this
  have hmap : (stab (ltOf cf) l0.attach).map Subtype.val = stabI p l0 := by
    unfold stabI
    rw [stab_map (ltOf cf) (fun x y => decide ((p x y).getD 0 < 0)) Subtype.val (fun _ _ => rfl), List.attach_map_subtype_val]
  have hl : (stab (ltOf cf) l0.attach).length = l0.length := by rw [stab_length, hla]
  have hl2 : (stabI p l0).length = l0.length := stab_length _ _
  rw [hX, put_drew]
  obtain ⟨hgr, cur', hc', hcs, htk⟩ := after enc w b n (stab (ltOf cf) l0.attach) #[] hg (by rw [hl]; omega)
  rw [grow_empty] at hgr hc'
  refine ⟨rfl, ?_, hB.grown hgr hB.size (fun k hk => by cases hk; exact hb), hgr.size, fun k hk hn' => hgr.block k hk (fun e => hn' (by cases e; exact hP))⟩
  have htk' : cur'.toList.take (stabI p l0).length = (stabI p l0).map (Value.int .i64) := by
    rw [hl] at htk
    rw [hl2, htk, ← hmap, List.map_map]
    rfl
  have := back (h1 := fun _ => rfl) (ok := fun k_ => (P0_ k_ ∨ w.heap.size ≤ k_)) (ys := stabI p l0) hb (.inl hP) hc' (hcs.trans hs') (by omega) hm htk'
  rw [hl2] at this
  exact this
end Go.Proofs.YtlneimpoholkhaaStab
