/- General words of these proofs: what of the memory stays, and maps as lists of pairs. -/
import Derived.WalkKit
import Derived.Deep.QuietTactic
import Derived.BigQuiet
import Derived.Lib.Hide
namespace Go.Proofs.YtgiimmiandhkhaaDoor
open Go.RowKit
set_option linter.unusedSimpArgs false
set_option linter.unusedVariables false

/-! ### what stays of the memory -/

/-- The block that has just been made. -/
theorem alloc_at (w : World) (o : Obj) : (w.alloc o).heap[w.heap.size]? = some o := (MapKept.heap_alloc w o).1
theorem one_at (w : World) (v : Value) (t : TypeId) : (w.alloc (.cells #[v] t)).cell? ⟨w.heap.size, 0, none⟩ = some v := cell_of_one (alloc_at w _)

/-- w' is w but for blocks of F and new blocks. -/
structure Ext (F : Nat → Prop) (w w' : World) : Prop where
  os : w'.os = w.os
  tape : w'.tape = w.tape
  output : w'.output = w.output
  size : w.heap.size ≤ w'.heap.size
  block : ∀ k, k < w.heap.size → ¬ F k → w'.heap[k]? = w.heap[k]?

def NoB : Nat → Prop := fun _ => False
theorem nb {k : Nat} : ¬ NoB k := id
theorem nb1 {k : Nat} {p : Prop} : p → ¬ NoB k := fun _ => id

theorem Ext.refl (F : Nat → Prop) (w : World) : Ext F w w := ⟨rfl, rfl, rfl, Nat.le_refl _, fun _ _ _ => rfl⟩

theorem Ext.trans {F G : Nat → Prop} {a b c : World} (h : Ext F a b) (k : Ext G b c) (hG : ∀ i, i < a.heap.size → G i → F i) : Ext F a c :=
  ⟨k.os.trans h.os, k.tape.trans h.tape, k.output.trans h.output, Nat.le_trans h.size k.size,
   fun i hi hn => (k.block i (Nat.lt_of_lt_of_le hi h.size) (fun g => hn (hG i hi g))).trans (h.block i hi hn)⟩

theorem Ext.mono {F G : Nat → Prop} {a b : World} (h : Ext F a b) (hG : ∀ i, i < a.heap.size → F i → G i) : Ext G a b :=
  ⟨h.os, h.tape, h.output, h.size, fun i hi hn => h.block i hi (fun f => hn (hG i hi f))⟩

theorem Ext.drewN {F : Nat → Prop} {a b : World} (h : Ext F a b) (n : Nat) : Ext F a (b.drewN n) := ⟨h.os, h.tape, h.output, h.size, h.block⟩
theorem Ext.drew {F : Nat → Prop} {a b : World} (h : Ext F a b) : Ext F a b.drew := ⟨h.os, h.tape, h.output, h.size, h.block⟩

theorem Ext.alloc {F : Nat → Prop} {a b : World} (h : Ext F a b) (o : Obj) : Ext F a (b.alloc o) :=
  h.trans (G := NoB) ⟨rfl, rfl, rfl, by simp, fun k hk _ => Below.heap_alloc _ _ _ hk⟩ (fun _ _ g => g.elim)

theorem Ext.setCell {F : Nat → Prop} {a b : World} (h : Ext F a b) {p : Addr} (hp : p.block < a.heap.size → F p.block) (u : Value) : Ext F a (b.setCell p u) :=
  h.trans (G := fun k => k = p.block) ⟨rfl, rfl, rfl, by simp [World.setCell], fun k _ hn => Below.heap_setCell _ _ _ _ hn⟩ (fun i hi g => by subst g; exact hp hi)

theorem Ext.below {F : Nat → Prop} {w w' : World} (h : Ext F w w') (hF : ∀ i, i < w.heap.size → ¬ F i) : Below w.heap.size w w' :=
  ⟨h.os, h.tape, h.output, h.size, fun k hk => h.block k hk (hF k hk)⟩

theorem Ext.of_below {F : Nat → Prop} {w w' : World} (h : Below w.heap.size w w') : Ext F w w' :=
  ⟨h.os, h.tape, h.output, h.size, fun k hk _ => h.block k hk⟩

/-- A block that is not in F, told by what it holds. -/
theorem Ext.keep {F : Nat → Prop} {w w' : World} (h : Ext F w w') {k : Nat} {o : Obj} (hk : w.heap[k]? = some o) (hn : ¬ F k) : w'.heap[k]? = some o :=
  (h.block k (lt_of_block hk) hn).trans hk

theorem Ext.lt {F : Nat → Prop} {w w' : World} (h : Ext F w w') {k : Nat} (hk : k < w.heap.size) : k < w'.heap.size := Nat.lt_of_lt_of_le hk h.size

theorem Ext.cell {F : Nat → Prop} {w w' : World} (h : Ext F w w') {a : Addr} {v : Value} (hc : w.cell? a = some v) (hn : ¬ F a.block) : w'.cell? a = some v :=
  (World.cell?_of_block (w := w) (h.block a.block (World.block_lt_of_cell? w a hc) hn)).trans hc

/-- The world under a name of its own, behind draws. -/
theorem gen_wp {P : Program} {c : Code} {Q : Exit → Act → World → Prop} {a : Act} {w : World} {n : Nat} (h : ∀ wz, Ext NoB w wz → c.wp P Q a wz) : c.wp P Q a (w.drewN n) :=
  h _ ((Ext.refl _ _).drewN _)
theorem gen_wpd {P : Program} {c : Code} {Q : Exit → Act → World → Prop} {a : Act} {w : World} (h : ∀ wz, Ext NoB w wz → c.wp P Q a wz) : c.wp P Q a w.drew :=
  h _ ((Ext.refl _ _).drew)

/-! ### calls -/

/-- A call of F enters its body. -/
def Plainly (P : Program) (F : FuncId) : Prop := ∀ args w, (callFunc F args).run P w = .ok (.enter F args) w

theorem plainly_of {P : Program} {F : FuncId} {fn : Func} (hf : P.funcs[F]? = some fn) (hn : (fn.name == "runtime.NumGoroutine") = false) (hb : fn.body.isNone = false) : Plainly P F := by
  intro args w
  simp only [callFunc, Sem.run_bind, run_program, Result.andThen_ok, hf, hn, hb, Bool.false_eq_true, if_false, Sem.run_pure]

/-- A call that returns. -/
def Rets (P : Program) (F : FuncId) (args : Array Value) (w : World) (R : Value → World → Prop) : Prop :=
  Calls P F args w fun e w' => ∃ v, e = .returned v ∧ R v w'

theorem wpList_callv {P : Program} {w : World} {ops : Array Oper} {rest : List Oper} {o : Oper} {a : Act} {Q : Exit → Act → World → Prop} (hgd : o.guard = none) (f : Operand) (args : Array Operand) (ts : Array TypeId)
    (ho : o.op = .call { callee := .value f, args := args, argTypes := ts }) (F : FuncId) (first caps : Array Value) (hf : a.eval f = .func (.func F) first caps) (hpl : Plainly P F)
    (vs : Array Value) (hvs : first ++ args.map a.eval ++ caps = vs) (R : Ending → World → Prop) (hc : Calls P F vs w R)
    (hR : ∀ e w', R e w' → ∃ v, e = .returned v ∧ wpList P ops Q rest (a.put o.dst v) w') : wpList P ops Q (o :: rest) a w := by
  refine wpList_plain hgd fun K hK => ?_
  unfold Oper.wp
  have hrun : (execOp a.eval o).run P w = .ok (.enter F vs) w := by
    have := hpl vs w
    simp [execOp, ho, resolve, Deferred.ofValue, hf, invoke, hvs, this]
  rw [hrun, Oper.upon_enter]
  refine hc.mono fun e w' h => ?_
  obtain ⟨v, rfl, hw⟩ := hR e w' h
  exact hK _ _ hw

/-! ### slices -/

/-- From offset o on block b holds these cells. -/
def Row (w : World) (b o : Nat) (cs : List Value) : Prop := ∀ j u, cs[j]? = some u → w.cell? ⟨b, o + j, none⟩ = some u

theorem Row.keep {F : Nat → Prop} {w w' : World} {b o : Nat} {cs : List Value} (h : Row w b o cs) (x : Ext F w w') (hn : ¬ F b) : Row w' b o cs :=
  fun j u hu => x.cell (h j u hu) hn

/-- The slice v reads as xs, each of k cells. -/
structure SlR (w : World) {α : Type} (k : Nat) (enc : α → List Value) (A : Option Addr) (c b o : Nat) (xs : List α) : Prop where
  addr : 0 < xs.length → A = some ⟨b, o, none⟩
  le : xs.length ≤ c
  max : c ≤ maxLen
  row : Row w b o (xs.flatMap enc)

theorem flat_get {α : Type} {k : Nat} {enc : α → List Value} (hk : ∀ x, (enc x).length = k) : ∀ (xs : List α) (i : Nat) (x : α) (j : Nat), xs[i]? = some x → j < k → (xs.flatMap enc)[i * k + j]? = (enc x)[j]?
  | [], i, x, j, h, _ => by simp at h
  | y :: ys, 0, x, j, h, hj => by
    simp only [List.getElem?_cons_zero, Option.some.injEq] at h
    subst h
    simp only [List.flatMap_cons, Nat.zero_mul, Nat.zero_add]
    rw [List.getElem?_append_left (by rw [hk]; exact hj)]
  | y :: ys, i + 1, x, j, h, hj => by
    simp only [List.getElem?_cons_succ] at h
    rw [List.flatMap_cons, List.getElem?_append_right (by rw [hk, Nat.succ_mul]; omega), hk]
    rw [show (i + 1) * k + j - k = i * k + j by rw [Nat.succ_mul]; omega]
    exact flat_get hk ys i x j h hj

theorem flat_len {α : Type} {k : Nat} {enc : α → List Value} (hk : ∀ x, (enc x).length = k) : ∀ (xs : List α), (xs.flatMap enc).length = xs.length * k
  | [] => by simp
  | y :: ys => by rw [List.flatMap_cons, List.length_append, hk, flat_len hk ys, List.length_cons, Nat.succ_mul, Nat.add_comm]

/-- One cell of one element. -/
theorem SlR.cell {w : World} {α : Type} {k : Nat} {enc : α → List Value} {A : Option Addr} {c b o : Nat} {xs : List α} (h : SlR w k enc A c b o xs) (hk : ∀ x, (enc x).length = k) (i : Nat) (x : α) (hx : xs[i]? = some x) (j : Nat) (u : Value) (hu : (enc x)[j]? = some u) :
    w.cell? ⟨b, o + i * k + j, none⟩ = some u := by
  have hj : j < k := by rw [← hk x]; exact (List.getElem?_eq_some_iff.1 hu).1
  have := h.row (i * k + j) u (by rw [flat_get hk xs i x j hx hj]; exact hu)
  rwa [← Nat.add_assoc] at this

theorem SlR.keep {F : Nat → Prop} {w w' : World} {α : Type} {k : Nat} {enc : α → List Value} {A : Option Addr} {c b o : Nat} {xs : List α} (h : SlR w k enc A c b o xs) (x : Ext F w w') (hn : 0 < xs.length → ¬ F b) : SlR w' k enc A c b o xs :=
  ⟨h.addr, h.le, h.max, by
    intro j u hu
    have : 0 < xs.length := by
      cases xs with
      | nil => simp at hu
      | cons _ _ => simp
    exact x.cell (h.row j u hu) (hn this)⟩

def intE (x : Int) : List Value := [.int .i64 x]
theorem intE_len (x : Int) : (intE x).length = 1 := rfl

theorem SlR.intCell {w : World} {A : Option Addr} {c b o : Nat} {xs : List Int} (h : SlR w 1 intE A c b o xs) (i : Nat) (hi : i < xs.length) : w.cell? ⟨b, o + i, none⟩ = some (.int .i64 xs[i]) := by
  have := h.cell intE_len i xs[i] (List.getElem?_eq_getElem hi) 0 _ rfl
  simpa using this

/-! ### maps -/

/-- What a key's type must do, at keys that 'enc' lays. -/
structure KeyEnc (P : Program) (k : TypeId) {K : Type} (enc : K → Value) : Prop where
  check : ∀ (w : World) (em : Bool) (x : K), (Instr.checkKey em 10000 k (enc x)).run P w = .ok () w
  find : ∀ (w : World) (x : K) (es : List MapEntry), (∀ e ∈ es, ∃ y, e.key = enc y) →
    ((Instr.findKey k (enc x) es).run P w = .ok none w ∧ ∀ e ∈ es, e.key ≠ enc x) ∨
    ∃ j e, (Instr.findKey k (enc x) es).run P w = .ok (some (j, e.val)) w ∧ es[j]? = some e ∧ e.key = enc x
  stays : ∀ (w : World) (x : K), (Instr.keyThatStays (enc x) (enc x)).run P w = .ok (enc x) w
  inj : ∀ {x y : K}, enc x = enc y → x = y

/-- The entries of a map, as they stand. -/
structure Entries {K V : Type} (ek : K → Value) (ev : V → Value) (es : Array MapEntry) (clock : Nat) (m : List (K × V)) : Prop where
  eq : es.toList.map (fun e => (e.key, e.val)) = m.map (fun x => (ek x.1, ev x.2))
  nodup : (m.map (·.1)).Nodup
  born : (es.toList.map (·.born)).Pairwise (· < ·)
  clock : ∀ e ∈ es.toList, e.born < clock

/-- Block r is a map that holds m. -/
def MapAt (w : World) (r : Nat) {K V : Type} (ek : K → Value) (ev : V → Value) (m : List (K × V)) : Prop :=
  ∃ es clock, w.heap[r]? = some (.map es clock) ∧ Entries ek ev es clock m

section
variable {K V : Type} {ek : K → Value} {ev : V → Value} {w w' : World} {r : Nat} {m : List (K × V)}

theorem MapAt.lt (h : MapAt w r ek ev m) : r < w.heap.size := let ⟨_, _, h, _⟩ := h; lt_of_block h
theorem MapAt.of_block (h : MapAt w r ek ev m) (e : w'.heap[r]? = w.heap[r]?) : MapAt w' r ek ev m :=
  let ⟨es, c, hb, he⟩ := h; ⟨es, c, e.trans hb, he⟩
theorem MapAt.keep {F : Nat → Prop} (h : MapAt w r ek ev m) (x : Ext F w w') (hn : ¬ F r) : MapAt w' r ek ev m := h.of_block (x.block r h.lt hn)
theorem MapAt.nodup (h : MapAt w r ek ev m) : (m.map (·.1)).Nodup := let ⟨_, _, _, he⟩ := h; he.nodup
theorem MapAt.made (w : World) : MapAt (w.alloc (.map #[] 0)) w.heap.size ek ev [] :=
  ⟨#[], 0, (MapKept.heap_alloc w _).1, ⟨rfl, List.nodup_nil, List.Pairwise.nil, by simp⟩⟩

/-- The value of a key. -/
def mget [DecidableEq K] (m : List (K × V)) (x : K) : Option V := (m.find? (fun p => p.1 = x)).map (·.2)
/-- A key is given a value: in its place, or behind all. -/
def mput [DecidableEq K] (m : List (K × V)) (x : K) (v : V) : List (K × V) :=
  if m.any (fun p => p.1 = x) then m.map (fun p => if p.1 = x then (x, v) else p) else m ++ [(x, v)]
def mdel [DecidableEq K] (m : List (K × V)) (x : K) : List (K × V) := m.filter (fun p => ¬ p.1 = x)

theorem mget_nil [DecidableEq K] (x : K) : mget ([] : List (K × V)) x = none := rfl
theorem mget_cons [DecidableEq K] (p : K × V) (m : List (K × V)) (x : K) : mget (p :: m) x = if p.1 = x then some p.2 else mget m x := by
  unfold mget; by_cases h : p.1 = x <;> simp [List.find?_cons, h]
theorem mget_append [DecidableEq K] (l m : List (K × V)) (x : K) : mget (l ++ m) x = (mget l x).or (mget m x) := by
  induction l with
  | nil => simp [mget_nil]
  | cons p l ih => simp only [List.cons_append, mget_cons]; split <;> simp_all
theorem mget_none [DecidableEq K] {m : List (K × V)} {x : K} : mget m x = none ↔ ∀ p ∈ m, p.1 ≠ x := by
  simp [mget, List.find?_eq_none]
theorem mget_isSome [DecidableEq K] {m : List (K × V)} {x : K} : (mget m x).isSome = m.any (fun p => p.1 = x) := by
  induction m with
  | nil => rfl
  | cons p m ih => rw [mget_cons]; split <;> simp_all
theorem mem_of_mget [DecidableEq K] {m : List (K × V)} {x : K} {v : V} (h : mget m x = some v) : (x, v) ∈ m := by
  induction m with
  | nil => simp [mget_nil] at h
  | cons p m ih =>
    rw [mget_cons] at h
    split at h
    · rename_i hx; cases h; subst hx; exact List.mem_cons_self ..
    · exact List.mem_cons_of_mem _ (ih h)
theorem mget_of_mem [DecidableEq K] {m : List (K × V)} (hd : (m.map (·.1)).Nodup) {x : K} {v : V} (h : (x, v) ∈ m) : mget m x = some v := by
  induction m with
  | nil => simp at h
  | cons p m ih =>
    rw [mget_cons]
    simp only [List.map_cons, List.nodup_cons] at hd
    rcases List.mem_cons.1 h with rfl | h
    · simp
    · rw [if_neg, ih hd.2 h]
      intro e; exact hd.1 (e ▸ List.mem_map.2 ⟨_, h, rfl⟩)
theorem mget_mapput [DecidableEq K] (x : K) (v : V) (y : K) : ∀ l : List (K × V), mget (l.map (fun p => if p.1 = x then (x, v) else p)) y = if x = y then (if l.any (fun p => p.1 = x) then some v else mget l y) else mget l y
  | [] => by simp [mget_nil]
  | p :: l => by
    have ih := mget_mapput x v y l
    rw [List.map_cons, mget_cons, mget_cons, ih, List.any_cons]
    by_cases hp : p.1 = x
    · subst hp
      by_cases hxy : p.1 = y <;> simp [hxy]
    · rw [if_neg hp]
      by_cases hxy : x = y
      · subst hxy; simp only [if_neg hp, decide_eq_false hp, Bool.false_or]
      · simp [hxy]
theorem mget_mput [DecidableEq K] (m : List (K × V)) (x : K) (v : V) (y : K) : mget (mput m x v) y = if x = y then some v else mget m y := by
  unfold mput
  split
  · rename_i h
    rw [mget_mapput, h]; simp
  · rename_i h
    rw [mget_append, mget_cons, mget_nil]
    by_cases hxy : x = y
    · subst hxy
      have : mget m x = none := by
        rw [← Option.not_isSome_iff_eq_none, mget_isSome]; exact h
      simp [this]
    · simp [hxy]
theorem mget_mdel [DecidableEq K] (m : List (K × V)) (x y : K) : mget (mdel m x) y = if x = y then none else mget m y := by
  unfold mdel
  induction m with
  | nil => simp [mget_nil]
  | cons p m ih =>
    by_cases hp : p.1 = x <;> simp_all [List.filter_cons, mget_cons] <;> (by_cases hxy : x = y <;> simp_all)
theorem mdel_nodup [DecidableEq K] {m : List (K × V)} (h : (m.map (·.1)).Nodup) (x : K) : ((mdel m x).map (·.1)).Nodup :=
  h.sublist ((List.filter_sublist).map _)
theorem mput_keys [DecidableEq K] (m : List (K × V)) (x : K) (v : V) : (mput m x v).map (·.1) = if m.any (fun p => p.1 = x) then m.map (·.1) else m.map (·.1) ++ [x] := by
  unfold mput
  split
  · rw [List.map_map]; apply List.map_congr_left; intro p _; by_cases hp : p.1 = x <;> simp [hp]
  · simp
theorem mput_nodup [DecidableEq K] {m : List (K × V)} (h : (m.map (·.1)).Nodup) (x : K) (v : V) : ((mput m x v).map (·.1)).Nodup := by
  rw [mput_keys]
  split
  · exact h
  · rename_i hx
    rw [List.nodup_append]
    refine ⟨h, by simp, ?_⟩
    intro a ha b hb
    simp only [List.mem_singleton] at hb
    subst hb
    rintro rfl
    obtain ⟨p, hp, rfl⟩ := List.mem_map.1 ha
    exact hx (List.any_eq_true.2 ⟨p, hp, by simp⟩)

theorem Entries.get {es : Array MapEntry} {clock : Nat} (h : Entries ek ev es clock m) (i : Nat) : (es[i]?).map (fun e => (e.key, e.val)) = (m[i]?).map (fun x => (ek x.1, ev x.2)) := by
  have := congrArg (fun l => l[i]?) h.eq
  simpa using this

theorem Entries.key {es : Array MapEntry} {clock : Nat} (h : Entries ek ev es clock m) : ∀ e ∈ es.toList, ∃ y, e.key = ek y := by
  intro e he
  have : (e.key, e.val) ∈ es.toList.map (fun e => (e.key, e.val)) := List.mem_map.2 ⟨e, he, rfl⟩
  rw [h.eq] at this
  obtain ⟨x, _, hx⟩ := List.mem_map.1 this
  exact ⟨x.1, (congrArg Prod.fst hx).symm⟩

/-- What 'findKey' finds. -/
theorem Entries.find [DecidableEq K] {P : Program} {k : TypeId} (KE : KeyEnc P k ek) {es : Array MapEntry} {clock : Nat} (h : Entries ek ev es clock m) (w : World) (x : K) :
    (mget m x = none ∧ (Instr.findKey k (ek x) es.toList).run P w = .ok none w) ∨
    ∃ j v, mget m x = some v ∧ m[j]? = some (x, v) ∧ (Instr.findKey k (ek x) es.toList).run P w = .ok (some (j, ev v)) w ∧ ∃ e, es[j]? = some e ∧ e.key = ek x := by
  rcases KE.find w x es.toList h.key with ⟨hr, hn⟩ | ⟨j, e, hr, hj, hk⟩
  · refine .inl ⟨mget_none.2 fun p hp e => ?_, hr⟩
    have : (ek p.1, ev p.2) ∈ es.toList.map (fun e => (e.key, e.val)) := by rw [h.eq]; exact List.mem_map.2 ⟨p, hp, rfl⟩
    obtain ⟨y, hy, hye⟩ := List.mem_map.1 this
    exact hn y hy (by have h1 : y.key = ek p.1 := congrArg Prod.fst hye; rw [h1, e])
  · have hg := h.get j
    have hj' : es[j]? = some e := by simpa using hj
    rw [hj'] at hg
    cases hm : m[j]? with
    | none => rw [hm] at hg; simp at hg
    | some p =>
      rw [hm] at hg
      simp only [Option.map_some, Option.some.injEq, Prod.mk.injEq] at hg
      obtain ⟨y, v⟩ := p
      have hyx : y = x := KE.inj (hg.1.symm.trans hk)
      subst hyx
      refine .inr ⟨j, v, mget_of_mem h.nodup (List.mem_of_getElem? hm), hm, by rw [hr, hg.2], e, hj', hk⟩

theorem nodup_getElem?_inj {α : Type} {l : List α} (h : l.Nodup) {i j : Nat} {x : α} (hi : l[i]? = some x) (hj : l[j]? = some x) : i = j := by
  obtain ⟨hi', hi⟩ := List.getElem?_eq_some_iff.1 hi
  obtain ⟨hj', hj⟩ := List.getElem?_eq_some_iff.1 hj
  rcases Nat.lt_trichotomy i j with hlt | he | hlt
  · exact absurd (hi.trans hj.symm) (List.pairwise_iff_getElem.1 h i j hi' hj' hlt)
  · exact he
  · exact absurd (hj.trans hi.symm) (List.pairwise_iff_getElem.1 h j i hj' hi' hlt)

theorem MapAt.ne_cell {w : World} {r : Nat} {K V : Type} {ek : K → Value} {ev : V → Value} {m : List (K × V)} (h : MapAt w r ek ev m) {a : Addr} {v : Value} (hc : w.cell? a = some v) : a.block ≠ r := by
  obtain ⟨es, c, hb, _⟩ := h
  intro e
  simp [World.cell?, e, hb] at hc

theorem SlR.ne_map {w : World} {α : Type} {k : Nat} {enc : α → List Value} {A : Option Addr} {c b o : Nat} {xs : List α} (h : SlR w k enc A c b o xs) (hk : ∀ x, (enc x).length = k) (hk0 : 0 < k) {r : Nat} {K V : Type} {ek : K → Value} {ev : V → Value} {m : List (K × V)} (hm : MapAt w r ek ev m)
    (hx : 0 < xs.length) : b ≠ r := by
  cases xs with
  | nil => simp at hx
  | cons x xs =>
    have hl : 0 < (enc x).length := by rw [hk]; exact hk0
    exact hm.ne_cell (h.cell hk 0 x rfl 0 (enc x)[0] (List.getElem?_eq_getElem hl))

/-! ### the operations on a map -/

theorem map_set_of {α β : Type} {f : α → β} {l : List α} {i : Nat} {x : α} : (l.set i x).map f = (l.map f).set i (f x) := by
  rw [List.map_set]

theorem map_erase_of {α β : Type} (f : α → β) : ∀ (l : List α) (i : Nat), (l.eraseIdx i).map f = (l.map f).eraseIdx i
  | [], _ => rfl
  | _ :: _, 0 => rfl
  | _ :: l, i + 1 => by simp [map_erase_of f l i]

/-- Behind an update in place. -/
theorem Entries.put_old [DecidableEq K] {es : Array MapEntry} {clock : Nat} (h : Entries ek ev es clock m) {j : Nat} {x : K} {v0 v : V} (hj : m[j]? = some (x, v0)) (g : MapEntry → MapEntry)
    (hg : ∀ e, (g e).key = ek x ∧ (g e).val = ev v ∧ (g e).born = e.born) : Entries ek ev (es.modify j g) clock (mput m x v) := by
  have hjm : j < m.length := (List.getElem?_eq_some_iff.1 hj).1
  have hany : m.any (fun p => p.1 = x) = true := List.any_eq_true.2 ⟨(x, v0), List.mem_of_getElem? hj, by simp⟩
  have hlen : es.size = m.length := by have := congrArg List.length h.eq; simpa using this
  have hput : mput m x v = m.set j (x, v) := by
    unfold mput
    rw [if_pos hany]
    apply List.ext_getElem?
    intro i
    rw [List.getElem?_map, List.getElem?_set]
    by_cases hij : j = i
    · subst hij; rw [hj, if_pos rfl, if_pos hjm]; simp
    · rw [if_neg hij]
      cases hi : m[i]? with
      | none => rfl
      | some p =>
        simp only [Option.map_some]
        rw [if_neg]
        intro e
        have h1 : (m.map (·.1))[i]? = some x := by simp [hi, e]
        have h2 : (m.map (·.1))[j]? = some x := by simp [hj]
        exact hij (nodup_getElem?_inj h.nodup h2 h1)
  have hjs : j < es.size := by omega
  have hes : (es.modify j g).toList = es.toList.set j (g es[j]) := by
    apply List.ext_getElem?
    intro i
    rw [List.getElem?_set]
    simp only [Array.getElem?_toList, Array.getElem?_modify]
    by_cases hij : j = i
    · subst hij; simp [hjs]
    · simp [hij]
  obtain ⟨g1, g2, g3⟩ := hg es[j]
  have hborn : (es.modify j g).toList.map (·.born) = es.toList.map (·.born) := by
    rw [hes, map_set_of, g3]
    apply List.ext_getElem?
    intro i
    rw [List.getElem?_set]
    by_cases hij : j = i
    · subst hij; simp [hjs]
    · simp [hij]
  refine ⟨?_, mput_nodup h.nodup x v, by rw [hborn]; exact h.born, ?_⟩
  · rw [hes, map_set_of, hput, map_set_of, h.eq, g1, g2]
  · intro e he
    have : e.born ∈ (es.modify j g).toList.map (·.born) := List.mem_map.2 ⟨e, he, rfl⟩
    rw [hborn] at this
    obtain ⟨e', he', hb⟩ := List.mem_map.1 this
    rw [← hb]
    exact h.clock e' he'

theorem Entries.put_new [DecidableEq K] {es : Array MapEntry} {clock : Nat} (h : Entries ek ev es clock m) {x : K} (hx : mget m x = none) (v : V) :
    Entries ek ev (es.push ⟨ek x, ev v, clock⟩) (clock + 1) (mput m x v) := by
  have hany : m.any (fun p => p.1 = x) = false := by rw [← mget_isSome, hx]; rfl
  refine ⟨?_, mput_nodup h.nodup x v, ?_, ?_⟩
  · unfold mput
    rw [hany]
    simp [h.eq]
  · rw [Array.toList_push, List.map_append, List.pairwise_append]
    refine ⟨h.born, by simp, ?_⟩
    intro a ha b hb
    obtain ⟨e, he, rfl⟩ := List.mem_map.1 ha
    simp only [List.map_cons, List.map_nil, List.mem_singleton] at hb
    subst hb
    exact h.clock e he
  · intro e he
    rw [Array.toList_push, List.mem_append] at he
    rcases he with he | he
    · exact Nat.lt_succ_of_lt (h.clock e he)
    · simp only [List.mem_singleton] at he; subst he; exact Nat.lt_succ_self _

theorem Entries.del [DecidableEq K] {es : Array MapEntry} {clock : Nat} (h : Entries ek ev es clock m) {j : Nat} {x : K} {v0 : V} (hj : m[j]? = some (x, v0)) :
    Entries ek ev (es.eraseIdxIfInBounds j) clock (mdel m x) := by
  have hjm : j < m.length := (List.getElem?_eq_some_iff.1 hj).1
  have hlen : es.size = m.length := by have := congrArg List.length h.eq; simpa using this
  have hdel : mdel m x = m.eraseIdx j := by
    unfold mdel
    have key : ∀ (l : List (K × V)) (i : Nat), (l.map (·.1)).Nodup → l[i]? = some (x, v0) → l.filter (fun p => ¬ p.1 = x) = l.eraseIdx i := by
      intro l
      induction l with
      | nil => intro i _ hi; simp at hi
      | cons p l ih =>
        intro i hd hi
        simp only [List.map_cons, List.nodup_cons] at hd
        cases i with
        | zero =>
          simp only [List.getElem?_cons_zero, Option.some.injEq] at hi
          subst hi
          simp only [List.eraseIdx_zero, List.tail_cons, List.filter_cons]
          rw [if_neg (by simp)]
          rw [List.filter_eq_self]
          intro q hq
          have : q.1 ≠ x := fun e => hd.1 (e ▸ List.mem_map.2 ⟨q, hq, rfl⟩)
          simpa using this
        | succ i =>
          simp only [List.getElem?_cons_succ] at hi
          have hp : p.1 ≠ x := fun e => hd.1 (e ▸ List.mem_map.2 ⟨_, List.mem_of_getElem? hi, rfl⟩)
          rw [List.filter_cons, if_pos (by simpa using hp), List.eraseIdx_cons_succ, ih i hd.2 hi]
    exact key m j h.nodup hj
  have hes : (es.eraseIdxIfInBounds j).toList = es.toList.eraseIdx j := by
    unfold Array.eraseIdxIfInBounds
    rw [dif_pos (by omega)]
    simp
  refine ⟨?_, mdel_nodup h.nodup x, ?_, ?_⟩
  · rw [hes, map_erase_of, hdel, map_erase_of, h.eq]
  · rw [hes, map_erase_of]
    exact h.born.sublist (List.eraseIdx_sublist ..)
  · intro e he
    rw [hes] at he
    exact h.clock e ((List.eraseIdx_sublist ..).subset he)

/-- m[x], with or without ok. -/
theorem MapAt.run_lookup [DecidableEq K] {P : Program} {t k e : TypeId} (KE : KeyEnc P k ek) (ht : P.underlying t = some (.map k e)) {z : V} (hz : ∀ w, (zeroValue e).run P w = .ok (ev z) w)
    (h : MapAt w r ek ev m) (x : K) (b : Bool) :
    (Instr.lookup t (.map (some r)) (ek x) b).run P w = .ok (if b then .tuple #[ev ((mget m x).getD z), .bool (mget m x).isSome] else ev ((mget m x).getD z)) w := by
  obtain ⟨es, clock, hb, he⟩ := h
  rcases he.find KE w x with ⟨h1, h2⟩ | ⟨j, v, h1, _, h2, _⟩
  · cases b <;> simp [Instr.lookup, run_underlying ht, MapKept.run_getObj_map hb, KE.check, h1, h2, hz]
  · cases b <;> simp [Instr.lookup, run_underlying ht, MapKept.run_getObj_map hb, KE.check, h1, h2]

/-- m[x] = v. -/
theorem MapAt.run_update [DecidableEq K] {P : Program} {t k e : TypeId} (KE : KeyEnc P k ek) (ht : P.underlying t = some (.map k e)) (h : MapAt w r ek ev m) (x : K) (v : V) :
    ∃ w', (Instr.mapUpdate t (.map (some r)) (ek x) (ev v)).run P w = .ok () w' ∧ MapAt w' r ek ev (mput m x v) ∧ Ext (· = r) w w' := by
  obtain ⟨es, clock, hb, he⟩ := h
  have hlt := lt_of_block hb
  have ext : ∀ o : Obj, Ext (· = r) w { w with heap := w.heap.setIfInBounds r o } := fun o =>
    ⟨rfl, rfl, rfl, by simp, fun k hk hn => by simp [Array.getElem?_setIfInBounds, Ne.symm hn]⟩
  rcases he.find KE w x with ⟨h1, h2⟩ | ⟨j, v0, h1, hj, h2, e0, he0, hk0⟩
  · exact ⟨{ w with heap := w.heap.setIfInBounds r (.map (es.push ⟨ek x, ev v, clock⟩) (clock + 1)) }, by
      simp [Instr.mapUpdate, run_underlying ht, MapKept.run_getObj_map hb, KE.check, h2, MapKept.run_setObj_map _ hb], ⟨_, _, by simp [hlt], he.put_new h1 v⟩, ext _⟩
  · exact ⟨{ w with heap := w.heap.setIfInBounds r (.map (es.modify j fun e => { e with key := ek x, val := ev v }) clock) }, by
      simp [Instr.mapUpdate, run_underlying ht, MapKept.run_getObj_map hb, KE.check, h2, he0, hk0, KE.stays, MapKept.run_setObj_map _ hb],
      ⟨_, _, by simp [hlt], he.put_old hj (fun e => { e with key := ek x, val := ev v }) (fun e => ⟨rfl, rfl, rfl⟩)⟩, ext _⟩

/-- delete(m, x). -/
theorem MapAt.run_delete [DecidableEq K] {P : Program} {t k e : TypeId} (KE : KeyEnc P k ek) (ht : P.underlying t = some (.map k e)) (h : MapAt w r ek ev m) (x : K) (ts : Array TypeId) (hts : ts[0]? = some t) (ty : TypeId) :
    ∃ w', (Builtin.delete_ ts ty #[.map (some r), ek x]).run P w = .ok (.tuple #[]) w' ∧ MapAt w' r ek ev (mdel m x) ∧ Ext (· = r) w w' := by
  obtain ⟨es, clock, hb, he⟩ := h
  have hlt := lt_of_block hb
  have ext : ∀ o : Obj, Ext (· = r) w { w with heap := w.heap.setIfInBounds r o } := fun o =>
    ⟨rfl, rfl, rfl, by simp, fun k hk hn => by simp [Array.getElem?_setIfInBounds, Ne.symm hn]⟩
  rcases he.find KE w x with ⟨h1, h2⟩ | ⟨j, v0, h1, hj, h2, e0, he0, hk0⟩
  · refine ⟨{ w with heap := w.heap.setIfInBounds r (.map es clock) }, by
      simp [Builtin.delete_, hts, run_underlying ht, MapKept.run_getObj_map hb, KE.check, h2, MapKept.run_setObj_map _ hb], ⟨es, clock, by simp [hlt], ?_⟩, ext _⟩
    have : mdel m x = m := by
      unfold mdel
      rw [List.filter_eq_self]
      intro p hp
      simpa using mget_none.1 h1 p hp
    rw [this]
    exact he
  · exact ⟨{ w with heap := w.heap.setIfInBounds r (.map (es.eraseIdxIfInBounds j) clock) }, by
      simp [Builtin.delete_, hts, run_underlying ht, MapKept.run_getObj_map hb, KE.check, h2, MapKept.run_setObj_map _ hb], ⟨_, _, by simp [hlt], he.del hj⟩, ext _⟩

/-- len(m). -/
theorem MapAt.run_len {P : Program} {t k e : TypeId} (ht : P.underlying t = some (.map k e)) (h : MapAt w r ek ev m) (ts : Array TypeId) (hts : ts[0]? = some t) (ty : TypeId) :
    (Builtin.len_ ts ty #[.map (some r)]).run P w = .ok (.int .i64 m.length) w := by
  obtain ⟨es, clock, hb, he⟩ := h
  have hlen : es.size = m.length := by have := congrArg List.length he.eq; simpa using this
  simp [Builtin.len_, hts, run_underlying ht, MapKept.run_getObj_map hb, goInt, hlen]

/-- m[x] = v, at the operation. -/
theorem wpList_mapPut [DecidableEq K] {P : Program} {ops : Array Oper} {rest : List Oper} {o : Oper} {a : Act} {Q : Exit → Act → World → Prop} (hgd : o.guard = none) {t k e : TypeId} {om ox ov : Operand} (ho : o.op = .mapUpdate t om ox ov)
    (KE : KeyEnc P k ek) (ht : P.underlying t = some (.map k e)) (h : MapAt w r ek ev m) (hm : a.eval om = .map (some r)) (x : K) (hx : a.eval ox = ek x) (v : V) (hv : a.eval ov = ev v)
    (hK : ∀ w', MapAt w' r ek ev (mput m x v) → Ext (· = r) w w' → wpList P ops Q rest (a.put o.dst undef) w') : wpList P ops Q (o :: rest) a w := by
  refine wpList_plain hgd fun K' hK' => ?_
  obtain ⟨w', hrun, h1, h2⟩ := h.run_update KE ht x v
  unfold Oper.wp
  simp [execOp, ho, hm, hx, hv, hrun]
  exact hK' _ _ (hK w' h1 h2)

/-- An entry of a map's literal, at the operation. -/
theorem wpList_mapIns [DecidableEq K] {P : Program} {ops : Array Oper} {rest : List Oper} {o : Oper} {a : Act} {Q : Exit → Act → World → Prop} (hgd : o.guard = none) {t k e : TypeId} {om ox ov : Operand} (ho : o.op = .insert t om ox ov)
    (KE : KeyEnc P k ek) (ht : P.underlying t = some (.map k e)) (h : MapAt w r ek ev m) (hm : a.eval om = .map (some r)) (x : K) (hx : a.eval ox = ek x) (v : V) (hv : a.eval ov = ev v)
    (hK : ∀ w', MapAt w' r ek ev (mput m x v) → Ext (· = r) w w' → wpList P ops Q rest (a.put o.dst undef) w') : wpList P ops Q (o :: rest) a w := by
  refine wpList_plain hgd fun K' hK' => ?_
  obtain ⟨w', hrun, h1, h2⟩ := h.run_update KE ht x v
  unfold Oper.wp
  simp [execOp, ho, hm, hx, hv, hrun]
  exact hK' _ _ (hK w' h1 h2)

/-- delete(m, x), at the operation. -/
theorem wpList_mapDel [DecidableEq K] {P : Program} {ops : Array Oper} {rest : List Oper} {o : Oper} {a : Act} {Q : Exit → Act → World → Prop} (hgd : o.guard = none) {t k e : TypeId} {om ox : Operand} {ts : Array TypeId} (ho : o.op = .call { callee := .builtin .delete, args := #[om, ox], argTypes := ts }) (hts : ts[0]? = some t)
    (KE : KeyEnc P k ek) (ht : P.underlying t = some (.map k e)) (h : MapAt w r ek ev m) (hm : a.eval om = .map (some r)) (x : K) (hx : a.eval ox = ek x)
    (hK : ∀ w', MapAt w' r ek ev (mdel m x) → Ext (· = r) w w' → wpList P ops Q rest (a.put o.dst (.tuple #[])) w') : wpList P ops Q (o :: rest) a w := by
  refine wpList_plain hgd fun K' hK' => ?_
  obtain ⟨w', hrun, h1, h2⟩ := h.run_delete KE ht x ts hts o.type
  unfold Oper.wp
  simp [execOp, ho, resolve, invoke, builtin, hm, hx, hrun]
  exact hK' _ _ (hK w' h1 h2)

end
end Go.Proofs.YtgiimmiandhkhaaDoor
