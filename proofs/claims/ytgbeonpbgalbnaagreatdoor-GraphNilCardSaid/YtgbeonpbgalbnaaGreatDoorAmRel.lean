/- WHAT THE ABSTRACT MACHINE's VALUES STAND FOR: relations between its values and heap and the model's, and that they last. -/
import Derived.Test.YtgbeonpbgalbnaaGreatDoorAmDefs
import Derived.Laws.Sem
import Derived.Laws.World
namespace Go.Am
set_option autoImplicit false

theorem beqF {a b : Nat} (h : ¬ a = b) : Nat.beq a b = false := Bool.eq_false_iff.2 fun e => h (Nat.eq_of_beq_eq_true e)
theorem beqT {a b : Nat} (h : a = b) : Nat.beq a b = true := by subst h; exact Nat.beq_refl a
theorem bleT {a b : Nat} (h : a ≤ b) : Nat.ble a b = true := Nat.ble_eq.mpr h
theorem bleF {a b : Nat} (h : ¬ a ≤ b) : Nat.ble a b = false := Bool.eq_false_iff.2 fun e => h (Nat.ble_eq.mp e)
theorem bltT {a b : Nat} (h : a < b) : Nat.blt a b = true := Nat.ble_eq.mpr h
theorem bltF {a b : Nat} (h : ¬ a < b) : Nat.blt a b = false := Bool.eq_false_iff.2 fun e => h (Nat.ble_eq.mp e)
theorem beq_iff {a b : Nat} : Nat.beq a b = true ↔ a = b := ⟨Nat.eq_of_beq_eq_true, beqT⟩
theorem ble_iff {a b : Nat} : Nat.ble a b = true ↔ a ≤ b := ⟨fun h => Nat.ble_eq.mp h, fun h => Nat.ble_eq.mpr h⟩
theorem blt_iff {a b : Nat} : Nat.blt a b = true ↔ a < b := ⟨fun h => Nat.ble_eq.mp h, fun h => Nat.ble_eq.mpr h⟩

/-! ### trees -/
namespace Tr
variable {α : Type}
theorem get_nil (i : Nat) : (nil : Tr α).get i = none := rfl
theorem get_node (l r : Tr α) (v : Option α) (i : Nat) : (node l v r).get i = if i = 0 then v else if i % 2 = 1 then l.get (i / 2) else r.get (i / 2 - 1) := by
  show (bif Nat.beq i 0 then v else bif Nat.beq (i % 2) 1 then l.get (i / 2) else r.get (i / 2 - 1)) = _
  by_cases h : i = 0
  · subst h; rfl
  · have h0 : Nat.beq i 0 = false := beqF h
    by_cases h1 : i % 2 = 1
    · have : Nat.beq (i % 2) 1 = true := beqT h1
      rw [h0, this]; simp [h, h1]
    · have : Nat.beq (i % 2) 1 = false := beqF h1
      rw [h0, this]; simp [h, h1]
theorem get_one (x : α) : ∀ (d i j : Nat), i < d → (one x d i).get j = if i = j then some x else none := by
  intro d
  induction d with
  | zero => intro i j h; omega
  | succ d ih =>
    intro i j hd
    show (bif Nat.beq i 0 then node nil (some x) nil else bif Nat.beq (i % 2) 1 then node (one x d (i / 2)) none nil else node nil none (one x d (i / 2 - 1))).get j = _
    by_cases h : i = 0
    · subst h
      show (node nil (some x) nil).get j = _
      rw [get_node]
      by_cases hj : j = 0
      · subst hj; simp
      · have : ¬ 0 = j := fun h => hj h.symm
        simp [hj, this, get_nil]
    · have h0 : Nat.beq i 0 = false := beqF h
      by_cases h1 : i % 2 = 1
      · have h1' : Nat.beq (i % 2) 1 = true := beqT h1
        rw [h0, h1']
        show (node (one x d (i / 2)) none nil).get j = _
        rw [get_node]
        by_cases hj : j = 0
        · subst hj; simp [h]
        · by_cases hj1 : j % 2 = 1
          · rw [if_neg hj, if_pos hj1, ih _ _ (by omega)]
            by_cases e : i / 2 = j / 2
            · rw [if_pos e, if_pos (by omega)]
            · rw [if_neg e, if_neg (by omega)]
          · rw [if_neg hj, if_neg hj1, get_nil, if_neg (by omega)]
      · have h1' : Nat.beq (i % 2) 1 = false := beqF h1
        rw [h0, h1']
        show (node nil none (one x d (i / 2 - 1))).get j = _
        rw [get_node]
        by_cases hj : j = 0
        · subst hj; simp [h]
        · by_cases hj1 : j % 2 = 1
          · rw [if_neg hj, if_pos hj1, get_nil, if_neg (by omega)]
          · rw [if_neg hj, if_neg hj1, ih _ _ (by omega)]
            by_cases e : i / 2 - 1 = j / 2 - 1
            · rw [if_pos e, if_pos (by omega)]
            · rw [if_neg e, if_neg (by omega)]
theorem get_set (t : Tr α) (x : α) : ∀ (i j : Nat), (t.set x i).get j = if i = j then some x else t.get j := by
  induction t with
  | nil => intro i j; exact (get_one x (i + 1) i j (by omega)).trans (by simp [get_nil])
  | node l v r ihl ihr =>
    intro i j
    show (bif Nat.beq i 0 then node l (some x) r else bif Nat.beq (i % 2) 1 then node (l.set x (i / 2)) v r else node l v (r.set x (i / 2 - 1))).get j = _
    rw [get_node l r v j]
    by_cases h : i = 0
    · subst h
      show (node l (some x) r).get j = _
      rw [get_node]
      by_cases hj : j = 0
      · subst hj; simp
      · have : ¬ 0 = j := fun h => hj h.symm
        simp [hj, this]
    · have h0 : Nat.beq i 0 = false := beqF h
      by_cases h1 : i % 2 = 1
      · have h1' : Nat.beq (i % 2) 1 = true := beqT h1
        rw [h0, h1']
        show (node (l.set x (i / 2)) v r).get j = _
        rw [get_node]
        by_cases hj : j = 0
        · subst hj; simp [h]
        · by_cases hj1 : j % 2 = 1
          · rw [if_neg hj, if_pos hj1, ihl]
            by_cases e : i / 2 = j / 2
            · rw [if_pos e, if_pos (by omega)]
            · rw [if_neg e, if_neg (by omega), if_neg hj, if_pos hj1]
          · rw [if_neg hj, if_neg hj1, if_neg (by omega), if_neg hj, if_neg hj1]
      · have h1' : Nat.beq (i % 2) 1 = false := beqF h1
        rw [h0, h1']
        show (node l v (r.set x (i / 2 - 1))).get j = _
        rw [get_node]
        by_cases hj : j = 0
        · subst hj; simp [h]
        · by_cases hj1 : j % 2 = 1
          · rw [if_neg hj, if_pos hj1, if_neg (by omega), if_neg hj, if_pos hj1]
          · rw [if_neg hj, if_neg hj1, ihr]
            by_cases e : i / 2 - 1 = j / 2 - 1
            · rw [if_pos e, if_pos (by omega)]
            · rw [if_neg e, if_neg (by omega), if_neg hj, if_neg hj1]
end Tr

/-! ### the heap's objects -/
namespace Hp
theorem get_eq (H : Hp) (i : Nat) : H.get i = if i < H.n then H.t.get i else none := by
  unfold get
  by_cases h : i < H.n
  · rw [bltT h]; simp [h]
  · rw [bltF h]; simp [h]
theorem get_push (H : Hp) (o : Obj) (i : Nat) : (H.push o).get i = if i = H.n then some o else H.get i := by
  rw [get_eq, get_eq]
  show (if i < H.n + 1 then (H.t.set o H.n).get i else none) = _
  rw [Tr.get_set]
  by_cases e : i = H.n
  · subst e; simp
  · have e' : ¬ H.n = i := fun h => e h.symm
    by_cases h : i < H.n
    · rw [if_pos (by omega), if_neg e', if_neg e, if_pos h]
    · rw [if_neg (by omega), if_neg e, if_neg h]
theorem get_put (H : Hp) (i : Nat) (o : Obj) (h : i < H.n) (j : Nat) : (H.put i o).get j = if j = i then some o else H.get j := by
  rw [get_eq, get_eq]
  show (if j < H.n then (H.t.set o i).get j else none) = _
  rw [Tr.get_set]
  by_cases e : j = i
  · subst e; simp [h]
  · have e' : ¬ i = j := fun h => e h.symm
    by_cases hj : j < H.n
    · rw [if_pos hj, if_neg e', if_neg e, if_pos hj]
    · rw [if_neg hj, if_neg e, if_neg hj]
theorem lt_of_get {H : Hp} {i : Nat} {o : Obj} (h : H.get i = some o) : i < H.n := by
  rw [get_eq] at h
  by_cases hi : i < H.n
  · exact hi
  · rw [if_neg hi] at h; cases h
end Hp
def Obj.alive : Obj → Bool
  | .dead => false
  | _ => true
def Hp.live (H : Hp) (i : Nat) : Prop := ∃ o, H.get i = some o ∧ o.alive = true
theorem Hp.live.lt {H : Hp} {i : Nat} (h : H.live i) : i < H.n := let ⟨_, h, _⟩ := h; Hp.lt_of_get h

/-- Where the abstract heap's objects lie: block, first cell, the block's size; which blocks are not to be touched ('F': those of callers' heaps). -/
structure Gh where
  ι : Nat → Nat
  β : Nat → Nat
  σ : Nat → Nat
  F : Nat → Prop
/-- Is a block one of the heap's objects', or not to be touched? -/
def own (G : Gh) (H : Hp) (b : Nat) : Prop := G.F b ∨ ∃ i, H.live i ∧ G.ι i = b

def V.one : V → Bool
  | .agg _ | .tuple _ => false
  | _ => true

mutual
/-- A value of the model's and the abstract machine's. -/
inductive Rel (G : Gh) (H : Hp) (w : World) : Value → V → Prop where
  | int (k : IntKind) (n : Int) : Rel G H w (.int k n) (.int k n)
  | bool (b : Bool) : Rel G H w (.bool b) (.bool b)
  | str (s : ByteArray) (l : List UInt8) (h : s.data.toList = l) : Rel G H w (.string s) (.str l)
  | agg (cs : Array Value) (vs : List V) (h : RelL G H w cs.toList vs) (h1 : ∀ v ∈ vs, v.one = true) : Rel G H w (.agg cs) (.agg vs)
  | tuple (cs : Array Value) (vs : List V) (h : RelL G H w cs.toList vs) : Rel G H w (.tuple cs) (.tuple vs)
  | ptr (i o : Nat) (a : Addr) (hi : i < H.n) (ha : H.live i → a = ⟨G.ι i, G.β i + o, none⟩) : Rel G H w (.pointer (some a)) (.ptr i o)
  | nilp : Rel G H w (.pointer none) .nilp
  | pp (b o : Nat) (c : Array Value) (e : TypeId) (fr : Nat × Nat) (v : V) (hb : w.heap[b]? = some (.cells c e fr)) (hu : ¬ own G H b)
      (hs : o + v.flat.length ≤ c.size) (h : RelL G H w ((c.toList.drop o).take v.flat.length) v.flat) (h1 : ∀ x ∈ v.flat, x.one = true) (ht : v.isTup = false) :
      Rel G H w (.pointer (some ⟨b, o, none⟩)) (.pp v)
  | sl (i o n : Nat) (kc : Option Nat) (es : Nat) (ag : Bool) (a : Addr) (cap : Nat) (hi : i < H.n) (hn : n ≤ cap) (hk : ∀ c, kc = some c → cap = c)
      (ha : H.live i → cap ≠ 0 → a = ⟨G.ι i, G.β i + o, none⟩ ∧ G.β i + o + cap * es ≤ G.σ i) : Rel G H w (.slice (some a) n cap) (.sl i o n kc es ag)
  | psl (b o n cap : Nat) (c : Array Value) (e : TypeId) (fr : Nat × Nat) (vs : List V) (full : Bool) (es : Nat) (hl : vs.length = n) (hn : n ≤ cap)
      (hf : full = true → cap = n) (hb : w.heap[b]? = some (.cells c e fr)) (hu : ¬ own G H b) (he : ∀ v ∈ vs, v.flat.length = es) (hs : o + n * es ≤ c.size)
      (h : RelL G H w ((c.toList.drop o).take (n * es)) (vs.flatMap V.flat)) (h1 : ∀ v ∈ vs, ∀ x ∈ v.flat, x.one = true) (ht : ∀ v ∈ vs, v.isTup = false) :
      Rel G H w (.slice (some ⟨b, o, none⟩) n cap) (.psl vs full)
  | pslNone (full : Bool) : Rel G H w (.slice none 0 0) (.psl [] full)
  | pslEmpty (a : Addr) (cap : Nat) (full : Bool) (hf : full = true → cap = 0) : Rel G H w (.slice (some a) 0 cap) (.psl [] full)
  | nils : Rel G H w (.slice none 0 0) .nils
  | map (i r : Nat) (hi : i < H.n) (hr : H.live i → r = G.ι i) : Rel G H w (.map (some r)) (.map i)
  | pmap (r : Nat) (es : Array MapEntry) (clock : Nat) (ks vs : List V) (hb : w.heap[r]? = some (.map es clock)) (hu : ¬ own G H r)
      (hk : RelL G H w (es.toList.map (·.key)) ks) (hv : RelL G H w (es.toList.map (·.val)) vs) : Rel G H w (.map (some r)) (.pmap ks vs)
  | nilm : Rel G H w (.map none) .nilm
  | fn (f : Nat) (first caps : Array Value) (fs cs : List V) (hf : RelL G H w first.toList fs) (hc : RelL G H w caps.toList cs) :
      Rel G H w (.func (.func f) first caps) (.fn f fs cs)
  | nilf : Rel G H w .nilFunc .nilf
  | iface (t : Nat) (v : Value) (x : V) (h : Rel G H w v x) : Rel G H w (.iface t v) (.iface t x)
  | nili : Rel G H w .nilIface .nili
inductive RelL (G : Gh) (H : Hp) (w : World) : List Value → List V → Prop where
  | nil : RelL G H w [] []
  | cons (v : Value) (x : V) (vs : List Value) (xs : List V) (h : Rel G H w v x) (hs : RelL G H w vs xs) : RelL G H w (v :: vs) (x :: xs)
end

section
variable {G : Gh} {H : Hp} {w : World}
theorem RelL.length {vs : List Value} {xs : List V} (h : RelL G H w vs xs) : vs.length = xs.length := by
  induction vs generalizing xs with
  | nil => cases h; rfl
  | cons v vs ih => cases h with | cons _ _ _ _ _ hs => simp [ih hs]
theorem RelL.get {vs : List Value} {xs : List V} (h : RelL G H w vs xs) {i : Nat} {x : V} (hx : xs[i]? = some x) : ∃ v, vs[i]? = some v ∧ Rel G H w v x := by
  induction vs generalizing xs i with
  | nil => cases h; simp at hx
  | cons v vs ih =>
    cases h with
    | cons _ y _ ys h hs =>
      cases i with
      | zero => simp at hx; subst hx; exact ⟨v, rfl, h⟩
      | succ i => simpa using ih hs (by simpa using hx)
theorem RelL.append {vs us : List Value} {xs ys : List V} (h : RelL G H w vs xs) (g : RelL G H w us ys) : RelL G H w (vs ++ us) (xs ++ ys) := by
  induction vs generalizing xs with
  | nil => cases h; exact g
  | cons v vs ih => cases h with | cons _ _ _ _ h hs => exact .cons _ _ _ _ h (ih hs)
theorem RelL.take {vs : List Value} {xs : List V} (h : RelL G H w vs xs) (n : Nat) : RelL G H w (vs.take n) (xs.take n) := by
  induction vs generalizing xs n with
  | nil => cases h; simp; exact .nil
  | cons v vs ih =>
    cases h with
    | cons _ _ _ _ h hs =>
      cases n with
      | zero => simp; exact .nil
      | succ n => exact .cons _ _ _ _ h (ih hs n)
theorem RelL.drop {vs : List Value} {xs : List V} (h : RelL G H w vs xs) (n : Nat) : RelL G H w (vs.drop n) (xs.drop n) := by
  induction vs generalizing xs n with
  | nil => cases h; simp; exact .nil
  | cons v vs ih =>
    cases h with
    | cons _ _ _ _ h hs =>
      cases n with
      | zero => exact .cons _ _ _ _ h hs
      | succ n => exact ih hs n
end

/-! ### what lasts -/
/-- From one state on to a later one: what is no object's stays as it is; objects stay where they lie while they live. -/
structure Le (G : Gh) (H : Hp) (w : World) (G' : Gh) (H' : Hp) (w' : World) : Prop where
  n : H.n ≤ H'.n
  keep : ∀ i, i < H.n → H'.live i → H.live i ∧ G'.ι i = G.ι i ∧ G'.β i = G.β i ∧ G'.σ i = G.σ i
  mem : ∀ b, b < w.heap.size → ¬ own G H b → ¬ own G' H' b ∧ w'.heap[b]? = w.heap[b]?
  size : w.heap.size ≤ w'.heap.size
  tape : w'.tape = w.tape
  os : w'.os = w.os
  output : w'.output = w.output
  F : G'.F = G.F
  foreign : ∀ b, G.F b → b < w.heap.size → w'.heap[b]? = w.heap[b]?

theorem Le.refl (G : Gh) (H : Hp) (w : World) : Le G H w G H w :=
  ⟨Nat.le_refl _, fun _ _ h => ⟨h, rfl, rfl, rfl⟩, fun _ _ h => ⟨h, rfl⟩, Nat.le_refl _, rfl, rfl, rfl, rfl, fun _ _ _ => rfl⟩
theorem Le.trans {G1 G2 G3 : Gh} {H1 H2 H3 : Hp} {w1 w2 w3 : World} (h : Le G1 H1 w1 G2 H2 w2) (g : Le G2 H2 w2 G3 H3 w3) : Le G1 H1 w1 G3 H3 w3 := by
  refine ⟨Nat.le_trans h.n g.n, fun i hi hl => ?_, fun b hb hu => ?_, Nat.le_trans h.size g.size, g.tape.trans h.tape, g.os.trans h.os, g.output.trans h.output, g.F.trans h.F, fun b hF hb => ?_⟩
  · obtain ⟨l2, a, b, c⟩ := g.keep i (Nat.lt_of_lt_of_le hi h.n) hl
    obtain ⟨l1, a', b', c'⟩ := h.keep i hi l2
    exact ⟨l1, a.trans a', b.trans b', c.trans c'⟩
  · obtain ⟨u2, e2⟩ := h.mem b hb hu
    obtain ⟨u3, e3⟩ := g.mem b (Nat.lt_of_lt_of_le hb h.size) u2
    exact ⟨u3, e3.trans e2⟩
  · exact (g.foreign b (by rw [h.F]; exact hF) (Nat.lt_of_lt_of_le hb h.size)).trans (h.foreign b hF hb)

theorem lt_of_heap {w : World} {b : Nat} {o : Go.Obj} (h : w.heap[b]? = some o) : b < w.heap.size := by
  rcases Nat.lt_or_ge b w.heap.size with h' | h'
  · exact h'
  · simp [Array.getElem?_eq_none h'] at h

mutual
theorem Rel.mono {G G' : Gh} {H H' : Hp} {w w' : World} (L : Le G H w G' H' w') : ∀ {v : Value} {x : V}, Rel G H w v x → Rel G' H' w' v x
  | _, _, .int k n => .int k n
  | _, _, .bool b => .bool b
  | _, _, .str s l h => .str s l h
  | _, _, .agg cs vs h h1 => .agg cs vs (RelL.mono L h) h1
  | _, _, .tuple cs vs h => .tuple cs vs (RelL.mono L h)
  | _, _, .ptr i o a hi ha => .ptr i o a (Nat.lt_of_lt_of_le hi L.n) fun hl => by
      obtain ⟨l, e1, e2, _⟩ := L.keep i hi hl
      rw [e1, e2]; exact ha l
  | _, _, .nilp => .nilp
  | _, _, .pp b o c e fr v hb hu hs h h1 ht => .pp b o c e fr v ((L.mem b (lt_of_heap hb) hu).2.trans hb) (L.mem b (lt_of_heap hb) hu).1 hs (RelL.mono L h) h1 ht
  | _, _, .sl i o n kc es ag a cap hi hn hk ha => .sl i o n kc es ag a cap (Nat.lt_of_lt_of_le hi L.n) hn hk fun hl hc => by
      obtain ⟨l, e1, e2, e3⟩ := L.keep i hi hl
      rw [e1, e2, e3]; exact ha l hc
  | _, _, .psl b o n cap c e fr vs full es hl hn hf hb hu he hs h h1 ht =>
      .psl b o n cap c e fr vs full es hl hn hf ((L.mem b (lt_of_heap hb) hu).2.trans hb) (L.mem b (lt_of_heap hb) hu).1 he hs (RelL.mono L h) h1 ht
  | _, _, .pslNone full => .pslNone full
  | _, _, .pslEmpty a cap full hf => .pslEmpty a cap full hf
  | _, _, .nils => .nils
  | _, _, .map i r hi hr => .map i r (Nat.lt_of_lt_of_le hi L.n) fun hl => by
      obtain ⟨l, e1, _⟩ := L.keep i hi hl
      rw [e1]; exact hr l
  | _, _, .pmap r es clock ks vs hb hu hk hv => .pmap r es clock ks vs ((L.mem r (lt_of_heap hb) hu).2.trans hb) (L.mem r (lt_of_heap hb) hu).1 (RelL.mono L hk) (RelL.mono L hv)
  | _, _, .nilm => .nilm
  | _, _, .fn f first caps fs cs hf hc => .fn f first caps fs cs (RelL.mono L hf) (RelL.mono L hc)
  | _, _, .nilf => .nilf
  | _, _, .iface t v x h => .iface t v x (Rel.mono L h)
  | _, _, .nili => .nili
theorem RelL.mono {G G' : Gh} {H H' : Hp} {w w' : World} (L : Le G H w G' H' w') : ∀ {vs : List Value} {xs : List V}, RelL G H w vs xs → RelL G' H' w' vs xs
  | _, _, .nil => .nil
  | _, _, .cons v x vs xs h hs => .cons v x vs xs (Rel.mono L h) (RelL.mono L hs)
end

/-- An object and the block that it stands for. -/
inductive ObjRel (G : Gh) (H : Hp) (w : World) (i : Nat) : Obj → Prop where
  | cells (es : Nat) (ag : Bool) (cs : List V) (c : Array Value) (e : TypeId) (fr : Nat × Nat) (hb : w.heap[G.ι i]? = some (.cells c e fr)) (hs : c.size = G.σ i)
      (hl : G.β i + cs.length ≤ c.size) (hf : ∀ k, k < c.size → ¬ (fr.1 ≤ k ∧ k < fr.2))
      (h : RelL G H w ((c.toList.drop (G.β i)).take cs.length) cs) (h1 : ∀ v ∈ cs, v.one = true) : ObjRel G H w i (.cells es ag cs)
  | map (ks vs : List V) (es : Array MapEntry) (clock : Nat) (hb : w.heap[G.ι i]? = some (.map es clock)) (hk : RelL G H w (es.toList.map (·.key)) ks)
      (hv : RelL G H w (es.toList.map (·.val)) vs) : ObjRel G H w i (.map ks vs)
  | iter (s : List UInt8) (pos : Nat) (sb : ByteArray) (hb : w.heap[G.ι i]? = some (.stringIter sb pos)) (h0 : G.β i = 0) (h : sb.data.toList = s) : ObjRel G H w i (.iter s pos)
  | dead : ObjRel G H w i .dead

structure HeapRel (G : Gh) (H : Hp) (w : World) : Prop where
  inj : ∀ i j, H.live i → H.live j → G.ι i = G.ι j → i = j
  obj : ∀ i o, H.get i = some o → ObjRel G H w i o
  nf : ∀ i, H.live i → ¬ G.F (G.ι i)
  fb : ∀ b, G.F b → b < w.heap.size

theorem ObjRel.lt {G : Gh} {H : Hp} {w : World} {i : Nat} {o : Obj} (h : ObjRel G H w i o) (ha : o.alive = true) : G.ι i < w.heap.size := by
  cases h with
  | cells _ _ _ _ _ _ hb => exact lt_of_heap hb
  | map _ _ _ _ hb => exact lt_of_heap hb
  | iter _ _ _ hb => exact lt_of_heap hb
  | dead => cases ha
theorem HeapRel.lt {G : Gh} {H : Hp} {w : World} (h : HeapRel G H w) {i : Nat} (hl : H.live i) : G.ι i < w.heap.size :=
  let ⟨o, ho, ha⟩ := hl
  (h.obj i o ho).lt ha
theorem not_own_empty (G : Gh) (b : Nat) (h : ¬ G.F b) : ¬ own G Hp.empty b := fun h' => h'.elim h fun ⟨_, hl, _⟩ => absurd hl.lt (Nat.not_lt_zero _)
theorem HeapRel.empty (G : Gh) (w : World) (h : ∀ b, G.F b → b < w.heap.size) : HeapRel G Hp.empty w :=
  ⟨fun _ _ h => absurd h.lt (Nat.not_lt_zero _), fun _ _ h => absurd (Hp.lt_of_get h) (Nat.not_lt_zero _), fun _ h => absurd h.lt (Nat.not_lt_zero _), h⟩
end Go.Am
